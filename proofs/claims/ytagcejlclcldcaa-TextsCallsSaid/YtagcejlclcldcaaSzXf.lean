/- Texts that are got: 'Get'. -/
import Derived.Test.YtagcejlclcldcaaSzXe
set_option linter.unusedVariables false
set_option linter.unusedSimpArgs false
set_option maxRecDepth 100000
namespace Go.Proofs.Ytagcejlclcldcaa.Sh
open Go Go.RowKit Go.Proofs.Ev
theorem base_Xf : type_of% (And.intro @ld3 (And.intro @ld4 (And.intro @ld9 (And.intro @ld22 (And.intro @ld30 (And.intro @ld48 (And.intro @ld50 (And.intro (fun a h => conv_int (a := a) (h := h) u3 u48) (And.intro (fun a h => conv_int (a := a) (h := h) u48 u3) (And.intro (fun ox oy a b => bin_eql_bool (ox := ox) (oy := oy) (a := a) (b := b) u4) (And.intro @Nat.add_zero (And.intro @ex2_0 (@ex2_1))))))))))))) := And.intro @ld3 (And.intro @ld4 (And.intro @ld9 (And.intro @ld22 (And.intro @ld30 (And.intro @ld48 (And.intro @ld50 (And.intro (fun a h => conv_int (a := a) (h := h) u3 u48) (And.intro (fun a h => conv_int (a := a) (h := h) u48 u3) (And.intro (fun ox oy a b => bin_eql_bool (ox := ox) (oy := oy) (a := a) (b := b) u4) (And.intro @Nat.add_zero (And.intro @ex2_0 (@ex2_1))))))))))))
/-- What a form's texts are. -/
def formT (form n : Nat) (r1 : List Nat) : Option (List ByteArray) := if form = 1 then (readT n r1).map (·.1) else if form = 2 then wordsT n r1 else none
def putF (form : Nat) (l : List ByteArray) : List Nat := if form = 1 then plainG l else dictG l
def getT (b : List Nat) : Option (List ByteArray) := match b with
  | [] => none
  | form :: r => match dec 0 0 r with
    | none => none
    | some (n, r1) => if n > 4096 then none else match formT form n r1 with
      | none => none
      | some l => if putF form l = b then some l else none
theorem plainG_256 (l : List ByteArray) : ∀ x ∈ plainG l, x < 256 := fun x hx => by
  unfold plainG at hx
  split at hx
  · unfold plainT at hx
    rcases List.mem_cons.1 hx with rfl | hx
    · omega
    · rcases List.mem_append.1 hx with hx | hx
      · exact pvarN_256 _ x hx
      · obtain ⟨s, _, hs⟩ := List.mem_flatMap.1 hx
        unfold textP at hs
        rcases List.mem_append.1 hs with hs | hs
        · exact pvarN_256 _ x hs
        · exact bytesN_lt s x hs
  · cases hx
theorem dictG_256 (l : List ByteArray) : ∀ x ∈ dictG l, x < 256 := fun x hx => by
  unfold dictG at hx
  split at hx
  · rename_i hm
    have hlen := (mayT_spec.1 hm).1
    unfold dictT at hx
    simp only [List.mem_append, List.mem_singleton] at hx
    rcases hx with ((((hx | hx) | hx) | hx) | hx) | hx
    · omega
    · exact pvarN_256 _ x hx
    · exact pvarN_256 _ x hx
    · obtain ⟨s, _, hs⟩ := List.mem_flatMap.1 hx
      unfold textP at hs
      rcases List.mem_append.1 hs with hs | hs
      · exact pvarN_256 _ x hs
      · exact bytesN_lt s x hs
    · have := Pk.width64 (l := atW l) fun y hy => by have := atW_lt y hy; omega
      unfold widW at hx
      omega
    · exact (putN_spec _ _).2.2 x hx
  · cases hx
section
variable {n0 : Nat} {h0 h : AH} {L : List (Nat × AO)} {O : List OS}
/-- What 'Get' answers. -/
def GetQ (h : AH) (b : List Nat) (r : Value × AH) : Prop :=
  (∃ l o, getT b = some l ∧ r.1 = .tuple #[o, .int .i64 0] ∧ l.length ≤ 4096 ∧ ∃ L, Stt Try.prog h.n h r.2 L [(o, 1, srows l)]) ∨
  (getT b = none ∧ r.1 = .tuple #[.slice none 0 0, .int .i64 4] ∧ Grow h r.2)
theorem f18c {k : Nat} {h : AH} {v : Value} {b : List Nat} (B : Bytes h v b) (hb : ∀ x ∈ b, x < 256) (hl : b.length ≤ 2 ^ 30) (hk : b.length < k) (hk2 : 4096 < k) : Tl (eInv env (k + 900) (.func 18) #[] #[v] h) fun r => GetQ h b r := by
  rw [F18_call]
  unfold F18
  refine Tl.bind (f35c (k := k + 897) (Stt.init h) B hl) ?_
  rintro ⟨rr, h1⟩ ⟨br, rv, L1, er, S1, R1, g1⟩
  simp only at er S1
  subst er
  rw [List.nil_append] at S1 R1
  cases b with
  | nil =>
    refine Tl.bind (f36n (k := k + 876) S1 rfl R1 (n := 1) (by omega) (by omega) (by simp)) ?_
    rintro ⟨rr, h2⟩ ⟨er, g2⟩
    simp only at er g2
    subst er
    repeat (first | (with_reducible apply Tl.val; focus (simp (disch := omega) only [coreA, Int.reduceBEq, base_Xf] <;> with_reducible rfl)) | (with_reducible first | refine Tl.brT ?_ | refine Tl.brF ?_ | refine Tl.gd_on ?_ | refine Tl.gd3_on ?_) | ((with_reducible first | apply Tl.brC | apply Tl.gdC | apply Tl.gd3C); focus (simp (disch := omega) only [coreA, Int.reduceBEq, base_Xf] <;> with_reducible rfl)))
    exact ⟨_, rfl, .inr ⟨rfl, rfl, S1.grow.trans g2⟩⟩
  | cons form r =>
  refine Tl.bind (f36c (k := k + 876) S1 rfl R1 (n := 1) (by omega) (by omega) (by simp) hl hb) ?_
  rintro ⟨rr, h2⟩ ⟨rv2, er, S2, R2⟩
  simp only at er S2
  subst er
  have ew : ofB ((form :: r).take 1) = form := by simp [ofB]
  rw [ew]
  have R2 : RV (Rb br rv2 :: L1) 0 rv2 r := R2
  have S2 : Stt Try.prog h.n h h2 (Rb br rv2 :: L1) [] := S2
  have hbr : ∀ x ∈ r, x < 256 := fun x hx => hb x (List.mem_cons_of_mem _ hx)
  have hf := hb form (List.mem_cons_self ..)
  have hlr : r.length + 1 ≤ 2 ^ 30 ∧ r.length + 1 < k := by simp at hl hk; omega
  repeat (first | (with_reducible apply Tl.val; focus (simp (disch := omega) only [coreA, Int.reduceBEq, base_Xf] <;> with_reducible rfl)) | (with_reducible first | refine Tl.brT ?_ | refine Tl.brF ?_ | refine Tl.gd_on ?_ | refine Tl.gd3_on ?_) | ((with_reducible first | apply Tl.brC | apply Tl.gdC | apply Tl.gd3C); focus (simp (disch := omega) only [coreA, Int.reduceBEq, base_Xf] <;> with_reducible rfl)))
  simp only [G18_6]
  refine Tl.bind (f37c (k := k + 893) S2 rfl R2 (by omega) hbr (by omega)) ?_
  rintro rx (⟨n, r1, rv3, hd, er, S3, R3⟩ | ⟨hd, e, he, er⟩)
  case inr =>
    cases er
    have fin : getT (form :: r) = none := by unfold getT; simp only [hd]
    repeat (first | (with_reducible apply Tl.val; focus (simp (disch := omega) only [coreA, Int.reduceBEq, base_Xf] <;> with_reducible rfl)) | (with_reducible first | refine Tl.brT ?_ | refine Tl.brF ?_ | refine Tl.gd_on ?_ | refine Tl.gd3_on ?_) | ((with_reducible first | apply Tl.brC | apply Tl.gdC | apply Tl.gd3C); focus (simp (disch := omega) only [coreA, Int.reduceBEq, base_Xf] <;> with_reducible rfl)))
    exact ⟨_, rfl, .inr ⟨fin, rfl, S2.grow⟩⟩
  obtain ⟨rr, h3⟩ := rx
  simp only at er S3
  subst er
  have S3 : Stt Try.prog h.n h h3 (Rb br rv3 :: L1) [] := S3
  have R3 : RV (Rb br rv3 :: L1) 0 rv3 r1 := R3
  obtain ⟨d1, d2⟩ := decT_len r hd
  by_cases q1 : n > 4096
  · have fin : getT (form :: r) = none := by unfold getT; simp only [hd]; rw [if_pos q1]
    repeat (first | (with_reducible apply Tl.val; focus (simp (disch := omega) only [coreA, Int.reduceBEq, base_Xf] <;> with_reducible rfl)) | (with_reducible first | refine Tl.brT ?_ | refine Tl.brF ?_ | refine Tl.gd_on ?_ | refine Tl.gd3_on ?_) | ((with_reducible first | apply Tl.brC | apply Tl.gdC | apply Tl.gd3C); focus (simp (disch := omega) only [coreA, Int.reduceBEq, base_Xf] <;> with_reducible rfl)))
    exact ⟨_, rfl, .inr ⟨fin, rfl, S3.grow⟩⟩
  have hget : getT (form :: r) = match formT form n r1 with
      | none => none
      | some l => if putF form l = form :: r then some l else none := by unfold getT; simp only [hd]; rw [if_neg q1]
  have hb1 : ∀ x ∈ r1, x < 256 := fun x hx => hbr x (d2 x hx)
  repeat (first | (with_reducible apply Tl.val; focus (simp (disch := omega) only [coreA, Int.reduceBEq, base_Xf] <;> with_reducible rfl)) | (with_reducible first | refine Tl.brT ?_ | refine Tl.brF ?_ | refine Tl.gd_on ?_ | refine Tl.gd3_on ?_) | ((with_reducible first | apply Tl.brC | apply Tl.gdC | apply Tl.gd3C); focus (simp (disch := omega) only [coreA, Int.reduceBEq, base_Xf] <;> with_reducible rfl)))
  unfold F18_rlrrrrrrrr
  by_cases f1 : form = 1
  · subst f1
    repeat (first | (with_reducible apply Tl.val; focus (simp (disch := omega) only [coreA, Int.reduceBEq, base_Xf] <;> with_reducible rfl)) | (with_reducible first | refine Tl.brT ?_ | refine Tl.brF ?_ | refine Tl.gd_on ?_ | refine Tl.gd3_on ?_) | ((with_reducible first | apply Tl.brC | apply Tl.gdC | apply Tl.gd3C); focus (simp (disch := omega) only [coreA, Int.reduceBEq, base_Xf] <;> with_reducible rfl)))
    refine Tl.bind (f38c (k := k + 892) S3 rfl R3 (n := n) (by omega) (by omega) (by omega) (by omega) hb1) ?_
    rintro ⟨rr, h4⟩ ⟨ov, ok, l, rv4, r4, er, S4, R4, hll, hr, _, _⟩
    simp only at er S4
    subst er
    repeat (first | (with_reducible apply Tl.val; focus (simp (disch := omega) only [coreA, Int.reduceBEq, base_Xf] <;> with_reducible rfl)) | (with_reducible first | refine Tl.brT ?_ | refine Tl.brF ?_ | refine Tl.gd_on ?_ | refine Tl.gd3_on ?_) | ((with_reducible first | apply Tl.brC | apply Tl.gdC | apply Tl.gd3C); focus (simp (disch := omega) only [coreA, Int.reduceBEq, base_Xf] <;> with_reducible rfl)))
    refine Tl.bind (f15c (k := k + 877) (Stt.strs S4 0 rfl) (by omega) (by omega)) ?_
    rintro ⟨rr, h5⟩ ⟨av, er, S5⟩
    simp only at er S5
    subst er
    have S5 := S4.join S5
    have eq := f40c (k := k + 898) (S5.sl1 (f := u8v) 0 rfl) (B.grow S5.grow) (plainG_256 l) hb
    unfold formT putF at hget
    simp only [if_true] at hget
    rcases hr with ⟨hr, rfl⟩ | ⟨hr, rfl⟩
    · rw [hr] at hget
      simp only [Option.map_some] at hget
      by_cases q : plainG l = 1 :: r
      · rw [decide_eq_true q] at eq
        rw [if_pos q] at hget
        repeat (first | (with_reducible apply Tl.val; focus (simp (disch := omega) only [coreA, Int.reduceBEq, base_Xf, eq] <;> with_reducible rfl)) | (with_reducible first | refine Tl.brT ?_ | refine Tl.brF ?_ | refine Tl.gd_on ?_ | refine Tl.gd3_on ?_) | ((with_reducible first | apply Tl.brC | apply Tl.gdC | apply Tl.gd3C); focus (simp (disch := omega) only [coreA, Int.reduceBEq, base_Xf, eq] <;> with_reducible rfl)))
        exact ⟨_, rfl, .inl ⟨l, ov, hget, rfl, hll, _, S5.dropO⟩⟩
      · rw [decide_eq_false q] at eq
        rw [if_neg q] at hget
        repeat (first | (with_reducible apply Tl.val; focus (simp (disch := omega) only [coreA, Int.reduceBEq, base_Xf, eq] <;> with_reducible rfl)) | (with_reducible first | refine Tl.brT ?_ | refine Tl.brF ?_ | refine Tl.gd_on ?_ | refine Tl.gd3_on ?_) | ((with_reducible first | apply Tl.brC | apply Tl.gdC | apply Tl.gd3C); focus (simp (disch := omega) only [coreA, Int.reduceBEq, base_Xf, eq] <;> with_reducible rfl)))
        exact ⟨_, rfl, .inr ⟨hget, rfl, S5.grow⟩⟩
    · rw [hr] at hget
      repeat (first | (with_reducible apply Tl.val; focus (simp (disch := omega) only [coreA, Int.reduceBEq, base_Xf] <;> with_reducible rfl)) | (with_reducible first | refine Tl.brT ?_ | refine Tl.brF ?_ | refine Tl.gd_on ?_ | refine Tl.gd3_on ?_) | ((with_reducible first | apply Tl.brC | apply Tl.gdC | apply Tl.gd3C); focus (simp (disch := omega) only [coreA, Int.reduceBEq, base_Xf] <;> with_reducible rfl)))
      exact ⟨_, rfl, .inr ⟨hget, rfl, S5.grow⟩⟩
  by_cases f2 : form = 2
  · subst f2
    repeat (first | (with_reducible apply Tl.val; focus (simp (disch := omega) only [coreA, Int.reduceBEq, base_Xf] <;> with_reducible rfl)) | (with_reducible first | refine Tl.brT ?_ | refine Tl.brF ?_ | refine Tl.gd_on ?_ | refine Tl.gd3_on ?_) | ((with_reducible first | apply Tl.brC | apply Tl.gdC | apply Tl.gd3C); focus (simp (disch := omega) only [coreA, Int.reduceBEq, base_Xf] <;> with_reducible rfl)))
    refine Tl.bind (f39c (k := k + 799) S3 rfl R3 (n := n) (by omega) (by omega) (by omega) (by omega) hb1) ?_
    rintro ⟨rr, h4⟩ ⟨ov, ok, l, L4, er, S4, hll, hr⟩
    simp only at er S4
    subst er
    repeat (first | (with_reducible apply Tl.val; focus (simp (disch := omega) only [coreA, Int.reduceBEq, base_Xf] <;> with_reducible rfl)) | (with_reducible first | refine Tl.brT ?_ | refine Tl.brF ?_ | refine Tl.gd_on ?_ | refine Tl.gd3_on ?_) | ((with_reducible first | apply Tl.brC | apply Tl.gdC | apply Tl.gd3C); focus (simp (disch := omega) only [coreA, Int.reduceBEq, base_Xf] <;> with_reducible rfl)))
    refine Tl.bind (f17c (k := k + 499) (Stt.strs S4 0 rfl) (by omega) (by omega)) ?_
    rintro ⟨rr, h5⟩ ⟨av, er, S5⟩
    simp only at er S5
    subst er
    have S5 := S4.join S5
    have eq := f40c (k := k + 898) (S5.sl1 (f := u8v) 0 rfl) (B.grow S5.grow) (dictG_256 l) hb
    unfold formT putF at hget
    simp only [if_neg f1, if_true] at hget
    rcases hr with ⟨hr, rfl⟩ | ⟨hr, rfl⟩
    · rw [hr] at hget
      simp only at hget
      by_cases q : dictG l = 2 :: r
      · rw [decide_eq_true q] at eq
        rw [if_pos q] at hget
        repeat (first | (with_reducible apply Tl.val; focus (simp (disch := omega) only [coreA, Int.reduceBEq, base_Xf, eq] <;> with_reducible rfl)) | (with_reducible first | refine Tl.brT ?_ | refine Tl.brF ?_ | refine Tl.gd_on ?_ | refine Tl.gd3_on ?_) | ((with_reducible first | apply Tl.brC | apply Tl.gdC | apply Tl.gd3C); focus (simp (disch := omega) only [coreA, Int.reduceBEq, base_Xf, eq] <;> with_reducible rfl)))
        exact ⟨_, rfl, .inl ⟨l, ov, hget, rfl, hll, _, S5.dropO⟩⟩
      · rw [decide_eq_false q] at eq
        rw [if_neg q] at hget
        repeat (first | (with_reducible apply Tl.val; focus (simp (disch := omega) only [coreA, Int.reduceBEq, base_Xf, eq] <;> with_reducible rfl)) | (with_reducible first | refine Tl.brT ?_ | refine Tl.brF ?_ | refine Tl.gd_on ?_ | refine Tl.gd3_on ?_) | ((with_reducible first | apply Tl.brC | apply Tl.gdC | apply Tl.gd3C); focus (simp (disch := omega) only [coreA, Int.reduceBEq, base_Xf, eq] <;> with_reducible rfl)))
        exact ⟨_, rfl, .inr ⟨hget, rfl, S5.grow⟩⟩
    · rw [hr] at hget
      repeat (first | (with_reducible apply Tl.val; focus (simp (disch := omega) only [coreA, Int.reduceBEq, base_Xf] <;> with_reducible rfl)) | (with_reducible first | refine Tl.brT ?_ | refine Tl.brF ?_ | refine Tl.gd_on ?_ | refine Tl.gd3_on ?_) | ((with_reducible first | apply Tl.brC | apply Tl.gdC | apply Tl.gd3C); focus (simp (disch := omega) only [coreA, Int.reduceBEq, base_Xf] <;> with_reducible rfl)))
      exact ⟨_, rfl, .inr ⟨hget, rfl, S5.grow⟩⟩
  · have fin : getT (form :: r) = none := by
      rw [hget]
      unfold formT
      rw [if_neg f1, if_neg f2]
    repeat (first | (with_reducible apply Tl.val; focus (simp (disch := omega) only [coreA, Int.reduceBEq, base_Xf] <;> with_reducible rfl)) | (with_reducible first | refine Tl.brT ?_ | refine Tl.brF ?_ | refine Tl.gd_on ?_ | refine Tl.gd3_on ?_) | ((with_reducible first | apply Tl.brC | apply Tl.gdC | apply Tl.gd3C); focus (simp (disch := omega) only [coreA, Int.reduceBEq, base_Xf] <;> with_reducible rfl)))
    exact ⟨_, rfl, .inr ⟨fin, rfl, S3.grow⟩⟩
/-! ### 'Put' -/
def putT (l : List ByteArray) : List Nat := if mayT l then (if (dictT l).length < (plainT l).length then dictT l else plainT l) else []
theorem f16c {k : Nat} {h : AH} {v : Value} {l : List ByteArray} (A : Strs h v l) (hl : l.length ≤ 9223372036854775807) (hk : 4096 < k) :
    Tl (eInv env (k + 401) (.func 16) #[] #[v] h) fun r => ∃ v', r.1 = .tuple #[v', .int .i64 (checkT l)] ∧ Stt Try.prog h.n h r.2 [] [(v', 1, u8rows (putT l))] := by
  rw [F16_call]
  unfold F16
  refine Tl.bind (f15c (k := k + 378) A hl (by omega)) ?_
  rintro ⟨rr, h1⟩ ⟨pv, er, S1⟩
  simp only at er S1
  subst er
  unfold checkT plainG putT at *
  cases q : mayT l
  · rw [q] at S1
    simp only [Bool.false_eq_true, if_false] at S1 ⊢
    repeat (first | (with_reducible apply Tl.val; focus (simp (disch := omega) only [coreA, Int.reduceBEq, base_Xf] <;> with_reducible rfl)) | (with_reducible first | refine Tl.brT ?_ | refine Tl.brF ?_ | refine Tl.gd_on ?_ | refine Tl.gd3_on ?_) | ((with_reducible first | apply Tl.brC | apply Tl.gdC | apply Tl.gd3C); focus (simp (disch := omega) only [coreA, Int.reduceBEq, base_Xf] <;> with_reducible rfl)))
    exact ⟨_, rfl, _, rfl, S1.dropO.nil 1⟩
  rw [q] at S1
  simp only [if_true] at S1 ⊢
  repeat (first | (with_reducible apply Tl.val; focus (simp (disch := omega) only [coreA, Int.reduceBEq, base_Xf] <;> with_reducible rfl)) | (with_reducible first | refine Tl.brT ?_ | refine Tl.brF ?_ | refine Tl.gd_on ?_ | refine Tl.gd3_on ?_) | ((with_reducible first | apply Tl.brC | apply Tl.gdC | apply Tl.gd3C); focus (simp (disch := omega) only [coreA, Int.reduceBEq, base_Xf] <;> with_reducible rfl)))
  refine Tl.bind (f17c (k := k) (A.grow S1.grow) hl hk) ?_
  rintro ⟨rr, h2⟩ ⟨dv, er, S2⟩
  simp only at er S2
  subst er
  have S2 := S1.join S2
  unfold checkT dictG at *
  rw [q] at S2 ⊢
  simp only [if_true] at S2 ⊢
  have lp : ∀ h', pLen Try.prog #[30] pv h' = some (.int .i64 (plainT l).length) := fun h' => Bytes.len (S2.sl1 (f := u8v) 1 rfl)
  have ld : ∀ h', pLen Try.prog #[30] dv h' = some (.int .i64 (dictT l).length) := fun h' => Bytes.len (S2.sl1 (f := u8v) 0 rfl)
  simp only [G16_5]
  by_cases q2 : (dictT l).length < (plainT l).length
  · rw [if_pos q2]
    repeat (first | (with_reducible apply Tl.val; focus (simp (disch := omega) only [coreA, Int.reduceBEq, base_Xf, lp, ld] <;> with_reducible rfl)) | (with_reducible first | refine Tl.brT ?_ | refine Tl.brF ?_ | refine Tl.gd_on ?_ | refine Tl.gd3_on ?_) | ((with_reducible first | apply Tl.brC | apply Tl.gdC | apply Tl.gd3C); focus (simp (disch := omega) only [coreA, Int.reduceBEq, base_Xf, lp, ld] <;> with_reducible rfl)))
    exact ⟨_, rfl, _, rfl, S2.keepO (.cons_cons _ (.cons _ .slnil))⟩
  · rw [if_neg q2]
    repeat (first | (with_reducible apply Tl.val; focus (simp (disch := omega) only [coreA, Int.reduceBEq, base_Xf, lp, ld] <;> with_reducible rfl)) | (with_reducible first | refine Tl.brT ?_ | refine Tl.brF ?_ | refine Tl.gd_on ?_ | refine Tl.gd3_on ?_) | ((with_reducible first | apply Tl.brC | apply Tl.gdC | apply Tl.gd3C); focus (simp (disch := omega) only [coreA, Int.reduceBEq, base_Xf, lp, ld] <;> with_reducible rfl)))
    exact ⟨_, rfl, _, rfl, S2.keepO (.cons _ (.cons_cons _ .slnil))⟩
end
end Go.Proofs.Ytagcejlclcldcaa.Sh
