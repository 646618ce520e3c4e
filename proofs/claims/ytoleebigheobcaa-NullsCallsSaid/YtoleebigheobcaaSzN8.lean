/- What 'Get' of the nulls' package comes to: the whole. -/
import Derived.Test.YtoleebigheobcaaSzN7
set_option linter.unusedVariables false
set_option linter.unusedSimpArgs false
set_option maxRecDepth 100000
namespace Go.Proofs.Ytoleebigheobcaa.Sh
open Go Go.RowKit Go.Proofs.Ev
theorem base_N8 : type_of% (And.intro @ld3 (And.intro @ld4 (And.intro @ld5 (And.intro @ld22 (And.intro @ld25 (And.intro @ld32 (And.intro @ld49 (And.intro @ld52 (And.intro (fun a h => conv_int (a := a) (h := h) u3 u49) (And.intro (fun a h => conv_int (a := a) (h := h) u49 u3) (And.intro (fun a h => conv_int (a := a) (h := h) u3 u68) (And.intro (fun a h => conv_int (a := a) (h := h) u68 u3) (And.intro (fun ox oy a b => bin_eql_bool (ox := ox) (oy := oy) (a := a) (b := b) u4) (And.intro (fun ox oy a b => bin_neq_bool (ox := ox) (oy := oy) (a := a) (b := b) u4) (And.intro @ex2_0 (And.intro @ex2_1 (And.intro @ex3_0 (And.intro @ex3_1 (@ex3_2))))))))))))))))))) := And.intro @ld3 (And.intro @ld4 (And.intro @ld5 (And.intro @ld22 (And.intro @ld25 (And.intro @ld32 (And.intro @ld49 (And.intro @ld52 (And.intro (fun a h => conv_int (a := a) (h := h) u3 u49) (And.intro (fun a h => conv_int (a := a) (h := h) u49 u3) (And.intro (fun a h => conv_int (a := a) (h := h) u3 u68) (And.intro (fun a h => conv_int (a := a) (h := h) u68 u3) (And.intro (fun ox oy a b => bin_eql_bool (ox := ox) (oy := oy) (a := a) (b := b) u4) (And.intro (fun ox oy a b => bin_neq_bool (ox := ox) (oy := oy) (a := a) (b := b) u4) (And.intro @ex2_0 (And.intro @ex2_1 (And.intro @ex3_0 (And.intro @ex3_1 (@ex3_2))))))))))))))))))
def szV (n : Nat) : Nat := Pk.sizeN n 1
/-- Flags of a form, and what is left. -/
def mid (n form : Nat) (r2 : List Nat) : Option (List Bool × List Nat) :=
  if form = 2 then (if r2.length < szV n then none else if Pk.checkE (r2.take (szV n)) (n : Int) 1 ≠ 0 then none else some ((Pk.getN (r2.take (szV n)) (n : Int) 1).map (· == 1), r2.drop (szV n)))
  else some (List.replicate n (form == 1), r2)
def getV (b : List Nat) : Option (List Bool × Nat) := match dec 0 0 b with
  | none => none
  | some (n, r1) => if n > 4096 then none else match r1 with
    | [] => none
    | form :: r2 => if form > 2 then none else match mid n form r2 with
      | none => none
      | some (l, rest) => if putV l = b.take (b.length - rest.length) then some (l, b.length - rest.length) else none
theorem f15_loop {β : Type} {k : Nat} {Q : β → Prop} {n0 : Nat} {h0 : AH} {L : List (Nat × AO)} {x0 x5 lv gv : Value} {g : List Nat} {P1 : OS} {m : Nat} (hm : m ≤ 4096) (hg : g.length = m)
    {ke0 : Value → Value → Value → Value → Value → Value → Value → AH → Option β} (n : Nat) :
    ∀ {i j : Nat} {h : AH} {done : List Bool}, i + n = m → n < j → done.length = m → done.take i = (g.take i).map (· == 1) → Stt Try.prog n0 h0 h L [(gv, 1, u64rows g), P1, (lv, 1, brows done)] →
      (∀ h' y y', Stt Try.prog n0 h0 h' L [(gv, 1, u64rows g), P1, (lv, 1, brows (g.map (· == 1)))] → Tl (ke0 x0 lv x5 gv (.int .i64 m) y y' h') Q) →
      Tl (F15_lrrrrrlrlrrrrrrr (eInv env k) k j x0 lv x5 gv (.int .i64 m) (.int .i64 i) h ke0) Q := by
  induction n with
  | zero =>
    intro i j h done hi hj hd ht S hk
    obtain ⟨j, rfl⟩ : ∃ q, j = q + 1 := ⟨j - 1, by omega⟩
    simp only [F15_lrrrrrlrlrrrrrrr]
    repeat (first | (with_reducible apply Tl.val; focus (simp (disch := omega) only [coreA, Int.reduceBEq, base_N8] <;> with_reducible rfl)) | (with_reducible first | refine Tl.brT ?_ | refine Tl.brF ?_ | refine Tl.gd_on ?_ | refine Tl.gd3_on ?_) | ((with_reducible first | apply Tl.brC | apply Tl.gdC | apply Tl.gd3C); focus (simp (disch := omega) only [coreA, Int.reduceBEq, base_N8] <;> with_reducible rfl)))
    rw [List.take_of_length_le (by omega), List.take_of_length_le (by omega)] at ht
    subst ht
    exact hk _ _ _ S
  | succ n ih =>
    intro i j h done hi hj hd ht S hk
    obtain ⟨j, rfl⟩ : ∃ q, j = q + 1 := ⟨j - 1, by omega⟩
    obtain ⟨x, hx⟩ : ∃ x, g[i]? = some x := ⟨_, List.getElem?_eq_getElem (by omega)⟩
    obtain ⟨b, o, hp, hc1⟩ := Sl1.at_ (S.sl1 (f := u64v) 0 rfl) (t := 52) (k := .i64) hx u52 sz49
    have hc1 := hc1 h (Grow.refl _)
    obtain ⟨bm, em, hmm⟩ := S.idx (t := 22) 2 rfl (kd := .i64) (j := i) (by rw [brows_len]; omega) u22 sz4
    have e : (i : Int) + 1 = ((i + 1 : Nat) : Int) := by omega
    have eb : ((x : Int) == 1) = (x == 1) := by
      by_cases q : x = 1
      · subst q; rfl
      · have h1 : (x == 1) = false := by simpa using q
        have h2 : ((x : Int) == 1) = false := by simp; omega
        rw [h1, h2]
    simp only [F15_lrrrrrlrlrrrrrrr]
    repeat (first | (with_reducible apply Tl.val; focus (simp (disch := omega) only [coreA, Int.reduceBEq, base_N8, hp, hc1, u64v, hmm, eb] <;> with_reducible rfl)) | (with_reducible first | refine Tl.brT ?_ | refine Tl.brF ?_ | refine Tl.gd_on ?_ | refine Tl.gd3_on ?_) | ((with_reducible first | apply Tl.brC | apply Tl.gdC | apply Tl.gd3C); focus (simp (disch := omega) only [coreA, Int.reduceBEq, base_N8, hp, hc1, u64v, hmm, eb] <;> with_reducible rfl)))
    refine Tl.setAt S 2 rfl em (by rw [brows_len]; omega) rfl sz4 rfl fun h' S' => ?_
    repeat (first | (with_reducible apply Tl.val; focus (simp (disch := omega) only [coreA, Int.reduceBEq, base_N8] <;> with_reducible rfl)) | (with_reducible first | refine Tl.brT ?_ | refine Tl.brF ?_ | refine Tl.gd_on ?_ | refine Tl.gd3_on ?_) | ((with_reducible first | apply Tl.brC | apply Tl.gdC | apply Tl.gd3C); focus (simp (disch := omega) only [coreA, Int.reduceBEq, base_N8] <;> with_reducible rfl)))
    rw [e]
    refine ih (done := done.set i (x == 1)) (by omega) (by omega) (by simp [hd]) ?_ (by simpa [brows, bv, List.map_set, Value.cells] using S') hk
    have hti : g.take (i + 1) = g.take i ++ [x] := by rw [List.take_add_one, hx]; rfl
    rw [hti, List.map_append, ← ht]
    refine List.ext_getElem? fun q => ?_
    rw [List.getElem?_take, List.getElem?_set]
    by_cases q1 : q < i
    · rw [if_pos (by omega), if_neg (by omega), List.getElem?_append_left (by simp; omega), List.getElem?_take, if_pos q1]
    · by_cases q2 : q = i
      · subst q2
        rw [if_pos (by omega), if_pos rfl, if_pos (by omega), List.getElem?_append_right (by simp; omega)]
        simp [show min q done.length = q by omega]
      · rw [if_neg (by omega), List.getElem?_eq_none (by simp; omega)]
theorem f15_mid {β : Type} {k : Nat} {Q : β → Prop} {h0 h : AH} {L : List (Nat × AO)} {br : Nat} {rv lv x0 : Value} {r2 : List Nat} {n form : Nat} (S : Stt Try.prog h0.n h0 h (Rb br rv :: L) [(lv, 1, brows (List.replicate n (form == 1)))])
    (R : RV (Rb br rv :: L) 0 rv r2) (hn : n ≤ 4096) (hform : form ≤ 2) (hl : r2.length ≤ 2 ^ 30) (hb : ∀ x ∈ r2, x < 256) (hk : 5000 < k)
    {kn : Value → Value → Value → Value → Value → Value → Value → Value → Value → AH → Option β} {kr : Value → Value → Value → AH → Option β}
    (hkn : ∀ l rest' rv' h' O' (i : Nat) y6 y10 y45 y66 y67 y68, Stt Try.prog h0.n h0 h' (Rb br rv' :: L) O' → O'[i]? = some (lv, 1, brows l) → RV (Rb br rv' :: L) 0 rv' rest' → mid n form r2 = some (l, rest') → l.length = n → Tl (kn x0 lv (ptr br) y6 y10 y45 y66 y67 y68 h') Q)
    (hkr : mid n form r2 = none → ∀ h', Grow h0 h' → Tl (kr (.slice none 0 0) (.int .i64 0) (.int .i64 4) h') Q) :
    Tl (F15_rlrrrrrrr (eInv env (k + 100)) (k + 100) x0 lv (ptr br) (.int .u64 (n : Int)) (.bool ((form : Int) == 2)) h kn kr) Q := by
  unfold F15_rlrrrrrrr
  unfold mid at hkn hkr
  by_cases q2 : form = 2
  · simp only [if_pos q2] at hkn hkr
    have hsz : Pk.sizeE (n : Int) 1 = (szV n : Int) := by
      unfold Pk.sizeE
      have hmb : Pk.mayB (n : Int) 1 = true := Pk.mayB_mk (N := n) (W := 1) (by omega) (by omega)
      rw [if_pos hmb]
      rfl
    have hszl : szV n ≤ 520 := by unfold szV Pk.sizeN; omega
    have sz := f34c (k := k + 98) (n : Int) 1 h
    rw [hsz] at sz
    repeat (first | (with_reducible apply Tl.val; focus (simp (disch := omega) only [coreA, Int.reduceBEq, base_N8, sz] <;> with_reducible rfl)) | (with_reducible first | refine Tl.brT ?_ | refine Tl.brF ?_ | refine Tl.gd_on ?_ | refine Tl.gd3_on ?_) | ((with_reducible first | apply Tl.brC | apply Tl.gdC | apply Tl.gd3C); focus (simp (disch := omega) only [coreA, Int.reduceBEq, base_N8, sz] <;> with_reducible rfl)))
    by_cases q3 : r2.length < szV n
    · rw [if_pos q3] at hkr
      refine Tl.bind (f33n (k := k + 97) S rfl R (n := (szV n : Int)) (.inl (by omega))) ?_
      rintro ⟨r, h1⟩ ⟨e, he, er⟩
      cases er
      repeat (first | (with_reducible apply Tl.val; focus (simp (disch := omega) only [coreA, Int.reduceBEq, base_N8] <;> with_reducible rfl)) | (with_reducible first | refine Tl.brT ?_ | refine Tl.brF ?_ | refine Tl.gd_on ?_ | refine Tl.gd3_on ?_) | ((with_reducible first | apply Tl.brC | apply Tl.gdC | apply Tl.gd3C); focus (simp (disch := omega) only [coreA, Int.reduceBEq, base_N8] <;> with_reducible rfl)))
      exact hkr rfl _ S.grow
    · simp only [if_neg q3] at hkn hkr
      refine Tl.bind (f33c (k := k + 97) S rfl R (n := szV n) (by omega) hl) ?_
      rintro ⟨r, h1⟩ ⟨pv, rv', er, S1, R1⟩
      simp only at er S1
      subst er
      have S1 : Stt Try.prog h0.n h0 h1 (Rb br rv' :: L) [(pv, 1, u8rows (r2.take (szV n))), (lv, 1, brows (List.replicate n (form == 1)))] := S1
      have R1 : RV (Rb br rv' :: L) 0 rv' (r2.drop (szV n)) := R1
      repeat (first | (with_reducible apply Tl.val; focus (simp (disch := omega) only [coreA, Int.reduceBEq, base_N8] <;> with_reducible rfl)) | (with_reducible first | refine Tl.brT ?_ | refine Tl.brF ?_ | refine Tl.gd_on ?_ | refine Tl.gd3_on ?_) | ((with_reducible first | apply Tl.brC | apply Tl.gdC | apply Tl.gd3C); focus (simp (disch := omega) only [coreA, Int.reduceBEq, base_N8] <;> with_reducible rfl)))
      refine Tl.bind (f35c (k := k + 10) (S1.sl1 (f := u8v) 0 rfl) (fun x hx => hb x (List.mem_of_mem_take hx)) (by simp; omega) (n : Int) 1 (fun _ => by simp; omega)) ?_
      rintro ⟨r, h2⟩ ⟨gv, er, g2, X⟩
      simp only at er g2 X
      subst er
      by_cases q4 : Pk.checkE (r2.take (szV n)) (n : Int) 1 = 0
      · simp only [if_neg (show ¬ Pk.checkE (r2.take (szV n)) (n : Int) 1 ≠ 0 from fun h => h q4)] at hkn
        have S2 := S1.gain g2 X
        have hgl : (Pk.getN (r2.take (szV n)) (n : Int) 1).length = n := by
          unfold Pk.getN
          rw [if_pos q4]
          simp [digs]
        have hlen : ∀ h', pLen Try.prog #[22] lv h' = some (.int .i64 n) := fun h' => by
          have := SlV.len (S2.slV 2 rfl) u22 (h' := h')
          rw [brows_len, List.length_replicate] at this
          exact this
        rw [q4]
        repeat (first | (with_reducible apply Tl.val; focus (simp (disch := omega) only [coreA, Int.reduceBEq, base_N8, hlen] <;> with_reducible rfl)) | (with_reducible first | refine Tl.brT ?_ | refine Tl.brF ?_ | refine Tl.gd_on ?_ | refine Tl.gd3_on ?_) | ((with_reducible first | apply Tl.brC | apply Tl.gdC | apply Tl.gd3C); focus (simp (disch := omega) only [coreA, Int.reduceBEq, base_N8, hlen] <;> with_reducible rfl)))
        refine f15_loop hn hgl n (i := 0) (by omega) (by omega) (by simp) (by simp) S2 fun h3 y y' S3 => ?_
        exact hkn _ _ rv' h3 _ 2 _ _ _ _ _ _ S3 rfl R1 rfl (by rw [List.length_map, hgl])
      · rw [if_pos q4] at hkr
        repeat (first | (with_reducible apply Tl.val; focus (simp (disch := omega) only [coreA, Int.reduceBEq, base_N8] <;> with_reducible rfl)) | (with_reducible first | refine Tl.brT ?_ | refine Tl.brF ?_ | refine Tl.gd_on ?_ | refine Tl.gd3_on ?_) | ((with_reducible first | apply Tl.brC | apply Tl.gdC | apply Tl.gd3C); focus (simp (disch := omega) only [coreA, Int.reduceBEq, base_N8] <;> with_reducible rfl)))
        exact hkr rfl _ (S1.grow.trans g2)
  · simp only [if_neg q2] at hkn
    repeat (first | (with_reducible apply Tl.val; focus (simp (disch := omega) only [coreA, Int.reduceBEq, base_N8] <;> with_reducible rfl)) | (with_reducible first | refine Tl.brT ?_ | refine Tl.brF ?_ | refine Tl.gd_on ?_ | refine Tl.gd3_on ?_) | ((with_reducible first | apply Tl.brC | apply Tl.gdC | apply Tl.gd3C); focus (simp (disch := omega) only [coreA, Int.reduceBEq, base_N8] <;> with_reducible rfl)))
    exact hkn _ _ rv h _ 0 _ _ _ _ _ _ S rfl R rfl (by simp)
theorem dec_len : ∀ (b : List Nat) {i acc v : Nat} {rest : List Nat}, dec i acc b = some (v, rest) → rest.length < b.length ∧ ∀ x ∈ rest, x ∈ b := by
  intro b
  induction b with
  | nil => intro i acc v rest h; simp [dec] at h
  | cons c b ih =>
    intro i acc v rest h
    unfold dec at h
    split at h
    · cases h
    · split at h
      · cases h
      · split at h
        · obtain ⟨h1, h2⟩ := ih h
          exact ⟨by simp; omega, fun x hx => by simp [h2 x hx]⟩
        · split at h
          · cases h
          · cases h
            exact ⟨by simp, fun x hx => by simp [hx]⟩
theorem mid_len {n form : Nat} {r2 rest : List Nat} {l : List Bool} (h : mid n form r2 = some (l, rest)) : rest.length ≤ r2.length := by
  unfold mid at h
  split at h
  · split at h
    · cases h
    · split at h
      · cases h
      · cases h; simp
  · cases h; simp
theorem f15c {k : Nat} {h : AH} {v : Value} {b : List Nat} (B : Bytes h v b) (hb : ∀ x ∈ b, x < 256) (hl : b.length ≤ 2 ^ 20) (hk : 6000 + b.length < k) :
    Tl (eInv env (k + 1000) (.func 15) #[] #[v] h) fun r => (∃ l n lv, getV b = some (l, n) ∧ l.length ≤ 4096 ∧ r.1 = .tuple #[lv, .int .i64 n, .int .i64 0] ∧ Grow h r.2 ∧ OwnB Try.prog h.n r.2 lv 1 (brows l)) ∨
      (getV b = none ∧ r.1 = .tuple #[.slice none 0 0, .int .i64 0, .int .i64 4] ∧ Grow h r.2) := by
  rw [F15_call]
  unfold F15
  refine Tl.bind (f29c (k := k + 997) (Stt.init h) B (by omega)) ?_
  rintro ⟨x15, h1⟩ ⟨br, rv, L', e1, S1, R1, g1⟩
  simp only at e1 S1 g1
  subst e1
  rw [List.nil_append] at S1 R1
  refine Tl.bind (f30c (k := k + 993) S1 rfl R1 (by omega) hb (by omega)) ?_
  rintro ⟨r, h2⟩ hr
  unfold getV
  rcases hr with ⟨n, r1, rv2, hd, er, S2, R2⟩ | ⟨hd, e, he, er⟩
  · simp only at er S2
    subst er
    have S2 : Stt Try.prog h.n h h2 (Rb br rv2 :: L') [] := S2
    have R2 : RV (Rb br rv2 :: L') 0 rv2 r1 := R2
    obtain ⟨dl1, dl2⟩ := dec_len b hd
    rw [hd]
    simp only
    by_cases qn : n > 4096
    · rw [if_pos qn]
      have : (n : Int) > 4096 := by omega
      repeat (first | (with_reducible apply Tl.val; focus (simp (disch := omega) only [coreA, Int.reduceBEq, base_N8] <;> with_reducible rfl)) | (with_reducible first | refine Tl.brT ?_ | refine Tl.brF ?_ | refine Tl.gd_on ?_ | refine Tl.gd3_on ?_) | ((with_reducible first | apply Tl.brC | apply Tl.gdC | apply Tl.gd3C); focus (simp (disch := omega) only [coreA, Int.reduceBEq, base_N8] <;> with_reducible rfl)))
      exact ⟨_, rfl, .inr ⟨rfl, rfl, S2.grow⟩⟩
    · rw [if_neg qn]
      repeat (first | (with_reducible apply Tl.val; focus (simp (disch := omega) only [coreA, Int.reduceBEq, base_N8] <;> with_reducible rfl)) | (with_reducible first | refine Tl.brT ?_ | refine Tl.brF ?_ | refine Tl.gd_on ?_ | refine Tl.gd3_on ?_) | ((with_reducible first | apply Tl.brC | apply Tl.gdC | apply Tl.gd3C); focus (simp (disch := omega) only [coreA, Int.reduceBEq, base_N8] <;> with_reducible rfl)))
      cases r1 with
      | nil =>
        refine Tl.bind (f31n (k := k + 976) S2 rfl R2 (n := 1) (by omega) (by omega) (by simp)) ?_
        rintro ⟨r, h3⟩ ⟨er, g3⟩
        simp only at er g3
        subst er
        repeat (first | (with_reducible apply Tl.val; focus (simp (disch := omega) only [coreA, Int.reduceBEq, base_N8] <;> with_reducible rfl)) | (with_reducible first | refine Tl.brT ?_ | refine Tl.brF ?_ | refine Tl.gd_on ?_ | refine Tl.gd3_on ?_) | ((with_reducible first | apply Tl.brC | apply Tl.gdC | apply Tl.gd3C); focus (simp (disch := omega) only [coreA, Int.reduceBEq, base_N8] <;> with_reducible rfl)))
        exact ⟨_, rfl, .inr ⟨rfl, rfl, S2.grow.trans g3⟩⟩
      | cons form r2 =>
        refine Tl.bind (f31c (k := k + 976) S2 rfl R2 (n := 1) (by omega) (by omega) (by simp) (by simp at dl1; simp; omega) (fun x hx => hb x (dl2 x hx))) ?_
        rintro ⟨r, h3⟩ ⟨rv3, er, S3, R3⟩
        simp only at er S3
        subst er
        have S3 : Stt Try.prog h.n h h3 (Rb br rv3 :: L') [] := S3
        have R3 : RV (Rb br rv3 :: L') 0 rv3 r2 := R3
        have ef : ofB ((form :: r2).take 1) = form := by simp [ofB]
        rw [ef]
        have hf256 := hb form (dl2 form (by simp))
        have dl3 : r2.length + 1 < b.length := by simpa using dl1
        simp only
        by_cases qf : form > 2
        · rw [if_pos qf]
          repeat (first | (with_reducible apply Tl.val; focus (simp (disch := omega) only [coreA, Int.reduceBEq, base_N8] <;> with_reducible rfl)) | (with_reducible first | refine Tl.brT ?_ | refine Tl.brF ?_ | refine Tl.gd_on ?_ | refine Tl.gd3_on ?_) | ((with_reducible first | apply Tl.brC | apply Tl.gdC | apply Tl.gd3C); focus (simp (disch := omega) only [coreA, Int.reduceBEq, base_N8] <;> with_reducible rfl)))
          exact ⟨_, rfl, .inr ⟨rfl, rfl, S3.grow⟩⟩
        · rw [if_neg qf]
          have eb : ((form : Int) == 1) = (form == 1) := by
            by_cases q : form = 1
            · subst q; rfl
            · have h1 : (form == 1) = false := by simpa using q
              have h2 : ((form : Int) == 1) = false := by simp; omega
              rw [h1, h2]
          repeat (first | (with_reducible apply Tl.val; focus (simp (disch := omega) only [coreA, Int.reduceBEq, base_N8, eb, bs22] <;> with_reducible rfl)) | (with_reducible first | refine Tl.brT ?_ | refine Tl.brF ?_ | refine Tl.gd_on ?_ | refine Tl.gd3_on ?_) | ((with_reducible first | apply Tl.brC | apply Tl.gdC | apply Tl.gd3C); focus (simp (disch := omega) only [coreA, Int.reduceBEq, base_N8, eb, bs22] <;> with_reducible rfl)))
          have S4 := S3.alloc (.cells [.bool (form == 1)] 4 true)
          refine Tl.callO S4.drop (f32c (k := k + 996) (x := form == 1) (n := n) (S4.lit 0 rfl rfl) (by omega) (by omega)) fun lv h5 S5 g5 => ?_
          repeat (first | (with_reducible apply Tl.val; focus (simp (disch := omega) only [coreA, Int.reduceBEq, base_N8] <;> with_reducible rfl)) | (with_reducible first | refine Tl.brT ?_ | refine Tl.brF ?_ | refine Tl.gd_on ?_ | refine Tl.gd3_on ?_) | ((with_reducible first | apply Tl.brC | apply Tl.gdC | apply Tl.gd3C); focus (simp (disch := omega) only [coreA, Int.reduceBEq, base_N8] <;> with_reducible rfl)))
          refine f15_mid (k := k + 899) S5 R3 (by omega) (by omega) (by omega) (fun x hx => hb x (dl2 x (by simp [hx]))) (by omega) ?_ ?_
          · intro l rest rv6 h6 O' i y6 y10 y45 y66 y67 y68 S6 hO R6 hm hln
            have hml := mid_len hm
            rw [hm]
            simp only
            have hv : ∀ h', pLen Try.prog #[32] v h' = some (.int .i64 b.length) := fun h' => B.len
            have left := f36c (k := k + 998) S6 rfl R6
            have es : (b.length : Int) - (rest.length : Int) = ((b.length - rest.length : Nat) : Int) := by omega
            repeat (first | (with_reducible apply Tl.val; focus (simp (disch := omega) only [coreA, Int.reduceBEq, base_N8, hv, left] <;> with_reducible rfl)) | (with_reducible first | refine Tl.brT ?_ | refine Tl.brF ?_ | refine Tl.gd_on ?_ | refine Tl.gd3_on ?_) | ((with_reducible first | apply Tl.brC | apply Tl.gdC | apply Tl.gd3C); focus (simp (disch := omega) only [coreA, Int.reduceBEq, base_N8, hv, left] <;> with_reducible rfl)))
            refine Tl.bind (f14c (k := k + 499) (S6.sl1 (f := bv) i hO) (by omega) (by omega)) ?_
            rintro ⟨r, h7⟩ ⟨av, er, g7, X⟩
            simp only at er g7 X
            subst er
            have S7 := S6.gain g7 X
            obtain ⟨tv, ht, Bt⟩ := Bytes.takeS (B.grow S7.grow) (n := b.length - rest.length) (by omega)
            rw [← es] at ht
            have hpl : ∀ x ∈ putV l, x < 256 := fun x hx => by
              unfold putV at hx
              rcases List.mem_append.1 hx with hx | hx
              · exact pvarN_256 _ x hx
              · rcases List.mem_cons.1 hx with rfl | hx
                · have := formN_le l; omega
                · split at hx
                  · exact (putN_spec 1 _).2.2 x hx
                  · cases hx
            have eq := f37c (k := k + 998) (S7.sl1 (f := u8v) 0 rfl) Bt hpl (fun x hx => hb x (List.mem_of_mem_take hx))
            by_cases q : putV l = b.take (b.length - rest.length)
            · rw [if_pos q]
              rw [decide_eq_true q] at eq
              repeat (first | (with_reducible apply Tl.val; focus (simp (disch := omega) only [coreA, Int.reduceBEq, base_N8, ht, eq] <;> with_reducible rfl)) | (with_reducible first | refine Tl.brT ?_ | refine Tl.brF ?_ | refine Tl.gd_on ?_ | refine Tl.gd3_on ?_) | ((with_reducible first | apply Tl.brC | apply Tl.gdC | apply Tl.gd3C); focus (simp (disch := omega) only [coreA, Int.reduceBEq, base_N8, ht, eq] <;> with_reducible rfl)))
              rw [es]
              refine ⟨_, rfl, .inl ⟨l, _, lv, rfl, by omega, rfl, S7.grow, S7.ret (i + 1) (by simpa using hO)⟩⟩
            · rw [if_neg q]
              rw [decide_eq_false q] at eq
              repeat (first | (with_reducible apply Tl.val; focus (simp (disch := omega) only [coreA, Int.reduceBEq, base_N8, ht, eq] <;> with_reducible rfl)) | (with_reducible first | refine Tl.brT ?_ | refine Tl.brF ?_ | refine Tl.gd_on ?_ | refine Tl.gd3_on ?_) | ((with_reducible first | apply Tl.brC | apply Tl.gdC | apply Tl.gd3C); focus (simp (disch := omega) only [coreA, Int.reduceBEq, base_N8, ht, eq] <;> with_reducible rfl)))
              exact ⟨_, rfl, .inr ⟨rfl, rfl, S7.grow⟩⟩
          · intro hm h6 g6
            rw [hm]
            exact ⟨_, rfl, .inr ⟨rfl, rfl, g6⟩⟩
  · cases er
    rw [hd]
    repeat (first | (with_reducible apply Tl.val; focus (simp (disch := omega) only [coreA, Int.reduceBEq, base_N8] <;> with_reducible rfl)) | (with_reducible first | refine Tl.brT ?_ | refine Tl.brF ?_ | refine Tl.gd_on ?_ | refine Tl.gd3_on ?_) | ((with_reducible first | apply Tl.brC | apply Tl.gdC | apply Tl.gd3C); focus (simp (disch := omega) only [coreA, Int.reduceBEq, base_N8] <;> with_reducible rfl)))
    exact ⟨_, rfl, .inr ⟨rfl, rfl, S1.grow⟩⟩
end Go.Proofs.Ytoleebigheobcaa.Sh
