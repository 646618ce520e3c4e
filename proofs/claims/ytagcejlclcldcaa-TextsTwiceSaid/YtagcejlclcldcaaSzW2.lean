/- 'TextsTwice' comes to true. -/
import Derived.Test.YtagcejlclcldcaaSzW1
import Derived.Test.YtagcejlclcldcaaSzXc
set_option linter.unusedVariables false
set_option linter.unusedSimpArgs false
set_option maxRecDepth 100000
namespace Go.Proofs.Ytagcejlclcldcaa.Sh
open Go Go.RowKit Go.Proofs.Ev
theorem base_W2 : type_of% (And.intro @ld3 (And.intro @ld9 (And.intro @ld22 (And.intro @ld30 (And.intro @ex2_0 (And.intro @ex2_1 (@Nat.add_zero))))))) := And.intro @ld3 (And.intro @ld9 (And.intro @ld22 (And.intro @ld30 (And.intro @ex2_0 (And.intro @ex2_1 (@Nat.add_zero))))))
def costS (s : ByteArray) : Nat := s.size + 1 + if 128 ≤ s.size then 1 else 0
def costs (l : List ByteArray) : Nat := (l.map costS).sum
theorem costs_cons (x : ByteArray) (l : List ByteArray) : costs (x :: l) = costS x + costs l := by simp [costs]
theorem costs_app (l m : List ByteArray) : costs (l ++ m) = costs l + costs m := by simp [costs]
theorem pvar_short {n : Nat} (h : n < 16384) : (pvarN n).length = 1 + if 128 ≤ n then 1 else 0 := by
  by_cases q : n < 128
  · rw [pvarN_lt q, if_neg (by omega)]; rfl
  · rw [pvarN_ge q, pvarN_lt (by omega), if_pos (by omega)]; rfl
theorem textP_cost {s : ByteArray} (h : s.size < 16384) : (textP s).length = costS s := by
  unfold textP costS
  rw [List.length_append, bytesN_len, pvar_short h]
  omega
theorem texts_cost : ∀ {l : List ByteArray}, (∀ x ∈ l, x.size < 16384) → (l.flatMap textP).length = costs l
  | [], _ => rfl
  | x :: l, h => by
    rw [List.flatMap_cons, List.length_append, textP_cost (h x (List.mem_cons_self ..)), texts_cost fun y hy => h y (List.mem_cons_of_mem _ hy), costs_cons]
theorem plainT_cost {l : List ByteArray} (hl : l.length < 128) (h : ∀ x ∈ l, x.size < 16384) : (plainT l).length = 2 + costs l := by
  unfold plainT
  rw [List.length_cons, List.length_append, pvarN_lt hl, texts_cost h]
  simp
  omega
theorem costs_le : ∀ {l : List ByteArray}, costs l ≤ total l + 2 * l.length
  | [] => by simp [costs, total]
  | x :: l => by
    have := costs_le (l := l)
    rw [costs_cons, total_cons, List.length_cons]
    unfold costS
    split <;> omega
theorem f4_loop {β : Type} {inv : Inv} {k : Nat} {Q : β → Prop} {h : AH} {v x3 x4 x5 x6 x7 x8 : Value} {l : List ByteArray} (A : Strs h v l) (hl : l.length ≤ 60) (ht : total l ≤ 600) {ke0 : Value → Value → Value → Value → Value → Value → Value → Value → Value → Value → AH → Option β} (n : Nat) :
    ∀ {i j a : Nat}, i + n = l.length → n < j → a + costs (l.drop i) ≤ 2000 → (∀ y1 y2, Tl (ke0 v x3 x4 x5 x6 x7 x8 (.int .i64 ((a + costs (l.drop i) : Nat) : Int)) y1 y2 h) Q) →
      Tl (F4_lrlrrrrrrrr inv k j v x3 x4 x5 x6 x7 x8 (.int .i64 a) (.int .i64 i) h ke0) Q := by
  have hv : ∀ h', pLen Try.prog #[22] v h' = some (.int .i64 l.length) := fun h' => A.len
  induction n with
  | zero =>
    intro i j a hi hj ha hk
    obtain ⟨j, rfl⟩ : ∃ q, j = q + 1 := ⟨j - 1, by omega⟩
    simp only [F4_lrlrrrrrrrr]
    repeat (first | (with_reducible apply Tl.val; focus (simp (disch := omega) only [coreA, Int.reduceBEq, base_W2, hv] <;> with_reducible rfl)) | (with_reducible first | refine Tl.brT ?_ | refine Tl.brF ?_ | refine Tl.gd_on ?_ | refine Tl.gd3_on ?_) | ((with_reducible first | apply Tl.brC | apply Tl.gdC | apply Tl.gd3C); focus (simp (disch := omega) only [coreA, Int.reduceBEq, base_W2, hv] <;> with_reducible rfl)))
    rw [List.drop_eq_nil_of_le (by omega)] at hk
    exact hk _ _
  | succ n ih =>
    intro i j a hi hj ha hk
    obtain ⟨j, rfl⟩ : ∃ q, j = q + 1 := ⟨j - 1, by omega⟩
    obtain ⟨x, ex⟩ : ∃ x, l[i]? = some x := ⟨_, List.getElem?_eq_getElem (by omega)⟩
    obtain ⟨b, o, hp, hc⟩ := A.at_ (k := .i64) ex
    have hc := hc h (Grow.refl _)
    have hx := total_mem (List.mem_of_getElem? ex)
    have hd : l.drop i = x :: l.drop (i + 1) := by rw [List.drop_eq_getElem?_toList_append, ex]; rfl
    rw [hd, costs_cons] at hk ha
    have e : (i : Int) + 1 = ((i + 1 : Nat) : Int) := by omega
    simp only [F4_lrlrrrrrrrr]
    by_cases q : 128 ≤ x.size
    · have hcs : costS x = x.size + 2 := by unfold costS; rw [if_pos q]
      have e2 : (a : Int) + (x.size : Int) + 1 + 1 = ((a + costS x : Nat) : Int) := by rw [hcs]; omega
      repeat (first | (with_reducible apply Tl.val; focus (simp (disch := omega) only [coreA, Int.reduceBEq, base_W2, hv] <;> with_reducible rfl)) | (with_reducible first | refine Tl.brT ?_ | refine Tl.brF ?_ | refine Tl.gd_on ?_ | refine Tl.gd3_on ?_) | ((with_reducible first | apply Tl.brC | apply Tl.gdC | apply Tl.gd3C); focus (simp (disch := omega) only [coreA, Int.reduceBEq, base_W2, hv] <;> with_reducible rfl)))
      unfold F4_lrllrlrrrrrrrr
      repeat (first | (with_reducible apply Tl.val; focus (simp (disch := omega) only [coreA, Int.reduceBEq, base_W2, hv, hp, hc, len_s] <;> with_reducible rfl)) | (with_reducible first | refine Tl.brT ?_ | refine Tl.brF ?_ | refine Tl.gd_on ?_ | refine Tl.gd3_on ?_) | ((with_reducible first | apply Tl.brC | apply Tl.gdC | apply Tl.gd3C); focus (simp (disch := omega) only [coreA, Int.reduceBEq, base_W2, hv, hp, hc, len_s] <;> with_reducible rfl)))
      rw [e, e2]
      refine ih (by omega) (by omega) (by omega) fun y1 y2 => ?_
      rw [Nat.add_assoc]
      exact hk y1 y2
    · have hcs : costS x = x.size + 1 := by unfold costS; rw [if_neg q]
      have e2 : (a : Int) + (x.size : Int) + 1 = ((a + costS x : Nat) : Int) := by rw [hcs]; omega
      repeat (first | (with_reducible apply Tl.val; focus (simp (disch := omega) only [coreA, Int.reduceBEq, base_W2, hv] <;> with_reducible rfl)) | (with_reducible first | refine Tl.brT ?_ | refine Tl.brF ?_ | refine Tl.gd_on ?_ | refine Tl.gd3_on ?_) | ((with_reducible first | apply Tl.brC | apply Tl.gdC | apply Tl.gd3C); focus (simp (disch := omega) only [coreA, Int.reduceBEq, base_W2, hv] <;> with_reducible rfl)))
      unfold F4_lrllrlrrrrrrrr
      repeat (first | (with_reducible apply Tl.val; focus (simp (disch := omega) only [coreA, Int.reduceBEq, base_W2, hv, hp, hc, len_s] <;> with_reducible rfl)) | (with_reducible first | refine Tl.brT ?_ | refine Tl.brF ?_ | refine Tl.gd_on ?_ | refine Tl.gd3_on ?_) | ((with_reducible first | apply Tl.brC | apply Tl.gdC | apply Tl.gd3C); focus (simp (disch := omega) only [coreA, Int.reduceBEq, base_W2, hv, hp, hc, len_s] <;> with_reducible rfl)))
      rw [e, e2]
      refine ih (by omega) (by omega) (by omega) fun y1 y2 => ?_
      rw [Nat.add_assoc]
      exact hk y1 y2
theorem f4 {k : Nat} {h : AH} {v : Value} {l : List ByteArray} (A : Strs h v l) (hs : ∀ x ∈ l, x.size ≤ 2 ^ 47) (hl : l.length ≤ 9223372036854775807) :
    Tl (F4 (eInv env (k + 6000)) (k + 6000) v h) fun r => r.1 = .bool true := by
  unfold F4
  have hlv := lives_call (k := k + 5999) (h := h)
  have hli := f9c (k := k + 5998) A hs hl (by omega)
  have hv : ∀ h', pLen Try.prog #[22] v h' = some (.int .i64 l.length) := fun h' => A.len
  have hsm : ∀ x ∈ l, x.size ≤ maxLen := fun x hx => by have := hs x hx; unfold maxLen; omega
  cases q1 : lightT 60 600 l
  · rw [q1] at hli
    repeat (first | (with_reducible apply Tl.val; focus (simp (disch := omega) only [coreA, Int.reduceBEq, base_W2, hlv, hli] <;> with_reducible rfl)) | (with_reducible first | refine Tl.brT ?_ | refine Tl.brF ?_ | refine Tl.gd_on ?_ | refine Tl.gd3_on ?_) | ((with_reducible first | apply Tl.brC | apply Tl.gdC | apply Tl.gd3C); focus (simp (disch := omega) only [coreA, Int.reduceBEq, base_W2, hlv, hli] <;> with_reducible rfl)))
    exact ⟨_, rfl, rfl⟩
  rw [q1] at hli
  repeat (first | (with_reducible apply Tl.val; focus (simp (disch := omega) only [coreA, Int.reduceBEq, base_W2, hlv, hli] <;> with_reducible rfl)) | (with_reducible first | refine Tl.brT ?_ | refine Tl.brF ?_ | refine Tl.gd_on ?_ | refine Tl.gd3_on ?_) | ((with_reducible first | apply Tl.brC | apply Tl.gdC | apply Tl.gd3C); focus (simp (disch := omega) only [coreA, Int.reduceBEq, base_W2, hlv, hli] <;> with_reducible rfl)))
  obtain ⟨h60, h600⟩ : l.length ≤ 60 ∧ total l ≤ 600 := by
    unfold lightT at q1
    rw [Bool.and_eq_true, decide_eq_true_eq, decide_eq_true_eq] at q1
    exact q1
  have hsz : ∀ x ∈ l, x.size ≤ 600 := fun x hx => by have := total_mem hx; omega
  have hsz2 : ∀ x ∈ l ++ l, x.size ≤ 600 := fun x hx => by
    rcases List.mem_append.1 hx with hx | hx <;> exact hsz x hx
  have hmay : mayT l = true := mayT_spec.2 ⟨by omega, fun x hx => by have := hsz x hx; omega⟩
  have hmay2 : mayT (l ++ l) = true := mayT_spec.2 ⟨by rw [List.length_append]; omega, fun x hx => by have := hsz2 x hx; omega⟩
  have hchk : checkT l = 0 := by unfold checkT; rw [hmay]; rfl
  have hchk2 : checkT (l ++ l) = 0 := by unfold checkT; rw [hmay2]; rfl
  have hg : plainG l = plainT l := by unfold plainG; rw [hmay]; rfl
  have hg2 : plainG (l ++ l) = plainT (l ++ l) := by unfold plainG; rw [hmay2]; rfl
  have hcost := costs_le (l := l)
  have hpl := plainT_cost (l := l) (by omega) (fun x hx => by have := hsz x hx; omega)
  have hpl2 := plainT_cost (l := l ++ l) (by rw [List.length_append]; omega) (fun x hx => by have := hsz2 x hx; omega)
  rw [costs_app] at hpl2
  have hwl := wordsB_len l
  refine Tl.bind (f12c (k := k + 5999) (Stt.init h) A (by omega)) ?_
  rintro ⟨tv, h1⟩ S1
  simp only at S1
  refine Tl.append' S1 0 rfl app22 (A.grow S1.grow) (one_srows l) (by rw [srows_len, List.length_map]; omega) fun t2 h2 S2 => ?_
  have S2 : Stt Try.prog h.n h h2 [] [(t2, 1, srows (l ++ l))] := by rw [srows_app]; exact S2
  refine Tl.bind (f10c (k := k + 5997) S2 (A.grow S2.grow) hsm (by omega) (by omega)) ?_
  rintro ⟨wv, h3⟩ S3
  simp only at S3
  refine Tl.bind (f15c (k := k + 5978) (A.grow S3.grow) hl (by omega)) ?_
  rintro ⟨r, h4⟩ ⟨av, hr, S4⟩
  simp only at hr S4
  subst hr
  have S4 := S3.join S4
  rw [hg] at S4
  rw [hchk]
  repeat (first | (with_reducible apply Tl.val; focus (simp (disch := omega) only [coreA, Int.reduceBEq, base_W2] <;> with_reducible rfl)) | (with_reducible first | refine Tl.brT ?_ | refine Tl.brF ?_ | refine Tl.gd_on ?_ | refine Tl.gd3_on ?_) | ((with_reducible first | apply Tl.brC | apply Tl.gdC | apply Tl.gd3C); focus (simp (disch := omega) only [coreA, Int.reduceBEq, base_W2] <;> with_reducible rfl)))
  refine Tl.bind (f15c (k := k + 5978) (Stt.strs S4 2 rfl) (by rw [List.length_append]; omega) (by omega)) ?_
  rintro ⟨r, h5⟩ ⟨bv, hr, S5⟩
  simp only at hr S5
  subst hr
  have S5 := S4.join S5
  rw [hg2] at S5
  rw [hchk2]
  repeat (first | (with_reducible apply Tl.val; focus (simp (disch := omega) only [coreA, Int.reduceBEq, base_W2] <;> with_reducible rfl)) | (with_reducible first | refine Tl.brT ?_ | refine Tl.brF ?_ | refine Tl.gd_on ?_ | refine Tl.gd3_on ?_) | ((with_reducible first | apply Tl.brC | apply Tl.gdC | apply Tl.gd3C); focus (simp (disch := omega) only [coreA, Int.reduceBEq, base_W2] <;> with_reducible rfl)))
  refine f4_loop (A.grow S5.grow) h60 h600 l.length (i := 0) (a := 0) (by omega) (by omega) (by rw [List.drop_zero]; omega) fun y1 y2 => ?_
  rw [List.drop_zero, Nat.zero_add]
  simp only [G4_16]
  have hmem : ∀ z, z ∈ l ++ l ↔ z ∈ l := fun z => by rw [List.mem_append]; exact or_self_iff
  repeat (first | (with_reducible apply Tl.val; focus (simp (disch := omega) only [coreA, Int.reduceBEq, base_W2] <;> with_reducible rfl)) | (with_reducible first | refine Tl.brT ?_ | refine Tl.brF ?_ | refine Tl.gd_on ?_ | refine Tl.gd3_on ?_) | ((with_reducible first | apply Tl.brC | apply Tl.gdC | apply Tl.gd3C); focus (simp (disch := omega) only [coreA, Int.reduceBEq, base_W2] <;> with_reducible rfl)))
  refine Tl.bind (f10c (k := k + 5997) S5 (Stt.strs S5 3 rfl) (fun s hs' => hsm s ((hmem s).1 hs')) (by rw [List.length_append]; omega) (by rw [List.length_append]; omega)) ?_
  rintro ⟨w2, h6⟩ S6
  simp only at S6
  rw [wordsB_of hmem] at S6
  have s1 := f14c (k := k + 5999) (Stt.strs S6 0 rfl) (Stt.strs S6 3 rfl) (by omega) (by omega) (by omega)
  rw [decide_eq_true rfl] at s1
  repeat (first | (with_reducible apply Tl.val; focus (simp (disch := omega) only [coreA, Int.reduceBEq, base_W2, s1] <;> with_reducible rfl)) | (with_reducible first | refine Tl.brT ?_ | refine Tl.brF ?_ | refine Tl.gd_on ?_ | refine Tl.gd3_on ?_) | ((with_reducible first | apply Tl.brC | apply Tl.gdC | apply Tl.gd3C); focus (simp (disch := omega) only [coreA, Int.reduceBEq, base_W2, s1] <;> with_reducible rfl)))
  refine Tl.bind (f10c (k := k + 5997) S6 (Stt.strs S6 3 rfl) (fun s hs' => hsm s (wordsB_mem.1 hs')) (by omega) (by omega)) ?_
  rintro ⟨w3, h7⟩ S7
  simp only at S7
  rw [wordsB_words] at S7
  have s2 := f14c (k := k + 5999) (Stt.strs S7 0 rfl) (Stt.strs S7 4 rfl) (by omega) (by omega) (by omega)
  rw [decide_eq_true rfl] at s2
  have la : ∀ h', pLen Try.prog #[30] av h' = some (.int .i64 (plainT l).length) := fun h' => Bytes.len (S7.sl1 (f := u8v) 3 rfl)
  have lb : ∀ h', pLen Try.prog #[30] bv h' = some (.int .i64 (plainT (l ++ l)).length) := fun h' => Bytes.len (S7.sl1 (f := u8v) 2 rfl)
  rw [hpl] at la
  rw [hpl2] at lb
  repeat (first | (with_reducible apply Tl.val; focus (simp (disch := omega) only [coreA, Int.reduceBEq, base_W2, s2, la, lb] <;> with_reducible rfl)) | (with_reducible first | refine Tl.brT ?_ | refine Tl.brF ?_ | refine Tl.gd_on ?_ | refine Tl.gd3_on ?_) | ((with_reducible first | apply Tl.brC | apply Tl.gdC | apply Tl.gd3C); focus (simp (disch := omega) only [coreA, Int.reduceBEq, base_W2, s2, la, lb] <;> with_reducible rfl)))
  exact ⟨_, rfl, rfl⟩
end Go.Proofs.Ytagcejlclcldcaa.Sh
