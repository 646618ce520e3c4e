/- 'NullsTurned' comes to true. -/
import Derived.Test.YtoleebigheobcaaSzN3
set_option linter.unusedVariables false
set_option linter.unusedSimpArgs false
set_option maxRecDepth 100000
namespace Go.Proofs.Ytoleebigheobcaa.Sh
open Go Go.RowKit Go.Proofs.Ev

def turn (l : List Bool) : List Bool := l.map (!·)
theorem cnt_turn (l : List Bool) : cnt (turn l) = l.length - cnt l := by
  induction l with
  | nil => rfl
  | cons b l ih =>
    have := cnt_le l
    unfold turn cnt at *
    cases b <;> simp at ih ⊢ <;> omega
theorem rl_turn (l : List Bool) : ∀ (b : Bool) (n : Nat), lens (rl (!b) n (turn l)) = lens (rl b n l) := by
  induction l with
  | nil => intro b n; rfl
  | cons c l ih =>
    intro b n
    simp only [turn, List.map_cons]
    unfold rl
    by_cases h : c = b
    · rw [if_pos (by rw [h]), if_pos h]
      exact ih b (n + 1)
    · rw [if_neg (by simpa using h), if_neg h]
      have := ih c 1
      unfold turn at this
      simp only [lens, List.map_cons] at this ⊢
      rw [this]
theorem runsL_turn (l : List Bool) : lens (runsL (turn l)) = lens (runsL l) := by
  cases l with
  | nil => rfl
  | cons b l => exact rl_turn l b 1
theorem spread_sign (l : List Bool) : ∀ (n : Nat) (i : Nat) (b : Bool) (z : Int), l[i]? = some b → (spreadL n l)[i]? = some z → (z < 0 ↔ b = true) := by
  induction l with
  | nil => intro n i b z h; simp at h
  | cons c l ih =>
    intro n i b z h1 h2
    cases c with
    | true =>
      cases i with
      | zero => simp [spreadL] at h1 h2; subst h1; subst h2; simp
      | succ i => exact ih n i b z (by simpa using h1) (by simpa [spreadL] using h2)
    | false =>
      cases i with
      | zero => simp [spreadL] at h1 h2; subst h1; subst h2; simp
      | succ i => exact ih (n + 1) i b z (by simpa using h1) (by simpa [spreadL] using h2)
theorem f4_loop1 {β : Type} {k : Nat} {Q : β → Prop} {h0 : AH} {v mv : Value} {l : List Bool} (B : Bools h0 v l) (hl : l.length ≤ 300)
    {ke0 : Value → Value → Value → Value → AH → Option β} (n : Nat) :
    ∀ {i j : Nat} {h : AH} {done : List Bool}, i + n = l.length → n < j → done.length = l.length → Stt Try.prog h0.n h0 h [] [(mv, 1, brows done)] → done.take i = turn (l.take i) →
      (∀ h' y y', Stt Try.prog h0.n h0 h' [] [(mv, 1, brows (turn l))] → Tl (ke0 v mv y y' h') Q) →
      Tl (F4_lrlrrrr (eInv env k) k j v mv (.int .i64 i) h ke0) Q := by
  have hlen : ∀ h', pLen Try.prog #[22] v h' = some (.int .i64 l.length) := fun h' => Sl1.len B u22
  induction n with
  | zero =>
    intro i j h done hi hj hd S ht hk
    obtain ⟨j, rfl⟩ : ∃ q, j = q + 1 := ⟨j - 1, by omega⟩
    simp only [F4_lrlrrrr]
    repeat (first | (with_reducible apply Tl.val; focus (simp (disch := omega) only [coreA, goInt, Option.map_some, Nat.zero_add, Bool.not_true, Bool.not_false, Bool.true_and, Bool.false_and, Bool.and_true, Bool.and_false, cond_true, cond_false, beq_self_eq_true, Int.reduceBEq, decide_true, decide_false, Bool.or_true, Bool.or_false, Bool.true_or, Bool.false_or, ld3, ld4, ld5, ld22, ld25, ld32, bin_eql_bool u4, bin_neq_bool u4, hlen] <;> with_reducible rfl)) | with_reducible refine Tl.brT ?_ | with_reducible refine Tl.brF ?_ | with_reducible refine Tl.gd_on ?_ | with_reducible refine Tl.gd3_on ?_ | (with_reducible refine Tl.brT' ?_ ?_; focus (simp (disch := omega) only [coreA, goInt, Option.map_some, Nat.zero_add, Bool.not_true, Bool.not_false, Bool.true_and, Bool.false_and, Bool.and_true, Bool.and_false, cond_true, cond_false, beq_self_eq_true, Int.reduceBEq, decide_true, decide_false, Bool.or_true, Bool.or_false, Bool.true_or, Bool.false_or, ld3, ld4, ld5, ld22, ld25, ld32, bin_eql_bool u4, bin_neq_bool u4, hlen]; done)) | (with_reducible refine Tl.brF' ?_ ?_; focus (simp (disch := omega) only [coreA, goInt, Option.map_some, Nat.zero_add, Bool.not_true, Bool.not_false, Bool.true_and, Bool.false_and, Bool.and_true, Bool.and_false, cond_true, cond_false, beq_self_eq_true, Int.reduceBEq, decide_true, decide_false, Bool.or_true, Bool.or_false, Bool.true_or, Bool.false_or, ld3, ld4, ld5, ld22, ld25, ld32, bin_eql_bool u4, bin_neq_bool u4, hlen]; done)) | (with_reducible refine Tl.gd_on' ?_ ?_; focus (simp (disch := omega) only [coreA, goInt, Option.map_some, Nat.zero_add, Bool.not_true, Bool.not_false, Bool.true_and, Bool.false_and, Bool.and_true, Bool.and_false, cond_true, cond_false, beq_self_eq_true, Int.reduceBEq, decide_true, decide_false, Bool.or_true, Bool.or_false, Bool.true_or, Bool.false_or, ld3, ld4, ld5, ld22, ld25, ld32, bin_eql_bool u4, bin_neq_bool u4, hlen]; done)) | (with_reducible refine Tl.gd3_on' ?_ ?_; focus (simp (disch := omega) only [coreA, goInt, Option.map_some, Nat.zero_add, Bool.not_true, Bool.not_false, Bool.true_and, Bool.false_and, Bool.and_true, Bool.and_false, cond_true, cond_false, beq_self_eq_true, Int.reduceBEq, decide_true, decide_false, Bool.or_true, Bool.or_false, Bool.true_or, Bool.false_or, ld3, ld4, ld5, ld22, ld25, ld32, bin_eql_bool u4, bin_neq_bool u4, hlen]; done)))
    rw [List.take_of_length_le (by omega), List.take_of_length_le (by omega)] at ht
    subst ht
    exact hk _ _ _ S
  | succ n ih =>
    intro i j h done hi hj hd S ht hk
    obtain ⟨j, rfl⟩ : ∃ q, j = q + 1 := ⟨j - 1, by omega⟩
    obtain ⟨x, hx⟩ : ∃ x, l[i]? = some x := ⟨_, List.getElem?_eq_getElem (by omega)⟩
    obtain ⟨b, o, hp, hc1⟩ := Sl1.at_ (B.grow S.grow) (t := 22) (k := .i64) hx u22 sz4
    have hc1 := hc1 h (Grow.refl _)
    obtain ⟨bm, em, hm⟩ := S.idx (t := 22) 0 rfl (kd := .i64) (j := i) (by rw [brows_len]; omega) u22 sz4
    have e : (i : Int) + 1 = ((i + 1 : Nat) : Int) := by omega
    simp only [F4_lrlrrrr]
    repeat (first | (with_reducible apply Tl.val; focus (simp (disch := omega) only [coreA, goInt, Option.map_some, Nat.zero_add, Bool.not_true, Bool.not_false, Bool.true_and, Bool.false_and, Bool.and_true, Bool.and_false, cond_true, cond_false, beq_self_eq_true, Int.reduceBEq, decide_true, decide_false, Bool.or_true, Bool.or_false, Bool.true_or, Bool.false_or, ld3, ld4, ld5, ld22, ld25, ld32, bin_eql_bool u4, bin_neq_bool u4, hlen, hp, hc1, bv, hm] <;> with_reducible rfl)) | with_reducible refine Tl.brT ?_ | with_reducible refine Tl.brF ?_ | with_reducible refine Tl.gd_on ?_ | with_reducible refine Tl.gd3_on ?_ | (with_reducible refine Tl.brT' ?_ ?_; focus (simp (disch := omega) only [coreA, goInt, Option.map_some, Nat.zero_add, Bool.not_true, Bool.not_false, Bool.true_and, Bool.false_and, Bool.and_true, Bool.and_false, cond_true, cond_false, beq_self_eq_true, Int.reduceBEq, decide_true, decide_false, Bool.or_true, Bool.or_false, Bool.true_or, Bool.false_or, ld3, ld4, ld5, ld22, ld25, ld32, bin_eql_bool u4, bin_neq_bool u4, hlen, hp, hc1, bv, hm]; done)) | (with_reducible refine Tl.brF' ?_ ?_; focus (simp (disch := omega) only [coreA, goInt, Option.map_some, Nat.zero_add, Bool.not_true, Bool.not_false, Bool.true_and, Bool.false_and, Bool.and_true, Bool.and_false, cond_true, cond_false, beq_self_eq_true, Int.reduceBEq, decide_true, decide_false, Bool.or_true, Bool.or_false, Bool.true_or, Bool.false_or, ld3, ld4, ld5, ld22, ld25, ld32, bin_eql_bool u4, bin_neq_bool u4, hlen, hp, hc1, bv, hm]; done)) | (with_reducible refine Tl.gd_on' ?_ ?_; focus (simp (disch := omega) only [coreA, goInt, Option.map_some, Nat.zero_add, Bool.not_true, Bool.not_false, Bool.true_and, Bool.false_and, Bool.and_true, Bool.and_false, cond_true, cond_false, beq_self_eq_true, Int.reduceBEq, decide_true, decide_false, Bool.or_true, Bool.or_false, Bool.true_or, Bool.false_or, ld3, ld4, ld5, ld22, ld25, ld32, bin_eql_bool u4, bin_neq_bool u4, hlen, hp, hc1, bv, hm]; done)) | (with_reducible refine Tl.gd3_on' ?_ ?_; focus (simp (disch := omega) only [coreA, goInt, Option.map_some, Nat.zero_add, Bool.not_true, Bool.not_false, Bool.true_and, Bool.false_and, Bool.and_true, Bool.and_false, cond_true, cond_false, beq_self_eq_true, Int.reduceBEq, decide_true, decide_false, Bool.or_true, Bool.or_false, Bool.true_or, Bool.false_or, ld3, ld4, ld5, ld22, ld25, ld32, bin_eql_bool u4, bin_neq_bool u4, hlen, hp, hc1, bv, hm]; done)))
    refine Tl.setAt S 0 rfl em (by rw [brows_len]; omega) rfl sz4 rfl fun h' S' => ?_
    repeat (first | (with_reducible apply Tl.val; focus (simp (disch := omega) only [coreA, goInt, Option.map_some, Nat.zero_add, Bool.not_true, Bool.not_false, Bool.true_and, Bool.false_and, Bool.and_true, Bool.and_false, cond_true, cond_false, beq_self_eq_true, Int.reduceBEq, decide_true, decide_false, Bool.or_true, Bool.or_false, Bool.true_or, Bool.false_or, ld3, ld4, ld5, ld22, ld25, ld32, bin_eql_bool u4, bin_neq_bool u4] <;> with_reducible rfl)) | with_reducible refine Tl.brT ?_ | with_reducible refine Tl.brF ?_ | with_reducible refine Tl.gd_on ?_ | with_reducible refine Tl.gd3_on ?_ | (with_reducible refine Tl.brT' ?_ ?_; focus (simp (disch := omega) only [coreA, goInt, Option.map_some, Nat.zero_add, Bool.not_true, Bool.not_false, Bool.true_and, Bool.false_and, Bool.and_true, Bool.and_false, cond_true, cond_false, beq_self_eq_true, Int.reduceBEq, decide_true, decide_false, Bool.or_true, Bool.or_false, Bool.true_or, Bool.false_or, ld3, ld4, ld5, ld22, ld25, ld32, bin_eql_bool u4, bin_neq_bool u4]; done)) | (with_reducible refine Tl.brF' ?_ ?_; focus (simp (disch := omega) only [coreA, goInt, Option.map_some, Nat.zero_add, Bool.not_true, Bool.not_false, Bool.true_and, Bool.false_and, Bool.and_true, Bool.and_false, cond_true, cond_false, beq_self_eq_true, Int.reduceBEq, decide_true, decide_false, Bool.or_true, Bool.or_false, Bool.true_or, Bool.false_or, ld3, ld4, ld5, ld22, ld25, ld32, bin_eql_bool u4, bin_neq_bool u4]; done)) | (with_reducible refine Tl.gd_on' ?_ ?_; focus (simp (disch := omega) only [coreA, goInt, Option.map_some, Nat.zero_add, Bool.not_true, Bool.not_false, Bool.true_and, Bool.false_and, Bool.and_true, Bool.and_false, cond_true, cond_false, beq_self_eq_true, Int.reduceBEq, decide_true, decide_false, Bool.or_true, Bool.or_false, Bool.true_or, Bool.false_or, ld3, ld4, ld5, ld22, ld25, ld32, bin_eql_bool u4, bin_neq_bool u4]; done)) | (with_reducible refine Tl.gd3_on' ?_ ?_; focus (simp (disch := omega) only [coreA, goInt, Option.map_some, Nat.zero_add, Bool.not_true, Bool.not_false, Bool.true_and, Bool.false_and, Bool.and_true, Bool.and_false, cond_true, cond_false, beq_self_eq_true, Int.reduceBEq, decide_true, decide_false, Bool.or_true, Bool.or_false, Bool.true_or, Bool.false_or, ld3, ld4, ld5, ld22, ld25, ld32, bin_eql_bool u4, bin_neq_bool u4]; done)))
    rw [e]
    refine ih (done := done.set i (!x)) (by omega) (by omega) (by simp [hd]) (by simpa [brows, bv, List.map_set, Value.cells] using S') ?_ hk
    have hti : l.take (i + 1) = l.take i ++ [x] := by rw [List.take_add_one, hx]; rfl
    rw [hti]
    unfold turn at ht ⊢
    rw [List.map_append, ← ht]
    refine List.ext_getElem? fun q => ?_
    rw [List.getElem?_take, List.getElem?_set]
    by_cases q1 : q < i
    · rw [if_pos (by omega), if_neg (by omega), List.getElem?_append_left (by simp; omega), List.getElem?_take, if_pos q1]
    · by_cases q2 : q = i
      · subst q2
        rw [if_pos (by omega), if_pos rfl, if_pos (by omega), List.getElem?_append_right (by simp; omega)]
        simp [show min q done.length = q by omega]
      · rw [if_neg (by omega), List.getElem?_eq_none (by simp; omega)]
theorem f4_loop2 {β : Type} {k : Nat} {Q : β → Prop} {h : AH} {v mv av bvv : Value} {l : List Bool} {s t : List Int} (B : Bools h v l) (S : Nums h av s) (T : Nums h bvv t) (hl : l.length ≤ 300) (hs : s.length = l.length) (ht : t.length = l.length)
    (hst : ∀ (i : Nat) (x y : Int), s[i]? = some x → t[i]? = some y → ¬ (x < 0 ↔ y < 0))
    {ke2 : Value → Value → Value → Value → Value → Value → AH → Option β} {kr : Value → AH → Option β} (n : Nat) :
    ∀ {i j : Nat}, i + n = l.length → n < j → (∀ y y', Tl (ke2 v mv av bvv y y' h) Q) → Tl (F4_lrlrrrrrrrr (eInv env k) k j v mv av bvv (.int .i64 i) h ke2 kr) Q := by
  have hlen : ∀ h', pLen Try.prog #[22] v h' = some (.int .i64 l.length) := fun h' => Sl1.len B u22
  induction n with
  | zero =>
    intro i j hi hj hk
    obtain ⟨j, rfl⟩ : ∃ q, j = q + 1 := ⟨j - 1, by omega⟩
    simp only [F4_lrlrrrrrrrr]
    repeat (first | (with_reducible apply Tl.val; focus (simp (disch := omega) only [coreA, goInt, Option.map_some, Nat.zero_add, Bool.not_true, Bool.not_false, Bool.true_and, Bool.false_and, Bool.and_true, Bool.and_false, cond_true, cond_false, beq_self_eq_true, Int.reduceBEq, decide_true, decide_false, Bool.or_true, Bool.or_false, Bool.true_or, Bool.false_or, ld3, ld4, ld5, ld22, ld25, ld32, bin_eql_bool u4, bin_neq_bool u4, hlen] <;> with_reducible rfl)) | with_reducible refine Tl.brT ?_ | with_reducible refine Tl.brF ?_ | with_reducible refine Tl.gd_on ?_ | with_reducible refine Tl.gd3_on ?_ | (with_reducible refine Tl.brT' ?_ ?_; focus (simp (disch := omega) only [coreA, goInt, Option.map_some, Nat.zero_add, Bool.not_true, Bool.not_false, Bool.true_and, Bool.false_and, Bool.and_true, Bool.and_false, cond_true, cond_false, beq_self_eq_true, Int.reduceBEq, decide_true, decide_false, Bool.or_true, Bool.or_false, Bool.true_or, Bool.false_or, ld3, ld4, ld5, ld22, ld25, ld32, bin_eql_bool u4, bin_neq_bool u4, hlen]; done)) | (with_reducible refine Tl.brF' ?_ ?_; focus (simp (disch := omega) only [coreA, goInt, Option.map_some, Nat.zero_add, Bool.not_true, Bool.not_false, Bool.true_and, Bool.false_and, Bool.and_true, Bool.and_false, cond_true, cond_false, beq_self_eq_true, Int.reduceBEq, decide_true, decide_false, Bool.or_true, Bool.or_false, Bool.true_or, Bool.false_or, ld3, ld4, ld5, ld22, ld25, ld32, bin_eql_bool u4, bin_neq_bool u4, hlen]; done)) | (with_reducible refine Tl.gd_on' ?_ ?_; focus (simp (disch := omega) only [coreA, goInt, Option.map_some, Nat.zero_add, Bool.not_true, Bool.not_false, Bool.true_and, Bool.false_and, Bool.and_true, Bool.and_false, cond_true, cond_false, beq_self_eq_true, Int.reduceBEq, decide_true, decide_false, Bool.or_true, Bool.or_false, Bool.true_or, Bool.false_or, ld3, ld4, ld5, ld22, ld25, ld32, bin_eql_bool u4, bin_neq_bool u4, hlen]; done)) | (with_reducible refine Tl.gd3_on' ?_ ?_; focus (simp (disch := omega) only [coreA, goInt, Option.map_some, Nat.zero_add, Bool.not_true, Bool.not_false, Bool.true_and, Bool.false_and, Bool.and_true, Bool.and_false, cond_true, cond_false, beq_self_eq_true, Int.reduceBEq, decide_true, decide_false, Bool.or_true, Bool.or_false, Bool.true_or, Bool.false_or, ld3, ld4, ld5, ld22, ld25, ld32, bin_eql_bool u4, bin_neq_bool u4, hlen]; done)))
    exact hk _ _
  | succ n ih =>
    intro i j hi hj hk
    obtain ⟨j, rfl⟩ : ∃ q, j = q + 1 := ⟨j - 1, by omega⟩
    obtain ⟨x, hx⟩ : ∃ x, s[i]? = some x := ⟨_, List.getElem?_eq_getElem (by omega)⟩
    obtain ⟨y, hy⟩ : ∃ x, t[i]? = some x := ⟨_, List.getElem?_eq_getElem (by omega)⟩
    obtain ⟨b, o, hp, hc1⟩ := Sl1.at_ S (t := 25) (k := .i64) hx u25 sz3
    obtain ⟨b2, o2, hp2, hc2⟩ := Sl1.at_ T (t := 25) (k := .i64) hy u25 sz3
    have hc1 := hc1 h (Grow.refl _)
    have hc2 := hc2 h (Grow.refl _)
    have e : (i : Int) + 1 = ((i + 1 : Nat) : Int) := by omega
    have ne := hst i x y hx hy
    simp only [F4_lrlrrrrrrrr]
    by_cases q : x < 0
    · have q2 : ¬ y < 0 := fun q2 => ne ⟨fun _ => q2, fun _ => q⟩
      repeat (first | (with_reducible apply Tl.val; focus (simp (disch := omega) only [coreA, goInt, Option.map_some, Nat.zero_add, Bool.not_true, Bool.not_false, Bool.true_and, Bool.false_and, Bool.and_true, Bool.and_false, cond_true, cond_false, beq_self_eq_true, Int.reduceBEq, decide_true, decide_false, Bool.or_true, Bool.or_false, Bool.true_or, Bool.false_or, ld3, ld4, ld5, ld22, ld25, ld32, bin_eql_bool u4, bin_neq_bool u4, hlen, hp, hc1, hp2, hc2, iv] <;> with_reducible rfl)) | with_reducible refine Tl.brT ?_ | with_reducible refine Tl.brF ?_ | with_reducible refine Tl.gd_on ?_ | with_reducible refine Tl.gd3_on ?_ | (with_reducible refine Tl.brT' ?_ ?_; focus (simp (disch := omega) only [coreA, goInt, Option.map_some, Nat.zero_add, Bool.not_true, Bool.not_false, Bool.true_and, Bool.false_and, Bool.and_true, Bool.and_false, cond_true, cond_false, beq_self_eq_true, Int.reduceBEq, decide_true, decide_false, Bool.or_true, Bool.or_false, Bool.true_or, Bool.false_or, ld3, ld4, ld5, ld22, ld25, ld32, bin_eql_bool u4, bin_neq_bool u4, hlen, hp, hc1, hp2, hc2, iv]; done)) | (with_reducible refine Tl.brF' ?_ ?_; focus (simp (disch := omega) only [coreA, goInt, Option.map_some, Nat.zero_add, Bool.not_true, Bool.not_false, Bool.true_and, Bool.false_and, Bool.and_true, Bool.and_false, cond_true, cond_false, beq_self_eq_true, Int.reduceBEq, decide_true, decide_false, Bool.or_true, Bool.or_false, Bool.true_or, Bool.false_or, ld3, ld4, ld5, ld22, ld25, ld32, bin_eql_bool u4, bin_neq_bool u4, hlen, hp, hc1, hp2, hc2, iv]; done)) | (with_reducible refine Tl.gd_on' ?_ ?_; focus (simp (disch := omega) only [coreA, goInt, Option.map_some, Nat.zero_add, Bool.not_true, Bool.not_false, Bool.true_and, Bool.false_and, Bool.and_true, Bool.and_false, cond_true, cond_false, beq_self_eq_true, Int.reduceBEq, decide_true, decide_false, Bool.or_true, Bool.or_false, Bool.true_or, Bool.false_or, ld3, ld4, ld5, ld22, ld25, ld32, bin_eql_bool u4, bin_neq_bool u4, hlen, hp, hc1, hp2, hc2, iv]; done)) | (with_reducible refine Tl.gd3_on' ?_ ?_; focus (simp (disch := omega) only [coreA, goInt, Option.map_some, Nat.zero_add, Bool.not_true, Bool.not_false, Bool.true_and, Bool.false_and, Bool.and_true, Bool.and_false, cond_true, cond_false, beq_self_eq_true, Int.reduceBEq, decide_true, decide_false, Bool.or_true, Bool.or_false, Bool.true_or, Bool.false_or, ld3, ld4, ld5, ld22, ld25, ld32, bin_eql_bool u4, bin_neq_bool u4, hlen, hp, hc1, hp2, hc2, iv]; done)))
      rw [e]
      exact ih (by omega) (by omega) hk
    · have q2 : y < 0 := Decidable.byContradiction fun q2 => ne ⟨fun h => absurd h q, fun h => absurd h q2⟩
      repeat (first | (with_reducible apply Tl.val; focus (simp (disch := omega) only [coreA, goInt, Option.map_some, Nat.zero_add, Bool.not_true, Bool.not_false, Bool.true_and, Bool.false_and, Bool.and_true, Bool.and_false, cond_true, cond_false, beq_self_eq_true, Int.reduceBEq, decide_true, decide_false, Bool.or_true, Bool.or_false, Bool.true_or, Bool.false_or, ld3, ld4, ld5, ld22, ld25, ld32, bin_eql_bool u4, bin_neq_bool u4, hlen, hp, hc1, hp2, hc2, iv] <;> with_reducible rfl)) | with_reducible refine Tl.brT ?_ | with_reducible refine Tl.brF ?_ | with_reducible refine Tl.gd_on ?_ | with_reducible refine Tl.gd3_on ?_ | (with_reducible refine Tl.brT' ?_ ?_; focus (simp (disch := omega) only [coreA, goInt, Option.map_some, Nat.zero_add, Bool.not_true, Bool.not_false, Bool.true_and, Bool.false_and, Bool.and_true, Bool.and_false, cond_true, cond_false, beq_self_eq_true, Int.reduceBEq, decide_true, decide_false, Bool.or_true, Bool.or_false, Bool.true_or, Bool.false_or, ld3, ld4, ld5, ld22, ld25, ld32, bin_eql_bool u4, bin_neq_bool u4, hlen, hp, hc1, hp2, hc2, iv]; done)) | (with_reducible refine Tl.brF' ?_ ?_; focus (simp (disch := omega) only [coreA, goInt, Option.map_some, Nat.zero_add, Bool.not_true, Bool.not_false, Bool.true_and, Bool.false_and, Bool.and_true, Bool.and_false, cond_true, cond_false, beq_self_eq_true, Int.reduceBEq, decide_true, decide_false, Bool.or_true, Bool.or_false, Bool.true_or, Bool.false_or, ld3, ld4, ld5, ld22, ld25, ld32, bin_eql_bool u4, bin_neq_bool u4, hlen, hp, hc1, hp2, hc2, iv]; done)) | (with_reducible refine Tl.gd_on' ?_ ?_; focus (simp (disch := omega) only [coreA, goInt, Option.map_some, Nat.zero_add, Bool.not_true, Bool.not_false, Bool.true_and, Bool.false_and, Bool.and_true, Bool.and_false, cond_true, cond_false, beq_self_eq_true, Int.reduceBEq, decide_true, decide_false, Bool.or_true, Bool.or_false, Bool.true_or, Bool.false_or, ld3, ld4, ld5, ld22, ld25, ld32, bin_eql_bool u4, bin_neq_bool u4, hlen, hp, hc1, hp2, hc2, iv]; done)) | (with_reducible refine Tl.gd3_on' ?_ ?_; focus (simp (disch := omega) only [coreA, goInt, Option.map_some, Nat.zero_add, Bool.not_true, Bool.not_false, Bool.true_and, Bool.false_and, Bool.and_true, Bool.and_false, cond_true, cond_false, beq_self_eq_true, Int.reduceBEq, decide_true, decide_false, Bool.or_true, Bool.or_false, Bool.true_or, Bool.false_or, ld3, ld4, ld5, ld22, ld25, ld32, bin_eql_bool u4, bin_neq_bool u4, hlen, hp, hc1, hp2, hc2, iv]; done)))
      rw [e]
      exact ih (by omega) (by omega) hk
theorem f4 {k : Nat} {h : AH} {v : Value} {l : List Bool} (B : Bools h v l) :
    Tl (F4 (eInv env (k + 12000)) (k + 12000) v h) fun r => r.1 = .bool true := by
  unfold F4
  have hlen : ∀ h', pLen Try.prog #[22] v h' = some (.int .i64 l.length) := fun h' => Sl1.len B u22
  by_cases hl : l.length ≤ 300
  · have hle := cnt_le l
    repeat (first | (with_reducible apply Tl.val; focus (simp (disch := omega) only [coreA, goInt, Option.map_some, Nat.zero_add, Bool.not_true, Bool.not_false, Bool.true_and, Bool.false_and, Bool.and_true, Bool.and_false, cond_true, cond_false, beq_self_eq_true, Int.reduceBEq, decide_true, decide_false, Bool.or_true, Bool.or_false, Bool.true_or, Bool.false_or, ld3, ld4, ld5, ld22, ld25, ld32, bin_eql_bool u4, bin_neq_bool u4, lives_call, hlen] <;> with_reducible rfl)) | with_reducible refine Tl.brT ?_ | with_reducible refine Tl.brF ?_ | with_reducible refine Tl.gd_on ?_ | with_reducible refine Tl.gd3_on ?_ | (with_reducible refine Tl.brT' ?_ ?_; focus (simp (disch := omega) only [coreA, goInt, Option.map_some, Nat.zero_add, Bool.not_true, Bool.not_false, Bool.true_and, Bool.false_and, Bool.and_true, Bool.and_false, cond_true, cond_false, beq_self_eq_true, Int.reduceBEq, decide_true, decide_false, Bool.or_true, Bool.or_false, Bool.true_or, Bool.false_or, ld3, ld4, ld5, ld22, ld25, ld32, bin_eql_bool u4, bin_neq_bool u4, lives_call, hlen]; done)) | (with_reducible refine Tl.brF' ?_ ?_; focus (simp (disch := omega) only [coreA, goInt, Option.map_some, Nat.zero_add, Bool.not_true, Bool.not_false, Bool.true_and, Bool.false_and, Bool.and_true, Bool.and_false, cond_true, cond_false, beq_self_eq_true, Int.reduceBEq, decide_true, decide_false, Bool.or_true, Bool.or_false, Bool.true_or, Bool.false_or, ld3, ld4, ld5, ld22, ld25, ld32, bin_eql_bool u4, bin_neq_bool u4, lives_call, hlen]; done)) | (with_reducible refine Tl.gd_on' ?_ ?_; focus (simp (disch := omega) only [coreA, goInt, Option.map_some, Nat.zero_add, Bool.not_true, Bool.not_false, Bool.true_and, Bool.false_and, Bool.and_true, Bool.and_false, cond_true, cond_false, beq_self_eq_true, Int.reduceBEq, decide_true, decide_false, Bool.or_true, Bool.or_false, Bool.true_or, Bool.false_or, ld3, ld4, ld5, ld22, ld25, ld32, bin_eql_bool u4, bin_neq_bool u4, lives_call, hlen]; done)) | (with_reducible refine Tl.gd3_on' ?_ ?_; focus (simp (disch := omega) only [coreA, goInt, Option.map_some, Nat.zero_add, Bool.not_true, Bool.not_false, Bool.true_and, Bool.false_and, Bool.and_true, Bool.and_false, cond_true, cond_false, beq_self_eq_true, Int.reduceBEq, decide_true, decide_false, Bool.or_true, Bool.or_false, Bool.true_or, Bool.false_or, ld3, ld4, ld5, ld22, ld25, ld32, bin_eql_bool u4, bin_neq_bool u4, lives_call, hlen]; done)))
    refine Tl.make' (Stt.init h) app22 ze4 (by omega) (by omega) fun mv h1 S1 g1 => ?_
    have S1 : Stt Try.prog h.n h h1 [] [(mv, 1, brows (List.replicate l.length false))] := by
      have e : brows (List.replicate l.length false) = List.replicate l.length [.bool false] := by simp [brows, bv]
      rw [e]; exact S1
    refine f4_loop1 (k := k + 12000) (i := 0) B hl l.length (by omega) (by omega) (by simp) S1 (by simp [turn]) fun h2 y y' S2 => ?_
    have B2 := B.grow S2.grow
    have M2 : Bools h2 mv (turn l) := S2.sl1 0 rfl
    have ml : (turn l).length = l.length := by simp [turn]
    have hc := f9c (k := k + 11998) B2 (by omega) (by omega)
    repeat (first | (with_reducible apply Tl.val; focus (simp (disch := omega) only [coreA, goInt, Option.map_some, Nat.zero_add, Bool.not_true, Bool.not_false, Bool.true_and, Bool.false_and, Bool.and_true, Bool.and_false, cond_true, cond_false, beq_self_eq_true, Int.reduceBEq, decide_true, decide_false, Bool.or_true, Bool.or_false, Bool.true_or, Bool.false_or, ld3, ld4, ld5, ld22, ld25, ld32, bin_eql_bool u4, bin_neq_bool u4, hlen, hc] <;> with_reducible rfl)) | with_reducible refine Tl.brT ?_ | with_reducible refine Tl.brF ?_ | with_reducible refine Tl.gd_on ?_ | with_reducible refine Tl.gd3_on ?_ | (with_reducible refine Tl.brT' ?_ ?_; focus (simp (disch := omega) only [coreA, goInt, Option.map_some, Nat.zero_add, Bool.not_true, Bool.not_false, Bool.true_and, Bool.false_and, Bool.and_true, Bool.and_false, cond_true, cond_false, beq_self_eq_true, Int.reduceBEq, decide_true, decide_false, Bool.or_true, Bool.or_false, Bool.true_or, Bool.false_or, ld3, ld4, ld5, ld22, ld25, ld32, bin_eql_bool u4, bin_neq_bool u4, hlen, hc]; done)) | (with_reducible refine Tl.brF' ?_ ?_; focus (simp (disch := omega) only [coreA, goInt, Option.map_some, Nat.zero_add, Bool.not_true, Bool.not_false, Bool.true_and, Bool.false_and, Bool.and_true, Bool.and_false, cond_true, cond_false, beq_self_eq_true, Int.reduceBEq, decide_true, decide_false, Bool.or_true, Bool.or_false, Bool.true_or, Bool.false_or, ld3, ld4, ld5, ld22, ld25, ld32, bin_eql_bool u4, bin_neq_bool u4, hlen, hc]; done)) | (with_reducible refine Tl.gd_on' ?_ ?_; focus (simp (disch := omega) only [coreA, goInt, Option.map_some, Nat.zero_add, Bool.not_true, Bool.not_false, Bool.true_and, Bool.false_and, Bool.and_true, Bool.and_false, cond_true, cond_false, beq_self_eq_true, Int.reduceBEq, decide_true, decide_false, Bool.or_true, Bool.or_false, Bool.true_or, Bool.false_or, ld3, ld4, ld5, ld22, ld25, ld32, bin_eql_bool u4, bin_neq_bool u4, hlen, hc]; done)) | (with_reducible refine Tl.gd3_on' ?_ ?_; focus (simp (disch := omega) only [coreA, goInt, Option.map_some, Nat.zero_add, Bool.not_true, Bool.not_false, Bool.true_and, Bool.false_and, Bool.and_true, Bool.and_false, cond_true, cond_false, beq_self_eq_true, Int.reduceBEq, decide_true, decide_false, Bool.or_true, Bool.or_false, Bool.true_or, Bool.false_or, ld3, ld4, ld5, ld22, ld25, ld32, bin_eql_bool u4, bin_neq_bool u4, hlen, hc]; done)))
    refine Tl.callO S2 (f10c (k := k + 11997) B2 (by omega) (by omega) _) fun s h3 S3 g3 => ?_
    have es : spreadV l ((l.length : Int) - cnt l) = spreadL 0 l := by unfold spreadV; rw [if_pos rfl]
    rw [es] at S3
    refine Tl.callO S3 (f10c (k := k + 11997) (M2.grow g3) (by omega) (by omega) _) fun t h4 S4 g4 => ?_
    have et : spreadV (turn l) (cnt l) = spreadL 0 (turn l) := by
      unfold spreadV
      rw [if_pos (by rw [cnt_turn, ml]; omega)]
    rw [et] at S4
    have hc4 := f9c (k := k + 11998) ((M2.grow g3).grow g4) (by omega) (by omega)
    have hsl : ∀ h', pLen Try.prog #[25] s h' = some (.int .i64 l.length) := fun h' => by
      have := SlV.len (S4.slV 1 rfl) u25 (h' := h')
      rw [irows_len, spreadL_len] at this
      exact this
    have htl : ∀ h', pLen Try.prog #[25] t h' = some (.int .i64 l.length) := fun h' => by
      have := SlV.len (S4.slV 0 rfl) u25 (h' := h')
      rw [irows_len, spreadL_len, ml] at this
      exact this
    have hct := cnt_turn l
    repeat (first | (with_reducible apply Tl.val; focus (simp (disch := omega) only [coreA, goInt, Option.map_some, Nat.zero_add, Bool.not_true, Bool.not_false, Bool.true_and, Bool.false_and, Bool.and_true, Bool.and_false, cond_true, cond_false, beq_self_eq_true, Int.reduceBEq, decide_true, decide_false, Bool.or_true, Bool.or_false, Bool.true_or, Bool.false_or, ld3, ld4, ld5, ld22, ld25, ld32, bin_eql_bool u4, bin_neq_bool u4, hc4, hsl, htl, hlen] <;> with_reducible rfl)) | with_reducible refine Tl.brT ?_ | with_reducible refine Tl.brF ?_ | with_reducible refine Tl.gd_on ?_ | with_reducible refine Tl.gd3_on ?_ | (with_reducible refine Tl.brT' ?_ ?_; focus (simp (disch := omega) only [coreA, goInt, Option.map_some, Nat.zero_add, Bool.not_true, Bool.not_false, Bool.true_and, Bool.false_and, Bool.and_true, Bool.and_false, cond_true, cond_false, beq_self_eq_true, Int.reduceBEq, decide_true, decide_false, Bool.or_true, Bool.or_false, Bool.true_or, Bool.false_or, ld3, ld4, ld5, ld22, ld25, ld32, bin_eql_bool u4, bin_neq_bool u4, hc4, hsl, htl, hlen]; done)) | (with_reducible refine Tl.brF' ?_ ?_; focus (simp (disch := omega) only [coreA, goInt, Option.map_some, Nat.zero_add, Bool.not_true, Bool.not_false, Bool.true_and, Bool.false_and, Bool.and_true, Bool.and_false, cond_true, cond_false, beq_self_eq_true, Int.reduceBEq, decide_true, decide_false, Bool.or_true, Bool.or_false, Bool.true_or, Bool.false_or, ld3, ld4, ld5, ld22, ld25, ld32, bin_eql_bool u4, bin_neq_bool u4, hc4, hsl, htl, hlen]; done)) | (with_reducible refine Tl.gd_on' ?_ ?_; focus (simp (disch := omega) only [coreA, goInt, Option.map_some, Nat.zero_add, Bool.not_true, Bool.not_false, Bool.true_and, Bool.false_and, Bool.and_true, Bool.and_false, cond_true, cond_false, beq_self_eq_true, Int.reduceBEq, decide_true, decide_false, Bool.or_true, Bool.or_false, Bool.true_or, Bool.false_or, ld3, ld4, ld5, ld22, ld25, ld32, bin_eql_bool u4, bin_neq_bool u4, hc4, hsl, htl, hlen]; done)) | (with_reducible refine Tl.gd3_on' ?_ ?_; focus (simp (disch := omega) only [coreA, goInt, Option.map_some, Nat.zero_add, Bool.not_true, Bool.not_false, Bool.true_and, Bool.false_and, Bool.and_true, Bool.and_false, cond_true, cond_false, beq_self_eq_true, Int.reduceBEq, decide_true, decide_false, Bool.or_true, Bool.or_false, Bool.true_or, Bool.false_or, ld3, ld4, ld5, ld22, ld25, ld32, bin_eql_bool u4, bin_neq_bool u4, hc4, hsl, htl, hlen]; done)))
    refine f4_loop2 (k := k + 12000) (i := 0) (B.grow S4.grow) (S4.sl1 1 rfl) (S4.sl1 0 rfl) hl (spreadL_len l 0) ((spreadL_len _ 0).trans ml) (fun i x y hx hy => ?_) l.length (by omega) (by omega) fun y y' => ?_
    · have hi : i < l.length := by
        have := (List.getElem?_eq_some_iff.1 hx).1
        rwa [spreadL_len] at this
      obtain ⟨b, hb⟩ : ∃ x, l[i]? = some x := ⟨_, List.getElem?_eq_getElem hi⟩
      have h1 := spread_sign l 0 i b x hb hx
      have h2 := spread_sign (turn l) 0 i (!b) y (by simp [turn, hb]) hy
      rw [h1, h2]
      cases b <;> simp
    · refine Tl.bind (f11c (k := k + 11980) (B.grow S4.grow) (by omega) (by omega)) ?_
      rintro ⟨r, h5⟩ ⟨nv, sv, er, S5⟩
      simp only at er S5
      subst er
      have g5 := S5.grow
      have S5 := S4.join S5
      repeat (first | (with_reducible apply Tl.val; focus (simp (disch := omega) only [coreA, goInt, Option.map_some, Nat.zero_add, Bool.not_true, Bool.not_false, Bool.true_and, Bool.false_and, Bool.and_true, Bool.and_false, cond_true, cond_false, beq_self_eq_true, Int.reduceBEq, decide_true, decide_false, Bool.or_true, Bool.or_false, Bool.true_or, Bool.false_or, ld3, ld4, ld5, ld22, ld25, ld32, bin_eql_bool u4, bin_neq_bool u4, ex3_0, ex3_1, ex3_2] <;> with_reducible rfl)) | with_reducible refine Tl.brT ?_ | with_reducible refine Tl.brF ?_ | with_reducible refine Tl.gd_on ?_ | with_reducible refine Tl.gd3_on ?_ | (with_reducible refine Tl.brT' ?_ ?_; focus (simp (disch := omega) only [coreA, goInt, Option.map_some, Nat.zero_add, Bool.not_true, Bool.not_false, Bool.true_and, Bool.false_and, Bool.and_true, Bool.and_false, cond_true, cond_false, beq_self_eq_true, Int.reduceBEq, decide_true, decide_false, Bool.or_true, Bool.or_false, Bool.true_or, Bool.false_or, ld3, ld4, ld5, ld22, ld25, ld32, bin_eql_bool u4, bin_neq_bool u4, ex3_0, ex3_1, ex3_2]; done)) | (with_reducible refine Tl.brF' ?_ ?_; focus (simp (disch := omega) only [coreA, goInt, Option.map_some, Nat.zero_add, Bool.not_true, Bool.not_false, Bool.true_and, Bool.false_and, Bool.and_true, Bool.and_false, cond_true, cond_false, beq_self_eq_true, Int.reduceBEq, decide_true, decide_false, Bool.or_true, Bool.or_false, Bool.true_or, Bool.false_or, ld3, ld4, ld5, ld22, ld25, ld32, bin_eql_bool u4, bin_neq_bool u4, ex3_0, ex3_1, ex3_2]; done)) | (with_reducible refine Tl.gd_on' ?_ ?_; focus (simp (disch := omega) only [coreA, goInt, Option.map_some, Nat.zero_add, Bool.not_true, Bool.not_false, Bool.true_and, Bool.false_and, Bool.and_true, Bool.and_false, cond_true, cond_false, beq_self_eq_true, Int.reduceBEq, decide_true, decide_false, Bool.or_true, Bool.or_false, Bool.true_or, Bool.false_or, ld3, ld4, ld5, ld22, ld25, ld32, bin_eql_bool u4, bin_neq_bool u4, ex3_0, ex3_1, ex3_2]; done)) | (with_reducible refine Tl.gd3_on' ?_ ?_; focus (simp (disch := omega) only [coreA, goInt, Option.map_some, Nat.zero_add, Bool.not_true, Bool.not_false, Bool.true_and, Bool.false_and, Bool.and_true, Bool.and_false, cond_true, cond_false, beq_self_eq_true, Int.reduceBEq, decide_true, decide_false, Bool.or_true, Bool.or_false, Bool.true_or, Bool.false_or, ld3, ld4, ld5, ld22, ld25, ld32, bin_eql_bool u4, bin_neq_bool u4, ex3_0, ex3_1, ex3_2]; done)))
      refine Tl.bind (f11c (k := k + 11980) (((M2.grow g3).grow g4).grow g5) (by omega) (by omega)) ?_
      rintro ⟨r, h6⟩ ⟨nv2, sv2, er, S6⟩
      simp only at er S6
      subst er
      have g6 := S6.grow
      have S6 := S5.join S6
      have N1 : Nums h6 nv (lens (runsL l)) := (S5.sl1 0 rfl).grow g6
      have N2 : Nums h6 nv2 (lens (runsL (turn l))) := S6.sl1 0 rfl
      have l1 : (lens (runsL l)).length ≤ 300 := by have := runsL_len l; simp [lens]; omega
      have l2 : (lens (runsL (turn l))).length ≤ 300 := by have := runsL_len (turn l); simp [lens]; omega
      have hs := f13c (k := k + 11999) N1 N2 (by omega) (by omega) (by omega)
      rw [decide_eq_true (runsL_turn l).symm] at hs
      repeat (first | (with_reducible apply Tl.val; focus (simp (disch := omega) only [coreA, goInt, Option.map_some, Nat.zero_add, Bool.not_true, Bool.not_false, Bool.true_and, Bool.false_and, Bool.and_true, Bool.and_false, cond_true, cond_false, beq_self_eq_true, Int.reduceBEq, decide_true, decide_false, Bool.or_true, Bool.or_false, Bool.true_or, Bool.false_or, ld3, ld4, ld5, ld22, ld25, ld32, bin_eql_bool u4, bin_neq_bool u4, ex3_0, ex3_1, ex3_2, hs] <;> with_reducible rfl)) | with_reducible refine Tl.brT ?_ | with_reducible refine Tl.brF ?_ | with_reducible refine Tl.gd_on ?_ | with_reducible refine Tl.gd3_on ?_ | (with_reducible refine Tl.brT' ?_ ?_; focus (simp (disch := omega) only [coreA, goInt, Option.map_some, Nat.zero_add, Bool.not_true, Bool.not_false, Bool.true_and, Bool.false_and, Bool.and_true, Bool.and_false, cond_true, cond_false, beq_self_eq_true, Int.reduceBEq, decide_true, decide_false, Bool.or_true, Bool.or_false, Bool.true_or, Bool.false_or, ld3, ld4, ld5, ld22, ld25, ld32, bin_eql_bool u4, bin_neq_bool u4, ex3_0, ex3_1, ex3_2, hs]; done)) | (with_reducible refine Tl.brF' ?_ ?_; focus (simp (disch := omega) only [coreA, goInt, Option.map_some, Nat.zero_add, Bool.not_true, Bool.not_false, Bool.true_and, Bool.false_and, Bool.and_true, Bool.and_false, cond_true, cond_false, beq_self_eq_true, Int.reduceBEq, decide_true, decide_false, Bool.or_true, Bool.or_false, Bool.true_or, Bool.false_or, ld3, ld4, ld5, ld22, ld25, ld32, bin_eql_bool u4, bin_neq_bool u4, ex3_0, ex3_1, ex3_2, hs]; done)) | (with_reducible refine Tl.gd_on' ?_ ?_; focus (simp (disch := omega) only [coreA, goInt, Option.map_some, Nat.zero_add, Bool.not_true, Bool.not_false, Bool.true_and, Bool.false_and, Bool.and_true, Bool.and_false, cond_true, cond_false, beq_self_eq_true, Int.reduceBEq, decide_true, decide_false, Bool.or_true, Bool.or_false, Bool.true_or, Bool.false_or, ld3, ld4, ld5, ld22, ld25, ld32, bin_eql_bool u4, bin_neq_bool u4, ex3_0, ex3_1, ex3_2, hs]; done)) | (with_reducible refine Tl.gd3_on' ?_ ?_; focus (simp (disch := omega) only [coreA, goInt, Option.map_some, Nat.zero_add, Bool.not_true, Bool.not_false, Bool.true_and, Bool.false_and, Bool.and_true, Bool.and_false, cond_true, cond_false, beq_self_eq_true, Int.reduceBEq, decide_true, decide_false, Bool.or_true, Bool.or_false, Bool.true_or, Bool.false_or, ld3, ld4, ld5, ld22, ld25, ld32, bin_eql_bool u4, bin_neq_bool u4, ex3_0, ex3_1, ex3_2, hs]; done)))
      exact ⟨_, rfl, rfl⟩
  · repeat (first | (with_reducible apply Tl.val; focus (simp (disch := omega) only [coreA, goInt, Option.map_some, Nat.zero_add, Bool.not_true, Bool.not_false, Bool.true_and, Bool.false_and, Bool.and_true, Bool.and_false, cond_true, cond_false, beq_self_eq_true, Int.reduceBEq, decide_true, decide_false, Bool.or_true, Bool.or_false, Bool.true_or, Bool.false_or, ld3, ld4, ld5, ld22, ld25, ld32, bin_eql_bool u4, bin_neq_bool u4, lives_call, hlen] <;> with_reducible rfl)) | with_reducible refine Tl.brT ?_ | with_reducible refine Tl.brF ?_ | with_reducible refine Tl.gd_on ?_ | with_reducible refine Tl.gd3_on ?_ | (with_reducible refine Tl.brT' ?_ ?_; focus (simp (disch := omega) only [coreA, goInt, Option.map_some, Nat.zero_add, Bool.not_true, Bool.not_false, Bool.true_and, Bool.false_and, Bool.and_true, Bool.and_false, cond_true, cond_false, beq_self_eq_true, Int.reduceBEq, decide_true, decide_false, Bool.or_true, Bool.or_false, Bool.true_or, Bool.false_or, ld3, ld4, ld5, ld22, ld25, ld32, bin_eql_bool u4, bin_neq_bool u4, lives_call, hlen]; done)) | (with_reducible refine Tl.brF' ?_ ?_; focus (simp (disch := omega) only [coreA, goInt, Option.map_some, Nat.zero_add, Bool.not_true, Bool.not_false, Bool.true_and, Bool.false_and, Bool.and_true, Bool.and_false, cond_true, cond_false, beq_self_eq_true, Int.reduceBEq, decide_true, decide_false, Bool.or_true, Bool.or_false, Bool.true_or, Bool.false_or, ld3, ld4, ld5, ld22, ld25, ld32, bin_eql_bool u4, bin_neq_bool u4, lives_call, hlen]; done)) | (with_reducible refine Tl.gd_on' ?_ ?_; focus (simp (disch := omega) only [coreA, goInt, Option.map_some, Nat.zero_add, Bool.not_true, Bool.not_false, Bool.true_and, Bool.false_and, Bool.and_true, Bool.and_false, cond_true, cond_false, beq_self_eq_true, Int.reduceBEq, decide_true, decide_false, Bool.or_true, Bool.or_false, Bool.true_or, Bool.false_or, ld3, ld4, ld5, ld22, ld25, ld32, bin_eql_bool u4, bin_neq_bool u4, lives_call, hlen]; done)) | (with_reducible refine Tl.gd3_on' ?_ ?_; focus (simp (disch := omega) only [coreA, goInt, Option.map_some, Nat.zero_add, Bool.not_true, Bool.not_false, Bool.true_and, Bool.false_and, Bool.and_true, Bool.and_false, cond_true, cond_false, beq_self_eq_true, Int.reduceBEq, decide_true, decide_false, Bool.or_true, Bool.or_false, Bool.true_or, Bool.false_or, ld3, ld4, ld5, ld22, ld25, ld32, bin_eql_bool u4, bin_neq_bool u4, lives_call, hlen]; done)))
    exact ⟨_, rfl, rfl⟩
end Go.Proofs.Ytoleebigheobcaa.Sh
