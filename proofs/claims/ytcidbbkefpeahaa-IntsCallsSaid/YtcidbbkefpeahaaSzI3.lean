/- What is put in any form is got; columns held against each other. -/
import Derived.Test.YtcidbbkefpeahaaSzI1
import Derived.Test.YtcidbbkefpeahaaSzIe
set_option linter.unusedVariables false
set_option linter.unusedSimpArgs false
set_option maxRecDepth 100000
namespace Go.Proofs.Ytcidbbkefpeahaa.Sh
open Go Go.RowKit Go.Proofs.Ev
theorem base_I3 : type_of% (And.intro @ld3 (And.intro @ld2 (And.intro @ld26 (@ld5)))) := And.intro @ld3 (And.intro @ld2 (And.intro @ld26 (@ld5)))
theorem putI_len (l : List Int) : (putI l).length = min (plainB l).length (min (runsB l).length (packB l).length) := by
  unfold putI
  by_cases q1 : (runsB l).length < (plainB l).length
  · by_cases q2 : (packB l).length < (runsB l).length
    · simp only [if_pos q1, if_pos q2]; omega
    · simp only [if_pos q1, if_neg q2]; omega
  · by_cases q2 : (packB l).length < (plainB l).length
    · simp only [if_neg q1, if_pos q2]; omega
    · simp only [if_neg q1, if_neg q2]; omega
theorem f17_loop {β : Type} {k : Nat} {Q : β → Prop} {h : AH} {v w : Value} {l m : List Int} (S : Ints h v l) (T : Ints h w m) (hlm : l.length = m.length) (hl : l.length ≤ 2 ^ 40) {ke0 : Value → Value → Value → Value → AH → Option β} {kr : Value → AH → Option β} (n : Nat) :
    ∀ {i j : Nat}, i + n = l.length → n < j → (l.drop i = m.drop i → ∀ y y', Tl (ke0 v w y y' h) Q) → (l.drop i ≠ m.drop i → Tl (kr (.bool false) h) Q) → Tl (F17_lrlrr (eInv env k) k j v w (.int .i64 i) h ke0 kr) Q := by
  have hlen : ∀ h', pLen Try.prog #[25] v h' = some (.int .i64 l.length) := fun h' => Sl1.len S u25
  induction n with
  | zero =>
    intro i j hi hj hk hr
    obtain ⟨j, rfl⟩ : ∃ q, j = q + 1 := ⟨j - 1, by omega⟩
    simp only [F17_lrlrr]
    repeat (first | (with_reducible apply Tl.val; focus (simp (disch := omega) only [coreA, Int.reduceBEq, base_I3, hlen] <;> with_reducible rfl)) | (with_reducible first | refine Tl.brT ?_ | refine Tl.brF ?_ | refine Tl.gd_on ?_ | refine Tl.gd3_on ?_) | ((with_reducible first | apply Tl.brC | apply Tl.gdC | apply Tl.gd3C); focus (simp (disch := omega) only [coreA, Int.reduceBEq, base_I3, hlen] <;> with_reducible rfl)))
    exact hk (by rw [List.drop_eq_nil_of_le (by omega), List.drop_eq_nil_of_le (by omega)]) _ _
  | succ n ih =>
    intro i j hi hj hk hr
    obtain ⟨j, rfl⟩ : ∃ q, j = q + 1 := ⟨j - 1, by omega⟩
    obtain ⟨x, hx⟩ : ∃ x, l[i]? = some x := ⟨_, List.getElem?_eq_getElem (by omega)⟩
    obtain ⟨y, hy⟩ : ∃ x, m[i]? = some x := ⟨_, List.getElem?_eq_getElem (by omega)⟩
    obtain ⟨b, o, hp, hc⟩ := Sl1.at_ S (t := 25) (k := .i64) hx u25 sz2
    obtain ⟨b2, o2, hp2, hc2⟩ := Sl1.at_ T (t := 25) (k := .i64) hy u25 sz2
    have hc := hc h (Grow.refl _)
    have hc2 := hc2 h (Grow.refl _)
    rw [dropc hx, dropc hy] at hk hr
    have e : (i : Int) + 1 = ((i + 1 : Nat) : Int) := by omega
    simp only [F17_lrlrr]
    by_cases q : x = y
    · repeat (first | (with_reducible apply Tl.val; focus (simp (disch := omega) only [coreA, Int.reduceBEq, base_I3, hlen, hp, hc, hp2, hc2, i6v] <;> with_reducible rfl)) | (with_reducible first | refine Tl.brT ?_ | refine Tl.brF ?_ | refine Tl.gd_on ?_ | refine Tl.gd3_on ?_) | ((with_reducible first | apply Tl.brC | apply Tl.gdC | apply Tl.gd3C); focus (simp (disch := omega) only [coreA, Int.reduceBEq, base_I3, hlen, hp, hc, hp2, hc2, i6v] <;> with_reducible rfl)))
      rw [e]
      subst q
      exact ih (by omega) (by omega) (fun q => hk (by rw [q])) (fun q => hr (by simpa using q))
    · repeat (first | (with_reducible apply Tl.val; focus (simp (disch := omega) only [coreA, Int.reduceBEq, base_I3, hlen, hp, hc, hp2, hc2, i6v] <;> with_reducible rfl)) | (with_reducible first | refine Tl.brT ?_ | refine Tl.brF ?_ | refine Tl.gd_on ?_ | refine Tl.gd3_on ?_) | ((with_reducible first | apply Tl.brC | apply Tl.gdC | apply Tl.gd3C); focus (simp (disch := omega) only [coreA, Int.reduceBEq, base_I3, hlen, hp, hc, hp2, hc2, i6v] <;> with_reducible rfl)))
      exact hr (by simp [q])
theorem f17c {k : Nat} {h : AH} {v w : Value} {l m : List Int} (S : Ints h v l) (T : Ints h w m) (hl : l.length ≤ 2 ^ 40) (hm : m.length ≤ 2 ^ 40) (hk : l.length < k) : eInv env (k + 1) (.func 17) #[] #[v, w] h = some (.bool (decide (l = m)), h) := by
  have T : Tl (F17 (eInv env k) k v w h) fun r => r = (.bool (decide (l = m)), h) := by
    have hlen : ∀ h', pLen Try.prog #[25] v h' = some (.int .i64 l.length) := fun h' => Sl1.len S u25
    have hlen2 : ∀ h', pLen Try.prog #[25] w h' = some (.int .i64 m.length) := fun h' => Sl1.len T u25
    unfold F17
    by_cases e : l.length = m.length
    · repeat (first | (with_reducible apply Tl.val; focus (simp (disch := omega) only [coreA, Int.reduceBEq, base_I3, hlen, hlen2] <;> with_reducible rfl)) | (with_reducible first | refine Tl.brT ?_ | refine Tl.brF ?_ | refine Tl.gd_on ?_ | refine Tl.gd3_on ?_) | ((with_reducible first | apply Tl.brC | apply Tl.gdC | apply Tl.gd3C); focus (simp (disch := omega) only [coreA, Int.reduceBEq, base_I3, hlen, hlen2] <;> with_reducible rfl)))
      refine f17_loop S T e hl l.length (i := 0) (by omega) (by omega) (fun q y y' => ⟨_, rfl, ?_⟩) (fun q => ⟨_, rfl, ?_⟩)
      · have : l = m := by simpa using q
        simp [this]
      · have : l ≠ m := by simpa using q
        simp [this]
    · repeat (first | (with_reducible apply Tl.val; focus (simp (disch := omega) only [coreA, Int.reduceBEq, base_I3, hlen, hlen2] <;> with_reducible rfl)) | (with_reducible first | refine Tl.brT ?_ | refine Tl.brF ?_ | refine Tl.gd_on ?_ | refine Tl.gd3_on ?_) | ((with_reducible first | apply Tl.brC | apply Tl.gdC | apply Tl.gd3C); focus (simp (disch := omega) only [coreA, Int.reduceBEq, base_I3, hlen, hlen2] <;> with_reducible rfl)))
      have : l ≠ m := fun q => e (by rw [q])
      exact ⟨_, rfl, by simp [this]⟩
  obtain ⟨r, h1, h2⟩ := T
  rw [F17_call, h1, h2]
end Go.Proofs.Ytcidbbkefpeahaa.Sh
