/- Which texts are light. -/
import Derived.Test.YtagcejlclcldcaaSzXa
set_option linter.unusedVariables false
set_option linter.unusedSimpArgs false
set_option maxRecDepth 100000
namespace Go.Proofs.Ytagcejlclcldcaa.Sh
open Go Go.RowKit Go.Proofs.Ev
theorem base_W0 : type_of% (And.intro @ld3 (And.intro @ld9 (And.intro @ld22 (@Nat.add_zero)))) := And.intro @ld3 (And.intro @ld9 (And.intro @ld22 (@Nat.add_zero)))
theorem f9c {k : Nat} {h : AH} {v : Value} {l : List ByteArray} (A : Strs h v l) (hs : ∀ x ∈ l, x.size ≤ 2 ^ 47) (hl : l.length ≤ 9223372036854775807) (hk : 60 < k) : eInv env (k + 2) (.func 9) #[] #[v] h = some (.bool (lightT 60 600 l), h) := by
  have T : Tl (F9 (eInv env (k + 1)) (k + 1) v h) fun r => r = (.bool (lightT 60 600 l), h) := by
    unfold F9
    have hc := f26c (k := k) A hs hl 60 600 (by omega) (by omega) hk
    have e1 : ((60 : Nat) : Int) = 60 := rfl
    have e2 : ((600 : Nat) : Int) = 600 := rfl
    rw [e1, e2] at hc
    repeat (first | (with_reducible apply Tl.val; focus (simp (disch := omega) only [coreA, Int.reduceBEq, base_W0, hc] <;> with_reducible rfl)) | (with_reducible first | refine Tl.brT ?_ | refine Tl.brF ?_ | refine Tl.gd_on ?_ | refine Tl.gd3_on ?_) | ((with_reducible first | apply Tl.brC | apply Tl.gdC | apply Tl.gd3C); focus (simp (disch := omega) only [coreA, Int.reduceBEq, base_W0, hc] <;> with_reducible rfl)))
    exact ⟨_, rfl, rfl⟩
  obtain ⟨r, h1, h2⟩ := T
  rw [F9_call, h1, h2]
end Go.Proofs.Ytagcejlclcldcaa.Sh
