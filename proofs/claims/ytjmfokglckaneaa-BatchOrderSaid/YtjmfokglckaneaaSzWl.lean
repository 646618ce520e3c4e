/- The document's check of predicates. -/
import Derived.Test.YtjmfokglckaneaaSzWj
set_option linter.unusedVariables false
set_option linter.unusedSimpArgs false
set_option maxRecDepth 100000
namespace Go.Proofs.Ytjmfokglckaneaa.Sh
open Go Go.RowKit Go.Proofs.Ev
theorem base_Wl : type_of% (And.intro @ld3 (And.intro @ld2 (And.intro @ld4 (And.intro @ld9 (And.intro @ld36 (And.intro @ld45 (And.intro @ld80 (And.intro @ld59 (And.intro @fa45_0 (And.intro @fa45_1 (And.intro @fa45_2 (And.intro @fa80_0 (And.intro @fa80_1 (And.intro @fa80_2 (And.intro @fa59_0 (And.intro @fa59_1 (And.intro @fa59_2 (And.intro @fa59_3 (And.intro @Nat.add_zero (And.intro @ex2_0 (@ex2_1))))))))))))))))))))) := And.intro @ld3 (And.intro @ld2 (And.intro @ld4 (And.intro @ld9 (And.intro @ld36 (And.intro @ld45 (And.intro @ld80 (And.intro @ld59 (And.intro @fa45_0 (And.intro @fa45_1 (And.intro @fa45_2 (And.intro @fa80_0 (And.intro @fa80_1 (And.intro @fa80_2 (And.intro @fa59_0 (And.intro @fa59_1 (And.intro @fa59_2 (And.intro @fa59_3 (And.intro @Nat.add_zero (And.intro @ex2_0 (@ex2_1))))))))))))))))))))
theorem f41e {k : Nat} (op : Int) (h : AH) : eInv env (k + 1) (.func 41) #[] #[.int .i64 op] h = some (.bool (decide (2 ≤ op ∧ op ≤ 5)), h) := by
  rw [F41_call]
  have T : Tl (F41 (eInv env k) k (.int .i64 op) h) fun r => r = (.bool (decide (2 ≤ op ∧ op ≤ 5)), h) := by
    unfold F41
    by_cases q1 : 2 ≤ op
    · by_cases q2 : op ≤ 5
      · repeat (first | (with_reducible apply Tl.val; focus (simp (disch := omega) only [coreA, Int.reduceBEq, base_Wl] <;> with_reducible rfl)) | (with_reducible first | refine Tl.brT ?_ | refine Tl.brF ?_ | refine Tl.gd_on ?_ | refine Tl.gd3_on ?_) | ((with_reducible first | apply Tl.brC | apply Tl.gdC | apply Tl.gd3C); focus (simp (disch := omega) only [coreA, Int.reduceBEq, base_Wl] <;> with_reducible rfl)))
        exact ⟨_, rfl, by simp [q1, q2]⟩
      · repeat (first | (with_reducible apply Tl.val; focus (simp (disch := omega) only [coreA, Int.reduceBEq, base_Wl] <;> with_reducible rfl)) | (with_reducible first | refine Tl.brT ?_ | refine Tl.brF ?_ | refine Tl.gd_on ?_ | refine Tl.gd3_on ?_) | ((with_reducible first | apply Tl.brC | apply Tl.gdC | apply Tl.gd3C); focus (simp (disch := omega) only [coreA, Int.reduceBEq, base_Wl] <;> with_reducible rfl)))
        exact ⟨_, rfl, by simp [q1, q2]⟩
    · repeat (first | (with_reducible apply Tl.val; focus (simp (disch := omega) only [coreA, Int.reduceBEq, base_Wl] <;> with_reducible rfl)) | (with_reducible first | refine Tl.brT ?_ | refine Tl.brF ?_ | refine Tl.gd_on ?_ | refine Tl.gd3_on ?_) | ((with_reducible first | apply Tl.brC | apply Tl.gdC | apply Tl.gd3C); focus (simp (disch := omega) only [coreA, Int.reduceBEq, base_Wl] <;> with_reducible rfl)))
      exact ⟨_, rfl, by simp [q1]⟩
  obtain ⟨r, h1, h2⟩ := T
  rw [h1, h2]
section
variable {β : Type} {k : Nat} {Q : β → Prop} {h0 h : AH} {b1 : Nat} {cv pv : Value} {cols : List ColD} {nd : NodeD}
end
end Go.Proofs.Ytjmfokglckaneaa.Sh
