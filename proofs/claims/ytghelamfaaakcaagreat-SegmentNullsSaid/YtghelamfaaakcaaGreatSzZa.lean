/- What 'zone.Compare' comes to. -/
import Derived.Test.YtghelamfaaakcaaGreatSzVf
set_option linter.unusedVariables false
set_option linter.unusedSimpArgs false
set_option maxRecDepth 100000
namespace Go.Proofs.YtghelamfaaakcaaGreat.Sh
open Go Go.RowKit Go.Proofs.Ev Go.Lib
theorem bzZa : type_of% (And.intro @ld3 (And.intro @ld2 (And.intro @ld9 (And.intro @fa31_0 (And.intro @fa31_1 (@fa31_2)))))) := And.intro @ld3 (And.intro @ld2 (And.intro @ld9 (And.intro @fa31_0 (And.intro @fa31_1 (@fa31_2)))))
/-- 'Compare'. -/
theorem f101c {k : Nat} (a b : CellD) (h : AH) : Tl (eInv env (k + 9) (.func 101) #[] #[a.v, b.v] h) fun r => r.1 = .int .i64 (a.cmp b) ∧ Grow h r.2 := by
  rw [F101_call]
  unfold F101
  refine Tl.box' (Stt.init h) rfl (by rw [sz31]; rfl) fun b1 h1 S1 _ => ?_
  refine Tl.box' S1 rfl (by rw [sz31]; rfl) fun b2 h2 S2 _ => ?_
  have a0 := S2.cell (o := 0) (v := .int .i64 a.k) 1 rfl rfl
  have a1 := S2.cell (o := 1) (v := .int .i64 a.i) 1 rfl rfl
  have a2 := S2.cell (o := 2) (v := .string a.s) 1 rfl rfl
  have c0 := S2.cell (o := 0) (v := .int .i64 b.k) 0 rfl rfl
  have c1 := S2.cell (o := 1) (v := .int .i64 b.i) 0 rfl rfl
  have c2 := S2.cell (o := 2) (v := .string b.s) 0 rfl rfl
  repeat (first | (with_reducible apply qzV; simp (disch := omega) only [coreA, Int.reduceBEq, bzZa, a0, a1, a2, c0, c1, c2, f124e, f136e, f137e, bs372, f135e _ _ _ (AH.get_alloc_new _ _)] <;> with_reducible rfl) | (with_reducible first | apply qzT | apply qzF | apply qzG | apply qzH) | ((with_reducible first | apply qzB | apply qzC | apply qzD); simp (disch := omega) only [coreA, Int.reduceBEq, bzZa, a0, a1, a2, c0, c1, c2, f124e, f136e, f137e, bs372, f135e _ _ _ (AH.get_alloc_new _ _)] <;> with_reducible rfl))
  simp only [ld3, ld2, ld9, Nat.zero_add, a0, a1, a2, c0, c1, c2, sameO_some, sameV_int, sameV_string, Bool.and_self, Bool.not_true, Bool.or_true, Bool.true_and, Bool.false_or, chkK_t]
  exact ⟨_, rfl, rfl, (S2.grow).trans (Grow.alloc _ _)⟩
end Go.Proofs.YtghelamfaaakcaaGreat.Sh
