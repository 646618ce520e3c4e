/- The document's answer for the octet's package: a reader's bytes, what is left. -/
import Derived.Test.YtagcejlclcldcaaSzRa
set_option linter.unusedVariables false
set_option linter.unusedSimpArgs false
set_option maxRecDepth 100000
namespace Go.Proofs.Ytagcejlclcldcaa.Sh
open Go Go.RowKit Go.Proofs.Ev
theorem base_Rc : type_of% (And.intro @ld3 (And.intro @ld5 (And.intro @ld48 (And.intro @ld30 (And.intro @ld84 (And.intro @fa84_0 (And.intro @nilCQ (And.intro @ex2_0 (@ex2_1))))))))) := And.intro @ld3 (And.intro @ld5 (And.intro @ld48 (And.intro @ld30 (And.intro @ld84 (And.intro @fa84_0 (And.intro @nilCQ (And.intro @ex2_0 (@ex2_1))))))))
section
variable {n0 : Nat} {h0 h : AH} {L : List (Nat × AO)} {O : List OS} {i br : Nat} {rv : Value} {rest : List Nat}
theorem f85n {k : Nat} (S : Stt Try.prog n0 h0 h L O) (hi : L[i]? = some (Qb br rv)) (R : RV L i rv rest) {n : Int} (hn : (rest.length : Int) < n) :
    eInv env (k + 1) (.func 85) #[] #[ptr br, .int .i64 n] h = some (.tuple #[.slice none 0 0, .int .i64 7], h) := by
  have T : Tl (F85 (eInv env k) k (ptr br) (.int .i64 n) h) fun r => r = (.tuple #[.slice none 0 0, .int .i64 7], h) := by
    unfold F85 ptr
    have c0 := S.cell i (o := 0) hi rfl
    have ll : ∀ h', pLen Try.prog #[30] rv h' = some (.int .i64 rest.length) := fun h' => (R.bytes S).len
    repeat (first | (with_reducible apply Tl.val; focus (simp (disch := omega) only [coreA, Int.reduceBEq, base_Rc, c0, ll] <;> with_reducible rfl)) | (with_reducible first | refine Tl.brT ?_ | refine Tl.brF ?_ | refine Tl.gd_on ?_ | refine Tl.gd3_on ?_) | ((with_reducible first | apply Tl.brC | apply Tl.gdC | apply Tl.gd3C); focus (simp (disch := omega) only [coreA, Int.reduceBEq, base_Rc, c0, ll] <;> with_reducible rfl)))
    exact ⟨_, rfl, rfl⟩
  obtain ⟨r, h1, h2⟩ := T
  rw [F85_call, h1, h2]
theorem f85c {k : Nat} (S : Stt Try.prog n0 h0 h L O) (hi : L[i]? = some (Qb br rv)) (R : RV L i rv rest) {n : Nat} (hn : n ≤ rest.length) (hl : rest.length ≤ 2 ^ 30) :
    Tl (eInv env (k + 3) (.func 85) #[] #[ptr br, .int .i64 n] h) fun r => ∃ v' rv', r.1 = .tuple #[v', .int .i64 0] ∧ Stt Try.prog n0 h0 r.2 (L.set i (Qb br rv')) ((v', 1, u8rows (rest.take n)) :: O) ∧ RV (L.set i (Qb br rv')) i rv' (rest.drop n) := by
  rw [F85_call]
  unfold F85 ptr
  have c0 := S.cell i (o := 0) hi rfl
  have ll : ∀ h', pLen Try.prog #[30] rv h' = some (.int .i64 rest.length) := fun h' => (R.bytes S).len
  repeat (first | (with_reducible apply Tl.val; focus (simp (disch := omega) only [coreA, Int.reduceBEq, base_Rc, c0, ll, bsE] <;> with_reducible rfl)) | (with_reducible first | refine Tl.brT ?_ | refine Tl.brF ?_ | refine Tl.gd_on ?_ | refine Tl.gd3_on ?_) | ((with_reducible first | apply Tl.brC | apply Tl.gdC | apply Tl.gd3C); focus (simp (disch := omega) only [coreA, Int.reduceBEq, base_Rc, c0, ll, bsE] <;> with_reducible rfl)))
  have X : OwnB Try.prog h.n (h.alloc (.cells [] 5 true)) (.slice (some ⟨h.n, 0, none⟩) 0 0) 1 [] :=
    .inr ⟨h.n, Nat.le_refl _, ⟨rfl, ⟨⟨[], 5, AH.get_alloc_new _ _, fun hq => absurd rfl hq⟩, fun r hr => by cases hr⟩, szOk_of (AH.get_alloc_new _ _) sz5⟩⟩
  have S1 := S.gain (Grow.alloc h _) X
  have c1 := S1.cell i (o := 0) hi rfl
  obtain ⟨tv, ht, Bt⟩ := (R.bytes S1).takeS hn
  repeat (first | (with_reducible apply Tl.val; focus (simp (disch := omega) only [coreA, Int.reduceBEq, base_Rc, c1, ht] <;> with_reducible rfl)) | (with_reducible first | refine Tl.brT ?_ | refine Tl.brF ?_ | refine Tl.gd_on ?_ | refine Tl.gd3_on ?_) | ((with_reducible first | apply Tl.brC | apply Tl.gdC | apply Tl.gd3C); focus (simp (disch := omega) only [coreA, Int.reduceBEq, base_Rc, c1, ht] <;> with_reducible rfl)))
  refine Tl.append' S1 0 rfl app30 Bt (one_u8rows _) (by simp; omega) fun v' h2 S2 => ?_
  have S2 : Stt Try.prog n0 h0 h2 L ((v', 1, u8rows (rest.take n)) :: O) := S2
  have c2 := S2.cell i (o := 0) hi rfl
  obtain ⟨rv', d1, d2, d3, d4, d5⟩ := R.drop S2 hn
  repeat (first | (with_reducible apply Tl.val; focus (simp (disch := omega) only [coreA, Int.reduceBEq, base_Rc, c2, d1] <;> with_reducible rfl)) | (with_reducible first | refine Tl.brT ?_ | refine Tl.brF ?_ | refine Tl.gd_on ?_ | refine Tl.gd3_on ?_) | ((with_reducible first | apply Tl.brC | apply Tl.gdC | apply Tl.gd3C); focus (simp (disch := omega) only [coreA, Int.reduceBEq, base_Rc, c2, d1] <;> with_reducible rfl)))
  refine Tl.store' S2 i hi sz30 d5 (by rw [d4]; simp [d3]) (of_decide_eq_true rfl) fun h' S' _ => ?_
  rw [d4] at S'
  exact ⟨_, rfl, v', rv', rfl, S', d2.set _⟩
end
end Go.Proofs.Ytagcejlclcldcaa.Sh
