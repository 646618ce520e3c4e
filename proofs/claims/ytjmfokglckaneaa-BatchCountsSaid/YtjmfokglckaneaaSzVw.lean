/- Changes as they lie in memory; which batches are light. -/
import Derived.Test.YtjmfokglckaneaaSzVs
set_option linter.unusedVariables false
set_option linter.unusedSimpArgs false
set_option maxRecDepth 100000
namespace Go.Proofs.Ytjmfokglckaneaa.Sh
open Go Go.RowKit Go.Proofs.Ev
theorem base_Vw : type_of% (And.intro @ld3 (And.intro @ld36 (And.intro @ld37 (And.intro @ld23 (And.intro @ld35 (And.intro @ld39 (And.intro @fa39_0 (And.intro @fa39_1 (And.intro @fa39_2 (And.intro @fa39_3 (And.intro @fa39_4 (@Nat.add_zero)))))))))))) := And.intro @ld3 (And.intro @ld36 (And.intro @ld37 (And.intro @ld23 (And.intro @ld35 (And.intro @ld39 (And.intro @fa39_0 (And.intro @fa39_1 (And.intro @fa39_2 (And.intro @fa39_3 (And.intro @fa39_4 (@Nat.add_zero)))))))))))
def Changes (h : AH) (v : Value) (l : List ChangeD) : Prop := ∃ rows, SlZ Try.prog h v 5 rows ∧ All2 (ChangeR h) rows l
theorem Changes.grow {h h' : AH} {v : Value} {l : List ChangeD} (S : Changes h v l) (g : Grow h h') : Changes h' v l := by
  obtain ⟨rows, X, A⟩ := S
  exact ⟨rows, X.grow g, A.mono fun _ _ h => h.grow g⟩
theorem Changes.len {h h' : AH} {v : Value} {l : List ChangeD} (S : Changes h v l) : pLen Try.prog #[24] v h' = some (.int .i64 l.length) := by
  obtain ⟨rows, X, A⟩ := S
  rw [← A.len]
  exact X.len u24
theorem Changes.at_ {h : AH} {v : Value} {l : List ChangeD} (S : Changes h v l) {i : Nat} {c : ChangeD} (hi : l[i]? = some c) :
    ∃ b o rv pv cv tv, pIndexAddr Try.prog 24 v (.int .i64 i) = some (.pointer (some ⟨b, o, none⟩)) ∧ h.row b o 5 = some (chrow c.kind rv pv cv tv) ∧ ChangeF h rv pv cv tv c := by
  obtain ⟨rows, X, A⟩ := S
  obtain ⟨r, hr, rv, pv, cv, tv, e, F⟩ := A.get hi
  obtain ⟨b, o, h1, h2⟩ := X.at_ (k := .i64) hr u24 sz39
  exact ⟨b, o, rv, pv, cv, tv, h1, by rw [h2, e], F⟩
/-- All of a change is below a bound. -/
structure ChS (N : Nat) (c : ChangeD) : Prop where
  rows : c.rows.length < N
  row : ∀ r ∈ c.rows, r.length < N
  pred : c.pred.length < N
  cols : c.cols.length < N
  to : c.to.length < N
def lightCh (most : Int) (c : ChangeD) : Bool := lightRs c.rows most && (lightP c.pred && (decide (c.cols.length ≤ 20) && lightR c.to))
def lightB (l : List ChangeD) (most : Int) : Bool := l.all (lightCh most) && decide (l.length ≤ 18)
theorem f32_loop {β : Type} {k : Nat} {Q : β → Prop} {h : AH} {v : Value} {most : Int} {l : List ChangeD} (S : Changes h v l) (hl : l.length < 9223372036854775808) (hs : ∀ c ∈ l, ChS 9223372036854775808 c ∧ ChS k c)
    {ke0 : Value → Value → Value → Value → AH → Option β} {kr : Value → AH → Option β} (n : Nat) :
    ∀ {i j : Nat}, i + n = l.length → n < j → ((l.drop i).all (lightCh most) = true → ∀ y1 y2, Tl (ke0 v (.int .i64 most) y1 y2 h) Q) → ((l.drop i).all (lightCh most) = false → Tl (kr (.bool false) h) Q) →
      Tl (F32_lrlr (eInv env (k + 2)) (k + 2) j v (.int .i64 most) (.int .i64 i) h ke0 kr) Q := by
  have hv : ∀ h', pLen Try.prog #[24] v h' = some (.int .i64 l.length) := fun h' => S.len
  induction n with
  | zero =>
    intro i j hi hj hk hr
    obtain ⟨j, rfl⟩ : ∃ q, j = q + 1 := ⟨j - 1, by omega⟩
    simp only [F32_lrlr]
    repeat (first | (with_reducible apply Tl.val; focus (simp (disch := omega) only [coreA, Int.reduceBEq, base_Vw, hv] <;> with_reducible rfl)) | (with_reducible first | refine Tl.brT ?_ | refine Tl.brF ?_ | refine Tl.gd_on ?_ | refine Tl.gd3_on ?_) | ((with_reducible first | apply Tl.brC | apply Tl.gdC | apply Tl.gd3C); focus (simp (disch := omega) only [coreA, Int.reduceBEq, base_Vw, hv] <;> with_reducible rfl)))
    exact hk (by rw [List.drop_eq_nil_of_le (by omega)]; rfl) _ _
  | succ n ih =>
    intro i j hi hj hk hr
    obtain ⟨j, rfl⟩ : ∃ q, j = q + 1 := ⟨j - 1, by omega⟩
    obtain ⟨c, ec⟩ : ∃ x, l[i]? = some x := ⟨_, List.getElem?_eq_getElem (by omega)⟩
    obtain ⟨b, o, rv, pv, cv, tv, hp, hrow, F⟩ := S.at_ ec
    obtain ⟨s1, s2⟩ := hs c (List.mem_of_getElem? ec)
    have c1 : h.cell b (o + 1) = some rv := Ev.cell_of_row (j := 1) hrow (by omega)
    have c2 : h.cell b (o + 2) = some pv := Ev.cell_of_row (j := 2) hrow (by omega)
    have c3 : h.cell b (o + 3) = some cv := Ev.cell_of_row (j := 3) hrow (by omega)
    have c4 : h.cell b (o + 4) = some tv := Ev.cell_of_row (j := 4) hrow (by omega)
    have p1 := f31c (k := k) most F.1 (by have := s1.rows; omega) (fun r hr => ⟨by have := s1.row r hr; omega, s2.row r hr⟩) (by have := s2.rows; omega)
    have p2 := f51c (k := k + 1) F.2.1 (by have := s1.pred; omega) (by have := s2.pred; omega)
    have p3 : ∀ h', pLen Try.prog #[36] cv h' = some (.int .i64 c.cols.length) := fun h' => F.2.2.1.len
    have p4 := f50c (k := k + 1) F.2.2.2 (by have := s1.to; omega) (by have := s2.to; omega)
    have h3 := s1.cols
    have e : (i : Int) + 1 = ((i + 1 : Nat) : Int) := by omega
    rw [drop_at ec, List.all_cons] at hk hr
    unfold lightCh at hk hr
    simp only [F32_lrlr, G32_4]
    cases q1 : lightRs c.rows most with
    | false =>
      rw [q1] at p1
      rw [q1] at hr
      repeat (first | (with_reducible apply Tl.val; focus (simp (disch := omega) only [coreA, Int.reduceBEq, base_Vw, hv, hp, c1, p1] <;> with_reducible rfl)) | (with_reducible first | refine Tl.brT ?_ | refine Tl.brF ?_ | refine Tl.gd_on ?_ | refine Tl.gd3_on ?_) | ((with_reducible first | apply Tl.brC | apply Tl.gdC | apply Tl.gd3C); focus (simp (disch := omega) only [coreA, Int.reduceBEq, base_Vw, hv, hp, c1, p1] <;> with_reducible rfl)))
      exact hr rfl
    | true =>
    rw [q1] at p1
    cases q2 : lightP c.pred with
    | false =>
      rw [q2] at p2
      rw [q1, q2] at hr
      repeat (first | (with_reducible apply Tl.val; focus (simp (disch := omega) only [coreA, Int.reduceBEq, base_Vw, hv, hp, c1, p1, c2, p2] <;> with_reducible rfl)) | (with_reducible first | refine Tl.brT ?_ | refine Tl.brF ?_ | refine Tl.gd_on ?_ | refine Tl.gd3_on ?_) | ((with_reducible first | apply Tl.brC | apply Tl.gdC | apply Tl.gd3C); focus (simp (disch := omega) only [coreA, Int.reduceBEq, base_Vw, hv, hp, c1, p1, c2, p2] <;> with_reducible rfl)))
      exact hr rfl
    | true =>
    rw [q2] at p2
    by_cases q3 : c.cols.length ≤ 20
    · cases q4 : lightR c.to with
      | false =>
        rw [q4] at p4
        rw [q4, q1, q2, decide_eq_true q3] at hr
        repeat (first | (with_reducible apply Tl.val; focus (simp (disch := omega) only [coreA, Int.reduceBEq, base_Vw, hv, hp, c1, p1, c2, p2, c3, p3, c4, p4] <;> with_reducible rfl)) | (with_reducible first | refine Tl.brT ?_ | refine Tl.brF ?_ | refine Tl.gd_on ?_ | refine Tl.gd3_on ?_) | ((with_reducible first | apply Tl.brC | apply Tl.gdC | apply Tl.gd3C); focus (simp (disch := omega) only [coreA, Int.reduceBEq, base_Vw, hv, hp, c1, p1, c2, p2, c3, p3, c4, p4] <;> with_reducible rfl)))
        exact hr rfl
      | true =>
        rw [q4] at p4
        rw [q4, q1, q2, decide_eq_true q3, Bool.true_and, Bool.true_and, Bool.true_and, Bool.true_and] at hk hr
        repeat (first | (with_reducible apply Tl.val; focus (simp (disch := omega) only [coreA, Int.reduceBEq, base_Vw, hv, hp, c1, p1, c2, p2, c3, p3, c4, p4] <;> with_reducible rfl)) | (with_reducible first | refine Tl.brT ?_ | refine Tl.brF ?_ | refine Tl.gd_on ?_ | refine Tl.gd3_on ?_) | ((with_reducible first | apply Tl.brC | apply Tl.gdC | apply Tl.gd3C); focus (simp (disch := omega) only [coreA, Int.reduceBEq, base_Vw, hv, hp, c1, p1, c2, p2, c3, p3, c4, p4] <;> with_reducible rfl)))
        rw [e]
        exact ih (by omega) (by omega) hk hr
    · rw [q1, q2, decide_eq_false q3] at hr
      repeat (first | (with_reducible apply Tl.val; focus (simp (disch := omega) only [coreA, Int.reduceBEq, base_Vw, hv, hp, c1, p1, c2, p2, c3, p3] <;> with_reducible rfl)) | (with_reducible first | refine Tl.brT ?_ | refine Tl.brF ?_ | refine Tl.gd_on ?_ | refine Tl.gd3_on ?_) | ((with_reducible first | apply Tl.brC | apply Tl.gdC | apply Tl.gd3C); focus (simp (disch := omega) only [coreA, Int.reduceBEq, base_Vw, hv, hp, c1, p1, c2, p2, c3, p3] <;> with_reducible rfl)))
      exact hr rfl
theorem f32e {k : Nat} {h : AH} {v : Value} {l : List ChangeD} (most : Int) (S : Changes h v l) (hl : l.length < 9223372036854775808) (hs : ∀ c ∈ l, ChS 9223372036854775808 c ∧ ChS k c) (hk : l.length < k) :
    eInv env (k + 3) (.func 32) #[] #[v, .int .i64 most] h = some (.bool (lightB l most), h) := by
  rw [F32_call]
  have hv : ∀ h', pLen Try.prog #[24] v h' = some (.int .i64 l.length) := fun h' => S.len
  have T : Tl (F32 (eInv env (k + 2)) (k + 2) v (.int .i64 most) h) fun r => r = (.bool (lightB l most), h) := by
    unfold F32
    refine f32_loop S hl hs l.length (i := 0) (by omega) (by omega) (fun q y1 y2 => ?_) fun q => ⟨_, rfl, ?_⟩
    · rw [List.drop_zero] at q
      repeat (first | (with_reducible apply Tl.val; focus (simp (disch := omega) only [coreA, Int.reduceBEq, base_Vw, hv] <;> with_reducible rfl)) | (with_reducible first | refine Tl.brT ?_ | refine Tl.brF ?_ | refine Tl.gd_on ?_ | refine Tl.gd3_on ?_) | ((with_reducible first | apply Tl.brC | apply Tl.gdC | apply Tl.gd3C); focus (simp (disch := omega) only [coreA, Int.reduceBEq, base_Vw, hv] <;> with_reducible rfl)))
      refine ⟨_, rfl, ?_⟩
      unfold lightB
      rw [q, Bool.true_and]
      congr 2
      exact decide_eq_decide.2 (by omega)
    · rw [List.drop_zero] at q
      unfold lightB
      rw [q, Bool.false_and]
  obtain ⟨r, h1, h2⟩ := T
  rw [h1, h2]
end Go.Proofs.Ytjmfokglckaneaa.Sh
