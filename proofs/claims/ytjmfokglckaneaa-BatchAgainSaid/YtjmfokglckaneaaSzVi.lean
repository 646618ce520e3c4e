/- Rows that fit, as the document tells; the schema's own check of columns. -/
import Derived.Test.YtjmfokglckaneaaSzVh
set_option linter.unusedVariables false
set_option linter.unusedSimpArgs false
set_option maxRecDepth 100000
namespace Go.Proofs.Ytjmfokglckaneaa.Sh
open Go Go.RowKit Go.Proofs.Ev
theorem base_Vi : type_of% (And.intro @ld3 (And.intro @ld2 (And.intro @ld4 (And.intro @ld9 (And.intro @ld45 (And.intro @ld80 (And.intro @fa45_0 (And.intro @fa45_1 (And.intro @fa45_2 (And.intro @fa80_0 (And.intro @fa80_1 (And.intro @fa80_2 (@Nat.add_zero))))))))))))) := And.intro @ld3 (And.intro @ld2 (And.intro @ld4 (And.intro @ld9 (And.intro @ld45 (And.intro @ld80 (And.intro @fa45_0 (And.intro @fa45_1 (And.intro @fa45_2 (And.intro @fa80_0 (And.intro @fa80_1 (And.intro @fa80_2 (@Nat.add_zero))))))))))))
def colv (c : ColD) : Value := .agg #[.string c.name, .int .i64 c.kind, .bool c.null]
def fitC (c : ColD) (v : CellD) : Bool := cellOk v && (decide (v.k = c.kind) || (decide (v.k = 0) && c.null))
theorem f59c {k : Nat} (c : ColD) (v : CellD) (h : AH) : Tl (eInv env (k + 10) (.func 59) #[] #[colv c, v.v] h) fun r => (∃ e : Int, r.1 = .int .i64 e ∧ (e = 0 ↔ fitC c v = true)) ∧ Grow h r.2 := by
  rw [F59_call]
  unfold F59
  refine Tl.box' (Stt.init h) rfl (by rw [sz80]; rfl) fun b1 h1 S1 _ => ?_
  refine Tl.box' S1 rfl (by rw [sz45]; rfl) fun b2 h2 S2 _ => ?_
  have r3 : h2.row b2 0 3 = some (crow v) := S2.row 0 rfl rfl
  repeat (first | (with_reducible apply Tl.val; focus (simp (disch := omega) only [coreA, Int.reduceBEq, base_Vi, r3] <;> with_reducible rfl)) | (with_reducible first | refine Tl.brT ?_ | refine Tl.brF ?_ | refine Tl.gd_on ?_ | refine Tl.gd3_on ?_) | ((with_reducible first | apply Tl.brC | apply Tl.gdC | apply Tl.gd3C); focus (simp (disch := omega) only [coreA, Int.reduceBEq, base_Vi, r3] <;> with_reducible rfl)))
  refine Tl.call' S2 (f68c (k := k + 8) v h2) fun h3 S3 _ => ?_
  have c0 : h3.cell b2 0 = some (.int .i64 v.k) := S3.cell 0 rfl rfl
  have d1 : h3.cell b1 1 = some (.int .i64 c.kind) := S3.cell 1 rfl rfl
  have d2 : h3.cell b1 2 = some (.bool c.null) := S3.cell 1 rfl rfl
  unfold fitC
  cases q0 : cellOk v with
  | false =>
    simp only [Bool.false_eq_true, if_false]
    repeat (first | (with_reducible apply Tl.val; focus (simp (disch := omega) only [coreA, Int.reduceBEq, base_Vi] <;> with_reducible rfl)) | (with_reducible first | refine Tl.brT ?_ | refine Tl.brF ?_ | refine Tl.gd_on ?_ | refine Tl.gd3_on ?_) | ((with_reducible first | apply Tl.brC | apply Tl.gdC | apply Tl.gd3C); focus (simp (disch := omega) only [coreA, Int.reduceBEq, base_Vi] <;> with_reducible rfl)))
    exact ⟨_, rfl, ⟨160, rfl, by simp⟩, S3.grow⟩
  | true =>
    simp only [if_true]
    by_cases q1 : v.k = c.kind
    · repeat (first | (with_reducible apply Tl.val; focus (simp (disch := omega) only [coreA, Int.reduceBEq, base_Vi, c0, d1, d2] <;> with_reducible rfl)) | (with_reducible first | refine Tl.brT ?_ | refine Tl.brF ?_ | refine Tl.gd_on ?_ | refine Tl.gd3_on ?_) | ((with_reducible first | apply Tl.brC | apply Tl.gdC | apply Tl.gd3C); focus (simp (disch := omega) only [coreA, Int.reduceBEq, base_Vi, c0, d1, d2] <;> with_reducible rfl)))
      exact ⟨_, rfl, ⟨0, rfl, by simp [q1]⟩, S3.grow⟩
    · by_cases q2 : v.k = 0
      · cases q3 : c.null with
        | false =>
          rw [q3] at d2
          repeat (first | (with_reducible apply Tl.val; focus (simp (disch := omega) only [coreA, Int.reduceBEq, base_Vi, c0, d1, d2] <;> with_reducible rfl)) | (with_reducible first | refine Tl.brT ?_ | refine Tl.brF ?_ | refine Tl.gd_on ?_ | refine Tl.gd3_on ?_) | ((with_reducible first | apply Tl.brC | apply Tl.gdC | apply Tl.gd3C); focus (simp (disch := omega) only [coreA, Int.reduceBEq, base_Vi, c0, d1, d2] <;> with_reducible rfl)))
          exact ⟨_, rfl, ⟨173, rfl, by simp [q1]⟩, S3.grow⟩
        | true =>
          rw [q3] at d2
          repeat (first | (with_reducible apply Tl.val; focus (simp (disch := omega) only [coreA, Int.reduceBEq, base_Vi, c0, d1, d2] <;> with_reducible rfl)) | (with_reducible first | refine Tl.brT ?_ | refine Tl.brF ?_ | refine Tl.gd_on ?_ | refine Tl.gd3_on ?_) | ((with_reducible first | apply Tl.brC | apply Tl.gdC | apply Tl.gd3C); focus (simp (disch := omega) only [coreA, Int.reduceBEq, base_Vi, c0, d1, d2] <;> with_reducible rfl)))
          exact ⟨_, rfl, ⟨0, rfl, by simp [q2]⟩, S3.grow⟩
      · repeat (first | (with_reducible apply Tl.val; focus (simp (disch := omega) only [coreA, Int.reduceBEq, base_Vi, c0, d1, d2] <;> with_reducible rfl)) | (with_reducible first | refine Tl.brT ?_ | refine Tl.brF ?_ | refine Tl.gd_on ?_ | refine Tl.gd3_on ?_) | ((with_reducible first | apply Tl.brC | apply Tl.gdC | apply Tl.gd3C); focus (simp (disch := omega) only [coreA, Int.reduceBEq, base_Vi, c0, d1, d2] <;> with_reducible rfl)))
        exact ⟨_, rfl, ⟨173, rfl, by simp [q1, q2]⟩, S3.grow⟩
def fitsL : List ColD → List CellD → Bool
  | [], [] => true
  | c :: cs, v :: vs => fitC c v && fitsL cs vs
  | _, _ => false
def rowOk (cols : List ColD) (row : List CellD) : Bool := colsOk cols && (decide (row.length = cols.length) && fitsL cols row)
theorem f35_loop {β : Type} {k : Nat} {Q : β → Prop} {h0 : AH} {cv rv : Value} {cols : List ColD} {row : List CellD} (C : Cols h0 cv cols) (R : Cells h0 rv row) (hlen : row.length = cols.length) (hl : cols.length ≤ 16) {ke0 : Value → Value → Value → Value → AH → Option β} {kr : Value → AH → Option β} (n : Nat) :
    ∀ {i j : Nat} {h : AH}, i + n = row.length → n < j → Grow h0 h → (fitsL (cols.drop i) (row.drop i) = true → ∀ y1 y2 y3 y4 h', Grow h0 h' → Tl (ke0 y1 y2 y3 y4 h') Q) → (fitsL (cols.drop i) (row.drop i) = false → ∀ e h', e ≠ 0 → Grow h0 h' → Tl (kr (.int .i64 e) h') Q) →
      Tl (F35_lrlrrrr (eInv env (k + 20)) (k + 20) j cv rv (.int .i64 i) h ke0 kr) Q := by
  have hv : ∀ h', pLen Try.prog #[37] rv h' = some (.int .i64 row.length) := fun h' => R.len
  induction n with
  | zero =>
    intro i j h hi hj g hk hr
    obtain ⟨j, rfl⟩ : ∃ q, j = q + 1 := ⟨j - 1, by omega⟩
    simp only [F35_lrlrrrr]
    repeat (first | (with_reducible apply Tl.val; focus (simp (disch := omega) only [coreA, Int.reduceBEq, base_Vi, hv] <;> with_reducible rfl)) | (with_reducible first | refine Tl.brT ?_ | refine Tl.brF ?_ | refine Tl.gd_on ?_ | refine Tl.gd3_on ?_) | ((with_reducible first | apply Tl.brC | apply Tl.gdC | apply Tl.gd3C); focus (simp (disch := omega) only [coreA, Int.reduceBEq, base_Vi, hv] <;> with_reducible rfl)))
    exact hk (by rw [List.drop_eq_nil_of_le (by omega), List.drop_eq_nil_of_le (by omega)]; rfl) _ _ _ _ _ g
  | succ n ih =>
    intro i j h hi hj g hk hr
    obtain ⟨j, rfl⟩ : ∃ q, j = q + 1 := ⟨j - 1, by omega⟩
    obtain ⟨x, ex⟩ : ∃ x, row[i]? = some x := ⟨_, List.getElem?_eq_getElem (by omega)⟩
    obtain ⟨c, ec⟩ : ∃ x, cols[i]? = some x := ⟨_, List.getElem?_eq_getElem (by omega)⟩
    obtain ⟨b, o, hp, hrow⟩ := R.at_ ex
    obtain ⟨b2, o2, hp2, hrow2⟩ := C.at_ ec
    have hrow' := g.row hrow
    have hrow2' := g.row hrow2
    have e : (i : Int) + 1 = ((i + 1 : Nat) : Int) := by omega
    rw [drop_at ex, drop_at ec, fitsL] at hk hr
    simp only [F35_lrlrrrr]
    repeat (first | (with_reducible apply Tl.val; focus (simp (disch := omega) only [coreA, Int.reduceBEq, base_Vi, hv, hp, hrow', hp2, hrow2'] <;> with_reducible rfl)) | (with_reducible first | refine Tl.brT ?_ | refine Tl.brF ?_ | refine Tl.gd_on ?_ | refine Tl.gd3_on ?_) | ((with_reducible first | apply Tl.brC | apply Tl.gdC | apply Tl.gd3C); focus (simp (disch := omega) only [coreA, Int.reduceBEq, base_Vi, hv, hp, hrow', hp2, hrow2'] <;> with_reducible rfl)))
    refine Tl.bind (f59c (k := k + 10) c x h) ?_
    rintro ⟨r, h1⟩ ⟨⟨e1, er, he⟩, g1⟩
    simp only at er g1
    subst er
    by_cases q : e1 = 0
    · have q' := he.1 q
      rw [q', Bool.true_and] at hk hr
      repeat (first | (with_reducible apply Tl.val; focus (simp (disch := omega) only [coreA, Int.reduceBEq, base_Vi] <;> with_reducible rfl)) | (with_reducible first | refine Tl.brT ?_ | refine Tl.brF ?_ | refine Tl.gd_on ?_ | refine Tl.gd3_on ?_) | ((with_reducible first | apply Tl.brC | apply Tl.gdC | apply Tl.gd3C); focus (simp (disch := omega) only [coreA, Int.reduceBEq, base_Vi] <;> with_reducible rfl)))
      rw [e]
      exact ih (by omega) (by omega) (g.trans g1) hk hr
    · have q' : fitC c x = false := by
        cases hf : fitC c x with
        | false => rfl
        | true => exact absurd (he.2 hf) q
      rw [q', Bool.false_and] at hr
      repeat (first | (with_reducible apply Tl.val; focus (simp (disch := omega) only [coreA, Int.reduceBEq, base_Vi] <;> with_reducible rfl)) | (with_reducible first | refine Tl.brT ?_ | refine Tl.brF ?_ | refine Tl.gd_on ?_ | refine Tl.gd3_on ?_) | ((with_reducible first | apply Tl.brC | apply Tl.gdC | apply Tl.gd3C); focus (simp (disch := omega) only [coreA, Int.reduceBEq, base_Vi] <;> with_reducible rfl)))
      exact hr rfl e1 _ q (g.trans g1)
theorem f35c {k : Nat} {h : AH} {cv rv : Value} {cols : List ColD} {row : List CellD} (C : Cols h cv cols) (R : Cells h rv row) (hl : cols.length ≤ 9223372036854775807) (hl2 : row.length ≤ 9223372036854775807) :
    Tl (eInv env (k + 300) (.func 35) #[] #[cv, rv] h) fun r => (∃ e : Int, r.1 = .int .i64 e ∧ (e = 0 ↔ rowOk cols row = true)) ∧ Grow h r.2 := by
  rw [F35_call]
  unfold F35 rowOk
  have hv : ∀ h', pLen Try.prog #[37] rv h' = some (.int .i64 row.length) := fun h' => R.len
  have hv2 : ∀ h', pLen Try.prog #[22] cv h' = some (.int .i64 cols.length) := fun h' => C.len
  obtain ⟨e, hc, he⟩ := f43e (k := k + 98) C hl
  by_cases q : e = 0
  · have q' := he.1 q
    have hl16 : cols.length ≤ 16 := by
      unfold colsOk at q'
      simp at q'
      omega
    rw [q', Bool.true_and]
    by_cases q2 : row.length = cols.length
    · have q2' : (row.length : Int) = cols.length := by omega
      rw [decide_eq_true q2, Bool.true_and]
      repeat (first | (with_reducible apply Tl.val; focus (simp (disch := omega) only [coreA, Int.reduceBEq, base_Vi, hc, hv, hv2] <;> with_reducible rfl)) | (with_reducible first | refine Tl.brT ?_ | refine Tl.brF ?_ | refine Tl.gd_on ?_ | refine Tl.gd3_on ?_) | ((with_reducible first | apply Tl.brC | apply Tl.gdC | apply Tl.gd3C); focus (simp (disch := omega) only [coreA, Int.reduceBEq, base_Vi, hc, hv, hv2] <;> with_reducible rfl)))
      refine f35_loop (k := k + 279) C R q2 hl16 row.length (i := 0) (by omega) (by omega) (Grow.refl _) (fun q3 y1 y2 y3 y4 h' g => ?_) fun q3 e' h' hne g => ?_
      · rw [List.drop_zero, List.drop_zero] at q3
        exact ⟨_, rfl, ⟨0, rfl, by simp [q3]⟩, g⟩
      · rw [List.drop_zero, List.drop_zero] at q3
        exact ⟨_, rfl, ⟨e', rfl, by simp [q3, hne]⟩, g⟩
    · have q2' : ¬ (row.length : Int) = cols.length := by omega
      rw [decide_eq_false q2, Bool.false_and]
      repeat (first | (with_reducible apply Tl.val; focus (simp (disch := omega) only [coreA, Int.reduceBEq, base_Vi, hc, hv, hv2] <;> with_reducible rfl)) | (with_reducible first | refine Tl.brT ?_ | refine Tl.brF ?_ | refine Tl.gd_on ?_ | refine Tl.gd3_on ?_) | ((with_reducible first | apply Tl.brC | apply Tl.gdC | apply Tl.gd3C); focus (simp (disch := omega) only [coreA, Int.reduceBEq, base_Vi, hc, hv, hv2] <;> with_reducible rfl)))
      exact ⟨_, rfl, ⟨173, rfl, by simp⟩, Grow.refl _⟩
  · have q' : colsOk cols = false := by
      cases hf : colsOk cols with
      | false => rfl
      | true => exact absurd (he.2 hf) q
    rw [q', Bool.false_and]
    repeat (first | (with_reducible apply Tl.val; focus (simp (disch := omega) only [coreA, Int.reduceBEq, base_Vi, hc, hv, hv2] <;> with_reducible rfl)) | (with_reducible first | refine Tl.brT ?_ | refine Tl.brF ?_ | refine Tl.gd_on ?_ | refine Tl.gd3_on ?_) | ((with_reducible first | apply Tl.brC | apply Tl.gdC | apply Tl.gd3C); focus (simp (disch := omega) only [coreA, Int.reduceBEq, base_Vi, hc, hv, hv2] <;> with_reducible rfl)))
    exact ⟨_, rfl, ⟨e, rfl, by simp [q]⟩, Grow.refl _⟩
/-! ### The schema's own check -/
end Go.Proofs.Ytjmfokglckaneaa.Sh
