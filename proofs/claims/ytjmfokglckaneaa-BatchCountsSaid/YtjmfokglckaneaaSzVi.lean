/- Rows that fit, as the document tells; the schema's own check of columns. -/
import Derived.Test.YtjmfokglckaneaaSzVh
set_option linter.unusedVariables false
set_option linter.unusedSimpArgs false
set_option maxRecDepth 100000
namespace Go.Proofs.Ytjmfokglckaneaa.Sh
open Go Go.RowKit Go.Proofs.Ev
theorem base_Vi : type_of% (And.intro @ld3 (And.intro @ld2 (And.intro @ld4 (And.intro @ld9 (And.intro @ld45 (And.intro @ld80 (And.intro @fa45_0 (And.intro @fa45_1 (And.intro @fa45_2 (And.intro @fa80_0 (And.intro @fa80_1 (And.intro @fa80_2 (@Nat.add_zero))))))))))))) := And.intro @ld3 (And.intro @ld2 (And.intro @ld4 (And.intro @ld9 (And.intro @ld45 (And.intro @ld80 (And.intro @fa45_0 (And.intro @fa45_1 (And.intro @fa45_2 (And.intro @fa80_0 (And.intro @fa80_1 (And.intro @fa80_2 (@Nat.add_zero))))))))))))
def colv (c : ColD) : Value := .agg #[.string c.name, .int .i64 c.kind, .bool c.null]
def fitC (c : ColD) (v : CellD) : Bool := cellOk v && (decide (v.k = c.kind) || (decide (v.k = 0) && c.null))
theorem f59c {k : Nat} (c : ColD) (v : CellD) (h : AH) : Tl (eInv env (k + 10) (.func 59) #[] #[colv c, v.v] h) fun r => (∃ e : Int, r.1 = .int .i64 e ∧ (e = 0 ↔ fitC c v = true)) ∧ Grow h r.2 := by
  rw [F59_call]
  unfold F59
  refine Tl.box' (Stt.init h) rfl (by rw [sz80]; rfl) fun b1 h1 S1 _ => ?_
  refine Tl.box' S1 rfl (by rw [sz45]; rfl) fun b2 h2 S2 _ => ?_
  have r3 : h2.row b2 0 3 = some (crow v) := S2.row 0 rfl rfl
  repeat (first | (with_reducible apply Tl.val; focus (simp (disch := omega) only [coreA, Int.reduceBEq, base_Vi, r3] <;> with_reducible rfl)) | (with_reducible first | refine Tl.brT ?_ | refine Tl.brF ?_ | refine Tl.gd_on ?_ | refine Tl.gd3_on ?_) | ((with_reducible first | apply Tl.brC | apply Tl.gdC | apply Tl.gd3C); focus (simp (disch := omega) only [coreA, Int.reduceBEq, base_Vi, r3] <;> with_reducible rfl)))
  refine Tl.call' S2 (f68c (k := k + 8) v h2) fun h3 S3 _ => ?_
  have c0 : h3.cell b2 0 = some (.int .i64 v.k) := S3.cell 0 rfl rfl
  have d1 : h3.cell b1 1 = some (.int .i64 c.kind) := S3.cell 1 rfl rfl
  have d2 : h3.cell b1 2 = some (.bool c.null) := S3.cell 1 rfl rfl
  unfold fitC
  cases q0 : cellOk v with
  | false =>
    simp only [Bool.false_eq_true, if_false]
    repeat (first | (with_reducible apply Tl.val; focus (simp (disch := omega) only [coreA, Int.reduceBEq, base_Vi] <;> with_reducible rfl)) | (with_reducible first | refine Tl.brT ?_ | refine Tl.brF ?_ | refine Tl.gd_on ?_ | refine Tl.gd3_on ?_) | ((with_reducible first | apply Tl.brC | apply Tl.gdC | apply Tl.gd3C); focus (simp (disch := omega) only [coreA, Int.reduceBEq, base_Vi] <;> with_reducible rfl)))
    exact ⟨_, rfl, ⟨160, rfl, by simp⟩, S3.grow⟩
  | true =>
    simp only [if_true]
    by_cases q1 : v.k = c.kind
    · repeat (first | (with_reducible apply Tl.val; focus (simp (disch := omega) only [coreA, Int.reduceBEq, base_Vi, c0, d1, d2] <;> with_reducible rfl)) | (with_reducible first | refine Tl.brT ?_ | refine Tl.brF ?_ | refine Tl.gd_on ?_ | refine Tl.gd3_on ?_) | ((with_reducible first | apply Tl.brC | apply Tl.gdC | apply Tl.gd3C); focus (simp (disch := omega) only [coreA, Int.reduceBEq, base_Vi, c0, d1, d2] <;> with_reducible rfl)))
      exact ⟨_, rfl, ⟨0, rfl, by simp [q1]⟩, S3.grow⟩
    · by_cases q2 : v.k = 0
      · cases q3 : c.null with
        | false =>
          rw [q3] at d2
          repeat (first | (with_reducible apply Tl.val; focus (simp (disch := omega) only [coreA, Int.reduceBEq, base_Vi, c0, d1, d2] <;> with_reducible rfl)) | (with_reducible first | refine Tl.brT ?_ | refine Tl.brF ?_ | refine Tl.gd_on ?_ | refine Tl.gd3_on ?_) | ((with_reducible first | apply Tl.brC | apply Tl.gdC | apply Tl.gd3C); focus (simp (disch := omega) only [coreA, Int.reduceBEq, base_Vi, c0, d1, d2] <;> with_reducible rfl)))
          exact ⟨_, rfl, ⟨173, rfl, by simp [q1]⟩, S3.grow⟩
        | true =>
          rw [q3] at d2
          repeat (first | (with_reducible apply Tl.val; focus (simp (disch := omega) only [coreA, Int.reduceBEq, base_Vi, c0, d1, d2] <;> with_reducible rfl)) | (with_reducible first | refine Tl.brT ?_ | refine Tl.brF ?_ | refine Tl.gd_on ?_ | refine Tl.gd3_on ?_) | ((with_reducible first | apply Tl.brC | apply Tl.gdC | apply Tl.gd3C); focus (simp (disch := omega) only [coreA, Int.reduceBEq, base_Vi, c0, d1, d2] <;> with_reducible rfl)))
          exact ⟨_, rfl, ⟨0, rfl, by simp [q2]⟩, S3.grow⟩
      · repeat (first | (with_reducible apply Tl.val; focus (simp (disch := omega) only [coreA, Int.reduceBEq, base_Vi, c0, d1, d2] <;> with_reducible rfl)) | (with_reducible first | refine Tl.brT ?_ | refine Tl.brF ?_ | refine Tl.gd_on ?_ | refine Tl.gd3_on ?_) | ((with_reducible first | apply Tl.brC | apply Tl.gdC | apply Tl.gd3C); focus (simp (disch := omega) only [coreA, Int.reduceBEq, base_Vi, c0, d1, d2] <;> with_reducible rfl)))
        exact ⟨_, rfl, ⟨173, rfl, by simp [q1, q2]⟩, S3.grow⟩
def fitsL : List ColD → List CellD → Bool
  | [], [] => true
  | c :: cs, v :: vs => fitC c v && fitsL cs vs
  | _, _ => false
def rowOk (cols : List ColD) (row : List CellD) : Bool := colsOk cols && (decide (row.length = cols.length) && fitsL cols row)
theorem f35_loop {β : Type} {k : Nat} {Q : β → Prop} {h0 : AH} {cv rv : Value} {cols : List ColD} {row : List CellD} (C : Cols h0 cv cols) (R : Cells h0 rv row) (hlen : row.length = cols.length) (hl : cols.length ≤ 16) {ke0 : Value → Value → Value → Value → AH → Option β} {kr : Value → AH → Option β} (n : Nat) :
    ∀ {i j : Nat} {h : AH}, i + n = row.length → n < j → Grow h0 h → (fitsL (cols.drop i) (row.drop i) = true → ∀ y1 y2 y3 y4 h', Grow h0 h' → Tl (ke0 y1 y2 y3 y4 h') Q) → (fitsL (cols.drop i) (row.drop i) = false → ∀ e h', e ≠ 0 → Grow h0 h' → Tl (kr (.int .i64 e) h') Q) →
      Tl (F35_lrlrrrr (eInv env (k + 20)) (k + 20) j cv rv (.int .i64 i) h ke0 kr) Q := by
  have hv : ∀ h', pLen Try.prog #[37] rv h' = some (.int .i64 row.length) := fun h' => R.len
  induction n with
  | zero =>
    intro i j h hi hj g hk hr
    obtain ⟨j, rfl⟩ : ∃ q, j = q + 1 := ⟨j - 1, by omega⟩
    simp only [F35_lrlrrrr]
    repeat (first | (with_reducible apply Tl.val; focus (simp (disch := omega) only [coreA, Int.reduceBEq, base_Vi, hv] <;> with_reducible rfl)) | (with_reducible first | refine Tl.brT ?_ | refine Tl.brF ?_ | refine Tl.gd_on ?_ | refine Tl.gd3_on ?_) | ((with_reducible first | apply Tl.brC | apply Tl.gdC | apply Tl.gd3C); focus (simp (disch := omega) only [coreA, Int.reduceBEq, base_Vi, hv] <;> with_reducible rfl)))
    exact hk (by rw [List.drop_eq_nil_of_le (by omega), List.drop_eq_nil_of_le (by omega)]; rfl) _ _ _ _ _ g
  | succ n ih =>
    intro i j h hi hj g hk hr
    obtain ⟨j, rfl⟩ : ∃ q, j = q + 1 := ⟨j - 1, by omega⟩
    obtain ⟨x, ex⟩ : ∃ x, row[i]? = some x := ⟨_, List.getElem?_eq_getElem (by omega)⟩
    obtain ⟨c, ec⟩ : ∃ x, cols[i]? = some x := ⟨_, List.getElem?_eq_getElem (by omega)⟩
    obtain ⟨b, o, hp, hrow⟩ := R.at_ ex
    obtain ⟨b2, o2, hp2, hrow2⟩ := C.at_ ec
    have hrow' := g.row hrow
    have hrow2' := g.row hrow2
    have e : (i : Int) + 1 = ((i + 1 : Nat) : Int) := by omega
    rw [drop_at ex, drop_at ec, fitsL] at hk hr
    simp only [F35_lrlrrrr]
    repeat (first | (with_reducible apply Tl.val; focus (simp (disch := omega) only [coreA, Int.reduceBEq, base_Vi, hv, hp, hrow', hp2, hrow2'] <;> with_reducible rfl)) | (with_reducible first | refine Tl.brT ?_ | refine Tl.brF ?_ | refine Tl.gd_on ?_ | refine Tl.gd3_on ?_) | ((with_reducible first | apply Tl.brC | apply Tl.gdC | apply Tl.gd3C); focus (simp (disch := omega) only [coreA, Int.reduceBEq, base_Vi, hv, hp, hrow', hp2, hrow2'] <;> with_reducible rfl)))
    refine Tl.bind (f59c (k := k + 10) c x h) ?_
    rintro ⟨r, h1⟩ ⟨⟨e1, er, he⟩, g1⟩
    simp only at er g1
    subst er
    by_cases q : e1 = 0
    · have q' := he.1 q
      rw [q', Bool.true_and] at hk hr
      repeat (first | (with_reducible apply Tl.val; focus (simp (disch := omega) only [coreA, Int.reduceBEq, base_Vi] <;> with_reducible rfl)) | (with_reducible first | refine Tl.brT ?_ | refine Tl.brF ?_ | refine Tl.gd_on ?_ | refine Tl.gd3_on ?_) | ((with_reducible first | apply Tl.brC | apply Tl.gdC | apply Tl.gd3C); focus (simp (disch := omega) only [coreA, Int.reduceBEq, base_Vi] <;> with_reducible rfl)))
      rw [e]
      exact ih (by omega) (by omega) (g.trans g1) hk hr
    · have q' : fitC c x = false := by
        cases hf : fitC c x with
        | false => rfl
        | true => exact absurd (he.2 hf) q
      rw [q', Bool.false_and] at hr
      repeat (first | (with_reducible apply Tl.val; focus (simp (disch := omega) only [coreA, Int.reduceBEq, base_Vi] <;> with_reducible rfl)) | (with_reducible first | refine Tl.brT ?_ | refine Tl.brF ?_ | refine Tl.gd_on ?_ | refine Tl.gd3_on ?_) | ((with_reducible first | apply Tl.brC | apply Tl.gdC | apply Tl.gd3C); focus (simp (disch := omega) only [coreA, Int.reduceBEq, base_Vi] <;> with_reducible rfl)))
      exact hr rfl e1 _ q (g.trans g1)
theorem f35c {k : Nat} {h : AH} {cv rv : Value} {cols : List ColD} {row : List CellD} (C : Cols h cv cols) (R : Cells h rv row) (hl : cols.length ≤ 9223372036854775807) (hl2 : row.length ≤ 9223372036854775807) :
    Tl (eInv env (k + 300) (.func 35) #[] #[cv, rv] h) fun r => (∃ e : Int, r.1 = .int .i64 e ∧ (e = 0 ↔ rowOk cols row = true)) ∧ Grow h r.2 := by
  rw [F35_call]
  unfold F35 rowOk
  have hv : ∀ h', pLen Try.prog #[37] rv h' = some (.int .i64 row.length) := fun h' => R.len
  have hv2 : ∀ h', pLen Try.prog #[22] cv h' = some (.int .i64 cols.length) := fun h' => C.len
  obtain ⟨e, hc, he⟩ := f43e (k := k + 98) C hl
  by_cases q : e = 0
  · have q' := he.1 q
    have hl16 : cols.length ≤ 16 := by
      unfold colsOk at q'
      simp at q'
      omega
    rw [q', Bool.true_and]
    by_cases q2 : row.length = cols.length
    · have q2' : (row.length : Int) = cols.length := by omega
      rw [decide_eq_true q2, Bool.true_and]
      repeat (first | (with_reducible apply Tl.val; focus (simp (disch := omega) only [coreA, Int.reduceBEq, base_Vi, hc, hv, hv2] <;> with_reducible rfl)) | (with_reducible first | refine Tl.brT ?_ | refine Tl.brF ?_ | refine Tl.gd_on ?_ | refine Tl.gd3_on ?_) | ((with_reducible first | apply Tl.brC | apply Tl.gdC | apply Tl.gd3C); focus (simp (disch := omega) only [coreA, Int.reduceBEq, base_Vi, hc, hv, hv2] <;> with_reducible rfl)))
      refine f35_loop (k := k + 279) C R q2 hl16 row.length (i := 0) (by omega) (by omega) (Grow.refl _) (fun q3 y1 y2 y3 y4 h' g => ?_) fun q3 e' h' hne g => ?_
      · rw [List.drop_zero, List.drop_zero] at q3
        exact ⟨_, rfl, ⟨0, rfl, by simp [q3]⟩, g⟩
      · rw [List.drop_zero, List.drop_zero] at q3
        exact ⟨_, rfl, ⟨e', rfl, by simp [q3, hne]⟩, g⟩
    · have q2' : ¬ (row.length : Int) = cols.length := by omega
      rw [decide_eq_false q2, Bool.false_and]
      repeat (first | (with_reducible apply Tl.val; focus (simp (disch := omega) only [coreA, Int.reduceBEq, base_Vi, hc, hv, hv2] <;> with_reducible rfl)) | (with_reducible first | refine Tl.brT ?_ | refine Tl.brF ?_ | refine Tl.gd_on ?_ | refine Tl.gd3_on ?_) | ((with_reducible first | apply Tl.brC | apply Tl.gdC | apply Tl.gd3C); focus (simp (disch := omega) only [coreA, Int.reduceBEq, base_Vi, hc, hv, hv2] <;> with_reducible rfl)))
      exact ⟨_, rfl, ⟨173, rfl, by simp⟩, Grow.refl _⟩
  · have q' : colsOk cols = false := by
      cases hf : colsOk cols with
      | false => rfl
      | true => exact absurd (he.2 hf) q
    rw [q', Bool.false_and]
    repeat (first | (with_reducible apply Tl.val; focus (simp (disch := omega) only [coreA, Int.reduceBEq, base_Vi, hc, hv, hv2] <;> with_reducible rfl)) | (with_reducible first | refine Tl.brT ?_ | refine Tl.brF ?_ | refine Tl.gd_on ?_ | refine Tl.gd3_on ?_) | ((with_reducible first | apply Tl.brC | apply Tl.gdC | apply Tl.gd3C); focus (simp (disch := omega) only [coreA, Int.reduceBEq, base_Vi, hc, hv, hv2] <;> with_reducible rfl)))
    exact ⟨_, rfl, ⟨e, rfl, by simp [q]⟩, Grow.refl _⟩
/-! ### The schema's own check -/
theorem f71_loop {β : Type} {k : Nat} {Q : β → Prop} {h0 : AH} {v fv : Value} {l : List ColD} {p : ColD → Bool} (S : Cols h0 v l) (hl : l.length ≤ 1000)
    (hcall : ∀ c h, Grow h0 h → Tl (callV (eInv env k) fv #[colv c] h) fun r => r.1 = .bool (p c) ∧ Grow h r.2) {ke0 : Value → Value → Value → Value → Value → AH → Option β} {kr : Value → AH → Option β} (n : Nat) :
    ∀ {i j : Nat} {h : AH}, i + n = l.length → n < j → Grow h0 h → ((l.drop i).any p = false → ∀ y1 y2 y3 y4 y5 h', Grow h0 h' → Tl (ke0 y1 y2 y3 y4 y5 h') Q) → ((l.drop i).any p = true → ∀ (m : Nat) h', Grow h0 h' → Tl (kr (.int .i64 (m : Nat)) h') Q) →
      Tl (F71_lrlr (eInv env k) k j v fv (.int .i64 l.length) (.int .i64 i) h ke0 kr) Q := by
  induction n with
  | zero =>
    intro i j h hi hj g hk hr
    obtain ⟨j, rfl⟩ : ∃ q, j = q + 1 := ⟨j - 1, by omega⟩
    simp only [F71_lrlr]
    repeat (first | (with_reducible apply Tl.val; focus (simp (disch := omega) only [coreA, Int.reduceBEq, base_Vi] <;> with_reducible rfl)) | (with_reducible first | refine Tl.brT ?_ | refine Tl.brF ?_ | refine Tl.gd_on ?_ | refine Tl.gd3_on ?_) | ((with_reducible first | apply Tl.brC | apply Tl.gdC | apply Tl.gd3C); focus (simp (disch := omega) only [coreA, Int.reduceBEq, base_Vi] <;> with_reducible rfl)))
    exact hk (by rw [List.drop_eq_nil_of_le (by omega)]; rfl) _ _ _ _ _ _ g
  | succ n ih =>
    intro i j h hi hj g hk hr
    obtain ⟨j, rfl⟩ : ∃ q, j = q + 1 := ⟨j - 1, by omega⟩
    obtain ⟨x, ex⟩ : ∃ x, l[i]? = some x := ⟨_, List.getElem?_eq_getElem (by omega)⟩
    obtain ⟨b, o, hp, hrow⟩ := S.at_ ex
    have hrow' := g.row hrow
    have e : (i : Int) + 1 = ((i + 1 : Nat) : Int) := by omega
    rw [drop_at ex, List.any_cons] at hk hr
    simp only [F71_lrlr]
    repeat (first | (with_reducible apply Tl.val; focus (simp (disch := omega) only [coreA, Int.reduceBEq, base_Vi, hp, hrow'] <;> with_reducible rfl)) | (with_reducible first | refine Tl.brT ?_ | refine Tl.brF ?_ | refine Tl.gd_on ?_ | refine Tl.gd3_on ?_) | ((with_reducible first | apply Tl.brC | apply Tl.gdC | apply Tl.gd3C); focus (simp (disch := omega) only [coreA, Int.reduceBEq, base_Vi, hp, hrow'] <;> with_reducible rfl)))
    refine Tl.bind (hcall x h g) ?_
    rintro ⟨r, h1⟩ ⟨er, g1⟩
    simp only at er g1
    subst er
    cases q : p x with
    | true =>
      rw [q, Bool.true_or] at hr
      repeat (first | (with_reducible apply Tl.val; focus (simp (disch := omega) only [coreA, Int.reduceBEq, base_Vi] <;> with_reducible rfl)) | (with_reducible first | refine Tl.brT ?_ | refine Tl.brF ?_ | refine Tl.gd_on ?_ | refine Tl.gd3_on ?_) | ((with_reducible first | apply Tl.brC | apply Tl.gdC | apply Tl.gd3C); focus (simp (disch := omega) only [coreA, Int.reduceBEq, base_Vi] <;> with_reducible rfl)))
      exact hr rfl i _ (g.trans g1)
    | false =>
      rw [q, Bool.false_or] at hk hr
      repeat (first | (with_reducible apply Tl.val; focus (simp (disch := omega) only [coreA, Int.reduceBEq, base_Vi] <;> with_reducible rfl)) | (with_reducible first | refine Tl.brT ?_ | refine Tl.brF ?_ | refine Tl.gd_on ?_ | refine Tl.gd3_on ?_) | ((with_reducible first | apply Tl.brC | apply Tl.gdC | apply Tl.gd3C); focus (simp (disch := omega) only [coreA, Int.reduceBEq, base_Vi] <;> with_reducible rfl)))
      rw [e]
      exact ih (by omega) (by omega) (g.trans g1) hk hr
theorem f53c {k : Nat} {h : AH} {v fv : Value} {l : List ColD} {p : ColD → Bool} (S : Cols h v l) (hl : l.length ≤ 1000) (hk : l.length < k) (hcall : ∀ c h', Grow h h' → Tl (callV (eInv env k) fv #[colv c] h') fun r => r.1 = .bool (p c) ∧ Grow h' r.2) :
    Tl (eInv env (k + 2) (.func 53) #[] #[v, fv] h) fun r => r.1 = .bool (l.any p) ∧ Grow h r.2 := by
  rw [F53_call]
  unfold F53
  have hv : ∀ h', pLen Try.prog #[22] v h' = some (.int .i64 l.length) := fun h' => S.len
  have T : Tl (eInv env (k + 1) (.func 71) #[] #[v, fv] h) fun r => (∃ z : Int, r.1 = .int .i64 z ∧ (decide (z ≥ 0)) = l.any p) ∧ Grow h r.2 := by
    rw [F71_call]
    unfold F71
    repeat (first | (with_reducible apply Tl.val; focus (simp (disch := omega) only [coreA, Int.reduceBEq, base_Vi, hv] <;> with_reducible rfl)) | (with_reducible first | refine Tl.brT ?_ | refine Tl.brF ?_ | refine Tl.gd_on ?_ | refine Tl.gd3_on ?_) | ((with_reducible first | apply Tl.brC | apply Tl.gdC | apply Tl.gd3C); focus (simp (disch := omega) only [coreA, Int.reduceBEq, base_Vi, hv] <;> with_reducible rfl)))
    refine f71_loop S hl hcall l.length (i := 0) (by omega) hk (Grow.refl _) (fun q y1 y2 y3 y4 y5 h' g => ?_) fun q m h' g => ?_
    · exact ⟨_, rfl, ⟨_, rfl, by rw [List.drop_zero] at q; rw [q]; rfl⟩, g⟩
    · exact ⟨_, rfl, ⟨_, rfl, by rw [List.drop_zero] at q; rw [q]; simp⟩, g⟩
  refine Tl.bind T ?_
  rintro ⟨r, h1⟩ ⟨⟨z, er, hz⟩, g⟩
  simp only at er g
  subst er
  repeat (first | (with_reducible apply Tl.val; focus (simp (disch := omega) only [coreA, Int.reduceBEq, base_Vi] <;> with_reducible rfl)) | (with_reducible first | refine Tl.brT ?_ | refine Tl.brF ?_ | refine Tl.gd_on ?_ | refine Tl.gd3_on ?_) | ((with_reducible first | apply Tl.brC | apply Tl.gdC | apply Tl.gd3C); focus (simp (disch := omega) only [coreA, Int.reduceBEq, base_Vi] <;> with_reducible rfl)))
  exact ⟨_, rfl, by rw [hz], g⟩
theorem f54c {k : Nat} (c o : ColD) {h : AH} {bc : Nat} (hc : h.cell bc 0 = some (.string c.name)) : Tl (callV (eInv env (k + 1)) (.func (.func 54) #[] #[.pointer (some ⟨bc, 0, none⟩)]) #[colv o] h) fun r => r.1 = .bool (decide (o.name = c.name)) ∧ Grow h r.2 := by
  rw [callV_cap1 (by kernel_rfl), F54_eq]
  unfold F54
  refine Tl.box' (Stt.init h) rfl (by rw [sz80]; rfl) fun b1 h1 S1 g1 => ?_
  have c0 : h1.cell b1 0 = some (.string o.name) := S1.cell 0 rfl rfl
  have c1 := g1.cell hc
  have hq : ∀ x y, pBin Try.prog .eql 9 x y (.string o.name) (.string c.name) = some (.bool (decide (o.name = c.name))) := fun _ _ => bin_eql_string
  repeat (first | (with_reducible apply Tl.val; focus (simp (disch := omega) only [coreA, Int.reduceBEq, base_Vi, c0, c1, hq] <;> with_reducible rfl)) | (with_reducible first | refine Tl.brT ?_ | refine Tl.brF ?_ | refine Tl.gd_on ?_ | refine Tl.gd3_on ?_) | ((with_reducible first | apply Tl.brC | apply Tl.gdC | apply Tl.gd3C); focus (simp (disch := omega) only [coreA, Int.reduceBEq, base_Vi, c0, c1, hq] <;> with_reducible rfl)))
  exact ⟨_, rfl, rfl, S1.grow⟩
theorem f33_loop {β : Type} {k : Nat} {Q : β → Prop} {h0 : AH} {v : Value} {l : List ColD} (S : Cols h0 v l) (hl : l.length ≤ 16) {ke0 : Value → Value → Value → Value → Value → AH → Option β} {kr : Value → AH → Option β} (n : Nat) :
    ∀ {i j : Nat} {h : AH}, i + n = l.length → n < j → Grow h0 h → (colsF (l.take i) (l.drop i) = true → ∀ y1 y2 y3 y4 y5 h', Grow h0 h' → Tl (ke0 y1 y2 y3 y4 y5 h') Q) → (colsF (l.take i) (l.drop i) = false → ∀ e h', e ≠ 0 → Grow h0 h' → Tl (kr (.int .i64 e) h') Q) →
      Tl (F33_lrlrr (eInv env (k + 200)) (k + 200) j v v (.int .i64 l.length) (.int .i64 i) h ke0 kr) Q := by
  induction n with
  | zero =>
    intro i j h hi hj g hk hr
    obtain ⟨j, rfl⟩ : ∃ q, j = q + 1 := ⟨j - 1, by omega⟩
    simp only [F33_lrlrr]
    repeat (first | (with_reducible apply Tl.val; focus (simp (disch := omega) only [coreA, Int.reduceBEq, base_Vi] <;> with_reducible rfl)) | (with_reducible first | refine Tl.brT ?_ | refine Tl.brF ?_ | refine Tl.gd_on ?_ | refine Tl.gd3_on ?_) | ((with_reducible first | apply Tl.brC | apply Tl.gdC | apply Tl.gd3C); focus (simp (disch := omega) only [coreA, Int.reduceBEq, base_Vi] <;> with_reducible rfl)))
    exact hk (by rw [List.drop_eq_nil_of_le (by omega)]; rfl) _ _ _ _ _ _ g
  | succ n ih =>
    intro i j h hi hj g hk hr
    obtain ⟨j, rfl⟩ : ∃ q, j = q + 1 := ⟨j - 1, by omega⟩
    obtain ⟨x, ex⟩ : ∃ x, l[i]? = some x := ⟨_, List.getElem?_eq_getElem (by omega)⟩
    obtain ⟨b, o, hp, hrow⟩ := S.at_ ex
    have hrow' := g.row hrow
    have e : (i : Int) + 1 = ((i + 1 : Nat) : Int) := by omega
    simp only [F33_lrlrr]
    rw [drop_at ex, colsF] at hk hr
    repeat (first | (with_reducible apply Tl.val; focus (simp (disch := omega) only [coreA, Int.reduceBEq, base_Vi, hp, hrow'] <;> with_reducible rfl)) | (with_reducible first | refine Tl.brT ?_ | refine Tl.brF ?_ | refine Tl.gd_on ?_ | refine Tl.gd3_on ?_) | ((with_reducible first | apply Tl.brC | apply Tl.gdC | apply Tl.gd3C); focus (simp (disch := omega) only [coreA, Int.reduceBEq, base_Vi, hp, hrow'] <;> with_reducible rfl)))
    refine Tl.alloc' (Stt.init h) ze80 (by rfl) fun b4 h1 S1 g1 => ?_
    refine Tl.store' S1 0 rfl sz80 rfl rfl (by simp [Value.cells]) fun h2 S2 k2 => ?_
    have S2 : Stt Try.prog h.n h h2 [(b4, .cells (colrow x) 80 true)] [] := S2
    have c0 : h2.cell b4 0 = some (.string x.name) := S2.cell 0 rfl rfl
    repeat (first | (with_reducible apply Tl.val; focus (simp (disch := omega) only [coreA, Int.reduceBEq, base_Vi, c0] <;> with_reducible rfl)) | (with_reducible first | refine Tl.brT ?_ | refine Tl.brF ?_ | refine Tl.gd_on ?_ | refine Tl.gd3_on ?_) | ((with_reducible first | apply Tl.brC | apply Tl.gdC | apply Tl.gd3C); focus (simp (disch := omega) only [coreA, Int.reduceBEq, base_Vi, c0] <;> with_reducible rfl)))
    refine Tl.call' S2 (f52c (k := k + 99) x.name h2) fun h3 S3 g3 => ?_
    have c1 : h3.cell b4 1 = some (.int .i64 x.kind) := S3.cell 0 rfl rfl
    have g03 := g.trans S3.grow
    cases q1 : nameOk x.name with
    | false =>
      rw [q1, Bool.false_and] at hr
      simp only [Bool.false_eq_true, if_false]
      repeat (first | (with_reducible apply Tl.val; focus (simp (disch := omega) only [coreA, Int.reduceBEq, base_Vi] <;> with_reducible rfl)) | (with_reducible first | refine Tl.brT ?_ | refine Tl.brF ?_ | refine Tl.gd_on ?_ | refine Tl.gd3_on ?_) | ((with_reducible first | apply Tl.brC | apply Tl.gdC | apply Tl.gd3C); focus (simp (disch := omega) only [coreA, Int.reduceBEq, base_Vi] <;> with_reducible rfl)))
      exact hr rfl 170 _ (by omega) g03
    | true =>
      rw [q1, Bool.true_and] at hk hr
      simp only [if_true]
      by_cases q2 : 1 ≤ x.kind ∧ x.kind ≤ 3
      · rw [decide_eq_true q2, Bool.true_and] at hk hr
        obtain ⟨q21, q22⟩ := q2
        obtain ⟨tv, htv, T⟩ := S.take (i := i) (by omega)
        have mf : pMakeFunc (Go.Fn.func 54) #[] #[.pointer (some ⟨b4, 0, none⟩)] = some (.func (.func 54) #[] #[.pointer (some ⟨b4, 0, none⟩)]) := rfl
        repeat (first | (with_reducible apply Tl.val; focus (simp (disch := omega) only [coreA, Int.reduceBEq, base_Vi, c1, htv, mf] <;> with_reducible rfl)) | (with_reducible first | refine Tl.brT ?_ | refine Tl.brF ?_ | refine Tl.gd_on ?_ | refine Tl.gd3_on ?_) | ((with_reducible first | apply Tl.brC | apply Tl.gdC | apply Tl.gd3C); focus (simp (disch := omega) only [coreA, Int.reduceBEq, base_Vi, c1, htv, mf] <;> with_reducible rfl)))
        refine Tl.call' S3 (f53c (k := k + 198) (p := fun o => decide (o.name = x.name)) (T.grow g03) (by simp; omega) (by simp; omega) fun o h' g' => f54c (k := k + 197) x o ((g3.trans g').cell c0)) fun h4 S4 g4 => ?_
        have g04 := g.trans S4.grow
        cases q3 : (l.take i).any fun o => decide (o.name = x.name) with
        | true =>
          rw [q3, Bool.not_true, Bool.false_and] at hr
          repeat (first | (with_reducible apply Tl.val; focus (simp (disch := omega) only [coreA, Int.reduceBEq, base_Vi] <;> with_reducible rfl)) | (with_reducible first | refine Tl.brT ?_ | refine Tl.brF ?_ | refine Tl.gd_on ?_ | refine Tl.gd3_on ?_) | ((with_reducible first | apply Tl.brC | apply Tl.gdC | apply Tl.gd3C); focus (simp (disch := omega) only [coreA, Int.reduceBEq, base_Vi] <;> with_reducible rfl)))
          exact hr rfl 171 _ (by omega) g04
        | false =>
          rw [q3, Bool.not_false, Bool.true_and] at hk hr
          repeat (first | (with_reducible apply Tl.val; focus (simp (disch := omega) only [coreA, Int.reduceBEq, base_Vi] <;> with_reducible rfl)) | (with_reducible first | refine Tl.brT ?_ | refine Tl.brF ?_ | refine Tl.gd_on ?_ | refine Tl.gd3_on ?_) | ((with_reducible first | apply Tl.brC | apply Tl.gdC | apply Tl.gd3C); focus (simp (disch := omega) only [coreA, Int.reduceBEq, base_Vi] <;> with_reducible rfl)))
          rw [e]
          have et : l.take i ++ [x] = l.take (i + 1) := by rw [List.take_add_one, ex]; rfl
          rw [et] at hk hr
          exact ih (by omega) (by omega) g04 hk hr
      · rw [decide_eq_false q2, Bool.false_and] at hr
        by_cases q21 : 1 ≤ x.kind
        · have q22 : ¬ x.kind ≤ 3 := fun h => q2 ⟨q21, h⟩
          repeat (first | (with_reducible apply Tl.val; focus (simp (disch := omega) only [coreA, Int.reduceBEq, base_Vi, c1] <;> with_reducible rfl)) | (with_reducible first | refine Tl.brT ?_ | refine Tl.brF ?_ | refine Tl.gd_on ?_ | refine Tl.gd3_on ?_) | ((with_reducible first | apply Tl.brC | apply Tl.gdC | apply Tl.gd3C); focus (simp (disch := omega) only [coreA, Int.reduceBEq, base_Vi, c1] <;> with_reducible rfl)))
          exact hr rfl 171 _ (by omega) g03
        · repeat (first | (with_reducible apply Tl.val; focus (simp (disch := omega) only [coreA, Int.reduceBEq, base_Vi, c1] <;> with_reducible rfl)) | (with_reducible first | refine Tl.brT ?_ | refine Tl.brF ?_ | refine Tl.gd_on ?_ | refine Tl.gd3_on ?_) | ((with_reducible first | apply Tl.brC | apply Tl.gdC | apply Tl.gd3C); focus (simp (disch := omega) only [coreA, Int.reduceBEq, base_Vi, c1] <;> with_reducible rfl)))
          exact hr rfl 171 _ (by omega) g03
theorem f33c {k : Nat} {h : AH} {v : Value} {l : List ColD} (S : Cols h v l) (hl : l.length ≤ 9223372036854775807) : Tl (eInv env (k + 201) (.func 33) #[] #[v] h) fun r => (∃ e : Int, r.1 = .int .i64 e ∧ (e = 0 ↔ colsOk l = true)) ∧ Grow h r.2 := by
  rw [F33_call]
  have hv : ∀ h', pLen Try.prog #[22] v h' = some (.int .i64 l.length) := fun h' => S.len
  unfold F33 colsOk
  by_cases s0 : 1 ≤ l.length
  · by_cases s1 : l.length ≤ 16
    · rw [decide_eq_true s0, decide_eq_true s1, Bool.true_and, Bool.true_and]
      repeat (first | (with_reducible apply Tl.val; focus (simp (disch := omega) only [coreA, Int.reduceBEq, base_Vi, hv] <;> with_reducible rfl)) | (with_reducible first | refine Tl.brT ?_ | refine Tl.brF ?_ | refine Tl.gd_on ?_ | refine Tl.gd3_on ?_) | ((with_reducible first | apply Tl.brC | apply Tl.gdC | apply Tl.gd3C); focus (simp (disch := omega) only [coreA, Int.reduceBEq, base_Vi, hv] <;> with_reducible rfl)))
      refine f33_loop S s1 l.length (i := 0) (by omega) (by omega) (Grow.refl _) (fun q y1 y2 y3 y4 y5 h' g => ?_) fun q e h' he g => ?_
      · rw [List.drop_zero, List.take_zero] at q
        exact ⟨_, rfl, ⟨0, rfl, by simp [q]⟩, g⟩
      · rw [List.drop_zero, List.take_zero] at q
        exact ⟨_, rfl, ⟨e, rfl, by simp [q, he]⟩, g⟩
    · repeat (first | (with_reducible apply Tl.val; focus (simp (disch := omega) only [coreA, Int.reduceBEq, base_Vi, hv] <;> with_reducible rfl)) | (with_reducible first | refine Tl.brT ?_ | refine Tl.brF ?_ | refine Tl.gd_on ?_ | refine Tl.gd3_on ?_) | ((with_reducible first | apply Tl.brC | apply Tl.gdC | apply Tl.gd3C); focus (simp (disch := omega) only [coreA, Int.reduceBEq, base_Vi, hv] <;> with_reducible rfl)))
      exact ⟨_, rfl, ⟨171, rfl, by simp [s1]⟩, Grow.refl _⟩
  · repeat (first | (with_reducible apply Tl.val; focus (simp (disch := omega) only [coreA, Int.reduceBEq, base_Vi, hv] <;> with_reducible rfl)) | (with_reducible first | refine Tl.brT ?_ | refine Tl.brF ?_ | refine Tl.gd_on ?_ | refine Tl.gd3_on ?_) | ((with_reducible first | apply Tl.brC | apply Tl.gdC | apply Tl.gd3C); focus (simp (disch := omega) only [coreA, Int.reduceBEq, base_Vi, hv] <;> with_reducible rfl)))
    exact ⟨_, rfl, ⟨171, rfl, by simp at s0; simp [s0]⟩, Grow.refl _⟩
end Go.Proofs.Ytjmfokglckaneaa.Sh
