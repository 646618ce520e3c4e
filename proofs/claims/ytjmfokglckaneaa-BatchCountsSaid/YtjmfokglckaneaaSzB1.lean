/- Which rows fit, what is light; rows set to zero. -/
import Derived.Test.YtjmfokglckaneaaSzVu
import Derived.Test.YtjmfokglckaneaaSzVv
import Derived.Test.YtjmfokglckaneaaSzVw
import Derived.Test.YtjmfokglckaneaaSzVi
set_option linter.unusedVariables false
set_option linter.unusedSimpArgs false
set_option maxRecDepth 100000
namespace Go.Proofs.Ytjmfokglckaneaa.Sh
open Go Go.RowKit Go.Proofs.Ev
theorem base_B1 : type_of% (And.intro @ld3 (And.intro @ld37 (And.intro @ld45 (And.intro @ld23 (@Nat.add_zero))))) := And.intro @ld3 (And.intro @ld37 (And.intro @ld45 (And.intro @ld23 (@Nat.add_zero))))
def fitRs (cols : List ColD) (rows : List (List CellD)) : Bool := rows.all (rowOk cols)
theorem f11_loop {β : Type} {k : Nat} {Q : β → Prop} {h0 : AH} {cv rv : Value} {cols : List ColD} {rows : List (List CellD)} (C : Cols h0 cv cols) (R : Rows h0 rv rows) (hl : cols.length ≤ 9223372036854775807) (hl2 : rows.length ≤ 2 ^ 62) (hr : ∀ r ∈ rows, r.length ≤ 9223372036854775807)
    {ke0 : Value → Value → Value → Value → AH → Option β} {kr : Value → AH → Option β} (n : Nat) :
    ∀ {i j : Nat} {h : AH}, i + n = rows.length → n < j → Grow h0 h → ((rows.drop i).all (rowOk cols) = true → ∀ y1 y2 h', Grow h0 h' → Tl (ke0 cv rv y1 y2 h') Q) → ((rows.drop i).all (rowOk cols) = false → ∀ h', Grow h0 h' → Tl (kr (.bool false) h') Q) →
      Tl (F11_lrlr (eInv env (k + 300)) (k + 300) j cv rv (.int .i64 i) h ke0 kr) Q := by
  have hv : ∀ h', pLen Try.prog #[23] rv h' = some (.int .i64 rows.length) := fun h' => R.len
  induction n with
  | zero =>
    intro i j h hi hj g hk hf
    obtain ⟨j, rfl⟩ : ∃ q, j = q + 1 := ⟨j - 1, by omega⟩
    simp only [F11_lrlr]
    repeat (first | (with_reducible apply Tl.val; focus (simp (disch := omega) only [coreA, Int.reduceBEq, base_B1, hv] <;> with_reducible rfl)) | (with_reducible first | refine Tl.brT ?_ | refine Tl.brF ?_ | refine Tl.gd_on ?_ | refine Tl.gd3_on ?_) | ((with_reducible first | apply Tl.brC | apply Tl.gdC | apply Tl.gd3C); focus (simp (disch := omega) only [coreA, Int.reduceBEq, base_B1, hv] <;> with_reducible rfl)))
    exact hk (by rw [List.drop_eq_nil_of_le (by omega)]; rfl) _ _ _ g
  | succ n ih =>
    intro i j h hi hj g hk hf
    obtain ⟨j, rfl⟩ : ∃ q, j = q + 1 := ⟨j - 1, by omega⟩
    obtain ⟨x, ex⟩ : ∃ x, rows[i]? = some x := ⟨_, List.getElem?_eq_getElem (by omega)⟩
    obtain ⟨b, o, w, hp, hc, X⟩ := (R.grow g).at_ ex
    have e : (i : Int) + 1 = ((i + 1 : Nat) : Int) := by omega
    rw [drop_at ex, List.all_cons] at hk hf
    simp only [F11_lrlr]
    repeat (first | (with_reducible apply Tl.val; focus (simp (disch := omega) only [coreA, Int.reduceBEq, base_B1, hv, hp, hc] <;> with_reducible rfl)) | (with_reducible first | refine Tl.brT ?_ | refine Tl.brF ?_ | refine Tl.gd_on ?_ | refine Tl.gd3_on ?_) | ((with_reducible first | apply Tl.brC | apply Tl.gdC | apply Tl.gd3C); focus (simp (disch := omega) only [coreA, Int.reduceBEq, base_B1, hv, hp, hc] <;> with_reducible rfl)))
    refine Tl.bind (f35c (k := k) (C.grow g) X hl (hr x (List.mem_of_getElem? ex))) ?_
    rintro ⟨r, h1⟩ ⟨⟨z, er, hz⟩, g1⟩
    simp only at er g1
    subst er
    by_cases q : z = 0
    · rw [hz.1 q, Bool.true_and] at hk hf
      repeat (first | (with_reducible apply Tl.val; focus (simp (disch := omega) only [coreA, Int.reduceBEq, base_B1] <;> with_reducible rfl)) | (with_reducible first | refine Tl.brT ?_ | refine Tl.brF ?_ | refine Tl.gd_on ?_ | refine Tl.gd3_on ?_) | ((with_reducible first | apply Tl.brC | apply Tl.gdC | apply Tl.gd3C); focus (simp (disch := omega) only [coreA, Int.reduceBEq, base_B1] <;> with_reducible rfl)))
      rw [e]
      exact ih (by omega) (by omega) (g.trans g1) hk hf
    · have : rowOk cols x = false := by
        cases hx : rowOk cols x with
        | false => rfl
        | true => exact absurd (hz.2 hx) q
      rw [this, Bool.false_and] at hf
      repeat (first | (with_reducible apply Tl.val; focus (simp (disch := omega) only [coreA, Int.reduceBEq, base_B1] <;> with_reducible rfl)) | (with_reducible first | refine Tl.brT ?_ | refine Tl.brF ?_ | refine Tl.gd_on ?_ | refine Tl.gd3_on ?_) | ((with_reducible first | apply Tl.brC | apply Tl.gdC | apply Tl.gd3C); focus (simp (disch := omega) only [coreA, Int.reduceBEq, base_B1] <;> with_reducible rfl)))
      exact hf rfl _ (g.trans g1)
theorem f11c {k : Nat} {h : AH} {cv rv : Value} {cols : List ColD} {rows : List (List CellD)} (C : Cols h cv cols) (R : Rows h rv rows) (hl : cols.length ≤ 9223372036854775807) (hl2 : rows.length ≤ 2 ^ 62) (hr : ∀ r ∈ rows, r.length ≤ 9223372036854775807) (hk : rows.length < k) :
    Tl (eInv env (k + 301) (.func 11) #[] #[cv, rv] h) fun r => r.1 = .bool (fitRs cols rows) ∧ Grow h r.2 := by
  rw [F11_call]
  unfold F11 fitRs
  refine f11_loop C R hl hl2 hr rows.length (i := 0) (by omega) (by omega) (Grow.refl _) (fun q y1 y2 h' g => ⟨_, rfl, ?_, g⟩) fun q h' g => ⟨_, rfl, ?_, g⟩
  · rw [List.drop_zero] at q
    rw [q]
  · rw [List.drop_zero] at q
    rw [q]
def lightL (cols : List ColD) (rows : List (List CellD)) (l : List ChangeD) : Bool := lightC cols && (lightRs rows 60 && lightB l 40)
theorem f9e {k : Nat} {h : AH} {cv rv lv : Value} {cols : List ColD} {rows : List (List CellD)} {l : List ChangeD} (C : Cols h cv cols) (R : Rows h rv rows) (B : Changes h lv l) (hl : cols.length ≤ 9223372036854775807 ∧ cols.length < k) (hl2 : rows.length ≤ 9223372036854775807 ∧ rows.length < k)
    (hr : ∀ r ∈ rows, r.length ≤ 9223372036854775807 ∧ r.length < k) (hl3 : l.length < 9223372036854775808 ∧ l.length < k) (hs : ∀ c ∈ l, ChS 9223372036854775808 c ∧ ChS k c) :
    eInv env (k + 4) (.func 9) #[] #[cv, rv, lv] h = some (.bool (lightL cols rows l), h) := by
  rw [F9_call]
  have p1 := f30c (k := k + 2) C hl.1 (by omega)
  have p2 := f31c (k := k + 1) 60 R hl2.1 (fun r hx => ⟨(hr r hx).1, by have := (hr r hx).2; omega⟩) (by omega)
  have p3 := f32e (k := k) 40 B hl3.1 hs hl3.2
  have T : Tl (F9 (eInv env (k + 3)) (k + 3) cv rv lv h) fun r => r = (.bool (lightL cols rows l), h) := by
    unfold F9 lightL
    cases q1 : lightC cols with
    | false =>
      rw [q1] at p1
      repeat (first | (with_reducible apply Tl.val; focus (simp (disch := omega) only [coreA, Int.reduceBEq, base_B1, p1] <;> with_reducible rfl)) | (with_reducible first | refine Tl.brT ?_ | refine Tl.brF ?_ | refine Tl.gd_on ?_ | refine Tl.gd3_on ?_) | ((with_reducible first | apply Tl.brC | apply Tl.gdC | apply Tl.gd3C); focus (simp (disch := omega) only [coreA, Int.reduceBEq, base_B1, p1] <;> with_reducible rfl)))
      exact ⟨_, rfl, rfl⟩
    | true =>
    rw [q1] at p1
    cases q2 : lightRs rows 60 with
    | false =>
      rw [q2] at p2
      repeat (first | (with_reducible apply Tl.val; focus (simp (disch := omega) only [coreA, Int.reduceBEq, base_B1, p1, p2] <;> with_reducible rfl)) | (with_reducible first | refine Tl.brT ?_ | refine Tl.brF ?_ | refine Tl.gd_on ?_ | refine Tl.gd3_on ?_) | ((with_reducible first | apply Tl.brC | apply Tl.gdC | apply Tl.gd3C); focus (simp (disch := omega) only [coreA, Int.reduceBEq, base_B1, p1, p2] <;> with_reducible rfl)))
      exact ⟨_, rfl, rfl⟩
    | true =>
      rw [q2] at p2
      repeat (first | (with_reducible apply Tl.val; focus (simp (disch := omega) only [coreA, Int.reduceBEq, base_B1, p1, p2, p3] <;> with_reducible rfl)) | (with_reducible first | refine Tl.brT ?_ | refine Tl.brF ?_ | refine Tl.gd_on ?_ | refine Tl.gd3_on ?_) | ((with_reducible first | apply Tl.brC | apply Tl.gdC | apply Tl.gd3C); focus (simp (disch := omega) only [coreA, Int.reduceBEq, base_B1, p1, p2, p3] <;> with_reducible rfl)))
      exact ⟨_, rfl, rfl⟩
  obtain ⟨r, h1, h2⟩ := T
  rw [h1, h2]
end Go.Proofs.Ytjmfokglckaneaa.Sh
