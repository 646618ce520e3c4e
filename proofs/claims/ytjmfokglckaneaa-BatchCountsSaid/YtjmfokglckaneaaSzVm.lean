/- The document's comparison of cells; rows of rows, which of them are light. -/
import Derived.Test.YtjmfokglckaneaaSzVf
set_option linter.unusedVariables false
set_option linter.unusedSimpArgs false
set_option maxRecDepth 100000
namespace Go.Proofs.Ytjmfokglckaneaa.Sh
open Go Go.RowKit Go.Proofs.Ev Go.Lib
theorem base_Vm : type_of% (And.intro @ld3 (And.intro @ld2 (And.intro @ld9 (And.intro @ld45 (And.intro @ld37 (And.intro @fa45_0 (And.intro @fa45_1 (And.intro @fa45_2 (@Nat.add_zero))))))))) := And.intro @ld3 (And.intro @ld2 (And.intro @ld9 (And.intro @ld45 (And.intro @ld37 (And.intro @fa45_0 (And.intro @fa45_1 (And.intro @fa45_2 (@Nat.add_zero))))))))
/-- Rows of rows. -/
def Rows (h : AH) (v : Value) (l : List (List CellD)) : Prop := ∃ vs : List Value, SlZ Try.prog h v 1 (vs.map fun v => [v]) ∧ All2 (Cells h) vs l
theorem Rows.grow {h h' : AH} {v : Value} {l : List (List CellD)} (S : Rows h v l) (g : Grow h h') : Rows h' v l := by
  obtain ⟨vs, X, A⟩ := S
  exact ⟨vs, X.grow g, A.mono fun _ _ h => h.grow g⟩
theorem Rows.len {h h' : AH} {v : Value} {l : List (List CellD)} (S : Rows h v l) : pLen Try.prog #[23] v h' = some (.int .i64 l.length) := by
  obtain ⟨vs, X, A⟩ := S
  have := X.len u23 (h' := h')
  rwa [List.length_map, A.len] at this
theorem Rows.at_ {h : AH} {v : Value} {l : List (List CellD)} (S : Rows h v l) {i : Nat} {x : List CellD} (hi : l[i]? = some x) :
    ∃ b o w, pIndexAddr Try.prog 23 v (.int .i64 i) = some (.pointer (some ⟨b, o, none⟩)) ∧ h.cell b o = some w ∧ Cells h w x := by
  obtain ⟨vs, X, A⟩ := S
  obtain ⟨w, hw, C⟩ := A.get hi
  obtain ⟨b, o, h1, h2⟩ := X.at_ (k := .i64) (i := i) (r := [w]) (by simp [hw]) u23 sz37
  exact ⟨b, o, w, h1, by simpa using Ev.cell_of_row (j := 0) h2 (by omega), C⟩
def lightRs (l : List (List CellD)) (most : Int) : Bool := l.all lightR && decide ((l.length : Int) ≤ most)
theorem f31_loop {β : Type} {k : Nat} {Q : β → Prop} {h : AH} {v m : Value} {l : List (List CellD)} (S : Rows h v l) (hl : l.length ≤ 9223372036854775807) (hls : ∀ r ∈ l, r.length ≤ 9223372036854775807 ∧ r.length < k) {ke0 : Value → Value → Value → Value → AH → Option β} {kr : Value → AH → Option β} (n : Nat) :
    ∀ {i j : Nat}, i + n = l.length → n < j → ((l.drop i).all lightR = true → ∀ y1 y2, Tl (ke0 v m y1 y2 h) Q) → ((l.drop i).all lightR = false → Tl (kr (.bool false) h) Q) →
      Tl (F31_lrlr (eInv env (k + 1)) (k + 1) j v m (.int .i64 i) h ke0 kr) Q := by
  have hv : ∀ h', pLen Try.prog #[23] v h' = some (.int .i64 l.length) := fun h' => S.len
  induction n with
  | zero =>
    intro i j hi hj hk hr
    obtain ⟨j, rfl⟩ : ∃ q, j = q + 1 := ⟨j - 1, by omega⟩
    simp only [F31_lrlr]
    repeat (first | (with_reducible apply Tl.val; focus (simp (disch := omega) only [coreA, Int.reduceBEq, base_Vm, hv] <;> with_reducible rfl)) | (with_reducible first | refine Tl.brT ?_ | refine Tl.brF ?_ | refine Tl.gd_on ?_ | refine Tl.gd3_on ?_) | ((with_reducible first | apply Tl.brC | apply Tl.gdC | apply Tl.gd3C); focus (simp (disch := omega) only [coreA, Int.reduceBEq, base_Vm, hv] <;> with_reducible rfl)))
    exact hk (by rw [List.drop_eq_nil_of_le (by omega)]; rfl) _ _
  | succ n ih =>
    intro i j hi hj hk hr
    obtain ⟨j, rfl⟩ : ∃ q, j = q + 1 := ⟨j - 1, by omega⟩
    obtain ⟨x, ex⟩ : ∃ x, l[i]? = some x := ⟨_, List.getElem?_eq_getElem (by omega)⟩
    obtain ⟨b, o, w, hp, hc, C⟩ := S.at_ ex
    obtain ⟨m1, m2⟩ := hls x (List.mem_of_getElem? ex)
    have hlr := f50c (k := k) C m1 m2
    have e : (i : Int) + 1 = ((i + 1 : Nat) : Int) := by omega
    rw [drop_at ex, List.all_cons] at hk hr
    simp only [F31_lrlr]
    cases q : lightR x with
    | true =>
      rw [q] at hlr
      rw [q, Bool.true_and] at hk hr
      repeat (first | (with_reducible apply Tl.val; focus (simp (disch := omega) only [coreA, Int.reduceBEq, base_Vm, hv, hp, hc, hlr] <;> with_reducible rfl)) | (with_reducible first | refine Tl.brT ?_ | refine Tl.brF ?_ | refine Tl.gd_on ?_ | refine Tl.gd3_on ?_) | ((with_reducible first | apply Tl.brC | apply Tl.gdC | apply Tl.gd3C); focus (simp (disch := omega) only [coreA, Int.reduceBEq, base_Vm, hv, hp, hc, hlr] <;> with_reducible rfl)))
      rw [e]
      exact ih (by omega) (by omega) hk hr
    | false =>
      rw [q] at hlr
      rw [q, Bool.false_and] at hr
      repeat (first | (with_reducible apply Tl.val; focus (simp (disch := omega) only [coreA, Int.reduceBEq, base_Vm, hv, hp, hc, hlr] <;> with_reducible rfl)) | (with_reducible first | refine Tl.brT ?_ | refine Tl.brF ?_ | refine Tl.gd_on ?_ | refine Tl.gd3_on ?_) | ((with_reducible first | apply Tl.brC | apply Tl.gdC | apply Tl.gd3C); focus (simp (disch := omega) only [coreA, Int.reduceBEq, base_Vm, hv, hp, hc, hlr] <;> with_reducible rfl)))
      exact hr rfl
theorem f31c {k : Nat} {h : AH} {v : Value} {l : List (List CellD)} (most : Int) (S : Rows h v l) (hl : l.length ≤ 9223372036854775807) (hls : ∀ r ∈ l, r.length ≤ 9223372036854775807 ∧ r.length < k) (hk : l.length < k + 1) : eInv env (k + 2) (.func 31) #[] #[v, .int .i64 most] h = some (.bool (lightRs l most), h) := by
  rw [F31_call]
  have T : Tl (F31 (eInv env (k + 1)) (k + 1) v (.int .i64 most) h) fun r => r = (.bool (lightRs l most), h) := by
    unfold F31
    have hv : ∀ h', pLen Try.prog #[23] v h' = some (.int .i64 l.length) := fun h' => S.len
    refine f31_loop S hl hls l.length (i := 0) (by omega) hk (fun q y1 y2 => ?_) fun q => ⟨_, rfl, ?_⟩
    · rw [List.drop_zero] at q
      repeat (first | (with_reducible apply Tl.val; focus (simp (disch := omega) only [coreA, Int.reduceBEq, base_Vm, hv] <;> with_reducible rfl)) | (with_reducible first | refine Tl.brT ?_ | refine Tl.brF ?_ | refine Tl.gd_on ?_ | refine Tl.gd3_on ?_) | ((with_reducible first | apply Tl.brC | apply Tl.gdC | apply Tl.gd3C); focus (simp (disch := omega) only [coreA, Int.reduceBEq, base_Vm, hv] <;> with_reducible rfl)))
      refine ⟨_, rfl, ?_⟩
      unfold lightRs
      rw [q, Bool.true_and]
    · rw [List.drop_zero] at q
      unfold lightRs
      rw [q, Bool.false_and]
  obtain ⟨r, h1, h2⟩ := T
  rw [h1, h2]
end Go.Proofs.Ytjmfokglckaneaa.Sh
