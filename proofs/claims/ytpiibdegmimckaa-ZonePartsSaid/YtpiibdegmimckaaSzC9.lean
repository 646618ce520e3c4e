/- A slice of cells that is handed in. -/
import Derived.Test.YtpiibdegmimckaaSzC8
import Derived.Test.YtpiibdegmimckaaEv28
set_option linter.unusedVariables false
set_option linter.unusedSimpArgs false
namespace Go.Proofs.Ytpiibdegmimckaa.Sh
open Go Go.RowKit Go.Proofs.Ev Go.Lib Go.ChangeShapes Go.WideShapes

theorem tame_crow (n : Nat) (c : CellD) : (crow c).map (tame n 8) = crow c := by simp [crow, tame]
theorem rows_cells : ∀ {rows : List (List Value)}, (∀ (i : Nat) (q : List Value), rows[i]? = some q → ∃ a : CellD, q = crow a) → ∃ l : List CellD, rows = l.map crow := by
  intro rows
  induction rows with
  | nil => intro _; exact ⟨[], rfl⟩
  | cons q rows ih =>
    intro h
    obtain ⟨a, rfl⟩ := h 0 q rfl
    obtain ⟨l, rfl⟩ := ih fun i q hq => h (i + 1) q (by simpa using hq)
    exact ⟨a :: l, rfl⟩
theorem open_cells {H : Type} {enc : TypeId × Value → H} {W : World} {base b0 : Nat} {sp : Nat → Bool} {held : Bool} {r : Reach} {v : Value} {d : DataW H} {ps : List MemPlace}
    (hv : Value.okWide Try.prog W r b0 22 v) (hd : DataW.Trod enc Try.prog W base sp held 22 v d ps) : ∃ l : List CellD, Cells (extHeap W) (tame W.heap.size 8 v) l := by
  obtain ⟨rows, h1, _, h2⟩ := open_rows u22 co26 (by omega) hv hd
  obtain ⟨l, rfl⟩ := rows_cells fun i q hq => by
    obtain ⟨fuel, y, hy⟩ := h2 i q hq
    obtain ⟨a, ha, _⟩ := trod_cell hy
    exact ⟨a, ha⟩
  refine ⟨l, ?_⟩
  unfold Cells
  rw [List.map_map] at h1
  rw [show (fun q => List.map (tame W.heap.size 8) q) ∘ crow = crow from funext fun c => tame_crow _ c] at h1
  exact h1
end Go.Proofs.Ytpiibdegmimckaa.Sh
