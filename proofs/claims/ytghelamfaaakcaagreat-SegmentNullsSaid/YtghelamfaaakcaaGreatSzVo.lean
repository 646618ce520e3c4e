/- Cells, rows and predicates that are handed in. -/
import Derived.Test.YtghelamfaaakcaaGreatSzVb
import Derived.OpenShut
set_option linter.unusedVariables false
set_option linter.unusedSimpArgs false
set_option maxRecDepth 100000
namespace Go.Proofs.YtghelamfaaakcaaGreat.Sh
open Go Go.RowKit Go.ChangeShapes Go.WideShapes Go.Proofs.Ev
theorem fld {H : Type} {enc : TypeId × Value → H} {W : World} {base n : Nat} {sp : Nat → Bool} {held : Bool} {fs : Array Field} {cs : List Value} {xs : List (DataW H × List MemPlace)} (i t o : Nat) (h : (fs[i]?).map (fun f => (f.type, f.offset)) = some (t, o))
    (hf : ∀ (i : Nat) (f : Field), fs[i]? = some f → DataW.trod enc Tryz.prog W base sp held n f.type ((cs.drop f.offset).take (Tryz.prog.cellsOf f.type)) = xs[i]?) : DataW.trod enc Tryz.prog W base sp held n t ((cs.drop o).take (Tryz.prog.cellsOf t)) = xs[i]? := by
  cases hh : fs[i]? with
  | none => rw [hh] at h; cases h
  | some f =>
    rw [hh] at h
    simp only [Option.map_some, Option.some.injEq, Prod.mk.injEq] at h
    obtain ⟨rfl, rfl⟩ := h
    exact hf i f hh
theorem co3 : Tryz.prog.cellsOf 3 = 1 := by kernel_rfl
theorem co2 : Tryz.prog.cellsOf 2 = 1 := by kernel_rfl
theorem co9 : Tryz.prog.cellsOf 9 = 1 := by kernel_rfl
theorem co31 : Tryz.prog.cellsOf 31 = 3 := by kernel_rfl
theorem st31 : Tryz.prog.underlying 31 = some (.struct (Tryz.prog.fieldsOf 31)) := by kernel_rfl
section
variable {H : Type} {enc : TypeId × Value → H} {W : World} {base b0 fuel : Nat} {held : Bool} {r : Reach} {cs : List Value} {v : Value} {x : DataW H × List MemPlace} {d : DataW H} {ps : List MemPlace} {sp : Nat → Bool}
theorem trod_cell (h : DataW.trod enc Tryz.prog W base sp held fuel 31 cs = some x) :
    ∃ a : CellD, cs = crow a ∧ a.s.size ≤ maxLen ∧ (Lit.int .i64 a.k).wf = true ∧ (Lit.int .i64 a.i).wf = true := by
  obtain ⟨xs, n, rfl, rfl, hl, hx, hf⟩ := DataW.trod_struct st31 h
  rw [co31] at hl
  rw [show (Tryz.prog.fieldsOf 31).size = 3 by kernel_rfl] at hx
  have e0 := fld 0 3 0 (by kernel_rfl) hf
  have e1 := fld 1 2 1 (by kernel_rfl) hf
  have e2 := fld 2 9 2 (by kernel_rfl) hf
  obtain ⟨x0, x1, x2, rfl⟩ : ∃ x0 x1 x2, cs = [x0, x1, x2] := by
    match cs, hl with
    | [a, b, c], _ => exact ⟨a, b, c, rfl⟩
  obtain ⟨y0, y1, y2, rfl⟩ : ∃ y0 y1 y2, xs = [y0, y1, y2] := by
    match xs, hx with
    | [a, b, c], _ => exact ⟨a, b, c, rfl⟩
  simp only [co3, co2, co9, List.drop_zero, List.drop_succ_cons, List.take_succ_cons, List.take_zero, List.getElem?_cons_zero, List.getElem?_cons_succ] at e0 e1 e2
  obtain ⟨k, hk, _, w0⟩ := DataW.trod_int u3 e0
  obtain ⟨i, hi, _, w1⟩ := DataW.trod_int u2 e1
  obtain ⟨s, hs, _, w2⟩ := DataW.trod_string u9 e2
  simp only [List.cons.injEq, and_true] at hk hi hs
  subst hk; subst hi; subst hs
  exact ⟨⟨k, i, s⟩, rfl, w2, w0, w1⟩
theorem tame_crow (n : Nat) (a : CellD) : (crow a).map (tame n 8) = crow a := by simp [crow, tame]
/-- The value of a slice that is handed in is what is trod. -/
theorem slice_form {t e : TypeId} (ht : Tryz.prog.underlying t = some (.slice e)) (hv : Value.okWide Tryz.prog W r b0 t v) : v.cells.toList = [v] := by
  rcases okSlice ht hv with rfl | ⟨a, len, cap, rfl, _⟩ <;> rfl
theorem inner_cells {t : TypeId} (ht : Tryz.prog.underlying t = some (.slice 31)) (hf : DataW.trod enc Tryz.prog W base (fun _ => true) held fuel t cs = some x) :
    ∃ v l, cs = [v] ∧ Cells (extHeap W) (tame W.heap.size 8 v) l ∧ l.length ≤ maxLen ∧ ∀ a ∈ l, a.s.size ≤ maxLen ∧ (Lit.int .i64 a.k).wf = true ∧ (Lit.int .i64 a.i).wf = true := by
  obtain ⟨v, rows, rfl, hZ, hl, hall⟩ := open_inner ht co31 (by omega) hf
  have key : ∀ rows : List (List Value), (∀ q ∈ rows, ∃ fuel y, DataW.trod enc Tryz.prog W base (fun _ => true) held fuel 31 q = some y) → ∃ l : List CellD, rows = l.map crow ∧ ∀ a ∈ l, a.s.size ≤ maxLen ∧ (Lit.int .i64 a.k).wf = true ∧ (Lit.int .i64 a.i).wf = true := by
    intro rows
    induction rows with
    | nil => intro _; exact ⟨[], rfl, fun a ha => by cases ha⟩
    | cons q rows ih =>
      intro h
      obtain ⟨f, y, hy⟩ := h q (List.mem_cons_self ..)
      obtain ⟨a, rfl, ha⟩ := trod_cell hy
      obtain ⟨l, rfl, hl⟩ := ih fun q hq => h q (List.mem_cons_of_mem _ hq)
      refine ⟨a :: l, rfl, fun z hz => ?_⟩
      rcases List.mem_cons.1 hz with rfl | hz
      · exact ha
      · exact hl z hz
  obtain ⟨l, rfl, hl2⟩ := key rows hall
  refine ⟨v, l, rfl, ?_, by simpa using hl, hl2⟩
  rw [List.map_map, show ((fun q => List.map (tame W.heap.size 8) q) ∘ crow) = crow from funext fun a => tame_crow _ a] at hZ
  exact hZ
theorem open_cells (hv : Value.okWide Tryz.prog W r b0 22 v) (hd : DataW.Trod enc Tryz.prog W base (fun _ => true) held 22 v d ps) :
    ∃ l, Cells (extHeap W) (tame W.heap.size 8 v) l ∧ l.length ≤ maxLen ∧ ∀ a ∈ l, a.s.size ≤ maxLen ∧ (Lit.int .i64 a.k).wf = true ∧ (Lit.int .i64 a.i).wf = true := by
  obtain ⟨fuel, hf⟩ := hd
  obtain ⟨v', l, e, h1⟩ := inner_cells u22 hf
  rw [slice_form u22 hv] at e
  cases e
  exact ⟨l, h1⟩
end
end Go.Proofs.YtghelamfaaakcaaGreat.Sh
