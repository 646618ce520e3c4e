/- A cell that is handed in. -/
import Derived.Test.YtpiibdegmimckaaSzC4
set_option linter.unusedVariables false
set_option linter.unusedSimpArgs false
namespace Go.Proofs.Ytpiibdegmimckaa.Sh
open Go Go.RowKit Go.Proofs.Ev Go.Lib Go.ChangeShapes Go.WideShapes

theorem tame_cell (n d : Nat) (a : CellD) : tame n (d + 2) a.v = a.v := by
  unfold CellD.v
  simp [tame]
theorem co26 : Try.prog.cellsOf 26 = 3 := by kernel_rfl
theorem co3 : Try.prog.cellsOf 3 = 1 := by kernel_rfl
theorem co2 : Try.prog.cellsOf 2 = 1 := by kernel_rfl
theorem co9 : Try.prog.cellsOf 9 = 1 := by kernel_rfl
/-- The cells of a cell. -/
theorem trod_cell {H : Type} {enc : TypeId × Value → H} {W : World} {base : Nat} {sp : Nat → Bool} {held : Bool} {fuel : Nat} {cs : List Value} {x : DataW H × List MemPlace} (h : DataW.trod enc Try.prog W base sp held fuel 26 cs = some x) :
    ∃ a : CellD, cs = [.int .i64 a.k, .int .i64 a.i, .string a.s] ∧ a.s.size ≤ maxLen ∧ (Lit.int .i64 a.k).wf = true ∧ (Lit.int .i64 a.i).wf = true := by
  obtain ⟨xs, n, rfl, rfl, hl, hx, hf⟩ := DataW.trod_struct st26 h
  rw [co26] at hl
  have hs : (Try.prog.fieldsOf 26).size = 3 := by kernel_rfl
  rw [hs] at hx
  have f0 : (Try.prog.fieldsOf 26)[0]? = some { name := "Kind", type := 3, offset := 0, embedded := false, tag := "", pkgPath := "", byteOffset := 0 } := by kernel_rfl
  have f1 : (Try.prog.fieldsOf 26)[1]? = some { name := "Int", type := 2, offset := 1, embedded := false, tag := "", pkgPath := "", byteOffset := 8 } := by kernel_rfl
  have f2 : (Try.prog.fieldsOf 26)[2]? = some { name := "Text", type := 9, offset := 2, embedded := false, tag := "", pkgPath := "", byteOffset := 16 } := by kernel_rfl
  have e0 := hf 0 _ f0
  have e1 := hf 1 _ f1
  have e2 := hf 2 _ f2
  obtain ⟨x0, x1, x2, rfl⟩ : ∃ x0 x1 x2, cs = [x0, x1, x2] := by
    match cs, hl with
    | [a, b, c], _ => exact ⟨a, b, c, rfl⟩
  obtain ⟨y0, y1, y2, rfl⟩ : ∃ y0 y1 y2, xs = [y0, y1, y2] := by
    match xs, hx with
    | [a, b, c], _ => exact ⟨a, b, c, rfl⟩
  simp only [co3, co2, co9, List.drop_zero, List.drop_succ_cons, List.take_succ_cons, List.take_zero, List.getElem?_cons_zero, List.getElem?_cons_succ] at e0 e1 e2
  obtain ⟨k, hk, _, w0⟩ := DataW.trod_int u3 e0
  obtain ⟨i, hi, _, w1⟩ := DataW.trod_int u2 e1
  obtain ⟨s, hs, _, w2⟩ := DataW.trod_string u9 e2
  simp only [List.cons.injEq, and_true] at hk hi hs
  subst hk; subst hi; subst hs
  exact ⟨⟨k, i, s⟩, rfl, w2, w0, w1⟩
theorem open_cell {H : Type} {enc : TypeId × Value → H} {W : World} {base b0 : Nat} {sp : Nat → Bool} {held : Bool} {r : Reach} {v : Value} {d : DataW H} {ps : List MemPlace}
    (hv : Value.okWide Try.prog W r b0 26 v) (hd : DataW.Trod enc Try.prog W base sp held 26 v d ps) : ∃ a : CellD, v = a.v := by
  unfold Value.okWide at hv
  rw [st26] at hv
  obtain ⟨cs, rfl, _, _⟩ := hv
  obtain ⟨fuel, hf⟩ := hd
  obtain ⟨a, ha, _⟩ := trod_cell hf
  refine ⟨a, ?_⟩
  unfold CellD.v
  congr 1
  exact Array.toList_inj.1 ha
end Go.Proofs.Ytpiibdegmimckaa.Sh
