/- Bytes, numbers that are handed in. -/
import Derived.Test.YtchfdnboojamnaaSzO4
set_option linter.unusedVariables false
set_option linter.unusedSimpArgs false
namespace Go.Proofs.Ytchfdnboojamnaa.Sh
open Go Go.RowKit Go.Proofs.Ev Go.ChangeShapes Go.WideShapes
theorem co5 : Try.prog.cellsOf 5 = 1 := by kernel_rfl
theorem rows_of {P : List Value → Prop} {f : Int → List Value} {ok : Int → Prop} (hP : ∀ q, P q → ∃ z, q = f z ∧ ok z) : ∀ {rows : List (List Value)}, (∀ (i : Nat) (q : List Value), rows[i]? = some q → P q) → ∃ l : List Int, rows = l.map f ∧ ∀ z ∈ l, ok z := by
  intro rows
  induction rows with
  | nil => intro _; exact ⟨[], rfl, fun z hz => by cases hz⟩
  | cons q rows ih =>
    intro h
    obtain ⟨z, rfl, hz⟩ := hP q (h 0 q rfl)
    obtain ⟨l, rfl, hl⟩ := ih fun i q hq => h (i + 1) q (by simpa using hq)
    refine ⟨z :: l, rfl, fun y hy => ?_⟩
    rcases List.mem_cons.1 hy with rfl | hy
    · exact hz
    · exact hl y hy
theorem open_bytes' {H : Type} {enc : TypeId × Value → H} {W : World} {base b0 : Nat} {sp : Nat → Bool} {held : Bool} {r : Reach} {v : Value} {d : DataW H} {ps : List MemPlace}
    (hv : Value.okWide Try.prog W r b0 25 v) (hd : DataW.Trod enc Try.prog W base sp held 25 v d ps) : ∃ l : List Int, Bytes (extHeap W) (tame W.heap.size 8 v) l ∧ ∀ z ∈ l, (Lit.int .u8 z).wf = true := by
  obtain ⟨rows, h1, _, h2⟩ := open_rows u25 co5 (by omega) hv hd
  obtain ⟨l, rfl, hl⟩ := rows_of (P := fun q => ∃ fuel y, DataW.trod enc Try.prog W base sp held fuel 5 q = some y) (f := brow) (ok := fun z => (Lit.int .u8 z).wf = true) (fun q ⟨fuel, y, hy⟩ => by
    obtain ⟨n, hn, _, w⟩ := DataW.trod_int u5 hy
    exact ⟨n, hn, w⟩) h2
  refine ⟨l, ?_, hl⟩
  unfold Bytes
  rw [List.map_map] at h1
  rw [show (fun q => List.map (tame W.heap.size 8) q) ∘ brow = brow from funext fun c => by simp [brow, tame]] at h1
  exact h1
theorem open_bytes {H : Type} {enc : TypeId × Value → H} {W : World} {base b0 : Nat} {sp : Nat → Bool} {held : Bool} {r : Reach} {v : Value} {d : DataW H} {ps : List MemPlace}
    (hv : Value.okWide Try.prog W r b0 25 v) (hd : DataW.Trod enc Try.prog W base sp held 25 v d ps) : ∃ l : List Int, Bytes (extHeap W) (tame W.heap.size 8 v) l := by
  obtain ⟨l, h, _⟩ := open_bytes' hv hd
  exact ⟨l, h⟩
end Go.Proofs.Ytchfdnboojamnaa.Sh
