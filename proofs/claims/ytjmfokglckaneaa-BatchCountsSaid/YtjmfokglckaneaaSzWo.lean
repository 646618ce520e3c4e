/- Changes that are handed in. -/
import Derived.Test.YtjmfokglckaneaaSzVq
import Derived.Test.YtjmfokglckaneaaSzVw
set_option linter.unusedVariables false
set_option linter.unusedSimpArgs false
set_option maxRecDepth 100000
namespace Go.Proofs.Ytjmfokglckaneaa.Sh
open Go Go.RowKit Go.ChangeShapes Go.WideShapes Go.Proofs.Ev
theorem co23 : Try.prog.cellsOf 23 = 1 := by kernel_rfl
theorem co35 : Try.prog.cellsOf 35 = 1 := by kernel_rfl
theorem co39 : Try.prog.cellsOf 39 = 5 := by kernel_rfl
theorem st39 : Try.prog.underlying 39 = some (.struct (Try.prog.fieldsOf 39)) := by kernel_rfl
section
variable {H : Type} {enc : TypeId × Value → H} {W : World} {base b0 fuel : Nat} {held : Bool} {r : Reach} {cs : List Value} {v : Value} {x : DataW H × List MemPlace} {d : DataW H} {ps : List MemPlace}
/-- What is known of a change that is handed in. -/
structure ChangeW (c : ChangeD) : Prop where
  kind : (Lit.int .i64 c.kind).wf = true
  rows : c.rows.length ≤ maxLen
  row : ∀ r ∈ c.rows, RowW r
  pred : c.pred.length ≤ maxLen
  node : ∀ nd ∈ c.pred, NodeOk nd
  cols : c.cols.length ≤ maxLen
  col : ∀ n ∈ c.cols, (Lit.int .i64 n).wf = true
  to : RowW c.to
theorem trod_change (h : DataW.trod enc Try.prog W base (fun _ => true) held fuel 39 cs = some x) : ∃ c, ChangeR (extHeap W) (cs.map (tame W.heap.size 8)) c ∧ ChangeW c := by
  obtain ⟨xs, n, rfl, rfl, hl, hx, hf⟩ := DataW.trod_struct st39 h
  rw [co39] at hl
  rw [show (Try.prog.fieldsOf 39).size = 5 by kernel_rfl] at hx
  have e0 := fld 0 3 0 (by kernel_rfl) hf
  have e1 := fld 1 23 1 (by kernel_rfl) hf
  have e2 := fld 2 35 2 (by kernel_rfl) hf
  have e3 := fld 3 36 3 (by kernel_rfl) hf
  have e4 := fld 4 37 4 (by kernel_rfl) hf
  obtain ⟨x0, x1, x2, x3, x4, rfl⟩ : ∃ x0 x1 x2 x3 x4, cs = [x0, x1, x2, x3, x4] := by
    match cs, hl with
    | [a, b, c, d, e], _ => exact ⟨a, b, c, d, e, rfl⟩
  obtain ⟨y0, y1, y2, y3, y4, rfl⟩ : ∃ y0 y1 y2 y3 y4, xs = [y0, y1, y2, y3, y4] := by
    match xs, hx with
    | [a, b, c, d, e], _ => exact ⟨a, b, c, d, e, rfl⟩
  simp only [co3, co23, co35, co36, co37, List.drop_zero, List.drop_succ_cons, List.take_succ_cons, List.take_zero, List.getElem?_cons_zero, List.getElem?_cons_succ] at e0 e1 e2 e3 e4
  obtain ⟨k, hk, _, w0⟩ := DataW.trod_int u3 e0
  obtain ⟨rv, rl, h1, hR, w1, w2⟩ := inner_rows u23 e1
  obtain ⟨pv, pl, h2, hP, w3, w4⟩ := inner_preds u35 e2
  obtain ⟨cv, cl, h3, hC, w5, w6⟩ := inner_ints u36 e3
  obtain ⟨tv, tl, h4, hT, w7⟩ := inner_cells u37 e4
  simp only [List.cons.injEq, and_true] at hk h1 h2 h3 h4
  subst hk; subst h1; subst h2; subst h3; subst h4
  exact ⟨⟨k, rl, pl, cl, tl⟩, ⟨_, _, _, _, by simp [chrow, tame], hR, hP, hC, hT⟩, w0, w1, w2, w3, w4, w5, w6, w7⟩
theorem open_changes (hv : Value.okWide Try.prog W r b0 24 v) (hd : DataW.Trod enc Try.prog W base (fun _ => true) held 24 v d ps) :
    ∃ l, Changes (extHeap W) (tame W.heap.size 8 v) l ∧ l.length ≤ maxLen ∧ ∀ c ∈ l, ChangeW c := by
  obtain ⟨fuel, hf⟩ := hd
  obtain ⟨v', rows, e, hZ, hl, hall⟩ := open_inner u24 co39 (by omega) hf
  rw [slice_form u24 hv] at e
  cases e
  have key : ∀ rows : List (List Value), (∀ q ∈ rows, ∃ fuel y, DataW.trod enc Try.prog W base (fun _ => true) held fuel 39 q = some y) → ∃ l : List ChangeD, All2 (ChangeR (extHeap W)) (rows.map fun q => q.map (tame W.heap.size 8)) l ∧ ∀ c ∈ l, ChangeW c := by
    intro rows
    induction rows with
    | nil => intro _; exact ⟨[], trivial, fun a ha => by cases ha⟩
    | cons q rows ih =>
      intro h
      obtain ⟨f, y, hy⟩ := h q (List.mem_cons_self ..)
      obtain ⟨c, ha, ok⟩ := trod_change hy
      obtain ⟨l, hl, hl2⟩ := ih fun q hq => h q (List.mem_cons_of_mem _ hq)
      refine ⟨c :: l, ⟨ha, hl⟩, fun z hz => ?_⟩
      rcases List.mem_cons.1 hz with rfl | hz
      · exact ok
      · exact hl2 z hz
  obtain ⟨l, hA, hl2⟩ := key rows hall
  exact ⟨l, ⟨_, hZ, hA⟩, by rw [← hA.len]; simpa using hl, hl2⟩
end
end Go.Proofs.Ytjmfokglckaneaa.Sh
