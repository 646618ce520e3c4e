/- Changes that are handed in. -/
import Derived.Test.YtjmfokglckaneaaSzVq
import Derived.Test.YtjmfokglckaneaaSzVw
set_option linter.unusedVariables false
set_option linter.unusedSimpArgs false
set_option maxRecDepth 100000
namespace Go.Proofs.Ytjmfokglckaneaa.Sh
open Go Go.RowKit Go.ChangeShapes Go.WideShapes Go.Proofs.Ev
theorem co23 : Try.prog.cellsOf 23 = 1 := by kernel_rfl
theorem co35 : Try.prog.cellsOf 35 = 1 := by kernel_rfl
theorem co39 : Try.prog.cellsOf 39 = 5 := by kernel_rfl
theorem st39 : Try.prog.underlying 39 = some (.struct (Try.prog.fieldsOf 39)) := by kernel_rfl
theorem tame_slice {n : Nat} {x : Value} {a : Option Addr} {m c : Nat} (h : tame n 8 x = .slice a m c) : tame n 7 x = .slice a m c := by
  cases x with
  | slice b m' c' => cases b with
    | none => exact h
    | some b => exact h
  | pointer b => cases b with
    | none => exact h
    | some b => exact h
  | map b => cases b with
    | none => exact h
    | some b => exact h
  | iface t v => cases h
  | agg vs => cases h
  | _ => exact h
theorem tame_int {n : Nat} {x : Value} {k : IntKind} {i : Int} (h : tame n 8 x = .int k i) : tame n 7 x = .int k i := by
  cases x with
  | slice b m' c' => cases b with
    | none => exact h
    | some b => exact h
  | pointer b => cases b with
    | none => exact h
    | some b => exact h
  | map b => cases b with
    | none => exact h
    | some b => exact h
  | iface t v => cases h
  | agg vs => cases h
  | _ => exact h
section
variable {H : Type} {enc : TypeId × Value → H} {W : World} {base b0 fuel : Nat} {held : Bool} {r : Reach} {cs : List Value} {v : Value} {x : DataW H × List MemPlace} {d : DataW H} {ps : List MemPlace}
/-- What is known of a change that is handed in. -/
structure ChangeW (c : ChangeD) : Prop where
  kind : (Lit.int .i64 c.kind).wf = true
  rows : c.rows.length ≤ maxLen
  row : ∀ r ∈ c.rows, RowW r
  pred : c.pred.length ≤ maxLen
  node : ∀ nd ∈ c.pred, NodeOk nd
  cols : c.cols.length ≤ maxLen
  col : ∀ n ∈ c.cols, (Lit.int .i64 n).wf = true
  to : RowW c.to
theorem trod_change (h : DataW.trod enc Try.prog W base (fun _ => true) held fuel 39 cs = some x) : ∃ c, ChangeR (extHeap W) (cs.map (tame W.heap.size 8)) c ∧ ChangeW c := by
  obtain ⟨xs, n, rfl, rfl, hl, hx, hf⟩ := DataW.trod_struct st39 h
  rw [co39] at hl
  rw [show (Try.prog.fieldsOf 39).size = 5 by kernel_rfl] at hx
  have e0 := fld 0 3 0 (by kernel_rfl) hf
  have e1 := fld 1 23 1 (by kernel_rfl) hf
  have e2 := fld 2 35 2 (by kernel_rfl) hf
  have e3 := fld 3 36 3 (by kernel_rfl) hf
  have e4 := fld 4 37 4 (by kernel_rfl) hf
  obtain ⟨x0, x1, x2, x3, x4, rfl⟩ : ∃ x0 x1 x2 x3 x4, cs = [x0, x1, x2, x3, x4] := by
    match cs, hl with
    | [a, b, c, d, e], _ => exact ⟨a, b, c, d, e, rfl⟩
  obtain ⟨y0, y1, y2, y3, y4, rfl⟩ : ∃ y0 y1 y2 y3 y4, xs = [y0, y1, y2, y3, y4] := by
    match xs, hx with
    | [a, b, c, d, e], _ => exact ⟨a, b, c, d, e, rfl⟩
  simp only [co3, co23, co35, co36, co37, List.drop_zero, List.drop_succ_cons, List.take_succ_cons, List.take_zero, List.getElem?_cons_zero, List.getElem?_cons_succ] at e0 e1 e2 e3 e4
  obtain ⟨k, hk, _, w0⟩ := DataW.trod_int u3 e0
  obtain ⟨rv, rl, h1, hR, w1, w2⟩ := inner_rows u23 e1
  obtain ⟨pv, pl, h2, hP, w3, w4⟩ := inner_preds u35 e2
  obtain ⟨cv, cl, h3, hC, w5, w6⟩ := inner_ints u36 e3
  obtain ⟨tv, tl, h4, hT, w7⟩ := inner_cells u37 e4
  simp only [List.cons.injEq, and_true] at hk h1 h2 h3 h4
  subst hk; subst h1; subst h2; subst h3; subst h4
  exact ⟨⟨k, rl, pl, cl, tl⟩, ⟨_, _, _, _, by simp [chrow, tame], hR, hP, hC, hT⟩, w0, w1, w2, w3, w4, w5, w6, w7⟩
/-- A change that is handed in. -/
theorem open_change (hv : Value.okWide Try.prog W r b0 39 v) (hd : DataW.Trod enc Try.prog W base (fun _ => true) held 39 v d ps) :
    ∃ c rv pv cv tv, tame W.heap.size 8 v = .agg (chrow c.kind rv pv cv tv).toArray ∧ ChangeF (extHeap W) rv pv cv tv c ∧ ChangeW c := by
  unfold Value.okWide at hv
  rw [st39] at hv
  obtain ⟨cs, rfl, _, _⟩ := hv
  obtain ⟨fuel, hf⟩ := hd
  obtain ⟨c, ⟨rv, pv, cv, tv, e, F⟩, hw⟩ := trod_change hf
  refine ⟨c, rv, pv, cv, tv, ?_, F, hw⟩
  obtain ⟨a1, m1, c1, q1⟩ : ∃ a m c, rv = .slice a m c := by
    obtain ⟨vs, X, _⟩ := F.1
    obtain ⟨a, c, e, _⟩ := X.form
    exact ⟨a, _, c, e⟩
  obtain ⟨a2, m2, c2, q2⟩ : ∃ a m c, pv = .slice a m c := by
    obtain ⟨vs, X, _⟩ := F.2.1
    obtain ⟨a, c, e, _⟩ := X.form
    exact ⟨a, _, c, e⟩
  obtain ⟨a3, c3, q3, _⟩ := SlZ.form F.2.2.1
  obtain ⟨a4, c4, q4, _⟩ := SlZ.form F.2.2.2
  show Value.agg (cs.map (tame W.heap.size 7)) = _
  congr 1
  refine Array.toList_inj.1 ?_
  rw [Array.toList_map]
  obtain ⟨x0, x1, x2, x3, x4, e5⟩ : ∃ x0 x1 x2 x3 x4, cs.toList = [x0, x1, x2, x3, x4] := by
    have : (cs.toList.map (tame W.heap.size 8)).length = 5 := congrArg List.length e
    rw [List.length_map] at this
    match h : cs.toList, this with
    | [a, b, c, d, e], _ => exact ⟨a, b, c, d, e, rfl⟩
  have e : cs.toList.map (tame W.heap.size 8) = chrow c.kind rv pv cv tv := e
  rw [e5] at e ⊢
  simp only [chrow, List.map_cons, List.map_nil, List.cons.injEq, and_true] at e ⊢
  obtain ⟨h0, h1, h2, h3, h4⟩ := e
  rw [q1] at h1 ⊢; rw [q2] at h2 ⊢; rw [q3] at h3 ⊢; rw [q4] at h4 ⊢
  exact ⟨tame_int h0, tame_slice h1, tame_slice h2, tame_slice h3, tame_slice h4⟩
end
end Go.Proofs.Ytjmfokglckaneaa.Sh
