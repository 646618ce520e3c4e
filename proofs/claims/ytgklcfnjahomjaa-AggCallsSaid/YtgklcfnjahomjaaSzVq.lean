/- Rows of rows that are handed in. -/
import Derived.Test.YtgklcfnjahomjaaSzVp
import Derived.Test.YtgklcfnjahomjaaSzVm
set_option linter.unusedVariables false
set_option linter.unusedSimpArgs false
set_option maxRecDepth 100000
namespace Go.Proofs.Ytgklcfnjahomjaa.Sh
open Go Go.RowKit Go.ChangeShapes Go.WideShapes Go.Proofs.Ev
theorem co34 : Try.prog.cellsOf 34 = 1:=by kernel_rfl
section
variable {H : Type} {enc : TypeId × Value→H} {W : World} {base b0 fuel : Nat} {held : Bool} {r : Reach} {cs : List Value} {v : Value} {x : DataW H × List MemPlace} {d : DataW H} {ps : List MemPlace}
def RowW (l : List CellD) : Prop:=l.length ≤ maxLen ∧ ∀ a ∈ l,a.s.size ≤ maxLen ∧ (Lit.int .i64 a.k).wf = true ∧ (Lit.int .i64 a.i).wf = true
theorem inner_rows {t : TypeId} (ht : Try.prog.underlying t = some (.slice 34)) (hf : DataW.trod enc Try.prog W base (fun _=>true) held fuel t cs = some x) :
  ∃ v l,cs = [v] ∧ Rows (extHeap W) (tame W.heap.size 8 v) l ∧ l.length ≤ maxLen ∧ ∀ a ∈ l,RowW a:=by
 obtain ⟨v,rows,rfl,hZ,hl,hall⟩:=open_inner ht co34 (by omega) hf
 have key : ∀ rows : List (List Value),(∀ q ∈ rows,∃ fuel y,DataW.trod enc Try.prog W base (fun _=>true) held fuel 34 q = some y)→∃ (vs : List Value) (l : List (List CellD)),(rows.map fun q=>q.map (tame W.heap.size 8)) = vs.map (fun v=>[v]) ∧ All2 (Cells (extHeap W)) vs l ∧ ∀ a ∈ l,RowW a:=by
  intro rows
  induction rows with
  | nil=>intro _; exact ⟨[],[],rfl,trivial,fun a ha=>by cases ha⟩
  | cons q rows ih =>
   intro h
   obtain ⟨f,y,hy⟩:=h q (List.mem_cons_self ..)
   obtain ⟨w,l0,rfl,hc,hl0,hw0⟩:=inner_cells u34 hy
   obtain ⟨vs,l,e,hA,hl⟩:=ih fun q hq=>h q (List.mem_cons_of_mem _ hq)
   refine ⟨tame W.heap.size 8 w :: vs,l0 :: l,by rw [List.map_cons,e]; rfl,⟨hc,hA⟩,fun z hz=>?_⟩
   rcases List.mem_cons.1 hz with rfl | hz
   ·exact ⟨hl0,hw0⟩
   ·exact hl z hz
 obtain ⟨vs,l,e,hA,hl2⟩:=key rows hall
 rw [e] at hZ
 refine ⟨v,l,rfl,⟨vs,hZ,hA⟩,?_,hl2⟩
 rw [← hA.len]
 have:=congrArg List.length e
 simp at this
 omega
theorem open_rows2 (hv : Value.okWide Try.prog W r b0 23 v) (hd : DataW.Trod enc Try.prog W base (fun _=>true) held 23 v d ps) : ∃ l,Rows (extHeap W) (tame W.heap.size 8 v) l ∧ l.length ≤ maxLen ∧ ∀ a ∈ l,RowW a:=by
 obtain ⟨fuel,hf⟩:=hd
 obtain ⟨v',l,e,h1⟩:=inner_rows u23 hf
 rw [slice_form u23 hv] at e
 cases e
 exact ⟨l,h1⟩
end
end Go.Proofs.Ytgklcfnjahomjaa.Sh
