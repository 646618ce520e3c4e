/- Aggregates that are handed in. -/
import Derived.Test.YtgklcfnjahomjaaSzVp
import Derived.Test.YtgklcfnjahomjaaSzVq
import Derived.Test.YtgklcfnjahomjaaSzY2
set_option linter.unusedVariables false
set_option linter.unusedSimpArgs false
set_option maxRecDepth 100000
namespace Go.Proofs.Ytgklcfnjahomjaa.Sh
open Go Go.RowKit Go.ChangeShapes Go.WideShapes Go.Proofs.Ev
theorem co28 : Try.prog.cellsOf 28 = 2:=by kernel_rfl
theorem st28 : Try.prog.underlying 28 = some (.struct (Try.prog.fieldsOf 28)):=by kernel_rfl
section
variable {H : Type} {enc : TypeId × Value→H} {W : World} {base b0 fuel : Nat} {held : Bool} {r : Reach} {cs : List Value} {v : Value} {x : DataW H × List MemPlace} {d : DataW H} {ps : List MemPlace} {sp : Nat→Bool}
theorem trod_agg (h : DataW.trod enc Try.prog W base sp held fuel 28 cs = some x) : ∃ a : AggD,cs = arow a:=by
 obtain ⟨xs,n,rfl,rfl,hl,hx,hf⟩:=DataW.trod_struct st28 h
 rw [co28] at hl
 rw [show (Try.prog.fieldsOf 28).size = 2 by kernel_rfl] at hx
 have e0:=fld 0 3 0 (by kernel_rfl) hf
 have e1:=fld 1 3 1 (by kernel_rfl) hf
 obtain ⟨x0,x1,rfl⟩ : ∃ x0 x1,cs = [x0,x1]:=by
  match cs,hl with
  | [a,b],_=>exact ⟨a,b,rfl⟩
 obtain ⟨y0,y1,rfl⟩ : ∃ y0 y1,xs = [y0,y1]:=by
  match xs,hx with
  | [a,b],_=>exact ⟨a,b,rfl⟩
 simp only [co3,List.drop_zero,List.drop_succ_cons,List.take_succ_cons,List.take_zero,List.getElem?_cons_zero,List.getElem?_cons_succ] at e0 e1
 obtain ⟨k,hk,_,_⟩:=DataW.trod_int u3 e0
 obtain ⟨c,hc,_,_⟩:=DataW.trod_int u3 e1
 simp only [List.cons.injEq,and_true] at hk hc
 subst hk; subst hc
 exact ⟨⟨k,c⟩,rfl⟩
theorem open_aggs (hv : Value.okWide Try.prog W r b0 29 v) (hd : DataW.Trod enc Try.prog W base (fun _=>true) held 29 v d ps) : ∃ l : List AggD,Aggs (extHeap W) (tame W.heap.size 8 v) l ∧ l.length ≤ maxLen:=by
 obtain ⟨l,h1,_,h2⟩:=open_slN arow (fun _=>True) u29 co28 (by omega) (fun fuel q y hq=>by
  obtain ⟨a,ha⟩:=trod_agg hq
  exact ⟨a,ha,trivial⟩) (fun x=>by simp [tame,arow]) hv hd
 exact ⟨l,.inl h1.slV,h2⟩
end
end Go.Proofs.Ytgklcfnjahomjaa.Sh
