/- Columns that are handed in. -/
import Derived.Test.YtgklcfnjahomjaaSzVo
import Derived.Test.YtgklcfnjahomjaaSzVh
set_option linter.unusedVariables false
set_option linter.unusedSimpArgs false
set_option maxRecDepth 100000
namespace Go.Proofs.Ytgklcfnjahomjaa.Sh
open Go Go.RowKit Go.ChangeShapes Go.WideShapes Go.Proofs.Ev
theorem co4 : Try.prog.cellsOf 4 = 1:=by kernel_rfl
theorem co42 : Try.prog.cellsOf 42 = 3:=by kernel_rfl
theorem st42 : Try.prog.underlying 42 = some (.struct (Try.prog.fieldsOf 42)):=by kernel_rfl
section
variable {H : Type} {enc : TypeId × Value→H} {W : World} {base b0 fuel : Nat} {held : Bool} {r : Reach} {cs : List Value} {v : Value} {x : DataW H × List MemPlace} {d : DataW H} {ps : List MemPlace} {sp : Nat→Bool}
theorem trod_col (h : DataW.trod enc Try.prog W base sp held fuel 42 cs = some x) : ∃ a : ColD,cs = colrow a ∧ a.name.size ≤ maxLen ∧ (Lit.int .i64 a.kind).wf = true:=by
 obtain ⟨xs,n,rfl,rfl,hl,hx,hf⟩:=DataW.trod_struct st42 h
 rw [co42] at hl
 rw [show (Try.prog.fieldsOf 42).size = 3 by kernel_rfl] at hx
 have e0:=fld 0 9 0 (by kernel_rfl) hf
 have e1:=fld 1 3 1 (by kernel_rfl) hf
 have e2:=fld 2 4 2 (by kernel_rfl) hf
 obtain ⟨x0,x1,x2,rfl⟩ : ∃ x0 x1 x2,cs = [x0,x1,x2]:=by
  match cs,hl with
  | [a,b,c],_=>exact ⟨a,b,c,rfl⟩
 obtain ⟨y0,y1,y2,rfl⟩ : ∃ y0 y1 y2,xs = [y0,y1,y2]:=by
  match xs,hx with
  | [a,b,c],_=>exact ⟨a,b,c,rfl⟩
 simp only [co3,co4,co9,List.drop_zero,List.drop_succ_cons,List.take_succ_cons,List.take_zero,List.getElem?_cons_zero,List.getElem?_cons_succ] at e0 e1 e2
 obtain ⟨s,hs,_,w2⟩:=DataW.trod_string u9 e0
 obtain ⟨i,hi,_,w1⟩:=DataW.trod_int u3 e1
 obtain ⟨b,hb,_⟩:=DataW.trod_bool u4 e2
 simp only [List.cons.injEq,and_true] at hb hi hs
 subst hb; subst hi; subst hs
 exact ⟨⟨s,i,b⟩,rfl,w2,w1⟩
theorem inner_cols {t : TypeId} (ht : Try.prog.underlying t = some (.slice 42)) (hf : DataW.trod enc Try.prog W base (fun _=>true) held fuel t cs = some x) :
  ∃ v l,cs = [v] ∧ Cols (extHeap W) (tame W.heap.size 8 v) l ∧ l.length ≤ maxLen ∧ ∀ a ∈ l,a.name.size ≤ maxLen ∧ (Lit.int .i64 a.kind).wf = true:=by
 obtain ⟨v,rows,rfl,hZ,hl,hall⟩:=open_inner ht co42 (by omega) hf
 have key : ∀ rows : List (List Value),(∀ q ∈ rows,∃ fuel y,DataW.trod enc Try.prog W base (fun _=>true) held fuel 42 q = some y)→∃ l : List ColD,rows = l.map colrow ∧ ∀ a ∈ l,a.name.size ≤ maxLen ∧ (Lit.int .i64 a.kind).wf = true:=by
  intro rows
  induction rows with
  | nil=>intro _; exact ⟨[],rfl,fun a ha=>by cases ha⟩
  | cons q rows ih =>
   intro h
   obtain ⟨f,y,hy⟩:=h q (List.mem_cons_self ..)
   obtain ⟨a,rfl,ha⟩:=trod_col hy
   obtain ⟨l,rfl,hl⟩:=ih fun q hq=>h q (List.mem_cons_of_mem _ hq)
   refine ⟨a :: l,rfl,fun z hz=>?_⟩
   rcases List.mem_cons.1 hz with rfl | hz
   ·exact ha
   ·exact hl z hz
 obtain ⟨l,rfl,hl2⟩:=key rows hall
 refine ⟨v,l,rfl,?_,by simpa using hl,hl2⟩
 have : (l.map colrow).map (fun q=>List.map (tame W.heap.size 8) q) = l.map colrow:=by
  rw [List.map_map]
  exact List.map_congr_left fun a _=>by simp [tame,colrow]
 rw [this] at hZ
 exact hZ
theorem open_cols (hv : Value.okWide Try.prog W r b0 22 v) (hd : DataW.Trod enc Try.prog W base (fun _=>true) held 22 v d ps) :
  ∃ l,Cols (extHeap W) (tame W.heap.size 8 v) l ∧ l.length ≤ maxLen ∧ ∀ a ∈ l,a.name.size ≤ maxLen ∧ (Lit.int .i64 a.kind).wf = true:=by
 obtain ⟨fuel,hf⟩:=hd
 obtain ⟨v',l,e,h1⟩:=inner_cols u22 hf
 rw [slice_form u22 hv] at e
 cases e
 exact ⟨l,h1⟩
end
end Go.Proofs.Ytgklcfnjahomjaa.Sh
