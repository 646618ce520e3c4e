/- 'GroupTaken' gives true, whatever it is given. No condition on the columns, the rows, the places, the cell. The code is run by shallow functions (proved to be the evaluator's, which is proved sound). -/
import Derived.Test.YtlbmlncdjkdoaaaGreatRows
import Derived.Test.YtlbmlncdjkdoaaaGreatSzM6
import Derived.OpenShut
namespace Go.Proofs.YtlbmlncdjkdoaaaGreat.groupTaken
open Go Go.ChangeShapes Go.WideShapes Go.ChangeAt Go.RowKit Go.Proofs.Ev
set_option linter.unusedVariables false
theorem own : ownKnob Tryz.prog.godebug = none:=by kernel_rfl
theorem laid : laidOutB Tryz.prog = true:=by kernel_rfl
theorem reads : (([22,23,24,3,3] : List TypeId).all fun t=>Tryz.prog.readableRec t && decide (t < Tryz.prog.types.size)) = true:=by kernel_rfl
theorem sum_le {α : Type} (f : α→Nat) : ∀ (l : List α) (x : α),x ∈ l→f x ≤ (l.map f).sum
 | a :: l,x,h=>by
  rw [List.map_cons,List.sum_cons]
  rcases List.mem_cons.1 h with rfl | h
  ·omega
  ·have:=sum_le f l x h; omega
theorem celR {a : CellD} (h : (Lit.int .i64 a.i).wf = true) : Sh.cellR a:=by
 simp [Lit.wf,IntKind.min,IntKind.max,IntKind.signed,IntKind.bits] at h
 unfold Sh.cellR
 omega
theorem wfR {z : Int} (wz : (Lit.int .i64 z).wf = true) : -9223372036854775808 ≤ z ∧ z ≤ 9223372036854775807:=by
 simp [Lit.wf,IntKind.min,IntKind.max,IntKind.signed,IntKind.bits] at wz
 omega
set_option maxRecDepth 100000 in
theorem told {H : Type} {enc : TypeId × Value→H} {W : World} {base : Nat} {args : Array Value} {ds : List (DataW H)} {p : List MemPlace}
  (hA : DataW.TrodAll enc Tryz.prog W 0 (fun _=>true) true [22,23,24,3,3] args.toList ds p)
  (hval : ∀ (j : Nat) t v,(#[22,23,24,3,3] : Array TypeId)[j]? = some t→args[j]? = some v→Value.okWide Tryz.prog W .any base t v) :
  ∃ k,tellsTrue (eFun Sh.env k (eInv Sh.env k) 3 (args.map (tame W.heap.size 8)) (extHeap W)) = true:=by
 obtain ⟨v0,v1,v2,v3,v4,d0,d1,d2,d3,d4,p0,p1,p2,p3,p4,rfl,rfl,rfl,hd0,hd1,hd2,hd3,hd4⟩:=trodAll_five hA
 have ha0:=hval 0 22 v0 rfl rfl
 have ha1:=hval 1 23 v1 rfl rfl
 have ha2:=hval 2 24 v2 rfl rfl
 have ha3:=hval 3 3 v3 rfl rfl
 have ha4:=hval 4 3 v4 rfl rfl
 obtain ⟨a,A,la,_⟩:=Sh.open_cols ha0 hd0
 obtain ⟨r,R,lr,hr⟩:=Sh.open_rows2 ha1 hd1
 obtain ⟨l,B,_,ll⟩:=open_i64s Sh.u24 (by kernel_rfl) Sh.u3 ha2 hd2
 obtain ⟨z,rfl,_,_,wz⟩:=open_int Sh.u3 ha3 hd3
 obtain ⟨y,rfl,_,_,wy⟩:=open_int Sh.u3 ha4 hd4
 have hm : maxLen = 9223372036854775807:=rfl
 refine ⟨(a.length + r.length + (r.map List.length).sum + 5001) + 800,Tl.tells ?_⟩
 have e : (#[v0,v1,v2,.int .i64 z,.int .i64 y] : Array Value).map (tame W.heap.size 8) = #[tame W.heap.size 8 v0,tame W.heap.size 8 v1,tame W.heap.size 8 v2,Value.int .i64 z,Value.int .i64 y]:=by simp [tame]
 rw [e,Sh.F3_eq]
 exact Sh.f3 A R (.inl B.slV) (wfR wz) (wfR wy) (by omega) (by omega) ⟨by omega,by omega⟩ ⟨by omega,by omega⟩ (fun x hx=>⟨by have:=(hr x hx).1; omega,by have:=sum_le List.length r x hx; omega⟩) (fun x hx y hy=>celR ((hr x hx).2 y hy).2.2)
theorem envP : Sh.env.P = Tryz.prog:=rfl
set_option maxRecDepth 100000 in
theorem lifted (os : Os) (started : os.Started) (H : Type) (enc : TypeId × Value→H) :
  ReturnsInHanded {} Tryz.checked os 3 .any (Rows.groupTakenSpec.pre6 enc Tryz.prog Tryz.f3 Rows.groupTakenRow.domain false) (Rows.groupTakenSpec.post enc Tryz.prog Tryz.f3 false true false false):=by
 refine returnsInHanded_of_change (C:=Tryz.checked) own started (by kernel_rfl) Tryz.func3
  (ChangeSpec.witness6 (enc:=enc) (C:=Tryz.checked) false ⟨#[],#[.slice none 0 0,.slice none 0 0,.slice none 0 0,.int .i64 0,.int .i64 0],[]⟩ 8 (by kernel_rfl) (by kernel_rfl) (by kernel_rfl) (by kernel_rfl)) ?_
 intro W base args ds gs before hval0 hW hcnd _
 have hval : ∀ (j : Nat) t v,Tryz.f3.params[j]? = some t→args[j]? = some v→Value.okWide Tryz.prog W .any base t v:=hval0
 have hW':=hW
 obtain ⟨p,q,hA0,hV,rfl,hfz,hnd⟩:=hW
 have hA : DataW.TrodAll enc Tryz.prog W 0 (fun _=>true) true Tryz.f3.params.toList args.toList ds p:=hA0
 rw [Tryz.params3] at hA hval
 obtain ⟨rfl,rfl⟩:=trodVars_none hV
 obtain ⟨k,hk⟩:=told hA hval
 have hA2:=hA
 obtain ⟨v0,v1,v2,v3,v4,d0,d1,d2,d3,d4,p0,p1,p2,p3,p4,rfl,rfl,rfl,hd0,hd1,hd2,hd3,hd4⟩:=trodAll_five hA
 have hlt:=hW'.lt
 refine ((by rw [← envP]; exact lawA Sh.setting hk : Calls Tryz.prog 3 _ W fun e w'=>e = .returned (.bool true) ∧ Below W.heap.size W w')).mono fun e W' ⟨he,hg⟩=>?_
 subst he
 refine ⟨_,rfl,post_of_below (pa:=_) (pv:=[]) hW' (fun _ _ _=>(trodAll_cons_mk (shut_bool Tryz.underlying4 _) trodAll_mk0)) (fun sp hsp=>?_) (fun _ _=>rfl) rfl
  hg (ok_one (by kernel_rfl) rfl (okWide_bool_mk Tryz.underlying4 _))⟩
 have:=args_stay laid hg (sp:=sp) [22,23,24,3,3] reads hA2 (fun x hx=>hlt x (by simpa using hx)) (fun x hx=>hsp x (by simpa using hx))
 rw [Tryz.params3]
 exact this
theorem over : Rows.groupTakenRow.holds Tryz.pinned (OpenSpec.ofChange Rows.groupTakenSpec) :=
 OpenClaim.holds_of_wide 3 Tryz.f3 rfl rfl rfl rfl rfl rfl rfl ⟨rfl,rfl,rfl,rfl,rfl⟩ rfl rfl rfl rfl rfl (by kernel_rfl) Tryz.func3 (by kernel_rfl)
  (of_decide_eq_true (by kernel_rfl)) (by unfold Func.isWrapper; first | (rw [if_pos (by decide +kernel)]; kernel_rfl) | (rw [if_neg (by decide +kernel)]; exact ⟨rfl,rfl⟩))
  (fun os started H enc _=>lifted os started H enc)
theorem proved : Rows.GroupTakenSaid :=
 over
#print axioms proved
end Go.Proofs.YtlbmlncdjkdoaaaGreat.groupTaken
