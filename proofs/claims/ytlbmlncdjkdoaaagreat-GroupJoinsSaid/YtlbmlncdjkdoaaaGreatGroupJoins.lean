/- 'GroupJoins' gives true, whatever it is given. No condition on the columns, the rows, the place where they are cut. The code is run by shallow functions (proved to be the evaluator's, which is proved sound). -/
import Derived.Test.YtlbmlncdjkdoaaaGreatRows
import Derived.Test.YtlbmlncdjkdoaaaGreatSzM7
import Derived.OpenShut
namespace Go.Proofs.YtlbmlncdjkdoaaaGreat.groupJoins
open Go Go.ChangeShapes Go.WideShapes Go.ChangeAt Go.RowKit Go.Proofs.Ev
set_option linter.unusedVariables false
theorem own : ownKnob Tryz.prog.godebug = none:=by kernel_rfl
theorem laid : laidOutB Tryz.prog = true:=by kernel_rfl
theorem reads : (([22,23,3] : List TypeId).all fun t=>Tryz.prog.readableRec t && decide (t < Tryz.prog.types.size)) = true:=by kernel_rfl
theorem sum_le {α : Type} (f : α→Nat) : ∀ (l : List α) (x : α),x ∈ l→f x ≤ (l.map f).sum
 | a :: l,x,h=>by
  rw [List.map_cons,List.sum_cons]
  rcases List.mem_cons.1 h with rfl | h
  ·omega
  ·have:=sum_le f l x h; omega
theorem celR {a : CellD} (h : (Lit.int .i64 a.i).wf = true) : Sh.cellR a:=by
 simp [Lit.wf,IntKind.min,IntKind.max,IntKind.signed,IntKind.bits] at h
 unfold Sh.cellR
 omega
set_option maxRecDepth 100000 in
theorem told {H : Type} {enc : TypeId × Value→H} {W : World} {base : Nat} {args : Array Value} {ds : List (DataW H)} {p : List MemPlace}
  (hA : DataW.TrodAll enc Tryz.prog W 0 (fun _=>true) true [22,23,3] args.toList ds p)
  (hval : ∀ (j : Nat) t v,(#[22,23,3] : Array TypeId)[j]? = some t→args[j]? = some v→Value.okWide Tryz.prog W .any base t v) :
  ∃ k,tellsTrue (eFun Sh.env k (eInv Sh.env k) 5 (args.map (tame W.heap.size 8)) (extHeap W)) = true:=by
 obtain ⟨v0,v1,v2,d0,d1,d2,p0,p1,p2,rfl,rfl,rfl,hd0,hd1,hd2⟩:=trodAll_three hA
 have ha0:=hval 0 22 v0 rfl rfl
 have ha1:=hval 1 23 v1 rfl rfl
 have ha2:=hval 2 3 v2 rfl rfl
 obtain ⟨a,A,la,_⟩:=Sh.open_cols ha0 hd0
 obtain ⟨r,R,lr,hr⟩:=Sh.open_rows2 ha1 hd1
 obtain ⟨z,rfl,_,_,wz⟩:=open_int Sh.u3 ha2 hd2
 have hz : -9223372036854775808 ≤ z ∧ z ≤ 9223372036854775807:=by
  simp [Lit.wf,IntKind.min,IntKind.max,IntKind.signed,IntKind.bits] at wz
  omega
 have hm : maxLen = 9223372036854775807:=rfl
 refine ⟨(a.length + r.length + (r.map List.length).sum + 60001) + 2100,Tl.tells ?_⟩
 have e : (#[v0,v1,.int .i64 z] : Array Value).map (tame W.heap.size 8) = #[tame W.heap.size 8 v0,tame W.heap.size 8 v1,Value.int .i64 z]:=by simp [tame]
 rw [e,Sh.F5_eq]
 exact Sh.f5 A R (Sh.rows_szV R) hz (by omega) ⟨by omega,by omega⟩ ⟨by omega,by omega⟩ (fun x hx=>⟨by have:=(hr x hx).1; omega,by have:=sum_le List.length r x hx; omega⟩) (fun x hx y hy=>celR ((hr x hx).2 y hy).2.2)
theorem envP : Sh.env.P = Tryz.prog:=rfl
set_option maxRecDepth 100000 in
theorem lifted (os : Os) (started : os.Started) (H : Type) (enc : TypeId × Value→H) :
  ReturnsInHanded {} Tryz.checked os 5 .any (Rows.groupJoinsSpec.pre6 enc Tryz.prog Tryz.f5 Rows.groupJoinsRow.domain false) (Rows.groupJoinsSpec.post enc Tryz.prog Tryz.f5 false true false false):=by
 refine returnsInHanded_of_change (C:=Tryz.checked) own started (by kernel_rfl) Tryz.func5
  (ChangeSpec.witness6 (enc:=enc) (C:=Tryz.checked) false ⟨#[],#[.slice none 0 0,.slice none 0 0,.int .i64 0],[]⟩ 8 (by kernel_rfl) (by kernel_rfl) (by kernel_rfl) (by kernel_rfl)) ?_
 intro W base args ds gs before hval0 hW hcnd _
 have hval : ∀ (j : Nat) t v,Tryz.f5.params[j]? = some t→args[j]? = some v→Value.okWide Tryz.prog W .any base t v:=hval0
 have hW':=hW
 obtain ⟨p,q,hA0,hV,rfl,hfz,hnd⟩:=hW
 have hA : DataW.TrodAll enc Tryz.prog W 0 (fun _=>true) true Tryz.f5.params.toList args.toList ds p:=hA0
 rw [Tryz.params5] at hA hval
 obtain ⟨rfl,rfl⟩:=trodVars_none hV
 obtain ⟨k,hk⟩:=told hA hval
 have hA2:=hA
 obtain ⟨v0,v1,v2,d0,d1,d2,p0,p1,p2,rfl,rfl,rfl,hd0,hd1,hd2⟩:=trodAll_three hA
 have hlt:=hW'.lt
 refine ((by rw [← envP]; exact lawA Sh.setting hk : Calls Tryz.prog 5 _ W fun e w'=>e = .returned (.bool true) ∧ Below W.heap.size W w')).mono fun e W' ⟨he,hg⟩=>?_
 subst he
 refine ⟨_,rfl,post_of_below (pa:=_) (pv:=[]) hW' (fun _ _ _=>(trodAll_cons_mk (shut_bool Tryz.underlying4 _) trodAll_mk0)) (fun sp hsp=>?_) (fun _ _=>rfl) rfl
  hg (ok_one (by kernel_rfl) rfl (okWide_bool_mk Tryz.underlying4 _))⟩
 have:=args_stay laid hg (sp:=sp) [22,23,3] reads hA2 (fun x hx=>hlt x (by simpa using hx)) (fun x hx=>hsp x (by simpa using hx))
 rw [Tryz.params5]
 exact this
theorem over : Rows.groupJoinsRow.holds Tryz.pinned (OpenSpec.ofChange Rows.groupJoinsSpec) :=
 OpenClaim.holds_of_wide 5 Tryz.f5 rfl rfl rfl rfl rfl rfl rfl ⟨rfl,rfl,rfl,rfl,rfl⟩ rfl rfl rfl rfl rfl (by kernel_rfl) Tryz.func5 (by kernel_rfl)
  (of_decide_eq_true (by kernel_rfl)) (by unfold Func.isWrapper; first | (rw [if_pos (by decide +kernel)]; kernel_rfl) | (rw [if_neg (by decide +kernel)]; exact ⟨rfl,rfl⟩))
  (fun os started H enc _=>lifted os started H enc)
theorem proved : Rows.GroupJoinsSaid :=
 over
#print axioms proved
end Go.Proofs.YtlbmlncdjkdoaaaGreat.groupJoins
