/- 'SegmentBack' gives true, whatever it is given. No condition on the kind, the cells, the bytes. The code is run by shallow functions (proved to be the evaluator's, which is proved sound). -/
import Derived.Test.YtghelamfaaakcaaGreatRows
import Derived.Test.YtghelamfaaakcaaGreatSzM8
import Derived.OpenShut
namespace Go.Proofs.YtghelamfaaakcaaGreat.segmentBack
open Go Go.ChangeShapes Go.WideShapes Go.ChangeAt Go.RowKit Go.Proofs.Ev
set_option linter.unusedVariables false
theorem own : ownKnob Tryz.prog.godebug = none:=by kernel_rfl
theorem laid : laidOutB Tryz.prog = true:=by kernel_rfl
theorem reads : (([3,22,9] : List TypeId).all fun t=>Tryz.prog.readableRec t && decide (t < Tryz.prog.types.size)) = true:=by kernel_rfl
set_option maxRecDepth 100000 in
theorem told {H : Type} {enc : TypeId × Value→H} {W : World} {base : Nat} {args : Array Value} {ds : List (DataW H)} {p : List MemPlace}
  (hA : DataW.TrodAll enc Tryz.prog W 0 (fun _=>true) true [3,22,9] args.toList ds p)
  (hval : ∀ (j : Nat) t v,(#[3,22,9] : Array TypeId)[j]? = some t→args[j]? = some v→Value.okWide Tryz.prog W .any base t v) :
  ∃ k,tellsTrue (eFun Sh.env k (eInv Sh.env k) 8 (args.map (tame W.heap.size 8)) (extHeap W)) = true:=by
 obtain ⟨v0,v1,v2,d0,d1,d2,p0,p1,p2,rfl,rfl,rfl,hd0,hd1,hd2⟩:=trodAll_three hA
 have ha0:=hval 0 3 v0 rfl rfl
 have ha1:=hval 1 22 v1 rfl rfl
 have ha2:=hval 2 9 v2 rfl rfl
 obtain ⟨kind,rfl,_⟩:=open_int Sh.u3 ha0 hd0
 obtain ⟨l,L,hl,hw⟩:=Sh.open_cells ha1 hd1
 obtain ⟨s,rfl,_⟩:=Go.ChangeMaps.open_string Sh.u9 ha2 hd2
 have hm : maxLen = 9223372036854775807:=rfl
 refine ⟨26000,Tl.tells ?_⟩
 have e : (#[.int .i64 kind,v1,.string s] : Array Value).map (tame W.heap.size 8) = #[.int .i64 kind,tame W.heap.size 8 v1,.string s]:=by simp [tame]
 rw [e,Sh.F8_eq]
 exact Sh.f8 (k:=0) L (by omega) (fun c hc=>by have:=(hw c hc).2.2; simp [Lit.wf,IntKind.min,IntKind.max,IntKind.signed,IntKind.bits] at this; unfold Sh.i64in; omega) kind s
theorem envP : Sh.env.P = Tryz.prog:=rfl
set_option maxRecDepth 100000 in
theorem lifted (os : Os) (started : os.Started) (H : Type) (enc : TypeId × Value→H) :
  ReturnsInHanded {} Tryz.checked os 8 .any (Rows.segmentBackSpec.pre6 enc Tryz.prog Tryz.f8 Rows.segmentBackRow.domain false) (Rows.segmentBackSpec.post enc Tryz.prog Tryz.f8 false true false false):=by
 refine returnsInHanded_of_change (C:=Tryz.checked) own started (by kernel_rfl) Tryz.func8
  (ChangeSpec.witness6 (enc:=enc) (C:=Tryz.checked) false ⟨#[],#[.int .i64 0,.slice none 0 0,.string .empty],[]⟩ 8 (by kernel_rfl) (by kernel_rfl) (by kernel_rfl) (by kernel_rfl)) ?_
 intro W base args ds gs before hval0 hW hcnd _
 have hval : ∀ (j : Nat) t v,Tryz.f8.params[j]? = some t→args[j]? = some v→Value.okWide Tryz.prog W .any base t v:=hval0
 have hW':=hW
 obtain ⟨p,q,hA0,hV,rfl,hfz,hnd⟩:=hW
 have hA : DataW.TrodAll enc Tryz.prog W 0 (fun _=>true) true Tryz.f8.params.toList args.toList ds p:=hA0
 rw [Tryz.params8] at hA hval
 obtain ⟨rfl,rfl⟩:=trodVars_none hV
 obtain ⟨k,hk⟩:=told hA hval
 have hA2:=hA
 obtain ⟨v0,v1,v2,d0,d1,d2,p0,p1,p2,rfl,rfl,rfl,hd0,hd1,hd2⟩:=trodAll_three hA
 have hlt:=hW'.lt
 refine ((by rw [← envP]; exact lawA Sh.setting hk : Calls Tryz.prog 8 _ W fun e w'=>e = .returned (.bool true) ∧ Below W.heap.size W w')).mono fun e W' ⟨he,hg⟩=>?_
 subst he
 refine ⟨_,rfl,post_of_below (pa:=_) (pv:=[]) hW' (fun _ _ _=>(trodAll_cons_mk (shut_bool Tryz.underlying4 _) trodAll_mk0)) (fun sp hsp=>?_) (fun _ _=>rfl) rfl
  hg (ok_one (by kernel_rfl) rfl (okWide_bool_mk Tryz.underlying4 _))⟩
 have:=args_stay laid hg (sp:=sp) [3,22,9] reads hA2 (fun x hx=>hlt x (by simpa using hx)) (fun x hx=>hsp x (by simpa using hx))
 rw [Tryz.params8]
 exact this
theorem over : Rows.segmentBackRow.holds Tryz.pinned (OpenSpec.ofChange Rows.segmentBackSpec) :=
 OpenClaim.holds_of_wide 8 Tryz.f8 rfl rfl rfl rfl rfl rfl rfl ⟨rfl,rfl,rfl,rfl,rfl⟩ rfl rfl rfl rfl rfl (by kernel_rfl) Tryz.func8 (by kernel_rfl)
  (of_decide_eq_true (by kernel_rfl)) (by unfold Func.isWrapper; first | (rw [if_pos (by decide +kernel)]; kernel_rfl) | (rw [if_neg (by decide +kernel)]; exact ⟨rfl,rfl⟩))
  (fun os started H enc _=>lifted os started H enc)
theorem proved : Rows.SegmentBackSaid :=
 over
#print axioms proved
end Go.Proofs.YtghelamfaaakcaaGreat.segmentBack
