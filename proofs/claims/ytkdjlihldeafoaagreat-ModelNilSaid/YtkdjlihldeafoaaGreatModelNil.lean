/- 'ModelNil' gives true, whatever it is given. No condition on the operation. The code is run by shallow functions (proved to be the evaluator's, which is proved sound). -/
import Derived.Test.YtkdjlihldeafoaaGreatRows
import Derived.Test.YtkdjlihldeafoaaGreatSnM1
import Derived.OpenShut
namespace Go.Proofs.YtkdjlihldeafoaaGreat.modelNil
open Go Go.ChangeShapes Go.WideShapes Go.ChangeAt Go.RowKit Go.Proofs.Ev
set_option linter.unusedVariables false

theorem own : ownKnob Tryz.prog.godebug = none := by kernel_rfl
theorem laid : laidOutB Tryz.prog = true := by kernel_rfl
theorem reads : (([40] : List TypeId).all fun t => Tryz.prog.readableRec t && decide (t < Tryz.prog.types.size)) = true := by kernel_rfl
set_option maxRecDepth 100000 in
theorem isStruct : (match Tryz.prog.underlying 40 with | some (.struct _) => true | _ => false) = true := by kernel_rfl
set_option maxRecDepth 100000 in
theorem cells40 : Tryz.prog.cellsOf 40 = 8 := by kernel_rfl
set_option maxRecDepth 100000 in
theorem op_agg {w : World} {r : Reach} {b : Nat} {v : Value} (h : Value.okWide Tryz.prog w r b 40 v) : ∃ cs : Array Value, v = .agg cs ∧ cs.size = 8 := by
  have hs := isStruct
  unfold Value.okWide at h
  split at hs
  · rename_i fs hu
    rw [hu] at h
    obtain ⟨cs, h1, h2, _⟩ := h
    exact ⟨cs, h1, h2.trans cells40⟩
  · cases hs

set_option maxRecDepth 100000 in
theorem told {H : Type} {enc : TypeId × Value → H} {W : World} {base : Nat} {args : Array Value} {ds : List (DataW H)} {p : List MemPlace}
    (hA : DataW.TrodAll enc Tryz.prog W 0 (fun _ => true) true [40] args.toList ds p)
    (hval : ∀ (j : Nat) t v, (#[40] : Array TypeId)[j]? = some t → args[j]? = some v → Value.okWide Tryz.prog W .any base t v) :
    ∃ k, tellsTrue (eFun Sh.env k (eInv Sh.env k) 9 (args.map (tame W.heap.size 8)) (extHeap W)) = true := by
  obtain ⟨v0, d0, p0, rfl, rfl, rfl, hd0⟩ := trodAll_one' hA
  have ha0 := hval 0 40 v0 rfl rfl
  obtain ⟨cs, rfl, hsz⟩ := op_agg ha0
  refine ⟨10, Tl.tells ?_⟩
  have e : (#[.agg cs] : Array Value).map (tame W.heap.size 8) = #[.agg (cs.map (tame W.heap.size 7))] := by simp [tame]
  rw [e, Sh.F9_eq]
  exact Sh.f9 (k := 0) (by rw [Array.size_map]; exact hsz)
theorem envP : Sh.env.P = Tryz.prog := rfl

set_option maxRecDepth 100000 in
theorem lifted (os : Os) (started : os.Started) (H : Type) (enc : TypeId × Value → H) :
    ReturnsInHanded {} Tryz.checked os 9 .any (Rows.modelNilSpec.pre6 enc Tryz.prog Tryz.f9 Rows.modelNilRow.domain false) (Rows.modelNilSpec.post enc Tryz.prog Tryz.f9 false true false false) := by
  refine returnsInHanded_of_change (C := Tryz.checked) own started (by kernel_rfl) Tryz.func9
    (ChangeSpec.witness6 (enc := enc) (C := Tryz.checked) false ⟨#[], #[.agg #[.int .i64 0, .string .empty, .string .empty, .slice none 0 0, .slice none 0 0, .slice none 0 0, .slice none 0 0, .slice none 0 0]], []⟩ 8 (by kernel_rfl) (by kernel_rfl) (by kernel_rfl) (by kernel_rfl)) ?_
  intro W base args ds gs before hval0 hW hcnd _
  have hval : ∀ (j : Nat) t v, Tryz.f9.params[j]? = some t → args[j]? = some v → Value.okWide Tryz.prog W .any base t v := hval0
  have hW' := hW
  obtain ⟨p, q, hA0, hV, rfl, hfz, hnd⟩ := hW
  have hA : DataW.TrodAll enc Tryz.prog W 0 (fun _ => true) true Tryz.f9.params.toList args.toList ds p := hA0
  rw [Tryz.params9] at hA hval
  obtain ⟨rfl, rfl⟩ := trodVars_none hV
  obtain ⟨k, hk⟩ := told hA hval
  have hA2 := hA
  obtain ⟨v0, d0, p0, rfl, rfl, rfl, hd0⟩ := trodAll_one' hA
  have hlt := hW'.lt
  refine ((by rw [← envP]; exact lawA Sh.setting hk : Calls Tryz.prog 9 _ W fun e w' => e = .returned (.bool true) ∧ Below W.heap.size W w')).mono fun e W' ⟨he, hg⟩ => ?_
  subst he
  refine ⟨_, rfl, post_of_below (pa := _) (pv := []) hW' (fun _ _ _ => (trodAll_cons_mk (shut_bool Tryz.underlying4 _) trodAll_mk0)) (fun sp hsp => ?_) (fun _ _ => rfl) rfl
    hg (ok_one (by kernel_rfl) rfl (okWide_bool_mk Tryz.underlying4 _))⟩
  have := args_stay laid hg (sp := sp) [40] reads hA2 (fun x hx => hlt x (by simpa using hx)) (fun x hx => hsp x (by simpa using hx))
  rw [Tryz.params9]
  exact this

theorem over : Rows.modelNilRow.holds Tryz.pinned (OpenSpec.ofChange Rows.modelNilSpec) :=
  OpenClaim.holds_of_wide 9 Tryz.f9 rfl rfl rfl rfl rfl rfl rfl ⟨rfl, rfl, rfl, rfl, rfl⟩ rfl rfl rfl rfl rfl (by kernel_rfl) Tryz.func9 (by kernel_rfl)
    (of_decide_eq_true (by kernel_rfl)) (by unfold Func.isWrapper; first | (rw [if_pos (by decide +kernel)]; kernel_rfl) | (rw [if_neg (by decide +kernel)]; exact ⟨rfl, rfl⟩))
    (fun os started H enc _ => lifted os started H enc)

theorem proved : Rows.ModelNilSaid :=
  over
#print axioms proved
end Go.Proofs.YtkdjlihldeafoaaGreat.modelNil
