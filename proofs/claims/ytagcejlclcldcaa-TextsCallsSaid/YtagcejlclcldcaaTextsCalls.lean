/- 'TextsCalls' gives true, whatever it is given. No condition on the texts, the bytes but the form's own reach. The code is run by shallow functions (proved to be the evaluator's, which is proved sound). -/
import Derived.Test.YtagcejlclcldcaaRows
import Derived.Test.YtagcejlclcldcaaSzW4
import Derived.OpenShut
namespace Go.Proofs.Ytagcejlclcldcaa.textsCalls
open Go Go.ChangeShapes Go.WideShapes Go.ChangeAt Go.RowKit Go.Proofs.Ev
set_option linter.unusedVariables false

theorem own : ownKnob Try.prog.godebug = none := by kernel_rfl
theorem laid : laidOutB Try.prog = true := by kernel_rfl
theorem reads : (([22, 30] : List TypeId).all fun t => Try.prog.readableRec t && decide (t < Try.prog.types.size)) = true := by kernel_rfl

set_option maxRecDepth 100000 in
theorem told {H : Type} {enc : TypeId × Value → H} {W : World} {base : Nat} {args : Array Value} {ds : List (DataW H)} {p : List MemPlace}
    (hA : DataW.TrodAll enc Try.prog W 0 (fun _ => true) true [22, 30] args.toList ds p)
    (hval : ∀ (j : Nat) t v, (#[22, 30] : Array TypeId)[j]? = some t → args[j]? = some v → Value.okWide Try.prog W .any base t v) (hz : (DataW.weightsEach Try.prog [22,30] ds).all (· ≤ reachBytes) = true) :
    ∃ k, tellsTrue (eFun Sh.env k (eInv Sh.env k) 6 (args.map (tame W.heap.size 8)) (extHeap W)) = true := by
  obtain ⟨v0, v1, d0, d1, p0, p1, rfl, rfl, rfl, hd0, hd1⟩ := trodAll_two hA
  have ha0 := hval 0 22 v0 rfl rfl
  have ha1 := hval 1 30 v1 rfl rfl
  obtain ⟨l, L, hs, hl⟩ := open_stringsZ Sh.u22 (by kernel_rfl) Sh.u9 ha0 hd0 (sized_at hz 0 rfl rfl)
  obtain ⟨b, B, hb, hbl⟩ := open_u8s Sh.u30 (by kernel_rfl) Sh.u5 ha1 hd1
  refine ⟨300000, Tl.tells ?_⟩
  have e : (#[v0, v1] : Array Value).map (tame W.heap.size 8) = #[tame W.heap.size 8 v0, tame W.heap.size 8 v1] := by simp
  rw [e, Sh.F6_eq]
  exact Sh.f6 (k := 0) L.slV B.slV hs (by unfold maxLen at hl; omega) hb (by unfold maxLen at hbl; omega)
theorem envP : Sh.env.P = Try.prog := rfl

set_option maxRecDepth 100000 in
theorem lifted (os : Os) (started : os.Started) (H : Type) (enc : TypeId × Value → H) :
    ReturnsInHanded {} Try.checked os 6 .any (Rows.textsCallsSpec.pre6 enc Try.prog Try.f6 Rows.textsCallsRow.domain false) (Rows.textsCallsSpec.post enc Try.prog Try.f6 false true false false) := by
  refine returnsInHanded_of_change_sized (C := Try.checked) own started (by kernel_rfl) Try.func6
    (ChangeSpec.witness6 (enc := enc) (C := Try.checked) false ⟨#[], #[.slice none 0 0, .slice none 0 0], []⟩ 8 (by kernel_rfl) (by kernel_rfl) (by kernel_rfl) (by kernel_rfl)) ?_
  intro W base args ds gs before hval0 hW hcnd hz0 _
  have hval : ∀ (j : Nat) t v, Try.f6.params[j]? = some t → args[j]? = some v → Value.okWide Try.prog W .any base t v := hval0
  have hW' := hW
  obtain ⟨p, q, hA0, hV, rfl, hfz, hnd⟩ := hW
  have hA : DataW.TrodAll enc Try.prog W 0 (fun _ => true) true Try.f6.params.toList args.toList ds p := hA0
  rw [Try.params6] at hA hval
  obtain ⟨rfl, rfl⟩ := trodVars_none hV
  rw [List.append_nil, show Rows.textsCallsSpec.plain.varTypes Try.checked.prog = [] from rfl, List.append_nil, Try.params6] at hz0
  obtain ⟨k, hk⟩ := told hA hval hz0
  have hA2 := hA
  obtain ⟨v0, v1, d0, d1, p0, p1, rfl, rfl, rfl, hd0, hd1⟩ := trodAll_two hA
  have hlt := hW'.lt
  refine ((by rw [← envP]; exact lawA Sh.setting hk : Calls Try.prog 6 _ W fun e w' => e = .returned (.bool true) ∧ Below W.heap.size W w')).mono fun e W' ⟨he, hg⟩ => ?_
  subst he
  refine ⟨_, rfl, post_of_below (pa := _) (pv := []) hW' (fun _ _ _ => (trodAll_cons_mk (shut_bool Try.underlying4 _) trodAll_mk0)) (fun sp hsp => ?_) (fun _ _ => rfl) rfl
    hg (ok_one (by kernel_rfl) rfl (okWide_bool_mk Try.underlying4 _))⟩
  have := args_stay laid hg (sp := sp) [22, 30] reads hA2 (fun x hx => hlt x (by simpa using hx)) (fun x hx => hsp x (by simpa using hx))
  rw [Try.params6]
  exact this

theorem over : Rows.textsCallsRow.holds Try.pinned (OpenSpec.ofChange Rows.textsCallsSpec) :=
  OpenClaim.holds_of_wide 6 Try.f6 rfl rfl rfl rfl rfl rfl rfl ⟨rfl, rfl, rfl, rfl, rfl⟩ rfl rfl rfl rfl rfl (by kernel_rfl) Try.func6 (by kernel_rfl)
    (of_decide_eq_true (by kernel_rfl)) (by unfold Func.isWrapper; first | (rw [if_pos (by decide +kernel)]; kernel_rfl) | (rw [if_neg (by decide +kernel)]; exact ⟨rfl, rfl⟩))
    (fun os started H enc _ => lifted os started H enc)

theorem proved : Rows.TextsCallsSaid :=
  over
#print axioms proved
end Go.Proofs.Ytagcejlclcldcaa.textsCalls
