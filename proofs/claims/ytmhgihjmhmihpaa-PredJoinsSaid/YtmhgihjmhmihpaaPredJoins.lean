/- 'PredJoins' gives true, whatever it is given. No condition on the columns, the predicates, the flag. The code is run by shallow functions (proved to be the evaluator's, which is proved sound). -/
import Derived.Test.YtmhgihjmhmihpaaRows
import Derived.Test.YtmhgihjmhmihpaaSzP8
import Derived.Test.YtmhgihjmhmihpaaSzVp
import Derived.OpenShut
namespace Go.Proofs.Ytmhgihjmhmihpaa.predJoins
open Go Go.ChangeShapes Go.WideShapes Go.ChangeAt Go.RowKit Go.Proofs.Ev
set_option linter.unusedVariables false

theorem own : ownKnob Try.prog.godebug = none := by kernel_rfl
theorem laid : laidOutB Try.prog = true := by kernel_rfl
theorem reads : (([30, 22, 22, 4] : List TypeId).all fun t => Try.prog.readableRec t && decide (t < Try.prog.types.size)) = true := by kernel_rfl
theorem cell_ok {nd : Sh.NodeD} (h : Sh.NodeOk nd) : Sh.cellR nd.val := by
  have := h.2.2.1.2.2
  simp [Lit.wf, IntKind.min, IntKind.max, IntKind.signed, IntKind.bits] at this
  unfold Sh.cellR
  omega

set_option maxRecDepth 100000 in
theorem told {H : Type} {enc : TypeId × Value → H} {W : World} {base : Nat} {args : Array Value} {ds : List (DataW H)} {p : List MemPlace}
    (hA : DataW.TrodAll enc Try.prog W 0 (fun _ => true) true [30, 22, 22, 4] args.toList ds p)
    (hval : ∀ (j : Nat) t v, (#[30, 22, 22, 4] : Array TypeId)[j]? = some t → args[j]? = some v → Value.okWide Try.prog W .any base t v) :
    ∃ k, tellsTrue (eFun Sh.env k (eInv Sh.env k) 6 (args.map (tame W.heap.size 8)) (extHeap W)) = true := by
  obtain ⟨v0, v1, v2, v3, d0, d1, d2, d3, p0, p1, p2, p3, rfl, rfl, rfl, hd0, hd1, hd2, hd3⟩ := trodAll_four hA
  have ha0 := hval 0 30 v0 rfl rfl
  have ha1 := hval 1 22 v1 rfl rfl
  have ha2 := hval 2 22 v2 rfl rfl
  have ha3 := hval 3 4 v3 rfl rfl
  obtain ⟨a, A, la, _⟩ := Sh.open_cols ha0 hd0
  obtain ⟨p, P, lp, hp⟩ := Sh.open_preds ha1 hd1
  obtain ⟨q, Q, lq, hq⟩ := Sh.open_preds ha2 hd2
  obtain ⟨o, rfl, _⟩ := open_bool Sh.u4 ha3 hd3
  have hm : maxLen = 9223372036854775807 := rfl
  refine ⟨(a.length + p.length + q.length + 1) + 3000, Tl.tells ?_⟩
  have e : (#[v0, v1, v2, .bool o] : Array Value).map (tame W.heap.size 8) = #[tame W.heap.size 8 v0, tame W.heap.size 8 v1, tame W.heap.size 8 v2, .bool o] := by simp [tame]
  rw [e, Sh.F6_eq]
  exact Sh.f6 o A P Q (by omega) (by omega) (by omega) (fun nd h => cell_ok (hp nd h)) (fun nd h => cell_ok (hq nd h)) (by omega) (by omega) (by omega)
theorem envP : Sh.env.P = Try.prog := rfl

set_option maxRecDepth 100000 in
theorem lifted (os : Os) (started : os.Started) (H : Type) (enc : TypeId × Value → H) :
    ReturnsInHanded {} Try.checked os 6 .any (Rows.predJoinsSpec.pre6 enc Try.prog Try.f6 Rows.predJoinsRow.domain false) (Rows.predJoinsSpec.post enc Try.prog Try.f6 false true false false) := by
  refine returnsInHanded_of_change (C := Try.checked) own started (by kernel_rfl) Try.func6
    (ChangeSpec.witness6 (enc := enc) (C := Try.checked) false ⟨#[], #[.slice none 0 0, .slice none 0 0, .slice none 0 0, .bool false], []⟩ 8 (by kernel_rfl) (by kernel_rfl) (by kernel_rfl) (by kernel_rfl)) ?_
  intro W base args ds gs before hval0 hW hcnd _
  have hval : ∀ (j : Nat) t v, Try.f6.params[j]? = some t → args[j]? = some v → Value.okWide Try.prog W .any base t v := hval0
  have hW' := hW
  obtain ⟨p, q, hA0, hV, rfl, hfz, hnd⟩ := hW
  have hA : DataW.TrodAll enc Try.prog W 0 (fun _ => true) true Try.f6.params.toList args.toList ds p := hA0
  rw [Try.params6] at hA hval
  obtain ⟨rfl, rfl⟩ := trodVars_none hV
  obtain ⟨k, hk⟩ := told hA hval
  have hA2 := hA
  obtain ⟨v0, v1, v2, v3, d0, d1, d2, d3, p0, p1, p2, p3, rfl, rfl, rfl, hd0, hd1, hd2, hd3⟩ := trodAll_four hA
  have hlt := hW'.lt
  refine ((by rw [← envP]; exact lawA Sh.setting hk : Calls Try.prog 6 _ W fun e w' => e = .returned (.bool true) ∧ Below W.heap.size W w')).mono fun e W' ⟨he, hg⟩ => ?_
  subst he
  refine ⟨_, rfl, post_of_below (pa := _) (pv := []) hW' (fun _ _ _ => (trodAll_cons_mk (shut_bool Try.underlying4 _) trodAll_mk0)) (fun sp hsp => ?_) (fun _ _ => rfl) rfl
    hg (ok_one (by kernel_rfl) rfl (okWide_bool_mk Try.underlying4 _))⟩
  have := args_stay laid hg (sp := sp) [30, 22, 22, 4] reads hA2 (fun x hx => hlt x (by simpa using hx)) (fun x hx => hsp x (by simpa using hx))
  rw [Try.params6]
  exact this

theorem over : Rows.predJoinsRow.holds Try.pinned (OpenSpec.ofChange Rows.predJoinsSpec) :=
  OpenClaim.holds_of_wide 6 Try.f6 rfl rfl rfl rfl rfl rfl rfl ⟨rfl, rfl, rfl, rfl, rfl⟩ rfl rfl rfl rfl rfl (by kernel_rfl) Try.func6 (by kernel_rfl)
    (of_decide_eq_true (by kernel_rfl)) (by unfold Func.isWrapper; first | (rw [if_pos (by decide +kernel)]; kernel_rfl) | (rw [if_neg (by decide +kernel)]; exact ⟨rfl, rfl⟩))
    (fun os started H enc _ => lifted os started H enc)

theorem proved : Rows.PredJoinsSaid :=
  over
#print axioms proved
end Go.Proofs.Ytmhgihjmhmihpaa.predJoins
