/- 'BatchCounts' gives true, whatever it is given. No condition on the columns, the rows, the batch. The code is run by shallow functions (proved to be the evaluator's, which is proved sound). -/
import Derived.Test.YtjmfokglckaneaaRows
import Derived.Test.YtjmfokglckaneaaSzB8
import Derived.Test.YtjmfokglckaneaaSzVp
import Derived.Test.YtjmfokglckaneaaSzVq
import Derived.Test.YtjmfokglckaneaaSzWo
import Derived.OpenShut
namespace Go.Proofs.Ytjmfokglckaneaa.batchCounts
open Go Go.ChangeShapes Go.WideShapes Go.ChangeAt Go.RowKit Go.Proofs.Ev
set_option linter.unusedVariables false

theorem own : ownKnob Try.prog.godebug = none := by kernel_rfl
theorem laid : laidOutB Try.prog = true := by kernel_rfl
theorem reads : (([22, 23, 24] : List TypeId).all fun t => Try.prog.readableRec t && decide (t < Try.prog.types.size)) = true := by kernel_rfl
theorem sum_le {α : Type} (f : α → Nat) : ∀ (l : List α) (x : α), x ∈ l → f x ≤ (l.map f).sum
  | a :: l, x, h => by
    rw [List.map_cons, List.sum_cons]
    rcases List.mem_cons.1 h with rfl | h
    · omega
    · have := sum_le f l x h; omega
theorem celR {a : CellD} (h : (Lit.int .i64 a.i).wf = true) : Sh.cellR a := by
  simp [Lit.wf, IntKind.min, IntKind.max, IntKind.signed, IntKind.bits] at h
  unfold Sh.cellR
  omega

set_option maxRecDepth 100000 in
theorem told {H : Type} {enc : TypeId × Value → H} {W : World} {base : Nat} {args : Array Value} {ds : List (DataW H)} {p : List MemPlace}
    (hA : DataW.TrodAll enc Try.prog W 0 (fun _ => true) true [22, 23, 24] args.toList ds p)
    (hval : ∀ (j : Nat) t v, (#[22, 23, 24] : Array TypeId)[j]? = some t → args[j]? = some v → Value.okWide Try.prog W .any base t v) :
    ∃ k, tellsTrue (eFun Sh.env k (eInv Sh.env k) 7 (args.map (tame W.heap.size 8)) (extHeap W)) = true := by
  obtain ⟨v0, v1, v2, d0, d1, d2, p0, p1, p2, rfl, rfl, rfl, hd0, hd1, hd2⟩ := trodAll_three hA
  have ha0 := hval 0 22 v0 rfl rfl
  have ha1 := hval 1 23 v1 rfl rfl
  have ha2 := hval 2 24 v2 rfl rfl
  obtain ⟨a, A, la, _⟩ := Sh.open_cols ha0 hd0
  obtain ⟨r, R, lr, hr⟩ := Sh.open_rows2 ha1 hd1
  obtain ⟨l, B, ll, hw⟩ := Sh.open_changes ha2 hd2
  have hm : maxLen = 9223372036854775807 := rfl
  refine ⟨(a.length + r.length + (r.map List.length).sum + l.length + (l.map fun c => c.rows.length + (c.rows.map List.length).sum + c.pred.length + c.cols.length + c.to.length).sum + 1) + 110000, Tl.tells ?_⟩
  have e : (#[v0, v1, v2] : Array Value).map (tame W.heap.size 8) = #[tame W.heap.size 8 v0, tame W.heap.size 8 v1, tame W.heap.size 8 v2] := by simp
  rw [e, Sh.F7_eq]
  exact Sh.f7 A R B ⟨by omega, by omega⟩ ⟨by omega, by omega⟩ (fun x hx => ⟨by have := (hr x hx).1; omega, by have := sum_le List.length r x hx; omega⟩) ⟨by omega, by omega⟩
    (fun c hc => by
      have w := hw c hc
      have z1 := w.rows
      have z2 := w.pred
      have z3 := w.cols
      have z4 := w.to.1
      have z5 := sum_le (fun c : Sh.ChangeD => c.rows.length + (c.rows.map List.length).sum + c.pred.length + c.cols.length + c.to.length) l c hc
      exact ⟨⟨by omega, fun x hx => by have := (w.row x hx).1; omega, by omega, by omega, by omega⟩, ⟨by omega, fun x hx => by have := sum_le List.length c.rows x hx; omega, by omega, by omega, by omega⟩⟩)
    (fun c hc => ⟨fun x hx y hy => celR (((hw c hc).row x hx).2 y hy).2.2, fun nd hnd => celR ((hw c hc).node nd hnd).2.2.1.2.2, fun x hx => celR ((hw c hc).to.2 x hx).2.2⟩)
theorem envP : Sh.env.P = Try.prog := rfl

set_option maxRecDepth 100000 in
theorem lifted (os : Os) (started : os.Started) (H : Type) (enc : TypeId × Value → H) :
    ReturnsInHanded {} Try.checked os 7 .any (Rows.batchCountsSpec.pre6 enc Try.prog Try.f7 Rows.batchCountsRow.domain false) (Rows.batchCountsSpec.post enc Try.prog Try.f7 false true false false) := by
  refine returnsInHanded_of_change (C := Try.checked) own started (by kernel_rfl) Try.func7
    (ChangeSpec.witness6 (enc := enc) (C := Try.checked) false ⟨#[], #[.slice none 0 0, .slice none 0 0, .slice none 0 0], []⟩ 8 (by kernel_rfl) (by kernel_rfl) (by kernel_rfl) (by kernel_rfl)) ?_
  intro W base args ds gs before hval0 hW hcnd _
  have hval : ∀ (j : Nat) t v, Try.f7.params[j]? = some t → args[j]? = some v → Value.okWide Try.prog W .any base t v := hval0
  have hW' := hW
  obtain ⟨p, q, hA0, hV, rfl, hfz, hnd⟩ := hW
  have hA : DataW.TrodAll enc Try.prog W 0 (fun _ => true) true Try.f7.params.toList args.toList ds p := hA0
  rw [Try.params7] at hA hval
  obtain ⟨rfl, rfl⟩ := trodVars_none hV
  obtain ⟨k, hk⟩ := told hA hval
  have hA2 := hA
  obtain ⟨v0, v1, v2, d0, d1, d2, p0, p1, p2, rfl, rfl, rfl, hd0, hd1, hd2⟩ := trodAll_three hA
  have hlt := hW'.lt
  refine ((by rw [← envP]; exact lawA Sh.setting hk : Calls Try.prog 7 _ W fun e w' => e = .returned (.bool true) ∧ Below W.heap.size W w')).mono fun e W' ⟨he, hg⟩ => ?_
  subst he
  refine ⟨_, rfl, post_of_below (pa := _) (pv := []) hW' (fun _ _ _ => (trodAll_cons_mk (shut_bool Try.underlying4 _) trodAll_mk0)) (fun sp hsp => ?_) (fun _ _ => rfl) rfl
    hg (ok_one (by kernel_rfl) rfl (okWide_bool_mk Try.underlying4 _))⟩
  have := args_stay laid hg (sp := sp) [22, 23, 24] reads hA2 (fun x hx => hlt x (by simpa using hx)) (fun x hx => hsp x (by simpa using hx))
  rw [Try.params7]
  exact this

theorem over : Rows.batchCountsRow.holds Try.pinned (OpenSpec.ofChange Rows.batchCountsSpec) :=
  OpenClaim.holds_of_wide 7 Try.f7 rfl rfl rfl rfl rfl rfl rfl ⟨rfl, rfl, rfl, rfl, rfl⟩ rfl rfl rfl rfl rfl (by kernel_rfl) Try.func7 (by kernel_rfl)
    (of_decide_eq_true (by kernel_rfl)) (by unfold Func.isWrapper; first | (rw [if_pos (by decide +kernel)]; kernel_rfl) | (rw [if_neg (by decide +kernel)]; exact ⟨rfl, rfl⟩))
    (fun os started H enc _ => lifted os started H enc)

theorem proved : Rows.BatchCountsSaid :=
  over
#print axioms proved
end Go.Proofs.Ytjmfokglckaneaa.batchCounts
