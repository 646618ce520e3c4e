/- 'AggNil' gives true, whatever it is given. No condition: what it is given is not looked at. The code is run by shallow functions (proved to be the evaluator's, which is proved sound) in the kernel. -/
import Derived.Test.YtgklcfnjahomjaaRows
import Derived.Test.YtgklcfnjahomjaaSzS
import Derived.OpenShut
namespace Go.Proofs.Ytgklcfnjahomjaa.aggNil
open Go Go.ChangeShapes Go.WideShapes Go.ChangeAt Go.RowKit Go.Proofs.Ev
set_option linter.unusedVariables false

theorem own : ownKnob Try.prog.godebug = none := by kernel_rfl
theorem laid : laidOutB Try.prog = true := by kernel_rfl
theorem reads : (([34] : List TypeId).all fun t => Try.prog.readableRec t && decide (t < Try.prog.types.size)) = true := by kernel_rfl
theorem told0 : tellsTrue (Sh.sFun (Sh.sInv 300) 300 7 #[unk] AH.none) = true := by kernel_rfl
theorem told : tellsTrue (eFun Sh.env 300 (eInv Sh.env 300) 7 #[unk] AH.none) = true := by
  rw [← Sh.sInv_eq, ← Sh.sFun_eq]; exact told0
theorem envP : Sh.env.P = Try.prog := rfl
/-- A law that looks at none of its arguments. -/
theorem lawU {E : Env} (hE : EnvOK E) {k : Nat} {f : FuncId} {us args : Array Value} (hs : us.size = args.size) (hu : ∀ (i : Nat) (v : Value), us[i]? = some v → v = unk) (he : tellsTrue (eFun E k (eInv E k) f us AH.none) = true) (w : World) :
    Calls E.P f args w fun e w' => e = .returned (.bool true) ∧ Below w.heap.size w w' := by
  unfold tellsTrue at he
  split at he
  · rename_i b h2 h1
    subst he
    refine callsIn_wide.1 ((calls_sim hE h1 (Sim.none (GC E.P) E.P w) (args' := args) ⟨hs, fun i v v' h1 h2 => ?_⟩).mono fun e w' hq => ?_)
    · cases hu i v h1
      exact .unk _
    · obtain ⟨ρ', v', rfl, _, hv, hs⟩ := hq
      cases hv
      exact ⟨rfl, hs.below⟩
  · cases he
theorem noneRead (i : Nat) (v : Value) (h : (#[unk] : Array Value)[i]? = some v) : v = unk := by
  rcases i with _ | _ <;> simp_all
theorem walk {args : Array Value} (hs : args.size = 1) (w : World) : Calls Try.prog 7 args w fun e w' => e = .returned (.bool true) ∧ Below w.heap.size w w' := by
  rw [← envP]
  exact lawU Sh.setting (by rw [hs]; rfl) noneRead told w

set_option maxRecDepth 100000 in
theorem lifted (os : Os) (started : os.Started) (H : Type) (enc : TypeId × Value → H) :
    ReturnsInHanded {} Try.checked os 7 .any (Rows.aggNilSpec.pre6 enc Try.prog Try.f7 Rows.aggNilRow.domain false) (Rows.aggNilSpec.post enc Try.prog Try.f7 false true false false) := by
  refine returnsInHanded_of_change (C := Try.checked) own started (by kernel_rfl) Try.func7
    (ChangeSpec.witness6 (enc := enc) (C := Try.checked) false ⟨#[], #[.slice none 0 0], []⟩ 8 (by kernel_rfl) (by kernel_rfl) (by kernel_rfl) (by kernel_rfl)) ?_
  intro W base args ds gs before hval0 hW hcnd _
  have hW' := hW
  obtain ⟨p, q, hA0, hV, rfl, hfz, hnd⟩ := hW
  have hA : DataW.TrodAll enc Try.prog W 0 (fun _ => true) true Try.f7.params.toList args.toList ds p := hA0
  rw [Try.params7] at hA
  obtain ⟨rfl, rfl⟩ := trodVars_none hV
  have hA2 := hA
  obtain ⟨v0, d0, rfl, rfl, hd0⟩ := trodAll_one hA
  have hlt := hW'.lt
  refine (walk rfl W).mono fun e W' ⟨he, hg⟩ => ?_
  subst he
  refine ⟨_, rfl, post_of_below (pa := _) (pv := []) hW' (fun _ _ _ => (trodAll_cons_mk (shut_bool Try.underlying4 _) trodAll_mk0)) (fun sp hsp => ?_) (fun _ _ => rfl) rfl
    hg (ok_one (by kernel_rfl) rfl (okWide_bool_mk Try.underlying4 _))⟩
  have := args_stay laid hg (sp := sp) [34] reads hA2 (fun x hx => hlt x (by simpa using hx)) (fun x hx => hsp x (by simpa using hx))
  rw [Try.params7]
  exact this

theorem over : Rows.aggNilRow.holds Try.pinned (OpenSpec.ofChange Rows.aggNilSpec) :=
  OpenClaim.holds_of_wide 7 Try.f7 rfl rfl rfl rfl rfl rfl rfl ⟨rfl, rfl, rfl, rfl, rfl⟩ rfl rfl rfl rfl rfl (by kernel_rfl) Try.func7 (by kernel_rfl)
    (of_decide_eq_true (by kernel_rfl)) (by unfold Func.isWrapper; first | (rw [if_pos (by decide +kernel)]; kernel_rfl) | (rw [if_neg (by decide +kernel)]; exact ⟨rfl, rfl⟩))
    (fun os started H enc _ => lifted os started H enc)

theorem proved : Rows.AggNilSaid :=
  over
#print axioms proved
end Go.Proofs.Ytgklcfnjahomjaa.aggNil
