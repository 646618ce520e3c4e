/- 'NullsNames' gives true, whatever world it is called in. No condition: it takes no argument. The code is run by an evaluator (Ev1 .. Ev15, proved sound there) in the kernel. -/
import Derived.Test.YtoleebigheobcaaRows
import Derived.Test.YtoleebigheobcaaEv17
import Derived.OpenShut
namespace Go.Proofs.Ytoleebigheobcaa.nullsNames
open Go.ChangeShapes Go.WideShapes Go.ChangeAt Go.RowKit Go.Proofs.Ev
set_option linter.unusedVariables false

theorem own : ownKnob Try.prog.godebug = none := by kernel_rfl
def used : List FuncId := [2, 3, 4, 5, 6, 7, 8, 9, 10, 12, 13, 14, 15, 16, 17, 18, 19, 20, 21, 22, 23, 24, 25, 26, 27, 28, 29, 30, 31, 32, 33, 34, 35, 36, 37, 38, 39, 40, 41, 42, 43, 44, 45, 46, 47, 48, 49, 50, 51, 52, 53, 54, 55, 56, 57, 58, 59, 60, 61, 62, 63, 64, 65, 66, 67, 68, 69, 70, 71, 72]
noncomputable def env0 : Env := plainE Try.prog used
theorem setting0 : EnvOK env0 := plainE_ok (by kernel_rfl) (by kernel_rfl)
theorem toldLives : tellsTrue (eFun env0 300 (eInv env0 300) 8 #[] AH.none) = true := by kernel_rfl
noncomputable def env : Env := lifeE env0 [8]
theorem setting : EnvOK env := lifeE_ok setting0 fun f hf => by
  obtain rfl := List.mem_singleton.1 hf
  exact ⟨⟨_, _, Try.func8, rfl, by decide +kernel⟩, fun w => law0' setting0 toldLives w⟩
theorem told : tellsTrue (eFun env 300 (eInv env 300) 6 #[] AH.none) = true := by kernel_rfl
theorem envP : env.P = Try.prog := rfl
theorem walk (w : World) : Calls Try.prog 6 #[] w fun e w' => e = .returned (.bool true) ∧ Below w.heap.size w w' := by
  rw [← envP]
  exact law0' setting told w

set_option maxRecDepth 100000 in
theorem lifted (os : Os) (started : os.Started) (H : Type) (enc : TypeId × Value → H) :
    ReturnsInHanded {} Try.checked os 6 .any (Rows.nullsNamesSpec.pre6 enc Try.prog Try.f6 Rows.nullsNamesRow.domain false) (Rows.nullsNamesSpec.post enc Try.prog Try.f6 false true false false) := by
  refine returnsInHanded_of_change (C := Try.checked) own started (by kernel_rfl) Try.func6
    (ChangeSpec.witness6 (enc := enc) (C := Try.checked) false ⟨#[], #[], []⟩ 8 (by kernel_rfl) (by kernel_rfl) (by kernel_rfl) (by kernel_rfl)) ?_
  intro W base args ds gs before hval0 hW hcnd _
  have hval : ∀ (j : Nat) t v, Try.f6.params[j]? = some t → args[j]? = some v → Value.okWide Try.prog W .any base t v := hval0
  have hW' := hW
  obtain ⟨p, q, hA0, hV, rfl, hfz, hnd⟩ := hW
  have hA : DataW.TrodAll enc Try.prog W 0 (fun _ => true) true Try.f6.params.toList args.toList ds p := hA0
  rw [Try.params6] at hA hval
  obtain ⟨rfl, rfl, rfl⟩ := trodAll_none hA
  obtain ⟨rfl, rfl⟩ := trodVars_none hV
  clear hA0 hval0
  simp only [List.append_nil] at hW'
  refine (walk W).mono fun e W' ⟨he, hg⟩ => ?_
  subst he
  exact ⟨_, rfl, post_of_below (pa := []) (pv := []) hW' (fun _ _ _ => (trodAll_cons_mk (shut_bool Try.underlying4 _) trodAll_mk0)) (fun sp _ => rfl) (fun _ _ => rfl) rfl
    hg (ok_one (by kernel_rfl) rfl (okWide_bool_mk Try.underlying4 _))⟩

theorem over : Rows.nullsNamesRow.holds Try.pinned (OpenSpec.ofChange Rows.nullsNamesSpec) :=
  OpenClaim.holds_of_wide 6 Try.f6 rfl rfl rfl rfl rfl rfl rfl ⟨rfl, rfl, rfl, rfl, rfl⟩ rfl rfl rfl rfl rfl (by kernel_rfl) Try.func6 (by kernel_rfl)
    (of_decide_eq_true (by kernel_rfl)) (by unfold Func.isWrapper; first | (rw [if_pos (by decide +kernel)]; kernel_rfl) | (rw [if_neg (by decide +kernel)]; exact ⟨rfl, rfl⟩))
    (fun os started H enc _ => lifted os started H enc)

theorem proved : Rows.NullsNamesSaid :=
  over
#print axioms proved
end Go.Proofs.Ytoleebigheobcaa.nullsNames
