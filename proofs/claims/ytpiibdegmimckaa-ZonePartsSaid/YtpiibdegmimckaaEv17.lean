/- A call of no argument that is told by the evaluator in an empty memory is told in every memory. -/
import Derived.Test.YtpiibdegmimckaaEv16
set_option linter.unusedVariables false
set_option linter.unusedSimpArgs false
namespace Go.Proofs.Ev
open Go Go.RowKit
variable {G : Code → Prop} {P : Program} {w0 : World} {ρ : Ren} {D : List Mk} {h : AH} {w w' : World}

/-- New blocks behind the world turn nothing of the relation. -/
theorem Sim.later (S : Sim G P w0 ρ D h w) (hb : Below w.heap.size w w') : Sim G P w0 ρ D h w' := by
  refine ⟨S.below.trans (hb.mono S.lt), fun i r hr => ⟨(S.dom i r hr).1, Nat.lt_of_lt_of_le (S.dom i r hr).2 hb.size⟩, fun i o hi ho hl => ?_, S.sep, fun d hd => ?_, S.nodup, S.late⟩
  · obtain ⟨r, hr, hob⟩ := S.obj i o hi ho hl
    exact ⟨r, hr, hob.same (Ren.le_refl _) (hb.block _ (S.dom i r hr).2)⟩
  · obtain ⟨h1, h2⟩ := S.defs d hd
    exact ⟨h1, (hb.block d (Array.getElem?_eq_some_iff.1 h2).1).trans h2⟩

/-- These functions of no argument are known to give true. -/
def lifeE (E : Env) (fs : List FuncId) : Env := { E with O := fun f => if fs.contains f then some fun as h => if as.size = 0 then some (.bool true, h) else none else E.O f }
theorem lifeE_ok {E : Env} {fs : List FuncId} (hE : EnvOK E) (hf : ∀ f ∈ fs, (∃ fn c, E.P.funcs[f]? = some fn ∧ fn.body = some c ∧ (fn.name == "runtime.NumGoroutine") = false) ∧
    ∀ w, Calls E.P f #[] w fun e w' => e = .returned (.bool true) ∧ Below w.heap.size w w') : EnvOK (lifeE E fs) := by
  refine ⟨hE.mix, hE.code, fun f g hg => ?_, hE.ext⟩
  simp only [lifeE] at hg
  split at hg
  · rename_i hm
    have hmem : f ∈ fs := by simpa using hm
    obtain ⟨h1, h2⟩ := hf f hmem
    cases hg
    refine ⟨h1, fun args h v h3 he w0 ρ D w args' S ha => ?_⟩
    simp only at he
    split at he
    · rename_i hs
      cases he
      obtain rfl : args' = #[] := Array.eq_empty_of_size_eq_zero (by rw [← ha.1]; exact hs)
      refine (callsIn_wide.2 (h2 w)).mono fun e w' hq => ?_
      obtain ⟨rfl, hb⟩ := hq
      exact ⟨ρ, _, rfl, Ren.le_refl _, .bool _, S.later hb⟩
    · cases he
  · exact hE.orac f g hg
end Go.Proofs.Ev
