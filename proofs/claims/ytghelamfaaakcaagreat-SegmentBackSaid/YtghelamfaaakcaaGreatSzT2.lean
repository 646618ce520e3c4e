/- What the types of the program are, for shallow functions. Printed by a program of the prover's own from the loaded program; Lean checks it. -/
import Derived.Test.YtghelamfaaakcaaGreatEvC
import Derived.Test.YtghelamfaaakcaaGreatProg
import Derived.KernelRfl
set_option linter.unusedVariables false
set_option maxRecDepth 100000
namespace Go.Proofs.YtghelamfaaakcaaGreat.Sh
open Go Go.RowKit Go.Proofs.Ev
open Tryz (prog)
theorem sz128 : szT prog 128 = some 1:=by kernel_rfl
theorem ld128 {b o : Nat} {h : AH} : pLoad prog 128 (.pointer (some ⟨b,o,none⟩)) h = (h.row b o 1).map fun cs=>.agg cs.toArray:=by kernel_rfl
theorem fa128_0 {b o : Nat} : pFieldAddr prog 128 (.pointer (some ⟨b,o,none⟩)) 0 = some (.pointer (some ⟨b,o + 0,none⟩)):=by kernel_rfl
theorem ze128 : zeroT prog 128 = some (Go.Value.agg #[Go.Value.slice none 0 0]):=by kernel_rfl
end Go.Proofs.YtghelamfaaakcaaGreat.Sh
