/- What the types of the program are, for shallow functions. Printed by a program of the prover's own from the loaded program; Lean checks it. -/
import Derived.Test.YtlbmlncdjkdoaaaGreatEvC
import Derived.Test.YtlbmlncdjkdoaaaGreatProg
import Derived.KernelRfl
import Derived.KernelRfl
set_option linter.unusedVariables false
set_option maxRecDepth 100000
namespace Go.Proofs.YtlbmlncdjkdoaaaGreat.Sh
open Go Go.RowKit Go.Proofs.Ev
open Tryz (prog)
theorem sz169 : szT prog 169 = some 1:=by kernel_rfl
theorem ld169 {b o : Nat} {h : AH} : pLoad prog 169 (.pointer (some ⟨b,o,none⟩)) h = (h.row b o 1).map fun cs=>.agg cs.toArray:=by kernel_rfl
theorem fa169_0 {b o : Nat} : pFieldAddr prog 169 (.pointer (some ⟨b,o,none⟩)) 0 = some (.pointer (some ⟨b,o + 0,none⟩)):=by kernel_rfl
theorem ze169 : zeroT prog 169 = some (Go.Value.agg #[Go.Value.slice none 0 0]):=by kernel_rfl
end Go.Proofs.YtlbmlncdjkdoaaaGreat.Sh
