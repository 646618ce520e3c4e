/- All shallow functions. Printed by a program of the prover's own from the loaded program; Lean checks it. -/
import Derived.Test.YtlbmlncdjkdoaaaGreatSz1
set_option linter.unusedVariables false
set_option linter.unusedSimpArgs false
set_option maxRecDepth 100000
namespace Go.Proofs.YtlbmlncdjkdoaaaGreat.Sh
open Go Go.RowKit Go.Proofs.Ev
end Go.Proofs.YtlbmlncdjkdoaaaGreat.Sh
