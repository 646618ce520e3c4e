/- 'NullsBack' comes to true. -/
import Derived.Test.YtoleebigheobcaaSzN8
set_option linter.unusedVariables false
set_option linter.unusedSimpArgs false
set_option maxRecDepth 100000
namespace Go.Proofs.Ytoleebigheobcaa.Sh
open Go Go.RowKit Go.Proofs.Ev
end Go.Proofs.Ytoleebigheobcaa.Sh
