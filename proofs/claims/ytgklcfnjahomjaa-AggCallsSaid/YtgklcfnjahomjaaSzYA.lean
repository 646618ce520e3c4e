/- Aggregates as the laws make them. -/
import Derived.Test.YtgklcfnjahomjaaSzY10
set_option linter.unusedVariables false
set_option linter.unusedSimpArgs false
set_option maxRecDepth 100000
namespace Go.Proofs.Ytgklcfnjahomjaa.Sh
open Go Go.RowKit Go.Proofs.Ev
def lawA (c : Nat) (b : Bool) : List AggD:=[⟨1,0⟩,⟨3,c⟩,⟨4,c⟩] ++ if b then [⟨2,c⟩] else []
end Go.Proofs.Ytgklcfnjahomjaa.Sh
