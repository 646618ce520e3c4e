/- What the functions of the octet's package come to: 'New', 'Bytes', 'Of', 'Number', 'Var'. -/
import Derived.Test.YtghelamfaaakcaaGreatSzOc
set_option linter.unusedVariables false
set_option linter.unusedSimpArgs false
set_option maxRecDepth 100000
namespace Go.Proofs.YtghelamfaaakcaaGreat.Sh
open Go Go.RowKit Go.Proofs.Ev
section
variable {n0 : Nat} {h0 h : AH} {L : List (Nat × AO)} {O : List OS} {i br : Nat} {rv : Value} {rest : List Nat}
/-! ### 'Of' -/
/-! ### 'Var' -/
end
end Go.Proofs.YtghelamfaaakcaaGreat.Sh
