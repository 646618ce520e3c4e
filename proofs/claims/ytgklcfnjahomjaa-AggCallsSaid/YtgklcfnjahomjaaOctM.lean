/- Numbers of any length as bytes; no program in sight. -/
import Derived.Test.YtgklcfnjahomjaaBits
set_option linter.unusedVariables false
set_option linter.unusedSimpArgs false
namespace Go.Proofs.Ev
open Go Go.RowKit
def le (x : Nat) : Nat→Nat→List Nat
 | _,0=>[]
 | i,r + 1=>x / 2 ^ (8 * i) % 256 :: le x (i + 1) r
end Go.Proofs.Ev
