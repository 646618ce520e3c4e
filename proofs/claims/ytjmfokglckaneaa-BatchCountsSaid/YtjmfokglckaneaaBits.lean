/- Numbers with signs as numbers without; how many bits, how many bytes of seven bits. No program in sight. -/
import Derived.Test.YtjmfokglckaneaaEvC
set_option linter.unusedVariables false
set_option linter.unusedSimpArgs false
namespace Go.Proofs.Ev
open Go

section
variable {P : Program} {t : TypeId} {x y : Operand} {a b : Int}
end

/-! ### How many bits; bytes of seven bits -/
def bl (v : Nat) : Nat := if h : v = 0 then 0 else bl (v / 2) + 1
termination_by v
decreasing_by omega
end Go.Proofs.Ev
