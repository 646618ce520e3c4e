/- Numbers with signs as numbers without; how many bits, how many bytes of seven bits. No program in sight. -/
import Derived.Test.YtgklcfnjahomjaaEvC
set_option linter.unusedVariables false
set_option linter.unusedSimpArgs false
namespace Go.Proofs.Ev
open Go
theorem wrap_u64 (z : Int) : IntKind.u64.wrap z = z % 18446744073709551616:=by
 unfold IntKind.wrap
 simp [IntKind.signed,IntKind.bits]
theorem wrap_u8 (z : Int) : IntKind.u8.wrap z = z % 256:=by
 unfold IntKind.wrap
 simp [IntKind.signed,IntKind.bits]
section
variable {P : Program} {t : TypeId} {x y : Operand} {a b : Int}
theorem xor64u : pBin P .xor t x y (.int .u64 a) (.int .u64 b) = some (.int .u64 (IntKind.u64.wrap (BitVec.ofInt 64 a ^^^ BitVec.ofInt 64 b).toNat)):=bin_xor
end
/-! ### How many bits; bytes of seven bits -/
def bl (v : Nat) : Nat:=if h : v = 0 then 0 else bl (v / 2) + 1
termination_by v
decreasing_by omega
end Go.Proofs.Ev
