/- Numbers with signs as numbers without; how many bits, how many bytes of seven bits. No program in sight. -/
import Derived.Test.YtgklcfnjahomjaaEvC
set_option linter.unusedVariables false
set_option linter.unusedSimpArgs false
namespace Go.Proofs.Ev
open Go

theorem wrap_u64 (z : Int) : IntKind.u64.wrap z = z % 18446744073709551616 := by
  unfold IntKind.wrap
  simp [IntKind.signed, IntKind.bits]
theorem wrap_u8 (z : Int) : IntKind.u8.wrap z = z % 256 := by
  unfold IntKind.wrap
  simp [IntKind.signed, IntKind.bits]
theorem wrap_i64' (z : Int) : IntKind.i64.wrap z = if z % 18446744073709551616 ≥ 9223372036854775808 then z % 18446744073709551616 - 18446744073709551616 else z % 18446744073709551616 := by
  unfold IntKind.wrap
  simp [IntKind.signed, IntKind.bits]
theorem bin_rem {P : Program} {k : IntKind} {t : TypeId} {x y : Operand} {a b : Int} (hb : b ≠ 0) : pBin P .rem t x y (.int k a) (.int k b) = some (.int k (a.tmod b)) := by
  cases k <;> simp [pBin, plain, plain0, prun_bind, binOp, Op.intDiv, hb, chk, eqGuard]
section
variable {P : Program} {t : TypeId} {x y : Operand} {a b : Int}
theorem xor64u : pBin P .xor t x y (.int .u64 a) (.int .u64 b) = some (.int .u64 (IntKind.u64.wrap (BitVec.ofInt 64 a ^^^ BitVec.ofInt 64 b).toNat)) := bin_xor
end

/-! ### How many bits; bytes of seven bits -/
def bl (v : Nat) : Nat := if h : v = 0 then 0 else bl (v / 2) + 1
termination_by v
decreasing_by omega
end Go.Proofs.Ev
