/- Numbers with signs as numbers without; how many bits, how many bytes of seven bits. No program in sight. -/
import Derived.Test.YtagcejlclcldcaaEvC
set_option linter.unusedVariables false
set_option linter.unusedSimpArgs false
namespace Go.Proofs.Ev
open Go

theorem bin_rem {P : Program} {k : IntKind} {t : TypeId} {x y : Operand} {a b : Int} (hb : b ≠ 0) : pBin P .rem t x y (.int k a) (.int k b) = some (.int k (a.tmod b)) := by
  cases k <;> simp [pBin, plain, plain0, prun_bind, binOp, Op.intDiv, hb, chk, eqGuard]
section
variable {P : Program} {t : TypeId} {x y : Operand} {a b : Int}
end

/-! ### How many bits; bytes of seven bits -/
def bl (v : Nat) : Nat := if h : v = 0 then 0 else bl (v / 2) + 1
termination_by v
decreasing_by omega
end Go.Proofs.Ev
