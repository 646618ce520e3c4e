/- What the types of the program are, for shallow functions. Printed by a program of the prover's own from the loaded program; Lean checks it. -/
import Derived.Test.YtagcejlclcldcaaSzT
import Derived.Test.YtagcejlclcldcaaProg
import Derived.KernelRfl
set_option linter.unusedVariables false
set_option maxRecDepth 100000
namespace Go.Proofs.Ytagcejlclcldcaa.Sh
open Go Go.RowKit Go.Proofs.Ev
theorem sz84 : szT Try.prog 84 = some 1 := by kernel_rfl
theorem ld84 {b o : Nat} {h : AH} : pLoad Try.prog 84 (.pointer (some ⟨b, o, none⟩)) h = (h.row b o 1).map fun cs => .agg cs.toArray := by kernel_rfl
theorem fa84_0 {b o : Nat} : pFieldAddr Try.prog 84 (.pointer (some ⟨b, o, none⟩)) 0 = some (.pointer (some ⟨b, o + 0, none⟩)) := by kernel_rfl
theorem ze84 : zeroT Try.prog 84 = some (Go.Value.agg #[Go.Value.slice none 0 0]) := by kernel_rfl
end Go.Proofs.Ytagcejlclcldcaa.Sh
