/- What the types of the program are, for shallow functions. Printed by a program of the prover's own from the loaded program; Lean checks it. -/
import Derived.Test.YtodokclcffejfaaEv28
import Derived.Test.YtodokclcffejfaaProg
import Derived.KernelRfl
set_option linter.unusedVariables false
set_option maxRecDepth 100000
namespace Go.Proofs.Ytodokclcffejfaa.Sh
open Go Go.RowKit Go.Proofs.Ev
theorem u3 : Try.prog.underlying 3 = some (Go.TypeDesc.int Go.IntKind.i64) := by kernel_rfl
theorem sz3 : szT Try.prog 3 = some 1 := by kernel_rfl
theorem ld3 {b o : Nat} {h : AH} : pLoad Try.prog 3 (.pointer (some ⟨b, o, none⟩)) h = h.cell b o := by kernel_rfl
theorem ze3 : zeroT Try.prog 3 = some (Go.Value.int Go.IntKind.i64 0) := by kernel_rfl
theorem u4 : Try.prog.underlying 4 = some (Go.TypeDesc.bool) := by kernel_rfl
theorem sz4 : szT Try.prog 4 = some 1 := by kernel_rfl
theorem ld4 {b o : Nat} {h : AH} : pLoad Try.prog 4 (.pointer (some ⟨b, o, none⟩)) h = h.cell b o := by kernel_rfl
theorem ze4 : zeroT Try.prog 4 = some (Go.Value.bool false) := by kernel_rfl
theorem u5 : Try.prog.underlying 5 = some (Go.TypeDesc.int Go.IntKind.u8) := by kernel_rfl
theorem sz5 : szT Try.prog 5 = some 1 := by kernel_rfl
theorem ld5 {b o : Nat} {h : AH} : pLoad Try.prog 5 (.pointer (some ⟨b, o, none⟩)) h = h.cell b o := by kernel_rfl
theorem ze5 : zeroT Try.prog 5 = some (Go.Value.int Go.IntKind.u8 0) := by kernel_rfl
theorem u9 : Try.prog.underlying 9 = some (Go.TypeDesc.string) := by kernel_rfl
theorem sz9 : szT Try.prog 9 = some 1 := by kernel_rfl
theorem ld9 {b o : Nat} {h : AH} : pLoad Try.prog 9 (.pointer (some ⟨b, o, none⟩)) h = h.cell b o := by kernel_rfl
theorem ze9 : zeroT Try.prog 9 = some (Go.Value.string ByteArray.empty) := by kernel_rfl
theorem u22 : Try.prog.underlying 22 = some (Go.TypeDesc.slice 30) := by kernel_rfl
theorem el22 : elemT Try.prog 22 = some 30 := by kernel_rfl
theorem sz22 : szT Try.prog 22 = some 1 := by kernel_rfl
theorem ld22 {b o : Nat} {h : AH} : pLoad Try.prog 22 (.pointer (some ⟨b, o, none⟩)) h = h.cell b o := by kernel_rfl
theorem ze22 : zeroT Try.prog 22 = some (Go.Value.slice none 0 0) := by kernel_rfl
theorem u25 : Try.prog.underlying 25 = some (Go.TypeDesc.slice 5) := by kernel_rfl
theorem el25 : elemT Try.prog 25 = some 5 := by kernel_rfl
theorem sz25 : szT Try.prog 25 = some 1 := by kernel_rfl
theorem ld25 {b o : Nat} {h : AH} : pLoad Try.prog 25 (.pointer (some ⟨b, o, none⟩)) h = h.cell b o := by kernel_rfl
theorem ze25 : zeroT Try.prog 25 = some (Go.Value.slice none 0 0) := by kernel_rfl
theorem u26 : Try.prog.underlying 26 = some (Go.TypeDesc.int Go.IntKind.i64) := by kernel_rfl
theorem sz26 : szT Try.prog 26 = some 1 := by kernel_rfl
theorem ld26 {b o : Nat} {h : AH} : pLoad Try.prog 26 (.pointer (some ⟨b, o, none⟩)) h = h.cell b o := by kernel_rfl
theorem ze26 : zeroT Try.prog 26 = some (Go.Value.int Go.IntKind.i64 0) := by kernel_rfl
theorem u30 : Try.prog.underlying 30 = some (Go.TypeDesc.int Go.IntKind.u64) := by kernel_rfl
theorem sz30 : szT Try.prog 30 = some 1 := by kernel_rfl
theorem ld30 {b o : Nat} {h : AH} : pLoad Try.prog 30 (.pointer (some ⟨b, o, none⟩)) h = h.cell b o := by kernel_rfl
theorem ze30 : zeroT Try.prog 30 = some (Go.Value.int Go.IntKind.u64 0) := by kernel_rfl
theorem sz41 : szT Try.prog 41 = some 1 := by kernel_rfl
theorem ld41 {b o : Nat} {h : AH} : pLoad Try.prog 41 (.pointer (some ⟨b, o, none⟩)) h = h.cell b o := by kernel_rfl
theorem ze41 : zeroT Try.prog 41 = some Go.Value.nilFunc := by kernel_rfl
end Go.Proofs.Ytodokclcffejfaa.Sh
