/- What the types of the program are, for shallow functions. Printed by a program of the prover's own from the loaded program; Lean checks it. -/
import Derived.Test.YtpiibdegmimckaaEv25
import Derived.Test.YtpiibdegmimckaaProg
import Derived.KernelRfl
set_option linter.unusedVariables false
set_option maxRecDepth 100000
namespace Go.Proofs.Ytpiibdegmimckaa.Sh
open Go Go.RowKit Go.Proofs.Ev
theorem u2 : Try.prog.underlying 2 = some (Go.TypeDesc.int Go.IntKind.i64) := by kernel_rfl
theorem sz2 : szT Try.prog 2 = some 1 := by kernel_rfl
theorem ld2 {b o : Nat} {h : AH} : pLoad Try.prog 2 (.pointer (some ⟨b, o, none⟩)) h = h.cell b o := by kernel_rfl
theorem ze2 : zeroT Try.prog 2 = some (Go.Value.int Go.IntKind.i64 0) := by kernel_rfl
theorem u3 : Try.prog.underlying 3 = some (Go.TypeDesc.int Go.IntKind.i64) := by kernel_rfl
theorem sz3 : szT Try.prog 3 = some 1 := by kernel_rfl
theorem ld3 {b o : Nat} {h : AH} : pLoad Try.prog 3 (.pointer (some ⟨b, o, none⟩)) h = h.cell b o := by kernel_rfl
theorem ze3 : zeroT Try.prog 3 = some (Go.Value.int Go.IntKind.i64 0) := by kernel_rfl
theorem u4 : Try.prog.underlying 4 = some (Go.TypeDesc.bool) := by kernel_rfl
theorem sz4 : szT Try.prog 4 = some 1 := by kernel_rfl
theorem ld4 {b o : Nat} {h : AH} : pLoad Try.prog 4 (.pointer (some ⟨b, o, none⟩)) h = h.cell b o := by kernel_rfl
theorem ze4 : zeroT Try.prog 4 = some (Go.Value.bool false) := by kernel_rfl
theorem u9 : Try.prog.underlying 9 = some (Go.TypeDesc.string) := by kernel_rfl
theorem sz9 : szT Try.prog 9 = some 1 := by kernel_rfl
theorem ld9 {b o : Nat} {h : AH} : pLoad Try.prog 9 (.pointer (some ⟨b, o, none⟩)) h = h.cell b o := by kernel_rfl
theorem ze9 : zeroT Try.prog 9 = some (Go.Value.string ByteArray.empty) := by kernel_rfl
theorem u22 : Try.prog.underlying 22 = some (Go.TypeDesc.slice 26) := by kernel_rfl
theorem el22 : elemT Try.prog 22 = some 26 := by kernel_rfl
theorem sz22 : szT Try.prog 22 = some 1 := by kernel_rfl
theorem ld22 {b o : Nat} {h : AH} : pLoad Try.prog 22 (.pointer (some ⟨b, o, none⟩)) h = h.cell b o := by kernel_rfl
theorem ze22 : zeroT Try.prog 22 = some (Go.Value.slice none 0 0) := by kernel_rfl
theorem sz26 : szT Try.prog 26 = some 3 := by kernel_rfl
theorem ld26 {b o : Nat} {h : AH} : pLoad Try.prog 26 (.pointer (some ⟨b, o, none⟩)) h = (h.row b o 3).map fun cs => .agg cs.toArray := by kernel_rfl
theorem fa26_0 {b o : Nat} : pFieldAddr Try.prog 26 (.pointer (some ⟨b, o, none⟩)) 0 = some (.pointer (some ⟨b, o + 0, none⟩)) := by kernel_rfl
theorem fa26_1 {b o : Nat} : pFieldAddr Try.prog 26 (.pointer (some ⟨b, o, none⟩)) 1 = some (.pointer (some ⟨b, o + 1, none⟩)) := by kernel_rfl
theorem fa26_2 {b o : Nat} : pFieldAddr Try.prog 26 (.pointer (some ⟨b, o, none⟩)) 2 = some (.pointer (some ⟨b, o + 2, none⟩)) := by kernel_rfl
theorem ze26 : zeroT Try.prog 26 = some (Go.Value.agg #[Go.Value.int Go.IntKind.i64 0, Go.Value.int Go.IntKind.i64 0, Go.Value.string ByteArray.empty]) := by kernel_rfl
theorem sz28 : szT Try.prog 28 = some 8 := by kernel_rfl
theorem ld28 {b o : Nat} {h : AH} : pLoad Try.prog 28 (.pointer (some ⟨b, o, none⟩)) h = (h.row b o 8).map fun cs => .agg cs.toArray := by kernel_rfl
theorem fa28_0 {b o : Nat} : pFieldAddr Try.prog 28 (.pointer (some ⟨b, o, none⟩)) 0 = some (.pointer (some ⟨b, o + 0, none⟩)) := by kernel_rfl
theorem fa28_1 {b o : Nat} : pFieldAddr Try.prog 28 (.pointer (some ⟨b, o, none⟩)) 1 = some (.pointer (some ⟨b, o + 1, none⟩)) := by kernel_rfl
theorem fa28_2 {b o : Nat} : pFieldAddr Try.prog 28 (.pointer (some ⟨b, o, none⟩)) 2 = some (.pointer (some ⟨b, o + 2, none⟩)) := by kernel_rfl
theorem fa28_3 {b o : Nat} : pFieldAddr Try.prog 28 (.pointer (some ⟨b, o, none⟩)) 3 = some (.pointer (some ⟨b, o + 5, none⟩)) := by kernel_rfl
theorem ze28 : zeroT Try.prog 28 = some (Go.Value.agg #[Go.Value.int Go.IntKind.i64 0, Go.Value.int Go.IntKind.i64 0, Go.Value.int Go.IntKind.i64 0, Go.Value.int Go.IntKind.i64 0, Go.Value.string ByteArray.empty, Go.Value.int Go.IntKind.i64 0, Go.Value.int Go.IntKind.i64 0, Go.Value.string ByteArray.empty]) := by kernel_rfl
theorem u41 : Try.prog.underlying 41 = some (Go.TypeDesc.int Go.IntKind.i64) := by kernel_rfl
theorem sz41 : szT Try.prog 41 = some 1 := by kernel_rfl
theorem ld41 {b o : Nat} {h : AH} : pLoad Try.prog 41 (.pointer (some ⟨b, o, none⟩)) h = h.cell b o := by kernel_rfl
theorem ze41 : zeroT Try.prog 41 = some (Go.Value.int Go.IntKind.i64 0) := by kernel_rfl
theorem u48 : Try.prog.underlying 48 = some (Go.TypeDesc.int Go.IntKind.i64) := by kernel_rfl
theorem sz48 : szT Try.prog 48 = some 1 := by kernel_rfl
theorem ld48 {b o : Nat} {h : AH} : pLoad Try.prog 48 (.pointer (some ⟨b, o, none⟩)) h = h.cell b o := by kernel_rfl
theorem ze48 : zeroT Try.prog 48 = some (Go.Value.int Go.IntKind.i64 0) := by kernel_rfl
theorem sz53 : szT Try.prog 53 = some 1 := by kernel_rfl
theorem ld53 {b o : Nat} {h : AH} : pLoad Try.prog 53 (.pointer (some ⟨b, o, none⟩)) h = h.cell b o := by kernel_rfl
theorem ze53 : zeroT Try.prog 53 = some Go.Value.nilFunc := by kernel_rfl
theorem sz54 : szT Try.prog 54 = some 7 := by kernel_rfl
theorem ld54 {b o : Nat} {h : AH} : pLoad Try.prog 54 (.pointer (some ⟨b, o, none⟩)) h = (h.row b o 7).map fun cs => .agg cs.toArray := by kernel_rfl
theorem ze54 : zeroT Try.prog 54 = some (Go.Value.agg #[Go.Value.nilFunc, Go.Value.nilFunc, Go.Value.nilFunc, Go.Value.nilFunc, Go.Value.nilFunc, Go.Value.nilFunc, Go.Value.nilFunc]) := by kernel_rfl
theorem u55 : Try.prog.underlying 55 = some (Go.TypeDesc.slice 3) := by kernel_rfl
theorem el55 : elemT Try.prog 55 = some 3 := by kernel_rfl
theorem sz55 : szT Try.prog 55 = some 1 := by kernel_rfl
theorem ld55 {b o : Nat} {h : AH} : pLoad Try.prog 55 (.pointer (some ⟨b, o, none⟩)) h = h.cell b o := by kernel_rfl
theorem ze55 : zeroT Try.prog 55 = some (Go.Value.slice none 0 0) := by kernel_rfl
end Go.Proofs.Ytpiibdegmimckaa.Sh
