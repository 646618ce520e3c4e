/- What the types of the program are, for shallow functions. Printed by a program of the prover's own from the loaded program; Lean checks it. -/
import Derived.Test.YtchfdnboojamnaaEv28
import Derived.Test.YtchfdnboojamnaaProg
import Derived.KernelRfl
set_option linter.unusedVariables false
set_option maxRecDepth 100000
namespace Go.Proofs.Ytchfdnboojamnaa.Sh
open Go Go.RowKit Go.Proofs.Ev
theorem u2 : Try.prog.underlying 2 = some (Go.TypeDesc.int Go.IntKind.i64) := by kernel_rfl
theorem sz2 : szT Try.prog 2 = some 1 := by kernel_rfl
theorem ld2 {b o : Nat} {h : AH} : pLoad Try.prog 2 (.pointer (some ⟨b, o, none⟩)) h = h.cell b o := by kernel_rfl
theorem ze2 : zeroT Try.prog 2 = some (Go.Value.int Go.IntKind.i64 0) := by kernel_rfl
theorem u3 : Try.prog.underlying 3 = some (Go.TypeDesc.int Go.IntKind.i64) := by kernel_rfl
theorem sz3 : szT Try.prog 3 = some 1 := by kernel_rfl
theorem ld3 {b o : Nat} {h : AH} : pLoad Try.prog 3 (.pointer (some ⟨b, o, none⟩)) h = h.cell b o := by kernel_rfl
theorem ze3 : zeroT Try.prog 3 = some (Go.Value.int Go.IntKind.i64 0) := by kernel_rfl
theorem u4 : Try.prog.underlying 4 = some (Go.TypeDesc.bool) := by kernel_rfl
theorem sz4 : szT Try.prog 4 = some 1 := by kernel_rfl
theorem ld4 {b o : Nat} {h : AH} : pLoad Try.prog 4 (.pointer (some ⟨b, o, none⟩)) h = h.cell b o := by kernel_rfl
theorem ze4 : zeroT Try.prog 4 = some (Go.Value.bool false) := by kernel_rfl
theorem u5 : Try.prog.underlying 5 = some (Go.TypeDesc.int Go.IntKind.u8) := by kernel_rfl
theorem sz5 : szT Try.prog 5 = some 1 := by kernel_rfl
theorem ld5 {b o : Nat} {h : AH} : pLoad Try.prog 5 (.pointer (some ⟨b, o, none⟩)) h = h.cell b o := by kernel_rfl
theorem ze5 : zeroT Try.prog 5 = some (Go.Value.int Go.IntKind.u8 0) := by kernel_rfl
theorem u23 : Try.prog.underlying 23 = some (Go.TypeDesc.int Go.IntKind.u64) := by kernel_rfl
theorem sz23 : szT Try.prog 23 = some 1 := by kernel_rfl
theorem ld23 {b o : Nat} {h : AH} : pLoad Try.prog 23 (.pointer (some ⟨b, o, none⟩)) h = h.cell b o := by kernel_rfl
theorem ze23 : zeroT Try.prog 23 = some (Go.Value.int Go.IntKind.u64 0) := by kernel_rfl
theorem u25 : Try.prog.underlying 25 = some (Go.TypeDesc.slice 5) := by kernel_rfl
theorem el25 : elemT Try.prog 25 = some 5 := by kernel_rfl
theorem sz25 : szT Try.prog 25 = some 1 := by kernel_rfl
theorem ld25 {b o : Nat} {h : AH} : pLoad Try.prog 25 (.pointer (some ⟨b, o, none⟩)) h = h.cell b o := by kernel_rfl
theorem ze25 : zeroT Try.prog 25 = some (Go.Value.slice none 0 0) := by kernel_rfl
theorem u30 : Try.prog.underlying 30 = some (Go.TypeDesc.slice 23) := by kernel_rfl
theorem el30 : elemT Try.prog 30 = some 23 := by kernel_rfl
theorem sz30 : szT Try.prog 30 = some 1 := by kernel_rfl
theorem ld30 {b o : Nat} {h : AH} : pLoad Try.prog 30 (.pointer (some ⟨b, o, none⟩)) h = h.cell b o := by kernel_rfl
theorem ze30 : zeroT Try.prog 30 = some (Go.Value.slice none 0 0) := by kernel_rfl
theorem sz46 : szT Try.prog 46 = some 1 := by kernel_rfl
theorem ld46 {b o : Nat} {h : AH} : pLoad Try.prog 46 (.pointer (some ⟨b, o, none⟩)) h = (h.row b o 1).map fun cs => .agg cs.toArray := by kernel_rfl
theorem fa46_0 {b o : Nat} : pFieldAddr Try.prog 46 (.pointer (some ⟨b, o, none⟩)) 0 = some (.pointer (some ⟨b, o + 0, none⟩)) := by kernel_rfl
theorem ze46 : zeroT Try.prog 46 = some (Go.Value.agg #[Go.Value.slice none 0 0]) := by kernel_rfl
theorem sz47 : szT Try.prog 47 = some 1 := by kernel_rfl
theorem ld47 {b o : Nat} {h : AH} : pLoad Try.prog 47 (.pointer (some ⟨b, o, none⟩)) h = (h.row b o 1).map fun cs => .agg cs.toArray := by kernel_rfl
theorem fa47_0 {b o : Nat} : pFieldAddr Try.prog 47 (.pointer (some ⟨b, o, none⟩)) 0 = some (.pointer (some ⟨b, o + 0, none⟩)) := by kernel_rfl
theorem ze47 : zeroT Try.prog 47 = some (Go.Value.agg #[Go.Value.slice none 0 0]) := by kernel_rfl
end Go.Proofs.Ytchfdnboojamnaa.Sh
