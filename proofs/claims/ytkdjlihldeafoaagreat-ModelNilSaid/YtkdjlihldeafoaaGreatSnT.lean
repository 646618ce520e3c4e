/- What the types of the program are, for shallow functions. Printed by a program of the prover's own from the loaded program; Lean checks it. -/
import Derived.Test.YtkdjlihldeafoaaGreatEvC
import Derived.Test.YtkdjlihldeafoaaGreatProg
import Derived.KernelRfl
set_option linter.unusedVariables false
set_option maxRecDepth 100000
namespace Go.Proofs.YtkdjlihldeafoaaGreat.Sh
open Go Go.RowKit Go.Proofs.Ev
theorem u3 : Tryz.prog.underlying 3 = some (Go.TypeDesc.int Go.IntKind.i64) := by kernel_rfl
theorem sz3 : szT Tryz.prog 3 = some 1 := by kernel_rfl
theorem ld3 {b o : Nat} {h : AH} : pLoad Tryz.prog 3 (.pointer (some ⟨b, o, none⟩)) h = h.cell b o := by kernel_rfl
theorem ze3 : zeroT Tryz.prog 3 = some (Go.Value.int Go.IntKind.i64 0) := by kernel_rfl
theorem u4 : Tryz.prog.underlying 4 = some (Go.TypeDesc.bool) := by kernel_rfl
theorem sz4 : szT Tryz.prog 4 = some 1 := by kernel_rfl
theorem ld4 {b o : Nat} {h : AH} : pLoad Tryz.prog 4 (.pointer (some ⟨b, o, none⟩)) h = h.cell b o := by kernel_rfl
theorem ze4 : zeroT Tryz.prog 4 = some (Go.Value.bool false) := by kernel_rfl
theorem u9 : Tryz.prog.underlying 9 = some (Go.TypeDesc.string) := by kernel_rfl
theorem sz9 : szT Tryz.prog 9 = some 1 := by kernel_rfl
theorem ld9 {b o : Nat} {h : AH} : pLoad Tryz.prog 9 (.pointer (some ⟨b, o, none⟩)) h = h.cell b o := by kernel_rfl
theorem ze9 : zeroT Tryz.prog 9 = some (Go.Value.string ByteArray.empty) := by kernel_rfl
theorem sz28 : szT Tryz.prog 28 = some 1 := by kernel_rfl
theorem ld28 {b o : Nat} {h : AH} : pLoad Tryz.prog 28 (.pointer (some ⟨b, o, none⟩)) h = h.cell b o := by kernel_rfl
theorem ze28 : zeroT Tryz.prog 28 = some (Go.Value.pointer none) := by kernel_rfl
theorem u30 : Tryz.prog.underlying 30 = some (Go.TypeDesc.int Go.IntKind.i64) := by kernel_rfl
theorem sz30 : szT Tryz.prog 30 = some 1 := by kernel_rfl
theorem ld30 {b o : Nat} {h : AH} : pLoad Tryz.prog 30 (.pointer (some ⟨b, o, none⟩)) h = h.cell b o := by kernel_rfl
theorem ze30 : zeroT Tryz.prog 30 = some (Go.Value.int Go.IntKind.i64 0) := by kernel_rfl
theorem u31 : Tryz.prog.underlying 31 = some (Go.TypeDesc.slice 45) := by kernel_rfl
theorem el31 : elemT Tryz.prog 31 = some 45 := by kernel_rfl
theorem bs31 (a : Option Addr) (m c : Nat) (h : AH) : pBuildSlice Tryz.prog 31 1 #[(0, (.slice a m c))] h = some (.slice (some ⟨h.n, 0, none⟩) 1 1, h.alloc (.cells [(.slice a m c)] 45 true)) := by kernel_rfl
theorem app31 : AppT Tryz.prog #[31, 31] 45 1 24 := ⟨by kernel_rfl, ⟨45, by kernel_rfl⟩, by kernel_rfl, by omega, by kernel_rfl, ⟨_, (by kernel_rfl : zeroT Tryz.prog 45 = some (.slice none 0 0)), rfl, rfl⟩⟩
theorem sz31 : szT Tryz.prog 31 = some 1 := by kernel_rfl
theorem ld31 {b o : Nat} {h : AH} : pLoad Tryz.prog 31 (.pointer (some ⟨b, o, none⟩)) h = h.cell b o := by kernel_rfl
theorem ze31 : zeroT Tryz.prog 31 = some (Go.Value.slice none 0 0) := by kernel_rfl
theorem u32 : Tryz.prog.underlying 32 = some (Go.TypeDesc.slice 9) := by kernel_rfl
theorem el32 : elemT Tryz.prog 32 = some 9 := by kernel_rfl
theorem bs32 (z : ByteArray) (h : AH) : pBuildSlice Tryz.prog 32 1 #[(0, (.string z))] h = some (.slice (some ⟨h.n, 0, none⟩) 1 1, h.alloc (.cells [(.string z)] 9 true)) := by kernel_rfl
theorem app32 : AppT Tryz.prog #[32, 32] 9 1 16 := ⟨by kernel_rfl, ⟨9, by kernel_rfl⟩, by kernel_rfl, by omega, by kernel_rfl, ⟨_, (by kernel_rfl : zeroT Tryz.prog 9 = some (.string .empty)), rfl, rfl⟩⟩
theorem sz32 : szT Tryz.prog 32 = some 1 := by kernel_rfl
theorem ld32 {b o : Nat} {h : AH} : pLoad Tryz.prog 32 (.pointer (some ⟨b, o, none⟩)) h = h.cell b o := by kernel_rfl
theorem ze32 : zeroT Tryz.prog 32 = some (Go.Value.slice none 0 0) := by kernel_rfl
theorem sz34 : szT Tryz.prog 34 = some 4 := by kernel_rfl
theorem ld34 {b o : Nat} {h : AH} : pLoad Tryz.prog 34 (.pointer (some ⟨b, o, none⟩)) h = (h.row b o 4).map fun cs => .agg cs.toArray := by kernel_rfl
theorem fa34_0 {b o : Nat} : pFieldAddr Tryz.prog 34 (.pointer (some ⟨b, o, none⟩)) 0 = some (.pointer (some ⟨b, o + 0, none⟩)) := by kernel_rfl
theorem fa34_1 {b o : Nat} : pFieldAddr Tryz.prog 34 (.pointer (some ⟨b, o, none⟩)) 1 = some (.pointer (some ⟨b, o + 1, none⟩)) := by kernel_rfl
theorem fa34_2 {b o : Nat} : pFieldAddr Tryz.prog 34 (.pointer (some ⟨b, o, none⟩)) 2 = some (.pointer (some ⟨b, o + 2, none⟩)) := by kernel_rfl
theorem fa34_3 {b o : Nat} : pFieldAddr Tryz.prog 34 (.pointer (some ⟨b, o, none⟩)) 3 = some (.pointer (some ⟨b, o + 3, none⟩)) := by kernel_rfl
theorem ze34 : zeroT Tryz.prog 34 = some (Go.Value.agg #[Go.Value.int Go.IntKind.i64 0, Go.Value.slice none 0 0, Go.Value.slice none 0 0, Go.Value.int Go.IntKind.i64 0]) := by kernel_rfl
theorem sz40 : szT Tryz.prog 40 = some 8 := by kernel_rfl
theorem ld40 {b o : Nat} {h : AH} : pLoad Tryz.prog 40 (.pointer (some ⟨b, o, none⟩)) h = (h.row b o 8).map fun cs => .agg cs.toArray := by kernel_rfl
theorem fa40_0 {b o : Nat} : pFieldAddr Tryz.prog 40 (.pointer (some ⟨b, o, none⟩)) 0 = some (.pointer (some ⟨b, o + 0, none⟩)) := by kernel_rfl
theorem fa40_1 {b o : Nat} : pFieldAddr Tryz.prog 40 (.pointer (some ⟨b, o, none⟩)) 1 = some (.pointer (some ⟨b, o + 1, none⟩)) := by kernel_rfl
theorem fa40_2 {b o : Nat} : pFieldAddr Tryz.prog 40 (.pointer (some ⟨b, o, none⟩)) 2 = some (.pointer (some ⟨b, o + 2, none⟩)) := by kernel_rfl
theorem fa40_3 {b o : Nat} : pFieldAddr Tryz.prog 40 (.pointer (some ⟨b, o, none⟩)) 3 = some (.pointer (some ⟨b, o + 3, none⟩)) := by kernel_rfl
theorem fa40_4 {b o : Nat} : pFieldAddr Tryz.prog 40 (.pointer (some ⟨b, o, none⟩)) 4 = some (.pointer (some ⟨b, o + 4, none⟩)) := by kernel_rfl
theorem fa40_5 {b o : Nat} : pFieldAddr Tryz.prog 40 (.pointer (some ⟨b, o, none⟩)) 5 = some (.pointer (some ⟨b, o + 5, none⟩)) := by kernel_rfl
theorem fa40_6 {b o : Nat} : pFieldAddr Tryz.prog 40 (.pointer (some ⟨b, o, none⟩)) 6 = some (.pointer (some ⟨b, o + 6, none⟩)) := by kernel_rfl
theorem fa40_7 {b o : Nat} : pFieldAddr Tryz.prog 40 (.pointer (some ⟨b, o, none⟩)) 7 = some (.pointer (some ⟨b, o + 7, none⟩)) := by kernel_rfl
theorem ze40 : zeroT Tryz.prog 40 = some (Go.Value.agg #[Go.Value.int Go.IntKind.i64 0, Go.Value.string ByteArray.empty, Go.Value.string ByteArray.empty, Go.Value.slice none 0 0, Go.Value.slice none 0 0, Go.Value.slice none 0 0, Go.Value.slice none 0 0, Go.Value.slice none 0 0]) := by kernel_rfl
theorem u55 : Tryz.prog.underlying 55 = some (Go.TypeDesc.slice 79) := by kernel_rfl
theorem el55 : elemT Tryz.prog 55 = some 79 := by kernel_rfl
theorem sz55 : szT Tryz.prog 55 = some 1 := by kernel_rfl
theorem ld55 {b o : Nat} {h : AH} : pLoad Tryz.prog 55 (.pointer (some ⟨b, o, none⟩)) h = h.cell b o := by kernel_rfl
theorem ze55 : zeroT Tryz.prog 55 = some (Go.Value.slice none 0 0) := by kernel_rfl
theorem u56 : Tryz.prog.underlying 56 = some (Go.TypeDesc.slice 81) := by kernel_rfl
theorem el56 : elemT Tryz.prog 56 = some 81 := by kernel_rfl
theorem sz56 : szT Tryz.prog 56 = some 1 := by kernel_rfl
theorem ld56 {b o : Nat} {h : AH} : pLoad Tryz.prog 56 (.pointer (some ⟨b, o, none⟩)) h = h.cell b o := by kernel_rfl
theorem ze56 : zeroT Tryz.prog 56 = some (Go.Value.slice none 0 0) := by kernel_rfl
theorem sz58 : szT Tryz.prog 58 = some 2 := by kernel_rfl
theorem ld58 {b o : Nat} {h : AH} : pLoad Tryz.prog 58 (.pointer (some ⟨b, o, none⟩)) h = (h.row b o 2).map fun cs => .agg cs.toArray := by kernel_rfl
theorem fa58_0 {b o : Nat} : pFieldAddr Tryz.prog 58 (.pointer (some ⟨b, o, none⟩)) 0 = some (.pointer (some ⟨b, o + 0, none⟩)) := by kernel_rfl
theorem fa58_1 {b o : Nat} : pFieldAddr Tryz.prog 58 (.pointer (some ⟨b, o, none⟩)) 1 = some (.pointer (some ⟨b, o + 1, none⟩)) := by kernel_rfl
theorem ze58 : zeroT Tryz.prog 58 = some (Go.Value.agg #[Go.Value.slice none 0 0, Go.Value.slice none 0 0]) := by kernel_rfl
end Go.Proofs.YtkdjlihldeafoaaGreat.Sh
