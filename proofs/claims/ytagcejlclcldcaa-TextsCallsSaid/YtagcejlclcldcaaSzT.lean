/- What the types of the program are, for shallow functions. Printed by a program of the prover's own from the loaded program; Lean checks it. -/
import Derived.Test.YtagcejlclcldcaaEvC
import Derived.Test.YtagcejlclcldcaaProg
import Derived.KernelRfl
set_option linter.unusedVariables false
set_option maxRecDepth 100000
namespace Go.Proofs.Ytagcejlclcldcaa.Sh
open Go Go.RowKit Go.Proofs.Ev
theorem u2 : Try.prog.underlying 2 = some (Go.TypeDesc.int Go.IntKind.i64) := by kernel_rfl
theorem sz2 : szT Try.prog 2 = some 1 := by kernel_rfl
theorem ld2 {b o : Nat} {h : AH} : pLoad Try.prog 2 (.pointer (some ⟨b, o, none⟩)) h = h.cell b o := by kernel_rfl
theorem ze2 : zeroT Try.prog 2 = some (Go.Value.int Go.IntKind.i64 0) := by kernel_rfl
theorem u3 : Try.prog.underlying 3 = some (Go.TypeDesc.int Go.IntKind.i64) := by kernel_rfl
theorem sz3 : szT Try.prog 3 = some 1 := by kernel_rfl
theorem ld3 {b o : Nat} {h : AH} : pLoad Try.prog 3 (.pointer (some ⟨b, o, none⟩)) h = h.cell b o := by kernel_rfl
theorem ze3 : zeroT Try.prog 3 = some (Go.Value.int Go.IntKind.i64 0) := by kernel_rfl
theorem u4 : Try.prog.underlying 4 = some (Go.TypeDesc.bool) := by kernel_rfl
theorem sz4 : szT Try.prog 4 = some 1 := by kernel_rfl
theorem ld4 {b o : Nat} {h : AH} : pLoad Try.prog 4 (.pointer (some ⟨b, o, none⟩)) h = h.cell b o := by kernel_rfl
theorem ze4 : zeroT Try.prog 4 = some (Go.Value.bool false) := by kernel_rfl
theorem u5 : Try.prog.underlying 5 = some (Go.TypeDesc.int Go.IntKind.u8) := by kernel_rfl
theorem sz5 : szT Try.prog 5 = some 1 := by kernel_rfl
theorem ld5 {b o : Nat} {h : AH} : pLoad Try.prog 5 (.pointer (some ⟨b, o, none⟩)) h = h.cell b o := by kernel_rfl
theorem ze5 : zeroT Try.prog 5 = some (Go.Value.int Go.IntKind.u8 0) := by kernel_rfl
theorem u9 : Try.prog.underlying 9 = some (Go.TypeDesc.string) := by kernel_rfl
theorem sz9 : szT Try.prog 9 = some 1 := by kernel_rfl
theorem ld9 {b o : Nat} {h : AH} : pLoad Try.prog 9 (.pointer (some ⟨b, o, none⟩)) h = h.cell b o := by kernel_rfl
theorem ze9 : zeroT Try.prog 9 = some (Go.Value.string ByteArray.empty) := by kernel_rfl
theorem u22 : Try.prog.underlying 22 = some (Go.TypeDesc.slice 9) := by kernel_rfl
theorem el22 : elemT Try.prog 22 = some 9 := by kernel_rfl
theorem bs22 (z : ByteArray) (h : AH) : pBuildSlice Try.prog 22 1 #[(0, (.string z))] h = some (.slice (some ⟨h.n, 0, none⟩) 1 1, h.alloc (.cells [(.string z)] 9 true)) := by kernel_rfl
theorem app22 : AppT Try.prog #[22, 22] 9 1 16 := ⟨by kernel_rfl, ⟨9, by kernel_rfl⟩, by kernel_rfl, by omega, by kernel_rfl, ⟨_, (by kernel_rfl : zeroT Try.prog 9 = some (.string .empty)), rfl, rfl⟩⟩
theorem sz22 : szT Try.prog 22 = some 1 := by kernel_rfl
theorem ld22 {b o : Nat} {h : AH} : pLoad Try.prog 22 (.pointer (some ⟨b, o, none⟩)) h = h.cell b o := by kernel_rfl
theorem ze22 : zeroT Try.prog 22 = some (Go.Value.slice none 0 0) := by kernel_rfl
theorem u30 : Try.prog.underlying 30 = some (Go.TypeDesc.slice 5) := by kernel_rfl
theorem el30 : elemT Try.prog 30 = some 5 := by kernel_rfl
theorem bs30 (z : Int) (h : AH) : pBuildSlice Try.prog 30 1 #[(0, (.int .u8 z))] h = some (.slice (some ⟨h.n, 0, none⟩) 1 1, h.alloc (.cells [(.int .u8 z)] 5 true)) := by kernel_rfl
theorem app30 : AppT Try.prog #[30, 30] 5 1 1 := ⟨by kernel_rfl, ⟨5, by kernel_rfl⟩, by kernel_rfl, by omega, by kernel_rfl, ⟨_, (by kernel_rfl : zeroT Try.prog 5 = some (.int .u8 0)), rfl, rfl⟩⟩
theorem sz30 : szT Try.prog 30 = some 1 := by kernel_rfl
theorem ld30 {b o : Nat} {h : AH} : pLoad Try.prog 30 (.pointer (some ⟨b, o, none⟩)) h = h.cell b o := by kernel_rfl
theorem ze30 : zeroT Try.prog 30 = some (Go.Value.slice none 0 0) := by kernel_rfl
theorem u31 : Try.prog.underlying 31 = some (Go.TypeDesc.int Go.IntKind.i64) := by kernel_rfl
theorem sz31 : szT Try.prog 31 = some 1 := by kernel_rfl
theorem ld31 {b o : Nat} {h : AH} : pLoad Try.prog 31 (.pointer (some ⟨b, o, none⟩)) h = h.cell b o := by kernel_rfl
theorem ze31 : zeroT Try.prog 31 = some (Go.Value.int Go.IntKind.i64 0) := by kernel_rfl
theorem u39 : Try.prog.underlying 39 = some (Go.TypeDesc.slice 30) := by kernel_rfl
theorem el39 : elemT Try.prog 39 = some 30 := by kernel_rfl
theorem bs39 (a : Option Addr) (m c : Nat) (h : AH) : pBuildSlice Try.prog 39 1 #[(0, (.slice a m c))] h = some (.slice (some ⟨h.n, 0, none⟩) 1 1, h.alloc (.cells [(.slice a m c)] 30 true)) := by kernel_rfl
theorem app39 : AppT Try.prog #[39, 39] 30 1 24 := ⟨by kernel_rfl, ⟨30, by kernel_rfl⟩, by kernel_rfl, by omega, by kernel_rfl, ⟨_, (by kernel_rfl : zeroT Try.prog 30 = some (.slice none 0 0)), rfl, rfl⟩⟩
theorem sz39 : szT Try.prog 39 = some 1 := by kernel_rfl
theorem ld39 {b o : Nat} {h : AH} : pLoad Try.prog 39 (.pointer (some ⟨b, o, none⟩)) h = h.cell b o := by kernel_rfl
theorem ze39 : zeroT Try.prog 39 = some (Go.Value.slice none 0 0) := by kernel_rfl
theorem sz40 : szT Try.prog 40 = some 1 := by kernel_rfl
theorem ld40 {b o : Nat} {h : AH} : pLoad Try.prog 40 (.pointer (some ⟨b, o, none⟩)) h = h.cell b o := by kernel_rfl
theorem ze40 : zeroT Try.prog 40 = some (Go.Value.map none) := by kernel_rfl
theorem sz41 : szT Try.prog 41 = some 0 := by kernel_rfl
theorem ld41 {b o : Nat} {h : AH} : pLoad Try.prog 41 (.pointer (some ⟨b, o, none⟩)) h = (h.row b o 0).map fun cs => .agg cs.toArray := by kernel_rfl
theorem ze41 : zeroT Try.prog 41 = some (Go.Value.agg #[]) := by kernel_rfl
theorem u48 : Try.prog.underlying 48 = some (Go.TypeDesc.int Go.IntKind.u64) := by kernel_rfl
theorem sz48 : szT Try.prog 48 = some 1 := by kernel_rfl
theorem ld48 {b o : Nat} {h : AH} : pLoad Try.prog 48 (.pointer (some ⟨b, o, none⟩)) h = h.cell b o := by kernel_rfl
theorem ze48 : zeroT Try.prog 48 = some (Go.Value.int Go.IntKind.u64 0) := by kernel_rfl
theorem u50 : Try.prog.underlying 50 = some (Go.TypeDesc.slice 48) := by kernel_rfl
theorem el50 : elemT Try.prog 50 = some 48 := by kernel_rfl
theorem bs50 (z : Int) (h : AH) : pBuildSlice Try.prog 50 1 #[(0, (.int .u64 z))] h = some (.slice (some ⟨h.n, 0, none⟩) 1 1, h.alloc (.cells [(.int .u64 z)] 48 true)) := by kernel_rfl
theorem app50 : AppT Try.prog #[50, 50] 48 1 8 := ⟨by kernel_rfl, ⟨48, by kernel_rfl⟩, by kernel_rfl, by omega, by kernel_rfl, ⟨_, (by kernel_rfl : zeroT Try.prog 48 = some (.int .u64 0)), rfl, rfl⟩⟩
theorem sz50 : szT Try.prog 50 = some 1 := by kernel_rfl
theorem ld50 {b o : Nat} {h : AH} : pLoad Try.prog 50 (.pointer (some ⟨b, o, none⟩)) h = h.cell b o := by kernel_rfl
theorem ze50 : zeroT Try.prog 50 = some (Go.Value.slice none 0 0) := by kernel_rfl
theorem sz55 : szT Try.prog 55 = some 1 := by kernel_rfl
theorem ld55 {b o : Nat} {h : AH} : pLoad Try.prog 55 (.pointer (some ⟨b, o, none⟩)) h = h.cell b o := by kernel_rfl
theorem ze55 : zeroT Try.prog 55 = some (Go.Value.pointer none) := by kernel_rfl
theorem u70 : Try.prog.underlying 70 = some (Go.TypeDesc.int Go.IntKind.u64) := by kernel_rfl
theorem sz70 : szT Try.prog 70 = some 1 := by kernel_rfl
theorem ld70 {b o : Nat} {h : AH} : pLoad Try.prog 70 (.pointer (some ⟨b, o, none⟩)) h = h.cell b o := by kernel_rfl
theorem ze70 : zeroT Try.prog 70 = some (Go.Value.int Go.IntKind.u64 0) := by kernel_rfl
theorem sz77 : szT Try.prog 77 = some 1 := by kernel_rfl
theorem ld77 {b o : Nat} {h : AH} : pLoad Try.prog 77 (.pointer (some ⟨b, o, none⟩)) h = (h.row b o 1).map fun cs => .agg cs.toArray := by kernel_rfl
theorem fa77_0 {b o : Nat} : pFieldAddr Try.prog 77 (.pointer (some ⟨b, o, none⟩)) 0 = some (.pointer (some ⟨b, o + 0, none⟩)) := by kernel_rfl
theorem ze77 : zeroT Try.prog 77 = some (Go.Value.agg #[Go.Value.slice none 0 0]) := by kernel_rfl
end Go.Proofs.Ytagcejlclcldcaa.Sh
