/- What the types of the program are, for shallow functions. Printed by a program of the prover's own from the loaded program; Lean checks it. -/
import Derived.Test.YtmhgihjmhmihpaaEvC
import Derived.Test.YtmhgihjmhmihpaaProg
import Derived.KernelRfl
set_option linter.unusedVariables false
set_option maxRecDepth 100000
namespace Go.Proofs.Ytmhgihjmhmihpaa.Sh
open Go Go.RowKit Go.Proofs.Ev
theorem u2 : Try.prog.underlying 2 = some (Go.TypeDesc.int Go.IntKind.i64) := by kernel_rfl
theorem sz2 : szT Try.prog 2 = some 1 := by kernel_rfl
theorem ld2 {b o : Nat} {h : AH} : pLoad Try.prog 2 (.pointer (some ⟨b, o, none⟩)) h = h.cell b o := by kernel_rfl
theorem ze2 : zeroT Try.prog 2 = some (Go.Value.int Go.IntKind.i64 0) := by kernel_rfl
theorem u3 : Try.prog.underlying 3 = some (Go.TypeDesc.int Go.IntKind.i64) := by kernel_rfl
theorem sz3 : szT Try.prog 3 = some 1 := by kernel_rfl
theorem ld3 {b o : Nat} {h : AH} : pLoad Try.prog 3 (.pointer (some ⟨b, o, none⟩)) h = h.cell b o := by kernel_rfl
theorem ze3 : zeroT Try.prog 3 = some (Go.Value.int Go.IntKind.i64 0) := by kernel_rfl
theorem u4 : Try.prog.underlying 4 = some (Go.TypeDesc.bool) := by kernel_rfl
theorem sz4 : szT Try.prog 4 = some 1 := by kernel_rfl
theorem ld4 {b o : Nat} {h : AH} : pLoad Try.prog 4 (.pointer (some ⟨b, o, none⟩)) h = h.cell b o := by kernel_rfl
theorem ze4 : zeroT Try.prog 4 = some (Go.Value.bool false) := by kernel_rfl
theorem u5 : Try.prog.underlying 5 = some (Go.TypeDesc.int Go.IntKind.u8) := by kernel_rfl
theorem sz5 : szT Try.prog 5 = some 1 := by kernel_rfl
theorem ld5 {b o : Nat} {h : AH} : pLoad Try.prog 5 (.pointer (some ⟨b, o, none⟩)) h = h.cell b o := by kernel_rfl
theorem ze5 : zeroT Try.prog 5 = some (Go.Value.int Go.IntKind.u8 0) := by kernel_rfl
theorem u9 : Try.prog.underlying 9 = some (Go.TypeDesc.string) := by kernel_rfl
theorem sz9 : szT Try.prog 9 = some 1 := by kernel_rfl
theorem ld9 {b o : Nat} {h : AH} : pLoad Try.prog 9 (.pointer (some ⟨b, o, none⟩)) h = h.cell b o := by kernel_rfl
theorem ze9 : zeroT Try.prog 9 = some (Go.Value.string ByteArray.empty) := by kernel_rfl
theorem u21 : Try.prog.underlying 21 = some (Go.TypeDesc.int Go.IntKind.i32) := by kernel_rfl
theorem sz21 : szT Try.prog 21 = some 1 := by kernel_rfl
theorem ld21 {b o : Nat} {h : AH} : pLoad Try.prog 21 (.pointer (some ⟨b, o, none⟩)) h = h.cell b o := by kernel_rfl
theorem ze21 : zeroT Try.prog 21 = some (Go.Value.int Go.IntKind.i32 0) := by kernel_rfl
theorem u22 : Try.prog.underlying 22 = some (Go.TypeDesc.slice 48) := by kernel_rfl
theorem el22 : elemT Try.prog 22 = some 48 := by kernel_rfl
theorem sz22 : szT Try.prog 22 = some 1 := by kernel_rfl
theorem ld22 {b o : Nat} {h : AH} : pLoad Try.prog 22 (.pointer (some ⟨b, o, none⟩)) h = h.cell b o := by kernel_rfl
theorem ze22 : zeroT Try.prog 22 = some (Go.Value.slice none 0 0) := by kernel_rfl
theorem u23 : Try.prog.underlying 23 = some (Go.TypeDesc.slice 42) := by kernel_rfl
theorem el23 : elemT Try.prog 23 = some 42 := by kernel_rfl
theorem sz23 : szT Try.prog 23 = some 1 := by kernel_rfl
theorem ld23 {b o : Nat} {h : AH} : pLoad Try.prog 23 (.pointer (some ⟨b, o, none⟩)) h = h.cell b o := by kernel_rfl
theorem ze23 : zeroT Try.prog 23 = some (Go.Value.slice none 0 0) := by kernel_rfl
theorem u30 : Try.prog.underlying 30 = some (Go.TypeDesc.slice 50) := by kernel_rfl
theorem el30 : elemT Try.prog 30 = some 50 := by kernel_rfl
theorem sz30 : szT Try.prog 30 = some 1 := by kernel_rfl
theorem ld30 {b o : Nat} {h : AH} : pLoad Try.prog 30 (.pointer (some ⟨b, o, none⟩)) h = h.cell b o := by kernel_rfl
theorem ze30 : zeroT Try.prog 30 = some (Go.Value.slice none 0 0) := by kernel_rfl
theorem u31 : Try.prog.underlying 31 = some (Go.TypeDesc.slice 23) := by kernel_rfl
theorem el31 : elemT Try.prog 31 = some 23 := by kernel_rfl
theorem bs31 (a : Option Addr) (m c : Nat) (h : AH) : pBuildSlice Try.prog 31 1 #[(0, (.slice a m c))] h = some (.slice (some ⟨h.n, 0, none⟩) 1 1, h.alloc (.cells [(.slice a m c)] 23 true)) := by kernel_rfl
theorem app31 : AppT Try.prog #[31, 31] 23 1 24 := ⟨by kernel_rfl, ⟨23, by kernel_rfl⟩, by kernel_rfl, by omega, by kernel_rfl, ⟨_, (by kernel_rfl : zeroT Try.prog 23 = some (.slice none 0 0)), rfl, rfl⟩⟩
theorem sz31 : szT Try.prog 31 = some 1 := by kernel_rfl
theorem ld31 {b o : Nat} {h : AH} : pLoad Try.prog 31 (.pointer (some ⟨b, o, none⟩)) h = h.cell b o := by kernel_rfl
theorem ze31 : zeroT Try.prog 31 = some (Go.Value.slice none 0 0) := by kernel_rfl
theorem u34 : Try.prog.underlying 34 = some (Go.TypeDesc.int Go.IntKind.i64) := by kernel_rfl
theorem sz34 : szT Try.prog 34 = some 1 := by kernel_rfl
theorem ld34 {b o : Nat} {h : AH} : pLoad Try.prog 34 (.pointer (some ⟨b, o, none⟩)) h = h.cell b o := by kernel_rfl
theorem ze34 : zeroT Try.prog 34 = some (Go.Value.int Go.IntKind.i64 0) := by kernel_rfl
theorem u38 : Try.prog.underlying 38 = some (Go.TypeDesc.slice 58) := by kernel_rfl
theorem el38 : elemT Try.prog 38 = some 58 := by kernel_rfl
theorem sz38 : szT Try.prog 38 = some 1 := by kernel_rfl
theorem ld38 {b o : Nat} {h : AH} : pLoad Try.prog 38 (.pointer (some ⟨b, o, none⟩)) h = h.cell b o := by kernel_rfl
theorem ze38 : zeroT Try.prog 38 = some (Go.Value.slice none 0 0) := by kernel_rfl
theorem sz41 : szT Try.prog 41 = some 3 := by kernel_rfl
theorem ld41 {b o : Nat} {h : AH} : pLoad Try.prog 41 (.pointer (some ⟨b, o, none⟩)) h = (h.row b o 3).map fun cs => .agg cs.toArray := by kernel_rfl
theorem fa41_0 {b o : Nat} : pFieldAddr Try.prog 41 (.pointer (some ⟨b, o, none⟩)) 0 = some (.pointer (some ⟨b, o + 0, none⟩)) := by kernel_rfl
theorem fa41_1 {b o : Nat} : pFieldAddr Try.prog 41 (.pointer (some ⟨b, o, none⟩)) 1 = some (.pointer (some ⟨b, o + 1, none⟩)) := by kernel_rfl
theorem fa41_2 {b o : Nat} : pFieldAddr Try.prog 41 (.pointer (some ⟨b, o, none⟩)) 2 = some (.pointer (some ⟨b, o + 2, none⟩)) := by kernel_rfl
theorem ze41 : zeroT Try.prog 41 = some (Go.Value.agg #[Go.Value.int Go.IntKind.i64 0, Go.Value.int Go.IntKind.i64 0, Go.Value.string ByteArray.empty]) := by kernel_rfl
theorem sz42 : szT Try.prog 42 = some 3 := by kernel_rfl
theorem ld42 {b o : Nat} {h : AH} : pLoad Try.prog 42 (.pointer (some ⟨b, o, none⟩)) h = (h.row b o 3).map fun cs => .agg cs.toArray := by kernel_rfl
theorem fa42_0 {b o : Nat} : pFieldAddr Try.prog 42 (.pointer (some ⟨b, o, none⟩)) 0 = some (.pointer (some ⟨b, o + 0, none⟩)) := by kernel_rfl
theorem fa42_1 {b o : Nat} : pFieldAddr Try.prog 42 (.pointer (some ⟨b, o, none⟩)) 1 = some (.pointer (some ⟨b, o + 1, none⟩)) := by kernel_rfl
theorem fa42_2 {b o : Nat} : pFieldAddr Try.prog 42 (.pointer (some ⟨b, o, none⟩)) 2 = some (.pointer (some ⟨b, o + 2, none⟩)) := by kernel_rfl
theorem ze42 : zeroT Try.prog 42 = some (Go.Value.agg #[Go.Value.int Go.IntKind.i64 0, Go.Value.int Go.IntKind.i64 0, Go.Value.string ByteArray.empty]) := by kernel_rfl
theorem u45 : Try.prog.underlying 45 = some (Go.TypeDesc.slice 22) := by kernel_rfl
theorem el45 : elemT Try.prog 45 = some 22 := by kernel_rfl
theorem bs45 (a : Option Addr) (m c : Nat) (h : AH) : pBuildSlice Try.prog 45 1 #[(0, (.slice a m c))] h = some (.slice (some ⟨h.n, 0, none⟩) 1 1, h.alloc (.cells [(.slice a m c)] 22 true)) := by kernel_rfl
theorem app45 : AppT Try.prog #[45, 45] 22 1 24 := ⟨by kernel_rfl, ⟨22, by kernel_rfl⟩, by kernel_rfl, by omega, by kernel_rfl, ⟨_, (by kernel_rfl : zeroT Try.prog 22 = some (.slice none 0 0)), rfl, rfl⟩⟩
theorem sz45 : szT Try.prog 45 = some 1 := by kernel_rfl
theorem ld45 {b o : Nat} {h : AH} : pLoad Try.prog 45 (.pointer (some ⟨b, o, none⟩)) h = h.cell b o := by kernel_rfl
theorem ze45 : zeroT Try.prog 45 = some (Go.Value.slice none 0 0) := by kernel_rfl
theorem u46 : Try.prog.underlying 46 = some (Go.TypeDesc.slice 3) := by kernel_rfl
theorem el46 : elemT Try.prog 46 = some 3 := by kernel_rfl
theorem bs46 (z : Int) (h : AH) : pBuildSlice Try.prog 46 1 #[(0, (.int .i64 z))] h = some (.slice (some ⟨h.n, 0, none⟩) 1 1, h.alloc (.cells [(.int .i64 z)] 3 true)) := by kernel_rfl
theorem app46 : AppT Try.prog #[46, 46] 3 1 8 := ⟨by kernel_rfl, ⟨3, by kernel_rfl⟩, by kernel_rfl, by omega, by kernel_rfl, ⟨_, (by kernel_rfl : zeroT Try.prog 3 = some (.int .i64 0)), rfl, rfl⟩⟩
theorem sz46 : szT Try.prog 46 = some 1 := by kernel_rfl
theorem ld46 {b o : Nat} {h : AH} : pLoad Try.prog 46 (.pointer (some ⟨b, o, none⟩)) h = h.cell b o := by kernel_rfl
theorem ze46 : zeroT Try.prog 46 = some (Go.Value.slice none 0 0) := by kernel_rfl
theorem sz47 : szT Try.prog 47 = some 6 := by kernel_rfl
theorem ld47 {b o : Nat} {h : AH} : pLoad Try.prog 47 (.pointer (some ⟨b, o, none⟩)) h = (h.row b o 6).map fun cs => .agg cs.toArray := by kernel_rfl
theorem fa47_0 {b o : Nat} : pFieldAddr Try.prog 47 (.pointer (some ⟨b, o, none⟩)) 0 = some (.pointer (some ⟨b, o + 0, none⟩)) := by kernel_rfl
theorem fa47_1 {b o : Nat} : pFieldAddr Try.prog 47 (.pointer (some ⟨b, o, none⟩)) 1 = some (.pointer (some ⟨b, o + 1, none⟩)) := by kernel_rfl
theorem fa47_2 {b o : Nat} : pFieldAddr Try.prog 47 (.pointer (some ⟨b, o, none⟩)) 2 = some (.pointer (some ⟨b, o + 2, none⟩)) := by kernel_rfl
theorem fa47_3 {b o : Nat} : pFieldAddr Try.prog 47 (.pointer (some ⟨b, o, none⟩)) 3 = some (.pointer (some ⟨b, o + 5, none⟩)) := by kernel_rfl
theorem ze47 : zeroT Try.prog 47 = some (Go.Value.agg #[Go.Value.int Go.IntKind.i64 0, Go.Value.int Go.IntKind.i64 0, Go.Value.int Go.IntKind.i64 0, Go.Value.int Go.IntKind.i64 0, Go.Value.string ByteArray.empty, Go.Value.slice none 0 0]) := by kernel_rfl
theorem sz48 : szT Try.prog 48 = some 6 := by kernel_rfl
theorem ld48 {b o : Nat} {h : AH} : pLoad Try.prog 48 (.pointer (some ⟨b, o, none⟩)) h = (h.row b o 6).map fun cs => .agg cs.toArray := by kernel_rfl
theorem fa48_0 {b o : Nat} : pFieldAddr Try.prog 48 (.pointer (some ⟨b, o, none⟩)) 0 = some (.pointer (some ⟨b, o + 0, none⟩)) := by kernel_rfl
theorem fa48_1 {b o : Nat} : pFieldAddr Try.prog 48 (.pointer (some ⟨b, o, none⟩)) 1 = some (.pointer (some ⟨b, o + 1, none⟩)) := by kernel_rfl
theorem fa48_2 {b o : Nat} : pFieldAddr Try.prog 48 (.pointer (some ⟨b, o, none⟩)) 2 = some (.pointer (some ⟨b, o + 2, none⟩)) := by kernel_rfl
theorem fa48_3 {b o : Nat} : pFieldAddr Try.prog 48 (.pointer (some ⟨b, o, none⟩)) 3 = some (.pointer (some ⟨b, o + 5, none⟩)) := by kernel_rfl
theorem ze48 : zeroT Try.prog 48 = some (Go.Value.agg #[Go.Value.int Go.IntKind.i64 0, Go.Value.int Go.IntKind.i64 0, Go.Value.int Go.IntKind.i64 0, Go.Value.int Go.IntKind.i64 0, Go.Value.string ByteArray.empty, Go.Value.slice none 0 0]) := by kernel_rfl
theorem sz49 : szT Try.prog 49 = some 3 := by kernel_rfl
theorem ld49 {b o : Nat} {h : AH} : pLoad Try.prog 49 (.pointer (some ⟨b, o, none⟩)) h = (h.row b o 3).map fun cs => .agg cs.toArray := by kernel_rfl
theorem fa49_0 {b o : Nat} : pFieldAddr Try.prog 49 (.pointer (some ⟨b, o, none⟩)) 0 = some (.pointer (some ⟨b, o + 0, none⟩)) := by kernel_rfl
theorem fa49_1 {b o : Nat} : pFieldAddr Try.prog 49 (.pointer (some ⟨b, o, none⟩)) 1 = some (.pointer (some ⟨b, o + 1, none⟩)) := by kernel_rfl
theorem fa49_2 {b o : Nat} : pFieldAddr Try.prog 49 (.pointer (some ⟨b, o, none⟩)) 2 = some (.pointer (some ⟨b, o + 2, none⟩)) := by kernel_rfl
theorem ze49 : zeroT Try.prog 49 = some (Go.Value.agg #[Go.Value.string ByteArray.empty, Go.Value.int Go.IntKind.i64 0, Go.Value.bool false]) := by kernel_rfl
theorem sz50 : szT Try.prog 50 = some 3 := by kernel_rfl
theorem ld50 {b o : Nat} {h : AH} : pLoad Try.prog 50 (.pointer (some ⟨b, o, none⟩)) h = (h.row b o 3).map fun cs => .agg cs.toArray := by kernel_rfl
theorem fa50_0 {b o : Nat} : pFieldAddr Try.prog 50 (.pointer (some ⟨b, o, none⟩)) 0 = some (.pointer (some ⟨b, o + 0, none⟩)) := by kernel_rfl
theorem fa50_1 {b o : Nat} : pFieldAddr Try.prog 50 (.pointer (some ⟨b, o, none⟩)) 1 = some (.pointer (some ⟨b, o + 1, none⟩)) := by kernel_rfl
theorem fa50_2 {b o : Nat} : pFieldAddr Try.prog 50 (.pointer (some ⟨b, o, none⟩)) 2 = some (.pointer (some ⟨b, o + 2, none⟩)) := by kernel_rfl
theorem ze50 : zeroT Try.prog 50 = some (Go.Value.agg #[Go.Value.string ByteArray.empty, Go.Value.int Go.IntKind.i64 0, Go.Value.bool false]) := by kernel_rfl
theorem sz57 : szT Try.prog 57 = some 8 := by kernel_rfl
theorem ld57 {b o : Nat} {h : AH} : pLoad Try.prog 57 (.pointer (some ⟨b, o, none⟩)) h = (h.row b o 8).map fun cs => .agg cs.toArray := by kernel_rfl
theorem fa57_0 {b o : Nat} : pFieldAddr Try.prog 57 (.pointer (some ⟨b, o, none⟩)) 0 = some (.pointer (some ⟨b, o + 0, none⟩)) := by kernel_rfl
theorem fa57_1 {b o : Nat} : pFieldAddr Try.prog 57 (.pointer (some ⟨b, o, none⟩)) 1 = some (.pointer (some ⟨b, o + 1, none⟩)) := by kernel_rfl
theorem fa57_2 {b o : Nat} : pFieldAddr Try.prog 57 (.pointer (some ⟨b, o, none⟩)) 2 = some (.pointer (some ⟨b, o + 2, none⟩)) := by kernel_rfl
theorem fa57_3 {b o : Nat} : pFieldAddr Try.prog 57 (.pointer (some ⟨b, o, none⟩)) 3 = some (.pointer (some ⟨b, o + 5, none⟩)) := by kernel_rfl
theorem ze57 : zeroT Try.prog 57 = some (Go.Value.agg #[Go.Value.int Go.IntKind.i64 0, Go.Value.int Go.IntKind.i64 0, Go.Value.int Go.IntKind.i64 0, Go.Value.int Go.IntKind.i64 0, Go.Value.string ByteArray.empty, Go.Value.int Go.IntKind.i64 0, Go.Value.int Go.IntKind.i64 0, Go.Value.string ByteArray.empty]) := by kernel_rfl
theorem sz58 : szT Try.prog 58 = some 8 := by kernel_rfl
theorem ld58 {b o : Nat} {h : AH} : pLoad Try.prog 58 (.pointer (some ⟨b, o, none⟩)) h = (h.row b o 8).map fun cs => .agg cs.toArray := by kernel_rfl
theorem fa58_0 {b o : Nat} : pFieldAddr Try.prog 58 (.pointer (some ⟨b, o, none⟩)) 0 = some (.pointer (some ⟨b, o + 0, none⟩)) := by kernel_rfl
theorem fa58_1 {b o : Nat} : pFieldAddr Try.prog 58 (.pointer (some ⟨b, o, none⟩)) 1 = some (.pointer (some ⟨b, o + 1, none⟩)) := by kernel_rfl
theorem fa58_2 {b o : Nat} : pFieldAddr Try.prog 58 (.pointer (some ⟨b, o, none⟩)) 2 = some (.pointer (some ⟨b, o + 2, none⟩)) := by kernel_rfl
theorem fa58_3 {b o : Nat} : pFieldAddr Try.prog 58 (.pointer (some ⟨b, o, none⟩)) 3 = some (.pointer (some ⟨b, o + 5, none⟩)) := by kernel_rfl
theorem ze58 : zeroT Try.prog 58 = some (Go.Value.agg #[Go.Value.int Go.IntKind.i64 0, Go.Value.int Go.IntKind.i64 0, Go.Value.int Go.IntKind.i64 0, Go.Value.int Go.IntKind.i64 0, Go.Value.string ByteArray.empty, Go.Value.int Go.IntKind.i64 0, Go.Value.int Go.IntKind.i64 0, Go.Value.string ByteArray.empty]) := by kernel_rfl
theorem u60 : Try.prog.underlying 60 = some (Go.TypeDesc.slice 4) := by kernel_rfl
theorem el60 : elemT Try.prog 60 = some 4 := by kernel_rfl
theorem bs60 (z : Bool) (h : AH) : pBuildSlice Try.prog 60 1 #[(0, (.bool z))] h = some (.slice (some ⟨h.n, 0, none⟩) 1 1, h.alloc (.cells [(.bool z)] 4 true)) := by kernel_rfl
theorem app60 : AppT Try.prog #[60, 60] 4 1 1 := ⟨by kernel_rfl, ⟨4, by kernel_rfl⟩, by kernel_rfl, by omega, by kernel_rfl, ⟨_, (by kernel_rfl : zeroT Try.prog 4 = some (.bool false)), rfl, rfl⟩⟩
theorem sz60 : szT Try.prog 60 = some 1 := by kernel_rfl
theorem ld60 {b o : Nat} {h : AH} : pLoad Try.prog 60 (.pointer (some ⟨b, o, none⟩)) h = h.cell b o := by kernel_rfl
theorem ze60 : zeroT Try.prog 60 = some (Go.Value.slice none 0 0) := by kernel_rfl
end Go.Proofs.Ytmhgihjmhmihpaa.Sh
