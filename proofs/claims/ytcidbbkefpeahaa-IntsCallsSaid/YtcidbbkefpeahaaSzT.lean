/- What the types of the program are, for shallow functions. Printed by a program of the prover's own from the loaded program; Lean checks it. -/
import Derived.Test.YtcidbbkefpeahaaEvC
import Derived.Test.YtcidbbkefpeahaaProg
import Derived.KernelRfl
set_option linter.unusedVariables false
set_option maxRecDepth 100000
namespace Go.Proofs.Ytcidbbkefpeahaa.Sh
open Go Go.RowKit Go.Proofs.Ev
theorem u2 : Try.prog.underlying 2 = some (Go.TypeDesc.int Go.IntKind.i64) := by kernel_rfl
theorem sz2 : szT Try.prog 2 = some 1 := by kernel_rfl
theorem ld2 {b o : Nat} {h : AH} : pLoad Try.prog 2 (.pointer (some ⟨b, o, none⟩)) h = h.cell b o := by kernel_rfl
theorem ze2 : zeroT Try.prog 2 = some (Go.Value.int Go.IntKind.i64 0) := by kernel_rfl
theorem u3 : Try.prog.underlying 3 = some (Go.TypeDesc.int Go.IntKind.i64) := by kernel_rfl
theorem sz3 : szT Try.prog 3 = some 1 := by kernel_rfl
theorem ld3 {b o : Nat} {h : AH} : pLoad Try.prog 3 (.pointer (some ⟨b, o, none⟩)) h = h.cell b o := by kernel_rfl
theorem ze3 : zeroT Try.prog 3 = some (Go.Value.int Go.IntKind.i64 0) := by kernel_rfl
theorem u4 : Try.prog.underlying 4 = some (Go.TypeDesc.bool) := by kernel_rfl
theorem sz4 : szT Try.prog 4 = some 1 := by kernel_rfl
theorem ld4 {b o : Nat} {h : AH} : pLoad Try.prog 4 (.pointer (some ⟨b, o, none⟩)) h = h.cell b o := by kernel_rfl
theorem ze4 : zeroT Try.prog 4 = some (Go.Value.bool false) := by kernel_rfl
theorem u5 : Try.prog.underlying 5 = some (Go.TypeDesc.int Go.IntKind.u8) := by kernel_rfl
theorem sz5 : szT Try.prog 5 = some 1 := by kernel_rfl
theorem ld5 {b o : Nat} {h : AH} : pLoad Try.prog 5 (.pointer (some ⟨b, o, none⟩)) h = h.cell b o := by kernel_rfl
theorem ze5 : zeroT Try.prog 5 = some (Go.Value.int Go.IntKind.u8 0) := by kernel_rfl
theorem u9 : Try.prog.underlying 9 = some (Go.TypeDesc.string) := by kernel_rfl
theorem sz9 : szT Try.prog 9 = some 1 := by kernel_rfl
theorem ld9 {b o : Nat} {h : AH} : pLoad Try.prog 9 (.pointer (some ⟨b, o, none⟩)) h = h.cell b o := by kernel_rfl
theorem ze9 : zeroT Try.prog 9 = some (Go.Value.string ByteArray.empty) := by kernel_rfl
theorem u22 : Try.prog.underlying 22 = some (Go.TypeDesc.slice 30) := by kernel_rfl
theorem el22 : elemT Try.prog 22 = some 30 := by kernel_rfl
theorem bs22 (z : Int) (h : AH) : pBuildSlice Try.prog 22 1 #[(0, (.int .u16 z))] h = some (.slice (some ⟨h.n, 0, none⟩) 1 1, h.alloc (.cells [(.int .u16 z)] 30 true)) := by kernel_rfl
theorem app22 : AppT Try.prog #[22, 22] 30 1 2 := ⟨by kernel_rfl, ⟨30, by kernel_rfl⟩, by kernel_rfl, by omega, by kernel_rfl, ⟨_, (by kernel_rfl : zeroT Try.prog 30 = some (.int .u16 0)), rfl, rfl⟩⟩
theorem sz22 : szT Try.prog 22 = some 1 := by kernel_rfl
theorem ld22 {b o : Nat} {h : AH} : pLoad Try.prog 22 (.pointer (some ⟨b, o, none⟩)) h = h.cell b o := by kernel_rfl
theorem ze22 : zeroT Try.prog 22 = some (Go.Value.slice none 0 0) := by kernel_rfl
theorem u25 : Try.prog.underlying 25 = some (Go.TypeDesc.slice 2) := by kernel_rfl
theorem el25 : elemT Try.prog 25 = some 2 := by kernel_rfl
theorem bs25 (z : Int) (h : AH) : pBuildSlice Try.prog 25 1 #[(0, (.int .i64 z))] h = some (.slice (some ⟨h.n, 0, none⟩) 1 1, h.alloc (.cells [(.int .i64 z)] 2 true)) := by kernel_rfl
theorem app25 : AppT Try.prog #[25, 25] 2 1 8 := ⟨by kernel_rfl, ⟨2, by kernel_rfl⟩, by kernel_rfl, by omega, by kernel_rfl, ⟨_, (by kernel_rfl : zeroT Try.prog 2 = some (.int .i64 0)), rfl, rfl⟩⟩
theorem sz25 : szT Try.prog 25 = some 1 := by kernel_rfl
theorem ld25 {b o : Nat} {h : AH} : pLoad Try.prog 25 (.pointer (some ⟨b, o, none⟩)) h = h.cell b o := by kernel_rfl
theorem ze25 : zeroT Try.prog 25 = some (Go.Value.slice none 0 0) := by kernel_rfl
theorem u26 : Try.prog.underlying 26 = some (Go.TypeDesc.slice 5) := by kernel_rfl
theorem el26 : elemT Try.prog 26 = some 5 := by kernel_rfl
theorem bs26 (z : Int) (h : AH) : pBuildSlice Try.prog 26 1 #[(0, (.int .u8 z))] h = some (.slice (some ⟨h.n, 0, none⟩) 1 1, h.alloc (.cells [(.int .u8 z)] 5 true)) := by kernel_rfl
theorem app26 : AppT Try.prog #[26, 26] 5 1 1 := ⟨by kernel_rfl, ⟨5, by kernel_rfl⟩, by kernel_rfl, by omega, by kernel_rfl, ⟨_, (by kernel_rfl : zeroT Try.prog 5 = some (.int .u8 0)), rfl, rfl⟩⟩
theorem sz26 : szT Try.prog 26 = some 1 := by kernel_rfl
theorem ld26 {b o : Nat} {h : AH} : pLoad Try.prog 26 (.pointer (some ⟨b, o, none⟩)) h = h.cell b o := by kernel_rfl
theorem ze26 : zeroT Try.prog 26 = some (Go.Value.slice none 0 0) := by kernel_rfl
theorem u27 : Try.prog.underlying 27 = some (Go.TypeDesc.int Go.IntKind.i64) := by kernel_rfl
theorem sz27 : szT Try.prog 27 = some 1 := by kernel_rfl
theorem ld27 {b o : Nat} {h : AH} : pLoad Try.prog 27 (.pointer (some ⟨b, o, none⟩)) h = h.cell b o := by kernel_rfl
theorem ze27 : zeroT Try.prog 27 = some (Go.Value.int Go.IntKind.i64 0) := by kernel_rfl
theorem sz29 : szT Try.prog 29 = some 1 := by kernel_rfl
theorem ld29 {b o : Nat} {h : AH} : pLoad Try.prog 29 (.pointer (some ⟨b, o, none⟩)) h = h.cell b o := by kernel_rfl
theorem ze29 : zeroT Try.prog 29 = some Go.Value.nilFunc := by kernel_rfl
theorem u30 : Try.prog.underlying 30 = some (Go.TypeDesc.int Go.IntKind.u16) := by kernel_rfl
theorem sz30 : szT Try.prog 30 = some 1 := by kernel_rfl
theorem ld30 {b o : Nat} {h : AH} : pLoad Try.prog 30 (.pointer (some ⟨b, o, none⟩)) h = h.cell b o := by kernel_rfl
theorem ze30 : zeroT Try.prog 30 = some (Go.Value.int Go.IntKind.u16 0) := by kernel_rfl
theorem u41 : Try.prog.underlying 41 = some (Go.TypeDesc.slice 26) := by kernel_rfl
theorem el41 : elemT Try.prog 41 = some 26 := by kernel_rfl
theorem bs41 (a : Option Addr) (m c : Nat) (h : AH) : pBuildSlice Try.prog 41 1 #[(0, (.slice a m c))] h = some (.slice (some ⟨h.n, 0, none⟩) 1 1, h.alloc (.cells [(.slice a m c)] 26 true)) := by kernel_rfl
theorem app41 : AppT Try.prog #[41, 41] 26 1 24 := ⟨by kernel_rfl, ⟨26, by kernel_rfl⟩, by kernel_rfl, by omega, by kernel_rfl, ⟨_, (by kernel_rfl : zeroT Try.prog 26 = some (.slice none 0 0)), rfl, rfl⟩⟩
theorem sz41 : szT Try.prog 41 = some 1 := by kernel_rfl
theorem ld41 {b o : Nat} {h : AH} : pLoad Try.prog 41 (.pointer (some ⟨b, o, none⟩)) h = h.cell b o := by kernel_rfl
theorem ze41 : zeroT Try.prog 41 = some (Go.Value.slice none 0 0) := by kernel_rfl
theorem u42 : Try.prog.underlying 42 = some (Go.TypeDesc.slice 46) := by kernel_rfl
theorem el42 : elemT Try.prog 42 = some 46 := by kernel_rfl
theorem sz42 : szT Try.prog 42 = some 1 := by kernel_rfl
theorem ld42 {b o : Nat} {h : AH} : pLoad Try.prog 42 (.pointer (some ⟨b, o, none⟩)) h = h.cell b o := by kernel_rfl
theorem ze42 : zeroT Try.prog 42 = some (Go.Value.slice none 0 0) := by kernel_rfl
theorem sz44 : szT Try.prog 44 = some 1 := by kernel_rfl
theorem ld44 {b o : Nat} {h : AH} : pLoad Try.prog 44 (.pointer (some ⟨b, o, none⟩)) h = h.cell b o := by kernel_rfl
theorem ze44 : zeroT Try.prog 44 = some Go.Value.nilFunc := by kernel_rfl
theorem sz46 : szT Try.prog 46 = some 3 := by kernel_rfl
theorem ld46 {b o : Nat} {h : AH} : pLoad Try.prog 46 (.pointer (some ⟨b, o, none⟩)) h = (h.row b o 3).map fun cs => .agg cs.toArray := by kernel_rfl
theorem fa46_0 {b o : Nat} : pFieldAddr Try.prog 46 (.pointer (some ⟨b, o, none⟩)) 0 = some (.pointer (some ⟨b, o + 0, none⟩)) := by kernel_rfl
theorem fa46_1 {b o : Nat} : pFieldAddr Try.prog 46 (.pointer (some ⟨b, o, none⟩)) 1 = some (.pointer (some ⟨b, o + 1, none⟩)) := by kernel_rfl
theorem fa46_2 {b o : Nat} : pFieldAddr Try.prog 46 (.pointer (some ⟨b, o, none⟩)) 2 = some (.pointer (some ⟨b, o + 2, none⟩)) := by kernel_rfl
theorem ze46 : zeroT Try.prog 46 = some (Go.Value.agg #[Go.Value.int Go.IntKind.u8 0, Go.Value.nilFunc, Go.Value.nilFunc]) := by kernel_rfl
theorem u50 : Try.prog.underlying 50 = some (Go.TypeDesc.slice 51) := by kernel_rfl
theorem el50 : elemT Try.prog 50 = some 51 := by kernel_rfl
theorem bs50 (z : Int) (h : AH) : pBuildSlice Try.prog 50 1 #[(0, (.int .u64 z))] h = some (.slice (some ⟨h.n, 0, none⟩) 1 1, h.alloc (.cells [(.int .u64 z)] 51 true)) := by kernel_rfl
theorem app50 : AppT Try.prog #[50, 50] 51 1 8 := ⟨by kernel_rfl, ⟨51, by kernel_rfl⟩, by kernel_rfl, by omega, by kernel_rfl, ⟨_, (by kernel_rfl : zeroT Try.prog 51 = some (.int .u64 0)), rfl, rfl⟩⟩
theorem sz50 : szT Try.prog 50 = some 1 := by kernel_rfl
theorem ld50 {b o : Nat} {h : AH} : pLoad Try.prog 50 (.pointer (some ⟨b, o, none⟩)) h = h.cell b o := by kernel_rfl
theorem ze50 : zeroT Try.prog 50 = some (Go.Value.slice none 0 0) := by kernel_rfl
theorem u51 : Try.prog.underlying 51 = some (Go.TypeDesc.int Go.IntKind.u64) := by kernel_rfl
theorem sz51 : szT Try.prog 51 = some 1 := by kernel_rfl
theorem ld51 {b o : Nat} {h : AH} : pLoad Try.prog 51 (.pointer (some ⟨b, o, none⟩)) h = h.cell b o := by kernel_rfl
theorem ze51 : zeroT Try.prog 51 = some (Go.Value.int Go.IntKind.u64 0) := by kernel_rfl
theorem u76 : Try.prog.underlying 76 = some (Go.TypeDesc.int Go.IntKind.u64) := by kernel_rfl
theorem sz76 : szT Try.prog 76 = some 1 := by kernel_rfl
theorem ld76 {b o : Nat} {h : AH} : pLoad Try.prog 76 (.pointer (some ⟨b, o, none⟩)) h = h.cell b o := by kernel_rfl
theorem ze76 : zeroT Try.prog 76 = some (Go.Value.int Go.IntKind.u64 0) := by kernel_rfl
theorem sz79 : szT Try.prog 79 = some 1 := by kernel_rfl
theorem ld79 {b o : Nat} {h : AH} : pLoad Try.prog 79 (.pointer (some ⟨b, o, none⟩)) h = (h.row b o 1).map fun cs => .agg cs.toArray := by kernel_rfl
theorem fa79_0 {b o : Nat} : pFieldAddr Try.prog 79 (.pointer (some ⟨b, o, none⟩)) 0 = some (.pointer (some ⟨b, o + 0, none⟩)) := by kernel_rfl
theorem ze79 : zeroT Try.prog 79 = some (Go.Value.agg #[Go.Value.slice none 0 0]) := by kernel_rfl
end Go.Proofs.Ytcidbbkefpeahaa.Sh
