/- What the types of the program are, for shallow functions. Printed by a program of the prover's own from the loaded program; Lean checks it. -/
import Derived.Test.YtjmfokglckaneaaEvC
import Derived.Test.YtjmfokglckaneaaProg
import Derived.KernelRfl
set_option linter.unusedVariables false
set_option maxRecDepth 100000
namespace Go.Proofs.Ytjmfokglckaneaa.Sh
open Go Go.RowKit Go.Proofs.Ev
theorem u2 : Try.prog.underlying 2 = some (Go.TypeDesc.int Go.IntKind.i64) := by kernel_rfl
theorem sz2 : szT Try.prog 2 = some 1 := by kernel_rfl
theorem ld2 {b o : Nat} {h : AH} : pLoad Try.prog 2 (.pointer (some ⟨b, o, none⟩)) h = h.cell b o := by kernel_rfl
theorem ze2 : zeroT Try.prog 2 = some (Go.Value.int Go.IntKind.i64 0) := by kernel_rfl
theorem u3 : Try.prog.underlying 3 = some (Go.TypeDesc.int Go.IntKind.i64) := by kernel_rfl
theorem sz3 : szT Try.prog 3 = some 1 := by kernel_rfl
theorem ld3 {b o : Nat} {h : AH} : pLoad Try.prog 3 (.pointer (some ⟨b, o, none⟩)) h = h.cell b o := by kernel_rfl
theorem ze3 : zeroT Try.prog 3 = some (Go.Value.int Go.IntKind.i64 0) := by kernel_rfl
theorem u4 : Try.prog.underlying 4 = some (Go.TypeDesc.bool) := by kernel_rfl
theorem sz4 : szT Try.prog 4 = some 1 := by kernel_rfl
theorem ld4 {b o : Nat} {h : AH} : pLoad Try.prog 4 (.pointer (some ⟨b, o, none⟩)) h = h.cell b o := by kernel_rfl
theorem ze4 : zeroT Try.prog 4 = some (Go.Value.bool false) := by kernel_rfl
theorem u5 : Try.prog.underlying 5 = some (Go.TypeDesc.int Go.IntKind.u8) := by kernel_rfl
theorem sz5 : szT Try.prog 5 = some 1 := by kernel_rfl
theorem ld5 {b o : Nat} {h : AH} : pLoad Try.prog 5 (.pointer (some ⟨b, o, none⟩)) h = h.cell b o := by kernel_rfl
theorem ze5 : zeroT Try.prog 5 = some (Go.Value.int Go.IntKind.u8 0) := by kernel_rfl
theorem u9 : Try.prog.underlying 9 = some (Go.TypeDesc.string) := by kernel_rfl
theorem sz9 : szT Try.prog 9 = some 1 := by kernel_rfl
theorem ld9 {b o : Nat} {h : AH} : pLoad Try.prog 9 (.pointer (some ⟨b, o, none⟩)) h = h.cell b o := by kernel_rfl
theorem ze9 : zeroT Try.prog 9 = some (Go.Value.string ByteArray.empty) := by kernel_rfl
theorem u21 : Try.prog.underlying 21 = some (Go.TypeDesc.int Go.IntKind.i32) := by kernel_rfl
theorem sz21 : szT Try.prog 21 = some 1 := by kernel_rfl
theorem ld21 {b o : Nat} {h : AH} : pLoad Try.prog 21 (.pointer (some ⟨b, o, none⟩)) h = h.cell b o := by kernel_rfl
theorem ze21 : zeroT Try.prog 21 = some (Go.Value.int Go.IntKind.i32 0) := by kernel_rfl
theorem u22 : Try.prog.underlying 22 = some (Go.TypeDesc.slice 80) := by kernel_rfl
theorem el22 : elemT Try.prog 22 = some 80 := by kernel_rfl
theorem sz22 : szT Try.prog 22 = some 1 := by kernel_rfl
theorem ld22 {b o : Nat} {h : AH} : pLoad Try.prog 22 (.pointer (some ⟨b, o, none⟩)) h = h.cell b o := by kernel_rfl
theorem ze22 : zeroT Try.prog 22 = some (Go.Value.slice none 0 0) := by kernel_rfl
theorem u23 : Try.prog.underlying 23 = some (Go.TypeDesc.slice 37) := by kernel_rfl
theorem el23 : elemT Try.prog 23 = some 37 := by kernel_rfl
theorem bs23 (a : Option Addr) (m c : Nat) (h : AH) : pBuildSlice Try.prog 23 1 #[(0, (.slice a m c))] h = some (.slice (some ⟨h.n, 0, none⟩) 1 1, h.alloc (.cells [(.slice a m c)] 37 true)) := by kernel_rfl
theorem app23 : AppT Try.prog #[23, 23] 37 1 24 := ⟨by kernel_rfl, ⟨37, by kernel_rfl⟩, by kernel_rfl, by omega, by kernel_rfl, ⟨_, (by kernel_rfl : zeroT Try.prog 37 = some (.slice none 0 0)), rfl, rfl⟩⟩
theorem sz23 : szT Try.prog 23 = some 1 := by kernel_rfl
theorem ld23 {b o : Nat} {h : AH} : pLoad Try.prog 23 (.pointer (some ⟨b, o, none⟩)) h = h.cell b o := by kernel_rfl
theorem ze23 : zeroT Try.prog 23 = some (Go.Value.slice none 0 0) := by kernel_rfl
theorem u24 : Try.prog.underlying 24 = some (Go.TypeDesc.slice 39) := by kernel_rfl
theorem el24 : elemT Try.prog 24 = some 39 := by kernel_rfl
theorem sz24 : szT Try.prog 24 = some 1 := by kernel_rfl
theorem ld24 {b o : Nat} {h : AH} : pLoad Try.prog 24 (.pointer (some ⟨b, o, none⟩)) h = h.cell b o := by kernel_rfl
theorem ze24 : zeroT Try.prog 24 = some (Go.Value.slice none 0 0) := by kernel_rfl
theorem u27 : Try.prog.underlying 27 = some (Go.TypeDesc.int Go.IntKind.i64) := by kernel_rfl
theorem sz27 : szT Try.prog 27 = some 1 := by kernel_rfl
theorem ld27 {b o : Nat} {h : AH} : pLoad Try.prog 27 (.pointer (some ⟨b, o, none⟩)) h = h.cell b o := by kernel_rfl
theorem ze27 : zeroT Try.prog 27 = some (Go.Value.int Go.IntKind.i64 0) := by kernel_rfl
theorem u35 : Try.prog.underlying 35 = some (Go.TypeDesc.slice 59) := by kernel_rfl
theorem el35 : elemT Try.prog 35 = some 59 := by kernel_rfl
theorem sz35 : szT Try.prog 35 = some 1 := by kernel_rfl
theorem ld35 {b o : Nat} {h : AH} : pLoad Try.prog 35 (.pointer (some ⟨b, o, none⟩)) h = h.cell b o := by kernel_rfl
theorem ze35 : zeroT Try.prog 35 = some (Go.Value.slice none 0 0) := by kernel_rfl
theorem u36 : Try.prog.underlying 36 = some (Go.TypeDesc.slice 3) := by kernel_rfl
theorem el36 : elemT Try.prog 36 = some 3 := by kernel_rfl
theorem bs36 (z : Int) (h : AH) : pBuildSlice Try.prog 36 1 #[(0, (.int .i64 z))] h = some (.slice (some ⟨h.n, 0, none⟩) 1 1, h.alloc (.cells [(.int .i64 z)] 3 true)) := by kernel_rfl
theorem app36 : AppT Try.prog #[36, 36] 3 1 8 := ⟨by kernel_rfl, ⟨3, by kernel_rfl⟩, by kernel_rfl, by omega, by kernel_rfl, ⟨_, (by kernel_rfl : zeroT Try.prog 3 = some (.int .i64 0)), rfl, rfl⟩⟩
theorem sz36 : szT Try.prog 36 = some 1 := by kernel_rfl
theorem ld36 {b o : Nat} {h : AH} : pLoad Try.prog 36 (.pointer (some ⟨b, o, none⟩)) h = h.cell b o := by kernel_rfl
theorem ze36 : zeroT Try.prog 36 = some (Go.Value.slice none 0 0) := by kernel_rfl
theorem u37 : Try.prog.underlying 37 = some (Go.TypeDesc.slice 45) := by kernel_rfl
theorem el37 : elemT Try.prog 37 = some 45 := by kernel_rfl
theorem sz37 : szT Try.prog 37 = some 1 := by kernel_rfl
theorem ld37 {b o : Nat} {h : AH} : pLoad Try.prog 37 (.pointer (some ⟨b, o, none⟩)) h = h.cell b o := by kernel_rfl
theorem ze37 : zeroT Try.prog 37 = some (Go.Value.slice none 0 0) := by kernel_rfl
theorem sz38 : szT Try.prog 38 = some 5 := by kernel_rfl
theorem ld38 {b o : Nat} {h : AH} : pLoad Try.prog 38 (.pointer (some ⟨b, o, none⟩)) h = (h.row b o 5).map fun cs => .agg cs.toArray := by kernel_rfl
theorem fa38_0 {b o : Nat} : pFieldAddr Try.prog 38 (.pointer (some ⟨b, o, none⟩)) 0 = some (.pointer (some ⟨b, o + 0, none⟩)) := by kernel_rfl
theorem fa38_1 {b o : Nat} : pFieldAddr Try.prog 38 (.pointer (some ⟨b, o, none⟩)) 1 = some (.pointer (some ⟨b, o + 1, none⟩)) := by kernel_rfl
theorem fa38_2 {b o : Nat} : pFieldAddr Try.prog 38 (.pointer (some ⟨b, o, none⟩)) 2 = some (.pointer (some ⟨b, o + 2, none⟩)) := by kernel_rfl
theorem fa38_3 {b o : Nat} : pFieldAddr Try.prog 38 (.pointer (some ⟨b, o, none⟩)) 3 = some (.pointer (some ⟨b, o + 3, none⟩)) := by kernel_rfl
theorem fa38_4 {b o : Nat} : pFieldAddr Try.prog 38 (.pointer (some ⟨b, o, none⟩)) 4 = some (.pointer (some ⟨b, o + 4, none⟩)) := by kernel_rfl
theorem ze38 : zeroT Try.prog 38 = some (Go.Value.agg #[Go.Value.int Go.IntKind.i64 0, Go.Value.slice none 0 0, Go.Value.slice none 0 0, Go.Value.slice none 0 0, Go.Value.slice none 0 0]) := by kernel_rfl
theorem sz39 : szT Try.prog 39 = some 5 := by kernel_rfl
theorem ld39 {b o : Nat} {h : AH} : pLoad Try.prog 39 (.pointer (some ⟨b, o, none⟩)) h = (h.row b o 5).map fun cs => .agg cs.toArray := by kernel_rfl
theorem fa39_0 {b o : Nat} : pFieldAddr Try.prog 39 (.pointer (some ⟨b, o, none⟩)) 0 = some (.pointer (some ⟨b, o + 0, none⟩)) := by kernel_rfl
theorem fa39_1 {b o : Nat} : pFieldAddr Try.prog 39 (.pointer (some ⟨b, o, none⟩)) 1 = some (.pointer (some ⟨b, o + 1, none⟩)) := by kernel_rfl
theorem fa39_2 {b o : Nat} : pFieldAddr Try.prog 39 (.pointer (some ⟨b, o, none⟩)) 2 = some (.pointer (some ⟨b, o + 2, none⟩)) := by kernel_rfl
theorem fa39_3 {b o : Nat} : pFieldAddr Try.prog 39 (.pointer (some ⟨b, o, none⟩)) 3 = some (.pointer (some ⟨b, o + 3, none⟩)) := by kernel_rfl
theorem fa39_4 {b o : Nat} : pFieldAddr Try.prog 39 (.pointer (some ⟨b, o, none⟩)) 4 = some (.pointer (some ⟨b, o + 4, none⟩)) := by kernel_rfl
theorem ze39 : zeroT Try.prog 39 = some (Go.Value.agg #[Go.Value.int Go.IntKind.i64 0, Go.Value.slice none 0 0, Go.Value.slice none 0 0, Go.Value.slice none 0 0, Go.Value.slice none 0 0]) := by kernel_rfl
theorem sz44 : szT Try.prog 44 = some 3 := by kernel_rfl
theorem ld44 {b o : Nat} {h : AH} : pLoad Try.prog 44 (.pointer (some ⟨b, o, none⟩)) h = (h.row b o 3).map fun cs => .agg cs.toArray := by kernel_rfl
theorem fa44_0 {b o : Nat} : pFieldAddr Try.prog 44 (.pointer (some ⟨b, o, none⟩)) 0 = some (.pointer (some ⟨b, o + 0, none⟩)) := by kernel_rfl
theorem fa44_1 {b o : Nat} : pFieldAddr Try.prog 44 (.pointer (some ⟨b, o, none⟩)) 1 = some (.pointer (some ⟨b, o + 1, none⟩)) := by kernel_rfl
theorem fa44_2 {b o : Nat} : pFieldAddr Try.prog 44 (.pointer (some ⟨b, o, none⟩)) 2 = some (.pointer (some ⟨b, o + 2, none⟩)) := by kernel_rfl
theorem ze44 : zeroT Try.prog 44 = some (Go.Value.agg #[Go.Value.int Go.IntKind.i64 0, Go.Value.int Go.IntKind.i64 0, Go.Value.string ByteArray.empty]) := by kernel_rfl
theorem sz45 : szT Try.prog 45 = some 3 := by kernel_rfl
theorem ld45 {b o : Nat} {h : AH} : pLoad Try.prog 45 (.pointer (some ⟨b, o, none⟩)) h = (h.row b o 3).map fun cs => .agg cs.toArray := by kernel_rfl
theorem fa45_0 {b o : Nat} : pFieldAddr Try.prog 45 (.pointer (some ⟨b, o, none⟩)) 0 = some (.pointer (some ⟨b, o + 0, none⟩)) := by kernel_rfl
theorem fa45_1 {b o : Nat} : pFieldAddr Try.prog 45 (.pointer (some ⟨b, o, none⟩)) 1 = some (.pointer (some ⟨b, o + 1, none⟩)) := by kernel_rfl
theorem fa45_2 {b o : Nat} : pFieldAddr Try.prog 45 (.pointer (some ⟨b, o, none⟩)) 2 = some (.pointer (some ⟨b, o + 2, none⟩)) := by kernel_rfl
theorem ze45 : zeroT Try.prog 45 = some (Go.Value.agg #[Go.Value.int Go.IntKind.i64 0, Go.Value.int Go.IntKind.i64 0, Go.Value.string ByteArray.empty]) := by kernel_rfl
theorem u49 : Try.prog.underlying 49 = some (Go.TypeDesc.slice 35) := by kernel_rfl
theorem el49 : elemT Try.prog 49 = some 35 := by kernel_rfl
theorem bs49 (a : Option Addr) (m c : Nat) (h : AH) : pBuildSlice Try.prog 49 1 #[(0, (.slice a m c))] h = some (.slice (some ⟨h.n, 0, none⟩) 1 1, h.alloc (.cells [(.slice a m c)] 35 true)) := by kernel_rfl
theorem app49 : AppT Try.prog #[49, 49] 35 1 24 := ⟨by kernel_rfl, ⟨35, by kernel_rfl⟩, by kernel_rfl, by omega, by kernel_rfl, ⟨_, (by kernel_rfl : zeroT Try.prog 35 = some (.slice none 0 0)), rfl, rfl⟩⟩
theorem sz49 : szT Try.prog 49 = some 1 := by kernel_rfl
theorem ld49 {b o : Nat} {h : AH} : pLoad Try.prog 49 (.pointer (some ⟨b, o, none⟩)) h = h.cell b o := by kernel_rfl
theorem ze49 : zeroT Try.prog 49 = some (Go.Value.slice none 0 0) := by kernel_rfl
theorem sz58 : szT Try.prog 58 = some 6 := by kernel_rfl
theorem ld58 {b o : Nat} {h : AH} : pLoad Try.prog 58 (.pointer (some ⟨b, o, none⟩)) h = (h.row b o 6).map fun cs => .agg cs.toArray := by kernel_rfl
theorem fa58_0 {b o : Nat} : pFieldAddr Try.prog 58 (.pointer (some ⟨b, o, none⟩)) 0 = some (.pointer (some ⟨b, o + 0, none⟩)) := by kernel_rfl
theorem fa58_1 {b o : Nat} : pFieldAddr Try.prog 58 (.pointer (some ⟨b, o, none⟩)) 1 = some (.pointer (some ⟨b, o + 1, none⟩)) := by kernel_rfl
theorem fa58_2 {b o : Nat} : pFieldAddr Try.prog 58 (.pointer (some ⟨b, o, none⟩)) 2 = some (.pointer (some ⟨b, o + 2, none⟩)) := by kernel_rfl
theorem fa58_3 {b o : Nat} : pFieldAddr Try.prog 58 (.pointer (some ⟨b, o, none⟩)) 3 = some (.pointer (some ⟨b, o + 5, none⟩)) := by kernel_rfl
theorem ze58 : zeroT Try.prog 58 = some (Go.Value.agg #[Go.Value.int Go.IntKind.i64 0, Go.Value.int Go.IntKind.i64 0, Go.Value.int Go.IntKind.i64 0, Go.Value.int Go.IntKind.i64 0, Go.Value.string ByteArray.empty, Go.Value.slice none 0 0]) := by kernel_rfl
theorem sz59 : szT Try.prog 59 = some 6 := by kernel_rfl
theorem ld59 {b o : Nat} {h : AH} : pLoad Try.prog 59 (.pointer (some ⟨b, o, none⟩)) h = (h.row b o 6).map fun cs => .agg cs.toArray := by kernel_rfl
theorem fa59_0 {b o : Nat} : pFieldAddr Try.prog 59 (.pointer (some ⟨b, o, none⟩)) 0 = some (.pointer (some ⟨b, o + 0, none⟩)) := by kernel_rfl
theorem fa59_1 {b o : Nat} : pFieldAddr Try.prog 59 (.pointer (some ⟨b, o, none⟩)) 1 = some (.pointer (some ⟨b, o + 1, none⟩)) := by kernel_rfl
theorem fa59_2 {b o : Nat} : pFieldAddr Try.prog 59 (.pointer (some ⟨b, o, none⟩)) 2 = some (.pointer (some ⟨b, o + 2, none⟩)) := by kernel_rfl
theorem fa59_3 {b o : Nat} : pFieldAddr Try.prog 59 (.pointer (some ⟨b, o, none⟩)) 3 = some (.pointer (some ⟨b, o + 5, none⟩)) := by kernel_rfl
theorem ze59 : zeroT Try.prog 59 = some (Go.Value.agg #[Go.Value.int Go.IntKind.i64 0, Go.Value.int Go.IntKind.i64 0, Go.Value.int Go.IntKind.i64 0, Go.Value.int Go.IntKind.i64 0, Go.Value.string ByteArray.empty, Go.Value.slice none 0 0]) := by kernel_rfl
theorem u71 : Try.prog.underlying 71 = some (Go.TypeDesc.slice 4) := by kernel_rfl
theorem el71 : elemT Try.prog 71 = some 4 := by kernel_rfl
theorem bs71 (z : Bool) (h : AH) : pBuildSlice Try.prog 71 1 #[(0, (.bool z))] h = some (.slice (some ⟨h.n, 0, none⟩) 1 1, h.alloc (.cells [(.bool z)] 4 true)) := by kernel_rfl
theorem app71 : AppT Try.prog #[71, 71] 4 1 1 := ⟨by kernel_rfl, ⟨4, by kernel_rfl⟩, by kernel_rfl, by omega, by kernel_rfl, ⟨_, (by kernel_rfl : zeroT Try.prog 4 = some (.bool false)), rfl, rfl⟩⟩
theorem sz71 : szT Try.prog 71 = some 1 := by kernel_rfl
theorem ld71 {b o : Nat} {h : AH} : pLoad Try.prog 71 (.pointer (some ⟨b, o, none⟩)) h = h.cell b o := by kernel_rfl
theorem ze71 : zeroT Try.prog 71 = some (Go.Value.slice none 0 0) := by kernel_rfl
theorem sz79 : szT Try.prog 79 = some 3 := by kernel_rfl
theorem ld79 {b o : Nat} {h : AH} : pLoad Try.prog 79 (.pointer (some ⟨b, o, none⟩)) h = (h.row b o 3).map fun cs => .agg cs.toArray := by kernel_rfl
theorem fa79_0 {b o : Nat} : pFieldAddr Try.prog 79 (.pointer (some ⟨b, o, none⟩)) 0 = some (.pointer (some ⟨b, o + 0, none⟩)) := by kernel_rfl
theorem fa79_1 {b o : Nat} : pFieldAddr Try.prog 79 (.pointer (some ⟨b, o, none⟩)) 1 = some (.pointer (some ⟨b, o + 1, none⟩)) := by kernel_rfl
theorem fa79_2 {b o : Nat} : pFieldAddr Try.prog 79 (.pointer (some ⟨b, o, none⟩)) 2 = some (.pointer (some ⟨b, o + 2, none⟩)) := by kernel_rfl
theorem ze79 : zeroT Try.prog 79 = some (Go.Value.agg #[Go.Value.string ByteArray.empty, Go.Value.int Go.IntKind.i64 0, Go.Value.bool false]) := by kernel_rfl
theorem sz80 : szT Try.prog 80 = some 3 := by kernel_rfl
theorem ld80 {b o : Nat} {h : AH} : pLoad Try.prog 80 (.pointer (some ⟨b, o, none⟩)) h = (h.row b o 3).map fun cs => .agg cs.toArray := by kernel_rfl
theorem fa80_0 {b o : Nat} : pFieldAddr Try.prog 80 (.pointer (some ⟨b, o, none⟩)) 0 = some (.pointer (some ⟨b, o + 0, none⟩)) := by kernel_rfl
theorem fa80_1 {b o : Nat} : pFieldAddr Try.prog 80 (.pointer (some ⟨b, o, none⟩)) 1 = some (.pointer (some ⟨b, o + 1, none⟩)) := by kernel_rfl
theorem fa80_2 {b o : Nat} : pFieldAddr Try.prog 80 (.pointer (some ⟨b, o, none⟩)) 2 = some (.pointer (some ⟨b, o + 2, none⟩)) := by kernel_rfl
theorem ze80 : zeroT Try.prog 80 = some (Go.Value.agg #[Go.Value.string ByteArray.empty, Go.Value.int Go.IntKind.i64 0, Go.Value.bool false]) := by kernel_rfl
end Go.Proofs.Ytjmfokglckaneaa.Sh
