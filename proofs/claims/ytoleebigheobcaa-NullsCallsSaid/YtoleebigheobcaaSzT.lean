/- What the types of the program are, for shallow functions. Printed by a program of the prover's own from the loaded program; Lean checks it. -/
import Derived.Test.YtoleebigheobcaaEvC
import Derived.Test.YtoleebigheobcaaProg
import Derived.KernelRfl
set_option linter.unusedVariables false
set_option maxRecDepth 100000
namespace Go.Proofs.Ytoleebigheobcaa.Sh
open Go Go.RowKit Go.Proofs.Ev
theorem u3 : Try.prog.underlying 3 = some (Go.TypeDesc.int Go.IntKind.i64) := by kernel_rfl
theorem sz3 : szT Try.prog 3 = some 1 := by kernel_rfl
theorem ld3 {b o : Nat} {h : AH} : pLoad Try.prog 3 (.pointer (some ⟨b, o, none⟩)) h = h.cell b o := by kernel_rfl
theorem ze3 : zeroT Try.prog 3 = some (Go.Value.int Go.IntKind.i64 0) := by kernel_rfl
theorem u4 : Try.prog.underlying 4 = some (Go.TypeDesc.bool) := by kernel_rfl
theorem sz4 : szT Try.prog 4 = some 1 := by kernel_rfl
theorem ld4 {b o : Nat} {h : AH} : pLoad Try.prog 4 (.pointer (some ⟨b, o, none⟩)) h = h.cell b o := by kernel_rfl
theorem ze4 : zeroT Try.prog 4 = some (Go.Value.bool false) := by kernel_rfl
theorem u5 : Try.prog.underlying 5 = some (Go.TypeDesc.int Go.IntKind.u8) := by kernel_rfl
theorem sz5 : szT Try.prog 5 = some 1 := by kernel_rfl
theorem ld5 {b o : Nat} {h : AH} : pLoad Try.prog 5 (.pointer (some ⟨b, o, none⟩)) h = h.cell b o := by kernel_rfl
theorem ze5 : zeroT Try.prog 5 = some (Go.Value.int Go.IntKind.u8 0) := by kernel_rfl
theorem u9 : Try.prog.underlying 9 = some (Go.TypeDesc.string) := by kernel_rfl
theorem sz9 : szT Try.prog 9 = some 1 := by kernel_rfl
theorem ld9 {b o : Nat} {h : AH} : pLoad Try.prog 9 (.pointer (some ⟨b, o, none⟩)) h = h.cell b o := by kernel_rfl
theorem ze9 : zeroT Try.prog 9 = some (Go.Value.string ByteArray.empty) := by kernel_rfl
theorem u22 : Try.prog.underlying 22 = some (Go.TypeDesc.slice 4) := by kernel_rfl
theorem el22 : elemT Try.prog 22 = some 4 := by kernel_rfl
theorem bs22 (z : Bool) (h : AH) : pBuildSlice Try.prog 22 1 #[(0, (.bool z))] h = some (.slice (some ⟨h.n, 0, none⟩) 1 1, h.alloc (.cells [(.bool z)] 4 true)) := by kernel_rfl
theorem app22 : AppT Try.prog #[22, 22] 4 1 1 := ⟨by kernel_rfl, ⟨4, by kernel_rfl⟩, by kernel_rfl, by omega, by kernel_rfl, ⟨_, (by kernel_rfl : zeroT Try.prog 4 = some (.bool false)), rfl, rfl⟩⟩
theorem sz22 : szT Try.prog 22 = some 1 := by kernel_rfl
theorem ld22 {b o : Nat} {h : AH} : pLoad Try.prog 22 (.pointer (some ⟨b, o, none⟩)) h = h.cell b o := by kernel_rfl
theorem ze22 : zeroT Try.prog 22 = some (Go.Value.slice none 0 0) := by kernel_rfl
theorem u25 : Try.prog.underlying 25 = some (Go.TypeDesc.slice 3) := by kernel_rfl
theorem el25 : elemT Try.prog 25 = some 3 := by kernel_rfl
theorem bs25 (z : Int) (h : AH) : pBuildSlice Try.prog 25 1 #[(0, (.int .i64 z))] h = some (.slice (some ⟨h.n, 0, none⟩) 1 1, h.alloc (.cells [(.int .i64 z)] 3 true)) := by kernel_rfl
theorem app25 : AppT Try.prog #[25, 25] 3 1 8 := ⟨by kernel_rfl, ⟨3, by kernel_rfl⟩, by kernel_rfl, by omega, by kernel_rfl, ⟨_, (by kernel_rfl : zeroT Try.prog 3 = some (.int .i64 0)), rfl, rfl⟩⟩
theorem sz25 : szT Try.prog 25 = some 1 := by kernel_rfl
theorem ld25 {b o : Nat} {h : AH} : pLoad Try.prog 25 (.pointer (some ⟨b, o, none⟩)) h = h.cell b o := by kernel_rfl
theorem ze25 : zeroT Try.prog 25 = some (Go.Value.slice none 0 0) := by kernel_rfl
theorem u32 : Try.prog.underlying 32 = some (Go.TypeDesc.slice 5) := by kernel_rfl
theorem el32 : elemT Try.prog 32 = some 5 := by kernel_rfl
theorem bs32 (z : Int) (h : AH) : pBuildSlice Try.prog 32 1 #[(0, (.int .u8 z))] h = some (.slice (some ⟨h.n, 0, none⟩) 1 1, h.alloc (.cells [(.int .u8 z)] 5 true)) := by kernel_rfl
theorem app32 : AppT Try.prog #[32, 32] 5 1 1 := ⟨by kernel_rfl, ⟨5, by kernel_rfl⟩, by kernel_rfl, by omega, by kernel_rfl, ⟨_, (by kernel_rfl : zeroT Try.prog 5 = some (.int .u8 0)), rfl, rfl⟩⟩
theorem sz32 : szT Try.prog 32 = some 1 := by kernel_rfl
theorem ld32 {b o : Nat} {h : AH} : pLoad Try.prog 32 (.pointer (some ⟨b, o, none⟩)) h = h.cell b o := by kernel_rfl
theorem ze32 : zeroT Try.prog 32 = some (Go.Value.slice none 0 0) := by kernel_rfl
theorem u33 : Try.prog.underlying 33 = some (Go.TypeDesc.int Go.IntKind.i64) := by kernel_rfl
theorem sz33 : szT Try.prog 33 = some 1 := by kernel_rfl
theorem ld33 {b o : Nat} {h : AH} : pLoad Try.prog 33 (.pointer (some ⟨b, o, none⟩)) h = h.cell b o := by kernel_rfl
theorem ze33 : zeroT Try.prog 33 = some (Go.Value.int Go.IntKind.i64 0) := by kernel_rfl
theorem u43 : Try.prog.underlying 43 = some (Go.TypeDesc.slice 4) := by kernel_rfl
theorem el43 : elemT Try.prog 43 = some 4 := by kernel_rfl
theorem bs43 (z : Bool) (h : AH) : pBuildSlice Try.prog 43 1 #[(0, (.bool z))] h = some (.slice (some ⟨h.n, 0, none⟩) 1 1, h.alloc (.cells [(.bool z)] 4 true)) := by kernel_rfl
theorem app43 : AppT Try.prog #[43, 43] 4 1 1 := ⟨by kernel_rfl, ⟨4, by kernel_rfl⟩, by kernel_rfl, by omega, by kernel_rfl, ⟨_, (by kernel_rfl : zeroT Try.prog 4 = some (.bool false)), rfl, rfl⟩⟩
theorem sz43 : szT Try.prog 43 = some 1 := by kernel_rfl
theorem ld43 {b o : Nat} {h : AH} : pLoad Try.prog 43 (.pointer (some ⟨b, o, none⟩)) h = h.cell b o := by kernel_rfl
theorem ze43 : zeroT Try.prog 43 = some (Go.Value.slice none 0 0) := by kernel_rfl
theorem sz46 : szT Try.prog 46 = some 1 := by kernel_rfl
theorem ld46 {b o : Nat} {h : AH} : pLoad Try.prog 46 (.pointer (some ⟨b, o, none⟩)) h = h.cell b o := by kernel_rfl
theorem ze46 : zeroT Try.prog 46 = some Go.Value.nilFunc := by kernel_rfl
theorem u49 : Try.prog.underlying 49 = some (Go.TypeDesc.int Go.IntKind.u64) := by kernel_rfl
theorem sz49 : szT Try.prog 49 = some 1 := by kernel_rfl
theorem ld49 {b o : Nat} {h : AH} : pLoad Try.prog 49 (.pointer (some ⟨b, o, none⟩)) h = h.cell b o := by kernel_rfl
theorem ze49 : zeroT Try.prog 49 = some (Go.Value.int Go.IntKind.u64 0) := by kernel_rfl
theorem u52 : Try.prog.underlying 52 = some (Go.TypeDesc.slice 49) := by kernel_rfl
theorem el52 : elemT Try.prog 52 = some 49 := by kernel_rfl
theorem bs52 (z : Int) (h : AH) : pBuildSlice Try.prog 52 1 #[(0, (.int .u64 z))] h = some (.slice (some ⟨h.n, 0, none⟩) 1 1, h.alloc (.cells [(.int .u64 z)] 49 true)) := by kernel_rfl
theorem app52 : AppT Try.prog #[52, 52] 49 1 8 := ⟨by kernel_rfl, ⟨49, by kernel_rfl⟩, by kernel_rfl, by omega, by kernel_rfl, ⟨_, (by kernel_rfl : zeroT Try.prog 49 = some (.int .u64 0)), rfl, rfl⟩⟩
theorem sz52 : szT Try.prog 52 = some 1 := by kernel_rfl
theorem ld52 {b o : Nat} {h : AH} : pLoad Try.prog 52 (.pointer (some ⟨b, o, none⟩)) h = h.cell b o := by kernel_rfl
theorem ze52 : zeroT Try.prog 52 = some (Go.Value.slice none 0 0) := by kernel_rfl
theorem sz54 : szT Try.prog 54 = some 1 := by kernel_rfl
theorem ld54 {b o : Nat} {h : AH} : pLoad Try.prog 54 (.pointer (some ⟨b, o, none⟩)) h = h.cell b o := by kernel_rfl
theorem ze54 : zeroT Try.prog 54 = some (Go.Value.pointer none) := by kernel_rfl
theorem u68 : Try.prog.underlying 68 = some (Go.TypeDesc.int Go.IntKind.u64) := by kernel_rfl
theorem sz68 : szT Try.prog 68 = some 1 := by kernel_rfl
theorem ld68 {b o : Nat} {h : AH} : pLoad Try.prog 68 (.pointer (some ⟨b, o, none⟩)) h = h.cell b o := by kernel_rfl
theorem ze68 : zeroT Try.prog 68 = some (Go.Value.int Go.IntKind.u64 0) := by kernel_rfl
theorem sz73 : szT Try.prog 73 = some 1 := by kernel_rfl
theorem ld73 {b o : Nat} {h : AH} : pLoad Try.prog 73 (.pointer (some ⟨b, o, none⟩)) h = (h.row b o 1).map fun cs => .agg cs.toArray := by kernel_rfl
theorem fa73_0 {b o : Nat} : pFieldAddr Try.prog 73 (.pointer (some ⟨b, o, none⟩)) 0 = some (.pointer (some ⟨b, o + 0, none⟩)) := by kernel_rfl
theorem ze73 : zeroT Try.prog 73 = some (Go.Value.agg #[Go.Value.slice none 0 0]) := by kernel_rfl
end Go.Proofs.Ytoleebigheobcaa.Sh
