/- What the types of the program are, for shallow functions. Printed by a program of the prover's own from the loaded program; Lean checks it. -/
import Derived.Test.YtgklcfnjahomjaaEvC
import Derived.Test.YtgklcfnjahomjaaProg
import Derived.KernelRfl
set_option linter.unusedVariables false
set_option maxRecDepth 100000
namespace Go.Proofs.Ytgklcfnjahomjaa.Sh
open Go Go.RowKit Go.Proofs.Ev
theorem u2 : Try.prog.underlying 2 = some (Go.TypeDesc.int Go.IntKind.i64):=by kernel_rfl
theorem sz2 : szT Try.prog 2 = some 1:=by kernel_rfl
theorem ld2 {b o : Nat} {h : AH} : pLoad Try.prog 2 (.pointer (some ⟨b,o,none⟩)) h = h.cell b o:=by kernel_rfl
theorem ze2 : zeroT Try.prog 2 = some (Go.Value.int Go.IntKind.i64 0):=by kernel_rfl
theorem u3 : Try.prog.underlying 3 = some (Go.TypeDesc.int Go.IntKind.i64):=by kernel_rfl
theorem sz3 : szT Try.prog 3 = some 1:=by kernel_rfl
theorem ld3 {b o : Nat} {h : AH} : pLoad Try.prog 3 (.pointer (some ⟨b,o,none⟩)) h = h.cell b o:=by kernel_rfl
theorem ze3 : zeroT Try.prog 3 = some (Go.Value.int Go.IntKind.i64 0):=by kernel_rfl
theorem u4 : Try.prog.underlying 4 = some (Go.TypeDesc.bool):=by kernel_rfl
theorem sz4 : szT Try.prog 4 = some 1:=by kernel_rfl
theorem ld4 {b o : Nat} {h : AH} : pLoad Try.prog 4 (.pointer (some ⟨b,o,none⟩)) h = h.cell b o:=by kernel_rfl
theorem ze4 : zeroT Try.prog 4 = some (Go.Value.bool false):=by kernel_rfl
theorem u5 : Try.prog.underlying 5 = some (Go.TypeDesc.int Go.IntKind.u8):=by kernel_rfl
theorem sz5 : szT Try.prog 5 = some 1:=by kernel_rfl
theorem ld5 {b o : Nat} {h : AH} : pLoad Try.prog 5 (.pointer (some ⟨b,o,none⟩)) h = h.cell b o:=by kernel_rfl
theorem ze5 : zeroT Try.prog 5 = some (Go.Value.int Go.IntKind.u8 0):=by kernel_rfl
theorem u9 : Try.prog.underlying 9 = some (Go.TypeDesc.string):=by kernel_rfl
theorem sz9 : szT Try.prog 9 = some 1:=by kernel_rfl
theorem ld9 {b o : Nat} {h : AH} : pLoad Try.prog 9 (.pointer (some ⟨b,o,none⟩)) h = h.cell b o:=by kernel_rfl
theorem ze9 : zeroT Try.prog 9 = some (Go.Value.string ByteArray.empty):=by kernel_rfl
theorem u22 : Try.prog.underlying 22 = some (Go.TypeDesc.slice 42):=by kernel_rfl
theorem el22 : elemT Try.prog 22 = some 42:=by kernel_rfl
theorem sz22 : szT Try.prog 22 = some 1:=by kernel_rfl
theorem ld22 {b o : Nat} {h : AH} : pLoad Try.prog 22 (.pointer (some ⟨b,o,none⟩)) h = h.cell b o:=by kernel_rfl
theorem ze22 : zeroT Try.prog 22 = some (Go.Value.slice none 0 0):=by kernel_rfl
theorem u23 : Try.prog.underlying 23 = some (Go.TypeDesc.slice 34):=by kernel_rfl
theorem el23 : elemT Try.prog 23 = some 34:=by kernel_rfl
theorem bs23 (a : Option Addr) (m c : Nat) (h : AH) : pBuildSlice Try.prog 23 1 #[(0,(.slice a m c))] h = some (.slice (some ⟨h.n,0,none⟩) 1 1,h.alloc (.cells [(.slice a m c)] 34 true)):=by kernel_rfl
theorem app23 : AppT Try.prog #[23,23] 34 1 24:=⟨by kernel_rfl,⟨34,by kernel_rfl⟩,by kernel_rfl,by omega,by kernel_rfl,⟨_,(by kernel_rfl : zeroT Try.prog 34 = some (.slice none 0 0)),rfl,rfl⟩⟩
theorem sz23 : szT Try.prog 23 = some 1:=by kernel_rfl
theorem ld23 {b o : Nat} {h : AH} : pLoad Try.prog 23 (.pointer (some ⟨b,o,none⟩)) h = h.cell b o:=by kernel_rfl
theorem ze23 : zeroT Try.prog 23 = some (Go.Value.slice none 0 0):=by kernel_rfl
theorem u24 : Try.prog.underlying 24 = some (Go.TypeDesc.slice 3):=by kernel_rfl
theorem el24 : elemT Try.prog 24 = some 3:=by kernel_rfl
theorem bs24 (z : Int) (h : AH) : pBuildSlice Try.prog 24 1 #[(0,(.int .i64 z))] h = some (.slice (some ⟨h.n,0,none⟩) 1 1,h.alloc (.cells [(.int .i64 z)] 3 true)):=by kernel_rfl
theorem app24 : AppT Try.prog #[24,24] 3 1 8:=⟨by kernel_rfl,⟨3,by kernel_rfl⟩,by kernel_rfl,by omega,by kernel_rfl,⟨_,(by kernel_rfl : zeroT Try.prog 3 = some (.int .i64 0)),rfl,rfl⟩⟩
theorem sz24 : szT Try.prog 24 = some 1:=by kernel_rfl
theorem ld24 {b o : Nat} {h : AH} : pLoad Try.prog 24 (.pointer (some ⟨b,o,none⟩)) h = h.cell b o:=by kernel_rfl
theorem ze24 : zeroT Try.prog 24 = some (Go.Value.slice none 0 0):=by kernel_rfl
theorem sz28 : szT Try.prog 28 = some 2:=by kernel_rfl
theorem ld28 {b o : Nat} {h : AH} : pLoad Try.prog 28 (.pointer (some ⟨b,o,none⟩)) h = (h.row b o 2).map fun cs=>.agg cs.toArray:=by kernel_rfl
theorem fa28_0 {b o : Nat} : pFieldAddr Try.prog 28 (.pointer (some ⟨b,o,none⟩)) 0 = some (.pointer (some ⟨b,o + 0,none⟩)):=by kernel_rfl
theorem fa28_1 {b o : Nat} : pFieldAddr Try.prog 28 (.pointer (some ⟨b,o,none⟩)) 1 = some (.pointer (some ⟨b,o + 1,none⟩)):=by kernel_rfl
theorem ze28 : zeroT Try.prog 28 = some (Go.Value.agg #[Go.Value.int Go.IntKind.i64 0,Go.Value.int Go.IntKind.i64 0]):=by kernel_rfl
theorem u29 : Try.prog.underlying 29 = some (Go.TypeDesc.slice 28):=by kernel_rfl
theorem el29 : elemT Try.prog 29 = some 28:=by kernel_rfl
theorem sz29 : szT Try.prog 29 = some 1:=by kernel_rfl
theorem ld29 {b o : Nat} {h : AH} : pLoad Try.prog 29 (.pointer (some ⟨b,o,none⟩)) h = h.cell b o:=by kernel_rfl
theorem ze29 : zeroT Try.prog 29 = some (Go.Value.slice none 0 0):=by kernel_rfl
theorem u31 : Try.prog.underlying 31 = some (Go.TypeDesc.int Go.IntKind.i64):=by kernel_rfl
theorem sz31 : szT Try.prog 31 = some 1:=by kernel_rfl
theorem ld31 {b o : Nat} {h : AH} : pLoad Try.prog 31 (.pointer (some ⟨b,o,none⟩)) h = h.cell b o:=by kernel_rfl
theorem ze31 : zeroT Try.prog 31 = some (Go.Value.int Go.IntKind.i64 0):=by kernel_rfl
theorem u34 : Try.prog.underlying 34 = some (Go.TypeDesc.slice 37):=by kernel_rfl
theorem el34 : elemT Try.prog 34 = some 37:=by kernel_rfl
theorem sz34 : szT Try.prog 34 = some 1:=by kernel_rfl
theorem ld34 {b o : Nat} {h : AH} : pLoad Try.prog 34 (.pointer (some ⟨b,o,none⟩)) h = h.cell b o:=by kernel_rfl
theorem ze34 : zeroT Try.prog 34 = some (Go.Value.slice none 0 0):=by kernel_rfl
theorem sz37 : szT Try.prog 37 = some 3:=by kernel_rfl
theorem ld37 {b o : Nat} {h : AH} : pLoad Try.prog 37 (.pointer (some ⟨b,o,none⟩)) h = (h.row b o 3).map fun cs=>.agg cs.toArray:=by kernel_rfl
theorem fa37_0 {b o : Nat} : pFieldAddr Try.prog 37 (.pointer (some ⟨b,o,none⟩)) 0 = some (.pointer (some ⟨b,o + 0,none⟩)):=by kernel_rfl
theorem fa37_1 {b o : Nat} : pFieldAddr Try.prog 37 (.pointer (some ⟨b,o,none⟩)) 1 = some (.pointer (some ⟨b,o + 1,none⟩)):=by kernel_rfl
theorem fa37_2 {b o : Nat} : pFieldAddr Try.prog 37 (.pointer (some ⟨b,o,none⟩)) 2 = some (.pointer (some ⟨b,o + 2,none⟩)):=by kernel_rfl
theorem ze37 : zeroT Try.prog 37 = some (Go.Value.agg #[Go.Value.int Go.IntKind.i64 0,Go.Value.int Go.IntKind.i64 0,Go.Value.string ByteArray.empty]):=by kernel_rfl
theorem sz42 : szT Try.prog 42 = some 3:=by kernel_rfl
theorem ld42 {b o : Nat} {h : AH} : pLoad Try.prog 42 (.pointer (some ⟨b,o,none⟩)) h = (h.row b o 3).map fun cs=>.agg cs.toArray:=by kernel_rfl
theorem fa42_0 {b o : Nat} : pFieldAddr Try.prog 42 (.pointer (some ⟨b,o,none⟩)) 0 = some (.pointer (some ⟨b,o + 0,none⟩)):=by kernel_rfl
theorem fa42_1 {b o : Nat} : pFieldAddr Try.prog 42 (.pointer (some ⟨b,o,none⟩)) 1 = some (.pointer (some ⟨b,o + 1,none⟩)):=by kernel_rfl
theorem fa42_2 {b o : Nat} : pFieldAddr Try.prog 42 (.pointer (some ⟨b,o,none⟩)) 2 = some (.pointer (some ⟨b,o + 2,none⟩)):=by kernel_rfl
theorem ze42 : zeroT Try.prog 42 = some (Go.Value.agg #[Go.Value.string ByteArray.empty,Go.Value.int Go.IntKind.i64 0,Go.Value.bool false]):=by kernel_rfl
theorem sz44 : szT Try.prog 44 = some 1:=by kernel_rfl
theorem ld44 {b o : Nat} {h : AH} : pLoad Try.prog 44 (.pointer (some ⟨b,o,none⟩)) h = h.cell b o:=by kernel_rfl
theorem ze44 : zeroT Try.prog 44 = some (Go.Value.pointer none):=by kernel_rfl
theorem sz67 : szT Try.prog 67 = some 1:=by kernel_rfl
theorem ld67 {b o : Nat} {h : AH} : pLoad Try.prog 67 (.pointer (some ⟨b,o,none⟩)) h = h.cell b o:=by kernel_rfl
theorem ze67 : zeroT Try.prog 67 = some (Go.Value.map none):=by kernel_rfl
theorem sz69 : szT Try.prog 69 = some 5:=by kernel_rfl
theorem ld69 {b o : Nat} {h : AH} : pLoad Try.prog 69 (.pointer (some ⟨b,o,none⟩)) h = (h.row b o 5).map fun cs=>.agg cs.toArray:=by kernel_rfl
theorem fa69_0 {b o : Nat} : pFieldAddr Try.prog 69 (.pointer (some ⟨b,o,none⟩)) 0 = some (.pointer (some ⟨b,o + 0,none⟩)):=by kernel_rfl
theorem fa69_1 {b o : Nat} : pFieldAddr Try.prog 69 (.pointer (some ⟨b,o,none⟩)) 1 = some (.pointer (some ⟨b,o + 1,none⟩)):=by kernel_rfl
theorem fa69_2 {b o : Nat} : pFieldAddr Try.prog 69 (.pointer (some ⟨b,o,none⟩)) 2 = some (.pointer (some ⟨b,o + 2,none⟩)):=by kernel_rfl
theorem fa69_3 {b o : Nat} : pFieldAddr Try.prog 69 (.pointer (some ⟨b,o,none⟩)) 3 = some (.pointer (some ⟨b,o + 3,none⟩)):=by kernel_rfl
theorem fa69_4 {b o : Nat} : pFieldAddr Try.prog 69 (.pointer (some ⟨b,o,none⟩)) 4 = some (.pointer (some ⟨b,o + 4,none⟩)):=by kernel_rfl
theorem ze69 : zeroT Try.prog 69 = some (Go.Value.agg #[Go.Value.slice none 0 0,Go.Value.slice none 0 0,Go.Value.slice none 0 0,Go.Value.map none,Go.Value.int Go.IntKind.i64 0]):=by kernel_rfl
theorem sz70 : szT Try.prog 70 = some 1:=by kernel_rfl
theorem ld70 {b o : Nat} {h : AH} : pLoad Try.prog 70 (.pointer (some ⟨b,o,none⟩)) h = h.cell b o:=by kernel_rfl
theorem ze70 : zeroT Try.prog 70 = some (Go.Value.pointer none):=by kernel_rfl
theorem u77 : Try.prog.underlying 77 = some (Go.TypeDesc.slice 81):=by kernel_rfl
theorem el77 : elemT Try.prog 77 = some 81:=by kernel_rfl
theorem sz77 : szT Try.prog 77 = some 1:=by kernel_rfl
theorem ld77 {b o : Nat} {h : AH} : pLoad Try.prog 77 (.pointer (some ⟨b,o,none⟩)) h = h.cell b o:=by kernel_rfl
theorem ze77 : zeroT Try.prog 77 = some (Go.Value.slice none 0 0):=by kernel_rfl
theorem sz79 : szT Try.prog 79 = some 2:=by kernel_rfl
theorem ld79 {b o : Nat} {h : AH} : pLoad Try.prog 79 (.pointer (some ⟨b,o,none⟩)) h = (h.row b o 2).map fun cs=>.agg cs.toArray:=by kernel_rfl
theorem fa79_0 {b o : Nat} : pFieldAddr Try.prog 79 (.pointer (some ⟨b,o,none⟩)) 0 = some (.pointer (some ⟨b,o + 0,none⟩)):=by kernel_rfl
theorem fa79_1 {b o : Nat} : pFieldAddr Try.prog 79 (.pointer (some ⟨b,o,none⟩)) 1 = some (.pointer (some ⟨b,o + 1,none⟩)):=by kernel_rfl
theorem ze79 : zeroT Try.prog 79 = some (Go.Value.agg #[Go.Value.slice none 0 0,Go.Value.slice none 0 0]):=by kernel_rfl
theorem sz81 : szT Try.prog 81 = some 1:=by kernel_rfl
theorem ld81 {b o : Nat} {h : AH} : pLoad Try.prog 81 (.pointer (some ⟨b,o,none⟩)) h = h.cell b o:=by kernel_rfl
theorem ze81 : zeroT Try.prog 81 = some Go.Value.nilIface:=by kernel_rfl
theorem u84 : Try.prog.underlying 84 = some (Go.TypeDesc.slice 9):=by kernel_rfl
theorem el84 : elemT Try.prog 84 = some 9:=by kernel_rfl
theorem bs84 (z : ByteArray) (h : AH) : pBuildSlice Try.prog 84 1 #[(0,(.string z))] h = some (.slice (some ⟨h.n,0,none⟩) 1 1,h.alloc (.cells [(.string z)] 9 true)):=by kernel_rfl
theorem app84 : AppT Try.prog #[84,84] 9 1 16:=⟨by kernel_rfl,⟨9,by kernel_rfl⟩,by kernel_rfl,by omega,by kernel_rfl,⟨_,(by kernel_rfl : zeroT Try.prog 9 = some (.string .empty)),rfl,rfl⟩⟩
theorem sz84 : szT Try.prog 84 = some 1:=by kernel_rfl
theorem ld84 {b o : Nat} {h : AH} : pLoad Try.prog 84 (.pointer (some ⟨b,o,none⟩)) h = h.cell b o:=by kernel_rfl
theorem ze84 : zeroT Try.prog 84 = some (Go.Value.slice none 0 0):=by kernel_rfl
theorem u107 : Try.prog.underlying 107 = some (Go.TypeDesc.slice 5):=by kernel_rfl
theorem el107 : elemT Try.prog 107 = some 5:=by kernel_rfl
theorem bs107 (z : Int) (h : AH) : pBuildSlice Try.prog 107 1 #[(0,(.int .u8 z))] h = some (.slice (some ⟨h.n,0,none⟩) 1 1,h.alloc (.cells [(.int .u8 z)] 5 true)):=by kernel_rfl
theorem app107 : AppT Try.prog #[107,107] 5 1 1:=⟨by kernel_rfl,⟨5,by kernel_rfl⟩,by kernel_rfl,by omega,by kernel_rfl,⟨_,(by kernel_rfl : zeroT Try.prog 5 = some (.int .u8 0)),rfl,rfl⟩⟩
theorem sz107 : szT Try.prog 107 = some 1:=by kernel_rfl
theorem ld107 {b o : Nat} {h : AH} : pLoad Try.prog 107 (.pointer (some ⟨b,o,none⟩)) h = h.cell b o:=by kernel_rfl
theorem ze107 : zeroT Try.prog 107 = some (Go.Value.slice none 0 0):=by kernel_rfl
theorem sz109 : szT Try.prog 109 = some 1:=by kernel_rfl
theorem ld109 {b o : Nat} {h : AH} : pLoad Try.prog 109 (.pointer (some ⟨b,o,none⟩)) h = h.cell b o:=by kernel_rfl
theorem ze109 : zeroT Try.prog 109 = some (Go.Value.pointer none):=by kernel_rfl
theorem sz111 : szT Try.prog 111 = some 1:=by kernel_rfl
theorem ld111 {b o : Nat} {h : AH} : pLoad Try.prog 111 (.pointer (some ⟨b,o,none⟩)) h = (h.row b o 1).map fun cs=>.agg cs.toArray:=by kernel_rfl
theorem fa111_0 {b o : Nat} : pFieldAddr Try.prog 111 (.pointer (some ⟨b,o,none⟩)) 0 = some (.pointer (some ⟨b,o + 0,none⟩)):=by kernel_rfl
theorem ze111 : zeroT Try.prog 111 = some (Go.Value.agg #[Go.Value.int Go.IntKind.i64 0]):=by kernel_rfl
theorem sz112 : szT Try.prog 112 = some 1:=by kernel_rfl
theorem ld112 {b o : Nat} {h : AH} : pLoad Try.prog 112 (.pointer (some ⟨b,o,none⟩)) h = h.cell b o:=by kernel_rfl
theorem ze112 : zeroT Try.prog 112 = some (Go.Value.pointer none):=by kernel_rfl
theorem sz114 : szT Try.prog 114 = some 4:=by kernel_rfl
theorem ld114 {b o : Nat} {h : AH} : pLoad Try.prog 114 (.pointer (some ⟨b,o,none⟩)) h = (h.row b o 4).map fun cs=>.agg cs.toArray:=by kernel_rfl
theorem fa114_0 {b o : Nat} : pFieldAddr Try.prog 114 (.pointer (some ⟨b,o,none⟩)) 0 = some (.pointer (some ⟨b,o + 0,none⟩)):=by kernel_rfl
theorem fa114_1 {b o : Nat} : pFieldAddr Try.prog 114 (.pointer (some ⟨b,o,none⟩)) 1 = some (.pointer (some ⟨b,o + 1,none⟩)):=by kernel_rfl
theorem ze114 : zeroT Try.prog 114 = some (Go.Value.agg #[Go.Value.int Go.IntKind.i64 0,Go.Value.int Go.IntKind.i64 0,Go.Value.int Go.IntKind.i64 0,Go.Value.string ByteArray.empty]):=by kernel_rfl
theorem sz115 : szT Try.prog 115 = some 1:=by kernel_rfl
theorem ld115 {b o : Nat} {h : AH} : pLoad Try.prog 115 (.pointer (some ⟨b,o,none⟩)) h = h.cell b o:=by kernel_rfl
theorem ze115 : zeroT Try.prog 115 = some (Go.Value.pointer none):=by kernel_rfl
theorem sz117 : szT Try.prog 117 = some 5:=by kernel_rfl
theorem ld117 {b o : Nat} {h : AH} : pLoad Try.prog 117 (.pointer (some ⟨b,o,none⟩)) h = (h.row b o 5).map fun cs=>.agg cs.toArray:=by kernel_rfl
theorem fa117_0 {b o : Nat} : pFieldAddr Try.prog 117 (.pointer (some ⟨b,o,none⟩)) 0 = some (.pointer (some ⟨b,o + 0,none⟩)):=by kernel_rfl
theorem fa117_1 {b o : Nat} : pFieldAddr Try.prog 117 (.pointer (some ⟨b,o,none⟩)) 1 = some (.pointer (some ⟨b,o + 1,none⟩)):=by kernel_rfl
theorem fa117_2 {b o : Nat} : pFieldAddr Try.prog 117 (.pointer (some ⟨b,o,none⟩)) 2 = some (.pointer (some ⟨b,o + 2,none⟩)):=by kernel_rfl
theorem ze117 : zeroT Try.prog 117 = some (Go.Value.agg #[Go.Value.int Go.IntKind.i64 0,Go.Value.int Go.IntKind.i64 0,Go.Value.int Go.IntKind.i64 0,Go.Value.int Go.IntKind.i64 0,Go.Value.string ByteArray.empty]):=by kernel_rfl
theorem u123 : Try.prog.underlying 123 = some (Go.TypeDesc.int Go.IntKind.u64):=by kernel_rfl
theorem sz123 : szT Try.prog 123 = some 1:=by kernel_rfl
theorem ld123 {b o : Nat} {h : AH} : pLoad Try.prog 123 (.pointer (some ⟨b,o,none⟩)) h = h.cell b o:=by kernel_rfl
theorem ze123 : zeroT Try.prog 123 = some (Go.Value.int Go.IntKind.u64 0):=by kernel_rfl
end Go.Proofs.Ytgklcfnjahomjaa.Sh
