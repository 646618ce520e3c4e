/- What the types of the program are, for shallow functions. Printed by a program of the prover's own from the loaded program; Lean checks it. -/
import Derived.Test.YtlbmlncdjkdoaaaGreatEvC
import Derived.Test.YtlbmlncdjkdoaaaGreatProg
import Derived.KernelRfl
set_option linter.unusedVariables false
set_option maxRecDepth 100000
namespace Go.Proofs.YtlbmlncdjkdoaaaGreat.Sh
open Go Go.RowKit Go.Proofs.Ev
open Tryz (prog)
theorem u2 : prog.underlying 2 = some (Go.TypeDesc.int Go.IntKind.i64):=by kernel_rfl
theorem sz2 : szT prog 2 = some 1:=by kernel_rfl
theorem ld2 {b o : Nat} {h : AH} : pLoad prog 2 (.pointer (some ⟨b,o,none⟩)) h = h.cell b o:=by kernel_rfl
theorem ze2 : zeroT prog 2 = some (Go.Value.int Go.IntKind.i64 0):=by kernel_rfl
theorem u3 : prog.underlying 3 = some (Go.TypeDesc.int Go.IntKind.i64):=by kernel_rfl
theorem sz3 : szT prog 3 = some 1:=by kernel_rfl
theorem ld3 {b o : Nat} {h : AH} : pLoad prog 3 (.pointer (some ⟨b,o,none⟩)) h = h.cell b o:=by kernel_rfl
theorem ze3 : zeroT prog 3 = some (Go.Value.int Go.IntKind.i64 0):=by kernel_rfl
theorem u4 : prog.underlying 4 = some (Go.TypeDesc.bool):=by kernel_rfl
theorem sz4 : szT prog 4 = some 1:=by kernel_rfl
theorem ld4 {b o : Nat} {h : AH} : pLoad prog 4 (.pointer (some ⟨b,o,none⟩)) h = h.cell b o:=by kernel_rfl
theorem ze4 : zeroT prog 4 = some (Go.Value.bool false):=by kernel_rfl
theorem u5 : prog.underlying 5 = some (Go.TypeDesc.int Go.IntKind.u8):=by kernel_rfl
theorem sz5 : szT prog 5 = some 1:=by kernel_rfl
theorem ld5 {b o : Nat} {h : AH} : pLoad prog 5 (.pointer (some ⟨b,o,none⟩)) h = h.cell b o:=by kernel_rfl
theorem ze5 : zeroT prog 5 = some (Go.Value.int Go.IntKind.u8 0):=by kernel_rfl
theorem u9 : prog.underlying 9 = some (Go.TypeDesc.string):=by kernel_rfl
theorem sz9 : szT prog 9 = some 1:=by kernel_rfl
theorem ld9 {b o : Nat} {h : AH} : pLoad prog 9 (.pointer (some ⟨b,o,none⟩)) h = h.cell b o:=by kernel_rfl
theorem ze9 : zeroT prog 9 = some (Go.Value.string ByteArray.empty):=by kernel_rfl
theorem u22 : prog.underlying 22 = some (Go.TypeDesc.slice 73):=by kernel_rfl
theorem el22 : elemT prog 22 = some 73:=by kernel_rfl
theorem sz22 : szT prog 22 = some 1:=by kernel_rfl
theorem ld22 {b o : Nat} {h : AH} : pLoad prog 22 (.pointer (some ⟨b,o,none⟩)) h = h.cell b o:=by kernel_rfl
theorem ze22 : zeroT prog 22 = some (Go.Value.slice none 0 0):=by kernel_rfl
theorem u23 : prog.underlying 23 = some (Go.TypeDesc.slice 34):=by kernel_rfl
theorem el23 : elemT prog 23 = some 34:=by kernel_rfl
theorem bs23 (a : Option Addr) (m c : Nat) (h : AH) : pBuildSlice prog 23 1 #[(0,(.slice a m c))] h = some (.slice (some ⟨h.n,0,none⟩) 1 1,h.alloc (.cells [(.slice a m c)] 34 true)):=by kernel_rfl
theorem app23 : AppT prog #[23,23] 34 1 24:=⟨by kernel_rfl,⟨34,by kernel_rfl⟩,by kernel_rfl,by omega,by kernel_rfl,⟨_,(by kernel_rfl : zeroT prog 34 = some (.slice none 0 0)),rfl,rfl⟩⟩
theorem sz23 : szT prog 23 = some 1:=by kernel_rfl
theorem ld23 {b o : Nat} {h : AH} : pLoad prog 23 (.pointer (some ⟨b,o,none⟩)) h = h.cell b o:=by kernel_rfl
theorem ze23 : zeroT prog 23 = some (Go.Value.slice none 0 0):=by kernel_rfl
theorem u24 : prog.underlying 24 = some (Go.TypeDesc.slice 3):=by kernel_rfl
theorem el24 : elemT prog 24 = some 3:=by kernel_rfl
theorem bs24 (z : Int) (h : AH) : pBuildSlice prog 24 1 #[(0,(.int .i64 z))] h = some (.slice (some ⟨h.n,0,none⟩) 1 1,h.alloc (.cells [(.int .i64 z)] 3 true)):=by kernel_rfl
theorem app24 : AppT prog #[24,24] 3 1 8:=⟨by kernel_rfl,⟨3,by kernel_rfl⟩,by kernel_rfl,by omega,by kernel_rfl,⟨_,(by kernel_rfl : zeroT prog 3 = some (.int .i64 0)),rfl,rfl⟩⟩
theorem sz24 : szT prog 24 = some 1:=by kernel_rfl
theorem ld24 {b o : Nat} {h : AH} : pLoad prog 24 (.pointer (some ⟨b,o,none⟩)) h = h.cell b o:=by kernel_rfl
theorem ze24 : zeroT prog 24 = some (Go.Value.slice none 0 0):=by kernel_rfl
theorem u27 : prog.underlying 27 = some (Go.TypeDesc.slice 9):=by kernel_rfl
theorem el27 : elemT prog 27 = some 9:=by kernel_rfl
theorem bs27 (z : ByteArray) (h : AH) : pBuildSlice prog 27 1 #[(0,(.string z))] h = some (.slice (some ⟨h.n,0,none⟩) 1 1,h.alloc (.cells [(.string z)] 9 true)):=by kernel_rfl
theorem app27 : AppT prog #[27,27] 9 1 16:=⟨by kernel_rfl,⟨9,by kernel_rfl⟩,by kernel_rfl,by omega,by kernel_rfl,⟨_,(by kernel_rfl : zeroT prog 9 = some (.string .empty)),rfl,rfl⟩⟩
theorem sz27 : szT prog 27 = some 1:=by kernel_rfl
theorem ld27 {b o : Nat} {h : AH} : pLoad prog 27 (.pointer (some ⟨b,o,none⟩)) h = h.cell b o:=by kernel_rfl
theorem ze27 : zeroT prog 27 = some (Go.Value.slice none 0 0):=by kernel_rfl
theorem u28 : prog.underlying 28 = some (Go.TypeDesc.int Go.IntKind.i64):=by kernel_rfl
theorem sz28 : szT prog 28 = some 1:=by kernel_rfl
theorem ld28 {b o : Nat} {h : AH} : pLoad prog 28 (.pointer (some ⟨b,o,none⟩)) h = h.cell b o:=by kernel_rfl
theorem ze28 : zeroT prog 28 = some (Go.Value.int Go.IntKind.i64 0):=by kernel_rfl
theorem u34 : prog.underlying 34 = some (Go.TypeDesc.slice 39):=by kernel_rfl
theorem el34 : elemT prog 34 = some 39:=by kernel_rfl
theorem sz34 : szT prog 34 = some 1:=by kernel_rfl
theorem ld34 {b o : Nat} {h : AH} : pLoad prog 34 (.pointer (some ⟨b,o,none⟩)) h = h.cell b o:=by kernel_rfl
theorem ze34 : zeroT prog 34 = some (Go.Value.slice none 0 0):=by kernel_rfl
theorem sz39 : szT prog 39 = some 3:=by kernel_rfl
theorem ld39 {b o : Nat} {h : AH} : pLoad prog 39 (.pointer (some ⟨b,o,none⟩)) h = (h.row b o 3).map fun cs=>.agg cs.toArray:=by kernel_rfl
theorem fa39_0 {b o : Nat} : pFieldAddr prog 39 (.pointer (some ⟨b,o,none⟩)) 0 = some (.pointer (some ⟨b,o + 0,none⟩)):=by kernel_rfl
theorem fa39_1 {b o : Nat} : pFieldAddr prog 39 (.pointer (some ⟨b,o,none⟩)) 1 = some (.pointer (some ⟨b,o + 1,none⟩)):=by kernel_rfl
theorem fa39_2 {b o : Nat} : pFieldAddr prog 39 (.pointer (some ⟨b,o,none⟩)) 2 = some (.pointer (some ⟨b,o + 2,none⟩)):=by kernel_rfl
theorem ze39 : zeroT prog 39 = some (Go.Value.agg #[Go.Value.int Go.IntKind.i64 0,Go.Value.int Go.IntKind.i64 0,Go.Value.string ByteArray.empty]):=by kernel_rfl
theorem u49 : prog.underlying 49 = some (Go.TypeDesc.slice 53):=by kernel_rfl
theorem el49 : elemT prog 49 = some 53:=by kernel_rfl
theorem sz49 : szT prog 49 = some 1:=by kernel_rfl
theorem ld49 {b o : Nat} {h : AH} : pLoad prog 49 (.pointer (some ⟨b,o,none⟩)) h = h.cell b o:=by kernel_rfl
theorem ze49 : zeroT prog 49 = some (Go.Value.slice none 0 0):=by kernel_rfl
theorem sz53 : szT prog 53 = some 8:=by kernel_rfl
theorem ld53 {b o : Nat} {h : AH} : pLoad prog 53 (.pointer (some ⟨b,o,none⟩)) h = (h.row b o 8).map fun cs=>.agg cs.toArray:=by kernel_rfl
theorem fa53_0 {b o : Nat} : pFieldAddr prog 53 (.pointer (some ⟨b,o,none⟩)) 0 = some (.pointer (some ⟨b,o + 0,none⟩)):=by kernel_rfl
theorem fa53_1 {b o : Nat} : pFieldAddr prog 53 (.pointer (some ⟨b,o,none⟩)) 1 = some (.pointer (some ⟨b,o + 1,none⟩)):=by kernel_rfl
theorem fa53_2 {b o : Nat} : pFieldAddr prog 53 (.pointer (some ⟨b,o,none⟩)) 2 = some (.pointer (some ⟨b,o + 2,none⟩)):=by kernel_rfl
theorem fa53_3 {b o : Nat} : pFieldAddr prog 53 (.pointer (some ⟨b,o,none⟩)) 3 = some (.pointer (some ⟨b,o + 5,none⟩)):=by kernel_rfl
theorem ze53 : zeroT prog 53 = some (Go.Value.agg #[Go.Value.int Go.IntKind.i64 0,Go.Value.int Go.IntKind.i64 0,Go.Value.int Go.IntKind.i64 0,Go.Value.int Go.IntKind.i64 0,Go.Value.string ByteArray.empty,Go.Value.int Go.IntKind.i64 0,Go.Value.int Go.IntKind.i64 0,Go.Value.string ByteArray.empty]):=by kernel_rfl
theorem sz66 : szT prog 66 = some 1:=by kernel_rfl
theorem ld66 {b o : Nat} {h : AH} : pLoad prog 66 (.pointer (some ⟨b,o,none⟩)) h = h.cell b o:=by kernel_rfl
theorem ze66 : zeroT prog 66 = some Go.Value.nilFunc:=by kernel_rfl
theorem sz73 : szT prog 73 = some 3:=by kernel_rfl
theorem ld73 {b o : Nat} {h : AH} : pLoad prog 73 (.pointer (some ⟨b,o,none⟩)) h = (h.row b o 3).map fun cs=>.agg cs.toArray:=by kernel_rfl
theorem fa73_0 {b o : Nat} : pFieldAddr prog 73 (.pointer (some ⟨b,o,none⟩)) 0 = some (.pointer (some ⟨b,o + 0,none⟩)):=by kernel_rfl
theorem fa73_1 {b o : Nat} : pFieldAddr prog 73 (.pointer (some ⟨b,o,none⟩)) 1 = some (.pointer (some ⟨b,o + 1,none⟩)):=by kernel_rfl
theorem fa73_2 {b o : Nat} : pFieldAddr prog 73 (.pointer (some ⟨b,o,none⟩)) 2 = some (.pointer (some ⟨b,o + 2,none⟩)):=by kernel_rfl
theorem ze73 : zeroT prog 73 = some (Go.Value.agg #[Go.Value.string ByteArray.empty,Go.Value.int Go.IntKind.i64 0,Go.Value.bool false]):=by kernel_rfl
theorem u92 : prog.underlying 92 = some (Go.TypeDesc.slice 4):=by kernel_rfl
theorem el92 : elemT prog 92 = some 4:=by kernel_rfl
theorem bs92 (z : Bool) (h : AH) : pBuildSlice prog 92 1 #[(0,(.bool z))] h = some (.slice (some ⟨h.n,0,none⟩) 1 1,h.alloc (.cells [(.bool z)] 4 true)):=by kernel_rfl
theorem app92 : AppT prog #[92,92] 4 1 1:=⟨by kernel_rfl,⟨4,by kernel_rfl⟩,by kernel_rfl,by omega,by kernel_rfl,⟨_,(by kernel_rfl : zeroT prog 4 = some (.bool false)),rfl,rfl⟩⟩
theorem sz92 : szT prog 92 = some 1:=by kernel_rfl
theorem ld92 {b o : Nat} {h : AH} : pLoad prog 92 (.pointer (some ⟨b,o,none⟩)) h = h.cell b o:=by kernel_rfl
theorem ze92 : zeroT prog 92 = some (Go.Value.slice none 0 0):=by kernel_rfl
theorem u93 : prog.underlying 93 = some (Go.TypeDesc.slice 5):=by kernel_rfl
theorem el93 : elemT prog 93 = some 5:=by kernel_rfl
theorem bs93 (z : Int) (h : AH) : pBuildSlice prog 93 1 #[(0,(.int .u8 z))] h = some (.slice (some ⟨h.n,0,none⟩) 1 1,h.alloc (.cells [(.int .u8 z)] 5 true)):=by kernel_rfl
theorem app93 : AppT prog #[93,93] 5 1 1:=⟨by kernel_rfl,⟨5,by kernel_rfl⟩,by kernel_rfl,by omega,by kernel_rfl,⟨_,(by kernel_rfl : zeroT prog 5 = some (.int .u8 0)),rfl,rfl⟩⟩
theorem sz93 : szT prog 93 = some 1:=by kernel_rfl
theorem ld93 {b o : Nat} {h : AH} : pLoad prog 93 (.pointer (some ⟨b,o,none⟩)) h = h.cell b o:=by kernel_rfl
theorem ze93 : zeroT prog 93 = some (Go.Value.slice none 0 0):=by kernel_rfl
theorem sz97 : szT prog 97 = some 1:=by kernel_rfl
theorem ld97 {b o : Nat} {h : AH} : pLoad prog 97 (.pointer (some ⟨b,o,none⟩)) h = h.cell b o:=by kernel_rfl
theorem ze97 : zeroT prog 97 = some Go.Value.nilIface:=by kernel_rfl
theorem u101 : prog.underlying 101 = some (Go.TypeDesc.int Go.IntKind.u64):=by kernel_rfl
theorem sz101 : szT prog 101 = some 1:=by kernel_rfl
theorem ld101 {b o : Nat} {h : AH} : pLoad prog 101 (.pointer (some ⟨b,o,none⟩)) h = h.cell b o:=by kernel_rfl
theorem ze101 : zeroT prog 101 = some (Go.Value.int Go.IntKind.u64 0):=by kernel_rfl
theorem sz104 : szT prog 104 = some 11:=by kernel_rfl
theorem ld104 {b o : Nat} {h : AH} : pLoad prog 104 (.pointer (some ⟨b,o,none⟩)) h = (h.row b o 11).map fun cs=>.agg cs.toArray:=by kernel_rfl
theorem fa104_0 {b o : Nat} : pFieldAddr prog 104 (.pointer (some ⟨b,o,none⟩)) 0 = some (.pointer (some ⟨b,o + 0,none⟩)):=by kernel_rfl
theorem fa104_1 {b o : Nat} : pFieldAddr prog 104 (.pointer (some ⟨b,o,none⟩)) 1 = some (.pointer (some ⟨b,o + 1,none⟩)):=by kernel_rfl
theorem fa104_2 {b o : Nat} : pFieldAddr prog 104 (.pointer (some ⟨b,o,none⟩)) 2 = some (.pointer (some ⟨b,o + 2,none⟩)):=by kernel_rfl
theorem fa104_3 {b o : Nat} : pFieldAddr prog 104 (.pointer (some ⟨b,o,none⟩)) 3 = some (.pointer (some ⟨b,o + 10,none⟩)):=by kernel_rfl
theorem ze104 : zeroT prog 104 = some (Go.Value.agg #[Go.Value.int Go.IntKind.i64 0,Go.Value.slice none 0 0,Go.Value.int Go.IntKind.i64 0,Go.Value.int Go.IntKind.i64 0,Go.Value.int Go.IntKind.i64 0,Go.Value.int Go.IntKind.i64 0,Go.Value.string ByteArray.empty,Go.Value.int Go.IntKind.i64 0,Go.Value.int Go.IntKind.i64 0,Go.Value.string ByteArray.empty,Go.Value.slice none 0 0]):=by kernel_rfl
theorem sz117 : szT prog 117 = some 1:=by kernel_rfl
theorem ld117 {b o : Nat} {h : AH} : pLoad prog 117 (.pointer (some ⟨b,o,none⟩)) h = h.cell b o:=by kernel_rfl
theorem ze117 : zeroT prog 117 = some Go.Value.nilFunc:=by kernel_rfl
theorem u119 : prog.underlying 119 = some (Go.TypeDesc.slice 4):=by kernel_rfl
theorem el119 : elemT prog 119 = some 4:=by kernel_rfl
theorem bs119 (z : Bool) (h : AH) : pBuildSlice prog 119 1 #[(0,(.bool z))] h = some (.slice (some ⟨h.n,0,none⟩) 1 1,h.alloc (.cells [(.bool z)] 4 true)):=by kernel_rfl
theorem app119 : AppT prog #[119,119] 4 1 1:=⟨by kernel_rfl,⟨4,by kernel_rfl⟩,by kernel_rfl,by omega,by kernel_rfl,⟨_,(by kernel_rfl : zeroT prog 4 = some (.bool false)),rfl,rfl⟩⟩
theorem sz119 : szT prog 119 = some 1:=by kernel_rfl
theorem ld119 {b o : Nat} {h : AH} : pLoad prog 119 (.pointer (some ⟨b,o,none⟩)) h = h.cell b o:=by kernel_rfl
theorem ze119 : zeroT prog 119 = some (Go.Value.slice none 0 0):=by kernel_rfl
theorem sz120 : szT prog 120 = some 1:=by kernel_rfl
theorem ld120 {b o : Nat} {h : AH} : pLoad prog 120 (.pointer (some ⟨b,o,none⟩)) h = h.cell b o:=by kernel_rfl
theorem ze120 : zeroT prog 120 = some Go.Value.nilFunc:=by kernel_rfl
theorem u121 : prog.underlying 121 = some (Go.TypeDesc.int Go.IntKind.u64):=by kernel_rfl
theorem sz121 : szT prog 121 = some 1:=by kernel_rfl
theorem ld121 {b o : Nat} {h : AH} : pLoad prog 121 (.pointer (some ⟨b,o,none⟩)) h = h.cell b o:=by kernel_rfl
theorem ze121 : zeroT prog 121 = some (Go.Value.int Go.IntKind.u64 0):=by kernel_rfl
theorem u124 : prog.underlying 124 = some (Go.TypeDesc.slice 121):=by kernel_rfl
theorem el124 : elemT prog 124 = some 121:=by kernel_rfl
theorem bs124 (z : Int) (h : AH) : pBuildSlice prog 124 1 #[(0,(.int .u64 z))] h = some (.slice (some ⟨h.n,0,none⟩) 1 1,h.alloc (.cells [(.int .u64 z)] 121 true)):=by kernel_rfl
theorem app124 : AppT prog #[124,124] 121 1 8:=⟨by kernel_rfl,⟨121,by kernel_rfl⟩,by kernel_rfl,by omega,by kernel_rfl,⟨_,(by kernel_rfl : zeroT prog 121 = some (.int .u64 0)),rfl,rfl⟩⟩
theorem sz124 : szT prog 124 = some 1:=by kernel_rfl
theorem ld124 {b o : Nat} {h : AH} : pLoad prog 124 (.pointer (some ⟨b,o,none⟩)) h = h.cell b o:=by kernel_rfl
theorem ze124 : zeroT prog 124 = some (Go.Value.slice none 0 0):=by kernel_rfl
theorem sz126 : szT prog 126 = some 1:=by kernel_rfl
theorem ld126 {b o : Nat} {h : AH} : pLoad prog 126 (.pointer (some ⟨b,o,none⟩)) h = h.cell b o:=by kernel_rfl
theorem ze126 : zeroT prog 126 = some Go.Value.nilFunc:=by kernel_rfl
theorem sz127 : szT prog 127 = some 1:=by kernel_rfl
theorem ld127 {b o : Nat} {h : AH} : pLoad prog 127 (.pointer (some ⟨b,o,none⟩)) h = h.cell b o:=by kernel_rfl
theorem ze127 : zeroT prog 127 = some Go.Value.nilFunc:=by kernel_rfl
theorem sz128 : szT prog 128 = some 1:=by kernel_rfl
theorem ld128 {b o : Nat} {h : AH} : pLoad prog 128 (.pointer (some ⟨b,o,none⟩)) h = h.cell b o:=by kernel_rfl
theorem ze128 : zeroT prog 128 = some Go.Value.nilFunc:=by kernel_rfl
theorem sz129 : szT prog 129 = some 1:=by kernel_rfl
theorem ld129 {b o : Nat} {h : AH} : pLoad prog 129 (.pointer (some ⟨b,o,none⟩)) h = h.cell b o:=by kernel_rfl
theorem ze129 : zeroT prog 129 = some Go.Value.nilFunc:=by kernel_rfl
theorem sz130 : szT prog 130 = some 1:=by kernel_rfl
theorem ld130 {b o : Nat} {h : AH} : pLoad prog 130 (.pointer (some ⟨b,o,none⟩)) h = h.cell b o:=by kernel_rfl
theorem ze130 : zeroT prog 130 = some Go.Value.nilFunc:=by kernel_rfl
theorem sz132 : szT prog 132 = some 6:=by kernel_rfl
theorem ld132 {b o : Nat} {h : AH} : pLoad prog 132 (.pointer (some ⟨b,o,none⟩)) h = (h.row b o 6).map fun cs=>.agg cs.toArray:=by kernel_rfl
theorem fa132_0 {b o : Nat} : pFieldAddr prog 132 (.pointer (some ⟨b,o,none⟩)) 0 = some (.pointer (some ⟨b,o + 0,none⟩)):=by kernel_rfl
theorem fa132_1 {b o : Nat} : pFieldAddr prog 132 (.pointer (some ⟨b,o,none⟩)) 1 = some (.pointer (some ⟨b,o + 1,none⟩)):=by kernel_rfl
theorem fa132_2 {b o : Nat} : pFieldAddr prog 132 (.pointer (some ⟨b,o,none⟩)) 2 = some (.pointer (some ⟨b,o + 2,none⟩)):=by kernel_rfl
theorem fa132_3 {b o : Nat} : pFieldAddr prog 132 (.pointer (some ⟨b,o,none⟩)) 3 = some (.pointer (some ⟨b,o + 3,none⟩)):=by kernel_rfl
theorem fa132_4 {b o : Nat} : pFieldAddr prog 132 (.pointer (some ⟨b,o,none⟩)) 4 = some (.pointer (some ⟨b,o + 4,none⟩)):=by kernel_rfl
theorem fa132_5 {b o : Nat} : pFieldAddr prog 132 (.pointer (some ⟨b,o,none⟩)) 5 = some (.pointer (some ⟨b,o + 5,none⟩)):=by kernel_rfl
theorem ze132 : zeroT prog 132 = some (Go.Value.agg #[Go.Value.nilFunc,Go.Value.nilFunc,Go.Value.nilFunc,Go.Value.nilFunc,Go.Value.nilFunc,Go.Value.nilFunc]):=by kernel_rfl
theorem sz134 : szT prog 134 = some 1:=by kernel_rfl
theorem ld134 {b o : Nat} {h : AH} : pLoad prog 134 (.pointer (some ⟨b,o,none⟩)) h = h.cell b o:=by kernel_rfl
theorem ze134 : zeroT prog 134 = some Go.Value.nilFunc:=by kernel_rfl
theorem sz135 : szT prog 135 = some 1:=by kernel_rfl
theorem ld135 {b o : Nat} {h : AH} : pLoad prog 135 (.pointer (some ⟨b,o,none⟩)) h = h.cell b o:=by kernel_rfl
theorem ze135 : zeroT prog 135 = some Go.Value.nilFunc:=by kernel_rfl
theorem sz136 : szT prog 136 = some 1:=by kernel_rfl
theorem ld136 {b o : Nat} {h : AH} : pLoad prog 136 (.pointer (some ⟨b,o,none⟩)) h = h.cell b o:=by kernel_rfl
theorem ze136 : zeroT prog 136 = some Go.Value.nilFunc:=by kernel_rfl
theorem sz137 : szT prog 137 = some 1:=by kernel_rfl
theorem ld137 {b o : Nat} {h : AH} : pLoad prog 137 (.pointer (some ⟨b,o,none⟩)) h = h.cell b o:=by kernel_rfl
theorem ze137 : zeroT prog 137 = some Go.Value.nilFunc:=by kernel_rfl
theorem sz138 : szT prog 138 = some 1:=by kernel_rfl
theorem ld138 {b o : Nat} {h : AH} : pLoad prog 138 (.pointer (some ⟨b,o,none⟩)) h = h.cell b o:=by kernel_rfl
theorem ze138 : zeroT prog 138 = some Go.Value.nilFunc:=by kernel_rfl
theorem sz140 : szT prog 140 = some 6:=by kernel_rfl
theorem ld140 {b o : Nat} {h : AH} : pLoad prog 140 (.pointer (some ⟨b,o,none⟩)) h = (h.row b o 6).map fun cs=>.agg cs.toArray:=by kernel_rfl
theorem fa140_0 {b o : Nat} : pFieldAddr prog 140 (.pointer (some ⟨b,o,none⟩)) 0 = some (.pointer (some ⟨b,o + 0,none⟩)):=by kernel_rfl
theorem fa140_1 {b o : Nat} : pFieldAddr prog 140 (.pointer (some ⟨b,o,none⟩)) 1 = some (.pointer (some ⟨b,o + 1,none⟩)):=by kernel_rfl
theorem fa140_2 {b o : Nat} : pFieldAddr prog 140 (.pointer (some ⟨b,o,none⟩)) 2 = some (.pointer (some ⟨b,o + 2,none⟩)):=by kernel_rfl
theorem fa140_3 {b o : Nat} : pFieldAddr prog 140 (.pointer (some ⟨b,o,none⟩)) 3 = some (.pointer (some ⟨b,o + 3,none⟩)):=by kernel_rfl
theorem fa140_4 {b o : Nat} : pFieldAddr prog 140 (.pointer (some ⟨b,o,none⟩)) 4 = some (.pointer (some ⟨b,o + 4,none⟩)):=by kernel_rfl
theorem fa140_5 {b o : Nat} : pFieldAddr prog 140 (.pointer (some ⟨b,o,none⟩)) 5 = some (.pointer (some ⟨b,o + 5,none⟩)):=by kernel_rfl
theorem ze140 : zeroT prog 140 = some (Go.Value.agg #[Go.Value.nilFunc,Go.Value.nilFunc,Go.Value.nilFunc,Go.Value.nilFunc,Go.Value.nilFunc,Go.Value.nilFunc]):=by kernel_rfl
theorem sz142 : szT prog 142 = some 1:=by kernel_rfl
theorem ld142 {b o : Nat} {h : AH} : pLoad prog 142 (.pointer (some ⟨b,o,none⟩)) h = h.cell b o:=by kernel_rfl
theorem ze142 : zeroT prog 142 = some Go.Value.nilFunc:=by kernel_rfl
theorem sz143 : szT prog 143 = some 1:=by kernel_rfl
theorem ld143 {b o : Nat} {h : AH} : pLoad prog 143 (.pointer (some ⟨b,o,none⟩)) h = h.cell b o:=by kernel_rfl
theorem ze143 : zeroT prog 143 = some Go.Value.nilFunc:=by kernel_rfl
theorem sz144 : szT prog 144 = some 1:=by kernel_rfl
theorem ld144 {b o : Nat} {h : AH} : pLoad prog 144 (.pointer (some ⟨b,o,none⟩)) h = h.cell b o:=by kernel_rfl
theorem ze144 : zeroT prog 144 = some Go.Value.nilFunc:=by kernel_rfl
theorem sz145 : szT prog 145 = some 1:=by kernel_rfl
theorem ld145 {b o : Nat} {h : AH} : pLoad prog 145 (.pointer (some ⟨b,o,none⟩)) h = h.cell b o:=by kernel_rfl
theorem ze145 : zeroT prog 145 = some Go.Value.nilFunc:=by kernel_rfl
theorem sz146 : szT prog 146 = some 1:=by kernel_rfl
theorem ld146 {b o : Nat} {h : AH} : pLoad prog 146 (.pointer (some ⟨b,o,none⟩)) h = h.cell b o:=by kernel_rfl
theorem ze146 : zeroT prog 146 = some Go.Value.nilFunc:=by kernel_rfl
theorem sz148 : szT prog 148 = some 6:=by kernel_rfl
theorem ld148 {b o : Nat} {h : AH} : pLoad prog 148 (.pointer (some ⟨b,o,none⟩)) h = (h.row b o 6).map fun cs=>.agg cs.toArray:=by kernel_rfl
theorem fa148_0 {b o : Nat} : pFieldAddr prog 148 (.pointer (some ⟨b,o,none⟩)) 0 = some (.pointer (some ⟨b,o + 0,none⟩)):=by kernel_rfl
theorem fa148_1 {b o : Nat} : pFieldAddr prog 148 (.pointer (some ⟨b,o,none⟩)) 1 = some (.pointer (some ⟨b,o + 1,none⟩)):=by kernel_rfl
theorem fa148_2 {b o : Nat} : pFieldAddr prog 148 (.pointer (some ⟨b,o,none⟩)) 2 = some (.pointer (some ⟨b,o + 2,none⟩)):=by kernel_rfl
theorem fa148_3 {b o : Nat} : pFieldAddr prog 148 (.pointer (some ⟨b,o,none⟩)) 3 = some (.pointer (some ⟨b,o + 3,none⟩)):=by kernel_rfl
theorem fa148_4 {b o : Nat} : pFieldAddr prog 148 (.pointer (some ⟨b,o,none⟩)) 4 = some (.pointer (some ⟨b,o + 4,none⟩)):=by kernel_rfl
theorem fa148_5 {b o : Nat} : pFieldAddr prog 148 (.pointer (some ⟨b,o,none⟩)) 5 = some (.pointer (some ⟨b,o + 5,none⟩)):=by kernel_rfl
theorem ze148 : zeroT prog 148 = some (Go.Value.agg #[Go.Value.nilFunc,Go.Value.nilFunc,Go.Value.nilFunc,Go.Value.nilFunc,Go.Value.nilFunc,Go.Value.nilFunc]):=by kernel_rfl
theorem sz154 : szT prog 154 = some 1:=by kernel_rfl
theorem ld154 {b o : Nat} {h : AH} : pLoad prog 154 (.pointer (some ⟨b,o,none⟩)) h = h.cell b o:=by kernel_rfl
theorem ze154 : zeroT prog 154 = some (Go.Value.pointer none):=by kernel_rfl
theorem u163 : prog.underlying 163 = some (Go.TypeDesc.slice 2):=by kernel_rfl
theorem el163 : elemT prog 163 = some 2:=by kernel_rfl
theorem bs163 (z : Int) (h : AH) : pBuildSlice prog 163 1 #[(0,(.int .i64 z))] h = some (.slice (some ⟨h.n,0,none⟩) 1 1,h.alloc (.cells [(.int .i64 z)] 2 true)):=by kernel_rfl
theorem app163 : AppT prog #[163,163] 2 1 8:=⟨by kernel_rfl,⟨2,by kernel_rfl⟩,by kernel_rfl,by omega,by kernel_rfl,⟨_,(by kernel_rfl : zeroT prog 2 = some (.int .i64 0)),rfl,rfl⟩⟩
theorem sz163 : szT prog 163 = some 1:=by kernel_rfl
theorem ld163 {b o : Nat} {h : AH} : pLoad prog 163 (.pointer (some ⟨b,o,none⟩)) h = h.cell b o:=by kernel_rfl
theorem ze163 : zeroT prog 163 = some (Go.Value.slice none 0 0):=by kernel_rfl
theorem sz185 : szT prog 185 = some 1:=by kernel_rfl
theorem ld185 {b o : Nat} {h : AH} : pLoad prog 185 (.pointer (some ⟨b,o,none⟩)) h = (h.row b o 1).map fun cs=>.agg cs.toArray:=by kernel_rfl
theorem fa185_0 {b o : Nat} : pFieldAddr prog 185 (.pointer (some ⟨b,o,none⟩)) 0 = some (.pointer (some ⟨b,o + 0,none⟩)):=by kernel_rfl
theorem ze185 : zeroT prog 185 = some (Go.Value.agg #[Go.Value.slice none 0 0]):=by kernel_rfl
theorem u195 : prog.underlying 195 = some (Go.TypeDesc.slice 93):=by kernel_rfl
theorem el195 : elemT prog 195 = some 93:=by kernel_rfl
theorem bs195 (a : Option Addr) (m c : Nat) (h : AH) : pBuildSlice prog 195 1 #[(0,(.slice a m c))] h = some (.slice (some ⟨h.n,0,none⟩) 1 1,h.alloc (.cells [(.slice a m c)] 93 true)):=by kernel_rfl
theorem app195 : AppT prog #[195,195] 93 1 24:=⟨by kernel_rfl,⟨93,by kernel_rfl⟩,by kernel_rfl,by omega,by kernel_rfl,⟨_,(by kernel_rfl : zeroT prog 93 = some (.slice none 0 0)),rfl,rfl⟩⟩
theorem sz195 : szT prog 195 = some 1:=by kernel_rfl
theorem ld195 {b o : Nat} {h : AH} : pLoad prog 195 (.pointer (some ⟨b,o,none⟩)) h = h.cell b o:=by kernel_rfl
theorem ze195 : zeroT prog 195 = some (Go.Value.slice none 0 0):=by kernel_rfl
theorem u196 : prog.underlying 196 = some (Go.TypeDesc.slice 200):=by kernel_rfl
theorem el196 : elemT prog 196 = some 200:=by kernel_rfl
theorem sz196 : szT prog 196 = some 1:=by kernel_rfl
theorem ld196 {b o : Nat} {h : AH} : pLoad prog 196 (.pointer (some ⟨b,o,none⟩)) h = h.cell b o:=by kernel_rfl
theorem ze196 : zeroT prog 196 = some (Go.Value.slice none 0 0):=by kernel_rfl
theorem sz198 : szT prog 198 = some 1:=by kernel_rfl
theorem ld198 {b o : Nat} {h : AH} : pLoad prog 198 (.pointer (some ⟨b,o,none⟩)) h = h.cell b o:=by kernel_rfl
theorem ze198 : zeroT prog 198 = some Go.Value.nilFunc:=by kernel_rfl
theorem sz200 : szT prog 200 = some 3:=by kernel_rfl
theorem ld200 {b o : Nat} {h : AH} : pLoad prog 200 (.pointer (some ⟨b,o,none⟩)) h = (h.row b o 3).map fun cs=>.agg cs.toArray:=by kernel_rfl
theorem fa200_0 {b o : Nat} : pFieldAddr prog 200 (.pointer (some ⟨b,o,none⟩)) 0 = some (.pointer (some ⟨b,o + 0,none⟩)):=by kernel_rfl
theorem fa200_1 {b o : Nat} : pFieldAddr prog 200 (.pointer (some ⟨b,o,none⟩)) 1 = some (.pointer (some ⟨b,o + 1,none⟩)):=by kernel_rfl
theorem fa200_2 {b o : Nat} : pFieldAddr prog 200 (.pointer (some ⟨b,o,none⟩)) 2 = some (.pointer (some ⟨b,o + 2,none⟩)):=by kernel_rfl
theorem ze200 : zeroT prog 200 = some (Go.Value.agg #[Go.Value.int Go.IntKind.u8 0,Go.Value.nilFunc,Go.Value.nilFunc]):=by kernel_rfl
theorem sz238 : szT prog 238 = some 1:=by kernel_rfl
theorem ld238 {b o : Nat} {h : AH} : pLoad prog 238 (.pointer (some ⟨b,o,none⟩)) h = h.cell b o:=by kernel_rfl
theorem ze238 : zeroT prog 238 = some (Go.Value.map none):=by kernel_rfl
theorem sz239 : szT prog 239 = some 0:=by kernel_rfl
theorem ld239 {b o : Nat} {h : AH} : pLoad prog 239 (.pointer (some ⟨b,o,none⟩)) h = (h.row b o 0).map fun cs=>.agg cs.toArray:=by kernel_rfl
theorem ze239 : zeroT prog 239 = some (Go.Value.agg #[]):=by kernel_rfl
end Go.Proofs.YtlbmlncdjkdoaaaGreat.Sh
