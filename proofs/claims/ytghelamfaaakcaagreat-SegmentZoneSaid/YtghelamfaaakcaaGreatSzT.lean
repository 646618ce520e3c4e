/- What the types of the program are, for shallow functions. Printed by a program of the prover's own from the loaded program; Lean checks it. -/
import Derived.Test.YtghelamfaaakcaaGreatEvC
import Derived.Test.YtghelamfaaakcaaGreatProg
import Derived.KernelRfl
set_option linter.unusedVariables false
set_option maxRecDepth 100000
namespace Go.Proofs.YtghelamfaaakcaaGreat.Sh
open Go Go.RowKit Go.Proofs.Ev
theorem u2 : Tryz.prog.underlying 2 = some (Go.TypeDesc.int Go.IntKind.i64):=by kernel_rfl
theorem sz2 : szT Tryz.prog 2 = some 1:=by kernel_rfl
theorem ld2 {b o : Nat} {h : AH} : pLoad Tryz.prog 2 (.pointer (some ⟨b,o,none⟩)) h = h.cell b o:=by kernel_rfl
theorem ze2 : zeroT Tryz.prog 2 = some (Go.Value.int Go.IntKind.i64 0):=by kernel_rfl
theorem u3 : Tryz.prog.underlying 3 = some (Go.TypeDesc.int Go.IntKind.i64):=by kernel_rfl
theorem sz3 : szT Tryz.prog 3 = some 1:=by kernel_rfl
theorem ld3 {b o : Nat} {h : AH} : pLoad Tryz.prog 3 (.pointer (some ⟨b,o,none⟩)) h = h.cell b o:=by kernel_rfl
theorem ze3 : zeroT Tryz.prog 3 = some (Go.Value.int Go.IntKind.i64 0):=by kernel_rfl
theorem u4 : Tryz.prog.underlying 4 = some (Go.TypeDesc.bool):=by kernel_rfl
theorem sz4 : szT Tryz.prog 4 = some 1:=by kernel_rfl
theorem ld4 {b o : Nat} {h : AH} : pLoad Tryz.prog 4 (.pointer (some ⟨b,o,none⟩)) h = h.cell b o:=by kernel_rfl
theorem ze4 : zeroT Tryz.prog 4 = some (Go.Value.bool false):=by kernel_rfl
theorem u5 : Tryz.prog.underlying 5 = some (Go.TypeDesc.int Go.IntKind.u8):=by kernel_rfl
theorem sz5 : szT Tryz.prog 5 = some 1:=by kernel_rfl
theorem ld5 {b o : Nat} {h : AH} : pLoad Tryz.prog 5 (.pointer (some ⟨b,o,none⟩)) h = h.cell b o:=by kernel_rfl
theorem ze5 : zeroT Tryz.prog 5 = some (Go.Value.int Go.IntKind.u8 0):=by kernel_rfl
theorem u9 : Tryz.prog.underlying 9 = some (Go.TypeDesc.string):=by kernel_rfl
theorem sz9 : szT Tryz.prog 9 = some 1:=by kernel_rfl
theorem ld9 {b o : Nat} {h : AH} : pLoad Tryz.prog 9 (.pointer (some ⟨b,o,none⟩)) h = h.cell b o:=by kernel_rfl
theorem ze9 : zeroT Tryz.prog 9 = some (Go.Value.string ByteArray.empty):=by kernel_rfl
theorem u22 : Tryz.prog.underlying 22 = some (Go.TypeDesc.slice 31):=by kernel_rfl
theorem el22 : elemT Tryz.prog 22 = some 31:=by kernel_rfl
theorem sz22 : szT Tryz.prog 22 = some 1:=by kernel_rfl
theorem ld22 {b o : Nat} {h : AH} : pLoad Tryz.prog 22 (.pointer (some ⟨b,o,none⟩)) h = h.cell b o:=by kernel_rfl
theorem ze22 : zeroT Tryz.prog 22 = some (Go.Value.slice none 0 0):=by kernel_rfl
theorem u25 : Tryz.prog.underlying 25 = some (Go.TypeDesc.int Go.IntKind.i64):=by kernel_rfl
theorem sz25 : szT Tryz.prog 25 = some 1:=by kernel_rfl
theorem ld25 {b o : Nat} {h : AH} : pLoad Tryz.prog 25 (.pointer (some ⟨b,o,none⟩)) h = h.cell b o:=by kernel_rfl
theorem ze25 : zeroT Tryz.prog 25 = some (Go.Value.int Go.IntKind.i64 0):=by kernel_rfl
theorem sz31 : szT Tryz.prog 31 = some 3:=by kernel_rfl
theorem ld31 {b o : Nat} {h : AH} : pLoad Tryz.prog 31 (.pointer (some ⟨b,o,none⟩)) h = (h.row b o 3).map fun cs=>.agg cs.toArray:=by kernel_rfl
theorem fa31_0 {b o : Nat} : pFieldAddr Tryz.prog 31 (.pointer (some ⟨b,o,none⟩)) 0 = some (.pointer (some ⟨b,o + 0,none⟩)):=by kernel_rfl
theorem fa31_1 {b o : Nat} : pFieldAddr Tryz.prog 31 (.pointer (some ⟨b,o,none⟩)) 1 = some (.pointer (some ⟨b,o + 1,none⟩)):=by kernel_rfl
theorem fa31_2 {b o : Nat} : pFieldAddr Tryz.prog 31 (.pointer (some ⟨b,o,none⟩)) 2 = some (.pointer (some ⟨b,o + 2,none⟩)):=by kernel_rfl
theorem ze31 : zeroT Tryz.prog 31 = some (Go.Value.agg #[Go.Value.int Go.IntKind.i64 0,Go.Value.int Go.IntKind.i64 0,Go.Value.string ByteArray.empty]):=by kernel_rfl
theorem u32 : Tryz.prog.underlying 32 = some (Go.TypeDesc.slice 4):=by kernel_rfl
theorem el32 : elemT Tryz.prog 32 = some 4:=by kernel_rfl
theorem bs32 (z : Bool) (h : AH) : pBuildSlice Tryz.prog 32 1 #[(0,(.bool z))] h = some (.slice (some ⟨h.n,0,none⟩) 1 1,h.alloc (.cells [(.bool z)] 4 true)):=by kernel_rfl
theorem app32 : AppT Tryz.prog #[32,32] 4 1 1:=⟨by kernel_rfl,⟨4,by kernel_rfl⟩,by kernel_rfl,by omega,by kernel_rfl,⟨_,(by kernel_rfl : zeroT Tryz.prog 4 = some (.bool false)),rfl,rfl⟩⟩
theorem sz32 : szT Tryz.prog 32 = some 1:=by kernel_rfl
theorem ld32 {b o : Nat} {h : AH} : pLoad Tryz.prog 32 (.pointer (some ⟨b,o,none⟩)) h = h.cell b o:=by kernel_rfl
theorem ze32 : zeroT Tryz.prog 32 = some (Go.Value.slice none 0 0):=by kernel_rfl
theorem u33 : Tryz.prog.underlying 33 = some (Go.TypeDesc.slice 5):=by kernel_rfl
theorem el33 : elemT Tryz.prog 33 = some 5:=by kernel_rfl
theorem bs33 (z : Int) (h : AH) : pBuildSlice Tryz.prog 33 1 #[(0,(.int .u8 z))] h = some (.slice (some ⟨h.n,0,none⟩) 1 1,h.alloc (.cells [(.int .u8 z)] 5 true)):=by kernel_rfl
theorem app33 : AppT Tryz.prog #[33,33] 5 1 1:=⟨by kernel_rfl,⟨5,by kernel_rfl⟩,by kernel_rfl,by omega,by kernel_rfl,⟨_,(by kernel_rfl : zeroT Tryz.prog 5 = some (.int .u8 0)),rfl,rfl⟩⟩
theorem sz33 : szT Tryz.prog 33 = some 1:=by kernel_rfl
theorem ld33 {b o : Nat} {h : AH} : pLoad Tryz.prog 33 (.pointer (some ⟨b,o,none⟩)) h = h.cell b o:=by kernel_rfl
theorem ze33 : zeroT Tryz.prog 33 = some (Go.Value.slice none 0 0):=by kernel_rfl
theorem sz38 : szT Tryz.prog 38 = some 8:=by kernel_rfl
theorem ld38 {b o : Nat} {h : AH} : pLoad Tryz.prog 38 (.pointer (some ⟨b,o,none⟩)) h = (h.row b o 8).map fun cs=>.agg cs.toArray:=by kernel_rfl
theorem fa38_0 {b o : Nat} : pFieldAddr Tryz.prog 38 (.pointer (some ⟨b,o,none⟩)) 0 = some (.pointer (some ⟨b,o + 0,none⟩)):=by kernel_rfl
theorem fa38_1 {b o : Nat} : pFieldAddr Tryz.prog 38 (.pointer (some ⟨b,o,none⟩)) 1 = some (.pointer (some ⟨b,o + 1,none⟩)):=by kernel_rfl
theorem fa38_2 {b o : Nat} : pFieldAddr Tryz.prog 38 (.pointer (some ⟨b,o,none⟩)) 2 = some (.pointer (some ⟨b,o + 2,none⟩)):=by kernel_rfl
theorem fa38_3 {b o : Nat} : pFieldAddr Tryz.prog 38 (.pointer (some ⟨b,o,none⟩)) 3 = some (.pointer (some ⟨b,o + 5,none⟩)):=by kernel_rfl
theorem ze38 : zeroT Tryz.prog 38 = some (Go.Value.agg #[Go.Value.int Go.IntKind.i64 0,Go.Value.int Go.IntKind.i64 0,Go.Value.int Go.IntKind.i64 0,Go.Value.int Go.IntKind.i64 0,Go.Value.string ByteArray.empty,Go.Value.int Go.IntKind.i64 0,Go.Value.int Go.IntKind.i64 0,Go.Value.string ByteArray.empty]):=by kernel_rfl
theorem sz47 : szT Tryz.prog 47 = some 1:=by kernel_rfl
theorem ld47 {b o : Nat} {h : AH} : pLoad Tryz.prog 47 (.pointer (some ⟨b,o,none⟩)) h = h.cell b o:=by kernel_rfl
theorem ze47 : zeroT Tryz.prog 47 = some Go.Value.nilFunc:=by kernel_rfl
theorem sz54 : szT Tryz.prog 54 = some 1:=by kernel_rfl
theorem ld54 {b o : Nat} {h : AH} : pLoad Tryz.prog 54 (.pointer (some ⟨b,o,none⟩)) h = h.cell b o:=by kernel_rfl
theorem ze54 : zeroT Tryz.prog 54 = some Go.Value.nilIface:=by kernel_rfl
theorem sz59 : szT Tryz.prog 59 = some 1:=by kernel_rfl
theorem ld59 {b o : Nat} {h : AH} : pLoad Tryz.prog 59 (.pointer (some ⟨b,o,none⟩)) h = h.cell b o:=by kernel_rfl
theorem ze59 : zeroT Tryz.prog 59 = some Go.Value.nilFunc:=by kernel_rfl
theorem u60 : Tryz.prog.underlying 60 = some (Go.TypeDesc.int Go.IntKind.u64):=by kernel_rfl
theorem sz60 : szT Tryz.prog 60 = some 1:=by kernel_rfl
theorem ld60 {b o : Nat} {h : AH} : pLoad Tryz.prog 60 (.pointer (some ⟨b,o,none⟩)) h = h.cell b o:=by kernel_rfl
theorem ze60 : zeroT Tryz.prog 60 = some (Go.Value.int Go.IntKind.u64 0):=by kernel_rfl
theorem u63 : Tryz.prog.underlying 63 = some (Go.TypeDesc.slice 60):=by kernel_rfl
theorem el63 : elemT Tryz.prog 63 = some 60:=by kernel_rfl
theorem bs63 (z : Int) (h : AH) : pBuildSlice Tryz.prog 63 1 #[(0,(.int .u64 z))] h = some (.slice (some ⟨h.n,0,none⟩) 1 1,h.alloc (.cells [(.int .u64 z)] 60 true)):=by kernel_rfl
theorem app63 : AppT Tryz.prog #[63,63] 60 1 8:=⟨by kernel_rfl,⟨60,by kernel_rfl⟩,by kernel_rfl,by omega,by kernel_rfl,⟨_,(by kernel_rfl : zeroT Tryz.prog 60 = some (.int .u64 0)),rfl,rfl⟩⟩
theorem sz63 : szT Tryz.prog 63 = some 1:=by kernel_rfl
theorem ld63 {b o : Nat} {h : AH} : pLoad Tryz.prog 63 (.pointer (some ⟨b,o,none⟩)) h = h.cell b o:=by kernel_rfl
theorem ze63 : zeroT Tryz.prog 63 = some (Go.Value.slice none 0 0):=by kernel_rfl
theorem sz66 : szT Tryz.prog 66 = some 11:=by kernel_rfl
theorem ld66 {b o : Nat} {h : AH} : pLoad Tryz.prog 66 (.pointer (some ⟨b,o,none⟩)) h = (h.row b o 11).map fun cs=>.agg cs.toArray:=by kernel_rfl
theorem fa66_0 {b o : Nat} : pFieldAddr Tryz.prog 66 (.pointer (some ⟨b,o,none⟩)) 0 = some (.pointer (some ⟨b,o + 0,none⟩)):=by kernel_rfl
theorem fa66_1 {b o : Nat} : pFieldAddr Tryz.prog 66 (.pointer (some ⟨b,o,none⟩)) 1 = some (.pointer (some ⟨b,o + 1,none⟩)):=by kernel_rfl
theorem fa66_2 {b o : Nat} : pFieldAddr Tryz.prog 66 (.pointer (some ⟨b,o,none⟩)) 2 = some (.pointer (some ⟨b,o + 2,none⟩)):=by kernel_rfl
theorem fa66_3 {b o : Nat} : pFieldAddr Tryz.prog 66 (.pointer (some ⟨b,o,none⟩)) 3 = some (.pointer (some ⟨b,o + 10,none⟩)):=by kernel_rfl
theorem ze66 : zeroT Tryz.prog 66 = some (Go.Value.agg #[Go.Value.int Go.IntKind.i64 0,Go.Value.slice none 0 0,Go.Value.int Go.IntKind.i64 0,Go.Value.int Go.IntKind.i64 0,Go.Value.int Go.IntKind.i64 0,Go.Value.int Go.IntKind.i64 0,Go.Value.string ByteArray.empty,Go.Value.int Go.IntKind.i64 0,Go.Value.int Go.IntKind.i64 0,Go.Value.string ByteArray.empty,Go.Value.slice none 0 0]):=by kernel_rfl
theorem u72 : Tryz.prog.underlying 72 = some (Go.TypeDesc.slice 3):=by kernel_rfl
theorem el72 : elemT Tryz.prog 72 = some 3:=by kernel_rfl
theorem bs72 (z : Int) (h : AH) : pBuildSlice Tryz.prog 72 1 #[(0,(.int .i64 z))] h = some (.slice (some ⟨h.n,0,none⟩) 1 1,h.alloc (.cells [(.int .i64 z)] 3 true)):=by kernel_rfl
theorem app72 : AppT Tryz.prog #[72,72] 3 1 8:=⟨by kernel_rfl,⟨3,by kernel_rfl⟩,by kernel_rfl,by omega,by kernel_rfl,⟨_,(by kernel_rfl : zeroT Tryz.prog 3 = some (.int .i64 0)),rfl,rfl⟩⟩
theorem sz72 : szT Tryz.prog 72 = some 1:=by kernel_rfl
theorem ld72 {b o : Nat} {h : AH} : pLoad Tryz.prog 72 (.pointer (some ⟨b,o,none⟩)) h = h.cell b o:=by kernel_rfl
theorem ze72 : zeroT Tryz.prog 72 = some (Go.Value.slice none 0 0):=by kernel_rfl
theorem sz80 : szT Tryz.prog 80 = some 1:=by kernel_rfl
theorem ld80 {b o : Nat} {h : AH} : pLoad Tryz.prog 80 (.pointer (some ⟨b,o,none⟩)) h = h.cell b o:=by kernel_rfl
theorem ze80 : zeroT Tryz.prog 80 = some Go.Value.nilFunc:=by kernel_rfl
theorem sz81 : szT Tryz.prog 81 = some 1:=by kernel_rfl
theorem ld81 {b o : Nat} {h : AH} : pLoad Tryz.prog 81 (.pointer (some ⟨b,o,none⟩)) h = h.cell b o:=by kernel_rfl
theorem ze81 : zeroT Tryz.prog 81 = some Go.Value.nilFunc:=by kernel_rfl
theorem sz82 : szT Tryz.prog 82 = some 1:=by kernel_rfl
theorem ld82 {b o : Nat} {h : AH} : pLoad Tryz.prog 82 (.pointer (some ⟨b,o,none⟩)) h = h.cell b o:=by kernel_rfl
theorem ze82 : zeroT Tryz.prog 82 = some Go.Value.nilFunc:=by kernel_rfl
theorem sz83 : szT Tryz.prog 83 = some 1:=by kernel_rfl
theorem ld83 {b o : Nat} {h : AH} : pLoad Tryz.prog 83 (.pointer (some ⟨b,o,none⟩)) h = h.cell b o:=by kernel_rfl
theorem ze83 : zeroT Tryz.prog 83 = some Go.Value.nilFunc:=by kernel_rfl
theorem sz84 : szT Tryz.prog 84 = some 1:=by kernel_rfl
theorem ld84 {b o : Nat} {h : AH} : pLoad Tryz.prog 84 (.pointer (some ⟨b,o,none⟩)) h = h.cell b o:=by kernel_rfl
theorem ze84 : zeroT Tryz.prog 84 = some Go.Value.nilFunc:=by kernel_rfl
theorem sz86 : szT Tryz.prog 86 = some 6:=by kernel_rfl
theorem ld86 {b o : Nat} {h : AH} : pLoad Tryz.prog 86 (.pointer (some ⟨b,o,none⟩)) h = (h.row b o 6).map fun cs=>.agg cs.toArray:=by kernel_rfl
theorem fa86_0 {b o : Nat} : pFieldAddr Tryz.prog 86 (.pointer (some ⟨b,o,none⟩)) 0 = some (.pointer (some ⟨b,o + 0,none⟩)):=by kernel_rfl
theorem fa86_1 {b o : Nat} : pFieldAddr Tryz.prog 86 (.pointer (some ⟨b,o,none⟩)) 1 = some (.pointer (some ⟨b,o + 1,none⟩)):=by kernel_rfl
theorem fa86_2 {b o : Nat} : pFieldAddr Tryz.prog 86 (.pointer (some ⟨b,o,none⟩)) 2 = some (.pointer (some ⟨b,o + 2,none⟩)):=by kernel_rfl
theorem fa86_3 {b o : Nat} : pFieldAddr Tryz.prog 86 (.pointer (some ⟨b,o,none⟩)) 3 = some (.pointer (some ⟨b,o + 3,none⟩)):=by kernel_rfl
theorem fa86_4 {b o : Nat} : pFieldAddr Tryz.prog 86 (.pointer (some ⟨b,o,none⟩)) 4 = some (.pointer (some ⟨b,o + 4,none⟩)):=by kernel_rfl
theorem fa86_5 {b o : Nat} : pFieldAddr Tryz.prog 86 (.pointer (some ⟨b,o,none⟩)) 5 = some (.pointer (some ⟨b,o + 5,none⟩)):=by kernel_rfl
theorem ze86 : zeroT Tryz.prog 86 = some (Go.Value.agg #[Go.Value.nilFunc,Go.Value.nilFunc,Go.Value.nilFunc,Go.Value.nilFunc,Go.Value.nilFunc,Go.Value.nilFunc]):=by kernel_rfl
theorem sz88 : szT Tryz.prog 88 = some 1:=by kernel_rfl
theorem ld88 {b o : Nat} {h : AH} : pLoad Tryz.prog 88 (.pointer (some ⟨b,o,none⟩)) h = h.cell b o:=by kernel_rfl
theorem ze88 : zeroT Tryz.prog 88 = some Go.Value.nilFunc:=by kernel_rfl
theorem sz89 : szT Tryz.prog 89 = some 1:=by kernel_rfl
theorem ld89 {b o : Nat} {h : AH} : pLoad Tryz.prog 89 (.pointer (some ⟨b,o,none⟩)) h = h.cell b o:=by kernel_rfl
theorem ze89 : zeroT Tryz.prog 89 = some Go.Value.nilFunc:=by kernel_rfl
theorem sz90 : szT Tryz.prog 90 = some 1:=by kernel_rfl
theorem ld90 {b o : Nat} {h : AH} : pLoad Tryz.prog 90 (.pointer (some ⟨b,o,none⟩)) h = h.cell b o:=by kernel_rfl
theorem ze90 : zeroT Tryz.prog 90 = some Go.Value.nilFunc:=by kernel_rfl
theorem sz91 : szT Tryz.prog 91 = some 1:=by kernel_rfl
theorem ld91 {b o : Nat} {h : AH} : pLoad Tryz.prog 91 (.pointer (some ⟨b,o,none⟩)) h = h.cell b o:=by kernel_rfl
theorem ze91 : zeroT Tryz.prog 91 = some Go.Value.nilFunc:=by kernel_rfl
theorem sz92 : szT Tryz.prog 92 = some 1:=by kernel_rfl
theorem ld92 {b o : Nat} {h : AH} : pLoad Tryz.prog 92 (.pointer (some ⟨b,o,none⟩)) h = h.cell b o:=by kernel_rfl
theorem ze92 : zeroT Tryz.prog 92 = some Go.Value.nilFunc:=by kernel_rfl
theorem sz94 : szT Tryz.prog 94 = some 6:=by kernel_rfl
theorem ld94 {b o : Nat} {h : AH} : pLoad Tryz.prog 94 (.pointer (some ⟨b,o,none⟩)) h = (h.row b o 6).map fun cs=>.agg cs.toArray:=by kernel_rfl
theorem fa94_0 {b o : Nat} : pFieldAddr Tryz.prog 94 (.pointer (some ⟨b,o,none⟩)) 0 = some (.pointer (some ⟨b,o + 0,none⟩)):=by kernel_rfl
theorem fa94_1 {b o : Nat} : pFieldAddr Tryz.prog 94 (.pointer (some ⟨b,o,none⟩)) 1 = some (.pointer (some ⟨b,o + 1,none⟩)):=by kernel_rfl
theorem fa94_2 {b o : Nat} : pFieldAddr Tryz.prog 94 (.pointer (some ⟨b,o,none⟩)) 2 = some (.pointer (some ⟨b,o + 2,none⟩)):=by kernel_rfl
theorem fa94_3 {b o : Nat} : pFieldAddr Tryz.prog 94 (.pointer (some ⟨b,o,none⟩)) 3 = some (.pointer (some ⟨b,o + 3,none⟩)):=by kernel_rfl
theorem fa94_4 {b o : Nat} : pFieldAddr Tryz.prog 94 (.pointer (some ⟨b,o,none⟩)) 4 = some (.pointer (some ⟨b,o + 4,none⟩)):=by kernel_rfl
theorem fa94_5 {b o : Nat} : pFieldAddr Tryz.prog 94 (.pointer (some ⟨b,o,none⟩)) 5 = some (.pointer (some ⟨b,o + 5,none⟩)):=by kernel_rfl
theorem ze94 : zeroT Tryz.prog 94 = some (Go.Value.agg #[Go.Value.nilFunc,Go.Value.nilFunc,Go.Value.nilFunc,Go.Value.nilFunc,Go.Value.nilFunc,Go.Value.nilFunc]):=by kernel_rfl
theorem sz96 : szT Tryz.prog 96 = some 1:=by kernel_rfl
theorem ld96 {b o : Nat} {h : AH} : pLoad Tryz.prog 96 (.pointer (some ⟨b,o,none⟩)) h = h.cell b o:=by kernel_rfl
theorem ze96 : zeroT Tryz.prog 96 = some Go.Value.nilFunc:=by kernel_rfl
theorem sz97 : szT Tryz.prog 97 = some 1:=by kernel_rfl
theorem ld97 {b o : Nat} {h : AH} : pLoad Tryz.prog 97 (.pointer (some ⟨b,o,none⟩)) h = h.cell b o:=by kernel_rfl
theorem ze97 : zeroT Tryz.prog 97 = some Go.Value.nilFunc:=by kernel_rfl
theorem sz98 : szT Tryz.prog 98 = some 1:=by kernel_rfl
theorem ld98 {b o : Nat} {h : AH} : pLoad Tryz.prog 98 (.pointer (some ⟨b,o,none⟩)) h = h.cell b o:=by kernel_rfl
theorem ze98 : zeroT Tryz.prog 98 = some Go.Value.nilFunc:=by kernel_rfl
theorem sz99 : szT Tryz.prog 99 = some 1:=by kernel_rfl
theorem ld99 {b o : Nat} {h : AH} : pLoad Tryz.prog 99 (.pointer (some ⟨b,o,none⟩)) h = h.cell b o:=by kernel_rfl
theorem ze99 : zeroT Tryz.prog 99 = some Go.Value.nilFunc:=by kernel_rfl
theorem sz100 : szT Tryz.prog 100 = some 1:=by kernel_rfl
theorem ld100 {b o : Nat} {h : AH} : pLoad Tryz.prog 100 (.pointer (some ⟨b,o,none⟩)) h = h.cell b o:=by kernel_rfl
theorem ze100 : zeroT Tryz.prog 100 = some Go.Value.nilFunc:=by kernel_rfl
theorem sz101 : szT Tryz.prog 101 = some 1:=by kernel_rfl
theorem ld101 {b o : Nat} {h : AH} : pLoad Tryz.prog 101 (.pointer (some ⟨b,o,none⟩)) h = h.cell b o:=by kernel_rfl
theorem ze101 : zeroT Tryz.prog 101 = some Go.Value.nilFunc:=by kernel_rfl
theorem sz103 : szT Tryz.prog 103 = some 6:=by kernel_rfl
theorem ld103 {b o : Nat} {h : AH} : pLoad Tryz.prog 103 (.pointer (some ⟨b,o,none⟩)) h = (h.row b o 6).map fun cs=>.agg cs.toArray:=by kernel_rfl
theorem fa103_0 {b o : Nat} : pFieldAddr Tryz.prog 103 (.pointer (some ⟨b,o,none⟩)) 0 = some (.pointer (some ⟨b,o + 0,none⟩)):=by kernel_rfl
theorem fa103_1 {b o : Nat} : pFieldAddr Tryz.prog 103 (.pointer (some ⟨b,o,none⟩)) 1 = some (.pointer (some ⟨b,o + 1,none⟩)):=by kernel_rfl
theorem fa103_2 {b o : Nat} : pFieldAddr Tryz.prog 103 (.pointer (some ⟨b,o,none⟩)) 2 = some (.pointer (some ⟨b,o + 2,none⟩)):=by kernel_rfl
theorem fa103_3 {b o : Nat} : pFieldAddr Tryz.prog 103 (.pointer (some ⟨b,o,none⟩)) 3 = some (.pointer (some ⟨b,o + 3,none⟩)):=by kernel_rfl
theorem fa103_4 {b o : Nat} : pFieldAddr Tryz.prog 103 (.pointer (some ⟨b,o,none⟩)) 4 = some (.pointer (some ⟨b,o + 4,none⟩)):=by kernel_rfl
theorem fa103_5 {b o : Nat} : pFieldAddr Tryz.prog 103 (.pointer (some ⟨b,o,none⟩)) 5 = some (.pointer (some ⟨b,o + 5,none⟩)):=by kernel_rfl
theorem ze103 : zeroT Tryz.prog 103 = some (Go.Value.agg #[Go.Value.nilFunc,Go.Value.nilFunc,Go.Value.nilFunc,Go.Value.nilFunc,Go.Value.nilFunc,Go.Value.nilFunc]):=by kernel_rfl
theorem u105 : Tryz.prog.underlying 105 = some (Go.TypeDesc.slice 4):=by kernel_rfl
theorem el105 : elemT Tryz.prog 105 = some 4:=by kernel_rfl
theorem bs105 (z : Bool) (h : AH) : pBuildSlice Tryz.prog 105 1 #[(0,(.bool z))] h = some (.slice (some ⟨h.n,0,none⟩) 1 1,h.alloc (.cells [(.bool z)] 4 true)):=by kernel_rfl
theorem app105 : AppT Tryz.prog #[105,105] 4 1 1:=⟨by kernel_rfl,⟨4,by kernel_rfl⟩,by kernel_rfl,by omega,by kernel_rfl,⟨_,(by kernel_rfl : zeroT Tryz.prog 4 = some (.bool false)),rfl,rfl⟩⟩
theorem sz105 : szT Tryz.prog 105 = some 1:=by kernel_rfl
theorem ld105 {b o : Nat} {h : AH} : pLoad Tryz.prog 105 (.pointer (some ⟨b,o,none⟩)) h = h.cell b o:=by kernel_rfl
theorem ze105 : zeroT Tryz.prog 105 = some (Go.Value.slice none 0 0):=by kernel_rfl
theorem u109 : Tryz.prog.underlying 109 = some (Go.TypeDesc.int Go.IntKind.u64):=by kernel_rfl
theorem sz109 : szT Tryz.prog 109 = some 1:=by kernel_rfl
theorem ld109 {b o : Nat} {h : AH} : pLoad Tryz.prog 109 (.pointer (some ⟨b,o,none⟩)) h = h.cell b o:=by kernel_rfl
theorem ze109 : zeroT Tryz.prog 109 = some (Go.Value.int Go.IntKind.u64 0):=by kernel_rfl
theorem sz114 : szT Tryz.prog 114 = some 1:=by kernel_rfl
theorem ld114 {b o : Nat} {h : AH} : pLoad Tryz.prog 114 (.pointer (some ⟨b,o,none⟩)) h = h.cell b o:=by kernel_rfl
theorem ze114 : zeroT Tryz.prog 114 = some (Go.Value.pointer none):=by kernel_rfl
theorem u121 : Tryz.prog.underlying 121 = some (Go.TypeDesc.slice 2):=by kernel_rfl
theorem el121 : elemT Tryz.prog 121 = some 2:=by kernel_rfl
theorem bs121 (z : Int) (h : AH) : pBuildSlice Tryz.prog 121 1 #[(0,(.int .i64 z))] h = some (.slice (some ⟨h.n,0,none⟩) 1 1,h.alloc (.cells [(.int .i64 z)] 2 true)):=by kernel_rfl
theorem app121 : AppT Tryz.prog #[121,121] 2 1 8:=⟨by kernel_rfl,⟨2,by kernel_rfl⟩,by kernel_rfl,by omega,by kernel_rfl,⟨_,(by kernel_rfl : zeroT Tryz.prog 2 = some (.int .i64 0)),rfl,rfl⟩⟩
theorem sz121 : szT Tryz.prog 121 = some 1:=by kernel_rfl
theorem ld121 {b o : Nat} {h : AH} : pLoad Tryz.prog 121 (.pointer (some ⟨b,o,none⟩)) h = h.cell b o:=by kernel_rfl
theorem ze121 : zeroT Tryz.prog 121 = some (Go.Value.slice none 0 0):=by kernel_rfl
theorem u122 : Tryz.prog.underlying 122 = some (Go.TypeDesc.slice 9):=by kernel_rfl
theorem el122 : elemT Tryz.prog 122 = some 9:=by kernel_rfl
theorem bs122 (z : ByteArray) (h : AH) : pBuildSlice Tryz.prog 122 1 #[(0,(.string z))] h = some (.slice (some ⟨h.n,0,none⟩) 1 1,h.alloc (.cells [(.string z)] 9 true)):=by kernel_rfl
theorem app122 : AppT Tryz.prog #[122,122] 9 1 16:=⟨by kernel_rfl,⟨9,by kernel_rfl⟩,by kernel_rfl,by omega,by kernel_rfl,⟨_,(by kernel_rfl : zeroT Tryz.prog 9 = some (.string .empty)),rfl,rfl⟩⟩
theorem sz122 : szT Tryz.prog 122 = some 1:=by kernel_rfl
theorem ld122 {b o : Nat} {h : AH} : pLoad Tryz.prog 122 (.pointer (some ⟨b,o,none⟩)) h = h.cell b o:=by kernel_rfl
theorem ze122 : zeroT Tryz.prog 122 = some (Go.Value.slice none 0 0):=by kernel_rfl
theorem sz144 : szT Tryz.prog 144 = some 1:=by kernel_rfl
theorem ld144 {b o : Nat} {h : AH} : pLoad Tryz.prog 144 (.pointer (some ⟨b,o,none⟩)) h = (h.row b o 1).map fun cs=>.agg cs.toArray:=by kernel_rfl
theorem fa144_0 {b o : Nat} : pFieldAddr Tryz.prog 144 (.pointer (some ⟨b,o,none⟩)) 0 = some (.pointer (some ⟨b,o + 0,none⟩)):=by kernel_rfl
theorem ze144 : zeroT Tryz.prog 144 = some (Go.Value.agg #[Go.Value.slice none 0 0]):=by kernel_rfl
theorem u153 : Tryz.prog.underlying 153 = some (Go.TypeDesc.slice 33):=by kernel_rfl
theorem el153 : elemT Tryz.prog 153 = some 33:=by kernel_rfl
theorem bs153 (a : Option Addr) (m c : Nat) (h : AH) : pBuildSlice Tryz.prog 153 1 #[(0,(.slice a m c))] h = some (.slice (some ⟨h.n,0,none⟩) 1 1,h.alloc (.cells [(.slice a m c)] 33 true)):=by kernel_rfl
theorem app153 : AppT Tryz.prog #[153,153] 33 1 24:=⟨by kernel_rfl,⟨33,by kernel_rfl⟩,by kernel_rfl,by omega,by kernel_rfl,⟨_,(by kernel_rfl : zeroT Tryz.prog 33 = some (.slice none 0 0)),rfl,rfl⟩⟩
theorem sz153 : szT Tryz.prog 153 = some 1:=by kernel_rfl
theorem ld153 {b o : Nat} {h : AH} : pLoad Tryz.prog 153 (.pointer (some ⟨b,o,none⟩)) h = h.cell b o:=by kernel_rfl
theorem ze153 : zeroT Tryz.prog 153 = some (Go.Value.slice none 0 0):=by kernel_rfl
theorem u154 : Tryz.prog.underlying 154 = some (Go.TypeDesc.slice 158):=by kernel_rfl
theorem el154 : elemT Tryz.prog 154 = some 158:=by kernel_rfl
theorem sz154 : szT Tryz.prog 154 = some 1:=by kernel_rfl
theorem ld154 {b o : Nat} {h : AH} : pLoad Tryz.prog 154 (.pointer (some ⟨b,o,none⟩)) h = h.cell b o:=by kernel_rfl
theorem ze154 : zeroT Tryz.prog 154 = some (Go.Value.slice none 0 0):=by kernel_rfl
theorem sz156 : szT Tryz.prog 156 = some 1:=by kernel_rfl
theorem ld156 {b o : Nat} {h : AH} : pLoad Tryz.prog 156 (.pointer (some ⟨b,o,none⟩)) h = h.cell b o:=by kernel_rfl
theorem ze156 : zeroT Tryz.prog 156 = some Go.Value.nilFunc:=by kernel_rfl
theorem sz158 : szT Tryz.prog 158 = some 3:=by kernel_rfl
theorem ld158 {b o : Nat} {h : AH} : pLoad Tryz.prog 158 (.pointer (some ⟨b,o,none⟩)) h = (h.row b o 3).map fun cs=>.agg cs.toArray:=by kernel_rfl
theorem fa158_0 {b o : Nat} : pFieldAddr Tryz.prog 158 (.pointer (some ⟨b,o,none⟩)) 0 = some (.pointer (some ⟨b,o + 0,none⟩)):=by kernel_rfl
theorem fa158_1 {b o : Nat} : pFieldAddr Tryz.prog 158 (.pointer (some ⟨b,o,none⟩)) 1 = some (.pointer (some ⟨b,o + 1,none⟩)):=by kernel_rfl
theorem fa158_2 {b o : Nat} : pFieldAddr Tryz.prog 158 (.pointer (some ⟨b,o,none⟩)) 2 = some (.pointer (some ⟨b,o + 2,none⟩)):=by kernel_rfl
theorem ze158 : zeroT Tryz.prog 158 = some (Go.Value.agg #[Go.Value.int Go.IntKind.u8 0,Go.Value.nilFunc,Go.Value.nilFunc]):=by kernel_rfl
theorem sz199 : szT Tryz.prog 199 = some 1:=by kernel_rfl
theorem ld199 {b o : Nat} {h : AH} : pLoad Tryz.prog 199 (.pointer (some ⟨b,o,none⟩)) h = h.cell b o:=by kernel_rfl
theorem ze199 : zeroT Tryz.prog 199 = some (Go.Value.map none):=by kernel_rfl
theorem sz200 : szT Tryz.prog 200 = some 0:=by kernel_rfl
theorem ld200 {b o : Nat} {h : AH} : pLoad Tryz.prog 200 (.pointer (some ⟨b,o,none⟩)) h = (h.row b o 0).map fun cs=>.agg cs.toArray:=by kernel_rfl
theorem ze200 : zeroT Tryz.prog 200 = some (Go.Value.agg #[]):=by kernel_rfl
end Go.Proofs.YtghelamfaaakcaaGreat.Sh
