/- What the types of the program are, for shallow functions. Printed by a program of the prover's own from the loaded program; Lean checks it. -/
import Derived.Test.YtghelamfaaakcaaGreatEvC
import Derived.Test.YtghelamfaaakcaaGreatProg
import Derived.KernelRfl
set_option linter.unusedVariables false
set_option maxRecDepth 100000
namespace Go.Proofs.YtghelamfaaakcaaGreat.Sh
open Go Go.RowKit Go.Proofs.Ev
open Tryz (prog)
theorem u2 : prog.underlying 2 = some (Go.TypeDesc.int Go.IntKind.i64):=by kernel_rfl
theorem sz2 : szT prog 2 = some 1:=by kernel_rfl
theorem ld2 {b o : Nat} {h : AH} : pLoad prog 2 (.pointer (some ⟨b,o,none⟩)) h = h.cell b o:=by kernel_rfl
theorem ze2 : zeroT prog 2 = some (Go.Value.int Go.IntKind.i64 0):=by kernel_rfl
theorem u3 : prog.underlying 3 = some (Go.TypeDesc.int Go.IntKind.i64):=by kernel_rfl
theorem sz3 : szT prog 3 = some 1:=by kernel_rfl
theorem ld3 {b o : Nat} {h : AH} : pLoad prog 3 (.pointer (some ⟨b,o,none⟩)) h = h.cell b o:=by kernel_rfl
theorem ze3 : zeroT prog 3 = some (Go.Value.int Go.IntKind.i64 0):=by kernel_rfl
theorem u4 : prog.underlying 4 = some (Go.TypeDesc.bool):=by kernel_rfl
theorem sz4 : szT prog 4 = some 1:=by kernel_rfl
theorem ld4 {b o : Nat} {h : AH} : pLoad prog 4 (.pointer (some ⟨b,o,none⟩)) h = h.cell b o:=by kernel_rfl
theorem ze4 : zeroT prog 4 = some (Go.Value.bool false):=by kernel_rfl
theorem u5 : prog.underlying 5 = some (Go.TypeDesc.int Go.IntKind.u8):=by kernel_rfl
theorem sz5 : szT prog 5 = some 1:=by kernel_rfl
theorem ld5 {b o : Nat} {h : AH} : pLoad prog 5 (.pointer (some ⟨b,o,none⟩)) h = h.cell b o:=by kernel_rfl
theorem ze5 : zeroT prog 5 = some (Go.Value.int Go.IntKind.u8 0):=by kernel_rfl
theorem u9 : prog.underlying 9 = some (Go.TypeDesc.string):=by kernel_rfl
theorem sz9 : szT prog 9 = some 1:=by kernel_rfl
theorem ld9 {b o : Nat} {h : AH} : pLoad prog 9 (.pointer (some ⟨b,o,none⟩)) h = h.cell b o:=by kernel_rfl
theorem ze9 : zeroT prog 9 = some (Go.Value.string ByteArray.empty):=by kernel_rfl
theorem u22 : prog.underlying 22 = some (Go.TypeDesc.slice 31):=by kernel_rfl
theorem el22 : elemT prog 22 = some 31:=by kernel_rfl
theorem sz22 : szT prog 22 = some 1:=by kernel_rfl
theorem ld22 {b o : Nat} {h : AH} : pLoad prog 22 (.pointer (some ⟨b,o,none⟩)) h = h.cell b o:=by kernel_rfl
theorem ze22 : zeroT prog 22 = some (Go.Value.slice none 0 0):=by kernel_rfl
theorem u25 : prog.underlying 25 = some (Go.TypeDesc.int Go.IntKind.i64):=by kernel_rfl
theorem sz25 : szT prog 25 = some 1:=by kernel_rfl
theorem ld25 {b o : Nat} {h : AH} : pLoad prog 25 (.pointer (some ⟨b,o,none⟩)) h = h.cell b o:=by kernel_rfl
theorem ze25 : zeroT prog 25 = some (Go.Value.int Go.IntKind.i64 0):=by kernel_rfl
theorem sz31 : szT prog 31 = some 3:=by kernel_rfl
theorem ld31 {b o : Nat} {h : AH} : pLoad prog 31 (.pointer (some ⟨b,o,none⟩)) h = (h.row b o 3).map fun cs=>.agg cs.toArray:=by kernel_rfl
theorem fa31_0 {b o : Nat} : pFieldAddr prog 31 (.pointer (some ⟨b,o,none⟩)) 0 = some (.pointer (some ⟨b,o + 0,none⟩)):=by kernel_rfl
theorem fa31_1 {b o : Nat} : pFieldAddr prog 31 (.pointer (some ⟨b,o,none⟩)) 1 = some (.pointer (some ⟨b,o + 1,none⟩)):=by kernel_rfl
theorem fa31_2 {b o : Nat} : pFieldAddr prog 31 (.pointer (some ⟨b,o,none⟩)) 2 = some (.pointer (some ⟨b,o + 2,none⟩)):=by kernel_rfl
theorem ze31 : zeroT prog 31 = some (Go.Value.agg #[Go.Value.int Go.IntKind.i64 0,Go.Value.int Go.IntKind.i64 0,Go.Value.string ByteArray.empty]):=by kernel_rfl
theorem u32 : prog.underlying 32 = some (Go.TypeDesc.slice 4):=by kernel_rfl
theorem el32 : elemT prog 32 = some 4:=by kernel_rfl
theorem bs32 (z : Bool) (h : AH) : pBuildSlice prog 32 1 #[(0,(.bool z))] h = some (.slice (some ⟨h.n,0,none⟩) 1 1,h.alloc (.cells [(.bool z)] 4 true)):=by kernel_rfl
theorem app32 : AppT prog #[32,32] 4 1 1:=⟨by kernel_rfl,⟨4,by kernel_rfl⟩,by kernel_rfl,by omega,by kernel_rfl,⟨_,(by kernel_rfl : zeroT prog 4 = some (.bool false)),rfl,rfl⟩⟩
theorem sz32 : szT prog 32 = some 1:=by kernel_rfl
theorem ld32 {b o : Nat} {h : AH} : pLoad prog 32 (.pointer (some ⟨b,o,none⟩)) h = h.cell b o:=by kernel_rfl
theorem ze32 : zeroT prog 32 = some (Go.Value.slice none 0 0):=by kernel_rfl
theorem u33 : prog.underlying 33 = some (Go.TypeDesc.slice 5):=by kernel_rfl
theorem el33 : elemT prog 33 = some 5:=by kernel_rfl
theorem bs33 (z : Int) (h : AH) : pBuildSlice prog 33 1 #[(0,(.int .u8 z))] h = some (.slice (some ⟨h.n,0,none⟩) 1 1,h.alloc (.cells [(.int .u8 z)] 5 true)):=by kernel_rfl
theorem app33 : AppT prog #[33,33] 5 1 1:=⟨by kernel_rfl,⟨5,by kernel_rfl⟩,by kernel_rfl,by omega,by kernel_rfl,⟨_,(by kernel_rfl : zeroT prog 5 = some (.int .u8 0)),rfl,rfl⟩⟩
theorem sz33 : szT prog 33 = some 1:=by kernel_rfl
theorem ld33 {b o : Nat} {h : AH} : pLoad prog 33 (.pointer (some ⟨b,o,none⟩)) h = h.cell b o:=by kernel_rfl
theorem ze33 : zeroT prog 33 = some (Go.Value.slice none 0 0):=by kernel_rfl
theorem sz38 : szT prog 38 = some 8:=by kernel_rfl
theorem ld38 {b o : Nat} {h : AH} : pLoad prog 38 (.pointer (some ⟨b,o,none⟩)) h = (h.row b o 8).map fun cs=>.agg cs.toArray:=by kernel_rfl
theorem fa38_0 {b o : Nat} : pFieldAddr prog 38 (.pointer (some ⟨b,o,none⟩)) 0 = some (.pointer (some ⟨b,o + 0,none⟩)):=by kernel_rfl
theorem fa38_1 {b o : Nat} : pFieldAddr prog 38 (.pointer (some ⟨b,o,none⟩)) 1 = some (.pointer (some ⟨b,o + 1,none⟩)):=by kernel_rfl
theorem fa38_2 {b o : Nat} : pFieldAddr prog 38 (.pointer (some ⟨b,o,none⟩)) 2 = some (.pointer (some ⟨b,o + 2,none⟩)):=by kernel_rfl
theorem fa38_3 {b o : Nat} : pFieldAddr prog 38 (.pointer (some ⟨b,o,none⟩)) 3 = some (.pointer (some ⟨b,o + 5,none⟩)):=by kernel_rfl
theorem ze38 : zeroT prog 38 = some (Go.Value.agg #[Go.Value.int Go.IntKind.i64 0,Go.Value.int Go.IntKind.i64 0,Go.Value.int Go.IntKind.i64 0,Go.Value.int Go.IntKind.i64 0,Go.Value.string ByteArray.empty,Go.Value.int Go.IntKind.i64 0,Go.Value.int Go.IntKind.i64 0,Go.Value.string ByteArray.empty]):=by kernel_rfl
theorem sz47 : szT prog 47 = some 1:=by kernel_rfl
theorem ld47 {b o : Nat} {h : AH} : pLoad prog 47 (.pointer (some ⟨b,o,none⟩)) h = h.cell b o:=by kernel_rfl
theorem ze47 : zeroT prog 47 = some Go.Value.nilFunc:=by kernel_rfl
theorem sz54 : szT prog 54 = some 1:=by kernel_rfl
theorem ld54 {b o : Nat} {h : AH} : pLoad prog 54 (.pointer (some ⟨b,o,none⟩)) h = h.cell b o:=by kernel_rfl
theorem ze54 : zeroT prog 54 = some Go.Value.nilIface:=by kernel_rfl
theorem sz59 : szT prog 59 = some 1:=by kernel_rfl
theorem ld59 {b o : Nat} {h : AH} : pLoad prog 59 (.pointer (some ⟨b,o,none⟩)) h = h.cell b o:=by kernel_rfl
theorem ze59 : zeroT prog 59 = some Go.Value.nilFunc:=by kernel_rfl
theorem u60 : prog.underlying 60 = some (Go.TypeDesc.int Go.IntKind.u64):=by kernel_rfl
theorem sz60 : szT prog 60 = some 1:=by kernel_rfl
theorem ld60 {b o : Nat} {h : AH} : pLoad prog 60 (.pointer (some ⟨b,o,none⟩)) h = h.cell b o:=by kernel_rfl
theorem ze60 : zeroT prog 60 = some (Go.Value.int Go.IntKind.u64 0):=by kernel_rfl
theorem u63 : prog.underlying 63 = some (Go.TypeDesc.slice 60):=by kernel_rfl
theorem el63 : elemT prog 63 = some 60:=by kernel_rfl
theorem bs63 (z : Int) (h : AH) : pBuildSlice prog 63 1 #[(0,(.int .u64 z))] h = some (.slice (some ⟨h.n,0,none⟩) 1 1,h.alloc (.cells [(.int .u64 z)] 60 true)):=by kernel_rfl
theorem app63 : AppT prog #[63,63] 60 1 8:=⟨by kernel_rfl,⟨60,by kernel_rfl⟩,by kernel_rfl,by omega,by kernel_rfl,⟨_,(by kernel_rfl : zeroT prog 60 = some (.int .u64 0)),rfl,rfl⟩⟩
theorem sz63 : szT prog 63 = some 1:=by kernel_rfl
theorem ld63 {b o : Nat} {h : AH} : pLoad prog 63 (.pointer (some ⟨b,o,none⟩)) h = h.cell b o:=by kernel_rfl
theorem ze63 : zeroT prog 63 = some (Go.Value.slice none 0 0):=by kernel_rfl
theorem sz66 : szT prog 66 = some 11:=by kernel_rfl
theorem ld66 {b o : Nat} {h : AH} : pLoad prog 66 (.pointer (some ⟨b,o,none⟩)) h = (h.row b o 11).map fun cs=>.agg cs.toArray:=by kernel_rfl
theorem fa66_0 {b o : Nat} : pFieldAddr prog 66 (.pointer (some ⟨b,o,none⟩)) 0 = some (.pointer (some ⟨b,o + 0,none⟩)):=by kernel_rfl
theorem fa66_1 {b o : Nat} : pFieldAddr prog 66 (.pointer (some ⟨b,o,none⟩)) 1 = some (.pointer (some ⟨b,o + 1,none⟩)):=by kernel_rfl
theorem fa66_2 {b o : Nat} : pFieldAddr prog 66 (.pointer (some ⟨b,o,none⟩)) 2 = some (.pointer (some ⟨b,o + 2,none⟩)):=by kernel_rfl
theorem fa66_3 {b o : Nat} : pFieldAddr prog 66 (.pointer (some ⟨b,o,none⟩)) 3 = some (.pointer (some ⟨b,o + 10,none⟩)):=by kernel_rfl
theorem ze66 : zeroT prog 66 = some (Go.Value.agg #[Go.Value.int Go.IntKind.i64 0,Go.Value.slice none 0 0,Go.Value.int Go.IntKind.i64 0,Go.Value.int Go.IntKind.i64 0,Go.Value.int Go.IntKind.i64 0,Go.Value.int Go.IntKind.i64 0,Go.Value.string ByteArray.empty,Go.Value.int Go.IntKind.i64 0,Go.Value.int Go.IntKind.i64 0,Go.Value.string ByteArray.empty,Go.Value.slice none 0 0]):=by kernel_rfl
theorem u72 : prog.underlying 72 = some (Go.TypeDesc.slice 3):=by kernel_rfl
theorem el72 : elemT prog 72 = some 3:=by kernel_rfl
theorem bs72 (z : Int) (h : AH) : pBuildSlice prog 72 1 #[(0,(.int .i64 z))] h = some (.slice (some ⟨h.n,0,none⟩) 1 1,h.alloc (.cells [(.int .i64 z)] 3 true)):=by kernel_rfl
theorem app72 : AppT prog #[72,72] 3 1 8:=⟨by kernel_rfl,⟨3,by kernel_rfl⟩,by kernel_rfl,by omega,by kernel_rfl,⟨_,(by kernel_rfl : zeroT prog 3 = some (.int .i64 0)),rfl,rfl⟩⟩
theorem sz72 : szT prog 72 = some 1:=by kernel_rfl
theorem ld72 {b o : Nat} {h : AH} : pLoad prog 72 (.pointer (some ⟨b,o,none⟩)) h = h.cell b o:=by kernel_rfl
theorem ze72 : zeroT prog 72 = some (Go.Value.slice none 0 0):=by kernel_rfl
theorem sz80 : szT prog 80 = some 1:=by kernel_rfl
theorem ld80 {b o : Nat} {h : AH} : pLoad prog 80 (.pointer (some ⟨b,o,none⟩)) h = h.cell b o:=by kernel_rfl
theorem ze80 : zeroT prog 80 = some Go.Value.nilFunc:=by kernel_rfl
theorem sz81 : szT prog 81 = some 1:=by kernel_rfl
theorem ld81 {b o : Nat} {h : AH} : pLoad prog 81 (.pointer (some ⟨b,o,none⟩)) h = h.cell b o:=by kernel_rfl
theorem ze81 : zeroT prog 81 = some Go.Value.nilFunc:=by kernel_rfl
theorem sz82 : szT prog 82 = some 1:=by kernel_rfl
theorem ld82 {b o : Nat} {h : AH} : pLoad prog 82 (.pointer (some ⟨b,o,none⟩)) h = h.cell b o:=by kernel_rfl
theorem ze82 : zeroT prog 82 = some Go.Value.nilFunc:=by kernel_rfl
theorem sz83 : szT prog 83 = some 1:=by kernel_rfl
theorem ld83 {b o : Nat} {h : AH} : pLoad prog 83 (.pointer (some ⟨b,o,none⟩)) h = h.cell b o:=by kernel_rfl
theorem ze83 : zeroT prog 83 = some Go.Value.nilFunc:=by kernel_rfl
theorem sz84 : szT prog 84 = some 1:=by kernel_rfl
theorem ld84 {b o : Nat} {h : AH} : pLoad prog 84 (.pointer (some ⟨b,o,none⟩)) h = h.cell b o:=by kernel_rfl
theorem ze84 : zeroT prog 84 = some Go.Value.nilFunc:=by kernel_rfl
theorem sz86 : szT prog 86 = some 6:=by kernel_rfl
theorem ld86 {b o : Nat} {h : AH} : pLoad prog 86 (.pointer (some ⟨b,o,none⟩)) h = (h.row b o 6).map fun cs=>.agg cs.toArray:=by kernel_rfl
theorem fa86_0 {b o : Nat} : pFieldAddr prog 86 (.pointer (some ⟨b,o,none⟩)) 0 = some (.pointer (some ⟨b,o + 0,none⟩)):=by kernel_rfl
theorem fa86_1 {b o : Nat} : pFieldAddr prog 86 (.pointer (some ⟨b,o,none⟩)) 1 = some (.pointer (some ⟨b,o + 1,none⟩)):=by kernel_rfl
theorem fa86_2 {b o : Nat} : pFieldAddr prog 86 (.pointer (some ⟨b,o,none⟩)) 2 = some (.pointer (some ⟨b,o + 2,none⟩)):=by kernel_rfl
theorem fa86_3 {b o : Nat} : pFieldAddr prog 86 (.pointer (some ⟨b,o,none⟩)) 3 = some (.pointer (some ⟨b,o + 3,none⟩)):=by kernel_rfl
theorem fa86_4 {b o : Nat} : pFieldAddr prog 86 (.pointer (some ⟨b,o,none⟩)) 4 = some (.pointer (some ⟨b,o + 4,none⟩)):=by kernel_rfl
theorem fa86_5 {b o : Nat} : pFieldAddr prog 86 (.pointer (some ⟨b,o,none⟩)) 5 = some (.pointer (some ⟨b,o + 5,none⟩)):=by kernel_rfl
theorem ze86 : zeroT prog 86 = some (Go.Value.agg #[Go.Value.nilFunc,Go.Value.nilFunc,Go.Value.nilFunc,Go.Value.nilFunc,Go.Value.nilFunc,Go.Value.nilFunc]):=by kernel_rfl
theorem sz88 : szT prog 88 = some 1:=by kernel_rfl
theorem ld88 {b o : Nat} {h : AH} : pLoad prog 88 (.pointer (some ⟨b,o,none⟩)) h = h.cell b o:=by kernel_rfl
theorem ze88 : zeroT prog 88 = some Go.Value.nilFunc:=by kernel_rfl
theorem sz89 : szT prog 89 = some 1:=by kernel_rfl
theorem ld89 {b o : Nat} {h : AH} : pLoad prog 89 (.pointer (some ⟨b,o,none⟩)) h = h.cell b o:=by kernel_rfl
theorem ze89 : zeroT prog 89 = some Go.Value.nilFunc:=by kernel_rfl
theorem sz90 : szT prog 90 = some 1:=by kernel_rfl
theorem ld90 {b o : Nat} {h : AH} : pLoad prog 90 (.pointer (some ⟨b,o,none⟩)) h = h.cell b o:=by kernel_rfl
theorem ze90 : zeroT prog 90 = some Go.Value.nilFunc:=by kernel_rfl
theorem sz91 : szT prog 91 = some 1:=by kernel_rfl
theorem ld91 {b o : Nat} {h : AH} : pLoad prog 91 (.pointer (some ⟨b,o,none⟩)) h = h.cell b o:=by kernel_rfl
theorem ze91 : zeroT prog 91 = some Go.Value.nilFunc:=by kernel_rfl
theorem sz92 : szT prog 92 = some 1:=by kernel_rfl
theorem ld92 {b o : Nat} {h : AH} : pLoad prog 92 (.pointer (some ⟨b,o,none⟩)) h = h.cell b o:=by kernel_rfl
theorem ze92 : zeroT prog 92 = some Go.Value.nilFunc:=by kernel_rfl
theorem sz94 : szT prog 94 = some 6:=by kernel_rfl
theorem ld94 {b o : Nat} {h : AH} : pLoad prog 94 (.pointer (some ⟨b,o,none⟩)) h = (h.row b o 6).map fun cs=>.agg cs.toArray:=by kernel_rfl
theorem fa94_0 {b o : Nat} : pFieldAddr prog 94 (.pointer (some ⟨b,o,none⟩)) 0 = some (.pointer (some ⟨b,o + 0,none⟩)):=by kernel_rfl
theorem fa94_1 {b o : Nat} : pFieldAddr prog 94 (.pointer (some ⟨b,o,none⟩)) 1 = some (.pointer (some ⟨b,o + 1,none⟩)):=by kernel_rfl
theorem fa94_2 {b o : Nat} : pFieldAddr prog 94 (.pointer (some ⟨b,o,none⟩)) 2 = some (.pointer (some ⟨b,o + 2,none⟩)):=by kernel_rfl
theorem fa94_3 {b o : Nat} : pFieldAddr prog 94 (.pointer (some ⟨b,o,none⟩)) 3 = some (.pointer (some ⟨b,o + 3,none⟩)):=by kernel_rfl
theorem fa94_4 {b o : Nat} : pFieldAddr prog 94 (.pointer (some ⟨b,o,none⟩)) 4 = some (.pointer (some ⟨b,o + 4,none⟩)):=by kernel_rfl
theorem fa94_5 {b o : Nat} : pFieldAddr prog 94 (.pointer (some ⟨b,o,none⟩)) 5 = some (.pointer (some ⟨b,o + 5,none⟩)):=by kernel_rfl
theorem ze94 : zeroT prog 94 = some (Go.Value.agg #[Go.Value.nilFunc,Go.Value.nilFunc,Go.Value.nilFunc,Go.Value.nilFunc,Go.Value.nilFunc,Go.Value.nilFunc]):=by kernel_rfl
theorem sz96 : szT prog 96 = some 1:=by kernel_rfl
theorem ld96 {b o : Nat} {h : AH} : pLoad prog 96 (.pointer (some ⟨b,o,none⟩)) h = h.cell b o:=by kernel_rfl
theorem ze96 : zeroT prog 96 = some Go.Value.nilFunc:=by kernel_rfl
theorem sz97 : szT prog 97 = some 1:=by kernel_rfl
theorem ld97 {b o : Nat} {h : AH} : pLoad prog 97 (.pointer (some ⟨b,o,none⟩)) h = h.cell b o:=by kernel_rfl
theorem ze97 : zeroT prog 97 = some Go.Value.nilFunc:=by kernel_rfl
theorem sz98 : szT prog 98 = some 1:=by kernel_rfl
theorem ld98 {b o : Nat} {h : AH} : pLoad prog 98 (.pointer (some ⟨b,o,none⟩)) h = h.cell b o:=by kernel_rfl
theorem ze98 : zeroT prog 98 = some Go.Value.nilFunc:=by kernel_rfl
theorem sz99 : szT prog 99 = some 1:=by kernel_rfl
theorem ld99 {b o : Nat} {h : AH} : pLoad prog 99 (.pointer (some ⟨b,o,none⟩)) h = h.cell b o:=by kernel_rfl
theorem ze99 : zeroT prog 99 = some Go.Value.nilFunc:=by kernel_rfl
theorem sz100 : szT prog 100 = some 1:=by kernel_rfl
theorem ld100 {b o : Nat} {h : AH} : pLoad prog 100 (.pointer (some ⟨b,o,none⟩)) h = h.cell b o:=by kernel_rfl
theorem ze100 : zeroT prog 100 = some Go.Value.nilFunc:=by kernel_rfl
theorem sz101 : szT prog 101 = some 1:=by kernel_rfl
theorem ld101 {b o : Nat} {h : AH} : pLoad prog 101 (.pointer (some ⟨b,o,none⟩)) h = h.cell b o:=by kernel_rfl
theorem ze101 : zeroT prog 101 = some Go.Value.nilFunc:=by kernel_rfl
theorem sz103 : szT prog 103 = some 6:=by kernel_rfl
theorem ld103 {b o : Nat} {h : AH} : pLoad prog 103 (.pointer (some ⟨b,o,none⟩)) h = (h.row b o 6).map fun cs=>.agg cs.toArray:=by kernel_rfl
theorem fa103_0 {b o : Nat} : pFieldAddr prog 103 (.pointer (some ⟨b,o,none⟩)) 0 = some (.pointer (some ⟨b,o + 0,none⟩)):=by kernel_rfl
theorem fa103_1 {b o : Nat} : pFieldAddr prog 103 (.pointer (some ⟨b,o,none⟩)) 1 = some (.pointer (some ⟨b,o + 1,none⟩)):=by kernel_rfl
theorem fa103_2 {b o : Nat} : pFieldAddr prog 103 (.pointer (some ⟨b,o,none⟩)) 2 = some (.pointer (some ⟨b,o + 2,none⟩)):=by kernel_rfl
theorem fa103_3 {b o : Nat} : pFieldAddr prog 103 (.pointer (some ⟨b,o,none⟩)) 3 = some (.pointer (some ⟨b,o + 3,none⟩)):=by kernel_rfl
theorem fa103_4 {b o : Nat} : pFieldAddr prog 103 (.pointer (some ⟨b,o,none⟩)) 4 = some (.pointer (some ⟨b,o + 4,none⟩)):=by kernel_rfl
theorem fa103_5 {b o : Nat} : pFieldAddr prog 103 (.pointer (some ⟨b,o,none⟩)) 5 = some (.pointer (some ⟨b,o + 5,none⟩)):=by kernel_rfl
theorem ze103 : zeroT prog 103 = some (Go.Value.agg #[Go.Value.nilFunc,Go.Value.nilFunc,Go.Value.nilFunc,Go.Value.nilFunc,Go.Value.nilFunc,Go.Value.nilFunc]):=by kernel_rfl
theorem u105 : prog.underlying 105 = some (Go.TypeDesc.slice 4):=by kernel_rfl
theorem el105 : elemT prog 105 = some 4:=by kernel_rfl
theorem bs105 (z : Bool) (h : AH) : pBuildSlice prog 105 1 #[(0,(.bool z))] h = some (.slice (some ⟨h.n,0,none⟩) 1 1,h.alloc (.cells [(.bool z)] 4 true)):=by kernel_rfl
theorem app105 : AppT prog #[105,105] 4 1 1:=⟨by kernel_rfl,⟨4,by kernel_rfl⟩,by kernel_rfl,by omega,by kernel_rfl,⟨_,(by kernel_rfl : zeroT prog 4 = some (.bool false)),rfl,rfl⟩⟩
theorem sz105 : szT prog 105 = some 1:=by kernel_rfl
theorem ld105 {b o : Nat} {h : AH} : pLoad prog 105 (.pointer (some ⟨b,o,none⟩)) h = h.cell b o:=by kernel_rfl
theorem ze105 : zeroT prog 105 = some (Go.Value.slice none 0 0):=by kernel_rfl
theorem u109 : prog.underlying 109 = some (Go.TypeDesc.int Go.IntKind.u64):=by kernel_rfl
theorem sz109 : szT prog 109 = some 1:=by kernel_rfl
theorem ld109 {b o : Nat} {h : AH} : pLoad prog 109 (.pointer (some ⟨b,o,none⟩)) h = h.cell b o:=by kernel_rfl
theorem ze109 : zeroT prog 109 = some (Go.Value.int Go.IntKind.u64 0):=by kernel_rfl
theorem sz114 : szT prog 114 = some 1:=by kernel_rfl
theorem ld114 {b o : Nat} {h : AH} : pLoad prog 114 (.pointer (some ⟨b,o,none⟩)) h = h.cell b o:=by kernel_rfl
theorem ze114 : zeroT prog 114 = some (Go.Value.pointer none):=by kernel_rfl
theorem u121 : prog.underlying 121 = some (Go.TypeDesc.slice 2):=by kernel_rfl
theorem el121 : elemT prog 121 = some 2:=by kernel_rfl
theorem bs121 (z : Int) (h : AH) : pBuildSlice prog 121 1 #[(0,(.int .i64 z))] h = some (.slice (some ⟨h.n,0,none⟩) 1 1,h.alloc (.cells [(.int .i64 z)] 2 true)):=by kernel_rfl
theorem app121 : AppT prog #[121,121] 2 1 8:=⟨by kernel_rfl,⟨2,by kernel_rfl⟩,by kernel_rfl,by omega,by kernel_rfl,⟨_,(by kernel_rfl : zeroT prog 2 = some (.int .i64 0)),rfl,rfl⟩⟩
theorem sz121 : szT prog 121 = some 1:=by kernel_rfl
theorem ld121 {b o : Nat} {h : AH} : pLoad prog 121 (.pointer (some ⟨b,o,none⟩)) h = h.cell b o:=by kernel_rfl
theorem ze121 : zeroT prog 121 = some (Go.Value.slice none 0 0):=by kernel_rfl
theorem u122 : prog.underlying 122 = some (Go.TypeDesc.slice 9):=by kernel_rfl
theorem el122 : elemT prog 122 = some 9:=by kernel_rfl
theorem bs122 (z : ByteArray) (h : AH) : pBuildSlice prog 122 1 #[(0,(.string z))] h = some (.slice (some ⟨h.n,0,none⟩) 1 1,h.alloc (.cells [(.string z)] 9 true)):=by kernel_rfl
theorem app122 : AppT prog #[122,122] 9 1 16:=⟨by kernel_rfl,⟨9,by kernel_rfl⟩,by kernel_rfl,by omega,by kernel_rfl,⟨_,(by kernel_rfl : zeroT prog 9 = some (.string .empty)),rfl,rfl⟩⟩
theorem sz122 : szT prog 122 = some 1:=by kernel_rfl
theorem ld122 {b o : Nat} {h : AH} : pLoad prog 122 (.pointer (some ⟨b,o,none⟩)) h = h.cell b o:=by kernel_rfl
theorem ze122 : zeroT prog 122 = some (Go.Value.slice none 0 0):=by kernel_rfl
theorem sz144 : szT prog 144 = some 1:=by kernel_rfl
theorem ld144 {b o : Nat} {h : AH} : pLoad prog 144 (.pointer (some ⟨b,o,none⟩)) h = (h.row b o 1).map fun cs=>.agg cs.toArray:=by kernel_rfl
theorem fa144_0 {b o : Nat} : pFieldAddr prog 144 (.pointer (some ⟨b,o,none⟩)) 0 = some (.pointer (some ⟨b,o + 0,none⟩)):=by kernel_rfl
theorem ze144 : zeroT prog 144 = some (Go.Value.agg #[Go.Value.slice none 0 0]):=by kernel_rfl
theorem u153 : prog.underlying 153 = some (Go.TypeDesc.slice 33):=by kernel_rfl
theorem el153 : elemT prog 153 = some 33:=by kernel_rfl
theorem bs153 (a : Option Addr) (m c : Nat) (h : AH) : pBuildSlice prog 153 1 #[(0,(.slice a m c))] h = some (.slice (some ⟨h.n,0,none⟩) 1 1,h.alloc (.cells [(.slice a m c)] 33 true)):=by kernel_rfl
theorem app153 : AppT prog #[153,153] 33 1 24:=⟨by kernel_rfl,⟨33,by kernel_rfl⟩,by kernel_rfl,by omega,by kernel_rfl,⟨_,(by kernel_rfl : zeroT prog 33 = some (.slice none 0 0)),rfl,rfl⟩⟩
theorem sz153 : szT prog 153 = some 1:=by kernel_rfl
theorem ld153 {b o : Nat} {h : AH} : pLoad prog 153 (.pointer (some ⟨b,o,none⟩)) h = h.cell b o:=by kernel_rfl
theorem ze153 : zeroT prog 153 = some (Go.Value.slice none 0 0):=by kernel_rfl
theorem u154 : prog.underlying 154 = some (Go.TypeDesc.slice 158):=by kernel_rfl
theorem el154 : elemT prog 154 = some 158:=by kernel_rfl
theorem sz154 : szT prog 154 = some 1:=by kernel_rfl
theorem ld154 {b o : Nat} {h : AH} : pLoad prog 154 (.pointer (some ⟨b,o,none⟩)) h = h.cell b o:=by kernel_rfl
theorem ze154 : zeroT prog 154 = some (Go.Value.slice none 0 0):=by kernel_rfl
theorem sz156 : szT prog 156 = some 1:=by kernel_rfl
theorem ld156 {b o : Nat} {h : AH} : pLoad prog 156 (.pointer (some ⟨b,o,none⟩)) h = h.cell b o:=by kernel_rfl
theorem ze156 : zeroT prog 156 = some Go.Value.nilFunc:=by kernel_rfl
theorem sz158 : szT prog 158 = some 3:=by kernel_rfl
theorem ld158 {b o : Nat} {h : AH} : pLoad prog 158 (.pointer (some ⟨b,o,none⟩)) h = (h.row b o 3).map fun cs=>.agg cs.toArray:=by kernel_rfl
theorem fa158_0 {b o : Nat} : pFieldAddr prog 158 (.pointer (some ⟨b,o,none⟩)) 0 = some (.pointer (some ⟨b,o + 0,none⟩)):=by kernel_rfl
theorem fa158_1 {b o : Nat} : pFieldAddr prog 158 (.pointer (some ⟨b,o,none⟩)) 1 = some (.pointer (some ⟨b,o + 1,none⟩)):=by kernel_rfl
theorem fa158_2 {b o : Nat} : pFieldAddr prog 158 (.pointer (some ⟨b,o,none⟩)) 2 = some (.pointer (some ⟨b,o + 2,none⟩)):=by kernel_rfl
theorem ze158 : zeroT prog 158 = some (Go.Value.agg #[Go.Value.int Go.IntKind.u8 0,Go.Value.nilFunc,Go.Value.nilFunc]):=by kernel_rfl
theorem sz199 : szT prog 199 = some 1:=by kernel_rfl
theorem ld199 {b o : Nat} {h : AH} : pLoad prog 199 (.pointer (some ⟨b,o,none⟩)) h = h.cell b o:=by kernel_rfl
theorem ze199 : zeroT prog 199 = some (Go.Value.map none):=by kernel_rfl
theorem sz200 : szT prog 200 = some 0:=by kernel_rfl
theorem ld200 {b o : Nat} {h : AH} : pLoad prog 200 (.pointer (some ⟨b,o,none⟩)) h = (h.row b o 0).map fun cs=>.agg cs.toArray:=by kernel_rfl
theorem ze200 : zeroT prog 200 = some (Go.Value.agg #[]):=by kernel_rfl
end Go.Proofs.YtghelamfaaakcaaGreat.Sh
