/- Shallow functions, part 1. Printed by a program of the prover's own from the loaded program; Lean checks it. -/
import Derived.Test.YtghelamfaaakcaaGreatSz0
set_option linter.unusedVariables false
set_option linter.unusedSimpArgs false
set_option maxRecDepth 100000
namespace Go.Proofs.YtghelamfaaakcaaGreat.Sh
open Go Go.RowKit Go.Proofs.Ev
variable {β : Type} {inv : Inv} {k : Nat} {h : AH} {K : XE → Act → AH → Option β} {x0 x1 x2 x3 x4 x5 x6 x7 x8 x9 x10 x11 x12 x13 x14 x15 x16 x17 x18 x19 x20 x21 x22 x23 x24 x25 x26 x27 x28 x29 x30 x31 x32 x33 x34 x35 x36 x37 x38 x39 x40 x41 x42 x43 x44 x45 x46 x47 x48 x49 x50 x51 x52 x53 x54 x55 x56 x57 x58 x59 x60 x61 x62 x63 x64 x65 x66 x67 x68 x69 x70 x71 x72 x73 x74 x75 x76 x77 x78 x79 x80 x81 x82 x83 x84 x85 x86 x87 x88 x89 x90 x92 x93 x94 x95 x96 x98 x99 x100 x101 x102 x104 x105 x106 x107 : Value}
noncomputable def c6 : Code := codeOf Tryz.prog 6
theorem r6_0  : kCode env 6 false inv k (cp c6 2) (act 199 []) h K =
    K .normal (act 199 []) h := kq_reg
theorem r6_1  : kCode env 6 false inv k (cp c6 12) (act 199 []) h K =
    bnd (inv (.func 9) #[] #[] h) fun x32 =>
    bnd (pUn Tryz.prog .not x32.1) fun x33 =>
    K .normal (act 199 [(33, x33)]) x32.2 := kq_reg
theorem b6_rlr  : kCode env 6 false inv k (cp c6 13) (act 199 [(33, x33)]) h K = brV x33 (kCode env 6 false inv k (cp c6 26) (act 199 [(33, x33)]) h K) (kCode env 6 false inv k (cp c6 27) (act 199 [(33, x33)]) h K) := kq_cond
theorem r6_2  : kCode env 6 false inv k (cp c6 52) (act 199 [(33, x33)]) h K =
    K .normal (act 199 [(0, (.bool false))]) h := kq_reg
theorem res6_0 : resOfFn env.P 6 .ret (act 199 [(0, x0)]) h = some (x0, h) := kq_res
theorem r6_3  : kCode env 6 false inv k (cp c6 14) (act 199 [(33, x33)]) h K =
    bnd (inv (.func 20) #[] #[(.int .i64 5)] h) fun x34 =>
    bnd (pBuild Tryz.prog 31 #[]) fun x35 =>
    bnd (inv (.func 20) #[] #[(.int .i64 (-1))] x34.2) fun x36 =>
    bnd (pBuildSlice Tryz.prog 22 3 #[(0, x34.1), (1, x35), (2, x36.1)] x36.2) fun x37 =>
    K .normal (act 199 [(1, x37.1)]) x37.2 := kq_reg
theorem r6_4  : kCode env 6 false inv k (cp c6 30) (act 199 [(1, x1)]) h K =
    bnd (inv (.func 13) #[] #[(.int .i64 1), x1] h) fun x40 =>
    bnd (pExtract x40.1 0) fun x41 =>
    bnd (pExtract x40.1 1) fun x42 =>
    K .normal (act 199 [(1, x1), (2, x41), (3, x42)]) x40.2 := kq_reg
theorem r6_5  : kCode env 6 false inv k (cp c6 62) (act 199 [(1, x1), (2, x2), (3, x3)]) h K =
    bnd (inv (.func 21) #[] #[x2] h) fun x45 =>
    bnd (pExtract x45.1 0) fun x46 =>
    bnd (pExtract x45.1 1) fun x47 =>
    bnd (pExtract x45.1 2) fun x48 =>
    K .normal (act 199 [(1, x1), (2, x2), (3, x3), (4, x46), (5, x47), (6, x48)]) x45.2 := kq_reg
theorem r6_6  : kCode env 6 false inv k (cp c6 252) (act 199 [(1, x1), (2, x2), (3, x3), (4, x4), (5, x5), (6, x6)]) h K =
    bnd (pLen Tryz.prog #[9] x2 h) fun x50 =>
    bnd (pBin Tryz.prog .lss 3 (.tmp 50) (.const (.int .i64 3)) x50 (.int .i64 3)) fun x51 =>
    K .normal (act 199 [(1, x1), (2, x2), (3, x3), (4, x4), (5, x5), (6, x6), (51, x51)]) h := kq_reg
theorem b6_rlrrrrr  : kCode env 6 false inv k (cp c6 253) (act 199 [(1, x1), (2, x2), (3, x3), (4, x4), (5, x5), (6, x6), (51, x51)]) h K = brV x51 (kCode env 6 false inv k (cp c6 506) (act 199 [(1, x1), (2, x2), (3, x3), (4, x4), (5, x5), (6, x6), (51, x51)]) h K) (kCode env 6 false inv k (cp c6 507) (act 199 [(1, x1), (2, x2), (3, x3), (4, x4), (5, x5), (6, x6), (51, x51)]) h K) := kq_cond
theorem r6_7  : kCode env 6 false inv k (cp c6 1012) (act 199 [(1, x1), (2, x2), (3, x3), (4, x4), (5, x5), (6, x6), (51, x51)]) h K =
    K .normal (act 199 [(0, (.bool false))]) h := kq_reg
noncomputable abbrev G6_8 {β : Type} (inv : Inv) (x1 x2 x3 x4 x5 x6 : Value) (h : AH) (K : Value → Value → Value → AH → Option β) : Option β :=
    bnd (pLen Tryz.prog #[9] x2 h) fun x55 =>
    bnd (pBin Tryz.prog .sub 3 (.tmp 55) (.const (.int .i64 3)) x55 (.int .i64 3)) fun x56 =>
    bnd (pSlice Tryz.prog 9 x2 none (some x56) none h) fun x57 =>
    bnd (pBin Tryz.prog .add 9 (.tmp 57) (.const (.string { data := #[63, 63, 63] })) x57 (.string { data := #[63, 63, 63] })) fun x58 =>
    bnd (inv (.func 15) #[] #[x58] h) fun x59 =>
    bnd (pExtract x59.1 0) fun x60 =>
    bnd (pExtract x59.1 1) fun x61 =>
    bnd (pExtract x59.1 2) fun x62 =>
    bnd (pAlloc Tryz.prog 38 x59.2) fun x8 =>
    bnd (kSt (pStore Tryz.prog 38 x8.1 x61 x8.2)) fun u =>
    K (x60) (x8.1) (x62) u.2
theorem r6_8  : kCode env 6 false inv k (cp c6 254) (act 199 [(1, x1), (2, x2), (3, x3), (4, x4), (5, x5), (6, x6), (51, x51)]) h K =
    G6_8 inv x1 x2 x3 x4 x5 x6 h fun y7 y8 y9 h => K .normal (act 199 [(1, x1), (2, x2), (3, x3), (4, x4), (5, x5), (6, x6), (7, y7), (8, y8), (9, y9)]) h := kq_reg
noncomputable abbrev G6_9 {β : Type} (inv : Inv) (x1 x2 x3 x4 x5 x6 x7 x8 x9 : Value) (h : AH) (K : Value → AH → Option β) : Option β :=
    bnd (pLen Tryz.prog #[9] x2 h) fun x66 =>
    bnd (pBin Tryz.prog .sub 3 (.tmp 66) (.const (.int .i64 3)) x66 (.int .i64 3)) fun x67 =>
    bnd (pSlice Tryz.prog 9 x2 none (some x67) none h) fun x68 =>
    bnd (pBin Tryz.prog .add 9 (.tmp 68) (.const (.string { data := #[63, 63, 63] })) x68 (.string { data := #[63, 63, 63] })) fun x69 =>
    bnd (inv (.func 21) #[] #[x69] h) fun x70 =>
    bnd (pExtract x70.1 0) fun x71 =>
    bnd (pExtract x70.1 1) fun x72 =>
    bnd (pExtract x70.1 2) fun x73 =>
    K (x73) x70.2
theorem r6_9  : kCode env 6 false inv k (cp c6 510) (act 199 [(1, x1), (2, x2), (3, x3), (4, x4), (5, x5), (6, x6), (7, x7), (8, x8), (9, x9)]) h K =
    G6_9 inv x1 x2 x3 x4 x5 x6 x7 x8 x9 h fun y12 h => K .normal (act 199 [(1, x1), (3, x3), (4, x4), (5, x5), (6, x6), (7, x7), (8, x8), (9, x9), (12, y12)]) h := kq_reg
theorem r6_10  : kCode env 6 false inv k (cp c6 1022) (act 199 [(1, x1), (3, x3), (4, x4), (5, x5), (6, x6), (7, x7), (8, x8), (9, x9), (12, x12)]) h K =
    bnd (pBuild Tryz.prog 31 #[]) fun x75 =>
    bnd (pBuild Tryz.prog 31 #[]) fun x76 =>
    bnd (pBuildSlice Tryz.prog 22 2 #[(0, x75), (1, x76)] h) fun x77 =>
    bnd (inv (.func 13) #[] #[(.int .i64 3), x77.1] x77.2) fun x78 =>
    bnd (pExtract x78.1 0) fun x79 =>
    bnd (pExtract x78.1 1) fun x80 =>
    K .normal (act 199 [(1, x1), (3, x3), (4, x4), (5, x5), (6, x6), (7, x7), (8, x8), (9, x9), (12, x12), (13, x79), (14, x80)]) x78.2 := kq_reg
theorem r6_11  : kCode env 6 false inv k (cp c6 2046) (act 199 [(1, x1), (3, x3), (4, x4), (5, x5), (6, x6), (7, x7), (8, x8), (9, x9), (12, x12), (13, x13), (14, x14)]) h K =
    bnd (inv (.func 15) #[] #[x13] h) fun x83 =>
    bnd (pExtract x83.1 0) fun x84 =>
    bnd (pExtract x83.1 1) fun x85 =>
    bnd (pExtract x83.1 2) fun x86 =>
    bnd (pAlloc Tryz.prog 38 x83.2) fun x16 =>
    bnd (kSt (pStore Tryz.prog 38 x16.1 x85 x16.2)) fun u =>
    K .normal (act 199 [(1, x1), (3, x3), (4, x4), (5, x5), (6, x6), (7, x7), (8, x8), (9, x9), (12, x12), (13, x13), (14, x14), (15, x84), (16, x16.1), (17, x86)]) u.2 := kq_reg
theorem r6_12  : kCode env 6 false inv k (cp c6 4094) (act 199 [(1, x1), (3, x3), (4, x4), (5, x5), (6, x6), (7, x7), (8, x8), (9, x9), (12, x12), (13, x13), (14, x14), (15, x15), (16, x16), (17, x17)]) h K =
    bnd (inv (.func 13) #[] #[(.int .i64 0), (.slice none 0 0)] h) fun x88 =>
    bnd (pExtract x88.1 0) fun x89 =>
    bnd (pExtract x88.1 1) fun x90 =>
    K .normal (act 199 [(1, x1), (3, x3), (4, x4), (5, x5), (6, x6), (7, x7), (8, x8), (9, x9), (12, x12), (13, x13), (14, x14), (15, x15), (16, x16), (17, x17), (19, x90)]) x88.2 := kq_reg
theorem r6_13  : kCode env 6 false inv k (cp c6 8190) (act 199 [(1, x1), (3, x3), (4, x4), (5, x5), (6, x6), (7, x7), (8, x8), (9, x9), (12, x12), (13, x13), (14, x14), (15, x15), (16, x16), (17, x17), (19, x19)]) h K =
    bnd (pBuild Tryz.prog 31 #[(0, (.int .i64 2))]) fun x92 =>
    bnd (pBuildSlice Tryz.prog 22 1 #[(0, x92)] h) fun x93 =>
    bnd (inv (.func 13) #[] #[(.int .i64 1), x93.1] x93.2) fun x94 =>
    bnd (pExtract x94.1 0) fun x95 =>
    bnd (pExtract x94.1 1) fun x96 =>
    K .normal (act 199 [(1, x1), (3, x3), (4, x4), (5, x5), (6, x6), (7, x7), (8, x8), (9, x9), (12, x12), (13, x13), (14, x14), (15, x15), (16, x16), (17, x17), (19, x19), (21, x96)]) x94.2 := kq_reg
theorem r6_14  : kCode env 6 false inv k (cp c6 16382) (act 199 [(1, x1), (3, x3), (4, x4), (5, x5), (6, x6), (7, x7), (8, x8), (9, x9), (12, x12), (13, x13), (14, x14), (15, x15), (16, x16), (17, x17), (19, x19), (21, x21)]) h K =
    bnd (pBuild Tryz.prog 31 #[(0, (.int .i64 9))]) fun x98 =>
    bnd (pBuildSlice Tryz.prog 22 1 #[(0, x98)] h) fun x99 =>
    bnd (inv (.func 13) #[] #[(.int .i64 1), x99.1] x99.2) fun x100 =>
    bnd (pExtract x100.1 0) fun x101 =>
    bnd (pExtract x100.1 1) fun x102 =>
    K .normal (act 199 [(1, x1), (3, x3), (4, x4), (5, x5), (6, x6), (7, x7), (8, x8), (9, x9), (12, x12), (13, x13), (14, x14), (15, x15), (16, x16), (17, x17), (19, x19), (21, x21), (23, x102)]) x100.2 := kq_reg
theorem r6_15  : kCode env 6 false inv k (cp c6 32766) (act 199 [(1, x1), (3, x3), (4, x4), (5, x5), (6, x6), (7, x7), (8, x8), (9, x9), (12, x12), (13, x13), (14, x14), (15, x15), (16, x16), (17, x17), (19, x19), (21, x21), (23, x23)]) h K =
    bnd (pMakeSlice Tryz.prog 22 (.int .i64 4097) (.int .i64 4097) h) fun x104 =>
    bnd (inv (.func 13) #[] #[(.int .i64 1), x104.1] x104.2) fun x105 =>
    bnd (pExtract x105.1 0) fun x106 =>
    bnd (pExtract x105.1 1) fun x107 =>
    K .normal (act 199 [(1, x1), (3, x3), (4, x4), (5, x5), (6, x6), (7, x7), (8, x8), (9, x9), (12, x12), (13, x13), (14, x14), (15, x15), (16, x16), (17, x17), (19, x19), (21, x21), (23, x23), (25, x107)]) x105.2 := kq_reg
theorem r6_16  : kCode env 6 false inv k (cp c6 65534) (act 199 [(1, x1), (3, x3), (4, x4), (5, x5), (6, x6), (7, x7), (8, x8), (9, x9), (12, x12), (13, x13), (14, x14), (15, x15), (16, x16), (17, x17), (19, x19), (21, x21), (23, x23), (25, x25)]) h K =
    bnd (inv (.func 15) #[] #[(.string { data := #[1, 1, 0, 5, 0, 0, 0, 0, 0, 0, 0, 4, 0, 0, 0, 0, 0, 0, 0] })] h) fun x109 =>
    bnd (pExtract x109.1 0) fun x110 =>
    bnd (pExtract x109.1 1) fun x111 =>
    bnd (pExtract x109.1 2) fun x112 =>
    bnd (pAlloc Tryz.prog 38 x109.2) fun x27 =>
    bnd (kSt (pStore Tryz.prog 38 x27.1 x111 x27.2)) fun u =>
    K .normal (act 199 [(1, x1), (3, x3), (4, x4), (5, x5), (6, x6), (7, x7), (8, x8), (9, x9), (12, x12), (13, x13), (14, x14), (15, x15), (16, x16), (17, x17), (19, x19), (21, x21), (23, x23), (25, x25), (28, x112)]) u.2 := kq_reg
theorem r6_17  : kCode env 6 false inv k (cp c6 131070) (act 199 [(1, x1), (3, x3), (4, x4), (5, x5), (6, x6), (7, x7), (8, x8), (9, x9), (12, x12), (13, x13), (14, x14), (15, x15), (16, x16), (17, x17), (19, x19), (21, x21), (23, x23), (25, x25), (28, x28)]) h K =
    bnd (pBin Tryz.prog .add 9 (.tmp 114) (.const (.string { data := #[97] })) x13 (.string { data := #[97] })) fun x115 =>
    bnd (inv (.func 21) #[] #[x115] h) fun x116 =>
    bnd (pExtract x116.1 0) fun x117 =>
    bnd (pExtract x116.1 1) fun x118 =>
    bnd (pExtract x116.1 2) fun x119 =>
    K .normal (act 199 [(1, x1), (3, x3), (4, x4), (5, x5), (6, x6), (7, x7), (8, x8), (9, x9), (12, x12), (13, x13), (14, x14), (15, x15), (16, x16), (17, x17), (19, x19), (21, x21), (23, x23), (25, x25), (28, x28), (31, x119)]) x116.2 := kq_reg
noncomputable abbrev G6_18 {β : Type} (inv : Inv) (x1 x3 x4 x5 x6 x7 x8 x9 x12 x13 x14 x15 x16 x17 x19 x21 x23 x25 x28 x31 : Value) (h : AH) (K : Value → AH → Option β) : Option β :=
    bnd (pBin Tryz.prog .eql 25 (.tmp 120) (.const (.int .i64 0)) x3 (.int .i64 0)) fun x121 =>
    bnd (gd3 (some x121) true h (some (x6, h))) fun x123 =>
    bnd (gd3 (some x121) true x123.2.1 (lt (pBin Tryz.prog .eql 25 (.tmp 123) (.const (.int .i64 0)) x123.1 (.int .i64 0)) x123.2.1)) fun x124 =>
    bnd (pickV x121 x124.1 (.bool false)) fun x125 =>
    bnd (gd3 (some x125) true x124.2.1 (some (x4, x124.2.1))) fun x127 =>
    bnd (gd3 (some x125) true x127.2.1 (lt (pBin Tryz.prog .eql 3 (.tmp 127) (.const (.int .i64 1)) x127.1 (.int .i64 1)) x127.2.1)) fun x128 =>
    bnd (pickV x125 x128.1 (.bool false)) fun x129 =>
    bnd (gd3 (some x129) true x128.2.1 (some (x5, x128.2.1))) fun x131 =>
    bnd (gd3 (some x129) true x131.2.1 (some (x1, x131.2.1))) fun x132 =>
    bnd (gd3 (some x129) true x132.2.1 (inv (.func 22) #[] #[x131.1, x132.1] x132.2.1)) fun x133 =>
    bnd (pickV x129 x133.1 (.bool false)) fun x134 =>
    bnd (gd3 (some x134) true x133.2.1 (some (x9, x133.2.1))) fun x136 =>
    bnd (gd3 (some x134) true x136.2.1 (lt (pBin Tryz.prog .eql 25 (.tmp 136) (.const (.int .i64 0)) x136.1 (.int .i64 0)) x136.2.1)) fun x137 =>
    bnd (pickV x134 x137.1 (.bool false)) fun x138 =>
    bnd (gd3 (some x138) true x137.2.1 (some (x7, x137.2.1))) fun x140 =>
    bnd (gd3 (some x138) true x140.2.1 (lt (pBin Tryz.prog .eql 3 (.tmp 140) (.const (.int .i64 1)) x140.1 (.int .i64 1)) x140.2.1)) fun x141 =>
    bnd (pickV x138 x141.1 (.bool false)) fun x142 =>
    bnd (gd3 (some x142) true x141.2.1 (lt (pLoad Tryz.prog 38 x8 x141.2.1) x141.2.1)) fun x144 =>
    bnd (gd3 (some x142) true x144.2.1 (inv (.func 20) #[] #[(.int .i64 (-1))] x144.2.1)) fun x145 =>
    bnd (gd3 (some x142) true x145.2.1 (inv (.func 20) #[] #[(.int .i64 5)] x145.2.1)) fun x146 =>
    bnd (gd3 (some x142) true x146.2.1 (lt (pBuild Tryz.prog 38 #[(0, (.int .i64 3)), (1, (.int .i64 1)), (2, x145.1), (3, x146.1)]) x146.2.1)) fun x147 =>
    bnd (gd3 (some x142) true x147.2.1 (lt (pBin Tryz.prog .eql 38 (.tmp 144) (.tmp 147) x144.1 x147.1) x147.2.1)) fun x148 =>
    bnd (pickV x142 x148.1 (.bool false)) fun x149 =>
    bnd (gd3 (some x149) true x148.2.1 (some (x12, x148.2.1))) fun x151 =>
    bnd (gd3 (some x149) true x151.2.1 (lt (pBin Tryz.prog .eql 25 (.tmp 151) (.const (.int .i64 4)) x151.1 (.int .i64 4)) x151.2.1)) fun x152 =>
    bnd (pickV x149 x152.1 (.bool false)) fun x153 =>
    bnd (gd3 (some x153) true x152.2.1 (some (x14, x152.2.1))) fun x155 =>
    bnd (gd3 (some x153) true x155.2.1 (lt (pBin Tryz.prog .eql 25 (.tmp 155) (.const (.int .i64 0)) x155.1 (.int .i64 0)) x155.2.1)) fun x156 =>
    bnd (pickV x153 x156.1 (.bool false)) fun x157 =>
    bnd (gd3 (some x157) true x156.2.1 (some (x13, x156.2.1))) fun x159 =>
    bnd (gd3 (some x157) true x159.2.1 (lt (pBin Tryz.prog .eql 9 (.tmp 159) (.const (.string { data := #[3, 2, 1] })) x159.1 (.string { data := #[3, 2, 1] })) x159.2.1)) fun x160 =>
    bnd (pickV x157 x160.1 (.bool false)) fun x161 =>
    bnd (gd3 (some x161) true x160.2.1 (some (x17, x160.2.1))) fun x163 =>
    bnd (gd3 (some x161) true x163.2.1 (lt (pBin Tryz.prog .eql 25 (.tmp 163) (.const (.int .i64 0)) x163.1 (.int .i64 0)) x163.2.1)) fun x164 =>
    bnd (pickV x161 x164.1 (.bool false)) fun x165 =>
    bnd (gd3 (some x165) true x164.2.1 (some (x15, x164.2.1))) fun x167 =>
    bnd (gd3 (some x165) true x167.2.1 (lt (pBin Tryz.prog .eql 3 (.tmp 167) (.const (.int .i64 3)) x167.1 (.int .i64 3)) x167.2.1)) fun x168 =>
    bnd (pickV x165 x168.1 (.bool false)) fun x169 =>
    bnd (gd3 (some x169) true x168.2.1 (lt (pLoad Tryz.prog 38 x16 x168.2.1) x168.2.1)) fun x171 =>
    bnd (gd3 (some x169) true x171.2.1 (lt (pBuild Tryz.prog 38 #[(0, (.int .i64 2)), (1, (.int .i64 2))]) x171.2.1)) fun x172 =>
    bnd (gd3 (some x169) true x172.2.1 (lt (pBin Tryz.prog .eql 38 (.tmp 171) (.tmp 172) x171.1 x172.1) x172.2.1)) fun x173 =>
    bnd (pickV x169 x173.1 (.bool false)) fun x174 =>
    bnd (gd3 (some x174) true x173.2.1 (some (x19, x173.2.1))) fun x176 =>
    bnd (gd3 (some x174) true x176.2.1 (lt (pBin Tryz.prog .eql 25 (.tmp 176) (.const (.int .i64 2)) x176.1 (.int .i64 2)) x176.2.1)) fun x177 =>
    bnd (pickV x174 x177.1 (.bool false)) fun x178 =>
    bnd (gd3 (some x178) true x177.2.1 (some (x21, x177.2.1))) fun x180 =>
    bnd (gd3 (some x178) true x180.2.1 (lt (pBin Tryz.prog .eql 25 (.tmp 180) (.const (.int .i64 11)) x180.1 (.int .i64 11)) x180.2.1)) fun x181 =>
    bnd (pickV x178 x181.1 (.bool false)) fun x182 =>
    bnd (gd3 (some x182) true x181.2.1 (some (x23, x181.2.1))) fun x184 =>
    bnd (gd3 (some x182) true x184.2.1 (lt (pBin Tryz.prog .eql 25 (.tmp 184) (.const (.int .i64 2)) x184.1 (.int .i64 2)) x184.2.1)) fun x185 =>
    bnd (pickV x182 x185.1 (.bool false)) fun x186 =>
    bnd (gd3 (some x186) true x185.2.1 (some (x25, x185.2.1))) fun x188 =>
    bnd (gd3 (some x186) true x188.2.1 (lt (pBin Tryz.prog .eql 25 (.tmp 188) (.const (.int .i64 3)) x188.1 (.int .i64 3)) x188.2.1)) fun x189 =>
    bnd (pickV x186 x189.1 (.bool false)) fun x190 =>
    bnd (gd3 (some x190) true x189.2.1 (some (x28, x189.2.1))) fun x192 =>
    bnd (gd3 (some x190) true x192.2.1 (lt (pBin Tryz.prog .eql 25 (.tmp 192) (.const (.int .i64 4)) x192.1 (.int .i64 4)) x192.2.1)) fun x193 =>
    bnd (pickV x190 x193.1 (.bool false)) fun x194 =>
    bnd (gd3 (some x194) true x193.2.1 (some (x31, x193.2.1))) fun x196 =>
    bnd (gd3 (some x194) true x196.2.1 (lt (pBin Tryz.prog .eql 25 (.tmp 196) (.const (.int .i64 4)) x196.1 (.int .i64 4)) x196.2.1)) fun x197 =>
    bnd (pickV x194 x197.1 (.bool false)) fun x198 =>
    chkK ((!x144.2.2 || !x145.2.2 || (sameO (pLoad Tryz.prog 38 x8 x144.2.1) x144.1 && sameO (pLoad Tryz.prog 38 x8 x145.2.1) x144.1)) && ((!x144.2.2 || !x146.2.2 || (sameO (pLoad Tryz.prog 38 x8 x145.2.1) x144.1 && sameO (pLoad Tryz.prog 38 x8 x146.2.1) x144.1)) && true)) <|
    K (x198) x197.2.1
theorem r6_18  : kCode env 6 false inv k (cp c6 262142) (act 199 [(1, x1), (3, x3), (4, x4), (5, x5), (6, x6), (7, x7), (8, x8), (9, x9), (12, x12), (13, x13), (14, x14), (15, x15), (16, x16), (17, x17), (19, x19), (21, x21), (23, x23), (25, x25), (28, x28), (31, x31)]) h K =
    G6_18 inv x1 x3 x4 x5 x6 x7 x8 x9 x12 x13 x14 x15 x16 x17 x19 x21 x23 x25 x28 x31 h fun y0 h => K .normal (act 199 [(0, y0)]) h := kq_draw
/-- shadowbook/shadowbooklaw10.SegmentNames -/
noncomputable def F6 (inv : Inv) (k : Nat) (h : AH) : Option (Value × AH) :=
    bnd (inv (.func 9) #[] #[] h) fun x32 =>
    bnd (pUn Tryz.prog .not x32.1) fun x33 =>
    brV x33
    (some ((.bool false), x32.2))
    (bnd (inv (.func 20) #[] #[(.int .i64 5)] x32.2) fun x34 =>
    bnd (pBuild Tryz.prog 31 #[]) fun x35 =>
    bnd (inv (.func 20) #[] #[(.int .i64 (-1))] x34.2) fun x36 =>
    bnd (pBuildSlice Tryz.prog 22 3 #[(0, x34.1), (1, x35), (2, x36.1)] x36.2) fun x37 =>
    bnd (inv (.func 13) #[] #[(.int .i64 1), x37.1] x37.2) fun x40 =>
    bnd (pExtract x40.1 0) fun x41 =>
    bnd (pExtract x40.1 1) fun x42 =>
    bnd (inv (.func 21) #[] #[x41] x40.2) fun x45 =>
    bnd (pExtract x45.1 0) fun x46 =>
    bnd (pExtract x45.1 1) fun x47 =>
    bnd (pExtract x45.1 2) fun x48 =>
    bnd (pLen Tryz.prog #[9] x41 x45.2) fun x50 =>
    bnd (pBin Tryz.prog .lss 3 (.tmp 50) (.const (.int .i64 3)) x50 (.int .i64 3)) fun x51 =>
    brV x51
    (some ((.bool false), x45.2))
    (G6_8 inv x37.1 x41 x42 x46 x47 x48 x45.2 fun y7 y8 y9 h =>
    G6_9 inv x37.1 x41 x42 x46 x47 x48 y7 y8 y9 h fun y12 h_1 =>
    bnd (pBuild Tryz.prog 31 #[]) fun x75 =>
    bnd (pBuild Tryz.prog 31 #[]) fun x76 =>
    bnd (pBuildSlice Tryz.prog 22 2 #[(0, x75), (1, x76)] h_1) fun x77 =>
    bnd (inv (.func 13) #[] #[(.int .i64 3), x77.1] x77.2) fun x78 =>
    bnd (pExtract x78.1 0) fun x79 =>
    bnd (pExtract x78.1 1) fun x80 =>
    bnd (inv (.func 15) #[] #[x79] x78.2) fun x83 =>
    bnd (pExtract x83.1 0) fun x84 =>
    bnd (pExtract x83.1 1) fun x85 =>
    bnd (pExtract x83.1 2) fun x86 =>
    bnd (pAlloc Tryz.prog 38 x83.2) fun x16 =>
    bnd (kSt (pStore Tryz.prog 38 x16.1 x85 x16.2)) fun u =>
    bnd (inv (.func 13) #[] #[(.int .i64 0), (.slice none 0 0)] u.2) fun x88 =>
    bnd (pExtract x88.1 0) fun x89 =>
    bnd (pExtract x88.1 1) fun x90 =>
    bnd (pBuild Tryz.prog 31 #[(0, (.int .i64 2))]) fun x92 =>
    bnd (pBuildSlice Tryz.prog 22 1 #[(0, x92)] x88.2) fun x93 =>
    bnd (inv (.func 13) #[] #[(.int .i64 1), x93.1] x93.2) fun x94 =>
    bnd (pExtract x94.1 0) fun x95 =>
    bnd (pExtract x94.1 1) fun x96 =>
    bnd (pBuild Tryz.prog 31 #[(0, (.int .i64 9))]) fun x98 =>
    bnd (pBuildSlice Tryz.prog 22 1 #[(0, x98)] x94.2) fun x99 =>
    bnd (inv (.func 13) #[] #[(.int .i64 1), x99.1] x99.2) fun x100 =>
    bnd (pExtract x100.1 0) fun x101 =>
    bnd (pExtract x100.1 1) fun x102 =>
    bnd (pMakeSlice Tryz.prog 22 (.int .i64 4097) (.int .i64 4097) x100.2) fun x104 =>
    bnd (inv (.func 13) #[] #[(.int .i64 1), x104.1] x104.2) fun x105 =>
    bnd (pExtract x105.1 0) fun x106 =>
    bnd (pExtract x105.1 1) fun x107 =>
    bnd (inv (.func 15) #[] #[(.string { data := #[1, 1, 0, 5, 0, 0, 0, 0, 0, 0, 0, 4, 0, 0, 0, 0, 0, 0, 0] })] x105.2) fun x109 =>
    bnd (pExtract x109.1 0) fun x110 =>
    bnd (pExtract x109.1 1) fun x111 =>
    bnd (pExtract x109.1 2) fun x112 =>
    bnd (pAlloc Tryz.prog 38 x109.2) fun x27 =>
    bnd (kSt (pStore Tryz.prog 38 x27.1 x111 x27.2)) fun u_2 =>
    bnd (pBin Tryz.prog .add 9 (.tmp 114) (.const (.string { data := #[97] })) x79 (.string { data := #[97] })) fun x115 =>
    bnd (inv (.func 21) #[] #[x115] u_2.2) fun x116 =>
    bnd (pExtract x116.1 0) fun x117 =>
    bnd (pExtract x116.1 1) fun x118 =>
    bnd (pExtract x116.1 2) fun x119 =>
    G6_18 inv x37.1 x42 x46 x47 x48 y7 y8 y9 y12 x79 x80 x84 x16.1 x86 x90 x96 x102 x107 x112 x119 x116.2 fun y0 h_3 =>
    some (y0, h_3)))
theorem F6_eq : eFun env k inv 6 #[] h = F6 inv k  h := by
      refine (kq_fun (a := act 199 []) (c := cp c6 1)).trans ?_
      unfold F6
      simp only [kq_seq c6 1, r6_0, kq_seq c6 3, kq_seq c6 6, r6_1, b6_rlr, kq_seq c6 26, r6_2, kq_ret c6 53, res6_0, kq_skip c6 27, kq_seq c6 7, r6_3, kq_seq c6 15, r6_4, kq_seq c6 31, r6_5, kq_seq c6 63, kq_seq c6 126, r6_6, b6_rlrrrrr, kq_seq c6 506, r6_7, kq_ret c6 1013, kq_skip c6 507, kq_seq c6 127, r6_8, kq_seq c6 255, r6_9, kq_seq c6 511, r6_10, kq_seq c6 1023, r6_11, kq_seq c6 2047, r6_12, kq_seq c6 4095, r6_13, kq_seq c6 8191, r6_14, kq_seq c6 16383, r6_15, kq_seq c6 32767, r6_16, kq_seq c6 65535, r6_17, kq_seq c6 131071, r6_18, kq_ret c6 262143, reduceIte, reduceCtorEq, XE.exit.injEq, Nat.reduceEqDiff, Nat.reduceMul, Nat.reduceAdd] <;> kernel_rfl
theorem F6_call : eInv env (k + 1) (.func 6) #[] #[] h = F6 (eInv env k) k  h := kq_inv F6_eq
noncomputable def c9 : Code := codeOf Tryz.prog 9
theorem r9_0  : kCode env 9 false inv k (cp c9 2) (act 16 []) h K =
    K .normal (act 16 []) h := kq_reg
theorem r9_1  : kCode env 9 false inv k (cp c9 6) (act 16 []) h K =
    bnd (pBuild Tryz.prog 31 #[(0, (.int .i64 2)), (1, (.int .i64 1))]) fun x4 =>
    bnd (pBuild Tryz.prog 31 #[]) fun x5 =>
    bnd (pBuildSlice Tryz.prog 22 2 #[(0, x4), (1, x5)] h) fun x6 =>
    bnd (inv (.func 13) #[] #[(.int .i64 2), x6.1] x6.2) fun x7 =>
    bnd (pExtract x7.1 0) fun x8 =>
    bnd (pExtract x7.1 1) fun x9 =>
    K .normal (act 16 [(1, x8), (2, x9)]) x7.2 := kq_reg
noncomputable abbrev G9_2 {β : Type} (inv : Inv) (x1 x2 : Value) (h : AH) (K : Value → AH → Option β) : Option β :=
    bnd (pBin Tryz.prog .eql 25 (.tmp 10) (.const (.int .i64 0)) x2 (.int .i64 0)) fun x11 =>
    bnd (gd (some x11) true h (some (x1, h))) fun x13 =>
    bnd (gd (some x11) true x13.2 (lt (pBin Tryz.prog .eql 9 (.tmp 13) (.const (.string { data := #[2, 2, 2, 2, 1, 1, 1] })) x13.1 (.string { data := #[2, 2, 2, 2, 1, 1, 1] })) x13.2)) fun x14 =>
    bnd (pickV x11 x14.1 (.bool false)) fun x15 =>
    K (x15) x14.2
theorem r9_2  : kCode env 9 false inv k (cp c9 14) (act 16 [(1, x1), (2, x2)]) h K =
    G9_2 inv x1 x2 h fun y0 h => K .normal (act 16 [(0, y0)]) h := kq_reg
theorem res9_0 : resOfFn env.P 9 .ret (act 16 [(0, x0)]) h = some (x0, h) := kq_res
/-- shadowbook/shadowbooklaw10.lives -/
noncomputable def F9 (inv : Inv) (k : Nat) (h : AH) : Option (Value × AH) :=
    bnd (pBuild Tryz.prog 31 #[(0, (.int .i64 2)), (1, (.int .i64 1))]) fun x4 =>
    bnd (pBuild Tryz.prog 31 #[]) fun x5 =>
    bnd (pBuildSlice Tryz.prog 22 2 #[(0, x4), (1, x5)] h) fun x6 =>
    bnd (inv (.func 13) #[] #[(.int .i64 2), x6.1] x6.2) fun x7 =>
    bnd (pExtract x7.1 0) fun x8 =>
    bnd (pExtract x7.1 1) fun x9 =>
    G9_2 inv x8 x9 x7.2 fun y0 h =>
    some (y0, h)
theorem F9_eq : eFun env k inv 9 #[] h = F9 inv k  h := by
      refine (kq_fun (a := act 16 []) (c := cp c9 1)).trans ?_
      unfold F9
      simp only [kq_seq c9 1, r9_0, kq_seq c9 3, r9_1, kq_seq c9 7, r9_2, kq_ret c9 15, res9_0, reduceIte, reduceCtorEq, XE.exit.injEq, Nat.reduceEqDiff, Nat.reduceMul, Nat.reduceAdd] <;> kernel_rfl
theorem F9_call : eInv env (k + 1) (.func 9) #[] #[] h = F9 (eInv env k) k  h := kq_inv F9_eq
noncomputable def c11 : Code := codeOf Tryz.prog 11
theorem r11_0  : kCode env 11 false inv k (cp c11 2) (act 35 [(0, x0), (1, x1)]) h K =
    K .normal (act 35 [(0, x0), (1, x1)]) h := kq_reg
theorem r11_1  : kCode env 11 false inv k (cp c11 12) (act 35 [(0, x0), (1, x1)]) h K =
    bnd (inv (.func 28) #[] #[x0] h) fun x9 =>
    bnd (pBin Tryz.prog .eql 54 (.tmp 9) (.const .nilIface) x9.1 .nilIface) fun x10 =>
    K .normal (act 35 [(0, x0), (1, x1), (10, x10)]) x9.2 := kq_reg
theorem b11_rlr  : kCode env 11 false inv k (cp c11 13) (act 35 [(0, x0), (1, x1), (10, x10)]) h K = brV x10 (kCode env 11 false inv k (cp c11 26) (act 35 [(0, x0), (1, x1), (10, x10)]) h K) (kCode env 11 false inv k (cp c11 27) (act 35 [(0, x0), (1, x1), (10, x10)]) h K) := kq_cond
theorem r11_2  : kCode env 11 false inv k (cp c11 52) (act 35 [(0, x0), (1, x1), (10, x10)]) h K =
    K .normal (act 35 [(4, (.int .i64 2))]) h := kq_reg
theorem res11_0 : resOfFn env.P 11 .ret (act 35 [(4, x4)]) h = some (x4, h) := kq_res
theorem r11_3  : kCode env 11 false inv k (cp c11 28) (act 35 [(0, x0), (1, x1), (10, x10)]) h K =
    bnd (pLen Tryz.prog #[22] x1 h) fun x12 =>
    bnd (pBin Tryz.prog .gtr 3 (.tmp 12) (.const (.int .i64 4096)) x12 (.int .i64 4096)) fun x13 =>
    K .normal (act 35 [(0, x0), (1, x1), (13, x13)]) h := kq_reg
theorem b11_rlrr  : kCode env 11 false inv k (cp c11 29) (act 35 [(0, x0), (1, x1), (13, x13)]) h K = brV x13 (kCode env 11 false inv k (cp c11 58) (act 35 [(0, x0), (1, x1), (13, x13)]) h K) (kCode env 11 false inv k (cp c11 59) (act 35 [(0, x0), (1, x1), (13, x13)]) h K) := kq_cond
theorem r11_4  : kCode env 11 false inv k (cp c11 116) (act 35 [(0, x0), (1, x1), (13, x13)]) h K =
    K .normal (act 35 [(4, (.int .i64 3))]) h := kq_reg
theorem r11_5  : kCode env 11 false inv k (cp c11 60) (act 35 [(0, x0), (1, x1), (13, x13)]) h K =
    bnd (pLen Tryz.prog #[22] x1 h) fun x15 =>
    K .normal (act 35 [(0, x0), (14, x1), (15, x15), (16, (.int .i64 0))]) h := kq_reg
theorem r11_6  : kCode env 11 false inv k (cp c11 488) (act 35 [(0, x0), (14, x14), (15, x15), (16, x16)]) h K =
    bnd (pBin Tryz.prog .lss 3 (.tmp 16) (.tmp 15) x16 x15) fun x17 =>
    K .normal (act 35 [(0, x0), (14, x14), (15, x15), (16, x16), (17, x17)]) h := kq_reg
theorem b11_lrllrlrrr  : kCode env 11 false inv k (cp c11 978) (act 35 [(0, x0), (14, x14), (15, x15), (16, x16), (17, x17)]) h K = brV x17 (kCode env 11 false inv k (cp c11 1956) (act 35 [(0, x0), (14, x14), (15, x15), (16, x16), (17, x17)]) h K) (kCode env 11 false inv k (cp c11 1957) (act 35 [(0, x0), (14, x14), (15, x15), (16, x16), (17, x17)]) h K) := kq_cond
theorem r11_7  : kCode env 11 false inv k (cp c11 7832) (act 35 [(0, x0), (14, x14), (15, x15), (16, x16), (17, x17)]) h K =
    bnd (pIndexAddr Tryz.prog 22 x14 x16) fun x18 =>
    bnd (pLoad Tryz.prog 31 x18 h) fun x19 =>
    bnd (pAlloc Tryz.prog 31 h) fun x6 =>
    bnd (kSt (pStore Tryz.prog 31 x6.1 x19 x6.2)) fun u =>
    K .normal (act 35 [(0, x0), (6, x6.1), (14, x14), (15, x15), (16, x16)]) u.2 := kq_reg
theorem r11_8  : kCode env 11 false inv k (cp c11 31332) (act 35 [(0, x0), (6, x6), (14, x14), (15, x15), (16, x16)]) h K =
    bnd (pLoad Tryz.prog 31 x6 h) fun x20 =>
    bnd (inv (.func 29) #[] #[x20] h) fun x21 =>
    K .normal (act 35 [(0, x0), (6, x6), (7, x21.1), (14, x14), (15, x15), (16, x16)]) x21.2 := kq_reg
theorem r11_9  : kCode env 11 false inv k (cp c11 62666) (act 35 [(0, x0), (6, x6), (7, x7), (14, x14), (15, x15), (16, x16)]) h K =
    bnd (pBin Tryz.prog .neq 25 (.tmp 22) (.const (.int .i64 0)) x7 (.int .i64 0)) fun x23 =>
    K .normal (act 35 [(0, x0), (6, x6), (7, x7), (14, x14), (15, x15), (16, x16), (23, x23)]) h := kq_reg
theorem b11_rrlrllrrllrlrrr  : kCode env 11 false inv k (cp c11 62667) (act 35 [(0, x0), (6, x6), (7, x7), (14, x14), (15, x15), (16, x16), (23, x23)]) h K = brV x23 (kCode env 11 false inv k (cp c11 125334) (act 35 [(0, x0), (6, x6), (7, x7), (14, x14), (15, x15), (16, x16), (23, x23)]) h K) (kCode env 11 false inv k (cp c11 125335) (act 35 [(0, x0), (6, x6), (7, x7), (14, x14), (15, x15), (16, x16), (23, x23)]) h K) := kq_cond
theorem r11_10  : kCode env 11 false inv k (cp c11 250668) (act 35 [(0, x0), (6, x6), (7, x7), (14, x14), (15, x15), (16, x16), (23, x23)]) h K =
    K .normal (act 35 [(4, x7)]) h := kq_reg
noncomputable abbrev G11_11 {β : Type} (inv : Inv) (x0 x6 x14 x15 x16 : Value) (h : AH) (K : Value → AH → Option β) : Option β :=
    bnd (pFieldAddr Tryz.prog 31 x6 0) fun x25 =>
    bnd (pLoad Tryz.prog 3 x25 h) fun x26 =>
    bnd (pBin Tryz.prog .neq 3 (.tmp 26) (.tmp 27) x26 x0) fun x28 =>
    bnd (gd (some x28) true h (lt (pFieldAddr Tryz.prog 31 x6 0) h)) fun x30 =>
    bnd (gd (some x28) true x30.2 (lt (pLoad Tryz.prog 3 x30.1 x30.2) x30.2)) fun x31 =>
    bnd (gd (some x28) true x31.2 (lt (pBin Tryz.prog .neq 3 (.tmp 31) (.const (.int .i64 0)) x31.1 (.int .i64 0)) x31.2)) fun x32 =>
    bnd (pickV x28 x32.1 (.bool false)) fun x33 =>
    K (x33) x32.2
theorem r11_11  : kCode env 11 false inv k (cp c11 31334) (act 35 [(0, x0), (6, x6), (7, x7), (14, x14), (15, x15), (16, x16), (23, x23)]) h K =
    G11_11 inv x0 x6 x14 x15 x16 h fun y33 h => K .normal (act 35 [(0, x0), (14, x14), (15, x15), (16, x16), (33, y33)]) h := kq_reg
theorem b11_rrrllrrllrlrrr  : kCode env 11 false inv k (cp c11 31335) (act 35 [(0, x0), (14, x14), (15, x15), (16, x16), (33, x33)]) h K = brV x33 (kCode env 11 false inv k (cp c11 62670) (act 35 [(0, x0), (14, x14), (15, x15), (16, x16), (33, x33)]) h K) (kCode env 11 false inv k (cp c11 62671) (act 35 [(0, x0), (14, x14), (15, x15), (16, x16), (33, x33)]) h K) := kq_cond
theorem r11_12  : kCode env 11 false inv k (cp c11 125340) (act 35 [(0, x0), (14, x14), (15, x15), (16, x16), (33, x33)]) h K =
    K .normal (act 35 [(4, (.int .i64 11))]) h := kq_reg
theorem r11_13  : kCode env 11 false inv k (cp c11 1959) (act 35 [(0, x0), (14, x14), (15, x15), (16, x16), (33, x33)]) h K =
    bnd (pBin Tryz.prog .add 3 (.tmp 16) (.const (.int .i64 1)) x16 (.int .i64 1)) fun x34 =>
    K .normal (act 35 [(0, x0), (14, x14), (15, x15), (16, x34)]) h := kq_reg
noncomputable def F11_lrlrrr {β : Type} (inv : Inv) (k : Nat) : Nat → Value → Value → Value → Value → AH → (Value → Value → Value → Value → Value → AH → Option β) → (Value → AH → Option β) → Option β
  | 0, _, _, _, _, _, _, _ => none
  | j + 1, x0, x14, x15, x16, h, ke0, kr =>
    bnd (pBin Tryz.prog .lss 3 (.tmp 16) (.tmp 15) x16 x15) fun x17 =>
    brV x17
    (bnd (pIndexAddr Tryz.prog 22 x14 x16) fun x18 =>
    bnd (pLoad Tryz.prog 31 x18 h) fun x19 =>
    bnd (pAlloc Tryz.prog 31 h) fun x6 =>
    bnd (kSt (pStore Tryz.prog 31 x6.1 x19 x6.2)) fun u =>
    bnd (pLoad Tryz.prog 31 x6.1 u.2) fun x20 =>
    bnd (inv (.func 29) #[] #[x20] u.2) fun x21 =>
    bnd (pBin Tryz.prog .neq 25 (.tmp 22) (.const (.int .i64 0)) x21.1 (.int .i64 0)) fun x23 =>
    brV x23
    (kr x21.1 x21.2)
    (G11_11 inv x0 x6.1 x14 x15 x16 x21.2 fun y33 h =>
    brV y33
    (kr (.int .i64 11) h)
    (bnd (pBin Tryz.prog .add 3 (.tmp 16) (.const (.int .i64 1)) x16 (.int .i64 1)) fun x34 =>
    F11_lrlrrr inv k j x0 x14 x15 x34 h ke0 kr)))
    (ke0 x0 x14 x15 x16 x17 h)
theorem F11_lrlrrr_j (j : Nat) : kLoop (kCode env 11 false inv k (cp c11 244)) j (act 35 [(0, x0), (14, x14), (15, x15), (16, x16)]) h K = F11_lrlrrr inv k j x0 x14 x15 x16 h (fun y0 y14 y15 y16 y17 h => K (.exit 0) (act 35 [(0, y0), (14, y14), (15, y15), (16, y16), (17, y17)]) h) (fun y4 h => K .ret (act 35 [(4, y4)]) h) := by
      induction j generalizing x0 x14 x15 x16 h with
      | zero => rfl
      | succ j ih =>
        unfold F11_lrlrrr
        simp only [kLoop, kq_seq c11 244, r11_6, kq_seq c11 489, b11_lrllrlrrr, kq_skip c11 1956, kq_seq c11 979, kq_block c11 1958 1, kq_seq c11 3916, r11_7, kq_seq c11 7833, kq_seq c11 15666, r11_8, kq_seq c11 31333, r11_9, b11_rrlrllrrllrlrrr, kq_seq c11 125334, r11_10, kq_ret c11 250669, kq_skip c11 125335, kq_seq c11 15667, r11_11, b11_rrrllrrllrlrrr, kq_seq c11 62670, r11_12, kq_ret c11 125341, kq_skip c11 62671, r11_13, kq_exit c11 1957 0, ih, reduceIte, reduceCtorEq, XE.exit.injEq, Nat.reduceEqDiff, Nat.reduceMul, Nat.reduceAdd] <;> kernel_rfl
theorem F11_lrlrrr_eq  : kCode env 11 false inv k (cp c11 122) (act 35 [(0, x0), (14, x14), (15, x15), (16, x16)]) h K = F11_lrlrrr inv k k x0 x14 x15 x16 h (fun y0 y14 y15 y16 y17 h => K (.exit 0) (act 35 [(0, y0), (14, y14), (15, y15), (16, y16), (17, y17)]) h) (fun y4 h => K .ret (act 35 [(4, y4)]) h) := kq_loop (F11_lrlrrr_j k)
theorem r11_14  : kCode env 11 false inv k (cp c11 62) (act 35 [(0, x0), (14, x14), (15, x15), (16, x16), (17, x17)]) h K =
    K .normal (act 35 [(4, (.int .i64 0))]) h := kq_reg
/-- shadowbook/segment.Check -/
noncomputable def F11 (inv : Inv) (k : Nat) (x0 x1 : Value) (h : AH) : Option (Value × AH) :=
    bnd (inv (.func 28) #[] #[x0] h) fun x9 =>
    bnd (pBin Tryz.prog .eql 54 (.tmp 9) (.const .nilIface) x9.1 .nilIface) fun x10 =>
    brV x10
    (some ((.int .i64 2), x9.2))
    (bnd (pLen Tryz.prog #[22] x1 x9.2) fun x12 =>
    bnd (pBin Tryz.prog .gtr 3 (.tmp 12) (.const (.int .i64 4096)) x12 (.int .i64 4096)) fun x13 =>
    brV x13
    (some ((.int .i64 3), x9.2))
    (bnd (pLen Tryz.prog #[22] x1 x9.2) fun x15 =>
    F11_lrlrrr inv k k x0 x1 x15 (.int .i64 0) x9.2
    (fun y0 y14 y15 y16 y17 h =>
    some ((.int .i64 0), h))
    (fun y4 h_1 =>
    some (y4, h_1))))
theorem F11_eq : eFun env k inv 11 #[x0, x1] h = F11 inv k x0 x1 h := by
      refine (kq_fun (a := act 35 [(0, x0), (1, x1)]) (c := cp c11 1)).trans ?_
      unfold F11
      simp only [kq_seq c11 1, r11_0, kq_seq c11 3, kq_seq c11 6, r11_1, b11_rlr, kq_seq c11 26, r11_2, kq_ret c11 53, res11_0, kq_skip c11 27, kq_seq c11 7, kq_seq c11 14, r11_3, b11_rlrr, kq_seq c11 58, r11_4, kq_ret c11 117, kq_skip c11 59, kq_seq c11 15, kq_seq c11 30, r11_5, kq_block c11 61 0, F11_lrlrrr_eq, kq_seq c11 31, r11_14, kq_ret c11 63, reduceIte, reduceCtorEq, XE.exit.injEq, Nat.reduceEqDiff, Nat.reduceMul, Nat.reduceAdd] <;> kernel_rfl
theorem F11_call : eInv env (k + 1) (.func 11) #[] #[x0, x1] h = F11 (eInv env k) k x0 x1 h := kq_inv F11_eq
noncomputable def c13 : Code := codeOf Tryz.prog 13
theorem r13_0  : kCode env 13 false inv k (cp c13 2) (act 88 [(0, x0), (1, x1)]) h K =
    K .normal (act 88 [(0, x0), (1, x1)]) h := kq_reg
theorem r13_1  : kCode env 13 false inv k (cp c13 12) (act 88 [(0, x0), (1, x1)]) h K =
    bnd (inv (.func 11) #[] #[x0, x1] h) fun x18 =>
    K .normal (act 88 [(0, x0), (1, x1), (6, x18.1)]) x18.2 := kq_reg
theorem r13_2  : kCode env 13 false inv k (cp c13 26) (act 88 [(0, x0), (1, x1), (6, x6)]) h K =
    bnd (pBin Tryz.prog .neq 25 (.tmp 19) (.const (.int .i64 0)) x6 (.int .i64 0)) fun x20 =>
    K .normal (act 88 [(0, x0), (1, x1), (6, x6), (20, x20)]) h := kq_reg
theorem b13_rrlr  : kCode env 13 false inv k (cp c13 27) (act 88 [(0, x0), (1, x1), (6, x6), (20, x20)]) h K = brV x20 (kCode env 13 false inv k (cp c13 54) (act 88 [(0, x0), (1, x1), (6, x6), (20, x20)]) h K) (kCode env 13 false inv k (cp c13 55) (act 88 [(0, x0), (1, x1), (6, x6), (20, x20)]) h K) := kq_cond
theorem r13_3  : kCode env 13 false inv k (cp c13 108) (act 88 [(0, x0), (1, x1), (6, x6), (20, x20)]) h K =
    K .normal (act 88 [(4, (.string { data := #[] })), (5, x6)]) h := kq_reg
theorem res13_0 : resOfFn env.P 13 .ret (act 88 [(4, x4), (5, x5)]) h = some (.tuple #[x4, x5], h) := kq_res
theorem r13_4  : kCode env 13 false inv k (cp c13 14) (act 88 [(0, x0), (1, x1), (6, x6), (20, x20)]) h K =
    bnd (pLen Tryz.prog #[22] x1 h) fun x23 =>
    bnd (pMakeSlice Tryz.prog 32 x23 x23 h) fun x24 =>
    K .normal (act 88 [(0, x0), (1, x1), (7, x24.1)]) x24.2 := kq_reg
theorem r13_5  : kCode env 13 false inv k (cp c13 30) (act 88 [(0, x0), (1, x1), (7, x7)]) h K =
    K .normal (act 88 [(0, x0), (1, x1), (7, x7), (8, (.slice none 0 0))]) h := kq_reg
theorem r13_6  : kCode env 13 false inv k (cp c13 124) (act 88 [(0, x0), (1, x1), (7, x7), (8, x8)]) h K =
    bnd (pLen Tryz.prog #[22] x1 h) fun x26 =>
    K .normal (act 88 [(0, x0), (7, x7), (8, x8), (25, x1), (26, x26), (27, (.int .i64 0))]) h := kq_reg
theorem r13_7  : kCode env 13 false inv k (cp c13 1000) (act 88 [(0, x0), (7, x7), (8, x8), (25, x25), (26, x26), (27, x27)]) h K =
    bnd (pBin Tryz.prog .lss 3 (.tmp 27) (.tmp 26) x27 x26) fun x28 =>
    K .normal (act 88 [(0, x0), (7, x7), (8, x8), (25, x25), (26, x26), (27, x27), (28, x28)]) h := kq_reg
theorem b13_lrllrlrrrr  : kCode env 13 false inv k (cp c13 2002) (act 88 [(0, x0), (7, x7), (8, x8), (25, x25), (26, x26), (27, x27), (28, x28)]) h K = brV x28 (kCode env 13 false inv k (cp c13 4004) (act 88 [(0, x0), (7, x7), (8, x8), (25, x25), (26, x26), (27, x27), (28, x28)]) h K) (kCode env 13 false inv k (cp c13 4005) (act 88 [(0, x0), (7, x7), (8, x8), (25, x25), (26, x26), (27, x27), (28, x28)]) h K) := kq_cond
theorem r13_8  : kCode env 13 false inv k (cp c13 16024) (act 88 [(0, x0), (7, x7), (8, x8), (25, x25), (26, x26), (27, x27), (28, x28)]) h K =
    bnd (pIndexAddr Tryz.prog 22 x25 x27) fun x30 =>
    bnd (pLoad Tryz.prog 31 x30 h) fun x31 =>
    bnd (pAlloc Tryz.prog 31 h) fun x10 =>
    bnd (kSt (pStore Tryz.prog 31 x10.1 x31 x10.2)) fun u =>
    K .normal (act 88 [(0, x0), (7, x7), (8, x8), (9, x27), (10, x10.1), (25, x25), (26, x26), (27, x27)]) u.2 := kq_reg
theorem r13_9  : kCode env 13 false inv k (cp c13 32050) (act 88 [(0, x0), (7, x7), (8, x8), (9, x9), (10, x10), (25, x25), (26, x26), (27, x27)]) h K =
    bnd (pFieldAddr Tryz.prog 31 x10 0) fun x34 =>
    bnd (pLoad Tryz.prog 3 x34 h) fun x35 =>
    bnd (pBin Tryz.prog .eql 3 (.tmp 35) (.const (.int .i64 0)) x35 (.int .i64 0)) fun x36 =>
    bnd (pIndexAddr Tryz.prog 32 x7 x9) fun x37 =>
    bnd (kSt (pStore Tryz.prog 4 x37 x36 h)) fun u =>
    K .normal (act 88 [(0, x0), (7, x7), (8, x8), (9, x9), (10, x10), (25, x25), (26, x26), (27, x27)]) u.2 := kq_reg
theorem r13_10  : kCode env 13 false inv k (cp c13 64102) (act 88 [(0, x0), (7, x7), (8, x8), (9, x9), (10, x10), (25, x25), (26, x26), (27, x27)]) h K =
    bnd (pIndexAddr Tryz.prog 32 x7 x9) fun x40 =>
    bnd (pLoad Tryz.prog 4 x40 h) fun x41 =>
    bnd (pUn Tryz.prog .not x41) fun x42 =>
    K .normal (act 88 [(0, x0), (7, x7), (8, x8), (10, x10), (25, x25), (26, x26), (27, x27), (42, x42)]) h := kq_reg
theorem b13_rrrllrrllrlrrrr  : kCode env 13 false inv k (cp c13 64103) (act 88 [(0, x0), (7, x7), (8, x8), (10, x10), (25, x25), (26, x26), (27, x27), (42, x42)]) h K = brV x42 (kCode env 13 false inv k (cp c13 128206) (act 88 [(0, x0), (7, x7), (8, x8), (10, x10), (25, x25), (26, x26), (27, x27), (42, x42)]) h K) (kCode env 13 false inv k (cp c13 128207) (act 88 [(0, x0), (7, x7), (8, x8), (10, x10), (25, x25), (26, x26), (27, x27), (42, x42)]) h K) := kq_cond
theorem r13_11  : kCode env 13 false inv k (cp c13 128206) (act 88 [(0, x0), (7, x7), (8, x8), (10, x10), (25, x25), (26, x26), (27, x27), (42, x42)]) h K =
    bnd (pLoad Tryz.prog 31 x10 h) fun x44 =>
    bnd (pBuildSlice Tryz.prog 22 1 #[(0, x44)] h) fun x45 =>
    bnd (pAppend Tryz.prog #[22, 22] x8 x45.1 x45.2) fun x46 =>
    K .normal (act 88 [(0, x0), (7, x7), (8, x46.1), (25, x25), (26, x26), (27, x27)]) x46.2 := kq_reg
noncomputable def F13_lrrllrlrrrr {β : Type} (inv : Inv) (k : Nat) (x0 x7 x8 x25 x26 x27 x28 : Value) (h : AH) (kn : (Value → Value → Value → Value → Value → Value → Value → Value → AH → Option β)) : Option β :=
    bnd (pIndexAddr Tryz.prog 22 x25 x27) fun x30 =>
    bnd (pLoad Tryz.prog 31 x30 h) fun x31 =>
    bnd (pAlloc Tryz.prog 31 h) fun x10 =>
    bnd (kSt (pStore Tryz.prog 31 x10.1 x31 x10.2)) fun u =>
    bnd (pFieldAddr Tryz.prog 31 x10.1 0) fun x34 =>
    bnd (pLoad Tryz.prog 3 x34 u.2) fun x35 =>
    bnd (pBin Tryz.prog .eql 3 (.tmp 35) (.const (.int .i64 0)) x35 (.int .i64 0)) fun x36 =>
    bnd (pIndexAddr Tryz.prog 32 x7 x27) fun x37 =>
    bnd (kSt (pStore Tryz.prog 4 x37 x36 u.2)) fun u_1 =>
    bnd (pIndexAddr Tryz.prog 32 x7 x27) fun x40 =>
    bnd (pLoad Tryz.prog 4 x40 u_1.2) fun x41 =>
    bnd (pUn Tryz.prog .not x41) fun x42 =>
    brV x42
    (bnd (pLoad Tryz.prog 31 x10.1 u_1.2) fun x44 =>
    bnd (pBuildSlice Tryz.prog 22 1 #[(0, x44)] u_1.2) fun x45 =>
    bnd (pAppend Tryz.prog #[22, 22] x8 x45.1 x45.2) fun x46 =>
    kn x0 x7 x46.1 unk x25 x26 x27 unk x46.2)
    (kn x0 x7 x8 x10.1 x25 x26 x27 x42 u_1.2)
theorem F13_lrrllrlrrrr_eq  : kCode env 13 false inv k (cp c13 4006) (act 88 [(0, x0), (7, x7), (8, x8), (25, x25), (26, x26), (27, x27), (28, x28)]) h K = F13_lrrllrlrrrr inv k x0 x7 x8 x25 x26 x27 x28 h (fun y0 y7 y8 y10 y25 y26 y27 y42 h => K .normal (act 88 [(0, y0), (7, y7), (8, y8), (10, y10), (25, y25), (26, y26), (27, y27), (42, y42)]) h) := by
      unfold F13_lrrllrlrrrr
      simp only [kq_block c13 4006 1, kq_seq c13 8012, r13_8, kq_seq c13 16025, r13_9, kq_seq c13 32051, r13_10, b13_rrrllrrllrlrrrr, r13_11, kq_skip c13 128207, reduceIte, reduceCtorEq, XE.exit.injEq, Nat.reduceEqDiff, Nat.reduceMul, Nat.reduceAdd] <;> kernel_rfl
theorem r13_12  : kCode env 13 false inv k (cp c13 4007) (act 88 [(0, x0), (7, x7), (8, x8), (10, x10), (25, x25), (26, x26), (27, x27), (42, x42)]) h K =
    bnd (pBin Tryz.prog .add 3 (.tmp 27) (.const (.int .i64 1)) x27 (.int .i64 1)) fun x47 =>
    K .normal (act 88 [(0, x0), (7, x7), (8, x8), (25, x25), (26, x26), (27, x47)]) h := kq_reg
noncomputable def F13_lrlrrrr {β : Type} (inv : Inv) (k : Nat) : Nat → Value → Value → Value → Value → Value → Value → AH → (Value → Value → Value → Value → Value → Value → Value → AH → Option β) → Option β
  | 0, _, _, _, _, _, _, _, _ => none
  | j + 1, x0, x7, x8, x25, x26, x27, h, ke0 =>
    bnd (pBin Tryz.prog .lss 3 (.tmp 27) (.tmp 26) x27 x26) fun x28 =>
    brV x28
    (F13_lrrllrlrrrr inv k x0 x7 x8 x25 x26 x27 x28 h
    (fun y0 y7 y8 y10 y25 y26 y27 y42 h =>
    bnd (pBin Tryz.prog .add 3 (.tmp 27) (.const (.int .i64 1)) y27 (.int .i64 1)) fun x47 =>
    F13_lrlrrrr inv k j y0 y7 y8 y25 y26 x47 h ke0))
    (ke0 x0 x7 x8 x25 x26 x27 x28 h)
theorem F13_lrlrrrr_j (j : Nat) : kLoop (kCode env 13 false inv k (cp c13 500)) j (act 88 [(0, x0), (7, x7), (8, x8), (25, x25), (26, x26), (27, x27)]) h K = F13_lrlrrrr inv k j x0 x7 x8 x25 x26 x27 h (fun y0 y7 y8 y25 y26 y27 y28 h => K (.exit 0) (act 88 [(0, y0), (7, y7), (8, y8), (25, y25), (26, y26), (27, y27), (28, y28)]) h) := by
      induction j generalizing x0 x7 x8 x25 x26 x27 h with
      | zero => rfl
      | succ j ih =>
        unfold F13_lrlrrrr
        simp only [kLoop, kq_seq c13 500, r13_7, kq_seq c13 1001, b13_lrllrlrrrr, kq_skip c13 4004, kq_seq c13 2003, F13_lrrllrlrrrr_eq, r13_12, kq_exit c13 4005 0, ih, reduceIte, reduceCtorEq, XE.exit.injEq, Nat.reduceEqDiff, Nat.reduceMul, Nat.reduceAdd] <;> kernel_rfl
theorem F13_lrlrrrr_eq  : kCode env 13 false inv k (cp c13 250) (act 88 [(0, x0), (7, x7), (8, x8), (25, x25), (26, x26), (27, x27)]) h K = F13_lrlrrrr inv k k x0 x7 x8 x25 x26 x27 h (fun y0 y7 y8 y25 y26 y27 y28 h => K (.exit 0) (act 88 [(0, y0), (7, y7), (8, y8), (25, y25), (26, y26), (27, y27), (28, y28)]) h) := kq_loop (F13_lrlrrrr_j k)
theorem r13_13  : kCode env 13 false inv k (cp c13 126) (act 88 [(0, x0), (7, x7), (8, x8), (25, x25), (26, x26), (27, x27), (28, x28)]) h K =
    bnd (inv (.func 30) #[] #[x7] h) fun x50 =>
    bnd (pExtract x50.1 0) fun x51 =>
    bnd (pExtract x50.1 1) fun x52 =>
    K .normal (act 88 [(0, x0), (8, x8), (11, x51), (12, x52)]) x50.2 := kq_reg
theorem r13_14  : kCode env 13 false inv k (cp c13 508) (act 88 [(0, x0), (8, x8), (11, x11), (12, x12)]) h K =
    bnd (pBin Tryz.prog .neq 25 (.tmp 53) (.const (.int .i64 0)) x12 (.int .i64 0)) fun x54 =>
    K .normal (act 88 [(0, x0), (8, x8), (11, x11), (12, x12), (54, x54)]) h := kq_reg
theorem b13_rlrrrrrr  : kCode env 13 false inv k (cp c13 509) (act 88 [(0, x0), (8, x8), (11, x11), (12, x12), (54, x54)]) h K = brV x54 (kCode env 13 false inv k (cp c13 1018) (act 88 [(0, x0), (8, x8), (11, x11), (12, x12), (54, x54)]) h K) (kCode env 13 false inv k (cp c13 1019) (act 88 [(0, x0), (8, x8), (11, x11), (12, x12), (54, x54)]) h K) := kq_cond
theorem r13_15  : kCode env 13 false inv k (cp c13 2036) (act 88 [(0, x0), (8, x8), (11, x11), (12, x12), (54, x54)]) h K =
    K .normal (act 88 [(4, (.string { data := #[] })), (5, x12)]) h := kq_reg
theorem r13_16  : kCode env 13 false inv k (cp c13 510) (act 88 [(0, x0), (8, x8), (11, x11), (12, x12), (54, x54)]) h K =
    bnd (pConv Tryz.prog 3 5 x0 h) fun x57 =>
    bnd (pBuildSlice Tryz.prog 33 1 #[(0, x57)] h) fun x58 =>
    bnd (pAppend Tryz.prog #[33, 33] x58.1 x11 x58.2) fun x60 =>
    K .normal (act 88 [(0, x0), (8, x8), (13, x60.1)]) x60.2 := kq_reg
theorem r13_17  : kCode env 13 false inv k (cp c13 2044) (act 88 [(0, x0), (8, x8), (13, x13)]) h K =
    bnd (pLen Tryz.prog #[22] x8 h) fun x62 =>
    bnd (pBin Tryz.prog .eql 3 (.tmp 62) (.const (.int .i64 0)) x62 (.int .i64 0)) fun x63 =>
    K .normal (act 88 [(0, x0), (8, x8), (13, x13), (63, x63)]) h := kq_reg
theorem b13_rlrrrrrrrr  : kCode env 13 false inv k (cp c13 2045) (act 88 [(0, x0), (8, x8), (13, x13), (63, x63)]) h K = brV x63 (kCode env 13 false inv k (cp c13 4090) (act 88 [(0, x0), (8, x8), (13, x13), (63, x63)]) h K) (kCode env 13 false inv k (cp c13 4091) (act 88 [(0, x0), (8, x8), (13, x13), (63, x63)]) h K) := kq_cond
theorem r13_18  : kCode env 13 false inv k (cp c13 8180) (act 88 [(0, x0), (8, x8), (13, x13), (63, x63)]) h K =
    bnd (pConv Tryz.prog 33 9 x13 h) fun x65 =>
    K .normal (act 88 [(4, x65), (5, (.int .i64 0))]) h := kq_reg
theorem r13_19  : kCode env 13 false inv k (cp c13 2046) (act 88 [(0, x0), (8, x8), (13, x13), (63, x63)]) h K =
    bnd (inv (.func 28) #[] #[x0] h) fun x67 =>
    K .normal (act 88 [(8, x8), (13, x13), (14, x67.1)]) x67.2 := kq_reg
theorem r13_20  : kCode env 13 false inv k (cp c13 4094) (act 88 [(8, x8), (13, x13), (14, x14)]) h K =
    bnd (inv (.method "shadowbook/segment.cells") #[] #[x14, x8] h) fun x71 =>
    bnd (pExtract x71.1 0) fun x72 =>
    bnd (pExtract x71.1 1) fun x73 =>
    K .normal (act 88 [(8, x8), (12, x73), (13, x13), (14, x14), (15, x72)]) x71.2 := kq_reg
theorem r13_21  : kCode env 13 false inv k (cp c13 16380) (act 88 [(8, x8), (12, x12), (13, x13), (14, x14), (15, x15)]) h K =
    bnd (pBin Tryz.prog .neq 25 (.tmp 74) (.const (.int .i64 0)) x12 (.int .i64 0)) fun x75 =>
    K .normal (act 88 [(8, x8), (12, x12), (13, x13), (14, x14), (15, x15), (75, x75)]) h := kq_reg
theorem b13_rlrrrrrrrrrrr  : kCode env 13 false inv k (cp c13 16381) (act 88 [(8, x8), (12, x12), (13, x13), (14, x14), (15, x15), (75, x75)]) h K = brV x75 (kCode env 13 false inv k (cp c13 32762) (act 88 [(8, x8), (12, x12), (13, x13), (14, x14), (15, x15), (75, x75)]) h K) (kCode env 13 false inv k (cp c13 32763) (act 88 [(8, x8), (12, x12), (13, x13), (14, x14), (15, x15), (75, x75)]) h K) := kq_cond
theorem r13_22  : kCode env 13 false inv k (cp c13 65524) (act 88 [(8, x8), (12, x12), (13, x13), (14, x14), (15, x15), (75, x75)]) h K =
    K .normal (act 88 [(4, (.string { data := #[] })), (5, x12)]) h := kq_reg
theorem r13_23  : kCode env 13 false inv k (cp c13 16382) (act 88 [(8, x8), (12, x12), (13, x13), (14, x14), (15, x15), (75, x75)]) h K =
    bnd (inv (.func 31) #[] #[x8] h) fun x80 =>
    bnd (pMakeFunc (.method "shadowbook/segment.zone") #[x14] #[]) fun x81 =>
    bnd (pNilCheck Tryz.prog x81) fun x82 =>
    bnd (inv (.method "shadowbook/segment.zone") #[] #[x14, x13, x80.1] x80.2) fun x84 =>
    bnd (pAppend Tryz.prog #[33, 33] x84.1 x15 x84.2) fun x86 =>
    bnd (pConv Tryz.prog 33 9 x86.1 x86.2) fun x87 =>
    K .normal (act 88 [(4, x87), (5, (.int .i64 0))]) x86.2 := kq_draw
/-- shadowbook/segment.Put -/
noncomputable def F13 (inv : Inv) (k : Nat) (x0 x1 : Value) (h : AH) : Option (Value × AH) :=
    bnd (inv (.func 11) #[] #[x0, x1] h) fun x18 =>
    bnd (pBin Tryz.prog .neq 25 (.tmp 19) (.const (.int .i64 0)) x18.1 (.int .i64 0)) fun x20 =>
    brV x20
    (some (.tuple #[(.string { data := #[] }), x18.1], x18.2))
    (bnd (pLen Tryz.prog #[22] x1 x18.2) fun x23 =>
    bnd (pMakeSlice Tryz.prog 32 x23 x23 x18.2) fun x24 =>
    bnd (pLen Tryz.prog #[22] x1 x24.2) fun x26 =>
    F13_lrlrrrr inv k k x0 x24.1 (.slice none 0 0) x1 x26 (.int .i64 0) x24.2
    (fun y0 y7 y8 y25 y26 y27 y28 h =>
    bnd (inv (.func 30) #[] #[y7] h) fun x50 =>
    bnd (pExtract x50.1 0) fun x51 =>
    bnd (pExtract x50.1 1) fun x52 =>
    bnd (pBin Tryz.prog .neq 25 (.tmp 53) (.const (.int .i64 0)) x52 (.int .i64 0)) fun x54 =>
    brV x54
    (some (.tuple #[(.string { data := #[] }), x52], x50.2))
    (bnd (pConv Tryz.prog 3 5 y0 x50.2) fun x57 =>
    bnd (pBuildSlice Tryz.prog 33 1 #[(0, x57)] x50.2) fun x58 =>
    bnd (pAppend Tryz.prog #[33, 33] x58.1 x51 x58.2) fun x60 =>
    bnd (pLen Tryz.prog #[22] y8 x60.2) fun x62 =>
    bnd (pBin Tryz.prog .eql 3 (.tmp 62) (.const (.int .i64 0)) x62 (.int .i64 0)) fun x63 =>
    brV x63
    (bnd (pConv Tryz.prog 33 9 x60.1 x60.2) fun x65 =>
    some (.tuple #[x65, (.int .i64 0)], x60.2))
    (bnd (inv (.func 28) #[] #[y0] x60.2) fun x67 =>
    bnd (inv (.method "shadowbook/segment.cells") #[] #[x67.1, y8] x67.2) fun x71 =>
    bnd (pExtract x71.1 0) fun x72 =>
    bnd (pExtract x71.1 1) fun x73 =>
    bnd (pBin Tryz.prog .neq 25 (.tmp 74) (.const (.int .i64 0)) x73 (.int .i64 0)) fun x75 =>
    brV x75
    (some (.tuple #[(.string { data := #[] }), x73], x71.2))
    (bnd (inv (.func 31) #[] #[y8] x71.2) fun x80 =>
    bnd (pMakeFunc (.method "shadowbook/segment.zone") #[x67.1] #[]) fun x81 =>
    bnd (pNilCheck Tryz.prog x81) fun x82 =>
    bnd (inv (.method "shadowbook/segment.zone") #[] #[x67.1, x60.1, x80.1] x80.2) fun x84 =>
    bnd (pAppend Tryz.prog #[33, 33] x84.1 x72 x84.2) fun x86 =>
    bnd (pConv Tryz.prog 33 9 x86.1 x86.2) fun x87 =>
    some (.tuple #[x87, (.int .i64 0)], x86.2))))))
theorem F13_eq : eFun env k inv 13 #[x0, x1] h = F13 inv k x0 x1 h := by
      refine (kq_fun (a := act 88 [(0, x0), (1, x1)]) (c := cp c13 1)).trans ?_
      unfold F13
      simp only [kq_seq c13 1, r13_0, kq_seq c13 3, kq_seq c13 6, r13_1, kq_seq c13 13, r13_2, b13_rrlr, kq_seq c13 54, r13_3, kq_ret c13 109, res13_0, kq_skip c13 55, kq_seq c13 7, r13_4, kq_seq c13 15, r13_5, kq_seq c13 31, kq_seq c13 62, r13_6, kq_block c13 125 0, F13_lrlrrrr_eq, kq_seq c13 63, r13_13, kq_seq c13 127, kq_seq c13 254, r13_14, b13_rlrrrrrr, kq_seq c13 1018, r13_15, kq_ret c13 2037, kq_skip c13 1019, kq_seq c13 255, r13_16, kq_seq c13 511, kq_seq c13 1022, r13_17, b13_rlrrrrrrrr, kq_seq c13 4090, r13_18, kq_ret c13 8181, kq_skip c13 4091, kq_seq c13 1023, r13_19, kq_seq c13 2047, r13_20, kq_seq c13 4095, kq_seq c13 8190, r13_21, b13_rlrrrrrrrrrrr, kq_seq c13 32762, r13_22, kq_ret c13 65525, kq_skip c13 32763, kq_seq c13 8191, r13_23, kq_ret c13 16383, reduceIte, reduceCtorEq, XE.exit.injEq, Nat.reduceEqDiff, Nat.reduceMul, Nat.reduceAdd] <;> kernel_rfl
theorem F13_call : eInv env (k + 1) (.func 13) #[] #[x0, x1] h = F13 (eInv env k) k x0 x1 h := kq_inv F13_eq
noncomputable def c15 : Code := codeOf Tryz.prog 15
theorem r15_0  : kCode env 15 false inv k (cp c15 2) (act 19 [(0, x0)]) h K =
    bnd (pAlloc Tryz.prog 38 h) fun x3 =>
    K .normal (act 19 [(0, x0), (3, x3.1)]) x3.2 := kq_reg
theorem r15_1  : kCode env 15 false inv k (cp c15 6) (act 19 [(0, x0), (3, x3)]) h K =
    bnd (inv (.func 36) #[] #[x0] h) fun x8 =>
    bnd (pExtract x8.1 0) fun x9 =>
    bnd (pExtract x8.1 1) fun x10 =>
    bnd (pAlloc Tryz.prog 66 x8.2) fun x5 =>
    bnd (kSt (pStore Tryz.prog 66 x5.1 x9 x5.2)) fun u =>
    K .normal (act 19 [(3, x3), (4, x10), (5, x5.1)]) u.2 := kq_reg
theorem r15_2  : kCode env 15 false inv k (cp c15 28) (act 19 [(3, x3), (4, x4), (5, x5)]) h K =
    bnd (pBin Tryz.prog .neq 25 (.tmp 11) (.const (.int .i64 0)) x4 (.int .i64 0)) fun x12 =>
    K .normal (act 19 [(3, x3), (4, x4), (5, x5), (12, x12)]) h := kq_reg
theorem b15_rlrr  : kCode env 15 false inv k (cp c15 29) (act 19 [(3, x3), (4, x4), (5, x5), (12, x12)]) h K = brV x12 (kCode env 15 false inv k (cp c15 58) (act 19 [(3, x3), (4, x4), (5, x5), (12, x12)]) h K) (kCode env 15 false inv k (cp c15 59) (act 19 [(3, x3), (4, x4), (5, x5), (12, x12)]) h K) := kq_cond
theorem r15_3  : kCode env 15 false inv k (cp c15 116) (act 19 [(3, x3), (4, x4), (5, x5), (12, x12)]) h K =
    bnd (pBuild Tryz.prog 38 #[]) fun x13 =>
    bnd (kSt (pStore Tryz.prog 38 x3 x13 h)) fun u =>
    K .normal (act 19 [(2, (.int .i64 0)), (3, x3), (4, x4)]) u.2 := kq_reg
theorem res15_0 : resOfFn env.P 15 .ret (act 19 [(2, x2), (3, x3), (4, x4)]) h = bnd (pLoad Tryz.prog 38 x3 h) fun q1 =>
    some (.tuple #[x2, q1, x4], h) := kq_res
theorem r15_4  : kCode env 15 false inv k (cp c15 30) (act 19 [(3, x3), (4, x4), (5, x5), (12, x12)]) h K =
    bnd (pFieldAddr Tryz.prog 66 x5 0) fun x15 =>
    bnd (pLoad Tryz.prog 3 x15 h) fun x16 =>
    bnd (pFieldAddr Tryz.prog 66 x5 2) fun x17 =>
    bnd (pLoad Tryz.prog 38 x17 h) fun x18 =>
    bnd (kSt (pStore Tryz.prog 38 x3 x18 h)) fun u =>
    K .normal (act 19 [(2, x16), (3, x3), (4, (.int .i64 0))]) u.2 := kq_draw
/-- shadowbook/segment.Zone -/
noncomputable def F15 (inv : Inv) (k : Nat) (x0 : Value) (h : AH) : Option (Value × AH) :=
    bnd (pAlloc Tryz.prog 38 h) fun x3 =>
    bnd (inv (.func 36) #[] #[x0] x3.2) fun x8 =>
    bnd (pExtract x8.1 0) fun x9 =>
    bnd (pExtract x8.1 1) fun x10 =>
    bnd (pAlloc Tryz.prog 66 x8.2) fun x5 =>
    bnd (kSt (pStore Tryz.prog 66 x5.1 x9 x5.2)) fun u =>
    bnd (pBin Tryz.prog .neq 25 (.tmp 11) (.const (.int .i64 0)) x10 (.int .i64 0)) fun x12 =>
    brV x12
    (bnd (pBuild Tryz.prog 38 #[]) fun x13 =>
    bnd (kSt (pStore Tryz.prog 38 x3.1 x13 u.2)) fun u_1 =>
    bnd (pLoad Tryz.prog 38 x3.1 u_1.2) fun q1 =>
    some (.tuple #[(.int .i64 0), q1, x10], u_1.2))
    (bnd (pFieldAddr Tryz.prog 66 x5.1 0) fun x15 =>
    bnd (pLoad Tryz.prog 3 x15 u.2) fun x16 =>
    bnd (pFieldAddr Tryz.prog 66 x5.1 2) fun x17 =>
    bnd (pLoad Tryz.prog 38 x17 u.2) fun x18 =>
    bnd (kSt (pStore Tryz.prog 38 x3.1 x18 u.2)) fun u_2 =>
    bnd (pLoad Tryz.prog 38 x3.1 u_2.2) fun q1 =>
    some (.tuple #[x16, q1, (.int .i64 0)], u_2.2))
theorem F15_eq : eFun env k inv 15 #[x0] h = F15 inv k x0 h := by
      refine (kq_fun (a := act 19 [(0, x0)]) (c := cp c15 1)).trans ?_
      unfold F15
      simp only [kq_seq c15 1, r15_0, kq_seq c15 3, r15_1, kq_seq c15 7, kq_seq c15 14, r15_2, b15_rlrr, kq_seq c15 58, r15_3, kq_ret c15 117, res15_0, kq_skip c15 59, kq_seq c15 15, r15_4, kq_ret c15 31, reduceIte, reduceCtorEq, XE.exit.injEq, Nat.reduceEqDiff, Nat.reduceMul, Nat.reduceAdd] <;> kernel_rfl
theorem F15_call : eInv env (k + 1) (.func 15) #[] #[x0] h = F15 (eInv env k) k x0 h := kq_inv F15_eq
noncomputable def c20 : Code := codeOf Tryz.prog 20
theorem r20_0  : kCode env 20 false inv k (cp c20 2) (act 5 [(0, x0)]) h K =
    bnd (pAlloc Tryz.prog 31 h) fun x2 =>
    K .normal (act 5 [(0, x0), (2, x2.1)]) x2.2 := kq_reg
theorem r20_1  : kCode env 20 false inv k (cp c20 6) (act 5 [(0, x0), (2, x2)]) h K =
    bnd (pBuild Tryz.prog 31 #[(0, (.int .i64 1)), (1, x0)]) fun x4 =>
    bnd (kSt (pStore Tryz.prog 31 x2 x4 h)) fun u =>
    K .normal (act 5 [(2, x2)]) u.2 := kq_reg
theorem res20_0 : resOfFn env.P 20 .ret (act 5 [(2, x2)]) h = bnd (pLoad Tryz.prog 31 x2 h) fun q0 =>
    some (q0, h) := kq_res
/-- shadowbook/shadowbooklaw10.num -/
noncomputable def F20 (inv : Inv) (k : Nat) (x0 : Value) (h : AH) : Option (Value × AH) :=
    bnd (pAlloc Tryz.prog 31 h) fun x2 =>
    bnd (pBuild Tryz.prog 31 #[(0, (.int .i64 1)), (1, x0)]) fun x4 =>
    bnd (kSt (pStore Tryz.prog 31 x2.1 x4 x2.2)) fun u =>
    bnd (pLoad Tryz.prog 31 x2.1 u.2) fun q0 =>
    some (q0, u.2)
theorem F20_eq : eFun env k inv 20 #[x0] h = F20 inv k x0 h := by
      refine (kq_fun (a := act 5 [(0, x0)]) (c := cp c20 1)).trans ?_
      unfold F20
      simp only [kq_seq c20 1, r20_0, kq_seq c20 3, r20_1, kq_ret c20 7, res20_0, reduceIte, reduceCtorEq, XE.exit.injEq, Nat.reduceEqDiff, Nat.reduceMul, Nat.reduceAdd] <;> kernel_rfl
theorem F20_call : eInv env (k + 1) (.func 20) #[] #[x0] h = F20 (eInv env k) k x0 h := kq_inv F20_eq
noncomputable def c21 : Code := codeOf Tryz.prog 21
theorem r21_0  : kCode env 21 false inv k (cp c21 2) (act 82 [(0, x0)]) h K =
    K .normal (act 82 [(0, x0), (3, (.slice none 0 0))]) h := kq_reg
theorem r21_1  : kCode env 21 false inv k (cp c21 6) (act 82 [(0, x0), (3, x3)]) h K =
    bnd (inv (.func 36) #[] #[x0] h) fun x14 =>
    bnd (pExtract x14.1 0) fun x15 =>
    bnd (pExtract x14.1 1) fun x16 =>
    bnd (pAlloc Tryz.prog 66 x14.2) fun x5 =>
    bnd (kSt (pStore Tryz.prog 66 x5.1 x15 x5.2)) fun u =>
    K .normal (act 82 [(0, x0), (3, x3), (4, x16), (5, x5.1)]) u.2 := kq_reg
theorem r21_2  : kCode env 21 false inv k (cp c21 28) (act 82 [(0, x0), (3, x3), (4, x4), (5, x5)]) h K =
    bnd (pBin Tryz.prog .neq 25 (.tmp 17) (.const (.int .i64 0)) x4 (.int .i64 0)) fun x18 =>
    K .normal (act 82 [(0, x0), (3, x3), (4, x4), (5, x5), (18, x18)]) h := kq_reg
theorem b21_rlrr  : kCode env 21 false inv k (cp c21 29) (act 82 [(0, x0), (3, x3), (4, x4), (5, x5), (18, x18)]) h K = brV x18 (kCode env 21 false inv k (cp c21 58) (act 82 [(0, x0), (3, x3), (4, x4), (5, x5), (18, x18)]) h K) (kCode env 21 false inv k (cp c21 59) (act 82 [(0, x0), (3, x3), (4, x4), (5, x5), (18, x18)]) h K) := kq_cond
theorem r21_3  : kCode env 21 false inv k (cp c21 116) (act 82 [(0, x0), (3, x3), (4, x4), (5, x5), (18, x18)]) h K =
    K .normal (act 82 [(2, (.int .i64 0)), (3, (.slice none 0 0)), (4, x4)]) h := kq_reg
theorem res21_0 : resOfFn env.P 21 .ret (act 82 [(2, x2), (3, x3), (4, x4)]) h = some (.tuple #[x2, x3, x4], h) := kq_res
theorem r21_4  : kCode env 21 false inv k (cp c21 30) (act 82 [(0, x0), (3, x3), (4, x4), (5, x5), (18, x18)]) h K =
    bnd (pFieldAddr Tryz.prog 66 x5 2) fun x20 =>
    bnd (pFieldAddr Tryz.prog 38 x20 0) fun x21 =>
    bnd (pLoad Tryz.prog 3 x21 h) fun x22 =>
    bnd (pFieldAddr Tryz.prog 66 x5 2) fun x23 =>
    bnd (pFieldAddr Tryz.prog 38 x23 1) fun x24 =>
    bnd (pLoad Tryz.prog 3 x24 h) fun x25 =>
    bnd (pBin Tryz.prog .sub 3 (.tmp 22) (.tmp 25) x22 x25) fun x26 =>
    K .normal (act 82 [(0, x0), (3, x3), (5, x5), (6, x26)]) h := kq_reg
theorem r21_5  : kCode env 21 false inv k (cp c21 62) (act 82 [(0, x0), (3, x3), (5, x5), (6, x6)]) h K =
    K .normal (act 82 [(0, x0), (3, x3), (5, x5), (6, x6), (7, (.slice none 0 0))]) h := kq_reg
theorem r21_6  : kCode env 21 false inv k (cp c21 252) (act 82 [(0, x0), (3, x3), (5, x5), (6, x6), (7, x7)]) h K =
    bnd (pBin Tryz.prog .gtr 3 (.tmp 27) (.const (.int .i64 0)) x6 (.int .i64 0)) fun x28 =>
    K .normal (act 82 [(0, x0), (3, x3), (5, x5), (6, x6), (7, x7), (28, x28)]) h := kq_reg
theorem b21_rlrrrrr  : kCode env 21 false inv k (cp c21 253) (act 82 [(0, x0), (3, x3), (5, x5), (6, x6), (7, x7), (28, x28)]) h K = brV x28 (kCode env 21 false inv k (cp c21 506) (act 82 [(0, x0), (3, x3), (5, x5), (6, x6), (7, x7), (28, x28)]) h K) (kCode env 21 false inv k (cp c21 507) (act 82 [(0, x0), (3, x3), (5, x5), (6, x6), (7, x7), (28, x28)]) h K) := kq_cond
noncomputable abbrev G21_7 {β : Type} (inv : Inv) (x0 x3 x5 x6 : Value) (h : AH) (K : Value → Value → AH → Option β) : Option β :=
    bnd (pFieldAddr Tryz.prog 66 x5 0) fun x30 =>
    bnd (pLoad Tryz.prog 3 x30 h) fun x31 =>
    bnd (inv (.func 28) #[] #[x31] h) fun x32 =>
    bnd (pFieldAddr Tryz.prog 66 x5 3) fun x33 =>
    bnd (pLoad Tryz.prog 33 x33 x32.2) fun x34 =>
    bnd (inv (.method "shadowbook/segment.back") #[] #[x32.1, x34, x6] x32.2) fun x36 =>
    bnd (pExtract x36.1 0) fun x37 =>
    bnd (pExtract x36.1 1) fun x38 =>
    chkK ((!true || !true || (sameO (pLoad Tryz.prog 33 x33 h) x34 && sameO (pLoad Tryz.prog 33 x33 x32.2) x34)) && true) <|
    K (x38) (x37) x36.2
theorem r21_7  : kCode env 21 false inv k (cp c21 1012) (act 82 [(0, x0), (3, x3), (5, x5), (6, x6), (7, x7), (28, x28)]) h K =
    G21_7 inv x0 x3 x5 x6 h fun y4 y7 h => K .normal (act 82 [(0, x0), (3, x3), (4, y4), (5, x5), (6, x6), (7, y7)]) h := kq_draw
theorem r21_8  : kCode env 21 false inv k (cp c21 2026) (act 82 [(0, x0), (3, x3), (4, x4), (5, x5), (6, x6), (7, x7)]) h K =
    bnd (pBin Tryz.prog .neq 25 (.tmp 39) (.const (.int .i64 0)) x4 (.int .i64 0)) fun x40 =>
    K .normal (act 82 [(0, x0), (3, x3), (4, x4), (5, x5), (6, x6), (7, x7), (40, x40)]) h := kq_reg
theorem b21_rrlrlrrrrr  : kCode env 21 false inv k (cp c21 2027) (act 82 [(0, x0), (3, x3), (4, x4), (5, x5), (6, x6), (7, x7), (40, x40)]) h K = brV x40 (kCode env 21 false inv k (cp c21 4054) (act 82 [(0, x0), (3, x3), (4, x4), (5, x5), (6, x6), (7, x7), (40, x40)]) h K) (kCode env 21 false inv k (cp c21 4055) (act 82 [(0, x0), (3, x3), (4, x4), (5, x5), (6, x6), (7, x7), (40, x40)]) h K) := kq_cond
theorem r21_9  : kCode env 21 false inv k (cp c21 8108) (act 82 [(0, x0), (3, x3), (4, x4), (5, x5), (6, x6), (7, x7), (40, x40)]) h K =
    K .normal (act 82 [(2, (.int .i64 0)), (3, (.slice none 0 0)), (4, x4)]) h := kq_reg
noncomputable def F21_rlrrrrr {β : Type} (inv : Inv) (k : Nat) (x0 x3 x5 x6 x7 x28 : Value) (h : AH) (kn : (Value → Value → Value → Value → Value → Value → Value → Value → AH → Option β)) (kr : (Value → Value → Value → AH → Option β)) : Option β :=
    brV x28
    (G21_7 inv x0 x3 x5 x6 h fun y4 y7 h =>
    bnd (pBin Tryz.prog .neq 25 (.tmp 39) (.const (.int .i64 0)) y4 (.int .i64 0)) fun x40 =>
    brV x40
    (kr (.int .i64 0) (.slice none 0 0) y4 h)
    (kn x0 x3 y4 x5 x6 y7 unk x40 h))
    (kn x0 x3 unk x5 x6 x7 x28 unk h)
theorem F21_rlrrrrr_eq  : kCode env 21 false inv k (cp c21 253) (act 82 [(0, x0), (3, x3), (5, x5), (6, x6), (7, x7), (28, x28)]) h K = F21_rlrrrrr inv k x0 x3 x5 x6 x7 x28 h (fun y0 y3 y4 y5 y6 y7 y28 y40 h => K .normal (act 82 [(0, y0), (3, y3), (4, y4), (5, y5), (6, y6), (7, y7), (28, y28), (40, y40)]) h) (fun y2 y3 y4 h => K .ret (act 82 [(2, y2), (3, y3), (4, y4)]) h) := by
      unfold F21_rlrrrrr
      simp only [b21_rlrrrrr, kq_seq c21 506, r21_7, kq_seq c21 1013, r21_8, b21_rrlrlrrrrr, kq_seq c21 4054, r21_9, kq_ret c21 8109, kq_skip c21 4055, kq_skip c21 507, reduceIte, reduceCtorEq, XE.exit.injEq, Nat.reduceEqDiff, Nat.reduceMul, Nat.reduceAdd] <;> kernel_rfl
theorem r21_10  : kCode env 21 false inv k (cp c21 508) (act 82 [(0, x0), (3, x3), (4, x4), (5, x5), (6, x6), (7, x7), (28, x28), (40, x40)]) h K =
    bnd (pFieldAddr Tryz.prog 66 x5 1) fun x42 =>
    bnd (pLoad Tryz.prog 32 x42 h) fun x43 =>
    bnd (inv (.func 39) #[] #[x43, x6] h) fun x45 =>
    bnd (pLen Tryz.prog #[72] x45.1 x45.2) fun x46 =>
    K .normal (act 82 [(0, x0), (3, x3), (5, x5), (7, x7), (45, x45.1), (46, x46), (47, (.int .i64 0))]) x45.2 := kq_reg
theorem r21_11  : kCode env 21 false inv k (cp c21 4072) (act 82 [(0, x0), (3, x3), (5, x5), (7, x7), (45, x45), (46, x46), (47, x47)]) h K =
    bnd (pBin Tryz.prog .lss 3 (.tmp 47) (.tmp 46) x47 x46) fun x48 =>
    K .normal (act 82 [(0, x0), (3, x3), (5, x5), (7, x7), (45, x45), (46, x46), (47, x47), (48, x48)]) h := kq_reg
theorem b21_lrllrlrrrrrr  : kCode env 21 false inv k (cp c21 8146) (act 82 [(0, x0), (3, x3), (5, x5), (7, x7), (45, x45), (46, x46), (47, x47), (48, x48)]) h K = brV x48 (kCode env 21 false inv k (cp c21 16292) (act 82 [(0, x0), (3, x3), (5, x5), (7, x7), (45, x45), (46, x46), (47, x47), (48, x48)]) h K) (kCode env 21 false inv k (cp c21 16293) (act 82 [(0, x0), (3, x3), (5, x5), (7, x7), (45, x45), (46, x46), (47, x47), (48, x48)]) h K) := kq_cond
theorem r21_12  : kCode env 21 false inv k (cp c21 65176) (act 82 [(0, x0), (3, x3), (5, x5), (7, x7), (45, x45), (46, x46), (47, x47), (48, x48)]) h K =
    bnd (pIndexAddr Tryz.prog 72 x45 x47) fun x49 =>
    bnd (pLoad Tryz.prog 3 x49 h) fun x50 =>
    K .normal (act 82 [(0, x0), (3, x3), (5, x5), (7, x7), (9, x50), (45, x45), (46, x46), (47, x47)]) h := kq_reg
theorem r21_13  : kCode env 21 false inv k (cp c21 260708) (act 82 [(0, x0), (3, x3), (5, x5), (7, x7), (9, x9), (45, x45), (46, x46), (47, x47)]) h K =
    bnd (pBin Tryz.prog .lss 3 (.tmp 51) (.const (.int .i64 0)) x9 (.int .i64 0)) fun x52 =>
    K .normal (act 82 [(0, x0), (3, x3), (5, x5), (7, x7), (9, x9), (45, x45), (46, x46), (47, x47), (52, x52)]) h := kq_reg
theorem b21_rlrllrrllrlrrrrrr  : kCode env 21 false inv k (cp c21 260709) (act 82 [(0, x0), (3, x3), (5, x5), (7, x7), (9, x9), (45, x45), (46, x46), (47, x47), (52, x52)]) h K = brV x52 (kCode env 21 false inv k (cp c21 521418) (act 82 [(0, x0), (3, x3), (5, x5), (7, x7), (9, x9), (45, x45), (46, x46), (47, x47), (52, x52)]) h K) (kCode env 21 false inv k (cp c21 521419) (act 82 [(0, x0), (3, x3), (5, x5), (7, x7), (9, x9), (45, x45), (46, x46), (47, x47), (52, x52)]) h K) := kq_cond
theorem r21_14  : kCode env 21 false inv k (cp c21 1042836) (act 82 [(0, x0), (3, x3), (5, x5), (7, x7), (9, x9), (45, x45), (46, x46), (47, x47), (52, x52)]) h K =
    bnd (pBuild Tryz.prog 31 #[]) fun x54 =>
    bnd (pBuildSlice Tryz.prog 22 1 #[(0, x54)] h) fun x55 =>
    bnd (pAppend Tryz.prog #[22, 22] x3 x55.1 x55.2) fun x56 =>
    K .normal (act 82 [(0, x0), (3, x56.1), (5, x5), (7, x7), (45, x45), (46, x46), (47, x47)]) x56.2 := kq_reg
theorem r21_15  : kCode env 21 false inv k (cp c21 130355) (act 82 [(0, x0), (3, x3), (5, x5), (7, x7), (9, x9), (45, x45), (46, x46), (47, x47), (52, x52)]) h K =
    bnd (pIndexAddr Tryz.prog 22 x7 x9) fun x60 =>
    bnd (pLoad Tryz.prog 31 x60 h) fun x61 =>
    bnd (pBuildSlice Tryz.prog 22 1 #[(0, x61)] h) fun x62 =>
    bnd (pAppend Tryz.prog #[22, 22] x3 x62.1 x62.2) fun x63 =>
    K .normal (act 82 [(0, x0), (3, x63.1), (5, x5), (7, x7), (45, x45), (46, x46), (47, x47)]) x63.2 := kq_reg
noncomputable def F21_lrrllrlrrrrrr {β : Type} (inv : Inv) (k : Nat) (x0 x3 x5 x7 x45 x46 x47 x48 : Value) (h : AH) (kn : (Value → Value → Value → Value → Value → Value → Value → AH → Option β)) : Option β :=
    bnd (pIndexAddr Tryz.prog 72 x45 x47) fun x49 =>
    bnd (pLoad Tryz.prog 3 x49 h) fun x50 =>
    bnd (pBin Tryz.prog .lss 3 (.tmp 51) (.const (.int .i64 0)) x50 (.int .i64 0)) fun x52 =>
    brV x52
    (bnd (pBuild Tryz.prog 31 #[]) fun x54 =>
    bnd (pBuildSlice Tryz.prog 22 1 #[(0, x54)] h) fun x55 =>
    bnd (pAppend Tryz.prog #[22, 22] x3 x55.1 x55.2) fun x56 =>
    kn x0 x56.1 x5 x7 x45 x46 x47 x56.2)
    (bnd (pIndexAddr Tryz.prog 22 x7 x50) fun x60 =>
    bnd (pLoad Tryz.prog 31 x60 h) fun x61 =>
    bnd (pBuildSlice Tryz.prog 22 1 #[(0, x61)] h) fun x62 =>
    bnd (pAppend Tryz.prog #[22, 22] x3 x62.1 x62.2) fun x63 =>
    kn x0 x63.1 x5 x7 x45 x46 x47 x63.2)
theorem F21_lrrllrlrrrrrr_eq  : kCode env 21 false inv k (cp c21 16294) (act 82 [(0, x0), (3, x3), (5, x5), (7, x7), (45, x45), (46, x46), (47, x47), (48, x48)]) h K = F21_lrrllrlrrrrrr inv k x0 x3 x5 x7 x45 x46 x47 x48 h (fun y0 y3 y5 y7 y45 y46 y47 h => K .normal (act 82 [(0, y0), (3, y3), (5, y5), (7, y7), (45, y45), (46, y46), (47, y47)]) h) := by
      unfold F21_lrrllrlrrrrrr
      simp only [kq_block c21 16294 1, kq_seq c21 32588, r21_12, kq_seq c21 65177, kq_seq c21 130354, r21_13, b21_rlrllrrllrlrrrrrr, kq_seq c21 521418, r21_14, kq_exit c21 1042837 1, kq_skip c21 521419, r21_15, reduceIte, reduceCtorEq, XE.exit.injEq, Nat.reduceEqDiff, Nat.reduceMul, Nat.reduceAdd] <;> kernel_rfl
theorem r21_16  : kCode env 21 false inv k (cp c21 16295) (act 82 [(0, x0), (3, x3), (5, x5), (7, x7), (45, x45), (46, x46), (47, x47)]) h K =
    bnd (pBin Tryz.prog .add 3 (.tmp 47) (.const (.int .i64 1)) x47 (.int .i64 1)) fun x64 =>
    K .normal (act 82 [(0, x0), (3, x3), (5, x5), (7, x7), (45, x45), (46, x46), (47, x64)]) h := kq_reg
noncomputable def F21_lrlrrrrrr {β : Type} (inv : Inv) (k : Nat) : Nat → Value → Value → Value → Value → Value → Value → Value → AH → (Value → Value → Value → Value → Value → Value → Value → Value → AH → Option β) → Option β
  | 0, _, _, _, _, _, _, _, _, _ => none
  | j + 1, x0, x3, x5, x7, x45, x46, x47, h, ke0 =>
    bnd (pBin Tryz.prog .lss 3 (.tmp 47) (.tmp 46) x47 x46) fun x48 =>
    brV x48
    (F21_lrrllrlrrrrrr inv k x0 x3 x5 x7 x45 x46 x47 x48 h
    (fun y0 y3 y5 y7 y45 y46 y47 h =>
    bnd (pBin Tryz.prog .add 3 (.tmp 47) (.const (.int .i64 1)) y47 (.int .i64 1)) fun x64 =>
    F21_lrlrrrrrr inv k j y0 y3 y5 y7 y45 y46 x64 h ke0))
    (ke0 x0 x3 x5 x7 x45 x46 x47 x48 h)
theorem F21_lrlrrrrrr_j (j : Nat) : kLoop (kCode env 21 false inv k (cp c21 2036)) j (act 82 [(0, x0), (3, x3), (5, x5), (7, x7), (45, x45), (46, x46), (47, x47)]) h K = F21_lrlrrrrrr inv k j x0 x3 x5 x7 x45 x46 x47 h (fun y0 y3 y5 y7 y45 y46 y47 y48 h => K (.exit 0) (act 82 [(0, y0), (3, y3), (5, y5), (7, y7), (45, y45), (46, y46), (47, y47), (48, y48)]) h) := by
      induction j generalizing x0 x3 x5 x7 x45 x46 x47 h with
      | zero => rfl
      | succ j ih =>
        unfold F21_lrlrrrrrr
        simp only [kLoop, kq_seq c21 2036, r21_11, kq_seq c21 4073, b21_lrllrlrrrrrr, kq_skip c21 16292, kq_seq c21 8147, F21_lrrllrlrrrrrr_eq, r21_16, kq_exit c21 16293 0, ih, reduceIte, reduceCtorEq, XE.exit.injEq, Nat.reduceEqDiff, Nat.reduceMul, Nat.reduceAdd] <;> kernel_rfl
theorem F21_lrlrrrrrr_eq  : kCode env 21 false inv k (cp c21 1018) (act 82 [(0, x0), (3, x3), (5, x5), (7, x7), (45, x45), (46, x46), (47, x47)]) h K = F21_lrlrrrrrr inv k k x0 x3 x5 x7 x45 x46 x47 h (fun y0 y3 y5 y7 y45 y46 y47 y48 h => K (.exit 0) (act 82 [(0, y0), (3, y3), (5, y5), (7, y7), (45, y45), (46, y46), (47, y47), (48, y48)]) h) := kq_loop (F21_lrlrrrrrr_j k)
theorem r21_17  : kCode env 21 false inv k (cp c21 1020) (act 82 [(0, x0), (3, x3), (5, x5), (7, x7), (45, x45), (46, x46), (47, x47), (48, x48)]) h K =
    bnd (pFieldAddr Tryz.prog 66 x5 0) fun x66 =>
    bnd (pLoad Tryz.prog 3 x66 h) fun x67 =>
    bnd (inv (.func 13) #[] #[x67, x3] h) fun x69 =>
    bnd (pExtract x69.1 0) fun x70 =>
    bnd (pExtract x69.1 1) fun x71 =>
    K .normal (act 82 [(0, x0), (3, x3), (5, x5), (10, x70), (11, x71)]) x69.2 := kq_reg
noncomputable abbrev G21_18 {β : Type} (inv : Inv) (x0 x3 x5 x10 x11 : Value) (h : AH) (K : Value → AH → Option β) : Option β :=
    bnd (pBin Tryz.prog .neq 25 (.tmp 72) (.const (.int .i64 0)) x11 (.int .i64 0)) fun x73 =>
    bnd (gd (some x73) false h (some (x10, h))) fun x75 =>
    bnd (gd (some x73) false x75.2 (some (x0, x75.2))) fun x76 =>
    bnd (gd (some x73) false x76.2 (lt (pBin Tryz.prog .neq 9 (.tmp 75) (.tmp 76) x75.1 x76.1) x76.2)) fun x77 =>
    bnd (pickV x73 (.bool true) x77.1) fun x78 =>
    K (x78) x77.2
theorem r21_18  : kCode env 21 false inv k (cp c21 2042) (act 82 [(0, x0), (3, x3), (5, x5), (10, x10), (11, x11)]) h K =
    G21_18 inv x0 x3 x5 x10 x11 h fun y78 h => K .normal (act 82 [(3, x3), (5, x5), (78, y78)]) h := kq_reg
theorem b21_rrlrrrrrrr  : kCode env 21 false inv k (cp c21 2043) (act 82 [(3, x3), (5, x5), (78, x78)]) h K = brV x78 (kCode env 21 false inv k (cp c21 4086) (act 82 [(3, x3), (5, x5), (78, x78)]) h K) (kCode env 21 false inv k (cp c21 4087) (act 82 [(3, x3), (5, x5), (78, x78)]) h K) := kq_cond
theorem r21_19  : kCode env 21 false inv k (cp c21 8172) (act 82 [(3, x3), (5, x5), (78, x78)]) h K =
    K .normal (act 82 [(2, (.int .i64 0)), (3, (.slice none 0 0)), (4, (.int .i64 4))]) h := kq_reg
theorem r21_20  : kCode env 21 false inv k (cp c21 1022) (act 82 [(3, x3), (5, x5), (78, x78)]) h K =
    bnd (pFieldAddr Tryz.prog 66 x5 0) fun x79 =>
    bnd (pLoad Tryz.prog 3 x79 h) fun x80 =>
    K .normal (act 82 [(2, x80), (3, x3), (4, (.int .i64 0))]) h := kq_reg
/-- shadowbook/segment.Get -/
noncomputable def F21 (inv : Inv) (k : Nat) (x0 : Value) (h : AH) : Option (Value × AH) :=
    bnd (inv (.func 36) #[] #[x0] h) fun x14 =>
    bnd (pExtract x14.1 0) fun x15 =>
    bnd (pExtract x14.1 1) fun x16 =>
    bnd (pAlloc Tryz.prog 66 x14.2) fun x5 =>
    bnd (kSt (pStore Tryz.prog 66 x5.1 x15 x5.2)) fun u =>
    bnd (pBin Tryz.prog .neq 25 (.tmp 17) (.const (.int .i64 0)) x16 (.int .i64 0)) fun x18 =>
    brV x18
    (some (.tuple #[(.int .i64 0), (.slice none 0 0), x16], u.2))
    (bnd (pFieldAddr Tryz.prog 66 x5.1 2) fun x20 =>
    bnd (pFieldAddr Tryz.prog 38 x20 0) fun x21 =>
    bnd (pLoad Tryz.prog 3 x21 u.2) fun x22 =>
    bnd (pFieldAddr Tryz.prog 66 x5.1 2) fun x23 =>
    bnd (pFieldAddr Tryz.prog 38 x23 1) fun x24 =>
    bnd (pLoad Tryz.prog 3 x24 u.2) fun x25 =>
    bnd (pBin Tryz.prog .sub 3 (.tmp 22) (.tmp 25) x22 x25) fun x26 =>
    bnd (pBin Tryz.prog .gtr 3 (.tmp 27) (.const (.int .i64 0)) x26 (.int .i64 0)) fun x28 =>
    F21_rlrrrrr inv k x0 (.slice none 0 0) x5.1 x26 (.slice none 0 0) x28 u.2
    (fun y0 y3 y4 y5 y6 y7 y28 y40 h =>
    bnd (pFieldAddr Tryz.prog 66 y5 1) fun x42 =>
    bnd (pLoad Tryz.prog 32 x42 h) fun x43 =>
    bnd (inv (.func 39) #[] #[x43, y6] h) fun x45 =>
    bnd (pLen Tryz.prog #[72] x45.1 x45.2) fun x46 =>
    F21_lrlrrrrrr inv k k y0 y3 y5 y7 x45.1 x46 (.int .i64 0) x45.2
    (fun y0_1 y3_2 y5_3 y7_4 y45 y46 y47 y48 h_5 =>
    bnd (pFieldAddr Tryz.prog 66 y5_3 0) fun x66 =>
    bnd (pLoad Tryz.prog 3 x66 h_5) fun x67 =>
    bnd (inv (.func 13) #[] #[x67, y3_2] h_5) fun x69 =>
    bnd (pExtract x69.1 0) fun x70 =>
    bnd (pExtract x69.1 1) fun x71 =>
    G21_18 inv y0_1 y3_2 y5_3 x70 x71 x69.2 fun y78 h_6 =>
    brV y78
    (some (.tuple #[(.int .i64 0), (.slice none 0 0), (.int .i64 4)], h_6))
    (bnd (pFieldAddr Tryz.prog 66 y5_3 0) fun x79 =>
    bnd (pLoad Tryz.prog 3 x79 h_6) fun x80 =>
    some (.tuple #[x80, y3_2, (.int .i64 0)], h_6))))
    (fun y2 y3_7 y4_8 h_9 =>
    some (.tuple #[y2, y3_7, y4_8], h_9)))
theorem F21_eq : eFun env k inv 21 #[x0] h = F21 inv k x0 h := by
      refine (kq_fun (a := act 82 [(0, x0)]) (c := cp c21 1)).trans ?_
      unfold F21
      simp only [kq_seq c21 1, r21_0, kq_seq c21 3, r21_1, kq_seq c21 7, kq_seq c21 14, r21_2, b21_rlrr, kq_seq c21 58, r21_3, kq_ret c21 117, res21_0, kq_skip c21 59, kq_seq c21 15, r21_4, kq_seq c21 31, r21_5, kq_seq c21 63, kq_seq c21 126, r21_6, F21_rlrrrrr_eq, kq_seq c21 127, kq_seq c21 254, r21_10, kq_block c21 509 0, F21_lrlrrrrrr_eq, kq_seq c21 255, kq_seq c21 510, r21_17, kq_seq c21 1021, r21_18, b21_rrlrrrrrrr, kq_seq c21 4086, r21_19, kq_ret c21 8173, kq_skip c21 4087, kq_seq c21 511, r21_20, kq_ret c21 1023, reduceIte, reduceCtorEq, XE.exit.injEq, Nat.reduceEqDiff, Nat.reduceMul, Nat.reduceAdd] <;> kernel_rfl
theorem F21_call : eInv env (k + 1) (.func 21) #[] #[x0] h = F21 (eInv env k) k x0 h := kq_inv F21_eq
noncomputable def c22 : Code := codeOf Tryz.prog 22
theorem r22_0  : kCode env 22 false inv k (cp c22 2) (act 26 [(0, x0), (1, x1)]) h K =
    K .normal (act 26 [(0, x0), (1, x1)]) h := kq_reg
theorem r22_1  : kCode env 22 false inv k (cp c22 12) (act 26 [(0, x0), (1, x1)]) h K =
    bnd (pLen Tryz.prog #[22] x0 h) fun x7 =>
    bnd (pLen Tryz.prog #[22] x1 h) fun x9 =>
    bnd (pBin Tryz.prog .neq 3 (.tmp 7) (.tmp 9) x7 x9) fun x10 =>
    K .normal (act 26 [(0, x0), (1, x1), (10, x10)]) h := kq_reg
theorem b22_rlr  : kCode env 22 false inv k (cp c22 13) (act 26 [(0, x0), (1, x1), (10, x10)]) h K = brV x10 (kCode env 22 false inv k (cp c22 26) (act 26 [(0, x0), (1, x1), (10, x10)]) h K) (kCode env 22 false inv k (cp c22 27) (act 26 [(0, x0), (1, x1), (10, x10)]) h K) := kq_cond
theorem r22_2  : kCode env 22 false inv k (cp c22 52) (act 26 [(0, x0), (1, x1), (10, x10)]) h K =
    K .normal (act 26 [(4, (.bool false))]) h := kq_reg
theorem res22_0 : resOfFn env.P 22 .ret (act 26 [(4, x4)]) h = some (x4, h) := kq_res
theorem r22_3  : kCode env 22 false inv k (cp c22 28) (act 26 [(0, x0), (1, x1), (10, x10)]) h K =
    K .normal (act 26 [(0, x0), (1, x1), (5, (.int .i64 0))]) h := kq_reg
theorem r22_4  : kCode env 22 false inv k (cp c22 464) (act 26 [(0, x0), (1, x1), (5, x5)]) h K =
    bnd (pLen Tryz.prog #[22] x0 h) fun x13 =>
    bnd (pBin Tryz.prog .lss 3 (.tmp 11) (.tmp 13) x5 x13) fun x14 =>
    K .normal (act 26 [(0, x0), (1, x1), (5, x5), (14, x14)]) h := kq_reg
theorem b22_rlllrlrr  : kCode env 22 false inv k (cp c22 465) (act 26 [(0, x0), (1, x1), (5, x5), (14, x14)]) h K = brV x14 (kCode env 22 false inv k (cp c22 930) (act 26 [(0, x0), (1, x1), (5, x5), (14, x14)]) h K) (kCode env 22 false inv k (cp c22 931) (act 26 [(0, x0), (1, x1), (5, x5), (14, x14)]) h K) := kq_cond
theorem r22_6  : kCode env 22 false inv k (cp c22 1864) (act 26 [(0, x0), (1, x1), (5, x5), (14, x14)]) h K =
    bnd (pIndexAddr Tryz.prog 22 x0 x5) fun x19 =>
    bnd (pLoad Tryz.prog 31 x19 h) fun x20 =>
    bnd (pIndexAddr Tryz.prog 22 x1 x5) fun x23 =>
    bnd (pLoad Tryz.prog 31 x23 h) fun x24 =>
    bnd (pBin Tryz.prog .neq 31 (.tmp 20) (.tmp 24) x20 x24) fun x25 =>
    K .normal (act 26 [(0, x0), (1, x1), (5, x5), (25, x25)]) h := kq_draw
theorem b22_rllrllrlrr  : kCode env 22 false inv k (cp c22 1865) (act 26 [(0, x0), (1, x1), (5, x5), (25, x25)]) h K = brV x25 (kCode env 22 false inv k (cp c22 3730) (act 26 [(0, x0), (1, x1), (5, x5), (25, x25)]) h K) (kCode env 22 false inv k (cp c22 3731) (act 26 [(0, x0), (1, x1), (5, x5), (25, x25)]) h K) := kq_cond
theorem r22_7  : kCode env 22 false inv k (cp c22 7460) (act 26 [(0, x0), (1, x1), (5, x5), (25, x25)]) h K =
    K .normal (act 26 [(4, (.bool false))]) h := kq_reg
theorem r22_5  : kCode env 22 false inv k (cp c22 467) (act 26 [(0, x0), (1, x1), (5, x5), (25, x25)]) h K =
    bnd (pBin Tryz.prog .add 3 (.tmp 15) (.const (.int .i64 1)) x5 (.int .i64 1)) fun x16 =>
    K .normal (act 26 [(0, x0), (1, x1), (5, x16)]) h := kq_reg
noncomputable def F22_lrlrr {β : Type} (inv : Inv) (k : Nat) : Nat → Value → Value → Value → AH → (Value → Value → Value → Value → AH → Option β) → (Value → AH → Option β) → Option β
  | 0, _, _, _, _, _, _ => none
  | j + 1, x0, x1, x5, h, ke0, kr =>
    bnd (pLen Tryz.prog #[22] x0 h) fun x13 =>
    bnd (pBin Tryz.prog .lss 3 (.tmp 11) (.tmp 13) x5 x13) fun x14 =>
    brV x14
    (bnd (pIndexAddr Tryz.prog 22 x0 x5) fun x19 =>
    bnd (pLoad Tryz.prog 31 x19 h) fun x20 =>
    bnd (pIndexAddr Tryz.prog 22 x1 x5) fun x23 =>
    bnd (pLoad Tryz.prog 31 x23 h) fun x24 =>
    bnd (pBin Tryz.prog .neq 31 (.tmp 20) (.tmp 24) x20 x24) fun x25 =>
    brV x25
    (kr (.bool false) h)
    (bnd (pBin Tryz.prog .add 3 (.tmp 15) (.const (.int .i64 1)) x5 (.int .i64 1)) fun x16 =>
    F22_lrlrr inv k j x0 x1 x16 h ke0 kr))
    (ke0 x0 x1 x5 x14 h)
theorem F22_lrlrr_j (j : Nat) : kLoop (kCode env 22 false inv k (cp c22 116)) j (act 26 [(0, x0), (1, x1), (5, x5)]) h K = F22_lrlrr inv k j x0 x1 x5 h (fun y0 y1 y5 y14 h => K (.exit 0) (act 26 [(0, y0), (1, y1), (5, y5), (14, y14)]) h) (fun y4 h => K .ret (act 26 [(4, y4)]) h) := by
      induction j generalizing x0 x1 x5 h with
      | zero => rfl
      | succ j ih =>
        unfold F22_lrlrr
        simp only [kLoop, kq_seq c22 116, kq_seq c22 232, r22_4, b22_rlllrlrr, kq_skip c22 930, kq_seq c22 233, kq_block c22 466 1, kq_seq c22 932, r22_6, b22_rllrllrlrr, kq_seq c22 3730, r22_7, kq_ret c22 7461, kq_skip c22 3731, r22_5, kq_exit c22 931 0, ih, reduceIte, reduceCtorEq, XE.exit.injEq, Nat.reduceEqDiff, Nat.reduceMul, Nat.reduceAdd] <;> kernel_rfl
theorem F22_lrlrr_eq  : kCode env 22 false inv k (cp c22 58) (act 26 [(0, x0), (1, x1), (5, x5)]) h K = F22_lrlrr inv k k x0 x1 x5 h (fun y0 y1 y5 y14 h => K (.exit 0) (act 26 [(0, y0), (1, y1), (5, y5), (14, y14)]) h) (fun y4 h => K .ret (act 26 [(4, y4)]) h) := kq_loop (F22_lrlrr_j k)
theorem r22_8  : kCode env 22 false inv k (cp c22 30) (act 26 [(0, x0), (1, x1), (5, x5), (14, x14)]) h K =
    K .normal (act 26 [(4, (.bool true))]) h := kq_reg
/-- shadowbook/shadowbookkit.Same[shadowbook/api.Cell] -/
noncomputable def F22 (inv : Inv) (k : Nat) (x0 x1 : Value) (h : AH) : Option (Value × AH) :=
    bnd (pLen Tryz.prog #[22] x0 h) fun x7 =>
    bnd (pLen Tryz.prog #[22] x1 h) fun x9 =>
    bnd (pBin Tryz.prog .neq 3 (.tmp 7) (.tmp 9) x7 x9) fun x10 =>
    brV x10
    (some ((.bool false), h))
    (F22_lrlrr inv k k x0 x1 (.int .i64 0) h
    (fun y0 y1 y5 y14 h =>
    some ((.bool true), h))
    (fun y4 h_1 =>
    some (y4, h_1)))
theorem F22_eq : eFun env k inv 22 #[x0, x1] h = F22 inv k x0 x1 h := by
      refine (kq_fun (a := act 26 [(0, x0), (1, x1)]) (c := cp c22 1)).trans ?_
      unfold F22
      simp only [kq_seq c22 1, r22_0, kq_seq c22 3, kq_seq c22 6, r22_1, b22_rlr, kq_seq c22 26, r22_2, kq_ret c22 53, res22_0, kq_skip c22 27, kq_seq c22 7, kq_seq c22 14, r22_3, kq_block c22 29 0, F22_lrlrr_eq, kq_seq c22 15, r22_8, kq_ret c22 31, reduceIte, reduceCtorEq, XE.exit.injEq, Nat.reduceEqDiff, Nat.reduceMul, Nat.reduceAdd] <;> kernel_rfl
theorem F22_call : eInv env (k + 1) (.func 22) #[] #[x0, x1] h = F22 (eInv env k) k x0 x1 h := kq_inv F22_eq
noncomputable def c28 : Code := codeOf Tryz.prog 28
theorem r28_0  : kCode env 28 false inv k (cp c28 2) (act 16 [(0, x0)]) h K =
    K .normal (act 16 [(0, x0)]) h := kq_reg
theorem r28_1  : kCode env 28 false inv k (cp c28 12) (act 16 [(0, x0)]) h K =
    K .normal (act 16 [(3, x0)]) h := kq_reg
theorem r28_2  : kCode env 28 false inv k (cp c28 52) (act 16 [(3, x3)]) h K =
    bnd (pBin Tryz.prog .eql 3 (.tmp 3) (.const (.int .i64 1)) x3 (.int .i64 1)) fun x5 =>
    K .normal (act 16 [(3, x3), (4, x5)]) h := kq_reg
theorem b28_rlrlr  : kCode env 28 false inv k (cp c28 53) (act 16 [(3, x3), (4, x4)]) h K = brV x4 (kCode env 28 false inv k (cp c28 106) (act 16 [(3, x3), (4, x4)]) h K) (kCode env 28 false inv k (cp c28 107) (act 16 [(3, x3), (4, x4)]) h K) := kq_cond
theorem r28_3  : kCode env 28 false inv k (cp c28 212) (act 16 [(3, x3), (4, x4)]) h K =
    bnd (inv (.func 44) #[] #[] h) fun x6 =>
    bnd (pMakeIface Tryz.prog 86 x6.1) fun x7 =>
    K .normal (act 16 [(2, x7)]) x6.2 := kq_reg
theorem res28_0 : resOfFn env.P 28 .ret (act 16 [(2, x2)]) h = some (x2, h) := kq_res
theorem r28_4  : kCode env 28 false inv k (cp c28 214) (act 16 [(3, x3), (4, x4)]) h K =
    bnd (pBin Tryz.prog .eql 3 (.tmp 3) (.const (.int .i64 2)) x3 (.int .i64 2)) fun x9 =>
    K .normal (act 16 [(3, x3), (8, x9)]) h := kq_reg
theorem b28_rrrlrlr  : kCode env 28 false inv k (cp c28 215) (act 16 [(3, x3), (8, x8)]) h K = brV x8 (kCode env 28 false inv k (cp c28 430) (act 16 [(3, x3), (8, x8)]) h K) (kCode env 28 false inv k (cp c28 431) (act 16 [(3, x3), (8, x8)]) h K) := kq_cond
theorem r28_5  : kCode env 28 false inv k (cp c28 860) (act 16 [(3, x3), (8, x8)]) h K =
    bnd (inv (.func 45) #[] #[] h) fun x10 =>
    bnd (pMakeIface Tryz.prog 94 x10.1) fun x11 =>
    K .normal (act 16 [(2, x11)]) x10.2 := kq_reg
theorem r28_6  : kCode env 28 false inv k (cp c28 862) (act 16 [(3, x3), (8, x8)]) h K =
    bnd (pBin Tryz.prog .eql 3 (.tmp 3) (.const (.int .i64 3)) x3 (.int .i64 3)) fun x13 =>
    K .normal (act 16 [(12, x13)]) h := kq_reg
theorem b28_rrrrrlrlr  : kCode env 28 false inv k (cp c28 863) (act 16 [(12, x12)]) h K = brV x12 (kCode env 28 false inv k (cp c28 1726) (act 16 [(12, x12)]) h K) (kCode env 28 false inv k (cp c28 1727) (act 16 [(12, x12)]) h K) := kq_cond
theorem r28_7  : kCode env 28 false inv k (cp c28 3452) (act 16 [(12, x12)]) h K =
    bnd (inv (.func 46) #[] #[] h) fun x14 =>
    bnd (pMakeIface Tryz.prog 103 x14.1) fun x15 =>
    K .normal (act 16 [(2, x15)]) x14.2 := kq_reg
theorem r28_8  : kCode env 28 false inv k (cp c28 14) (act 16 [(12, x12)]) h K =
    K .normal (act 16 [(2, .nilIface)]) h := kq_reg
/-- shadowbook/segment.of -/
noncomputable def F28 (inv : Inv) (k : Nat) (x0 : Value) (h : AH) : Option (Value × AH) :=
    bnd (pBin Tryz.prog .eql 3 (.tmp 3) (.const (.int .i64 1)) x0 (.int .i64 1)) fun x5 =>
    brV x5
    (bnd (inv (.func 44) #[] #[] h) fun x6 =>
    bnd (pMakeIface Tryz.prog 86 x6.1) fun x7 =>
    some (x7, x6.2))
    (bnd (pBin Tryz.prog .eql 3 (.tmp 3) (.const (.int .i64 2)) x0 (.int .i64 2)) fun x9 =>
    brV x9
    (bnd (inv (.func 45) #[] #[] h) fun x10 =>
    bnd (pMakeIface Tryz.prog 94 x10.1) fun x11 =>
    some (x11, x10.2))
    (bnd (pBin Tryz.prog .eql 3 (.tmp 3) (.const (.int .i64 3)) x0 (.int .i64 3)) fun x13 =>
    brV x13
    (bnd (inv (.func 46) #[] #[] h) fun x14 =>
    bnd (pMakeIface Tryz.prog 103 x14.1) fun x15 =>
    some (x15, x14.2))
    (some (.nilIface, h))))
theorem F28_eq : eFun env k inv 28 #[x0] h = F28 inv k x0 h := by
      refine (kq_fun (a := act 16 [(0, x0)]) (c := cp c28 1)).trans ?_
      unfold F28
      simp only [kq_seq c28 1, r28_0, kq_seq c28 3, kq_seq c28 6, r28_1, kq_block c28 13 0, kq_seq c28 26, r28_2, b28_rlrlr, kq_seq c28 106, r28_3, kq_ret c28 213, res28_0, kq_seq c28 107, r28_4, b28_rrrlrlr, kq_seq c28 430, r28_5, kq_ret c28 861, kq_seq c28 431, r28_6, b28_rrrrrlrlr, kq_seq c28 1726, r28_7, kq_ret c28 3453, kq_skip c28 1727, kq_seq c28 7, r28_8, kq_ret c28 15, reduceIte, reduceCtorEq, XE.exit.injEq, Nat.reduceEqDiff, Nat.reduceMul, Nat.reduceAdd] <;> kernel_rfl
theorem F28_call : eInv env (k + 1) (.func 28) #[] #[x0] h = F28 (eInv env k) k x0 h := kq_inv F28_eq
noncomputable def c29 : Code := codeOf Tryz.prog 29
theorem r29_0  : kCode env 29 false inv k (cp c29 2) (act 34 [(0, x0)]) h K =
    bnd (pBox Tryz.prog 31 x0 h) fun x1 =>
    K .normal (act 34 [(1, x1.1)]) x1.2 := kq_reg
theorem r29_1  : kCode env 29 false inv k (cp c29 12) (act 34 [(1, x1)]) h K =
    bnd (pFieldAddr Tryz.prog 31 x1 2) fun x4 =>
    bnd (pLoad Tryz.prog 9 x4 h) fun x5 =>
    bnd (pLen Tryz.prog #[9] x5 h) fun x6 =>
    bnd (pBin Tryz.prog .gtr 3 (.tmp 6) (.const (.int .i64 65536)) x6 (.int .i64 65536)) fun x7 =>
    K .normal (act 34 [(1, x1), (7, x7)]) h := kq_reg
theorem b29_rlr  : kCode env 29 false inv k (cp c29 13) (act 34 [(1, x1), (7, x7)]) h K = brV x7 (kCode env 29 false inv k (cp c29 26) (act 34 [(1, x1), (7, x7)]) h K) (kCode env 29 false inv k (cp c29 27) (act 34 [(1, x1), (7, x7)]) h K) := kq_cond
theorem r29_2  : kCode env 29 false inv k (cp c29 52) (act 34 [(1, x1), (7, x7)]) h K =
    K .normal (act 34 [(2, (.int .i64 3))]) h := kq_reg
theorem res29_0 : resOfFn env.P 29 .ret (act 34 [(2, x2)]) h = some (x2, h) := kq_res
theorem r29_3  : kCode env 29 false inv k (cp c29 14) (act 34 [(1, x1), (7, x7)]) h K =
    bnd (pFieldAddr Tryz.prog 31 x1 0) fun x8 =>
    bnd (pLoad Tryz.prog 3 x8 h) fun x9 =>
    bnd (pBuild Tryz.prog 31 #[(0, x9)]) fun x10 =>
    bnd (pAlloc Tryz.prog 31 h) fun x3 =>
    bnd (kSt (pStore Tryz.prog 31 x3.1 x10 x3.2)) fun u =>
    K .normal (act 34 [(1, x1), (3, x3.1)]) u.2 := kq_reg
theorem r29_4  : kCode env 29 false inv k (cp c29 60) (act 34 [(1, x1), (3, x3)]) h K =
    bnd (pFieldAddr Tryz.prog 31 x1 0) fun x11 =>
    bnd (pLoad Tryz.prog 3 x11 h) fun x12 =>
    K .normal (act 34 [(1, x1), (3, x3), (12, x12)]) h := kq_reg
theorem r29_6  : kCode env 29 false inv k (cp c29 244) (act 34 [(1, x1), (3, x3), (12, x12)]) h K =
    bnd (pBin Tryz.prog .eql 3 (.tmp 12) (.const (.int .i64 0)) x12 (.int .i64 0)) fun x14 =>
    K .normal (act 34 [(1, x1), (3, x3), (12, x12), (13, x14)]) h := kq_reg
theorem b29_rlrlrrr  : kCode env 29 false inv k (cp c29 245) (act 34 [(1, x1), (3, x3), (12, x12), (13, x13)]) h K = brV x13 (kCode env 29 false inv k (cp c29 490) (act 34 [(1, x1), (3, x3), (12, x12), (13, x13)]) h K) (kCode env 29 false inv k (cp c29 491) (act 34 [(1, x1), (3, x3), (12, x12), (13, x13)]) h K) := kq_cond
theorem r29_7  : kCode env 29 false inv k (cp c29 982) (act 34 [(1, x1), (3, x3), (12, x12), (13, x13)]) h K =
    bnd (pBin Tryz.prog .eql 3 (.tmp 12) (.const (.int .i64 1)) x12 (.int .i64 1)) fun x16 =>
    K .normal (act 34 [(1, x1), (3, x3), (12, x12), (15, x16)]) h := kq_reg
theorem b29_rrrlrlrrr  : kCode env 29 false inv k (cp c29 983) (act 34 [(1, x1), (3, x3), (12, x12), (15, x15)]) h K = brV x15 (kCode env 29 false inv k (cp c29 1966) (act 34 [(1, x1), (3, x3), (12, x12), (15, x15)]) h K) (kCode env 29 false inv k (cp c29 1967) (act 34 [(1, x1), (3, x3), (12, x12), (15, x15)]) h K) := kq_cond
theorem r29_8  : kCode env 29 false inv k (cp c29 1966) (act 34 [(1, x1), (3, x3), (12, x12), (15, x15)]) h K =
    bnd (pFieldAddr Tryz.prog 31 x1 1) fun x17 =>
    bnd (pLoad Tryz.prog 2 x17 h) fun x18 =>
    bnd (pFieldAddr Tryz.prog 31 x3 1) fun x19 =>
    bnd (kSt (pStore Tryz.prog 2 x19 x18 h)) fun u =>
    K .normal (act 34 [(1, x1), (3, x3)]) u.2 := kq_reg
theorem r29_9  : kCode env 29 false inv k (cp c29 3934) (act 34 [(1, x1), (3, x3), (12, x12), (15, x15)]) h K =
    bnd (pBin Tryz.prog .eql 3 (.tmp 12) (.const (.int .i64 2)) x12 (.int .i64 2)) fun x21 =>
    K .normal (act 34 [(1, x1), (3, x3), (12, x12), (20, x21)]) h := kq_reg
theorem b29_rrrrrlrlrrr  : kCode env 29 false inv k (cp c29 3935) (act 34 [(1, x1), (3, x3), (12, x12), (20, x20)]) h K = brV x20 (kCode env 29 false inv k (cp c29 7870) (act 34 [(1, x1), (3, x3), (12, x12), (20, x20)]) h K) (kCode env 29 false inv k (cp c29 7871) (act 34 [(1, x1), (3, x3), (12, x12), (20, x20)]) h K) := kq_cond
theorem r29_10  : kCode env 29 false inv k (cp c29 7870) (act 34 [(1, x1), (3, x3), (12, x12), (20, x20)]) h K =
    bnd (pFieldAddr Tryz.prog 31 x1 1) fun x22 =>
    bnd (pLoad Tryz.prog 2 x22 h) fun x23 =>
    bnd (pBin Tryz.prog .and 2 (.tmp 23) (.const (.int .i64 1)) x23 (.int .i64 1)) fun x24 =>
    bnd (pFieldAddr Tryz.prog 31 x3 1) fun x25 =>
    bnd (kSt (pStore Tryz.prog 2 x25 x24 h)) fun u =>
    K .normal (act 34 [(1, x1), (3, x3)]) u.2 := kq_reg
theorem r29_11  : kCode env 29 false inv k (cp c29 15742) (act 34 [(1, x1), (3, x3), (12, x12), (20, x20)]) h K =
    bnd (pBin Tryz.prog .eql 3 (.tmp 12) (.const (.int .i64 3)) x12 (.int .i64 3)) fun x27 =>
    K .normal (act 34 [(1, x1), (3, x3), (26, x27)]) h := kq_reg
theorem b29_rrrrrrrlrlrrr  : kCode env 29 false inv k (cp c29 15743) (act 34 [(1, x1), (3, x3), (26, x26)]) h K = brV x26 (kCode env 29 false inv k (cp c29 31486) (act 34 [(1, x1), (3, x3), (26, x26)]) h K) (kCode env 29 false inv k (cp c29 31487) (act 34 [(1, x1), (3, x3), (26, x26)]) h K) := kq_cond
theorem r29_12  : kCode env 29 false inv k (cp c29 31486) (act 34 [(1, x1), (3, x3), (26, x26)]) h K =
    bnd (pFieldAddr Tryz.prog 31 x1 2) fun x28 =>
    bnd (pLoad Tryz.prog 9 x28 h) fun x29 =>
    bnd (pFieldAddr Tryz.prog 31 x3 2) fun x30 =>
    bnd (kSt (pStore Tryz.prog 9 x30 x29 h)) fun u =>
    K .normal (act 34 [(1, x1), (3, x3)]) u.2 := kq_reg
theorem r29_5  : kCode env 29 false inv k (cp c29 62974) (act 34 [(1, x1), (3, x3), (26, x26)]) h K =
    K .normal (act 34 [(2, (.int .i64 2))]) h := kq_reg
noncomputable def F29_rlrrr {β : Type} (inv : Inv) (k : Nat) (x1 x3 x12 : Value) (h : AH) (kn : (Value → Value → Value → Value → AH → Option β)) (kr : (Value → AH → Option β)) : Option β :=
    bnd (pBin Tryz.prog .eql 3 (.tmp 12) (.const (.int .i64 0)) x12 (.int .i64 0)) fun x14 =>
    brV x14
    (kn x1 x3 x12 x14 h)
    (bnd (pBin Tryz.prog .eql 3 (.tmp 12) (.const (.int .i64 1)) x12 (.int .i64 1)) fun x16 =>
    brV x16
    (bnd (pFieldAddr Tryz.prog 31 x1 1) fun x17 =>
    bnd (pLoad Tryz.prog 2 x17 h) fun x18 =>
    bnd (pFieldAddr Tryz.prog 31 x3 1) fun x19 =>
    bnd (kSt (pStore Tryz.prog 2 x19 x18 h)) fun u =>
    kn x1 x3 unk unk u.2)
    (bnd (pBin Tryz.prog .eql 3 (.tmp 12) (.const (.int .i64 2)) x12 (.int .i64 2)) fun x21 =>
    brV x21
    (bnd (pFieldAddr Tryz.prog 31 x1 1) fun x22 =>
    bnd (pLoad Tryz.prog 2 x22 h) fun x23 =>
    bnd (pBin Tryz.prog .and 2 (.tmp 23) (.const (.int .i64 1)) x23 (.int .i64 1)) fun x24 =>
    bnd (pFieldAddr Tryz.prog 31 x3 1) fun x25 =>
    bnd (kSt (pStore Tryz.prog 2 x25 x24 h)) fun u_1 =>
    kn x1 x3 unk unk u_1.2)
    (bnd (pBin Tryz.prog .eql 3 (.tmp 12) (.const (.int .i64 3)) x12 (.int .i64 3)) fun x27 =>
    brV x27
    (bnd (pFieldAddr Tryz.prog 31 x1 2) fun x28 =>
    bnd (pLoad Tryz.prog 9 x28 h) fun x29 =>
    bnd (pFieldAddr Tryz.prog 31 x3 2) fun x30 =>
    bnd (kSt (pStore Tryz.prog 9 x30 x29 h)) fun u_2 =>
    kn x1 x3 unk unk u_2.2)
    (kr (.int .i64 2) h))))
theorem F29_rlrrr_eq  : kCode env 29 false inv k (cp c29 61) (act 34 [(1, x1), (3, x3), (12, x12)]) h K = F29_rlrrr inv k x1 x3 x12 h (fun y1 y3 y12 y13 h => K .normal (act 34 [(1, y1), (3, y3), (12, y12), (13, y13)]) h) (fun y2 h => K .ret (act 34 [(2, y2)]) h) := by
      unfold F29_rlrrr
      simp only [kq_block c29 61 0, kq_seq c29 122, r29_6, b29_rlrlrrr, kq_skip c29 490, kq_seq c29 491, r29_7, b29_rrrlrlrrr, r29_8, kq_seq c29 1967, r29_9, b29_rrrrrlrlrrr, r29_10, kq_seq c29 7871, r29_11, b29_rrrrrrrlrlrrr, r29_12, kq_seq c29 31487, r29_5, kq_ret c29 62975, reduceIte, reduceCtorEq, XE.exit.injEq, Nat.reduceEqDiff, Nat.reduceMul, Nat.reduceAdd] <;> kernel_rfl
theorem r29_13  : kCode env 29 false inv k (cp c29 124) (act 34 [(1, x1), (3, x3), (12, x12), (13, x13)]) h K =
    bnd (pLoad Tryz.prog 31 x3 h) fun x31 =>
    bnd (pLoad Tryz.prog 31 x1 h) fun x32 =>
    bnd (pBin Tryz.prog .neq 31 (.tmp 31) (.tmp 32) x31 x32) fun x33 =>
    K .normal (act 34 [(33, x33)]) h := kq_reg
theorem b29_rlrrrr  : kCode env 29 false inv k (cp c29 125) (act 34 [(33, x33)]) h K = brV x33 (kCode env 29 false inv k (cp c29 250) (act 34 [(33, x33)]) h K) (kCode env 29 false inv k (cp c29 251) (act 34 [(33, x33)]) h K) := kq_cond
theorem r29_14  : kCode env 29 false inv k (cp c29 500) (act 34 [(33, x33)]) h K =
    K .normal (act 34 [(2, (.int .i64 2))]) h := kq_reg
theorem r29_15  : kCode env 29 false inv k (cp c29 126) (act 34 [(33, x33)]) h K =
    K .normal (act 34 [(2, (.int .i64 0))]) h := kq_reg
/-- shadowbook/zone.Cell -/
noncomputable def F29 (inv : Inv) (k : Nat) (x0 : Value) (h : AH) : Option (Value × AH) :=
    bnd (pBox Tryz.prog 31 x0 h) fun x1 =>
    bnd (pFieldAddr Tryz.prog 31 x1.1 2) fun x4 =>
    bnd (pLoad Tryz.prog 9 x4 x1.2) fun x5 =>
    bnd (pLen Tryz.prog #[9] x5 x1.2) fun x6 =>
    bnd (pBin Tryz.prog .gtr 3 (.tmp 6) (.const (.int .i64 65536)) x6 (.int .i64 65536)) fun x7 =>
    brV x7
    (some ((.int .i64 3), x1.2))
    (bnd (pFieldAddr Tryz.prog 31 x1.1 0) fun x8 =>
    bnd (pLoad Tryz.prog 3 x8 x1.2) fun x9 =>
    bnd (pBuild Tryz.prog 31 #[(0, x9)]) fun x10 =>
    bnd (pAlloc Tryz.prog 31 x1.2) fun x3 =>
    bnd (kSt (pStore Tryz.prog 31 x3.1 x10 x3.2)) fun u =>
    bnd (pFieldAddr Tryz.prog 31 x1.1 0) fun x11 =>
    bnd (pLoad Tryz.prog 3 x11 u.2) fun x12 =>
    F29_rlrrr inv k x1.1 x3.1 x12 u.2
    (fun y1 y3 y12 y13 h =>
    bnd (pLoad Tryz.prog 31 y3 h) fun x31 =>
    bnd (pLoad Tryz.prog 31 y1 h) fun x32 =>
    bnd (pBin Tryz.prog .neq 31 (.tmp 31) (.tmp 32) x31 x32) fun x33 =>
    brV x33
    (some ((.int .i64 2), h))
    (some ((.int .i64 0), h)))
    (fun y2 h_3 =>
    some (y2, h_3)))
theorem F29_eq : eFun env k inv 29 #[x0] h = F29 inv k x0 h := by
      refine (kq_fun (a := act 34 [(0, x0)]) (c := cp c29 1)).trans ?_
      unfold F29
      simp only [kq_seq c29 1, r29_0, kq_seq c29 3, kq_seq c29 6, r29_1, b29_rlr, kq_seq c29 26, r29_2, kq_ret c29 53, res29_0, kq_skip c29 27, kq_seq c29 7, r29_3, kq_seq c29 15, kq_seq c29 30, r29_4, F29_rlrrr_eq, kq_seq c29 31, kq_seq c29 62, r29_13, b29_rlrrrr, kq_seq c29 250, r29_14, kq_ret c29 501, kq_skip c29 251, kq_seq c29 63, r29_15, kq_ret c29 127, reduceIte, reduceCtorEq, XE.exit.injEq, Nat.reduceEqDiff, Nat.reduceMul, Nat.reduceAdd] <;> kernel_rfl
theorem F29_call : eInv env (k + 1) (.func 29) #[] #[x0] h = F29 (eInv env k) k x0 h := kq_inv F29_eq
noncomputable def c30 : Code := codeOf Tryz.prog 30
theorem r30_0  : kCode env 30 false inv k (cp c30 2) (act 34 [(0, x0)]) h K =
    K .normal (act 34 [(0, x0)]) h := kq_reg
theorem r30_1  : kCode env 30 false inv k (cp c30 12) (act 34 [(0, x0)]) h K =
    bnd (pLen Tryz.prog #[32] x0 h) fun x9 =>
    bnd (pBin Tryz.prog .gtr 3 (.tmp 9) (.const (.int .i64 4096)) x9 (.int .i64 4096)) fun x10 =>
    K .normal (act 34 [(0, x0), (10, x10)]) h := kq_reg
theorem b30_rlr  : kCode env 30 false inv k (cp c30 13) (act 34 [(0, x0), (10, x10)]) h K = brV x10 (kCode env 30 false inv k (cp c30 26) (act 34 [(0, x0), (10, x10)]) h K) (kCode env 30 false inv k (cp c30 27) (act 34 [(0, x0), (10, x10)]) h K) := kq_cond
theorem r30_2  : kCode env 30 false inv k (cp c30 52) (act 34 [(0, x0), (10, x10)]) h K =
    K .normal (act 34 [(2, (.slice none 0 0)), (3, (.int .i64 3))]) h := kq_reg
theorem res30_0 : resOfFn env.P 30 .ret (act 34 [(2, x2), (3, x3)]) h = some (.tuple #[x2, x3], h) := kq_res
theorem r30_3  : kCode env 30 false inv k (cp c30 14) (act 34 [(0, x0), (10, x10)]) h K =
    K .normal (act 34 [(0, x0), (4, x0)]) h := kq_reg
theorem r30_4  : kCode env 30 false inv k (cp c30 30) (act 34 [(0, x0), (4, x4)]) h K =
    bnd (pLen Tryz.prog #[32] x0 h) fun x13 =>
    bnd (pConv Tryz.prog 3 60 x13 h) fun x14 =>
    bnd (inv (.func 47) #[] #[(.slice none 0 0), x14] h) fun x15 =>
    bnd (inv (.func 48) #[] #[x4] x15.2) fun x17 =>
    bnd (pBuildSlice Tryz.prog 33 1 #[(0, x17.1)] x17.2) fun x18 =>
    bnd (pAppend Tryz.prog #[33, 33] x15.1 x18.1 x18.2) fun x19 =>
    K .normal (act 34 [(4, x4), (5, x19.1)]) x19.2 := kq_reg
theorem r30_5  : kCode env 30 false inv k (cp c30 124) (act 34 [(4, x4), (5, x5)]) h K =
    bnd (inv (.func 48) #[] #[x4] h) fun x21 =>
    bnd (pBin Tryz.prog .neq 5 (.tmp 21) (.const (.int .u8 2)) x21.1 (.int .u8 2)) fun x22 =>
    K .normal (act 34 [(4, x4), (5, x5), (22, x22)]) x21.2 := kq_reg
theorem b30_rlrrrr  : kCode env 30 false inv k (cp c30 125) (act 34 [(4, x4), (5, x5), (22, x22)]) h K = brV x22 (kCode env 30 false inv k (cp c30 250) (act 34 [(4, x4), (5, x5), (22, x22)]) h K) (kCode env 30 false inv k (cp c30 251) (act 34 [(4, x4), (5, x5), (22, x22)]) h K) := kq_cond
theorem r30_6  : kCode env 30 false inv k (cp c30 500) (act 34 [(4, x4), (5, x5), (22, x22)]) h K =
    K .normal (act 34 [(2, x5), (3, (.int .i64 0))]) h := kq_reg
theorem r30_7  : kCode env 30 false inv k (cp c30 126) (act 34 [(4, x4), (5, x5), (22, x22)]) h K =
    bnd (inv (.func 50) #[] #[x4] h) fun x26 =>
    bnd (inv (.func 49) #[] #[x26.1, (.int .i64 1)] x26.2) fun x27 =>
    bnd (pExtract x27.1 0) fun x28 =>
    bnd (pExtract x27.1 1) fun x29 =>
    K .normal (act 34 [(5, x5), (6, x28), (7, x29)]) x27.2 := kq_reg
theorem r30_8  : kCode env 30 false inv k (cp c30 254) (act 34 [(5, x5), (6, x6), (7, x7)]) h K =
    bnd (pAppend Tryz.prog #[33, 33] x5 x6 h) fun x32 =>
    K .normal (act 34 [(2, x32.1), (3, x7)]) x32.2 := kq_reg
/-- shadowbook/nulls.Put -/
noncomputable def F30 (inv : Inv) (k : Nat) (x0 : Value) (h : AH) : Option (Value × AH) :=
    bnd (pLen Tryz.prog #[32] x0 h) fun x9 =>
    bnd (pBin Tryz.prog .gtr 3 (.tmp 9) (.const (.int .i64 4096)) x9 (.int .i64 4096)) fun x10 =>
    brV x10
    (some (.tuple #[(.slice none 0 0), (.int .i64 3)], h))
    (bnd (pLen Tryz.prog #[32] x0 h) fun x13 =>
    bnd (pConv Tryz.prog 3 60 x13 h) fun x14 =>
    bnd (inv (.func 47) #[] #[(.slice none 0 0), x14] h) fun x15 =>
    bnd (inv (.func 48) #[] #[x0] x15.2) fun x17 =>
    bnd (pBuildSlice Tryz.prog 33 1 #[(0, x17.1)] x17.2) fun x18 =>
    bnd (pAppend Tryz.prog #[33, 33] x15.1 x18.1 x18.2) fun x19 =>
    bnd (inv (.func 48) #[] #[x0] x19.2) fun x21 =>
    bnd (pBin Tryz.prog .neq 5 (.tmp 21) (.const (.int .u8 2)) x21.1 (.int .u8 2)) fun x22 =>
    brV x22
    (some (.tuple #[x19.1, (.int .i64 0)], x21.2))
    (bnd (inv (.func 50) #[] #[x0] x21.2) fun x26 =>
    bnd (inv (.func 49) #[] #[x26.1, (.int .i64 1)] x26.2) fun x27 =>
    bnd (pExtract x27.1 0) fun x28 =>
    bnd (pExtract x27.1 1) fun x29 =>
    bnd (pAppend Tryz.prog #[33, 33] x19.1 x28 x27.2) fun x32 =>
    some (.tuple #[x32.1, x29], x32.2)))
theorem F30_eq : eFun env k inv 30 #[x0] h = F30 inv k x0 h := by
      refine (kq_fun (a := act 34 [(0, x0)]) (c := cp c30 1)).trans ?_
      unfold F30
      simp only [kq_seq c30 1, r30_0, kq_seq c30 3, kq_seq c30 6, r30_1, b30_rlr, kq_seq c30 26, r30_2, kq_ret c30 53, res30_0, kq_skip c30 27, kq_seq c30 7, r30_3, kq_seq c30 15, r30_4, kq_seq c30 31, kq_seq c30 62, r30_5, b30_rlrrrr, kq_seq c30 250, r30_6, kq_ret c30 501, kq_skip c30 251, kq_seq c30 63, r30_7, kq_seq c30 127, r30_8, kq_ret c30 255, reduceIte, reduceCtorEq, XE.exit.injEq, Nat.reduceEqDiff, Nat.reduceMul, Nat.reduceAdd] <;> kernel_rfl
theorem F30_call : eInv env (k + 1) (.func 30) #[] #[x0] h = F30 (eInv env k) k x0 h := kq_inv F30_eq
noncomputable def c31 : Code := codeOf Tryz.prog 31
theorem r31_0  : kCode env 31 false inv k (cp c31 2) (act 17 [(0, x0)]) h K =
    bnd (pAlloc Tryz.prog 38 h) fun x2 =>
    K .normal (act 17 [(0, x0), (2, x2.1)]) x2.2 := kq_reg
theorem r31_1  : kCode env 31 false inv k (cp c31 12) (act 17 [(0, x0), (2, x2)]) h K =
    bnd (pLen Tryz.prog #[22] x0 h) fun x6 =>
    K .normal (act 17 [(2, x2), (5, x0), (6, x6), (7, (.int .i64 0))]) h := kq_reg
theorem r31_2  : kCode env 31 false inv k (cp c31 104) (act 17 [(2, x2), (5, x5), (6, x6), (7, x7)]) h K =
    bnd (pBin Tryz.prog .lss 3 (.tmp 7) (.tmp 6) x7 x6) fun x8 =>
    K .normal (act 17 [(2, x2), (5, x5), (6, x6), (7, x7), (8, x8)]) h := kq_reg
theorem b31_lrllrlr  : kCode env 31 false inv k (cp c31 210) (act 17 [(2, x2), (5, x5), (6, x6), (7, x7), (8, x8)]) h K = brV x8 (kCode env 31 false inv k (cp c31 420) (act 17 [(2, x2), (5, x5), (6, x6), (7, x7), (8, x8)]) h K) (kCode env 31 false inv k (cp c31 421) (act 17 [(2, x2), (5, x5), (6, x6), (7, x7), (8, x8)]) h K) := kq_cond
theorem r31_3  : kCode env 31 false inv k (cp c31 1688) (act 17 [(2, x2), (5, x5), (6, x6), (7, x7), (8, x8)]) h K =
    bnd (pIndexAddr Tryz.prog 22 x5 x7) fun x9 =>
    bnd (pLoad Tryz.prog 31 x9 h) fun x10 =>
    bnd (pAlloc Tryz.prog 31 h) fun x4 =>
    bnd (kSt (pStore Tryz.prog 31 x4.1 x10 x4.2)) fun u =>
    K .normal (act 17 [(2, x2), (4, x4.1), (5, x5), (6, x6), (7, x7)]) u.2 := kq_reg
theorem r31_4  : kCode env 31 false inv k (cp c31 1689) (act 17 [(2, x2), (4, x4), (5, x5), (6, x6), (7, x7)]) h K =
    bnd (pLoad Tryz.prog 38 x2 h) fun x11 =>
    bnd (pLoad Tryz.prog 31 x4 h) fun x12 =>
    bnd (inv (.func 52) #[] #[x12] h) fun x13 =>
    bnd (inv (.func 51) #[] #[x11, x13.1] x13.2) fun x14 =>
    bnd (kSt (pStore Tryz.prog 38 x2 x14.1 x14.2)) fun u =>
    chkK ((!true || !true || (sameO (pLoad Tryz.prog 38 x2 h) x11 && sameO (pLoad Tryz.prog 38 x2 x13.2) x11)) && true) <|
    K .normal (act 17 [(2, x2), (5, x5), (6, x6), (7, x7)]) u.2 := kq_draw
theorem r31_5  : kCode env 31 false inv k (cp c31 423) (act 17 [(2, x2), (5, x5), (6, x6), (7, x7)]) h K =
    bnd (pBin Tryz.prog .add 3 (.tmp 7) (.const (.int .i64 1)) x7 (.int .i64 1)) fun x15 =>
    K .normal (act 17 [(2, x2), (5, x5), (6, x6), (7, x15)]) h := kq_reg
noncomputable def F31_lrlr {β : Type} (inv : Inv) (k : Nat) : Nat → Value → Value → Value → Value → AH → (Value → Value → Value → Value → Value → AH → Option β) → Option β
  | 0, _, _, _, _, _, _ => none
  | j + 1, x2, x5, x6, x7, h, ke0 =>
    bnd (pBin Tryz.prog .lss 3 (.tmp 7) (.tmp 6) x7 x6) fun x8 =>
    brV x8
    (bnd (pIndexAddr Tryz.prog 22 x5 x7) fun x9 =>
    bnd (pLoad Tryz.prog 31 x9 h) fun x10 =>
    bnd (pAlloc Tryz.prog 31 h) fun x4 =>
    bnd (kSt (pStore Tryz.prog 31 x4.1 x10 x4.2)) fun u =>
    bnd (pLoad Tryz.prog 38 x2 u.2) fun x11 =>
    bnd (pLoad Tryz.prog 31 x4.1 u.2) fun x12 =>
    bnd (inv (.func 52) #[] #[x12] u.2) fun x13 =>
    bnd (inv (.func 51) #[] #[x11, x13.1] x13.2) fun x14 =>
    bnd (kSt (pStore Tryz.prog 38 x2 x14.1 x14.2)) fun u_1 =>
    chkK ((!true || !true || (sameO (pLoad Tryz.prog 38 x2 u.2) x11 && sameO (pLoad Tryz.prog 38 x2 x13.2) x11)) && true) <|
    bnd (pBin Tryz.prog .add 3 (.tmp 7) (.const (.int .i64 1)) x7 (.int .i64 1)) fun x15 =>
    F31_lrlr inv k j x2 x5 x6 x15 u_1.2 ke0)
    (ke0 x2 x5 x6 x7 x8 h)
theorem F31_lrlr_j (j : Nat) : kLoop (kCode env 31 false inv k (cp c31 52)) j (act 17 [(2, x2), (5, x5), (6, x6), (7, x7)]) h K = F31_lrlr inv k j x2 x5 x6 x7 h (fun y2 y5 y6 y7 y8 h => K (.exit 0) (act 17 [(2, y2), (5, y5), (6, y6), (7, y7), (8, y8)]) h) := by
      induction j generalizing x2 x5 x6 x7 h with
      | zero => rfl
      | succ j ih =>
        unfold F31_lrlr
        simp only [kLoop, kq_seq c31 52, r31_2, kq_seq c31 105, b31_lrllrlr, kq_skip c31 420, kq_seq c31 211, kq_block c31 422 1, kq_seq c31 844, r31_3, r31_4, r31_5, kq_exit c31 421 0, ih, reduceIte, reduceCtorEq, XE.exit.injEq, Nat.reduceEqDiff, Nat.reduceMul, Nat.reduceAdd] <;> kernel_rfl
theorem F31_lrlr_eq  : kCode env 31 false inv k (cp c31 26) (act 17 [(2, x2), (5, x5), (6, x6), (7, x7)]) h K = F31_lrlr inv k k x2 x5 x6 x7 h (fun y2 y5 y6 y7 y8 h => K (.exit 0) (act 17 [(2, y2), (5, y5), (6, y6), (7, y7), (8, y8)]) h) := kq_loop (F31_lrlr_j k)
theorem r31_6  : kCode env 31 false inv k (cp c31 14) (act 17 [(2, x2), (5, x5), (6, x6), (7, x7), (8, x8)]) h K =
    bnd (pLoad Tryz.prog 38 x2 h) fun x16 =>
    bnd (kSt (pStore Tryz.prog 38 x2 x16 h)) fun u =>
    K .normal (act 17 [(2, x2)]) u.2 := kq_reg
theorem res31_0 : resOfFn env.P 31 .ret (act 17 [(2, x2)]) h = bnd (pLoad Tryz.prog 38 x2 h) fun q0 =>
    some (q0, h) := kq_res
/-- shadowbook/zone.Of -/
noncomputable def F31 (inv : Inv) (k : Nat) (x0 : Value) (h : AH) : Option (Value × AH) :=
    bnd (pAlloc Tryz.prog 38 h) fun x2 =>
    bnd (pLen Tryz.prog #[22] x0 x2.2) fun x6 =>
    F31_lrlr inv k k x2.1 x0 x6 (.int .i64 0) x2.2
    (fun y2 y5 y6 y7 y8 h =>
    bnd (pLoad Tryz.prog 38 y2 h) fun x16 =>
    bnd (kSt (pStore Tryz.prog 38 y2 x16 h)) fun u =>
    bnd (pLoad Tryz.prog 38 y2 u.2) fun q0 =>
    some (q0, u.2))
theorem F31_eq : eFun env k inv 31 #[x0] h = F31 inv k x0 h := by
      refine (kq_fun (a := act 17 [(0, x0)]) (c := cp c31 1)).trans ?_
      unfold F31
      simp only [kq_seq c31 1, r31_0, kq_seq c31 3, kq_seq c31 6, r31_1, kq_block c31 13 0, F31_lrlr_eq, kq_seq c31 7, r31_6, kq_ret c31 15, res31_0, reduceIte, reduceCtorEq, XE.exit.injEq, Nat.reduceEqDiff, Nat.reduceMul, Nat.reduceAdd] <;> kernel_rfl
theorem F31_call : eInv env (k + 1) (.func 31) #[] #[x0] h = F31 (eInv env k) k x0 h := kq_inv F31_eq
noncomputable def c36 : Code := codeOf Tryz.prog 36
theorem r36_0  : kCode env 36 false inv k (cp c36 2) (act 85 [(0, x0)]) h K =
    bnd (pAlloc Tryz.prog 66 h) fun x2 =>
    K .normal (act 85 [(0, x0), (2, x2.1)]) x2.2 := kq_reg
theorem r36_1  : kCode env 36 false inv k (cp c36 12) (act 85 [(0, x0), (2, x2)]) h K =
    bnd (pBin Tryz.prog .eql 9 (.tmp 8) (.const (.string { data := #[] })) x0 (.string { data := #[] })) fun x9 =>
    K .normal (act 85 [(0, x0), (2, x2), (9, x9)]) h := kq_reg
theorem b36_rlr  : kCode env 36 false inv k (cp c36 13) (act 85 [(0, x0), (2, x2), (9, x9)]) h K = brV x9 (kCode env 36 false inv k (cp c36 26) (act 85 [(0, x0), (2, x2), (9, x9)]) h K) (kCode env 36 false inv k (cp c36 27) (act 85 [(0, x0), (2, x2), (9, x9)]) h K) := kq_cond
theorem r36_2  : kCode env 36 false inv k (cp c36 52) (act 85 [(0, x0), (2, x2), (9, x9)]) h K =
    bnd (pLoad Tryz.prog 66 x2 h) fun x10 =>
    bnd (kSt (pStore Tryz.prog 66 x2 x10 h)) fun u =>
    K .normal (act 85 [(2, x2), (3, (.int .i64 4))]) u.2 := kq_reg
theorem res36_0 : resOfFn env.P 36 .ret (act 85 [(2, x2), (3, x3)]) h = bnd (pLoad Tryz.prog 66 x2 h) fun q0 =>
    some (.tuple #[q0, x3], h) := kq_res
theorem r36_3  : kCode env 36 false inv k (cp c36 14) (act 85 [(0, x0), (2, x2), (9, x9)]) h K =
    bnd (pIndex Tryz.prog 9 x0 (.int .i64 0)) fun x12 =>
    bnd (pConv Tryz.prog 5 3 x12 h) fun x13 =>
    bnd (pFieldAddr Tryz.prog 66 x2 0) fun x14 =>
    bnd (kSt (pStore Tryz.prog 3 x14 x13 h)) fun u =>
    K .normal (act 85 [(0, x0), (2, x2)]) u.2 := kq_reg
theorem r36_4  : kCode env 36 false inv k (cp c36 30) (act 85 [(0, x0), (2, x2)]) h K =
    bnd (pFieldAddr Tryz.prog 66 x2 0) fun x15 =>
    bnd (pLoad Tryz.prog 3 x15 h) fun x16 =>
    bnd (inv (.func 28) #[] #[x16] h) fun x17 =>
    K .normal (act 85 [(0, x0), (2, x2), (4, x17.1)]) x17.2 := kq_reg
theorem r36_5  : kCode env 36 false inv k (cp c36 124) (act 85 [(0, x0), (2, x2), (4, x4)]) h K =
    bnd (pBin Tryz.prog .eql 54 (.tmp 18) (.const .nilIface) x4 .nilIface) fun x19 =>
    K .normal (act 85 [(0, x0), (2, x2), (4, x4), (19, x19)]) h := kq_reg
theorem b36_rlrrrr  : kCode env 36 false inv k (cp c36 125) (act 85 [(0, x0), (2, x2), (4, x4), (19, x19)]) h K = brV x19 (kCode env 36 false inv k (cp c36 250) (act 85 [(0, x0), (2, x2), (4, x4), (19, x19)]) h K) (kCode env 36 false inv k (cp c36 251) (act 85 [(0, x0), (2, x2), (4, x4), (19, x19)]) h K) := kq_cond
theorem r36_6  : kCode env 36 false inv k (cp c36 500) (act 85 [(0, x0), (2, x2), (4, x4), (19, x19)]) h K =
    bnd (pLoad Tryz.prog 66 x2 h) fun x20 =>
    bnd (kSt (pStore Tryz.prog 66 x2 x20 h)) fun u =>
    K .normal (act 85 [(2, x2), (3, (.int .i64 4))]) u.2 := kq_reg
theorem r36_7  : kCode env 36 false inv k (cp c36 126) (act 85 [(0, x0), (2, x2), (4, x4), (19, x19)]) h K =
    bnd (pSlice Tryz.prog 9 x0 (some (.int .i64 1)) none none h) fun x23 =>
    bnd (pBytes Tryz.prog 9 33 x23 h) fun x24 =>
    bnd (inv (.func 56) #[] #[x24.1] x24.2) fun x25 =>
    bnd (pExtract x25.1 0) fun x26 =>
    bnd (pExtract x25.1 1) fun x27 =>
    bnd (pExtract x25.1 2) fun x28 =>
    K .normal (act 85 [(0, x0), (2, x2), (3, x28), (4, x4), (5, x26), (6, x27)]) x25.2 := kq_reg
theorem r36_8  : kCode env 36 false inv k (cp c36 508) (act 85 [(0, x0), (2, x2), (3, x3), (4, x4), (5, x5), (6, x6)]) h K =
    bnd (pBin Tryz.prog .neq 25 (.tmp 29) (.const (.int .i64 0)) x3 (.int .i64 0)) fun x30 =>
    K .normal (act 85 [(0, x0), (2, x2), (4, x4), (5, x5), (6, x6), (30, x30)]) h := kq_reg
theorem b36_rlrrrrrr  : kCode env 36 false inv k (cp c36 509) (act 85 [(0, x0), (2, x2), (4, x4), (5, x5), (6, x6), (30, x30)]) h K = brV x30 (kCode env 36 false inv k (cp c36 1018) (act 85 [(0, x0), (2, x2), (4, x4), (5, x5), (6, x6), (30, x30)]) h K) (kCode env 36 false inv k (cp c36 1019) (act 85 [(0, x0), (2, x2), (4, x4), (5, x5), (6, x6), (30, x30)]) h K) := kq_cond
theorem r36_9  : kCode env 36 false inv k (cp c36 2036) (act 85 [(0, x0), (2, x2), (4, x4), (5, x5), (6, x6), (30, x30)]) h K =
    bnd (pLoad Tryz.prog 66 x2 h) fun x31 =>
    bnd (kSt (pStore Tryz.prog 66 x2 x31 h)) fun u =>
    K .normal (act 85 [(2, x2), (3, (.int .i64 4))]) u.2 := kq_reg
theorem r36_10  : kCode env 36 false inv k (cp c36 510) (act 85 [(0, x0), (2, x2), (4, x4), (5, x5), (6, x6), (30, x30)]) h K =
    bnd (pFieldAddr Tryz.prog 66 x2 1) fun x33 =>
    bnd (kSt (pStore Tryz.prog 32 x33 x5 h)) fun u =>
    K .normal (act 85 [(0, x0), (2, x2), (4, x4), (5, x5), (6, x6)]) u.2 := kq_reg
theorem r36_11  : kCode env 36 false inv k (cp c36 1022) (act 85 [(0, x0), (2, x2), (4, x4), (5, x5), (6, x6)]) h K =
    bnd (pLen Tryz.prog #[32] x5 h) fun x35 =>
    bnd (inv (.func 57) #[] #[x5] h) fun x37 =>
    bnd (pBuild Tryz.prog 38 #[(0, x35), (1, x37.1)]) fun x38 =>
    bnd (pFieldAddr Tryz.prog 66 x2 2) fun x39 =>
    bnd (kSt (pStore Tryz.prog 38 x39 x38 x37.2)) fun u =>
    K .normal (act 85 [(0, x0), (2, x2), (4, x4), (6, x6)]) u.2 := kq_reg
theorem r36_12  : kCode env 36 false inv k (cp c36 2046) (act 85 [(0, x0), (2, x2), (4, x4), (6, x6)]) h K =
    bnd (pBin Tryz.prog .add 3 (.const (.int .i64 1)) (.tmp 41) (.int .i64 1) x6) fun x42 =>
    bnd (pSlice Tryz.prog 9 x0 (some x42) none none h) fun x43 =>
    bnd (pBytes Tryz.prog 9 33 x43 h) fun x44 =>
    bnd (inv (.func 58) #[] #[x44.1] x44.2) fun x45 =>
    K .normal (act 85 [(2, x2), (4, x4), (7, x45.1)]) x45.2 := kq_reg
theorem r36_13  : kCode env 36 false inv k (cp c36 8188) (act 85 [(2, x2), (4, x4), (7, x7)]) h K =
    bnd (pFieldAddr Tryz.prog 66 x2 2) fun x46 =>
    bnd (pFieldAddr Tryz.prog 38 x46 0) fun x47 =>
    bnd (pLoad Tryz.prog 3 x47 h) fun x48 =>
    bnd (pFieldAddr Tryz.prog 66 x2 2) fun x49 =>
    bnd (pFieldAddr Tryz.prog 38 x49 1) fun x50 =>
    bnd (pLoad Tryz.prog 3 x50 h) fun x51 =>
    bnd (pBin Tryz.prog .neq 3 (.tmp 48) (.tmp 51) x48 x51) fun x52 =>
    K .normal (act 85 [(2, x2), (4, x4), (7, x7), (52, x52)]) h := kq_reg
theorem b36_rlrrrrrrrrrr  : kCode env 36 false inv k (cp c36 8189) (act 85 [(2, x2), (4, x4), (7, x7), (52, x52)]) h K = brV x52 (kCode env 36 false inv k (cp c36 16378) (act 85 [(2, x2), (4, x4), (7, x7), (52, x52)]) h K) (kCode env 36 false inv k (cp c36 16379) (act 85 [(2, x2), (4, x4), (7, x7), (52, x52)]) h K) := kq_cond
noncomputable abbrev G36_14 {β : Type} (inv : Inv) (x2 x4 x7 : Value) (h : AH) (K : Value → AH → Option β) : Option β :=
    bnd (inv (.method "shadowbook/segment.ends") #[] #[x4, x7] h) fun x56 =>
    bnd (pExtract x56.1 0) fun x57 =>
    bnd (pExtract x56.1 1) fun x58 =>
    bnd (pExtract x56.1 2) fun x59 =>
    bnd (pFieldAddr Tryz.prog 66 x2 2) fun x60 =>
    bnd (pFieldAddr Tryz.prog 38 x60 2) fun x61 =>
    bnd (kSt (pStore Tryz.prog 31 x61 x57 x56.2)) fun u =>
    bnd (pFieldAddr Tryz.prog 66 x2 2) fun x62 =>
    bnd (pFieldAddr Tryz.prog 38 x62 3) fun x63 =>
    bnd (kSt (pStore Tryz.prog 31 x63 x58 u.2)) fun u_6 =>
    K (x59) u_6.2
theorem r36_14  : kCode env 36 false inv k (cp c36 32756) (act 85 [(2, x2), (4, x4), (7, x7), (52, x52)]) h K =
    G36_14 inv x2 x4 x7 h fun y3 h => K .normal (act 85 [(2, x2), (3, y3), (7, x7)]) h := kq_reg
noncomputable abbrev G36_15 {β : Type} (inv : Inv) (x2 x3 x7 : Value) (h : AH) (K : Value → AH → Option β) : Option β :=
    bnd (pBin Tryz.prog .neq 25 (.tmp 64) (.const (.int .i64 0)) x3 (.int .i64 0)) fun x65 =>
    bnd (gd (some x65) false h (lt (pFieldAddr Tryz.prog 66 x2 2) h)) fun x67 =>
    bnd (gd (some x65) false x67.2 (lt (pLoad Tryz.prog 38 x67.1 x67.2) x67.2)) fun x68 =>
    bnd (gd (some x65) false x68.2 (lt (pFieldAddr Tryz.prog 66 x2 0) x68.2)) fun x69 =>
    bnd (gd (some x65) false x69.2 (lt (pLoad Tryz.prog 3 x69.1 x69.2) x69.2)) fun x70 =>
    bnd (gd (some x65) false x70.2 (inv (.func 59) #[] #[x68.1, x70.1] x70.2)) fun x71 =>
    bnd (gd (some x65) false x71.2 (lt (pBin Tryz.prog .neq 25 (.tmp 71) (.const (.int .i64 0)) x71.1 (.int .i64 0)) x71.2)) fun x72 =>
    bnd (pickV x65 (.bool true) x72.1) fun x73 =>
    K (x73) x72.2
theorem r36_15  : kCode env 36 false inv k (cp c36 65514) (act 85 [(2, x2), (3, x3), (7, x7)]) h K =
    G36_15 inv x2 x3 x7 h fun y73 h => K .normal (act 85 [(2, x2), (7, x7), (73, y73)]) h := kq_reg
theorem b36_rrlrlrrrrrrrrrr  : kCode env 36 false inv k (cp c36 65515) (act 85 [(2, x2), (7, x7), (73, x73)]) h K = brV x73 (kCode env 36 false inv k (cp c36 131030) (act 85 [(2, x2), (7, x7), (73, x73)]) h K) (kCode env 36 false inv k (cp c36 131031) (act 85 [(2, x2), (7, x7), (73, x73)]) h K) := kq_cond
theorem r36_16  : kCode env 36 false inv k (cp c36 262060) (act 85 [(2, x2), (7, x7), (73, x73)]) h K =
    bnd (pLoad Tryz.prog 66 x2 h) fun x74 =>
    bnd (kSt (pStore Tryz.prog 66 x2 x74 h)) fun u =>
    K .normal (act 85 [(2, x2), (3, (.int .i64 4))]) u.2 := kq_reg
noncomputable def F36_rlrrrrrrrrrr {β : Type} (inv : Inv) (k : Nat) (x2 x4 x7 x52 : Value) (h : AH) (kn : (Value → Value → Value → Value → Value → AH → Option β)) (kr : (Value → Value → AH → Option β)) : Option β :=
    brV x52
    (G36_14 inv x2 x4 x7 h fun y3 h =>
    G36_15 inv x2 y3 x7 h fun y73 h_7 =>
    brV y73
    (bnd (pLoad Tryz.prog 66 x2 h_7) fun x74 =>
    bnd (kSt (pStore Tryz.prog 66 x2 x74 h_7)) fun u =>
    kr x2 (.int .i64 4) u.2)
    (kn x2 unk x7 unk y73 h_7))
    (kn x2 x4 x7 x52 unk h)
theorem F36_rlrrrrrrrrrr_eq  : kCode env 36 false inv k (cp c36 8189) (act 85 [(2, x2), (4, x4), (7, x7), (52, x52)]) h K = F36_rlrrrrrrrrrr inv k x2 x4 x7 x52 h (fun y2 y4 y7 y52 y73 h => K .normal (act 85 [(2, y2), (4, y4), (7, y7), (52, y52), (73, y73)]) h) (fun y2 y3 h => K .ret (act 85 [(2, y2), (3, y3)]) h) := by
      unfold F36_rlrrrrrrrrrr
      simp only [b36_rlrrrrrrrrrr, kq_seq c36 16378, r36_14, kq_seq c36 32757, r36_15, b36_rrlrlrrrrrrrrrr, kq_seq c36 131030, r36_16, kq_ret c36 262061, kq_skip c36 131031, kq_skip c36 16379, reduceIte, reduceCtorEq, XE.exit.injEq, Nat.reduceEqDiff, Nat.reduceMul, Nat.reduceAdd] <;> kernel_rfl
theorem r36_17  : kCode env 36 false inv k (cp c36 8190) (act 85 [(2, x2), (4, x4), (7, x7), (52, x52), (73, x73)]) h K =
    bnd (inv (.func 61) #[] #[x7] h) fun x78 =>
    bnd (inv (.func 60) #[] #[x7, x78.1] x78.2) fun x79 =>
    bnd (pExtract x79.1 0) fun x80 =>
    bnd (pExtract x79.1 1) fun x81 =>
    bnd (pFieldAddr Tryz.prog 66 x2 3) fun x82 =>
    bnd (kSt (pStore Tryz.prog 33 x82 x80 x79.2)) fun u =>
    K .normal (act 85 [(2, x2), (3, x81)]) u.2 := kq_reg
theorem r36_18  : kCode env 36 false inv k (cp c36 16382) (act 85 [(2, x2), (3, x3)]) h K =
    bnd (pLoad Tryz.prog 66 x2 h) fun x83 =>
    bnd (kSt (pStore Tryz.prog 66 x2 x83 h)) fun u =>
    K .normal (act 85 [(2, x2), (3, x3)]) u.2 := kq_reg
/-- shadowbook/segment.open -/
noncomputable def F36 (inv : Inv) (k : Nat) (x0 : Value) (h : AH) : Option (Value × AH) :=
    bnd (pAlloc Tryz.prog 66 h) fun x2 =>
    bnd (pBin Tryz.prog .eql 9 (.tmp 8) (.const (.string { data := #[] })) x0 (.string { data := #[] })) fun x9 =>
    brV x9
    (bnd (pLoad Tryz.prog 66 x2.1 x2.2) fun x10 =>
    bnd (kSt (pStore Tryz.prog 66 x2.1 x10 x2.2)) fun u =>
    bnd (pLoad Tryz.prog 66 x2.1 u.2) fun q0 =>
    some (.tuple #[q0, (.int .i64 4)], u.2))
    (bnd (pIndex Tryz.prog 9 x0 (.int .i64 0)) fun x12 =>
    bnd (pConv Tryz.prog 5 3 x12 x2.2) fun x13 =>
    bnd (pFieldAddr Tryz.prog 66 x2.1 0) fun x14 =>
    bnd (kSt (pStore Tryz.prog 3 x14 x13 x2.2)) fun u_1 =>
    bnd (pFieldAddr Tryz.prog 66 x2.1 0) fun x15 =>
    bnd (pLoad Tryz.prog 3 x15 u_1.2) fun x16 =>
    bnd (inv (.func 28) #[] #[x16] u_1.2) fun x17 =>
    bnd (pBin Tryz.prog .eql 54 (.tmp 18) (.const .nilIface) x17.1 .nilIface) fun x19 =>
    brV x19
    (bnd (pLoad Tryz.prog 66 x2.1 x17.2) fun x20 =>
    bnd (kSt (pStore Tryz.prog 66 x2.1 x20 x17.2)) fun u_2 =>
    bnd (pLoad Tryz.prog 66 x2.1 u_2.2) fun q0 =>
    some (.tuple #[q0, (.int .i64 4)], u_2.2))
    (bnd (pSlice Tryz.prog 9 x0 (some (.int .i64 1)) none none x17.2) fun x23 =>
    bnd (pBytes Tryz.prog 9 33 x23 x17.2) fun x24 =>
    bnd (inv (.func 56) #[] #[x24.1] x24.2) fun x25 =>
    bnd (pExtract x25.1 0) fun x26 =>
    bnd (pExtract x25.1 1) fun x27 =>
    bnd (pExtract x25.1 2) fun x28 =>
    bnd (pBin Tryz.prog .neq 25 (.tmp 29) (.const (.int .i64 0)) x28 (.int .i64 0)) fun x30 =>
    brV x30
    (bnd (pLoad Tryz.prog 66 x2.1 x25.2) fun x31 =>
    bnd (kSt (pStore Tryz.prog 66 x2.1 x31 x25.2)) fun u_3 =>
    bnd (pLoad Tryz.prog 66 x2.1 u_3.2) fun q0 =>
    some (.tuple #[q0, (.int .i64 4)], u_3.2))
    (bnd (pFieldAddr Tryz.prog 66 x2.1 1) fun x33 =>
    bnd (kSt (pStore Tryz.prog 32 x33 x26 x25.2)) fun u_4 =>
    bnd (pLen Tryz.prog #[32] x26 u_4.2) fun x35 =>
    bnd (inv (.func 57) #[] #[x26] u_4.2) fun x37 =>
    bnd (pBuild Tryz.prog 38 #[(0, x35), (1, x37.1)]) fun x38 =>
    bnd (pFieldAddr Tryz.prog 66 x2.1 2) fun x39 =>
    bnd (kSt (pStore Tryz.prog 38 x39 x38 x37.2)) fun u_5 =>
    bnd (pBin Tryz.prog .add 3 (.const (.int .i64 1)) (.tmp 41) (.int .i64 1) x27) fun x42 =>
    bnd (pSlice Tryz.prog 9 x0 (some x42) none none u_5.2) fun x43 =>
    bnd (pBytes Tryz.prog 9 33 x43 u_5.2) fun x44 =>
    bnd (inv (.func 58) #[] #[x44.1] x44.2) fun x45 =>
    bnd (pFieldAddr Tryz.prog 66 x2.1 2) fun x46 =>
    bnd (pFieldAddr Tryz.prog 38 x46 0) fun x47 =>
    bnd (pLoad Tryz.prog 3 x47 x45.2) fun x48 =>
    bnd (pFieldAddr Tryz.prog 66 x2.1 2) fun x49 =>
    bnd (pFieldAddr Tryz.prog 38 x49 1) fun x50 =>
    bnd (pLoad Tryz.prog 3 x50 x45.2) fun x51 =>
    bnd (pBin Tryz.prog .neq 3 (.tmp 48) (.tmp 51) x48 x51) fun x52 =>
    F36_rlrrrrrrrrrr inv k x2.1 x17.1 x45.1 x52 x45.2
    (fun y2 y4 y7 y52 y73 h =>
    bnd (inv (.func 61) #[] #[y7] h) fun x78 =>
    bnd (inv (.func 60) #[] #[y7, x78.1] x78.2) fun x79 =>
    bnd (pExtract x79.1 0) fun x80 =>
    bnd (pExtract x79.1 1) fun x81 =>
    bnd (pFieldAddr Tryz.prog 66 y2 3) fun x82 =>
    bnd (kSt (pStore Tryz.prog 33 x82 x80 x79.2)) fun u_8 =>
    bnd (pLoad Tryz.prog 66 y2 u_8.2) fun x83 =>
    bnd (kSt (pStore Tryz.prog 66 y2 x83 u_8.2)) fun u_9 =>
    bnd (pLoad Tryz.prog 66 y2 u_9.2) fun q0 =>
    some (.tuple #[q0, x81], u_9.2))
    (fun y2_10 y3 h_11 =>
    bnd (pLoad Tryz.prog 66 y2_10 h_11) fun q0 =>
    some (.tuple #[q0, y3], h_11)))))
theorem F36_eq : eFun env k inv 36 #[x0] h = F36 inv k x0 h := by
      refine (kq_fun (a := act 85 [(0, x0)]) (c := cp c36 1)).trans ?_
      unfold F36
      simp only [kq_seq c36 1, r36_0, kq_seq c36 3, kq_seq c36 6, r36_1, b36_rlr, kq_seq c36 26, r36_2, kq_ret c36 53, res36_0, kq_skip c36 27, kq_seq c36 7, r36_3, kq_seq c36 15, r36_4, kq_seq c36 31, kq_seq c36 62, r36_5, b36_rlrrrr, kq_seq c36 250, r36_6, kq_ret c36 501, kq_skip c36 251, kq_seq c36 63, r36_7, kq_seq c36 127, kq_seq c36 254, r36_8, b36_rlrrrrrr, kq_seq c36 1018, r36_9, kq_ret c36 2037, kq_skip c36 1019, kq_seq c36 255, r36_10, kq_seq c36 511, r36_11, kq_seq c36 1023, r36_12, kq_seq c36 2047, kq_seq c36 4094, r36_13, F36_rlrrrrrrrrrr_eq, kq_seq c36 4095, r36_17, kq_seq c36 8191, r36_18, kq_ret c36 16383, reduceIte, reduceCtorEq, XE.exit.injEq, Nat.reduceEqDiff, Nat.reduceMul, Nat.reduceAdd] <;> kernel_rfl
theorem F36_call : eInv env (k + 1) (.func 36) #[] #[x0] h = F36 (eInv env k) k x0 h := kq_inv F36_eq
noncomputable def c39 : Code := codeOf Tryz.prog 39
theorem r39_0  : kCode env 39 false inv k (cp c39 2) (act 34 [(0, x0), (1, x1)]) h K =
    K .normal (act 34 [(0, x0), (1, x1)]) h := kq_reg
theorem r39_1  : kCode env 39 false inv k (cp c39 12) (act 34 [(0, x0), (1, x1)]) h K =
    bnd (pLen Tryz.prog #[32] x0 h) fun x10 =>
    bnd (inv (.func 57) #[] #[x0] h) fun x12 =>
    bnd (pBin Tryz.prog .sub 3 (.tmp 10) (.tmp 12) x10 x12.1) fun x13 =>
    bnd (pBin Tryz.prog .neq 3 (.tmp 13) (.tmp 14) x13 x1) fun x15 =>
    K .normal (act 34 [(0, x0), (15, x15)]) x12.2 := kq_reg
theorem b39_rlr  : kCode env 39 false inv k (cp c39 13) (act 34 [(0, x0), (15, x15)]) h K = brV x15 (kCode env 39 false inv k (cp c39 26) (act 34 [(0, x0), (15, x15)]) h K) (kCode env 39 false inv k (cp c39 27) (act 34 [(0, x0), (15, x15)]) h K) := kq_cond
theorem r39_2  : kCode env 39 false inv k (cp c39 52) (act 34 [(0, x0), (15, x15)]) h K =
    K .normal (act 34 [(4, (.slice none 0 0))]) h := kq_reg
theorem res39_0 : resOfFn env.P 39 .ret (act 34 [(4, x4)]) h = some (x4, h) := kq_res
theorem r39_3  : kCode env 39 false inv k (cp c39 14) (act 34 [(0, x0), (15, x15)]) h K =
    K .normal (act 34 [(0, x0), (5, (.slice none 0 0))]) h := kq_reg
theorem r39_4  : kCode env 39 false inv k (cp c39 30) (act 34 [(0, x0), (5, x5)]) h K =
    K .normal (act 34 [(0, x0), (5, x5), (6, (.int .i64 0))]) h := kq_reg
theorem r39_5  : kCode env 39 false inv k (cp c39 124) (act 34 [(0, x0), (5, x5), (6, x6)]) h K =
    bnd (pLen Tryz.prog #[32] x0 h) fun x17 =>
    K .normal (act 34 [(5, x5), (6, x6), (16, x0), (17, x17), (18, (.int .i64 0))]) h := kq_reg
theorem r39_6  : kCode env 39 false inv k (cp c39 1000) (act 34 [(5, x5), (6, x6), (16, x16), (17, x17), (18, x18)]) h K =
    bnd (pBin Tryz.prog .lss 3 (.tmp 18) (.tmp 17) x18 x17) fun x19 =>
    K .normal (act 34 [(5, x5), (6, x6), (16, x16), (17, x17), (18, x18), (19, x19)]) h := kq_reg
theorem b39_lrllrlrrrr  : kCode env 39 false inv k (cp c39 2002) (act 34 [(5, x5), (6, x6), (16, x16), (17, x17), (18, x18), (19, x19)]) h K = brV x19 (kCode env 39 false inv k (cp c39 4004) (act 34 [(5, x5), (6, x6), (16, x16), (17, x17), (18, x18), (19, x19)]) h K) (kCode env 39 false inv k (cp c39 4005) (act 34 [(5, x5), (6, x6), (16, x16), (17, x17), (18, x18), (19, x19)]) h K) := kq_cond
theorem r39_7  : kCode env 39 false inv k (cp c39 16024) (act 34 [(5, x5), (6, x6), (16, x16), (17, x17), (18, x18), (19, x19)]) h K =
    bnd (pIndexAddr Tryz.prog 32 x16 x18) fun x20 =>
    bnd (pLoad Tryz.prog 4 x20 h) fun x21 =>
    K .normal (act 34 [(5, x5), (6, x6), (8, x21), (16, x16), (17, x17), (18, x18)]) h := kq_reg
theorem r39_8  : kCode env 39 false inv k (cp c39 64100) (act 34 [(5, x5), (6, x6), (8, x8), (16, x16), (17, x17), (18, x18)]) h K =
    K .normal (act 34 [(5, x5), (6, x6), (16, x16), (17, x17), (18, x18), (22, x8)]) h := kq_reg
theorem b39_rlrllrrllrlrrrr  : kCode env 39 false inv k (cp c39 64101) (act 34 [(5, x5), (6, x6), (16, x16), (17, x17), (18, x18), (22, x22)]) h K = brV x22 (kCode env 39 false inv k (cp c39 128202) (act 34 [(5, x5), (6, x6), (16, x16), (17, x17), (18, x18), (22, x22)]) h K) (kCode env 39 false inv k (cp c39 128203) (act 34 [(5, x5), (6, x6), (16, x16), (17, x17), (18, x18), (22, x22)]) h K) := kq_cond
theorem r39_9  : kCode env 39 false inv k (cp c39 256404) (act 34 [(5, x5), (6, x6), (16, x16), (17, x17), (18, x18), (22, x22)]) h K =
    bnd (pBuildSlice Tryz.prog 72 1 #[(0, (.int .i64 (-1)))] h) fun x24 =>
    bnd (pAppend Tryz.prog #[72, 72] x5 x24.1 x24.2) fun x25 =>
    K .normal (act 34 [(5, x25.1), (6, x6), (16, x16), (17, x17), (18, x18)]) x25.2 := kq_reg
theorem r39_10  : kCode env 39 false inv k (cp c39 64102) (act 34 [(5, x5), (6, x6), (16, x16), (17, x17), (18, x18), (22, x22)]) h K =
    bnd (pBuildSlice Tryz.prog 72 1 #[(0, x6)] h) fun x28 =>
    bnd (pAppend Tryz.prog #[72, 72] x5 x28.1 x28.2) fun x29 =>
    K .normal (act 34 [(5, x29.1), (6, x6), (16, x16), (17, x17), (18, x18)]) x29.2 := kq_reg
theorem r39_11  : kCode env 39 false inv k (cp c39 64103) (act 34 [(5, x5), (6, x6), (16, x16), (17, x17), (18, x18)]) h K =
    bnd (pBin Tryz.prog .add 3 (.tmp 30) (.const (.int .i64 1)) x6 (.int .i64 1)) fun x31 =>
    K .normal (act 34 [(5, x5), (6, x31), (16, x16), (17, x17), (18, x18)]) h := kq_reg
noncomputable def F39_lrrllrlrrrr {β : Type} (inv : Inv) (k : Nat) (x5 x6 x16 x17 x18 x19 : Value) (h : AH) (kn : (Value → Value → Value → Value → Value → AH → Option β)) : Option β :=
    bnd (pIndexAddr Tryz.prog 32 x16 x18) fun x20 =>
    bnd (pLoad Tryz.prog 4 x20 h) fun x21 =>
    brV x21
    (bnd (pBuildSlice Tryz.prog 72 1 #[(0, (.int .i64 (-1)))] h) fun x24 =>
    bnd (pAppend Tryz.prog #[72, 72] x5 x24.1 x24.2) fun x25 =>
    kn x25.1 x6 x16 x17 x18 x25.2)
    (bnd (pBuildSlice Tryz.prog 72 1 #[(0, x6)] h) fun x28 =>
    bnd (pAppend Tryz.prog #[72, 72] x5 x28.1 x28.2) fun x29 =>
    bnd (pBin Tryz.prog .add 3 (.tmp 30) (.const (.int .i64 1)) x6 (.int .i64 1)) fun x31 =>
    kn x29.1 x31 x16 x17 x18 x29.2)
theorem F39_lrrllrlrrrr_eq  : kCode env 39 false inv k (cp c39 4006) (act 34 [(5, x5), (6, x6), (16, x16), (17, x17), (18, x18), (19, x19)]) h K = F39_lrrllrlrrrr inv k x5 x6 x16 x17 x18 x19 h (fun y5 y6 y16 y17 y18 h => K .normal (act 34 [(5, y5), (6, y6), (16, y16), (17, y17), (18, y18)]) h) := by
      unfold F39_lrrllrlrrrr
      simp only [kq_block c39 4006 1, kq_seq c39 8012, r39_7, kq_seq c39 16025, kq_seq c39 32050, r39_8, b39_rlrllrrllrlrrrr, kq_seq c39 128202, r39_9, kq_exit c39 256405 1, kq_skip c39 128203, kq_seq c39 32051, r39_10, r39_11, reduceIte, reduceCtorEq, XE.exit.injEq, Nat.reduceEqDiff, Nat.reduceMul, Nat.reduceAdd] <;> kernel_rfl
theorem r39_12  : kCode env 39 false inv k (cp c39 4007) (act 34 [(5, x5), (6, x6), (16, x16), (17, x17), (18, x18)]) h K =
    bnd (pBin Tryz.prog .add 3 (.tmp 18) (.const (.int .i64 1)) x18 (.int .i64 1)) fun x32 =>
    K .normal (act 34 [(5, x5), (6, x6), (16, x16), (17, x17), (18, x32)]) h := kq_reg
noncomputable def F39_lrlrrrr {β : Type} (inv : Inv) (k : Nat) : Nat → Value → Value → Value → Value → Value → AH → (Value → Value → Value → Value → Value → Value → AH → Option β) → Option β
  | 0, _, _, _, _, _, _, _ => none
  | j + 1, x5, x6, x16, x17, x18, h, ke0 =>
    bnd (pBin Tryz.prog .lss 3 (.tmp 18) (.tmp 17) x18 x17) fun x19 =>
    brV x19
    (F39_lrrllrlrrrr inv k x5 x6 x16 x17 x18 x19 h
    (fun y5 y6 y16 y17 y18 h =>
    bnd (pBin Tryz.prog .add 3 (.tmp 18) (.const (.int .i64 1)) y18 (.int .i64 1)) fun x32 =>
    F39_lrlrrrr inv k j y5 y6 y16 y17 x32 h ke0))
    (ke0 x5 x6 x16 x17 x18 x19 h)
theorem F39_lrlrrrr_j (j : Nat) : kLoop (kCode env 39 false inv k (cp c39 500)) j (act 34 [(5, x5), (6, x6), (16, x16), (17, x17), (18, x18)]) h K = F39_lrlrrrr inv k j x5 x6 x16 x17 x18 h (fun y5 y6 y16 y17 y18 y19 h => K (.exit 0) (act 34 [(5, y5), (6, y6), (16, y16), (17, y17), (18, y18), (19, y19)]) h) := by
      induction j generalizing x5 x6 x16 x17 x18 h with
      | zero => rfl
      | succ j ih =>
        unfold F39_lrlrrrr
        simp only [kLoop, kq_seq c39 500, r39_6, kq_seq c39 1001, b39_lrllrlrrrr, kq_skip c39 4004, kq_seq c39 2003, F39_lrrllrlrrrr_eq, r39_12, kq_exit c39 4005 0, ih, reduceIte, reduceCtorEq, XE.exit.injEq, Nat.reduceEqDiff, Nat.reduceMul, Nat.reduceAdd] <;> kernel_rfl
theorem F39_lrlrrrr_eq  : kCode env 39 false inv k (cp c39 250) (act 34 [(5, x5), (6, x6), (16, x16), (17, x17), (18, x18)]) h K = F39_lrlrrrr inv k k x5 x6 x16 x17 x18 h (fun y5 y6 y16 y17 y18 y19 h => K (.exit 0) (act 34 [(5, y5), (6, y6), (16, y16), (17, y17), (18, y18), (19, y19)]) h) := kq_loop (F39_lrlrrrr_j k)
theorem r39_13  : kCode env 39 false inv k (cp c39 126) (act 34 [(5, x5), (6, x6), (16, x16), (17, x17), (18, x18), (19, x19)]) h K =
    K .normal (act 34 [(4, x5)]) h := kq_reg
/-- shadowbook/nulls.Spread -/
noncomputable def F39 (inv : Inv) (k : Nat) (x0 x1 : Value) (h : AH) : Option (Value × AH) :=
    bnd (pLen Tryz.prog #[32] x0 h) fun x10 =>
    bnd (inv (.func 57) #[] #[x0] h) fun x12 =>
    bnd (pBin Tryz.prog .sub 3 (.tmp 10) (.tmp 12) x10 x12.1) fun x13 =>
    bnd (pBin Tryz.prog .neq 3 (.tmp 13) (.tmp 14) x13 x1) fun x15 =>
    brV x15
    (some ((.slice none 0 0), x12.2))
    (bnd (pLen Tryz.prog #[32] x0 x12.2) fun x17 =>
    F39_lrlrrrr inv k k (.slice none 0 0) (.int .i64 0) x0 x17 (.int .i64 0) x12.2
    (fun y5 y6 y16 y17 y18 y19 h =>
    some (y5, h)))
theorem F39_eq : eFun env k inv 39 #[x0, x1] h = F39 inv k x0 x1 h := by
      refine (kq_fun (a := act 34 [(0, x0), (1, x1)]) (c := cp c39 1)).trans ?_
      unfold F39
      simp only [kq_seq c39 1, r39_0, kq_seq c39 3, kq_seq c39 6, r39_1, b39_rlr, kq_seq c39 26, r39_2, kq_ret c39 53, res39_0, kq_skip c39 27, kq_seq c39 7, r39_3, kq_seq c39 15, r39_4, kq_seq c39 31, kq_seq c39 62, r39_5, kq_block c39 125 0, F39_lrlrrrr_eq, kq_seq c39 63, r39_13, kq_ret c39 127, reduceIte, reduceCtorEq, XE.exit.injEq, Nat.reduceEqDiff, Nat.reduceMul, Nat.reduceAdd] <;> kernel_rfl
theorem F39_call : eInv env (k + 1) (.func 39) #[] #[x0, x1] h = F39 (eInv env k) k x0 x1 h := kq_inv F39_eq
noncomputable def c44 : Code := codeOf Tryz.prog 44
theorem r44_0  : kCode env 44 false inv k (cp c44 2) (act 2 []) h K =
    bnd (pAlloc Tryz.prog 86 h) fun x0 =>
    K .normal (act 2 [(0, x0.1)]) x0.2 := kq_reg
theorem r44_1  : kCode env 44 false inv k (cp c44 6) (act 2 [(0, x0)]) h K =
    bnd (pBuild Tryz.prog 86 #[(0, (.func (.func 72) #[] #[])), (1, (.func (.func 73) #[] #[])), (2, (.func (.func 74) #[] #[])), (3, (.func (.func 76) #[] #[])), (4, (.func (.func 78) #[] #[])), (5, (.func (.func 79) #[] #[]))]) fun x1 =>
    bnd (kSt (pStore Tryz.prog 86 x0 x1 h)) fun u =>
    K .normal (act 2 [(0, x0)]) u.2 := kq_reg
theorem res44_0 : resOfFn env.P 44 .ret (act 2 [(0, x0)]) h = bnd (pLoad Tryz.prog 86 x0 h) fun q0 =>
    some (q0, h) := kq_res
/-- shadowbook/segment.numbers -/
noncomputable def F44 (inv : Inv) (k : Nat) (h : AH) : Option (Value × AH) :=
    bnd (pAlloc Tryz.prog 86 h) fun x0 =>
    bnd (pBuild Tryz.prog 86 #[(0, (.func (.func 72) #[] #[])), (1, (.func (.func 73) #[] #[])), (2, (.func (.func 74) #[] #[])), (3, (.func (.func 76) #[] #[])), (4, (.func (.func 78) #[] #[])), (5, (.func (.func 79) #[] #[]))]) fun x1 =>
    bnd (kSt (pStore Tryz.prog 86 x0.1 x1 x0.2)) fun u =>
    bnd (pLoad Tryz.prog 86 x0.1 u.2) fun q0 =>
    some (q0, u.2)
theorem F44_eq : eFun env k inv 44 #[] h = F44 inv k  h := by
      refine (kq_fun (a := act 2 []) (c := cp c44 1)).trans ?_
      unfold F44
      simp only [kq_seq c44 1, r44_0, kq_seq c44 3, r44_1, kq_ret c44 7, res44_0, reduceIte, reduceCtorEq, XE.exit.injEq, Nat.reduceEqDiff, Nat.reduceMul, Nat.reduceAdd] <;> kernel_rfl
theorem F44_call : eInv env (k + 1) (.func 44) #[] #[] h = F44 (eInv env k) k  h := kq_inv F44_eq
noncomputable def c45 : Code := codeOf Tryz.prog 45
theorem r45_0  : kCode env 45 false inv k (cp c45 2) (act 2 []) h K =
    bnd (pAlloc Tryz.prog 94 h) fun x0 =>
    K .normal (act 2 [(0, x0.1)]) x0.2 := kq_reg
theorem r45_1  : kCode env 45 false inv k (cp c45 6) (act 2 [(0, x0)]) h K =
    bnd (pBuild Tryz.prog 94 #[(0, (.func (.func 81) #[] #[])), (1, (.func (.func 82) #[] #[])), (2, (.func (.func 83) #[] #[])), (3, (.func (.func 84) #[] #[])), (4, (.func (.func 85) #[] #[])), (5, (.func (.func 86) #[] #[]))]) fun x1 =>
    bnd (kSt (pStore Tryz.prog 94 x0 x1 h)) fun u =>
    K .normal (act 2 [(0, x0)]) u.2 := kq_reg
theorem res45_0 : resOfFn env.P 45 .ret (act 2 [(0, x0)]) h = bnd (pLoad Tryz.prog 94 x0 h) fun q0 =>
    some (q0, h) := kq_res
/-- shadowbook/segment.truths -/
noncomputable def F45 (inv : Inv) (k : Nat) (h : AH) : Option (Value × AH) :=
    bnd (pAlloc Tryz.prog 94 h) fun x0 =>
    bnd (pBuild Tryz.prog 94 #[(0, (.func (.func 81) #[] #[])), (1, (.func (.func 82) #[] #[])), (2, (.func (.func 83) #[] #[])), (3, (.func (.func 84) #[] #[])), (4, (.func (.func 85) #[] #[])), (5, (.func (.func 86) #[] #[]))]) fun x1 =>
    bnd (kSt (pStore Tryz.prog 94 x0.1 x1 x0.2)) fun u =>
    bnd (pLoad Tryz.prog 94 x0.1 u.2) fun q0 =>
    some (q0, u.2)
theorem F45_eq : eFun env k inv 45 #[] h = F45 inv k  h := by
      refine (kq_fun (a := act 2 []) (c := cp c45 1)).trans ?_
      unfold F45
      simp only [kq_seq c45 1, r45_0, kq_seq c45 3, r45_1, kq_ret c45 7, res45_0, reduceIte, reduceCtorEq, XE.exit.injEq, Nat.reduceEqDiff, Nat.reduceMul, Nat.reduceAdd] <;> kernel_rfl
theorem F45_call : eInv env (k + 1) (.func 45) #[] #[] h = F45 (eInv env k) k  h := kq_inv F45_eq
noncomputable def c46 : Code := codeOf Tryz.prog 46
theorem r46_0  : kCode env 46 false inv k (cp c46 2) (act 2 []) h K =
    bnd (pAlloc Tryz.prog 103 h) fun x0 =>
    K .normal (act 2 [(0, x0.1)]) x0.2 := kq_reg
theorem r46_1  : kCode env 46 false inv k (cp c46 6) (act 2 [(0, x0)]) h K =
    bnd (pBuild Tryz.prog 103 #[(0, (.func (.func 88) #[] #[])), (1, (.func (.func 89) #[] #[])), (2, (.func (.func 90) #[] #[])), (3, (.func (.func 91) #[] #[])), (4, (.func (.func 93) #[] #[])), (5, (.func (.func 94) #[] #[]))]) fun x1 =>
    bnd (kSt (pStore Tryz.prog 103 x0 x1 h)) fun u =>
    K .normal (act 2 [(0, x0)]) u.2 := kq_reg
theorem res46_0 : resOfFn env.P 46 .ret (act 2 [(0, x0)]) h = bnd (pLoad Tryz.prog 103 x0 h) fun q0 =>
    some (q0, h) := kq_res
/-- shadowbook/segment.words -/
noncomputable def F46 (inv : Inv) (k : Nat) (h : AH) : Option (Value × AH) :=
    bnd (pAlloc Tryz.prog 103 h) fun x0 =>
    bnd (pBuild Tryz.prog 103 #[(0, (.func (.func 88) #[] #[])), (1, (.func (.func 89) #[] #[])), (2, (.func (.func 90) #[] #[])), (3, (.func (.func 91) #[] #[])), (4, (.func (.func 93) #[] #[])), (5, (.func (.func 94) #[] #[]))]) fun x1 =>
    bnd (kSt (pStore Tryz.prog 103 x0.1 x1 x0.2)) fun u =>
    bnd (pLoad Tryz.prog 103 x0.1 u.2) fun q0 =>
    some (q0, u.2)
theorem F46_eq : eFun env k inv 46 #[] h = F46 inv k  h := by
      refine (kq_fun (a := act 2 []) (c := cp c46 1)).trans ?_
      unfold F46
      simp only [kq_seq c46 1, r46_0, kq_seq c46 3, r46_1, kq_ret c46 7, res46_0, reduceIte, reduceCtorEq, XE.exit.injEq, Nat.reduceEqDiff, Nat.reduceMul, Nat.reduceAdd] <;> kernel_rfl
theorem F46_call : eInv env (k + 1) (.func 46) #[] #[] h = F46 (eInv env k) k  h := kq_inv F46_eq
noncomputable def c47 : Code := codeOf Tryz.prog 47
theorem r47_0  : kCode env 47 false inv k (cp c47 2) (act 20 [(0, x0), (1, x1)]) h K =
    K .normal (act 20 [(0, x0), (1, x1)]) h := kq_reg
theorem r47_1  : kCode env 47 false inv k (cp c47 96) (act 20 [(0, x0), (1, x1)]) h K =
    bnd (pBin Tryz.prog .geq 60 (.tmp 5) (.const (.int .u64 128)) x1 (.int .u64 128)) fun x6 =>
    K .normal (act 20 [(0, x0), (1, x1), (6, x6)]) h := kq_reg
theorem b47_rllllr  : kCode env 47 false inv k (cp c47 97) (act 20 [(0, x0), (1, x1), (6, x6)]) h K = brV x6 (kCode env 47 false inv k (cp c47 194) (act 20 [(0, x0), (1, x1), (6, x6)]) h K) (kCode env 47 false inv k (cp c47 195) (act 20 [(0, x0), (1, x1), (6, x6)]) h K) := kq_cond
theorem r47_3  : kCode env 47 false inv k (cp c47 196) (act 20 [(0, x0), (1, x1), (6, x6)]) h K =
    bnd (pConv Tryz.prog 60 5 x1 h) fun x11 =>
    bnd (pBin Tryz.prog .or 5 (.tmp 11) (.const (.int .u8 128)) x11 (.int .u8 128)) fun x12 =>
    bnd (pBuildSlice Tryz.prog 33 1 #[(0, x12)] h) fun x13 =>
    bnd (pAppend Tryz.prog #[33, 33] x0 x13.1 x13.2) fun x14 =>
    K .normal (act 20 [(0, x14.1), (1, x1)]) x14.2 := kq_reg
theorem r47_2  : kCode env 47 false inv k (cp c47 99) (act 20 [(0, x0), (1, x1)]) h K =
    bnd (pBin Tryz.prog .shr 60 (.tmp 7) (.const (.int .u64 7)) x1 (.int .u64 7)) fun x8 =>
    K .normal (act 20 [(0, x0), (1, x8)]) h := kq_reg
noncomputable def F47_llr {β : Type} (inv : Inv) (k : Nat) : Nat → Value → Value → AH → (Value → Value → Value → AH → Option β) → Option β
  | 0, _, _, _, _ => none
  | j + 1, x0, x1, h, ke0 =>
    bnd (pBin Tryz.prog .geq 60 (.tmp 5) (.const (.int .u64 128)) x1 (.int .u64 128)) fun x6 =>
    brV x6
    (bnd (pConv Tryz.prog 60 5 x1 h) fun x11 =>
    bnd (pBin Tryz.prog .or 5 (.tmp 11) (.const (.int .u8 128)) x11 (.int .u8 128)) fun x12 =>
    bnd (pBuildSlice Tryz.prog 33 1 #[(0, x12)] h) fun x13 =>
    bnd (pAppend Tryz.prog #[33, 33] x0 x13.1 x13.2) fun x14 =>
    bnd (pBin Tryz.prog .shr 60 (.tmp 7) (.const (.int .u64 7)) x1 (.int .u64 7)) fun x8 =>
    F47_llr inv k j x14.1 x8 x14.2 ke0)
    (ke0 x0 x1 x6 h)
theorem F47_llr_j (j : Nat) : kLoop (kCode env 47 false inv k (cp c47 24)) j (act 20 [(0, x0), (1, x1)]) h K = F47_llr inv k j x0 x1 h (fun y0 y1 y6 h => K (.exit 0) (act 20 [(0, y0), (1, y1), (6, y6)]) h) := by
      induction j generalizing x0 x1 h with
      | zero => rfl
      | succ j ih =>
        unfold F47_llr
        simp only [kLoop, kq_seq c47 24, kq_seq c47 48, r47_1, b47_rllllr, kq_skip c47 194, kq_seq c47 49, kq_block c47 98 1, r47_3, r47_2, kq_exit c47 195 0, ih, reduceIte, reduceCtorEq, XE.exit.injEq, Nat.reduceEqDiff, Nat.reduceMul, Nat.reduceAdd] <;> kernel_rfl
theorem F47_llr_eq  : kCode env 47 false inv k (cp c47 12) (act 20 [(0, x0), (1, x1)]) h K = F47_llr inv k k x0 x1 h (fun y0 y1 y6 h => K (.exit 0) (act 20 [(0, y0), (1, y1), (6, y6)]) h) := kq_loop (F47_llr_j k)
theorem r47_4  : kCode env 47 false inv k (cp c47 14) (act 20 [(0, x0), (1, x1), (6, x6)]) h K =
    bnd (pConv Tryz.prog 60 5 x1 h) fun x17 =>
    bnd (pBuildSlice Tryz.prog 33 1 #[(0, x17)] h) fun x18 =>
    bnd (pAppend Tryz.prog #[33, 33] x0 x18.1 x18.2) fun x19 =>
    K .normal (act 20 [(4, x19.1)]) x19.2 := kq_reg
theorem res47_0 : resOfFn env.P 47 .ret (act 20 [(4, x4)]) h = some (x4, h) := kq_res
/-- shadowbook/octet.PutVar -/
noncomputable def F47 (inv : Inv) (k : Nat) (x0 x1 : Value) (h : AH) : Option (Value × AH) :=
    F47_llr inv k k x0 x1 h
    (fun y0 y1 y6 h =>
    bnd (pConv Tryz.prog 60 5 y1 h) fun x17 =>
    bnd (pBuildSlice Tryz.prog 33 1 #[(0, x17)] h) fun x18 =>
    bnd (pAppend Tryz.prog #[33, 33] y0 x18.1 x18.2) fun x19 =>
    some (x19.1, x19.2))
theorem F47_eq : eFun env k inv 47 #[x0, x1] h = F47 inv k x0 x1 h := by
      refine (kq_fun (a := act 20 [(0, x0), (1, x1)]) (c := cp c47 1)).trans ?_
      unfold F47
      simp only [kq_seq c47 1, r47_0, kq_seq c47 3, kq_block c47 6 0, F47_llr_eq, kq_seq c47 7, r47_4, kq_ret c47 15, res47_0, reduceIte, reduceCtorEq, XE.exit.injEq, Nat.reduceEqDiff, Nat.reduceMul, Nat.reduceAdd] <;> kernel_rfl
theorem F47_call : eInv env (k + 1) (.func 47) #[] #[x0, x1] h = F47 (eInv env k) k x0 x1 h := kq_inv F47_eq
noncomputable def c48 : Code := codeOf Tryz.prog 48
theorem r48_0  : kCode env 48 false inv k (cp c48 2) (act 11 [(0, x0)]) h K =
    K .normal (act 11 [(0, x0)]) h := kq_reg
theorem r48_1  : kCode env 48 false inv k (cp c48 12) (act 11 [(0, x0)]) h K =
    bnd (inv (.func 96) #[] #[x0] h) fun x4 =>
    K .normal (act 11 [(0, x0), (4, x4.1)]) x4.2 := kq_reg
theorem r48_2  : kCode env 48 false inv k (cp c48 52) (act 11 [(0, x0), (4, x4)]) h K =
    bnd (pBin Tryz.prog .eql 3 (.tmp 4) (.const (.int .i64 0)) x4 (.int .i64 0)) fun x6 =>
    K .normal (act 11 [(0, x0), (4, x4), (5, x6)]) h := kq_reg
theorem b48_rlrlr  : kCode env 48 false inv k (cp c48 53) (act 11 [(0, x0), (4, x4), (5, x5)]) h K = brV x5 (kCode env 48 false inv k (cp c48 106) (act 11 [(0, x0), (4, x4), (5, x5)]) h K) (kCode env 48 false inv k (cp c48 107) (act 11 [(0, x0), (4, x4), (5, x5)]) h K) := kq_cond
theorem r48_3  : kCode env 48 false inv k (cp c48 212) (act 11 [(0, x0), (4, x4), (5, x5)]) h K =
    K .normal (act 11 [(2, (.int .u8 0))]) h := kq_reg
theorem res48_0 : resOfFn env.P 48 .ret (act 11 [(2, x2)]) h = some (x2, h) := kq_res
theorem r48_4  : kCode env 48 false inv k (cp c48 214) (act 11 [(0, x0), (4, x4), (5, x5)]) h K =
    bnd (pLen Tryz.prog #[105] x0 h) fun x9 =>
    bnd (pBin Tryz.prog .eql 3 (.tmp 4) (.tmp 9) x4 x9) fun x10 =>
    K .normal (act 11 [(7, x10)]) h := kq_reg
theorem b48_rrrlrlr  : kCode env 48 false inv k (cp c48 215) (act 11 [(7, x7)]) h K = brV x7 (kCode env 48 false inv k (cp c48 430) (act 11 [(7, x7)]) h K) (kCode env 48 false inv k (cp c48 431) (act 11 [(7, x7)]) h K) := kq_cond
theorem r48_5  : kCode env 48 false inv k (cp c48 860) (act 11 [(7, x7)]) h K =
    K .normal (act 11 [(2, (.int .u8 1))]) h := kq_reg
theorem r48_6  : kCode env 48 false inv k (cp c48 14) (act 11 [(7, x7)]) h K =
    K .normal (act 11 [(2, (.int .u8 2))]) h := kq_reg
/-- (shadowbook/nulls.flags).form -/
noncomputable def F48 (inv : Inv) (k : Nat) (x0 : Value) (h : AH) : Option (Value × AH) :=
    bnd (inv (.func 96) #[] #[x0] h) fun x4 =>
    bnd (pBin Tryz.prog .eql 3 (.tmp 4) (.const (.int .i64 0)) x4.1 (.int .i64 0)) fun x6 =>
    brV x6
    (some ((.int .u8 0), x4.2))
    (bnd (pLen Tryz.prog #[105] x0 x4.2) fun x9 =>
    bnd (pBin Tryz.prog .eql 3 (.tmp 4) (.tmp 9) x4.1 x9) fun x10 =>
    brV x10
    (some ((.int .u8 1), x4.2))
    (some ((.int .u8 2), x4.2)))
theorem F48_eq : eFun env k inv 48 #[x0] h = F48 inv k x0 h := by
      refine (kq_fun (a := act 11 [(0, x0)]) (c := cp c48 1)).trans ?_
      unfold F48
      simp only [kq_seq c48 1, r48_0, kq_seq c48 3, kq_seq c48 6, r48_1, kq_block c48 13 0, kq_seq c48 26, r48_2, b48_rlrlr, kq_seq c48 106, r48_3, kq_ret c48 213, res48_0, kq_seq c48 107, r48_4, b48_rrrlrlr, kq_seq c48 430, r48_5, kq_ret c48 861, kq_skip c48 431, kq_seq c48 7, r48_6, kq_ret c48 15, reduceIte, reduceCtorEq, XE.exit.injEq, Nat.reduceEqDiff, Nat.reduceMul, Nat.reduceAdd] <;> kernel_rfl
theorem F48_call : eInv env (k + 1) (.func 48) #[] #[x0] h = F48 (eInv env k) k x0 h := kq_inv F48_eq
noncomputable def c49 : Code := codeOf Tryz.prog 49
theorem r49_0  : kCode env 49 false inv k (cp c49 2) (act 54 [(0, x0), (1, x1)]) h K =
    K .normal (act 54 [(0, x0), (1, x1)]) h := kq_reg
theorem r49_1  : kCode env 49 false inv k (cp c49 24) (act 54 [(0, x0), (1, x1)]) h K =
    bnd (pLen Tryz.prog #[63] x0 h) fun x14 =>
    bnd (inv (.func 97) #[] #[x14, x1] h) fun x16 =>
    bnd (pUn Tryz.prog .not x16.1) fun x17 =>
    K .normal (act 54 [(0, x0), (1, x1), (12, x17)]) x16.2 := kq_reg
theorem b49_rllr  : kCode env 49 false inv k (cp c49 25) (act 54 [(0, x0), (1, x1), (12, x12)]) h K = brV x12 (kCode env 49 false inv k (cp c49 50) (act 54 [(0, x0), (1, x1), (12, x12)]) h K) (kCode env 49 false inv k (cp c49 51) (act 54 [(0, x0), (1, x1), (12, x12)]) h K) := kq_cond
theorem r49_2  : kCode env 49 false inv k (cp c49 100) (act 54 [(0, x0), (1, x1), (12, x12)]) h K =
    K .normal (act 54 [(4, (.slice none 0 0)), (5, (.int .i64 2))]) h := kq_reg
theorem res49_0 : resOfFn env.P 49 .ret (act 54 [(4, x4), (5, x5)]) h = some (.tuple #[x4, x5], h) := kq_res
theorem r49_3  : kCode env 49 false inv k (cp c49 102) (act 54 [(0, x0), (1, x1), (12, x12)]) h K =
    bnd (inv (.func 98) #[] #[x0] h) fun x20 =>
    bnd (pBin Tryz.prog .gtr 3 (.tmp 20) (.tmp 21) x20.1 x1) fun x22 =>
    K .normal (act 54 [(0, x0), (1, x1), (18, x22)]) x20.2 := kq_reg
theorem b49_rrrllr  : kCode env 49 false inv k (cp c49 103) (act 54 [(0, x0), (1, x1), (18, x18)]) h K = brV x18 (kCode env 49 false inv k (cp c49 206) (act 54 [(0, x0), (1, x1), (18, x18)]) h K) (kCode env 49 false inv k (cp c49 207) (act 54 [(0, x0), (1, x1), (18, x18)]) h K) := kq_cond
theorem r49_4  : kCode env 49 false inv k (cp c49 412) (act 54 [(0, x0), (1, x1), (18, x18)]) h K =
    K .normal (act 54 [(4, (.slice none 0 0)), (5, (.int .i64 3))]) h := kq_reg
theorem r49_5  : kCode env 49 false inv k (cp c49 14) (act 54 [(0, x0), (1, x1), (18, x18)]) h K =
    bnd (pLen Tryz.prog #[63] x0 h) fun x24 =>
    bnd (inv (.func 99) #[] #[x24, x1] h) fun x26 =>
    bnd (pMakeSlice Tryz.prog 33 (.int .i64 0) x26.1 x26.2) fun x27 =>
    bnd (pAlloc Tryz.prog 33 x27.2) fun x6 =>
    bnd (kSt (pStore Tryz.prog 33 x6.1 x27.1 x6.2)) fun u =>
    K .normal (act 54 [(0, x0), (1, x1), (6, x6.1)]) u.2 := kq_reg
theorem r49_6  : kCode env 49 false inv k (cp c49 30) (act 54 [(0, x0), (1, x1), (6, x6)]) h K =
    bnd (pAlloc Tryz.prog 5 h) fun x7 =>
    K .normal (act 54 [(0, x0), (1, x1), (6, x6), (7, x7.1)]) x7.2 := kq_reg
theorem r49_7  : kCode env 49 false inv k (cp c49 62) (act 54 [(0, x0), (1, x1), (6, x6), (7, x7)]) h K =
    bnd (pAlloc Tryz.prog 3 h) fun x8 =>
    bnd (kSt (pStore Tryz.prog 3 x8.1 (.int .i64 0) x8.2)) fun u =>
    K .normal (act 54 [(0, x0), (1, x1), (6, x6), (7, x7), (8, x8.1)]) u.2 := kq_reg
theorem r49_8  : kCode env 49 false inv k (cp c49 126) (act 54 [(0, x0), (1, x1), (6, x6), (7, x7), (8, x8)]) h K =
    bnd (pMakeFunc (.func 100) #[] #[x7, x8, x6]) fun x28 =>
    K .normal (act 54 [(0, x0), (1, x1), (6, x6), (7, x7), (8, x8), (9, x28)]) h := kq_reg
theorem r49_9  : kCode env 49 false inv k (cp c49 508) (act 54 [(0, x0), (1, x1), (6, x6), (7, x7), (8, x8), (9, x9)]) h K =
    bnd (pLen Tryz.prog #[63] x0 h) fun x30 =>
    K .normal (act 54 [(1, x1), (6, x6), (7, x7), (8, x8), (9, x9), (29, x0), (30, x30), (31, (.int .i64 0))]) h := kq_reg
theorem r49_10  : kCode env 49 false inv k (cp c49 4072) (act 54 [(1, x1), (6, x6), (7, x7), (8, x8), (9, x9), (29, x29), (30, x30), (31, x31)]) h K =
    bnd (pBin Tryz.prog .lss 3 (.tmp 31) (.tmp 30) x31 x30) fun x32 =>
    K .normal (act 54 [(1, x1), (6, x6), (7, x7), (8, x8), (9, x9), (29, x29), (30, x30), (31, x31), (32, x32)]) h := kq_reg
theorem b49_lrllrlrrrrrr  : kCode env 49 false inv k (cp c49 8146) (act 54 [(1, x1), (6, x6), (7, x7), (8, x8), (9, x9), (29, x29), (30, x30), (31, x31), (32, x32)]) h K = brV x32 (kCode env 49 false inv k (cp c49 16292) (act 54 [(1, x1), (6, x6), (7, x7), (8, x8), (9, x9), (29, x29), (30, x30), (31, x31), (32, x32)]) h K) (kCode env 49 false inv k (cp c49 16293) (act 54 [(1, x1), (6, x6), (7, x7), (8, x8), (9, x9), (29, x29), (30, x30), (31, x31), (32, x32)]) h K) := kq_cond
theorem r49_11  : kCode env 49 false inv k (cp c49 65176) (act 54 [(1, x1), (6, x6), (7, x7), (8, x8), (9, x9), (29, x29), (30, x30), (31, x31), (32, x32)]) h K =
    bnd (pIndexAddr Tryz.prog 63 x29 x31) fun x33 =>
    bnd (pLoad Tryz.prog 60 x33 h) fun x34 =>
    K .normal (act 54 [(1, x1), (6, x6), (7, x7), (8, x8), (9, x9), (11, x34), (29, x29), (30, x30), (31, x31)]) h := kq_reg
theorem r49_12  : kCode env 49 false inv k (cp c49 130354) (act 54 [(1, x1), (6, x6), (7, x7), (8, x8), (9, x9), (11, x11), (29, x29), (30, x30), (31, x31)]) h K =
    K .normal (act 54 [(1, x1), (6, x6), (7, x7), (8, x8), (9, x9), (11, x11), (29, x29), (30, x30), (31, x31), (35, x1), (36, (.int .i64 0))]) h := kq_reg
theorem r49_13  : kCode env 49 false inv k (cp c49 1042840) (act 54 [(1, x1), (6, x6), (7, x7), (8, x8), (9, x9), (11, x11), (29, x29), (30, x30), (31, x31), (35, x35), (36, x36)]) h K =
    bnd (pBin Tryz.prog .lss 3 (.tmp 36) (.tmp 35) x36 x35) fun x37 =>
    K .normal (act 54 [(1, x1), (6, x6), (7, x7), (8, x8), (9, x9), (11, x11), (29, x29), (30, x30), (31, x31), (35, x35), (36, x36), (37, x37)]) h := kq_reg
theorem b49_lrllrrllrrllrlrrrrrr  : kCode env 49 false inv k (cp c49 2085682) (act 54 [(1, x1), (6, x6), (7, x7), (8, x8), (9, x9), (11, x11), (29, x29), (30, x30), (31, x31), (35, x35), (36, x36), (37, x37)]) h K = brV x37 (kCode env 49 false inv k (cp c49 4171364) (act 54 [(1, x1), (6, x6), (7, x7), (8, x8), (9, x9), (11, x11), (29, x29), (30, x30), (31, x31), (35, x35), (36, x36), (37, x37)]) h K) (kCode env 49 false inv k (cp c49 4171365) (act 54 [(1, x1), (6, x6), (7, x7), (8, x8), (9, x9), (11, x11), (29, x29), (30, x30), (31, x31), (35, x35), (36, x36), (37, x37)]) h K) := kq_cond
theorem r49_14  : kCode env 49 false inv k (cp c49 16685464) (act 54 [(1, x1), (6, x6), (7, x7), (8, x8), (9, x9), (11, x11), (29, x29), (30, x30), (31, x31), (35, x35), (36, x36), (37, x37)]) h K =
    bnd (pBin Tryz.prog .and 60 (.tmp 39) (.const (.int .u64 1)) x11 (.int .u64 1)) fun x40 =>
    bnd (pConv Tryz.prog 60 5 x40 h) fun x41 =>
    bnd (callV inv x9 #[x41] h) fun x42 =>
    K .normal (act 54 [(1, x1), (6, x6), (7, x7), (8, x8), (9, x9), (11, x11), (29, x29), (30, x30), (31, x31), (35, x35), (36, x36)]) x42.2 := kq_reg
theorem r49_15  : kCode env 49 false inv k (cp c49 16685465) (act 54 [(1, x1), (6, x6), (7, x7), (8, x8), (9, x9), (11, x11), (29, x29), (30, x30), (31, x31), (35, x35), (36, x36)]) h K =
    bnd (pBin Tryz.prog .shr 60 (.tmp 43) (.const (.int .u64 1)) x11 (.int .u64 1)) fun x44 =>
    K .normal (act 54 [(1, x1), (6, x6), (7, x7), (8, x8), (9, x9), (11, x44), (29, x29), (30, x30), (31, x31), (35, x35), (36, x36)]) h := kq_reg
theorem r49_16  : kCode env 49 false inv k (cp c49 4171367) (act 54 [(1, x1), (6, x6), (7, x7), (8, x8), (9, x9), (11, x11), (29, x29), (30, x30), (31, x31), (35, x35), (36, x36)]) h K =
    bnd (pBin Tryz.prog .add 3 (.tmp 36) (.const (.int .i64 1)) x36 (.int .i64 1)) fun x45 =>
    K .normal (act 54 [(1, x1), (6, x6), (7, x7), (8, x8), (9, x9), (11, x11), (29, x29), (30, x30), (31, x31), (35, x35), (36, x45)]) h := kq_reg
noncomputable def F49_lrrllrrllrlrrrrrr {β : Type} (inv : Inv) (k : Nat) : Nat → Value → Value → Value → Value → Value → Value → Value → Value → Value → Value → Value → AH → (Value → Value → Value → Value → Value → Value → Value → Value → Value → Value → Value → Value → AH → Option β) → Option β
  | 0, _, _, _, _, _, _, _, _, _, _, _, _, _ => none
  | j + 1, x1, x6, x7, x8, x9, x11, x29, x30, x31, x35, x36, h, ke3 =>
    bnd (pBin Tryz.prog .lss 3 (.tmp 36) (.tmp 35) x36 x35) fun x37 =>
    brV x37
    (bnd (pBin Tryz.prog .and 60 (.tmp 39) (.const (.int .u64 1)) x11 (.int .u64 1)) fun x40 =>
    bnd (pConv Tryz.prog 60 5 x40 h) fun x41 =>
    bnd (callV inv x9 #[x41] h) fun x42 =>
    bnd (pBin Tryz.prog .shr 60 (.tmp 43) (.const (.int .u64 1)) x11 (.int .u64 1)) fun x44 =>
    bnd (pBin Tryz.prog .add 3 (.tmp 36) (.const (.int .i64 1)) x36 (.int .i64 1)) fun x45 =>
    F49_lrrllrrllrlrrrrrr inv k j x1 x6 x7 x8 x9 x44 x29 x30 x31 x35 x45 x42.2 ke3)
    (ke3 x1 x6 x7 x8 x9 x11 x29 x30 x31 x35 x36 x37 h)
theorem F49_lrrllrrllrlrrrrrr_j (j : Nat) : kLoop (kCode env 49 false inv k (cp c49 521420)) j (act 54 [(1, x1), (6, x6), (7, x7), (8, x8), (9, x9), (11, x11), (29, x29), (30, x30), (31, x31), (35, x35), (36, x36)]) h K = F49_lrrllrrllrlrrrrrr inv k j x1 x6 x7 x8 x9 x11 x29 x30 x31 x35 x36 h (fun y1 y6 y7 y8 y9 y11 y29 y30 y31 y35 y36 y37 h => K (.exit 3) (act 54 [(1, y1), (6, y6), (7, y7), (8, y8), (9, y9), (11, y11), (29, y29), (30, y30), (31, y31), (35, y35), (36, y36), (37, y37)]) h) := by
      induction j generalizing x1 x6 x7 x8 x9 x11 x29 x30 x31 x35 x36 h with
      | zero => rfl
      | succ j ih =>
        unfold F49_lrrllrrllrlrrrrrr
        simp only [kLoop, kq_seq c49 521420, r49_13, kq_seq c49 1042841, b49_lrllrrllrrllrlrrrrrr, kq_skip c49 4171364, kq_seq c49 2085683, kq_block c49 4171366 4, kq_seq c49 8342732, r49_14, r49_15, r49_16, kq_exit c49 4171365 3, ih, reduceIte, reduceCtorEq, XE.exit.injEq, Nat.reduceEqDiff, Nat.reduceMul, Nat.reduceAdd] <;> kernel_rfl
theorem F49_lrrllrrllrlrrrrrr_eq  : kCode env 49 false inv k (cp c49 260710) (act 54 [(1, x1), (6, x6), (7, x7), (8, x8), (9, x9), (11, x11), (29, x29), (30, x30), (31, x31), (35, x35), (36, x36)]) h K = F49_lrrllrrllrlrrrrrr inv k k x1 x6 x7 x8 x9 x11 x29 x30 x31 x35 x36 h (fun y1 y6 y7 y8 y9 y11 y29 y30 y31 y35 y36 y37 h => K (.exit 3) (act 54 [(1, y1), (6, y6), (7, y7), (8, y8), (9, y9), (11, y11), (29, y29), (30, y30), (31, y31), (35, y35), (36, y36), (37, y37)]) h) := kq_loop (F49_lrrllrrllrlrrrrrr_j k)
theorem r49_17  : kCode env 49 false inv k (cp c49 16295) (act 54 [(1, x1), (6, x6), (7, x7), (8, x8), (9, x9), (11, x11), (29, x29), (30, x30), (31, x31), (35, x35), (36, x36), (37, x37)]) h K =
    bnd (pBin Tryz.prog .add 3 (.tmp 31) (.const (.int .i64 1)) x31 (.int .i64 1)) fun x46 =>
    K .normal (act 54 [(1, x1), (6, x6), (7, x7), (8, x8), (9, x9), (29, x29), (30, x30), (31, x46)]) h := kq_reg
noncomputable def F49_lrlrrrrrr {β : Type} (inv : Inv) (k : Nat) : Nat → Value → Value → Value → Value → Value → Value → Value → Value → AH → (Value → Value → Value → Value → Value → Value → Value → Value → Value → AH → Option β) → Option β
  | 0, _, _, _, _, _, _, _, _, _, _ => none
  | j + 1, x1, x6, x7, x8, x9, x29, x30, x31, h, ke1 =>
    bnd (pBin Tryz.prog .lss 3 (.tmp 31) (.tmp 30) x31 x30) fun x32 =>
    brV x32
    (bnd (pIndexAddr Tryz.prog 63 x29 x31) fun x33 =>
    bnd (pLoad Tryz.prog 60 x33 h) fun x34 =>
    F49_lrrllrrllrlrrrrrr inv k k x1 x6 x7 x8 x9 x34 x29 x30 x31 x1 (.int .i64 0) h
    (fun y1 y6 y7 y8 y9 y11 y29 y30 y31 y35 y36 y37 h =>
    bnd (pBin Tryz.prog .add 3 (.tmp 31) (.const (.int .i64 1)) y31 (.int .i64 1)) fun x46 =>
    F49_lrlrrrrrr inv k j y1 y6 y7 y8 y9 y29 y30 x46 h ke1))
    (ke1 x1 x6 x7 x8 x9 x29 x30 x31 x32 h)
theorem F49_lrlrrrrrr_j (j : Nat) : kLoop (kCode env 49 false inv k (cp c49 2036)) j (act 54 [(1, x1), (6, x6), (7, x7), (8, x8), (9, x9), (29, x29), (30, x30), (31, x31)]) h K = F49_lrlrrrrrr inv k j x1 x6 x7 x8 x9 x29 x30 x31 h (fun y1 y6 y7 y8 y9 y29 y30 y31 y32 h => K (.exit 1) (act 54 [(1, y1), (6, y6), (7, y7), (8, y8), (9, y9), (29, y29), (30, y30), (31, y31), (32, y32)]) h) := by
      induction j generalizing x1 x6 x7 x8 x9 x29 x30 x31 h with
      | zero => rfl
      | succ j ih =>
        unfold F49_lrlrrrrrr
        simp only [kLoop, kq_seq c49 2036, r49_10, kq_seq c49 4073, b49_lrllrlrrrrrr, kq_skip c49 16292, kq_seq c49 8147, kq_block c49 16294 2, kq_seq c49 32588, r49_11, kq_seq c49 65177, r49_12, kq_block c49 130355 3, F49_lrrllrrllrlrrrrrr_eq, r49_17, kq_exit c49 16293 1, ih, reduceIte, reduceCtorEq, XE.exit.injEq, Nat.reduceEqDiff, Nat.reduceMul, Nat.reduceAdd] <;> kernel_rfl
theorem F49_lrlrrrrrr_eq  : kCode env 49 false inv k (cp c49 1018) (act 54 [(1, x1), (6, x6), (7, x7), (8, x8), (9, x9), (29, x29), (30, x30), (31, x31)]) h K = F49_lrlrrrrrr inv k k x1 x6 x7 x8 x9 x29 x30 x31 h (fun y1 y6 y7 y8 y9 y29 y30 y31 y32 h => K (.exit 1) (act 54 [(1, y1), (6, y6), (7, y7), (8, y8), (9, y9), (29, y29), (30, y30), (31, y31), (32, y32)]) h) := kq_loop (F49_lrlrrrrrr_j k)
theorem r49_18  : kCode env 49 false inv k (cp c49 1020) (act 54 [(1, x1), (6, x6), (7, x7), (8, x8), (9, x9), (29, x29), (30, x30), (31, x31), (32, x32)]) h K =
    bnd (pLoad Tryz.prog 3 x8 h) fun x47 =>
    bnd (pBin Tryz.prog .gtr 3 (.tmp 47) (.const (.int .i64 0)) x47 (.int .i64 0)) fun x48 =>
    K .normal (act 54 [(6, x6), (7, x7), (48, x48)]) h := kq_reg
theorem b49_rlrrrrrrr  : kCode env 49 false inv k (cp c49 1021) (act 54 [(6, x6), (7, x7), (48, x48)]) h K = brV x48 (kCode env 49 false inv k (cp c49 2042) (act 54 [(6, x6), (7, x7), (48, x48)]) h K) (kCode env 49 false inv k (cp c49 2043) (act 54 [(6, x6), (7, x7), (48, x48)]) h K) := kq_cond
theorem r49_19  : kCode env 49 false inv k (cp c49 2042) (act 54 [(6, x6), (7, x7), (48, x48)]) h K =
    bnd (pLoad Tryz.prog 33 x6 h) fun x49 =>
    bnd (pLoad Tryz.prog 5 x7 h) fun x50 =>
    bnd (pBuildSlice Tryz.prog 33 1 #[(0, x50)] h) fun x51 =>
    bnd (pAppend Tryz.prog #[33, 33] x49 x51.1 x51.2) fun x52 =>
    bnd (kSt (pStore Tryz.prog 33 x6 x52.1 x52.2)) fun u =>
    K .normal (act 54 [(6, x6)]) u.2 := kq_reg
noncomputable def F49_rlrrrrrrr {β : Type} (inv : Inv) (k : Nat) (x6 x7 x48 : Value) (h : AH) (kn : (Value → Value → Value → AH → Option β)) : Option β :=
    brV x48
    (bnd (pLoad Tryz.prog 33 x6 h) fun x49 =>
    bnd (pLoad Tryz.prog 5 x7 h) fun x50 =>
    bnd (pBuildSlice Tryz.prog 33 1 #[(0, x50)] h) fun x51 =>
    bnd (pAppend Tryz.prog #[33, 33] x49 x51.1 x51.2) fun x52 =>
    bnd (kSt (pStore Tryz.prog 33 x6 x52.1 x52.2)) fun u =>
    kn x6 unk unk u.2)
    (kn x6 x7 x48 h)
theorem F49_rlrrrrrrr_eq  : kCode env 49 false inv k (cp c49 1021) (act 54 [(6, x6), (7, x7), (48, x48)]) h K = F49_rlrrrrrrr inv k x6 x7 x48 h (fun y6 y7 y48 h => K .normal (act 54 [(6, y6), (7, y7), (48, y48)]) h) := by
      unfold F49_rlrrrrrrr
      simp only [b49_rlrrrrrrr, r49_19, kq_skip c49 2043, reduceIte, reduceCtorEq, XE.exit.injEq, Nat.reduceEqDiff, Nat.reduceMul, Nat.reduceAdd] <;> kernel_rfl
theorem r49_20  : kCode env 49 false inv k (cp c49 1022) (act 54 [(6, x6), (7, x7), (48, x48)]) h K =
    bnd (pLoad Tryz.prog 33 x6 h) fun x53 =>
    K .normal (act 54 [(4, x53), (5, (.int .i64 0))]) h := kq_reg
/-- shadowbook/packs.Put -/
noncomputable def F49 (inv : Inv) (k : Nat) (x0 x1 : Value) (h : AH) : Option (Value × AH) :=
    bnd (pLen Tryz.prog #[63] x0 h) fun x14 =>
    bnd (inv (.func 97) #[] #[x14, x1] h) fun x16 =>
    bnd (pUn Tryz.prog .not x16.1) fun x17 =>
    brV x17
    (some (.tuple #[(.slice none 0 0), (.int .i64 2)], x16.2))
    (bnd (inv (.func 98) #[] #[x0] x16.2) fun x20 =>
    bnd (pBin Tryz.prog .gtr 3 (.tmp 20) (.tmp 21) x20.1 x1) fun x22 =>
    brV x22
    (some (.tuple #[(.slice none 0 0), (.int .i64 3)], x20.2))
    (bnd (pLen Tryz.prog #[63] x0 x20.2) fun x24 =>
    bnd (inv (.func 99) #[] #[x24, x1] x20.2) fun x26 =>
    bnd (pMakeSlice Tryz.prog 33 (.int .i64 0) x26.1 x26.2) fun x27 =>
    bnd (pAlloc Tryz.prog 33 x27.2) fun x6 =>
    bnd (kSt (pStore Tryz.prog 33 x6.1 x27.1 x6.2)) fun u =>
    bnd (pAlloc Tryz.prog 5 u.2) fun x7 =>
    bnd (pAlloc Tryz.prog 3 x7.2) fun x8 =>
    bnd (kSt (pStore Tryz.prog 3 x8.1 (.int .i64 0) x8.2)) fun u_1 =>
    bnd (pMakeFunc (.func 100) #[] #[x7.1, x8.1, x6.1]) fun x28 =>
    bnd (pLen Tryz.prog #[63] x0 u_1.2) fun x30 =>
    F49_lrlrrrrrr inv k k x1 x6.1 x7.1 x8.1 x28 x0 x30 (.int .i64 0) u_1.2
    (fun y1 y6 y7 y8 y9 y29 y30 y31 y32 h =>
    bnd (pLoad Tryz.prog 3 y8 h) fun x47 =>
    bnd (pBin Tryz.prog .gtr 3 (.tmp 47) (.const (.int .i64 0)) x47 (.int .i64 0)) fun x48 =>
    F49_rlrrrrrrr inv k y6 y7 x48 h
    (fun y6_2 y7_3 y48 h_4 =>
    bnd (pLoad Tryz.prog 33 y6_2 h_4) fun x53 =>
    some (.tuple #[x53, (.int .i64 0)], h_4)))))
theorem F49_eq : eFun env k inv 49 #[x0, x1] h = F49 inv k x0 x1 h := by
      refine (kq_fun (a := act 54 [(0, x0), (1, x1)]) (c := cp c49 1)).trans ?_
      unfold F49
      simp only [kq_seq c49 1, r49_0, kq_seq c49 3, kq_block c49 6 0, kq_seq c49 12, r49_1, b49_rllr, kq_seq c49 50, r49_2, kq_ret c49 101, res49_0, kq_seq c49 51, r49_3, b49_rrrllr, kq_seq c49 206, r49_4, kq_ret c49 413, kq_skip c49 207, kq_seq c49 7, r49_5, kq_seq c49 15, r49_6, kq_seq c49 31, r49_7, kq_seq c49 63, r49_8, kq_seq c49 127, kq_seq c49 254, r49_9, kq_block c49 509 1, F49_lrlrrrrrr_eq, kq_seq c49 255, kq_seq c49 510, r49_18, F49_rlrrrrrrr_eq, kq_seq c49 511, r49_20, kq_ret c49 1023, reduceIte, reduceCtorEq, XE.exit.injEq, Nat.reduceEqDiff, Nat.reduceMul, Nat.reduceAdd] <;> kernel_rfl
theorem F49_call : eInv env (k + 1) (.func 49) #[] #[x0, x1] h = F49 (eInv env k) k x0 x1 h := kq_inv F49_eq
noncomputable def c50 : Code := codeOf Tryz.prog 50
theorem r50_0  : kCode env 50 false inv k (cp c50 2) (act 22 [(0, x0)]) h K =
    K .normal (act 22 [(0, x0)]) h := kq_reg
theorem r50_1  : kCode env 50 false inv k (cp c50 6) (act 22 [(0, x0)]) h K =
    bnd (pLen Tryz.prog #[105] x0 h) fun x7 =>
    bnd (pMakeSlice Tryz.prog 63 x7 x7 h) fun x8 =>
    K .normal (act 22 [(0, x0), (3, x8.1)]) x8.2 := kq_reg
theorem r50_2  : kCode env 50 false inv k (cp c50 28) (act 22 [(0, x0), (3, x3)]) h K =
    bnd (pLen Tryz.prog #[105] x0 h) fun x10 =>
    K .normal (act 22 [(3, x3), (9, x0), (10, x10), (11, (.int .i64 0))]) h := kq_reg
theorem r50_3  : kCode env 50 false inv k (cp c50 232) (act 22 [(3, x3), (9, x9), (10, x10), (11, x11)]) h K =
    bnd (pBin Tryz.prog .lss 3 (.tmp 11) (.tmp 10) x11 x10) fun x12 =>
    K .normal (act 22 [(3, x3), (9, x9), (10, x10), (11, x11), (12, x12)]) h := kq_reg
theorem b50_lrllrlrr  : kCode env 50 false inv k (cp c50 466) (act 22 [(3, x3), (9, x9), (10, x10), (11, x11), (12, x12)]) h K = brV x12 (kCode env 50 false inv k (cp c50 932) (act 22 [(3, x3), (9, x9), (10, x10), (11, x11), (12, x12)]) h K) (kCode env 50 false inv k (cp c50 933) (act 22 [(3, x3), (9, x9), (10, x10), (11, x11), (12, x12)]) h K) := kq_cond
theorem r50_4  : kCode env 50 false inv k (cp c50 3736) (act 22 [(3, x3), (9, x9), (10, x10), (11, x11), (12, x12)]) h K =
    bnd (pIndexAddr Tryz.prog 105 x9 x11) fun x14 =>
    bnd (pLoad Tryz.prog 4 x14 h) fun x15 =>
    K .normal (act 22 [(3, x3), (4, x11), (5, x15), (9, x9), (10, x10), (11, x11)]) h := kq_reg
theorem r50_5  : kCode env 50 false inv k (cp c50 7474) (act 22 [(3, x3), (4, x4), (5, x5), (9, x9), (10, x10), (11, x11)]) h K =
    K .normal (act 22 [(3, x3), (4, x4), (9, x9), (10, x10), (11, x11), (16, x5)]) h := kq_reg
theorem b50_rrllrrllrlrr  : kCode env 50 false inv k (cp c50 7475) (act 22 [(3, x3), (4, x4), (9, x9), (10, x10), (11, x11), (16, x16)]) h K = brV x16 (kCode env 50 false inv k (cp c50 14950) (act 22 [(3, x3), (4, x4), (9, x9), (10, x10), (11, x11), (16, x16)]) h K) (kCode env 50 false inv k (cp c50 14951) (act 22 [(3, x3), (4, x4), (9, x9), (10, x10), (11, x11), (16, x16)]) h K) := kq_cond
theorem r50_6  : kCode env 50 false inv k (cp c50 14950) (act 22 [(3, x3), (4, x4), (9, x9), (10, x10), (11, x11), (16, x16)]) h K =
    bnd (pIndexAddr Tryz.prog 63 x3 x4) fun x19 =>
    bnd (kSt (pStore Tryz.prog 60 x19 (.int .u64 1) h)) fun u =>
    K .normal (act 22 [(3, x3), (9, x9), (10, x10), (11, x11)]) u.2 := kq_reg
noncomputable def F50_lrrllrlrr {β : Type} (inv : Inv) (k : Nat) (x3 x9 x10 x11 x12 : Value) (h : AH) (kn : (Value → Value → Value → Value → Value → Value → AH → Option β)) : Option β :=
    bnd (pIndexAddr Tryz.prog 105 x9 x11) fun x14 =>
    bnd (pLoad Tryz.prog 4 x14 h) fun x15 =>
    brV x15
    (bnd (pIndexAddr Tryz.prog 63 x3 x11) fun x19 =>
    bnd (kSt (pStore Tryz.prog 60 x19 (.int .u64 1) h)) fun u =>
    kn x3 unk x9 x10 x11 unk u.2)
    (kn x3 x11 x9 x10 x11 x15 h)
theorem F50_lrrllrlrr_eq  : kCode env 50 false inv k (cp c50 934) (act 22 [(3, x3), (9, x9), (10, x10), (11, x11), (12, x12)]) h K = F50_lrrllrlrr inv k x3 x9 x10 x11 x12 h (fun y3 y4 y9 y10 y11 y16 h => K .normal (act 22 [(3, y3), (4, y4), (9, y9), (10, y10), (11, y11), (16, y16)]) h) := by
      unfold F50_lrrllrlrr
      simp only [kq_block c50 934 1, kq_seq c50 1868, r50_4, kq_seq c50 3737, r50_5, b50_rrllrrllrlrr, r50_6, kq_skip c50 14951, reduceIte, reduceCtorEq, XE.exit.injEq, Nat.reduceEqDiff, Nat.reduceMul, Nat.reduceAdd] <;> kernel_rfl
theorem r50_7  : kCode env 50 false inv k (cp c50 935) (act 22 [(3, x3), (4, x4), (9, x9), (10, x10), (11, x11), (16, x16)]) h K =
    bnd (pBin Tryz.prog .add 3 (.tmp 11) (.const (.int .i64 1)) x11 (.int .i64 1)) fun x20 =>
    K .normal (act 22 [(3, x3), (9, x9), (10, x10), (11, x20)]) h := kq_reg
noncomputable def F50_lrlrr {β : Type} (inv : Inv) (k : Nat) : Nat → Value → Value → Value → Value → AH → (Value → Value → Value → Value → Value → AH → Option β) → Option β
  | 0, _, _, _, _, _, _ => none
  | j + 1, x3, x9, x10, x11, h, ke0 =>
    bnd (pBin Tryz.prog .lss 3 (.tmp 11) (.tmp 10) x11 x10) fun x12 =>
    brV x12
    (F50_lrrllrlrr inv k x3 x9 x10 x11 x12 h
    (fun y3 y4 y9 y10 y11 y16 h =>
    bnd (pBin Tryz.prog .add 3 (.tmp 11) (.const (.int .i64 1)) y11 (.int .i64 1)) fun x20 =>
    F50_lrlrr inv k j y3 y9 y10 x20 h ke0))
    (ke0 x3 x9 x10 x11 x12 h)
theorem F50_lrlrr_j (j : Nat) : kLoop (kCode env 50 false inv k (cp c50 116)) j (act 22 [(3, x3), (9, x9), (10, x10), (11, x11)]) h K = F50_lrlrr inv k j x3 x9 x10 x11 h (fun y3 y9 y10 y11 y12 h => K (.exit 0) (act 22 [(3, y3), (9, y9), (10, y10), (11, y11), (12, y12)]) h) := by
      induction j generalizing x3 x9 x10 x11 h with
      | zero => rfl
      | succ j ih =>
        unfold F50_lrlrr
        simp only [kLoop, kq_seq c50 116, r50_3, kq_seq c50 233, b50_lrllrlrr, kq_skip c50 932, kq_seq c50 467, F50_lrrllrlrr_eq, r50_7, kq_exit c50 933 0, ih, reduceIte, reduceCtorEq, XE.exit.injEq, Nat.reduceEqDiff, Nat.reduceMul, Nat.reduceAdd] <;> kernel_rfl
theorem F50_lrlrr_eq  : kCode env 50 false inv k (cp c50 58) (act 22 [(3, x3), (9, x9), (10, x10), (11, x11)]) h K = F50_lrlrr inv k k x3 x9 x10 x11 h (fun y3 y9 y10 y11 y12 h => K (.exit 0) (act 22 [(3, y3), (9, y9), (10, y10), (11, y11), (12, y12)]) h) := kq_loop (F50_lrlrr_j k)
theorem r50_8  : kCode env 50 false inv k (cp c50 30) (act 22 [(3, x3), (9, x9), (10, x10), (11, x11), (12, x12)]) h K =
    K .normal (act 22 [(2, x3)]) h := kq_reg
theorem res50_0 : resOfFn env.P 50 .ret (act 22 [(2, x2)]) h = some (x2, h) := kq_res
/-- (shadowbook/nulls.flags).numbers -/
noncomputable def F50 (inv : Inv) (k : Nat) (x0 : Value) (h : AH) : Option (Value × AH) :=
    bnd (pLen Tryz.prog #[105] x0 h) fun x7 =>
    bnd (pMakeSlice Tryz.prog 63 x7 x7 h) fun x8 =>
    bnd (pLen Tryz.prog #[105] x0 x8.2) fun x10 =>
    F50_lrlrr inv k k x8.1 x0 x10 (.int .i64 0) x8.2
    (fun y3 y9 y10 y11 y12 h =>
    some (y3, h))
theorem F50_eq : eFun env k inv 50 #[x0] h = F50 inv k x0 h := by
      refine (kq_fun (a := act 22 [(0, x0)]) (c := cp c50 1)).trans ?_
      unfold F50
      simp only [kq_seq c50 1, r50_0, kq_seq c50 3, r50_1, kq_seq c50 7, kq_seq c50 14, r50_2, kq_block c50 29 0, F50_lrlrr_eq, kq_seq c50 15, r50_8, kq_ret c50 31, res50_0, reduceIte, reduceCtorEq, XE.exit.injEq, Nat.reduceEqDiff, Nat.reduceMul, Nat.reduceAdd] <;> kernel_rfl
theorem F50_call : eInv env (k + 1) (.func 50) #[] #[x0] h = F50 (eInv env k) k x0 h := kq_inv F50_eq
noncomputable def c51 : Code := codeOf Tryz.prog 51
theorem r51_0  : kCode env 51 false inv k (cp c51 2) (act 58 [(0, x0), (1, x1)]) h K =
    bnd (pBox Tryz.prog 38 x0 h) fun x2 =>
    bnd (pBox Tryz.prog 38 x1 x2.2) fun x3 =>
    bnd (pAlloc Tryz.prog 38 x3.2) fun x4 =>
    K .normal (act 58 [(2, x2.1), (3, x3.1), (4, x4.1)]) x4.2 := kq_reg
noncomputable abbrev G51_1 {β : Type} (inv : Inv) (x2 x3 x4 : Value) (h : AH) (K : Value → AH → Option β) : Option β :=
    bnd (pFieldAddr Tryz.prog 38 x2 0) fun x6 =>
    bnd (pLoad Tryz.prog 3 x6 h) fun x7 =>
    bnd (pFieldAddr Tryz.prog 38 x3 0) fun x8 =>
    bnd (pLoad Tryz.prog 3 x8 h) fun x9 =>
    bnd (pBin Tryz.prog .add 3 (.tmp 7) (.tmp 9) x7 x9) fun x10 =>
    bnd (pFieldAddr Tryz.prog 38 x2 1) fun x11 =>
    bnd (pLoad Tryz.prog 3 x11 h) fun x12 =>
    bnd (pFieldAddr Tryz.prog 38 x3 1) fun x13 =>
    bnd (pLoad Tryz.prog 3 x13 h) fun x14 =>
    bnd (pBin Tryz.prog .add 3 (.tmp 12) (.tmp 14) x12 x14) fun x15 =>
    bnd (pFieldAddr Tryz.prog 38 x2 2) fun x16 =>
    bnd (pLoad Tryz.prog 31 x16 h) fun x17 =>
    bnd (pFieldAddr Tryz.prog 38 x2 3) fun x18 =>
    bnd (pLoad Tryz.prog 31 x18 h) fun x19 =>
    bnd (pBuild Tryz.prog 38 #[(0, x10), (1, x15), (2, x17), (3, x19)]) fun x20 =>
    bnd (pAlloc Tryz.prog 38 h) fun x5 =>
    bnd (kSt (pStore Tryz.prog 38 x5.1 x20 x5.2)) fun u =>
    K (x5.1) u.2
theorem r51_1  : kCode env 51 false inv k (cp c51 6) (act 58 [(2, x2), (3, x3), (4, x4)]) h K =
    G51_1 inv x2 x3 x4 h fun y5 h => K .normal (act 58 [(2, x2), (3, x3), (4, x4), (5, y5)]) h := kq_reg
theorem r51_2  : kCode env 51 false inv k (cp c51 56) (act 58 [(2, x2), (3, x3), (4, x4), (5, x5)]) h K =
    bnd (pFieldAddr Tryz.prog 38 x2 0) fun x22 =>
    bnd (pLoad Tryz.prog 3 x22 h) fun x23 =>
    bnd (pFieldAddr Tryz.prog 38 x2 1) fun x24 =>
    bnd (pLoad Tryz.prog 3 x24 h) fun x25 =>
    bnd (pBin Tryz.prog .eql 3 (.tmp 23) (.tmp 25) x23 x25) fun x26 =>
    K .normal (act 58 [(3, x3), (4, x4), (5, x5), (21, x26)]) h := kq_reg
theorem b51_rllrr  : kCode env 51 false inv k (cp c51 57) (act 58 [(3, x3), (4, x4), (5, x5), (21, x21)]) h K = brV x21 (kCode env 51 false inv k (cp c51 114) (act 58 [(3, x3), (4, x4), (5, x5), (21, x21)]) h K) (kCode env 51 false inv k (cp c51 115) (act 58 [(3, x3), (4, x4), (5, x5), (21, x21)]) h K) := kq_cond
noncomputable abbrev G51_3 {β : Type} (inv : Inv) (x3 x4 x5 : Value) (h : AH) (K : AH → Option β) : Option β :=
    bnd (pFieldAddr Tryz.prog 38 x3 2) fun x27 =>
    bnd (pLoad Tryz.prog 31 x27 h) fun x28 =>
    bnd (pFieldAddr Tryz.prog 38 x3 3) fun x29 =>
    bnd (pLoad Tryz.prog 31 x29 h) fun x30 =>
    bnd (pFieldAddr Tryz.prog 38 x5 2) fun x31 =>
    bnd (kSt (pStore Tryz.prog 31 x31 x28 h)) fun u =>
    bnd (pFieldAddr Tryz.prog 38 x5 3) fun x32 =>
    bnd (kSt (pStore Tryz.prog 31 x32 x30 u.2)) fun u_1 =>
    chkK ((!true || !true || (sameO (pLoad Tryz.prog 31 x29 h) x30 && sameO (pLoad Tryz.prog 31 x29 u.2) x30)) && true) <|
    K u_1.2
theorem r51_3  : kCode env 51 false inv k (cp c51 114) (act 58 [(3, x3), (4, x4), (5, x5), (21, x21)]) h K =
    G51_3 inv x3 x4 x5 h fun  h => K .normal (act 58 [(4, x4), (5, x5)]) h := kq_draw
theorem r51_4  : kCode env 51 false inv k (cp c51 230) (act 58 [(3, x3), (4, x4), (5, x5), (21, x21)]) h K =
    bnd (pFieldAddr Tryz.prog 38 x3 0) fun x34 =>
    bnd (pLoad Tryz.prog 3 x34 h) fun x35 =>
    bnd (pFieldAddr Tryz.prog 38 x3 1) fun x36 =>
    bnd (pLoad Tryz.prog 3 x36 h) fun x37 =>
    bnd (pBin Tryz.prog .neq 3 (.tmp 35) (.tmp 37) x35 x37) fun x38 =>
    K .normal (act 58 [(3, x3), (4, x4), (5, x5), (33, x38)]) h := kq_reg
theorem b51_rrrllrr  : kCode env 51 false inv k (cp c51 231) (act 58 [(3, x3), (4, x4), (5, x5), (33, x33)]) h K = brV x33 (kCode env 51 false inv k (cp c51 462) (act 58 [(3, x3), (4, x4), (5, x5), (33, x33)]) h K) (kCode env 51 false inv k (cp c51 463) (act 58 [(3, x3), (4, x4), (5, x5), (33, x33)]) h K) := kq_cond
theorem r51_5  : kCode env 51 false inv k (cp c51 1848) (act 58 [(3, x3), (4, x4), (5, x5), (33, x33)]) h K =
    bnd (pFieldAddr Tryz.prog 38 x3 2) fun x39 =>
    bnd (pLoad Tryz.prog 31 x39 h) fun x40 =>
    bnd (pFieldAddr Tryz.prog 38 x5 2) fun x41 =>
    bnd (pLoad Tryz.prog 31 x41 h) fun x42 =>
    bnd (inv (.func 101) #[] #[x40, x42] h) fun x43 =>
    bnd (pBin Tryz.prog .lss 3 (.tmp 43) (.const (.int .i64 0)) x43.1 (.int .i64 0)) fun x44 =>
    K .normal (act 58 [(3, x3), (4, x4), (5, x5), (44, x44)]) x43.2 := kq_reg
theorem b51_rllrrrllrr  : kCode env 51 false inv k (cp c51 1849) (act 58 [(3, x3), (4, x4), (5, x5), (44, x44)]) h K = brV x44 (kCode env 51 false inv k (cp c51 3698) (act 58 [(3, x3), (4, x4), (5, x5), (44, x44)]) h K) (kCode env 51 false inv k (cp c51 3699) (act 58 [(3, x3), (4, x4), (5, x5), (44, x44)]) h K) := kq_cond
theorem r51_6  : kCode env 51 false inv k (cp c51 3698) (act 58 [(3, x3), (4, x4), (5, x5), (44, x44)]) h K =
    bnd (pFieldAddr Tryz.prog 38 x3 2) fun x45 =>
    bnd (pLoad Tryz.prog 31 x45 h) fun x46 =>
    bnd (pFieldAddr Tryz.prog 38 x5 2) fun x47 =>
    bnd (kSt (pStore Tryz.prog 31 x47 x46 h)) fun u =>
    K .normal (act 58 [(3, x3), (4, x4), (5, x5)]) u.2 := kq_reg
noncomputable def F51_rllrrrllrr {β : Type} (inv : Inv) (k : Nat) (x3 x4 x5 x44 : Value) (h : AH) (kn : (Value → Value → Value → Value → AH → Option β)) : Option β :=
    brV x44
    (bnd (pFieldAddr Tryz.prog 38 x3 2) fun x45 =>
    bnd (pLoad Tryz.prog 31 x45 h) fun x46 =>
    bnd (pFieldAddr Tryz.prog 38 x5 2) fun x47 =>
    bnd (kSt (pStore Tryz.prog 31 x47 x46 h)) fun u =>
    kn x3 x4 x5 unk u.2)
    (kn x3 x4 x5 x44 h)
theorem F51_rllrrrllrr_eq  : kCode env 51 false inv k (cp c51 1849) (act 58 [(3, x3), (4, x4), (5, x5), (44, x44)]) h K = F51_rllrrrllrr inv k x3 x4 x5 x44 h (fun y3 y4 y5 y44 h => K .normal (act 58 [(3, y3), (4, y4), (5, y5), (44, y44)]) h) := by
      unfold F51_rllrrrllrr
      simp only [b51_rllrrrllrr, r51_6, kq_skip c51 3699, reduceIte, reduceCtorEq, XE.exit.injEq, Nat.reduceEqDiff, Nat.reduceMul, Nat.reduceAdd] <;> kernel_rfl
theorem r51_7  : kCode env 51 false inv k (cp c51 1850) (act 58 [(3, x3), (4, x4), (5, x5), (44, x44)]) h K =
    bnd (pFieldAddr Tryz.prog 38 x3 3) fun x48 =>
    bnd (pLoad Tryz.prog 31 x48 h) fun x49 =>
    bnd (pFieldAddr Tryz.prog 38 x5 3) fun x50 =>
    bnd (pLoad Tryz.prog 31 x50 h) fun x51 =>
    bnd (inv (.func 101) #[] #[x49, x51] h) fun x52 =>
    bnd (pBin Tryz.prog .gtr 3 (.tmp 52) (.const (.int .i64 0)) x52.1 (.int .i64 0)) fun x53 =>
    K .normal (act 58 [(3, x3), (4, x4), (5, x5), (53, x53)]) x52.2 := kq_reg
theorem b51_rrlrrrllrr  : kCode env 51 false inv k (cp c51 1851) (act 58 [(3, x3), (4, x4), (5, x5), (53, x53)]) h K = brV x53 (kCode env 51 false inv k (cp c51 3702) (act 58 [(3, x3), (4, x4), (5, x5), (53, x53)]) h K) (kCode env 51 false inv k (cp c51 3703) (act 58 [(3, x3), (4, x4), (5, x5), (53, x53)]) h K) := kq_cond
theorem r51_8  : kCode env 51 false inv k (cp c51 3702) (act 58 [(3, x3), (4, x4), (5, x5), (53, x53)]) h K =
    bnd (pFieldAddr Tryz.prog 38 x3 3) fun x54 =>
    bnd (pLoad Tryz.prog 31 x54 h) fun x55 =>
    bnd (pFieldAddr Tryz.prog 38 x5 3) fun x56 =>
    bnd (kSt (pStore Tryz.prog 31 x56 x55 h)) fun u =>
    K .normal (act 58 [(4, x4), (5, x5)]) u.2 := kq_reg
noncomputable def F51_lrr {β : Type} (inv : Inv) (k : Nat) (x2 x3 x4 x5 : Value) (h : AH) (kn : (Value → Value → Value → Value → Value → AH → Option β)) : Option β :=
    bnd (pFieldAddr Tryz.prog 38 x2 0) fun x22 =>
    bnd (pLoad Tryz.prog 3 x22 h) fun x23 =>
    bnd (pFieldAddr Tryz.prog 38 x2 1) fun x24 =>
    bnd (pLoad Tryz.prog 3 x24 h) fun x25 =>
    bnd (pBin Tryz.prog .eql 3 (.tmp 23) (.tmp 25) x23 x25) fun x26 =>
    brV x26
    (G51_3 inv x3 x4 x5 h fun  h =>
    kn unk x4 x5 unk unk h)
    (bnd (pFieldAddr Tryz.prog 38 x3 0) fun x34 =>
    bnd (pLoad Tryz.prog 3 x34 h) fun x35 =>
    bnd (pFieldAddr Tryz.prog 38 x3 1) fun x36 =>
    bnd (pLoad Tryz.prog 3 x36 h) fun x37 =>
    bnd (pBin Tryz.prog .neq 3 (.tmp 35) (.tmp 37) x35 x37) fun x38 =>
    brV x38
    (bnd (pFieldAddr Tryz.prog 38 x3 2) fun x39 =>
    bnd (pLoad Tryz.prog 31 x39 h) fun x40 =>
    bnd (pFieldAddr Tryz.prog 38 x5 2) fun x41 =>
    bnd (pLoad Tryz.prog 31 x41 h) fun x42 =>
    bnd (inv (.func 101) #[] #[x40, x42] h) fun x43 =>
    bnd (pBin Tryz.prog .lss 3 (.tmp 43) (.const (.int .i64 0)) x43.1 (.int .i64 0)) fun x44 =>
    F51_rllrrrllrr inv k x3 x4 x5 x44 x43.2
    (fun y3 y4 y5 y44 h_2 =>
    bnd (pFieldAddr Tryz.prog 38 y3 3) fun x48 =>
    bnd (pLoad Tryz.prog 31 x48 h_2) fun x49 =>
    bnd (pFieldAddr Tryz.prog 38 y5 3) fun x50 =>
    bnd (pLoad Tryz.prog 31 x50 h_2) fun x51 =>
    bnd (inv (.func 101) #[] #[x49, x51] h_2) fun x52 =>
    bnd (pBin Tryz.prog .gtr 3 (.tmp 52) (.const (.int .i64 0)) x52.1 (.int .i64 0)) fun x53 =>
    brV x53
    (bnd (pFieldAddr Tryz.prog 38 y3 3) fun x54 =>
    bnd (pLoad Tryz.prog 31 x54 x52.2) fun x55 =>
    bnd (pFieldAddr Tryz.prog 38 y5 3) fun x56 =>
    bnd (kSt (pStore Tryz.prog 31 x56 x55 x52.2)) fun u =>
    kn unk y4 y5 unk unk u.2)
    (kn y3 y4 y5 unk x53 x52.2)))
    (kn x3 x4 x5 x38 unk h))
theorem F51_lrr_eq  : kCode env 51 false inv k (cp c51 14) (act 58 [(2, x2), (3, x3), (4, x4), (5, x5)]) h K = F51_lrr inv k x2 x3 x4 x5 h (fun y3 y4 y5 y33 y53 h => K .normal (act 58 [(3, y3), (4, y4), (5, y5), (33, y33), (53, y53)]) h) := by
      unfold F51_lrr
      simp only [kq_block c51 14 0, kq_seq c51 28, r51_2, b51_rllrr, r51_3, kq_seq c51 115, r51_4, b51_rrrllrr, kq_seq c51 462, kq_seq c51 924, r51_5, F51_rllrrrllrr_eq, kq_seq c51 925, r51_7, b51_rrlrrrllrr, r51_8, kq_skip c51 3703, kq_skip c51 463, reduceIte, reduceCtorEq, XE.exit.injEq, Nat.reduceEqDiff, Nat.reduceMul, Nat.reduceAdd] <;> kernel_rfl
theorem r51_9  : kCode env 51 false inv k (cp c51 30) (act 58 [(3, x3), (4, x4), (5, x5), (33, x33), (53, x53)]) h K =
    bnd (pLoad Tryz.prog 38 x5 h) fun x57 =>
    bnd (kSt (pStore Tryz.prog 38 x4 x57 h)) fun u =>
    K .normal (act 58 [(4, x4)]) u.2 := kq_reg
theorem res51_0 : resOfFn env.P 51 .ret (act 58 [(4, x4)]) h = bnd (pLoad Tryz.prog 38 x4 h) fun q0 =>
    some (q0, h) := kq_res
/-- shadowbook/zone.Join -/
noncomputable def F51 (inv : Inv) (k : Nat) (x0 x1 : Value) (h : AH) : Option (Value × AH) :=
    bnd (pBox Tryz.prog 38 x0 h) fun x2 =>
    bnd (pBox Tryz.prog 38 x1 x2.2) fun x3 =>
    bnd (pAlloc Tryz.prog 38 x3.2) fun x4 =>
    G51_1 inv x2.1 x3.1 x4.1 x4.2 fun y5 h =>
    F51_lrr inv k x2.1 x3.1 x4.1 y5 h
    (fun y3 y4 y5_3 y33 y53 h_4 =>
    bnd (pLoad Tryz.prog 38 y5_3 h_4) fun x57 =>
    bnd (kSt (pStore Tryz.prog 38 y4 x57 h_4)) fun u =>
    bnd (pLoad Tryz.prog 38 y4 u.2) fun q0 =>
    some (q0, u.2))
theorem F51_eq : eFun env k inv 51 #[x0, x1] h = F51 inv k x0 x1 h := by
      refine (kq_fun (a := act 58 [(0, x0), (1, x1)]) (c := cp c51 1)).trans ?_
      unfold F51
      simp only [kq_seq c51 1, r51_0, kq_seq c51 3, r51_1, kq_seq c51 7, F51_lrr_eq, kq_seq c51 15, r51_9, kq_ret c51 31, res51_0, reduceIte, reduceCtorEq, XE.exit.injEq, Nat.reduceEqDiff, Nat.reduceMul, Nat.reduceAdd] <;> kernel_rfl
theorem F51_call : eInv env (k + 1) (.func 51) #[] #[x0, x1] h = F51 (eInv env k) k x0 x1 h := kq_inv F51_eq
noncomputable def c52 : Code := codeOf Tryz.prog 52
theorem r52_0  : kCode env 52 false inv k (cp c52 2) (act 10 [(0, x0)]) h K =
    bnd (pBox Tryz.prog 31 x0 h) fun x1 =>
    bnd (pAlloc Tryz.prog 38 x1.2) fun x2 =>
    K .normal (act 10 [(1, x1.1), (2, x2.1)]) x2.2 := kq_reg
theorem r52_1  : kCode env 52 false inv k (cp c52 12) (act 10 [(1, x1), (2, x2)]) h K =
    bnd (pFieldAddr Tryz.prog 31 x1 0) fun x3 =>
    bnd (pLoad Tryz.prog 3 x3 h) fun x4 =>
    bnd (pBin Tryz.prog .eql 3 (.tmp 4) (.const (.int .i64 0)) x4 (.int .i64 0)) fun x5 =>
    K .normal (act 10 [(1, x1), (2, x2), (5, x5)]) h := kq_reg
theorem b52_rlr  : kCode env 52 false inv k (cp c52 13) (act 10 [(1, x1), (2, x2), (5, x5)]) h K = brV x5 (kCode env 52 false inv k (cp c52 26) (act 10 [(1, x1), (2, x2), (5, x5)]) h K) (kCode env 52 false inv k (cp c52 27) (act 10 [(1, x1), (2, x2), (5, x5)]) h K) := kq_cond
theorem r52_2  : kCode env 52 false inv k (cp c52 52) (act 10 [(1, x1), (2, x2), (5, x5)]) h K =
    bnd (pBuild Tryz.prog 38 #[(0, (.int .i64 1)), (1, (.int .i64 1))]) fun x6 =>
    bnd (kSt (pStore Tryz.prog 38 x2 x6 h)) fun u =>
    K .normal (act 10 [(2, x2)]) u.2 := kq_reg
theorem res52_0 : resOfFn env.P 52 .ret (act 10 [(2, x2)]) h = bnd (pLoad Tryz.prog 38 x2 h) fun q0 =>
    some (q0, h) := kq_res
theorem r52_3  : kCode env 52 false inv k (cp c52 14) (act 10 [(1, x1), (2, x2), (5, x5)]) h K =
    bnd (pLoad Tryz.prog 31 x1 h) fun x7 =>
    bnd (pLoad Tryz.prog 31 x1 h) fun x8 =>
    bnd (pBuild Tryz.prog 38 #[(0, (.int .i64 1)), (2, x7), (3, x8)]) fun x9 =>
    bnd (kSt (pStore Tryz.prog 38 x2 x9 h)) fun u =>
    K .normal (act 10 [(2, x2)]) u.2 := kq_reg
/-- shadowbook/zone.one -/
noncomputable def F52 (inv : Inv) (k : Nat) (x0 : Value) (h : AH) : Option (Value × AH) :=
    bnd (pBox Tryz.prog 31 x0 h) fun x1 =>
    bnd (pAlloc Tryz.prog 38 x1.2) fun x2 =>
    bnd (pFieldAddr Tryz.prog 31 x1.1 0) fun x3 =>
    bnd (pLoad Tryz.prog 3 x3 x2.2) fun x4 =>
    bnd (pBin Tryz.prog .eql 3 (.tmp 4) (.const (.int .i64 0)) x4 (.int .i64 0)) fun x5 =>
    brV x5
    (bnd (pBuild Tryz.prog 38 #[(0, (.int .i64 1)), (1, (.int .i64 1))]) fun x6 =>
    bnd (kSt (pStore Tryz.prog 38 x2.1 x6 x2.2)) fun u =>
    bnd (pLoad Tryz.prog 38 x2.1 u.2) fun q0 =>
    some (q0, u.2))
    (bnd (pLoad Tryz.prog 31 x1.1 x2.2) fun x7 =>
    bnd (pLoad Tryz.prog 31 x1.1 x2.2) fun x8 =>
    bnd (pBuild Tryz.prog 38 #[(0, (.int .i64 1)), (2, x7), (3, x8)]) fun x9 =>
    bnd (kSt (pStore Tryz.prog 38 x2.1 x9 x2.2)) fun u_1 =>
    bnd (pLoad Tryz.prog 38 x2.1 u_1.2) fun q0 =>
    some (q0, u_1.2))
theorem F52_eq : eFun env k inv 52 #[x0] h = F52 inv k x0 h := by
      refine (kq_fun (a := act 10 [(0, x0)]) (c := cp c52 1)).trans ?_
      unfold F52
      simp only [kq_seq c52 1, r52_0, kq_seq c52 3, kq_seq c52 6, r52_1, b52_rlr, kq_seq c52 26, r52_2, kq_ret c52 53, res52_0, kq_skip c52 27, kq_seq c52 7, r52_3, kq_ret c52 15, reduceIte, reduceCtorEq, XE.exit.injEq, Nat.reduceEqDiff, Nat.reduceMul, Nat.reduceAdd] <;> kernel_rfl
theorem F52_call : eInv env (k + 1) (.func 52) #[] #[x0] h = F52 (eInv env k) k x0 h := kq_inv F52_eq
noncomputable def c56 : Code := codeOf Tryz.prog 56
theorem r56_0  : kCode env 56 false inv k (cp c56 2) (act 101 [(0, x0)]) h K =
    K .normal (act 101 [(0, x0)]) h := kq_reg
theorem r56_1  : kCode env 56 false inv k (cp c56 6) (act 101 [(0, x0)]) h K =
    bnd (inv (.func 58) #[] #[x0] h) fun x15 =>
    K .normal (act 101 [(0, x0), (5, x15.1)]) x15.2 := kq_reg
theorem r56_2  : kCode env 56 false inv k (cp c56 14) (act 101 [(0, x0), (5, x5)]) h K =
    bnd (inv (.func 92) #[] #[x5] h) fun x18 =>
    bnd (pExtract x18.1 0) fun x19 =>
    bnd (pExtract x18.1 1) fun x20 =>
    K .normal (act 101 [(0, x0), (4, x20), (5, x5), (6, x19)]) x18.2 := kq_reg
noncomputable abbrev G56_3 {β : Type} (inv : Inv) (x0 x4 x5 x6 : Value) (h : AH) (K : Value → AH → Option β) : Option β :=
    bnd (pBin Tryz.prog .neq 25 (.tmp 21) (.const (.int .i64 0)) x4 (.int .i64 0)) fun x22 =>
    bnd (gd (some x22) false h (some (x6, h))) fun x24 =>
    bnd (gd (some x22) false x24.2 (lt (pBin Tryz.prog .gtr 60 (.tmp 24) (.const (.int .u64 4096)) x24.1 (.int .u64 4096)) x24.2)) fun x25 =>
    bnd (pickV x22 (.bool true) x25.1) fun x26 =>
    K (x26) x25.2
theorem r56_3  : kCode env 56 false inv k (cp c56 60) (act 101 [(0, x0), (4, x4), (5, x5), (6, x6)]) h K =
    G56_3 inv x0 x4 x5 x6 h fun y26 h => K .normal (act 101 [(0, x0), (5, x5), (6, x6), (26, y26)]) h := kq_reg
theorem b56_rlrrr  : kCode env 56 false inv k (cp c56 61) (act 101 [(0, x0), (5, x5), (6, x6), (26, x26)]) h K = brV x26 (kCode env 56 false inv k (cp c56 122) (act 101 [(0, x0), (5, x5), (6, x6), (26, x26)]) h K) (kCode env 56 false inv k (cp c56 123) (act 101 [(0, x0), (5, x5), (6, x6), (26, x26)]) h K) := kq_cond
theorem r56_4  : kCode env 56 false inv k (cp c56 244) (act 101 [(0, x0), (5, x5), (6, x6), (26, x26)]) h K =
    K .normal (act 101 [(2, (.slice none 0 0)), (3, (.int .i64 0)), (4, (.int .i64 4))]) h := kq_reg
theorem res56_0 : resOfFn env.P 56 .ret (act 101 [(2, x2), (3, x3), (4, x4)]) h = some (.tuple #[x2, x3, x4], h) := kq_res
theorem r56_5  : kCode env 56 false inv k (cp c56 62) (act 101 [(0, x0), (5, x5), (6, x6), (26, x26)]) h K =
    bnd (inv (.func 77) #[] #[x5, (.int .i64 1)] h) fun x29 =>
    bnd (pExtract x29.1 0) fun x30 =>
    bnd (pExtract x29.1 1) fun x31 =>
    K .normal (act 101 [(0, x0), (4, x31), (5, x5), (6, x6), (7, x30)]) x29.2 := kq_reg
noncomputable abbrev G56_6 {β : Type} (inv : Inv) (x0 x4 x5 x6 x7 : Value) (h : AH) (K : Value → AH → Option β) : Option β :=
    bnd (pBin Tryz.prog .neq 25 (.tmp 32) (.const (.int .i64 0)) x4 (.int .i64 0)) fun x33 =>
    bnd (gd (some x33) false h (some (x7, h))) fun x35 =>
    bnd (gd (some x33) false x35.2 (lt (pBin Tryz.prog .gtr 60 (.tmp 35) (.const (.int .u64 2)) x35.1 (.int .u64 2)) x35.2)) fun x36 =>
    bnd (pickV x33 (.bool true) x36.1) fun x37 =>
    K (x37) x36.2
theorem r56_6  : kCode env 56 false inv k (cp c56 252) (act 101 [(0, x0), (4, x4), (5, x5), (6, x6), (7, x7)]) h K =
    G56_6 inv x0 x4 x5 x6 x7 h fun y37 h => K .normal (act 101 [(0, x0), (5, x5), (6, x6), (7, x7), (37, y37)]) h := kq_reg
theorem b56_rlrrrrr  : kCode env 56 false inv k (cp c56 253) (act 101 [(0, x0), (5, x5), (6, x6), (7, x7), (37, x37)]) h K = brV x37 (kCode env 56 false inv k (cp c56 506) (act 101 [(0, x0), (5, x5), (6, x6), (7, x7), (37, x37)]) h K) (kCode env 56 false inv k (cp c56 507) (act 101 [(0, x0), (5, x5), (6, x6), (7, x7), (37, x37)]) h K) := kq_cond
theorem r56_7  : kCode env 56 false inv k (cp c56 1012) (act 101 [(0, x0), (5, x5), (6, x6), (7, x7), (37, x37)]) h K =
    K .normal (act 101 [(2, (.slice none 0 0)), (3, (.int .i64 0)), (4, (.int .i64 4))]) h := kq_reg
theorem r56_8  : kCode env 56 false inv k (cp c56 254) (act 101 [(0, x0), (5, x5), (6, x6), (7, x7), (37, x37)]) h K =
    bnd (pBin Tryz.prog .eql 60 (.tmp 38) (.const (.int .u64 1)) x7 (.int .u64 1)) fun x39 =>
    bnd (pBuildSlice Tryz.prog 32 1 #[(0, x39)] h) fun x40 =>
    bnd (pConv Tryz.prog 60 3 x6 x40.2) fun x42 =>
    bnd (inv (.func 103) #[] #[x40.1, x42] x40.2) fun x43 =>
    K .normal (act 101 [(0, x0), (2, x43.1), (5, x5), (6, x6), (7, x7)]) x43.2 := kq_reg
theorem r56_9  : kCode env 56 false inv k (cp c56 1020) (act 101 [(0, x0), (2, x2), (5, x5), (6, x6), (7, x7)]) h K =
    bnd (pBin Tryz.prog .eql 60 (.tmp 44) (.const (.int .u64 2)) x7 (.int .u64 2)) fun x45 =>
    K .normal (act 101 [(0, x0), (2, x2), (5, x5), (6, x6), (45, x45)]) h := kq_reg
theorem b56_rlrrrrrrr  : kCode env 56 false inv k (cp c56 1021) (act 101 [(0, x0), (2, x2), (5, x5), (6, x6), (45, x45)]) h K = brV x45 (kCode env 56 false inv k (cp c56 2042) (act 101 [(0, x0), (2, x2), (5, x5), (6, x6), (45, x45)]) h K) (kCode env 56 false inv k (cp c56 2043) (act 101 [(0, x0), (2, x2), (5, x5), (6, x6), (45, x45)]) h K) := kq_cond
theorem r56_10  : kCode env 56 false inv k (cp c56 4084) (act 101 [(0, x0), (2, x2), (5, x5), (6, x6), (45, x45)]) h K =
    bnd (pConv Tryz.prog 60 3 x6 h) fun x49 =>
    bnd (inv (.func 99) #[] #[x49, (.int .i64 1)] h) fun x50 =>
    bnd (inv (.func 60) #[] #[x5, x50.1] x50.2) fun x51 =>
    bnd (pExtract x51.1 0) fun x52 =>
    bnd (pExtract x51.1 1) fun x53 =>
    K .normal (act 101 [(0, x0), (2, x2), (5, x5), (6, x6), (8, x52), (9, x53)]) x51.2 := kq_reg
theorem r56_11  : kCode env 56 false inv k (cp c56 16340) (act 101 [(0, x0), (2, x2), (5, x5), (6, x6), (8, x8), (9, x9)]) h K =
    bnd (pBin Tryz.prog .neq 25 (.tmp 54) (.const (.int .i64 0)) x9 (.int .i64 0)) fun x55 =>
    K .normal (act 101 [(0, x0), (2, x2), (5, x5), (6, x6), (8, x8), (55, x55)]) h := kq_reg
theorem b56_rlrlrlrrrrrrr  : kCode env 56 false inv k (cp c56 16341) (act 101 [(0, x0), (2, x2), (5, x5), (6, x6), (8, x8), (55, x55)]) h K = brV x55 (kCode env 56 false inv k (cp c56 32682) (act 101 [(0, x0), (2, x2), (5, x5), (6, x6), (8, x8), (55, x55)]) h K) (kCode env 56 false inv k (cp c56 32683) (act 101 [(0, x0), (2, x2), (5, x5), (6, x6), (8, x8), (55, x55)]) h K) := kq_cond
theorem r56_12  : kCode env 56 false inv k (cp c56 65364) (act 101 [(0, x0), (2, x2), (5, x5), (6, x6), (8, x8), (55, x55)]) h K =
    K .normal (act 101 [(2, (.slice none 0 0)), (3, (.int .i64 0)), (4, (.int .i64 4))]) h := kq_reg
theorem r56_13  : kCode env 56 false inv k (cp c56 16342) (act 101 [(0, x0), (2, x2), (5, x5), (6, x6), (8, x8), (55, x55)]) h K =
    bnd (pConv Tryz.prog 60 3 x6 h) fun x59 =>
    bnd (inv (.func 87) #[] #[x8, x59, (.int .i64 1)] h) fun x60 =>
    bnd (pExtract x60.1 0) fun x61 =>
    bnd (pExtract x60.1 1) fun x62 =>
    K .normal (act 101 [(0, x0), (2, x2), (5, x5), (9, x62), (10, x61)]) x60.2 := kq_reg
theorem r56_14  : kCode env 56 false inv k (cp c56 65372) (act 101 [(0, x0), (2, x2), (5, x5), (9, x9), (10, x10)]) h K =
    bnd (pBin Tryz.prog .neq 25 (.tmp 63) (.const (.int .i64 0)) x9 (.int .i64 0)) fun x64 =>
    K .normal (act 101 [(0, x0), (2, x2), (5, x5), (10, x10), (64, x64)]) h := kq_reg
theorem b56_rlrrrlrlrrrrrrr  : kCode env 56 false inv k (cp c56 65373) (act 101 [(0, x0), (2, x2), (5, x5), (10, x10), (64, x64)]) h K = brV x64 (kCode env 56 false inv k (cp c56 130746) (act 101 [(0, x0), (2, x2), (5, x5), (10, x10), (64, x64)]) h K) (kCode env 56 false inv k (cp c56 130747) (act 101 [(0, x0), (2, x2), (5, x5), (10, x10), (64, x64)]) h K) := kq_cond
theorem r56_15  : kCode env 56 false inv k (cp c56 261492) (act 101 [(0, x0), (2, x2), (5, x5), (10, x10), (64, x64)]) h K =
    K .normal (act 101 [(2, (.slice none 0 0)), (3, (.int .i64 0)), (4, (.int .i64 4))]) h := kq_reg
theorem r56_16  : kCode env 56 false inv k (cp c56 65374) (act 101 [(0, x0), (2, x2), (5, x5), (10, x10), (64, x64)]) h K =
    bnd (pLen Tryz.prog #[32] x2 h) fun x66 =>
    K .normal (act 101 [(0, x0), (2, x2), (5, x5), (10, x10), (66, x66), (67, (.int .i64 0))]) h := kq_reg
theorem r56_17  : kCode env 56 false inv k (cp c56 523000) (act 101 [(0, x0), (2, x2), (5, x5), (10, x10), (66, x66), (67, x67)]) h K =
    bnd (pBin Tryz.prog .lss 3 (.tmp 67) (.tmp 66) x67 x66) fun x68 =>
    K .normal (act 101 [(0, x0), (2, x2), (5, x5), (10, x10), (66, x66), (67, x67), (68, x68)]) h := kq_reg
theorem b56_lrllrrrrrlrlrrrrrrr  : kCode env 56 false inv k (cp c56 1046002) (act 101 [(0, x0), (2, x2), (5, x5), (10, x10), (66, x66), (67, x67), (68, x68)]) h K = brV x68 (kCode env 56 false inv k (cp c56 2092004) (act 101 [(0, x0), (2, x2), (5, x5), (10, x10), (66, x66), (67, x67), (68, x68)]) h K) (kCode env 56 false inv k (cp c56 2092005) (act 101 [(0, x0), (2, x2), (5, x5), (10, x10), (66, x66), (67, x67), (68, x68)]) h K) := kq_cond
theorem r56_18  : kCode env 56 false inv k (cp c56 8368024) (act 101 [(0, x0), (2, x2), (5, x5), (10, x10), (66, x66), (67, x67), (68, x68)]) h K =
    K .normal (act 101 [(0, x0), (2, x2), (5, x5), (10, x10), (11, x67), (66, x66), (67, x67)]) h := kq_reg
theorem r56_19  : kCode env 56 false inv k (cp c56 8368025) (act 101 [(0, x0), (2, x2), (5, x5), (10, x10), (11, x11), (66, x66), (67, x67)]) h K =
    bnd (pIndexAddr Tryz.prog 63 x10 x11) fun x74 =>
    bnd (pLoad Tryz.prog 60 x74 h) fun x75 =>
    bnd (pBin Tryz.prog .eql 60 (.tmp 75) (.const (.int .u64 1)) x75 (.int .u64 1)) fun x76 =>
    bnd (pIndexAddr Tryz.prog 32 x2 x11) fun x77 =>
    bnd (kSt (pStore Tryz.prog 4 x77 x76 h)) fun u =>
    K .normal (act 101 [(0, x0), (2, x2), (5, x5), (10, x10), (66, x66), (67, x67)]) u.2 := kq_reg
theorem r56_20  : kCode env 56 false inv k (cp c56 2092007) (act 101 [(0, x0), (2, x2), (5, x5), (10, x10), (66, x66), (67, x67)]) h K =
    bnd (pBin Tryz.prog .add 3 (.tmp 67) (.const (.int .i64 1)) x67 (.int .i64 1)) fun x78 =>
    K .normal (act 101 [(0, x0), (2, x2), (5, x5), (10, x10), (66, x66), (67, x78)]) h := kq_reg
noncomputable def F56_lrrrrrlrlrrrrrrr {β : Type} (inv : Inv) (k : Nat) : Nat → Value → Value → Value → Value → Value → Value → AH → (Value → Value → Value → Value → Value → Value → Value → AH → Option β) → Option β
  | 0, _, _, _, _, _, _, _, _ => none
  | j + 1, x0, x2, x5, x10, x66, x67, h, ke0 =>
    bnd (pBin Tryz.prog .lss 3 (.tmp 67) (.tmp 66) x67 x66) fun x68 =>
    brV x68
    (bnd (pIndexAddr Tryz.prog 63 x10 x67) fun x74 =>
    bnd (pLoad Tryz.prog 60 x74 h) fun x75 =>
    bnd (pBin Tryz.prog .eql 60 (.tmp 75) (.const (.int .u64 1)) x75 (.int .u64 1)) fun x76 =>
    bnd (pIndexAddr Tryz.prog 32 x2 x67) fun x77 =>
    bnd (kSt (pStore Tryz.prog 4 x77 x76 h)) fun u =>
    bnd (pBin Tryz.prog .add 3 (.tmp 67) (.const (.int .i64 1)) x67 (.int .i64 1)) fun x78 =>
    F56_lrrrrrlrlrrrrrrr inv k j x0 x2 x5 x10 x66 x78 u.2 ke0)
    (ke0 x0 x2 x5 x10 x66 x67 x68 h)
theorem F56_lrrrrrlrlrrrrrrr_j (j : Nat) : kLoop (kCode env 56 false inv k (cp c56 261500)) j (act 101 [(0, x0), (2, x2), (5, x5), (10, x10), (66, x66), (67, x67)]) h K = F56_lrrrrrlrlrrrrrrr inv k j x0 x2 x5 x10 x66 x67 h (fun y0 y2 y5 y10 y66 y67 y68 h => K (.exit 0) (act 101 [(0, y0), (2, y2), (5, y5), (10, y10), (66, y66), (67, y67), (68, y68)]) h) := by
      induction j generalizing x0 x2 x5 x10 x66 x67 h with
      | zero => rfl
      | succ j ih =>
        unfold F56_lrrrrrlrlrrrrrrr
        simp only [kLoop, kq_seq c56 261500, r56_17, kq_seq c56 523001, b56_lrllrrrrrlrlrrrrrrr, kq_skip c56 2092004, kq_seq c56 1046003, kq_block c56 2092006 1, kq_seq c56 4184012, r56_18, r56_19, r56_20, kq_exit c56 2092005 0, ih, reduceIte, reduceCtorEq, XE.exit.injEq, Nat.reduceEqDiff, Nat.reduceMul, Nat.reduceAdd] <;> kernel_rfl
theorem F56_lrrrrrlrlrrrrrrr_eq  : kCode env 56 false inv k (cp c56 130750) (act 101 [(0, x0), (2, x2), (5, x5), (10, x10), (66, x66), (67, x67)]) h K = F56_lrrrrrlrlrrrrrrr inv k k x0 x2 x5 x10 x66 x67 h (fun y0 y2 y5 y10 y66 y67 y68 h => K (.exit 0) (act 101 [(0, y0), (2, y2), (5, y5), (10, y10), (66, y66), (67, y67), (68, y68)]) h) := kq_loop (F56_lrrrrrlrlrrrrrrr_j k)
noncomputable def F56_rlrrrrrrr {β : Type} (inv : Inv) (k : Nat) (x0 x2 x5 x6 x45 : Value) (h : AH) (kn : (Value → Value → Value → Value → Value → Value → Value → Value → Value → AH → Option β)) (kr : (Value → Value → Value → AH → Option β)) : Option β :=
    brV x45
    (bnd (pConv Tryz.prog 60 3 x6 h) fun x49 =>
    bnd (inv (.func 99) #[] #[x49, (.int .i64 1)] h) fun x50 =>
    bnd (inv (.func 60) #[] #[x5, x50.1] x50.2) fun x51 =>
    bnd (pExtract x51.1 0) fun x52 =>
    bnd (pExtract x51.1 1) fun x53 =>
    bnd (pBin Tryz.prog .neq 25 (.tmp 54) (.const (.int .i64 0)) x53 (.int .i64 0)) fun x55 =>
    brV x55
    (kr (.slice none 0 0) (.int .i64 0) (.int .i64 4) x51.2)
    (bnd (pConv Tryz.prog 60 3 x6 x51.2) fun x59 =>
    bnd (inv (.func 87) #[] #[x52, x59, (.int .i64 1)] x51.2) fun x60 =>
    bnd (pExtract x60.1 0) fun x61 =>
    bnd (pExtract x60.1 1) fun x62 =>
    bnd (pBin Tryz.prog .neq 25 (.tmp 63) (.const (.int .i64 0)) x62 (.int .i64 0)) fun x64 =>
    brV x64
    (kr (.slice none 0 0) (.int .i64 0) (.int .i64 4) x60.2)
    (bnd (pLen Tryz.prog #[32] x2 x60.2) fun x66 =>
    F56_lrrrrrlrlrrrrrrr inv k k x0 x2 x5 x61 x66 (.int .i64 0) x60.2
    (fun y0 y2 y5 y10 y66 y67 y68 h =>
    kn y0 y2 y5 unk y10 unk y66 y67 y68 h))))
    (kn x0 x2 x5 x6 unk x45 unk unk unk h)
theorem F56_rlrrrrrrr_eq  : kCode env 56 false inv k (cp c56 1021) (act 101 [(0, x0), (2, x2), (5, x5), (6, x6), (45, x45)]) h K = F56_rlrrrrrrr inv k x0 x2 x5 x6 x45 h (fun y0 y2 y5 y6 y10 y45 y66 y67 y68 h => K .normal (act 101 [(0, y0), (2, y2), (5, y5), (6, y6), (10, y10), (45, y45), (66, y66), (67, y67), (68, y68)]) h) (fun y2 y3 y4 h => K .ret (act 101 [(2, y2), (3, y3), (4, y4)]) h) := by
      unfold F56_rlrrrrrrr
      simp only [b56_rlrrrrrrr, kq_seq c56 2042, r56_10, kq_seq c56 4085, kq_seq c56 8170, r56_11, b56_rlrlrlrrrrrrr, kq_seq c56 32682, r56_12, kq_ret c56 65365, kq_skip c56 32683, kq_seq c56 8171, r56_13, kq_seq c56 16343, kq_seq c56 32686, r56_14, b56_rlrrrlrlrrrrrrr, kq_seq c56 130746, r56_15, kq_ret c56 261493, kq_skip c56 130747, kq_seq c56 32687, r56_16, kq_block c56 65375 0, F56_lrrrrrlrlrrrrrrr_eq, kq_skip c56 2043, reduceIte, reduceCtorEq, XE.exit.injEq, Nat.reduceEqDiff, Nat.reduceMul, Nat.reduceAdd] <;> kernel_rfl
theorem r56_21  : kCode env 56 false inv k (cp c56 1022) (act 101 [(0, x0), (2, x2), (5, x5), (6, x6), (10, x10), (45, x45), (66, x66), (67, x67), (68, x68)]) h K =
    bnd (pLen Tryz.prog #[33] x0 h) fun x80 =>
    bnd (inv (.func 61) #[] #[x5] h) fun x82 =>
    bnd (pBin Tryz.prog .sub 3 (.tmp 80) (.tmp 82) x80 x82.1) fun x83 =>
    K .normal (act 101 [(0, x0), (2, x2), (3, x83)]) x82.2 := kq_reg
theorem r56_22  : kCode env 56 false inv k (cp c56 4092) (act 101 [(0, x0), (2, x2), (3, x3)]) h K =
    bnd (inv (.func 30) #[] #[x2] h) fun x86 =>
    bnd (pExtract x86.1 0) fun x87 =>
    bnd (pExtract x86.1 1) fun x88 =>
    K .normal (act 101 [(0, x0), (2, x2), (3, x3), (12, x87), (13, x88)]) x86.2 := kq_reg
noncomputable abbrev G56_23 {β : Type} (inv : Inv) (x0 x2 x3 x12 x13 : Value) (h : AH) (K : Value → AH → Option β) : Option β :=
    bnd (pBin Tryz.prog .neq 25 (.tmp 89) (.const (.int .i64 0)) x13 (.int .i64 0)) fun x90 =>
    bnd (gd (some x90) false h (some (x12, h))) fun x92 =>
    bnd (gd (some x90) false x92.2 (some (x0, x92.2))) fun x93 =>
    bnd (gd (some x90) false x93.2 (some (x3, x93.2))) fun x94 =>
    bnd (gd (some x90) false x94.2 (lt (pSlice Tryz.prog 33 x93.1 none (some x94.1) none x94.2) x94.2)) fun x95 =>
    bnd (gd (some x90) false x95.2 (inv (.func 104) #[] #[x92.1, x95.1] x95.2)) fun x96 =>
    bnd (gd (some x90) false x96.2 (lt (pUn Tryz.prog .not x96.1) x96.2)) fun x97 =>
    bnd (pickV x90 (.bool true) x97.1) fun x98 =>
    K (x98) x97.2
theorem r56_23  : kCode env 56 false inv k (cp c56 8186) (act 101 [(0, x0), (2, x2), (3, x3), (12, x12), (13, x13)]) h K =
    G56_23 inv x0 x2 x3 x12 x13 h fun y98 h => K .normal (act 101 [(2, x2), (3, x3), (98, y98)]) h := kq_reg
theorem b56_rrlrrrrrrrrr  : kCode env 56 false inv k (cp c56 8187) (act 101 [(2, x2), (3, x3), (98, x98)]) h K = brV x98 (kCode env 56 false inv k (cp c56 16374) (act 101 [(2, x2), (3, x3), (98, x98)]) h K) (kCode env 56 false inv k (cp c56 16375) (act 101 [(2, x2), (3, x3), (98, x98)]) h K) := kq_cond
theorem r56_24  : kCode env 56 false inv k (cp c56 32748) (act 101 [(2, x2), (3, x3), (98, x98)]) h K =
    K .normal (act 101 [(2, (.slice none 0 0)), (3, (.int .i64 0)), (4, (.int .i64 4))]) h := kq_reg
theorem r56_25  : kCode env 56 false inv k (cp c56 4094) (act 101 [(2, x2), (3, x3), (98, x98)]) h K =
    K .normal (act 101 [(2, x2), (3, x3), (4, (.int .i64 0))]) h := kq_reg
/-- shadowbook/nulls.Get -/
noncomputable def F56 (inv : Inv) (k : Nat) (x0 : Value) (h : AH) : Option (Value × AH) :=
    bnd (inv (.func 58) #[] #[x0] h) fun x15 =>
    bnd (inv (.func 92) #[] #[x15.1] x15.2) fun x18 =>
    bnd (pExtract x18.1 0) fun x19 =>
    bnd (pExtract x18.1 1) fun x20 =>
    G56_3 inv x0 x20 x15.1 x19 x18.2 fun y26 h =>
    brV y26
    (some (.tuple #[(.slice none 0 0), (.int .i64 0), (.int .i64 4)], h))
    (bnd (inv (.func 77) #[] #[x15.1, (.int .i64 1)] h) fun x29 =>
    bnd (pExtract x29.1 0) fun x30 =>
    bnd (pExtract x29.1 1) fun x31 =>
    G56_6 inv x0 x31 x15.1 x19 x30 x29.2 fun y37 h_1 =>
    brV y37
    (some (.tuple #[(.slice none 0 0), (.int .i64 0), (.int .i64 4)], h_1))
    (bnd (pBin Tryz.prog .eql 60 (.tmp 38) (.const (.int .u64 1)) x30 (.int .u64 1)) fun x39 =>
    bnd (pBuildSlice Tryz.prog 32 1 #[(0, x39)] h_1) fun x40 =>
    bnd (pConv Tryz.prog 60 3 x19 x40.2) fun x42 =>
    bnd (inv (.func 103) #[] #[x40.1, x42] x40.2) fun x43 =>
    bnd (pBin Tryz.prog .eql 60 (.tmp 44) (.const (.int .u64 2)) x30 (.int .u64 2)) fun x45 =>
    F56_rlrrrrrrr inv k x0 x43.1 x15.1 x19 x45 x43.2
    (fun y0 y2 y5 y6 y10 y45 y66 y67 y68 h_2 =>
    bnd (pLen Tryz.prog #[33] y0 h_2) fun x80 =>
    bnd (inv (.func 61) #[] #[y5] h_2) fun x82 =>
    bnd (pBin Tryz.prog .sub 3 (.tmp 80) (.tmp 82) x80 x82.1) fun x83 =>
    bnd (inv (.func 30) #[] #[y2] x82.2) fun x86 =>
    bnd (pExtract x86.1 0) fun x87 =>
    bnd (pExtract x86.1 1) fun x88 =>
    G56_23 inv y0 y2 x83 x87 x88 x86.2 fun y98 h_3 =>
    brV y98
    (some (.tuple #[(.slice none 0 0), (.int .i64 0), (.int .i64 4)], h_3))
    (some (.tuple #[y2, x83, (.int .i64 0)], h_3)))
    (fun y2_4 y3 y4 h_5 =>
    some (.tuple #[y2_4, y3, y4], h_5))))
theorem F56_eq : eFun env k inv 56 #[x0] h = F56 inv k x0 h := by
      refine (kq_fun (a := act 101 [(0, x0)]) (c := cp c56 1)).trans ?_
      unfold F56
      simp only [kq_seq c56 1, r56_0, kq_seq c56 3, r56_1, kq_seq c56 7, r56_2, kq_seq c56 15, kq_seq c56 30, r56_3, b56_rlrrr, kq_seq c56 122, r56_4, kq_ret c56 245, res56_0, kq_skip c56 123, kq_seq c56 31, r56_5, kq_seq c56 63, kq_seq c56 126, r56_6, b56_rlrrrrr, kq_seq c56 506, r56_7, kq_ret c56 1013, kq_skip c56 507, kq_seq c56 127, r56_8, kq_seq c56 255, kq_seq c56 510, r56_9, F56_rlrrrrrrr_eq, kq_seq c56 511, r56_21, kq_seq c56 1023, kq_seq c56 2046, r56_22, kq_seq c56 4093, r56_23, b56_rrlrrrrrrrrr, kq_seq c56 16374, r56_24, kq_ret c56 32749, kq_skip c56 16375, kq_seq c56 2047, r56_25, kq_ret c56 4095, reduceIte, reduceCtorEq, XE.exit.injEq, Nat.reduceEqDiff, Nat.reduceMul, Nat.reduceAdd] <;> kernel_rfl
theorem F56_call : eInv env (k + 1) (.func 56) #[] #[x0] h = F56 (eInv env k) k x0 h := kq_inv F56_eq
noncomputable def c57 : Code := codeOf Tryz.prog 57
theorem r57_0  : kCode env 57 false inv k (cp c57 2) (act 5 [(0, x0)]) h K =
    K .normal (act 5 [(0, x0)]) h := kq_reg
theorem r57_1  : kCode env 57 false inv k (cp c57 6) (act 5 [(0, x0)]) h K =
    bnd (inv (.func 96) #[] #[x0] h) fun x4 =>
    K .normal (act 5 [(2, x4.1)]) x4.2 := kq_reg
theorem res57_0 : resOfFn env.P 57 .ret (act 5 [(2, x2)]) h = some (x2, h) := kq_res
/-- shadowbook/nulls.Count -/
noncomputable def F57 (inv : Inv) (k : Nat) (x0 : Value) (h : AH) : Option (Value × AH) :=
    bnd (inv (.func 96) #[] #[x0] h) fun x4 =>
    some (x4.1, x4.2)
theorem F57_eq : eFun env k inv 57 #[x0] h = F57 inv k x0 h := by
      refine (kq_fun (a := act 5 [(0, x0)]) (c := cp c57 1)).trans ?_
      unfold F57
      simp only [kq_seq c57 1, r57_0, kq_seq c57 3, r57_1, kq_ret c57 7, res57_0, reduceIte, reduceCtorEq, XE.exit.injEq, Nat.reduceEqDiff, Nat.reduceMul, Nat.reduceAdd] <;> kernel_rfl
theorem F57_call : eInv env (k + 1) (.func 57) #[] #[x0] h = F57 (eInv env k) k x0 h := kq_inv F57_eq
noncomputable def c58 : Code := codeOf Tryz.prog 58
theorem r58_0  : kCode env 58 false inv k (cp c58 2) (act 7 [(0, x0)]) h K =
    K .normal (act 7 [(0, x0)]) h := kq_reg
theorem r58_1  : kCode env 58 false inv k (cp c58 6) (act 7 [(0, x0)]) h K =
    bnd (inv (.func 105) #[] #[x0] h) fun x4 =>
    bnd (pBuild Tryz.prog 144 #[(0, x4.1)]) fun x5 =>
    bnd (pBox Tryz.prog 144 x5 x4.2) fun x6 =>
    K .normal (act 7 [(2, x6.1)]) x6.2 := kq_reg
theorem res58_0 : resOfFn env.P 58 .ret (act 7 [(2, x2)]) h = some (x2, h) := kq_res
/-- shadowbook/octet.New -/
noncomputable def F58 (inv : Inv) (k : Nat) (x0 : Value) (h : AH) : Option (Value × AH) :=
    bnd (inv (.func 105) #[] #[x0] h) fun x4 =>
    bnd (pBuild Tryz.prog 144 #[(0, x4.1)]) fun x5 =>
    bnd (pBox Tryz.prog 144 x5 x4.2) fun x6 =>
    some (x6.1, x6.2)
theorem F58_eq : eFun env k inv 58 #[x0] h = F58 inv k x0 h := by
      refine (kq_fun (a := act 7 [(0, x0)]) (c := cp c58 1)).trans ?_
      unfold F58
      simp only [kq_seq c58 1, r58_0, kq_seq c58 3, r58_1, kq_ret c58 7, res58_0, reduceIte, reduceCtorEq, XE.exit.injEq, Nat.reduceEqDiff, Nat.reduceMul, Nat.reduceAdd] <;> kernel_rfl
theorem F58_call : eInv env (k + 1) (.func 58) #[] #[x0] h = F58 (eInv env k) k x0 h := kq_inv F58_eq
noncomputable def c59 : Code := codeOf Tryz.prog 59
theorem r59_0  : kCode env 59 false inv k (cp c59 2) (act 86 [(0, x0), (1, x1)]) h K =
    bnd (pBox Tryz.prog 38 x0 h) fun x2 =>
    K .normal (act 86 [(1, x1), (2, x2.1)]) x2.2 := kq_reg
noncomputable abbrev G59_1 {β : Type} (inv : Inv) (x1 x2 : Value) (h : AH) (K : Value → AH → Option β) : Option β :=
    bnd (pBin Tryz.prog .lss 3 (.tmp 6) (.const (.int .i64 1)) x1 (.int .i64 1)) fun x7 =>
    bnd (gd (some x7) false h (some (x1, h))) fun x9 =>
    bnd (gd (some x7) false x9.2 (lt (pBin Tryz.prog .gtr 3 (.tmp 9) (.const (.int .i64 3)) x9.1 (.int .i64 3)) x9.2)) fun x10 =>
    bnd (pickV x7 (.bool true) x10.1) fun x11 =>
    bnd (gd (some x11) false x10.2 (lt (pFieldAddr Tryz.prog 38 x2 0) x10.2)) fun x13 =>
    bnd (gd (some x11) false x13.2 (lt (pLoad Tryz.prog 3 x13.1 x13.2) x13.2)) fun x14 =>
    bnd (gd (some x11) false x14.2 (lt (pBin Tryz.prog .lss 3 (.tmp 14) (.const (.int .i64 0)) x14.1 (.int .i64 0)) x14.2)) fun x15 =>
    bnd (pickV x11 (.bool true) x15.1) fun x16 =>
    bnd (gd (some x16) false x15.2 (lt (pFieldAddr Tryz.prog 38 x2 1) x15.2)) fun x18 =>
    bnd (gd (some x16) false x18.2 (lt (pLoad Tryz.prog 3 x18.1 x18.2) x18.2)) fun x19 =>
    bnd (gd (some x16) false x19.2 (lt (pBin Tryz.prog .lss 3 (.tmp 19) (.const (.int .i64 0)) x19.1 (.int .i64 0)) x19.2)) fun x20 =>
    bnd (pickV x16 (.bool true) x20.1) fun x21 =>
    bnd (gd (some x21) false x20.2 (lt (pFieldAddr Tryz.prog 38 x2 1) x20.2)) fun x23 =>
    bnd (gd (some x21) false x23.2 (lt (pLoad Tryz.prog 3 x23.1 x23.2) x23.2)) fun x24 =>
    bnd (gd (some x21) false x24.2 (lt (pFieldAddr Tryz.prog 38 x2 0) x24.2)) fun x25 =>
    bnd (gd (some x21) false x25.2 (lt (pLoad Tryz.prog 3 x25.1 x25.2) x25.2)) fun x26 =>
    bnd (gd (some x21) false x26.2 (lt (pBin Tryz.prog .gtr 3 (.tmp 24) (.tmp 26) x24.1 x26.1) x26.2)) fun x27 =>
    bnd (pickV x21 (.bool true) x27.1) fun x28 =>
    K (x28) x27.2
theorem r59_1  : kCode env 59 false inv k (cp c59 12) (act 86 [(1, x1), (2, x2)]) h K =
    G59_1 inv x1 x2 h fun y28 h => K .normal (act 86 [(1, x1), (2, x2), (28, y28)]) h := kq_reg
theorem b59_rlr  : kCode env 59 false inv k (cp c59 13) (act 86 [(1, x1), (2, x2), (28, x28)]) h K = brV x28 (kCode env 59 false inv k (cp c59 26) (act 86 [(1, x1), (2, x2), (28, x28)]) h K) (kCode env 59 false inv k (cp c59 27) (act 86 [(1, x1), (2, x2), (28, x28)]) h K) := kq_cond
theorem r59_2  : kCode env 59 false inv k (cp c59 52) (act 86 [(1, x1), (2, x2), (28, x28)]) h K =
    K .normal (act 86 [(4, (.int .i64 2))]) h := kq_reg
theorem res59_0 : resOfFn env.P 59 .ret (act 86 [(4, x4)]) h = some (x4, h) := kq_res
noncomputable abbrev G59_3 {β : Type} (inv : Inv) (x1 x2 : Value) (h : AH) (K : Value → AH → Option β) : Option β :=
    bnd (pFieldAddr Tryz.prog 38 x2 2) fun x29 =>
    bnd (pLoad Tryz.prog 31 x29 h) fun x30 =>
    bnd (pBuild Tryz.prog 31 #[]) fun x31 =>
    bnd (pBin Tryz.prog .eql 31 (.tmp 30) (.tmp 31) x30 x31) fun x32 =>
    bnd (gd (some x32) true h (lt (pFieldAddr Tryz.prog 38 x2 3) h)) fun x34 =>
    bnd (gd (some x32) true x34.2 (lt (pLoad Tryz.prog 31 x34.1 x34.2) x34.2)) fun x35 =>
    bnd (gd (some x32) true x35.2 (lt (pBuild Tryz.prog 31 #[]) x35.2)) fun x36 =>
    bnd (gd (some x32) true x36.2 (lt (pBin Tryz.prog .eql 31 (.tmp 35) (.tmp 36) x35.1 x36.1) x36.2)) fun x37 =>
    bnd (pickV x32 x37.1 (.bool false)) fun x38 =>
    K (x38) x37.2
theorem r59_3  : kCode env 59 false inv k (cp c59 14) (act 86 [(1, x1), (2, x2), (28, x28)]) h K =
    G59_3 inv x1 x2 h fun y5 h => K .normal (act 86 [(1, x1), (2, x2), (5, y5)]) h := kq_reg
theorem r59_4  : kCode env 59 false inv k (cp c59 60) (act 86 [(1, x1), (2, x2), (5, x5)]) h K =
    bnd (pFieldAddr Tryz.prog 38 x2 1) fun x39 =>
    bnd (pLoad Tryz.prog 3 x39 h) fun x40 =>
    bnd (pFieldAddr Tryz.prog 38 x2 0) fun x41 =>
    bnd (pLoad Tryz.prog 3 x41 h) fun x42 =>
    bnd (pBin Tryz.prog .eql 3 (.tmp 40) (.tmp 42) x40 x42) fun x43 =>
    bnd (gd (some x43) true h (some (x5, h))) fun x45 =>
    bnd (pickV x43 x45.1 (.bool false)) fun x46 =>
    K .normal (act 86 [(1, x1), (2, x2), (46, x46)]) x45.2 := kq_reg
theorem b59_rlrrr  : kCode env 59 false inv k (cp c59 61) (act 86 [(1, x1), (2, x2), (46, x46)]) h K = brV x46 (kCode env 59 false inv k (cp c59 122) (act 86 [(1, x1), (2, x2), (46, x46)]) h K) (kCode env 59 false inv k (cp c59 123) (act 86 [(1, x1), (2, x2), (46, x46)]) h K) := kq_cond
theorem r59_5  : kCode env 59 false inv k (cp c59 244) (act 86 [(1, x1), (2, x2), (46, x46)]) h K =
    K .normal (act 86 [(4, (.int .i64 0))]) h := kq_reg
noncomputable abbrev G59_6 {β : Type} (inv : Inv) (x1 x2 : Value) (h : AH) (K : Value → AH → Option β) : Option β :=
    bnd (pFieldAddr Tryz.prog 38 x2 1) fun x47 =>
    bnd (pLoad Tryz.prog 3 x47 h) fun x48 =>
    bnd (pFieldAddr Tryz.prog 38 x2 0) fun x49 =>
    bnd (pLoad Tryz.prog 3 x49 h) fun x50 =>
    bnd (pBin Tryz.prog .eql 3 (.tmp 48) (.tmp 50) x48 x50) fun x51 =>
    bnd (gd (some x51) false h (lt (pFieldAddr Tryz.prog 38 x2 2) h)) fun x53 =>
    bnd (gd (some x51) false x53.2 (lt (pFieldAddr Tryz.prog 31 x53.1 0) x53.2)) fun x54 =>
    bnd (gd (some x51) false x54.2 (lt (pLoad Tryz.prog 3 x54.1 x54.2) x54.2)) fun x55 =>
    bnd (gd (some x51) false x55.2 (some (x1, x55.2))) fun x56 =>
    bnd (gd (some x51) false x56.2 (lt (pBin Tryz.prog .neq 3 (.tmp 55) (.tmp 56) x55.1 x56.1) x56.2)) fun x57 =>
    bnd (pickV x51 (.bool true) x57.1) fun x58 =>
    bnd (gd (some x58) false x57.2 (lt (pFieldAddr Tryz.prog 38 x2 3) x57.2)) fun x60 =>
    bnd (gd (some x58) false x60.2 (lt (pFieldAddr Tryz.prog 31 x60.1 0) x60.2)) fun x61 =>
    bnd (gd (some x58) false x61.2 (lt (pLoad Tryz.prog 3 x61.1 x61.2) x61.2)) fun x62 =>
    bnd (gd (some x58) false x62.2 (some (x1, x62.2))) fun x63 =>
    bnd (gd (some x58) false x63.2 (lt (pBin Tryz.prog .neq 3 (.tmp 62) (.tmp 63) x62.1 x63.1) x63.2)) fun x64 =>
    bnd (pickV x58 (.bool true) x64.1) fun x65 =>
    bnd (gd (some x65) false x64.2 (lt (pFieldAddr Tryz.prog 38 x2 2) x64.2)) fun x67 =>
    bnd (gd (some x65) false x67.2 (lt (pLoad Tryz.prog 31 x67.1 x67.2) x67.2)) fun x68 =>
    bnd (gd (some x65) false x68.2 (inv (.func 29) #[] #[x68.1] x68.2)) fun x69 =>
    bnd (gd (some x65) false x69.2 (lt (pBin Tryz.prog .neq 25 (.tmp 69) (.const (.int .i64 0)) x69.1 (.int .i64 0)) x69.2)) fun x70 =>
    bnd (pickV x65 (.bool true) x70.1) fun x71 =>
    bnd (gd (some x71) false x70.2 (lt (pFieldAddr Tryz.prog 38 x2 3) x70.2)) fun x73 =>
    bnd (gd (some x71) false x73.2 (lt (pLoad Tryz.prog 31 x73.1 x73.2) x73.2)) fun x74 =>
    bnd (gd (some x71) false x74.2 (inv (.func 29) #[] #[x74.1] x74.2)) fun x75 =>
    bnd (gd (some x71) false x75.2 (lt (pBin Tryz.prog .neq 25 (.tmp 75) (.const (.int .i64 0)) x75.1 (.int .i64 0)) x75.2)) fun x76 =>
    bnd (pickV x71 (.bool true) x76.1) fun x77 =>
    bnd (gd (some x77) false x76.2 (lt (pFieldAddr Tryz.prog 38 x2 2) x76.2)) fun x79 =>
    bnd (gd (some x77) false x79.2 (lt (pLoad Tryz.prog 31 x79.1 x79.2) x79.2)) fun x80 =>
    bnd (gd (some x77) false x80.2 (lt (pFieldAddr Tryz.prog 38 x2 3) x80.2)) fun x81 =>
    bnd (gd (some x77) false x81.2 (lt (pLoad Tryz.prog 31 x81.1 x81.2) x81.2)) fun x82 =>
    bnd (gd (some x77) false x82.2 (inv (.func 101) #[] #[x80.1, x82.1] x82.2)) fun x83 =>
    bnd (gd (some x77) false x83.2 (lt (pBin Tryz.prog .gtr 3 (.tmp 83) (.const (.int .i64 0)) x83.1 (.int .i64 0)) x83.2)) fun x84 =>
    bnd (pickV x77 (.bool true) x84.1) fun x85 =>
    K (x85) x84.2
theorem r59_6  : kCode env 59 false inv k (cp c59 124) (act 86 [(1, x1), (2, x2), (46, x46)]) h K =
    G59_6 inv x1 x2 h fun y85 h => K .normal (act 86 [(85, y85)]) h := kq_reg
theorem b59_rlrrrr  : kCode env 59 false inv k (cp c59 125) (act 86 [(85, x85)]) h K = brV x85 (kCode env 59 false inv k (cp c59 250) (act 86 [(85, x85)]) h K) (kCode env 59 false inv k (cp c59 251) (act 86 [(85, x85)]) h K) := kq_cond
theorem r59_7  : kCode env 59 false inv k (cp c59 500) (act 86 [(85, x85)]) h K =
    K .normal (act 86 [(4, (.int .i64 2))]) h := kq_reg
theorem r59_8  : kCode env 59 false inv k (cp c59 126) (act 86 [(85, x85)]) h K =
    K .normal (act 86 [(4, (.int .i64 0))]) h := kq_reg
/-- shadowbook/zone.Check -/
noncomputable def F59 (inv : Inv) (k : Nat) (x0 x1 : Value) (h : AH) : Option (Value × AH) :=
    bnd (pBox Tryz.prog 38 x0 h) fun x2 =>
    G59_1 inv x1 x2.1 x2.2 fun y28 h =>
    brV y28
    (some ((.int .i64 2), h))
    (G59_3 inv x1 x2.1 h fun y5 h_1 =>
    bnd (pFieldAddr Tryz.prog 38 x2.1 1) fun x39 =>
    bnd (pLoad Tryz.prog 3 x39 h_1) fun x40 =>
    bnd (pFieldAddr Tryz.prog 38 x2.1 0) fun x41 =>
    bnd (pLoad Tryz.prog 3 x41 h_1) fun x42 =>
    bnd (pBin Tryz.prog .eql 3 (.tmp 40) (.tmp 42) x40 x42) fun x43 =>
    bnd (gd (some x43) true h_1 (some (y5, h_1))) fun x45 =>
    bnd (pickV x43 x45.1 (.bool false)) fun x46 =>
    brV x46
    (some ((.int .i64 0), x45.2))
    (G59_6 inv x1 x2.1 x45.2 fun y85 h_2 =>
    brV y85
    (some ((.int .i64 2), h_2))
    (some ((.int .i64 0), h_2))))
theorem F59_eq : eFun env k inv 59 #[x0, x1] h = F59 inv k x0 x1 h := by
      refine (kq_fun (a := act 86 [(0, x0), (1, x1)]) (c := cp c59 1)).trans ?_
      unfold F59
      simp only [kq_seq c59 1, r59_0, kq_seq c59 3, kq_seq c59 6, r59_1, b59_rlr, kq_seq c59 26, r59_2, kq_ret c59 53, res59_0, kq_skip c59 27, kq_seq c59 7, r59_3, kq_seq c59 15, kq_seq c59 30, r59_4, b59_rlrrr, kq_seq c59 122, r59_5, kq_ret c59 245, kq_skip c59 123, kq_seq c59 31, kq_seq c59 62, r59_6, b59_rlrrrr, kq_seq c59 250, r59_7, kq_ret c59 501, kq_skip c59 251, kq_seq c59 63, r59_8, kq_ret c59 127, reduceIte, reduceCtorEq, XE.exit.injEq, Nat.reduceEqDiff, Nat.reduceMul, Nat.reduceAdd] <;> kernel_rfl
theorem F59_call : eInv env (k + 1) (.func 59) #[] #[x0, x1] h = F59 (eInv env k) k x0 x1 h := kq_inv F59_eq
noncomputable def c60 : Code := codeOf Tryz.prog 60
theorem r60_0  : kCode env 60 false inv k (cp c60 2) (act 23 [(0, x0), (1, x1)]) h K =
    K .normal (act 23 [(0, x0), (1, x1)]) h := kq_reg
theorem r60_1  : kCode env 60 false inv k (cp c60 24) (act 23 [(0, x0), (1, x1)]) h K =
    bnd (pBin Tryz.prog .eql 114 (.tmp 9) (.const (.pointer none)) x0 (.pointer none)) fun x10 =>
    K .normal (act 23 [(0, x0), (1, x1), (8, x10)]) h := kq_reg
theorem b60_rllr  : kCode env 60 false inv k (cp c60 25) (act 23 [(0, x0), (1, x1), (8, x8)]) h K = brV x8 (kCode env 60 false inv k (cp c60 50) (act 23 [(0, x0), (1, x1), (8, x8)]) h K) (kCode env 60 false inv k (cp c60 51) (act 23 [(0, x0), (1, x1), (8, x8)]) h K) := kq_cond
theorem r60_2  : kCode env 60 false inv k (cp c60 100) (act 23 [(0, x0), (1, x1), (8, x8)]) h K =
    K .normal (act 23 [(4, (.slice none 0 0)), (5, (.int .i64 1))]) h := kq_reg
theorem res60_0 : resOfFn env.P 60 .ret (act 23 [(4, x4), (5, x5)]) h = some (.tuple #[x4, x5], h) := kq_res
theorem r60_3  : kCode env 60 false inv k (cp c60 102) (act 23 [(0, x0), (1, x1), (8, x8)]) h K =
    bnd (pBin Tryz.prog .lss 3 (.tmp 12) (.const (.int .i64 0)) x1 (.int .i64 0)) fun x13 =>
    K .normal (act 23 [(0, x0), (1, x1), (11, x13)]) h := kq_reg
theorem b60_rrrllr  : kCode env 60 false inv k (cp c60 103) (act 23 [(0, x0), (1, x1), (11, x11)]) h K = brV x11 (kCode env 60 false inv k (cp c60 206) (act 23 [(0, x0), (1, x1), (11, x11)]) h K) (kCode env 60 false inv k (cp c60 207) (act 23 [(0, x0), (1, x1), (11, x11)]) h K) := kq_cond
theorem r60_4  : kCode env 60 false inv k (cp c60 412) (act 23 [(0, x0), (1, x1), (11, x11)]) h K =
    K .normal (act 23 [(4, (.slice none 0 0)), (5, (.int .i64 2))]) h := kq_reg
theorem r60_5  : kCode env 60 false inv k (cp c60 14) (act 23 [(0, x0), (1, x1), (11, x11)]) h K =
    bnd (inv (.func 106) #[] #[x0, x1] h) fun x17 =>
    bnd (pExtract x17.1 0) fun x18 =>
    bnd (pExtract x17.1 1) fun x19 =>
    K .normal (act 23 [(6, x18), (7, x19)]) x17.2 := kq_reg
theorem r60_6  : kCode env 60 false inv k (cp c60 30) (act 23 [(6, x6), (7, x7)]) h K =
    bnd (inv (.func 105) #[] #[x6] h) fun x21 =>
    K .normal (act 23 [(4, x21.1), (5, x7)]) x21.2 := kq_reg
/-- (*shadowbook/octet.Reader).Bytes -/
noncomputable def F60 (inv : Inv) (k : Nat) (x0 x1 : Value) (h : AH) : Option (Value × AH) :=
    bnd (pBin Tryz.prog .eql 114 (.tmp 9) (.const (.pointer none)) x0 (.pointer none)) fun x10 =>
    brV x10
    (some (.tuple #[(.slice none 0 0), (.int .i64 1)], h))
    (bnd (pBin Tryz.prog .lss 3 (.tmp 12) (.const (.int .i64 0)) x1 (.int .i64 0)) fun x13 =>
    brV x13
    (some (.tuple #[(.slice none 0 0), (.int .i64 2)], h))
    (bnd (inv (.func 106) #[] #[x0, x1] h) fun x17 =>
    bnd (pExtract x17.1 0) fun x18 =>
    bnd (pExtract x17.1 1) fun x19 =>
    bnd (inv (.func 105) #[] #[x18] x17.2) fun x21 =>
    some (.tuple #[x21.1, x19], x21.2)))
theorem F60_eq : eFun env k inv 60 #[x0, x1] h = F60 inv k x0 x1 h := by
      refine (kq_fun (a := act 23 [(0, x0), (1, x1)]) (c := cp c60 1)).trans ?_
      unfold F60
      simp only [kq_seq c60 1, r60_0, kq_seq c60 3, kq_block c60 6 0, kq_seq c60 12, r60_1, b60_rllr, kq_seq c60 50, r60_2, kq_ret c60 101, res60_0, kq_seq c60 51, r60_3, b60_rrrllr, kq_seq c60 206, r60_4, kq_ret c60 413, kq_skip c60 207, kq_seq c60 7, r60_5, kq_seq c60 15, r60_6, kq_ret c60 31, reduceIte, reduceCtorEq, XE.exit.injEq, Nat.reduceEqDiff, Nat.reduceMul, Nat.reduceAdd] <;> kernel_rfl
theorem F60_call : eInv env (k + 1) (.func 60) #[] #[x0, x1] h = F60 (eInv env k) k x0 x1 h := kq_inv F60_eq
noncomputable def c61 : Code := codeOf Tryz.prog 61
theorem r61_0  : kCode env 61 false inv k (cp c61 2) (act 10 [(0, x0)]) h K =
    K .normal (act 10 [(0, x0)]) h := kq_reg
theorem r61_1  : kCode env 61 false inv k (cp c61 12) (act 10 [(0, x0)]) h K =
    bnd (pBin Tryz.prog .eql 114 (.tmp 3) (.const (.pointer none)) x0 (.pointer none)) fun x4 =>
    K .normal (act 10 [(0, x0), (4, x4)]) h := kq_reg
theorem b61_rlr  : kCode env 61 false inv k (cp c61 13) (act 10 [(0, x0), (4, x4)]) h K = brV x4 (kCode env 61 false inv k (cp c61 26) (act 10 [(0, x0), (4, x4)]) h K) (kCode env 61 false inv k (cp c61 27) (act 10 [(0, x0), (4, x4)]) h K) := kq_cond
theorem r61_2  : kCode env 61 false inv k (cp c61 52) (act 10 [(0, x0), (4, x4)]) h K =
    K .normal (act 10 [(2, (.int .i64 0))]) h := kq_reg
theorem res61_0 : resOfFn env.P 61 .ret (act 10 [(2, x2)]) h = some (x2, h) := kq_res
theorem r61_3  : kCode env 61 false inv k (cp c61 14) (act 10 [(0, x0), (4, x4)]) h K =
    bnd (pNilCheck Tryz.prog x0) fun x6 =>
    bnd (pFieldAddr Tryz.prog 144 x6 0) fun x7 =>
    bnd (pLoad Tryz.prog 33 x7 h) fun x8 =>
    bnd (pLen Tryz.prog #[33] x8 h) fun x9 =>
    K .normal (act 10 [(2, x9)]) h := kq_reg
/-- (*shadowbook/octet.Reader).Left -/
noncomputable def F61 (inv : Inv) (k : Nat) (x0 : Value) (h : AH) : Option (Value × AH) :=
    bnd (pBin Tryz.prog .eql 114 (.tmp 3) (.const (.pointer none)) x0 (.pointer none)) fun x4 =>
    brV x4
    (some ((.int .i64 0), h))
    (bnd (pNilCheck Tryz.prog x0) fun x6 =>
    bnd (pFieldAddr Tryz.prog 144 x6 0) fun x7 =>
    bnd (pLoad Tryz.prog 33 x7 h) fun x8 =>
    bnd (pLen Tryz.prog #[33] x8 h) fun x9 =>
    some (x9, h))
theorem F61_eq : eFun env k inv 61 #[x0] h = F61 inv k x0 h := by
      refine (kq_fun (a := act 10 [(0, x0)]) (c := cp c61 1)).trans ?_
      unfold F61
      simp only [kq_seq c61 1, r61_0, kq_seq c61 3, kq_seq c61 6, r61_1, b61_rlr, kq_seq c61 26, r61_2, kq_ret c61 53, res61_0, kq_skip c61 27, kq_seq c61 7, r61_3, kq_ret c61 15, reduceIte, reduceCtorEq, XE.exit.injEq, Nat.reduceEqDiff, Nat.reduceMul, Nat.reduceAdd] <;> kernel_rfl
theorem F61_call : eInv env (k + 1) (.func 61) #[] #[x0] h = F61 (eInv env k) k x0 h := kq_inv F61_eq
noncomputable def c72 : Code := codeOf Tryz.prog 72
theorem r72_0  : kCode env 72 false inv k (cp c72 2) (act 5 [(0, x0)]) h K =
    bnd (pBox Tryz.prog 31 x0 h) fun x1 =>
    K .normal (act 5 [(1, x1.1)]) x1.2 := kq_reg
theorem r72_1  : kCode env 72 false inv k (cp c72 6) (act 5 [(1, x1)]) h K =
    bnd (pFieldAddr Tryz.prog 31 x1 1) fun x3 =>
    bnd (pLoad Tryz.prog 2 x3 h) fun x4 =>
    K .normal (act 5 [(2, x4)]) h := kq_reg
theorem res72_0 : resOfFn env.P 72 .ret (act 5 [(2, x2)]) h = some (x2, h) := kq_res
/-- shadowbook/segment.numbers$1 -/
noncomputable def F72 (inv : Inv) (k : Nat) (x0 : Value) (h : AH) : Option (Value × AH) :=
    bnd (pBox Tryz.prog 31 x0 h) fun x1 =>
    bnd (pFieldAddr Tryz.prog 31 x1.1 1) fun x3 =>
    bnd (pLoad Tryz.prog 2 x3 x1.2) fun x4 =>
    some (x4, x1.2)
theorem F72_eq : eFun env k inv 72 #[x0] h = F72 inv k x0 h := by
      refine (kq_fun (a := act 5 [(0, x0)]) (c := cp c72 1)).trans ?_
      unfold F72
      simp only [kq_seq c72 1, r72_0, kq_seq c72 3, r72_1, kq_ret c72 7, res72_0, reduceIte, reduceCtorEq, XE.exit.injEq, Nat.reduceEqDiff, Nat.reduceMul, Nat.reduceAdd] <;> kernel_rfl
theorem F72_call : eInv env (k + 1) (.func 72) #[] #[x0] h = F72 (eInv env k) k x0 h := kq_inv F72_eq
noncomputable def c73 : Code := codeOf Tryz.prog 73
theorem r73_0  : kCode env 73 false inv k (cp c73 2) (act 5 [(0, x0)]) h K =
    bnd (pAlloc Tryz.prog 31 h) fun x2 =>
    K .normal (act 5 [(0, x0), (2, x2.1)]) x2.2 := kq_reg
theorem r73_1  : kCode env 73 false inv k (cp c73 6) (act 5 [(0, x0), (2, x2)]) h K =
    bnd (pBuild Tryz.prog 31 #[(0, (.int .i64 1)), (1, x0)]) fun x4 =>
    bnd (kSt (pStore Tryz.prog 31 x2 x4 h)) fun u =>
    K .normal (act 5 [(2, x2)]) u.2 := kq_reg
theorem res73_0 : resOfFn env.P 73 .ret (act 5 [(2, x2)]) h = bnd (pLoad Tryz.prog 31 x2 h) fun q0 =>
    some (q0, h) := kq_res
/-- shadowbook/segment.numbers$2 -/
noncomputable def F73 (inv : Inv) (k : Nat) (x0 : Value) (h : AH) : Option (Value × AH) :=
    bnd (pAlloc Tryz.prog 31 h) fun x2 =>
    bnd (pBuild Tryz.prog 31 #[(0, (.int .i64 1)), (1, x0)]) fun x4 =>
    bnd (kSt (pStore Tryz.prog 31 x2.1 x4 x2.2)) fun u =>
    bnd (pLoad Tryz.prog 31 x2.1 u.2) fun q0 =>
    some (q0, u.2)
theorem F73_eq : eFun env k inv 73 #[x0] h = F73 inv k x0 h := by
      refine (kq_fun (a := act 5 [(0, x0)]) (c := cp c73 1)).trans ?_
      unfold F73
      simp only [kq_seq c73 1, r73_0, kq_seq c73 3, r73_1, kq_ret c73 7, res73_0, reduceIte, reduceCtorEq, XE.exit.injEq, Nat.reduceEqDiff, Nat.reduceMul, Nat.reduceAdd] <;> kernel_rfl
theorem F73_call : eInv env (k + 1) (.func 73) #[] #[x0] h = F73 (eInv env k) k x0 h := kq_inv F73_eq
noncomputable def c74 : Code := codeOf Tryz.prog 74
theorem r74_0  : kCode env 74 false inv k (cp c74 2) (act 9 [(0, x0), (1, x1)]) h K =
    K .normal (act 9 [(0, x0), (1, x1)]) h := kq_reg
theorem r74_1  : kCode env 74 false inv k (cp c74 6) (act 9 [(0, x0), (1, x1)]) h K =
    bnd (pConv Tryz.prog 2 60 x1 h) fun x7 =>
    bnd (inv (.func 75) #[] #[x0, x7, (.int .i64 8)] h) fun x8 =>
    K .normal (act 9 [(4, x8.1)]) x8.2 := kq_reg
theorem res74_0 : resOfFn env.P 74 .ret (act 9 [(4, x4)]) h = some (x4, h) := kq_res
/-- shadowbook/segment.numbers$3 -/
noncomputable def F74 (inv : Inv) (k : Nat) (x0 x1 : Value) (h : AH) : Option (Value × AH) :=
    bnd (pConv Tryz.prog 2 60 x1 h) fun x7 =>
    bnd (inv (.func 75) #[] #[x0, x7, (.int .i64 8)] h) fun x8 =>
    some (x8.1, x8.2)
theorem F74_eq : eFun env k inv 74 #[x0, x1] h = F74 inv k x0 x1 h := by
      refine (kq_fun (a := act 9 [(0, x0), (1, x1)]) (c := cp c74 1)).trans ?_
      unfold F74
      simp only [kq_seq c74 1, r74_0, kq_seq c74 3, r74_1, kq_ret c74 7, res74_0, reduceIte, reduceCtorEq, XE.exit.injEq, Nat.reduceEqDiff, Nat.reduceMul, Nat.reduceAdd] <;> kernel_rfl
theorem F74_call : eInv env (k + 1) (.func 74) #[] #[x0, x1] h = F74 (eInv env k) k x0 x1 h := kq_inv F74_eq
noncomputable def c75 : Code := codeOf Tryz.prog 75
theorem r75_0  : kCode env 75 false inv k (cp c75 2) (act 29 [(0, x0), (1, x1), (2, x2)]) h K =
    K .normal (act 29 [(0, x0), (1, x1), (2, x2)]) h := kq_reg
noncomputable abbrev G75_1 {β : Type} (inv : Inv) (x0 x1 x2 : Value) (h : AH) (K : Value → AH → Option β) : Option β :=
    bnd (pBin Tryz.prog .lss 3 (.tmp 8) (.const (.int .i64 1)) x2 (.int .i64 1)) fun x9 =>
    bnd (gd (some x9) false h (some (x2, h))) fun x11 =>
    bnd (gd (some x9) false x11.2 (lt (pBin Tryz.prog .gtr 3 (.tmp 11) (.const (.int .i64 8)) x11.1 (.int .i64 8)) x11.2)) fun x12 =>
    bnd (pickV x9 (.bool true) x12.1) fun x13 =>
    K (x13) x12.2
theorem r75_1  : kCode env 75 false inv k (cp c75 12) (act 29 [(0, x0), (1, x1), (2, x2)]) h K =
    G75_1 inv x0 x1 x2 h fun y13 h => K .normal (act 29 [(0, x0), (1, x1), (2, x2), (13, y13)]) h := kq_reg
theorem b75_rlr  : kCode env 75 false inv k (cp c75 13) (act 29 [(0, x0), (1, x1), (2, x2), (13, x13)]) h K = brV x13 (kCode env 75 false inv k (cp c75 26) (act 29 [(0, x0), (1, x1), (2, x2), (13, x13)]) h K) (kCode env 75 false inv k (cp c75 27) (act 29 [(0, x0), (1, x1), (2, x2), (13, x13)]) h K) := kq_cond
theorem r75_2  : kCode env 75 false inv k (cp c75 52) (act 29 [(0, x0), (1, x1), (2, x2), (13, x13)]) h K =
    K .normal (act 29 [(6, x0)]) h := kq_reg
theorem res75_0 : resOfFn env.P 75 .ret (act 29 [(6, x6)]) h = some (x6, h) := kq_res
theorem r75_3  : kCode env 75 false inv k (cp c75 28) (act 29 [(0, x0), (1, x1), (2, x2), (13, x13)]) h K =
    K .normal (act 29 [(0, x0), (1, x1), (15, x2), (16, (.int .i64 0))]) h := kq_reg
theorem r75_4  : kCode env 75 false inv k (cp c75 232) (act 29 [(0, x0), (1, x1), (15, x15), (16, x16)]) h K =
    bnd (pBin Tryz.prog .lss 3 (.tmp 16) (.tmp 15) x16 x15) fun x17 =>
    K .normal (act 29 [(0, x0), (1, x1), (15, x15), (16, x16), (17, x17)]) h := kq_reg
theorem b75_lrllrlrr  : kCode env 75 false inv k (cp c75 466) (act 29 [(0, x0), (1, x1), (15, x15), (16, x16), (17, x17)]) h K = brV x17 (kCode env 75 false inv k (cp c75 932) (act 29 [(0, x0), (1, x1), (15, x15), (16, x16), (17, x17)]) h K) (kCode env 75 false inv k (cp c75 933) (act 29 [(0, x0), (1, x1), (15, x15), (16, x16), (17, x17)]) h K) := kq_cond
theorem r75_5  : kCode env 75 false inv k (cp c75 3736) (act 29 [(0, x0), (1, x1), (15, x15), (16, x16), (17, x17)]) h K =
    K .normal (act 29 [(0, x0), (1, x1), (7, x16), (15, x15), (16, x16)]) h := kq_reg
theorem r75_6  : kCode env 75 false inv k (cp c75 3737) (act 29 [(0, x0), (1, x1), (7, x7), (15, x15), (16, x16)]) h K =
    bnd (pBin Tryz.prog .mul 3 (.const (.int .i64 8)) (.tmp 21) (.int .i64 8) x7) fun x22 =>
    bnd (pBin Tryz.prog .shr 60 (.tmp 20) (.tmp 22) x1 x22) fun x23 =>
    bnd (pConv Tryz.prog 60 5 x23 h) fun x24 =>
    bnd (pBuildSlice Tryz.prog 33 1 #[(0, x24)] h) fun x25 =>
    bnd (pAppend Tryz.prog #[33, 33] x0 x25.1 x25.2) fun x26 =>
    K .normal (act 29 [(0, x26.1), (1, x1), (15, x15), (16, x16)]) x26.2 := kq_reg
theorem r75_7  : kCode env 75 false inv k (cp c75 935) (act 29 [(0, x0), (1, x1), (15, x15), (16, x16)]) h K =
    bnd (pBin Tryz.prog .add 3 (.tmp 16) (.const (.int .i64 1)) x16 (.int .i64 1)) fun x27 =>
    K .normal (act 29 [(0, x0), (1, x1), (15, x15), (16, x27)]) h := kq_reg
noncomputable def F75_lrlrr {β : Type} (inv : Inv) (k : Nat) : Nat → Value → Value → Value → Value → AH → (Value → Value → Value → Value → Value → AH → Option β) → Option β
  | 0, _, _, _, _, _, _ => none
  | j + 1, x0, x1, x15, x16, h, ke0 =>
    bnd (pBin Tryz.prog .lss 3 (.tmp 16) (.tmp 15) x16 x15) fun x17 =>
    brV x17
    (bnd (pBin Tryz.prog .mul 3 (.const (.int .i64 8)) (.tmp 21) (.int .i64 8) x16) fun x22 =>
    bnd (pBin Tryz.prog .shr 60 (.tmp 20) (.tmp 22) x1 x22) fun x23 =>
    bnd (pConv Tryz.prog 60 5 x23 h) fun x24 =>
    bnd (pBuildSlice Tryz.prog 33 1 #[(0, x24)] h) fun x25 =>
    bnd (pAppend Tryz.prog #[33, 33] x0 x25.1 x25.2) fun x26 =>
    bnd (pBin Tryz.prog .add 3 (.tmp 16) (.const (.int .i64 1)) x16 (.int .i64 1)) fun x27 =>
    F75_lrlrr inv k j x26.1 x1 x15 x27 x26.2 ke0)
    (ke0 x0 x1 x15 x16 x17 h)
theorem F75_lrlrr_j (j : Nat) : kLoop (kCode env 75 false inv k (cp c75 116)) j (act 29 [(0, x0), (1, x1), (15, x15), (16, x16)]) h K = F75_lrlrr inv k j x0 x1 x15 x16 h (fun y0 y1 y15 y16 y17 h => K (.exit 0) (act 29 [(0, y0), (1, y1), (15, y15), (16, y16), (17, y17)]) h) := by
      induction j generalizing x0 x1 x15 x16 h with
      | zero => rfl
      | succ j ih =>
        unfold F75_lrlrr
        simp only [kLoop, kq_seq c75 116, r75_4, kq_seq c75 233, b75_lrllrlrr, kq_skip c75 932, kq_seq c75 467, kq_block c75 934 1, kq_seq c75 1868, r75_5, r75_6, r75_7, kq_exit c75 933 0, ih, reduceIte, reduceCtorEq, XE.exit.injEq, Nat.reduceEqDiff, Nat.reduceMul, Nat.reduceAdd] <;> kernel_rfl
theorem F75_lrlrr_eq  : kCode env 75 false inv k (cp c75 58) (act 29 [(0, x0), (1, x1), (15, x15), (16, x16)]) h K = F75_lrlrr inv k k x0 x1 x15 x16 h (fun y0 y1 y15 y16 y17 h => K (.exit 0) (act 29 [(0, y0), (1, y1), (15, y15), (16, y16), (17, y17)]) h) := kq_loop (F75_lrlrr_j k)
theorem r75_8  : kCode env 75 false inv k (cp c75 30) (act 29 [(0, x0), (1, x1), (15, x15), (16, x16), (17, x17)]) h K =
    K .normal (act 29 [(6, x0)]) h := kq_reg
/-- shadowbook/octet.Put -/
noncomputable def F75 (inv : Inv) (k : Nat) (x0 x1 x2 : Value) (h : AH) : Option (Value × AH) :=
    G75_1 inv x0 x1 x2 h fun y13 h =>
    brV y13
    (some (x0, h))
    (F75_lrlrr inv k k x0 x1 x2 (.int .i64 0) h
    (fun y0 y1 y15 y16 y17 h_1 =>
    some (y0, h_1)))
theorem F75_eq : eFun env k inv 75 #[x0, x1, x2] h = F75 inv k x0 x1 x2 h := by
      refine (kq_fun (a := act 29 [(0, x0), (1, x1), (2, x2)]) (c := cp c75 1)).trans ?_
      unfold F75
      simp only [kq_seq c75 1, r75_0, kq_seq c75 3, kq_seq c75 6, r75_1, b75_rlr, kq_seq c75 26, r75_2, kq_ret c75 53, res75_0, kq_skip c75 27, kq_seq c75 7, kq_seq c75 14, r75_3, kq_block c75 29 0, F75_lrlrr_eq, kq_seq c75 15, r75_8, kq_ret c75 31, reduceIte, reduceCtorEq, XE.exit.injEq, Nat.reduceEqDiff, Nat.reduceMul, Nat.reduceAdd] <;> kernel_rfl
theorem F75_call : eInv env (k + 1) (.func 75) #[] #[x0, x1, x2] h = F75 (eInv env k) k x0 x1 x2 h := kq_inv F75_eq
noncomputable def c76 : Code := codeOf Tryz.prog 76
theorem r76_0  : kCode env 76 false inv k (cp c76 2) (act 14 [(0, x0)]) h K =
    K .normal (act 14 [(0, x0)]) h := kq_reg
theorem r76_1  : kCode env 76 false inv k (cp c76 6) (act 14 [(0, x0)]) h K =
    bnd (inv (.func 77) #[] #[x0, (.int .i64 8)] h) fun x8 =>
    bnd (pExtract x8.1 0) fun x9 =>
    bnd (pExtract x8.1 1) fun x10 =>
    K .normal (act 14 [(4, x9), (5, x10)]) x8.2 := kq_reg
theorem r76_2  : kCode env 76 false inv k (cp c76 14) (act 14 [(4, x4), (5, x5)]) h K =
    bnd (pConv Tryz.prog 60 2 x4 h) fun x12 =>
    K .normal (act 14 [(2, x12), (3, x5)]) h := kq_reg
theorem res76_0 : resOfFn env.P 76 .ret (act 14 [(2, x2), (3, x3)]) h = some (.tuple #[x2, x3], h) := kq_res
/-- shadowbook/segment.numbers$4 -/
noncomputable def F76 (inv : Inv) (k : Nat) (x0 : Value) (h : AH) : Option (Value × AH) :=
    bnd (inv (.func 77) #[] #[x0, (.int .i64 8)] h) fun x8 =>
    bnd (pExtract x8.1 0) fun x9 =>
    bnd (pExtract x8.1 1) fun x10 =>
    bnd (pConv Tryz.prog 60 2 x9 x8.2) fun x12 =>
    some (.tuple #[x12, x10], x8.2)
theorem F76_eq : eFun env k inv 76 #[x0] h = F76 inv k x0 h := by
      refine (kq_fun (a := act 14 [(0, x0)]) (c := cp c76 1)).trans ?_
      unfold F76
      simp only [kq_seq c76 1, r76_0, kq_seq c76 3, r76_1, kq_seq c76 7, r76_2, kq_ret c76 15, res76_0, reduceIte, reduceCtorEq, XE.exit.injEq, Nat.reduceEqDiff, Nat.reduceMul, Nat.reduceAdd] <;> kernel_rfl
theorem F76_call : eInv env (k + 1) (.func 76) #[] #[x0] h = F76 (eInv env k) k x0 h := kq_inv F76_eq
noncomputable def c77 : Code := codeOf Tryz.prog 77
theorem r77_0  : kCode env 77 false inv k (cp c77 2) (act 27 [(0, x0), (1, x1)]) h K =
    K .normal (act 27 [(0, x0), (1, x1)]) h := kq_reg
theorem r77_1  : kCode env 77 false inv k (cp c77 24) (act 27 [(0, x0), (1, x1)]) h K =
    bnd (pBin Tryz.prog .eql 114 (.tmp 9) (.const (.pointer none)) x0 (.pointer none)) fun x10 =>
    K .normal (act 27 [(0, x0), (1, x1), (8, x10)]) h := kq_reg
theorem b77_rllr  : kCode env 77 false inv k (cp c77 25) (act 27 [(0, x0), (1, x1), (8, x8)]) h K = brV x8 (kCode env 77 false inv k (cp c77 50) (act 27 [(0, x0), (1, x1), (8, x8)]) h K) (kCode env 77 false inv k (cp c77 51) (act 27 [(0, x0), (1, x1), (8, x8)]) h K) := kq_cond
theorem r77_2  : kCode env 77 false inv k (cp c77 100) (act 27 [(0, x0), (1, x1), (8, x8)]) h K =
    K .normal (act 27 [(4, (.int .u64 0)), (5, (.int .i64 1))]) h := kq_reg
theorem res77_0 : resOfFn env.P 77 .ret (act 27 [(4, x4), (5, x5)]) h = some (.tuple #[x4, x5], h) := kq_res
noncomputable abbrev G77_3 {β : Type} (inv : Inv) (x0 x1 : Value) (h : AH) (K : Value → AH → Option β) : Option β :=
    bnd (pBin Tryz.prog .lss 3 (.tmp 12) (.const (.int .i64 1)) x1 (.int .i64 1)) fun x13 =>
    bnd (gd (some x13) false h (some (x1, h))) fun x15 =>
    bnd (gd (some x13) false x15.2 (lt (pBin Tryz.prog .gtr 3 (.tmp 15) (.const (.int .i64 8)) x15.1 (.int .i64 8)) x15.2)) fun x16 =>
    bnd (pickV x13 (.bool true) x16.1) fun x17 =>
    K (x17) x16.2
theorem r77_3  : kCode env 77 false inv k (cp c77 102) (act 27 [(0, x0), (1, x1), (8, x8)]) h K =
    G77_3 inv x0 x1 h fun y11 h => K .normal (act 27 [(0, x0), (1, x1), (11, y11)]) h := kq_reg
theorem b77_rrrllr  : kCode env 77 false inv k (cp c77 103) (act 27 [(0, x0), (1, x1), (11, x11)]) h K = brV x11 (kCode env 77 false inv k (cp c77 206) (act 27 [(0, x0), (1, x1), (11, x11)]) h K) (kCode env 77 false inv k (cp c77 207) (act 27 [(0, x0), (1, x1), (11, x11)]) h K) := kq_cond
theorem r77_4  : kCode env 77 false inv k (cp c77 412) (act 27 [(0, x0), (1, x1), (11, x11)]) h K =
    K .normal (act 27 [(4, (.int .u64 0)), (5, (.int .i64 2))]) h := kq_reg
theorem r77_5  : kCode env 77 false inv k (cp c77 14) (act 27 [(0, x0), (1, x1), (11, x11)]) h K =
    bnd (inv (.func 106) #[] #[x0, x1] h) fun x21 =>
    bnd (pExtract x21.1 0) fun x22 =>
    bnd (pExtract x21.1 1) fun x23 =>
    K .normal (act 27 [(6, x22), (7, x23)]) x21.2 := kq_reg
theorem r77_6  : kCode env 77 false inv k (cp c77 30) (act 27 [(6, x6), (7, x7)]) h K =
    bnd (inv (.func 120) #[] #[x6] h) fun x25 =>
    K .normal (act 27 [(4, x25.1), (5, x7)]) x25.2 := kq_reg
/-- (*shadowbook/octet.Reader).Number -/
noncomputable def F77 (inv : Inv) (k : Nat) (x0 x1 : Value) (h : AH) : Option (Value × AH) :=
    bnd (pBin Tryz.prog .eql 114 (.tmp 9) (.const (.pointer none)) x0 (.pointer none)) fun x10 =>
    brV x10
    (some (.tuple #[(.int .u64 0), (.int .i64 1)], h))
    (G77_3 inv x0 x1 h fun y11 h =>
    brV y11
    (some (.tuple #[(.int .u64 0), (.int .i64 2)], h))
    (bnd (inv (.func 106) #[] #[x0, x1] h) fun x21 =>
    bnd (pExtract x21.1 0) fun x22 =>
    bnd (pExtract x21.1 1) fun x23 =>
    bnd (inv (.func 120) #[] #[x22] x21.2) fun x25 =>
    some (.tuple #[x25.1, x23], x25.2)))
theorem F77_eq : eFun env k inv 77 #[x0, x1] h = F77 inv k x0 x1 h := by
      refine (kq_fun (a := act 27 [(0, x0), (1, x1)]) (c := cp c77 1)).trans ?_
      unfold F77
      simp only [kq_seq c77 1, r77_0, kq_seq c77 3, kq_block c77 6 0, kq_seq c77 12, r77_1, b77_rllr, kq_seq c77 50, r77_2, kq_ret c77 101, res77_0, kq_seq c77 51, r77_3, b77_rrrllr, kq_seq c77 206, r77_4, kq_ret c77 413, kq_skip c77 207, kq_seq c77 7, r77_5, kq_seq c77 15, r77_6, kq_ret c77 31, reduceIte, reduceCtorEq, XE.exit.injEq, Nat.reduceEqDiff, Nat.reduceMul, Nat.reduceAdd] <;> kernel_rfl
theorem F77_call : eInv env (k + 1) (.func 77) #[] #[x0, x1] h = F77 (eInv env k) k x0 x1 h := kq_inv F77_eq
end Go.Proofs.YtghelamfaaakcaaGreat.Sh
