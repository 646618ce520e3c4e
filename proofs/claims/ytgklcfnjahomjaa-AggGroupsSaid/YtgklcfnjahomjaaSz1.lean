/- Shallow functions, part 1. Printed by a program of the prover's own from the loaded program; Lean checks it. -/
import Derived.Test.YtgklcfnjahomjaaSz0
set_option linter.unusedVariables false
set_option linter.unusedSimpArgs false
set_option maxRecDepth 100000
namespace Go.Proofs.Ytgklcfnjahomjaa.Sh
open Go Go.RowKit Go.Proofs.Ev
variable {β : Type} {inv : Inv} {k : Nat} {h : AH} {K : XE → Act → AH → Option β} {x0 x1 x2 x3 x4 x5 x6 x7 x8 x9 x10 x11 x12 x13 x14 x15 x16 x17 x18 x19 x20 x21 x22 x23 x24 x25 x26 x27 x28 x29 x30 x31 x32 x33 x34 x35 x36 x37 x38 x39 x40 x41 x42 x43 x44 x45 x46 x47 x48 x49 x50 x51 x52 x53 x55 x58 x59 x61 x90 x94 x95 x97 x98 x99 x100 x129 x138 x139 x141 x155 x157 x160 x161 x163 x164 x179 x217 : Value}
noncomputable def c3 : Code := codeOf Try.prog 3
theorem r3_0  : kCode env 3 false inv k (cp c3 2) (act 231 [(0, x0), (1, x1), (2, x2), (3, x3)]) h K =
    K .normal (act 231 [(0, x0), (1, x1), (2, x2), (3, x3)]) h := kq_reg
theorem r3_1  : kCode env 3 false inv k (cp c3 12) (act 231 [(0, x0), (1, x1), (2, x2), (3, x3)]) h K =
    bnd (inv (.func 9) #[] #[] h) fun x23 =>
    bnd (pUn Try.prog .not x23.1) fun x24 =>
    K .normal (act 231 [(0, x0), (1, x1), (2, x2), (3, x3), (24, x24)]) x23.2 := kq_reg
theorem b3_rlr  : kCode env 3 false inv k (cp c3 13) (act 231 [(0, x0), (1, x1), (2, x2), (3, x3), (24, x24)]) h K = brV x24 (kCode env 3 false inv k (cp c3 26) (act 231 [(0, x0), (1, x1), (2, x2), (3, x3), (24, x24)]) h K) (kCode env 3 false inv k (cp c3 27) (act 231 [(0, x0), (1, x1), (2, x2), (3, x3), (24, x24)]) h K) := kq_cond
theorem r3_2  : kCode env 3 false inv k (cp c3 52) (act 231 [(0, x0), (1, x1), (2, x2), (3, x3), (24, x24)]) h K =
    K .normal (act 231 [(8, (.bool false))]) h := kq_reg
theorem res3_0 : resOfFn env.P 3 .ret (act 231 [(8, x8)]) h = some (x8, h) := kq_res
theorem r3_3  : kCode env 3 false inv k (cp c3 28) (act 231 [(0, x0), (1, x1), (2, x2), (3, x3), (24, x24)]) h K =
    bnd (pLen Try.prog #[22] x0 h) fun x26 =>
    bnd (pBin Try.prog .eql 3 (.tmp 26) (.const (.int .i64 0)) x26 (.int .i64 0)) fun x27 =>
    K .normal (act 231 [(0, x0), (1, x1), (2, x2), (3, x3), (27, x27)]) h := kq_reg
theorem b3_rlrr  : kCode env 3 false inv k (cp c3 29) (act 231 [(0, x0), (1, x1), (2, x2), (3, x3), (27, x27)]) h K = brV x27 (kCode env 3 false inv k (cp c3 58) (act 231 [(0, x0), (1, x1), (2, x2), (3, x3), (27, x27)]) h K) (kCode env 3 false inv k (cp c3 59) (act 231 [(0, x0), (1, x1), (2, x2), (3, x3), (27, x27)]) h K) := kq_cond
theorem r3_4  : kCode env 3 false inv k (cp c3 116) (act 231 [(0, x0), (1, x1), (2, x2), (3, x3), (27, x27)]) h K =
    K .normal (act 231 [(8, (.bool true))]) h := kq_reg
theorem r3_5  : kCode env 3 false inv k (cp c3 30) (act 231 [(0, x0), (1, x1), (2, x2), (3, x3), (27, x27)]) h K =
    bnd (pLen Try.prog #[22] x0 h) fun x30 =>
    bnd (inv (.func 10) #[] #[x3, x30] h) fun x31 =>
    K .normal (act 231 [(0, x0), (1, x1), (2, x2), (9, x31.1)]) x31.2 := kq_reg
theorem r3_6  : kCode env 3 false inv k (cp c3 62) (act 231 [(0, x0), (1, x1), (2, x2), (9, x9)]) h K =
    bnd (pBuild Try.prog 28 #[(0, (.int .i64 1))]) fun x32 =>
    bnd (pBuild Try.prog 28 #[(0, (.int .i64 3)), (1, x9)]) fun x34 =>
    bnd (pBuild Try.prog 28 #[(0, (.int .i64 4)), (1, x9)]) fun x36 =>
    bnd (pBuildSlice Try.prog 29 3 #[(0, x32), (1, x34), (2, x36)] h) fun x37 =>
    K .normal (act 231 [(0, x0), (1, x1), (2, x2), (9, x9), (10, x37.1)]) x37.2 := kq_reg
theorem r3_7  : kCode env 3 false inv k (cp c3 252) (act 231 [(0, x0), (1, x1), (2, x2), (9, x9), (10, x10)]) h K =
    bnd (inv (.func 11) #[] #[x0, x1, x2, x10] h) fun x42 =>
    bnd (pUn Try.prog .not x42.1) fun x43 =>
    K .normal (act 231 [(0, x0), (1, x1), (2, x2), (9, x9), (10, x10), (43, x43)]) x42.2 := kq_reg
theorem b3_rlrrrrr  : kCode env 3 false inv k (cp c3 253) (act 231 [(0, x0), (1, x1), (2, x2), (9, x9), (10, x10), (43, x43)]) h K = brV x43 (kCode env 3 false inv k (cp c3 506) (act 231 [(0, x0), (1, x1), (2, x2), (9, x9), (10, x10), (43, x43)]) h K) (kCode env 3 false inv k (cp c3 507) (act 231 [(0, x0), (1, x1), (2, x2), (9, x9), (10, x10), (43, x43)]) h K) := kq_cond
theorem r3_8  : kCode env 3 false inv k (cp c3 1012) (act 231 [(0, x0), (1, x1), (2, x2), (9, x9), (10, x10), (43, x43)]) h K =
    K .normal (act 231 [(8, (.bool true))]) h := kq_reg
theorem r3_9  : kCode env 3 false inv k (cp c3 254) (act 231 [(0, x0), (1, x1), (2, x2), (9, x9), (10, x10), (43, x43)]) h K =
    bnd (inv (.func 12) #[] #[x0, x1, x2, x10] h) fun x49 =>
    bnd (pExtract x49.1 0) fun x50 =>
    bnd (pExtract x49.1 1) fun x51 =>
    K .normal (act 231 [(1, x1), (2, x2), (9, x9), (11, x50), (12, x51)]) x49.2 := kq_reg
theorem r3_10  : kCode env 3 false inv k (cp c3 1020) (act 231 [(1, x1), (2, x2), (9, x9), (11, x11), (12, x12)]) h K =
    bnd (pBin Try.prog .neq 31 (.tmp 52) (.const (.int .i64 0)) x12 (.int .i64 0)) fun x53 =>
    K .normal (act 231 [(1, x1), (2, x2), (9, x9), (11, x11), (53, x53)]) h := kq_reg
theorem b3_rlrrrrrrr  : kCode env 3 false inv k (cp c3 1021) (act 231 [(1, x1), (2, x2), (9, x9), (11, x11), (53, x53)]) h K = brV x53 (kCode env 3 false inv k (cp c3 2042) (act 231 [(1, x1), (2, x2), (9, x9), (11, x11), (53, x53)]) h K) (kCode env 3 false inv k (cp c3 2043) (act 231 [(1, x1), (2, x2), (9, x9), (11, x11), (53, x53)]) h K) := kq_cond
theorem r3_11  : kCode env 3 false inv k (cp c3 4084) (act 231 [(1, x1), (2, x2), (9, x9), (11, x11), (53, x53)]) h K =
    K .normal (act 231 [(8, (.bool true))]) h := kq_reg
theorem r3_12  : kCode env 3 false inv k (cp c3 1022) (act 231 [(1, x1), (2, x2), (9, x9), (11, x11), (53, x53)]) h K =
    bnd (pLen Try.prog #[24] x2 h) fun x55 =>
    K .normal (act 231 [(1, x1), (2, x2), (9, x9), (11, x11), (13, (.int .i64 0)), (14, x55)]) h := kq_reg
theorem r3_13  : kCode env 3 false inv k (cp c3 4092) (act 231 [(1, x1), (2, x2), (9, x9), (11, x11), (13, x13), (14, x14)]) h K =
    K .normal (act 231 [(1, x1), (2, x2), (9, x9), (11, x11), (13, x13), (14, x14), (15, (.int .i64 0))]) h := kq_reg
theorem r3_14  : kCode env 3 false inv k (cp c3 65488) (act 231 [(1, x1), (2, x2), (9, x9), (11, x11), (13, x13), (14, x14), (15, x15)]) h K =
    bnd (pLen Try.prog #[23] x11 h) fun x58 =>
    bnd (pBin Try.prog .lss 3 (.tmp 56) (.tmp 58) x15 x58) fun x59 =>
    K .normal (act 231 [(1, x1), (2, x2), (9, x9), (11, x11), (13, x13), (14, x14), (15, x15), (59, x59)]) h := kq_reg
theorem b3_rlllrlrrrrrrrrr  : kCode env 3 false inv k (cp c3 65489) (act 231 [(1, x1), (2, x2), (9, x9), (11, x11), (13, x13), (14, x14), (15, x15), (59, x59)]) h K = brV x59 (kCode env 3 false inv k (cp c3 130978) (act 231 [(1, x1), (2, x2), (9, x9), (11, x11), (13, x13), (14, x14), (15, x15), (59, x59)]) h K) (kCode env 3 false inv k (cp c3 130979) (act 231 [(1, x1), (2, x2), (9, x9), (11, x11), (13, x13), (14, x14), (15, x15), (59, x59)]) h K) := kq_cond
noncomputable abbrev G3_16 {β : Type} (inv : Inv) (x1 x2 x9 x11 x13 x14 x15 : Value) (h : AH) (K : Value → AH → Option β) : Option β :=
    bnd (pIndexAddr Try.prog 23 x11 x15) fun x64 =>
    bnd (pLoad Try.prog 34 x64 h) fun x65 =>
    bnd (pLen Try.prog #[34] x65 h) fun x66 =>
    bnd (pBin Try.prog .add 3 (.tmp 67) (.const (.int .i64 3)) x14 (.int .i64 3)) fun x68 =>
    bnd (pBin Try.prog .neq 3 (.tmp 66) (.tmp 68) x66 x68) fun x69 =>
    bnd (gd3 (some x69) false h (some (x15, h))) fun x71 =>
    bnd (gd3 (some x69) false x71.2.1 (lt (pBin Try.prog .gtr 3 (.tmp 71) (.const (.int .i64 0)) x71.1 (.int .i64 0)) x71.2.1)) fun x72 =>
    bnd (gd3 (some x69) false x72.2.1 (some (x72.1, x72.2.1))) fun x73 =>
    bnd (gd3 (some x73.1) true x73.2.1 (some (x11, x73.2.1))) fun x74 =>
    bnd (gd3 (some x73.1) true x74.2.1 (some (x15, x74.2.1))) fun x75 =>
    bnd (gd3 (some x73.1) true x75.2.1 (lt (pBin Try.prog .sub 3 (.tmp 75) (.const (.int .i64 1)) x75.1 (.int .i64 1)) x75.2.1)) fun x76 =>
    bnd (gd3 (some x73.1) true x76.2.1 (lt (pIndexAddr Try.prog 23 x74.1 x76.1) x76.2.1)) fun x77 =>
    bnd (gd3 (some x73.1) true x77.2.1 (lt (pLoad Try.prog 34 x77.1 x77.2.1) x77.2.1)) fun x78 =>
    bnd (gd3 (some x73.1) true x78.2.1 (some (x14, x78.2.1))) fun x79 =>
    bnd (gd3 (some x73.1) true x79.2.1 (lt (pSlice Try.prog 34 x78.1 none (some x79.1) none x79.2.1) x79.2.1)) fun x80 =>
    bnd (gd3 (some x73.1) true x80.2.1 (some (x11, x80.2.1))) fun x81 =>
    bnd (gd3 (some x73.1) true x81.2.1 (some (x15, x81.2.1))) fun x82 =>
    bnd (gd3 (some x73.1) true x82.2.1 (lt (pIndexAddr Try.prog 23 x81.1 x82.1) x82.2.1)) fun x83 =>
    bnd (gd3 (some x73.1) true x83.2.1 (lt (pLoad Try.prog 34 x83.1 x83.2.1) x83.2.1)) fun x84 =>
    bnd (gd3 (some x73.1) true x84.2.1 (some (x14, x84.2.1))) fun x85 =>
    bnd (gd3 (some x73.1) true x85.2.1 (lt (pSlice Try.prog 34 x84.1 none (some x85.1) none x85.2.1) x85.2.1)) fun x86 =>
    bnd (gd3 (some x73.1) true x86.2.1 (inv (.func 13) #[] #[x80.1, x86.1] x86.2.1)) fun x87 =>
    bnd (gd3 (some x73.1) true x87.2.1 (lt (pBin Try.prog .geq 3 (.tmp 87) (.const (.int .i64 0)) x87.1 (.int .i64 0)) x87.2.1)) fun x88 =>
    bnd (gd3 (some x69) false x88.2.1 (lt (pickV x73.1 x88.1 (.bool false)) x88.2.1)) fun x89 =>
    bnd (pickV x69 (.bool true) x89.1) fun x90 =>
    K (x90) x89.2.1
theorem r3_16  : kCode env 3 false inv k (cp c3 523920) (act 231 [(1, x1), (2, x2), (9, x9), (11, x11), (13, x13), (14, x14), (15, x15), (59, x59)]) h K =
    G3_16 inv x1 x2 x9 x11 x13 x14 x15 h fun y90 h => K .normal (act 231 [(1, x1), (2, x2), (9, x9), (11, x11), (13, x13), (14, x14), (15, x15), (90, y90)]) h := kq_draw
theorem b3_rlllrllrlrrrrrrrrr  : kCode env 3 false inv k (cp c3 523921) (act 231 [(1, x1), (2, x2), (9, x9), (11, x11), (13, x13), (14, x14), (15, x15), (90, x90)]) h K = brV x90 (kCode env 3 false inv k (cp c3 1047842) (act 231 [(1, x1), (2, x2), (9, x9), (11, x11), (13, x13), (14, x14), (15, x15), (90, x90)]) h K) (kCode env 3 false inv k (cp c3 1047843) (act 231 [(1, x1), (2, x2), (9, x9), (11, x11), (13, x13), (14, x14), (15, x15), (90, x90)]) h K) := kq_cond
theorem r3_17  : kCode env 3 false inv k (cp c3 2095684) (act 231 [(1, x1), (2, x2), (9, x9), (11, x11), (13, x13), (14, x14), (15, x15), (90, x90)]) h K =
    K .normal (act 231 [(8, (.bool false))]) h := kq_reg
theorem r3_18  : kCode env 3 false inv k (cp c3 523922) (act 231 [(1, x1), (2, x2), (9, x9), (11, x11), (13, x13), (14, x14), (15, x15), (90, x90)]) h K =
    bnd (pIndexAddr Try.prog 23 x11 x15) fun x94 =>
    bnd (pLoad Try.prog 34 x94 h) fun x95 =>
    bnd (pIndexAddr Try.prog 34 x95 x14) fun x97 =>
    bnd (pFieldAddr Try.prog 37 x97 1) fun x98 =>
    bnd (pLoad Try.prog 2 x98 h) fun x99 =>
    bnd (pBin Try.prog .add 2 (.tmp 91) (.tmp 99) x13 x99) fun x100 =>
    K .normal (act 231 [(1, x1), (2, x2), (9, x9), (11, x11), (13, x100), (14, x14), (15, x15)]) h := kq_reg
noncomputable abbrev G3_19 {β : Type} (inv : Inv) (x1 x2 x9 x11 x13 x14 x15 : Value) (h : AH) (K : Value → Value → AH → Option β) : Option β :=
    bnd (pAlloc Try.prog 37 h) fun x16 =>
    bnd (pAlloc Try.prog 37 x16.2) fun x17 =>
    bnd (pIndexAddr Try.prog 23 x11 x15) fun x103 =>
    bnd (pLoad Try.prog 34 x103 x17.2) fun x104 =>
    bnd (pBin Try.prog .add 3 (.tmp 105) (.const (.int .i64 1)) x14 (.int .i64 1)) fun x106 =>
    bnd (pIndexAddr Try.prog 34 x104 x106) fun x107 =>
    bnd (pLoad Try.prog 37 x107 x17.2) fun x108 =>
    bnd (pIndexAddr Try.prog 23 x11 x15) fun x111 =>
    bnd (pLoad Try.prog 34 x111 x17.2) fun x112 =>
    bnd (pBin Try.prog .add 3 (.tmp 113) (.const (.int .i64 2)) x14 (.int .i64 2)) fun x114 =>
    bnd (pIndexAddr Try.prog 34 x112 x114) fun x115 =>
    bnd (pLoad Try.prog 37 x115 x17.2) fun x116 =>
    bnd (kSt (pStore Try.prog 37 x16.1 x108 x17.2)) fun u =>
    bnd (kSt (pStore Try.prog 37 x17.1 x116 u.2)) fun u_1 =>
    chkK ((!true || !true || (sameO (pLoad Try.prog 34 x103 h) x104 && sameO (pLoad Try.prog 34 x103 x16.2) x104)) && ((!true || !true || (sameO (pLoad Try.prog 34 x103 x16.2) x104 && sameO (pLoad Try.prog 34 x103 x17.2) x104)) && ((!true || !true || (sameO (pLoad Try.prog 37 x107 h) x108 && sameO (pLoad Try.prog 37 x107 x16.2) x108)) && ((!true || !true || (sameO (pLoad Try.prog 37 x107 x16.2) x108 && sameO (pLoad Try.prog 37 x107 x17.2) x108)) && ((!true || !true || (sameO (pLoad Try.prog 34 x111 h) x112 && sameO (pLoad Try.prog 34 x111 x16.2) x112)) && ((!true || !true || (sameO (pLoad Try.prog 34 x111 x16.2) x112 && sameO (pLoad Try.prog 34 x111 x17.2) x112)) && ((!true || !true || (sameO (pLoad Try.prog 34 x111 x17.2) x112 && sameO (pLoad Try.prog 34 x111 u.2) x112)) && ((!true || !true || (sameO (pLoad Try.prog 37 x115 h) x116 && sameO (pLoad Try.prog 37 x115 x16.2) x116)) && ((!true || !true || (sameO (pLoad Try.prog 37 x115 x16.2) x116 && sameO (pLoad Try.prog 37 x115 x17.2) x116)) && ((!true || !true || (sameO (pLoad Try.prog 37 x115 x17.2) x116 && sameO (pLoad Try.prog 37 x115 u.2) x116)) && true)))))))))) <|
    K (x16.1) (x17.1) u_1.2
theorem r3_19  : kCode env 3 false inv k (cp c3 1047846) (act 231 [(1, x1), (2, x2), (9, x9), (11, x11), (13, x13), (14, x14), (15, x15)]) h K =
    G3_19 inv x1 x2 x9 x11 x13 x14 x15 h fun y16 y17 h => K .normal (act 231 [(1, x1), (2, x2), (9, x9), (11, x11), (13, x13), (14, x14), (15, x15), (16, y16), (17, y17)]) h := kq_draw
noncomputable abbrev G3_20 {β : Type} (inv : Inv) (x1 x2 x9 x11 x13 x14 x15 x16 x17 : Value) (h : AH) (K : Value → AH → Option β) : Option β :=
    bnd (pLoad Try.prog 37 x16 h) fun x117 =>
    bnd (pLoad Try.prog 37 x17 h) fun x118 =>
    bnd (inv (.func 14) #[] #[x117, x118] h) fun x119 =>
    bnd (pBin Try.prog .gtr 3 (.tmp 119) (.const (.int .i64 0)) x119.1 (.int .i64 0)) fun x120 =>
    bnd (gd (some x120) false x119.2 (lt (pFieldAddr Try.prog 37 x16 0) x119.2)) fun x122 =>
    bnd (gd (some x120) false x122.2 (lt (pLoad Try.prog 3 x122.1 x122.2) x122.2)) fun x123 =>
    bnd (gd (some x120) false x123.2 (lt (pBin Try.prog .eql 3 (.tmp 123) (.const (.int .i64 0)) x123.1 (.int .i64 0)) x123.2)) fun x124 =>
    bnd (gd (some x120) false x124.2 (lt (pFieldAddr Try.prog 37 x17 0) x124.2)) fun x125 =>
    bnd (gd (some x120) false x125.2 (lt (pLoad Try.prog 3 x125.1 x125.2) x125.2)) fun x126 =>
    bnd (gd (some x120) false x126.2 (lt (pBin Try.prog .eql 3 (.tmp 126) (.const (.int .i64 0)) x126.1 (.int .i64 0)) x126.2)) fun x127 =>
    bnd (gd (some x120) false x127.2 (lt (pBin Try.prog .neq 4 (.tmp 124) (.tmp 127) x124.1 x127.1) x127.2)) fun x128 =>
    bnd (pickV x120 (.bool true) x128.1) fun x129 =>
    K (x129) x128.2
theorem r3_20  : kCode env 3 false inv k (cp c3 4191388) (act 231 [(1, x1), (2, x2), (9, x9), (11, x11), (13, x13), (14, x14), (15, x15), (16, x16), (17, x17)]) h K =
    G3_20 inv x1 x2 x9 x11 x13 x14 x15 x16 x17 h fun y129 h => K .normal (act 231 [(1, x1), (2, x2), (9, x9), (11, x11), (13, x13), (14, x14), (15, x15), (16, x16), (17, x17), (129, y129)]) h := kq_reg
theorem b3_rlrrrllrllrlrrrrrrrrr  : kCode env 3 false inv k (cp c3 4191389) (act 231 [(1, x1), (2, x2), (9, x9), (11, x11), (13, x13), (14, x14), (15, x15), (16, x16), (17, x17), (129, x129)]) h K = brV x129 (kCode env 3 false inv k (cp c3 8382778) (act 231 [(1, x1), (2, x2), (9, x9), (11, x11), (13, x13), (14, x14), (15, x15), (16, x16), (17, x17), (129, x129)]) h K) (kCode env 3 false inv k (cp c3 8382779) (act 231 [(1, x1), (2, x2), (9, x9), (11, x11), (13, x13), (14, x14), (15, x15), (16, x16), (17, x17), (129, x129)]) h K) := kq_cond
theorem r3_21  : kCode env 3 false inv k (cp c3 16765556) (act 231 [(1, x1), (2, x2), (9, x9), (11, x11), (13, x13), (14, x14), (15, x15), (16, x16), (17, x17), (129, x129)]) h K =
    K .normal (act 231 [(8, (.bool false))]) h := kq_reg
noncomputable abbrev G3_22 {β : Type} (inv : Inv) (x1 x2 x9 x11 x13 x14 x15 x16 x17 : Value) (h : AH) (K : Value → Value → Value → AH → Option β) : Option β :=
    bnd (pFieldAddr Try.prog 37 x16 0) fun x130 =>
    bnd (pLoad Try.prog 3 x130 h) fun x131 =>
    bnd (pBin Try.prog .eql 3 (.tmp 131) (.const (.int .i64 0)) x131 (.int .i64 0)) fun x132 =>
    bnd (pFieldAddr Try.prog 37 x17 0) fun x133 =>
    bnd (pLoad Try.prog 3 x133 h) fun x134 =>
    bnd (pBin Try.prog .eql 3 (.tmp 134) (.const (.int .i64 0)) x134 (.int .i64 0)) fun x135 =>
    K ((.int .i64 0)) (x132) (x135) h
theorem r3_22  : kCode env 3 false inv k (cp c3 4191390) (act 231 [(1, x1), (2, x2), (9, x9), (11, x11), (13, x13), (14, x14), (15, x15), (16, x16), (17, x17), (129, x129)]) h K =
    G3_22 inv x1 x2 x9 x11 x13 x14 x15 x16 x17 h fun y18 y19 y20 h => K .normal (act 231 [(1, x1), (2, x2), (9, x9), (11, x11), (13, x13), (14, x14), (15, x15), (16, x16), (17, x17), (18, y18), (19, y19), (20, y20)]) h := kq_draw
theorem r3_23  : kCode env 3 false inv k (cp c3 16765564) (act 231 [(1, x1), (2, x2), (9, x9), (11, x11), (13, x13), (14, x14), (15, x15), (16, x16), (17, x17), (18, x18), (19, x19), (20, x20)]) h K =
    K .normal (act 231 [(1, x1), (2, x2), (9, x9), (11, x11), (13, x13), (14, x14), (15, x15), (16, x16), (17, x17), (18, x18), (19, x19), (20, x20), (21, (.int .i64 0))]) h := kq_reg
theorem r3_24  : kCode env 3 false inv k (cp c3 268249040) (act 231 [(1, x1), (2, x2), (9, x9), (11, x11), (13, x13), (14, x14), (15, x15), (16, x16), (17, x17), (18, x18), (19, x19), (20, x20), (21, x21)]) h K =
    bnd (pLen Try.prog #[23] x1 h) fun x138 =>
    bnd (pBin Try.prog .lss 3 (.tmp 136) (.tmp 138) x21 x138) fun x139 =>
    K .normal (act 231 [(1, x1), (2, x2), (9, x9), (11, x11), (13, x13), (14, x14), (15, x15), (16, x16), (17, x17), (18, x18), (19, x19), (20, x20), (21, x21), (139, x139)]) h := kq_reg
theorem b3_rlllrlrrrrrllrllrlrrrrrrrrr  : kCode env 3 false inv k (cp c3 268249041) (act 231 [(1, x1), (2, x2), (9, x9), (11, x11), (13, x13), (14, x14), (15, x15), (16, x16), (17, x17), (18, x18), (19, x19), (20, x20), (21, x21), (139, x139)]) h K = brV x139 (kCode env 3 false inv k (cp c3 536498082) (act 231 [(1, x1), (2, x2), (9, x9), (11, x11), (13, x13), (14, x14), (15, x15), (16, x16), (17, x17), (18, x18), (19, x19), (20, x20), (21, x21), (139, x139)]) h K) (kCode env 3 false inv k (cp c3 536498083) (act 231 [(1, x1), (2, x2), (9, x9), (11, x11), (13, x13), (14, x14), (15, x15), (16, x16), (17, x17), (18, x18), (19, x19), (20, x20), (21, x21), (139, x139)]) h K) := kq_cond
noncomputable abbrev G3_26 {β : Type} (inv : Inv) (x1 x2 x9 x11 x13 x14 x15 x16 x17 x18 x19 x20 x21 : Value) (h : AH) (K : Value → AH → Option β) : Option β :=
    bnd (pIndexAddr Try.prog 23 x1 x21) fun x144 =>
    bnd (pLoad Try.prog 34 x144 h) fun x145 =>
    bnd (inv (.func 15) #[] #[x145, x2] h) fun x147 =>
    bnd (pIndexAddr Try.prog 23 x11 x15) fun x150 =>
    bnd (pLoad Try.prog 34 x150 x147.2) fun x151 =>
    bnd (pSlice Try.prog 34 x151 none (some x14) none x147.2) fun x153 =>
    bnd (inv (.func 13) #[] #[x147.1, x153] x147.2) fun x154 =>
    bnd (pBin Try.prog .neq 3 (.tmp 154) (.const (.int .i64 0)) x154.1 (.int .i64 0)) fun x155 =>
    chkK ((!true || !true || (sameO (pLoad Try.prog 34 x150 h) x151 && sameO (pLoad Try.prog 34 x150 x147.2) x151)) && ((!true || !true || (sameO (pSlice Try.prog 34 x151 none (some x14) none h) x153 && sameO (pSlice Try.prog 34 x151 none (some x14) none x147.2) x153)) && true)) <|
    K (x155) x154.2
theorem r3_26  : kCode env 3 false inv k (cp c3 2145992336) (act 231 [(1, x1), (2, x2), (9, x9), (11, x11), (13, x13), (14, x14), (15, x15), (16, x16), (17, x17), (18, x18), (19, x19), (20, x20), (21, x21), (139, x139)]) h K =
    G3_26 inv x1 x2 x9 x11 x13 x14 x15 x16 x17 x18 x19 x20 x21 h fun y155 h => K .normal (act 231 [(1, x1), (2, x2), (9, x9), (11, x11), (13, x13), (14, x14), (15, x15), (16, x16), (17, x17), (18, x18), (19, x19), (20, x20), (21, x21), (155, y155)]) h := kq_draw
theorem b3_rlllrllrlrrrrrllrllrlrrrrrrrrr  : kCode env 3 false inv k (cp c3 2145992337) (act 231 [(1, x1), (2, x2), (9, x9), (11, x11), (13, x13), (14, x14), (15, x15), (16, x16), (17, x17), (18, x18), (19, x19), (20, x20), (21, x21), (155, x155)]) h K = brV x155 (kCode env 3 false inv k (cp c3 4291984674) (act 231 [(1, x1), (2, x2), (9, x9), (11, x11), (13, x13), (14, x14), (15, x15), (16, x16), (17, x17), (18, x18), (19, x19), (20, x20), (21, x21), (155, x155)]) h K) (kCode env 3 false inv k (cp c3 4291984675) (act 231 [(1, x1), (2, x2), (9, x9), (11, x11), (13, x13), (14, x14), (15, x15), (16, x16), (17, x17), (18, x18), (19, x19), (20, x20), (21, x21), (155, x155)]) h K) := kq_cond
theorem r3_27  : kCode env 3 false inv k (cp c3 2145992338) (act 231 [(1, x1), (2, x2), (9, x9), (11, x11), (13, x13), (14, x14), (15, x15), (16, x16), (17, x17), (18, x18), (19, x19), (20, x20), (21, x21), (155, x155)]) h K =
    bnd (pBin Try.prog .add 2 (.tmp 156) (.const (.int .i64 1)) x18 (.int .i64 1)) fun x157 =>
    K .normal (act 231 [(1, x1), (2, x2), (9, x9), (11, x11), (13, x13), (14, x14), (15, x15), (16, x16), (17, x17), (18, x157), (19, x19), (20, x20), (21, x21)]) h := kq_reg
theorem r3_28  : kCode env 3 false inv k (cp c3 4291984678) (act 231 [(1, x1), (2, x2), (9, x9), (11, x11), (13, x13), (14, x14), (15, x15), (16, x16), (17, x17), (18, x18), (19, x19), (20, x20), (21, x21)]) h K =
    bnd (pIndexAddr Try.prog 23 x1 x21) fun x160 =>
    bnd (pLoad Try.prog 34 x160 h) fun x161 =>
    bnd (pIndexAddr Try.prog 34 x161 x9) fun x163 =>
    bnd (pLoad Try.prog 37 x163 h) fun x164 =>
    bnd (pAlloc Try.prog 37 h) fun x22 =>
    bnd (kSt (pStore Try.prog 37 x22.1 x164 x22.2)) fun u =>
    K .normal (act 231 [(1, x1), (2, x2), (9, x9), (11, x11), (13, x13), (14, x14), (15, x15), (16, x16), (17, x17), (18, x18), (19, x19), (20, x20), (21, x21), (22, x22.1)]) u.2 := kq_reg
noncomputable abbrev G3_29 {β : Type} (inv : Inv) (x1 x2 x9 x11 x13 x14 x15 x16 x17 x18 x19 x20 x21 x22 : Value) (h : AH) (K : Value → AH → Option β) : Option β :=
    bnd (pFieldAddr Try.prog 37 x22 0) fun x165 =>
    bnd (pLoad Try.prog 3 x165 h) fun x166 =>
    bnd (pBin Try.prog .neq 3 (.tmp 166) (.const (.int .i64 0)) x166 (.int .i64 0)) fun x167 =>
    bnd (gd (some x167) true h (lt (pLoad Try.prog 37 x22 h) h)) fun x169 =>
    bnd (gd (some x167) true x169.2 (lt (pLoad Try.prog 37 x16 x169.2) x169.2)) fun x170 =>
    bnd (gd (some x167) true x170.2 (inv (.func 14) #[] #[x169.1, x170.1] x170.2)) fun x171 =>
    bnd (gd (some x167) true x171.2 (lt (pBin Try.prog .lss 3 (.tmp 171) (.const (.int .i64 0)) x171.1 (.int .i64 0)) x171.2)) fun x172 =>
    bnd (gd (some x167) true x172.2 (some (x172.1, x172.2))) fun x173 =>
    bnd (gd (some x173.1) false x173.2 (lt (pLoad Try.prog 37 x22 x173.2) x173.2)) fun x174 =>
    bnd (gd (some x173.1) false x174.2 (lt (pLoad Try.prog 37 x17 x174.2) x174.2)) fun x175 =>
    bnd (gd (some x173.1) false x175.2 (inv (.func 14) #[] #[x174.1, x175.1] x175.2)) fun x176 =>
    bnd (gd (some x173.1) false x176.2 (lt (pBin Try.prog .gtr 3 (.tmp 176) (.const (.int .i64 0)) x176.1 (.int .i64 0)) x176.2)) fun x177 =>
    bnd (gd (some x167) true x177.2 (lt (pickV x173.1 (.bool true) x177.1) x177.2)) fun x178 =>
    bnd (pickV x167 x178.1 (.bool false)) fun x179 =>
    K (x179) x178.2
theorem r3_29  : kCode env 3 false inv k (cp c3 17167938716) (act 231 [(1, x1), (2, x2), (9, x9), (11, x11), (13, x13), (14, x14), (15, x15), (16, x16), (17, x17), (18, x18), (19, x19), (20, x20), (21, x21), (22, x22)]) h K =
    G3_29 inv x1 x2 x9 x11 x13 x14 x15 x16 x17 x18 x19 x20 x21 x22 h fun y179 h => K .normal (act 231 [(1, x1), (2, x2), (9, x9), (11, x11), (13, x13), (14, x14), (15, x15), (16, x16), (17, x17), (18, x18), (19, x19), (20, x20), (21, x21), (22, x22), (179, y179)]) h := kq_reg
theorem b3_rlrrrllrllrlrrrrrllrllrlrrrrrrrrr  : kCode env 3 false inv k (cp c3 17167938717) (act 231 [(1, x1), (2, x2), (9, x9), (11, x11), (13, x13), (14, x14), (15, x15), (16, x16), (17, x17), (18, x18), (19, x19), (20, x20), (21, x21), (22, x22), (179, x179)]) h K = brV x179 (kCode env 3 false inv k (cp c3 34335877434) (act 231 [(1, x1), (2, x2), (9, x9), (11, x11), (13, x13), (14, x14), (15, x15), (16, x16), (17, x17), (18, x18), (19, x19), (20, x20), (21, x21), (22, x22), (179, x179)]) h K) (kCode env 3 false inv k (cp c3 34335877435) (act 231 [(1, x1), (2, x2), (9, x9), (11, x11), (13, x13), (14, x14), (15, x15), (16, x16), (17, x17), (18, x18), (19, x19), (20, x20), (21, x21), (22, x22), (179, x179)]) h K) := kq_cond
theorem r3_30  : kCode env 3 false inv k (cp c3 68671754868) (act 231 [(1, x1), (2, x2), (9, x9), (11, x11), (13, x13), (14, x14), (15, x15), (16, x16), (17, x17), (18, x18), (19, x19), (20, x20), (21, x21), (22, x22), (179, x179)]) h K =
    K .normal (act 231 [(8, (.bool false))]) h := kq_reg
noncomputable abbrev G3_31 {β : Type} (inv : Inv) (x1 x2 x9 x11 x13 x14 x15 x16 x17 x18 x19 x20 x21 x22 : Value) (h : AH) (K : Value → Value → AH → Option β) : Option β :=
    bnd (gd3 (some x19) false h (lt (pLoad Try.prog 37 x22 h) h)) fun x182 =>
    bnd (gd3 (some x19) false x182.2.1 (lt (pLoad Try.prog 37 x16 x182.2.1) x182.2.1)) fun x183 =>
    bnd (gd3 (some x19) false x183.2.1 (lt (pBin Try.prog .eql 37 (.tmp 182) (.tmp 183) x182.1 x183.1) x183.2.1)) fun x184 =>
    bnd (pickV x19 (.bool true) x184.1) fun x185 =>
    bnd (gd3 (some x20) false x184.2.1 (lt (pLoad Try.prog 37 x22 x184.2.1) x184.2.1)) fun x188 =>
    bnd (gd3 (some x20) false x188.2.1 (lt (pLoad Try.prog 37 x17 x188.2.1) x188.2.1)) fun x189 =>
    bnd (gd3 (some x20) false x189.2.1 (lt (pBin Try.prog .eql 37 (.tmp 188) (.tmp 189) x188.1 x189.1) x189.2.1)) fun x190 =>
    bnd (pickV x20 (.bool true) x190.1) fun x191 =>
    K (x185) (x191) x190.2.1
theorem r3_31  : kCode env 3 false inv k (cp c3 8583969359) (act 231 [(1, x1), (2, x2), (9, x9), (11, x11), (13, x13), (14, x14), (15, x15), (16, x16), (17, x17), (18, x18), (19, x19), (20, x20), (21, x21), (22, x22), (179, x179)]) h K =
    G3_31 inv x1 x2 x9 x11 x13 x14 x15 x16 x17 x18 x19 x20 x21 x22 h fun y19 y20 h => K .normal (act 231 [(1, x1), (2, x2), (9, x9), (11, x11), (13, x13), (14, x14), (15, x15), (16, x16), (17, x17), (18, x18), (19, y19), (20, y20), (21, x21)]) h := kq_draw
noncomputable def F3_lrllrlrrrrrllrllrlrrrrrrrrr {β : Type} (inv : Inv) (k : Nat) (x1 x2 x9 x11 x13 x14 x15 x16 x17 x18 x19 x20 x21 x139 : Value) (h : AH) (kn : (Value → Value → Value → Value → Value → Value → Value → Value → Value → Value → Value → Value → Value → Value → AH → Option β)) (kr : (Value → AH → Option β)) : Option β :=
    G3_26 inv x1 x2 x9 x11 x13 x14 x15 x16 x17 x18 x19 x20 x21 h fun y155 h =>
    brV y155
    (kn x1 x2 x9 x11 x13 x14 x15 x16 x17 x18 x19 x20 x21 y155 h)
    (bnd (pBin Try.prog .add 2 (.tmp 156) (.const (.int .i64 1)) x18 (.int .i64 1)) fun x157 =>
    bnd (pIndexAddr Try.prog 23 x1 x21) fun x160 =>
    bnd (pLoad Try.prog 34 x160 h) fun x161 =>
    bnd (pIndexAddr Try.prog 34 x161 x9) fun x163 =>
    bnd (pLoad Try.prog 37 x163 h) fun x164 =>
    bnd (pAlloc Try.prog 37 h) fun x22 =>
    bnd (kSt (pStore Try.prog 37 x22.1 x164 x22.2)) fun u =>
    G3_29 inv x1 x2 x9 x11 x13 x14 x15 x16 x17 x157 x19 x20 x21 x22.1 u.2 fun y179 h_5 =>
    brV y179
    (kr (.bool false) h_5)
    (G3_31 inv x1 x2 x9 x11 x13 x14 x15 x16 x17 x157 x19 x20 x21 x22.1 h_5 fun y19 y20 h_6 =>
    kn x1 x2 x9 x11 x13 x14 x15 x16 x17 x157 y19 y20 x21 unk h_6))
theorem F3_lrllrlrrrrrllrllrlrrrrrrrrr_eq  : kCode env 3 false inv k (cp c3 268249042) (act 231 [(1, x1), (2, x2), (9, x9), (11, x11), (13, x13), (14, x14), (15, x15), (16, x16), (17, x17), (18, x18), (19, x19), (20, x20), (21, x21), (139, x139)]) h K = F3_lrllrlrrrrrllrllrlrrrrrrrrr inv k x1 x2 x9 x11 x13 x14 x15 x16 x17 x18 x19 x20 x21 x139 h (fun y1 y2 y9 y11 y13 y14 y15 y16 y17 y18 y19 y20 y21 y155 h => K .normal (act 231 [(1, y1), (2, y2), (9, y9), (11, y11), (13, y13), (14, y14), (15, y15), (16, y16), (17, y17), (18, y18), (19, y19), (20, y20), (21, y21), (155, y155)]) h) (fun y8 h => K .ret (act 231 [(8, y8)]) h) := by
      unfold F3_lrllrlrrrrrllrllrlrrrrrrrrr
      simp only [kq_block c3 268249042 3, kq_seq c3 536498084, kq_seq c3 1072996168, r3_26, b3_rlllrllrlrrrrrllrllrlrrrrrrrrr, kq_exit c3 4291984674 3, kq_skip c3 4291984675, kq_seq c3 1072996169, r3_27, kq_seq c3 2145992339, r3_28, kq_seq c3 4291984679, kq_seq c3 8583969358, r3_29, b3_rlrrrllrllrlrrrrrllrllrlrrrrrrrrr, kq_seq c3 34335877434, r3_30, kq_ret c3 68671754869, kq_skip c3 34335877435, r3_31, reduceIte, reduceCtorEq, XE.exit.injEq, Nat.reduceEqDiff, Nat.reduceMul, Nat.reduceAdd] <;> kernel_rfl
theorem r3_25  : kCode env 3 false inv k (cp c3 268249043) (act 231 [(1, x1), (2, x2), (9, x9), (11, x11), (13, x13), (14, x14), (15, x15), (16, x16), (17, x17), (18, x18), (19, x19), (20, x20), (21, x21), (155, x155)]) h K =
    bnd (pBin Try.prog .add 3 (.tmp 140) (.const (.int .i64 1)) x21 (.int .i64 1)) fun x141 =>
    K .normal (act 231 [(1, x1), (2, x2), (9, x9), (11, x11), (13, x13), (14, x14), (15, x15), (16, x16), (17, x17), (18, x18), (19, x19), (20, x20), (21, x141)]) h := kq_reg
noncomputable def F3_lrlrrrrrllrllrlrrrrrrrrr {β : Type} (inv : Inv) (k : Nat) : Nat → Value → Value → Value → Value → Value → Value → Value → Value → Value → Value → Value → Value → Value → AH → (Value → Value → Value → Value → Value → Value → Value → Value → Value → Value → Value → Value → Value → Value → AH → Option β) → (Value → AH → Option β) → Option β
  | 0, _, _, _, _, _, _, _, _, _, _, _, _, _, _, _, _ => none
  | j + 1, x1, x2, x9, x11, x13, x14, x15, x16, x17, x18, x19, x20, x21, h, ke2, kr =>
    bnd (pLen Try.prog #[23] x1 h) fun x138 =>
    bnd (pBin Try.prog .lss 3 (.tmp 136) (.tmp 138) x21 x138) fun x139 =>
    brV x139
    (F3_lrllrlrrrrrllrllrlrrrrrrrrr inv k x1 x2 x9 x11 x13 x14 x15 x16 x17 x18 x19 x20 x21 x139 h
    (fun y1 y2 y9 y11 y13 y14 y15 y16 y17 y18 y19 y20 y21 y155 h =>
    bnd (pBin Try.prog .add 3 (.tmp 140) (.const (.int .i64 1)) y21 (.int .i64 1)) fun x141 =>
    F3_lrlrrrrrllrllrlrrrrrrrrr inv k j y1 y2 y9 y11 y13 y14 y15 y16 y17 y18 y19 y20 x141 h ke2 kr)
    (fun y8 h_7 =>
    kr y8 h_7))
    (ke2 x1 x2 x9 x11 x13 x14 x15 x16 x17 x18 x19 x20 x21 x139 h)
theorem F3_lrlrrrrrllrllrlrrrrrrrrr_j (j : Nat) : kLoop (kCode env 3 false inv k (cp c3 67062260)) j (act 231 [(1, x1), (2, x2), (9, x9), (11, x11), (13, x13), (14, x14), (15, x15), (16, x16), (17, x17), (18, x18), (19, x19), (20, x20), (21, x21)]) h K = F3_lrlrrrrrllrllrlrrrrrrrrr inv k j x1 x2 x9 x11 x13 x14 x15 x16 x17 x18 x19 x20 x21 h (fun y1 y2 y9 y11 y13 y14 y15 y16 y17 y18 y19 y20 y21 y139 h => K (.exit 2) (act 231 [(1, y1), (2, y2), (9, y9), (11, y11), (13, y13), (14, y14), (15, y15), (16, y16), (17, y17), (18, y18), (19, y19), (20, y20), (21, y21), (139, y139)]) h) (fun y8 h => K .ret (act 231 [(8, y8)]) h) := by
      induction j generalizing x1 x2 x9 x11 x13 x14 x15 x16 x17 x18 x19 x20 x21 h with
      | zero => rfl
      | succ j ih =>
        unfold F3_lrlrrrrrllrllrlrrrrrrrrr
        simp only [kLoop, kq_seq c3 67062260, kq_seq c3 134124520, r3_24, b3_rlllrlrrrrrllrllrlrrrrrrrrr, kq_skip c3 536498082, kq_seq c3 134124521, F3_lrllrlrrrrrllrllrlrrrrrrrrr_eq, r3_25, kq_exit c3 536498083 2, ih, reduceIte, reduceCtorEq, XE.exit.injEq, Nat.reduceEqDiff, Nat.reduceMul, Nat.reduceAdd] <;> kernel_rfl
theorem F3_lrlrrrrrllrllrlrrrrrrrrr_eq  : kCode env 3 false inv k (cp c3 33531130) (act 231 [(1, x1), (2, x2), (9, x9), (11, x11), (13, x13), (14, x14), (15, x15), (16, x16), (17, x17), (18, x18), (19, x19), (20, x20), (21, x21)]) h K = F3_lrlrrrrrllrllrlrrrrrrrrr inv k k x1 x2 x9 x11 x13 x14 x15 x16 x17 x18 x19 x20 x21 h (fun y1 y2 y9 y11 y13 y14 y15 y16 y17 y18 y19 y20 y21 y139 h => K (.exit 2) (act 231 [(1, y1), (2, y2), (9, y9), (11, y11), (13, y13), (14, y14), (15, y15), (16, y16), (17, y17), (18, y18), (19, y19), (20, y20), (21, y21), (139, y139)]) h) (fun y8 h => K .ret (act 231 [(8, y8)]) h) := kq_loop (F3_lrlrrrrrllrllrlrrrrrrrrr_j k)
noncomputable abbrev G3_32 {β : Type} (inv : Inv) (x1 x2 x9 x11 x13 x14 x15 x18 x19 x20 : Value) (h : AH) (K : Value → AH → Option β) : Option β :=
    bnd (pIndexAddr Try.prog 23 x11 x15) fun x195 =>
    bnd (pLoad Try.prog 34 x195 h) fun x196 =>
    bnd (pIndexAddr Try.prog 34 x196 x14) fun x198 =>
    bnd (pFieldAddr Try.prog 37 x198 1) fun x199 =>
    bnd (pLoad Try.prog 2 x199 h) fun x200 =>
    bnd (pBin Try.prog .neq 2 (.tmp 192) (.tmp 200) x18 x200) fun x201 =>
    bnd (gd (some x201) false h (some (x19, h))) fun x203 =>
    bnd (gd (some x201) false x203.2 (lt (pUn Try.prog .not x203.1) x203.2)) fun x204 =>
    bnd (pickV x201 (.bool true) x204.1) fun x205 =>
    bnd (gd (some x205) false x204.2 (some (x20, x204.2))) fun x207 =>
    bnd (gd (some x205) false x207.2 (lt (pUn Try.prog .not x207.1) x207.2)) fun x208 =>
    bnd (pickV x205 (.bool true) x208.1) fun x209 =>
    bnd (gd (some x209) false x208.2 (some (x18, x208.2))) fun x211 =>
    bnd (gd (some x209) false x211.2 (lt (pBin Try.prog .eql 2 (.tmp 211) (.const (.int .i64 0)) x211.1 (.int .i64 0)) x211.2)) fun x212 =>
    bnd (gd (some x209) false x212.2 (some (x212.1, x212.2))) fun x213 =>
    bnd (gd (some x213.1) true x213.2 (some (x14, x213.2))) fun x214 =>
    bnd (gd (some x213.1) true x214.2 (lt (pBin Try.prog .gtr 3 (.tmp 214) (.const (.int .i64 0)) x214.1 (.int .i64 0)) x214.2)) fun x215 =>
    bnd (gd (some x209) false x215.2 (lt (pickV x213.1 x215.1 (.bool false)) x215.2)) fun x216 =>
    bnd (pickV x209 (.bool true) x216.1) fun x217 =>
    K (x217) x216.2
theorem r3_32  : kCode env 3 false inv k (cp c3 16765566) (act 231 [(1, x1), (2, x2), (9, x9), (11, x11), (13, x13), (14, x14), (15, x15), (16, x16), (17, x17), (18, x18), (19, x19), (20, x20), (21, x21), (139, x139)]) h K =
    G3_32 inv x1 x2 x9 x11 x13 x14 x15 x18 x19 x20 h fun y217 h => K .normal (act 231 [(1, x1), (2, x2), (9, x9), (11, x11), (13, x13), (14, x14), (15, x15), (217, y217)]) h := kq_reg
theorem b3_rrrrrrrllrllrlrrrrrrrrr  : kCode env 3 false inv k (cp c3 16765567) (act 231 [(1, x1), (2, x2), (9, x9), (11, x11), (13, x13), (14, x14), (15, x15), (217, x217)]) h K = brV x217 (kCode env 3 false inv k (cp c3 33531134) (act 231 [(1, x1), (2, x2), (9, x9), (11, x11), (13, x13), (14, x14), (15, x15), (217, x217)]) h K) (kCode env 3 false inv k (cp c3 33531135) (act 231 [(1, x1), (2, x2), (9, x9), (11, x11), (13, x13), (14, x14), (15, x15), (217, x217)]) h K) := kq_cond
theorem r3_33  : kCode env 3 false inv k (cp c3 67062268) (act 231 [(1, x1), (2, x2), (9, x9), (11, x11), (13, x13), (14, x14), (15, x15), (217, x217)]) h K =
    K .normal (act 231 [(8, (.bool false))]) h := kq_reg
theorem r3_15  : kCode env 3 false inv k (cp c3 65491) (act 231 [(1, x1), (2, x2), (9, x9), (11, x11), (13, x13), (14, x14), (15, x15), (217, x217)]) h K =
    bnd (pBin Try.prog .add 3 (.tmp 60) (.const (.int .i64 1)) x15 (.int .i64 1)) fun x61 =>
    K .normal (act 231 [(1, x1), (2, x2), (9, x9), (11, x11), (13, x13), (14, x14), (15, x61)]) h := kq_reg
noncomputable def F3_lrlrrrrrrrrr {β : Type} (inv : Inv) (k : Nat) : Nat → Value → Value → Value → Value → Value → Value → Value → AH → (Value → Value → Value → Value → Value → Value → Value → Value → AH → Option β) → (Value → AH → Option β) → Option β
  | 0, _, _, _, _, _, _, _, _, _, _ => none
  | j + 1, x1, x2, x9, x11, x13, x14, x15, h, ke0, kr =>
    bnd (pLen Try.prog #[23] x11 h) fun x58 =>
    bnd (pBin Try.prog .lss 3 (.tmp 56) (.tmp 58) x15 x58) fun x59 =>
    brV x59
    (G3_16 inv x1 x2 x9 x11 x13 x14 x15 h fun y90 h =>
    brV y90
    (kr (.bool false) h)
    (bnd (pIndexAddr Try.prog 23 x11 x15) fun x94 =>
    bnd (pLoad Try.prog 34 x94 h) fun x95 =>
    bnd (pIndexAddr Try.prog 34 x95 x14) fun x97 =>
    bnd (pFieldAddr Try.prog 37 x97 1) fun x98 =>
    bnd (pLoad Try.prog 2 x98 h) fun x99 =>
    bnd (pBin Try.prog .add 2 (.tmp 91) (.tmp 99) x13 x99) fun x100 =>
    G3_19 inv x1 x2 x9 x11 x100 x14 x15 h fun y16 y17 h_2 =>
    G3_20 inv x1 x2 x9 x11 x100 x14 x15 y16 y17 h_2 fun y129 h_3 =>
    brV y129
    (kr (.bool false) h_3)
    (G3_22 inv x1 x2 x9 x11 x100 x14 x15 y16 y17 h_3 fun y18 y19 y20 h_4 =>
    F3_lrlrrrrrllrllrlrrrrrrrrr inv k k x1 x2 x9 x11 x100 x14 x15 y16 y17 y18 y19 y20 (.int .i64 0) h_4
    (fun y1 y2 y9 y11 y13 y14 y15 y16_8 y17_9 y18_10 y19_11 y20_12 y21 y139 h_13 =>
    G3_32 inv y1 y2 y9 y11 y13 y14 y15 y18_10 y19_11 y20_12 h_13 fun y217 h_14 =>
    brV y217
    (kr (.bool false) h_14)
    (bnd (pBin Try.prog .add 3 (.tmp 60) (.const (.int .i64 1)) y15 (.int .i64 1)) fun x61 =>
    F3_lrlrrrrrrrrr inv k j y1 y2 y9 y11 y13 y14 x61 h_14 ke0 kr))
    (fun y8 h_15 =>
    kr y8 h_15))))
    (ke0 x1 x2 x9 x11 x13 x14 x15 x59 h)
theorem F3_lrlrrrrrrrrr_j (j : Nat) : kLoop (kCode env 3 false inv k (cp c3 16372)) j (act 231 [(1, x1), (2, x2), (9, x9), (11, x11), (13, x13), (14, x14), (15, x15)]) h K = F3_lrlrrrrrrrrr inv k j x1 x2 x9 x11 x13 x14 x15 h (fun y1 y2 y9 y11 y13 y14 y15 y59 h => K (.exit 0) (act 231 [(1, y1), (2, y2), (9, y9), (11, y11), (13, y13), (14, y14), (15, y15), (59, y59)]) h) (fun y8 h => K .ret (act 231 [(8, y8)]) h) := by
      induction j generalizing x1 x2 x9 x11 x13 x14 x15 h with
      | zero => rfl
      | succ j ih =>
        unfold F3_lrlrrrrrrrrr
        simp only [kLoop, kq_seq c3 16372, kq_seq c3 32744, r3_14, b3_rlllrlrrrrrrrrr, kq_skip c3 130978, kq_seq c3 32745, kq_block c3 65490 1, kq_seq c3 130980, kq_seq c3 261960, r3_16, b3_rlllrllrlrrrrrrrrr, kq_seq c3 1047842, r3_17, kq_ret c3 2095685, kq_skip c3 1047843, kq_seq c3 261961, r3_18, kq_seq c3 523923, r3_19, kq_seq c3 1047847, kq_seq c3 2095694, r3_20, b3_rlrrrllrllrlrrrrrrrrr, kq_seq c3 8382778, r3_21, kq_ret c3 16765557, kq_skip c3 8382779, kq_seq c3 2095695, r3_22, kq_seq c3 4191391, kq_seq c3 8382782, r3_23, kq_block c3 16765565 2, F3_lrlrrrrrllrllrlrrrrrrrrr_eq, kq_seq c3 8382783, r3_32, b3_rrrrrrrllrllrlrrrrrrrrr, kq_seq c3 33531134, r3_33, kq_ret c3 67062269, kq_skip c3 33531135, r3_15, kq_exit c3 130979 0, ih, reduceIte, reduceCtorEq, XE.exit.injEq, Nat.reduceEqDiff, Nat.reduceMul, Nat.reduceAdd] <;> kernel_rfl
theorem F3_lrlrrrrrrrrr_eq  : kCode env 3 false inv k (cp c3 8186) (act 231 [(1, x1), (2, x2), (9, x9), (11, x11), (13, x13), (14, x14), (15, x15)]) h K = F3_lrlrrrrrrrrr inv k k x1 x2 x9 x11 x13 x14 x15 h (fun y1 y2 y9 y11 y13 y14 y15 y59 h => K (.exit 0) (act 231 [(1, y1), (2, y2), (9, y9), (11, y11), (13, y13), (14, y14), (15, y15), (59, y59)]) h) (fun y8 h => K .ret (act 231 [(8, y8)]) h) := kq_loop (F3_lrlrrrrrrrrr_j k)
noncomputable abbrev G3_34 {β : Type} (inv : Inv) (x1 x11 x13 x14 : Value) (h : AH) (K : Value → AH → Option β) : Option β :=
    bnd (pLen Try.prog #[23] x1 h) fun x220 =>
    bnd (pBin Try.prog .eql 2 (.tmp 218) (.tmp 220) x13 x220) fun x221 =>
    bnd (gd (some x221) true h (some (x14, h))) fun x223 =>
    bnd (gd (some x221) true x223.2 (lt (pBin Try.prog .gtr 3 (.tmp 223) (.const (.int .i64 0)) x223.1 (.int .i64 0)) x223.2)) fun x224 =>
    bnd (gd (some x221) true x224.2 (some (x224.1, x224.2))) fun x225 =>
    bnd (gd (some x225.1) false x225.2 (some (x11, x225.2))) fun x226 =>
    bnd (gd (some x225.1) false x226.2 (lt (pLen Try.prog #[23] x226.1 x226.2) x226.2)) fun x227 =>
    bnd (gd (some x225.1) false x227.2 (lt (pBin Try.prog .eql 3 (.tmp 227) (.const (.int .i64 1)) x227.1 (.int .i64 1)) x227.2)) fun x228 =>
    bnd (gd (some x221) true x228.2 (lt (pickV x225.1 (.bool true) x228.1) x228.2)) fun x229 =>
    bnd (pickV x221 x229.1 (.bool false)) fun x230 =>
    K (x230) x229.2
theorem r3_34  : kCode env 3 false inv k (cp c3 4094) (act 231 [(1, x1), (2, x2), (9, x9), (11, x11), (13, x13), (14, x14), (15, x15), (59, x59)]) h K =
    G3_34 inv x1 x11 x13 x14 h fun y8 h => K .normal (act 231 [(8, y8)]) h := kq_reg
/-- shadowbook/shadowbooklaw20.AggGroups -/
noncomputable def F3 (inv : Inv) (k : Nat) (x0 x1 x2 x3 : Value) (h : AH) : Option (Value × AH) :=
    bnd (inv (.func 9) #[] #[] h) fun x23 =>
    bnd (pUn Try.prog .not x23.1) fun x24 =>
    brV x24
    (some ((.bool false), x23.2))
    (bnd (pLen Try.prog #[22] x0 x23.2) fun x26 =>
    bnd (pBin Try.prog .eql 3 (.tmp 26) (.const (.int .i64 0)) x26 (.int .i64 0)) fun x27 =>
    brV x27
    (some ((.bool true), x23.2))
    (bnd (pLen Try.prog #[22] x0 x23.2) fun x30 =>
    bnd (inv (.func 10) #[] #[x3, x30] x23.2) fun x31 =>
    bnd (pBuild Try.prog 28 #[(0, (.int .i64 1))]) fun x32 =>
    bnd (pBuild Try.prog 28 #[(0, (.int .i64 3)), (1, x31.1)]) fun x34 =>
    bnd (pBuild Try.prog 28 #[(0, (.int .i64 4)), (1, x31.1)]) fun x36 =>
    bnd (pBuildSlice Try.prog 29 3 #[(0, x32), (1, x34), (2, x36)] x31.2) fun x37 =>
    bnd (inv (.func 11) #[] #[x0, x1, x2, x37.1] x37.2) fun x42 =>
    bnd (pUn Try.prog .not x42.1) fun x43 =>
    brV x43
    (some ((.bool true), x42.2))
    (bnd (inv (.func 12) #[] #[x0, x1, x2, x37.1] x42.2) fun x49 =>
    bnd (pExtract x49.1 0) fun x50 =>
    bnd (pExtract x49.1 1) fun x51 =>
    bnd (pBin Try.prog .neq 31 (.tmp 52) (.const (.int .i64 0)) x51 (.int .i64 0)) fun x53 =>
    brV x53
    (some ((.bool true), x49.2))
    (bnd (pLen Try.prog #[24] x2 x49.2) fun x55 =>
    F3_lrlrrrrrrrrr inv k k x1 x2 x31.1 x50 (.int .i64 0) x55 (.int .i64 0) x49.2
    (fun y1 y2 y9 y11 y13 y14 y15 y59 h =>
    G3_34 inv y1 y11 y13 y14 h fun y8 h_16 =>
    some (y8, h_16))
    (fun y8_17 h_18 =>
    some (y8_17, h_18))))))
theorem F3_eq : eFun env k inv 3 #[x0, x1, x2, x3] h = F3 inv k x0 x1 x2 x3 h := by
      refine (kq_fun (a := act 231 [(0, x0), (1, x1), (2, x2), (3, x3)]) (c := cp c3 1)).trans ?_
      unfold F3
      simp only [kq_seq c3 1, r3_0, kq_seq c3 3, kq_seq c3 6, r3_1, b3_rlr, kq_seq c3 26, r3_2, kq_ret c3 53, res3_0, kq_skip c3 27, kq_seq c3 7, kq_seq c3 14, r3_3, b3_rlrr, kq_seq c3 58, r3_4, kq_ret c3 117, kq_skip c3 59, kq_seq c3 15, r3_5, kq_seq c3 31, r3_6, kq_seq c3 63, kq_seq c3 126, r3_7, b3_rlrrrrr, kq_seq c3 506, r3_8, kq_ret c3 1013, kq_skip c3 507, kq_seq c3 127, r3_9, kq_seq c3 255, kq_seq c3 510, r3_10, b3_rlrrrrrrr, kq_seq c3 2042, r3_11, kq_ret c3 4085, kq_skip c3 2043, kq_seq c3 511, r3_12, kq_seq c3 1023, kq_seq c3 2046, r3_13, kq_block c3 4093 0, F3_lrlrrrrrrrrr_eq, kq_seq c3 2047, r3_34, kq_ret c3 4095, reduceIte, reduceCtorEq, XE.exit.injEq, Nat.reduceEqDiff, Nat.reduceMul, Nat.reduceAdd] <;> kernel_rfl
theorem F3_call : eInv env (k + 1) (.func 3) #[] #[x0, x1, x2, x3] h = F3 (eInv env k) k x0 x1 x2 x3 h := kq_inv F3_eq
noncomputable def c10 : Code := codeOf Try.prog 10
theorem r10_0  : kCode env 10 false inv k (cp c10 2) (act 17 [(0, x0), (1, x1)]) h K =
    K .normal (act 17 [(0, x0), (1, x1)]) h := kq_reg
theorem r10_1  : kCode env 10 false inv k (cp c10 12) (act 17 [(0, x0), (1, x1)]) h K =
    bnd (pBin Try.prog .lss 3 (.tmp 6) (.const (.int .i64 1)) x1 (.int .i64 1)) fun x7 =>
    K .normal (act 17 [(0, x0), (1, x1), (7, x7)]) h := kq_reg
theorem b10_rlr  : kCode env 10 false inv k (cp c10 13) (act 17 [(0, x0), (1, x1), (7, x7)]) h K = brV x7 (kCode env 10 false inv k (cp c10 26) (act 17 [(0, x0), (1, x1), (7, x7)]) h K) (kCode env 10 false inv k (cp c10 27) (act 17 [(0, x0), (1, x1), (7, x7)]) h K) := kq_cond
theorem r10_2  : kCode env 10 false inv k (cp c10 52) (act 17 [(0, x0), (1, x1), (7, x7)]) h K =
    K .normal (act 17 [(4, (.int .i64 0))]) h := kq_reg
theorem res10_0 : resOfFn env.P 10 .ret (act 17 [(4, x4)]) h = some (x4, h) := kq_res
theorem r10_3  : kCode env 10 false inv k (cp c10 14) (act 17 [(0, x0), (1, x1), (7, x7)]) h K =
    bnd (pBin Try.prog .rem 3 (.tmp 8) (.tmp 9) x0 x1) fun x10 =>
    K .normal (act 17 [(1, x1), (5, x10)]) h := kq_reg
theorem r10_4  : kCode env 10 false inv k (cp c10 60) (act 17 [(1, x1), (5, x5)]) h K =
    bnd (pBin Try.prog .lss 3 (.tmp 11) (.const (.int .i64 0)) x5 (.int .i64 0)) fun x12 =>
    K .normal (act 17 [(1, x1), (5, x5), (12, x12)]) h := kq_reg
theorem b10_rlrrr  : kCode env 10 false inv k (cp c10 61) (act 17 [(1, x1), (5, x5), (12, x12)]) h K = brV x12 (kCode env 10 false inv k (cp c10 122) (act 17 [(1, x1), (5, x5), (12, x12)]) h K) (kCode env 10 false inv k (cp c10 123) (act 17 [(1, x1), (5, x5), (12, x12)]) h K) := kq_cond
theorem r10_5  : kCode env 10 false inv k (cp c10 122) (act 17 [(1, x1), (5, x5), (12, x12)]) h K =
    bnd (pBin Try.prog .add 3 (.tmp 13) (.tmp 14) x5 x1) fun x15 =>
    K .normal (act 17 [(5, x15)]) h := kq_reg
noncomputable def F10_rlrrr {β : Type} (inv : Inv) (k : Nat) (x1 x5 x12 : Value) (h : AH) (kn : (Value → Value → Value → AH → Option β)) : Option β :=
    brV x12
    (bnd (pBin Try.prog .add 3 (.tmp 13) (.tmp 14) x5 x1) fun x15 =>
    kn unk x15 unk h)
    (kn x1 x5 x12 h)
theorem F10_rlrrr_eq  : kCode env 10 false inv k (cp c10 61) (act 17 [(1, x1), (5, x5), (12, x12)]) h K = F10_rlrrr inv k x1 x5 x12 h (fun y1 y5 y12 h => K .normal (act 17 [(1, y1), (5, y5), (12, y12)]) h) := by
      unfold F10_rlrrr
      simp only [b10_rlrrr, r10_5, kq_skip c10 123, reduceIte, reduceCtorEq, XE.exit.injEq, Nat.reduceEqDiff, Nat.reduceMul, Nat.reduceAdd] <;> kernel_rfl
theorem r10_6  : kCode env 10 false inv k (cp c10 62) (act 17 [(1, x1), (5, x5), (12, x12)]) h K =
    K .normal (act 17 [(4, x5)]) h := kq_reg
/-- shadowbook/shadowbookkit.Pick -/
noncomputable def F10 (inv : Inv) (k : Nat) (x0 x1 : Value) (h : AH) : Option (Value × AH) :=
    bnd (pBin Try.prog .lss 3 (.tmp 6) (.const (.int .i64 1)) x1 (.int .i64 1)) fun x7 =>
    brV x7
    (some ((.int .i64 0), h))
    (bnd (pBin Try.prog .rem 3 (.tmp 8) (.tmp 9) x0 x1) fun x10 =>
    bnd (pBin Try.prog .lss 3 (.tmp 11) (.const (.int .i64 0)) x10 (.int .i64 0)) fun x12 =>
    F10_rlrrr inv k x1 x10 x12 h
    (fun y1 y5 y12 h =>
    some (y5, h)))
theorem F10_eq : eFun env k inv 10 #[x0, x1] h = F10 inv k x0 x1 h := by
      refine (kq_fun (a := act 17 [(0, x0), (1, x1)]) (c := cp c10 1)).trans ?_
      unfold F10
      simp only [kq_seq c10 1, r10_0, kq_seq c10 3, kq_seq c10 6, r10_1, b10_rlr, kq_seq c10 26, r10_2, kq_ret c10 53, res10_0, kq_skip c10 27, kq_seq c10 7, r10_3, kq_seq c10 15, kq_seq c10 30, r10_4, F10_rlrrr_eq, kq_seq c10 31, r10_6, kq_ret c10 63, reduceIte, reduceCtorEq, XE.exit.injEq, Nat.reduceEqDiff, Nat.reduceMul, Nat.reduceAdd] <;> kernel_rfl
theorem F10_call : eInv env (k + 1) (.func 10) #[] #[x0, x1] h = F10 (eInv env k) k x0 x1 h := kq_inv F10_eq
noncomputable def c11 : Code := codeOf Try.prog 11
theorem r11_0  : kCode env 11 false inv k (cp c11 2) (act 25 [(0, x0), (1, x1), (2, x2), (3, x3)]) h K =
    K .normal (act 25 [(0, x0), (1, x1), (2, x2), (3, x3)]) h := kq_reg
noncomputable abbrev G11_1 {β : Type} (inv : Inv) (x0 x1 x2 x3 : Value) (h : AH) (K : Value → AH → Option β) : Option β :=
    bnd (inv (.func 33) #[] #[x0] h) fun x10 =>
    bnd (gd (some x10.1) true x10.2 (some (x1, x10.2))) fun x12 =>
    bnd (gd (some x10.1) true x12.2 (inv (.func 34) #[] #[x12.1, (.int .i64 40)] x12.2)) fun x13 =>
    bnd (pickV x10.1 x13.1 (.bool false)) fun x14 =>
    bnd (gd (some x14) true x13.2 (some (x2, x13.2))) fun x16 =>
    bnd (gd (some x14) true x16.2 (lt (pLen Try.prog #[24] x16.1 x16.2) x16.2)) fun x17 =>
    bnd (gd (some x14) true x17.2 (lt (pBin Try.prog .leq 3 (.tmp 17) (.const (.int .i64 20)) x17.1 (.int .i64 20)) x17.2)) fun x18 =>
    bnd (pickV x14 x18.1 (.bool false)) fun x19 =>
    bnd (gd (some x19) true x18.2 (some (x3, x18.2))) fun x21 =>
    bnd (gd (some x19) true x21.2 (lt (pLen Try.prog #[29] x21.1 x21.2) x21.2)) fun x22 =>
    bnd (gd (some x19) true x22.2 (lt (pBin Try.prog .leq 3 (.tmp 22) (.const (.int .i64 20)) x22.1 (.int .i64 20)) x22.2)) fun x23 =>
    bnd (pickV x19 x23.1 (.bool false)) fun x24 =>
    K (x24) x23.2
theorem r11_1  : kCode env 11 false inv k (cp c11 6) (act 25 [(0, x0), (1, x1), (2, x2), (3, x3)]) h K =
    G11_1 inv x0 x1 x2 x3 h fun y8 h => K .normal (act 25 [(8, y8)]) h := kq_reg
theorem res11_0 : resOfFn env.P 11 .ret (act 25 [(8, x8)]) h = some (x8, h) := kq_res
/-- shadowbook/shadowbooklaw20.light -/
noncomputable def F11 (inv : Inv) (k : Nat) (x0 x1 x2 x3 : Value) (h : AH) : Option (Value × AH) :=
    G11_1 inv x0 x1 x2 x3 h fun y8 h =>
    some (y8, h)
theorem F11_eq : eFun env k inv 11 #[x0, x1, x2, x3] h = F11 inv k x0 x1 x2 x3 h := by
      refine (kq_fun (a := act 25 [(0, x0), (1, x1), (2, x2), (3, x3)]) (c := cp c11 1)).trans ?_
      unfold F11
      simp only [kq_seq c11 1, r11_0, kq_seq c11 3, r11_1, kq_ret c11 7, res11_0, reduceIte, reduceCtorEq, XE.exit.injEq, Nat.reduceEqDiff, Nat.reduceMul, Nat.reduceAdd] <;> kernel_rfl
theorem F11_call : eInv env (k + 1) (.func 11) #[] #[x0, x1, x2, x3] h = F11 (eInv env k) k x0 x1 x2 x3 h := kq_inv F11_eq
noncomputable def c12 : Code := codeOf Try.prog 12
theorem r12_0  : kCode env 12 false inv k (cp c12 2) (act 38 [(0, x0), (1, x1), (2, x2), (3, x3)]) h K =
    K .normal (act 38 [(0, x0), (1, x1), (2, x2), (3, x3)]) h := kq_reg
theorem r12_1  : kCode env 12 false inv k (cp c12 6) (act 38 [(0, x0), (1, x1), (2, x2), (3, x3)]) h K =
    bnd (inv (.func 18) #[] #[x0, x2, x3] h) fun x18 =>
    bnd (pExtract x18.1 0) fun x19 =>
    bnd (pExtract x18.1 1) fun x20 =>
    K .normal (act 38 [(1, x1), (10, x19), (11, x20)]) x18.2 := kq_reg
theorem r12_2  : kCode env 12 false inv k (cp c12 28) (act 38 [(1, x1), (10, x10), (11, x11)]) h K =
    bnd (pLen Try.prog #[23] x1 h) fun x22 =>
    K .normal (act 38 [(10, x10), (11, x11), (21, x1), (22, x22), (23, (.int .i64 0))]) h := kq_reg
theorem r12_3  : kCode env 12 false inv k (cp c12 232) (act 38 [(10, x10), (11, x11), (21, x21), (22, x22), (23, x23)]) h K =
    bnd (pBin Try.prog .lss 3 (.tmp 23) (.tmp 22) x23 x22) fun x24 =>
    K .normal (act 38 [(10, x10), (11, x11), (21, x21), (22, x22), (23, x23), (24, x24)]) h := kq_reg
theorem b12_lrllrlrr  : kCode env 12 false inv k (cp c12 466) (act 38 [(10, x10), (11, x11), (21, x21), (22, x22), (23, x23), (24, x24)]) h K = brV x24 (kCode env 12 false inv k (cp c12 932) (act 38 [(10, x10), (11, x11), (21, x21), (22, x22), (23, x23), (24, x24)]) h K) (kCode env 12 false inv k (cp c12 933) (act 38 [(10, x10), (11, x11), (21, x21), (22, x22), (23, x23), (24, x24)]) h K) := kq_cond
theorem r12_4  : kCode env 12 false inv k (cp c12 3736) (act 38 [(10, x10), (11, x11), (21, x21), (22, x22), (23, x23), (24, x24)]) h K =
    bnd (pIndexAddr Try.prog 23 x21 x23) fun x25 =>
    bnd (pLoad Try.prog 34 x25 h) fun x26 =>
    K .normal (act 38 [(10, x10), (11, x11), (13, x26), (21, x21), (22, x22), (23, x23)]) h := kq_reg
theorem r12_5  : kCode env 12 false inv k (cp c12 14948) (act 38 [(10, x10), (11, x11), (13, x13), (21, x21), (22, x22), (23, x23)]) h K =
    bnd (pBin Try.prog .neq 31 (.tmp 27) (.const (.int .i64 0)) x11 (.int .i64 0)) fun x28 =>
    K .normal (act 38 [(10, x10), (11, x11), (13, x13), (21, x21), (22, x22), (23, x23), (28, x28)]) h := kq_reg
theorem b12_rlrllrrllrlrr  : kCode env 12 false inv k (cp c12 14949) (act 38 [(10, x10), (11, x11), (13, x13), (21, x21), (22, x22), (23, x23), (28, x28)]) h K = brV x28 (kCode env 12 false inv k (cp c12 29898) (act 38 [(10, x10), (11, x11), (13, x13), (21, x21), (22, x22), (23, x23), (28, x28)]) h K) (kCode env 12 false inv k (cp c12 29899) (act 38 [(10, x10), (11, x11), (13, x13), (21, x21), (22, x22), (23, x23), (28, x28)]) h K) := kq_cond
theorem r12_6  : kCode env 12 false inv k (cp c12 7475) (act 38 [(10, x10), (11, x11), (13, x13), (21, x21), (22, x22), (23, x23), (28, x28)]) h K =
    bnd (inv (.func 21) #[] #[x10, x13] h) fun x31 =>
    K .normal (act 38 [(10, x10), (11, x31.1), (21, x21), (22, x22), (23, x23)]) x31.2 := kq_reg
theorem r12_7  : kCode env 12 false inv k (cp c12 935) (act 38 [(10, x10), (11, x11), (21, x21), (22, x22), (23, x23)]) h K =
    bnd (pBin Try.prog .add 3 (.tmp 23) (.const (.int .i64 1)) x23 (.int .i64 1)) fun x32 =>
    K .normal (act 38 [(10, x10), (11, x11), (21, x21), (22, x22), (23, x32)]) h := kq_reg
noncomputable def F12_lrlrr {β : Type} (inv : Inv) (k : Nat) : Nat → Value → Value → Value → Value → Value → AH → (Value → Value → Value → Value → Value → Value → Value → Value → AH → Option β) → Option β
  | 0, _, _, _, _, _, _, _ => none
  | j + 1, x10, x11, x21, x22, x23, h, ke0 =>
    bnd (pBin Try.prog .lss 3 (.tmp 23) (.tmp 22) x23 x22) fun x24 =>
    brV x24
    (bnd (pIndexAddr Try.prog 23 x21 x23) fun x25 =>
    bnd (pLoad Try.prog 34 x25 h) fun x26 =>
    bnd (pBin Try.prog .neq 31 (.tmp 27) (.const (.int .i64 0)) x11 (.int .i64 0)) fun x28 =>
    brV x28
    (ke0 x10 x11 x26 x21 x22 x23 unk x28 h)
    (bnd (inv (.func 21) #[] #[x10, x26] h) fun x31 =>
    bnd (pBin Try.prog .add 3 (.tmp 23) (.const (.int .i64 1)) x23 (.int .i64 1)) fun x32 =>
    F12_lrlrr inv k j x10 x31.1 x21 x22 x32 x31.2 ke0))
    (ke0 x10 x11 unk x21 x22 x23 x24 unk h)
theorem F12_lrlrr_j (j : Nat) : kLoop (kCode env 12 false inv k (cp c12 116)) j (act 38 [(10, x10), (11, x11), (21, x21), (22, x22), (23, x23)]) h K = F12_lrlrr inv k j x10 x11 x21 x22 x23 h (fun y10 y11 y13 y21 y22 y23 y24 y28 h => K (.exit 0) (act 38 [(10, y10), (11, y11), (13, y13), (21, y21), (22, y22), (23, y23), (24, y24), (28, y28)]) h) := by
      induction j generalizing x10 x11 x21 x22 x23 h with
      | zero => rfl
      | succ j ih =>
        unfold F12_lrlrr
        simp only [kLoop, kq_seq c12 116, r12_3, kq_seq c12 233, b12_lrllrlrr, kq_skip c12 932, kq_seq c12 467, kq_block c12 934 1, kq_seq c12 1868, r12_4, kq_seq c12 3737, kq_seq c12 7474, r12_5, b12_rlrllrrllrlrr, kq_exit c12 29898 0, kq_skip c12 29899, r12_6, r12_7, kq_exit c12 933 0, ih, reduceIte, reduceCtorEq, XE.exit.injEq, Nat.reduceEqDiff, Nat.reduceMul, Nat.reduceAdd] <;> kernel_rfl
theorem F12_lrlrr_eq  : kCode env 12 false inv k (cp c12 58) (act 38 [(10, x10), (11, x11), (21, x21), (22, x22), (23, x23)]) h K = F12_lrlrr inv k k x10 x11 x21 x22 x23 h (fun y10 y11 y13 y21 y22 y23 y24 y28 h => K (.exit 0) (act 38 [(10, y10), (11, y11), (13, y13), (21, y21), (22, y22), (23, y23), (24, y24), (28, y28)]) h) := kq_loop (F12_lrlrr_j k)
noncomputable def F12_rlrr {β : Type} (inv : Inv) (k : Nat) (x10 x11 x21 x22 x23 : Value) (h : AH) (kn : (Value → Value → Value → Value → Value → Value → Value → Value → AH → Option β)) : Option β :=
    F12_lrlrr inv k k x10 x11 x21 x22 x23 h
    (fun y10 y11 y13 y21 y22 y23 y24 y28 h =>
    kn y10 y11 y13 y21 y22 y23 y24 y28 h)
theorem F12_rlrr_eq  : kCode env 12 false inv k (cp c12 29) (act 38 [(10, x10), (11, x11), (21, x21), (22, x22), (23, x23)]) h K = F12_rlrr inv k x10 x11 x21 x22 x23 h (fun y10 y11 y13 y21 y22 y23 y24 y28 h => K .normal (act 38 [(10, y10), (11, y11), (13, y13), (21, y21), (22, y22), (23, y23), (24, y24), (28, y28)]) h) := by
      unfold F12_rlrr
      simp only [kq_block c12 29 0, F12_lrlrr_eq, reduceIte, reduceCtorEq, XE.exit.injEq, Nat.reduceEqDiff, Nat.reduceMul, Nat.reduceAdd] <;> kernel_rfl
theorem r12_8  : kCode env 12 false inv k (cp c12 60) (act 38 [(10, x10), (11, x11), (13, x13), (21, x21), (22, x22), (23, x23), (24, x24), (28, x28)]) h K =
    bnd (pBin Try.prog .neq 31 (.tmp 33) (.const (.int .i64 0)) x11 (.int .i64 0)) fun x34 =>
    K .normal (act 38 [(10, x10), (11, x11), (34, x34)]) h := kq_reg
theorem b12_rlrrr  : kCode env 12 false inv k (cp c12 61) (act 38 [(10, x10), (11, x11), (34, x34)]) h K = brV x34 (kCode env 12 false inv k (cp c12 122) (act 38 [(10, x10), (11, x11), (34, x34)]) h K) (kCode env 12 false inv k (cp c12 123) (act 38 [(10, x10), (11, x11), (34, x34)]) h K) := kq_cond
theorem r12_9  : kCode env 12 false inv k (cp c12 244) (act 38 [(10, x10), (11, x11), (34, x34)]) h K =
    K .normal (act 38 [(8, (.slice none 0 0)), (9, x11)]) h := kq_reg
theorem res12_0 : resOfFn env.P 12 .ret (act 38 [(8, x8), (9, x9)]) h = some (.tuple #[x8, x9], h) := kq_res
theorem r12_10  : kCode env 12 false inv k (cp c12 62) (act 38 [(10, x10), (11, x11), (34, x34)]) h K =
    bnd (inv (.func 24) #[] #[x10] h) fun x37 =>
    K .normal (act 38 [(8, x37.1), (9, (.int .i64 0))]) x37.2 := kq_reg
/-- shadowbook/agg.Of -/
noncomputable def F12 (inv : Inv) (k : Nat) (x0 x1 x2 x3 : Value) (h : AH) : Option (Value × AH) :=
    bnd (inv (.func 18) #[] #[x0, x2, x3] h) fun x18 =>
    bnd (pExtract x18.1 0) fun x19 =>
    bnd (pExtract x18.1 1) fun x20 =>
    bnd (pLen Try.prog #[23] x1 x18.2) fun x22 =>
    F12_rlrr inv k x19 x20 x1 x22 (.int .i64 0) x18.2
    (fun y10 y11 y13 y21 y22 y23 y24 y28 h =>
    bnd (pBin Try.prog .neq 31 (.tmp 33) (.const (.int .i64 0)) y11 (.int .i64 0)) fun x34 =>
    brV x34
    (some (.tuple #[(.slice none 0 0), y11], h))
    (bnd (inv (.func 24) #[] #[y10] h) fun x37 =>
    some (.tuple #[x37.1, (.int .i64 0)], x37.2)))
theorem F12_eq : eFun env k inv 12 #[x0, x1, x2, x3] h = F12 inv k x0 x1 x2 x3 h := by
      refine (kq_fun (a := act 38 [(0, x0), (1, x1), (2, x2), (3, x3)]) (c := cp c12 1)).trans ?_
      unfold F12
      simp only [kq_seq c12 1, r12_0, kq_seq c12 3, r12_1, kq_seq c12 7, kq_seq c12 14, r12_2, F12_rlrr_eq, kq_seq c12 15, kq_seq c12 30, r12_8, b12_rlrrr, kq_seq c12 122, r12_9, kq_ret c12 245, res12_0, kq_skip c12 123, kq_seq c12 31, r12_10, kq_ret c12 63, reduceIte, reduceCtorEq, XE.exit.injEq, Nat.reduceEqDiff, Nat.reduceMul, Nat.reduceAdd] <;> kernel_rfl
theorem F12_call : eInv env (k + 1) (.func 12) #[] #[x0, x1, x2, x3] h = F12 (eInv env k) k x0 x1 x2 x3 h := kq_inv F12_eq
noncomputable def c13 : Code := codeOf Try.prog 13
theorem r13_0  : kCode env 13 false inv k (cp c13 2) (act 42 [(0, x0), (1, x1)]) h K =
    K .normal (act 42 [(0, x0), (1, x1)]) h := kq_reg
theorem r13_1  : kCode env 13 false inv k (cp c13 12) (act 42 [(0, x0), (1, x1)]) h K =
    K .normal (act 42 [(0, x0), (1, x1), (5, (.int .i64 0))]) h := kq_reg
noncomputable abbrev G13_2 {β : Type} (inv : Inv) (x0 x1 x5 : Value) (h : AH) (K : Value → AH → Option β) : Option β :=
    bnd (pLen Try.prog #[34] x0 h) fun x9 =>
    bnd (pBin Try.prog .lss 3 (.tmp 7) (.tmp 9) x5 x9) fun x10 =>
    bnd (gd (some x10) true h (some (x5, h))) fun x12 =>
    bnd (gd (some x10) true x12.2 (some (x1, x12.2))) fun x13 =>
    bnd (gd (some x10) true x13.2 (lt (pLen Try.prog #[34] x13.1 x13.2) x13.2)) fun x14 =>
    bnd (gd (some x10) true x14.2 (lt (pBin Try.prog .lss 3 (.tmp 12) (.tmp 14) x12.1 x14.1) x14.2)) fun x15 =>
    bnd (pickV x10 x15.1 (.bool false)) fun x16 =>
    K (x16) x15.2
theorem r13_2  : kCode env 13 false inv k (cp c13 208) (act 42 [(0, x0), (1, x1), (5, x5)]) h K =
    G13_2 inv x0 x1 x5 h fun y16 h => K .normal (act 42 [(0, x0), (1, x1), (5, x5), (16, y16)]) h := kq_reg
theorem b13_rlllrlr  : kCode env 13 false inv k (cp c13 209) (act 42 [(0, x0), (1, x1), (5, x5), (16, x16)]) h K = brV x16 (kCode env 13 false inv k (cp c13 418) (act 42 [(0, x0), (1, x1), (5, x5), (16, x16)]) h K) (kCode env 13 false inv k (cp c13 419) (act 42 [(0, x0), (1, x1), (5, x5), (16, x16)]) h K) := kq_cond
theorem r13_4  : kCode env 13 false inv k (cp c13 840) (act 42 [(0, x0), (1, x1), (5, x5), (16, x16)]) h K =
    bnd (pIndexAddr Try.prog 34 x0 x5) fun x21 =>
    bnd (pLoad Try.prog 37 x21 h) fun x22 =>
    bnd (pIndexAddr Try.prog 34 x1 x5) fun x25 =>
    bnd (pLoad Try.prog 37 x25 h) fun x26 =>
    bnd (inv (.func 14) #[] #[x22, x26] h) fun x27 =>
    K .normal (act 42 [(0, x0), (1, x1), (5, x5), (6, x27.1)]) x27.2 := kq_draw
theorem r13_5  : kCode env 13 false inv k (cp c13 1682) (act 42 [(0, x0), (1, x1), (5, x5), (6, x6)]) h K =
    bnd (pBin Try.prog .neq 3 (.tmp 28) (.const (.int .i64 0)) x6 (.int .i64 0)) fun x29 =>
    K .normal (act 42 [(0, x0), (1, x1), (5, x5), (6, x6), (29, x29)]) h := kq_reg
theorem b13_rrllrllrlr  : kCode env 13 false inv k (cp c13 1683) (act 42 [(0, x0), (1, x1), (5, x5), (6, x6), (29, x29)]) h K = brV x29 (kCode env 13 false inv k (cp c13 3366) (act 42 [(0, x0), (1, x1), (5, x5), (6, x6), (29, x29)]) h K) (kCode env 13 false inv k (cp c13 3367) (act 42 [(0, x0), (1, x1), (5, x5), (6, x6), (29, x29)]) h K) := kq_cond
theorem r13_6  : kCode env 13 false inv k (cp c13 6732) (act 42 [(0, x0), (1, x1), (5, x5), (6, x6), (29, x29)]) h K =
    K .normal (act 42 [(4, x6)]) h := kq_reg
theorem r13_3  : kCode env 13 false inv k (cp c13 211) (act 42 [(0, x0), (1, x1), (5, x5), (6, x6), (29, x29)]) h K =
    bnd (pBin Try.prog .add 3 (.tmp 17) (.const (.int .i64 1)) x5 (.int .i64 1)) fun x18 =>
    K .normal (act 42 [(0, x0), (1, x1), (5, x18)]) h := kq_reg
noncomputable def F13_lrlr {β : Type} (inv : Inv) (k : Nat) : Nat → Value → Value → Value → AH → (Value → Value → Value → Value → AH → Option β) → (Value → AH → Option β) → Option β
  | 0, _, _, _, _, _, _ => none
  | j + 1, x0, x1, x5, h, ke0, kr =>
    G13_2 inv x0 x1 x5 h fun y16 h =>
    brV y16
    (bnd (pIndexAddr Try.prog 34 x0 x5) fun x21 =>
    bnd (pLoad Try.prog 37 x21 h) fun x22 =>
    bnd (pIndexAddr Try.prog 34 x1 x5) fun x25 =>
    bnd (pLoad Try.prog 37 x25 h) fun x26 =>
    bnd (inv (.func 14) #[] #[x22, x26] h) fun x27 =>
    bnd (pBin Try.prog .neq 3 (.tmp 28) (.const (.int .i64 0)) x27.1 (.int .i64 0)) fun x29 =>
    brV x29
    (kr x27.1 x27.2)
    (bnd (pBin Try.prog .add 3 (.tmp 17) (.const (.int .i64 1)) x5 (.int .i64 1)) fun x18 =>
    F13_lrlr inv k j x0 x1 x18 x27.2 ke0 kr))
    (ke0 x0 x1 x5 y16 h)
theorem F13_lrlr_j (j : Nat) : kLoop (kCode env 13 false inv k (cp c13 52)) j (act 42 [(0, x0), (1, x1), (5, x5)]) h K = F13_lrlr inv k j x0 x1 x5 h (fun y0 y1 y5 y16 h => K (.exit 0) (act 42 [(0, y0), (1, y1), (5, y5), (16, y16)]) h) (fun y4 h => K .ret (act 42 [(4, y4)]) h) := by
      induction j generalizing x0 x1 x5 h with
      | zero => rfl
      | succ j ih =>
        unfold F13_lrlr
        simp only [kLoop, kq_seq c13 52, kq_seq c13 104, r13_2, b13_rlllrlr, kq_skip c13 418, kq_seq c13 105, kq_block c13 210 1, kq_seq c13 420, r13_4, kq_seq c13 841, r13_5, b13_rrllrllrlr, kq_seq c13 3366, r13_6, kq_ret c13 6733, kq_skip c13 3367, r13_3, kq_exit c13 419 0, ih, reduceIte, reduceCtorEq, XE.exit.injEq, Nat.reduceEqDiff, Nat.reduceMul, Nat.reduceAdd] <;> kernel_rfl
theorem F13_lrlr_eq  : kCode env 13 false inv k (cp c13 26) (act 42 [(0, x0), (1, x1), (5, x5)]) h K = F13_lrlr inv k k x0 x1 x5 h (fun y0 y1 y5 y16 h => K (.exit 0) (act 42 [(0, y0), (1, y1), (5, y5), (16, y16)]) h) (fun y4 h => K .ret (act 42 [(4, y4)]) h) := kq_loop (F13_lrlr_j k)
theorem r13_7  : kCode env 13 false inv k (cp c13 14) (act 42 [(0, x0), (1, x1), (5, x5), (16, x16)]) h K =
    bnd (pLen Try.prog #[34] x0 h) fun x32 =>
    bnd (pLen Try.prog #[34] x1 h) fun x34 =>
    bnd (pBin Try.prog .lss 3 (.tmp 32) (.tmp 34) x32 x34) fun x35 =>
    bnd (pLen Try.prog #[34] x0 h) fun x37 =>
    bnd (pLen Try.prog #[34] x1 h) fun x39 =>
    bnd (pBin Try.prog .gtr 3 (.tmp 37) (.tmp 39) x37 x39) fun x40 =>
    bnd (inv (.func 35) #[] #[x35, x40] h) fun x41 =>
    K .normal (act 42 [(4, x41.1)]) x41.2 := kq_reg
theorem res13_0 : resOfFn env.P 13 .ret (act 42 [(4, x4)]) h = some (x4, h) := kq_res
/-- shadowbook/shadowbookref16.Rows -/
noncomputable def F13 (inv : Inv) (k : Nat) (x0 x1 : Value) (h : AH) : Option (Value × AH) :=
    F13_lrlr inv k k x0 x1 (.int .i64 0) h
    (fun y0 y1 y5 y16 h =>
    bnd (pLen Try.prog #[34] y0 h) fun x32 =>
    bnd (pLen Try.prog #[34] y1 h) fun x34 =>
    bnd (pBin Try.prog .lss 3 (.tmp 32) (.tmp 34) x32 x34) fun x35 =>
    bnd (pLen Try.prog #[34] y0 h) fun x37 =>
    bnd (pLen Try.prog #[34] y1 h) fun x39 =>
    bnd (pBin Try.prog .gtr 3 (.tmp 37) (.tmp 39) x37 x39) fun x40 =>
    bnd (inv (.func 35) #[] #[x35, x40] h) fun x41 =>
    some (x41.1, x41.2))
    (fun y4 h_1 =>
    some (y4, h_1))
theorem F13_eq : eFun env k inv 13 #[x0, x1] h = F13 inv k x0 x1 h := by
      refine (kq_fun (a := act 42 [(0, x0), (1, x1)]) (c := cp c13 1)).trans ?_
      unfold F13
      simp only [kq_seq c13 1, r13_0, kq_seq c13 3, kq_seq c13 6, r13_1, kq_block c13 13 0, F13_lrlr_eq, kq_seq c13 7, r13_7, kq_ret c13 15, res13_0, reduceIte, reduceCtorEq, XE.exit.injEq, Nat.reduceEqDiff, Nat.reduceMul, Nat.reduceAdd] <;> kernel_rfl
theorem F13_call : eInv env (k + 1) (.func 13) #[] #[x0, x1] h = F13 (eInv env k) k x0 x1 h := kq_inv F13_eq
noncomputable def c14 : Code := codeOf Try.prog 14
theorem r14_0  : kCode env 14 false inv k (cp c14 2) (act 40 [(0, x0), (1, x1)]) h K =
    bnd (pBox Try.prog 37 x0 h) fun x2 =>
    bnd (pBox Try.prog 37 x1 x2.2) fun x3 =>
    K .normal (act 40 [(2, x2.1), (3, x3.1)]) x3.2 := kq_reg
theorem r14_1  : kCode env 14 false inv k (cp c14 24) (act 40 [(2, x2), (3, x3)]) h K =
    bnd (pFieldAddr Try.prog 37 x2 0) fun x6 =>
    bnd (pLoad Try.prog 3 x6 h) fun x7 =>
    bnd (pFieldAddr Try.prog 37 x3 0) fun x8 =>
    bnd (pLoad Try.prog 3 x8 h) fun x9 =>
    bnd (pBin Try.prog .neq 3 (.tmp 7) (.tmp 9) x7 x9) fun x10 =>
    K .normal (act 40 [(2, x2), (3, x3), (5, x10)]) h := kq_reg
theorem b14_rllr  : kCode env 14 false inv k (cp c14 25) (act 40 [(2, x2), (3, x3), (5, x5)]) h K = brV x5 (kCode env 14 false inv k (cp c14 50) (act 40 [(2, x2), (3, x3), (5, x5)]) h K) (kCode env 14 false inv k (cp c14 51) (act 40 [(2, x2), (3, x3), (5, x5)]) h K) := kq_cond
theorem r14_2  : kCode env 14 false inv k (cp c14 100) (act 40 [(2, x2), (3, x3), (5, x5)]) h K =
    bnd (pFieldAddr Try.prog 37 x2 0) fun x11 =>
    bnd (pLoad Try.prog 3 x11 h) fun x12 =>
    bnd (pFieldAddr Try.prog 37 x3 0) fun x13 =>
    bnd (pLoad Try.prog 3 x13 h) fun x14 =>
    bnd (pBin Try.prog .lss 3 (.tmp 12) (.tmp 14) x12 x14) fun x15 =>
    bnd (inv (.func 35) #[] #[x15, (.bool true)] h) fun x16 =>
    K .normal (act 40 [(4, x16.1)]) x16.2 := kq_reg
theorem res14_0 : resOfFn env.P 14 .ret (act 40 [(4, x4)]) h = some (x4, h) := kq_res
theorem r14_3  : kCode env 14 false inv k (cp c14 102) (act 40 [(2, x2), (3, x3), (5, x5)]) h K =
    bnd (pFieldAddr Try.prog 37 x2 1) fun x18 =>
    bnd (pLoad Try.prog 2 x18 h) fun x19 =>
    bnd (pFieldAddr Try.prog 37 x3 1) fun x20 =>
    bnd (pLoad Try.prog 2 x20 h) fun x21 =>
    bnd (pBin Try.prog .neq 2 (.tmp 19) (.tmp 21) x19 x21) fun x22 =>
    K .normal (act 40 [(2, x2), (3, x3), (17, x22)]) h := kq_reg
theorem b14_rrrllr  : kCode env 14 false inv k (cp c14 103) (act 40 [(2, x2), (3, x3), (17, x17)]) h K = brV x17 (kCode env 14 false inv k (cp c14 206) (act 40 [(2, x2), (3, x3), (17, x17)]) h K) (kCode env 14 false inv k (cp c14 207) (act 40 [(2, x2), (3, x3), (17, x17)]) h K) := kq_cond
theorem r14_4  : kCode env 14 false inv k (cp c14 412) (act 40 [(2, x2), (3, x3), (17, x17)]) h K =
    bnd (pFieldAddr Try.prog 37 x2 1) fun x23 =>
    bnd (pLoad Try.prog 2 x23 h) fun x24 =>
    bnd (pFieldAddr Try.prog 37 x3 1) fun x25 =>
    bnd (pLoad Try.prog 2 x25 h) fun x26 =>
    bnd (pBin Try.prog .lss 2 (.tmp 24) (.tmp 26) x24 x26) fun x27 =>
    bnd (inv (.func 35) #[] #[x27, (.bool true)] h) fun x28 =>
    K .normal (act 40 [(4, x28.1)]) x28.2 := kq_reg
noncomputable abbrev G14_5 {β : Type} (inv : Inv) (x2 x3 : Value) (h : AH) (K : Value → AH → Option β) : Option β :=
    bnd (pFieldAddr Try.prog 37 x2 2) fun x29 =>
    bnd (pLoad Try.prog 9 x29 h) fun x30 =>
    bnd (pFieldAddr Try.prog 37 x3 2) fun x31 =>
    bnd (pLoad Try.prog 9 x31 h) fun x32 =>
    bnd (pBin Try.prog .lss 9 (.tmp 30) (.tmp 32) x30 x32) fun x33 =>
    bnd (pFieldAddr Try.prog 37 x2 2) fun x34 =>
    bnd (pLoad Try.prog 9 x34 h) fun x35 =>
    bnd (pFieldAddr Try.prog 37 x3 2) fun x36 =>
    bnd (pLoad Try.prog 9 x36 h) fun x37 =>
    bnd (pBin Try.prog .gtr 9 (.tmp 35) (.tmp 37) x35 x37) fun x38 =>
    bnd (inv (.func 35) #[] #[x33, x38] h) fun x39 =>
    K (x39.1) x39.2
theorem r14_5  : kCode env 14 false inv k (cp c14 14) (act 40 [(2, x2), (3, x3), (17, x17)]) h K =
    G14_5 inv x2 x3 h fun y4 h => K .normal (act 40 [(4, y4)]) h := kq_reg
/-- shadowbook/shadowbookref16.Compare -/
noncomputable def F14 (inv : Inv) (k : Nat) (x0 x1 : Value) (h : AH) : Option (Value × AH) :=
    bnd (pBox Try.prog 37 x0 h) fun x2 =>
    bnd (pBox Try.prog 37 x1 x2.2) fun x3 =>
    bnd (pFieldAddr Try.prog 37 x2.1 0) fun x6 =>
    bnd (pLoad Try.prog 3 x6 x3.2) fun x7 =>
    bnd (pFieldAddr Try.prog 37 x3.1 0) fun x8 =>
    bnd (pLoad Try.prog 3 x8 x3.2) fun x9 =>
    bnd (pBin Try.prog .neq 3 (.tmp 7) (.tmp 9) x7 x9) fun x10 =>
    brV x10
    (bnd (pFieldAddr Try.prog 37 x2.1 0) fun x11 =>
    bnd (pLoad Try.prog 3 x11 x3.2) fun x12 =>
    bnd (pFieldAddr Try.prog 37 x3.1 0) fun x13 =>
    bnd (pLoad Try.prog 3 x13 x3.2) fun x14 =>
    bnd (pBin Try.prog .lss 3 (.tmp 12) (.tmp 14) x12 x14) fun x15 =>
    bnd (inv (.func 35) #[] #[x15, (.bool true)] x3.2) fun x16 =>
    some (x16.1, x16.2))
    (bnd (pFieldAddr Try.prog 37 x2.1 1) fun x18 =>
    bnd (pLoad Try.prog 2 x18 x3.2) fun x19 =>
    bnd (pFieldAddr Try.prog 37 x3.1 1) fun x20 =>
    bnd (pLoad Try.prog 2 x20 x3.2) fun x21 =>
    bnd (pBin Try.prog .neq 2 (.tmp 19) (.tmp 21) x19 x21) fun x22 =>
    brV x22
    (bnd (pFieldAddr Try.prog 37 x2.1 1) fun x23 =>
    bnd (pLoad Try.prog 2 x23 x3.2) fun x24 =>
    bnd (pFieldAddr Try.prog 37 x3.1 1) fun x25 =>
    bnd (pLoad Try.prog 2 x25 x3.2) fun x26 =>
    bnd (pBin Try.prog .lss 2 (.tmp 24) (.tmp 26) x24 x26) fun x27 =>
    bnd (inv (.func 35) #[] #[x27, (.bool true)] x3.2) fun x28 =>
    some (x28.1, x28.2))
    (G14_5 inv x2.1 x3.1 x3.2 fun y4 h =>
    some (y4, h)))
theorem F14_eq : eFun env k inv 14 #[x0, x1] h = F14 inv k x0 x1 h := by
      refine (kq_fun (a := act 40 [(0, x0), (1, x1)]) (c := cp c14 1)).trans ?_
      unfold F14
      simp only [kq_seq c14 1, r14_0, kq_seq c14 3, kq_block c14 6 0, kq_seq c14 12, r14_1, b14_rllr, kq_seq c14 50, r14_2, kq_ret c14 101, res14_0, kq_seq c14 51, r14_3, b14_rrrllr, kq_seq c14 206, r14_4, kq_ret c14 413, kq_skip c14 207, kq_seq c14 7, r14_5, kq_ret c14 15, reduceIte, reduceCtorEq, XE.exit.injEq, Nat.reduceEqDiff, Nat.reduceMul, Nat.reduceAdd] <;> kernel_rfl
theorem F14_call : eInv env (k + 1) (.func 14) #[] #[x0, x1] h = F14 (eInv env k) k x0 x1 h := kq_inv F14_eq
noncomputable def c15 : Code := codeOf Try.prog 15
theorem r15_0  : kCode env 15 false inv k (cp c15 2) (act 41 [(0, x0), (1, x1)]) h K =
    K .normal (act 41 [(0, x0), (1, x1)]) h := kq_reg
theorem r15_1  : kCode env 15 false inv k (cp c15 6) (act 41 [(0, x0), (1, x1)]) h K =
    K .normal (act 41 [(0, x0), (1, x1), (5, (.slice none 0 0))]) h := kq_reg
theorem r15_2  : kCode env 15 false inv k (cp c15 28) (act 41 [(0, x0), (1, x1), (5, x5)]) h K =
    K .normal (act 41 [(0, x0), (1, x1), (5, x5), (6, (.int .i64 0))]) h := kq_reg
theorem r15_3  : kCode env 15 false inv k (cp c15 464) (act 41 [(0, x0), (1, x1), (5, x5), (6, x6)]) h K =
    bnd (pLen Try.prog #[24] x1 h) fun x10 =>
    bnd (pBin Try.prog .lss 3 (.tmp 8) (.tmp 10) x6 x10) fun x11 =>
    K .normal (act 41 [(0, x0), (1, x1), (5, x5), (6, x6), (11, x11)]) h := kq_reg
theorem b15_rlllrlrr  : kCode env 15 false inv k (cp c15 465) (act 41 [(0, x0), (1, x1), (5, x5), (6, x6), (11, x11)]) h K = brV x11 (kCode env 15 false inv k (cp c15 930) (act 41 [(0, x0), (1, x1), (5, x5), (6, x6), (11, x11)]) h K) (kCode env 15 false inv k (cp c15 931) (act 41 [(0, x0), (1, x1), (5, x5), (6, x6), (11, x11)]) h K) := kq_cond
theorem r15_5  : kCode env 15 false inv k (cp c15 1864) (act 41 [(0, x0), (1, x1), (5, x5), (6, x6), (11, x11)]) h K =
    bnd (pBuild Try.prog 37 #[]) fun x14 =>
    bnd (pAlloc Try.prog 37 h) fun x7 =>
    bnd (kSt (pStore Try.prog 37 x7.1 x14 x7.2)) fun u =>
    K .normal (act 41 [(0, x0), (1, x1), (5, x5), (6, x6), (7, x7.1)]) u.2 := kq_reg
noncomputable abbrev G15_6 {β : Type} (inv : Inv) (x0 x1 x5 x6 x7 : Value) (h : AH) (K : Value → AH → Option β) : Option β :=
    bnd (pIndexAddr Try.prog 24 x1 x6) fun x17 =>
    bnd (pLoad Try.prog 3 x17 h) fun x18 =>
    bnd (pBin Try.prog .geq 3 (.tmp 18) (.const (.int .i64 0)) x18 (.int .i64 0)) fun x19 =>
    bnd (gd (some x19) true h (some (x1, h))) fun x21 =>
    bnd (gd (some x19) true x21.2 (some (x6, x21.2))) fun x22 =>
    bnd (gd (some x19) true x22.2 (lt (pIndexAddr Try.prog 24 x21.1 x22.1) x22.2)) fun x23 =>
    bnd (gd (some x19) true x23.2 (lt (pLoad Try.prog 3 x23.1 x23.2) x23.2)) fun x24 =>
    bnd (gd (some x19) true x24.2 (some (x0, x24.2))) fun x25 =>
    bnd (gd (some x19) true x25.2 (lt (pLen Try.prog #[34] x25.1 x25.2) x25.2)) fun x26 =>
    bnd (gd (some x19) true x26.2 (lt (pBin Try.prog .lss 3 (.tmp 24) (.tmp 26) x24.1 x26.1) x26.2)) fun x27 =>
    bnd (pickV x19 x27.1 (.bool false)) fun x28 =>
    K (x28) x27.2
theorem r15_6  : kCode env 15 false inv k (cp c15 7460) (act 41 [(0, x0), (1, x1), (5, x5), (6, x6), (7, x7)]) h K =
    G15_6 inv x0 x1 x5 x6 x7 h fun y28 h => K .normal (act 41 [(0, x0), (1, x1), (5, x5), (6, x6), (7, x7), (28, y28)]) h := kq_reg
theorem b15_rlrllrllrlrr  : kCode env 15 false inv k (cp c15 7461) (act 41 [(0, x0), (1, x1), (5, x5), (6, x6), (7, x7), (28, x28)]) h K = brV x28 (kCode env 15 false inv k (cp c15 14922) (act 41 [(0, x0), (1, x1), (5, x5), (6, x6), (7, x7), (28, x28)]) h K) (kCode env 15 false inv k (cp c15 14923) (act 41 [(0, x0), (1, x1), (5, x5), (6, x6), (7, x7), (28, x28)]) h K) := kq_cond
theorem r15_7  : kCode env 15 false inv k (cp c15 14922) (act 41 [(0, x0), (1, x1), (5, x5), (6, x6), (7, x7), (28, x28)]) h K =
    bnd (pIndexAddr Try.prog 24 x1 x6) fun x32 =>
    bnd (pLoad Try.prog 3 x32 h) fun x33 =>
    bnd (pIndexAddr Try.prog 34 x0 x33) fun x34 =>
    bnd (pLoad Try.prog 37 x34 h) fun x35 =>
    bnd (kSt (pStore Try.prog 37 x7 x35 h)) fun u =>
    K .normal (act 41 [(0, x0), (1, x1), (5, x5), (6, x6), (7, x7)]) u.2 := kq_reg
noncomputable def F15_rlrllrllrlrr {β : Type} (inv : Inv) (k : Nat) (x0 x1 x5 x6 x7 x28 : Value) (h : AH) (kn : (Value → Value → Value → Value → Value → Value → AH → Option β)) : Option β :=
    brV x28
    (bnd (pIndexAddr Try.prog 24 x1 x6) fun x32 =>
    bnd (pLoad Try.prog 3 x32 h) fun x33 =>
    bnd (pIndexAddr Try.prog 34 x0 x33) fun x34 =>
    bnd (pLoad Try.prog 37 x34 h) fun x35 =>
    bnd (kSt (pStore Try.prog 37 x7 x35 h)) fun u =>
    kn x0 x1 x5 x6 x7 unk u.2)
    (kn x0 x1 x5 x6 x7 x28 h)
theorem F15_rlrllrllrlrr_eq  : kCode env 15 false inv k (cp c15 7461) (act 41 [(0, x0), (1, x1), (5, x5), (6, x6), (7, x7), (28, x28)]) h K = F15_rlrllrllrlrr inv k x0 x1 x5 x6 x7 x28 h (fun y0 y1 y5 y6 y7 y28 h => K .normal (act 41 [(0, y0), (1, y1), (5, y5), (6, y6), (7, y7), (28, y28)]) h) := by
      unfold F15_rlrllrllrlrr
      simp only [b15_rlrllrllrlrr, r15_7, kq_skip c15 14923, reduceIte, reduceCtorEq, XE.exit.injEq, Nat.reduceEqDiff, Nat.reduceMul, Nat.reduceAdd] <;> kernel_rfl
theorem r15_8  : kCode env 15 false inv k (cp c15 3731) (act 41 [(0, x0), (1, x1), (5, x5), (6, x6), (7, x7), (28, x28)]) h K =
    bnd (pLoad Try.prog 37 x7 h) fun x37 =>
    bnd (pBuildSlice Try.prog 34 1 #[(0, x37)] h) fun x38 =>
    bnd (pAppend Try.prog #[34, 34] x5 x38.1 x38.2) fun x39 =>
    K .normal (act 41 [(0, x0), (1, x1), (5, x39.1), (6, x6)]) x39.2 := kq_reg
theorem r15_4  : kCode env 15 false inv k (cp c15 467) (act 41 [(0, x0), (1, x1), (5, x5), (6, x6)]) h K =
    bnd (pBin Try.prog .add 3 (.tmp 12) (.const (.int .i64 1)) x6 (.int .i64 1)) fun x13 =>
    K .normal (act 41 [(0, x0), (1, x1), (5, x5), (6, x13)]) h := kq_reg
noncomputable def F15_lrlrr {β : Type} (inv : Inv) (k : Nat) : Nat → Value → Value → Value → Value → AH → (Value → Value → Value → Value → Value → AH → Option β) → Option β
  | 0, _, _, _, _, _, _ => none
  | j + 1, x0, x1, x5, x6, h, ke0 =>
    bnd (pLen Try.prog #[24] x1 h) fun x10 =>
    bnd (pBin Try.prog .lss 3 (.tmp 8) (.tmp 10) x6 x10) fun x11 =>
    brV x11
    (bnd (pBuild Try.prog 37 #[]) fun x14 =>
    bnd (pAlloc Try.prog 37 h) fun x7 =>
    bnd (kSt (pStore Try.prog 37 x7.1 x14 x7.2)) fun u =>
    G15_6 inv x0 x1 x5 x6 x7.1 u.2 fun y28 h =>
    F15_rlrllrllrlrr inv k x0 x1 x5 x6 x7.1 y28 h
    (fun y0 y1 y5 y6 y7 y28_1 h_2 =>
    bnd (pLoad Try.prog 37 y7 h_2) fun x37 =>
    bnd (pBuildSlice Try.prog 34 1 #[(0, x37)] h_2) fun x38 =>
    bnd (pAppend Try.prog #[34, 34] y5 x38.1 x38.2) fun x39 =>
    bnd (pBin Try.prog .add 3 (.tmp 12) (.const (.int .i64 1)) y6 (.int .i64 1)) fun x13 =>
    F15_lrlrr inv k j y0 y1 x39.1 x13 x39.2 ke0))
    (ke0 x0 x1 x5 x6 x11 h)
theorem F15_lrlrr_j (j : Nat) : kLoop (kCode env 15 false inv k (cp c15 116)) j (act 41 [(0, x0), (1, x1), (5, x5), (6, x6)]) h K = F15_lrlrr inv k j x0 x1 x5 x6 h (fun y0 y1 y5 y6 y11 h => K (.exit 0) (act 41 [(0, y0), (1, y1), (5, y5), (6, y6), (11, y11)]) h) := by
      induction j generalizing x0 x1 x5 x6 h with
      | zero => rfl
      | succ j ih =>
        unfold F15_lrlrr
        simp only [kLoop, kq_seq c15 116, kq_seq c15 232, r15_3, b15_rlllrlrr, kq_skip c15 930, kq_seq c15 233, kq_block c15 466 1, kq_seq c15 932, r15_5, kq_seq c15 1865, kq_seq c15 3730, r15_6, F15_rlrllrllrlrr_eq, r15_8, r15_4, kq_exit c15 931 0, ih, reduceIte, reduceCtorEq, XE.exit.injEq, Nat.reduceEqDiff, Nat.reduceMul, Nat.reduceAdd] <;> kernel_rfl
theorem F15_lrlrr_eq  : kCode env 15 false inv k (cp c15 58) (act 41 [(0, x0), (1, x1), (5, x5), (6, x6)]) h K = F15_lrlrr inv k k x0 x1 x5 x6 h (fun y0 y1 y5 y6 y11 h => K (.exit 0) (act 41 [(0, y0), (1, y1), (5, y5), (6, y6), (11, y11)]) h) := kq_loop (F15_lrlrr_j k)
theorem r15_9  : kCode env 15 false inv k (cp c15 30) (act 41 [(0, x0), (1, x1), (5, x5), (6, x6), (11, x11)]) h K =
    K .normal (act 41 [(4, x5)]) h := kq_reg
theorem res15_0 : resOfFn env.P 15 .ret (act 41 [(4, x4)]) h = some (x4, h) := kq_res
/-- shadowbook/shadowbookref17.Pick -/
noncomputable def F15 (inv : Inv) (k : Nat) (x0 x1 : Value) (h : AH) : Option (Value × AH) :=
    F15_lrlrr inv k k x0 x1 (.slice none 0 0) (.int .i64 0) h
    (fun y0 y1 y5 y6 y11 h =>
    some (y5, h))
theorem F15_eq : eFun env k inv 15 #[x0, x1] h = F15 inv k x0 x1 h := by
      refine (kq_fun (a := act 41 [(0, x0), (1, x1)]) (c := cp c15 1)).trans ?_
      unfold F15
      simp only [kq_seq c15 1, r15_0, kq_seq c15 3, r15_1, kq_seq c15 7, kq_seq c15 14, r15_2, kq_block c15 29 0, F15_lrlrr_eq, kq_seq c15 15, r15_9, kq_ret c15 31, res15_0, reduceIte, reduceCtorEq, XE.exit.injEq, Nat.reduceEqDiff, Nat.reduceMul, Nat.reduceAdd] <;> kernel_rfl
theorem F15_call : eInv env (k + 1) (.func 15) #[] #[x0, x1] h = F15 (eInv env k) k x0 x1 h := kq_inv F15_eq
noncomputable def c18 : Code := codeOf Try.prog 18
theorem r18_0  : kCode env 18 false inv k (cp c18 2) (act 32 [(0, x0), (1, x1), (2, x2)]) h K =
    K .normal (act 32 [(0, x0), (1, x1), (2, x2)]) h := kq_reg
theorem r18_1  : kCode env 18 false inv k (cp c18 12) (act 32 [(0, x0), (1, x1), (2, x2)]) h K =
    bnd (inv (.func 20) #[] #[x0, x1, x2] h) fun x13 =>
    K .normal (act 32 [(0, x0), (1, x1), (2, x2), (8, x13.1)]) x13.2 := kq_reg
theorem r18_2  : kCode env 18 false inv k (cp c18 26) (act 32 [(0, x0), (1, x1), (2, x2), (8, x8)]) h K =
    bnd (pBin Try.prog .neq 31 (.tmp 14) (.const (.int .i64 0)) x8 (.int .i64 0)) fun x15 =>
    K .normal (act 32 [(0, x0), (1, x1), (2, x2), (8, x8), (15, x15)]) h := kq_reg
theorem b18_rrlr  : kCode env 18 false inv k (cp c18 27) (act 32 [(0, x0), (1, x1), (2, x2), (8, x8), (15, x15)]) h K = brV x15 (kCode env 18 false inv k (cp c18 54) (act 32 [(0, x0), (1, x1), (2, x2), (8, x8), (15, x15)]) h K) (kCode env 18 false inv k (cp c18 55) (act 32 [(0, x0), (1, x1), (2, x2), (8, x8), (15, x15)]) h K) := kq_cond
theorem r18_3  : kCode env 18 false inv k (cp c18 108) (act 32 [(0, x0), (1, x1), (2, x2), (8, x8), (15, x15)]) h K =
    K .normal (act 32 [(6, (.pointer none)), (7, x8)]) h := kq_reg
theorem res18_0 : resOfFn env.P 18 .ret (act 32 [(6, x6), (7, x7)]) h = some (.tuple #[x6, x7], h) := kq_res
theorem r18_4  : kCode env 18 false inv k (cp c18 14) (act 32 [(0, x0), (1, x1), (2, x2), (8, x8), (15, x15)]) h K =
    bnd (inv (.func 36) #[] #[x0] h) fun x18 =>
    bnd (inv (.func 37) #[] #[x1] x18.2) fun x20 =>
    bnd (inv (.func 38) #[] #[x2] x20.2) fun x22 =>
    bnd (pMakeMap Try.prog 67 none x22.2) fun x23 =>
    bnd (pBuild Try.prog 69 #[(0, x18.1), (1, x20.1), (2, x22.1), (3, x23.1)]) fun x24 =>
    bnd (pBox Try.prog 69 x24 x23.2) fun x25 =>
    K .normal (act 32 [(1, x1), (9, x25.1)]) x25.2 := kq_reg
theorem r18_5  : kCode env 18 false inv k (cp c18 60) (act 32 [(1, x1), (9, x9)]) h K =
    bnd (pLen Try.prog #[24] x1 h) fun x27 =>
    bnd (pBin Try.prog .eql 3 (.tmp 27) (.const (.int .i64 0)) x27 (.int .i64 0)) fun x28 =>
    K .normal (act 32 [(9, x9), (28, x28)]) h := kq_reg
theorem b18_rlrrr  : kCode env 18 false inv k (cp c18 61) (act 32 [(9, x9), (28, x28)]) h K = brV x28 (kCode env 18 false inv k (cp c18 122) (act 32 [(9, x9), (28, x28)]) h K) (kCode env 18 false inv k (cp c18 123) (act 32 [(9, x9), (28, x28)]) h K) := kq_cond
theorem r18_6  : kCode env 18 false inv k (cp c18 122) (act 32 [(9, x9), (28, x28)]) h K =
    bnd (inv (.func 39) #[] #[x9, (.slice none 0 0)] h) fun x30 =>
    K .normal (act 32 [(9, x9)]) x30.2 := kq_reg
noncomputable def F18_rlrrr {β : Type} (inv : Inv) (k : Nat) (x9 x28 : Value) (h : AH) (kn : (Value → Value → AH → Option β)) : Option β :=
    brV x28
    (bnd (inv (.func 39) #[] #[x9, (.slice none 0 0)] h) fun x30 =>
    kn x9 unk x30.2)
    (kn x9 x28 h)
theorem F18_rlrrr_eq  : kCode env 18 false inv k (cp c18 61) (act 32 [(9, x9), (28, x28)]) h K = F18_rlrrr inv k x9 x28 h (fun y9 y28 h => K .normal (act 32 [(9, y9), (28, y28)]) h) := by
      unfold F18_rlrrr
      simp only [b18_rlrrr, r18_6, kq_skip c18 123, reduceIte, reduceCtorEq, XE.exit.injEq, Nat.reduceEqDiff, Nat.reduceMul, Nat.reduceAdd] <;> kernel_rfl
theorem r18_7  : kCode env 18 false inv k (cp c18 62) (act 32 [(9, x9), (28, x28)]) h K =
    K .normal (act 32 [(6, x9), (7, (.int .i64 0))]) h := kq_reg
/-- shadowbook/agg.New -/
noncomputable def F18 (inv : Inv) (k : Nat) (x0 x1 x2 : Value) (h : AH) : Option (Value × AH) :=
    bnd (inv (.func 20) #[] #[x0, x1, x2] h) fun x13 =>
    bnd (pBin Try.prog .neq 31 (.tmp 14) (.const (.int .i64 0)) x13.1 (.int .i64 0)) fun x15 =>
    brV x15
    (some (.tuple #[(.pointer none), x13.1], x13.2))
    (bnd (inv (.func 36) #[] #[x0] x13.2) fun x18 =>
    bnd (inv (.func 37) #[] #[x1] x18.2) fun x20 =>
    bnd (inv (.func 38) #[] #[x2] x20.2) fun x22 =>
    bnd (pMakeMap Try.prog 67 none x22.2) fun x23 =>
    bnd (pBuild Try.prog 69 #[(0, x18.1), (1, x20.1), (2, x22.1), (3, x23.1)]) fun x24 =>
    bnd (pBox Try.prog 69 x24 x23.2) fun x25 =>
    bnd (pLen Try.prog #[24] x1 x25.2) fun x27 =>
    bnd (pBin Try.prog .eql 3 (.tmp 27) (.const (.int .i64 0)) x27 (.int .i64 0)) fun x28 =>
    F18_rlrrr inv k x25.1 x28 x25.2
    (fun y9 y28 h =>
    some (.tuple #[y9, (.int .i64 0)], h)))
theorem F18_eq : eFun env k inv 18 #[x0, x1, x2] h = F18 inv k x0 x1 x2 h := by
      refine (kq_fun (a := act 32 [(0, x0), (1, x1), (2, x2)]) (c := cp c18 1)).trans ?_
      unfold F18
      simp only [kq_seq c18 1, r18_0, kq_seq c18 3, kq_seq c18 6, r18_1, kq_seq c18 13, r18_2, b18_rrlr, kq_seq c18 54, r18_3, kq_ret c18 109, res18_0, kq_skip c18 55, kq_seq c18 7, r18_4, kq_seq c18 15, kq_seq c18 30, r18_5, F18_rlrrr_eq, kq_seq c18 31, r18_7, kq_ret c18 63, reduceIte, reduceCtorEq, XE.exit.injEq, Nat.reduceEqDiff, Nat.reduceMul, Nat.reduceAdd] <;> kernel_rfl
theorem F18_call : eInv env (k + 1) (.func 18) #[] #[x0, x1, x2] h = F18 (eInv env k) k x0 x1 x2 h := kq_inv F18_eq
noncomputable def c20 : Code := codeOf Try.prog 20
theorem r20_0  : kCode env 20 false inv k (cp c20 2) (act 54 [(0, x0), (1, x1), (2, x2)]) h K =
    bnd (pBox Try.prog 22 x0 h) fun x3 =>
    K .normal (act 54 [(1, x1), (2, x2), (3, x3.1)]) x3.2 := kq_reg
theorem r20_1  : kCode env 20 false inv k (cp c20 12) (act 54 [(1, x1), (2, x2), (3, x3)]) h K =
    bnd (pLoad Try.prog 22 x3 h) fun x10 =>
    bnd (inv (.func 41) #[] #[x10] h) fun x11 =>
    K .normal (act 54 [(1, x1), (2, x2), (3, x3), (7, x11.1)]) x11.2 := kq_reg
theorem r20_2  : kCode env 20 false inv k (cp c20 26) (act 54 [(1, x1), (2, x2), (3, x3), (7, x7)]) h K =
    bnd (pBin Try.prog .neq 31 (.tmp 12) (.const (.int .i64 0)) x7 (.int .i64 0)) fun x13 =>
    K .normal (act 54 [(1, x1), (2, x2), (3, x3), (7, x7), (13, x13)]) h := kq_reg
theorem b20_rrlr  : kCode env 20 false inv k (cp c20 27) (act 54 [(1, x1), (2, x2), (3, x3), (7, x7), (13, x13)]) h K = brV x13 (kCode env 20 false inv k (cp c20 54) (act 54 [(1, x1), (2, x2), (3, x3), (7, x7), (13, x13)]) h K) (kCode env 20 false inv k (cp c20 55) (act 54 [(1, x1), (2, x2), (3, x3), (7, x7), (13, x13)]) h K) := kq_cond
theorem r20_3  : kCode env 20 false inv k (cp c20 108) (act 54 [(1, x1), (2, x2), (3, x3), (7, x7), (13, x13)]) h K =
    K .normal (act 54 [(6, x7)]) h := kq_reg
theorem res20_0 : resOfFn env.P 20 .ret (act 54 [(6, x6)]) h = some (x6, h) := kq_res
noncomputable abbrev G20_4 {β : Type} (inv : Inv) (x1 x2 x3 : Value) (h : AH) (K : Value → AH → Option β) : Option β :=
    bnd (pLen Try.prog #[29] x2 h) fun x16 =>
    bnd (pBin Try.prog .lss 3 (.tmp 16) (.const (.int .i64 1)) x16 (.int .i64 1)) fun x17 =>
    bnd (gd (some x17) false h (some (x2, h))) fun x19 =>
    bnd (gd (some x17) false x19.2 (lt (pLen Try.prog #[29] x19.1 x19.2) x19.2)) fun x20 =>
    bnd (gd (some x17) false x20.2 (lt (pBin Try.prog .gtr 3 (.tmp 20) (.const (.int .i64 8)) x20.1 (.int .i64 8)) x20.2)) fun x21 =>
    bnd (pickV x17 (.bool true) x21.1) fun x22 =>
    bnd (gd (some x22) false x21.2 (some (x1, x21.2))) fun x24 =>
    bnd (gd (some x22) false x24.2 (lt (pLen Try.prog #[24] x24.1 x24.2) x24.2)) fun x25 =>
    bnd (gd (some x22) false x25.2 (lt (pBin Try.prog .gtr 3 (.tmp 25) (.const (.int .i64 8)) x25.1 (.int .i64 8)) x25.2)) fun x26 =>
    bnd (pickV x22 (.bool true) x26.1) fun x27 =>
    K (x27) x26.2
theorem r20_4  : kCode env 20 false inv k (cp c20 28) (act 54 [(1, x1), (2, x2), (3, x3), (7, x7), (13, x13)]) h K =
    G20_4 inv x1 x2 x3 h fun y27 h => K .normal (act 54 [(1, x1), (2, x2), (3, x3), (27, y27)]) h := kq_reg
theorem b20_rlrr  : kCode env 20 false inv k (cp c20 29) (act 54 [(1, x1), (2, x2), (3, x3), (27, x27)]) h K = brV x27 (kCode env 20 false inv k (cp c20 58) (act 54 [(1, x1), (2, x2), (3, x3), (27, x27)]) h K) (kCode env 20 false inv k (cp c20 59) (act 54 [(1, x1), (2, x2), (3, x3), (27, x27)]) h K) := kq_cond
theorem r20_5  : kCode env 20 false inv k (cp c20 116) (act 54 [(1, x1), (2, x2), (3, x3), (27, x27)]) h K =
    K .normal (act 54 [(6, (.int .i64 200))]) h := kq_reg
theorem r20_6  : kCode env 20 false inv k (cp c20 60) (act 54 [(1, x1), (2, x2), (3, x3), (27, x27)]) h K =
    bnd (pLen Try.prog #[24] x1 h) fun x29 =>
    K .normal (act 54 [(1, x1), (2, x2), (3, x3), (28, x1), (29, x29), (30, (.int .i64 0))]) h := kq_reg
theorem r20_7  : kCode env 20 false inv k (cp c20 488) (act 54 [(1, x1), (2, x2), (3, x3), (28, x28), (29, x29), (30, x30)]) h K =
    bnd (pBin Try.prog .lss 3 (.tmp 30) (.tmp 29) x30 x29) fun x31 =>
    K .normal (act 54 [(1, x1), (2, x2), (3, x3), (28, x28), (29, x29), (30, x30), (31, x31)]) h := kq_reg
theorem b20_lrllrlrrr  : kCode env 20 false inv k (cp c20 978) (act 54 [(1, x1), (2, x2), (3, x3), (28, x28), (29, x29), (30, x30), (31, x31)]) h K = brV x31 (kCode env 20 false inv k (cp c20 1956) (act 54 [(1, x1), (2, x2), (3, x3), (28, x28), (29, x29), (30, x30), (31, x31)]) h K) (kCode env 20 false inv k (cp c20 1957) (act 54 [(1, x1), (2, x2), (3, x3), (28, x28), (29, x29), (30, x30), (31, x31)]) h K) := kq_cond
theorem r20_8  : kCode env 20 false inv k (cp c20 7832) (act 54 [(1, x1), (2, x2), (3, x3), (28, x28), (29, x29), (30, x30), (31, x31)]) h K =
    bnd (pIndexAddr Try.prog 24 x28 x30) fun x33 =>
    bnd (pLoad Try.prog 3 x33 h) fun x34 =>
    K .normal (act 54 [(1, x1), (2, x2), (3, x3), (8, x30), (9, x34), (28, x28), (29, x29), (30, x30)]) h := kq_reg
noncomputable abbrev G20_9 {β : Type} (inv : Inv) (x1 x2 x3 x8 x9 x28 x29 x30 : Value) (h : AH) (K : Value → AH → Option β) : Option β :=
    bnd (pBin Try.prog .lss 3 (.tmp 35) (.const (.int .i64 0)) x9 (.int .i64 0)) fun x36 =>
    bnd (gd (some x36) false h (some (x9, h))) fun x38 =>
    bnd (gd (some x36) false x38.2 (lt (pLoad Try.prog 22 x3 x38.2) x38.2)) fun x39 =>
    bnd (gd (some x36) false x39.2 (lt (pLen Try.prog #[22] x39.1 x39.2) x39.2)) fun x40 =>
    bnd (gd (some x36) false x40.2 (lt (pBin Try.prog .geq 3 (.tmp 38) (.tmp 40) x38.1 x40.1) x40.2)) fun x41 =>
    bnd (pickV x36 (.bool true) x41.1) fun x42 =>
    bnd (gd (some x42) false x41.2 (some (x1, x41.2))) fun x44 =>
    bnd (gd (some x42) false x44.2 (some (x8, x44.2))) fun x45 =>
    bnd (gd (some x42) false x45.2 (lt (pSlice Try.prog 24 x44.1 none (some x45.1) none x45.2) x45.2)) fun x46 =>
    bnd (gd (some x42) false x46.2 (some (x9, x46.2))) fun x47 =>
    bnd (gd (some x42) false x47.2 (inv (.func 42) #[] #[x46.1, x47.1] x47.2)) fun x48 =>
    bnd (pickV x42 (.bool true) x48.1) fun x49 =>
    K (x49) x48.2
theorem r20_9  : kCode env 20 false inv k (cp c20 15666) (act 54 [(1, x1), (2, x2), (3, x3), (8, x8), (9, x9), (28, x28), (29, x29), (30, x30)]) h K =
    G20_9 inv x1 x2 x3 x8 x9 x28 x29 x30 h fun y49 h => K .normal (act 54 [(1, x1), (2, x2), (3, x3), (28, x28), (29, x29), (30, x30), (49, y49)]) h := kq_reg
theorem b20_rrllrrllrlrrr  : kCode env 20 false inv k (cp c20 15667) (act 54 [(1, x1), (2, x2), (3, x3), (28, x28), (29, x29), (30, x30), (49, x49)]) h K = brV x49 (kCode env 20 false inv k (cp c20 31334) (act 54 [(1, x1), (2, x2), (3, x3), (28, x28), (29, x29), (30, x30), (49, x49)]) h K) (kCode env 20 false inv k (cp c20 31335) (act 54 [(1, x1), (2, x2), (3, x3), (28, x28), (29, x29), (30, x30), (49, x49)]) h K) := kq_cond
theorem r20_10  : kCode env 20 false inv k (cp c20 62668) (act 54 [(1, x1), (2, x2), (3, x3), (28, x28), (29, x29), (30, x30), (49, x49)]) h K =
    K .normal (act 54 [(6, (.int .i64 200))]) h := kq_reg
theorem r20_11  : kCode env 20 false inv k (cp c20 1959) (act 54 [(1, x1), (2, x2), (3, x3), (28, x28), (29, x29), (30, x30), (49, x49)]) h K =
    bnd (pBin Try.prog .add 3 (.tmp 30) (.const (.int .i64 1)) x30 (.int .i64 1)) fun x50 =>
    K .normal (act 54 [(1, x1), (2, x2), (3, x3), (28, x28), (29, x29), (30, x50)]) h := kq_reg
noncomputable def F20_lrlrrr {β : Type} (inv : Inv) (k : Nat) : Nat → Value → Value → Value → Value → Value → Value → AH → (Value → Value → Value → Value → Value → Value → Value → AH → Option β) → (Value → AH → Option β) → Option β
  | 0, _, _, _, _, _, _, _, _, _ => none
  | j + 1, x1, x2, x3, x28, x29, x30, h, ke0, kr =>
    bnd (pBin Try.prog .lss 3 (.tmp 30) (.tmp 29) x30 x29) fun x31 =>
    brV x31
    (bnd (pIndexAddr Try.prog 24 x28 x30) fun x33 =>
    bnd (pLoad Try.prog 3 x33 h) fun x34 =>
    G20_9 inv x1 x2 x3 x30 x34 x28 x29 x30 h fun y49 h =>
    brV y49
    (kr (.int .i64 200) h)
    (bnd (pBin Try.prog .add 3 (.tmp 30) (.const (.int .i64 1)) x30 (.int .i64 1)) fun x50 =>
    F20_lrlrrr inv k j x1 x2 x3 x28 x29 x50 h ke0 kr))
    (ke0 x1 x2 x3 x28 x29 x30 x31 h)
theorem F20_lrlrrr_j (j : Nat) : kLoop (kCode env 20 false inv k (cp c20 244)) j (act 54 [(1, x1), (2, x2), (3, x3), (28, x28), (29, x29), (30, x30)]) h K = F20_lrlrrr inv k j x1 x2 x3 x28 x29 x30 h (fun y1 y2 y3 y28 y29 y30 y31 h => K (.exit 0) (act 54 [(1, y1), (2, y2), (3, y3), (28, y28), (29, y29), (30, y30), (31, y31)]) h) (fun y6 h => K .ret (act 54 [(6, y6)]) h) := by
      induction j generalizing x1 x2 x3 x28 x29 x30 h with
      | zero => rfl
      | succ j ih =>
        unfold F20_lrlrrr
        simp only [kLoop, kq_seq c20 244, r20_7, kq_seq c20 489, b20_lrllrlrrr, kq_skip c20 1956, kq_seq c20 979, kq_block c20 1958 1, kq_seq c20 3916, r20_8, kq_seq c20 7833, r20_9, b20_rrllrrllrlrrr, kq_seq c20 31334, r20_10, kq_ret c20 62669, kq_skip c20 31335, r20_11, kq_exit c20 1957 0, ih, reduceIte, reduceCtorEq, XE.exit.injEq, Nat.reduceEqDiff, Nat.reduceMul, Nat.reduceAdd] <;> kernel_rfl
theorem F20_lrlrrr_eq  : kCode env 20 false inv k (cp c20 122) (act 54 [(1, x1), (2, x2), (3, x3), (28, x28), (29, x29), (30, x30)]) h K = F20_lrlrrr inv k k x1 x2 x3 x28 x29 x30 h (fun y1 y2 y3 y28 y29 y30 y31 h => K (.exit 0) (act 54 [(1, y1), (2, y2), (3, y3), (28, y28), (29, y29), (30, y30), (31, y31)]) h) (fun y6 h => K .ret (act 54 [(6, y6)]) h) := kq_loop (F20_lrlrrr_j k)
theorem r20_12  : kCode env 20 false inv k (cp c20 124) (act 54 [(1, x1), (2, x2), (3, x3), (28, x28), (29, x29), (30, x30), (31, x31)]) h K =
    bnd (pMakeFunc (.func 44) #[] #[x3]) fun x52 =>
    bnd (inv (.func 43) #[] #[x2, x52] h) fun x53 =>
    K .normal (act 54 [(53, x53.1)]) x53.2 := kq_reg
theorem b20_rlrrrr  : kCode env 20 false inv k (cp c20 125) (act 54 [(53, x53)]) h K = brV x53 (kCode env 20 false inv k (cp c20 250) (act 54 [(53, x53)]) h K) (kCode env 20 false inv k (cp c20 251) (act 54 [(53, x53)]) h K) := kq_cond
theorem r20_13  : kCode env 20 false inv k (cp c20 500) (act 54 [(53, x53)]) h K =
    K .normal (act 54 [(6, (.int .i64 200))]) h := kq_reg
theorem r20_14  : kCode env 20 false inv k (cp c20 126) (act 54 [(53, x53)]) h K =
    K .normal (act 54 [(6, (.int .i64 0))]) h := kq_reg
/-- shadowbook/agg.Check -/
noncomputable def F20 (inv : Inv) (k : Nat) (x0 x1 x2 : Value) (h : AH) : Option (Value × AH) :=
    bnd (pBox Try.prog 22 x0 h) fun x3 =>
    bnd (pLoad Try.prog 22 x3.1 x3.2) fun x10 =>
    bnd (inv (.func 41) #[] #[x10] x3.2) fun x11 =>
    bnd (pBin Try.prog .neq 31 (.tmp 12) (.const (.int .i64 0)) x11.1 (.int .i64 0)) fun x13 =>
    brV x13
    (some (x11.1, x11.2))
    (G20_4 inv x1 x2 x3.1 x11.2 fun y27 h =>
    brV y27
    (some ((.int .i64 200), h))
    (bnd (pLen Try.prog #[24] x1 h) fun x29 =>
    F20_lrlrrr inv k k x1 x2 x3.1 x1 x29 (.int .i64 0) h
    (fun y1 y2 y3 y28 y29 y30 y31 h_1 =>
    bnd (pMakeFunc (.func 44) #[] #[y3]) fun x52 =>
    bnd (inv (.func 43) #[] #[y2, x52] h_1) fun x53 =>
    brV x53.1
    (some ((.int .i64 200), x53.2))
    (some ((.int .i64 0), x53.2)))
    (fun y6 h_2 =>
    some (y6, h_2))))
theorem F20_eq : eFun env k inv 20 #[x0, x1, x2] h = F20 inv k x0 x1 x2 h := by
      refine (kq_fun (a := act 54 [(0, x0), (1, x1), (2, x2)]) (c := cp c20 1)).trans ?_
      unfold F20
      simp only [kq_seq c20 1, r20_0, kq_seq c20 3, kq_seq c20 6, r20_1, kq_seq c20 13, r20_2, b20_rrlr, kq_seq c20 54, r20_3, kq_ret c20 109, res20_0, kq_skip c20 55, kq_seq c20 7, kq_seq c20 14, r20_4, b20_rlrr, kq_seq c20 58, r20_5, kq_ret c20 117, kq_skip c20 59, kq_seq c20 15, kq_seq c20 30, r20_6, kq_block c20 61 0, F20_lrlrrr_eq, kq_seq c20 31, kq_seq c20 62, r20_12, b20_rlrrrr, kq_seq c20 250, r20_13, kq_ret c20 501, kq_skip c20 251, kq_seq c20 63, r20_14, kq_ret c20 127, reduceIte, reduceCtorEq, XE.exit.injEq, Nat.reduceEqDiff, Nat.reduceMul, Nat.reduceAdd] <;> kernel_rfl
theorem F20_call : eInv env (k + 1) (.func 20) #[] #[x0, x1, x2] h = F20 (eInv env k) k x0 x1 x2 h := kq_inv F20_eq
noncomputable def c21 : Code := codeOf Try.prog 21
theorem r21_0  : kCode env 21 false inv k (cp c21 2) (act 46 [(0, x0), (1, x1)]) h K =
    K .normal (act 46 [(0, x0), (1, x1)]) h := kq_reg
theorem r21_1  : kCode env 21 false inv k (cp c21 12) (act 46 [(0, x0), (1, x1)]) h K =
    bnd (pBin Try.prog .eql 44 (.tmp 8) (.const (.pointer none)) x0 (.pointer none)) fun x9 =>
    K .normal (act 46 [(0, x0), (1, x1), (9, x9)]) h := kq_reg
theorem b21_rlr  : kCode env 21 false inv k (cp c21 13) (act 46 [(0, x0), (1, x1), (9, x9)]) h K = brV x9 (kCode env 21 false inv k (cp c21 26) (act 46 [(0, x0), (1, x1), (9, x9)]) h K) (kCode env 21 false inv k (cp c21 27) (act 46 [(0, x0), (1, x1), (9, x9)]) h K) := kq_cond
theorem r21_2  : kCode env 21 false inv k (cp c21 52) (act 46 [(0, x0), (1, x1), (9, x9)]) h K =
    K .normal (act 46 [(4, (.int .i64 1))]) h := kq_reg
theorem res21_0 : resOfFn env.P 21 .ret (act 46 [(4, x4)]) h = some (x4, h) := kq_res
theorem r21_3  : kCode env 21 false inv k (cp c21 28) (act 46 [(0, x0), (1, x1), (9, x9)]) h K =
    bnd (pNilCheck Try.prog x0) fun x11 =>
    bnd (pFieldAddr Try.prog 69 x11 0) fun x12 =>
    bnd (pLoad Try.prog 22 x12 h) fun x13 =>
    bnd (inv (.func 46) #[] #[x13, x1] h) fun x15 =>
    K .normal (act 46 [(0, x0), (1, x1), (5, x15.1)]) x15.2 := kq_reg
theorem r21_4  : kCode env 21 false inv k (cp c21 58) (act 46 [(0, x0), (1, x1), (5, x5)]) h K =
    bnd (pBin Try.prog .neq 31 (.tmp 16) (.const (.int .i64 0)) x5 (.int .i64 0)) fun x17 =>
    K .normal (act 46 [(0, x0), (1, x1), (5, x5), (17, x17)]) h := kq_reg
theorem b21_rrlrr  : kCode env 21 false inv k (cp c21 59) (act 46 [(0, x0), (1, x1), (5, x5), (17, x17)]) h K = brV x17 (kCode env 21 false inv k (cp c21 118) (act 46 [(0, x0), (1, x1), (5, x5), (17, x17)]) h K) (kCode env 21 false inv k (cp c21 119) (act 46 [(0, x0), (1, x1), (5, x5), (17, x17)]) h K) := kq_cond
theorem r21_5  : kCode env 21 false inv k (cp c21 236) (act 46 [(0, x0), (1, x1), (5, x5), (17, x17)]) h K =
    K .normal (act 46 [(4, x5)]) h := kq_reg
theorem r21_6  : kCode env 21 false inv k (cp c21 30) (act 46 [(0, x0), (1, x1), (5, x5), (17, x17)]) h K =
    bnd (pNilCheck Try.prog x0) fun x20 =>
    bnd (pFieldAddr Try.prog 69 x20 4) fun x21 =>
    bnd (pLoad Try.prog 3 x21 h) fun x22 =>
    bnd (pBin Try.prog .add 3 (.tmp 22) (.const (.int .i64 1)) x22 (.int .i64 1)) fun x23 =>
    bnd (pNilCheck Try.prog x0) fun x24 =>
    bnd (pFieldAddr Try.prog 69 x24 4) fun x25 =>
    bnd (kSt (pStore Try.prog 3 x25 x23 h)) fun u =>
    K .normal (act 46 [(0, x0), (1, x1)]) u.2 := kq_reg
theorem r21_7  : kCode env 21 false inv k (cp c21 124) (act 46 [(0, x0), (1, x1)]) h K =
    bnd (pNilCheck Try.prog x0) fun x29 =>
    bnd (pFieldAddr Try.prog 69 x29 1) fun x30 =>
    bnd (pLoad Try.prog 24 x30 h) fun x31 =>
    bnd (inv (.func 47) #[] #[x1, x31] h) fun x32 =>
    bnd (inv (.func 39) #[] #[x0, x32.1] x32.2) fun x33 =>
    bnd (pNilCheck Try.prog x33.1) fun x34 =>
    bnd (pFieldAddr Try.prog 79 x34 1) fun x35 =>
    bnd (pLoad Try.prog 77 x35 x33.2) fun x36 =>
    bnd (pLen Try.prog #[77] x36 x33.2) fun x37 =>
    K .normal (act 46 [(1, x1), (36, x36), (37, x37), (38, (.int .i64 0))]) x33.2 := kq_reg
theorem r21_8  : kCode env 21 false inv k (cp c21 1000) (act 46 [(1, x1), (36, x36), (37, x37), (38, x38)]) h K =
    bnd (pBin Try.prog .lss 3 (.tmp 38) (.tmp 37) x38 x37) fun x39 =>
    K .normal (act 46 [(1, x1), (36, x36), (37, x37), (38, x38), (39, x39)]) h := kq_reg
theorem b21_lrllrlrrrr  : kCode env 21 false inv k (cp c21 2002) (act 46 [(1, x1), (36, x36), (37, x37), (38, x38), (39, x39)]) h K = brV x39 (kCode env 21 false inv k (cp c21 4004) (act 46 [(1, x1), (36, x36), (37, x37), (38, x38), (39, x39)]) h K) (kCode env 21 false inv k (cp c21 4005) (act 46 [(1, x1), (36, x36), (37, x37), (38, x38), (39, x39)]) h K) := kq_cond
theorem r21_9  : kCode env 21 false inv k (cp c21 16024) (act 46 [(1, x1), (36, x36), (37, x37), (38, x38), (39, x39)]) h K =
    bnd (pIndexAddr Try.prog 77 x36 x38) fun x40 =>
    bnd (pLoad Try.prog 81 x40 h) fun x41 =>
    K .normal (act 46 [(1, x1), (7, x41), (36, x36), (37, x37), (38, x38)]) h := kq_reg
theorem r21_10  : kCode env 21 false inv k (cp c21 16025) (act 46 [(1, x1), (7, x7), (36, x36), (37, x37), (38, x38)]) h K =
    bnd (inv (.method "shadowbook/agg.add") #[] #[x7, x1] h) fun x44 =>
    K .normal (act 46 [(1, x1), (36, x36), (37, x37), (38, x38)]) x44.2 := kq_reg
theorem r21_11  : kCode env 21 false inv k (cp c21 4007) (act 46 [(1, x1), (36, x36), (37, x37), (38, x38)]) h K =
    bnd (pBin Try.prog .add 3 (.tmp 38) (.const (.int .i64 1)) x38 (.int .i64 1)) fun x45 =>
    K .normal (act 46 [(1, x1), (36, x36), (37, x37), (38, x45)]) h := kq_reg
noncomputable def F21_lrlrrrr {β : Type} (inv : Inv) (k : Nat) : Nat → Value → Value → Value → Value → AH → (Value → Value → Value → Value → Value → AH → Option β) → Option β
  | 0, _, _, _, _, _, _ => none
  | j + 1, x1, x36, x37, x38, h, ke0 =>
    bnd (pBin Try.prog .lss 3 (.tmp 38) (.tmp 37) x38 x37) fun x39 =>
    brV x39
    (bnd (pIndexAddr Try.prog 77 x36 x38) fun x40 =>
    bnd (pLoad Try.prog 81 x40 h) fun x41 =>
    bnd (inv (.method "shadowbook/agg.add") #[] #[x41, x1] h) fun x44 =>
    bnd (pBin Try.prog .add 3 (.tmp 38) (.const (.int .i64 1)) x38 (.int .i64 1)) fun x45 =>
    F21_lrlrrrr inv k j x1 x36 x37 x45 x44.2 ke0)
    (ke0 x1 x36 x37 x38 x39 h)
theorem F21_lrlrrrr_j (j : Nat) : kLoop (kCode env 21 false inv k (cp c21 500)) j (act 46 [(1, x1), (36, x36), (37, x37), (38, x38)]) h K = F21_lrlrrrr inv k j x1 x36 x37 x38 h (fun y1 y36 y37 y38 y39 h => K (.exit 0) (act 46 [(1, y1), (36, y36), (37, y37), (38, y38), (39, y39)]) h) := by
      induction j generalizing x1 x36 x37 x38 h with
      | zero => rfl
      | succ j ih =>
        unfold F21_lrlrrrr
        simp only [kLoop, kq_seq c21 500, r21_8, kq_seq c21 1001, b21_lrllrlrrrr, kq_skip c21 4004, kq_seq c21 2003, kq_block c21 4006 1, kq_seq c21 8012, r21_9, r21_10, r21_11, kq_exit c21 4005 0, ih, reduceIte, reduceCtorEq, XE.exit.injEq, Nat.reduceEqDiff, Nat.reduceMul, Nat.reduceAdd] <;> kernel_rfl
theorem F21_lrlrrrr_eq  : kCode env 21 false inv k (cp c21 250) (act 46 [(1, x1), (36, x36), (37, x37), (38, x38)]) h K = F21_lrlrrrr inv k k x1 x36 x37 x38 h (fun y1 y36 y37 y38 y39 h => K (.exit 0) (act 46 [(1, y1), (36, y36), (37, y37), (38, y38), (39, y39)]) h) := kq_loop (F21_lrlrrrr_j k)
theorem r21_12  : kCode env 21 false inv k (cp c21 126) (act 46 [(1, x1), (36, x36), (37, x37), (38, x38), (39, x39)]) h K =
    K .normal (act 46 [(4, (.int .i64 0))]) h := kq_reg
/-- (*shadowbook/agg.Acc).Add -/
noncomputable def F21 (inv : Inv) (k : Nat) (x0 x1 : Value) (h : AH) : Option (Value × AH) :=
    bnd (pBin Try.prog .eql 44 (.tmp 8) (.const (.pointer none)) x0 (.pointer none)) fun x9 =>
    brV x9
    (some ((.int .i64 1), h))
    (bnd (pNilCheck Try.prog x0) fun x11 =>
    bnd (pFieldAddr Try.prog 69 x11 0) fun x12 =>
    bnd (pLoad Try.prog 22 x12 h) fun x13 =>
    bnd (inv (.func 46) #[] #[x13, x1] h) fun x15 =>
    bnd (pBin Try.prog .neq 31 (.tmp 16) (.const (.int .i64 0)) x15.1 (.int .i64 0)) fun x17 =>
    brV x17
    (some (x15.1, x15.2))
    (bnd (pNilCheck Try.prog x0) fun x20 =>
    bnd (pFieldAddr Try.prog 69 x20 4) fun x21 =>
    bnd (pLoad Try.prog 3 x21 x15.2) fun x22 =>
    bnd (pBin Try.prog .add 3 (.tmp 22) (.const (.int .i64 1)) x22 (.int .i64 1)) fun x23 =>
    bnd (pNilCheck Try.prog x0) fun x24 =>
    bnd (pFieldAddr Try.prog 69 x24 4) fun x25 =>
    bnd (kSt (pStore Try.prog 3 x25 x23 x15.2)) fun u =>
    bnd (pNilCheck Try.prog x0) fun x29 =>
    bnd (pFieldAddr Try.prog 69 x29 1) fun x30 =>
    bnd (pLoad Try.prog 24 x30 u.2) fun x31 =>
    bnd (inv (.func 47) #[] #[x1, x31] u.2) fun x32 =>
    bnd (inv (.func 39) #[] #[x0, x32.1] x32.2) fun x33 =>
    bnd (pNilCheck Try.prog x33.1) fun x34 =>
    bnd (pFieldAddr Try.prog 79 x34 1) fun x35 =>
    bnd (pLoad Try.prog 77 x35 x33.2) fun x36 =>
    bnd (pLen Try.prog #[77] x36 x33.2) fun x37 =>
    F21_lrlrrrr inv k k x1 x36 x37 (.int .i64 0) x33.2
    (fun y1 y36 y37 y38 y39 h =>
    some ((.int .i64 0), h))))
theorem F21_eq : eFun env k inv 21 #[x0, x1] h = F21 inv k x0 x1 h := by
      refine (kq_fun (a := act 46 [(0, x0), (1, x1)]) (c := cp c21 1)).trans ?_
      unfold F21
      simp only [kq_seq c21 1, r21_0, kq_seq c21 3, kq_seq c21 6, r21_1, b21_rlr, kq_seq c21 26, r21_2, kq_ret c21 53, res21_0, kq_skip c21 27, kq_seq c21 7, kq_seq c21 14, r21_3, kq_seq c21 29, r21_4, b21_rrlrr, kq_seq c21 118, r21_5, kq_ret c21 237, kq_skip c21 119, kq_seq c21 15, r21_6, kq_seq c21 31, kq_seq c21 62, r21_7, kq_block c21 125 0, F21_lrlrrrr_eq, kq_seq c21 63, r21_12, kq_ret c21 127, reduceIte, reduceCtorEq, XE.exit.injEq, Nat.reduceEqDiff, Nat.reduceMul, Nat.reduceAdd] <;> kernel_rfl
theorem F21_call : eInv env (k + 1) (.func 21) #[] #[x0, x1] h = F21 (eInv env k) k x0 x1 h := kq_inv F21_eq
noncomputable def c24 : Code := codeOf Try.prog 24
theorem r24_0  : kCode env 24 false inv k (cp c24 2) (act 55 [(0, x0)]) h K =
    K .normal (act 55 [(0, x0)]) h := kq_reg
theorem r24_1  : kCode env 24 false inv k (cp c24 12) (act 55 [(0, x0)]) h K =
    bnd (pBin Try.prog .eql 44 (.tmp 10) (.const (.pointer none)) x0 (.pointer none)) fun x11 =>
    K .normal (act 55 [(0, x0), (11, x11)]) h := kq_reg
theorem b24_rlr  : kCode env 24 false inv k (cp c24 13) (act 55 [(0, x0), (11, x11)]) h K = brV x11 (kCode env 24 false inv k (cp c24 26) (act 55 [(0, x0), (11, x11)]) h K) (kCode env 24 false inv k (cp c24 27) (act 55 [(0, x0), (11, x11)]) h K) := kq_cond
theorem r24_2  : kCode env 24 false inv k (cp c24 52) (act 55 [(0, x0), (11, x11)]) h K =
    K .normal (act 55 [(2, (.slice none 0 0))]) h := kq_reg
theorem res24_0 : resOfFn env.P 24 .ret (act 55 [(2, x2)]) h = some (x2, h) := kq_res
theorem r24_3  : kCode env 24 false inv k (cp c24 14) (act 55 [(0, x0), (11, x11)]) h K =
    K .normal (act 55 [(0, x0), (3, (.slice none 0 0))]) h := kq_reg
theorem r24_4  : kCode env 24 false inv k (cp c24 60) (act 55 [(0, x0), (3, x3)]) h K =
    bnd (pNilCheck Try.prog x0) fun x13 =>
    bnd (pFieldAddr Try.prog 69 x13 3) fun x14 =>
    bnd (pLoad Try.prog 67 x14 h) fun x15 =>
    bnd (inv (.func 50) #[] #[x15] h) fun x16 =>
    bnd (inv (.func 49) #[] #[x16.1] x16.2) fun x17 =>
    bnd (pLen Try.prog #[84] x17.1 x17.2) fun x18 =>
    K .normal (act 55 [(0, x0), (3, x3), (17, x17.1), (18, x18), (19, (.int .i64 0))]) x17.2 := kq_reg
theorem r24_5  : kCode env 24 false inv k (cp c24 488) (act 55 [(0, x0), (3, x3), (17, x17), (18, x18), (19, x19)]) h K =
    bnd (pBin Try.prog .lss 3 (.tmp 19) (.tmp 18) x19 x18) fun x20 =>
    K .normal (act 55 [(0, x0), (3, x3), (17, x17), (18, x18), (19, x19), (20, x20)]) h := kq_reg
theorem b24_lrllrlrrr  : kCode env 24 false inv k (cp c24 978) (act 55 [(0, x0), (3, x3), (17, x17), (18, x18), (19, x19), (20, x20)]) h K = brV x20 (kCode env 24 false inv k (cp c24 1956) (act 55 [(0, x0), (3, x3), (17, x17), (18, x18), (19, x19), (20, x20)]) h K) (kCode env 24 false inv k (cp c24 1957) (act 55 [(0, x0), (3, x3), (17, x17), (18, x18), (19, x19), (20, x20)]) h K) := kq_cond
theorem r24_6  : kCode env 24 false inv k (cp c24 7832) (act 55 [(0, x0), (3, x3), (17, x17), (18, x18), (19, x19), (20, x20)]) h K =
    bnd (pIndexAddr Try.prog 84 x17 x19) fun x21 =>
    bnd (pLoad Try.prog 9 x21 h) fun x22 =>
    K .normal (act 55 [(0, x0), (3, x3), (5, x22), (17, x17), (18, x18), (19, x19)]) h := kq_reg
theorem r24_7  : kCode env 24 false inv k (cp c24 15666) (act 55 [(0, x0), (3, x3), (5, x5), (17, x17), (18, x18), (19, x19)]) h K =
    bnd (pNilCheck Try.prog x0) fun x24 =>
    bnd (pFieldAddr Try.prog 69 x24 3) fun x25 =>
    bnd (pLoad Try.prog 67 x25 h) fun x26 =>
    bnd (pLookup Try.prog 67 x26 x5 false h) fun x28 =>
    K .normal (act 55 [(0, x0), (3, x3), (6, x28), (17, x17), (18, x18), (19, x19)]) h := kq_reg
theorem r24_8  : kCode env 24 false inv k (cp c24 31334) (act 55 [(0, x0), (3, x3), (6, x6), (17, x17), (18, x18), (19, x19)]) h K =
    bnd (pNilCheck Try.prog x6) fun x30 =>
    bnd (pFieldAddr Try.prog 79 x30 0) fun x31 =>
    bnd (pLoad Try.prog 34 x31 h) fun x32 =>
    bnd (inv (.func 51) #[] #[x32] h) fun x33 =>
    K .normal (act 55 [(0, x0), (3, x3), (6, x6), (7, x33.1), (17, x17), (18, x18), (19, x19)]) x33.2 := kq_reg
theorem r24_9  : kCode env 24 false inv k (cp c24 125340) (act 55 [(0, x0), (3, x3), (6, x6), (7, x7), (17, x17), (18, x18), (19, x19)]) h K =
    bnd (pNilCheck Try.prog x6) fun x35 =>
    bnd (pFieldAddr Try.prog 79 x35 1) fun x36 =>
    bnd (pLoad Try.prog 77 x36 h) fun x37 =>
    bnd (pLen Try.prog #[77] x37 h) fun x38 =>
    K .normal (act 55 [(0, x0), (3, x3), (7, x7), (17, x17), (18, x18), (19, x19), (37, x37), (38, x38), (39, (.int .i64 0))]) h := kq_reg
theorem r24_10  : kCode env 24 false inv k (cp c24 1002728) (act 55 [(0, x0), (3, x3), (7, x7), (17, x17), (18, x18), (19, x19), (37, x37), (38, x38), (39, x39)]) h K =
    bnd (pBin Try.prog .lss 3 (.tmp 39) (.tmp 38) x39 x38) fun x40 =>
    K .normal (act 55 [(0, x0), (3, x3), (7, x7), (17, x17), (18, x18), (19, x19), (37, x37), (38, x38), (39, x39), (40, x40)]) h := kq_reg
theorem b24_lrllrlrrrllrrllrlrrr  : kCode env 24 false inv k (cp c24 2005458) (act 55 [(0, x0), (3, x3), (7, x7), (17, x17), (18, x18), (19, x19), (37, x37), (38, x38), (39, x39), (40, x40)]) h K = brV x40 (kCode env 24 false inv k (cp c24 4010916) (act 55 [(0, x0), (3, x3), (7, x7), (17, x17), (18, x18), (19, x19), (37, x37), (38, x38), (39, x39), (40, x40)]) h K) (kCode env 24 false inv k (cp c24 4010917) (act 55 [(0, x0), (3, x3), (7, x7), (17, x17), (18, x18), (19, x19), (37, x37), (38, x38), (39, x39), (40, x40)]) h K) := kq_cond
theorem r24_11  : kCode env 24 false inv k (cp c24 16043672) (act 55 [(0, x0), (3, x3), (7, x7), (17, x17), (18, x18), (19, x19), (37, x37), (38, x38), (39, x39), (40, x40)]) h K =
    bnd (pIndexAddr Try.prog 77 x37 x39) fun x41 =>
    bnd (pLoad Try.prog 81 x41 h) fun x42 =>
    K .normal (act 55 [(0, x0), (3, x3), (7, x7), (9, x42), (17, x17), (18, x18), (19, x19), (37, x37), (38, x38), (39, x39)]) h := kq_reg
theorem r24_12  : kCode env 24 false inv k (cp c24 16043673) (act 55 [(0, x0), (3, x3), (7, x7), (9, x9), (17, x17), (18, x18), (19, x19), (37, x37), (38, x38), (39, x39)]) h K =
    bnd (inv (.method "shadowbook/agg.told") #[] #[x9] h) fun x45 =>
    bnd (pBuildSlice Try.prog 34 1 #[(0, x45.1)] x45.2) fun x46 =>
    bnd (pAppend Try.prog #[34, 34] x7 x46.1 x46.2) fun x47 =>
    K .normal (act 55 [(0, x0), (3, x3), (7, x47.1), (17, x17), (18, x18), (19, x19), (37, x37), (38, x38), (39, x39)]) x47.2 := kq_reg
theorem r24_13  : kCode env 24 false inv k (cp c24 4010919) (act 55 [(0, x0), (3, x3), (7, x7), (17, x17), (18, x18), (19, x19), (37, x37), (38, x38), (39, x39)]) h K =
    bnd (pBin Try.prog .add 3 (.tmp 39) (.const (.int .i64 1)) x39 (.int .i64 1)) fun x48 =>
    K .normal (act 55 [(0, x0), (3, x3), (7, x7), (17, x17), (18, x18), (19, x19), (37, x37), (38, x38), (39, x48)]) h := kq_reg
noncomputable def F24_lrlrrrllrrllrlrrr {β : Type} (inv : Inv) (k : Nat) : Nat → Value → Value → Value → Value → Value → Value → Value → Value → Value → AH → (Value → Value → Value → Value → Value → Value → Value → Value → Value → Value → AH → Option β) → Option β
  | 0, _, _, _, _, _, _, _, _, _, _, _ => none
  | j + 1, x0, x3, x7, x17, x18, x19, x37, x38, x39, h, ke2 =>
    bnd (pBin Try.prog .lss 3 (.tmp 39) (.tmp 38) x39 x38) fun x40 =>
    brV x40
    (bnd (pIndexAddr Try.prog 77 x37 x39) fun x41 =>
    bnd (pLoad Try.prog 81 x41 h) fun x42 =>
    bnd (inv (.method "shadowbook/agg.told") #[] #[x42] h) fun x45 =>
    bnd (pBuildSlice Try.prog 34 1 #[(0, x45.1)] x45.2) fun x46 =>
    bnd (pAppend Try.prog #[34, 34] x7 x46.1 x46.2) fun x47 =>
    bnd (pBin Try.prog .add 3 (.tmp 39) (.const (.int .i64 1)) x39 (.int .i64 1)) fun x48 =>
    F24_lrlrrrllrrllrlrrr inv k j x0 x3 x47.1 x17 x18 x19 x37 x38 x48 x47.2 ke2)
    (ke2 x0 x3 x7 x17 x18 x19 x37 x38 x39 x40 h)
theorem F24_lrlrrrllrrllrlrrr_j (j : Nat) : kLoop (kCode env 24 false inv k (cp c24 501364)) j (act 55 [(0, x0), (3, x3), (7, x7), (17, x17), (18, x18), (19, x19), (37, x37), (38, x38), (39, x39)]) h K = F24_lrlrrrllrrllrlrrr inv k j x0 x3 x7 x17 x18 x19 x37 x38 x39 h (fun y0 y3 y7 y17 y18 y19 y37 y38 y39 y40 h => K (.exit 2) (act 55 [(0, y0), (3, y3), (7, y7), (17, y17), (18, y18), (19, y19), (37, y37), (38, y38), (39, y39), (40, y40)]) h) := by
      induction j generalizing x0 x3 x7 x17 x18 x19 x37 x38 x39 h with
      | zero => rfl
      | succ j ih =>
        unfold F24_lrlrrrllrrllrlrrr
        simp only [kLoop, kq_seq c24 501364, r24_10, kq_seq c24 1002729, b24_lrllrlrrrllrrllrlrrr, kq_skip c24 4010916, kq_seq c24 2005459, kq_block c24 4010918 3, kq_seq c24 8021836, r24_11, r24_12, r24_13, kq_exit c24 4010917 2, ih, reduceIte, reduceCtorEq, XE.exit.injEq, Nat.reduceEqDiff, Nat.reduceMul, Nat.reduceAdd] <;> kernel_rfl
theorem F24_lrlrrrllrrllrlrrr_eq  : kCode env 24 false inv k (cp c24 250682) (act 55 [(0, x0), (3, x3), (7, x7), (17, x17), (18, x18), (19, x19), (37, x37), (38, x38), (39, x39)]) h K = F24_lrlrrrllrrllrlrrr inv k k x0 x3 x7 x17 x18 x19 x37 x38 x39 h (fun y0 y3 y7 y17 y18 y19 y37 y38 y39 y40 h => K (.exit 2) (act 55 [(0, y0), (3, y3), (7, y7), (17, y17), (18, y18), (19, y19), (37, y37), (38, y38), (39, y39), (40, y40)]) h) := kq_loop (F24_lrlrrrllrrllrlrrr_j k)
theorem r24_14  : kCode env 24 false inv k (cp c24 62671) (act 55 [(0, x0), (3, x3), (7, x7), (17, x17), (18, x18), (19, x19), (37, x37), (38, x38), (39, x39), (40, x40)]) h K =
    bnd (pBuildSlice Try.prog 23 1 #[(0, x7)] h) fun x51 =>
    bnd (pAppend Try.prog #[23, 23] x3 x51.1 x51.2) fun x52 =>
    K .normal (act 55 [(0, x0), (3, x52.1), (17, x17), (18, x18), (19, x19)]) x52.2 := kq_reg
theorem r24_15  : kCode env 24 false inv k (cp c24 1959) (act 55 [(0, x0), (3, x3), (17, x17), (18, x18), (19, x19)]) h K =
    bnd (pBin Try.prog .add 3 (.tmp 19) (.const (.int .i64 1)) x19 (.int .i64 1)) fun x53 =>
    K .normal (act 55 [(0, x0), (3, x3), (17, x17), (18, x18), (19, x53)]) h := kq_reg
noncomputable def F24_lrlrrr {β : Type} (inv : Inv) (k : Nat) : Nat → Value → Value → Value → Value → Value → AH → (Value → Value → Value → Value → Value → Value → AH → Option β) → Option β
  | 0, _, _, _, _, _, _, _ => none
  | j + 1, x0, x3, x17, x18, x19, h, ke0 =>
    bnd (pBin Try.prog .lss 3 (.tmp 19) (.tmp 18) x19 x18) fun x20 =>
    brV x20
    (bnd (pIndexAddr Try.prog 84 x17 x19) fun x21 =>
    bnd (pLoad Try.prog 9 x21 h) fun x22 =>
    bnd (pNilCheck Try.prog x0) fun x24 =>
    bnd (pFieldAddr Try.prog 69 x24 3) fun x25 =>
    bnd (pLoad Try.prog 67 x25 h) fun x26 =>
    bnd (pLookup Try.prog 67 x26 x22 false h) fun x28 =>
    bnd (pNilCheck Try.prog x28) fun x30 =>
    bnd (pFieldAddr Try.prog 79 x30 0) fun x31 =>
    bnd (pLoad Try.prog 34 x31 h) fun x32 =>
    bnd (inv (.func 51) #[] #[x32] h) fun x33 =>
    bnd (pNilCheck Try.prog x28) fun x35 =>
    bnd (pFieldAddr Try.prog 79 x35 1) fun x36 =>
    bnd (pLoad Try.prog 77 x36 x33.2) fun x37 =>
    bnd (pLen Try.prog #[77] x37 x33.2) fun x38 =>
    F24_lrlrrrllrrllrlrrr inv k k x0 x3 x33.1 x17 x18 x19 x37 x38 (.int .i64 0) x33.2
    (fun y0 y3 y7 y17 y18 y19 y37 y38 y39 y40 h =>
    bnd (pBuildSlice Try.prog 23 1 #[(0, y7)] h) fun x51 =>
    bnd (pAppend Try.prog #[23, 23] y3 x51.1 x51.2) fun x52 =>
    bnd (pBin Try.prog .add 3 (.tmp 19) (.const (.int .i64 1)) y19 (.int .i64 1)) fun x53 =>
    F24_lrlrrr inv k j y0 x52.1 y17 y18 x53 x52.2 ke0))
    (ke0 x0 x3 x17 x18 x19 x20 h)
theorem F24_lrlrrr_j (j : Nat) : kLoop (kCode env 24 false inv k (cp c24 244)) j (act 55 [(0, x0), (3, x3), (17, x17), (18, x18), (19, x19)]) h K = F24_lrlrrr inv k j x0 x3 x17 x18 x19 h (fun y0 y3 y17 y18 y19 y20 h => K (.exit 0) (act 55 [(0, y0), (3, y3), (17, y17), (18, y18), (19, y19), (20, y20)]) h) := by
      induction j generalizing x0 x3 x17 x18 x19 h with
      | zero => rfl
      | succ j ih =>
        unfold F24_lrlrrr
        simp only [kLoop, kq_seq c24 244, r24_5, kq_seq c24 489, b24_lrllrlrrr, kq_skip c24 1956, kq_seq c24 979, kq_block c24 1958 1, kq_seq c24 3916, r24_6, kq_seq c24 7833, r24_7, kq_seq c24 15667, r24_8, kq_seq c24 31335, kq_seq c24 62670, r24_9, kq_block c24 125341 2, F24_lrlrrrllrrllrlrrr_eq, r24_14, r24_15, kq_exit c24 1957 0, ih, reduceIte, reduceCtorEq, XE.exit.injEq, Nat.reduceEqDiff, Nat.reduceMul, Nat.reduceAdd] <;> kernel_rfl
theorem F24_lrlrrr_eq  : kCode env 24 false inv k (cp c24 122) (act 55 [(0, x0), (3, x3), (17, x17), (18, x18), (19, x19)]) h K = F24_lrlrrr inv k k x0 x3 x17 x18 x19 h (fun y0 y3 y17 y18 y19 y20 h => K (.exit 0) (act 55 [(0, y0), (3, y3), (17, y17), (18, y18), (19, y19), (20, y20)]) h) := kq_loop (F24_lrlrrr_j k)
theorem r24_16  : kCode env 24 false inv k (cp c24 62) (act 55 [(0, x0), (3, x3), (17, x17), (18, x18), (19, x19), (20, x20)]) h K =
    K .normal (act 55 [(2, x3)]) h := kq_reg
/-- (*shadowbook/agg.Acc).Rows -/
noncomputable def F24 (inv : Inv) (k : Nat) (x0 : Value) (h : AH) : Option (Value × AH) :=
    bnd (pBin Try.prog .eql 44 (.tmp 10) (.const (.pointer none)) x0 (.pointer none)) fun x11 =>
    brV x11
    (some ((.slice none 0 0), h))
    (bnd (pNilCheck Try.prog x0) fun x13 =>
    bnd (pFieldAddr Try.prog 69 x13 3) fun x14 =>
    bnd (pLoad Try.prog 67 x14 h) fun x15 =>
    bnd (inv (.func 50) #[] #[x15] h) fun x16 =>
    bnd (inv (.func 49) #[] #[x16.1] x16.2) fun x17 =>
    bnd (pLen Try.prog #[84] x17.1 x17.2) fun x18 =>
    F24_lrlrrr inv k k x0 (.slice none 0 0) x17.1 x18 (.int .i64 0) x17.2
    (fun y0 y3 y17 y18 y19 y20 h =>
    some (y3, h)))
theorem F24_eq : eFun env k inv 24 #[x0] h = F24 inv k x0 h := by
      refine (kq_fun (a := act 55 [(0, x0)]) (c := cp c24 1)).trans ?_
      unfold F24
      simp only [kq_seq c24 1, r24_0, kq_seq c24 3, kq_seq c24 6, r24_1, b24_rlr, kq_seq c24 26, r24_2, kq_ret c24 53, res24_0, kq_skip c24 27, kq_seq c24 7, r24_3, kq_seq c24 15, kq_seq c24 30, r24_4, kq_block c24 61 0, F24_lrlrrr_eq, kq_seq c24 31, r24_16, kq_ret c24 63, reduceIte, reduceCtorEq, XE.exit.injEq, Nat.reduceEqDiff, Nat.reduceMul, Nat.reduceAdd] <;> kernel_rfl
theorem F24_call : eInv env (k + 1) (.func 24) #[] #[x0] h = F24 (eInv env k) k x0 h := kq_inv F24_eq
noncomputable def c33 : Code := codeOf Try.prog 33
theorem r33_0  : kCode env 33 false inv k (cp c33 2) (act 20 [(0, x0)]) h K =
    K .normal (act 20 [(0, x0)]) h := kq_reg
theorem r33_1  : kCode env 33 false inv k (cp c33 12) (act 20 [(0, x0)]) h K =
    K .normal (act 20 [(0, x0), (3, (.int .i64 0))]) h := kq_reg
theorem r33_2  : kCode env 33 false inv k (cp c33 208) (act 20 [(0, x0), (3, x3)]) h K =
    bnd (pLen Try.prog #[22] x0 h) fun x6 =>
    bnd (pBin Try.prog .lss 3 (.tmp 4) (.tmp 6) x3 x6) fun x7 =>
    K .normal (act 20 [(0, x0), (3, x3), (7, x7)]) h := kq_reg
theorem b33_rlllrlr  : kCode env 33 false inv k (cp c33 209) (act 20 [(0, x0), (3, x3), (7, x7)]) h K = brV x7 (kCode env 33 false inv k (cp c33 418) (act 20 [(0, x0), (3, x3), (7, x7)]) h K) (kCode env 33 false inv k (cp c33 419) (act 20 [(0, x0), (3, x3), (7, x7)]) h K) := kq_cond
theorem r33_4  : kCode env 33 false inv k (cp c33 840) (act 20 [(0, x0), (3, x3), (7, x7)]) h K =
    bnd (pIndexAddr Try.prog 22 x0 x3) fun x12 =>
    bnd (pFieldAddr Try.prog 42 x12 0) fun x13 =>
    bnd (pLoad Try.prog 9 x13 h) fun x14 =>
    bnd (pLen Try.prog #[9] x14 h) fun x15 =>
    bnd (pBin Try.prog .gtr 3 (.tmp 15) (.const (.int .i64 60)) x15 (.int .i64 60)) fun x16 =>
    K .normal (act 20 [(0, x0), (3, x3), (16, x16)]) h := kq_reg
theorem b33_rllrllrlr  : kCode env 33 false inv k (cp c33 841) (act 20 [(0, x0), (3, x3), (16, x16)]) h K = brV x16 (kCode env 33 false inv k (cp c33 1682) (act 20 [(0, x0), (3, x3), (16, x16)]) h K) (kCode env 33 false inv k (cp c33 1683) (act 20 [(0, x0), (3, x3), (16, x16)]) h K) := kq_cond
theorem r33_5  : kCode env 33 false inv k (cp c33 3364) (act 20 [(0, x0), (3, x3), (16, x16)]) h K =
    K .normal (act 20 [(2, (.bool false))]) h := kq_reg
theorem r33_3  : kCode env 33 false inv k (cp c33 211) (act 20 [(0, x0), (3, x3), (16, x16)]) h K =
    bnd (pBin Try.prog .add 3 (.tmp 8) (.const (.int .i64 1)) x3 (.int .i64 1)) fun x9 =>
    K .normal (act 20 [(0, x0), (3, x9)]) h := kq_reg
noncomputable def F33_lrlr {β : Type} (inv : Inv) (k : Nat) : Nat → Value → Value → AH → (Value → Value → Value → AH → Option β) → (Value → AH → Option β) → Option β
  | 0, _, _, _, _, _ => none
  | j + 1, x0, x3, h, ke0, kr =>
    bnd (pLen Try.prog #[22] x0 h) fun x6 =>
    bnd (pBin Try.prog .lss 3 (.tmp 4) (.tmp 6) x3 x6) fun x7 =>
    brV x7
    (bnd (pIndexAddr Try.prog 22 x0 x3) fun x12 =>
    bnd (pFieldAddr Try.prog 42 x12 0) fun x13 =>
    bnd (pLoad Try.prog 9 x13 h) fun x14 =>
    bnd (pLen Try.prog #[9] x14 h) fun x15 =>
    bnd (pBin Try.prog .gtr 3 (.tmp 15) (.const (.int .i64 60)) x15 (.int .i64 60)) fun x16 =>
    brV x16
    (kr (.bool false) h)
    (bnd (pBin Try.prog .add 3 (.tmp 8) (.const (.int .i64 1)) x3 (.int .i64 1)) fun x9 =>
    F33_lrlr inv k j x0 x9 h ke0 kr))
    (ke0 x0 x3 x7 h)
theorem F33_lrlr_j (j : Nat) : kLoop (kCode env 33 false inv k (cp c33 52)) j (act 20 [(0, x0), (3, x3)]) h K = F33_lrlr inv k j x0 x3 h (fun y0 y3 y7 h => K (.exit 0) (act 20 [(0, y0), (3, y3), (7, y7)]) h) (fun y2 h => K .ret (act 20 [(2, y2)]) h) := by
      induction j generalizing x0 x3 h with
      | zero => rfl
      | succ j ih =>
        unfold F33_lrlr
        simp only [kLoop, kq_seq c33 52, kq_seq c33 104, r33_2, b33_rlllrlr, kq_skip c33 418, kq_seq c33 105, kq_block c33 210 1, kq_seq c33 420, r33_4, b33_rllrllrlr, kq_seq c33 1682, r33_5, kq_ret c33 3365, kq_skip c33 1683, r33_3, kq_exit c33 419 0, ih, reduceIte, reduceCtorEq, XE.exit.injEq, Nat.reduceEqDiff, Nat.reduceMul, Nat.reduceAdd] <;> kernel_rfl
theorem F33_lrlr_eq  : kCode env 33 false inv k (cp c33 26) (act 20 [(0, x0), (3, x3)]) h K = F33_lrlr inv k k x0 x3 h (fun y0 y3 y7 h => K (.exit 0) (act 20 [(0, y0), (3, y3), (7, y7)]) h) (fun y2 h => K .ret (act 20 [(2, y2)]) h) := kq_loop (F33_lrlr_j k)
theorem r33_6  : kCode env 33 false inv k (cp c33 14) (act 20 [(0, x0), (3, x3), (7, x7)]) h K =
    bnd (pLen Try.prog #[22] x0 h) fun x18 =>
    bnd (pBin Try.prog .leq 3 (.tmp 18) (.const (.int .i64 20)) x18 (.int .i64 20)) fun x19 =>
    K .normal (act 20 [(2, x19)]) h := kq_reg
theorem res33_0 : resOfFn env.P 33 .ret (act 20 [(2, x2)]) h = some (x2, h) := kq_res
/-- shadowbook/shadowbookkit.LightCols -/
noncomputable def F33 (inv : Inv) (k : Nat) (x0 : Value) (h : AH) : Option (Value × AH) :=
    F33_lrlr inv k k x0 (.int .i64 0) h
    (fun y0 y3 y7 h =>
    bnd (pLen Try.prog #[22] y0 h) fun x18 =>
    bnd (pBin Try.prog .leq 3 (.tmp 18) (.const (.int .i64 20)) x18 (.int .i64 20)) fun x19 =>
    some (x19, h))
    (fun y2 h_1 =>
    some (y2, h_1))
theorem F33_eq : eFun env k inv 33 #[x0] h = F33 inv k x0 h := by
      refine (kq_fun (a := act 20 [(0, x0)]) (c := cp c33 1)).trans ?_
      unfold F33
      simp only [kq_seq c33 1, r33_0, kq_seq c33 3, kq_seq c33 6, r33_1, kq_block c33 13 0, F33_lrlr_eq, kq_seq c33 7, r33_6, kq_ret c33 15, res33_0, reduceIte, reduceCtorEq, XE.exit.injEq, Nat.reduceEqDiff, Nat.reduceMul, Nat.reduceAdd] <;> kernel_rfl
theorem F33_call : eInv env (k + 1) (.func 33) #[] #[x0] h = F33 (eInv env k) k x0 h := kq_inv F33_eq
noncomputable def c34 : Code := codeOf Try.prog 34
theorem r34_0  : kCode env 34 false inv k (cp c34 2) (act 22 [(0, x0), (1, x1)]) h K =
    K .normal (act 22 [(0, x0), (1, x1)]) h := kq_reg
theorem r34_1  : kCode env 34 false inv k (cp c34 12) (act 22 [(0, x0), (1, x1)]) h K =
    K .normal (act 22 [(0, x0), (1, x1), (5, (.int .i64 0))]) h := kq_reg
theorem r34_2  : kCode env 34 false inv k (cp c34 208) (act 22 [(0, x0), (1, x1), (5, x5)]) h K =
    bnd (pLen Try.prog #[23] x0 h) fun x8 =>
    bnd (pBin Try.prog .lss 3 (.tmp 6) (.tmp 8) x5 x8) fun x9 =>
    K .normal (act 22 [(0, x0), (1, x1), (5, x5), (9, x9)]) h := kq_reg
theorem b34_rlllrlr  : kCode env 34 false inv k (cp c34 209) (act 22 [(0, x0), (1, x1), (5, x5), (9, x9)]) h K = brV x9 (kCode env 34 false inv k (cp c34 418) (act 22 [(0, x0), (1, x1), (5, x5), (9, x9)]) h K) (kCode env 34 false inv k (cp c34 419) (act 22 [(0, x0), (1, x1), (5, x5), (9, x9)]) h K) := kq_cond
theorem r34_4  : kCode env 34 false inv k (cp c34 840) (act 22 [(0, x0), (1, x1), (5, x5), (9, x9)]) h K =
    bnd (pIndexAddr Try.prog 23 x0 x5) fun x14 =>
    bnd (pLoad Try.prog 34 x14 h) fun x15 =>
    bnd (inv (.func 56) #[] #[x15] h) fun x16 =>
    bnd (pUn Try.prog .not x16.1) fun x17 =>
    K .normal (act 22 [(0, x0), (1, x1), (5, x5), (17, x17)]) x16.2 := kq_reg
theorem b34_rllrllrlr  : kCode env 34 false inv k (cp c34 841) (act 22 [(0, x0), (1, x1), (5, x5), (17, x17)]) h K = brV x17 (kCode env 34 false inv k (cp c34 1682) (act 22 [(0, x0), (1, x1), (5, x5), (17, x17)]) h K) (kCode env 34 false inv k (cp c34 1683) (act 22 [(0, x0), (1, x1), (5, x5), (17, x17)]) h K) := kq_cond
theorem r34_5  : kCode env 34 false inv k (cp c34 3364) (act 22 [(0, x0), (1, x1), (5, x5), (17, x17)]) h K =
    K .normal (act 22 [(4, (.bool false))]) h := kq_reg
theorem r34_3  : kCode env 34 false inv k (cp c34 211) (act 22 [(0, x0), (1, x1), (5, x5), (17, x17)]) h K =
    bnd (pBin Try.prog .add 3 (.tmp 10) (.const (.int .i64 1)) x5 (.int .i64 1)) fun x11 =>
    K .normal (act 22 [(0, x0), (1, x1), (5, x11)]) h := kq_reg
noncomputable def F34_lrlr {β : Type} (inv : Inv) (k : Nat) : Nat → Value → Value → Value → AH → (Value → Value → Value → Value → AH → Option β) → (Value → AH → Option β) → Option β
  | 0, _, _, _, _, _, _ => none
  | j + 1, x0, x1, x5, h, ke0, kr =>
    bnd (pLen Try.prog #[23] x0 h) fun x8 =>
    bnd (pBin Try.prog .lss 3 (.tmp 6) (.tmp 8) x5 x8) fun x9 =>
    brV x9
    (bnd (pIndexAddr Try.prog 23 x0 x5) fun x14 =>
    bnd (pLoad Try.prog 34 x14 h) fun x15 =>
    bnd (inv (.func 56) #[] #[x15] h) fun x16 =>
    bnd (pUn Try.prog .not x16.1) fun x17 =>
    brV x17
    (kr (.bool false) x16.2)
    (bnd (pBin Try.prog .add 3 (.tmp 10) (.const (.int .i64 1)) x5 (.int .i64 1)) fun x11 =>
    F34_lrlr inv k j x0 x1 x11 x16.2 ke0 kr))
    (ke0 x0 x1 x5 x9 h)
theorem F34_lrlr_j (j : Nat) : kLoop (kCode env 34 false inv k (cp c34 52)) j (act 22 [(0, x0), (1, x1), (5, x5)]) h K = F34_lrlr inv k j x0 x1 x5 h (fun y0 y1 y5 y9 h => K (.exit 0) (act 22 [(0, y0), (1, y1), (5, y5), (9, y9)]) h) (fun y4 h => K .ret (act 22 [(4, y4)]) h) := by
      induction j generalizing x0 x1 x5 h with
      | zero => rfl
      | succ j ih =>
        unfold F34_lrlr
        simp only [kLoop, kq_seq c34 52, kq_seq c34 104, r34_2, b34_rlllrlr, kq_skip c34 418, kq_seq c34 105, kq_block c34 210 1, kq_seq c34 420, r34_4, b34_rllrllrlr, kq_seq c34 1682, r34_5, kq_ret c34 3365, kq_skip c34 1683, r34_3, kq_exit c34 419 0, ih, reduceIte, reduceCtorEq, XE.exit.injEq, Nat.reduceEqDiff, Nat.reduceMul, Nat.reduceAdd] <;> kernel_rfl
theorem F34_lrlr_eq  : kCode env 34 false inv k (cp c34 26) (act 22 [(0, x0), (1, x1), (5, x5)]) h K = F34_lrlr inv k k x0 x1 x5 h (fun y0 y1 y5 y9 h => K (.exit 0) (act 22 [(0, y0), (1, y1), (5, y5), (9, y9)]) h) (fun y4 h => K .ret (act 22 [(4, y4)]) h) := kq_loop (F34_lrlr_j k)
theorem r34_6  : kCode env 34 false inv k (cp c34 14) (act 22 [(0, x0), (1, x1), (5, x5), (9, x9)]) h K =
    bnd (pLen Try.prog #[23] x0 h) fun x19 =>
    bnd (pBin Try.prog .leq 3 (.tmp 19) (.tmp 20) x19 x1) fun x21 =>
    K .normal (act 22 [(4, x21)]) h := kq_reg
theorem res34_0 : resOfFn env.P 34 .ret (act 22 [(4, x4)]) h = some (x4, h) := kq_res
/-- shadowbook/shadowbookkit.LightRows -/
noncomputable def F34 (inv : Inv) (k : Nat) (x0 x1 : Value) (h : AH) : Option (Value × AH) :=
    F34_lrlr inv k k x0 x1 (.int .i64 0) h
    (fun y0 y1 y5 y9 h =>
    bnd (pLen Try.prog #[23] y0 h) fun x19 =>
    bnd (pBin Try.prog .leq 3 (.tmp 19) (.tmp 20) x19 y1) fun x21 =>
    some (x21, h))
    (fun y4 h_1 =>
    some (y4, h_1))
theorem F34_eq : eFun env k inv 34 #[x0, x1] h = F34 inv k x0 x1 h := by
      refine (kq_fun (a := act 22 [(0, x0), (1, x1)]) (c := cp c34 1)).trans ?_
      unfold F34
      simp only [kq_seq c34 1, r34_0, kq_seq c34 3, kq_seq c34 6, r34_1, kq_block c34 13 0, F34_lrlr_eq, kq_seq c34 7, r34_6, kq_ret c34 15, res34_0, reduceIte, reduceCtorEq, XE.exit.injEq, Nat.reduceEqDiff, Nat.reduceMul, Nat.reduceAdd] <;> kernel_rfl
theorem F34_call : eInv env (k + 1) (.func 34) #[] #[x0, x1] h = F34 (eInv env k) k x0 x1 h := kq_inv F34_eq
noncomputable def c35 : Code := codeOf Try.prog 35
theorem r35_0  : kCode env 35 false inv k (cp c35 2) (act 9 [(0, x0), (1, x1)]) h K =
    K .normal (act 9 [(0, x0), (1, x1)]) h := kq_reg
theorem r35_1  : kCode env 35 false inv k (cp c35 24) (act 9 [(0, x0), (1, x1)]) h K =
    K .normal (act 9 [(1, x1), (5, x0)]) h := kq_reg
theorem b35_rllr  : kCode env 35 false inv k (cp c35 25) (act 9 [(1, x1), (5, x5)]) h K = brV x5 (kCode env 35 false inv k (cp c35 50) (act 9 [(1, x1), (5, x5)]) h K) (kCode env 35 false inv k (cp c35 51) (act 9 [(1, x1), (5, x5)]) h K) := kq_cond
theorem r35_2  : kCode env 35 false inv k (cp c35 100) (act 9 [(1, x1), (5, x5)]) h K =
    K .normal (act 9 [(4, (.int .i64 (-1)))]) h := kq_reg
theorem res35_0 : resOfFn env.P 35 .ret (act 9 [(4, x4)]) h = some (x4, h) := kq_res
theorem r35_3  : kCode env 35 false inv k (cp c35 102) (act 9 [(1, x1), (5, x5)]) h K =
    K .normal (act 9 [(7, x1)]) h := kq_reg
theorem b35_rrrllr  : kCode env 35 false inv k (cp c35 103) (act 9 [(7, x7)]) h K = brV x7 (kCode env 35 false inv k (cp c35 206) (act 9 [(7, x7)]) h K) (kCode env 35 false inv k (cp c35 207) (act 9 [(7, x7)]) h K) := kq_cond
theorem r35_4  : kCode env 35 false inv k (cp c35 412) (act 9 [(7, x7)]) h K =
    K .normal (act 9 [(4, (.int .i64 1))]) h := kq_reg
theorem r35_5  : kCode env 35 false inv k (cp c35 14) (act 9 [(7, x7)]) h K =
    K .normal (act 9 [(4, (.int .i64 0))]) h := kq_reg
/-- shadowbook/shadowbookref16.sign -/
noncomputable def F35 (inv : Inv) (k : Nat) (x0 x1 : Value) (h : AH) : Option (Value × AH) :=
    brV x0
    (some ((.int .i64 (-1)), h))
    (brV x1
    (some ((.int .i64 1), h))
    (some ((.int .i64 0), h)))
theorem F35_eq : eFun env k inv 35 #[x0, x1] h = F35 inv k x0 x1 h := by
      refine (kq_fun (a := act 9 [(0, x0), (1, x1)]) (c := cp c35 1)).trans ?_
      unfold F35
      simp only [kq_seq c35 1, r35_0, kq_seq c35 3, kq_block c35 6 0, kq_seq c35 12, r35_1, b35_rllr, kq_seq c35 50, r35_2, kq_ret c35 101, res35_0, kq_seq c35 51, r35_3, b35_rrrllr, kq_seq c35 206, r35_4, kq_ret c35 413, kq_skip c35 207, kq_seq c35 7, r35_5, kq_ret c35 15, reduceIte, reduceCtorEq, XE.exit.injEq, Nat.reduceEqDiff, Nat.reduceMul, Nat.reduceAdd] <;> kernel_rfl
theorem F35_call : eInv env (k + 1) (.func 35) #[] #[x0, x1] h = F35 (eInv env k) k x0 x1 h := kq_inv F35_eq
noncomputable def c36 : Code := codeOf Try.prog 36
theorem r36_0  : kCode env 36 false inv k (cp c36 2) (act 8 [(0, x0)]) h K =
    K .normal (act 8 [(0, x0)]) h := kq_reg
theorem r36_1  : kCode env 36 false inv k (cp c36 12) (act 8 [(0, x0)]) h K =
    bnd (pBin Try.prog .eql 22 (.tmp 3) (.const (.slice none 0 0)) x0 (.slice none 0 0)) fun x4 =>
    K .normal (act 8 [(0, x0), (4, x4)]) h := kq_reg
theorem b36_rlr  : kCode env 36 false inv k (cp c36 13) (act 8 [(0, x0), (4, x4)]) h K = brV x4 (kCode env 36 false inv k (cp c36 26) (act 8 [(0, x0), (4, x4)]) h K) (kCode env 36 false inv k (cp c36 27) (act 8 [(0, x0), (4, x4)]) h K) := kq_cond
theorem r36_2  : kCode env 36 false inv k (cp c36 52) (act 8 [(0, x0), (4, x4)]) h K =
    K .normal (act 8 [(2, (.slice none 0 0))]) h := kq_reg
theorem res36_0 : resOfFn env.P 36 .ret (act 8 [(2, x2)]) h = some (x2, h) := kq_res
theorem r36_3  : kCode env 36 false inv k (cp c36 14) (act 8 [(0, x0), (4, x4)]) h K =
    bnd (pBuildSlice Try.prog 22 0 #[] h) fun x5 =>
    bnd (pAppend Try.prog #[22, 22] x5.1 x0 x5.2) fun x7 =>
    K .normal (act 8 [(2, x7.1)]) x7.2 := kq_reg
/-- slices.Clone[[]shadowbook/api.Col,shadowbook/api.Col] -/
noncomputable def F36 (inv : Inv) (k : Nat) (x0 : Value) (h : AH) : Option (Value × AH) :=
    bnd (pBin Try.prog .eql 22 (.tmp 3) (.const (.slice none 0 0)) x0 (.slice none 0 0)) fun x4 =>
    brV x4
    (some ((.slice none 0 0), h))
    (bnd (pBuildSlice Try.prog 22 0 #[] h) fun x5 =>
    bnd (pAppend Try.prog #[22, 22] x5.1 x0 x5.2) fun x7 =>
    some (x7.1, x7.2))
theorem F36_eq : eFun env k inv 36 #[x0] h = F36 inv k x0 h := by
      refine (kq_fun (a := act 8 [(0, x0)]) (c := cp c36 1)).trans ?_
      unfold F36
      simp only [kq_seq c36 1, r36_0, kq_seq c36 3, kq_seq c36 6, r36_1, b36_rlr, kq_seq c36 26, r36_2, kq_ret c36 53, res36_0, kq_skip c36 27, kq_seq c36 7, r36_3, kq_ret c36 15, reduceIte, reduceCtorEq, XE.exit.injEq, Nat.reduceEqDiff, Nat.reduceMul, Nat.reduceAdd] <;> kernel_rfl
theorem F36_call : eInv env (k + 1) (.func 36) #[] #[x0] h = F36 (eInv env k) k x0 h := kq_inv F36_eq
noncomputable def c37 : Code := codeOf Try.prog 37
theorem r37_0  : kCode env 37 false inv k (cp c37 2) (act 8 [(0, x0)]) h K =
    K .normal (act 8 [(0, x0)]) h := kq_reg
theorem r37_1  : kCode env 37 false inv k (cp c37 12) (act 8 [(0, x0)]) h K =
    bnd (pBin Try.prog .eql 24 (.tmp 3) (.const (.slice none 0 0)) x0 (.slice none 0 0)) fun x4 =>
    K .normal (act 8 [(0, x0), (4, x4)]) h := kq_reg
theorem b37_rlr  : kCode env 37 false inv k (cp c37 13) (act 8 [(0, x0), (4, x4)]) h K = brV x4 (kCode env 37 false inv k (cp c37 26) (act 8 [(0, x0), (4, x4)]) h K) (kCode env 37 false inv k (cp c37 27) (act 8 [(0, x0), (4, x4)]) h K) := kq_cond
theorem r37_2  : kCode env 37 false inv k (cp c37 52) (act 8 [(0, x0), (4, x4)]) h K =
    K .normal (act 8 [(2, (.slice none 0 0))]) h := kq_reg
theorem res37_0 : resOfFn env.P 37 .ret (act 8 [(2, x2)]) h = some (x2, h) := kq_res
theorem r37_3  : kCode env 37 false inv k (cp c37 14) (act 8 [(0, x0), (4, x4)]) h K =
    bnd (pBuildSlice Try.prog 24 0 #[] h) fun x5 =>
    bnd (pAppend Try.prog #[24, 24] x5.1 x0 x5.2) fun x7 =>
    K .normal (act 8 [(2, x7.1)]) x7.2 := kq_reg
/-- slices.Clone[[]int,int] -/
noncomputable def F37 (inv : Inv) (k : Nat) (x0 : Value) (h : AH) : Option (Value × AH) :=
    bnd (pBin Try.prog .eql 24 (.tmp 3) (.const (.slice none 0 0)) x0 (.slice none 0 0)) fun x4 =>
    brV x4
    (some ((.slice none 0 0), h))
    (bnd (pBuildSlice Try.prog 24 0 #[] h) fun x5 =>
    bnd (pAppend Try.prog #[24, 24] x5.1 x0 x5.2) fun x7 =>
    some (x7.1, x7.2))
theorem F37_eq : eFun env k inv 37 #[x0] h = F37 inv k x0 h := by
      refine (kq_fun (a := act 8 [(0, x0)]) (c := cp c37 1)).trans ?_
      unfold F37
      simp only [kq_seq c37 1, r37_0, kq_seq c37 3, kq_seq c37 6, r37_1, b37_rlr, kq_seq c37 26, r37_2, kq_ret c37 53, res37_0, kq_skip c37 27, kq_seq c37 7, r37_3, kq_ret c37 15, reduceIte, reduceCtorEq, XE.exit.injEq, Nat.reduceEqDiff, Nat.reduceMul, Nat.reduceAdd] <;> kernel_rfl
theorem F37_call : eInv env (k + 1) (.func 37) #[] #[x0] h = F37 (eInv env k) k x0 h := kq_inv F37_eq
noncomputable def c38 : Code := codeOf Try.prog 38
theorem r38_0  : kCode env 38 false inv k (cp c38 2) (act 8 [(0, x0)]) h K =
    K .normal (act 8 [(0, x0)]) h := kq_reg
theorem r38_1  : kCode env 38 false inv k (cp c38 12) (act 8 [(0, x0)]) h K =
    bnd (pBin Try.prog .eql 29 (.tmp 3) (.const (.slice none 0 0)) x0 (.slice none 0 0)) fun x4 =>
    K .normal (act 8 [(0, x0), (4, x4)]) h := kq_reg
theorem b38_rlr  : kCode env 38 false inv k (cp c38 13) (act 8 [(0, x0), (4, x4)]) h K = brV x4 (kCode env 38 false inv k (cp c38 26) (act 8 [(0, x0), (4, x4)]) h K) (kCode env 38 false inv k (cp c38 27) (act 8 [(0, x0), (4, x4)]) h K) := kq_cond
theorem r38_2  : kCode env 38 false inv k (cp c38 52) (act 8 [(0, x0), (4, x4)]) h K =
    K .normal (act 8 [(2, (.slice none 0 0))]) h := kq_reg
theorem res38_0 : resOfFn env.P 38 .ret (act 8 [(2, x2)]) h = some (x2, h) := kq_res
theorem r38_3  : kCode env 38 false inv k (cp c38 14) (act 8 [(0, x0), (4, x4)]) h K =
    bnd (pBuildSlice Try.prog 29 0 #[] h) fun x5 =>
    bnd (pAppend Try.prog #[29, 29] x5.1 x0 x5.2) fun x7 =>
    K .normal (act 8 [(2, x7.1)]) x7.2 := kq_reg
/-- slices.Clone[[]shadowbook/api.Agg,shadowbook/api.Agg] -/
noncomputable def F38 (inv : Inv) (k : Nat) (x0 : Value) (h : AH) : Option (Value × AH) :=
    bnd (pBin Try.prog .eql 29 (.tmp 3) (.const (.slice none 0 0)) x0 (.slice none 0 0)) fun x4 =>
    brV x4
    (some ((.slice none 0 0), h))
    (bnd (pBuildSlice Try.prog 29 0 #[] h) fun x5 =>
    bnd (pAppend Try.prog #[29, 29] x5.1 x0 x5.2) fun x7 =>
    some (x7.1, x7.2))
theorem F38_eq : eFun env k inv 38 #[x0] h = F38 inv k x0 h := by
      refine (kq_fun (a := act 8 [(0, x0)]) (c := cp c38 1)).trans ?_
      unfold F38
      simp only [kq_seq c38 1, r38_0, kq_seq c38 3, kq_seq c38 6, r38_1, b38_rlr, kq_seq c38 26, r38_2, kq_ret c38 53, res38_0, kq_skip c38 27, kq_seq c38 7, r38_3, kq_ret c38 15, reduceIte, reduceCtorEq, XE.exit.injEq, Nat.reduceEqDiff, Nat.reduceMul, Nat.reduceAdd] <;> kernel_rfl
theorem F38_call : eInv env (k + 1) (.func 38) #[] #[x0] h = F38 (eInv env k) k x0 h := kq_inv F38_eq
noncomputable def c39 : Code := codeOf Try.prog 39
theorem r39_0  : kCode env 39 false inv k (cp c39 2) (act 54 [(0, x0), (1, x1)]) h K =
    K .normal (act 54 [(0, x0), (1, x1)]) h := kq_reg
theorem r39_1  : kCode env 39 false inv k (cp c39 6) (act 54 [(0, x0), (1, x1)]) h K =
    bnd (inv (.func 57) #[] #[x1] h) fun x11 =>
    K .normal (act 54 [(0, x0), (1, x1), (5, x11.1)]) x11.2 := kq_reg
theorem r39_2  : kCode env 39 false inv k (cp c39 14) (act 54 [(0, x0), (1, x1), (5, x5)]) h K =
    bnd (pNilCheck Try.prog x0) fun x14 =>
    bnd (pFieldAddr Try.prog 69 x14 3) fun x15 =>
    bnd (pLoad Try.prog 67 x15 h) fun x16 =>
    bnd (pLookup Try.prog 67 x16 x5 true h) fun x18 =>
    bnd (pExtract x18 0) fun x19 =>
    bnd (pExtract x18 1) fun x20 =>
    K .normal (act 54 [(0, x0), (1, x1), (5, x5), (6, x19), (7, x20)]) h := kq_reg
theorem r39_3  : kCode env 39 false inv k (cp c39 60) (act 54 [(0, x0), (1, x1), (5, x5), (6, x6), (7, x7)]) h K =
    bnd (pUn Try.prog .not x7) fun x22 =>
    K .normal (act 54 [(0, x0), (1, x1), (5, x5), (6, x6), (22, x22)]) h := kq_reg
theorem b39_rlrrr  : kCode env 39 false inv k (cp c39 61) (act 54 [(0, x0), (1, x1), (5, x5), (6, x6), (22, x22)]) h K = brV x22 (kCode env 39 false inv k (cp c39 122) (act 54 [(0, x0), (1, x1), (5, x5), (6, x6), (22, x22)]) h K) (kCode env 39 false inv k (cp c39 123) (act 54 [(0, x0), (1, x1), (5, x5), (6, x6), (22, x22)]) h K) := kq_cond
theorem r39_4  : kCode env 39 false inv k (cp c39 244) (act 54 [(0, x0), (1, x1), (5, x5), (6, x6), (22, x22)]) h K =
    bnd (pBuild Try.prog 79 #[(0, x1)]) fun x24 =>
    bnd (pBox Try.prog 79 x24 h) fun x25 =>
    K .normal (act 54 [(0, x0), (5, x5), (6, x25.1)]) x25.2 := kq_reg
theorem r39_5  : kCode env 39 false inv k (cp c39 980) (act 54 [(0, x0), (5, x5), (6, x6)]) h K =
    bnd (pNilCheck Try.prog x0) fun x27 =>
    bnd (pFieldAddr Try.prog 69 x27 2) fun x28 =>
    bnd (pLoad Try.prog 29 x28 h) fun x29 =>
    bnd (pLen Try.prog #[29] x29 h) fun x30 =>
    K .normal (act 54 [(0, x0), (5, x5), (6, x6), (29, x29), (30, x30), (31, (.int .i64 0))]) h := kq_reg
theorem r39_6  : kCode env 39 false inv k (cp c39 7848) (act 54 [(0, x0), (5, x5), (6, x6), (29, x29), (30, x30), (31, x31)]) h K =
    bnd (pBin Try.prog .lss 3 (.tmp 31) (.tmp 30) x31 x30) fun x32 =>
    K .normal (act 54 [(0, x0), (5, x5), (6, x6), (29, x29), (30, x30), (31, x31), (32, x32)]) h := kq_reg
theorem b39_lrllrlrlrlrrr  : kCode env 39 false inv k (cp c39 15698) (act 54 [(0, x0), (5, x5), (6, x6), (29, x29), (30, x30), (31, x31), (32, x32)]) h K = brV x32 (kCode env 39 false inv k (cp c39 31396) (act 54 [(0, x0), (5, x5), (6, x6), (29, x29), (30, x30), (31, x31), (32, x32)]) h K) (kCode env 39 false inv k (cp c39 31397) (act 54 [(0, x0), (5, x5), (6, x6), (29, x29), (30, x30), (31, x31), (32, x32)]) h K) := kq_cond
theorem r39_7  : kCode env 39 false inv k (cp c39 125592) (act 54 [(0, x0), (5, x5), (6, x6), (29, x29), (30, x30), (31, x31), (32, x32)]) h K =
    bnd (pIndexAddr Try.prog 29 x29 x31) fun x33 =>
    bnd (pLoad Try.prog 28 x33 h) fun x34 =>
    bnd (pAlloc Try.prog 28 h) fun x9 =>
    bnd (kSt (pStore Try.prog 28 x9.1 x34 x9.2)) fun u =>
    K .normal (act 54 [(0, x0), (5, x5), (6, x6), (9, x9.1), (29, x29), (30, x30), (31, x31)]) u.2 := kq_reg
noncomputable abbrev G39_8 {β : Type} (inv : Inv) (x0 x5 x6 x9 x29 x30 x31 : Value) (h : AH) (K : AH → Option β) : Option β :=
    bnd (pNilCheck Try.prog x6) fun x37 =>
    bnd (pFieldAddr Try.prog 79 x37 1) fun x38 =>
    bnd (pLoad Try.prog 77 x38 h) fun x39 =>
    bnd (pLoad Try.prog 28 x9 h) fun x40 =>
    bnd (inv (.func 58) #[] #[x40] h) fun x41 =>
    bnd (pBuildSlice Try.prog 77 1 #[(0, x41.1)] x41.2) fun x42 =>
    bnd (pAppend Try.prog #[77, 77] x39 x42.1 x42.2) fun x43 =>
    bnd (pNilCheck Try.prog x6) fun x44 =>
    bnd (pFieldAddr Try.prog 79 x44 1) fun x45 =>
    bnd (kSt (pStore Try.prog 77 x45 x43.1 x43.2)) fun u =>
    chkK ((!true || !true || (sameO (pLoad Try.prog 77 x38 h) x39 && sameO (pLoad Try.prog 77 x38 x41.2) x39)) && ((!true || !true || (sameO (pLoad Try.prog 77 x38 x41.2) x39 && sameO (pLoad Try.prog 77 x38 x42.2) x39)) && true)) <|
    K u.2
theorem r39_8  : kCode env 39 false inv k (cp c39 125593) (act 54 [(0, x0), (5, x5), (6, x6), (9, x9), (29, x29), (30, x30), (31, x31)]) h K =
    G39_8 inv x0 x5 x6 x9 x29 x30 x31 h fun  h => K .normal (act 54 [(0, x0), (5, x5), (6, x6), (29, x29), (30, x30), (31, x31)]) h := kq_draw
theorem r39_9  : kCode env 39 false inv k (cp c39 31399) (act 54 [(0, x0), (5, x5), (6, x6), (29, x29), (30, x30), (31, x31)]) h K =
    bnd (pBin Try.prog .add 3 (.tmp 31) (.const (.int .i64 1)) x31 (.int .i64 1)) fun x46 =>
    K .normal (act 54 [(0, x0), (5, x5), (6, x6), (29, x29), (30, x30), (31, x46)]) h := kq_reg
noncomputable def F39_lrlrlrlrrr {β : Type} (inv : Inv) (k : Nat) : Nat → Value → Value → Value → Value → Value → Value → AH → (Value → Value → Value → Value → Value → Value → Value → AH → Option β) → Option β
  | 0, _, _, _, _, _, _, _, _ => none
  | j + 1, x0, x5, x6, x29, x30, x31, h, ke0 =>
    bnd (pBin Try.prog .lss 3 (.tmp 31) (.tmp 30) x31 x30) fun x32 =>
    brV x32
    (bnd (pIndexAddr Try.prog 29 x29 x31) fun x33 =>
    bnd (pLoad Try.prog 28 x33 h) fun x34 =>
    bnd (pAlloc Try.prog 28 h) fun x9 =>
    bnd (kSt (pStore Try.prog 28 x9.1 x34 x9.2)) fun u =>
    G39_8 inv x0 x5 x6 x9.1 x29 x30 x31 u.2 fun  h =>
    bnd (pBin Try.prog .add 3 (.tmp 31) (.const (.int .i64 1)) x31 (.int .i64 1)) fun x46 =>
    F39_lrlrlrlrrr inv k j x0 x5 x6 x29 x30 x46 h ke0)
    (ke0 x0 x5 x6 x29 x30 x31 x32 h)
theorem F39_lrlrlrlrrr_j (j : Nat) : kLoop (kCode env 39 false inv k (cp c39 3924)) j (act 54 [(0, x0), (5, x5), (6, x6), (29, x29), (30, x30), (31, x31)]) h K = F39_lrlrlrlrrr inv k j x0 x5 x6 x29 x30 x31 h (fun y0 y5 y6 y29 y30 y31 y32 h => K (.exit 0) (act 54 [(0, y0), (5, y5), (6, y6), (29, y29), (30, y30), (31, y31), (32, y32)]) h) := by
      induction j generalizing x0 x5 x6 x29 x30 x31 h with
      | zero => rfl
      | succ j ih =>
        unfold F39_lrlrlrlrrr
        simp only [kLoop, kq_seq c39 3924, r39_6, kq_seq c39 7849, b39_lrllrlrlrlrrr, kq_skip c39 31396, kq_seq c39 15699, kq_block c39 31398 1, kq_seq c39 62796, r39_7, r39_8, r39_9, kq_exit c39 31397 0, ih, reduceIte, reduceCtorEq, XE.exit.injEq, Nat.reduceEqDiff, Nat.reduceMul, Nat.reduceAdd] <;> kernel_rfl
theorem F39_lrlrlrlrrr_eq  : kCode env 39 false inv k (cp c39 1962) (act 54 [(0, x0), (5, x5), (6, x6), (29, x29), (30, x30), (31, x31)]) h K = F39_lrlrlrlrrr inv k k x0 x5 x6 x29 x30 x31 h (fun y0 y5 y6 y29 y30 y31 y32 h => K (.exit 0) (act 54 [(0, y0), (5, y5), (6, y6), (29, y29), (30, y30), (31, y31), (32, y32)]) h) := kq_loop (F39_lrlrlrlrrr_j k)
theorem r39_10  : kCode env 39 false inv k (cp c39 491) (act 54 [(0, x0), (5, x5), (6, x6), (29, x29), (30, x30), (31, x31), (32, x32)]) h K =
    bnd (pNilCheck Try.prog x0) fun x48 =>
    bnd (pFieldAddr Try.prog 69 x48 3) fun x49 =>
    bnd (pLoad Try.prog 67 x49 h) fun x50 =>
    bnd (kSt (pUpdate Try.prog 67 x50 x5 x6 h)) fun u =>
    K .normal (act 54 [(6, x6)]) u.2 := kq_reg
noncomputable def F39_rlrrr {β : Type} (inv : Inv) (k : Nat) (x0 x1 x5 x6 x22 : Value) (h : AH) (kn : (Value → Value → Value → Value → Value → AH → Option β)) : Option β :=
    brV x22
    (bnd (pBuild Try.prog 79 #[(0, x1)]) fun x24 =>
    bnd (pBox Try.prog 79 x24 h) fun x25 =>
    bnd (pNilCheck Try.prog x0) fun x27 =>
    bnd (pFieldAddr Try.prog 69 x27 2) fun x28 =>
    bnd (pLoad Try.prog 29 x28 x25.2) fun x29 =>
    bnd (pLen Try.prog #[29] x29 x25.2) fun x30 =>
    F39_lrlrlrlrrr inv k k x0 x5 x25.1 x29 x30 (.int .i64 0) x25.2
    (fun y0 y5 y6 y29 y30 y31 y32 h =>
    bnd (pNilCheck Try.prog y0) fun x48 =>
    bnd (pFieldAddr Try.prog 69 x48 3) fun x49 =>
    bnd (pLoad Try.prog 67 x49 h) fun x50 =>
    bnd (kSt (pUpdate Try.prog 67 x50 y5 y6 h)) fun u =>
    kn unk unk unk y6 unk u.2))
    (kn x0 x1 x5 x6 x22 h)
theorem F39_rlrrr_eq  : kCode env 39 false inv k (cp c39 61) (act 54 [(0, x0), (1, x1), (5, x5), (6, x6), (22, x22)]) h K = F39_rlrrr inv k x0 x1 x5 x6 x22 h (fun y0 y1 y5 y6 y22 h => K .normal (act 54 [(0, y0), (1, y1), (5, y5), (6, y6), (22, y22)]) h) := by
      unfold F39_rlrrr
      simp only [b39_rlrrr, kq_seq c39 122, r39_4, kq_seq c39 245, kq_seq c39 490, r39_5, kq_block c39 981 0, F39_lrlrlrlrrr_eq, r39_10, kq_skip c39 123, reduceIte, reduceCtorEq, XE.exit.injEq, Nat.reduceEqDiff, Nat.reduceMul, Nat.reduceAdd] <;> kernel_rfl
theorem r39_11  : kCode env 39 false inv k (cp c39 62) (act 54 [(0, x0), (1, x1), (5, x5), (6, x6), (22, x22)]) h K =
    K .normal (act 54 [(4, x6)]) h := kq_reg
theorem res39_0 : resOfFn env.P 39 .ret (act 54 [(4, x4)]) h = some (x4, h) := kq_res
/-- (*shadowbook/agg.Acc).of -/
noncomputable def F39 (inv : Inv) (k : Nat) (x0 x1 : Value) (h : AH) : Option (Value × AH) :=
    bnd (inv (.func 57) #[] #[x1] h) fun x11 =>
    bnd (pNilCheck Try.prog x0) fun x14 =>
    bnd (pFieldAddr Try.prog 69 x14 3) fun x15 =>
    bnd (pLoad Try.prog 67 x15 x11.2) fun x16 =>
    bnd (pLookup Try.prog 67 x16 x11.1 true x11.2) fun x18 =>
    bnd (pExtract x18 0) fun x19 =>
    bnd (pExtract x18 1) fun x20 =>
    bnd (pUn Try.prog .not x20) fun x22 =>
    F39_rlrrr inv k x0 x1 x11.1 x19 x22 x11.2
    (fun y0 y1 y5 y6 y22 h =>
    some (y6, h))
theorem F39_eq : eFun env k inv 39 #[x0, x1] h = F39 inv k x0 x1 h := by
      refine (kq_fun (a := act 54 [(0, x0), (1, x1)]) (c := cp c39 1)).trans ?_
      unfold F39
      simp only [kq_seq c39 1, r39_0, kq_seq c39 3, r39_1, kq_seq c39 7, r39_2, kq_seq c39 15, kq_seq c39 30, r39_3, F39_rlrrr_eq, kq_seq c39 31, r39_11, kq_ret c39 63, res39_0, reduceIte, reduceCtorEq, XE.exit.injEq, Nat.reduceEqDiff, Nat.reduceMul, Nat.reduceAdd] <;> kernel_rfl
theorem F39_call : eInv env (k + 1) (.func 39) #[] #[x0, x1] h = F39 (eInv env k) k x0 x1 h := kq_inv F39_eq
noncomputable def c41 : Code := codeOf Try.prog 41
theorem r41_0  : kCode env 41 false inv k (cp c41 2) (act 43 [(0, x0)]) h K =
    K .normal (act 43 [(0, x0)]) h := kq_reg
noncomputable abbrev G41_1 {β : Type} (inv : Inv) (x0 : Value) (h : AH) (K : Value → AH → Option β) : Option β :=
    bnd (pLen Try.prog #[22] x0 h) fun x7 =>
    bnd (pBin Try.prog .lss 3 (.tmp 7) (.const (.int .i64 1)) x7 (.int .i64 1)) fun x8 =>
    bnd (gd (some x8) false h (some (x0, h))) fun x10 =>
    bnd (gd (some x8) false x10.2 (lt (pLen Try.prog #[22] x10.1 x10.2) x10.2)) fun x11 =>
    bnd (gd (some x8) false x11.2 (lt (pBin Try.prog .gtr 3 (.tmp 11) (.const (.int .i64 16)) x11.1 (.int .i64 16)) x11.2)) fun x12 =>
    bnd (pickV x8 (.bool true) x12.1) fun x13 =>
    K (x13) x12.2
theorem r41_1  : kCode env 41 false inv k (cp c41 12) (act 43 [(0, x0)]) h K =
    G41_1 inv x0 h fun y13 h => K .normal (act 43 [(0, x0), (13, y13)]) h := kq_reg
theorem b41_rlr  : kCode env 41 false inv k (cp c41 13) (act 43 [(0, x0), (13, x13)]) h K = brV x13 (kCode env 41 false inv k (cp c41 26) (act 43 [(0, x0), (13, x13)]) h K) (kCode env 41 false inv k (cp c41 27) (act 43 [(0, x0), (13, x13)]) h K) := kq_cond
theorem r41_2  : kCode env 41 false inv k (cp c41 52) (act 43 [(0, x0), (13, x13)]) h K =
    K .normal (act 43 [(2, (.int .i64 171))]) h := kq_reg
theorem res41_0 : resOfFn env.P 41 .ret (act 43 [(2, x2)]) h = some (x2, h) := kq_res
theorem r41_3  : kCode env 41 false inv k (cp c41 28) (act 43 [(0, x0), (13, x13)]) h K =
    bnd (pLen Try.prog #[22] x0 h) fun x15 =>
    K .normal (act 43 [(0, x0), (14, x0), (15, x15), (16, (.int .i64 0))]) h := kq_reg
theorem r41_4  : kCode env 41 false inv k (cp c41 232) (act 43 [(0, x0), (14, x14), (15, x15), (16, x16)]) h K =
    bnd (pBin Try.prog .lss 3 (.tmp 16) (.tmp 15) x16 x15) fun x17 =>
    K .normal (act 43 [(0, x0), (14, x14), (15, x15), (16, x16), (17, x17)]) h := kq_reg
theorem b41_lrllrlrr  : kCode env 41 false inv k (cp c41 466) (act 43 [(0, x0), (14, x14), (15, x15), (16, x16), (17, x17)]) h K = brV x17 (kCode env 41 false inv k (cp c41 932) (act 43 [(0, x0), (14, x14), (15, x15), (16, x16), (17, x17)]) h K) (kCode env 41 false inv k (cp c41 933) (act 43 [(0, x0), (14, x14), (15, x15), (16, x16), (17, x17)]) h K) := kq_cond
theorem r41_5  : kCode env 41 false inv k (cp c41 3736) (act 43 [(0, x0), (14, x14), (15, x15), (16, x16), (17, x17)]) h K =
    bnd (pIndexAddr Try.prog 22 x14 x16) fun x19 =>
    bnd (pLoad Try.prog 42 x19 h) fun x20 =>
    bnd (pAlloc Try.prog 42 h) fun x4 =>
    bnd (kSt (pStore Try.prog 42 x4.1 x20 x4.2)) fun u =>
    K .normal (act 43 [(0, x0), (3, x16), (4, x4.1), (14, x14), (15, x15), (16, x16)]) u.2 := kq_reg
theorem r41_6  : kCode env 41 false inv k (cp c41 14948) (act 43 [(0, x0), (3, x3), (4, x4), (14, x14), (15, x15), (16, x16)]) h K =
    bnd (pFieldAddr Try.prog 42 x4 0) fun x21 =>
    bnd (pLoad Try.prog 9 x21 h) fun x22 =>
    bnd (inv (.func 60) #[] #[x22] h) fun x23 =>
    K .normal (act 43 [(0, x0), (3, x3), (4, x4), (5, x23.1), (14, x14), (15, x15), (16, x16)]) x23.2 := kq_reg
theorem r41_7  : kCode env 41 false inv k (cp c41 29898) (act 43 [(0, x0), (3, x3), (4, x4), (5, x5), (14, x14), (15, x15), (16, x16)]) h K =
    bnd (pBin Try.prog .neq 31 (.tmp 24) (.const (.int .i64 0)) x5 (.int .i64 0)) fun x25 =>
    K .normal (act 43 [(0, x0), (3, x3), (4, x4), (5, x5), (14, x14), (15, x15), (16, x16), (25, x25)]) h := kq_reg
theorem b41_rrlrllrrllrlrr  : kCode env 41 false inv k (cp c41 29899) (act 43 [(0, x0), (3, x3), (4, x4), (5, x5), (14, x14), (15, x15), (16, x16), (25, x25)]) h K = brV x25 (kCode env 41 false inv k (cp c41 59798) (act 43 [(0, x0), (3, x3), (4, x4), (5, x5), (14, x14), (15, x15), (16, x16), (25, x25)]) h K) (kCode env 41 false inv k (cp c41 59799) (act 43 [(0, x0), (3, x3), (4, x4), (5, x5), (14, x14), (15, x15), (16, x16), (25, x25)]) h K) := kq_cond
theorem r41_8  : kCode env 41 false inv k (cp c41 119596) (act 43 [(0, x0), (3, x3), (4, x4), (5, x5), (14, x14), (15, x15), (16, x16), (25, x25)]) h K =
    K .normal (act 43 [(2, x5)]) h := kq_reg
noncomputable abbrev G41_9 {β : Type} (inv : Inv) (x0 x3 x4 x14 x15 x16 : Value) (h : AH) (K : Value → AH → Option β) : Option β :=
    bnd (pFieldAddr Try.prog 42 x4 1) fun x27 =>
    bnd (pLoad Try.prog 3 x27 h) fun x28 =>
    bnd (pBin Try.prog .lss 3 (.tmp 28) (.const (.int .i64 1)) x28 (.int .i64 1)) fun x29 =>
    bnd (gd (some x29) false h (lt (pFieldAddr Try.prog 42 x4 1) h)) fun x31 =>
    bnd (gd (some x29) false x31.2 (lt (pLoad Try.prog 3 x31.1 x31.2) x31.2)) fun x32 =>
    bnd (gd (some x29) false x32.2 (lt (pBin Try.prog .gtr 3 (.tmp 32) (.const (.int .i64 3)) x32.1 (.int .i64 3)) x32.2)) fun x33 =>
    bnd (pickV x29 (.bool true) x33.1) fun x34 =>
    bnd (gd (some x34) false x33.2 (some (x0, x33.2))) fun x36 =>
    bnd (gd (some x34) false x36.2 (some (x3, x36.2))) fun x37 =>
    bnd (gd (some x34) false x37.2 (lt (pSlice Try.prog 22 x36.1 none (some x37.1) none x37.2) x37.2)) fun x38 =>
    bnd (gd (some x34) false x38.2 (lt (pMakeFunc (.func 62) #[] #[x4]) x38.2)) fun x39 =>
    bnd (gd (some x34) false x39.2 (inv (.func 61) #[] #[x38.1, x39.1] x39.2)) fun x40 =>
    bnd (pickV x34 (.bool true) x40.1) fun x41 =>
    K (x41) x40.2
theorem r41_9  : kCode env 41 false inv k (cp c41 14950) (act 43 [(0, x0), (3, x3), (4, x4), (5, x5), (14, x14), (15, x15), (16, x16), (25, x25)]) h K =
    G41_9 inv x0 x3 x4 x14 x15 x16 h fun y41 h => K .normal (act 43 [(0, x0), (14, x14), (15, x15), (16, x16), (41, y41)]) h := kq_reg
theorem b41_rrrllrrllrlrr  : kCode env 41 false inv k (cp c41 14951) (act 43 [(0, x0), (14, x14), (15, x15), (16, x16), (41, x41)]) h K = brV x41 (kCode env 41 false inv k (cp c41 29902) (act 43 [(0, x0), (14, x14), (15, x15), (16, x16), (41, x41)]) h K) (kCode env 41 false inv k (cp c41 29903) (act 43 [(0, x0), (14, x14), (15, x15), (16, x16), (41, x41)]) h K) := kq_cond
theorem r41_10  : kCode env 41 false inv k (cp c41 59804) (act 43 [(0, x0), (14, x14), (15, x15), (16, x16), (41, x41)]) h K =
    K .normal (act 43 [(2, (.int .i64 171))]) h := kq_reg
theorem r41_11  : kCode env 41 false inv k (cp c41 935) (act 43 [(0, x0), (14, x14), (15, x15), (16, x16), (41, x41)]) h K =
    bnd (pBin Try.prog .add 3 (.tmp 16) (.const (.int .i64 1)) x16 (.int .i64 1)) fun x42 =>
    K .normal (act 43 [(0, x0), (14, x14), (15, x15), (16, x42)]) h := kq_reg
noncomputable def F41_lrlrr {β : Type} (inv : Inv) (k : Nat) : Nat → Value → Value → Value → Value → AH → (Value → Value → Value → Value → Value → AH → Option β) → (Value → AH → Option β) → Option β
  | 0, _, _, _, _, _, _, _ => none
  | j + 1, x0, x14, x15, x16, h, ke0, kr =>
    bnd (pBin Try.prog .lss 3 (.tmp 16) (.tmp 15) x16 x15) fun x17 =>
    brV x17
    (bnd (pIndexAddr Try.prog 22 x14 x16) fun x19 =>
    bnd (pLoad Try.prog 42 x19 h) fun x20 =>
    bnd (pAlloc Try.prog 42 h) fun x4 =>
    bnd (kSt (pStore Try.prog 42 x4.1 x20 x4.2)) fun u =>
    bnd (pFieldAddr Try.prog 42 x4.1 0) fun x21 =>
    bnd (pLoad Try.prog 9 x21 u.2) fun x22 =>
    bnd (inv (.func 60) #[] #[x22] u.2) fun x23 =>
    bnd (pBin Try.prog .neq 31 (.tmp 24) (.const (.int .i64 0)) x23.1 (.int .i64 0)) fun x25 =>
    brV x25
    (kr x23.1 x23.2)
    (G41_9 inv x0 x16 x4.1 x14 x15 x16 x23.2 fun y41 h =>
    brV y41
    (kr (.int .i64 171) h)
    (bnd (pBin Try.prog .add 3 (.tmp 16) (.const (.int .i64 1)) x16 (.int .i64 1)) fun x42 =>
    F41_lrlrr inv k j x0 x14 x15 x42 h ke0 kr)))
    (ke0 x0 x14 x15 x16 x17 h)
theorem F41_lrlrr_j (j : Nat) : kLoop (kCode env 41 false inv k (cp c41 116)) j (act 43 [(0, x0), (14, x14), (15, x15), (16, x16)]) h K = F41_lrlrr inv k j x0 x14 x15 x16 h (fun y0 y14 y15 y16 y17 h => K (.exit 0) (act 43 [(0, y0), (14, y14), (15, y15), (16, y16), (17, y17)]) h) (fun y2 h => K .ret (act 43 [(2, y2)]) h) := by
      induction j generalizing x0 x14 x15 x16 h with
      | zero => rfl
      | succ j ih =>
        unfold F41_lrlrr
        simp only [kLoop, kq_seq c41 116, r41_4, kq_seq c41 233, b41_lrllrlrr, kq_skip c41 932, kq_seq c41 467, kq_block c41 934 1, kq_seq c41 1868, r41_5, kq_seq c41 3737, kq_seq c41 7474, r41_6, kq_seq c41 14949, r41_7, b41_rrlrllrrllrlrr, kq_seq c41 59798, r41_8, kq_ret c41 119597, kq_skip c41 59799, kq_seq c41 7475, r41_9, b41_rrrllrrllrlrr, kq_seq c41 29902, r41_10, kq_ret c41 59805, kq_skip c41 29903, r41_11, kq_exit c41 933 0, ih, reduceIte, reduceCtorEq, XE.exit.injEq, Nat.reduceEqDiff, Nat.reduceMul, Nat.reduceAdd] <;> kernel_rfl
theorem F41_lrlrr_eq  : kCode env 41 false inv k (cp c41 58) (act 43 [(0, x0), (14, x14), (15, x15), (16, x16)]) h K = F41_lrlrr inv k k x0 x14 x15 x16 h (fun y0 y14 y15 y16 y17 h => K (.exit 0) (act 43 [(0, y0), (14, y14), (15, y15), (16, y16), (17, y17)]) h) (fun y2 h => K .ret (act 43 [(2, y2)]) h) := kq_loop (F41_lrlrr_j k)
theorem r41_12  : kCode env 41 false inv k (cp c41 30) (act 43 [(0, x0), (14, x14), (15, x15), (16, x16), (17, x17)]) h K =
    K .normal (act 43 [(2, (.int .i64 0))]) h := kq_reg
/-- shadowbook/schema.Check -/
noncomputable def F41 (inv : Inv) (k : Nat) (x0 : Value) (h : AH) : Option (Value × AH) :=
    G41_1 inv x0 h fun y13 h =>
    brV y13
    (some ((.int .i64 171), h))
    (bnd (pLen Try.prog #[22] x0 h) fun x15 =>
    F41_lrlrr inv k k x0 x0 x15 (.int .i64 0) h
    (fun y0 y14 y15 y16 y17 h_1 =>
    some ((.int .i64 0), h_1))
    (fun y2 h_2 =>
    some (y2, h_2)))
theorem F41_eq : eFun env k inv 41 #[x0] h = F41 inv k x0 h := by
      refine (kq_fun (a := act 43 [(0, x0)]) (c := cp c41 1)).trans ?_
      unfold F41
      simp only [kq_seq c41 1, r41_0, kq_seq c41 3, kq_seq c41 6, r41_1, b41_rlr, kq_seq c41 26, r41_2, kq_ret c41 53, res41_0, kq_skip c41 27, kq_seq c41 7, kq_seq c41 14, r41_3, kq_block c41 29 0, F41_lrlrr_eq, kq_seq c41 15, r41_12, kq_ret c41 31, reduceIte, reduceCtorEq, XE.exit.injEq, Nat.reduceEqDiff, Nat.reduceMul, Nat.reduceAdd] <;> kernel_rfl
theorem F41_call : eInv env (k + 1) (.func 41) #[] #[x0] h = F41 (eInv env k) k x0 h := kq_inv F41_eq
noncomputable def c42 : Code := codeOf Try.prog 42
theorem r42_0  : kCode env 42 false inv k (cp c42 2) (act 9 [(0, x0), (1, x1)]) h K =
    K .normal (act 9 [(0, x0), (1, x1)]) h := kq_reg
theorem r42_1  : kCode env 42 false inv k (cp c42 6) (act 9 [(0, x0), (1, x1)]) h K =
    bnd (inv (.func 63) #[] #[x0, x1] h) fun x7 =>
    bnd (pBin Try.prog .geq 3 (.tmp 7) (.const (.int .i64 0)) x7.1 (.int .i64 0)) fun x8 =>
    K .normal (act 9 [(4, x8)]) x7.2 := kq_reg
theorem res42_0 : resOfFn env.P 42 .ret (act 9 [(4, x4)]) h = some (x4, h) := kq_res
/-- slices.Contains[[]int,int] -/
noncomputable def F42 (inv : Inv) (k : Nat) (x0 x1 : Value) (h : AH) : Option (Value × AH) :=
    bnd (inv (.func 63) #[] #[x0, x1] h) fun x7 =>
    bnd (pBin Try.prog .geq 3 (.tmp 7) (.const (.int .i64 0)) x7.1 (.int .i64 0)) fun x8 =>
    some (x8, x7.2)
theorem F42_eq : eFun env k inv 42 #[x0, x1] h = F42 inv k x0 x1 h := by
      refine (kq_fun (a := act 9 [(0, x0), (1, x1)]) (c := cp c42 1)).trans ?_
      unfold F42
      simp only [kq_seq c42 1, r42_0, kq_seq c42 3, r42_1, kq_ret c42 7, res42_0, reduceIte, reduceCtorEq, XE.exit.injEq, Nat.reduceEqDiff, Nat.reduceMul, Nat.reduceAdd] <;> kernel_rfl
theorem F42_call : eInv env (k + 1) (.func 42) #[] #[x0, x1] h = F42 (eInv env k) k x0 x1 h := kq_inv F42_eq
noncomputable def c43 : Code := codeOf Try.prog 43
theorem r43_0  : kCode env 43 false inv k (cp c43 2) (act 9 [(0, x0), (1, x1)]) h K =
    K .normal (act 9 [(0, x0), (1, x1)]) h := kq_reg
theorem r43_1  : kCode env 43 false inv k (cp c43 6) (act 9 [(0, x0), (1, x1)]) h K =
    bnd (inv (.func 64) #[] #[x0, x1] h) fun x7 =>
    bnd (pBin Try.prog .geq 3 (.tmp 7) (.const (.int .i64 0)) x7.1 (.int .i64 0)) fun x8 =>
    K .normal (act 9 [(4, x8)]) x7.2 := kq_reg
theorem res43_0 : resOfFn env.P 43 .ret (act 9 [(4, x4)]) h = some (x4, h) := kq_res
/-- slices.ContainsFunc[[]shadowbook/api.Agg,shadowbook/api.Agg] -/
noncomputable def F43 (inv : Inv) (k : Nat) (x0 x1 : Value) (h : AH) : Option (Value × AH) :=
    bnd (inv (.func 64) #[] #[x0, x1] h) fun x7 =>
    bnd (pBin Try.prog .geq 3 (.tmp 7) (.const (.int .i64 0)) x7.1 (.int .i64 0)) fun x8 =>
    some (x8, x7.2)
theorem F43_eq : eFun env k inv 43 #[x0, x1] h = F43 inv k x0 x1 h := by
      refine (kq_fun (a := act 9 [(0, x0), (1, x1)]) (c := cp c43 1)).trans ?_
      unfold F43
      simp only [kq_seq c43 1, r43_0, kq_seq c43 3, r43_1, kq_ret c43 7, res43_0, reduceIte, reduceCtorEq, XE.exit.injEq, Nat.reduceEqDiff, Nat.reduceMul, Nat.reduceAdd] <;> kernel_rfl
theorem F43_call : eInv env (k + 1) (.func 43) #[] #[x0, x1] h = F43 (eInv env k) k x0 x1 h := kq_inv F43_eq
noncomputable def c44 : Code := codeOf Try.prog 44
theorem r44_0  : kCode env 44 false inv k (cp c44 2) (act 8 [(0, x0), (1, x1)]) h K =
    bnd (pBox Try.prog 28 x0 h) fun x2 =>
    K .normal (act 8 [(1, x1), (2, x2.1)]) x2.2 := kq_reg
theorem r44_1  : kCode env 44 false inv k (cp c44 6) (act 8 [(1, x1), (2, x2)]) h K =
    bnd (pLoad Try.prog 22 x1 h) fun x4 =>
    bnd (pLoad Try.prog 28 x2 h) fun x5 =>
    bnd (inv (.func 45) #[] #[x4, x5] h) fun x6 =>
    bnd (pUn Try.prog .not x6.1) fun x7 =>
    K .normal (act 8 [(3, x7)]) x6.2 := kq_reg
theorem res44_0 : resOfFn env.P 44 .ret (act 8 [(3, x3)]) h = some (x3, h) := kq_res
/-- shadowbook/agg.Check$1 -/
noncomputable def F44 (inv : Inv) (k : Nat) (x0 x1 : Value) (h : AH) : Option (Value × AH) :=
    bnd (pBox Try.prog 28 x0 h) fun x2 =>
    bnd (pLoad Try.prog 22 x1 x2.2) fun x4 =>
    bnd (pLoad Try.prog 28 x2.1 x2.2) fun x5 =>
    bnd (inv (.func 45) #[] #[x4, x5] x2.2) fun x6 =>
    bnd (pUn Try.prog .not x6.1) fun x7 =>
    some (x7, x6.2)
theorem F44_eq : eFun env k inv 44 #[x0, x1] h = F44 inv k x0 x1 h := by
      refine (kq_fun (a := act 8 [(0, x0), (1, x1)]) (c := cp c44 1)).trans ?_
      unfold F44
      simp only [kq_seq c44 1, r44_0, kq_seq c44 3, r44_1, kq_ret c44 7, res44_0, reduceIte, reduceCtorEq, XE.exit.injEq, Nat.reduceEqDiff, Nat.reduceMul, Nat.reduceAdd] <;> kernel_rfl
theorem F44_call : eInv env (k + 1) (.func 44) #[] #[x0, x1] h = F44 (eInv env k) k x0 x1 h := kq_inv F44_eq
noncomputable def c45 : Code := codeOf Try.prog 45
theorem r45_0  : kCode env 45 false inv k (cp c45 2) (act 39 [(0, x0), (1, x1)]) h K =
    bnd (pBox Try.prog 28 x1 h) fun x3 =>
    K .normal (act 39 [(0, x0), (3, x3.1)]) x3.2 := kq_reg
noncomputable abbrev G45_1 {β : Type} (inv : Inv) (x0 x3 : Value) (h : AH) (K : Value → AH → Option β) : Option β :=
    bnd (pFieldAddr Try.prog 28 x3 1) fun x6 =>
    bnd (pLoad Try.prog 3 x6 h) fun x7 =>
    bnd (pBin Try.prog .geq 3 (.tmp 7) (.const (.int .i64 0)) x7 (.int .i64 0)) fun x8 =>
    bnd (gd (some x8) true h (lt (pFieldAddr Try.prog 28 x3 1) h)) fun x10 =>
    bnd (gd (some x8) true x10.2 (lt (pLoad Try.prog 3 x10.1 x10.2) x10.2)) fun x11 =>
    bnd (gd (some x8) true x11.2 (some (x0, x11.2))) fun x12 =>
    bnd (gd (some x8) true x12.2 (lt (pLen Try.prog #[22] x12.1 x12.2) x12.2)) fun x13 =>
    bnd (gd (some x8) true x13.2 (lt (pBin Try.prog .lss 3 (.tmp 11) (.tmp 13) x11.1 x13.1) x13.2)) fun x14 =>
    bnd (pickV x8 x14.1 (.bool false)) fun x15 =>
    K (x15) x14.2
theorem r45_1  : kCode env 45 false inv k (cp c45 6) (act 39 [(0, x0), (3, x3)]) h K =
    G45_1 inv x0 x3 h fun y5 h => K .normal (act 39 [(0, x0), (3, x3), (5, y5)]) h := kq_reg
theorem r45_2  : kCode env 45 false inv k (cp c45 28) (act 39 [(0, x0), (3, x3), (5, x5)]) h K =
    bnd (pFieldAddr Try.prog 28 x3 0) fun x16 =>
    bnd (pLoad Try.prog 3 x16 h) fun x17 =>
    K .normal (act 39 [(0, x0), (3, x3), (5, x5), (17, x17)]) h := kq_reg
theorem r45_3  : kCode env 45 false inv k (cp c45 116) (act 39 [(0, x0), (3, x3), (5, x5), (17, x17)]) h K =
    bnd (pBin Try.prog .eql 3 (.tmp 17) (.const (.int .i64 1)) x17 (.int .i64 1)) fun x19 =>
    K .normal (act 39 [(0, x0), (3, x3), (5, x5), (17, x17), (18, x19)]) h := kq_reg
theorem b45_rlrlrr  : kCode env 45 false inv k (cp c45 117) (act 39 [(0, x0), (3, x3), (5, x5), (17, x17), (18, x18)]) h K = brV x18 (kCode env 45 false inv k (cp c45 234) (act 39 [(0, x0), (3, x3), (5, x5), (17, x17), (18, x18)]) h K) (kCode env 45 false inv k (cp c45 235) (act 39 [(0, x0), (3, x3), (5, x5), (17, x17), (18, x18)]) h K) := kq_cond
theorem r45_4  : kCode env 45 false inv k (cp c45 468) (act 39 [(0, x0), (3, x3), (5, x5), (17, x17), (18, x18)]) h K =
    bnd (pFieldAddr Try.prog 28 x3 1) fun x20 =>
    bnd (pLoad Try.prog 3 x20 h) fun x21 =>
    bnd (pBin Try.prog .eql 3 (.tmp 21) (.const (.int .i64 0)) x21 (.int .i64 0)) fun x22 =>
    K .normal (act 39 [(4, x22)]) h := kq_reg
theorem res45_0 : resOfFn env.P 45 .ret (act 39 [(4, x4)]) h = some (x4, h) := kq_res
theorem r45_5  : kCode env 45 false inv k (cp c45 470) (act 39 [(0, x0), (3, x3), (5, x5), (17, x17), (18, x18)]) h K =
    bnd (pBin Try.prog .eql 3 (.tmp 17) (.const (.int .i64 2)) x17 (.int .i64 2)) fun x24 =>
    K .normal (act 39 [(0, x0), (3, x3), (5, x5), (17, x17), (23, x24)]) h := kq_reg
theorem b45_rrrlrlrr  : kCode env 45 false inv k (cp c45 471) (act 39 [(0, x0), (3, x3), (5, x5), (17, x17), (23, x23)]) h K = brV x23 (kCode env 45 false inv k (cp c45 942) (act 39 [(0, x0), (3, x3), (5, x5), (17, x17), (23, x23)]) h K) (kCode env 45 false inv k (cp c45 943) (act 39 [(0, x0), (3, x3), (5, x5), (17, x17), (23, x23)]) h K) := kq_cond
noncomputable abbrev G45_6 {β : Type} (inv : Inv) (x0 x3 x5 : Value) (h : AH) (K : Value → AH → Option β) : Option β :=
    bnd (gd (some x5) true h (some (x0, h))) fun x27 =>
    bnd (gd (some x5) true x27.2 (lt (pFieldAddr Try.prog 28 x3 1) x27.2)) fun x28 =>
    bnd (gd (some x5) true x28.2 (lt (pLoad Try.prog 3 x28.1 x28.2) x28.2)) fun x29 =>
    bnd (gd (some x5) true x29.2 (lt (pIndexAddr Try.prog 22 x27.1 x29.1) x29.2)) fun x30 =>
    bnd (gd (some x5) true x30.2 (lt (pFieldAddr Try.prog 42 x30.1 1) x30.2)) fun x31 =>
    bnd (gd (some x5) true x31.2 (lt (pLoad Try.prog 3 x31.1 x31.2) x31.2)) fun x32 =>
    bnd (gd (some x5) true x32.2 (lt (pBin Try.prog .eql 3 (.tmp 32) (.const (.int .i64 1)) x32.1 (.int .i64 1)) x32.2)) fun x33 =>
    bnd (pickV x5 x33.1 (.bool false)) fun x34 =>
    K (x34) x33.2
theorem r45_6  : kCode env 45 false inv k (cp c45 1884) (act 39 [(0, x0), (3, x3), (5, x5), (17, x17), (23, x23)]) h K =
    G45_6 inv x0 x3 x5 h fun y4 h => K .normal (act 39 [(4, y4)]) h := kq_reg
theorem r45_7  : kCode env 45 false inv k (cp c45 3772) (act 39 [(0, x0), (3, x3), (5, x5), (17, x17), (23, x23)]) h K =
    bnd (pBin Try.prog .eql 3 (.tmp 17) (.const (.int .i64 3)) x17 (.int .i64 3)) fun x36 =>
    K .normal (act 39 [(5, x5), (17, x17), (35, x36)]) h := kq_reg
theorem b45_rlrrrrlrlrr  : kCode env 45 false inv k (cp c45 3773) (act 39 [(5, x5), (17, x17), (35, x35)]) h K = brV x35 (kCode env 45 false inv k (cp c45 7546) (act 39 [(5, x5), (17, x17), (35, x35)]) h K) (kCode env 45 false inv k (cp c45 7547) (act 39 [(5, x5), (17, x17), (35, x35)]) h K) := kq_cond
theorem r45_8  : kCode env 45 false inv k (cp c45 7547) (act 39 [(5, x5), (17, x17), (35, x35)]) h K =
    bnd (pBin Try.prog .eql 3 (.tmp 17) (.const (.int .i64 4)) x17 (.int .i64 4)) fun x37 =>
    K .normal (act 39 [(5, x5), (35, x37)]) h := kq_reg
noncomputable def F45_rlrrrrlrlrr {β : Type} (inv : Inv) (k : Nat) (x5 x17 x35 : Value) (h : AH) (kn : (Value → Value → Value → AH → Option β)) : Option β :=
    brV x35
    (kn x5 x17 x35 h)
    (bnd (pBin Try.prog .eql 3 (.tmp 17) (.const (.int .i64 4)) x17 (.int .i64 4)) fun x37 =>
    kn x5 unk x37 h)
theorem F45_rlrrrrlrlrr_eq  : kCode env 45 false inv k (cp c45 3773) (act 39 [(5, x5), (17, x17), (35, x35)]) h K = F45_rlrrrrlrlrr inv k x5 x17 x35 h (fun y5 y17 y35 h => K .normal (act 39 [(5, y5), (17, y17), (35, y35)]) h) := by
      unfold F45_rlrrrrlrlrr
      simp only [b45_rlrrrrlrlrr, kq_skip c45 7546, r45_8, reduceIte, reduceCtorEq, XE.exit.injEq, Nat.reduceEqDiff, Nat.reduceMul, Nat.reduceAdd] <;> kernel_rfl
theorem b45_rrrrrlrlrr  : kCode env 45 false inv k (cp c45 1887) (act 39 [(5, x5), (17, x17), (35, x35)]) h K = brV x35 (kCode env 45 false inv k (cp c45 3774) (act 39 [(5, x5), (17, x17), (35, x35)]) h K) (kCode env 45 false inv k (cp c45 3775) (act 39 [(5, x5), (17, x17), (35, x35)]) h K) := kq_cond
theorem r45_9  : kCode env 45 false inv k (cp c45 7548) (act 39 [(5, x5), (17, x17), (35, x35)]) h K =
    K .normal (act 39 [(4, x5)]) h := kq_reg
theorem r45_10  : kCode env 45 false inv k (cp c45 30) (act 39 [(5, x5), (17, x17), (35, x35)]) h K =
    K .normal (act 39 [(4, (.bool false))]) h := kq_reg
/-- shadowbook/agg.may -/
noncomputable def F45 (inv : Inv) (k : Nat) (x0 x1 : Value) (h : AH) : Option (Value × AH) :=
    bnd (pBox Try.prog 28 x1 h) fun x3 =>
    G45_1 inv x0 x3.1 x3.2 fun y5 h =>
    bnd (pFieldAddr Try.prog 28 x3.1 0) fun x16 =>
    bnd (pLoad Try.prog 3 x16 h) fun x17 =>
    bnd (pBin Try.prog .eql 3 (.tmp 17) (.const (.int .i64 1)) x17 (.int .i64 1)) fun x19 =>
    brV x19
    (bnd (pFieldAddr Try.prog 28 x3.1 1) fun x20 =>
    bnd (pLoad Try.prog 3 x20 h) fun x21 =>
    bnd (pBin Try.prog .eql 3 (.tmp 21) (.const (.int .i64 0)) x21 (.int .i64 0)) fun x22 =>
    some (x22, h))
    (bnd (pBin Try.prog .eql 3 (.tmp 17) (.const (.int .i64 2)) x17 (.int .i64 2)) fun x24 =>
    brV x24
    (G45_6 inv x0 x3.1 y5 h fun y4 h_1 =>
    some (y4, h_1))
    (bnd (pBin Try.prog .eql 3 (.tmp 17) (.const (.int .i64 3)) x17 (.int .i64 3)) fun x36 =>
    F45_rlrrrrlrlrr inv k y5 x17 x36 h
    (fun y5_2 y17 y35 h_3 =>
    brV y35
    (some (y5_2, h_3))
    (some ((.bool false), h_3)))))
theorem F45_eq : eFun env k inv 45 #[x0, x1] h = F45 inv k x0 x1 h := by
      refine (kq_fun (a := act 39 [(0, x0), (1, x1)]) (c := cp c45 1)).trans ?_
      unfold F45
      simp only [kq_seq c45 1, r45_0, kq_seq c45 3, r45_1, kq_seq c45 7, kq_seq c45 14, r45_2, kq_block c45 29 0, kq_seq c45 58, r45_3, b45_rlrlrr, kq_seq c45 234, r45_4, kq_ret c45 469, res45_0, kq_seq c45 235, r45_5, b45_rrrlrlrr, kq_seq c45 942, r45_6, kq_ret c45 1885, kq_seq c45 943, kq_seq c45 1886, r45_7, F45_rlrrrrlrlrr_eq, b45_rrrrrlrlrr, kq_seq c45 3774, r45_9, kq_ret c45 7549, kq_skip c45 3775, kq_seq c45 15, r45_10, kq_ret c45 31, reduceIte, reduceCtorEq, XE.exit.injEq, Nat.reduceEqDiff, Nat.reduceMul, Nat.reduceAdd] <;> kernel_rfl
theorem F45_call : eInv env (k + 1) (.func 45) #[] #[x0, x1] h = F45 (eInv env k) k x0 x1 h := kq_inv F45_eq
noncomputable def c46 : Code := codeOf Try.prog 46
theorem r46_0  : kCode env 46 false inv k (cp c46 2) (act 36 [(0, x0), (1, x1)]) h K =
    K .normal (act 36 [(0, x0), (1, x1)]) h := kq_reg
theorem r46_1  : kCode env 46 false inv k (cp c46 12) (act 36 [(0, x0), (1, x1)]) h K =
    bnd (inv (.func 41) #[] #[x0] h) fun x10 =>
    K .normal (act 36 [(0, x0), (1, x1), (5, x10.1)]) x10.2 := kq_reg
theorem r46_2  : kCode env 46 false inv k (cp c46 26) (act 36 [(0, x0), (1, x1), (5, x5)]) h K =
    bnd (pBin Try.prog .neq 31 (.tmp 11) (.const (.int .i64 0)) x5 (.int .i64 0)) fun x12 =>
    K .normal (act 36 [(0, x0), (1, x1), (5, x5), (12, x12)]) h := kq_reg
theorem b46_rrlr  : kCode env 46 false inv k (cp c46 27) (act 36 [(0, x0), (1, x1), (5, x5), (12, x12)]) h K = brV x12 (kCode env 46 false inv k (cp c46 54) (act 36 [(0, x0), (1, x1), (5, x5), (12, x12)]) h K) (kCode env 46 false inv k (cp c46 55) (act 36 [(0, x0), (1, x1), (5, x5), (12, x12)]) h K) := kq_cond
theorem r46_3  : kCode env 46 false inv k (cp c46 108) (act 36 [(0, x0), (1, x1), (5, x5), (12, x12)]) h K =
    K .normal (act 36 [(4, x5)]) h := kq_reg
theorem res46_0 : resOfFn env.P 46 .ret (act 36 [(4, x4)]) h = some (x4, h) := kq_res
theorem r46_4  : kCode env 46 false inv k (cp c46 28) (act 36 [(0, x0), (1, x1), (5, x5), (12, x12)]) h K =
    bnd (pLen Try.prog #[34] x1 h) fun x15 =>
    bnd (pLen Try.prog #[22] x0 h) fun x17 =>
    bnd (pBin Try.prog .neq 3 (.tmp 15) (.tmp 17) x15 x17) fun x18 =>
    K .normal (act 36 [(0, x0), (1, x1), (18, x18)]) h := kq_reg
theorem b46_rlrr  : kCode env 46 false inv k (cp c46 29) (act 36 [(0, x0), (1, x1), (18, x18)]) h K = brV x18 (kCode env 46 false inv k (cp c46 58) (act 36 [(0, x0), (1, x1), (18, x18)]) h K) (kCode env 46 false inv k (cp c46 59) (act 36 [(0, x0), (1, x1), (18, x18)]) h K) := kq_cond
theorem r46_5  : kCode env 46 false inv k (cp c46 116) (act 36 [(0, x0), (1, x1), (18, x18)]) h K =
    K .normal (act 36 [(4, (.int .i64 173))]) h := kq_reg
theorem r46_6  : kCode env 46 false inv k (cp c46 60) (act 36 [(0, x0), (1, x1), (18, x18)]) h K =
    bnd (pLen Try.prog #[22] x0 h) fun x20 =>
    K .normal (act 36 [(1, x1), (19, x0), (20, x20), (21, (.int .i64 0))]) h := kq_reg
theorem r46_7  : kCode env 46 false inv k (cp c46 488) (act 36 [(1, x1), (19, x19), (20, x20), (21, x21)]) h K =
    bnd (pBin Try.prog .lss 3 (.tmp 21) (.tmp 20) x21 x20) fun x22 =>
    K .normal (act 36 [(1, x1), (19, x19), (20, x20), (21, x21), (22, x22)]) h := kq_reg
theorem b46_lrllrlrrr  : kCode env 46 false inv k (cp c46 978) (act 36 [(1, x1), (19, x19), (20, x20), (21, x21), (22, x22)]) h K = brV x22 (kCode env 46 false inv k (cp c46 1956) (act 36 [(1, x1), (19, x19), (20, x20), (21, x21), (22, x22)]) h K) (kCode env 46 false inv k (cp c46 1957) (act 36 [(1, x1), (19, x19), (20, x20), (21, x21), (22, x22)]) h K) := kq_cond
theorem r46_8  : kCode env 46 false inv k (cp c46 7832) (act 36 [(1, x1), (19, x19), (20, x20), (21, x21), (22, x22)]) h K =
    bnd (pIndexAddr Try.prog 22 x19 x21) fun x24 =>
    bnd (pLoad Try.prog 42 x24 h) fun x25 =>
    bnd (pAlloc Try.prog 42 h) fun x7 =>
    bnd (kSt (pStore Try.prog 42 x7.1 x25 x7.2)) fun u =>
    K .normal (act 36 [(1, x1), (6, x21), (7, x7.1), (19, x19), (20, x20), (21, x21)]) u.2 := kq_reg
theorem r46_9  : kCode env 46 false inv k (cp c46 15666) (act 36 [(1, x1), (6, x6), (7, x7), (19, x19), (20, x20), (21, x21)]) h K =
    bnd (pLoad Try.prog 42 x7 h) fun x26 =>
    bnd (pIndexAddr Try.prog 34 x1 x6) fun x29 =>
    bnd (pLoad Try.prog 37 x29 h) fun x30 =>
    bnd (inv (.func 65) #[] #[x26, x30] h) fun x31 =>
    K .normal (act 36 [(1, x1), (8, x31.1), (19, x19), (20, x20), (21, x21)]) x31.2 := kq_draw
theorem r46_10  : kCode env 46 false inv k (cp c46 31334) (act 36 [(1, x1), (8, x8), (19, x19), (20, x20), (21, x21)]) h K =
    bnd (pBin Try.prog .neq 31 (.tmp 32) (.const (.int .i64 0)) x8 (.int .i64 0)) fun x33 =>
    K .normal (act 36 [(1, x1), (8, x8), (19, x19), (20, x20), (21, x21), (33, x33)]) h := kq_reg
theorem b46_rrrllrrllrlrrr  : kCode env 46 false inv k (cp c46 31335) (act 36 [(1, x1), (8, x8), (19, x19), (20, x20), (21, x21), (33, x33)]) h K = brV x33 (kCode env 46 false inv k (cp c46 62670) (act 36 [(1, x1), (8, x8), (19, x19), (20, x20), (21, x21), (33, x33)]) h K) (kCode env 46 false inv k (cp c46 62671) (act 36 [(1, x1), (8, x8), (19, x19), (20, x20), (21, x21), (33, x33)]) h K) := kq_cond
theorem r46_11  : kCode env 46 false inv k (cp c46 125340) (act 36 [(1, x1), (8, x8), (19, x19), (20, x20), (21, x21), (33, x33)]) h K =
    K .normal (act 36 [(4, x8)]) h := kq_reg
theorem r46_12  : kCode env 46 false inv k (cp c46 1959) (act 36 [(1, x1), (8, x8), (19, x19), (20, x20), (21, x21), (33, x33)]) h K =
    bnd (pBin Try.prog .add 3 (.tmp 21) (.const (.int .i64 1)) x21 (.int .i64 1)) fun x35 =>
    K .normal (act 36 [(1, x1), (19, x19), (20, x20), (21, x35)]) h := kq_reg
noncomputable def F46_lrlrrr {β : Type} (inv : Inv) (k : Nat) : Nat → Value → Value → Value → Value → AH → (Value → Value → Value → Value → Value → AH → Option β) → (Value → AH → Option β) → Option β
  | 0, _, _, _, _, _, _, _ => none
  | j + 1, x1, x19, x20, x21, h, ke0, kr =>
    bnd (pBin Try.prog .lss 3 (.tmp 21) (.tmp 20) x21 x20) fun x22 =>
    brV x22
    (bnd (pIndexAddr Try.prog 22 x19 x21) fun x24 =>
    bnd (pLoad Try.prog 42 x24 h) fun x25 =>
    bnd (pAlloc Try.prog 42 h) fun x7 =>
    bnd (kSt (pStore Try.prog 42 x7.1 x25 x7.2)) fun u =>
    bnd (pLoad Try.prog 42 x7.1 u.2) fun x26 =>
    bnd (pIndexAddr Try.prog 34 x1 x21) fun x29 =>
    bnd (pLoad Try.prog 37 x29 u.2) fun x30 =>
    bnd (inv (.func 65) #[] #[x26, x30] u.2) fun x31 =>
    bnd (pBin Try.prog .neq 31 (.tmp 32) (.const (.int .i64 0)) x31.1 (.int .i64 0)) fun x33 =>
    brV x33
    (kr x31.1 x31.2)
    (bnd (pBin Try.prog .add 3 (.tmp 21) (.const (.int .i64 1)) x21 (.int .i64 1)) fun x35 =>
    F46_lrlrrr inv k j x1 x19 x20 x35 x31.2 ke0 kr))
    (ke0 x1 x19 x20 x21 x22 h)
theorem F46_lrlrrr_j (j : Nat) : kLoop (kCode env 46 false inv k (cp c46 244)) j (act 36 [(1, x1), (19, x19), (20, x20), (21, x21)]) h K = F46_lrlrrr inv k j x1 x19 x20 x21 h (fun y1 y19 y20 y21 y22 h => K (.exit 0) (act 36 [(1, y1), (19, y19), (20, y20), (21, y21), (22, y22)]) h) (fun y4 h => K .ret (act 36 [(4, y4)]) h) := by
      induction j generalizing x1 x19 x20 x21 h with
      | zero => rfl
      | succ j ih =>
        unfold F46_lrlrrr
        simp only [kLoop, kq_seq c46 244, r46_7, kq_seq c46 489, b46_lrllrlrrr, kq_skip c46 1956, kq_seq c46 979, kq_block c46 1958 1, kq_seq c46 3916, r46_8, kq_seq c46 7833, r46_9, kq_seq c46 15667, r46_10, b46_rrrllrrllrlrrr, kq_seq c46 62670, r46_11, kq_ret c46 125341, kq_skip c46 62671, r46_12, kq_exit c46 1957 0, ih, reduceIte, reduceCtorEq, XE.exit.injEq, Nat.reduceEqDiff, Nat.reduceMul, Nat.reduceAdd] <;> kernel_rfl
theorem F46_lrlrrr_eq  : kCode env 46 false inv k (cp c46 122) (act 36 [(1, x1), (19, x19), (20, x20), (21, x21)]) h K = F46_lrlrrr inv k k x1 x19 x20 x21 h (fun y1 y19 y20 y21 y22 h => K (.exit 0) (act 36 [(1, y1), (19, y19), (20, y20), (21, y21), (22, y22)]) h) (fun y4 h => K .ret (act 36 [(4, y4)]) h) := kq_loop (F46_lrlrrr_j k)
theorem r46_13  : kCode env 46 false inv k (cp c46 62) (act 36 [(1, x1), (19, x19), (20, x20), (21, x21), (22, x22)]) h K =
    K .normal (act 36 [(4, (.int .i64 0))]) h := kq_reg
/-- shadowbook/schema.Row -/
noncomputable def F46 (inv : Inv) (k : Nat) (x0 x1 : Value) (h : AH) : Option (Value × AH) :=
    bnd (inv (.func 41) #[] #[x0] h) fun x10 =>
    bnd (pBin Try.prog .neq 31 (.tmp 11) (.const (.int .i64 0)) x10.1 (.int .i64 0)) fun x12 =>
    brV x12
    (some (x10.1, x10.2))
    (bnd (pLen Try.prog #[34] x1 x10.2) fun x15 =>
    bnd (pLen Try.prog #[22] x0 x10.2) fun x17 =>
    bnd (pBin Try.prog .neq 3 (.tmp 15) (.tmp 17) x15 x17) fun x18 =>
    brV x18
    (some ((.int .i64 173), x10.2))
    (bnd (pLen Try.prog #[22] x0 x10.2) fun x20 =>
    F46_lrlrrr inv k k x1 x0 x20 (.int .i64 0) x10.2
    (fun y1 y19 y20 y21 y22 h =>
    some ((.int .i64 0), h))
    (fun y4 h_1 =>
    some (y4, h_1))))
theorem F46_eq : eFun env k inv 46 #[x0, x1] h = F46 inv k x0 x1 h := by
      refine (kq_fun (a := act 36 [(0, x0), (1, x1)]) (c := cp c46 1)).trans ?_
      unfold F46
      simp only [kq_seq c46 1, r46_0, kq_seq c46 3, kq_seq c46 6, r46_1, kq_seq c46 13, r46_2, b46_rrlr, kq_seq c46 54, r46_3, kq_ret c46 109, res46_0, kq_skip c46 55, kq_seq c46 7, kq_seq c46 14, r46_4, b46_rlrr, kq_seq c46 58, r46_5, kq_ret c46 117, kq_skip c46 59, kq_seq c46 15, kq_seq c46 30, r46_6, kq_block c46 61 0, F46_lrlrrr_eq, kq_seq c46 31, r46_13, kq_ret c46 63, reduceIte, reduceCtorEq, XE.exit.injEq, Nat.reduceEqDiff, Nat.reduceMul, Nat.reduceAdd] <;> kernel_rfl
theorem F46_call : eInv env (k + 1) (.func 46) #[] #[x0, x1] h = F46 (eInv env k) k x0 x1 h := kq_inv F46_eq
noncomputable def c47 : Code := codeOf Try.prog 47
theorem r47_0  : kCode env 47 false inv k (cp c47 2) (act 34 [(0, x0), (1, x1)]) h K =
    K .normal (act 34 [(0, x0), (1, x1)]) h := kq_reg
theorem r47_1  : kCode env 47 false inv k (cp c47 6) (act 34 [(0, x0), (1, x1)]) h K =
    K .normal (act 34 [(0, x0), (1, x1), (5, (.slice none 0 0))]) h := kq_reg
theorem r47_2  : kCode env 47 false inv k (cp c47 28) (act 34 [(0, x0), (1, x1), (5, x5)]) h K =
    bnd (pLen Try.prog #[24] x1 h) fun x10 =>
    K .normal (act 34 [(0, x0), (5, x5), (9, x1), (10, x10), (11, (.int .i64 0))]) h := kq_reg
theorem r47_3  : kCode env 47 false inv k (cp c47 232) (act 34 [(0, x0), (5, x5), (9, x9), (10, x10), (11, x11)]) h K =
    bnd (pBin Try.prog .lss 3 (.tmp 11) (.tmp 10) x11 x10) fun x12 =>
    K .normal (act 34 [(0, x0), (5, x5), (9, x9), (10, x10), (11, x11), (12, x12)]) h := kq_reg
theorem b47_lrllrlrr  : kCode env 47 false inv k (cp c47 466) (act 34 [(0, x0), (5, x5), (9, x9), (10, x10), (11, x11), (12, x12)]) h K = brV x12 (kCode env 47 false inv k (cp c47 932) (act 34 [(0, x0), (5, x5), (9, x9), (10, x10), (11, x11), (12, x12)]) h K) (kCode env 47 false inv k (cp c47 933) (act 34 [(0, x0), (5, x5), (9, x9), (10, x10), (11, x11), (12, x12)]) h K) := kq_cond
theorem r47_4  : kCode env 47 false inv k (cp c47 3736) (act 34 [(0, x0), (5, x5), (9, x9), (10, x10), (11, x11), (12, x12)]) h K =
    bnd (pIndexAddr Try.prog 24 x9 x11) fun x13 =>
    bnd (pLoad Try.prog 3 x13 h) fun x14 =>
    K .normal (act 34 [(0, x0), (5, x5), (7, x14), (9, x9), (10, x10), (11, x11)]) h := kq_reg
theorem r47_5  : kCode env 47 false inv k (cp c47 7474) (act 34 [(0, x0), (5, x5), (7, x7), (9, x9), (10, x10), (11, x11)]) h K =
    bnd (pBuild Try.prog 37 #[]) fun x15 =>
    bnd (pAlloc Try.prog 37 h) fun x8 =>
    bnd (kSt (pStore Try.prog 37 x8.1 x15 x8.2)) fun u =>
    K .normal (act 34 [(0, x0), (5, x5), (7, x7), (8, x8.1), (9, x9), (10, x10), (11, x11)]) u.2 := kq_reg
noncomputable abbrev G47_6 {β : Type} (inv : Inv) (x0 x5 x7 x8 x9 x10 x11 : Value) (h : AH) (K : Value → AH → Option β) : Option β :=
    bnd (pBin Try.prog .geq 3 (.tmp 16) (.const (.int .i64 0)) x7 (.int .i64 0)) fun x17 =>
    bnd (gd (some x17) true h (some (x7, h))) fun x19 =>
    bnd (gd (some x17) true x19.2 (some (x0, x19.2))) fun x20 =>
    bnd (gd (some x17) true x20.2 (lt (pLen Try.prog #[34] x20.1 x20.2) x20.2)) fun x21 =>
    bnd (gd (some x17) true x21.2 (lt (pBin Try.prog .lss 3 (.tmp 19) (.tmp 21) x19.1 x21.1) x21.2)) fun x22 =>
    bnd (pickV x17 x22.1 (.bool false)) fun x23 =>
    K (x23) x22.2
theorem r47_6  : kCode env 47 false inv k (cp c47 29900) (act 34 [(0, x0), (5, x5), (7, x7), (8, x8), (9, x9), (10, x10), (11, x11)]) h K =
    G47_6 inv x0 x5 x7 x8 x9 x10 x11 h fun y23 h => K .normal (act 34 [(0, x0), (5, x5), (7, x7), (8, x8), (9, x9), (10, x10), (11, x11), (23, y23)]) h := kq_reg
theorem b47_rlrrllrrllrlrr  : kCode env 47 false inv k (cp c47 29901) (act 34 [(0, x0), (5, x5), (7, x7), (8, x8), (9, x9), (10, x10), (11, x11), (23, x23)]) h K = brV x23 (kCode env 47 false inv k (cp c47 59802) (act 34 [(0, x0), (5, x5), (7, x7), (8, x8), (9, x9), (10, x10), (11, x11), (23, x23)]) h K) (kCode env 47 false inv k (cp c47 59803) (act 34 [(0, x0), (5, x5), (7, x7), (8, x8), (9, x9), (10, x10), (11, x11), (23, x23)]) h K) := kq_cond
theorem r47_7  : kCode env 47 false inv k (cp c47 59802) (act 34 [(0, x0), (5, x5), (7, x7), (8, x8), (9, x9), (10, x10), (11, x11), (23, x23)]) h K =
    bnd (pIndexAddr Try.prog 34 x0 x7) fun x26 =>
    bnd (pLoad Try.prog 37 x26 h) fun x27 =>
    bnd (kSt (pStore Try.prog 37 x8 x27 h)) fun u =>
    K .normal (act 34 [(0, x0), (5, x5), (8, x8), (9, x9), (10, x10), (11, x11)]) u.2 := kq_reg
noncomputable def F47_rlrrllrrllrlrr {β : Type} (inv : Inv) (k : Nat) (x0 x5 x7 x8 x9 x10 x11 x23 : Value) (h : AH) (kn : (Value → Value → Value → Value → Value → Value → Value → Value → AH → Option β)) : Option β :=
    brV x23
    (bnd (pIndexAddr Try.prog 34 x0 x7) fun x26 =>
    bnd (pLoad Try.prog 37 x26 h) fun x27 =>
    bnd (kSt (pStore Try.prog 37 x8 x27 h)) fun u =>
    kn x0 x5 unk x8 x9 x10 x11 unk u.2)
    (kn x0 x5 x7 x8 x9 x10 x11 x23 h)
theorem F47_rlrrllrrllrlrr_eq  : kCode env 47 false inv k (cp c47 29901) (act 34 [(0, x0), (5, x5), (7, x7), (8, x8), (9, x9), (10, x10), (11, x11), (23, x23)]) h K = F47_rlrrllrrllrlrr inv k x0 x5 x7 x8 x9 x10 x11 x23 h (fun y0 y5 y7 y8 y9 y10 y11 y23 h => K .normal (act 34 [(0, y0), (5, y5), (7, y7), (8, y8), (9, y9), (10, y10), (11, y11), (23, y23)]) h) := by
      unfold F47_rlrrllrrllrlrr
      simp only [b47_rlrrllrrllrlrr, r47_7, kq_skip c47 59803, reduceIte, reduceCtorEq, XE.exit.injEq, Nat.reduceEqDiff, Nat.reduceMul, Nat.reduceAdd] <;> kernel_rfl
theorem r47_8  : kCode env 47 false inv k (cp c47 14951) (act 34 [(0, x0), (5, x5), (7, x7), (8, x8), (9, x9), (10, x10), (11, x11), (23, x23)]) h K =
    bnd (pLoad Try.prog 37 x8 h) fun x29 =>
    bnd (pBuildSlice Try.prog 34 1 #[(0, x29)] h) fun x30 =>
    bnd (pAppend Try.prog #[34, 34] x5 x30.1 x30.2) fun x31 =>
    K .normal (act 34 [(0, x0), (5, x31.1), (9, x9), (10, x10), (11, x11)]) x31.2 := kq_reg
theorem r47_9  : kCode env 47 false inv k (cp c47 935) (act 34 [(0, x0), (5, x5), (9, x9), (10, x10), (11, x11)]) h K =
    bnd (pBin Try.prog .add 3 (.tmp 11) (.const (.int .i64 1)) x11 (.int .i64 1)) fun x32 =>
    K .normal (act 34 [(0, x0), (5, x5), (9, x9), (10, x10), (11, x32)]) h := kq_reg
noncomputable def F47_lrlrr {β : Type} (inv : Inv) (k : Nat) : Nat → Value → Value → Value → Value → Value → AH → (Value → Value → Value → Value → Value → Value → AH → Option β) → Option β
  | 0, _, _, _, _, _, _, _ => none
  | j + 1, x0, x5, x9, x10, x11, h, ke0 =>
    bnd (pBin Try.prog .lss 3 (.tmp 11) (.tmp 10) x11 x10) fun x12 =>
    brV x12
    (bnd (pIndexAddr Try.prog 24 x9 x11) fun x13 =>
    bnd (pLoad Try.prog 3 x13 h) fun x14 =>
    bnd (pBuild Try.prog 37 #[]) fun x15 =>
    bnd (pAlloc Try.prog 37 h) fun x8 =>
    bnd (kSt (pStore Try.prog 37 x8.1 x15 x8.2)) fun u =>
    G47_6 inv x0 x5 x14 x8.1 x9 x10 x11 u.2 fun y23 h =>
    F47_rlrrllrrllrlrr inv k x0 x5 x14 x8.1 x9 x10 x11 y23 h
    (fun y0 y5 y7 y8 y9 y10 y11 y23_1 h_2 =>
    bnd (pLoad Try.prog 37 y8 h_2) fun x29 =>
    bnd (pBuildSlice Try.prog 34 1 #[(0, x29)] h_2) fun x30 =>
    bnd (pAppend Try.prog #[34, 34] y5 x30.1 x30.2) fun x31 =>
    bnd (pBin Try.prog .add 3 (.tmp 11) (.const (.int .i64 1)) y11 (.int .i64 1)) fun x32 =>
    F47_lrlrr inv k j y0 x31.1 y9 y10 x32 x31.2 ke0))
    (ke0 x0 x5 x9 x10 x11 x12 h)
theorem F47_lrlrr_j (j : Nat) : kLoop (kCode env 47 false inv k (cp c47 116)) j (act 34 [(0, x0), (5, x5), (9, x9), (10, x10), (11, x11)]) h K = F47_lrlrr inv k j x0 x5 x9 x10 x11 h (fun y0 y5 y9 y10 y11 y12 h => K (.exit 0) (act 34 [(0, y0), (5, y5), (9, y9), (10, y10), (11, y11), (12, y12)]) h) := by
      induction j generalizing x0 x5 x9 x10 x11 h with
      | zero => rfl
      | succ j ih =>
        unfold F47_lrlrr
        simp only [kLoop, kq_seq c47 116, r47_3, kq_seq c47 233, b47_lrllrlrr, kq_skip c47 932, kq_seq c47 467, kq_block c47 934 1, kq_seq c47 1868, r47_4, kq_seq c47 3737, r47_5, kq_seq c47 7475, kq_seq c47 14950, r47_6, F47_rlrrllrrllrlrr_eq, r47_8, r47_9, kq_exit c47 933 0, ih, reduceIte, reduceCtorEq, XE.exit.injEq, Nat.reduceEqDiff, Nat.reduceMul, Nat.reduceAdd] <;> kernel_rfl
theorem F47_lrlrr_eq  : kCode env 47 false inv k (cp c47 58) (act 34 [(0, x0), (5, x5), (9, x9), (10, x10), (11, x11)]) h K = F47_lrlrr inv k k x0 x5 x9 x10 x11 h (fun y0 y5 y9 y10 y11 y12 h => K (.exit 0) (act 34 [(0, y0), (5, y5), (9, y9), (10, y10), (11, y11), (12, y12)]) h) := kq_loop (F47_lrlrr_j k)
theorem r47_10  : kCode env 47 false inv k (cp c47 30) (act 34 [(0, x0), (5, x5), (9, x9), (10, x10), (11, x11), (12, x12)]) h K =
    K .normal (act 34 [(4, x5)]) h := kq_reg
theorem res47_0 : resOfFn env.P 47 .ret (act 34 [(4, x4)]) h = some (x4, h) := kq_res
/-- shadowbook/schema.Pick -/
noncomputable def F47 (inv : Inv) (k : Nat) (x0 x1 : Value) (h : AH) : Option (Value × AH) :=
    bnd (pLen Try.prog #[24] x1 h) fun x10 =>
    F47_lrlrr inv k k x0 (.slice none 0 0) x1 x10 (.int .i64 0) h
    (fun y0 y5 y9 y10 y11 y12 h =>
    some (y5, h))
theorem F47_eq : eFun env k inv 47 #[x0, x1] h = F47 inv k x0 x1 h := by
      refine (kq_fun (a := act 34 [(0, x0), (1, x1)]) (c := cp c47 1)).trans ?_
      unfold F47
      simp only [kq_seq c47 1, r47_0, kq_seq c47 3, r47_1, kq_seq c47 7, kq_seq c47 14, r47_2, kq_block c47 29 0, F47_lrlrr_eq, kq_seq c47 15, r47_10, kq_ret c47 31, res47_0, reduceIte, reduceCtorEq, XE.exit.injEq, Nat.reduceEqDiff, Nat.reduceMul, Nat.reduceAdd] <;> kernel_rfl
theorem F47_call : eInv env (k + 1) (.func 47) #[] #[x0, x1] h = F47 (eInv env k) k x0 x1 h := kq_inv F47_eq
noncomputable def c50 : Code := codeOf Try.prog 50
theorem r50_0  : kCode env 50 false inv k (cp c50 2) (act 4 [(0, x0)]) h K =
    bnd (pBox Try.prog 67 x0 h) fun x1 =>
    K .normal (act 4 [(1, x1.1)]) x1.2 := kq_reg
theorem r50_1  : kCode env 50 false inv k (cp c50 6) (act 4 [(1, x1)]) h K =
    bnd (pMakeFunc (.func 69) #[] #[x1]) fun x3 =>
    K .normal (act 4 [(2, x3)]) h := kq_reg
theorem res50_0 : resOfFn env.P 50 .ret (act 4 [(2, x2)]) h = some (x2, h) := kq_res
/-- maps.Keys[map[string]*shadowbook/agg.group,string,*shadowbook/agg.group] -/
noncomputable def F50 (inv : Inv) (k : Nat) (x0 : Value) (h : AH) : Option (Value × AH) :=
    bnd (pBox Try.prog 67 x0 h) fun x1 =>
    bnd (pMakeFunc (.func 69) #[] #[x1.1]) fun x3 =>
    some (x3, x1.2)
theorem F50_eq : eFun env k inv 50 #[x0] h = F50 inv k x0 h := by
      refine (kq_fun (a := act 4 [(0, x0)]) (c := cp c50 1)).trans ?_
      unfold F50
      simp only [kq_seq c50 1, r50_0, kq_seq c50 3, r50_1, kq_ret c50 7, res50_0, reduceIte, reduceCtorEq, XE.exit.injEq, Nat.reduceEqDiff, Nat.reduceMul, Nat.reduceAdd] <;> kernel_rfl
theorem F50_call : eInv env (k + 1) (.func 50) #[] #[x0] h = F50 (eInv env k) k x0 h := kq_inv F50_eq
noncomputable def c51 : Code := codeOf Try.prog 51
theorem r51_0  : kCode env 51 false inv k (cp c51 2) (act 8 [(0, x0)]) h K =
    K .normal (act 8 [(0, x0)]) h := kq_reg
theorem r51_1  : kCode env 51 false inv k (cp c51 12) (act 8 [(0, x0)]) h K =
    bnd (pBin Try.prog .eql 34 (.tmp 3) (.const (.slice none 0 0)) x0 (.slice none 0 0)) fun x4 =>
    K .normal (act 8 [(0, x0), (4, x4)]) h := kq_reg
theorem b51_rlr  : kCode env 51 false inv k (cp c51 13) (act 8 [(0, x0), (4, x4)]) h K = brV x4 (kCode env 51 false inv k (cp c51 26) (act 8 [(0, x0), (4, x4)]) h K) (kCode env 51 false inv k (cp c51 27) (act 8 [(0, x0), (4, x4)]) h K) := kq_cond
theorem r51_2  : kCode env 51 false inv k (cp c51 52) (act 8 [(0, x0), (4, x4)]) h K =
    K .normal (act 8 [(2, (.slice none 0 0))]) h := kq_reg
theorem res51_0 : resOfFn env.P 51 .ret (act 8 [(2, x2)]) h = some (x2, h) := kq_res
theorem r51_3  : kCode env 51 false inv k (cp c51 14) (act 8 [(0, x0), (4, x4)]) h K =
    bnd (pBuildSlice Try.prog 34 0 #[] h) fun x5 =>
    bnd (pAppend Try.prog #[34, 34] x5.1 x0 x5.2) fun x7 =>
    K .normal (act 8 [(2, x7.1)]) x7.2 := kq_reg
/-- slices.Clone[[]shadowbook/api.Cell,shadowbook/api.Cell] -/
noncomputable def F51 (inv : Inv) (k : Nat) (x0 : Value) (h : AH) : Option (Value × AH) :=
    bnd (pBin Try.prog .eql 34 (.tmp 3) (.const (.slice none 0 0)) x0 (.slice none 0 0)) fun x4 =>
    brV x4
    (some ((.slice none 0 0), h))
    (bnd (pBuildSlice Try.prog 34 0 #[] h) fun x5 =>
    bnd (pAppend Try.prog #[34, 34] x5.1 x0 x5.2) fun x7 =>
    some (x7.1, x7.2))
theorem F51_eq : eFun env k inv 51 #[x0] h = F51 inv k x0 h := by
      refine (kq_fun (a := act 8 [(0, x0)]) (c := cp c51 1)).trans ?_
      unfold F51
      simp only [kq_seq c51 1, r51_0, kq_seq c51 3, kq_seq c51 6, r51_1, b51_rlr, kq_seq c51 26, r51_2, kq_ret c51 53, res51_0, kq_skip c51 27, kq_seq c51 7, r51_3, kq_ret c51 15, reduceIte, reduceCtorEq, XE.exit.injEq, Nat.reduceEqDiff, Nat.reduceMul, Nat.reduceAdd] <;> kernel_rfl
theorem F51_call : eInv env (k + 1) (.func 51) #[] #[x0] h = F51 (eInv env k) k x0 h := kq_inv F51_eq
noncomputable def c56 : Code := codeOf Try.prog 56
theorem r56_0  : kCode env 56 false inv k (cp c56 2) (act 20 [(0, x0)]) h K =
    K .normal (act 20 [(0, x0)]) h := kq_reg
theorem r56_1  : kCode env 56 false inv k (cp c56 12) (act 20 [(0, x0)]) h K =
    K .normal (act 20 [(0, x0), (3, (.int .i64 0))]) h := kq_reg
theorem r56_2  : kCode env 56 false inv k (cp c56 208) (act 20 [(0, x0), (3, x3)]) h K =
    bnd (pLen Try.prog #[34] x0 h) fun x6 =>
    bnd (pBin Try.prog .lss 3 (.tmp 4) (.tmp 6) x3 x6) fun x7 =>
    K .normal (act 20 [(0, x0), (3, x3), (7, x7)]) h := kq_reg
theorem b56_rlllrlr  : kCode env 56 false inv k (cp c56 209) (act 20 [(0, x0), (3, x3), (7, x7)]) h K = brV x7 (kCode env 56 false inv k (cp c56 418) (act 20 [(0, x0), (3, x3), (7, x7)]) h K) (kCode env 56 false inv k (cp c56 419) (act 20 [(0, x0), (3, x3), (7, x7)]) h K) := kq_cond
theorem r56_4  : kCode env 56 false inv k (cp c56 840) (act 20 [(0, x0), (3, x3), (7, x7)]) h K =
    bnd (pIndexAddr Try.prog 34 x0 x3) fun x12 =>
    bnd (pFieldAddr Try.prog 37 x12 2) fun x13 =>
    bnd (pLoad Try.prog 9 x13 h) fun x14 =>
    bnd (pLen Try.prog #[9] x14 h) fun x15 =>
    bnd (pBin Try.prog .gtr 3 (.tmp 15) (.const (.int .i64 300)) x15 (.int .i64 300)) fun x16 =>
    K .normal (act 20 [(0, x0), (3, x3), (16, x16)]) h := kq_reg
theorem b56_rllrllrlr  : kCode env 56 false inv k (cp c56 841) (act 20 [(0, x0), (3, x3), (16, x16)]) h K = brV x16 (kCode env 56 false inv k (cp c56 1682) (act 20 [(0, x0), (3, x3), (16, x16)]) h K) (kCode env 56 false inv k (cp c56 1683) (act 20 [(0, x0), (3, x3), (16, x16)]) h K) := kq_cond
theorem r56_5  : kCode env 56 false inv k (cp c56 3364) (act 20 [(0, x0), (3, x3), (16, x16)]) h K =
    K .normal (act 20 [(2, (.bool false))]) h := kq_reg
theorem r56_3  : kCode env 56 false inv k (cp c56 211) (act 20 [(0, x0), (3, x3), (16, x16)]) h K =
    bnd (pBin Try.prog .add 3 (.tmp 8) (.const (.int .i64 1)) x3 (.int .i64 1)) fun x9 =>
    K .normal (act 20 [(0, x0), (3, x9)]) h := kq_reg
noncomputable def F56_lrlr {β : Type} (inv : Inv) (k : Nat) : Nat → Value → Value → AH → (Value → Value → Value → AH → Option β) → (Value → AH → Option β) → Option β
  | 0, _, _, _, _, _ => none
  | j + 1, x0, x3, h, ke0, kr =>
    bnd (pLen Try.prog #[34] x0 h) fun x6 =>
    bnd (pBin Try.prog .lss 3 (.tmp 4) (.tmp 6) x3 x6) fun x7 =>
    brV x7
    (bnd (pIndexAddr Try.prog 34 x0 x3) fun x12 =>
    bnd (pFieldAddr Try.prog 37 x12 2) fun x13 =>
    bnd (pLoad Try.prog 9 x13 h) fun x14 =>
    bnd (pLen Try.prog #[9] x14 h) fun x15 =>
    bnd (pBin Try.prog .gtr 3 (.tmp 15) (.const (.int .i64 300)) x15 (.int .i64 300)) fun x16 =>
    brV x16
    (kr (.bool false) h)
    (bnd (pBin Try.prog .add 3 (.tmp 8) (.const (.int .i64 1)) x3 (.int .i64 1)) fun x9 =>
    F56_lrlr inv k j x0 x9 h ke0 kr))
    (ke0 x0 x3 x7 h)
theorem F56_lrlr_j (j : Nat) : kLoop (kCode env 56 false inv k (cp c56 52)) j (act 20 [(0, x0), (3, x3)]) h K = F56_lrlr inv k j x0 x3 h (fun y0 y3 y7 h => K (.exit 0) (act 20 [(0, y0), (3, y3), (7, y7)]) h) (fun y2 h => K .ret (act 20 [(2, y2)]) h) := by
      induction j generalizing x0 x3 h with
      | zero => rfl
      | succ j ih =>
        unfold F56_lrlr
        simp only [kLoop, kq_seq c56 52, kq_seq c56 104, r56_2, b56_rlllrlr, kq_skip c56 418, kq_seq c56 105, kq_block c56 210 1, kq_seq c56 420, r56_4, b56_rllrllrlr, kq_seq c56 1682, r56_5, kq_ret c56 3365, kq_skip c56 1683, r56_3, kq_exit c56 419 0, ih, reduceIte, reduceCtorEq, XE.exit.injEq, Nat.reduceEqDiff, Nat.reduceMul, Nat.reduceAdd] <;> kernel_rfl
theorem F56_lrlr_eq  : kCode env 56 false inv k (cp c56 26) (act 20 [(0, x0), (3, x3)]) h K = F56_lrlr inv k k x0 x3 h (fun y0 y3 y7 h => K (.exit 0) (act 20 [(0, y0), (3, y3), (7, y7)]) h) (fun y2 h => K .ret (act 20 [(2, y2)]) h) := kq_loop (F56_lrlr_j k)
theorem r56_6  : kCode env 56 false inv k (cp c56 14) (act 20 [(0, x0), (3, x3), (7, x7)]) h K =
    bnd (pLen Try.prog #[34] x0 h) fun x18 =>
    bnd (pBin Try.prog .leq 3 (.tmp 18) (.const (.int .i64 20)) x18 (.int .i64 20)) fun x19 =>
    K .normal (act 20 [(2, x19)]) h := kq_reg
theorem res56_0 : resOfFn env.P 56 .ret (act 20 [(2, x2)]) h = some (x2, h) := kq_res
/-- shadowbook/shadowbookkit.LightRow -/
noncomputable def F56 (inv : Inv) (k : Nat) (x0 : Value) (h : AH) : Option (Value × AH) :=
    F56_lrlr inv k k x0 (.int .i64 0) h
    (fun y0 y3 y7 h =>
    bnd (pLen Try.prog #[34] y0 h) fun x18 =>
    bnd (pBin Try.prog .leq 3 (.tmp 18) (.const (.int .i64 20)) x18 (.int .i64 20)) fun x19 =>
    some (x19, h))
    (fun y2 h_1 =>
    some (y2, h_1))
theorem F56_eq : eFun env k inv 56 #[x0] h = F56 inv k x0 h := by
      refine (kq_fun (a := act 20 [(0, x0)]) (c := cp c56 1)).trans ?_
      unfold F56
      simp only [kq_seq c56 1, r56_0, kq_seq c56 3, kq_seq c56 6, r56_1, kq_block c56 13 0, F56_lrlr_eq, kq_seq c56 7, r56_6, kq_ret c56 15, res56_0, reduceIte, reduceCtorEq, XE.exit.injEq, Nat.reduceEqDiff, Nat.reduceMul, Nat.reduceAdd] <;> kernel_rfl
theorem F56_call : eInv env (k + 1) (.func 56) #[] #[x0] h = F56 (eInv env k) k x0 h := kq_inv F56_eq
noncomputable def c57 : Code := codeOf Try.prog 57
theorem r57_0  : kCode env 57 false inv k (cp c57 2) (act 21 [(0, x0)]) h K =
    K .normal (act 21 [(0, x0)]) h := kq_reg
theorem r57_1  : kCode env 57 false inv k (cp c57 6) (act 21 [(0, x0)]) h K =
    K .normal (act 21 [(0, x0), (3, (.slice none 0 0))]) h := kq_reg
theorem r57_2  : kCode env 57 false inv k (cp c57 28) (act 21 [(0, x0), (3, x3)]) h K =
    bnd (pLen Try.prog #[34] x0 h) fun x7 =>
    K .normal (act 21 [(3, x3), (6, x0), (7, x7), (8, (.int .i64 0))]) h := kq_reg
theorem r57_3  : kCode env 57 false inv k (cp c57 232) (act 21 [(3, x3), (6, x6), (7, x7), (8, x8)]) h K =
    bnd (pBin Try.prog .lss 3 (.tmp 8) (.tmp 7) x8 x7) fun x9 =>
    K .normal (act 21 [(3, x3), (6, x6), (7, x7), (8, x8), (9, x9)]) h := kq_reg
theorem b57_lrllrlrr  : kCode env 57 false inv k (cp c57 466) (act 21 [(3, x3), (6, x6), (7, x7), (8, x8), (9, x9)]) h K = brV x9 (kCode env 57 false inv k (cp c57 932) (act 21 [(3, x3), (6, x6), (7, x7), (8, x8), (9, x9)]) h K) (kCode env 57 false inv k (cp c57 933) (act 21 [(3, x3), (6, x6), (7, x7), (8, x8), (9, x9)]) h K) := kq_cond
theorem r57_4  : kCode env 57 false inv k (cp c57 3736) (act 21 [(3, x3), (6, x6), (7, x7), (8, x8), (9, x9)]) h K =
    bnd (pIndexAddr Try.prog 34 x6 x8) fun x10 =>
    bnd (pLoad Try.prog 37 x10 h) fun x11 =>
    bnd (pAlloc Try.prog 37 h) fun x5 =>
    bnd (kSt (pStore Try.prog 37 x5.1 x11 x5.2)) fun u =>
    K .normal (act 21 [(3, x3), (5, x5.1), (6, x6), (7, x7), (8, x8)]) u.2 := kq_reg
theorem r57_5  : kCode env 57 false inv k (cp c57 14948) (act 21 [(3, x3), (5, x5), (6, x6), (7, x7), (8, x8)]) h K =
    bnd (pLoad Try.prog 37 x5 h) fun x12 =>
    bnd (inv (.func 70) #[] #[x12] h) fun x13 =>
    bnd (pBin Try.prog .neq 31 (.tmp 13) (.const (.int .i64 0)) x13.1 (.int .i64 0)) fun x14 =>
    K .normal (act 21 [(3, x3), (5, x5), (6, x6), (7, x7), (8, x8), (14, x14)]) x13.2 := kq_reg
theorem b57_rlrllrrllrlrr  : kCode env 57 false inv k (cp c57 14949) (act 21 [(3, x3), (5, x5), (6, x6), (7, x7), (8, x8), (14, x14)]) h K = brV x14 (kCode env 57 false inv k (cp c57 29898) (act 21 [(3, x3), (5, x5), (6, x6), (7, x7), (8, x8), (14, x14)]) h K) (kCode env 57 false inv k (cp c57 29899) (act 21 [(3, x3), (5, x5), (6, x6), (7, x7), (8, x8), (14, x14)]) h K) := kq_cond
theorem r57_6  : kCode env 57 false inv k (cp c57 59796) (act 21 [(3, x3), (5, x5), (6, x6), (7, x7), (8, x8), (14, x14)]) h K =
    K .normal (act 21 [(2, (.string { data := #[] }))]) h := kq_reg
theorem r57_7  : kCode env 57 false inv k (cp c57 7475) (act 21 [(3, x3), (5, x5), (6, x6), (7, x7), (8, x8), (14, x14)]) h K =
    bnd (pLoad Try.prog 37 x5 h) fun x16 =>
    bnd (inv (.func 71) #[] #[x3, x16] h) fun x17 =>
    K .normal (act 21 [(3, x17.1), (6, x6), (7, x7), (8, x8)]) x17.2 := kq_reg
theorem r57_8  : kCode env 57 false inv k (cp c57 935) (act 21 [(3, x3), (6, x6), (7, x7), (8, x8)]) h K =
    bnd (pBin Try.prog .add 3 (.tmp 8) (.const (.int .i64 1)) x8 (.int .i64 1)) fun x18 =>
    K .normal (act 21 [(3, x3), (6, x6), (7, x7), (8, x18)]) h := kq_reg
noncomputable def F57_lrlrr {β : Type} (inv : Inv) (k : Nat) : Nat → Value → Value → Value → Value → AH → (Value → Value → Value → Value → Value → AH → Option β) → (Value → AH → Option β) → Option β
  | 0, _, _, _, _, _, _, _ => none
  | j + 1, x3, x6, x7, x8, h, ke0, kr =>
    bnd (pBin Try.prog .lss 3 (.tmp 8) (.tmp 7) x8 x7) fun x9 =>
    brV x9
    (bnd (pIndexAddr Try.prog 34 x6 x8) fun x10 =>
    bnd (pLoad Try.prog 37 x10 h) fun x11 =>
    bnd (pAlloc Try.prog 37 h) fun x5 =>
    bnd (kSt (pStore Try.prog 37 x5.1 x11 x5.2)) fun u =>
    bnd (pLoad Try.prog 37 x5.1 u.2) fun x12 =>
    bnd (inv (.func 70) #[] #[x12] u.2) fun x13 =>
    bnd (pBin Try.prog .neq 31 (.tmp 13) (.const (.int .i64 0)) x13.1 (.int .i64 0)) fun x14 =>
    brV x14
    (kr (.string { data := #[] }) x13.2)
    (bnd (pLoad Try.prog 37 x5.1 x13.2) fun x16 =>
    bnd (inv (.func 71) #[] #[x3, x16] x13.2) fun x17 =>
    bnd (pBin Try.prog .add 3 (.tmp 8) (.const (.int .i64 1)) x8 (.int .i64 1)) fun x18 =>
    F57_lrlrr inv k j x17.1 x6 x7 x18 x17.2 ke0 kr))
    (ke0 x3 x6 x7 x8 x9 h)
theorem F57_lrlrr_j (j : Nat) : kLoop (kCode env 57 false inv k (cp c57 116)) j (act 21 [(3, x3), (6, x6), (7, x7), (8, x8)]) h K = F57_lrlrr inv k j x3 x6 x7 x8 h (fun y3 y6 y7 y8 y9 h => K (.exit 0) (act 21 [(3, y3), (6, y6), (7, y7), (8, y8), (9, y9)]) h) (fun y2 h => K .ret (act 21 [(2, y2)]) h) := by
      induction j generalizing x3 x6 x7 x8 h with
      | zero => rfl
      | succ j ih =>
        unfold F57_lrlrr
        simp only [kLoop, kq_seq c57 116, r57_3, kq_seq c57 233, b57_lrllrlrr, kq_skip c57 932, kq_seq c57 467, kq_block c57 934 1, kq_seq c57 1868, r57_4, kq_seq c57 3737, kq_seq c57 7474, r57_5, b57_rlrllrrllrlrr, kq_seq c57 29898, r57_6, kq_ret c57 59797, kq_skip c57 29899, r57_7, r57_8, kq_exit c57 933 0, ih, reduceIte, reduceCtorEq, XE.exit.injEq, Nat.reduceEqDiff, Nat.reduceMul, Nat.reduceAdd] <;> kernel_rfl
theorem F57_lrlrr_eq  : kCode env 57 false inv k (cp c57 58) (act 21 [(3, x3), (6, x6), (7, x7), (8, x8)]) h K = F57_lrlrr inv k k x3 x6 x7 x8 h (fun y3 y6 y7 y8 y9 h => K (.exit 0) (act 21 [(3, y3), (6, y6), (7, y7), (8, y8), (9, y9)]) h) (fun y2 h => K .ret (act 21 [(2, y2)]) h) := kq_loop (F57_lrlrr_j k)
theorem r57_9  : kCode env 57 false inv k (cp c57 30) (act 21 [(3, x3), (6, x6), (7, x7), (8, x8), (9, x9)]) h K =
    bnd (pConv Try.prog 107 9 x3 h) fun x20 =>
    K .normal (act 21 [(2, x20)]) h := kq_reg
theorem res57_0 : resOfFn env.P 57 .ret (act 21 [(2, x2)]) h = some (x2, h) := kq_res
/-- shadowbook/value.Key -/
noncomputable def F57 (inv : Inv) (k : Nat) (x0 : Value) (h : AH) : Option (Value × AH) :=
    bnd (pLen Try.prog #[34] x0 h) fun x7 =>
    F57_lrlrr inv k k (.slice none 0 0) x0 x7 (.int .i64 0) h
    (fun y3 y6 y7 y8 y9 h =>
    bnd (pConv Try.prog 107 9 y3 h) fun x20 =>
    some (x20, h))
    (fun y2 h_1 =>
    some (y2, h_1))
theorem F57_eq : eFun env k inv 57 #[x0] h = F57 inv k x0 h := by
      refine (kq_fun (a := act 21 [(0, x0)]) (c := cp c57 1)).trans ?_
      unfold F57
      simp only [kq_seq c57 1, r57_0, kq_seq c57 3, r57_1, kq_seq c57 7, kq_seq c57 14, r57_2, kq_block c57 29 0, F57_lrlrr_eq, kq_seq c57 15, r57_9, kq_ret c57 31, res57_0, reduceIte, reduceCtorEq, XE.exit.injEq, Nat.reduceEqDiff, Nat.reduceMul, Nat.reduceAdd] <;> kernel_rfl
theorem F57_call : eInv env (k + 1) (.func 57) #[] #[x0] h = F57 (eInv env k) k x0 h := kq_inv F57_eq
noncomputable def c58 : Code := codeOf Try.prog 58
theorem r58_0  : kCode env 58 false inv k (cp c58 2) (act 29 [(0, x0)]) h K =
    bnd (pBox Try.prog 28 x0 h) fun x1 =>
    K .normal (act 29 [(1, x1.1)]) x1.2 := kq_reg
theorem r58_1  : kCode env 58 false inv k (cp c58 12) (act 29 [(1, x1)]) h K =
    bnd (pFieldAddr Try.prog 28 x1 0) fun x3 =>
    bnd (pLoad Try.prog 3 x3 h) fun x4 =>
    K .normal (act 29 [(1, x1), (4, x4)]) h := kq_reg
theorem r58_2  : kCode env 58 false inv k (cp c58 52) (act 29 [(1, x1), (4, x4)]) h K =
    bnd (pBin Try.prog .eql 3 (.tmp 4) (.const (.int .i64 1)) x4 (.int .i64 1)) fun x6 =>
    K .normal (act 29 [(1, x1), (4, x4), (5, x6)]) h := kq_reg
theorem b58_rlrlr  : kCode env 58 false inv k (cp c58 53) (act 29 [(1, x1), (4, x4), (5, x5)]) h K = brV x5 (kCode env 58 false inv k (cp c58 106) (act 29 [(1, x1), (4, x4), (5, x5)]) h K) (kCode env 58 false inv k (cp c58 107) (act 29 [(1, x1), (4, x4), (5, x5)]) h K) := kq_cond
theorem r58_3  : kCode env 58 false inv k (cp c58 212) (act 29 [(1, x1), (4, x4), (5, x5)]) h K =
    bnd (pBuild Try.prog 111 #[]) fun x7 =>
    bnd (pBox Try.prog 111 x7 h) fun x8 =>
    bnd (pMakeIface Try.prog 109 x8.1) fun x9 =>
    K .normal (act 29 [(2, x9)]) x8.2 := kq_reg
theorem res58_0 : resOfFn env.P 58 .ret (act 29 [(2, x2)]) h = some (x2, h) := kq_res
theorem r58_4  : kCode env 58 false inv k (cp c58 214) (act 29 [(1, x1), (4, x4), (5, x5)]) h K =
    bnd (pBin Try.prog .eql 3 (.tmp 4) (.const (.int .i64 2)) x4 (.int .i64 2)) fun x11 =>
    K .normal (act 29 [(1, x1), (4, x4), (10, x11)]) h := kq_reg
theorem b58_rrrlrlr  : kCode env 58 false inv k (cp c58 215) (act 29 [(1, x1), (4, x4), (10, x10)]) h K = brV x10 (kCode env 58 false inv k (cp c58 430) (act 29 [(1, x1), (4, x4), (10, x10)]) h K) (kCode env 58 false inv k (cp c58 431) (act 29 [(1, x1), (4, x4), (10, x10)]) h K) := kq_cond
theorem r58_5  : kCode env 58 false inv k (cp c58 860) (act 29 [(1, x1), (4, x4), (10, x10)]) h K =
    bnd (pFieldAddr Try.prog 28 x1 1) fun x12 =>
    bnd (pLoad Try.prog 3 x12 h) fun x13 =>
    bnd (pBuild Try.prog 114 #[(0, x13)]) fun x14 =>
    bnd (pBox Try.prog 114 x14 h) fun x15 =>
    bnd (pMakeIface Try.prog 112 x15.1) fun x16 =>
    K .normal (act 29 [(2, x16)]) x15.2 := kq_reg
theorem r58_6  : kCode env 58 false inv k (cp c58 862) (act 29 [(1, x1), (4, x4), (10, x10)]) h K =
    bnd (pBin Try.prog .eql 3 (.tmp 4) (.const (.int .i64 3)) x4 (.int .i64 3)) fun x18 =>
    K .normal (act 29 [(1, x1), (17, x18)]) h := kq_reg
theorem b58_rrrrrlrlr  : kCode env 58 false inv k (cp c58 863) (act 29 [(1, x1), (17, x17)]) h K = brV x17 (kCode env 58 false inv k (cp c58 1726) (act 29 [(1, x1), (17, x17)]) h K) (kCode env 58 false inv k (cp c58 1727) (act 29 [(1, x1), (17, x17)]) h K) := kq_cond
theorem r58_7  : kCode env 58 false inv k (cp c58 3452) (act 29 [(1, x1), (17, x17)]) h K =
    bnd (pFieldAddr Try.prog 28 x1 1) fun x19 =>
    bnd (pLoad Try.prog 3 x19 h) fun x20 =>
    bnd (pBuild Try.prog 117 #[(0, x20), (1, (.int .i64 (-1)))]) fun x21 =>
    bnd (pBox Try.prog 117 x21 h) fun x22 =>
    bnd (pMakeIface Try.prog 115 x22.1) fun x23 =>
    K .normal (act 29 [(2, x23)]) x22.2 := kq_reg
theorem r58_8  : kCode env 58 false inv k (cp c58 14) (act 29 [(1, x1), (17, x17)]) h K =
    bnd (pFieldAddr Try.prog 28 x1 1) fun x24 =>
    bnd (pLoad Try.prog 3 x24 h) fun x25 =>
    bnd (pBuild Try.prog 117 #[(0, x25), (1, (.int .i64 1))]) fun x26 =>
    bnd (pBox Try.prog 117 x26 h) fun x27 =>
    bnd (pMakeIface Try.prog 115 x27.1) fun x28 =>
    K .normal (act 29 [(2, x28)]) x27.2 := kq_reg
/-- shadowbook/agg.of -/
noncomputable def F58 (inv : Inv) (k : Nat) (x0 : Value) (h : AH) : Option (Value × AH) :=
    bnd (pBox Try.prog 28 x0 h) fun x1 =>
    bnd (pFieldAddr Try.prog 28 x1.1 0) fun x3 =>
    bnd (pLoad Try.prog 3 x3 x1.2) fun x4 =>
    bnd (pBin Try.prog .eql 3 (.tmp 4) (.const (.int .i64 1)) x4 (.int .i64 1)) fun x6 =>
    brV x6
    (bnd (pBuild Try.prog 111 #[]) fun x7 =>
    bnd (pBox Try.prog 111 x7 x1.2) fun x8 =>
    bnd (pMakeIface Try.prog 109 x8.1) fun x9 =>
    some (x9, x8.2))
    (bnd (pBin Try.prog .eql 3 (.tmp 4) (.const (.int .i64 2)) x4 (.int .i64 2)) fun x11 =>
    brV x11
    (bnd (pFieldAddr Try.prog 28 x1.1 1) fun x12 =>
    bnd (pLoad Try.prog 3 x12 x1.2) fun x13 =>
    bnd (pBuild Try.prog 114 #[(0, x13)]) fun x14 =>
    bnd (pBox Try.prog 114 x14 x1.2) fun x15 =>
    bnd (pMakeIface Try.prog 112 x15.1) fun x16 =>
    some (x16, x15.2))
    (bnd (pBin Try.prog .eql 3 (.tmp 4) (.const (.int .i64 3)) x4 (.int .i64 3)) fun x18 =>
    brV x18
    (bnd (pFieldAddr Try.prog 28 x1.1 1) fun x19 =>
    bnd (pLoad Try.prog 3 x19 x1.2) fun x20 =>
    bnd (pBuild Try.prog 117 #[(0, x20), (1, (.int .i64 (-1)))]) fun x21 =>
    bnd (pBox Try.prog 117 x21 x1.2) fun x22 =>
    bnd (pMakeIface Try.prog 115 x22.1) fun x23 =>
    some (x23, x22.2))
    (bnd (pFieldAddr Try.prog 28 x1.1 1) fun x24 =>
    bnd (pLoad Try.prog 3 x24 x1.2) fun x25 =>
    bnd (pBuild Try.prog 117 #[(0, x25), (1, (.int .i64 1))]) fun x26 =>
    bnd (pBox Try.prog 117 x26 x1.2) fun x27 =>
    bnd (pMakeIface Try.prog 115 x27.1) fun x28 =>
    some (x28, x27.2))))
theorem F58_eq : eFun env k inv 58 #[x0] h = F58 inv k x0 h := by
      refine (kq_fun (a := act 29 [(0, x0)]) (c := cp c58 1)).trans ?_
      unfold F58
      simp only [kq_seq c58 1, r58_0, kq_seq c58 3, kq_seq c58 6, r58_1, kq_block c58 13 0, kq_seq c58 26, r58_2, b58_rlrlr, kq_seq c58 106, r58_3, kq_ret c58 213, res58_0, kq_seq c58 107, r58_4, b58_rrrlrlr, kq_seq c58 430, r58_5, kq_ret c58 861, kq_seq c58 431, r58_6, b58_rrrrrlrlr, kq_seq c58 1726, r58_7, kq_ret c58 3453, kq_skip c58 1727, kq_seq c58 7, r58_8, kq_ret c58 15, reduceIte, reduceCtorEq, XE.exit.injEq, Nat.reduceEqDiff, Nat.reduceMul, Nat.reduceAdd] <;> kernel_rfl
theorem F58_call : eInv env (k + 1) (.func 58) #[] #[x0] h = F58 (eInv env k) k x0 h := kq_inv F58_eq
noncomputable def c60 : Code := codeOf Try.prog 60
theorem r60_0  : kCode env 60 false inv k (cp c60 2) (act 45 [(0, x0)]) h K =
    K .normal (act 45 [(0, x0)]) h := kq_reg
noncomputable abbrev G60_1 {β : Type} (inv : Inv) (x0 : Value) (h : AH) (K : Value → AH → Option β) : Option β :=
    bnd (pLen Try.prog #[9] x0 h) fun x6 =>
    bnd (pBin Try.prog .lss 3 (.tmp 6) (.const (.int .i64 1)) x6 (.int .i64 1)) fun x7 =>
    bnd (gd (some x7) false h (some (x0, h))) fun x9 =>
    bnd (gd (some x7) false x9.2 (lt (pLen Try.prog #[9] x9.1 x9.2) x9.2)) fun x10 =>
    bnd (gd (some x7) false x10.2 (lt (pBin Try.prog .gtr 3 (.tmp 10) (.const (.int .i64 32)) x10.1 (.int .i64 32)) x10.2)) fun x11 =>
    bnd (pickV x7 (.bool true) x11.1) fun x12 =>
    K (x12) x11.2
theorem r60_1  : kCode env 60 false inv k (cp c60 24) (act 45 [(0, x0)]) h K =
    G60_1 inv x0 h fun y12 h => K .normal (act 45 [(0, x0), (12, y12)]) h := kq_reg
theorem b60_rllr  : kCode env 60 false inv k (cp c60 25) (act 45 [(0, x0), (12, x12)]) h K = brV x12 (kCode env 60 false inv k (cp c60 50) (act 45 [(0, x0), (12, x12)]) h K) (kCode env 60 false inv k (cp c60 51) (act 45 [(0, x0), (12, x12)]) h K) := kq_cond
theorem r60_2  : kCode env 60 false inv k (cp c60 100) (act 45 [(0, x0), (12, x12)]) h K =
    K .normal (act 45 [(2, (.int .i64 170))]) h := kq_reg
theorem res60_0 : resOfFn env.P 60 .ret (act 45 [(2, x2)]) h = some (x2, h) := kq_res
theorem r60_3  : kCode env 60 false inv k (cp c60 108) (act 45 [(0, x0), (12, x12)]) h K =
    bnd (pRange Try.prog 9 x0 h) fun x14 =>
    K .normal (act 45 [(14, x14.1)]) x14.2 := kq_reg
theorem r60_4  : kCode env 60 false inv k (cp c60 872) (act 45 [(3, x3), (4, x4), (14, x14), (19, x19), (34, x34)]) h K =
    bnd (pNext x14 true h) fun x15 =>
    bnd (pExtract x15.1 0) fun x16 =>
    K .normal (act 45 [(14, x14), (15, x15.1), (16, x16)]) x15.2 := kq_reg
theorem b60_lrllrlrrlr  : kCode env 60 false inv k (cp c60 1746) (act 45 [(14, x14), (15, x15), (16, x16)]) h K = brV x16 (kCode env 60 false inv k (cp c60 3492) (act 45 [(14, x14), (15, x15), (16, x16)]) h K) (kCode env 60 false inv k (cp c60 3493) (act 45 [(14, x14), (15, x15), (16, x16)]) h K) := kq_cond
theorem r60_5  : kCode env 60 false inv k (cp c60 6988) (act 45 [(14, x14), (15, x15), (16, x16)]) h K =
    bnd (pExtract x15 1) fun x17 =>
    bnd (pExtract x15 2) fun x18 =>
    K .normal (act 45 [(3, x17), (4, x18), (14, x14)]) h := kq_reg
noncomputable abbrev G60_6 {β : Type} (inv : Inv) (x3 x4 x14 : Value) (h : AH) (K : Value → AH → Option β) : Option β :=
    bnd (pBin Try.prog .geq 21 (.tmp 20) (.const (.int .i32 97)) x4 (.int .i32 97)) fun x21 =>
    bnd (gd (some x21) true h (some (x4, h))) fun x23 =>
    bnd (gd (some x21) true x23.2 (lt (pBin Try.prog .leq 21 (.tmp 23) (.const (.int .i32 122)) x23.1 (.int .i32 122)) x23.2)) fun x24 =>
    bnd (pickV x21 x24.1 (.bool false)) fun x25 =>
    K (x25) x24.2
theorem r60_6  : kCode env 60 false inv k (cp c60 111824) (act 45 [(3, x3), (4, x4), (14, x14)]) h K =
    G60_6 inv x3 x4 x14 h fun y19 h => K .normal (act 45 [(3, x3), (4, x4), (14, x14), (19, y19)]) h := kq_reg
theorem b60_rlllrlrrllrlrrlr  : kCode env 60 false inv k (cp c60 111825) (act 45 [(3, x3), (4, x4), (14, x14), (19, x19)]) h K = brV x19 (kCode env 60 false inv k (cp c60 223650) (act 45 [(3, x3), (4, x4), (14, x14), (19, x19)]) h K) (kCode env 60 false inv k (cp c60 223651) (act 45 [(3, x3), (4, x4), (14, x14), (19, x19)]) h K) := kq_cond
noncomputable abbrev G60_7 {β : Type} (inv : Inv) (x3 x4 x14 : Value) (h : AH) (K : Value → AH → Option β) : Option β :=
    bnd (pBin Try.prog .geq 21 (.tmp 26) (.const (.int .i32 65)) x4 (.int .i32 65)) fun x27 =>
    bnd (gd (some x27) true h (some (x4, h))) fun x29 =>
    bnd (gd (some x27) true x29.2 (lt (pBin Try.prog .leq 21 (.tmp 29) (.const (.int .i32 90)) x29.1 (.int .i32 90)) x29.2)) fun x30 =>
    bnd (pickV x27 x30.1 (.bool false)) fun x31 =>
    K (x31) x30.2
theorem r60_7  : kCode env 60 false inv k (cp c60 447302) (act 45 [(3, x3), (4, x4), (14, x14), (19, x19)]) h K =
    G60_7 inv x3 x4 x14 h fun y19 h => K .normal (act 45 [(3, x3), (4, x4), (14, x14), (19, y19)]) h := kq_reg
theorem b60_rrrlllrlrrllrlrrlr  : kCode env 60 false inv k (cp c60 447303) (act 45 [(3, x3), (4, x4), (14, x14), (19, x19)]) h K = brV x19 (kCode env 60 false inv k (cp c60 894606) (act 45 [(3, x3), (4, x4), (14, x14), (19, x19)]) h K) (kCode env 60 false inv k (cp c60 894607) (act 45 [(3, x3), (4, x4), (14, x14), (19, x19)]) h K) := kq_cond
theorem r60_8  : kCode env 60 false inv k (cp c60 894607) (act 45 [(3, x3), (4, x4), (14, x14), (19, x19)]) h K =
    bnd (pBin Try.prog .eql 21 (.tmp 32) (.const (.int .i32 95)) x4 (.int .i32 95)) fun x33 =>
    K .normal (act 45 [(3, x3), (4, x4), (14, x14), (19, x33)]) h := kq_reg
noncomputable def F60_rlllrlrrllrlrrlr {β : Type} (inv : Inv) (k : Nat) (x3 x4 x14 x19 : Value) (h : AH) (kn : (Value → Value → Value → Value → AH → Option β)) : Option β :=
    brV x19
    (kn x3 x4 x14 x19 h)
    (G60_7 inv x3 x4 x14 h fun y19 h =>
    brV y19
    (kn x3 x4 x14 y19 h)
    (bnd (pBin Try.prog .eql 21 (.tmp 32) (.const (.int .i32 95)) x4 (.int .i32 95)) fun x33 =>
    kn x3 x4 x14 x33 h))
theorem F60_rlllrlrrllrlrrlr_eq  : kCode env 60 false inv k (cp c60 111825) (act 45 [(3, x3), (4, x4), (14, x14), (19, x19)]) h K = F60_rlllrlrrllrlrrlr inv k x3 x4 x14 x19 h (fun y3 y4 y14 y19 h => K .normal (act 45 [(3, y3), (4, y4), (14, y14), (19, y19)]) h) := by
      unfold F60_rlllrlrrllrlrrlr
      simp only [b60_rlllrlrrllrlrrlr, kq_skip c60 223650, kq_seq c60 223651, r60_7, b60_rrrlllrlrrllrlrrlr, kq_skip c60 894606, r60_8, reduceIte, reduceCtorEq, XE.exit.injEq, Nat.reduceEqDiff, Nat.reduceMul, Nat.reduceAdd] <;> kernel_rfl
theorem b60_rllrlrrllrlrrlr  : kCode env 60 false inv k (cp c60 55913) (act 45 [(3, x3), (4, x4), (14, x14), (19, x19)]) h K = brV x19 (kCode env 60 false inv k (cp c60 111826) (act 45 [(3, x3), (4, x4), (14, x14), (19, x19)]) h K) (kCode env 60 false inv k (cp c60 111827) (act 45 [(3, x3), (4, x4), (14, x14), (19, x19)]) h K) := kq_cond
noncomputable abbrev G60_9 {β : Type} (inv : Inv) (x3 x4 x14 : Value) (h : AH) (K : Value → AH → Option β) : Option β :=
    bnd (pBin Try.prog .gtr 3 (.tmp 35) (.const (.int .i64 0)) x3 (.int .i64 0)) fun x36 =>
    bnd (gd (some x36) true h (some (x4, h))) fun x38 =>
    bnd (gd (some x36) true x38.2 (lt (pBin Try.prog .geq 21 (.tmp 38) (.const (.int .i32 48)) x38.1 (.int .i32 48)) x38.2)) fun x39 =>
    bnd (pickV x36 x39.1 (.bool false)) fun x40 =>
    bnd (gd (some x40) true x39.2 (some (x4, x39.2))) fun x42 =>
    bnd (gd (some x40) true x42.2 (lt (pBin Try.prog .leq 21 (.tmp 42) (.const (.int .i32 57)) x42.1 (.int .i32 57)) x42.2)) fun x43 =>
    bnd (pickV x40 x43.1 (.bool false)) fun x44 =>
    K (x44) x43.2
theorem r60_9  : kCode env 60 false inv k (cp c60 223654) (act 45 [(3, x3), (4, x4), (14, x14), (19, x19)]) h K =
    G60_9 inv x3 x4 x14 h fun y34 h => K .normal (act 45 [(14, x14), (34, y34)]) h := kq_reg
theorem b60_rrrllrlrrllrlrrlr  : kCode env 60 false inv k (cp c60 223655) (act 45 [(14, x14), (34, x34)]) h K = brV x34 (kCode env 60 false inv k (cp c60 447310) (act 45 [(14, x14), (34, x34)]) h K) (kCode env 60 false inv k (cp c60 447311) (act 45 [(14, x14), (34, x34)]) h K) := kq_cond
theorem r60_10  : kCode env 60 false inv k (cp c60 27958) (act 45 [(14, x14), (34, x34)]) h K =
    K .normal (act 45 [(2, (.int .i64 170))]) h := kq_reg
noncomputable def F60_lrlrrlr {β : Type} (inv : Inv) (k : Nat) : Nat → Value → Value → Value → Value → Value → AH → (Value → Value → Value → AH → Option β) → (Value → AH → Option β) → Option β
  | 0, _, _, _, _, _, _, _, _ => none
  | j + 1, x3, x4, x14, x19, x34, h, ke0, kr =>
    bnd (pNext x14 true h) fun x15 =>
    bnd (pExtract x15.1 0) fun x16 =>
    brV x16
    (bnd (pExtract x15.1 1) fun x17 =>
    bnd (pExtract x15.1 2) fun x18 =>
    G60_6 inv x17 x18 x14 x15.2 fun y19 h =>
    F60_rlllrlrrllrlrrlr inv k x17 x18 x14 y19 h
    (fun y3 y4 y14 y19_1 h_2 =>
    brV y19_1
    (F60_lrlrrlr inv k j y3 y4 y14 y19_1 unk h_2 ke0 kr)
    (G60_9 inv y3 y4 y14 h_2 fun y34 h_3 =>
    brV y34
    (F60_lrlrrlr inv k j unk unk y14 unk y34 h_3 ke0 kr)
    (kr (.int .i64 170) h_3))))
    (ke0 x14 x15.1 x16 x15.2)
theorem F60_lrlrrlr_j (j : Nat) : kLoop (kCode env 60 false inv k (cp c60 436)) j (act 45 [(3, x3), (4, x4), (14, x14), (19, x19), (34, x34)]) h K = F60_lrlrrlr inv k j x3 x4 x14 x19 x34 h (fun y14 y15 y16 h => K (.exit 0) (act 45 [(14, y14), (15, y15), (16, y16)]) h) (fun y2 h => K .ret (act 45 [(2, y2)]) h) := by
      induction j generalizing x3 x4 x14 x19 x34 h with
      | zero => rfl
      | succ j ih =>
        have ih_34 : ∀ (x3 x4 x14 x19 : Value) (h : AH), kLoop (kCode env 60 false inv k (cp c60 436)) j (act 45 [(3, x3), (4, x4), (14, x14), (19, x19)]) h K = F60_lrlrrlr inv k j x3 x4 x14 x19 unk h (fun y14 y15 y16 h => K (.exit 0) (act 45 [(14, y14), (15, y15), (16, y16)]) h) (fun y2 h => K .ret (act 45 [(2, y2)]) h) := fun x3 x4 x14 x19 h => by
          rw [show act 45 [(3, x3), (4, x4), (14, x14), (19, x19)] = act 45 [(3, x3), (4, x4), (14, x14), (19, x19), (34, unk)] from by kernel_rfl]; exact ih ..
        have ih_3_4_19 : ∀ (x14 x34 : Value) (h : AH), kLoop (kCode env 60 false inv k (cp c60 436)) j (act 45 [(14, x14), (34, x34)]) h K = F60_lrlrrlr inv k j unk unk x14 unk x34 h (fun y14 y15 y16 h => K (.exit 0) (act 45 [(14, y14), (15, y15), (16, y16)]) h) (fun y2 h => K .ret (act 45 [(2, y2)]) h) := fun x14 x34 h => by
          rw [show act 45 [(14, x14), (34, x34)] = act 45 [(3, unk), (4, unk), (14, x14), (19, unk), (34, x34)] from by kernel_rfl]; exact ih ..
        unfold F60_lrlrrlr
        simp only [kLoop, kq_seq c60 436, r60_4, kq_seq c60 873, b60_lrllrlrrlr, kq_skip c60 3492, kq_block c60 1747 1, kq_seq c60 3494, r60_5, kq_seq c60 6989, kq_block c60 13978 2, kq_seq c60 27956, kq_seq c60 55912, r60_6, F60_rlllrlrrllrlrrlr_eq, b60_rllrlrrllrlrrlr, kq_exit c60 111826 1, kq_seq c60 111827, r60_9, b60_rrrllrlrrllrlrrlr, kq_exit c60 447310 1, kq_skip c60 447311, kq_seq c60 13979, r60_10, kq_ret c60 27959, kq_exit c60 3493 0, ih, ih_34, ih_3_4_19, reduceIte, reduceCtorEq, XE.exit.injEq, Nat.reduceEqDiff, Nat.reduceMul, Nat.reduceAdd] <;> kernel_rfl
theorem F60_lrlrrlr_eq  : kCode env 60 false inv k (cp c60 218) (act 45 [(3, x3), (4, x4), (14, x14), (19, x19), (34, x34)]) h K = F60_lrlrrlr inv k k x3 x4 x14 x19 x34 h (fun y14 y15 y16 h => K (.exit 0) (act 45 [(14, y14), (15, y15), (16, y16)]) h) (fun y2 h => K .ret (act 45 [(2, y2)]) h) := kq_loop (F60_lrlrrlr_j k)
theorem F60_lrlrrlr_eq_3_4_19_34  : kCode env 60 false inv k (cp c60 218) (act 45 [(14, x14)]) h K = F60_lrlrrlr inv k k unk unk x14 unk unk h (fun y14 y15 y16 h => K (.exit 0) (act 45 [(14, y14), (15, y15), (16, y16)]) h) (fun y2 h => K .ret (act 45 [(2, y2)]) h) := by
      rw [show act 45 [(14, x14)] = act 45 [(3, unk), (4, unk), (14, x14), (19, unk), (34, unk)] from by kernel_rfl]; exact F60_lrlrrlr_eq ..
theorem r60_11  : kCode env 60 false inv k (cp c60 110) (act 45 [(14, x14), (15, x15), (16, x16)]) h K =
    K .normal (act 45 [(2, (.int .i64 0))]) h := kq_reg
/-- shadowbook/schema.Name -/
noncomputable def F60 (inv : Inv) (k : Nat) (x0 : Value) (h : AH) : Option (Value × AH) :=
    G60_1 inv x0 h fun y12 h =>
    brV y12
    (some ((.int .i64 170), h))
    (bnd (pRange Try.prog 9 x0 h) fun x14 =>
    F60_lrlrrlr inv k k unk unk x14.1 unk unk x14.2
    (fun y14 y15 y16 h_4 =>
    some ((.int .i64 0), h_4))
    (fun y2 h_5 =>
    some (y2, h_5)))
theorem F60_eq : eFun env k inv 60 #[x0] h = F60 inv k x0 h := by
      refine (kq_fun (a := act 45 [(0, x0)]) (c := cp c60 1)).trans ?_
      unfold F60
      simp only [kq_seq c60 1, r60_0, kq_scope c60 3, kq_seq c60 6, kq_seq c60 12, r60_1, b60_rllr, kq_seq c60 50, r60_2, kq_ret c60 101, res60_0, kq_skip c60 51, kq_seq c60 13, kq_label c60 26, kq_seq c60 27, kq_seq c60 54, r60_3, kq_block c60 109 0, F60_lrlrrlr_eq_3_4_19_34, kq_seq c60 55, r60_11, kq_ret c60 111, reduceIte, reduceCtorEq, XE.exit.injEq, Nat.reduceEqDiff, Nat.reduceMul, Nat.reduceAdd] <;> kernel_rfl
theorem F60_call : eInv env (k + 1) (.func 60) #[] #[x0] h = F60 (eInv env k) k x0 h := kq_inv F60_eq
noncomputable def c61 : Code := codeOf Try.prog 61
theorem r61_0  : kCode env 61 false inv k (cp c61 2) (act 9 [(0, x0), (1, x1)]) h K =
    K .normal (act 9 [(0, x0), (1, x1)]) h := kq_reg
theorem r61_1  : kCode env 61 false inv k (cp c61 6) (act 9 [(0, x0), (1, x1)]) h K =
    bnd (inv (.func 72) #[] #[x0, x1] h) fun x7 =>
    bnd (pBin Try.prog .geq 3 (.tmp 7) (.const (.int .i64 0)) x7.1 (.int .i64 0)) fun x8 =>
    K .normal (act 9 [(4, x8)]) x7.2 := kq_reg
theorem res61_0 : resOfFn env.P 61 .ret (act 9 [(4, x4)]) h = some (x4, h) := kq_res
/-- slices.ContainsFunc[[]shadowbook/api.Col,shadowbook/api.Col] -/
noncomputable def F61 (inv : Inv) (k : Nat) (x0 x1 : Value) (h : AH) : Option (Value × AH) :=
    bnd (inv (.func 72) #[] #[x0, x1] h) fun x7 =>
    bnd (pBin Try.prog .geq 3 (.tmp 7) (.const (.int .i64 0)) x7.1 (.int .i64 0)) fun x8 =>
    some (x8, x7.2)
theorem F61_eq : eFun env k inv 61 #[x0, x1] h = F61 inv k x0 x1 h := by
      refine (kq_fun (a := act 9 [(0, x0), (1, x1)]) (c := cp c61 1)).trans ?_
      unfold F61
      simp only [kq_seq c61 1, r61_0, kq_seq c61 3, r61_1, kq_ret c61 7, res61_0, reduceIte, reduceCtorEq, XE.exit.injEq, Nat.reduceEqDiff, Nat.reduceMul, Nat.reduceAdd] <;> kernel_rfl
theorem F61_call : eInv env (k + 1) (.func 61) #[] #[x0, x1] h = F61 (eInv env k) k x0 x1 h := kq_inv F61_eq
noncomputable def c62 : Code := codeOf Try.prog 62
theorem r62_0  : kCode env 62 false inv k (cp c62 2) (act 9 [(0, x0), (1, x1)]) h K =
    bnd (pBox Try.prog 42 x0 h) fun x2 =>
    K .normal (act 9 [(1, x1), (2, x2.1)]) x2.2 := kq_reg
theorem r62_1  : kCode env 62 false inv k (cp c62 6) (act 9 [(1, x1), (2, x2)]) h K =
    bnd (pFieldAddr Try.prog 42 x2 0) fun x4 =>
    bnd (pLoad Try.prog 9 x4 h) fun x5 =>
    bnd (pFieldAddr Try.prog 42 x1 0) fun x6 =>
    bnd (pLoad Try.prog 9 x6 h) fun x7 =>
    bnd (pBin Try.prog .eql 9 (.tmp 5) (.tmp 7) x5 x7) fun x8 =>
    K .normal (act 9 [(3, x8)]) h := kq_reg
theorem res62_0 : resOfFn env.P 62 .ret (act 9 [(3, x3)]) h = some (x3, h) := kq_res
/-- shadowbook/schema.Check$1 -/
noncomputable def F62 (inv : Inv) (k : Nat) (x0 x1 : Value) (h : AH) : Option (Value × AH) :=
    bnd (pBox Try.prog 42 x0 h) fun x2 =>
    bnd (pFieldAddr Try.prog 42 x2.1 0) fun x4 =>
    bnd (pLoad Try.prog 9 x4 x2.2) fun x5 =>
    bnd (pFieldAddr Try.prog 42 x1 0) fun x6 =>
    bnd (pLoad Try.prog 9 x6 x2.2) fun x7 =>
    bnd (pBin Try.prog .eql 9 (.tmp 5) (.tmp 7) x5 x7) fun x8 =>
    some (x8, x2.2)
theorem F62_eq : eFun env k inv 62 #[x0, x1] h = F62 inv k x0 x1 h := by
      refine (kq_fun (a := act 9 [(0, x0), (1, x1)]) (c := cp c62 1)).trans ?_
      unfold F62
      simp only [kq_seq c62 1, r62_0, kq_seq c62 3, r62_1, kq_ret c62 7, res62_0, reduceIte, reduceCtorEq, XE.exit.injEq, Nat.reduceEqDiff, Nat.reduceMul, Nat.reduceAdd] <;> kernel_rfl
theorem F62_call : eInv env (k + 1) (.func 62) #[] #[x0, x1] h = F62 (eInv env k) k x0 x1 h := kq_inv F62_eq
noncomputable def c63 : Code := codeOf Try.prog 63
theorem r63_0  : kCode env 63 false inv k (cp c63 2) (act 19 [(0, x0), (1, x1)]) h K =
    K .normal (act 19 [(0, x0), (1, x1)]) h := kq_reg
theorem r63_1  : kCode env 63 false inv k (cp c63 12) (act 19 [(0, x0), (1, x1)]) h K =
    bnd (pLen Try.prog #[24] x0 h) fun x7 =>
    K .normal (act 19 [(0, x0), (1, x1), (7, x7), (8, (.int .i64 0))]) h := kq_reg
theorem r63_2  : kCode env 63 false inv k (cp c63 104) (act 19 [(0, x0), (1, x1), (7, x7), (8, x8)]) h K =
    bnd (pBin Try.prog .lss 3 (.tmp 8) (.tmp 7) x8 x7) fun x9 =>
    K .normal (act 19 [(0, x0), (1, x1), (7, x7), (8, x8), (9, x9)]) h := kq_reg
theorem b63_lrllrlr  : kCode env 63 false inv k (cp c63 210) (act 19 [(0, x0), (1, x1), (7, x7), (8, x8), (9, x9)]) h K = brV x9 (kCode env 63 false inv k (cp c63 420) (act 19 [(0, x0), (1, x1), (7, x7), (8, x8), (9, x9)]) h K) (kCode env 63 false inv k (cp c63 421) (act 19 [(0, x0), (1, x1), (7, x7), (8, x8), (9, x9)]) h K) := kq_cond
theorem r63_3  : kCode env 63 false inv k (cp c63 1688) (act 19 [(0, x0), (1, x1), (7, x7), (8, x8), (9, x9)]) h K =
    K .normal (act 19 [(0, x0), (1, x1), (5, x8), (7, x7), (8, x8)]) h := kq_reg
theorem r63_4  : kCode env 63 false inv k (cp c63 3378) (act 19 [(0, x0), (1, x1), (5, x5), (7, x7), (8, x8)]) h K =
    bnd (pIndexAddr Try.prog 24 x0 x5) fun x14 =>
    bnd (pLoad Try.prog 3 x14 h) fun x15 =>
    bnd (pBin Try.prog .eql 3 (.tmp 11) (.tmp 15) x1 x15) fun x16 =>
    K .normal (act 19 [(0, x0), (1, x1), (5, x5), (7, x7), (8, x8), (16, x16)]) h := kq_reg
theorem b63_rrllrrllrlr  : kCode env 63 false inv k (cp c63 3379) (act 19 [(0, x0), (1, x1), (5, x5), (7, x7), (8, x8), (16, x16)]) h K = brV x16 (kCode env 63 false inv k (cp c63 6758) (act 19 [(0, x0), (1, x1), (5, x5), (7, x7), (8, x8), (16, x16)]) h K) (kCode env 63 false inv k (cp c63 6759) (act 19 [(0, x0), (1, x1), (5, x5), (7, x7), (8, x8), (16, x16)]) h K) := kq_cond
theorem r63_5  : kCode env 63 false inv k (cp c63 13516) (act 19 [(0, x0), (1, x1), (5, x5), (7, x7), (8, x8), (16, x16)]) h K =
    K .normal (act 19 [(4, x5)]) h := kq_reg
theorem r63_6  : kCode env 63 false inv k (cp c63 423) (act 19 [(0, x0), (1, x1), (5, x5), (7, x7), (8, x8), (16, x16)]) h K =
    bnd (pBin Try.prog .add 3 (.tmp 8) (.const (.int .i64 1)) x8 (.int .i64 1)) fun x18 =>
    K .normal (act 19 [(0, x0), (1, x1), (7, x7), (8, x18)]) h := kq_reg
noncomputable def F63_lrlr {β : Type} (inv : Inv) (k : Nat) : Nat → Value → Value → Value → Value → AH → (Value → Value → Value → Value → Value → AH → Option β) → (Value → AH → Option β) → Option β
  | 0, _, _, _, _, _, _, _ => none
  | j + 1, x0, x1, x7, x8, h, ke0, kr =>
    bnd (pBin Try.prog .lss 3 (.tmp 8) (.tmp 7) x8 x7) fun x9 =>
    brV x9
    (bnd (pIndexAddr Try.prog 24 x0 x8) fun x14 =>
    bnd (pLoad Try.prog 3 x14 h) fun x15 =>
    bnd (pBin Try.prog .eql 3 (.tmp 11) (.tmp 15) x1 x15) fun x16 =>
    brV x16
    (kr x8 h)
    (bnd (pBin Try.prog .add 3 (.tmp 8) (.const (.int .i64 1)) x8 (.int .i64 1)) fun x18 =>
    F63_lrlr inv k j x0 x1 x7 x18 h ke0 kr))
    (ke0 x0 x1 x7 x8 x9 h)
theorem F63_lrlr_j (j : Nat) : kLoop (kCode env 63 false inv k (cp c63 52)) j (act 19 [(0, x0), (1, x1), (7, x7), (8, x8)]) h K = F63_lrlr inv k j x0 x1 x7 x8 h (fun y0 y1 y7 y8 y9 h => K (.exit 0) (act 19 [(0, y0), (1, y1), (7, y7), (8, y8), (9, y9)]) h) (fun y4 h => K .ret (act 19 [(4, y4)]) h) := by
      induction j generalizing x0 x1 x7 x8 h with
      | zero => rfl
      | succ j ih =>
        unfold F63_lrlr
        simp only [kLoop, kq_seq c63 52, r63_2, kq_seq c63 105, b63_lrllrlr, kq_skip c63 420, kq_seq c63 211, kq_block c63 422 1, kq_seq c63 844, r63_3, kq_seq c63 1689, r63_4, b63_rrllrrllrlr, kq_seq c63 6758, r63_5, kq_ret c63 13517, kq_skip c63 6759, r63_6, kq_exit c63 421 0, ih, reduceIte, reduceCtorEq, XE.exit.injEq, Nat.reduceEqDiff, Nat.reduceMul, Nat.reduceAdd] <;> kernel_rfl
theorem F63_lrlr_eq  : kCode env 63 false inv k (cp c63 26) (act 19 [(0, x0), (1, x1), (7, x7), (8, x8)]) h K = F63_lrlr inv k k x0 x1 x7 x8 h (fun y0 y1 y7 y8 y9 h => K (.exit 0) (act 19 [(0, y0), (1, y1), (7, y7), (8, y8), (9, y9)]) h) (fun y4 h => K .ret (act 19 [(4, y4)]) h) := kq_loop (F63_lrlr_j k)
theorem r63_7  : kCode env 63 false inv k (cp c63 14) (act 19 [(0, x0), (1, x1), (7, x7), (8, x8), (9, x9)]) h K =
    K .normal (act 19 [(4, (.int .i64 (-1)))]) h := kq_reg
theorem res63_0 : resOfFn env.P 63 .ret (act 19 [(4, x4)]) h = some (x4, h) := kq_res
/-- slices.Index[[]int,int] -/
noncomputable def F63 (inv : Inv) (k : Nat) (x0 x1 : Value) (h : AH) : Option (Value × AH) :=
    bnd (pLen Try.prog #[24] x0 h) fun x7 =>
    F63_lrlr inv k k x0 x1 x7 (.int .i64 0) h
    (fun y0 y1 y7 y8 y9 h =>
    some ((.int .i64 (-1)), h))
    (fun y4 h_1 =>
    some (y4, h_1))
theorem F63_eq : eFun env k inv 63 #[x0, x1] h = F63 inv k x0 x1 h := by
      refine (kq_fun (a := act 19 [(0, x0), (1, x1)]) (c := cp c63 1)).trans ?_
      unfold F63
      simp only [kq_seq c63 1, r63_0, kq_seq c63 3, kq_seq c63 6, r63_1, kq_block c63 13 0, F63_lrlr_eq, kq_seq c63 7, r63_7, kq_ret c63 15, res63_0, reduceIte, reduceCtorEq, XE.exit.injEq, Nat.reduceEqDiff, Nat.reduceMul, Nat.reduceAdd] <;> kernel_rfl
theorem F63_call : eInv env (k + 1) (.func 63) #[] #[x0, x1] h = F63 (eInv env k) k x0 x1 h := kq_inv F63_eq
noncomputable def c64 : Code := codeOf Try.prog 64
theorem r64_0  : kCode env 64 false inv k (cp c64 2) (act 19 [(0, x0), (1, x1)]) h K =
    K .normal (act 19 [(0, x0), (1, x1)]) h := kq_reg
theorem r64_1  : kCode env 64 false inv k (cp c64 12) (act 19 [(0, x0), (1, x1)]) h K =
    bnd (pLen Try.prog #[29] x0 h) fun x7 =>
    K .normal (act 19 [(0, x0), (1, x1), (7, x7), (8, (.int .i64 0))]) h := kq_reg
theorem r64_2  : kCode env 64 false inv k (cp c64 104) (act 19 [(0, x0), (1, x1), (7, x7), (8, x8)]) h K =
    bnd (pBin Try.prog .lss 3 (.tmp 8) (.tmp 7) x8 x7) fun x9 =>
    K .normal (act 19 [(0, x0), (1, x1), (7, x7), (8, x8), (9, x9)]) h := kq_reg
theorem b64_lrllrlr  : kCode env 64 false inv k (cp c64 210) (act 19 [(0, x0), (1, x1), (7, x7), (8, x8), (9, x9)]) h K = brV x9 (kCode env 64 false inv k (cp c64 420) (act 19 [(0, x0), (1, x1), (7, x7), (8, x8), (9, x9)]) h K) (kCode env 64 false inv k (cp c64 421) (act 19 [(0, x0), (1, x1), (7, x7), (8, x8), (9, x9)]) h K) := kq_cond
theorem r64_3  : kCode env 64 false inv k (cp c64 1688) (act 19 [(0, x0), (1, x1), (7, x7), (8, x8), (9, x9)]) h K =
    K .normal (act 19 [(0, x0), (1, x1), (5, x8), (7, x7), (8, x8)]) h := kq_reg
theorem r64_4  : kCode env 64 false inv k (cp c64 3378) (act 19 [(0, x0), (1, x1), (5, x5), (7, x7), (8, x8)]) h K =
    bnd (pIndexAddr Try.prog 29 x0 x5) fun x14 =>
    bnd (pLoad Try.prog 28 x14 h) fun x15 =>
    bnd (callV inv x1 #[x15] h) fun x16 =>
    K .normal (act 19 [(0, x0), (1, x1), (5, x5), (7, x7), (8, x8), (16, x16.1)]) x16.2 := kq_reg
theorem b64_rrllrrllrlr  : kCode env 64 false inv k (cp c64 3379) (act 19 [(0, x0), (1, x1), (5, x5), (7, x7), (8, x8), (16, x16)]) h K = brV x16 (kCode env 64 false inv k (cp c64 6758) (act 19 [(0, x0), (1, x1), (5, x5), (7, x7), (8, x8), (16, x16)]) h K) (kCode env 64 false inv k (cp c64 6759) (act 19 [(0, x0), (1, x1), (5, x5), (7, x7), (8, x8), (16, x16)]) h K) := kq_cond
theorem r64_5  : kCode env 64 false inv k (cp c64 13516) (act 19 [(0, x0), (1, x1), (5, x5), (7, x7), (8, x8), (16, x16)]) h K =
    K .normal (act 19 [(4, x5)]) h := kq_reg
theorem r64_6  : kCode env 64 false inv k (cp c64 423) (act 19 [(0, x0), (1, x1), (5, x5), (7, x7), (8, x8), (16, x16)]) h K =
    bnd (pBin Try.prog .add 3 (.tmp 8) (.const (.int .i64 1)) x8 (.int .i64 1)) fun x18 =>
    K .normal (act 19 [(0, x0), (1, x1), (7, x7), (8, x18)]) h := kq_reg
noncomputable def F64_lrlr {β : Type} (inv : Inv) (k : Nat) : Nat → Value → Value → Value → Value → AH → (Value → Value → Value → Value → Value → AH → Option β) → (Value → AH → Option β) → Option β
  | 0, _, _, _, _, _, _, _ => none
  | j + 1, x0, x1, x7, x8, h, ke0, kr =>
    bnd (pBin Try.prog .lss 3 (.tmp 8) (.tmp 7) x8 x7) fun x9 =>
    brV x9
    (bnd (pIndexAddr Try.prog 29 x0 x8) fun x14 =>
    bnd (pLoad Try.prog 28 x14 h) fun x15 =>
    bnd (callV inv x1 #[x15] h) fun x16 =>
    brV x16.1
    (kr x8 x16.2)
    (bnd (pBin Try.prog .add 3 (.tmp 8) (.const (.int .i64 1)) x8 (.int .i64 1)) fun x18 =>
    F64_lrlr inv k j x0 x1 x7 x18 x16.2 ke0 kr))
    (ke0 x0 x1 x7 x8 x9 h)
theorem F64_lrlr_j (j : Nat) : kLoop (kCode env 64 false inv k (cp c64 52)) j (act 19 [(0, x0), (1, x1), (7, x7), (8, x8)]) h K = F64_lrlr inv k j x0 x1 x7 x8 h (fun y0 y1 y7 y8 y9 h => K (.exit 0) (act 19 [(0, y0), (1, y1), (7, y7), (8, y8), (9, y9)]) h) (fun y4 h => K .ret (act 19 [(4, y4)]) h) := by
      induction j generalizing x0 x1 x7 x8 h with
      | zero => rfl
      | succ j ih =>
        unfold F64_lrlr
        simp only [kLoop, kq_seq c64 52, r64_2, kq_seq c64 105, b64_lrllrlr, kq_skip c64 420, kq_seq c64 211, kq_block c64 422 1, kq_seq c64 844, r64_3, kq_seq c64 1689, r64_4, b64_rrllrrllrlr, kq_seq c64 6758, r64_5, kq_ret c64 13517, kq_skip c64 6759, r64_6, kq_exit c64 421 0, ih, reduceIte, reduceCtorEq, XE.exit.injEq, Nat.reduceEqDiff, Nat.reduceMul, Nat.reduceAdd] <;> kernel_rfl
theorem F64_lrlr_eq  : kCode env 64 false inv k (cp c64 26) (act 19 [(0, x0), (1, x1), (7, x7), (8, x8)]) h K = F64_lrlr inv k k x0 x1 x7 x8 h (fun y0 y1 y7 y8 y9 h => K (.exit 0) (act 19 [(0, y0), (1, y1), (7, y7), (8, y8), (9, y9)]) h) (fun y4 h => K .ret (act 19 [(4, y4)]) h) := kq_loop (F64_lrlr_j k)
theorem r64_7  : kCode env 64 false inv k (cp c64 14) (act 19 [(0, x0), (1, x1), (7, x7), (8, x8), (9, x9)]) h K =
    K .normal (act 19 [(4, (.int .i64 (-1)))]) h := kq_reg
theorem res64_0 : resOfFn env.P 64 .ret (act 19 [(4, x4)]) h = some (x4, h) := kq_res
/-- slices.IndexFunc[[]shadowbook/api.Agg,shadowbook/api.Agg] -/
noncomputable def F64 (inv : Inv) (k : Nat) (x0 x1 : Value) (h : AH) : Option (Value × AH) :=
    bnd (pLen Try.prog #[29] x0 h) fun x7 =>
    F64_lrlr inv k k x0 x1 x7 (.int .i64 0) h
    (fun y0 y1 y7 y8 y9 h =>
    some ((.int .i64 (-1)), h))
    (fun y4 h_1 =>
    some (y4, h_1))
theorem F64_eq : eFun env k inv 64 #[x0, x1] h = F64 inv k x0 x1 h := by
      refine (kq_fun (a := act 19 [(0, x0), (1, x1)]) (c := cp c64 1)).trans ?_
      unfold F64
      simp only [kq_seq c64 1, r64_0, kq_seq c64 3, kq_seq c64 6, r64_1, kq_block c64 13 0, F64_lrlr_eq, kq_seq c64 7, r64_7, kq_ret c64 15, res64_0, reduceIte, reduceCtorEq, XE.exit.injEq, Nat.reduceEqDiff, Nat.reduceMul, Nat.reduceAdd] <;> kernel_rfl
theorem F64_call : eInv env (k + 1) (.func 64) #[] #[x0, x1] h = F64 (eInv env k) k x0 x1 h := kq_inv F64_eq
noncomputable def c65 : Code := codeOf Try.prog 65
theorem r65_0  : kCode env 65 false inv k (cp c65 2) (act 25 [(0, x0), (1, x1)]) h K =
    bnd (pBox Try.prog 42 x0 h) fun x2 =>
    bnd (pBox Try.prog 37 x1 x2.2) fun x3 =>
    K .normal (act 25 [(2, x2.1), (3, x3.1)]) x3.2 := kq_reg
theorem r65_1  : kCode env 65 false inv k (cp c65 12) (act 25 [(2, x2), (3, x3)]) h K =
    bnd (pLoad Try.prog 37 x3 h) fun x6 =>
    bnd (inv (.func 70) #[] #[x6] h) fun x7 =>
    K .normal (act 25 [(2, x2), (3, x3), (5, x7.1)]) x7.2 := kq_reg
theorem r65_2  : kCode env 65 false inv k (cp c65 26) (act 25 [(2, x2), (3, x3), (5, x5)]) h K =
    bnd (pBin Try.prog .neq 31 (.tmp 8) (.const (.int .i64 0)) x5 (.int .i64 0)) fun x9 =>
    K .normal (act 25 [(2, x2), (3, x3), (5, x5), (9, x9)]) h := kq_reg
theorem b65_rrlr  : kCode env 65 false inv k (cp c65 27) (act 25 [(2, x2), (3, x3), (5, x5), (9, x9)]) h K = brV x9 (kCode env 65 false inv k (cp c65 54) (act 25 [(2, x2), (3, x3), (5, x5), (9, x9)]) h K) (kCode env 65 false inv k (cp c65 55) (act 25 [(2, x2), (3, x3), (5, x5), (9, x9)]) h K) := kq_cond
theorem r65_3  : kCode env 65 false inv k (cp c65 108) (act 25 [(2, x2), (3, x3), (5, x5), (9, x9)]) h K =
    K .normal (act 25 [(4, x5)]) h := kq_reg
theorem res65_0 : resOfFn env.P 65 .ret (act 25 [(4, x4)]) h = some (x4, h) := kq_res
noncomputable abbrev G65_4 {β : Type} (inv : Inv) (x2 x3 : Value) (h : AH) (K : Value → AH → Option β) : Option β :=
    bnd (pFieldAddr Try.prog 37 x3 0) fun x11 =>
    bnd (pLoad Try.prog 3 x11 h) fun x12 =>
    bnd (pFieldAddr Try.prog 42 x2 1) fun x13 =>
    bnd (pLoad Try.prog 3 x13 h) fun x14 =>
    bnd (pBin Try.prog .eql 3 (.tmp 12) (.tmp 14) x12 x14) fun x15 =>
    bnd (gd (some x15) false h (lt (pFieldAddr Try.prog 37 x3 0) h)) fun x17 =>
    bnd (gd (some x15) false x17.2 (lt (pLoad Try.prog 3 x17.1 x17.2) x17.2)) fun x18 =>
    bnd (gd (some x15) false x18.2 (lt (pBin Try.prog .eql 3 (.tmp 18) (.const (.int .i64 0)) x18.1 (.int .i64 0)) x18.2)) fun x19 =>
    bnd (gd (some x15) false x19.2 (some (x19.1, x19.2))) fun x20 =>
    bnd (gd (some x20.1) true x20.2 (lt (pFieldAddr Try.prog 42 x2 2) x20.2)) fun x21 =>
    bnd (gd (some x20.1) true x21.2 (lt (pLoad Try.prog 4 x21.1 x21.2) x21.2)) fun x22 =>
    bnd (gd (some x15) false x22.2 (lt (pickV x20.1 x22.1 (.bool false)) x22.2)) fun x23 =>
    bnd (pickV x15 (.bool true) x23.1) fun x24 =>
    K (x24) x23.2
theorem r65_4  : kCode env 65 false inv k (cp c65 28) (act 25 [(2, x2), (3, x3), (5, x5), (9, x9)]) h K =
    G65_4 inv x2 x3 h fun y24 h => K .normal (act 25 [(24, y24)]) h := kq_reg
theorem b65_rlrr  : kCode env 65 false inv k (cp c65 29) (act 25 [(24, x24)]) h K = brV x24 (kCode env 65 false inv k (cp c65 58) (act 25 [(24, x24)]) h K) (kCode env 65 false inv k (cp c65 59) (act 25 [(24, x24)]) h K) := kq_cond
theorem r65_5  : kCode env 65 false inv k (cp c65 116) (act 25 [(24, x24)]) h K =
    K .normal (act 25 [(4, (.int .i64 0))]) h := kq_reg
theorem r65_6  : kCode env 65 false inv k (cp c65 30) (act 25 [(24, x24)]) h K =
    K .normal (act 25 [(4, (.int .i64 173))]) h := kq_reg
/-- shadowbook/schema.Fits -/
noncomputable def F65 (inv : Inv) (k : Nat) (x0 x1 : Value) (h : AH) : Option (Value × AH) :=
    bnd (pBox Try.prog 42 x0 h) fun x2 =>
    bnd (pBox Try.prog 37 x1 x2.2) fun x3 =>
    bnd (pLoad Try.prog 37 x3.1 x3.2) fun x6 =>
    bnd (inv (.func 70) #[] #[x6] x3.2) fun x7 =>
    bnd (pBin Try.prog .neq 31 (.tmp 8) (.const (.int .i64 0)) x7.1 (.int .i64 0)) fun x9 =>
    brV x9
    (some (x7.1, x7.2))
    (G65_4 inv x2.1 x3.1 x7.2 fun y24 h =>
    brV y24
    (some ((.int .i64 0), h))
    (some ((.int .i64 173), h)))
theorem F65_eq : eFun env k inv 65 #[x0, x1] h = F65 inv k x0 x1 h := by
      refine (kq_fun (a := act 25 [(0, x0), (1, x1)]) (c := cp c65 1)).trans ?_
      unfold F65
      simp only [kq_seq c65 1, r65_0, kq_seq c65 3, kq_seq c65 6, r65_1, kq_seq c65 13, r65_2, b65_rrlr, kq_seq c65 54, r65_3, kq_ret c65 109, res65_0, kq_skip c65 55, kq_seq c65 7, kq_seq c65 14, r65_4, b65_rlrr, kq_seq c65 58, r65_5, kq_ret c65 117, kq_skip c65 59, kq_seq c65 15, r65_6, kq_ret c65 31, reduceIte, reduceCtorEq, XE.exit.injEq, Nat.reduceEqDiff, Nat.reduceMul, Nat.reduceAdd] <;> kernel_rfl
theorem F65_call : eInv env (k + 1) (.func 65) #[] #[x0, x1] h = F65 (eInv env k) k x0 x1 h := kq_inv F65_eq
end Go.Proofs.Ytgklcfnjahomjaa.Sh
