/- Shallow functions, part 1. Printed by a program of the prover's own from the loaded program; Lean checks it. -/
import Derived.Test.YtcidbbkefpeahaaSz0
set_option linter.unusedVariables false
set_option linter.unusedSimpArgs false
set_option maxRecDepth 100000
namespace Go.Proofs.Ytcidbbkefpeahaa.Sh
open Go Go.RowKit Go.Proofs.Ev
variable {β : Type} {inv : Inv} {k : Nat} {h : AH} {K : XE → Act → AH → Option β} {x0 x1 x2 x3 x4 x5 x6 x7 x8 x9 x10 x11 x12 x13 x14 x15 x16 x17 x18 x19 x20 x21 x22 x23 x24 x25 x26 x27 x28 x29 x30 x31 x32 x33 x34 x35 x36 x37 x38 x39 x40 x41 x42 x43 x44 x45 x46 x47 x48 x49 x50 x51 x52 x53 x54 x55 x56 x57 x58 x59 x60 x61 x62 x64 x65 x66 x67 x68 x69 x70 x71 x72 x73 x74 x75 x76 x78 x79 x80 x81 x82 x84 x85 x86 x87 x88 x89 x90 x91 x93 x94 x95 x96 x98 x99 x100 x106 x109 x110 x111 x114 x115 x116 x117 x119 x122 x124 x129 x130 x131 x132 x133 x134 x137 x138 x139 x141 x143 x144 : Value}
noncomputable def c6 : Code := codeOf Try.prog 6
theorem r6_0  : kCode env 6 false inv k (cp c6 2) (act 156 [(0, x0), (1, x1)]) h K =
    K .normal (act 156 [(0, x0), (1, x1)]) h := kq_reg
theorem r6_1  : kCode env 6 false inv k (cp c6 12) (act 156 [(0, x0), (1, x1)]) h K =
    bnd (inv (.func 8) #[] #[] h) fun x27 =>
    bnd (pUn Try.prog .not x27.1) fun x28 =>
    K .normal (act 156 [(0, x0), (1, x1), (28, x28)]) x27.2 := kq_reg
theorem b6_rlr  : kCode env 6 false inv k (cp c6 13) (act 156 [(0, x0), (1, x1), (28, x28)]) h K = brV x28 (kCode env 6 false inv k (cp c6 26) (act 156 [(0, x0), (1, x1), (28, x28)]) h K) (kCode env 6 false inv k (cp c6 27) (act 156 [(0, x0), (1, x1), (28, x28)]) h K) := kq_cond
theorem r6_2  : kCode env 6 false inv k (cp c6 52) (act 156 [(0, x0), (1, x1), (28, x28)]) h K =
    K .normal (act 156 [(4, (.bool false))]) h := kq_reg
theorem res6_0 : resOfFn env.P 6 .ret (act 156 [(4, x4)]) h = some (x4, h) := kq_res
noncomputable abbrev G6_3 {β : Type} (inv : Inv) (x0 x1 : Value) (h : AH) (K : Value → AH → Option β) : Option β :=
    bnd (pLen Try.prog #[25] x0 h) fun x30 =>
    bnd (pBin Try.prog .gtr 3 (.tmp 30) (.const (.int .i64 200)) x30 (.int .i64 200)) fun x31 =>
    bnd (gd (some x31) true h (some (x0, h))) fun x33 =>
    bnd (gd (some x31) true x33.2 (lt (pLen Try.prog #[25] x33.1 x33.2) x33.2)) fun x34 =>
    bnd (gd (some x31) true x34.2 (lt (pBin Try.prog .leq 3 (.tmp 34) (.const (.int .i64 4096)) x34.1 (.int .i64 4096)) x34.2)) fun x35 =>
    bnd (pickV x31 x35.1 (.bool false)) fun x36 =>
    bnd (gd (some x36) false x35.2 (some (x1, x35.2))) fun x38 =>
    bnd (gd (some x36) false x38.2 (lt (pLen Try.prog #[26] x38.1 x38.2) x38.2)) fun x39 =>
    bnd (gd (some x36) false x39.2 (lt (pBin Try.prog .gtr 3 (.tmp 39) (.const (.int .i64 200)) x39.1 (.int .i64 200)) x39.2)) fun x40 =>
    bnd (pickV x36 (.bool true) x40.1) fun x41 =>
    K (x41) x40.2
theorem r6_3  : kCode env 6 false inv k (cp c6 28) (act 156 [(0, x0), (1, x1), (28, x28)]) h K =
    G6_3 inv x0 x1 h fun y41 h => K .normal (act 156 [(0, x0), (1, x1), (41, y41)]) h := kq_reg
theorem b6_rlrr  : kCode env 6 false inv k (cp c6 29) (act 156 [(0, x0), (1, x1), (41, x41)]) h K = brV x41 (kCode env 6 false inv k (cp c6 58) (act 156 [(0, x0), (1, x1), (41, x41)]) h K) (kCode env 6 false inv k (cp c6 59) (act 156 [(0, x0), (1, x1), (41, x41)]) h K) := kq_cond
theorem r6_4  : kCode env 6 false inv k (cp c6 116) (act 156 [(0, x0), (1, x1), (41, x41)]) h K =
    K .normal (act 156 [(4, (.bool true))]) h := kq_reg
theorem r6_5  : kCode env 6 false inv k (cp c6 30) (act 156 [(0, x0), (1, x1), (41, x41)]) h K =
    bnd (inv (.func 13) #[] #[x0] h) fun x44 =>
    bnd (pExtract x44.1 0) fun x45 =>
    bnd (pExtract x44.1 1) fun x46 =>
    K .normal (act 156 [(0, x0), (1, x1), (5, x45), (6, x46)]) x44.2 := kq_reg
theorem r6_6  : kCode env 6 false inv k (cp c6 62) (act 156 [(0, x0), (1, x1), (5, x5), (6, x6)]) h K =
    bnd (inv (.func 18) #[] #[x0] h) fun x49 =>
    bnd (pExtract x49.1 0) fun x50 =>
    bnd (pExtract x49.1 1) fun x51 =>
    K .normal (act 156 [(0, x0), (1, x1), (5, x5), (6, x6), (7, x50), (8, x51)]) x49.2 := kq_reg
theorem r6_7  : kCode env 6 false inv k (cp c6 126) (act 156 [(0, x0), (1, x1), (5, x5), (6, x6), (7, x7), (8, x8)]) h K =
    bnd (inv (.func 14) #[] #[x0] h) fun x54 =>
    bnd (pExtract x54.1 0) fun x55 =>
    bnd (pExtract x54.1 1) fun x56 =>
    K .normal (act 156 [(0, x0), (1, x1), (5, x5), (6, x6), (7, x7), (8, x8), (9, x55), (10, x56)]) x54.2 := kq_reg
theorem r6_8  : kCode env 6 false inv k (cp c6 254) (act 156 [(0, x0), (1, x1), (5, x5), (6, x6), (7, x7), (8, x8), (9, x9), (10, x10)]) h K =
    bnd (inv (.func 19) #[] #[x0] h) fun x59 =>
    bnd (pExtract x59.1 0) fun x60 =>
    bnd (pExtract x59.1 1) fun x61 =>
    K .normal (act 156 [(0, x0), (1, x1), (5, x5), (6, x6), (7, x7), (8, x8), (9, x9), (10, x10), (11, x60), (12, x61)]) x59.2 := kq_reg
theorem r6_9  : kCode env 6 false inv k (cp c6 510) (act 156 [(0, x0), (1, x1), (5, x5), (6, x6), (7, x7), (8, x8), (9, x9), (10, x10), (11, x11), (12, x12)]) h K =
    bnd (inv (.func 11) #[] #[x0] h) fun x64 =>
    bnd (pExtract x64.1 0) fun x65 =>
    bnd (pExtract x64.1 1) fun x66 =>
    K .normal (act 156 [(0, x0), (1, x1), (5, x5), (6, x6), (7, x7), (8, x8), (9, x9), (10, x10), (11, x11), (12, x12), (13, x65), (14, x66)]) x64.2 := kq_reg
theorem r6_10  : kCode env 6 false inv k (cp c6 1022) (act 156 [(0, x0), (1, x1), (5, x5), (6, x6), (7, x7), (8, x8), (9, x9), (10, x10), (11, x11), (12, x12), (13, x13), (14, x14)]) h K =
    bnd (inv (.func 20) #[] #[x0] h) fun x69 =>
    bnd (pExtract x69.1 0) fun x70 =>
    bnd (pExtract x69.1 1) fun x71 =>
    K .normal (act 156 [(0, x0), (1, x1), (5, x5), (6, x6), (7, x7), (8, x8), (9, x9), (10, x10), (11, x11), (12, x12), (13, x13), (14, x14), (15, x70), (16, x71)]) x69.2 := kq_reg
theorem r6_11  : kCode env 6 false inv k (cp c6 2046) (act 156 [(0, x0), (1, x1), (5, x5), (6, x6), (7, x7), (8, x8), (9, x9), (10, x10), (11, x11), (12, x12), (13, x13), (14, x14), (15, x15), (16, x16)]) h K =
    bnd (inv (.func 10) #[] #[x0] h) fun x74 =>
    bnd (pExtract x74.1 0) fun x75 =>
    bnd (pExtract x74.1 1) fun x76 =>
    K .normal (act 156 [(0, x0), (1, x1), (5, x5), (6, x6), (7, x7), (8, x8), (9, x9), (10, x10), (11, x11), (12, x12), (13, x13), (14, x14), (15, x15), (16, x16), (17, x75), (18, x76)]) x74.2 := kq_reg
theorem r6_12  : kCode env 6 false inv k (cp c6 4094) (act 156 [(0, x0), (1, x1), (5, x5), (6, x6), (7, x7), (8, x8), (9, x9), (10, x10), (11, x11), (12, x12), (13, x13), (14, x14), (15, x15), (16, x16), (17, x17), (18, x18)]) h K =
    bnd (inv (.func 21) #[] #[x0] h) fun x79 =>
    bnd (pExtract x79.1 0) fun x80 =>
    bnd (pExtract x79.1 1) fun x81 =>
    K .normal (act 156 [(1, x1), (5, x5), (6, x6), (7, x7), (8, x8), (9, x9), (10, x10), (11, x11), (12, x12), (13, x13), (14, x14), (15, x15), (16, x16), (17, x17), (18, x18), (19, x80), (20, x81)]) x79.2 := kq_reg
theorem r6_13  : kCode env 6 false inv k (cp c6 8190) (act 156 [(1, x1), (5, x5), (6, x6), (7, x7), (8, x8), (9, x9), (10, x10), (11, x11), (12, x12), (13, x13), (14, x14), (15, x15), (16, x16), (17, x17), (18, x18), (19, x19), (20, x20)]) h K =
    bnd (inv (.func 15) #[] #[x1] h) fun x84 =>
    bnd (pExtract x84.1 0) fun x85 =>
    bnd (pExtract x84.1 1) fun x86 =>
    K .normal (act 156 [(1, x1), (5, x5), (6, x6), (7, x7), (8, x8), (9, x9), (10, x10), (11, x11), (12, x12), (13, x13), (14, x14), (15, x15), (16, x16), (17, x17), (18, x18), (19, x19), (20, x20), (21, x85), (22, x86)]) x84.2 := kq_reg
theorem r6_14  : kCode env 6 false inv k (cp c6 16382) (act 156 [(1, x1), (5, x5), (6, x6), (7, x7), (8, x8), (9, x9), (10, x10), (11, x11), (12, x12), (13, x13), (14, x14), (15, x15), (16, x16), (17, x17), (18, x18), (19, x19), (20, x20), (21, x21), (22, x22)]) h K =
    bnd (inv (.func 22) #[] #[x1] h) fun x89 =>
    bnd (pExtract x89.1 0) fun x90 =>
    bnd (pExtract x89.1 1) fun x91 =>
    K .normal (act 156 [(1, x1), (5, x5), (6, x6), (7, x7), (8, x8), (9, x9), (10, x10), (11, x11), (12, x12), (13, x13), (14, x14), (15, x15), (16, x16), (17, x17), (18, x18), (19, x19), (20, x20), (21, x21), (22, x22), (23, x90), (24, x91)]) x89.2 := kq_reg
theorem r6_15  : kCode env 6 false inv k (cp c6 32766) (act 156 [(1, x1), (5, x5), (6, x6), (7, x7), (8, x8), (9, x9), (10, x10), (11, x11), (12, x12), (13, x13), (14, x14), (15, x15), (16, x16), (17, x17), (18, x18), (19, x19), (20, x20), (21, x21), (22, x22), (23, x23), (24, x24)]) h K =
    bnd (inv (.func 16) #[] #[x1] h) fun x94 =>
    bnd (pExtract x94.1 0) fun x95 =>
    bnd (pExtract x94.1 1) fun x96 =>
    K .normal (act 156 [(5, x5), (6, x6), (7, x7), (8, x8), (9, x9), (10, x10), (11, x11), (12, x12), (13, x13), (14, x14), (15, x15), (16, x16), (17, x17), (18, x18), (19, x19), (20, x20), (21, x21), (22, x22), (23, x23), (24, x24), (25, x95), (26, x96)]) x94.2 := kq_reg
noncomputable abbrev G6_16 {β : Type} (inv : Inv) (x5 x6 x7 x8 x9 x10 x11 x12 x13 x14 x15 x16 x17 x18 x19 x20 x21 x22 x23 x24 x25 x26 : Value) (h : AH) (K : Value → AH → Option β) : Option β :=
    bnd (inv (.func 23) #[] #[x5, x7] h) fun x99 =>
    bnd (gd (some x99.1) true x99.2 (some (x6, x99.2))) fun x101 =>
    bnd (gd (some x99.1) true x101.2 (some (x8, x101.2))) fun x102 =>
    bnd (gd (some x99.1) true x102.2 (lt (pBin Try.prog .eql 27 (.tmp 101) (.tmp 102) x101.1 x102.1) x102.2)) fun x103 =>
    bnd (pickV x99.1 x103.1 (.bool false)) fun x104 =>
    bnd (gd (some x104) true x103.2 (some (x9, x103.2))) fun x106 =>
    bnd (gd (some x104) true x106.2 (some (x11, x106.2))) fun x107 =>
    bnd (gd (some x104) true x107.2 (inv (.func 23) #[] #[x106.1, x107.1] x107.2)) fun x108 =>
    bnd (pickV x104 x108.1 (.bool false)) fun x109 =>
    bnd (gd (some x109) true x108.2 (some (x10, x108.2))) fun x111 =>
    bnd (gd (some x109) true x111.2 (some (x12, x111.2))) fun x112 =>
    bnd (gd (some x109) true x112.2 (lt (pBin Try.prog .eql 27 (.tmp 111) (.tmp 112) x111.1 x112.1) x112.2)) fun x113 =>
    bnd (pickV x109 x113.1 (.bool false)) fun x114 =>
    bnd (gd (some x114) true x113.2 (some (x13, x113.2))) fun x116 =>
    bnd (gd (some x114) true x116.2 (some (x15, x116.2))) fun x117 =>
    bnd (gd (some x114) true x117.2 (inv (.func 23) #[] #[x116.1, x117.1] x117.2)) fun x118 =>
    bnd (pickV x114 x118.1 (.bool false)) fun x119 =>
    bnd (gd (some x119) true x118.2 (some (x14, x118.2))) fun x121 =>
    bnd (gd (some x119) true x121.2 (some (x16, x121.2))) fun x122 =>
    bnd (gd (some x119) true x122.2 (lt (pBin Try.prog .eql 27 (.tmp 121) (.tmp 122) x121.1 x122.1) x122.2)) fun x123 =>
    bnd (pickV x119 x123.1 (.bool false)) fun x124 =>
    bnd (gd (some x124) true x123.2 (some (x17, x123.2))) fun x126 =>
    bnd (gd (some x124) true x126.2 (some (x19, x126.2))) fun x127 =>
    bnd (gd (some x124) true x127.2 (inv (.func 23) #[] #[x126.1, x127.1] x127.2)) fun x128 =>
    bnd (pickV x124 x128.1 (.bool false)) fun x129 =>
    bnd (gd (some x129) true x128.2 (some (x18, x128.2))) fun x131 =>
    bnd (gd (some x129) true x131.2 (some (x20, x131.2))) fun x132 =>
    bnd (gd (some x129) true x132.2 (lt (pBin Try.prog .eql 27 (.tmp 131) (.tmp 132) x131.1 x132.1) x132.2)) fun x133 =>
    bnd (pickV x129 x133.1 (.bool false)) fun x134 =>
    bnd (gd (some x134) true x133.2 (some (x21, x133.2))) fun x136 =>
    bnd (gd (some x134) true x136.2 (some (x23, x136.2))) fun x137 =>
    bnd (gd (some x134) true x137.2 (inv (.func 17) #[] #[x136.1, x137.1] x137.2)) fun x138 =>
    bnd (pickV x134 x138.1 (.bool false)) fun x139 =>
    bnd (gd (some x139) true x138.2 (some (x22, x138.2))) fun x141 =>
    bnd (gd (some x139) true x141.2 (some (x24, x141.2))) fun x142 =>
    bnd (gd (some x139) true x142.2 (lt (pBin Try.prog .eql 27 (.tmp 141) (.tmp 142) x141.1 x142.1) x142.2)) fun x143 =>
    bnd (pickV x139 x143.1 (.bool false)) fun x144 =>
    bnd (gd (some x144) true x143.2 (some (x25, x143.2))) fun x146 =>
    bnd (gd (some x144) true x146.2 (some (x23, x146.2))) fun x147 =>
    bnd (gd (some x144) true x147.2 (lt (pLen Try.prog #[25] x147.1 x147.2) x147.2)) fun x148 =>
    bnd (gd (some x144) true x148.2 (lt (pBin Try.prog .eql 3 (.tmp 146) (.tmp 148) x146.1 x148.1) x148.2)) fun x149 =>
    bnd (pickV x144 x149.1 (.bool false)) fun x150 =>
    bnd (gd (some x150) true x149.2 (some (x26, x149.2))) fun x152 =>
    bnd (gd (some x150) true x152.2 (some (x24, x152.2))) fun x153 =>
    bnd (gd (some x150) true x153.2 (lt (pBin Try.prog .eql 27 (.tmp 152) (.tmp 153) x152.1 x153.1) x153.2)) fun x154 =>
    bnd (pickV x150 x154.1 (.bool false)) fun x155 =>
    K (x155) x154.2
theorem r6_16  : kCode env 6 false inv k (cp c6 65534) (act 156 [(5, x5), (6, x6), (7, x7), (8, x8), (9, x9), (10, x10), (11, x11), (12, x12), (13, x13), (14, x14), (15, x15), (16, x16), (17, x17), (18, x18), (19, x19), (20, x20), (21, x21), (22, x22), (23, x23), (24, x24), (25, x25), (26, x26)]) h K =
    G6_16 inv x5 x6 x7 x8 x9 x10 x11 x12 x13 x14 x15 x16 x17 x18 x19 x20 x21 x22 x23 x24 x25 x26 h fun y4 h => K .normal (act 156 [(4, y4)]) h := kq_reg
/-- shadowbook/shadowbooklaw06.IntsCalls -/
noncomputable def F6 (inv : Inv) (k : Nat) (x0 x1 : Value) (h : AH) : Option (Value × AH) :=
    bnd (inv (.func 8) #[] #[] h) fun x27 =>
    bnd (pUn Try.prog .not x27.1) fun x28 =>
    brV x28
    (some ((.bool false), x27.2))
    (G6_3 inv x0 x1 x27.2 fun y41 h =>
    brV y41
    (some ((.bool true), h))
    (bnd (inv (.func 13) #[] #[x0] h) fun x44 =>
    bnd (pExtract x44.1 0) fun x45 =>
    bnd (pExtract x44.1 1) fun x46 =>
    bnd (inv (.func 18) #[] #[x0] x44.2) fun x49 =>
    bnd (pExtract x49.1 0) fun x50 =>
    bnd (pExtract x49.1 1) fun x51 =>
    bnd (inv (.func 14) #[] #[x0] x49.2) fun x54 =>
    bnd (pExtract x54.1 0) fun x55 =>
    bnd (pExtract x54.1 1) fun x56 =>
    bnd (inv (.func 19) #[] #[x0] x54.2) fun x59 =>
    bnd (pExtract x59.1 0) fun x60 =>
    bnd (pExtract x59.1 1) fun x61 =>
    bnd (inv (.func 11) #[] #[x0] x59.2) fun x64 =>
    bnd (pExtract x64.1 0) fun x65 =>
    bnd (pExtract x64.1 1) fun x66 =>
    bnd (inv (.func 20) #[] #[x0] x64.2) fun x69 =>
    bnd (pExtract x69.1 0) fun x70 =>
    bnd (pExtract x69.1 1) fun x71 =>
    bnd (inv (.func 10) #[] #[x0] x69.2) fun x74 =>
    bnd (pExtract x74.1 0) fun x75 =>
    bnd (pExtract x74.1 1) fun x76 =>
    bnd (inv (.func 21) #[] #[x0] x74.2) fun x79 =>
    bnd (pExtract x79.1 0) fun x80 =>
    bnd (pExtract x79.1 1) fun x81 =>
    bnd (inv (.func 15) #[] #[x1] x79.2) fun x84 =>
    bnd (pExtract x84.1 0) fun x85 =>
    bnd (pExtract x84.1 1) fun x86 =>
    bnd (inv (.func 22) #[] #[x1] x84.2) fun x89 =>
    bnd (pExtract x89.1 0) fun x90 =>
    bnd (pExtract x89.1 1) fun x91 =>
    bnd (inv (.func 16) #[] #[x1] x89.2) fun x94 =>
    bnd (pExtract x94.1 0) fun x95 =>
    bnd (pExtract x94.1 1) fun x96 =>
    G6_16 inv x45 x46 x50 x51 x55 x56 x60 x61 x65 x66 x70 x71 x75 x76 x80 x81 x85 x86 x90 x91 x95 x96 x94.2 fun y4 h_1 =>
    some (y4, h_1)))
theorem F6_eq : eFun env k inv 6 #[x0, x1] h = F6 inv k x0 x1 h := by
      refine (kq_fun (a := act 156 [(0, x0), (1, x1)]) (c := cp c6 1)).trans ?_
      unfold F6
      simp only [kq_seq c6 1, r6_0, kq_seq c6 3, kq_seq c6 6, r6_1, b6_rlr, kq_seq c6 26, r6_2, kq_ret c6 53, res6_0, kq_skip c6 27, kq_seq c6 7, kq_seq c6 14, r6_3, b6_rlrr, kq_seq c6 58, r6_4, kq_ret c6 117, kq_skip c6 59, kq_seq c6 15, r6_5, kq_seq c6 31, r6_6, kq_seq c6 63, r6_7, kq_seq c6 127, r6_8, kq_seq c6 255, r6_9, kq_seq c6 511, r6_10, kq_seq c6 1023, r6_11, kq_seq c6 2047, r6_12, kq_seq c6 4095, r6_13, kq_seq c6 8191, r6_14, kq_seq c6 16383, r6_15, kq_seq c6 32767, r6_16, kq_ret c6 65535, reduceIte, reduceCtorEq, XE.exit.injEq, Nat.reduceEqDiff, Nat.reduceMul, Nat.reduceAdd] <;> kernel_rfl
theorem F6_call : eInv env (k + 1) (.func 6) #[] #[x0, x1] h = F6 (eInv env k) k x0 x1 h := kq_inv F6_eq
noncomputable def c8 : Code := codeOf Try.prog 8
theorem r8_0  : kCode env 8 false inv k (cp c8 2) (act 31 []) h K =
    K .normal (act 31 []) h := kq_reg
theorem r8_1  : kCode env 8 false inv k (cp c8 6) (act 31 []) h K =
    bnd (pBuildSlice Try.prog 25 4 #[(0, (.int .i64 7)), (1, (.int .i64 7)), (2, (.int .i64 7)), (3, (.int .i64 7))] h) fun x6 =>
    bnd (inv (.func 10) #[] #[x6.1] x6.2) fun x7 =>
    bnd (pExtract x7.1 0) fun x8 =>
    bnd (pExtract x7.1 1) fun x9 =>
    K .normal (act 31 [(1, x8), (2, x9)]) x7.2 := kq_reg
theorem r8_2  : kCode env 8 false inv k (cp c8 14) (act 31 [(1, x1), (2, x2)]) h K =
    bnd (pBuildSlice Try.prog 25 2 #[(0, (.int .i64 5)), (1, (.int .i64 6))] h) fun x11 =>
    bnd (inv (.func 10) #[] #[x11.1] x11.2) fun x12 =>
    bnd (pExtract x12.1 0) fun x13 =>
    bnd (pExtract x12.1 1) fun x14 =>
    K .normal (act 31 [(1, x1), (2, x2), (3, x13), (4, x14)]) x12.2 := kq_reg
noncomputable abbrev G8_3 {β : Type} (inv : Inv) (x1 x2 x3 x4 : Value) (h : AH) (K : Value → AH → Option β) : Option β :=
    bnd (pBin Try.prog .eql 27 (.tmp 15) (.const (.int .i64 0)) x2 (.int .i64 0)) fun x16 =>
    bnd (gd (some x16) true h (some (x1, h))) fun x18 =>
    bnd (gd (some x16) true x18.2 (lt (pConv Try.prog 26 9 x18.1 x18.2) x18.2)) fun x19 =>
    bnd (gd (some x16) true x19.2 (lt (pBin Try.prog .eql 9 (.tmp 19) (.const (.string { data := #[2, 4, 4, 7, 0, 0, 0, 0, 0, 0, 0] })) x19.1 (.string { data := #[2, 4, 4, 7, 0, 0, 0, 0, 0, 0, 0] })) x19.2)) fun x20 =>
    bnd (pickV x16 x20.1 (.bool false)) fun x21 =>
    bnd (gd (some x21) true x20.2 (some (x4, x20.2))) fun x23 =>
    bnd (gd (some x21) true x23.2 (lt (pBin Try.prog .eql 27 (.tmp 23) (.const (.int .i64 0)) x23.1 (.int .i64 0)) x23.2)) fun x24 =>
    bnd (pickV x21 x24.1 (.bool false)) fun x25 =>
    bnd (gd (some x25) true x24.2 (some (x3, x24.2))) fun x27 =>
    bnd (gd (some x25) true x27.2 (lt (pConv Try.prog 26 9 x27.1 x27.2) x27.2)) fun x28 =>
    bnd (gd (some x25) true x28.2 (lt (pBin Try.prog .eql 9 (.tmp 28) (.const (.string { data := #[3, 2, 5, 0, 0, 0, 0, 0, 0, 0, 1, 2] })) x28.1 (.string { data := #[3, 2, 5, 0, 0, 0, 0, 0, 0, 0, 1, 2] })) x28.2)) fun x29 =>
    bnd (pickV x25 x29.1 (.bool false)) fun x30 =>
    K (x30) x29.2
theorem r8_3  : kCode env 8 false inv k (cp c8 30) (act 31 [(1, x1), (2, x2), (3, x3), (4, x4)]) h K =
    G8_3 inv x1 x2 x3 x4 h fun y0 h => K .normal (act 31 [(0, y0)]) h := kq_reg
theorem res8_0 : resOfFn env.P 8 .ret (act 31 [(0, x0)]) h = some (x0, h) := kq_res
/-- shadowbook/shadowbooklaw06.lives -/
noncomputable def F8 (inv : Inv) (k : Nat) (h : AH) : Option (Value × AH) :=
    bnd (pBuildSlice Try.prog 25 4 #[(0, (.int .i64 7)), (1, (.int .i64 7)), (2, (.int .i64 7)), (3, (.int .i64 7))] h) fun x6 =>
    bnd (inv (.func 10) #[] #[x6.1] x6.2) fun x7 =>
    bnd (pExtract x7.1 0) fun x8 =>
    bnd (pExtract x7.1 1) fun x9 =>
    bnd (pBuildSlice Try.prog 25 2 #[(0, (.int .i64 5)), (1, (.int .i64 6))] x7.2) fun x11 =>
    bnd (inv (.func 10) #[] #[x11.1] x11.2) fun x12 =>
    bnd (pExtract x12.1 0) fun x13 =>
    bnd (pExtract x12.1 1) fun x14 =>
    G8_3 inv x8 x9 x13 x14 x12.2 fun y0 h =>
    some (y0, h)
theorem F8_eq : eFun env k inv 8 #[] h = F8 inv k  h := by
      refine (kq_fun (a := act 31 []) (c := cp c8 1)).trans ?_
      unfold F8
      simp only [kq_seq c8 1, r8_0, kq_seq c8 3, r8_1, kq_seq c8 7, r8_2, kq_seq c8 15, r8_3, kq_ret c8 31, res8_0, reduceIte, reduceCtorEq, XE.exit.injEq, Nat.reduceEqDiff, Nat.reduceMul, Nat.reduceAdd] <;> kernel_rfl
theorem F8_call : eInv env (k + 1) (.func 8) #[] #[] h = F8 (eInv env k) k  h := kq_inv F8_eq
noncomputable def c10 : Code := codeOf Try.prog 10
theorem r10_0  : kCode env 10 false inv k (cp c10 2) (act 32 [(0, x0)]) h K =
    K .normal (act 32 [(0, x0)]) h := kq_reg
theorem r10_1  : kCode env 10 false inv k (cp c10 6) (act 32 [(0, x0)]) h K =
    K .normal (act 32 [(0, x0), (4, (.slice none 0 0))]) h := kq_reg
theorem r10_2  : kCode env 10 false inv k (cp c10 28) (act 32 [(0, x0), (4, x4)]) h K =
    bnd (inv (.func 24) #[] #[] h) fun x9 =>
    bnd (pLen Try.prog #[42] x9.1 x9.2) fun x10 =>
    K .normal (act 32 [(0, x0), (4, x4), (9, x9.1), (10, x10), (11, (.int .i64 0))]) x9.2 := kq_reg
theorem r10_3  : kCode env 10 false inv k (cp c10 232) (act 32 [(0, x0), (4, x4), (9, x9), (10, x10), (11, x11)]) h K =
    bnd (pBin Try.prog .lss 3 (.tmp 11) (.tmp 10) x11 x10) fun x12 =>
    K .normal (act 32 [(0, x0), (4, x4), (9, x9), (10, x10), (11, x11), (12, x12)]) h := kq_reg
theorem b10_lrllrlrr  : kCode env 10 false inv k (cp c10 466) (act 32 [(0, x0), (4, x4), (9, x9), (10, x10), (11, x11), (12, x12)]) h K = brV x12 (kCode env 10 false inv k (cp c10 932) (act 32 [(0, x0), (4, x4), (9, x9), (10, x10), (11, x11), (12, x12)]) h K) (kCode env 10 false inv k (cp c10 933) (act 32 [(0, x0), (4, x4), (9, x9), (10, x10), (11, x11), (12, x12)]) h K) := kq_cond
theorem r10_4  : kCode env 10 false inv k (cp c10 3736) (act 32 [(0, x0), (4, x4), (9, x9), (10, x10), (11, x11), (12, x12)]) h K =
    bnd (pIndexAddr Try.prog 42 x9 x11) fun x13 =>
    bnd (pLoad Try.prog 46 x13 h) fun x14 =>
    bnd (pAlloc Try.prog 46 h) fun x6 =>
    bnd (kSt (pStore Try.prog 46 x6.1 x14 x6.2)) fun u =>
    K .normal (act 32 [(0, x0), (4, x4), (6, x6.1), (9, x9), (10, x10), (11, x11)]) u.2 := kq_reg
theorem r10_5  : kCode env 10 false inv k (cp c10 7474) (act 32 [(0, x0), (4, x4), (6, x6), (9, x9), (10, x10), (11, x11)]) h K =
    bnd (pFieldAddr Try.prog 46 x6 1) fun x16 =>
    bnd (pLoad Try.prog 29 x16 h) fun x17 =>
    bnd (callV inv x17 #[x0] h) fun x19 =>
    bnd (pExtract x19.1 0) fun x20 =>
    bnd (pExtract x19.1 1) fun x21 =>
    K .normal (act 32 [(0, x0), (4, x4), (7, x20), (8, x21), (9, x9), (10, x10), (11, x11)]) x19.2 := kq_reg
theorem r10_6  : kCode env 10 false inv k (cp c10 29900) (act 32 [(0, x0), (4, x4), (7, x7), (8, x8), (9, x9), (10, x10), (11, x11)]) h K =
    bnd (pBin Try.prog .neq 27 (.tmp 22) (.const (.int .i64 0)) x8 (.int .i64 0)) fun x23 =>
    K .normal (act 32 [(0, x0), (4, x4), (7, x7), (8, x8), (9, x9), (10, x10), (11, x11), (23, x23)]) h := kq_reg
theorem b10_rlrrllrrllrlrr  : kCode env 10 false inv k (cp c10 29901) (act 32 [(0, x0), (4, x4), (7, x7), (8, x8), (9, x9), (10, x10), (11, x11), (23, x23)]) h K = brV x23 (kCode env 10 false inv k (cp c10 59802) (act 32 [(0, x0), (4, x4), (7, x7), (8, x8), (9, x9), (10, x10), (11, x11), (23, x23)]) h K) (kCode env 10 false inv k (cp c10 59803) (act 32 [(0, x0), (4, x4), (7, x7), (8, x8), (9, x9), (10, x10), (11, x11), (23, x23)]) h K) := kq_cond
theorem r10_7  : kCode env 10 false inv k (cp c10 119604) (act 32 [(0, x0), (4, x4), (7, x7), (8, x8), (9, x9), (10, x10), (11, x11), (23, x23)]) h K =
    K .normal (act 32 [(2, (.slice none 0 0)), (3, x8)]) h := kq_reg
theorem r10_8  : kCode env 10 false inv k (cp c10 14951) (act 32 [(0, x0), (4, x4), (7, x7), (8, x8), (9, x9), (10, x10), (11, x11), (23, x23)]) h K =
    bnd (pBuildSlice Try.prog 41 1 #[(0, x7)] h) fun x27 =>
    bnd (pAppend Try.prog #[41, 41] x4 x27.1 x27.2) fun x28 =>
    K .normal (act 32 [(0, x0), (4, x28.1), (9, x9), (10, x10), (11, x11)]) x28.2 := kq_reg
theorem r10_9  : kCode env 10 false inv k (cp c10 935) (act 32 [(0, x0), (4, x4), (9, x9), (10, x10), (11, x11)]) h K =
    bnd (pBin Try.prog .add 3 (.tmp 11) (.const (.int .i64 1)) x11 (.int .i64 1)) fun x29 =>
    K .normal (act 32 [(0, x0), (4, x4), (9, x9), (10, x10), (11, x29)]) h := kq_reg
noncomputable def F10_lrlrr {β : Type} (inv : Inv) (k : Nat) : Nat → Value → Value → Value → Value → Value → AH → (Value → Value → Value → Value → Value → Value → AH → Option β) → (Value → Value → AH → Option β) → Option β
  | 0, _, _, _, _, _, _, _, _ => none
  | j + 1, x0, x4, x9, x10, x11, h, ke0, kr =>
    bnd (pBin Try.prog .lss 3 (.tmp 11) (.tmp 10) x11 x10) fun x12 =>
    brV x12
    (bnd (pIndexAddr Try.prog 42 x9 x11) fun x13 =>
    bnd (pLoad Try.prog 46 x13 h) fun x14 =>
    bnd (pAlloc Try.prog 46 h) fun x6 =>
    bnd (kSt (pStore Try.prog 46 x6.1 x14 x6.2)) fun u =>
    bnd (pFieldAddr Try.prog 46 x6.1 1) fun x16 =>
    bnd (pLoad Try.prog 29 x16 u.2) fun x17 =>
    bnd (callV inv x17 #[x0] u.2) fun x19 =>
    bnd (pExtract x19.1 0) fun x20 =>
    bnd (pExtract x19.1 1) fun x21 =>
    bnd (pBin Try.prog .neq 27 (.tmp 22) (.const (.int .i64 0)) x21 (.int .i64 0)) fun x23 =>
    brV x23
    (kr (.slice none 0 0) x21 x19.2)
    (bnd (pBuildSlice Try.prog 41 1 #[(0, x20)] x19.2) fun x27 =>
    bnd (pAppend Try.prog #[41, 41] x4 x27.1 x27.2) fun x28 =>
    bnd (pBin Try.prog .add 3 (.tmp 11) (.const (.int .i64 1)) x11 (.int .i64 1)) fun x29 =>
    F10_lrlrr inv k j x0 x28.1 x9 x10 x29 x28.2 ke0 kr))
    (ke0 x0 x4 x9 x10 x11 x12 h)
theorem F10_lrlrr_j (j : Nat) : kLoop (kCode env 10 false inv k (cp c10 116)) j (act 32 [(0, x0), (4, x4), (9, x9), (10, x10), (11, x11)]) h K = F10_lrlrr inv k j x0 x4 x9 x10 x11 h (fun y0 y4 y9 y10 y11 y12 h => K (.exit 0) (act 32 [(0, y0), (4, y4), (9, y9), (10, y10), (11, y11), (12, y12)]) h) (fun y2 y3 h => K .ret (act 32 [(2, y2), (3, y3)]) h) := by
      induction j generalizing x0 x4 x9 x10 x11 h with
      | zero => rfl
      | succ j ih =>
        unfold F10_lrlrr
        simp only [kLoop, kq_seq c10 116, r10_3, kq_seq c10 233, b10_lrllrlrr, kq_skip c10 932, kq_seq c10 467, kq_block c10 934 1, kq_seq c10 1868, r10_4, kq_seq c10 3737, r10_5, kq_seq c10 7475, kq_seq c10 14950, r10_6, b10_rlrrllrrllrlrr, kq_seq c10 59802, r10_7, kq_ret c10 119605, kq_skip c10 59803, r10_8, r10_9, kq_exit c10 933 0, ih, reduceIte, reduceCtorEq, XE.exit.injEq, Nat.reduceEqDiff, Nat.reduceMul, Nat.reduceAdd] <;> kernel_rfl
theorem F10_lrlrr_eq  : kCode env 10 false inv k (cp c10 58) (act 32 [(0, x0), (4, x4), (9, x9), (10, x10), (11, x11)]) h K = F10_lrlrr inv k k x0 x4 x9 x10 x11 h (fun y0 y4 y9 y10 y11 y12 h => K (.exit 0) (act 32 [(0, y0), (4, y4), (9, y9), (10, y10), (11, y11), (12, y12)]) h) (fun y2 y3 h => K .ret (act 32 [(2, y2), (3, y3)]) h) := kq_loop (F10_lrlrr_j k)
theorem r10_10  : kCode env 10 false inv k (cp c10 30) (act 32 [(0, x0), (4, x4), (9, x9), (10, x10), (11, x11), (12, x12)]) h K =
    bnd (inv (.func 25) #[] #[x4, (.func (.func 26) #[] #[])] h) fun x31 =>
    K .normal (act 32 [(2, x31.1), (3, (.int .i64 0))]) x31.2 := kq_reg
theorem res10_0 : resOfFn env.P 10 .ret (act 32 [(2, x2), (3, x3)]) h = some (.tuple #[x2, x3], h) := kq_res
/-- shadowbook/ints.Put -/
noncomputable def F10 (inv : Inv) (k : Nat) (x0 : Value) (h : AH) : Option (Value × AH) :=
    bnd (inv (.func 24) #[] #[] h) fun x9 =>
    bnd (pLen Try.prog #[42] x9.1 x9.2) fun x10 =>
    F10_lrlrr inv k k x0 (.slice none 0 0) x9.1 x10 (.int .i64 0) x9.2
    (fun y0 y4 y9 y10 y11 y12 h =>
    bnd (inv (.func 25) #[] #[y4, (.func (.func 26) #[] #[])] h) fun x31 =>
    some (.tuple #[x31.1, (.int .i64 0)], x31.2))
    (fun y2 y3 h_1 =>
    some (.tuple #[y2, y3], h_1))
theorem F10_eq : eFun env k inv 10 #[x0] h = F10 inv k x0 h := by
      refine (kq_fun (a := act 32 [(0, x0)]) (c := cp c10 1)).trans ?_
      unfold F10
      simp only [kq_seq c10 1, r10_0, kq_seq c10 3, r10_1, kq_seq c10 7, kq_seq c10 14, r10_2, kq_block c10 29 0, F10_lrlrr_eq, kq_seq c10 15, r10_10, kq_ret c10 31, res10_0, reduceIte, reduceCtorEq, XE.exit.injEq, Nat.reduceEqDiff, Nat.reduceMul, Nat.reduceAdd] <;> kernel_rfl
theorem F10_call : eInv env (k + 1) (.func 10) #[] #[x0] h = F10 (eInv env k) k x0 h := kq_inv F10_eq
noncomputable def c11 : Code := codeOf Try.prog 11
theorem r11_0  : kCode env 11 false inv k (cp c11 2) (act 59 [(0, x0)]) h K =
    K .normal (act 59 [(0, x0)]) h := kq_reg
theorem r11_1  : kCode env 11 false inv k (cp c11 12) (act 59 [(0, x0)]) h K =
    bnd (pLen Try.prog #[25] x0 h) fun x13 =>
    bnd (pBin Try.prog .gtr 3 (.tmp 13) (.const (.int .i64 4096)) x13 (.int .i64 4096)) fun x14 =>
    K .normal (act 59 [(0, x0), (14, x14)]) h := kq_reg
theorem b11_rlr  : kCode env 11 false inv k (cp c11 13) (act 59 [(0, x0), (14, x14)]) h K = brV x14 (kCode env 11 false inv k (cp c11 26) (act 59 [(0, x0), (14, x14)]) h K) (kCode env 11 false inv k (cp c11 27) (act 59 [(0, x0), (14, x14)]) h K) := kq_cond
theorem r11_2  : kCode env 11 false inv k (cp c11 52) (act 59 [(0, x0), (14, x14)]) h K =
    K .normal (act 59 [(2, (.slice none 0 0)), (3, (.int .i64 3))]) h := kq_reg
theorem res11_0 : resOfFn env.P 11 .ret (act 59 [(2, x2), (3, x3)]) h = some (.tuple #[x2, x3], h) := kq_res
theorem r11_3  : kCode env 11 false inv k (cp c11 14) (act 59 [(0, x0), (14, x14)]) h K =
    K .normal (act 59 [(0, x0), (4, (.int .i64 0))]) h := kq_reg
theorem r11_4  : kCode env 11 false inv k (cp c11 60) (act 59 [(0, x0), (4, x4)]) h K =
    bnd (pLen Try.prog #[25] x0 h) fun x16 =>
    bnd (pBin Try.prog .gtr 3 (.tmp 16) (.const (.int .i64 0)) x16 (.int .i64 0)) fun x17 =>
    K .normal (act 59 [(0, x0), (4, x4), (17, x17)]) h := kq_reg
theorem b11_rlrrr  : kCode env 11 false inv k (cp c11 61) (act 59 [(0, x0), (4, x4), (17, x17)]) h K = brV x17 (kCode env 11 false inv k (cp c11 122) (act 59 [(0, x0), (4, x4), (17, x17)]) h K) (kCode env 11 false inv k (cp c11 123) (act 59 [(0, x0), (4, x4), (17, x17)]) h K) := kq_cond
theorem r11_5  : kCode env 11 false inv k (cp c11 122) (act 59 [(0, x0), (4, x4), (17, x17)]) h K =
    bnd (inv (.func 28) #[] #[x0] h) fun x19 =>
    K .normal (act 59 [(0, x0), (4, x19.1)]) x19.2 := kq_reg
noncomputable def F11_rlrrr {β : Type} (inv : Inv) (k : Nat) (x0 x4 x17 : Value) (h : AH) (kn : (Value → Value → Value → AH → Option β)) : Option β :=
    brV x17
    (bnd (inv (.func 28) #[] #[x0] h) fun x19 =>
    kn x0 x19.1 unk x19.2)
    (kn x0 x4 x17 h)
theorem F11_rlrrr_eq  : kCode env 11 false inv k (cp c11 61) (act 59 [(0, x0), (4, x4), (17, x17)]) h K = F11_rlrrr inv k x0 x4 x17 h (fun y0 y4 y17 h => K .normal (act 59 [(0, y0), (4, y4), (17, y17)]) h) := by
      unfold F11_rlrrr
      simp only [b11_rlrrr, r11_5, kq_skip c11 123, reduceIte, reduceCtorEq, XE.exit.injEq, Nat.reduceEqDiff, Nat.reduceMul, Nat.reduceAdd] <;> kernel_rfl
theorem r11_6  : kCode env 11 false inv k (cp c11 62) (act 59 [(0, x0), (4, x4), (17, x17)]) h K =
    K .normal (act 59 [(0, x0), (4, x4), (5, (.slice none 0 0))]) h := kq_reg
theorem r11_7  : kCode env 11 false inv k (cp c11 252) (act 59 [(0, x0), (4, x4), (5, x5)]) h K =
    bnd (pLen Try.prog #[25] x0 h) fun x21 =>
    K .normal (act 59 [(0, x0), (4, x4), (5, x5), (20, x0), (21, x21), (22, (.int .i64 0))]) h := kq_reg
theorem r11_8  : kCode env 11 false inv k (cp c11 2024) (act 59 [(0, x0), (4, x4), (5, x5), (20, x20), (21, x21), (22, x22)]) h K =
    bnd (pBin Try.prog .lss 3 (.tmp 22) (.tmp 21) x22 x21) fun x23 =>
    K .normal (act 59 [(0, x0), (4, x4), (5, x5), (20, x20), (21, x21), (22, x22), (23, x23)]) h := kq_reg
theorem b11_lrllrlrrrrr  : kCode env 11 false inv k (cp c11 4050) (act 59 [(0, x0), (4, x4), (5, x5), (20, x20), (21, x21), (22, x22), (23, x23)]) h K = brV x23 (kCode env 11 false inv k (cp c11 8100) (act 59 [(0, x0), (4, x4), (5, x5), (20, x20), (21, x21), (22, x22), (23, x23)]) h K) (kCode env 11 false inv k (cp c11 8101) (act 59 [(0, x0), (4, x4), (5, x5), (20, x20), (21, x21), (22, x22), (23, x23)]) h K) := kq_cond
theorem r11_9  : kCode env 11 false inv k (cp c11 32408) (act 59 [(0, x0), (4, x4), (5, x5), (20, x20), (21, x21), (22, x22), (23, x23)]) h K =
    bnd (pIndexAddr Try.prog 25 x20 x22) fun x24 =>
    bnd (pLoad Try.prog 2 x24 h) fun x25 =>
    K .normal (act 59 [(0, x0), (4, x4), (5, x5), (7, x25), (20, x20), (21, x21), (22, x22)]) h := kq_reg
theorem r11_10  : kCode env 11 false inv k (cp c11 32409) (act 59 [(0, x0), (4, x4), (5, x5), (7, x7), (20, x20), (21, x21), (22, x22)]) h K =
    bnd (pConv Try.prog 2 51 x7 h) fun x28 =>
    bnd (pConv Try.prog 2 51 x4 h) fun x30 =>
    bnd (pBin Try.prog .sub 51 (.tmp 28) (.tmp 30) x28 x30) fun x31 =>
    bnd (pBuildSlice Try.prog 50 1 #[(0, x31)] h) fun x32 =>
    bnd (pAppend Try.prog #[50, 50] x5 x32.1 x32.2) fun x33 =>
    K .normal (act 59 [(0, x0), (4, x4), (5, x33.1), (20, x20), (21, x21), (22, x22)]) x33.2 := kq_reg
theorem r11_11  : kCode env 11 false inv k (cp c11 8103) (act 59 [(0, x0), (4, x4), (5, x5), (20, x20), (21, x21), (22, x22)]) h K =
    bnd (pBin Try.prog .add 3 (.tmp 22) (.const (.int .i64 1)) x22 (.int .i64 1)) fun x34 =>
    K .normal (act 59 [(0, x0), (4, x4), (5, x5), (20, x20), (21, x21), (22, x34)]) h := kq_reg
noncomputable def F11_lrlrrrrr {β : Type} (inv : Inv) (k : Nat) : Nat → Value → Value → Value → Value → Value → Value → AH → (Value → Value → Value → Value → Value → Value → Value → AH → Option β) → Option β
  | 0, _, _, _, _, _, _, _, _ => none
  | j + 1, x0, x4, x5, x20, x21, x22, h, ke0 =>
    bnd (pBin Try.prog .lss 3 (.tmp 22) (.tmp 21) x22 x21) fun x23 =>
    brV x23
    (bnd (pIndexAddr Try.prog 25 x20 x22) fun x24 =>
    bnd (pLoad Try.prog 2 x24 h) fun x25 =>
    bnd (pConv Try.prog 2 51 x25 h) fun x28 =>
    bnd (pConv Try.prog 2 51 x4 h) fun x30 =>
    bnd (pBin Try.prog .sub 51 (.tmp 28) (.tmp 30) x28 x30) fun x31 =>
    bnd (pBuildSlice Try.prog 50 1 #[(0, x31)] h) fun x32 =>
    bnd (pAppend Try.prog #[50, 50] x5 x32.1 x32.2) fun x33 =>
    bnd (pBin Try.prog .add 3 (.tmp 22) (.const (.int .i64 1)) x22 (.int .i64 1)) fun x34 =>
    F11_lrlrrrrr inv k j x0 x4 x33.1 x20 x21 x34 x33.2 ke0)
    (ke0 x0 x4 x5 x20 x21 x22 x23 h)
theorem F11_lrlrrrrr_j (j : Nat) : kLoop (kCode env 11 false inv k (cp c11 1012)) j (act 59 [(0, x0), (4, x4), (5, x5), (20, x20), (21, x21), (22, x22)]) h K = F11_lrlrrrrr inv k j x0 x4 x5 x20 x21 x22 h (fun y0 y4 y5 y20 y21 y22 y23 h => K (.exit 0) (act 59 [(0, y0), (4, y4), (5, y5), (20, y20), (21, y21), (22, y22), (23, y23)]) h) := by
      induction j generalizing x0 x4 x5 x20 x21 x22 h with
      | zero => rfl
      | succ j ih =>
        unfold F11_lrlrrrrr
        simp only [kLoop, kq_seq c11 1012, r11_8, kq_seq c11 2025, b11_lrllrlrrrrr, kq_skip c11 8100, kq_seq c11 4051, kq_block c11 8102 1, kq_seq c11 16204, r11_9, r11_10, r11_11, kq_exit c11 8101 0, ih, reduceIte, reduceCtorEq, XE.exit.injEq, Nat.reduceEqDiff, Nat.reduceMul, Nat.reduceAdd] <;> kernel_rfl
theorem F11_lrlrrrrr_eq  : kCode env 11 false inv k (cp c11 506) (act 59 [(0, x0), (4, x4), (5, x5), (20, x20), (21, x21), (22, x22)]) h K = F11_lrlrrrrr inv k k x0 x4 x5 x20 x21 x22 h (fun y0 y4 y5 y20 y21 y22 y23 h => K (.exit 0) (act 59 [(0, y0), (4, y4), (5, y5), (20, y20), (21, y21), (22, y22), (23, y23)]) h) := kq_loop (F11_lrlrrrrr_j k)
theorem r11_12  : kCode env 11 false inv k (cp c11 254) (act 59 [(0, x0), (4, x4), (5, x5), (20, x20), (21, x21), (22, x22), (23, x23)]) h K =
    bnd (inv (.func 29) #[] #[x5] h) fun x36 =>
    K .normal (act 59 [(0, x0), (4, x4), (5, x5), (8, x36.1)]) x36.2 := kq_reg
theorem r11_13  : kCode env 11 false inv k (cp c11 510) (act 59 [(0, x0), (4, x4), (5, x5), (8, x8)]) h K =
    bnd (inv (.func 30) #[] #[x5, x8] h) fun x40 =>
    bnd (pExtract x40.1 0) fun x41 =>
    bnd (pExtract x40.1 1) fun x42 =>
    K .normal (act 59 [(0, x0), (4, x4), (8, x8), (9, x41), (10, x42)]) x40.2 := kq_reg
theorem r11_14  : kCode env 11 false inv k (cp c11 2044) (act 59 [(0, x0), (4, x4), (8, x8), (9, x9), (10, x10)]) h K =
    bnd (pBin Try.prog .neq 27 (.tmp 43) (.const (.int .i64 0)) x10 (.int .i64 0)) fun x44 =>
    K .normal (act 59 [(0, x0), (4, x4), (8, x8), (9, x9), (10, x10), (44, x44)]) h := kq_reg
theorem b11_rlrrrrrrrr  : kCode env 11 false inv k (cp c11 2045) (act 59 [(0, x0), (4, x4), (8, x8), (9, x9), (10, x10), (44, x44)]) h K = brV x44 (kCode env 11 false inv k (cp c11 4090) (act 59 [(0, x0), (4, x4), (8, x8), (9, x9), (10, x10), (44, x44)]) h K) (kCode env 11 false inv k (cp c11 4091) (act 59 [(0, x0), (4, x4), (8, x8), (9, x9), (10, x10), (44, x44)]) h K) := kq_cond
theorem r11_15  : kCode env 11 false inv k (cp c11 8180) (act 59 [(0, x0), (4, x4), (8, x8), (9, x9), (10, x10), (44, x44)]) h K =
    K .normal (act 59 [(2, (.slice none 0 0)), (3, x10)]) h := kq_reg
theorem r11_16  : kCode env 11 false inv k (cp c11 2046) (act 59 [(0, x0), (4, x4), (8, x8), (9, x9), (10, x10), (44, x44)]) h K =
    bnd (pLen Try.prog #[25] x0 h) fun x47 =>
    bnd (inv (.func 32) #[] #[(.int .u8 3), x47] h) fun x48 =>
    bnd (pConv Try.prog 2 51 x4 x48.2) fun x50 =>
    bnd (inv (.func 31) #[] #[x48.1, x50, (.int .i64 8)] x48.2) fun x51 =>
    K .normal (act 59 [(8, x8), (9, x9), (11, x51.1)]) x51.2 := kq_reg
theorem r11_17  : kCode env 11 false inv k (cp c11 4094) (act 59 [(8, x8), (9, x9), (11, x11)]) h K =
    bnd (pConv Try.prog 3 5 x8 h) fun x54 =>
    bnd (pBuildSlice Try.prog 26 1 #[(0, x54)] h) fun x55 =>
    bnd (pAppend Try.prog #[26, 26] x11 x55.1 x55.2) fun x56 =>
    bnd (pAppend Try.prog #[26, 26] x56.1 x9 x56.2) fun x58 =>
    K .normal (act 59 [(2, x58.1), (3, (.int .i64 0))]) x58.2 := kq_reg
/-- shadowbook/ints.Packed -/
noncomputable def F11 (inv : Inv) (k : Nat) (x0 : Value) (h : AH) : Option (Value × AH) :=
    bnd (pLen Try.prog #[25] x0 h) fun x13 =>
    bnd (pBin Try.prog .gtr 3 (.tmp 13) (.const (.int .i64 4096)) x13 (.int .i64 4096)) fun x14 =>
    brV x14
    (some (.tuple #[(.slice none 0 0), (.int .i64 3)], h))
    (bnd (pLen Try.prog #[25] x0 h) fun x16 =>
    bnd (pBin Try.prog .gtr 3 (.tmp 16) (.const (.int .i64 0)) x16 (.int .i64 0)) fun x17 =>
    F11_rlrrr inv k x0 (.int .i64 0) x17 h
    (fun y0 y4 y17 h =>
    bnd (pLen Try.prog #[25] y0 h) fun x21 =>
    F11_lrlrrrrr inv k k y0 y4 (.slice none 0 0) y0 x21 (.int .i64 0) h
    (fun y0_1 y4_2 y5 y20 y21 y22 y23 h_3 =>
    bnd (inv (.func 29) #[] #[y5] h_3) fun x36 =>
    bnd (inv (.func 30) #[] #[y5, x36.1] x36.2) fun x40 =>
    bnd (pExtract x40.1 0) fun x41 =>
    bnd (pExtract x40.1 1) fun x42 =>
    bnd (pBin Try.prog .neq 27 (.tmp 43) (.const (.int .i64 0)) x42 (.int .i64 0)) fun x44 =>
    brV x44
    (some (.tuple #[(.slice none 0 0), x42], x40.2))
    (bnd (pLen Try.prog #[25] y0_1 x40.2) fun x47 =>
    bnd (inv (.func 32) #[] #[(.int .u8 3), x47] x40.2) fun x48 =>
    bnd (pConv Try.prog 2 51 y4_2 x48.2) fun x50 =>
    bnd (inv (.func 31) #[] #[x48.1, x50, (.int .i64 8)] x48.2) fun x51 =>
    bnd (pConv Try.prog 3 5 x36.1 x51.2) fun x54 =>
    bnd (pBuildSlice Try.prog 26 1 #[(0, x54)] x51.2) fun x55 =>
    bnd (pAppend Try.prog #[26, 26] x51.1 x55.1 x55.2) fun x56 =>
    bnd (pAppend Try.prog #[26, 26] x56.1 x41 x56.2) fun x58 =>
    some (.tuple #[x58.1, (.int .i64 0)], x58.2)))))
theorem F11_eq : eFun env k inv 11 #[x0] h = F11 inv k x0 h := by
      refine (kq_fun (a := act 59 [(0, x0)]) (c := cp c11 1)).trans ?_
      unfold F11
      simp only [kq_seq c11 1, r11_0, kq_seq c11 3, kq_seq c11 6, r11_1, b11_rlr, kq_seq c11 26, r11_2, kq_ret c11 53, res11_0, kq_skip c11 27, kq_seq c11 7, r11_3, kq_seq c11 15, kq_seq c11 30, r11_4, F11_rlrrr_eq, kq_seq c11 31, r11_6, kq_seq c11 63, kq_seq c11 126, r11_7, kq_block c11 253 0, F11_lrlrrrrr_eq, kq_seq c11 127, r11_12, kq_seq c11 255, r11_13, kq_seq c11 511, kq_seq c11 1022, r11_14, b11_rlrrrrrrrr, kq_seq c11 4090, r11_15, kq_ret c11 8181, kq_skip c11 4091, kq_seq c11 1023, r11_16, kq_seq c11 2047, r11_17, kq_ret c11 4095, reduceIte, reduceCtorEq, XE.exit.injEq, Nat.reduceEqDiff, Nat.reduceMul, Nat.reduceAdd] <;> kernel_rfl
theorem F11_call : eInv env (k + 1) (.func 11) #[] #[x0] h = F11 (eInv env k) k x0 h := kq_inv F11_eq
noncomputable def c13 : Code := codeOf Try.prog 13
theorem r13_0  : kCode env 13 false inv k (cp c13 2) (act 25 [(0, x0)]) h K =
    K .normal (act 25 [(0, x0)]) h := kq_reg
theorem r13_1  : kCode env 13 false inv k (cp c13 12) (act 25 [(0, x0)]) h K =
    bnd (pLen Try.prog #[25] x0 h) fun x8 =>
    bnd (pBin Try.prog .gtr 3 (.tmp 8) (.const (.int .i64 4096)) x8 (.int .i64 4096)) fun x9 =>
    K .normal (act 25 [(0, x0), (9, x9)]) h := kq_reg
theorem b13_rlr  : kCode env 13 false inv k (cp c13 13) (act 25 [(0, x0), (9, x9)]) h K = brV x9 (kCode env 13 false inv k (cp c13 26) (act 25 [(0, x0), (9, x9)]) h K) (kCode env 13 false inv k (cp c13 27) (act 25 [(0, x0), (9, x9)]) h K) := kq_cond
theorem r13_2  : kCode env 13 false inv k (cp c13 52) (act 25 [(0, x0), (9, x9)]) h K =
    K .normal (act 25 [(2, (.slice none 0 0)), (3, (.int .i64 3))]) h := kq_reg
theorem res13_0 : resOfFn env.P 13 .ret (act 25 [(2, x2), (3, x3)]) h = some (.tuple #[x2, x3], h) := kq_res
theorem r13_3  : kCode env 13 false inv k (cp c13 14) (act 25 [(0, x0), (9, x9)]) h K =
    bnd (pLen Try.prog #[25] x0 h) fun x11 =>
    bnd (inv (.func 32) #[] #[(.int .u8 1), x11] h) fun x12 =>
    K .normal (act 25 [(0, x0), (4, x12.1)]) x12.2 := kq_reg
theorem r13_4  : kCode env 13 false inv k (cp c13 60) (act 25 [(0, x0), (4, x4)]) h K =
    bnd (pLen Try.prog #[25] x0 h) fun x14 =>
    K .normal (act 25 [(4, x4), (13, x0), (14, x14), (15, (.int .i64 0))]) h := kq_reg
theorem r13_5  : kCode env 13 false inv k (cp c13 488) (act 25 [(4, x4), (13, x13), (14, x14), (15, x15)]) h K =
    bnd (pBin Try.prog .lss 3 (.tmp 15) (.tmp 14) x15 x14) fun x16 =>
    K .normal (act 25 [(4, x4), (13, x13), (14, x14), (15, x15), (16, x16)]) h := kq_reg
theorem b13_lrllrlrrr  : kCode env 13 false inv k (cp c13 978) (act 25 [(4, x4), (13, x13), (14, x14), (15, x15), (16, x16)]) h K = brV x16 (kCode env 13 false inv k (cp c13 1956) (act 25 [(4, x4), (13, x13), (14, x14), (15, x15), (16, x16)]) h K) (kCode env 13 false inv k (cp c13 1957) (act 25 [(4, x4), (13, x13), (14, x14), (15, x15), (16, x16)]) h K) := kq_cond
theorem r13_6  : kCode env 13 false inv k (cp c13 7832) (act 25 [(4, x4), (13, x13), (14, x14), (15, x15), (16, x16)]) h K =
    bnd (pIndexAddr Try.prog 25 x13 x15) fun x17 =>
    bnd (pLoad Try.prog 2 x17 h) fun x18 =>
    K .normal (act 25 [(4, x4), (6, x18), (13, x13), (14, x14), (15, x15)]) h := kq_reg
theorem r13_7  : kCode env 13 false inv k (cp c13 7833) (act 25 [(4, x4), (6, x6), (13, x13), (14, x14), (15, x15)]) h K =
    bnd (pConv Try.prog 2 51 x6 h) fun x21 =>
    bnd (inv (.func 31) #[] #[x4, x21, (.int .i64 8)] h) fun x22 =>
    K .normal (act 25 [(4, x22.1), (13, x13), (14, x14), (15, x15)]) x22.2 := kq_reg
theorem r13_8  : kCode env 13 false inv k (cp c13 1959) (act 25 [(4, x4), (13, x13), (14, x14), (15, x15)]) h K =
    bnd (pBin Try.prog .add 3 (.tmp 15) (.const (.int .i64 1)) x15 (.int .i64 1)) fun x23 =>
    K .normal (act 25 [(4, x4), (13, x13), (14, x14), (15, x23)]) h := kq_reg
noncomputable def F13_lrlrrr {β : Type} (inv : Inv) (k : Nat) : Nat → Value → Value → Value → Value → AH → (Value → Value → Value → Value → Value → AH → Option β) → Option β
  | 0, _, _, _, _, _, _ => none
  | j + 1, x4, x13, x14, x15, h, ke0 =>
    bnd (pBin Try.prog .lss 3 (.tmp 15) (.tmp 14) x15 x14) fun x16 =>
    brV x16
    (bnd (pIndexAddr Try.prog 25 x13 x15) fun x17 =>
    bnd (pLoad Try.prog 2 x17 h) fun x18 =>
    bnd (pConv Try.prog 2 51 x18 h) fun x21 =>
    bnd (inv (.func 31) #[] #[x4, x21, (.int .i64 8)] h) fun x22 =>
    bnd (pBin Try.prog .add 3 (.tmp 15) (.const (.int .i64 1)) x15 (.int .i64 1)) fun x23 =>
    F13_lrlrrr inv k j x22.1 x13 x14 x23 x22.2 ke0)
    (ke0 x4 x13 x14 x15 x16 h)
theorem F13_lrlrrr_j (j : Nat) : kLoop (kCode env 13 false inv k (cp c13 244)) j (act 25 [(4, x4), (13, x13), (14, x14), (15, x15)]) h K = F13_lrlrrr inv k j x4 x13 x14 x15 h (fun y4 y13 y14 y15 y16 h => K (.exit 0) (act 25 [(4, y4), (13, y13), (14, y14), (15, y15), (16, y16)]) h) := by
      induction j generalizing x4 x13 x14 x15 h with
      | zero => rfl
      | succ j ih =>
        unfold F13_lrlrrr
        simp only [kLoop, kq_seq c13 244, r13_5, kq_seq c13 489, b13_lrllrlrrr, kq_skip c13 1956, kq_seq c13 979, kq_block c13 1958 1, kq_seq c13 3916, r13_6, r13_7, r13_8, kq_exit c13 1957 0, ih, reduceIte, reduceCtorEq, XE.exit.injEq, Nat.reduceEqDiff, Nat.reduceMul, Nat.reduceAdd] <;> kernel_rfl
theorem F13_lrlrrr_eq  : kCode env 13 false inv k (cp c13 122) (act 25 [(4, x4), (13, x13), (14, x14), (15, x15)]) h K = F13_lrlrrr inv k k x4 x13 x14 x15 h (fun y4 y13 y14 y15 y16 h => K (.exit 0) (act 25 [(4, y4), (13, y13), (14, y14), (15, y15), (16, y16)]) h) := kq_loop (F13_lrlrrr_j k)
theorem r13_9  : kCode env 13 false inv k (cp c13 62) (act 25 [(4, x4), (13, x13), (14, x14), (15, x15), (16, x16)]) h K =
    K .normal (act 25 [(2, x4), (3, (.int .i64 0))]) h := kq_reg
/-- shadowbook/ints.Plain -/
noncomputable def F13 (inv : Inv) (k : Nat) (x0 : Value) (h : AH) : Option (Value × AH) :=
    bnd (pLen Try.prog #[25] x0 h) fun x8 =>
    bnd (pBin Try.prog .gtr 3 (.tmp 8) (.const (.int .i64 4096)) x8 (.int .i64 4096)) fun x9 =>
    brV x9
    (some (.tuple #[(.slice none 0 0), (.int .i64 3)], h))
    (bnd (pLen Try.prog #[25] x0 h) fun x11 =>
    bnd (inv (.func 32) #[] #[(.int .u8 1), x11] h) fun x12 =>
    bnd (pLen Try.prog #[25] x0 x12.2) fun x14 =>
    F13_lrlrrr inv k k x12.1 x0 x14 (.int .i64 0) x12.2
    (fun y4 y13 y14 y15 y16 h =>
    some (.tuple #[y4, (.int .i64 0)], h)))
theorem F13_eq : eFun env k inv 13 #[x0] h = F13 inv k x0 h := by
      refine (kq_fun (a := act 25 [(0, x0)]) (c := cp c13 1)).trans ?_
      unfold F13
      simp only [kq_seq c13 1, r13_0, kq_seq c13 3, kq_seq c13 6, r13_1, b13_rlr, kq_seq c13 26, r13_2, kq_ret c13 53, res13_0, kq_skip c13 27, kq_seq c13 7, r13_3, kq_seq c13 15, kq_seq c13 30, r13_4, kq_block c13 61 0, F13_lrlrrr_eq, kq_seq c13 31, r13_9, kq_ret c13 63, reduceIte, reduceCtorEq, XE.exit.injEq, Nat.reduceEqDiff, Nat.reduceMul, Nat.reduceAdd] <;> kernel_rfl
theorem F13_call : eInv env (k + 1) (.func 13) #[] #[x0] h = F13 (eInv env k) k x0 h := kq_inv F13_eq
noncomputable def c14 : Code := codeOf Try.prog 14
theorem r14_0  : kCode env 14 false inv k (cp c14 2) (act 52 [(0, x0)]) h K =
    K .normal (act 52 [(0, x0)]) h := kq_reg
theorem r14_1  : kCode env 14 false inv k (cp c14 24) (act 52 [(0, x0)]) h K =
    bnd (pLen Try.prog #[25] x0 h) fun x8 =>
    bnd (pBin Try.prog .gtr 3 (.tmp 8) (.const (.int .i64 4096)) x8 (.int .i64 4096)) fun x9 =>
    K .normal (act 52 [(0, x0), (9, x9)]) h := kq_reg
theorem b14_rllr  : kCode env 14 false inv k (cp c14 25) (act 52 [(0, x0), (9, x9)]) h K = brV x9 (kCode env 14 false inv k (cp c14 50) (act 52 [(0, x0), (9, x9)]) h K) (kCode env 14 false inv k (cp c14 51) (act 52 [(0, x0), (9, x9)]) h K) := kq_cond
theorem r14_2  : kCode env 14 false inv k (cp c14 100) (act 52 [(0, x0), (9, x9)]) h K =
    K .normal (act 52 [(2, (.slice none 0 0)), (3, (.int .i64 3))]) h := kq_reg
theorem res14_0 : resOfFn env.P 14 .ret (act 52 [(2, x2), (3, x3)]) h = some (.tuple #[x2, x3], h) := kq_res
theorem r14_3  : kCode env 14 false inv k (cp c14 26) (act 52 [(0, x0), (9, x9)]) h K =
    bnd (pLen Try.prog #[25] x0 h) fun x11 =>
    bnd (inv (.func 32) #[] #[(.int .u8 2), x11] h) fun x12 =>
    K .normal (act 52 [(0, x0), (4, x12.1)]) x12.2 := kq_reg
theorem r14_4  : kCode env 14 false inv k (cp c14 54) (act 52 [(0, x0), (4, x4)]) h K =
    K .normal (act 52 [(0, x0), (4, x4), (5, (.int .i64 0))]) h := kq_reg
theorem r14_5  : kCode env 14 false inv k (cp c14 444) (act 52 [(0, x0), (4, x4), (5, x5)]) h K =
    bnd (pLen Try.prog #[25] x0 h) fun x14 =>
    K .normal (act 52 [(0, x0), (4, x4), (5, x5), (14, x14), (15, (.int .i64 0))]) h := kq_reg
theorem r14_6  : kCode env 14 false inv k (cp c14 3560) (act 52 [(0, x0), (4, x4), (5, x5), (14, x14), (15, x15)]) h K =
    bnd (pBin Try.prog .lss 3 (.tmp 15) (.tmp 14) x15 x14) fun x16 =>
    K .normal (act 52 [(0, x0), (4, x4), (5, x5), (14, x14), (15, x15), (16, x16)]) h := kq_reg
theorem b14_lrllrlrrrrlr  : kCode env 14 false inv k (cp c14 7122) (act 52 [(0, x0), (4, x4), (5, x5), (14, x14), (15, x15), (16, x16)]) h K = brV x16 (kCode env 14 false inv k (cp c14 14244) (act 52 [(0, x0), (4, x4), (5, x5), (14, x14), (15, x15), (16, x16)]) h K) (kCode env 14 false inv k (cp c14 14245) (act 52 [(0, x0), (4, x4), (5, x5), (14, x14), (15, x15), (16, x16)]) h K) := kq_cond
theorem r14_7  : kCode env 14 false inv k (cp c14 56984) (act 52 [(0, x0), (4, x4), (5, x5), (14, x14), (15, x15), (16, x16)]) h K =
    K .normal (act 52 [(0, x0), (4, x4), (5, x5), (6, x15), (14, x14), (15, x15)]) h := kq_reg
noncomputable abbrev G14_8 {β : Type} (inv : Inv) (x0 x4 x5 x6 x14 x15 : Value) (h : AH) (K : Value → AH → Option β) : Option β :=
    bnd (pBin Try.prog .add 3 (.tmp 18) (.const (.int .i64 1)) x6 (.int .i64 1)) fun x19 =>
    bnd (pLen Try.prog #[25] x0 h) fun x21 =>
    bnd (pBin Try.prog .lss 3 (.tmp 19) (.tmp 21) x19 x21) fun x22 =>
    bnd (gd3 (some x22) true h (some (x0, h))) fun x24 =>
    bnd (gd3 (some x22) true x24.2.1 (some (x6, x24.2.1))) fun x25 =>
    bnd (gd3 (some x22) true x25.2.1 (lt (pBin Try.prog .add 3 (.tmp 25) (.const (.int .i64 1)) x25.1 (.int .i64 1)) x25.2.1)) fun x26 =>
    bnd (gd3 (some x22) true x26.2.1 (lt (pIndexAddr Try.prog 25 x24.1 x26.1) x26.2.1)) fun x27 =>
    bnd (gd3 (some x22) true x27.2.1 (lt (pLoad Try.prog 2 x27.1 x27.2.1) x27.2.1)) fun x28 =>
    bnd (gd3 (some x22) true x28.2.1 (some (x0, x28.2.1))) fun x29 =>
    bnd (gd3 (some x22) true x29.2.1 (some (x5, x29.2.1))) fun x30 =>
    bnd (gd3 (some x22) true x30.2.1 (lt (pIndexAddr Try.prog 25 x29.1 x30.1) x30.2.1)) fun x31 =>
    bnd (gd3 (some x22) true x31.2.1 (lt (pLoad Try.prog 2 x31.1 x31.2.1) x31.2.1)) fun x32 =>
    bnd (gd3 (some x22) true x32.2.1 (lt (pBin Try.prog .eql 2 (.tmp 28) (.tmp 32) x28.1 x32.1) x32.2.1)) fun x33 =>
    bnd (pickV x22 x33.1 (.bool false)) fun x34 =>
    K (x34) x33.2.1
theorem r14_8  : kCode env 14 false inv k (cp c14 227940) (act 52 [(0, x0), (4, x4), (5, x5), (6, x6), (14, x14), (15, x15)]) h K =
    G14_8 inv x0 x4 x5 x6 x14 x15 h fun y34 h => K .normal (act 52 [(0, x0), (4, x4), (5, x5), (6, x6), (14, x14), (15, x15), (34, y34)]) h := kq_draw
theorem b14_rlrllrrllrlrrrrlr  : kCode env 14 false inv k (cp c14 227941) (act 52 [(0, x0), (4, x4), (5, x5), (6, x6), (14, x14), (15, x15), (34, x34)]) h K = brV x34 (kCode env 14 false inv k (cp c14 455882) (act 52 [(0, x0), (4, x4), (5, x5), (6, x6), (14, x14), (15, x15), (34, x34)]) h K) (kCode env 14 false inv k (cp c14 455883) (act 52 [(0, x0), (4, x4), (5, x5), (6, x6), (14, x14), (15, x15), (34, x34)]) h K) := kq_cond
noncomputable abbrev G14_9 {β : Type} (inv : Inv) (x0 x4 x5 x6 x14 x15 : Value) (h : AH) (K : Value → AH → Option β) : Option β :=
    bnd (pBin Try.prog .add 3 (.tmp 36) (.const (.int .i64 1)) x6 (.int .i64 1)) fun x37 =>
    bnd (pBin Try.prog .sub 3 (.tmp 37) (.tmp 38) x37 x5) fun x39 =>
    bnd (pConv Try.prog 3 51 x39 h) fun x40 =>
    bnd (inv (.func 33) #[] #[x4, x40] h) fun x41 =>
    bnd (pIndexAddr Try.prog 25 x0 x6) fun x44 =>
    bnd (pLoad Try.prog 2 x44 x41.2) fun x45 =>
    bnd (pConv Try.prog 2 51 x45 x41.2) fun x46 =>
    bnd (inv (.func 31) #[] #[x41.1, x46, (.int .i64 8)] x41.2) fun x47 =>
    chkK ((!true || !true || (sameO (pLoad Try.prog 2 x44 h) x45 && sameO (pLoad Try.prog 2 x44 x41.2) x45)) && ((!true || !true || (sameO (pConv Try.prog 2 51 x45 h) x46 && sameO (pConv Try.prog 2 51 x45 x41.2) x46)) && true)) <|
    K (x47.1) x47.2
theorem r14_9  : kCode env 14 false inv k (cp c14 227942) (act 52 [(0, x0), (4, x4), (5, x5), (6, x6), (14, x14), (15, x15), (34, x34)]) h K =
    G14_9 inv x0 x4 x5 x6 x14 x15 h fun y4 h => K .normal (act 52 [(0, x0), (4, y4), (6, x6), (14, x14), (15, x15)]) h := kq_draw
theorem r14_10  : kCode env 14 false inv k (cp c14 227943) (act 52 [(0, x0), (4, x4), (6, x6), (14, x14), (15, x15)]) h K =
    bnd (pBin Try.prog .add 3 (.tmp 48) (.const (.int .i64 1)) x6 (.int .i64 1)) fun x49 =>
    K .normal (act 52 [(0, x0), (4, x4), (5, x49), (14, x14), (15, x15)]) h := kq_reg
noncomputable def F14_lrrllrlrrrrlr {β : Type} (inv : Inv) (k : Nat) (x0 x4 x5 x14 x15 x16 : Value) (h : AH) (kn : (Value → Value → Value → Value → Value → Value → Value → AH → Option β)) : Option β :=
    G14_8 inv x0 x4 x5 x15 x14 x15 h fun y34 h =>
    brV y34
    (kn x0 x4 x5 x15 x14 x15 y34 h)
    (G14_9 inv x0 x4 x5 x15 x14 x15 h fun y4 h_1 =>
    bnd (pBin Try.prog .add 3 (.tmp 48) (.const (.int .i64 1)) x15 (.int .i64 1)) fun x49 =>
    kn x0 y4 x49 unk x14 x15 unk h_1)
theorem F14_lrrllrlrrrrlr_eq  : kCode env 14 false inv k (cp c14 14246) (act 52 [(0, x0), (4, x4), (5, x5), (14, x14), (15, x15), (16, x16)]) h K = F14_lrrllrlrrrrlr inv k x0 x4 x5 x14 x15 x16 h (fun y0 y4 y5 y6 y14 y15 y34 h => K .normal (act 52 [(0, y0), (4, y4), (5, y5), (6, y6), (14, y14), (15, y15), (34, y34)]) h) := by
      unfold F14_lrrllrlrrrrlr
      simp only [kq_block c14 14246 1, kq_seq c14 28492, r14_7, kq_seq c14 56985, kq_seq c14 113970, r14_8, b14_rlrllrrllrlrrrrlr, kq_exit c14 455882 1, kq_skip c14 455883, kq_seq c14 113971, r14_9, r14_10, reduceIte, reduceCtorEq, XE.exit.injEq, Nat.reduceEqDiff, Nat.reduceMul, Nat.reduceAdd] <;> kernel_rfl
theorem r14_11  : kCode env 14 false inv k (cp c14 14247) (act 52 [(0, x0), (4, x4), (5, x5), (6, x6), (14, x14), (15, x15), (34, x34)]) h K =
    bnd (pBin Try.prog .add 3 (.tmp 15) (.const (.int .i64 1)) x15 (.int .i64 1)) fun x50 =>
    K .normal (act 52 [(0, x0), (4, x4), (5, x5), (14, x14), (15, x50)]) h := kq_reg
noncomputable def F14_lrlrrrrlr {β : Type} (inv : Inv) (k : Nat) : Nat → Value → Value → Value → Value → Value → AH → (Value → Value → Value → Value → Value → Value → AH → Option β) → Option β
  | 0, _, _, _, _, _, _, _ => none
  | j + 1, x0, x4, x5, x14, x15, h, ke0 =>
    bnd (pBin Try.prog .lss 3 (.tmp 15) (.tmp 14) x15 x14) fun x16 =>
    brV x16
    (F14_lrrllrlrrrrlr inv k x0 x4 x5 x14 x15 x16 h
    (fun y0 y4 y5 y6 y14 y15 y34 h =>
    bnd (pBin Try.prog .add 3 (.tmp 15) (.const (.int .i64 1)) y15 (.int .i64 1)) fun x50 =>
    F14_lrlrrrrlr inv k j y0 y4 y5 y14 x50 h ke0))
    (ke0 x0 x4 x5 x14 x15 x16 h)
theorem F14_lrlrrrrlr_j (j : Nat) : kLoop (kCode env 14 false inv k (cp c14 1780)) j (act 52 [(0, x0), (4, x4), (5, x5), (14, x14), (15, x15)]) h K = F14_lrlrrrrlr inv k j x0 x4 x5 x14 x15 h (fun y0 y4 y5 y14 y15 y16 h => K (.exit 0) (act 52 [(0, y0), (4, y4), (5, y5), (14, y14), (15, y15), (16, y16)]) h) := by
      induction j generalizing x0 x4 x5 x14 x15 h with
      | zero => rfl
      | succ j ih =>
        unfold F14_lrlrrrrlr
        simp only [kLoop, kq_seq c14 1780, r14_6, kq_seq c14 3561, b14_lrllrlrrrrlr, kq_skip c14 14244, kq_seq c14 7123, F14_lrrllrlrrrrlr_eq, r14_11, kq_exit c14 14245 0, ih, reduceIte, reduceCtorEq, XE.exit.injEq, Nat.reduceEqDiff, Nat.reduceMul, Nat.reduceAdd] <;> kernel_rfl
theorem F14_lrlrrrrlr_eq  : kCode env 14 false inv k (cp c14 890) (act 52 [(0, x0), (4, x4), (5, x5), (14, x14), (15, x15)]) h K = F14_lrlrrrrlr inv k k x0 x4 x5 x14 x15 h (fun y0 y4 y5 y14 y15 y16 h => K (.exit 0) (act 52 [(0, y0), (4, y4), (5, y5), (14, y14), (15, y15), (16, y16)]) h) := kq_loop (F14_lrlrrrrlr_j k)
theorem r14_12  : kCode env 14 false inv k (cp c14 446) (act 52 [(0, x0), (4, x4), (5, x5), (14, x14), (15, x15), (16, x16)]) h K =
    K .normal (act 52 [(2, x4), (3, (.int .i64 0))]) h := kq_reg
/-- shadowbook/ints.Runs -/
noncomputable def F14 (inv : Inv) (k : Nat) (x0 : Value) (h : AH) : Option (Value × AH) :=
    bnd (pLen Try.prog #[25] x0 h) fun x8 =>
    bnd (pBin Try.prog .gtr 3 (.tmp 8) (.const (.int .i64 4096)) x8 (.int .i64 4096)) fun x9 =>
    brV x9
    (some (.tuple #[(.slice none 0 0), (.int .i64 3)], h))
    (bnd (pLen Try.prog #[25] x0 h) fun x11 =>
    bnd (inv (.func 32) #[] #[(.int .u8 2), x11] h) fun x12 =>
    bnd (pLen Try.prog #[25] x0 x12.2) fun x14 =>
    F14_lrlrrrrlr inv k k x0 x12.1 (.int .i64 0) x14 (.int .i64 0) x12.2
    (fun y0 y4 y5 y14 y15 y16 h =>
    some (.tuple #[y4, (.int .i64 0)], h)))
theorem F14_eq : eFun env k inv 14 #[x0] h = F14 inv k x0 h := by
      refine (kq_fun (a := act 52 [(0, x0)]) (c := cp c14 1)).trans ?_
      unfold F14
      simp only [kq_seq c14 1, r14_0, kq_scope c14 3, kq_seq c14 6, kq_seq c14 12, r14_1, b14_rllr, kq_seq c14 50, r14_2, kq_ret c14 101, res14_0, kq_skip c14 51, kq_seq c14 13, r14_3, kq_seq c14 27, r14_4, kq_seq c14 55, kq_label c14 110, kq_seq c14 111, kq_seq c14 222, r14_5, kq_block c14 445 0, F14_lrlrrrrlr_eq, kq_seq c14 223, r14_12, kq_ret c14 447, reduceIte, reduceCtorEq, XE.exit.injEq, Nat.reduceEqDiff, Nat.reduceMul, Nat.reduceAdd] <;> kernel_rfl
theorem F14_call : eInv env (k + 1) (.func 14) #[] #[x0] h = F14 (eInv env k) k x0 h := kq_inv F14_eq
noncomputable def c15 : Code := codeOf Try.prog 15
theorem r15_0  : kCode env 15 false inv k (cp c15 2) (act 69 [(0, x0)]) h K =
    K .normal (act 69 [(0, x0)]) h := kq_reg
theorem r15_1  : kCode env 15 false inv k (cp c15 6) (act 69 [(0, x0)]) h K =
    bnd (inv (.func 34) #[] #[x0] h) fun x14 =>
    K .normal (act 69 [(0, x0), (4, x14.1)]) x14.2 := kq_reg
theorem r15_2  : kCode env 15 false inv k (cp c15 14) (act 69 [(0, x0), (4, x4)]) h K =
    bnd (inv (.func 35) #[] #[x4, (.int .i64 1)] h) fun x17 =>
    bnd (pExtract x17.1 0) fun x18 =>
    bnd (pExtract x17.1 1) fun x19 =>
    bnd (pAlloc Try.prog 51 x17.2) fun x5 =>
    bnd (kSt (pStore Try.prog 51 x5.1 x18 x5.2)) fun u =>
    K .normal (act 69 [(0, x0), (4, x4), (5, x5.1), (6, x19)]) u.2 := kq_reg
theorem r15_3  : kCode env 15 false inv k (cp c15 60) (act 69 [(0, x0), (4, x4), (5, x5), (6, x6)]) h K =
    bnd (pBin Try.prog .neq 27 (.tmp 20) (.const (.int .i64 0)) x6 (.int .i64 0)) fun x21 =>
    K .normal (act 69 [(0, x0), (4, x4), (5, x5), (21, x21)]) h := kq_reg
theorem b15_rlrrr  : kCode env 15 false inv k (cp c15 61) (act 69 [(0, x0), (4, x4), (5, x5), (21, x21)]) h K = brV x21 (kCode env 15 false inv k (cp c15 122) (act 69 [(0, x0), (4, x4), (5, x5), (21, x21)]) h K) (kCode env 15 false inv k (cp c15 123) (act 69 [(0, x0), (4, x4), (5, x5), (21, x21)]) h K) := kq_cond
theorem r15_4  : kCode env 15 false inv k (cp c15 244) (act 69 [(0, x0), (4, x4), (5, x5), (21, x21)]) h K =
    K .normal (act 69 [(2, (.slice none 0 0)), (3, (.int .i64 4))]) h := kq_reg
theorem res15_0 : resOfFn env.P 15 .ret (act 69 [(2, x2), (3, x3)]) h = some (.tuple #[x2, x3], h) := kq_res
theorem r15_5  : kCode env 15 false inv k (cp c15 62) (act 69 [(0, x0), (4, x4), (5, x5), (21, x21)]) h K =
    bnd (inv (.func 36) #[] #[x4] h) fun x24 =>
    bnd (pExtract x24.1 0) fun x25 =>
    bnd (pExtract x24.1 1) fun x26 =>
    K .normal (act 69 [(0, x0), (4, x4), (5, x5), (6, x26), (7, x25)]) x24.2 := kq_reg
noncomputable abbrev G15_6 {β : Type} (inv : Inv) (x0 x4 x5 x6 x7 : Value) (h : AH) (K : Value → AH → Option β) : Option β :=
    bnd (pBin Try.prog .neq 27 (.tmp 27) (.const (.int .i64 0)) x6 (.int .i64 0)) fun x28 =>
    bnd (gd (some x28) false h (some (x7, h))) fun x30 =>
    bnd (gd (some x28) false x30.2 (lt (pBin Try.prog .gtr 51 (.tmp 30) (.const (.int .u64 4096)) x30.1 (.int .u64 4096)) x30.2)) fun x31 =>
    bnd (pickV x28 (.bool true) x31.1) fun x32 =>
    K (x32) x31.2
theorem r15_6  : kCode env 15 false inv k (cp c15 252) (act 69 [(0, x0), (4, x4), (5, x5), (6, x6), (7, x7)]) h K =
    G15_6 inv x0 x4 x5 x6 x7 h fun y32 h => K .normal (act 69 [(0, x0), (4, x4), (5, x5), (7, x7), (32, y32)]) h := kq_reg
theorem b15_rlrrrrr  : kCode env 15 false inv k (cp c15 253) (act 69 [(0, x0), (4, x4), (5, x5), (7, x7), (32, x32)]) h K = brV x32 (kCode env 15 false inv k (cp c15 506) (act 69 [(0, x0), (4, x4), (5, x5), (7, x7), (32, x32)]) h K) (kCode env 15 false inv k (cp c15 507) (act 69 [(0, x0), (4, x4), (5, x5), (7, x7), (32, x32)]) h K) := kq_cond
theorem r15_7  : kCode env 15 false inv k (cp c15 1012) (act 69 [(0, x0), (4, x4), (5, x5), (7, x7), (32, x32)]) h K =
    K .normal (act 69 [(2, (.slice none 0 0)), (3, (.int .i64 4))]) h := kq_reg
theorem r15_8  : kCode env 15 false inv k (cp c15 254) (act 69 [(0, x0), (4, x4), (5, x5), (7, x7), (32, x32)]) h K =
    bnd (inv (.func 24) #[] #[] h) fun x33 =>
    bnd (pMakeFunc (.func 38) #[] #[x5]) fun x34 =>
    bnd (inv (.func 37) #[] #[x33.1, x34] x33.2) fun x35 =>
    K .normal (act 69 [(0, x0), (4, x4), (7, x7), (8, x35.1)]) x35.2 := kq_reg
theorem r15_9  : kCode env 15 false inv k (cp c15 1020) (act 69 [(0, x0), (4, x4), (7, x7), (8, x8)]) h K =
    bnd (pBin Try.prog .lss 3 (.tmp 36) (.const (.int .i64 0)) x8 (.int .i64 0)) fun x37 =>
    K .normal (act 69 [(0, x0), (4, x4), (7, x7), (8, x8), (37, x37)]) h := kq_reg
theorem b15_rlrrrrrrr  : kCode env 15 false inv k (cp c15 1021) (act 69 [(0, x0), (4, x4), (7, x7), (8, x8), (37, x37)]) h K = brV x37 (kCode env 15 false inv k (cp c15 2042) (act 69 [(0, x0), (4, x4), (7, x7), (8, x8), (37, x37)]) h K) (kCode env 15 false inv k (cp c15 2043) (act 69 [(0, x0), (4, x4), (7, x7), (8, x8), (37, x37)]) h K) := kq_cond
theorem r15_10  : kCode env 15 false inv k (cp c15 4084) (act 69 [(0, x0), (4, x4), (7, x7), (8, x8), (37, x37)]) h K =
    K .normal (act 69 [(2, (.slice none 0 0)), (3, (.int .i64 4))]) h := kq_reg
theorem r15_11  : kCode env 15 false inv k (cp c15 1022) (act 69 [(0, x0), (4, x4), (7, x7), (8, x8), (37, x37)]) h K =
    bnd (inv (.func 24) #[] #[] h) fun x38 =>
    bnd (pIndexAddr Try.prog 42 x38.1 x8) fun x40 =>
    bnd (pLoad Try.prog 46 x40 x38.2) fun x41 =>
    bnd (pAlloc Try.prog 46 x38.2) fun x9 =>
    bnd (kSt (pStore Try.prog 46 x9.1 x41 x9.2)) fun u =>
    K .normal (act 69 [(0, x0), (4, x4), (7, x7), (9, x9.1)]) u.2 := kq_reg
theorem r15_12  : kCode env 15 false inv k (cp c15 2046) (act 69 [(0, x0), (4, x4), (7, x7), (9, x9)]) h K =
    bnd (pFieldAddr Try.prog 46 x9 2) fun x43 =>
    bnd (pLoad Try.prog 44 x43 h) fun x44 =>
    bnd (pConv Try.prog 51 3 x7 h) fun x47 =>
    bnd (callV inv x44 #[x4, x47] h) fun x48 =>
    bnd (pExtract x48.1 0) fun x49 =>
    bnd (pExtract x48.1 1) fun x50 =>
    K .normal (act 69 [(0, x0), (6, x50), (9, x9), (10, x49)]) x48.2 := kq_reg
theorem r15_13  : kCode env 15 false inv k (cp c15 8188) (act 69 [(0, x0), (6, x6), (9, x9), (10, x10)]) h K =
    bnd (pBin Try.prog .neq 27 (.tmp 51) (.const (.int .i64 0)) x6 (.int .i64 0)) fun x52 =>
    K .normal (act 69 [(0, x0), (9, x9), (10, x10), (52, x52)]) h := kq_reg
theorem b15_rlrrrrrrrrrr  : kCode env 15 false inv k (cp c15 8189) (act 69 [(0, x0), (9, x9), (10, x10), (52, x52)]) h K = brV x52 (kCode env 15 false inv k (cp c15 16378) (act 69 [(0, x0), (9, x9), (10, x10), (52, x52)]) h K) (kCode env 15 false inv k (cp c15 16379) (act 69 [(0, x0), (9, x9), (10, x10), (52, x52)]) h K) := kq_cond
theorem r15_14  : kCode env 15 false inv k (cp c15 32756) (act 69 [(0, x0), (9, x9), (10, x10), (52, x52)]) h K =
    K .normal (act 69 [(2, (.slice none 0 0)), (3, (.int .i64 4))]) h := kq_reg
theorem r15_15  : kCode env 15 false inv k (cp c15 16380) (act 69 [(0, x0), (9, x9), (10, x10), (52, x52)]) h K =
    bnd (pFieldAddr Try.prog 46 x9 1) fun x54 =>
    bnd (pLoad Try.prog 29 x54 h) fun x55 =>
    bnd (callV inv x55 #[x10] h) fun x57 =>
    bnd (pExtract x57.1 0) fun x58 =>
    bnd (pExtract x57.1 1) fun x59 =>
    K .normal (act 69 [(0, x0), (10, x10), (11, x58), (12, x59)]) x57.2 := kq_reg
noncomputable abbrev G15_16 {β : Type} (inv : Inv) (x0 x10 x11 x12 : Value) (h : AH) (K : Value → AH → Option β) : Option β :=
    bnd (pBin Try.prog .neq 27 (.tmp 60) (.const (.int .i64 0)) x12 (.int .i64 0)) fun x61 =>
    bnd (gd (some x61) false h (some (x11, h))) fun x63 =>
    bnd (gd (some x61) false x63.2 (some (x0, x63.2))) fun x64 =>
    bnd (gd (some x61) false x64.2 (inv (.func 39) #[] #[x63.1, x64.1] x64.2)) fun x65 =>
    bnd (gd (some x61) false x65.2 (lt (pUn Try.prog .not x65.1) x65.2)) fun x66 =>
    bnd (pickV x61 (.bool true) x66.1) fun x67 =>
    K (x67) x66.2
theorem r15_16  : kCode env 15 false inv k (cp c15 32762) (act 69 [(0, x0), (10, x10), (11, x11), (12, x12)]) h K =
    G15_16 inv x0 x10 x11 x12 h fun y67 h => K .normal (act 69 [(10, x10), (67, y67)]) h := kq_reg
theorem b15_rrlrrrrrrrrrrr  : kCode env 15 false inv k (cp c15 32763) (act 69 [(10, x10), (67, x67)]) h K = brV x67 (kCode env 15 false inv k (cp c15 65526) (act 69 [(10, x10), (67, x67)]) h K) (kCode env 15 false inv k (cp c15 65527) (act 69 [(10, x10), (67, x67)]) h K) := kq_cond
theorem r15_17  : kCode env 15 false inv k (cp c15 131052) (act 69 [(10, x10), (67, x67)]) h K =
    K .normal (act 69 [(2, (.slice none 0 0)), (3, (.int .i64 4))]) h := kq_reg
theorem r15_18  : kCode env 15 false inv k (cp c15 16382) (act 69 [(10, x10), (67, x67)]) h K =
    K .normal (act 69 [(2, x10), (3, (.int .i64 0))]) h := kq_reg
/-- shadowbook/ints.Get -/
noncomputable def F15 (inv : Inv) (k : Nat) (x0 : Value) (h : AH) : Option (Value × AH) :=
    bnd (inv (.func 34) #[] #[x0] h) fun x14 =>
    bnd (inv (.func 35) #[] #[x14.1, (.int .i64 1)] x14.2) fun x17 =>
    bnd (pExtract x17.1 0) fun x18 =>
    bnd (pExtract x17.1 1) fun x19 =>
    bnd (pAlloc Try.prog 51 x17.2) fun x5 =>
    bnd (kSt (pStore Try.prog 51 x5.1 x18 x5.2)) fun u =>
    bnd (pBin Try.prog .neq 27 (.tmp 20) (.const (.int .i64 0)) x19 (.int .i64 0)) fun x21 =>
    brV x21
    (some (.tuple #[(.slice none 0 0), (.int .i64 4)], u.2))
    (bnd (inv (.func 36) #[] #[x14.1] u.2) fun x24 =>
    bnd (pExtract x24.1 0) fun x25 =>
    bnd (pExtract x24.1 1) fun x26 =>
    G15_6 inv x0 x14.1 x5.1 x26 x25 x24.2 fun y32 h =>
    brV y32
    (some (.tuple #[(.slice none 0 0), (.int .i64 4)], h))
    (bnd (inv (.func 24) #[] #[] h) fun x33 =>
    bnd (pMakeFunc (.func 38) #[] #[x5.1]) fun x34 =>
    bnd (inv (.func 37) #[] #[x33.1, x34] x33.2) fun x35 =>
    bnd (pBin Try.prog .lss 3 (.tmp 36) (.const (.int .i64 0)) x35.1 (.int .i64 0)) fun x37 =>
    brV x37
    (some (.tuple #[(.slice none 0 0), (.int .i64 4)], x35.2))
    (bnd (inv (.func 24) #[] #[] x35.2) fun x38 =>
    bnd (pIndexAddr Try.prog 42 x38.1 x35.1) fun x40 =>
    bnd (pLoad Try.prog 46 x40 x38.2) fun x41 =>
    bnd (pAlloc Try.prog 46 x38.2) fun x9 =>
    bnd (kSt (pStore Try.prog 46 x9.1 x41 x9.2)) fun u_1 =>
    bnd (pFieldAddr Try.prog 46 x9.1 2) fun x43 =>
    bnd (pLoad Try.prog 44 x43 u_1.2) fun x44 =>
    bnd (pConv Try.prog 51 3 x25 u_1.2) fun x47 =>
    bnd (callV inv x44 #[x14.1, x47] u_1.2) fun x48 =>
    bnd (pExtract x48.1 0) fun x49 =>
    bnd (pExtract x48.1 1) fun x50 =>
    bnd (pBin Try.prog .neq 27 (.tmp 51) (.const (.int .i64 0)) x50 (.int .i64 0)) fun x52 =>
    brV x52
    (some (.tuple #[(.slice none 0 0), (.int .i64 4)], x48.2))
    (bnd (pFieldAddr Try.prog 46 x9.1 1) fun x54 =>
    bnd (pLoad Try.prog 29 x54 x48.2) fun x55 =>
    bnd (callV inv x55 #[x49] x48.2) fun x57 =>
    bnd (pExtract x57.1 0) fun x58 =>
    bnd (pExtract x57.1 1) fun x59 =>
    G15_16 inv x0 x49 x58 x59 x57.2 fun y67 h_2 =>
    brV y67
    (some (.tuple #[(.slice none 0 0), (.int .i64 4)], h_2))
    (some (.tuple #[x49, (.int .i64 0)], h_2))))))
theorem F15_eq : eFun env k inv 15 #[x0] h = F15 inv k x0 h := by
      refine (kq_fun (a := act 69 [(0, x0)]) (c := cp c15 1)).trans ?_
      unfold F15
      simp only [kq_seq c15 1, r15_0, kq_seq c15 3, r15_1, kq_seq c15 7, r15_2, kq_seq c15 15, kq_seq c15 30, r15_3, b15_rlrrr, kq_seq c15 122, r15_4, kq_ret c15 245, res15_0, kq_skip c15 123, kq_seq c15 31, r15_5, kq_seq c15 63, kq_seq c15 126, r15_6, b15_rlrrrrr, kq_seq c15 506, r15_7, kq_ret c15 1013, kq_skip c15 507, kq_seq c15 127, r15_8, kq_seq c15 255, kq_seq c15 510, r15_9, b15_rlrrrrrrr, kq_seq c15 2042, r15_10, kq_ret c15 4085, kq_skip c15 2043, kq_seq c15 511, r15_11, kq_seq c15 1023, r15_12, kq_seq c15 2047, kq_seq c15 4094, r15_13, b15_rlrrrrrrrrrr, kq_seq c15 16378, r15_14, kq_ret c15 32757, kq_skip c15 16379, kq_seq c15 4095, kq_seq c15 8190, r15_15, kq_seq c15 16381, r15_16, b15_rrlrrrrrrrrrrr, kq_seq c15 65526, r15_17, kq_ret c15 131053, kq_skip c15 65527, kq_seq c15 8191, r15_18, kq_ret c15 16383, reduceIte, reduceCtorEq, XE.exit.injEq, Nat.reduceEqDiff, Nat.reduceMul, Nat.reduceAdd] <;> kernel_rfl
theorem F15_call : eInv env (k + 1) (.func 15) #[] #[x0] h = F15 (eInv env k) k x0 h := kq_inv F15_eq
noncomputable def c16 : Code := codeOf Try.prog 16
theorem r16_0  : kCode env 16 false inv k (cp c16 2) (act 14 [(0, x0)]) h K =
    K .normal (act 14 [(0, x0)]) h := kq_reg
theorem r16_1  : kCode env 16 false inv k (cp c16 6) (act 14 [(0, x0)]) h K =
    bnd (inv (.func 15) #[] #[x0] h) fun x8 =>
    bnd (pExtract x8.1 0) fun x9 =>
    bnd (pExtract x8.1 1) fun x10 =>
    K .normal (act 14 [(4, x9), (5, x10)]) x8.2 := kq_reg
theorem r16_2  : kCode env 16 false inv k (cp c16 14) (act 14 [(4, x4), (5, x5)]) h K =
    bnd (pLen Try.prog #[25] x4 h) fun x12 =>
    K .normal (act 14 [(2, x12), (3, x5)]) h := kq_reg
theorem res16_0 : resOfFn env.P 16 .ret (act 14 [(2, x2), (3, x3)]) h = some (.tuple #[x2, x3], h) := kq_res
/-- shadowbook/ints.Count -/
noncomputable def F16 (inv : Inv) (k : Nat) (x0 : Value) (h : AH) : Option (Value × AH) :=
    bnd (inv (.func 15) #[] #[x0] h) fun x8 =>
    bnd (pExtract x8.1 0) fun x9 =>
    bnd (pExtract x8.1 1) fun x10 =>
    bnd (pLen Try.prog #[25] x9 x8.2) fun x12 =>
    some (.tuple #[x12, x10], x8.2)
theorem F16_eq : eFun env k inv 16 #[x0] h = F16 inv k x0 h := by
      refine (kq_fun (a := act 14 [(0, x0)]) (c := cp c16 1)).trans ?_
      unfold F16
      simp only [kq_seq c16 1, r16_0, kq_seq c16 3, r16_1, kq_seq c16 7, r16_2, kq_ret c16 15, res16_0, reduceIte, reduceCtorEq, XE.exit.injEq, Nat.reduceEqDiff, Nat.reduceMul, Nat.reduceAdd] <;> kernel_rfl
theorem F16_call : eInv env (k + 1) (.func 16) #[] #[x0] h = F16 (eInv env k) k x0 h := kq_inv F16_eq
noncomputable def c17 : Code := codeOf Try.prog 17
theorem r17_0  : kCode env 17 false inv k (cp c17 2) (act 26 [(0, x0), (1, x1)]) h K =
    K .normal (act 26 [(0, x0), (1, x1)]) h := kq_reg
theorem r17_1  : kCode env 17 false inv k (cp c17 12) (act 26 [(0, x0), (1, x1)]) h K =
    bnd (pLen Try.prog #[25] x0 h) fun x7 =>
    bnd (pLen Try.prog #[25] x1 h) fun x9 =>
    bnd (pBin Try.prog .neq 3 (.tmp 7) (.tmp 9) x7 x9) fun x10 =>
    K .normal (act 26 [(0, x0), (1, x1), (10, x10)]) h := kq_reg
theorem b17_rlr  : kCode env 17 false inv k (cp c17 13) (act 26 [(0, x0), (1, x1), (10, x10)]) h K = brV x10 (kCode env 17 false inv k (cp c17 26) (act 26 [(0, x0), (1, x1), (10, x10)]) h K) (kCode env 17 false inv k (cp c17 27) (act 26 [(0, x0), (1, x1), (10, x10)]) h K) := kq_cond
theorem r17_2  : kCode env 17 false inv k (cp c17 52) (act 26 [(0, x0), (1, x1), (10, x10)]) h K =
    K .normal (act 26 [(4, (.bool false))]) h := kq_reg
theorem res17_0 : resOfFn env.P 17 .ret (act 26 [(4, x4)]) h = some (x4, h) := kq_res
theorem r17_3  : kCode env 17 false inv k (cp c17 28) (act 26 [(0, x0), (1, x1), (10, x10)]) h K =
    K .normal (act 26 [(0, x0), (1, x1), (5, (.int .i64 0))]) h := kq_reg
theorem r17_4  : kCode env 17 false inv k (cp c17 464) (act 26 [(0, x0), (1, x1), (5, x5)]) h K =
    bnd (pLen Try.prog #[25] x0 h) fun x13 =>
    bnd (pBin Try.prog .lss 3 (.tmp 11) (.tmp 13) x5 x13) fun x14 =>
    K .normal (act 26 [(0, x0), (1, x1), (5, x5), (14, x14)]) h := kq_reg
theorem b17_rlllrlrr  : kCode env 17 false inv k (cp c17 465) (act 26 [(0, x0), (1, x1), (5, x5), (14, x14)]) h K = brV x14 (kCode env 17 false inv k (cp c17 930) (act 26 [(0, x0), (1, x1), (5, x5), (14, x14)]) h K) (kCode env 17 false inv k (cp c17 931) (act 26 [(0, x0), (1, x1), (5, x5), (14, x14)]) h K) := kq_cond
theorem r17_6  : kCode env 17 false inv k (cp c17 1864) (act 26 [(0, x0), (1, x1), (5, x5), (14, x14)]) h K =
    bnd (pIndexAddr Try.prog 25 x0 x5) fun x19 =>
    bnd (pLoad Try.prog 2 x19 h) fun x20 =>
    bnd (pIndexAddr Try.prog 25 x1 x5) fun x23 =>
    bnd (pLoad Try.prog 2 x23 h) fun x24 =>
    bnd (pBin Try.prog .neq 2 (.tmp 20) (.tmp 24) x20 x24) fun x25 =>
    K .normal (act 26 [(0, x0), (1, x1), (5, x5), (25, x25)]) h := kq_draw
theorem b17_rllrllrlrr  : kCode env 17 false inv k (cp c17 1865) (act 26 [(0, x0), (1, x1), (5, x5), (25, x25)]) h K = brV x25 (kCode env 17 false inv k (cp c17 3730) (act 26 [(0, x0), (1, x1), (5, x5), (25, x25)]) h K) (kCode env 17 false inv k (cp c17 3731) (act 26 [(0, x0), (1, x1), (5, x5), (25, x25)]) h K) := kq_cond
theorem r17_7  : kCode env 17 false inv k (cp c17 7460) (act 26 [(0, x0), (1, x1), (5, x5), (25, x25)]) h K =
    K .normal (act 26 [(4, (.bool false))]) h := kq_reg
theorem r17_5  : kCode env 17 false inv k (cp c17 467) (act 26 [(0, x0), (1, x1), (5, x5), (25, x25)]) h K =
    bnd (pBin Try.prog .add 3 (.tmp 15) (.const (.int .i64 1)) x5 (.int .i64 1)) fun x16 =>
    K .normal (act 26 [(0, x0), (1, x1), (5, x16)]) h := kq_reg
noncomputable def F17_lrlrr {β : Type} (inv : Inv) (k : Nat) : Nat → Value → Value → Value → AH → (Value → Value → Value → Value → AH → Option β) → (Value → AH → Option β) → Option β
  | 0, _, _, _, _, _, _ => none
  | j + 1, x0, x1, x5, h, ke0, kr =>
    bnd (pLen Try.prog #[25] x0 h) fun x13 =>
    bnd (pBin Try.prog .lss 3 (.tmp 11) (.tmp 13) x5 x13) fun x14 =>
    brV x14
    (bnd (pIndexAddr Try.prog 25 x0 x5) fun x19 =>
    bnd (pLoad Try.prog 2 x19 h) fun x20 =>
    bnd (pIndexAddr Try.prog 25 x1 x5) fun x23 =>
    bnd (pLoad Try.prog 2 x23 h) fun x24 =>
    bnd (pBin Try.prog .neq 2 (.tmp 20) (.tmp 24) x20 x24) fun x25 =>
    brV x25
    (kr (.bool false) h)
    (bnd (pBin Try.prog .add 3 (.tmp 15) (.const (.int .i64 1)) x5 (.int .i64 1)) fun x16 =>
    F17_lrlrr inv k j x0 x1 x16 h ke0 kr))
    (ke0 x0 x1 x5 x14 h)
theorem F17_lrlrr_j (j : Nat) : kLoop (kCode env 17 false inv k (cp c17 116)) j (act 26 [(0, x0), (1, x1), (5, x5)]) h K = F17_lrlrr inv k j x0 x1 x5 h (fun y0 y1 y5 y14 h => K (.exit 0) (act 26 [(0, y0), (1, y1), (5, y5), (14, y14)]) h) (fun y4 h => K .ret (act 26 [(4, y4)]) h) := by
      induction j generalizing x0 x1 x5 h with
      | zero => rfl
      | succ j ih =>
        unfold F17_lrlrr
        simp only [kLoop, kq_seq c17 116, kq_seq c17 232, r17_4, b17_rlllrlrr, kq_skip c17 930, kq_seq c17 233, kq_block c17 466 1, kq_seq c17 932, r17_6, b17_rllrllrlrr, kq_seq c17 3730, r17_7, kq_ret c17 7461, kq_skip c17 3731, r17_5, kq_exit c17 931 0, ih, reduceIte, reduceCtorEq, XE.exit.injEq, Nat.reduceEqDiff, Nat.reduceMul, Nat.reduceAdd] <;> kernel_rfl
theorem F17_lrlrr_eq  : kCode env 17 false inv k (cp c17 58) (act 26 [(0, x0), (1, x1), (5, x5)]) h K = F17_lrlrr inv k k x0 x1 x5 h (fun y0 y1 y5 y14 h => K (.exit 0) (act 26 [(0, y0), (1, y1), (5, y5), (14, y14)]) h) (fun y4 h => K .ret (act 26 [(4, y4)]) h) := kq_loop (F17_lrlrr_j k)
theorem r17_8  : kCode env 17 false inv k (cp c17 30) (act 26 [(0, x0), (1, x1), (5, x5), (14, x14)]) h K =
    K .normal (act 26 [(4, (.bool true))]) h := kq_reg
/-- shadowbook/shadowbookkit.Same[int64] -/
noncomputable def F17 (inv : Inv) (k : Nat) (x0 x1 : Value) (h : AH) : Option (Value × AH) :=
    bnd (pLen Try.prog #[25] x0 h) fun x7 =>
    bnd (pLen Try.prog #[25] x1 h) fun x9 =>
    bnd (pBin Try.prog .neq 3 (.tmp 7) (.tmp 9) x7 x9) fun x10 =>
    brV x10
    (some ((.bool false), h))
    (F17_lrlrr inv k k x0 x1 (.int .i64 0) h
    (fun y0 y1 y5 y14 h =>
    some ((.bool true), h))
    (fun y4 h_1 =>
    some (y4, h_1)))
theorem F17_eq : eFun env k inv 17 #[x0, x1] h = F17 inv k x0 x1 h := by
      refine (kq_fun (a := act 26 [(0, x0), (1, x1)]) (c := cp c17 1)).trans ?_
      unfold F17
      simp only [kq_seq c17 1, r17_0, kq_seq c17 3, kq_seq c17 6, r17_1, b17_rlr, kq_seq c17 26, r17_2, kq_ret c17 53, res17_0, kq_skip c17 27, kq_seq c17 7, kq_seq c17 14, r17_3, kq_block c17 29 0, F17_lrlrr_eq, kq_seq c17 15, r17_8, kq_ret c17 31, reduceIte, reduceCtorEq, XE.exit.injEq, Nat.reduceEqDiff, Nat.reduceMul, Nat.reduceAdd] <;> kernel_rfl
theorem F17_call : eInv env (k + 1) (.func 17) #[] #[x0, x1] h = F17 (eInv env k) k x0 x1 h := kq_inv F17_eq
noncomputable def c18 : Code := codeOf Try.prog 18
theorem r18_0  : kCode env 18 false inv k (cp c18 2) (act 26 [(0, x0)]) h K =
    K .normal (act 26 [(0, x0)]) h := kq_reg
theorem r18_1  : kCode env 18 false inv k (cp c18 12) (act 26 [(0, x0)]) h K =
    bnd (pLen Try.prog #[25] x0 h) fun x7 =>
    bnd (pBin Try.prog .gtr 3 (.tmp 7) (.const (.int .i64 4096)) x7 (.int .i64 4096)) fun x8 =>
    K .normal (act 26 [(0, x0), (8, x8)]) h := kq_reg
theorem b18_rlr  : kCode env 18 false inv k (cp c18 13) (act 26 [(0, x0), (8, x8)]) h K = brV x8 (kCode env 18 false inv k (cp c18 26) (act 26 [(0, x0), (8, x8)]) h K) (kCode env 18 false inv k (cp c18 27) (act 26 [(0, x0), (8, x8)]) h K) := kq_cond
theorem r18_2  : kCode env 18 false inv k (cp c18 52) (act 26 [(0, x0), (8, x8)]) h K =
    K .normal (act 26 [(2, (.slice none 0 0)), (3, (.int .i64 3))]) h := kq_reg
theorem res18_0 : resOfFn env.P 18 .ret (act 26 [(2, x2), (3, x3)]) h = some (.tuple #[x2, x3], h) := kq_res
theorem r18_3  : kCode env 18 false inv k (cp c18 14) (act 26 [(0, x0), (8, x8)]) h K =
    bnd (pLen Try.prog #[25] x0 h) fun x10 =>
    bnd (inv (.func 40) #[] #[(.int .u8 1), x10] h) fun x11 =>
    K .normal (act 26 [(0, x0), (4, x11.1)]) x11.2 := kq_reg
theorem r18_4  : kCode env 18 false inv k (cp c18 60) (act 26 [(0, x0), (4, x4)]) h K =
    K .normal (act 26 [(0, x0), (4, x4), (5, (.int .i64 0))]) h := kq_reg
theorem r18_5  : kCode env 18 false inv k (cp c18 976) (act 26 [(0, x0), (4, x4), (5, x5)]) h K =
    bnd (pLen Try.prog #[25] x0 h) fun x14 =>
    bnd (pBin Try.prog .lss 3 (.tmp 12) (.tmp 14) x5 x14) fun x15 =>
    K .normal (act 26 [(0, x0), (4, x4), (5, x5), (15, x15)]) h := kq_reg
theorem b18_rlllrlrrr  : kCode env 18 false inv k (cp c18 977) (act 26 [(0, x0), (4, x4), (5, x5), (15, x15)]) h K = brV x15 (kCode env 18 false inv k (cp c18 1954) (act 26 [(0, x0), (4, x4), (5, x5), (15, x15)]) h K) (kCode env 18 false inv k (cp c18 1955) (act 26 [(0, x0), (4, x4), (5, x5), (15, x15)]) h K) := kq_cond
theorem r18_7  : kCode env 18 false inv k (cp c18 1956) (act 26 [(0, x0), (4, x4), (5, x5), (15, x15)]) h K =
    bnd (pIndexAddr Try.prog 25 x0 x5) fun x21 =>
    bnd (pLoad Try.prog 2 x21 h) fun x22 =>
    bnd (pConv Try.prog 2 51 x22 h) fun x23 =>
    bnd (inv (.func 41) #[] #[x4, x23, (.int .i64 8)] h) fun x24 =>
    K .normal (act 26 [(0, x0), (4, x24.1), (5, x5)]) x24.2 := kq_reg
theorem r18_6  : kCode env 18 false inv k (cp c18 979) (act 26 [(0, x0), (4, x4), (5, x5)]) h K =
    bnd (pBin Try.prog .add 3 (.tmp 16) (.const (.int .i64 1)) x5 (.int .i64 1)) fun x17 =>
    K .normal (act 26 [(0, x0), (4, x4), (5, x17)]) h := kq_reg
noncomputable def F18_lrlrrr {β : Type} (inv : Inv) (k : Nat) : Nat → Value → Value → Value → AH → (Value → Value → Value → Value → AH → Option β) → Option β
  | 0, _, _, _, _, _ => none
  | j + 1, x0, x4, x5, h, ke0 =>
    bnd (pLen Try.prog #[25] x0 h) fun x14 =>
    bnd (pBin Try.prog .lss 3 (.tmp 12) (.tmp 14) x5 x14) fun x15 =>
    brV x15
    (bnd (pIndexAddr Try.prog 25 x0 x5) fun x21 =>
    bnd (pLoad Try.prog 2 x21 h) fun x22 =>
    bnd (pConv Try.prog 2 51 x22 h) fun x23 =>
    bnd (inv (.func 41) #[] #[x4, x23, (.int .i64 8)] h) fun x24 =>
    bnd (pBin Try.prog .add 3 (.tmp 16) (.const (.int .i64 1)) x5 (.int .i64 1)) fun x17 =>
    F18_lrlrrr inv k j x0 x24.1 x17 x24.2 ke0)
    (ke0 x0 x4 x5 x15 h)
theorem F18_lrlrrr_j (j : Nat) : kLoop (kCode env 18 false inv k (cp c18 244)) j (act 26 [(0, x0), (4, x4), (5, x5)]) h K = F18_lrlrrr inv k j x0 x4 x5 h (fun y0 y4 y5 y15 h => K (.exit 0) (act 26 [(0, y0), (4, y4), (5, y5), (15, y15)]) h) := by
      induction j generalizing x0 x4 x5 h with
      | zero => rfl
      | succ j ih =>
        unfold F18_lrlrrr
        simp only [kLoop, kq_seq c18 244, kq_seq c18 488, r18_5, b18_rlllrlrrr, kq_skip c18 1954, kq_seq c18 489, kq_block c18 978 1, r18_7, r18_6, kq_exit c18 1955 0, ih, reduceIte, reduceCtorEq, XE.exit.injEq, Nat.reduceEqDiff, Nat.reduceMul, Nat.reduceAdd] <;> kernel_rfl
theorem F18_lrlrrr_eq  : kCode env 18 false inv k (cp c18 122) (act 26 [(0, x0), (4, x4), (5, x5)]) h K = F18_lrlrrr inv k k x0 x4 x5 h (fun y0 y4 y5 y15 h => K (.exit 0) (act 26 [(0, y0), (4, y4), (5, y5), (15, y15)]) h) := kq_loop (F18_lrlrrr_j k)
theorem r18_8  : kCode env 18 false inv k (cp c18 62) (act 26 [(0, x0), (4, x4), (5, x5), (15, x15)]) h K =
    K .normal (act 26 [(2, x4), (3, (.int .i64 0))]) h := kq_reg
/-- shadowbook/shadowbookref06.Plain -/
noncomputable def F18 (inv : Inv) (k : Nat) (x0 : Value) (h : AH) : Option (Value × AH) :=
    bnd (pLen Try.prog #[25] x0 h) fun x7 =>
    bnd (pBin Try.prog .gtr 3 (.tmp 7) (.const (.int .i64 4096)) x7 (.int .i64 4096)) fun x8 =>
    brV x8
    (some (.tuple #[(.slice none 0 0), (.int .i64 3)], h))
    (bnd (pLen Try.prog #[25] x0 h) fun x10 =>
    bnd (inv (.func 40) #[] #[(.int .u8 1), x10] h) fun x11 =>
    F18_lrlrrr inv k k x0 x11.1 (.int .i64 0) x11.2
    (fun y0 y4 y5 y15 h =>
    some (.tuple #[y4, (.int .i64 0)], h)))
theorem F18_eq : eFun env k inv 18 #[x0] h = F18 inv k x0 h := by
      refine (kq_fun (a := act 26 [(0, x0)]) (c := cp c18 1)).trans ?_
      unfold F18
      simp only [kq_seq c18 1, r18_0, kq_seq c18 3, kq_seq c18 6, r18_1, b18_rlr, kq_seq c18 26, r18_2, kq_ret c18 53, res18_0, kq_skip c18 27, kq_seq c18 7, r18_3, kq_seq c18 15, kq_seq c18 30, r18_4, kq_block c18 61 0, F18_lrlrrr_eq, kq_seq c18 31, r18_8, kq_ret c18 63, reduceIte, reduceCtorEq, XE.exit.injEq, Nat.reduceEqDiff, Nat.reduceMul, Nat.reduceAdd] <;> kernel_rfl
theorem F18_call : eInv env (k + 1) (.func 18) #[] #[x0] h = F18 (eInv env k) k x0 h := kq_inv F18_eq
noncomputable def c19 : Code := codeOf Try.prog 19
theorem r19_0  : kCode env 19 false inv k (cp c19 2) (act 50 [(0, x0)]) h K =
    K .normal (act 50 [(0, x0)]) h := kq_reg
theorem r19_1  : kCode env 19 false inv k (cp c19 12) (act 50 [(0, x0)]) h K =
    bnd (pLen Try.prog #[25] x0 h) fun x8 =>
    bnd (pBin Try.prog .gtr 3 (.tmp 8) (.const (.int .i64 4096)) x8 (.int .i64 4096)) fun x9 =>
    K .normal (act 50 [(0, x0), (9, x9)]) h := kq_reg
theorem b19_rlr  : kCode env 19 false inv k (cp c19 13) (act 50 [(0, x0), (9, x9)]) h K = brV x9 (kCode env 19 false inv k (cp c19 26) (act 50 [(0, x0), (9, x9)]) h K) (kCode env 19 false inv k (cp c19 27) (act 50 [(0, x0), (9, x9)]) h K) := kq_cond
theorem r19_2  : kCode env 19 false inv k (cp c19 52) (act 50 [(0, x0), (9, x9)]) h K =
    K .normal (act 50 [(2, (.slice none 0 0)), (3, (.int .i64 3))]) h := kq_reg
theorem res19_0 : resOfFn env.P 19 .ret (act 50 [(2, x2), (3, x3)]) h = some (.tuple #[x2, x3], h) := kq_res
theorem r19_3  : kCode env 19 false inv k (cp c19 14) (act 50 [(0, x0), (9, x9)]) h K =
    bnd (pLen Try.prog #[25] x0 h) fun x11 =>
    bnd (inv (.func 40) #[] #[(.int .u8 2), x11] h) fun x12 =>
    K .normal (act 50 [(0, x0), (4, x12.1)]) x12.2 := kq_reg
theorem r19_4  : kCode env 19 false inv k (cp c19 60) (act 50 [(0, x0), (4, x4)]) h K =
    K .normal (act 50 [(0, x0), (4, x4), (5, (.int .i64 0))]) h := kq_reg
theorem r19_5  : kCode env 19 false inv k (cp c19 976) (act 50 [(0, x0), (4, x4), (5, x5)]) h K =
    bnd (pLen Try.prog #[25] x0 h) fun x15 =>
    bnd (pBin Try.prog .lss 3 (.tmp 13) (.tmp 15) x5 x15) fun x16 =>
    K .normal (act 50 [(0, x0), (4, x4), (5, x5), (16, x16)]) h := kq_reg
theorem b19_rlllrlrrr  : kCode env 19 false inv k (cp c19 977) (act 50 [(0, x0), (4, x4), (5, x5), (16, x16)]) h K = brV x16 (kCode env 19 false inv k (cp c19 1954) (act 50 [(0, x0), (4, x4), (5, x5), (16, x16)]) h K) (kCode env 19 false inv k (cp c19 1955) (act 50 [(0, x0), (4, x4), (5, x5), (16, x16)]) h K) := kq_cond
theorem r19_6  : kCode env 19 false inv k (cp c19 1956) (act 50 [(0, x0), (4, x4), (5, x5), (16, x16)]) h K =
    K .normal (act 50 [(0, x0), (4, x4), (5, x5), (6, x5)]) h := kq_reg
noncomputable abbrev G19_7 {β : Type} (inv : Inv) (x0 x4 x5 x6 : Value) (h : AH) (K : Value → AH → Option β) : Option β :=
    bnd (pLen Try.prog #[25] x0 h) fun x20 =>
    bnd (pBin Try.prog .lss 3 (.tmp 18) (.tmp 20) x6 x20) fun x21 =>
    bnd (gd3 (some x21) true h (some (x0, h))) fun x23 =>
    bnd (gd3 (some x21) true x23.2.1 (some (x6, x23.2.1))) fun x24 =>
    bnd (gd3 (some x21) true x24.2.1 (lt (pIndexAddr Try.prog 25 x23.1 x24.1) x24.2.1)) fun x25 =>
    bnd (gd3 (some x21) true x25.2.1 (lt (pLoad Try.prog 2 x25.1 x25.2.1) x25.2.1)) fun x26 =>
    bnd (gd3 (some x21) true x26.2.1 (some (x0, x26.2.1))) fun x27 =>
    bnd (gd3 (some x21) true x27.2.1 (some (x5, x27.2.1))) fun x28 =>
    bnd (gd3 (some x21) true x28.2.1 (lt (pIndexAddr Try.prog 25 x27.1 x28.1) x28.2.1)) fun x29 =>
    bnd (gd3 (some x21) true x29.2.1 (lt (pLoad Try.prog 2 x29.1 x29.2.1) x29.2.1)) fun x30 =>
    bnd (gd3 (some x21) true x30.2.1 (lt (pBin Try.prog .eql 2 (.tmp 26) (.tmp 30) x26.1 x30.1) x30.2.1)) fun x31 =>
    bnd (pickV x21 x31.1 (.bool false)) fun x32 =>
    K (x32) x31.2.1
theorem r19_7  : kCode env 19 false inv k (cp c19 62624) (act 50 [(0, x0), (4, x4), (5, x5), (6, x6)]) h K =
    G19_7 inv x0 x4 x5 x6 h fun y32 h => K .normal (act 50 [(0, x0), (4, x4), (5, x5), (6, x6), (32, y32)]) h := kq_draw
theorem b19_rllllrlrllrlrrr  : kCode env 19 false inv k (cp c19 62625) (act 50 [(0, x0), (4, x4), (5, x5), (6, x6), (32, x32)]) h K = brV x32 (kCode env 19 false inv k (cp c19 125250) (act 50 [(0, x0), (4, x4), (5, x5), (6, x6), (32, x32)]) h K) (kCode env 19 false inv k (cp c19 125251) (act 50 [(0, x0), (4, x4), (5, x5), (6, x6), (32, x32)]) h K) := kq_cond
theorem r19_8  : kCode env 19 false inv k (cp c19 62626) (act 50 [(0, x0), (4, x4), (5, x5), (6, x6), (32, x32)]) h K =
    bnd (pBin Try.prog .add 3 (.tmp 33) (.const (.int .i64 1)) x6 (.int .i64 1)) fun x34 =>
    K .normal (act 50 [(0, x0), (4, x4), (5, x5), (6, x34)]) h := kq_reg
noncomputable def F19_llrlrllrlrrr {β : Type} (inv : Inv) (k : Nat) : Nat → Value → Value → Value → Value → AH → (Value → Value → Value → Value → Value → AH → Option β) → Option β
  | 0, _, _, _, _, _, _ => none
  | j + 1, x0, x4, x5, x6, h, ke2 =>
    G19_7 inv x0 x4 x5 x6 h fun y32 h =>
    brV y32
    (bnd (pBin Try.prog .add 3 (.tmp 33) (.const (.int .i64 1)) x6 (.int .i64 1)) fun x34 =>
    F19_llrlrllrlrrr inv k j x0 x4 x5 x34 h ke2)
    (ke2 x0 x4 x5 x6 y32 h)
theorem F19_llrlrllrlrrr_j (j : Nat) : kLoop (kCode env 19 false inv k (cp c19 15656)) j (act 50 [(0, x0), (4, x4), (5, x5), (6, x6)]) h K = F19_llrlrllrlrrr inv k j x0 x4 x5 x6 h (fun y0 y4 y5 y6 y32 h => K (.exit 2) (act 50 [(0, y0), (4, y4), (5, y5), (6, y6), (32, y32)]) h) := by
      induction j generalizing x0 x4 x5 x6 h with
      | zero => rfl
      | succ j ih =>
        unfold F19_llrlrllrlrrr
        simp only [kLoop, kq_seq c19 15656, kq_seq c19 31312, r19_7, b19_rllllrlrllrlrrr, kq_skip c19 125250, kq_block c19 31313 3, r19_8, kq_exit c19 125251 2, ih, reduceIte, reduceCtorEq, XE.exit.injEq, Nat.reduceEqDiff, Nat.reduceMul, Nat.reduceAdd] <;> kernel_rfl
theorem F19_llrlrllrlrrr_eq  : kCode env 19 false inv k (cp c19 7828) (act 50 [(0, x0), (4, x4), (5, x5), (6, x6)]) h K = F19_llrlrllrlrrr inv k k x0 x4 x5 x6 h (fun y0 y4 y5 y6 y32 h => K (.exit 2) (act 50 [(0, y0), (4, y4), (5, y5), (6, y6), (32, y32)]) h) := kq_loop (F19_llrlrllrlrrr_j k)
theorem r19_9  : kCode env 19 false inv k (cp c19 7830) (act 50 [(0, x0), (4, x4), (5, x5), (6, x6), (32, x32)]) h K =
    bnd (pBin Try.prog .sub 3 (.tmp 36) (.tmp 37) x6 x5) fun x38 =>
    bnd (pConv Try.prog 3 51 x38 h) fun x39 =>
    bnd (inv (.func 42) #[] #[x4, x39] h) fun x40 =>
    K .normal (act 50 [(0, x0), (4, x40.1), (5, x5), (6, x6)]) x40.2 := kq_reg
theorem r19_10  : kCode env 19 false inv k (cp c19 15662) (act 50 [(0, x0), (4, x4), (5, x5), (6, x6)]) h K =
    bnd (pIndexAddr Try.prog 25 x0 x5) fun x44 =>
    bnd (pLoad Try.prog 2 x44 h) fun x45 =>
    bnd (pConv Try.prog 2 51 x45 h) fun x46 =>
    bnd (inv (.func 41) #[] #[x4, x46, (.int .i64 8)] h) fun x47 =>
    K .normal (act 50 [(0, x0), (4, x47.1), (6, x6)]) x47.2 := kq_reg
theorem r19_11  : kCode env 19 false inv k (cp c19 15663) (act 50 [(0, x0), (4, x4), (6, x6)]) h K =
    K .normal (act 50 [(0, x0), (4, x4), (5, x6)]) h := kq_reg
noncomputable def F19_lrlrrr {β : Type} (inv : Inv) (k : Nat) : Nat → Value → Value → Value → AH → (Value → Value → Value → Value → AH → Option β) → Option β
  | 0, _, _, _, _, _ => none
  | j + 1, x0, x4, x5, h, ke0 =>
    bnd (pLen Try.prog #[25] x0 h) fun x15 =>
    bnd (pBin Try.prog .lss 3 (.tmp 13) (.tmp 15) x5 x15) fun x16 =>
    brV x16
    (F19_llrlrllrlrrr inv k k x0 x4 x5 x5 h
    (fun y0 y4 y5 y6 y32 h =>
    bnd (pBin Try.prog .sub 3 (.tmp 36) (.tmp 37) y6 y5) fun x38 =>
    bnd (pConv Try.prog 3 51 x38 h) fun x39 =>
    bnd (inv (.func 42) #[] #[y4, x39] h) fun x40 =>
    bnd (pIndexAddr Try.prog 25 y0 y5) fun x44 =>
    bnd (pLoad Try.prog 2 x44 x40.2) fun x45 =>
    bnd (pConv Try.prog 2 51 x45 x40.2) fun x46 =>
    bnd (inv (.func 41) #[] #[x40.1, x46, (.int .i64 8)] x40.2) fun x47 =>
    F19_lrlrrr inv k j y0 x47.1 y6 x47.2 ke0))
    (ke0 x0 x4 x5 x16 h)
theorem F19_lrlrrr_j (j : Nat) : kLoop (kCode env 19 false inv k (cp c19 244)) j (act 50 [(0, x0), (4, x4), (5, x5)]) h K = F19_lrlrrr inv k j x0 x4 x5 h (fun y0 y4 y5 y16 h => K (.exit 0) (act 50 [(0, y0), (4, y4), (5, y5), (16, y16)]) h) := by
      induction j generalizing x0 x4 x5 h with
      | zero => rfl
      | succ j ih =>
        unfold F19_lrlrrr
        simp only [kLoop, kq_seq c19 244, kq_seq c19 488, r19_5, b19_rlllrlrrr, kq_skip c19 1954, kq_block c19 489 1, kq_seq c19 978, r19_6, kq_seq c19 1957, kq_block c19 3914 2, F19_llrlrllrlrrr_eq, kq_seq c19 3915, r19_9, kq_seq c19 7831, r19_10, r19_11, kq_exit c19 1955 0, ih, reduceIte, reduceCtorEq, XE.exit.injEq, Nat.reduceEqDiff, Nat.reduceMul, Nat.reduceAdd] <;> kernel_rfl
theorem F19_lrlrrr_eq  : kCode env 19 false inv k (cp c19 122) (act 50 [(0, x0), (4, x4), (5, x5)]) h K = F19_lrlrrr inv k k x0 x4 x5 h (fun y0 y4 y5 y16 h => K (.exit 0) (act 50 [(0, y0), (4, y4), (5, y5), (16, y16)]) h) := kq_loop (F19_lrlrrr_j k)
theorem r19_12  : kCode env 19 false inv k (cp c19 62) (act 50 [(0, x0), (4, x4), (5, x5), (16, x16)]) h K =
    K .normal (act 50 [(2, x4), (3, (.int .i64 0))]) h := kq_reg
/-- shadowbook/shadowbookref06.Runs -/
noncomputable def F19 (inv : Inv) (k : Nat) (x0 : Value) (h : AH) : Option (Value × AH) :=
    bnd (pLen Try.prog #[25] x0 h) fun x8 =>
    bnd (pBin Try.prog .gtr 3 (.tmp 8) (.const (.int .i64 4096)) x8 (.int .i64 4096)) fun x9 =>
    brV x9
    (some (.tuple #[(.slice none 0 0), (.int .i64 3)], h))
    (bnd (pLen Try.prog #[25] x0 h) fun x11 =>
    bnd (inv (.func 40) #[] #[(.int .u8 2), x11] h) fun x12 =>
    F19_lrlrrr inv k k x0 x12.1 (.int .i64 0) x12.2
    (fun y0 y4 y5 y16 h =>
    some (.tuple #[y4, (.int .i64 0)], h)))
theorem F19_eq : eFun env k inv 19 #[x0] h = F19 inv k x0 h := by
      refine (kq_fun (a := act 50 [(0, x0)]) (c := cp c19 1)).trans ?_
      unfold F19
      simp only [kq_seq c19 1, r19_0, kq_seq c19 3, kq_seq c19 6, r19_1, b19_rlr, kq_seq c19 26, r19_2, kq_ret c19 53, res19_0, kq_skip c19 27, kq_seq c19 7, r19_3, kq_seq c19 15, kq_seq c19 30, r19_4, kq_block c19 61 0, F19_lrlrrr_eq, kq_seq c19 31, r19_12, kq_ret c19 63, reduceIte, reduceCtorEq, XE.exit.injEq, Nat.reduceEqDiff, Nat.reduceMul, Nat.reduceAdd] <;> kernel_rfl
theorem F19_call : eInv env (k + 1) (.func 19) #[] #[x0] h = F19 (eInv env k) k x0 h := kq_inv F19_eq
noncomputable def c20 : Code := codeOf Try.prog 20
theorem r20_0  : kCode env 20 false inv k (cp c20 2) (act 73 [(0, x0)]) h K =
    K .normal (act 73 [(0, x0)]) h := kq_reg
theorem r20_1  : kCode env 20 false inv k (cp c20 12) (act 73 [(0, x0)]) h K =
    bnd (pLen Try.prog #[25] x0 h) fun x13 =>
    bnd (pBin Try.prog .gtr 3 (.tmp 13) (.const (.int .i64 4096)) x13 (.int .i64 4096)) fun x14 =>
    K .normal (act 73 [(0, x0), (14, x14)]) h := kq_reg
theorem b20_rlr  : kCode env 20 false inv k (cp c20 13) (act 73 [(0, x0), (14, x14)]) h K = brV x14 (kCode env 20 false inv k (cp c20 26) (act 73 [(0, x0), (14, x14)]) h K) (kCode env 20 false inv k (cp c20 27) (act 73 [(0, x0), (14, x14)]) h K) := kq_cond
theorem r20_2  : kCode env 20 false inv k (cp c20 52) (act 73 [(0, x0), (14, x14)]) h K =
    K .normal (act 73 [(2, (.slice none 0 0)), (3, (.int .i64 3))]) h := kq_reg
theorem res20_0 : resOfFn env.P 20 .ret (act 73 [(2, x2), (3, x3)]) h = some (.tuple #[x2, x3], h) := kq_res
theorem r20_3  : kCode env 20 false inv k (cp c20 14) (act 73 [(0, x0), (14, x14)]) h K =
    K .normal (act 73 [(0, x0), (4, (.int .i64 0))]) h := kq_reg
theorem r20_4  : kCode env 20 false inv k (cp c20 60) (act 73 [(0, x0), (4, x4)]) h K =
    K .normal (act 73 [(0, x0), (4, x4), (5, (.int .i64 0))]) h := kq_reg
theorem r20_5  : kCode env 20 false inv k (cp c20 976) (act 73 [(0, x0), (4, x4), (5, x5)]) h K =
    bnd (pLen Try.prog #[25] x0 h) fun x17 =>
    bnd (pBin Try.prog .lss 3 (.tmp 15) (.tmp 17) x5 x17) fun x18 =>
    K .normal (act 73 [(0, x0), (4, x4), (5, x5), (18, x18)]) h := kq_reg
theorem b20_rlllrlrrr  : kCode env 20 false inv k (cp c20 977) (act 73 [(0, x0), (4, x4), (5, x5), (18, x18)]) h K = brV x18 (kCode env 20 false inv k (cp c20 1954) (act 73 [(0, x0), (4, x4), (5, x5), (18, x18)]) h K) (kCode env 20 false inv k (cp c20 1955) (act 73 [(0, x0), (4, x4), (5, x5), (18, x18)]) h K) := kq_cond
noncomputable abbrev G20_7 {β : Type} (inv : Inv) (x0 x4 x5 : Value) (h : AH) (K : Value → AH → Option β) : Option β :=
    bnd (pBin Try.prog .eql 3 (.tmp 21) (.const (.int .i64 0)) x5 (.int .i64 0)) fun x22 =>
    bnd (gd (some x22) false h (some (x0, h))) fun x24 =>
    bnd (gd (some x22) false x24.2 (some (x5, x24.2))) fun x25 =>
    bnd (gd (some x22) false x25.2 (lt (pIndexAddr Try.prog 25 x24.1 x25.1) x25.2)) fun x26 =>
    bnd (gd (some x22) false x26.2 (lt (pLoad Try.prog 2 x26.1 x26.2) x26.2)) fun x27 =>
    bnd (gd (some x22) false x27.2 (some (x4, x27.2))) fun x28 =>
    bnd (gd (some x22) false x28.2 (lt (pBin Try.prog .lss 2 (.tmp 27) (.tmp 28) x27.1 x28.1) x28.2)) fun x29 =>
    bnd (pickV x22 (.bool true) x29.1) fun x30 =>
    K (x30) x29.2
theorem r20_7  : kCode env 20 false inv k (cp c20 3912) (act 73 [(0, x0), (4, x4), (5, x5), (18, x18)]) h K =
    G20_7 inv x0 x4 x5 h fun y30 h => K .normal (act 73 [(0, x0), (4, x4), (5, x5), (30, y30)]) h := kq_reg
theorem b20_rllrllrlrrr  : kCode env 20 false inv k (cp c20 3913) (act 73 [(0, x0), (4, x4), (5, x5), (30, x30)]) h K = brV x30 (kCode env 20 false inv k (cp c20 7826) (act 73 [(0, x0), (4, x4), (5, x5), (30, x30)]) h K) (kCode env 20 false inv k (cp c20 7827) (act 73 [(0, x0), (4, x4), (5, x5), (30, x30)]) h K) := kq_cond
theorem r20_8  : kCode env 20 false inv k (cp c20 7826) (act 73 [(0, x0), (4, x4), (5, x5), (30, x30)]) h K =
    bnd (pIndexAddr Try.prog 25 x0 x5) fun x33 =>
    bnd (pLoad Try.prog 2 x33 h) fun x34 =>
    K .normal (act 73 [(0, x0), (4, x34), (5, x5)]) h := kq_reg
noncomputable def F20_lrllrlrrr {β : Type} (inv : Inv) (k : Nat) (x0 x4 x5 x18 : Value) (h : AH) (kn : (Value → Value → Value → Value → AH → Option β)) : Option β :=
    G20_7 inv x0 x4 x5 h fun y30 h =>
    brV y30
    (bnd (pIndexAddr Try.prog 25 x0 x5) fun x33 =>
    bnd (pLoad Try.prog 2 x33 h) fun x34 =>
    kn x0 x34 x5 unk h)
    (kn x0 x4 x5 y30 h)
theorem F20_lrllrlrrr_eq  : kCode env 20 false inv k (cp c20 978) (act 73 [(0, x0), (4, x4), (5, x5), (18, x18)]) h K = F20_lrllrlrrr inv k x0 x4 x5 x18 h (fun y0 y4 y5 y30 h => K .normal (act 73 [(0, y0), (4, y4), (5, y5), (30, y30)]) h) := by
      unfold F20_lrllrlrrr
      simp only [kq_block c20 978 1, kq_seq c20 1956, r20_7, b20_rllrllrlrrr, r20_8, kq_skip c20 7827, reduceIte, reduceCtorEq, XE.exit.injEq, Nat.reduceEqDiff, Nat.reduceMul, Nat.reduceAdd] <;> kernel_rfl
theorem r20_6  : kCode env 20 false inv k (cp c20 979) (act 73 [(0, x0), (4, x4), (5, x5), (30, x30)]) h K =
    bnd (pBin Try.prog .add 3 (.tmp 19) (.const (.int .i64 1)) x5 (.int .i64 1)) fun x20 =>
    K .normal (act 73 [(0, x0), (4, x4), (5, x20)]) h := kq_reg
noncomputable def F20_lrlrrr {β : Type} (inv : Inv) (k : Nat) : Nat → Value → Value → Value → AH → (Value → Value → Value → Value → AH → Option β) → Option β
  | 0, _, _, _, _, _ => none
  | j + 1, x0, x4, x5, h, ke0 =>
    bnd (pLen Try.prog #[25] x0 h) fun x17 =>
    bnd (pBin Try.prog .lss 3 (.tmp 15) (.tmp 17) x5 x17) fun x18 =>
    brV x18
    (F20_lrllrlrrr inv k x0 x4 x5 x18 h
    (fun y0 y4 y5 y30 h =>
    bnd (pBin Try.prog .add 3 (.tmp 19) (.const (.int .i64 1)) y5 (.int .i64 1)) fun x20 =>
    F20_lrlrrr inv k j y0 y4 x20 h ke0))
    (ke0 x0 x4 x5 x18 h)
theorem F20_lrlrrr_j (j : Nat) : kLoop (kCode env 20 false inv k (cp c20 244)) j (act 73 [(0, x0), (4, x4), (5, x5)]) h K = F20_lrlrrr inv k j x0 x4 x5 h (fun y0 y4 y5 y18 h => K (.exit 0) (act 73 [(0, y0), (4, y4), (5, y5), (18, y18)]) h) := by
      induction j generalizing x0 x4 x5 h with
      | zero => rfl
      | succ j ih =>
        unfold F20_lrlrrr
        simp only [kLoop, kq_seq c20 244, kq_seq c20 488, r20_5, b20_rlllrlrrr, kq_skip c20 1954, kq_seq c20 489, F20_lrllrlrrr_eq, r20_6, kq_exit c20 1955 0, ih, reduceIte, reduceCtorEq, XE.exit.injEq, Nat.reduceEqDiff, Nat.reduceMul, Nat.reduceAdd] <;> kernel_rfl
theorem F20_lrlrrr_eq  : kCode env 20 false inv k (cp c20 122) (act 73 [(0, x0), (4, x4), (5, x5)]) h K = F20_lrlrrr inv k k x0 x4 x5 h (fun y0 y4 y5 y18 h => K (.exit 0) (act 73 [(0, y0), (4, y4), (5, y5), (18, y18)]) h) := kq_loop (F20_lrlrrr_j k)
theorem r20_9  : kCode env 20 false inv k (cp c20 62) (act 73 [(0, x0), (4, x4), (5, x5), (18, x18)]) h K =
    K .normal (act 73 [(0, x0), (4, x4), (6, (.slice none 0 0))]) h := kq_reg
theorem r20_10  : kCode env 20 false inv k (cp c20 252) (act 73 [(0, x0), (4, x4), (6, x6)]) h K =
    K .normal (act 73 [(0, x0), (4, x4), (6, x6), (7, (.int .i64 0))]) h := kq_reg
theorem r20_11  : kCode env 20 false inv k (cp c20 4048) (act 73 [(0, x0), (4, x4), (6, x6), (7, x7)]) h K =
    bnd (pLen Try.prog #[25] x0 h) fun x37 =>
    bnd (pBin Try.prog .lss 3 (.tmp 35) (.tmp 37) x7 x37) fun x38 =>
    K .normal (act 73 [(0, x0), (4, x4), (6, x6), (7, x7), (38, x38)]) h := kq_reg
theorem b20_rlllrlrrrrr  : kCode env 20 false inv k (cp c20 4049) (act 73 [(0, x0), (4, x4), (6, x6), (7, x7), (38, x38)]) h K = brV x38 (kCode env 20 false inv k (cp c20 8098) (act 73 [(0, x0), (4, x4), (6, x6), (7, x7), (38, x38)]) h K) (kCode env 20 false inv k (cp c20 8099) (act 73 [(0, x0), (4, x4), (6, x6), (7, x7), (38, x38)]) h K) := kq_cond
theorem r20_13  : kCode env 20 false inv k (cp c20 8100) (act 73 [(0, x0), (4, x4), (6, x6), (7, x7), (38, x38)]) h K =
    bnd (pIndexAddr Try.prog 25 x0 x7) fun x44 =>
    bnd (pLoad Try.prog 2 x44 h) fun x45 =>
    bnd (pConv Try.prog 2 51 x45 h) fun x46 =>
    bnd (pConv Try.prog 2 51 x4 h) fun x48 =>
    bnd (pBin Try.prog .sub 51 (.tmp 46) (.tmp 48) x46 x48) fun x49 =>
    bnd (pBuildSlice Try.prog 50 1 #[(0, x49)] h) fun x50 =>
    bnd (pAppend Try.prog #[50, 50] x6 x50.1 x50.2) fun x51 =>
    K .normal (act 73 [(0, x0), (4, x4), (6, x51.1), (7, x7)]) x51.2 := kq_reg
theorem r20_12  : kCode env 20 false inv k (cp c20 4051) (act 73 [(0, x0), (4, x4), (6, x6), (7, x7)]) h K =
    bnd (pBin Try.prog .add 3 (.tmp 39) (.const (.int .i64 1)) x7 (.int .i64 1)) fun x40 =>
    K .normal (act 73 [(0, x0), (4, x4), (6, x6), (7, x40)]) h := kq_reg
noncomputable def F20_lrlrrrrr {β : Type} (inv : Inv) (k : Nat) : Nat → Value → Value → Value → Value → AH → (Value → Value → Value → Value → Value → AH → Option β) → Option β
  | 0, _, _, _, _, _, _ => none
  | j + 1, x0, x4, x6, x7, h, ke2 =>
    bnd (pLen Try.prog #[25] x0 h) fun x37 =>
    bnd (pBin Try.prog .lss 3 (.tmp 35) (.tmp 37) x7 x37) fun x38 =>
    brV x38
    (bnd (pIndexAddr Try.prog 25 x0 x7) fun x44 =>
    bnd (pLoad Try.prog 2 x44 h) fun x45 =>
    bnd (pConv Try.prog 2 51 x45 h) fun x46 =>
    bnd (pConv Try.prog 2 51 x4 h) fun x48 =>
    bnd (pBin Try.prog .sub 51 (.tmp 46) (.tmp 48) x46 x48) fun x49 =>
    bnd (pBuildSlice Try.prog 50 1 #[(0, x49)] h) fun x50 =>
    bnd (pAppend Try.prog #[50, 50] x6 x50.1 x50.2) fun x51 =>
    bnd (pBin Try.prog .add 3 (.tmp 39) (.const (.int .i64 1)) x7 (.int .i64 1)) fun x40 =>
    F20_lrlrrrrr inv k j x0 x4 x51.1 x40 x51.2 ke2)
    (ke2 x0 x4 x6 x7 x38 h)
theorem F20_lrlrrrrr_j (j : Nat) : kLoop (kCode env 20 false inv k (cp c20 1012)) j (act 73 [(0, x0), (4, x4), (6, x6), (7, x7)]) h K = F20_lrlrrrrr inv k j x0 x4 x6 x7 h (fun y0 y4 y6 y7 y38 h => K (.exit 2) (act 73 [(0, y0), (4, y4), (6, y6), (7, y7), (38, y38)]) h) := by
      induction j generalizing x0 x4 x6 x7 h with
      | zero => rfl
      | succ j ih =>
        unfold F20_lrlrrrrr
        simp only [kLoop, kq_seq c20 1012, kq_seq c20 2024, r20_11, b20_rlllrlrrrrr, kq_skip c20 8098, kq_seq c20 2025, kq_block c20 4050 3, r20_13, r20_12, kq_exit c20 8099 2, ih, reduceIte, reduceCtorEq, XE.exit.injEq, Nat.reduceEqDiff, Nat.reduceMul, Nat.reduceAdd] <;> kernel_rfl
theorem F20_lrlrrrrr_eq  : kCode env 20 false inv k (cp c20 506) (act 73 [(0, x0), (4, x4), (6, x6), (7, x7)]) h K = F20_lrlrrrrr inv k k x0 x4 x6 x7 h (fun y0 y4 y6 y7 y38 h => K (.exit 2) (act 73 [(0, y0), (4, y4), (6, y6), (7, y7), (38, y38)]) h) := kq_loop (F20_lrlrrrrr_j k)
theorem r20_14  : kCode env 20 false inv k (cp c20 254) (act 73 [(0, x0), (4, x4), (6, x6), (7, x7), (38, x38)]) h K =
    bnd (inv (.func 43) #[] #[x6] h) fun x53 =>
    K .normal (act 73 [(0, x0), (4, x4), (6, x6), (8, x53.1)]) x53.2 := kq_reg
theorem r20_15  : kCode env 20 false inv k (cp c20 510) (act 73 [(0, x0), (4, x4), (6, x6), (8, x8)]) h K =
    bnd (inv (.func 44) #[] #[x6, x8] h) fun x57 =>
    bnd (pExtract x57.1 0) fun x58 =>
    bnd (pExtract x57.1 1) fun x59 =>
    K .normal (act 73 [(0, x0), (4, x4), (8, x8), (9, x58)]) x57.2 := kq_reg
theorem r20_16  : kCode env 20 false inv k (cp c20 1022) (act 73 [(0, x0), (4, x4), (8, x8), (9, x9)]) h K =
    bnd (pLen Try.prog #[25] x0 h) fun x61 =>
    bnd (inv (.func 40) #[] #[(.int .u8 3), x61] h) fun x62 =>
    bnd (pConv Try.prog 2 51 x4 x62.2) fun x64 =>
    bnd (inv (.func 41) #[] #[x62.1, x64, (.int .i64 8)] x62.2) fun x65 =>
    K .normal (act 73 [(8, x8), (9, x9), (11, x65.1)]) x65.2 := kq_reg
theorem r20_17  : kCode env 20 false inv k (cp c20 2046) (act 73 [(8, x8), (9, x9), (11, x11)]) h K =
    bnd (pConv Try.prog 3 5 x8 h) fun x68 =>
    bnd (pBuildSlice Try.prog 26 1 #[(0, x68)] h) fun x69 =>
    bnd (pAppend Try.prog #[26, 26] x11 x69.1 x69.2) fun x70 =>
    bnd (pAppend Try.prog #[26, 26] x70.1 x9 x70.2) fun x72 =>
    K .normal (act 73 [(2, x72.1), (3, (.int .i64 0))]) x72.2 := kq_reg
/-- shadowbook/shadowbookref06.Packed -/
noncomputable def F20 (inv : Inv) (k : Nat) (x0 : Value) (h : AH) : Option (Value × AH) :=
    bnd (pLen Try.prog #[25] x0 h) fun x13 =>
    bnd (pBin Try.prog .gtr 3 (.tmp 13) (.const (.int .i64 4096)) x13 (.int .i64 4096)) fun x14 =>
    brV x14
    (some (.tuple #[(.slice none 0 0), (.int .i64 3)], h))
    (F20_lrlrrr inv k k x0 (.int .i64 0) (.int .i64 0) h
    (fun y0 y4 y5 y18 h =>
    F20_lrlrrrrr inv k k y0 y4 (.slice none 0 0) (.int .i64 0) h
    (fun y0_1 y4_2 y6 y7 y38 h_3 =>
    bnd (inv (.func 43) #[] #[y6] h_3) fun x53 =>
    bnd (inv (.func 44) #[] #[y6, x53.1] x53.2) fun x57 =>
    bnd (pExtract x57.1 0) fun x58 =>
    bnd (pExtract x57.1 1) fun x59 =>
    bnd (pLen Try.prog #[25] y0_1 x57.2) fun x61 =>
    bnd (inv (.func 40) #[] #[(.int .u8 3), x61] x57.2) fun x62 =>
    bnd (pConv Try.prog 2 51 y4_2 x62.2) fun x64 =>
    bnd (inv (.func 41) #[] #[x62.1, x64, (.int .i64 8)] x62.2) fun x65 =>
    bnd (pConv Try.prog 3 5 x53.1 x65.2) fun x68 =>
    bnd (pBuildSlice Try.prog 26 1 #[(0, x68)] x65.2) fun x69 =>
    bnd (pAppend Try.prog #[26, 26] x65.1 x69.1 x69.2) fun x70 =>
    bnd (pAppend Try.prog #[26, 26] x70.1 x58 x70.2) fun x72 =>
    some (.tuple #[x72.1, (.int .i64 0)], x72.2))))
theorem F20_eq : eFun env k inv 20 #[x0] h = F20 inv k x0 h := by
      refine (kq_fun (a := act 73 [(0, x0)]) (c := cp c20 1)).trans ?_
      unfold F20
      simp only [kq_seq c20 1, r20_0, kq_seq c20 3, kq_seq c20 6, r20_1, b20_rlr, kq_seq c20 26, r20_2, kq_ret c20 53, res20_0, kq_skip c20 27, kq_seq c20 7, r20_3, kq_seq c20 15, kq_seq c20 30, r20_4, kq_block c20 61 0, F20_lrlrrr_eq, kq_seq c20 31, r20_9, kq_seq c20 63, kq_seq c20 126, r20_10, kq_block c20 253 2, F20_lrlrrrrr_eq, kq_seq c20 127, r20_14, kq_seq c20 255, r20_15, kq_seq c20 511, r20_16, kq_seq c20 1023, r20_17, kq_ret c20 2047, reduceIte, reduceCtorEq, XE.exit.injEq, Nat.reduceEqDiff, Nat.reduceMul, Nat.reduceAdd] <;> kernel_rfl
theorem F20_call : eInv env (k + 1) (.func 20) #[] #[x0] h = F20 (eInv env k) k x0 h := kq_inv F20_eq
noncomputable def c21 : Code := codeOf Try.prog 21
theorem r21_0  : kCode env 21 false inv k (cp c21 2) (act 39 [(0, x0)]) h K =
    K .normal (act 39 [(0, x0)]) h := kq_reg
theorem r21_1  : kCode env 21 false inv k (cp c21 6) (act 39 [(0, x0)]) h K =
    bnd (inv (.func 18) #[] #[x0] h) fun x10 =>
    bnd (pExtract x10.1 0) fun x11 =>
    bnd (pExtract x10.1 1) fun x12 =>
    K .normal (act 39 [(0, x0), (4, x11), (5, x12)]) x10.2 := kq_reg
theorem r21_2  : kCode env 21 false inv k (cp c21 28) (act 39 [(0, x0), (4, x4), (5, x5)]) h K =
    bnd (pBin Try.prog .neq 27 (.tmp 13) (.const (.int .i64 0)) x5 (.int .i64 0)) fun x14 =>
    K .normal (act 39 [(0, x0), (4, x4), (5, x5), (14, x14)]) h := kq_reg
theorem b21_rlrr  : kCode env 21 false inv k (cp c21 29) (act 39 [(0, x0), (4, x4), (5, x5), (14, x14)]) h K = brV x14 (kCode env 21 false inv k (cp c21 58) (act 39 [(0, x0), (4, x4), (5, x5), (14, x14)]) h K) (kCode env 21 false inv k (cp c21 59) (act 39 [(0, x0), (4, x4), (5, x5), (14, x14)]) h K) := kq_cond
theorem r21_3  : kCode env 21 false inv k (cp c21 116) (act 39 [(0, x0), (4, x4), (5, x5), (14, x14)]) h K =
    K .normal (act 39 [(2, (.slice none 0 0)), (3, x5)]) h := kq_reg
theorem res21_0 : resOfFn env.P 21 .ret (act 39 [(2, x2), (3, x3)]) h = some (.tuple #[x2, x3], h) := kq_res
theorem r21_4  : kCode env 21 false inv k (cp c21 30) (act 39 [(0, x0), (4, x4), (5, x5), (14, x14)]) h K =
    bnd (inv (.func 19) #[] #[x0] h) fun x18 =>
    bnd (pExtract x18.1 0) fun x19 =>
    bnd (pExtract x18.1 1) fun x20 =>
    K .normal (act 39 [(0, x0), (4, x4), (6, x19)]) x18.2 := kq_reg
theorem r21_5  : kCode env 21 false inv k (cp c21 124) (act 39 [(0, x0), (4, x4), (6, x6)]) h K =
    bnd (pLen Try.prog #[26] x6 h) fun x22 =>
    bnd (pLen Try.prog #[26] x4 h) fun x24 =>
    bnd (pBin Try.prog .lss 3 (.tmp 22) (.tmp 24) x22 x24) fun x25 =>
    K .normal (act 39 [(0, x0), (4, x4), (6, x6), (25, x25)]) h := kq_reg
theorem b21_rlrrrr  : kCode env 21 false inv k (cp c21 125) (act 39 [(0, x0), (4, x4), (6, x6), (25, x25)]) h K = brV x25 (kCode env 21 false inv k (cp c21 250) (act 39 [(0, x0), (4, x4), (6, x6), (25, x25)]) h K) (kCode env 21 false inv k (cp c21 251) (act 39 [(0, x0), (4, x4), (6, x6), (25, x25)]) h K) := kq_cond
theorem r21_6  : kCode env 21 false inv k (cp c21 250) (act 39 [(0, x0), (4, x4), (6, x6), (25, x25)]) h K =
    K .normal (act 39 [(0, x0), (4, x6)]) h := kq_reg
noncomputable def F21_rlrrrr {β : Type} (inv : Inv) (k : Nat) (x0 x4 x6 x25 : Value) (h : AH) (kn : (Value → Value → Value → Value → AH → Option β)) : Option β :=
    brV x25
    (kn x0 x6 unk unk h)
    (kn x0 x4 x6 x25 h)
theorem F21_rlrrrr_eq  : kCode env 21 false inv k (cp c21 125) (act 39 [(0, x0), (4, x4), (6, x6), (25, x25)]) h K = F21_rlrrrr inv k x0 x4 x6 x25 h (fun y0 y4 y6 y25 h => K .normal (act 39 [(0, y0), (4, y4), (6, y6), (25, y25)]) h) := by
      unfold F21_rlrrrr
      simp only [b21_rlrrrr, r21_6, kq_skip c21 251, reduceIte, reduceCtorEq, XE.exit.injEq, Nat.reduceEqDiff, Nat.reduceMul, Nat.reduceAdd] <;> kernel_rfl
theorem r21_7  : kCode env 21 false inv k (cp c21 126) (act 39 [(0, x0), (4, x4), (6, x6), (25, x25)]) h K =
    bnd (inv (.func 20) #[] #[x0] h) fun x29 =>
    bnd (pExtract x29.1 0) fun x30 =>
    bnd (pExtract x29.1 1) fun x31 =>
    K .normal (act 39 [(4, x4), (6, x30)]) x29.2 := kq_reg
theorem r21_8  : kCode env 21 false inv k (cp c21 508) (act 39 [(4, x4), (6, x6)]) h K =
    bnd (pLen Try.prog #[26] x6 h) fun x33 =>
    bnd (pLen Try.prog #[26] x4 h) fun x35 =>
    bnd (pBin Try.prog .lss 3 (.tmp 33) (.tmp 35) x33 x35) fun x36 =>
    K .normal (act 39 [(4, x4), (6, x6), (36, x36)]) h := kq_reg
theorem b21_rlrrrrrr  : kCode env 21 false inv k (cp c21 509) (act 39 [(4, x4), (6, x6), (36, x36)]) h K = brV x36 (kCode env 21 false inv k (cp c21 1018) (act 39 [(4, x4), (6, x6), (36, x36)]) h K) (kCode env 21 false inv k (cp c21 1019) (act 39 [(4, x4), (6, x6), (36, x36)]) h K) := kq_cond
theorem r21_9  : kCode env 21 false inv k (cp c21 1018) (act 39 [(4, x4), (6, x6), (36, x36)]) h K =
    K .normal (act 39 [(4, x6)]) h := kq_reg
noncomputable def F21_rlrrrrrr {β : Type} (inv : Inv) (k : Nat) (x4 x6 x36 : Value) (h : AH) (kn : (Value → Value → Value → AH → Option β)) : Option β :=
    brV x36
    (kn x6 unk unk h)
    (kn x4 x6 x36 h)
theorem F21_rlrrrrrr_eq  : kCode env 21 false inv k (cp c21 509) (act 39 [(4, x4), (6, x6), (36, x36)]) h K = F21_rlrrrrrr inv k x4 x6 x36 h (fun y4 y6 y36 h => K .normal (act 39 [(4, y4), (6, y6), (36, y36)]) h) := by
      unfold F21_rlrrrrrr
      simp only [b21_rlrrrrrr, r21_9, kq_skip c21 1019, reduceIte, reduceCtorEq, XE.exit.injEq, Nat.reduceEqDiff, Nat.reduceMul, Nat.reduceAdd] <;> kernel_rfl
theorem r21_10  : kCode env 21 false inv k (cp c21 510) (act 39 [(4, x4), (6, x6), (36, x36)]) h K =
    K .normal (act 39 [(2, x4), (3, (.int .i64 0))]) h := kq_reg
/-- shadowbook/shadowbookref06.Put -/
noncomputable def F21 (inv : Inv) (k : Nat) (x0 : Value) (h : AH) : Option (Value × AH) :=
    bnd (inv (.func 18) #[] #[x0] h) fun x10 =>
    bnd (pExtract x10.1 0) fun x11 =>
    bnd (pExtract x10.1 1) fun x12 =>
    bnd (pBin Try.prog .neq 27 (.tmp 13) (.const (.int .i64 0)) x12 (.int .i64 0)) fun x14 =>
    brV x14
    (some (.tuple #[(.slice none 0 0), x12], x10.2))
    (bnd (inv (.func 19) #[] #[x0] x10.2) fun x18 =>
    bnd (pExtract x18.1 0) fun x19 =>
    bnd (pExtract x18.1 1) fun x20 =>
    bnd (pLen Try.prog #[26] x19 x18.2) fun x22 =>
    bnd (pLen Try.prog #[26] x11 x18.2) fun x24 =>
    bnd (pBin Try.prog .lss 3 (.tmp 22) (.tmp 24) x22 x24) fun x25 =>
    F21_rlrrrr inv k x0 x11 x19 x25 x18.2
    (fun y0 y4 y6 y25 h =>
    bnd (inv (.func 20) #[] #[y0] h) fun x29 =>
    bnd (pExtract x29.1 0) fun x30 =>
    bnd (pExtract x29.1 1) fun x31 =>
    bnd (pLen Try.prog #[26] x30 x29.2) fun x33 =>
    bnd (pLen Try.prog #[26] y4 x29.2) fun x35 =>
    bnd (pBin Try.prog .lss 3 (.tmp 33) (.tmp 35) x33 x35) fun x36 =>
    F21_rlrrrrrr inv k y4 x30 x36 x29.2
    (fun y4_1 y6_2 y36 h_3 =>
    some (.tuple #[y4_1, (.int .i64 0)], h_3))))
theorem F21_eq : eFun env k inv 21 #[x0] h = F21 inv k x0 h := by
      refine (kq_fun (a := act 39 [(0, x0)]) (c := cp c21 1)).trans ?_
      unfold F21
      simp only [kq_seq c21 1, r21_0, kq_seq c21 3, r21_1, kq_seq c21 7, kq_seq c21 14, r21_2, b21_rlrr, kq_seq c21 58, r21_3, kq_ret c21 117, res21_0, kq_skip c21 59, kq_seq c21 15, r21_4, kq_seq c21 31, kq_seq c21 62, r21_5, F21_rlrrrr_eq, kq_seq c21 63, r21_7, kq_seq c21 127, kq_seq c21 254, r21_8, F21_rlrrrrrr_eq, kq_seq c21 255, r21_10, kq_ret c21 511, reduceIte, reduceCtorEq, XE.exit.injEq, Nat.reduceEqDiff, Nat.reduceMul, Nat.reduceAdd] <;> kernel_rfl
theorem F21_call : eInv env (k + 1) (.func 21) #[] #[x0] h = F21 (eInv env k) k x0 h := kq_inv F21_eq
noncomputable def c22 : Code := codeOf Try.prog 22
theorem r22_0  : kCode env 22 false inv k (cp c22 2) (act 146 [(0, x0)]) h K =
    K .normal (act 146 [(0, x0)]) h := kq_reg
theorem r22_1  : kCode env 22 false inv k (cp c22 6) (act 146 [(0, x0)]) h K =
    bnd (inv (.func 45) #[] #[x0] h) fun x25 =>
    K .normal (act 146 [(0, x0), (4, x25.1)]) x25.2 := kq_reg
theorem r22_2  : kCode env 22 false inv k (cp c22 14) (act 146 [(0, x0), (4, x4)]) h K =
    bnd (inv (.func 46) #[] #[x4, (.int .i64 1)] h) fun x28 =>
    bnd (pExtract x28.1 0) fun x29 =>
    bnd (pExtract x28.1 1) fun x30 =>
    K .normal (act 146 [(0, x0), (4, x4), (5, x29), (6, x30)]) x28.2 := kq_reg
theorem r22_3  : kCode env 22 false inv k (cp c22 30) (act 146 [(0, x0), (4, x4), (5, x5), (6, x6)]) h K =
    bnd (inv (.func 47) #[] #[x4] h) fun x33 =>
    bnd (pExtract x33.1 0) fun x34 =>
    bnd (pExtract x33.1 1) fun x35 =>
    K .normal (act 146 [(0, x0), (4, x4), (5, x5), (6, x6), (7, x34), (8, x35)]) x33.2 := kq_reg
noncomputable abbrev G22_4 {β : Type} (inv : Inv) (x0 x4 x5 x6 x7 x8 : Value) (h : AH) (K : Value → AH → Option β) : Option β :=
    bnd (pBin Try.prog .neq 27 (.tmp 36) (.const (.int .i64 0)) x6 (.int .i64 0)) fun x37 =>
    bnd (gd (some x37) false h (some (x8, h))) fun x39 =>
    bnd (gd (some x37) false x39.2 (lt (pBin Try.prog .neq 27 (.tmp 39) (.const (.int .i64 0)) x39.1 (.int .i64 0)) x39.2)) fun x40 =>
    bnd (pickV x37 (.bool true) x40.1) fun x41 =>
    bnd (gd (some x41) false x40.2 (some (x7, x40.2))) fun x43 =>
    bnd (gd (some x41) false x43.2 (lt (pBin Try.prog .gtr 51 (.tmp 43) (.const (.int .u64 4096)) x43.1 (.int .u64 4096)) x43.2)) fun x44 =>
    bnd (pickV x41 (.bool true) x44.1) fun x45 =>
    K (x45) x44.2
theorem r22_4  : kCode env 22 false inv k (cp c22 124) (act 146 [(0, x0), (4, x4), (5, x5), (6, x6), (7, x7), (8, x8)]) h K =
    G22_4 inv x0 x4 x5 x6 x7 x8 h fun y45 h => K .normal (act 146 [(0, x0), (4, x4), (5, x5), (7, x7), (45, y45)]) h := kq_reg
theorem b22_rlrrrr  : kCode env 22 false inv k (cp c22 125) (act 146 [(0, x0), (4, x4), (5, x5), (7, x7), (45, x45)]) h K = brV x45 (kCode env 22 false inv k (cp c22 250) (act 146 [(0, x0), (4, x4), (5, x5), (7, x7), (45, x45)]) h K) (kCode env 22 false inv k (cp c22 251) (act 146 [(0, x0), (4, x4), (5, x5), (7, x7), (45, x45)]) h K) := kq_cond
theorem r22_5  : kCode env 22 false inv k (cp c22 500) (act 146 [(0, x0), (4, x4), (5, x5), (7, x7), (45, x45)]) h K =
    K .normal (act 146 [(2, (.slice none 0 0)), (3, (.int .i64 4))]) h := kq_reg
theorem res22_0 : resOfFn env.P 22 .ret (act 146 [(2, x2), (3, x3)]) h = some (.tuple #[x2, x3], h) := kq_res
theorem r22_6  : kCode env 22 false inv k (cp c22 126) (act 146 [(0, x0), (4, x4), (5, x5), (7, x7), (45, x45)]) h K =
    bnd (pConv Try.prog 51 3 x7 h) fun x47 =>
    K .normal (act 146 [(0, x0), (4, x4), (5, x5), (9, x47)]) h := kq_reg
theorem r22_7  : kCode env 22 false inv k (cp c22 254) (act 146 [(0, x0), (4, x4), (5, x5), (9, x9)]) h K =
    K .normal (act 146 [(0, x0), (4, x4), (5, x5), (9, x9), (10, (.slice none 0 0))]) h := kq_reg
theorem r22_8  : kCode env 22 false inv k (cp c22 510) (act 146 [(0, x0), (4, x4), (5, x5), (9, x9), (10, x10)]) h K =
    K .normal (act 146 [(0, x0), (4, x4), (5, x5), (9, x9), (10, x10), (11, (.slice none 0 0))]) h := kq_reg
theorem r22_9  : kCode env 22 false inv k (cp c22 2044) (act 146 [(0, x0), (4, x4), (5, x5), (9, x9), (10, x10), (11, x11)]) h K =
    K .normal (act 146 [(0, x0), (4, x4), (9, x9), (10, x10), (11, x11), (48, x5)]) h := kq_reg
theorem r22_10  : kCode env 22 false inv k (cp c22 8180) (act 146 [(0, x0), (4, x4), (9, x9), (10, x10), (11, x11), (48, x48)]) h K =
    bnd (pBin Try.prog .eql 51 (.tmp 48) (.const (.int .u64 1)) x48 (.int .u64 1)) fun x50 =>
    K .normal (act 146 [(0, x0), (4, x4), (9, x9), (10, x10), (11, x11), (48, x48), (49, x50)]) h := kq_reg
theorem b22_rlrlrrrrrrrr  : kCode env 22 false inv k (cp c22 8181) (act 146 [(0, x0), (4, x4), (9, x9), (10, x10), (11, x11), (48, x48), (49, x49)]) h K = brV x49 (kCode env 22 false inv k (cp c22 16362) (act 146 [(0, x0), (4, x4), (9, x9), (10, x10), (11, x11), (48, x48), (49, x49)]) h K) (kCode env 22 false inv k (cp c22 16363) (act 146 [(0, x0), (4, x4), (9, x9), (10, x10), (11, x11), (48, x48), (49, x49)]) h K) := kq_cond
theorem r22_11  : kCode env 22 false inv k (cp c22 65448) (act 146 [(0, x0), (4, x4), (9, x9), (10, x10), (11, x11), (48, x48), (49, x49)]) h K =
    K .normal (act 146 [(0, x0), (4, x4), (9, x9), (10, x10), (12, (.int .i64 0))]) h := kq_reg
theorem r22_12  : kCode env 22 false inv k (cp c22 1047184) (act 146 [(0, x0), (4, x4), (9, x9), (10, x10), (12, x12)]) h K =
    bnd (pBin Try.prog .lss 3 (.tmp 51) (.tmp 52) x12 x9) fun x53 =>
    K .normal (act 146 [(0, x0), (4, x4), (9, x9), (10, x10), (12, x12), (53, x53)]) h := kq_reg
theorem b22_rlllrllrlrlrrrrrrrr  : kCode env 22 false inv k (cp c22 1047185) (act 146 [(0, x0), (4, x4), (9, x9), (10, x10), (12, x12), (53, x53)]) h K = brV x53 (kCode env 22 false inv k (cp c22 2094370) (act 146 [(0, x0), (4, x4), (9, x9), (10, x10), (12, x12), (53, x53)]) h K) (kCode env 22 false inv k (cp c22 2094371) (act 146 [(0, x0), (4, x4), (9, x9), (10, x10), (12, x12), (53, x53)]) h K) := kq_cond
theorem r22_14  : kCode env 22 false inv k (cp c22 4188744) (act 146 [(0, x0), (4, x4), (9, x9), (10, x10), (12, x12), (53, x53)]) h K =
    bnd (inv (.func 46) #[] #[x4, (.int .i64 8)] h) fun x58 =>
    bnd (pExtract x58.1 0) fun x59 =>
    bnd (pExtract x58.1 1) fun x60 =>
    K .normal (act 146 [(0, x0), (4, x4), (9, x9), (10, x10), (12, x12), (13, x59), (14, x60)]) x58.2 := kq_reg
theorem r22_15  : kCode env 22 false inv k (cp c22 16754980) (act 146 [(0, x0), (4, x4), (9, x9), (10, x10), (12, x12), (13, x13), (14, x14)]) h K =
    bnd (pBin Try.prog .neq 27 (.tmp 61) (.const (.int .i64 0)) x14 (.int .i64 0)) fun x62 =>
    K .normal (act 146 [(0, x0), (4, x4), (9, x9), (10, x10), (12, x12), (13, x13), (62, x62)]) h := kq_reg
theorem b22_rlrllrllrllrlrlrrrrrrrr  : kCode env 22 false inv k (cp c22 16754981) (act 146 [(0, x0), (4, x4), (9, x9), (10, x10), (12, x12), (13, x13), (62, x62)]) h K = brV x62 (kCode env 22 false inv k (cp c22 33509962) (act 146 [(0, x0), (4, x4), (9, x9), (10, x10), (12, x12), (13, x13), (62, x62)]) h K) (kCode env 22 false inv k (cp c22 33509963) (act 146 [(0, x0), (4, x4), (9, x9), (10, x10), (12, x12), (13, x13), (62, x62)]) h K) := kq_cond
theorem r22_16  : kCode env 22 false inv k (cp c22 67019924) (act 146 [(0, x0), (4, x4), (9, x9), (10, x10), (12, x12), (13, x13), (62, x62)]) h K =
    K .normal (act 146 [(2, (.slice none 0 0)), (3, (.int .i64 4))]) h := kq_reg
theorem r22_17  : kCode env 22 false inv k (cp c22 8377491) (act 146 [(0, x0), (4, x4), (9, x9), (10, x10), (12, x12), (13, x13), (62, x62)]) h K =
    bnd (pConv Try.prog 51 2 x13 h) fun x65 =>
    bnd (pBuildSlice Try.prog 25 1 #[(0, x65)] h) fun x66 =>
    bnd (pAppend Try.prog #[25, 25] x10 x66.1 x66.2) fun x67 =>
    K .normal (act 146 [(0, x0), (4, x4), (9, x9), (10, x67.1), (12, x12)]) x67.2 := kq_reg
theorem r22_13  : kCode env 22 false inv k (cp c22 1047187) (act 146 [(0, x0), (4, x4), (9, x9), (10, x10), (12, x12)]) h K =
    bnd (pBin Try.prog .add 3 (.tmp 54) (.const (.int .i64 1)) x12 (.int .i64 1)) fun x55 =>
    K .normal (act 146 [(0, x0), (4, x4), (9, x9), (10, x10), (12, x55)]) h := kq_reg
noncomputable def F22_lrllrlrlrrrrrrrr {β : Type} (inv : Inv) (k : Nat) : Nat → Value → Value → Value → Value → Value → AH → (Value → Value → Value → Value → Value → Value → AH → Option β) → (Value → Value → AH → Option β) → Option β
  | 0, _, _, _, _, _, _, _, _ => none
  | j + 1, x0, x4, x9, x10, x12, h, ke1, kr =>
    bnd (pBin Try.prog .lss 3 (.tmp 51) (.tmp 52) x12 x9) fun x53 =>
    brV x53
    (bnd (inv (.func 46) #[] #[x4, (.int .i64 8)] h) fun x58 =>
    bnd (pExtract x58.1 0) fun x59 =>
    bnd (pExtract x58.1 1) fun x60 =>
    bnd (pBin Try.prog .neq 27 (.tmp 61) (.const (.int .i64 0)) x60 (.int .i64 0)) fun x62 =>
    brV x62
    (kr (.slice none 0 0) (.int .i64 4) x58.2)
    (bnd (pConv Try.prog 51 2 x59 x58.2) fun x65 =>
    bnd (pBuildSlice Try.prog 25 1 #[(0, x65)] x58.2) fun x66 =>
    bnd (pAppend Try.prog #[25, 25] x10 x66.1 x66.2) fun x67 =>
    bnd (pBin Try.prog .add 3 (.tmp 54) (.const (.int .i64 1)) x12 (.int .i64 1)) fun x55 =>
    F22_lrllrlrlrrrrrrrr inv k j x0 x4 x9 x67.1 x55 x67.2 ke1 kr))
    (ke1 x0 x4 x9 x10 x12 x53 h)
theorem F22_lrllrlrlrrrrrrrr_j (j : Nat) : kLoop (kCode env 22 false inv k (cp c22 261796)) j (act 146 [(0, x0), (4, x4), (9, x9), (10, x10), (12, x12)]) h K = F22_lrllrlrlrrrrrrrr inv k j x0 x4 x9 x10 x12 h (fun y0 y4 y9 y10 y12 y53 h => K (.exit 1) (act 146 [(0, y0), (4, y4), (9, y9), (10, y10), (12, y12), (53, y53)]) h) (fun y2 y3 h => K .ret (act 146 [(2, y2), (3, y3)]) h) := by
      induction j generalizing x0 x4 x9 x10 x12 h with
      | zero => rfl
      | succ j ih =>
        unfold F22_lrllrlrlrrrrrrrr
        simp only [kLoop, kq_seq c22 261796, kq_seq c22 523592, r22_12, b22_rlllrllrlrlrrrrrrrr, kq_skip c22 2094370, kq_seq c22 523593, kq_block c22 1047186 2, kq_seq c22 2094372, r22_14, kq_seq c22 4188745, kq_seq c22 8377490, r22_15, b22_rlrllrllrllrlrlrrrrrrrr, kq_seq c22 33509962, r22_16, kq_ret c22 67019925, kq_skip c22 33509963, r22_17, r22_13, kq_exit c22 2094371 1, ih, reduceIte, reduceCtorEq, XE.exit.injEq, Nat.reduceEqDiff, Nat.reduceMul, Nat.reduceAdd] <;> kernel_rfl
theorem F22_lrllrlrlrrrrrrrr_eq  : kCode env 22 false inv k (cp c22 130898) (act 146 [(0, x0), (4, x4), (9, x9), (10, x10), (12, x12)]) h K = F22_lrllrlrlrrrrrrrr inv k k x0 x4 x9 x10 x12 h (fun y0 y4 y9 y10 y12 y53 h => K (.exit 1) (act 146 [(0, y0), (4, y4), (9, y9), (10, y10), (12, y12), (53, y53)]) h) (fun y2 y3 h => K .ret (act 146 [(2, y2), (3, y3)]) h) := kq_loop (F22_lrllrlrlrrrrrrrr_j k)
theorem r22_18  : kCode env 22 false inv k (cp c22 32725) (act 146 [(0, x0), (4, x4), (9, x9), (10, x10), (12, x12), (53, x53)]) h K =
    bnd (inv (.func 18) #[] #[x10] h) fun x70 =>
    bnd (pExtract x70.1 0) fun x71 =>
    bnd (pExtract x70.1 1) fun x72 =>
    K .normal (act 146 [(0, x0), (10, x10), (11, x71)]) x70.2 := kq_reg
theorem r22_19  : kCode env 22 false inv k (cp c22 32726) (act 146 [(0, x0), (4, x4), (9, x9), (10, x10), (11, x11), (48, x48), (49, x49)]) h K =
    bnd (pBin Try.prog .eql 51 (.tmp 48) (.const (.int .u64 2)) x48 (.int .u64 2)) fun x74 =>
    K .normal (act 146 [(0, x0), (4, x4), (9, x9), (10, x10), (11, x11), (48, x48), (73, x74)]) h := kq_reg
theorem b22_rrrlrlrrrrrrrr  : kCode env 22 false inv k (cp c22 32727) (act 146 [(0, x0), (4, x4), (9, x9), (10, x10), (11, x11), (48, x48), (73, x73)]) h K = brV x73 (kCode env 22 false inv k (cp c22 65454) (act 146 [(0, x0), (4, x4), (9, x9), (10, x10), (11, x11), (48, x48), (73, x73)]) h K) (kCode env 22 false inv k (cp c22 65455) (act 146 [(0, x0), (4, x4), (9, x9), (10, x10), (11, x11), (48, x48), (73, x73)]) h K) := kq_cond
theorem r22_20  : kCode env 22 false inv k (cp c22 130908) (act 146 [(0, x0), (4, x4), (9, x9), (10, x10), (11, x11), (48, x48), (73, x73)]) h K =
    bnd (inv (.func 48) #[] #[x4, x9] h) fun x78 =>
    bnd (pExtract x78.1 0) fun x79 =>
    bnd (pExtract x78.1 1) fun x80 =>
    K .normal (act 146 [(0, x0), (15, x79), (16, x80)]) x78.2 := kq_reg
theorem r22_21  : kCode env 22 false inv k (cp c22 523636) (act 146 [(0, x0), (15, x15), (16, x16)]) h K =
    bnd (pUn Try.prog .not x16) fun x82 =>
    K .normal (act 146 [(0, x0), (15, x15), (82, x82)]) h := kq_reg
theorem b22_rlrlrrrlrlrrrrrrrr  : kCode env 22 false inv k (cp c22 523637) (act 146 [(0, x0), (15, x15), (82, x82)]) h K = brV x82 (kCode env 22 false inv k (cp c22 1047274) (act 146 [(0, x0), (15, x15), (82, x82)]) h K) (kCode env 22 false inv k (cp c22 1047275) (act 146 [(0, x0), (15, x15), (82, x82)]) h K) := kq_cond
theorem r22_22  : kCode env 22 false inv k (cp c22 2094548) (act 146 [(0, x0), (15, x15), (82, x82)]) h K =
    K .normal (act 146 [(2, (.slice none 0 0)), (3, (.int .i64 4))]) h := kq_reg
theorem r22_23  : kCode env 22 false inv k (cp c22 523638) (act 146 [(0, x0), (15, x15), (82, x82)]) h K =
    K .normal (act 146 [(0, x0), (10, x15)]) h := kq_reg
theorem r22_24  : kCode env 22 false inv k (cp c22 523639) (act 146 [(0, x0), (10, x10)]) h K =
    bnd (inv (.func 19) #[] #[x10] h) fun x86 =>
    bnd (pExtract x86.1 0) fun x87 =>
    bnd (pExtract x86.1 1) fun x88 =>
    K .normal (act 146 [(0, x0), (10, x10), (11, x87)]) x86.2 := kq_reg
theorem r22_25  : kCode env 22 false inv k (cp c22 130910) (act 146 [(0, x0), (4, x4), (9, x9), (10, x10), (11, x11), (48, x48), (73, x73)]) h K =
    bnd (pBin Try.prog .eql 51 (.tmp 48) (.const (.int .u64 3)) x48 (.int .u64 3)) fun x90 =>
    K .normal (act 146 [(0, x0), (4, x4), (9, x9), (10, x10), (11, x11), (89, x90)]) h := kq_reg
theorem b22_rrrrrlrlrrrrrrrr  : kCode env 22 false inv k (cp c22 130911) (act 146 [(0, x0), (4, x4), (9, x9), (10, x10), (11, x11), (89, x89)]) h K = brV x89 (kCode env 22 false inv k (cp c22 261822) (act 146 [(0, x0), (4, x4), (9, x9), (10, x10), (11, x11), (89, x89)]) h K) (kCode env 22 false inv k (cp c22 261823) (act 146 [(0, x0), (4, x4), (9, x9), (10, x10), (11, x11), (89, x89)]) h K) := kq_cond
theorem r22_26  : kCode env 22 false inv k (cp c22 523644) (act 146 [(0, x0), (4, x4), (9, x9), (10, x10), (11, x11), (89, x89)]) h K =
    bnd (inv (.func 46) #[] #[x4, (.int .i64 8)] h) fun x93 =>
    bnd (pExtract x93.1 0) fun x94 =>
    bnd (pExtract x93.1 1) fun x95 =>
    K .normal (act 146 [(0, x0), (4, x4), (9, x9), (10, x10), (17, x94), (18, x95)]) x93.2 := kq_reg
theorem r22_27  : kCode env 22 false inv k (cp c22 1047290) (act 146 [(0, x0), (4, x4), (9, x9), (10, x10), (17, x17), (18, x18)]) h K =
    bnd (inv (.func 46) #[] #[x4, (.int .i64 1)] h) fun x98 =>
    bnd (pExtract x98.1 0) fun x99 =>
    bnd (pExtract x98.1 1) fun x100 =>
    K .normal (act 146 [(0, x0), (4, x4), (9, x9), (10, x10), (17, x17), (18, x18), (19, x99), (20, x100)]) x98.2 := kq_reg
noncomputable abbrev G22_28 {β : Type} (inv : Inv) (x0 x4 x9 x10 x17 x18 x19 x20 : Value) (h : AH) (K : Value → AH → Option β) : Option β :=
    bnd (pBin Try.prog .neq 27 (.tmp 101) (.const (.int .i64 0)) x18 (.int .i64 0)) fun x102 =>
    bnd (gd (some x102) false h (some (x20, h))) fun x104 =>
    bnd (gd (some x102) false x104.2 (lt (pBin Try.prog .neq 27 (.tmp 104) (.const (.int .i64 0)) x104.1 (.int .i64 0)) x104.2)) fun x105 =>
    bnd (pickV x102 (.bool true) x105.1) fun x106 =>
    K (x106) x105.2
theorem r22_28  : kCode env 22 false inv k (cp c22 4189164) (act 146 [(0, x0), (4, x4), (9, x9), (10, x10), (17, x17), (18, x18), (19, x19), (20, x20)]) h K =
    G22_28 inv x0 x4 x9 x10 x17 x18 x19 x20 h fun y106 h => K .normal (act 146 [(0, x0), (4, x4), (9, x9), (10, x10), (17, x17), (19, x19), (106, y106)]) h := kq_reg
theorem b22_rlrrlrrrrrlrlrrrrrrrr  : kCode env 22 false inv k (cp c22 4189165) (act 146 [(0, x0), (4, x4), (9, x9), (10, x10), (17, x17), (19, x19), (106, x106)]) h K = brV x106 (kCode env 22 false inv k (cp c22 8378330) (act 146 [(0, x0), (4, x4), (9, x9), (10, x10), (17, x17), (19, x19), (106, x106)]) h K) (kCode env 22 false inv k (cp c22 8378331) (act 146 [(0, x0), (4, x4), (9, x9), (10, x10), (17, x17), (19, x19), (106, x106)]) h K) := kq_cond
theorem r22_29  : kCode env 22 false inv k (cp c22 16756660) (act 146 [(0, x0), (4, x4), (9, x9), (10, x10), (17, x17), (19, x19), (106, x106)]) h K =
    K .normal (act 146 [(2, (.slice none 0 0)), (3, (.int .i64 4))]) h := kq_reg
theorem r22_30  : kCode env 22 false inv k (cp c22 4189166) (act 146 [(0, x0), (4, x4), (9, x9), (10, x10), (17, x17), (19, x19), (106, x106)]) h K =
    bnd (pNilCheck x4) fun x109 =>
    bnd (pFieldAddr Try.prog 71 x109 0) fun x110 =>
    bnd (pLoad Try.prog 26 x110 h) fun x111 =>
    bnd (pConv Try.prog 51 3 x19 h) fun x114 =>
    bnd (inv (.func 49) #[] #[x111, x9, x114] h) fun x115 =>
    bnd (pExtract x115.1 0) fun x116 =>
    bnd (pExtract x115.1 1) fun x117 =>
    K .normal (act 146 [(0, x0), (9, x9), (10, x10), (17, x17), (21, x116), (22, x117)]) x115.2 := kq_reg
theorem r22_31  : kCode env 22 false inv k (cp c22 16756668) (act 146 [(0, x0), (9, x9), (10, x10), (17, x17), (21, x21), (22, x22)]) h K =
    bnd (pBin Try.prog .neq 27 (.tmp 118) (.const (.int .i64 0)) x22 (.int .i64 0)) fun x119 =>
    K .normal (act 146 [(0, x0), (9, x9), (10, x10), (17, x17), (21, x21), (119, x119)]) h := kq_reg
theorem b22_rlrrrrlrrrrrlrlrrrrrrrr  : kCode env 22 false inv k (cp c22 16756669) (act 146 [(0, x0), (9, x9), (10, x10), (17, x17), (21, x21), (119, x119)]) h K = brV x119 (kCode env 22 false inv k (cp c22 33513338) (act 146 [(0, x0), (9, x9), (10, x10), (17, x17), (21, x21), (119, x119)]) h K) (kCode env 22 false inv k (cp c22 33513339) (act 146 [(0, x0), (9, x9), (10, x10), (17, x17), (21, x21), (119, x119)]) h K) := kq_cond
theorem r22_32  : kCode env 22 false inv k (cp c22 67026676) (act 146 [(0, x0), (9, x9), (10, x10), (17, x17), (21, x21), (119, x119)]) h K =
    K .normal (act 146 [(2, (.slice none 0 0)), (3, (.int .i64 4))]) h := kq_reg
theorem r22_33  : kCode env 22 false inv k (cp c22 33513340) (act 146 [(0, x0), (9, x9), (10, x10), (17, x17), (21, x21), (119, x119)]) h K =
    K .normal (act 146 [(0, x0), (9, x9), (10, x10), (17, x17), (21, x21), (23, (.int .i64 0))]) h := kq_reg
theorem r22_34  : kCode env 22 false inv k (cp c22 536213456) (act 146 [(0, x0), (9, x9), (10, x10), (17, x17), (21, x21), (23, x23)]) h K =
    bnd (pBin Try.prog .lss 3 (.tmp 120) (.tmp 121) x23 x9) fun x122 =>
    K .normal (act 146 [(0, x0), (9, x9), (10, x10), (17, x17), (21, x21), (23, x23), (122, x122)]) h := kq_reg
theorem b22_rlllrlrrrrrlrrrrrlrlrrrrrrrr  : kCode env 22 false inv k (cp c22 536213457) (act 146 [(0, x0), (9, x9), (10, x10), (17, x17), (21, x21), (23, x23), (122, x122)]) h K = brV x122 (kCode env 22 false inv k (cp c22 1072426914) (act 146 [(0, x0), (9, x9), (10, x10), (17, x17), (21, x21), (23, x23), (122, x122)]) h K) (kCode env 22 false inv k (cp c22 1072426915) (act 146 [(0, x0), (9, x9), (10, x10), (17, x17), (21, x21), (23, x23), (122, x122)]) h K) := kq_cond
theorem r22_36  : kCode env 22 false inv k (cp c22 1072426916) (act 146 [(0, x0), (9, x9), (10, x10), (17, x17), (21, x21), (23, x23), (122, x122)]) h K =
    bnd (pIndexAddr Try.prog 50 x21 x23) fun x129 =>
    bnd (pLoad Try.prog 51 x129 h) fun x130 =>
    bnd (pBin Try.prog .add 51 (.tmp 126) (.tmp 130) x17 x130) fun x131 =>
    bnd (pConv Try.prog 51 2 x131 h) fun x132 =>
    bnd (pBuildSlice Try.prog 25 1 #[(0, x132)] h) fun x133 =>
    bnd (pAppend Try.prog #[25, 25] x10 x133.1 x133.2) fun x134 =>
    K .normal (act 146 [(0, x0), (9, x9), (10, x134.1), (17, x17), (21, x21), (23, x23)]) x134.2 := kq_reg
theorem r22_35  : kCode env 22 false inv k (cp c22 536213459) (act 146 [(0, x0), (9, x9), (10, x10), (17, x17), (21, x21), (23, x23)]) h K =
    bnd (pBin Try.prog .add 3 (.tmp 123) (.const (.int .i64 1)) x23 (.int .i64 1)) fun x124 =>
    K .normal (act 146 [(0, x0), (9, x9), (10, x10), (17, x17), (21, x21), (23, x124)]) h := kq_reg
noncomputable def F22_lrlrrrrrlrrrrrlrlrrrrrrrr {β : Type} (inv : Inv) (k : Nat) : Nat → Value → Value → Value → Value → Value → Value → AH → (Value → Value → Value → Value → Value → Value → Value → AH → Option β) → Option β
  | 0, _, _, _, _, _, _, _, _ => none
  | j + 1, x0, x9, x10, x17, x21, x23, h, ke3 =>
    bnd (pBin Try.prog .lss 3 (.tmp 120) (.tmp 121) x23 x9) fun x122 =>
    brV x122
    (bnd (pIndexAddr Try.prog 50 x21 x23) fun x129 =>
    bnd (pLoad Try.prog 51 x129 h) fun x130 =>
    bnd (pBin Try.prog .add 51 (.tmp 126) (.tmp 130) x17 x130) fun x131 =>
    bnd (pConv Try.prog 51 2 x131 h) fun x132 =>
    bnd (pBuildSlice Try.prog 25 1 #[(0, x132)] h) fun x133 =>
    bnd (pAppend Try.prog #[25, 25] x10 x133.1 x133.2) fun x134 =>
    bnd (pBin Try.prog .add 3 (.tmp 123) (.const (.int .i64 1)) x23 (.int .i64 1)) fun x124 =>
    F22_lrlrrrrrlrrrrrlrlrrrrrrrr inv k j x0 x9 x134.1 x17 x21 x124 x134.2 ke3)
    (ke3 x0 x9 x10 x17 x21 x23 x122 h)
theorem F22_lrlrrrrrlrrrrrlrlrrrrrrrr_j (j : Nat) : kLoop (kCode env 22 false inv k (cp c22 134053364)) j (act 146 [(0, x0), (9, x9), (10, x10), (17, x17), (21, x21), (23, x23)]) h K = F22_lrlrrrrrlrrrrrlrlrrrrrrrr inv k j x0 x9 x10 x17 x21 x23 h (fun y0 y9 y10 y17 y21 y23 y122 h => K (.exit 3) (act 146 [(0, y0), (9, y9), (10, y10), (17, y17), (21, y21), (23, y23), (122, y122)]) h) := by
      induction j generalizing x0 x9 x10 x17 x21 x23 h with
      | zero => rfl
      | succ j ih =>
        unfold F22_lrlrrrrrlrrrrrlrlrrrrrrrr
        simp only [kLoop, kq_seq c22 134053364, kq_seq c22 268106728, r22_34, b22_rlllrlrrrrrlrrrrrlrlrrrrrrrr, kq_skip c22 1072426914, kq_seq c22 268106729, kq_block c22 536213458 4, r22_36, r22_35, kq_exit c22 1072426915 3, ih, reduceIte, reduceCtorEq, XE.exit.injEq, Nat.reduceEqDiff, Nat.reduceMul, Nat.reduceAdd] <;> kernel_rfl
theorem F22_lrlrrrrrlrrrrrlrlrrrrrrrr_eq  : kCode env 22 false inv k (cp c22 67026682) (act 146 [(0, x0), (9, x9), (10, x10), (17, x17), (21, x21), (23, x23)]) h K = F22_lrlrrrrrlrrrrrlrlrrrrrrrr inv k k x0 x9 x10 x17 x21 x23 h (fun y0 y9 y10 y17 y21 y23 y122 h => K (.exit 3) (act 146 [(0, y0), (9, y9), (10, y10), (17, y17), (21, y21), (23, y23), (122, y122)]) h) := kq_loop (F22_lrlrrrrrlrrrrrlrlrrrrrrrr_j k)
theorem r22_37  : kCode env 22 false inv k (cp c22 16756671) (act 146 [(0, x0), (9, x9), (10, x10), (17, x17), (21, x21), (23, x23), (122, x122)]) h K =
    bnd (inv (.func 20) #[] #[x10] h) fun x137 =>
    bnd (pExtract x137.1 0) fun x138 =>
    bnd (pExtract x137.1 1) fun x139 =>
    K .normal (act 146 [(0, x0), (10, x10), (11, x138)]) x137.2 := kq_reg
noncomputable def F22_rlrrrrrrrr {β : Type} (inv : Inv) (k : Nat) (x0 x4 x9 x10 x11 x48 : Value) (h : AH) (kn : (Value → Value → Value → Value → Value → Value → AH → Option β)) (kr : (Value → Value → AH → Option β)) : Option β :=
    bnd (pBin Try.prog .eql 51 (.tmp 48) (.const (.int .u64 1)) x48 (.int .u64 1)) fun x50 =>
    brV x50
    (F22_lrllrlrlrrrrrrrr inv k k x0 x4 x9 x10 (.int .i64 0) h
    (fun y0 y4 y9 y10 y12 y53 h =>
    bnd (inv (.func 18) #[] #[y10] h) fun x70 =>
    bnd (pExtract x70.1 0) fun x71 =>
    bnd (pExtract x70.1 1) fun x72 =>
    kn y0 unk unk y10 x71 unk x70.2)
    (fun y2 y3 h_1 =>
    kr y2 y3 h_1))
    (bnd (pBin Try.prog .eql 51 (.tmp 48) (.const (.int .u64 2)) x48 (.int .u64 2)) fun x74 =>
    brV x74
    (bnd (inv (.func 48) #[] #[x4, x9] h) fun x78 =>
    bnd (pExtract x78.1 0) fun x79 =>
    bnd (pExtract x78.1 1) fun x80 =>
    bnd (pUn Try.prog .not x80) fun x82 =>
    brV x82
    (kr (.slice none 0 0) (.int .i64 4) x78.2)
    (bnd (inv (.func 19) #[] #[x79] x78.2) fun x86 =>
    bnd (pExtract x86.1 0) fun x87 =>
    bnd (pExtract x86.1 1) fun x88 =>
    kn x0 unk unk x79 x87 unk x86.2))
    (bnd (pBin Try.prog .eql 51 (.tmp 48) (.const (.int .u64 3)) x48 (.int .u64 3)) fun x90 =>
    brV x90
    (bnd (inv (.func 46) #[] #[x4, (.int .i64 8)] h) fun x93 =>
    bnd (pExtract x93.1 0) fun x94 =>
    bnd (pExtract x93.1 1) fun x95 =>
    bnd (inv (.func 46) #[] #[x4, (.int .i64 1)] x93.2) fun x98 =>
    bnd (pExtract x98.1 0) fun x99 =>
    bnd (pExtract x98.1 1) fun x100 =>
    G22_28 inv x0 x4 x9 x10 x94 x95 x99 x100 x98.2 fun y106 h_2 =>
    brV y106
    (kr (.slice none 0 0) (.int .i64 4) h_2)
    (bnd (pNilCheck x4) fun x109 =>
    bnd (pFieldAddr Try.prog 71 x109 0) fun x110 =>
    bnd (pLoad Try.prog 26 x110 h_2) fun x111 =>
    bnd (pConv Try.prog 51 3 x99 h_2) fun x114 =>
    bnd (inv (.func 49) #[] #[x111, x9, x114] h_2) fun x115 =>
    bnd (pExtract x115.1 0) fun x116 =>
    bnd (pExtract x115.1 1) fun x117 =>
    bnd (pBin Try.prog .neq 27 (.tmp 118) (.const (.int .i64 0)) x117 (.int .i64 0)) fun x119 =>
    brV x119
    (kr (.slice none 0 0) (.int .i64 4) x115.2)
    (F22_lrlrrrrrlrrrrrlrlrrrrrrrr inv k k x0 x9 x10 x94 x116 (.int .i64 0) x115.2
    (fun y0_3 y9_4 y10_5 y17 y21 y23 y122 h_6 =>
    bnd (inv (.func 20) #[] #[y10_5] h_6) fun x137 =>
    bnd (pExtract x137.1 0) fun x138 =>
    bnd (pExtract x137.1 1) fun x139 =>
    kn y0_3 unk unk y10_5 x138 unk x137.2))))
    (kn x0 x4 x9 x10 x11 x90 h)))
theorem F22_rlrrrrrrrr_eq  : kCode env 22 false inv k (cp c22 2045) (act 146 [(0, x0), (4, x4), (9, x9), (10, x10), (11, x11), (48, x48)]) h K = F22_rlrrrrrrrr inv k x0 x4 x9 x10 x11 x48 h (fun y0 y4 y9 y10 y11 y89 h => K .normal (act 146 [(0, y0), (4, y4), (9, y9), (10, y10), (11, y11), (89, y89)]) h) (fun y2 y3 h => K .ret (act 146 [(2, y2), (3, y3)]) h) := by
      unfold F22_rlrrrrrrrr
      simp only [kq_block c22 2045 0, kq_seq c22 4090, r22_10, b22_rlrlrrrrrrrr, kq_seq c22 16362, kq_seq c22 32724, r22_11, kq_block c22 65449 1, F22_lrllrlrlrrrrrrrr_eq, r22_18, kq_seq c22 16363, r22_19, b22_rrrlrlrrrrrrrr, kq_seq c22 65454, r22_20, kq_seq c22 130909, kq_seq c22 261818, r22_21, b22_rlrlrrrlrlrrrrrrrr, kq_seq c22 1047274, r22_22, kq_ret c22 2094549, kq_skip c22 1047275, kq_seq c22 261819, r22_23, r22_24, kq_seq c22 65455, r22_25, b22_rrrrrlrlrrrrrrrr, kq_seq c22 261822, r22_26, kq_seq c22 523645, r22_27, kq_seq c22 1047291, kq_seq c22 2094582, r22_28, b22_rlrrlrrrrrlrlrrrrrrrr, kq_seq c22 8378330, r22_29, kq_ret c22 16756661, kq_skip c22 8378331, kq_seq c22 2094583, r22_30, kq_seq c22 4189167, kq_seq c22 8378334, r22_31, b22_rlrrrrlrrrrrlrlrrrrrrrr, kq_seq c22 33513338, r22_32, kq_ret c22 67026677, kq_skip c22 33513339, kq_seq c22 8378335, kq_seq c22 16756670, r22_33, kq_block c22 33513341 3, F22_lrlrrrrrlrrrrrlrlrrrrrrrr_eq, r22_37, kq_skip c22 261823, reduceIte, reduceCtorEq, XE.exit.injEq, Nat.reduceEqDiff, Nat.reduceMul, Nat.reduceAdd] <;> kernel_rfl
theorem r22_38  : kCode env 22 false inv k (cp c22 4092) (act 146 [(0, x0), (4, x4), (9, x9), (10, x10), (11, x11), (89, x89)]) h K =
    bnd (pConv Try.prog 26 9 x11 h) fun x141 =>
    bnd (pConv Try.prog 26 9 x0 h) fun x143 =>
    bnd (pBin Try.prog .neq 9 (.tmp 141) (.tmp 143) x141 x143) fun x144 =>
    K .normal (act 146 [(10, x10), (144, x144)]) h := kq_reg
theorem b22_rlrrrrrrrrr  : kCode env 22 false inv k (cp c22 4093) (act 146 [(10, x10), (144, x144)]) h K = brV x144 (kCode env 22 false inv k (cp c22 8186) (act 146 [(10, x10), (144, x144)]) h K) (kCode env 22 false inv k (cp c22 8187) (act 146 [(10, x10), (144, x144)]) h K) := kq_cond
theorem r22_39  : kCode env 22 false inv k (cp c22 16372) (act 146 [(10, x10), (144, x144)]) h K =
    K .normal (act 146 [(2, (.slice none 0 0)), (3, (.int .i64 4))]) h := kq_reg
theorem r22_40  : kCode env 22 false inv k (cp c22 4094) (act 146 [(10, x10), (144, x144)]) h K =
    K .normal (act 146 [(2, x10), (3, (.int .i64 0))]) h := kq_reg
/-- shadowbook/shadowbookref06.Get -/
noncomputable def F22 (inv : Inv) (k : Nat) (x0 : Value) (h : AH) : Option (Value × AH) :=
    bnd (inv (.func 45) #[] #[x0] h) fun x25 =>
    bnd (inv (.func 46) #[] #[x25.1, (.int .i64 1)] x25.2) fun x28 =>
    bnd (pExtract x28.1 0) fun x29 =>
    bnd (pExtract x28.1 1) fun x30 =>
    bnd (inv (.func 47) #[] #[x25.1] x28.2) fun x33 =>
    bnd (pExtract x33.1 0) fun x34 =>
    bnd (pExtract x33.1 1) fun x35 =>
    G22_4 inv x0 x25.1 x29 x30 x34 x35 x33.2 fun y45 h =>
    brV y45
    (some (.tuple #[(.slice none 0 0), (.int .i64 4)], h))
    (bnd (pConv Try.prog 51 3 x34 h) fun x47 =>
    F22_rlrrrrrrrr inv k x0 x25.1 x47 (.slice none 0 0) (.slice none 0 0) x29 h
    (fun y0 y4 y9 y10 y11 y89 h_7 =>
    bnd (pConv Try.prog 26 9 y11 h_7) fun x141 =>
    bnd (pConv Try.prog 26 9 y0 h_7) fun x143 =>
    bnd (pBin Try.prog .neq 9 (.tmp 141) (.tmp 143) x141 x143) fun x144 =>
    brV x144
    (some (.tuple #[(.slice none 0 0), (.int .i64 4)], h_7))
    (some (.tuple #[y10, (.int .i64 0)], h_7)))
    (fun y2 y3 h_8 =>
    some (.tuple #[y2, y3], h_8)))
theorem F22_eq : eFun env k inv 22 #[x0] h = F22 inv k x0 h := by
      refine (kq_fun (a := act 146 [(0, x0)]) (c := cp c22 1)).trans ?_
      unfold F22
      simp only [kq_seq c22 1, r22_0, kq_seq c22 3, r22_1, kq_seq c22 7, r22_2, kq_seq c22 15, r22_3, kq_seq c22 31, kq_seq c22 62, r22_4, b22_rlrrrr, kq_seq c22 250, r22_5, kq_ret c22 501, res22_0, kq_skip c22 251, kq_seq c22 63, r22_6, kq_seq c22 127, r22_7, kq_seq c22 255, r22_8, kq_seq c22 511, kq_seq c22 1022, r22_9, F22_rlrrrrrrrr_eq, kq_seq c22 1023, kq_seq c22 2046, r22_38, b22_rlrrrrrrrrr, kq_seq c22 8186, r22_39, kq_ret c22 16373, kq_skip c22 8187, kq_seq c22 2047, r22_40, kq_ret c22 4095, reduceIte, reduceCtorEq, XE.exit.injEq, Nat.reduceEqDiff, Nat.reduceMul, Nat.reduceAdd] <;> kernel_rfl
theorem F22_call : eInv env (k + 1) (.func 22) #[] #[x0] h = F22 (eInv env k) k x0 h := kq_inv F22_eq
noncomputable def c23 : Code := codeOf Try.prog 23
theorem r23_0  : kCode env 23 false inv k (cp c23 2) (act 26 [(0, x0), (1, x1)]) h K =
    K .normal (act 26 [(0, x0), (1, x1)]) h := kq_reg
theorem r23_1  : kCode env 23 false inv k (cp c23 12) (act 26 [(0, x0), (1, x1)]) h K =
    bnd (pLen Try.prog #[26] x0 h) fun x7 =>
    bnd (pLen Try.prog #[26] x1 h) fun x9 =>
    bnd (pBin Try.prog .neq 3 (.tmp 7) (.tmp 9) x7 x9) fun x10 =>
    K .normal (act 26 [(0, x0), (1, x1), (10, x10)]) h := kq_reg
theorem b23_rlr  : kCode env 23 false inv k (cp c23 13) (act 26 [(0, x0), (1, x1), (10, x10)]) h K = brV x10 (kCode env 23 false inv k (cp c23 26) (act 26 [(0, x0), (1, x1), (10, x10)]) h K) (kCode env 23 false inv k (cp c23 27) (act 26 [(0, x0), (1, x1), (10, x10)]) h K) := kq_cond
theorem r23_2  : kCode env 23 false inv k (cp c23 52) (act 26 [(0, x0), (1, x1), (10, x10)]) h K =
    K .normal (act 26 [(4, (.bool false))]) h := kq_reg
theorem res23_0 : resOfFn env.P 23 .ret (act 26 [(4, x4)]) h = some (x4, h) := kq_res
theorem r23_3  : kCode env 23 false inv k (cp c23 28) (act 26 [(0, x0), (1, x1), (10, x10)]) h K =
    K .normal (act 26 [(0, x0), (1, x1), (5, (.int .i64 0))]) h := kq_reg
theorem r23_4  : kCode env 23 false inv k (cp c23 464) (act 26 [(0, x0), (1, x1), (5, x5)]) h K =
    bnd (pLen Try.prog #[26] x0 h) fun x13 =>
    bnd (pBin Try.prog .lss 3 (.tmp 11) (.tmp 13) x5 x13) fun x14 =>
    K .normal (act 26 [(0, x0), (1, x1), (5, x5), (14, x14)]) h := kq_reg
theorem b23_rlllrlrr  : kCode env 23 false inv k (cp c23 465) (act 26 [(0, x0), (1, x1), (5, x5), (14, x14)]) h K = brV x14 (kCode env 23 false inv k (cp c23 930) (act 26 [(0, x0), (1, x1), (5, x5), (14, x14)]) h K) (kCode env 23 false inv k (cp c23 931) (act 26 [(0, x0), (1, x1), (5, x5), (14, x14)]) h K) := kq_cond
theorem r23_6  : kCode env 23 false inv k (cp c23 1864) (act 26 [(0, x0), (1, x1), (5, x5), (14, x14)]) h K =
    bnd (pIndexAddr Try.prog 26 x0 x5) fun x19 =>
    bnd (pLoad Try.prog 5 x19 h) fun x20 =>
    bnd (pIndexAddr Try.prog 26 x1 x5) fun x23 =>
    bnd (pLoad Try.prog 5 x23 h) fun x24 =>
    bnd (pBin Try.prog .neq 5 (.tmp 20) (.tmp 24) x20 x24) fun x25 =>
    K .normal (act 26 [(0, x0), (1, x1), (5, x5), (25, x25)]) h := kq_draw
theorem b23_rllrllrlrr  : kCode env 23 false inv k (cp c23 1865) (act 26 [(0, x0), (1, x1), (5, x5), (25, x25)]) h K = brV x25 (kCode env 23 false inv k (cp c23 3730) (act 26 [(0, x0), (1, x1), (5, x5), (25, x25)]) h K) (kCode env 23 false inv k (cp c23 3731) (act 26 [(0, x0), (1, x1), (5, x5), (25, x25)]) h K) := kq_cond
theorem r23_7  : kCode env 23 false inv k (cp c23 7460) (act 26 [(0, x0), (1, x1), (5, x5), (25, x25)]) h K =
    K .normal (act 26 [(4, (.bool false))]) h := kq_reg
theorem r23_5  : kCode env 23 false inv k (cp c23 467) (act 26 [(0, x0), (1, x1), (5, x5), (25, x25)]) h K =
    bnd (pBin Try.prog .add 3 (.tmp 15) (.const (.int .i64 1)) x5 (.int .i64 1)) fun x16 =>
    K .normal (act 26 [(0, x0), (1, x1), (5, x16)]) h := kq_reg
noncomputable def F23_lrlrr {β : Type} (inv : Inv) (k : Nat) : Nat → Value → Value → Value → AH → (Value → Value → Value → Value → AH → Option β) → (Value → AH → Option β) → Option β
  | 0, _, _, _, _, _, _ => none
  | j + 1, x0, x1, x5, h, ke0, kr =>
    bnd (pLen Try.prog #[26] x0 h) fun x13 =>
    bnd (pBin Try.prog .lss 3 (.tmp 11) (.tmp 13) x5 x13) fun x14 =>
    brV x14
    (bnd (pIndexAddr Try.prog 26 x0 x5) fun x19 =>
    bnd (pLoad Try.prog 5 x19 h) fun x20 =>
    bnd (pIndexAddr Try.prog 26 x1 x5) fun x23 =>
    bnd (pLoad Try.prog 5 x23 h) fun x24 =>
    bnd (pBin Try.prog .neq 5 (.tmp 20) (.tmp 24) x20 x24) fun x25 =>
    brV x25
    (kr (.bool false) h)
    (bnd (pBin Try.prog .add 3 (.tmp 15) (.const (.int .i64 1)) x5 (.int .i64 1)) fun x16 =>
    F23_lrlrr inv k j x0 x1 x16 h ke0 kr))
    (ke0 x0 x1 x5 x14 h)
theorem F23_lrlrr_j (j : Nat) : kLoop (kCode env 23 false inv k (cp c23 116)) j (act 26 [(0, x0), (1, x1), (5, x5)]) h K = F23_lrlrr inv k j x0 x1 x5 h (fun y0 y1 y5 y14 h => K (.exit 0) (act 26 [(0, y0), (1, y1), (5, y5), (14, y14)]) h) (fun y4 h => K .ret (act 26 [(4, y4)]) h) := by
      induction j generalizing x0 x1 x5 h with
      | zero => rfl
      | succ j ih =>
        unfold F23_lrlrr
        simp only [kLoop, kq_seq c23 116, kq_seq c23 232, r23_4, b23_rlllrlrr, kq_skip c23 930, kq_seq c23 233, kq_block c23 466 1, kq_seq c23 932, r23_6, b23_rllrllrlrr, kq_seq c23 3730, r23_7, kq_ret c23 7461, kq_skip c23 3731, r23_5, kq_exit c23 931 0, ih, reduceIte, reduceCtorEq, XE.exit.injEq, Nat.reduceEqDiff, Nat.reduceMul, Nat.reduceAdd] <;> kernel_rfl
theorem F23_lrlrr_eq  : kCode env 23 false inv k (cp c23 58) (act 26 [(0, x0), (1, x1), (5, x5)]) h K = F23_lrlrr inv k k x0 x1 x5 h (fun y0 y1 y5 y14 h => K (.exit 0) (act 26 [(0, y0), (1, y1), (5, y5), (14, y14)]) h) (fun y4 h => K .ret (act 26 [(4, y4)]) h) := kq_loop (F23_lrlrr_j k)
theorem r23_8  : kCode env 23 false inv k (cp c23 30) (act 26 [(0, x0), (1, x1), (5, x5), (14, x14)]) h K =
    K .normal (act 26 [(4, (.bool true))]) h := kq_reg
/-- shadowbook/shadowbookkit.Same[byte] -/
noncomputable def F23 (inv : Inv) (k : Nat) (x0 x1 : Value) (h : AH) : Option (Value × AH) :=
    bnd (pLen Try.prog #[26] x0 h) fun x7 =>
    bnd (pLen Try.prog #[26] x1 h) fun x9 =>
    bnd (pBin Try.prog .neq 3 (.tmp 7) (.tmp 9) x7 x9) fun x10 =>
    brV x10
    (some ((.bool false), h))
    (F23_lrlrr inv k k x0 x1 (.int .i64 0) h
    (fun y0 y1 y5 y14 h =>
    some ((.bool true), h))
    (fun y4 h_1 =>
    some (y4, h_1)))
theorem F23_eq : eFun env k inv 23 #[x0, x1] h = F23 inv k x0 x1 h := by
      refine (kq_fun (a := act 26 [(0, x0), (1, x1)]) (c := cp c23 1)).trans ?_
      unfold F23
      simp only [kq_seq c23 1, r23_0, kq_seq c23 3, kq_seq c23 6, r23_1, b23_rlr, kq_seq c23 26, r23_2, kq_ret c23 53, res23_0, kq_skip c23 27, kq_seq c23 7, kq_seq c23 14, r23_3, kq_block c23 29 0, F23_lrlrr_eq, kq_seq c23 15, r23_8, kq_ret c23 31, reduceIte, reduceCtorEq, XE.exit.injEq, Nat.reduceEqDiff, Nat.reduceMul, Nat.reduceAdd] <;> kernel_rfl
theorem F23_call : eInv env (k + 1) (.func 23) #[] #[x0, x1] h = F23 (eInv env k) k x0 x1 h := kq_inv F23_eq
noncomputable def c24 : Code := codeOf Try.prog 24
theorem r24_0  : kCode env 24 false inv k (cp c24 2) (act 5 []) h K =
    K .normal (act 5 []) h := kq_reg
noncomputable abbrev G24_1 {β : Type} (inv : Inv) (h : AH) (K : Value → AH → Option β) : Option β :=
    bnd (pBuild Try.prog 46 #[(0, (.int .u8 1)), (1, (.func (.func 13) #[] #[])), (2, (.func (.func 50) #[] #[]))]) fun x1 =>
    bnd (pBuild Try.prog 46 #[(0, (.int .u8 2)), (1, (.func (.func 14) #[] #[])), (2, (.func (.func 51) #[] #[]))]) fun x2 =>
    bnd (pBuild Try.prog 46 #[(0, (.int .u8 3)), (1, (.func (.func 11) #[] #[])), (2, (.func (.func 52) #[] #[]))]) fun x3 =>
    bnd (pBuildSlice Try.prog 42 3 #[(0, x1), (1, x2), (2, x3)] h) fun x4 =>
    K (x4.1) x4.2
theorem r24_1  : kCode env 24 false inv k (cp c24 6) (act 5 []) h K =
    G24_1 inv  h fun y0 h => K .normal (act 5 [(0, y0)]) h := kq_reg
theorem res24_0 : resOfFn env.P 24 .ret (act 5 [(0, x0)]) h = some (x0, h) := kq_res
/-- shadowbook/ints.forms -/
noncomputable def F24 (inv : Inv) (k : Nat) (h : AH) : Option (Value × AH) :=
    G24_1 inv  h fun y0 h =>
    some (y0, h)
theorem F24_eq : eFun env k inv 24 #[] h = F24 inv k  h := by
      refine (kq_fun (a := act 5 []) (c := cp c24 1)).trans ?_
      unfold F24
      simp only [kq_seq c24 1, r24_0, kq_seq c24 3, r24_1, kq_ret c24 7, res24_0, reduceIte, reduceCtorEq, XE.exit.injEq, Nat.reduceEqDiff, Nat.reduceMul, Nat.reduceAdd] <;> kernel_rfl
theorem F24_call : eInv env (k + 1) (.func 24) #[] #[] h = F24 (eInv env k) k  h := kq_inv F24_eq
noncomputable def c25 : Code := codeOf Try.prog 25
theorem r25_0  : kCode env 25 false inv k (cp c25 2) (act 33 [(0, x0), (1, x1)]) h K =
    K .normal (act 33 [(0, x0), (1, x1)]) h := kq_reg
theorem r25_1  : kCode env 25 false inv k (cp c25 12) (act 33 [(0, x0), (1, x1)]) h K =
    bnd (pLen Try.prog #[41] x0 h) fun x8 =>
    bnd (pBin Try.prog .lss 3 (.tmp 8) (.const (.int .i64 1)) x8 (.int .i64 1)) fun x9 =>
    K .normal (act 33 [(0, x0), (1, x1), (9, x9)]) h := kq_reg
theorem b25_rlr  : kCode env 25 false inv k (cp c25 13) (act 33 [(0, x0), (1, x1), (9, x9)]) h K = brV x9 (kCode env 25 false inv k (cp c25 26) (act 33 [(0, x0), (1, x1), (9, x9)]) h K) (kCode env 25 false inv k (cp c25 27) (act 33 [(0, x0), (1, x1), (9, x9)]) h K) := kq_cond
theorem r25_2  : kCode env 25 false inv k (cp c25 26) (act 33 [(0, x0), (1, x1), (9, x9)]) h K =
    bnd (pMakeIface Try.prog 9 (.string { data := #[115, 108, 105, 99, 101, 115, 46, 77, 105, 110, 70, 117, 110, 99, 58, 32, 101, 109, 112, 116, 121, 32, 108, 105, 115, 116] })) fun x10 =>
    bnd ((none : Option (Value × AH))) fun u =>
    K .normal (act 33 [(0, x0), (1, x1)]) u.2 := kq_reg
noncomputable def F25_rlr {β : Type} (inv : Inv) (k : Nat) (x0 x1 x9 : Value) (h : AH) (kn : (Value → Value → Value → AH → Option β)) : Option β :=
    brV x9
    (bnd (pMakeIface Try.prog 9 (.string { data := #[115, 108, 105, 99, 101, 115, 46, 77, 105, 110, 70, 117, 110, 99, 58, 32, 101, 109, 112, 116, 121, 32, 108, 105, 115, 116] })) fun x10 =>
    bnd ((none : Option (Value × AH))) fun u =>
    kn x0 x1 unk u.2)
    (kn x0 x1 x9 h)
theorem F25_rlr_eq  : kCode env 25 false inv k (cp c25 13) (act 33 [(0, x0), (1, x1), (9, x9)]) h K = F25_rlr inv k x0 x1 x9 h (fun y0 y1 y9 h => K .normal (act 33 [(0, y0), (1, y1), (9, y9)]) h) := by
      unfold F25_rlr
      simp only [b25_rlr, r25_2, kq_skip c25 27, reduceIte, reduceCtorEq, XE.exit.injEq, Nat.reduceEqDiff, Nat.reduceMul, Nat.reduceAdd] <;> kernel_rfl
theorem r25_3  : kCode env 25 false inv k (cp c25 14) (act 33 [(0, x0), (1, x1), (9, x9)]) h K =
    bnd (pIndexAddr Try.prog 41 x0 (.int .i64 0)) fun x12 =>
    bnd (pLoad Try.prog 26 x12 h) fun x13 =>
    K .normal (act 33 [(0, x0), (1, x1), (5, x13)]) h := kq_reg
theorem r25_4  : kCode env 25 false inv k (cp c25 60) (act 33 [(0, x0), (1, x1), (5, x5)]) h K =
    K .normal (act 33 [(0, x0), (1, x1), (5, x5), (6, (.int .i64 1))]) h := kq_reg
theorem r25_5  : kCode env 25 false inv k (cp c25 976) (act 33 [(0, x0), (1, x1), (5, x5), (6, x6)]) h K =
    bnd (pLen Try.prog #[41] x0 h) fun x16 =>
    bnd (pBin Try.prog .lss 3 (.tmp 14) (.tmp 16) x6 x16) fun x17 =>
    K .normal (act 33 [(0, x0), (1, x1), (5, x5), (6, x6), (17, x17)]) h := kq_reg
theorem b25_rlllrlrrr  : kCode env 25 false inv k (cp c25 977) (act 33 [(0, x0), (1, x1), (5, x5), (6, x6), (17, x17)]) h K = brV x17 (kCode env 25 false inv k (cp c25 1954) (act 33 [(0, x0), (1, x1), (5, x5), (6, x6), (17, x17)]) h K) (kCode env 25 false inv k (cp c25 1955) (act 33 [(0, x0), (1, x1), (5, x5), (6, x6), (17, x17)]) h K) := kq_cond
theorem r25_7  : kCode env 25 false inv k (cp c25 3912) (act 33 [(0, x0), (1, x1), (5, x5), (6, x6), (17, x17)]) h K =
    bnd (pIndexAddr Try.prog 41 x0 x6) fun x23 =>
    bnd (pLoad Try.prog 26 x23 h) fun x24 =>
    bnd (callV inv x1 #[x24, x5] h) fun x26 =>
    bnd (pBin Try.prog .lss 3 (.tmp 26) (.const (.int .i64 0)) x26.1 (.int .i64 0)) fun x27 =>
    K .normal (act 33 [(0, x0), (1, x1), (5, x5), (6, x6), (27, x27)]) x26.2 := kq_reg
theorem b25_rllrllrlrrr  : kCode env 25 false inv k (cp c25 3913) (act 33 [(0, x0), (1, x1), (5, x5), (6, x6), (27, x27)]) h K = brV x27 (kCode env 25 false inv k (cp c25 7826) (act 33 [(0, x0), (1, x1), (5, x5), (6, x6), (27, x27)]) h K) (kCode env 25 false inv k (cp c25 7827) (act 33 [(0, x0), (1, x1), (5, x5), (6, x6), (27, x27)]) h K) := kq_cond
theorem r25_8  : kCode env 25 false inv k (cp c25 7826) (act 33 [(0, x0), (1, x1), (5, x5), (6, x6), (27, x27)]) h K =
    bnd (pIndexAddr Try.prog 41 x0 x6) fun x30 =>
    bnd (pLoad Try.prog 26 x30 h) fun x31 =>
    K .normal (act 33 [(0, x0), (1, x1), (5, x31), (6, x6)]) h := kq_reg
noncomputable def F25_lrllrlrrr {β : Type} (inv : Inv) (k : Nat) (x0 x1 x5 x6 x17 : Value) (h : AH) (kn : (Value → Value → Value → Value → Value → AH → Option β)) : Option β :=
    bnd (pIndexAddr Try.prog 41 x0 x6) fun x23 =>
    bnd (pLoad Try.prog 26 x23 h) fun x24 =>
    bnd (callV inv x1 #[x24, x5] h) fun x26 =>
    bnd (pBin Try.prog .lss 3 (.tmp 26) (.const (.int .i64 0)) x26.1 (.int .i64 0)) fun x27 =>
    brV x27
    (bnd (pIndexAddr Try.prog 41 x0 x6) fun x30 =>
    bnd (pLoad Try.prog 26 x30 x26.2) fun x31 =>
    kn x0 x1 x31 x6 unk x26.2)
    (kn x0 x1 x5 x6 x27 x26.2)
theorem F25_lrllrlrrr_eq  : kCode env 25 false inv k (cp c25 978) (act 33 [(0, x0), (1, x1), (5, x5), (6, x6), (17, x17)]) h K = F25_lrllrlrrr inv k x0 x1 x5 x6 x17 h (fun y0 y1 y5 y6 y27 h => K .normal (act 33 [(0, y0), (1, y1), (5, y5), (6, y6), (27, y27)]) h) := by
      unfold F25_lrllrlrrr
      simp only [kq_block c25 978 1, kq_seq c25 1956, r25_7, b25_rllrllrlrrr, r25_8, kq_skip c25 7827, reduceIte, reduceCtorEq, XE.exit.injEq, Nat.reduceEqDiff, Nat.reduceMul, Nat.reduceAdd] <;> kernel_rfl
theorem r25_6  : kCode env 25 false inv k (cp c25 979) (act 33 [(0, x0), (1, x1), (5, x5), (6, x6), (27, x27)]) h K =
    bnd (pBin Try.prog .add 3 (.tmp 18) (.const (.int .i64 1)) x6 (.int .i64 1)) fun x19 =>
    K .normal (act 33 [(0, x0), (1, x1), (5, x5), (6, x19)]) h := kq_reg
noncomputable def F25_lrlrrr {β : Type} (inv : Inv) (k : Nat) : Nat → Value → Value → Value → Value → AH → (Value → Value → Value → Value → Value → AH → Option β) → Option β
  | 0, _, _, _, _, _, _ => none
  | j + 1, x0, x1, x5, x6, h, ke0 =>
    bnd (pLen Try.prog #[41] x0 h) fun x16 =>
    bnd (pBin Try.prog .lss 3 (.tmp 14) (.tmp 16) x6 x16) fun x17 =>
    brV x17
    (F25_lrllrlrrr inv k x0 x1 x5 x6 x17 h
    (fun y0 y1 y5 y6 y27 h =>
    bnd (pBin Try.prog .add 3 (.tmp 18) (.const (.int .i64 1)) y6 (.int .i64 1)) fun x19 =>
    F25_lrlrrr inv k j y0 y1 y5 x19 h ke0))
    (ke0 x0 x1 x5 x6 x17 h)
theorem F25_lrlrrr_j (j : Nat) : kLoop (kCode env 25 false inv k (cp c25 244)) j (act 33 [(0, x0), (1, x1), (5, x5), (6, x6)]) h K = F25_lrlrrr inv k j x0 x1 x5 x6 h (fun y0 y1 y5 y6 y17 h => K (.exit 0) (act 33 [(0, y0), (1, y1), (5, y5), (6, y6), (17, y17)]) h) := by
      induction j generalizing x0 x1 x5 x6 h with
      | zero => rfl
      | succ j ih =>
        unfold F25_lrlrrr
        simp only [kLoop, kq_seq c25 244, kq_seq c25 488, r25_5, b25_rlllrlrrr, kq_skip c25 1954, kq_seq c25 489, F25_lrllrlrrr_eq, r25_6, kq_exit c25 1955 0, ih, reduceIte, reduceCtorEq, XE.exit.injEq, Nat.reduceEqDiff, Nat.reduceMul, Nat.reduceAdd] <;> kernel_rfl
theorem F25_lrlrrr_eq  : kCode env 25 false inv k (cp c25 122) (act 33 [(0, x0), (1, x1), (5, x5), (6, x6)]) h K = F25_lrlrrr inv k k x0 x1 x5 x6 h (fun y0 y1 y5 y6 y17 h => K (.exit 0) (act 33 [(0, y0), (1, y1), (5, y5), (6, y6), (17, y17)]) h) := kq_loop (F25_lrlrrr_j k)
theorem r25_9  : kCode env 25 false inv k (cp c25 62) (act 33 [(0, x0), (1, x1), (5, x5), (6, x6), (17, x17)]) h K =
    K .normal (act 33 [(4, x5)]) h := kq_reg
theorem res25_0 : resOfFn env.P 25 .ret (act 33 [(4, x4)]) h = some (x4, h) := kq_res
/-- slices.MinFunc[[][]byte,[]byte] -/
noncomputable def F25 (inv : Inv) (k : Nat) (x0 x1 : Value) (h : AH) : Option (Value × AH) :=
    bnd (pLen Try.prog #[41] x0 h) fun x8 =>
    bnd (pBin Try.prog .lss 3 (.tmp 8) (.const (.int .i64 1)) x8 (.int .i64 1)) fun x9 =>
    F25_rlr inv k x0 x1 x9 h
    (fun y0 y1 y9 h =>
    bnd (pIndexAddr Try.prog 41 y0 (.int .i64 0)) fun x12 =>
    bnd (pLoad Try.prog 26 x12 h) fun x13 =>
    F25_lrlrrr inv k k y0 y1 x13 (.int .i64 1) h
    (fun y0_1 y1_2 y5 y6 y17 h_3 =>
    some (y5, h_3)))
theorem F25_eq : eFun env k inv 25 #[x0, x1] h = F25 inv k x0 x1 h := by
      refine (kq_fun (a := act 33 [(0, x0), (1, x1)]) (c := cp c25 1)).trans ?_
      unfold F25
      simp only [kq_seq c25 1, r25_0, kq_seq c25 3, kq_seq c25 6, r25_1, F25_rlr_eq, kq_seq c25 7, r25_3, kq_seq c25 15, kq_seq c25 30, r25_4, kq_block c25 61 0, F25_lrlrrr_eq, kq_seq c25 31, r25_9, kq_ret c25 63, res25_0, reduceIte, reduceCtorEq, XE.exit.injEq, Nat.reduceEqDiff, Nat.reduceMul, Nat.reduceAdd] <;> kernel_rfl
theorem F25_call : eInv env (k + 1) (.func 25) #[] #[x0, x1] h = F25 (eInv env k) k x0 x1 h := kq_inv F25_eq
noncomputable def c26 : Code := codeOf Try.prog 26
theorem r26_0  : kCode env 26 false inv k (cp c26 2) (act 10 [(0, x0), (1, x1)]) h K =
    K .normal (act 10 [(0, x0), (1, x1)]) h := kq_reg
theorem r26_1  : kCode env 26 false inv k (cp c26 6) (act 10 [(0, x0), (1, x1)]) h K =
    bnd (pLen Try.prog #[26] x0 h) fun x6 =>
    bnd (pLen Try.prog #[26] x1 h) fun x8 =>
    bnd (inv (.func 27) #[] #[x6, x8] h) fun x9 =>
    K .normal (act 10 [(4, x9.1)]) x9.2 := kq_reg
theorem res26_0 : resOfFn env.P 26 .ret (act 10 [(4, x4)]) h = some (x4, h) := kq_res
/-- shadowbook/ints.Put$1 -/
noncomputable def F26 (inv : Inv) (k : Nat) (x0 x1 : Value) (h : AH) : Option (Value × AH) :=
    bnd (pLen Try.prog #[26] x0 h) fun x6 =>
    bnd (pLen Try.prog #[26] x1 h) fun x8 =>
    bnd (inv (.func 27) #[] #[x6, x8] h) fun x9 =>
    some (x9.1, x9.2)
theorem F26_eq : eFun env k inv 26 #[x0, x1] h = F26 inv k x0 x1 h := by
      refine (kq_fun (a := act 10 [(0, x0), (1, x1)]) (c := cp c26 1)).trans ?_
      unfold F26
      simp only [kq_seq c26 1, r26_0, kq_seq c26 3, r26_1, kq_ret c26 7, res26_0, reduceIte, reduceCtorEq, XE.exit.injEq, Nat.reduceEqDiff, Nat.reduceMul, Nat.reduceAdd] <;> kernel_rfl
theorem F26_call : eInv env (k + 1) (.func 26) #[] #[x0, x1] h = F26 (eInv env k) k x0 x1 h := kq_inv F26_eq
noncomputable def c27 : Code := codeOf Try.prog 27
theorem r27_0  : kCode env 27 false inv k (cp c27 2) (act 20 [(0, x0), (1, x1)]) h K =
    K .normal (act 20 [(0, x0), (1, x1)]) h := kq_reg
theorem r27_1  : kCode env 27 false inv k (cp c27 6) (act 20 [(0, x0), (1, x1)]) h K =
    bnd (inv (.func 53) #[] #[x0] h) fun x8 =>
    K .normal (act 20 [(0, x0), (1, x1), (5, x8.1)]) x8.2 := kq_reg
theorem r27_2  : kCode env 27 false inv k (cp c27 14) (act 20 [(0, x0), (1, x1), (5, x5)]) h K =
    bnd (inv (.func 53) #[] #[x1] h) fun x10 =>
    K .normal (act 20 [(0, x0), (1, x1), (5, x5), (6, x10.1)]) x10.2 := kq_reg
theorem r27_3  : kCode env 27 false inv k (cp c27 60) (act 20 [(0, x0), (1, x1), (5, x5), (6, x6)]) h K =
    K .normal (act 20 [(0, x0), (1, x1), (6, x6), (11, x5)]) h := kq_reg
theorem b27_rlrrr  : kCode env 27 false inv k (cp c27 61) (act 20 [(0, x0), (1, x1), (6, x6), (11, x11)]) h K = brV x11 (kCode env 27 false inv k (cp c27 122) (act 20 [(0, x0), (1, x1), (6, x6), (11, x11)]) h K) (kCode env 27 false inv k (cp c27 123) (act 20 [(0, x0), (1, x1), (6, x6), (11, x11)]) h K) := kq_cond
theorem r27_4  : kCode env 27 false inv k (cp c27 488) (act 20 [(0, x0), (1, x1), (6, x6), (11, x11)]) h K =
    K .normal (act 20 [(12, x6)]) h := kq_reg
theorem b27_rllrlrrr  : kCode env 27 false inv k (cp c27 489) (act 20 [(12, x12)]) h K = brV x12 (kCode env 27 false inv k (cp c27 978) (act 20 [(12, x12)]) h K) (kCode env 27 false inv k (cp c27 979) (act 20 [(12, x12)]) h K) := kq_cond
theorem r27_5  : kCode env 27 false inv k (cp c27 1956) (act 20 [(12, x12)]) h K =
    K .normal (act 20 [(4, (.int .i64 0))]) h := kq_reg
theorem res27_0 : resOfFn env.P 27 .ret (act 20 [(4, x4)]) h = some (x4, h) := kq_res
theorem r27_6  : kCode env 27 false inv k (cp c27 490) (act 20 [(12, x12)]) h K =
    K .normal (act 20 [(4, (.int .i64 (-1)))]) h := kq_reg
theorem r27_7  : kCode env 27 false inv k (cp c27 124) (act 20 [(0, x0), (1, x1), (6, x6), (11, x11)]) h K =
    K .normal (act 20 [(0, x0), (1, x1), (13, x6)]) h := kq_reg
theorem b27_rlrrrr  : kCode env 27 false inv k (cp c27 125) (act 20 [(0, x0), (1, x1), (13, x13)]) h K = brV x13 (kCode env 27 false inv k (cp c27 250) (act 20 [(0, x0), (1, x1), (13, x13)]) h K) (kCode env 27 false inv k (cp c27 251) (act 20 [(0, x0), (1, x1), (13, x13)]) h K) := kq_cond
theorem r27_8  : kCode env 27 false inv k (cp c27 500) (act 20 [(0, x0), (1, x1), (13, x13)]) h K =
    K .normal (act 20 [(4, (.int .i64 1))]) h := kq_reg
theorem r27_9  : kCode env 27 false inv k (cp c27 252) (act 20 [(0, x0), (1, x1), (13, x13)]) h K =
    bnd (pBin Try.prog .lss 3 (.tmp 14) (.tmp 15) x0 x1) fun x16 =>
    K .normal (act 20 [(0, x0), (1, x1), (16, x16)]) h := kq_reg
theorem b27_rlrrrrr  : kCode env 27 false inv k (cp c27 253) (act 20 [(0, x0), (1, x1), (16, x16)]) h K = brV x16 (kCode env 27 false inv k (cp c27 506) (act 20 [(0, x0), (1, x1), (16, x16)]) h K) (kCode env 27 false inv k (cp c27 507) (act 20 [(0, x0), (1, x1), (16, x16)]) h K) := kq_cond
theorem r27_10  : kCode env 27 false inv k (cp c27 1012) (act 20 [(0, x0), (1, x1), (16, x16)]) h K =
    K .normal (act 20 [(4, (.int .i64 (-1)))]) h := kq_reg
theorem r27_11  : kCode env 27 false inv k (cp c27 508) (act 20 [(0, x0), (1, x1), (16, x16)]) h K =
    bnd (pBin Try.prog .gtr 3 (.tmp 17) (.tmp 18) x0 x1) fun x19 =>
    K .normal (act 20 [(19, x19)]) h := kq_reg
theorem b27_rlrrrrrr  : kCode env 27 false inv k (cp c27 509) (act 20 [(19, x19)]) h K = brV x19 (kCode env 27 false inv k (cp c27 1018) (act 20 [(19, x19)]) h K) (kCode env 27 false inv k (cp c27 1019) (act 20 [(19, x19)]) h K) := kq_cond
theorem r27_12  : kCode env 27 false inv k (cp c27 2036) (act 20 [(19, x19)]) h K =
    K .normal (act 20 [(4, (.int .i64 1))]) h := kq_reg
theorem r27_13  : kCode env 27 false inv k (cp c27 510) (act 20 [(19, x19)]) h K =
    K .normal (act 20 [(4, (.int .i64 0))]) h := kq_reg
/-- cmp.Compare[int] -/
noncomputable def F27 (inv : Inv) (k : Nat) (x0 x1 : Value) (h : AH) : Option (Value × AH) :=
    bnd (inv (.func 53) #[] #[x0] h) fun x8 =>
    bnd (inv (.func 53) #[] #[x1] x8.2) fun x10 =>
    brV x8.1
    (brV x10.1
    (some ((.int .i64 0), x10.2))
    (some ((.int .i64 (-1)), x10.2)))
    (brV x10.1
    (some ((.int .i64 1), x10.2))
    (bnd (pBin Try.prog .lss 3 (.tmp 14) (.tmp 15) x0 x1) fun x16 =>
    brV x16
    (some ((.int .i64 (-1)), x10.2))
    (bnd (pBin Try.prog .gtr 3 (.tmp 17) (.tmp 18) x0 x1) fun x19 =>
    brV x19
    (some ((.int .i64 1), x10.2))
    (some ((.int .i64 0), x10.2)))))
theorem F27_eq : eFun env k inv 27 #[x0, x1] h = F27 inv k x0 x1 h := by
      refine (kq_fun (a := act 20 [(0, x0), (1, x1)]) (c := cp c27 1)).trans ?_
      unfold F27
      simp only [kq_seq c27 1, r27_0, kq_seq c27 3, r27_1, kq_seq c27 7, r27_2, kq_seq c27 15, kq_seq c27 30, r27_3, b27_rlrrr, kq_seq c27 122, kq_seq c27 244, r27_4, b27_rllrlrrr, kq_seq c27 978, r27_5, kq_ret c27 1957, res27_0, kq_skip c27 979, kq_seq c27 245, r27_6, kq_ret c27 491, kq_skip c27 123, kq_seq c27 31, kq_seq c27 62, r27_7, b27_rlrrrr, kq_seq c27 250, r27_8, kq_ret c27 501, kq_skip c27 251, kq_seq c27 63, kq_seq c27 126, r27_9, b27_rlrrrrr, kq_seq c27 506, r27_10, kq_ret c27 1013, kq_skip c27 507, kq_seq c27 127, kq_seq c27 254, r27_11, b27_rlrrrrrr, kq_seq c27 1018, r27_12, kq_ret c27 2037, kq_skip c27 1019, kq_seq c27 255, r27_13, kq_ret c27 511, reduceIte, reduceCtorEq, XE.exit.injEq, Nat.reduceEqDiff, Nat.reduceMul, Nat.reduceAdd] <;> kernel_rfl
theorem F27_call : eInv env (k + 1) (.func 27) #[] #[x0, x1] h = F27 (eInv env k) k x0 x1 h := kq_inv F27_eq
noncomputable def c28 : Code := codeOf Try.prog 28
theorem r28_0  : kCode env 28 false inv k (cp c28 2) (act 25 [(0, x0)]) h K =
    K .normal (act 25 [(0, x0)]) h := kq_reg
theorem r28_1  : kCode env 28 false inv k (cp c28 12) (act 25 [(0, x0)]) h K =
    bnd (pLen Try.prog #[25] x0 h) fun x6 =>
    bnd (pBin Try.prog .lss 3 (.tmp 6) (.const (.int .i64 1)) x6 (.int .i64 1)) fun x7 =>
    K .normal (act 25 [(0, x0), (7, x7)]) h := kq_reg
theorem b28_rlr  : kCode env 28 false inv k (cp c28 13) (act 25 [(0, x0), (7, x7)]) h K = brV x7 (kCode env 28 false inv k (cp c28 26) (act 25 [(0, x0), (7, x7)]) h K) (kCode env 28 false inv k (cp c28 27) (act 25 [(0, x0), (7, x7)]) h K) := kq_cond
theorem r28_2  : kCode env 28 false inv k (cp c28 26) (act 25 [(0, x0), (7, x7)]) h K =
    bnd (pMakeIface Try.prog 9 (.string { data := #[115, 108, 105, 99, 101, 115, 46, 77, 105, 110, 58, 32, 101, 109, 112, 116, 121, 32, 108, 105, 115, 116] })) fun x8 =>
    bnd ((none : Option (Value × AH))) fun u =>
    K .normal (act 25 [(0, x0)]) u.2 := kq_reg
noncomputable def F28_rlr {β : Type} (inv : Inv) (k : Nat) (x0 x7 : Value) (h : AH) (kn : (Value → Value → AH → Option β)) : Option β :=
    brV x7
    (bnd (pMakeIface Try.prog 9 (.string { data := #[115, 108, 105, 99, 101, 115, 46, 77, 105, 110, 58, 32, 101, 109, 112, 116, 121, 32, 108, 105, 115, 116] })) fun x8 =>
    bnd ((none : Option (Value × AH))) fun u =>
    kn x0 unk u.2)
    (kn x0 x7 h)
theorem F28_rlr_eq  : kCode env 28 false inv k (cp c28 13) (act 25 [(0, x0), (7, x7)]) h K = F28_rlr inv k x0 x7 h (fun y0 y7 h => K .normal (act 25 [(0, y0), (7, y7)]) h) := by
      unfold F28_rlr
      simp only [b28_rlr, r28_2, kq_skip c28 27, reduceIte, reduceCtorEq, XE.exit.injEq, Nat.reduceEqDiff, Nat.reduceMul, Nat.reduceAdd] <;> kernel_rfl
theorem r28_3  : kCode env 28 false inv k (cp c28 14) (act 25 [(0, x0), (7, x7)]) h K =
    bnd (pIndexAddr Try.prog 25 x0 (.int .i64 0)) fun x10 =>
    bnd (pLoad Try.prog 2 x10 h) fun x11 =>
    K .normal (act 25 [(0, x0), (3, x11)]) h := kq_reg
theorem r28_4  : kCode env 28 false inv k (cp c28 60) (act 25 [(0, x0), (3, x3)]) h K =
    K .normal (act 25 [(0, x0), (3, x3), (4, (.int .i64 1))]) h := kq_reg
theorem r28_5  : kCode env 28 false inv k (cp c28 976) (act 25 [(0, x0), (3, x3), (4, x4)]) h K =
    bnd (pLen Try.prog #[25] x0 h) fun x14 =>
    bnd (pBin Try.prog .lss 3 (.tmp 12) (.tmp 14) x4 x14) fun x15 =>
    K .normal (act 25 [(0, x0), (3, x3), (4, x4), (15, x15)]) h := kq_reg
theorem b28_rlllrlrrr  : kCode env 28 false inv k (cp c28 977) (act 25 [(0, x0), (3, x3), (4, x4), (15, x15)]) h K = brV x15 (kCode env 28 false inv k (cp c28 1954) (act 25 [(0, x0), (3, x3), (4, x4), (15, x15)]) h K) (kCode env 28 false inv k (cp c28 1955) (act 25 [(0, x0), (3, x3), (4, x4), (15, x15)]) h K) := kq_cond
theorem r28_7  : kCode env 28 false inv k (cp c28 1956) (act 25 [(0, x0), (3, x3), (4, x4), (15, x15)]) h K =
    bnd (pIndexAddr Try.prog 25 x0 x4) fun x21 =>
    bnd (pLoad Try.prog 2 x21 h) fun x22 =>
    bnd (pMinMax Try.prog false #[x3, x22]) fun x23 =>
    K .normal (act 25 [(0, x0), (3, x23), (4, x4)]) h := kq_reg
theorem r28_6  : kCode env 28 false inv k (cp c28 979) (act 25 [(0, x0), (3, x3), (4, x4)]) h K =
    bnd (pBin Try.prog .add 3 (.tmp 16) (.const (.int .i64 1)) x4 (.int .i64 1)) fun x17 =>
    K .normal (act 25 [(0, x0), (3, x3), (4, x17)]) h := kq_reg
noncomputable def F28_lrlrrr {β : Type} (inv : Inv) (k : Nat) : Nat → Value → Value → Value → AH → (Value → Value → Value → Value → AH → Option β) → Option β
  | 0, _, _, _, _, _ => none
  | j + 1, x0, x3, x4, h, ke0 =>
    bnd (pLen Try.prog #[25] x0 h) fun x14 =>
    bnd (pBin Try.prog .lss 3 (.tmp 12) (.tmp 14) x4 x14) fun x15 =>
    brV x15
    (bnd (pIndexAddr Try.prog 25 x0 x4) fun x21 =>
    bnd (pLoad Try.prog 2 x21 h) fun x22 =>
    bnd (pMinMax Try.prog false #[x3, x22]) fun x23 =>
    bnd (pBin Try.prog .add 3 (.tmp 16) (.const (.int .i64 1)) x4 (.int .i64 1)) fun x17 =>
    F28_lrlrrr inv k j x0 x23 x17 h ke0)
    (ke0 x0 x3 x4 x15 h)
theorem F28_lrlrrr_j (j : Nat) : kLoop (kCode env 28 false inv k (cp c28 244)) j (act 25 [(0, x0), (3, x3), (4, x4)]) h K = F28_lrlrrr inv k j x0 x3 x4 h (fun y0 y3 y4 y15 h => K (.exit 0) (act 25 [(0, y0), (3, y3), (4, y4), (15, y15)]) h) := by
      induction j generalizing x0 x3 x4 h with
      | zero => rfl
      | succ j ih =>
        unfold F28_lrlrrr
        simp only [kLoop, kq_seq c28 244, kq_seq c28 488, r28_5, b28_rlllrlrrr, kq_skip c28 1954, kq_seq c28 489, kq_block c28 978 1, r28_7, r28_6, kq_exit c28 1955 0, ih, reduceIte, reduceCtorEq, XE.exit.injEq, Nat.reduceEqDiff, Nat.reduceMul, Nat.reduceAdd] <;> kernel_rfl
theorem F28_lrlrrr_eq  : kCode env 28 false inv k (cp c28 122) (act 25 [(0, x0), (3, x3), (4, x4)]) h K = F28_lrlrrr inv k k x0 x3 x4 h (fun y0 y3 y4 y15 h => K (.exit 0) (act 25 [(0, y0), (3, y3), (4, y4), (15, y15)]) h) := kq_loop (F28_lrlrrr_j k)
theorem r28_8  : kCode env 28 false inv k (cp c28 62) (act 25 [(0, x0), (3, x3), (4, x4), (15, x15)]) h K =
    K .normal (act 25 [(2, x3)]) h := kq_reg
theorem res28_0 : resOfFn env.P 28 .ret (act 25 [(2, x2)]) h = some (x2, h) := kq_res
/-- slices.Min[[]int64,int64] -/
noncomputable def F28 (inv : Inv) (k : Nat) (x0 : Value) (h : AH) : Option (Value × AH) :=
    bnd (pLen Try.prog #[25] x0 h) fun x6 =>
    bnd (pBin Try.prog .lss 3 (.tmp 6) (.const (.int .i64 1)) x6 (.int .i64 1)) fun x7 =>
    F28_rlr inv k x0 x7 h
    (fun y0 y7 h =>
    bnd (pIndexAddr Try.prog 25 y0 (.int .i64 0)) fun x10 =>
    bnd (pLoad Try.prog 2 x10 h) fun x11 =>
    F28_lrlrrr inv k k y0 x11 (.int .i64 1) h
    (fun y0_1 y3 y4 y15 h_2 =>
    some (y3, h_2)))
theorem F28_eq : eFun env k inv 28 #[x0] h = F28 inv k x0 h := by
      refine (kq_fun (a := act 25 [(0, x0)]) (c := cp c28 1)).trans ?_
      unfold F28
      simp only [kq_seq c28 1, r28_0, kq_seq c28 3, kq_seq c28 6, r28_1, F28_rlr_eq, kq_seq c28 7, r28_3, kq_seq c28 15, kq_seq c28 30, r28_4, kq_block c28 61 0, F28_lrlrrr_eq, kq_seq c28 31, r28_8, kq_ret c28 63, res28_0, reduceIte, reduceCtorEq, XE.exit.injEq, Nat.reduceEqDiff, Nat.reduceMul, Nat.reduceAdd] <;> kernel_rfl
theorem F28_call : eInv env (k + 1) (.func 28) #[] #[x0] h = F28 (eInv env k) k x0 h := kq_inv F28_eq
noncomputable def c29 : Code := codeOf Try.prog 29
theorem r29_0  : kCode env 29 false inv k (cp c29 2) (act 18 [(0, x0)]) h K =
    K .normal (act 18 [(0, x0)]) h := kq_reg
theorem r29_1  : kCode env 29 false inv k (cp c29 6) (act 18 [(0, x0)]) h K =
    K .normal (act 18 [(0, x0), (3, (.int .u64 0))]) h := kq_reg
theorem r29_2  : kCode env 29 false inv k (cp c29 28) (act 18 [(0, x0), (3, x3)]) h K =
    bnd (pLen Try.prog #[50] x0 h) fun x7 =>
    K .normal (act 18 [(3, x3), (6, x0), (7, x7), (8, (.int .i64 0))]) h := kq_reg
theorem r29_3  : kCode env 29 false inv k (cp c29 232) (act 18 [(3, x3), (6, x6), (7, x7), (8, x8)]) h K =
    bnd (pBin Try.prog .lss 3 (.tmp 8) (.tmp 7) x8 x7) fun x9 =>
    K .normal (act 18 [(3, x3), (6, x6), (7, x7), (8, x8), (9, x9)]) h := kq_reg
theorem b29_lrllrlrr  : kCode env 29 false inv k (cp c29 466) (act 18 [(3, x3), (6, x6), (7, x7), (8, x8), (9, x9)]) h K = brV x9 (kCode env 29 false inv k (cp c29 932) (act 18 [(3, x3), (6, x6), (7, x7), (8, x8), (9, x9)]) h K) (kCode env 29 false inv k (cp c29 933) (act 18 [(3, x3), (6, x6), (7, x7), (8, x8), (9, x9)]) h K) := kq_cond
theorem r29_4  : kCode env 29 false inv k (cp c29 3736) (act 18 [(3, x3), (6, x6), (7, x7), (8, x8), (9, x9)]) h K =
    bnd (pIndexAddr Try.prog 50 x6 x8) fun x10 =>
    bnd (pLoad Try.prog 51 x10 h) fun x11 =>
    K .normal (act 18 [(3, x3), (5, x11), (6, x6), (7, x7), (8, x8)]) h := kq_reg
theorem r29_5  : kCode env 29 false inv k (cp c29 3737) (act 18 [(3, x3), (5, x5), (6, x6), (7, x7), (8, x8)]) h K =
    bnd (pBin Try.prog .or 51 (.tmp 12) (.tmp 13) x3 x5) fun x14 =>
    K .normal (act 18 [(3, x14), (6, x6), (7, x7), (8, x8)]) h := kq_reg
theorem r29_6  : kCode env 29 false inv k (cp c29 935) (act 18 [(3, x3), (6, x6), (7, x7), (8, x8)]) h K =
    bnd (pBin Try.prog .add 3 (.tmp 8) (.const (.int .i64 1)) x8 (.int .i64 1)) fun x15 =>
    K .normal (act 18 [(3, x3), (6, x6), (7, x7), (8, x15)]) h := kq_reg
noncomputable def F29_lrlrr {β : Type} (inv : Inv) (k : Nat) : Nat → Value → Value → Value → Value → AH → (Value → Value → Value → Value → Value → AH → Option β) → Option β
  | 0, _, _, _, _, _, _ => none
  | j + 1, x3, x6, x7, x8, h, ke0 =>
    bnd (pBin Try.prog .lss 3 (.tmp 8) (.tmp 7) x8 x7) fun x9 =>
    brV x9
    (bnd (pIndexAddr Try.prog 50 x6 x8) fun x10 =>
    bnd (pLoad Try.prog 51 x10 h) fun x11 =>
    bnd (pBin Try.prog .or 51 (.tmp 12) (.tmp 13) x3 x11) fun x14 =>
    bnd (pBin Try.prog .add 3 (.tmp 8) (.const (.int .i64 1)) x8 (.int .i64 1)) fun x15 =>
    F29_lrlrr inv k j x14 x6 x7 x15 h ke0)
    (ke0 x3 x6 x7 x8 x9 h)
theorem F29_lrlrr_j (j : Nat) : kLoop (kCode env 29 false inv k (cp c29 116)) j (act 18 [(3, x3), (6, x6), (7, x7), (8, x8)]) h K = F29_lrlrr inv k j x3 x6 x7 x8 h (fun y3 y6 y7 y8 y9 h => K (.exit 0) (act 18 [(3, y3), (6, y6), (7, y7), (8, y8), (9, y9)]) h) := by
      induction j generalizing x3 x6 x7 x8 h with
      | zero => rfl
      | succ j ih =>
        unfold F29_lrlrr
        simp only [kLoop, kq_seq c29 116, r29_3, kq_seq c29 233, b29_lrllrlrr, kq_skip c29 932, kq_seq c29 467, kq_block c29 934 1, kq_seq c29 1868, r29_4, r29_5, r29_6, kq_exit c29 933 0, ih, reduceIte, reduceCtorEq, XE.exit.injEq, Nat.reduceEqDiff, Nat.reduceMul, Nat.reduceAdd] <;> kernel_rfl
theorem F29_lrlrr_eq  : kCode env 29 false inv k (cp c29 58) (act 18 [(3, x3), (6, x6), (7, x7), (8, x8)]) h K = F29_lrlrr inv k k x3 x6 x7 x8 h (fun y3 y6 y7 y8 y9 h => K (.exit 0) (act 18 [(3, y3), (6, y6), (7, y7), (8, y8), (9, y9)]) h) := kq_loop (F29_lrlrr_j k)
theorem r29_7  : kCode env 29 false inv k (cp c29 30) (act 18 [(3, x3), (6, x6), (7, x7), (8, x8), (9, x9)]) h K =
    bnd (inv (.func 54) #[] #[x3] h) fun x17 =>
    K .normal (act 18 [(2, x17.1)]) x17.2 := kq_reg
theorem res29_0 : resOfFn env.P 29 .ret (act 18 [(2, x2)]) h = some (x2, h) := kq_res
/-- shadowbook/packs.Width -/
noncomputable def F29 (inv : Inv) (k : Nat) (x0 : Value) (h : AH) : Option (Value × AH) :=
    bnd (pLen Try.prog #[50] x0 h) fun x7 =>
    F29_lrlrr inv k k (.int .u64 0) x0 x7 (.int .i64 0) h
    (fun y3 y6 y7 y8 y9 h =>
    bnd (inv (.func 54) #[] #[y3] h) fun x17 =>
    some (x17.1, x17.2))
theorem F29_eq : eFun env k inv 29 #[x0] h = F29 inv k x0 h := by
      refine (kq_fun (a := act 18 [(0, x0)]) (c := cp c29 1)).trans ?_
      unfold F29
      simp only [kq_seq c29 1, r29_0, kq_seq c29 3, r29_1, kq_seq c29 7, kq_seq c29 14, r29_2, kq_block c29 29 0, F29_lrlrr_eq, kq_seq c29 15, r29_7, kq_ret c29 31, res29_0, reduceIte, reduceCtorEq, XE.exit.injEq, Nat.reduceEqDiff, Nat.reduceMul, Nat.reduceAdd] <;> kernel_rfl
theorem F29_call : eInv env (k + 1) (.func 29) #[] #[x0] h = F29 (eInv env k) k x0 h := kq_inv F29_eq
noncomputable def c30 : Code := codeOf Try.prog 30
theorem r30_0  : kCode env 30 false inv k (cp c30 2) (act 54 [(0, x0), (1, x1)]) h K =
    K .normal (act 54 [(0, x0), (1, x1)]) h := kq_reg
theorem r30_1  : kCode env 30 false inv k (cp c30 24) (act 54 [(0, x0), (1, x1)]) h K =
    bnd (pLen Try.prog #[50] x0 h) fun x14 =>
    bnd (inv (.func 55) #[] #[x14, x1] h) fun x16 =>
    bnd (pUn Try.prog .not x16.1) fun x17 =>
    K .normal (act 54 [(0, x0), (1, x1), (12, x17)]) x16.2 := kq_reg
theorem b30_rllr  : kCode env 30 false inv k (cp c30 25) (act 54 [(0, x0), (1, x1), (12, x12)]) h K = brV x12 (kCode env 30 false inv k (cp c30 50) (act 54 [(0, x0), (1, x1), (12, x12)]) h K) (kCode env 30 false inv k (cp c30 51) (act 54 [(0, x0), (1, x1), (12, x12)]) h K) := kq_cond
theorem r30_2  : kCode env 30 false inv k (cp c30 100) (act 54 [(0, x0), (1, x1), (12, x12)]) h K =
    K .normal (act 54 [(4, (.slice none 0 0)), (5, (.int .i64 2))]) h := kq_reg
theorem res30_0 : resOfFn env.P 30 .ret (act 54 [(4, x4), (5, x5)]) h = some (.tuple #[x4, x5], h) := kq_res
theorem r30_3  : kCode env 30 false inv k (cp c30 102) (act 54 [(0, x0), (1, x1), (12, x12)]) h K =
    bnd (inv (.func 29) #[] #[x0] h) fun x20 =>
    bnd (pBin Try.prog .gtr 3 (.tmp 20) (.tmp 21) x20.1 x1) fun x22 =>
    K .normal (act 54 [(0, x0), (1, x1), (18, x22)]) x20.2 := kq_reg
theorem b30_rrrllr  : kCode env 30 false inv k (cp c30 103) (act 54 [(0, x0), (1, x1), (18, x18)]) h K = brV x18 (kCode env 30 false inv k (cp c30 206) (act 54 [(0, x0), (1, x1), (18, x18)]) h K) (kCode env 30 false inv k (cp c30 207) (act 54 [(0, x0), (1, x1), (18, x18)]) h K) := kq_cond
theorem r30_4  : kCode env 30 false inv k (cp c30 412) (act 54 [(0, x0), (1, x1), (18, x18)]) h K =
    K .normal (act 54 [(4, (.slice none 0 0)), (5, (.int .i64 3))]) h := kq_reg
theorem r30_5  : kCode env 30 false inv k (cp c30 14) (act 54 [(0, x0), (1, x1), (18, x18)]) h K =
    bnd (pLen Try.prog #[50] x0 h) fun x24 =>
    bnd (inv (.func 56) #[] #[x24, x1] h) fun x26 =>
    bnd (pMakeSlice Try.prog 26 (.int .i64 0) x26.1 x26.2) fun x27 =>
    bnd (pAlloc Try.prog 26 x27.2) fun x6 =>
    bnd (kSt (pStore Try.prog 26 x6.1 x27.1 x6.2)) fun u =>
    K .normal (act 54 [(0, x0), (1, x1), (6, x6.1)]) u.2 := kq_reg
theorem r30_6  : kCode env 30 false inv k (cp c30 30) (act 54 [(0, x0), (1, x1), (6, x6)]) h K =
    bnd (pAlloc Try.prog 5 h) fun x7 =>
    K .normal (act 54 [(0, x0), (1, x1), (6, x6), (7, x7.1)]) x7.2 := kq_reg
theorem r30_7  : kCode env 30 false inv k (cp c30 62) (act 54 [(0, x0), (1, x1), (6, x6), (7, x7)]) h K =
    bnd (pAlloc Try.prog 3 h) fun x8 =>
    bnd (kSt (pStore Try.prog 3 x8.1 (.int .i64 0) x8.2)) fun u =>
    K .normal (act 54 [(0, x0), (1, x1), (6, x6), (7, x7), (8, x8.1)]) u.2 := kq_reg
theorem r30_8  : kCode env 30 false inv k (cp c30 126) (act 54 [(0, x0), (1, x1), (6, x6), (7, x7), (8, x8)]) h K =
    bnd (pMakeFunc (.func 57) #[] #[x7, x8, x6]) fun x28 =>
    K .normal (act 54 [(0, x0), (1, x1), (6, x6), (7, x7), (8, x8), (9, x28)]) h := kq_reg
theorem r30_9  : kCode env 30 false inv k (cp c30 508) (act 54 [(0, x0), (1, x1), (6, x6), (7, x7), (8, x8), (9, x9)]) h K =
    bnd (pLen Try.prog #[50] x0 h) fun x30 =>
    K .normal (act 54 [(1, x1), (6, x6), (7, x7), (8, x8), (9, x9), (29, x0), (30, x30), (31, (.int .i64 0))]) h := kq_reg
theorem r30_10  : kCode env 30 false inv k (cp c30 4072) (act 54 [(1, x1), (6, x6), (7, x7), (8, x8), (9, x9), (29, x29), (30, x30), (31, x31)]) h K =
    bnd (pBin Try.prog .lss 3 (.tmp 31) (.tmp 30) x31 x30) fun x32 =>
    K .normal (act 54 [(1, x1), (6, x6), (7, x7), (8, x8), (9, x9), (29, x29), (30, x30), (31, x31), (32, x32)]) h := kq_reg
theorem b30_lrllrlrrrrrr  : kCode env 30 false inv k (cp c30 8146) (act 54 [(1, x1), (6, x6), (7, x7), (8, x8), (9, x9), (29, x29), (30, x30), (31, x31), (32, x32)]) h K = brV x32 (kCode env 30 false inv k (cp c30 16292) (act 54 [(1, x1), (6, x6), (7, x7), (8, x8), (9, x9), (29, x29), (30, x30), (31, x31), (32, x32)]) h K) (kCode env 30 false inv k (cp c30 16293) (act 54 [(1, x1), (6, x6), (7, x7), (8, x8), (9, x9), (29, x29), (30, x30), (31, x31), (32, x32)]) h K) := kq_cond
theorem r30_11  : kCode env 30 false inv k (cp c30 65176) (act 54 [(1, x1), (6, x6), (7, x7), (8, x8), (9, x9), (29, x29), (30, x30), (31, x31), (32, x32)]) h K =
    bnd (pIndexAddr Try.prog 50 x29 x31) fun x33 =>
    bnd (pLoad Try.prog 51 x33 h) fun x34 =>
    K .normal (act 54 [(1, x1), (6, x6), (7, x7), (8, x8), (9, x9), (11, x34), (29, x29), (30, x30), (31, x31)]) h := kq_reg
theorem r30_12  : kCode env 30 false inv k (cp c30 130354) (act 54 [(1, x1), (6, x6), (7, x7), (8, x8), (9, x9), (11, x11), (29, x29), (30, x30), (31, x31)]) h K =
    K .normal (act 54 [(1, x1), (6, x6), (7, x7), (8, x8), (9, x9), (11, x11), (29, x29), (30, x30), (31, x31), (35, x1), (36, (.int .i64 0))]) h := kq_reg
theorem r30_13  : kCode env 30 false inv k (cp c30 1042840) (act 54 [(1, x1), (6, x6), (7, x7), (8, x8), (9, x9), (11, x11), (29, x29), (30, x30), (31, x31), (35, x35), (36, x36)]) h K =
    bnd (pBin Try.prog .lss 3 (.tmp 36) (.tmp 35) x36 x35) fun x37 =>
    K .normal (act 54 [(1, x1), (6, x6), (7, x7), (8, x8), (9, x9), (11, x11), (29, x29), (30, x30), (31, x31), (35, x35), (36, x36), (37, x37)]) h := kq_reg
theorem b30_lrllrrllrrllrlrrrrrr  : kCode env 30 false inv k (cp c30 2085682) (act 54 [(1, x1), (6, x6), (7, x7), (8, x8), (9, x9), (11, x11), (29, x29), (30, x30), (31, x31), (35, x35), (36, x36), (37, x37)]) h K = brV x37 (kCode env 30 false inv k (cp c30 4171364) (act 54 [(1, x1), (6, x6), (7, x7), (8, x8), (9, x9), (11, x11), (29, x29), (30, x30), (31, x31), (35, x35), (36, x36), (37, x37)]) h K) (kCode env 30 false inv k (cp c30 4171365) (act 54 [(1, x1), (6, x6), (7, x7), (8, x8), (9, x9), (11, x11), (29, x29), (30, x30), (31, x31), (35, x35), (36, x36), (37, x37)]) h K) := kq_cond
theorem r30_14  : kCode env 30 false inv k (cp c30 16685464) (act 54 [(1, x1), (6, x6), (7, x7), (8, x8), (9, x9), (11, x11), (29, x29), (30, x30), (31, x31), (35, x35), (36, x36), (37, x37)]) h K =
    bnd (pBin Try.prog .and 51 (.tmp 39) (.const (.int .u64 1)) x11 (.int .u64 1)) fun x40 =>
    bnd (pConv Try.prog 51 5 x40 h) fun x41 =>
    bnd (callV inv x9 #[x41] h) fun x42 =>
    K .normal (act 54 [(1, x1), (6, x6), (7, x7), (8, x8), (9, x9), (11, x11), (29, x29), (30, x30), (31, x31), (35, x35), (36, x36)]) x42.2 := kq_reg
theorem r30_15  : kCode env 30 false inv k (cp c30 16685465) (act 54 [(1, x1), (6, x6), (7, x7), (8, x8), (9, x9), (11, x11), (29, x29), (30, x30), (31, x31), (35, x35), (36, x36)]) h K =
    bnd (pBin Try.prog .shr 51 (.tmp 43) (.const (.int .u64 1)) x11 (.int .u64 1)) fun x44 =>
    K .normal (act 54 [(1, x1), (6, x6), (7, x7), (8, x8), (9, x9), (11, x44), (29, x29), (30, x30), (31, x31), (35, x35), (36, x36)]) h := kq_reg
theorem r30_16  : kCode env 30 false inv k (cp c30 4171367) (act 54 [(1, x1), (6, x6), (7, x7), (8, x8), (9, x9), (11, x11), (29, x29), (30, x30), (31, x31), (35, x35), (36, x36)]) h K =
    bnd (pBin Try.prog .add 3 (.tmp 36) (.const (.int .i64 1)) x36 (.int .i64 1)) fun x45 =>
    K .normal (act 54 [(1, x1), (6, x6), (7, x7), (8, x8), (9, x9), (11, x11), (29, x29), (30, x30), (31, x31), (35, x35), (36, x45)]) h := kq_reg
noncomputable def F30_lrrllrrllrlrrrrrr {β : Type} (inv : Inv) (k : Nat) : Nat → Value → Value → Value → Value → Value → Value → Value → Value → Value → Value → Value → AH → (Value → Value → Value → Value → Value → Value → Value → Value → Value → Value → Value → Value → AH → Option β) → Option β
  | 0, _, _, _, _, _, _, _, _, _, _, _, _, _ => none
  | j + 1, x1, x6, x7, x8, x9, x11, x29, x30, x31, x35, x36, h, ke3 =>
    bnd (pBin Try.prog .lss 3 (.tmp 36) (.tmp 35) x36 x35) fun x37 =>
    brV x37
    (bnd (pBin Try.prog .and 51 (.tmp 39) (.const (.int .u64 1)) x11 (.int .u64 1)) fun x40 =>
    bnd (pConv Try.prog 51 5 x40 h) fun x41 =>
    bnd (callV inv x9 #[x41] h) fun x42 =>
    bnd (pBin Try.prog .shr 51 (.tmp 43) (.const (.int .u64 1)) x11 (.int .u64 1)) fun x44 =>
    bnd (pBin Try.prog .add 3 (.tmp 36) (.const (.int .i64 1)) x36 (.int .i64 1)) fun x45 =>
    F30_lrrllrrllrlrrrrrr inv k j x1 x6 x7 x8 x9 x44 x29 x30 x31 x35 x45 x42.2 ke3)
    (ke3 x1 x6 x7 x8 x9 x11 x29 x30 x31 x35 x36 x37 h)
theorem F30_lrrllrrllrlrrrrrr_j (j : Nat) : kLoop (kCode env 30 false inv k (cp c30 521420)) j (act 54 [(1, x1), (6, x6), (7, x7), (8, x8), (9, x9), (11, x11), (29, x29), (30, x30), (31, x31), (35, x35), (36, x36)]) h K = F30_lrrllrrllrlrrrrrr inv k j x1 x6 x7 x8 x9 x11 x29 x30 x31 x35 x36 h (fun y1 y6 y7 y8 y9 y11 y29 y30 y31 y35 y36 y37 h => K (.exit 3) (act 54 [(1, y1), (6, y6), (7, y7), (8, y8), (9, y9), (11, y11), (29, y29), (30, y30), (31, y31), (35, y35), (36, y36), (37, y37)]) h) := by
      induction j generalizing x1 x6 x7 x8 x9 x11 x29 x30 x31 x35 x36 h with
      | zero => rfl
      | succ j ih =>
        unfold F30_lrrllrrllrlrrrrrr
        simp only [kLoop, kq_seq c30 521420, r30_13, kq_seq c30 1042841, b30_lrllrrllrrllrlrrrrrr, kq_skip c30 4171364, kq_seq c30 2085683, kq_block c30 4171366 4, kq_seq c30 8342732, r30_14, r30_15, r30_16, kq_exit c30 4171365 3, ih, reduceIte, reduceCtorEq, XE.exit.injEq, Nat.reduceEqDiff, Nat.reduceMul, Nat.reduceAdd] <;> kernel_rfl
theorem F30_lrrllrrllrlrrrrrr_eq  : kCode env 30 false inv k (cp c30 260710) (act 54 [(1, x1), (6, x6), (7, x7), (8, x8), (9, x9), (11, x11), (29, x29), (30, x30), (31, x31), (35, x35), (36, x36)]) h K = F30_lrrllrrllrlrrrrrr inv k k x1 x6 x7 x8 x9 x11 x29 x30 x31 x35 x36 h (fun y1 y6 y7 y8 y9 y11 y29 y30 y31 y35 y36 y37 h => K (.exit 3) (act 54 [(1, y1), (6, y6), (7, y7), (8, y8), (9, y9), (11, y11), (29, y29), (30, y30), (31, y31), (35, y35), (36, y36), (37, y37)]) h) := kq_loop (F30_lrrllrrllrlrrrrrr_j k)
theorem r30_17  : kCode env 30 false inv k (cp c30 16295) (act 54 [(1, x1), (6, x6), (7, x7), (8, x8), (9, x9), (11, x11), (29, x29), (30, x30), (31, x31), (35, x35), (36, x36), (37, x37)]) h K =
    bnd (pBin Try.prog .add 3 (.tmp 31) (.const (.int .i64 1)) x31 (.int .i64 1)) fun x46 =>
    K .normal (act 54 [(1, x1), (6, x6), (7, x7), (8, x8), (9, x9), (29, x29), (30, x30), (31, x46)]) h := kq_reg
noncomputable def F30_lrlrrrrrr {β : Type} (inv : Inv) (k : Nat) : Nat → Value → Value → Value → Value → Value → Value → Value → Value → AH → (Value → Value → Value → Value → Value → Value → Value → Value → Value → AH → Option β) → Option β
  | 0, _, _, _, _, _, _, _, _, _, _ => none
  | j + 1, x1, x6, x7, x8, x9, x29, x30, x31, h, ke1 =>
    bnd (pBin Try.prog .lss 3 (.tmp 31) (.tmp 30) x31 x30) fun x32 =>
    brV x32
    (bnd (pIndexAddr Try.prog 50 x29 x31) fun x33 =>
    bnd (pLoad Try.prog 51 x33 h) fun x34 =>
    F30_lrrllrrllrlrrrrrr inv k k x1 x6 x7 x8 x9 x34 x29 x30 x31 x1 (.int .i64 0) h
    (fun y1 y6 y7 y8 y9 y11 y29 y30 y31 y35 y36 y37 h =>
    bnd (pBin Try.prog .add 3 (.tmp 31) (.const (.int .i64 1)) y31 (.int .i64 1)) fun x46 =>
    F30_lrlrrrrrr inv k j y1 y6 y7 y8 y9 y29 y30 x46 h ke1))
    (ke1 x1 x6 x7 x8 x9 x29 x30 x31 x32 h)
theorem F30_lrlrrrrrr_j (j : Nat) : kLoop (kCode env 30 false inv k (cp c30 2036)) j (act 54 [(1, x1), (6, x6), (7, x7), (8, x8), (9, x9), (29, x29), (30, x30), (31, x31)]) h K = F30_lrlrrrrrr inv k j x1 x6 x7 x8 x9 x29 x30 x31 h (fun y1 y6 y7 y8 y9 y29 y30 y31 y32 h => K (.exit 1) (act 54 [(1, y1), (6, y6), (7, y7), (8, y8), (9, y9), (29, y29), (30, y30), (31, y31), (32, y32)]) h) := by
      induction j generalizing x1 x6 x7 x8 x9 x29 x30 x31 h with
      | zero => rfl
      | succ j ih =>
        unfold F30_lrlrrrrrr
        simp only [kLoop, kq_seq c30 2036, r30_10, kq_seq c30 4073, b30_lrllrlrrrrrr, kq_skip c30 16292, kq_seq c30 8147, kq_block c30 16294 2, kq_seq c30 32588, r30_11, kq_seq c30 65177, r30_12, kq_block c30 130355 3, F30_lrrllrrllrlrrrrrr_eq, r30_17, kq_exit c30 16293 1, ih, reduceIte, reduceCtorEq, XE.exit.injEq, Nat.reduceEqDiff, Nat.reduceMul, Nat.reduceAdd] <;> kernel_rfl
theorem F30_lrlrrrrrr_eq  : kCode env 30 false inv k (cp c30 1018) (act 54 [(1, x1), (6, x6), (7, x7), (8, x8), (9, x9), (29, x29), (30, x30), (31, x31)]) h K = F30_lrlrrrrrr inv k k x1 x6 x7 x8 x9 x29 x30 x31 h (fun y1 y6 y7 y8 y9 y29 y30 y31 y32 h => K (.exit 1) (act 54 [(1, y1), (6, y6), (7, y7), (8, y8), (9, y9), (29, y29), (30, y30), (31, y31), (32, y32)]) h) := kq_loop (F30_lrlrrrrrr_j k)
theorem r30_18  : kCode env 30 false inv k (cp c30 1020) (act 54 [(1, x1), (6, x6), (7, x7), (8, x8), (9, x9), (29, x29), (30, x30), (31, x31), (32, x32)]) h K =
    bnd (pLoad Try.prog 3 x8 h) fun x47 =>
    bnd (pBin Try.prog .gtr 3 (.tmp 47) (.const (.int .i64 0)) x47 (.int .i64 0)) fun x48 =>
    K .normal (act 54 [(6, x6), (7, x7), (48, x48)]) h := kq_reg
theorem b30_rlrrrrrrr  : kCode env 30 false inv k (cp c30 1021) (act 54 [(6, x6), (7, x7), (48, x48)]) h K = brV x48 (kCode env 30 false inv k (cp c30 2042) (act 54 [(6, x6), (7, x7), (48, x48)]) h K) (kCode env 30 false inv k (cp c30 2043) (act 54 [(6, x6), (7, x7), (48, x48)]) h K) := kq_cond
theorem r30_19  : kCode env 30 false inv k (cp c30 2042) (act 54 [(6, x6), (7, x7), (48, x48)]) h K =
    bnd (pLoad Try.prog 26 x6 h) fun x49 =>
    bnd (pLoad Try.prog 5 x7 h) fun x50 =>
    bnd (pBuildSlice Try.prog 26 1 #[(0, x50)] h) fun x51 =>
    bnd (pAppend Try.prog #[26, 26] x49 x51.1 x51.2) fun x52 =>
    bnd (kSt (pStore Try.prog 26 x6 x52.1 x52.2)) fun u =>
    K .normal (act 54 [(6, x6)]) u.2 := kq_reg
noncomputable def F30_rlrrrrrrr {β : Type} (inv : Inv) (k : Nat) (x6 x7 x48 : Value) (h : AH) (kn : (Value → Value → Value → AH → Option β)) : Option β :=
    brV x48
    (bnd (pLoad Try.prog 26 x6 h) fun x49 =>
    bnd (pLoad Try.prog 5 x7 h) fun x50 =>
    bnd (pBuildSlice Try.prog 26 1 #[(0, x50)] h) fun x51 =>
    bnd (pAppend Try.prog #[26, 26] x49 x51.1 x51.2) fun x52 =>
    bnd (kSt (pStore Try.prog 26 x6 x52.1 x52.2)) fun u =>
    kn x6 unk unk u.2)
    (kn x6 x7 x48 h)
theorem F30_rlrrrrrrr_eq  : kCode env 30 false inv k (cp c30 1021) (act 54 [(6, x6), (7, x7), (48, x48)]) h K = F30_rlrrrrrrr inv k x6 x7 x48 h (fun y6 y7 y48 h => K .normal (act 54 [(6, y6), (7, y7), (48, y48)]) h) := by
      unfold F30_rlrrrrrrr
      simp only [b30_rlrrrrrrr, r30_19, kq_skip c30 2043, reduceIte, reduceCtorEq, XE.exit.injEq, Nat.reduceEqDiff, Nat.reduceMul, Nat.reduceAdd] <;> kernel_rfl
theorem r30_20  : kCode env 30 false inv k (cp c30 1022) (act 54 [(6, x6), (7, x7), (48, x48)]) h K =
    bnd (pLoad Try.prog 26 x6 h) fun x53 =>
    K .normal (act 54 [(4, x53), (5, (.int .i64 0))]) h := kq_reg
/-- shadowbook/packs.Put -/
noncomputable def F30 (inv : Inv) (k : Nat) (x0 x1 : Value) (h : AH) : Option (Value × AH) :=
    bnd (pLen Try.prog #[50] x0 h) fun x14 =>
    bnd (inv (.func 55) #[] #[x14, x1] h) fun x16 =>
    bnd (pUn Try.prog .not x16.1) fun x17 =>
    brV x17
    (some (.tuple #[(.slice none 0 0), (.int .i64 2)], x16.2))
    (bnd (inv (.func 29) #[] #[x0] x16.2) fun x20 =>
    bnd (pBin Try.prog .gtr 3 (.tmp 20) (.tmp 21) x20.1 x1) fun x22 =>
    brV x22
    (some (.tuple #[(.slice none 0 0), (.int .i64 3)], x20.2))
    (bnd (pLen Try.prog #[50] x0 x20.2) fun x24 =>
    bnd (inv (.func 56) #[] #[x24, x1] x20.2) fun x26 =>
    bnd (pMakeSlice Try.prog 26 (.int .i64 0) x26.1 x26.2) fun x27 =>
    bnd (pAlloc Try.prog 26 x27.2) fun x6 =>
    bnd (kSt (pStore Try.prog 26 x6.1 x27.1 x6.2)) fun u =>
    bnd (pAlloc Try.prog 5 u.2) fun x7 =>
    bnd (pAlloc Try.prog 3 x7.2) fun x8 =>
    bnd (kSt (pStore Try.prog 3 x8.1 (.int .i64 0) x8.2)) fun u_1 =>
    bnd (pMakeFunc (.func 57) #[] #[x7.1, x8.1, x6.1]) fun x28 =>
    bnd (pLen Try.prog #[50] x0 u_1.2) fun x30 =>
    F30_lrlrrrrrr inv k k x1 x6.1 x7.1 x8.1 x28 x0 x30 (.int .i64 0) u_1.2
    (fun y1 y6 y7 y8 y9 y29 y30 y31 y32 h =>
    bnd (pLoad Try.prog 3 y8 h) fun x47 =>
    bnd (pBin Try.prog .gtr 3 (.tmp 47) (.const (.int .i64 0)) x47 (.int .i64 0)) fun x48 =>
    F30_rlrrrrrrr inv k y6 y7 x48 h
    (fun y6_2 y7_3 y48 h_4 =>
    bnd (pLoad Try.prog 26 y6_2 h_4) fun x53 =>
    some (.tuple #[x53, (.int .i64 0)], h_4)))))
theorem F30_eq : eFun env k inv 30 #[x0, x1] h = F30 inv k x0 x1 h := by
      refine (kq_fun (a := act 54 [(0, x0), (1, x1)]) (c := cp c30 1)).trans ?_
      unfold F30
      simp only [kq_seq c30 1, r30_0, kq_seq c30 3, kq_block c30 6 0, kq_seq c30 12, r30_1, b30_rllr, kq_seq c30 50, r30_2, kq_ret c30 101, res30_0, kq_seq c30 51, r30_3, b30_rrrllr, kq_seq c30 206, r30_4, kq_ret c30 413, kq_skip c30 207, kq_seq c30 7, r30_5, kq_seq c30 15, r30_6, kq_seq c30 31, r30_7, kq_seq c30 63, r30_8, kq_seq c30 127, kq_seq c30 254, r30_9, kq_block c30 509 1, F30_lrlrrrrrr_eq, kq_seq c30 255, kq_seq c30 510, r30_18, F30_rlrrrrrrr_eq, kq_seq c30 511, r30_20, kq_ret c30 1023, reduceIte, reduceCtorEq, XE.exit.injEq, Nat.reduceEqDiff, Nat.reduceMul, Nat.reduceAdd] <;> kernel_rfl
theorem F30_call : eInv env (k + 1) (.func 30) #[] #[x0, x1] h = F30 (eInv env k) k x0 x1 h := kq_inv F30_eq
noncomputable def c31 : Code := codeOf Try.prog 31
theorem r31_0  : kCode env 31 false inv k (cp c31 2) (act 29 [(0, x0), (1, x1), (2, x2)]) h K =
    K .normal (act 29 [(0, x0), (1, x1), (2, x2)]) h := kq_reg
noncomputable abbrev G31_1 {β : Type} (inv : Inv) (x0 x1 x2 : Value) (h : AH) (K : Value → AH → Option β) : Option β :=
    bnd (pBin Try.prog .lss 3 (.tmp 8) (.const (.int .i64 1)) x2 (.int .i64 1)) fun x9 =>
    bnd (gd (some x9) false h (some (x2, h))) fun x11 =>
    bnd (gd (some x9) false x11.2 (lt (pBin Try.prog .gtr 3 (.tmp 11) (.const (.int .i64 8)) x11.1 (.int .i64 8)) x11.2)) fun x12 =>
    bnd (pickV x9 (.bool true) x12.1) fun x13 =>
    K (x13) x12.2
theorem r31_1  : kCode env 31 false inv k (cp c31 12) (act 29 [(0, x0), (1, x1), (2, x2)]) h K =
    G31_1 inv x0 x1 x2 h fun y13 h => K .normal (act 29 [(0, x0), (1, x1), (2, x2), (13, y13)]) h := kq_reg
theorem b31_rlr  : kCode env 31 false inv k (cp c31 13) (act 29 [(0, x0), (1, x1), (2, x2), (13, x13)]) h K = brV x13 (kCode env 31 false inv k (cp c31 26) (act 29 [(0, x0), (1, x1), (2, x2), (13, x13)]) h K) (kCode env 31 false inv k (cp c31 27) (act 29 [(0, x0), (1, x1), (2, x2), (13, x13)]) h K) := kq_cond
theorem r31_2  : kCode env 31 false inv k (cp c31 52) (act 29 [(0, x0), (1, x1), (2, x2), (13, x13)]) h K =
    K .normal (act 29 [(6, x0)]) h := kq_reg
theorem res31_0 : resOfFn env.P 31 .ret (act 29 [(6, x6)]) h = some (x6, h) := kq_res
theorem r31_3  : kCode env 31 false inv k (cp c31 28) (act 29 [(0, x0), (1, x1), (2, x2), (13, x13)]) h K =
    K .normal (act 29 [(0, x0), (1, x1), (15, x2), (16, (.int .i64 0))]) h := kq_reg
theorem r31_4  : kCode env 31 false inv k (cp c31 232) (act 29 [(0, x0), (1, x1), (15, x15), (16, x16)]) h K =
    bnd (pBin Try.prog .lss 3 (.tmp 16) (.tmp 15) x16 x15) fun x17 =>
    K .normal (act 29 [(0, x0), (1, x1), (15, x15), (16, x16), (17, x17)]) h := kq_reg
theorem b31_lrllrlrr  : kCode env 31 false inv k (cp c31 466) (act 29 [(0, x0), (1, x1), (15, x15), (16, x16), (17, x17)]) h K = brV x17 (kCode env 31 false inv k (cp c31 932) (act 29 [(0, x0), (1, x1), (15, x15), (16, x16), (17, x17)]) h K) (kCode env 31 false inv k (cp c31 933) (act 29 [(0, x0), (1, x1), (15, x15), (16, x16), (17, x17)]) h K) := kq_cond
theorem r31_5  : kCode env 31 false inv k (cp c31 3736) (act 29 [(0, x0), (1, x1), (15, x15), (16, x16), (17, x17)]) h K =
    K .normal (act 29 [(0, x0), (1, x1), (7, x16), (15, x15), (16, x16)]) h := kq_reg
theorem r31_6  : kCode env 31 false inv k (cp c31 3737) (act 29 [(0, x0), (1, x1), (7, x7), (15, x15), (16, x16)]) h K =
    bnd (pBin Try.prog .mul 3 (.const (.int .i64 8)) (.tmp 21) (.int .i64 8) x7) fun x22 =>
    bnd (pBin Try.prog .shr 51 (.tmp 20) (.tmp 22) x1 x22) fun x23 =>
    bnd (pConv Try.prog 51 5 x23 h) fun x24 =>
    bnd (pBuildSlice Try.prog 26 1 #[(0, x24)] h) fun x25 =>
    bnd (pAppend Try.prog #[26, 26] x0 x25.1 x25.2) fun x26 =>
    K .normal (act 29 [(0, x26.1), (1, x1), (15, x15), (16, x16)]) x26.2 := kq_reg
theorem r31_7  : kCode env 31 false inv k (cp c31 935) (act 29 [(0, x0), (1, x1), (15, x15), (16, x16)]) h K =
    bnd (pBin Try.prog .add 3 (.tmp 16) (.const (.int .i64 1)) x16 (.int .i64 1)) fun x27 =>
    K .normal (act 29 [(0, x0), (1, x1), (15, x15), (16, x27)]) h := kq_reg
noncomputable def F31_lrlrr {β : Type} (inv : Inv) (k : Nat) : Nat → Value → Value → Value → Value → AH → (Value → Value → Value → Value → Value → AH → Option β) → Option β
  | 0, _, _, _, _, _, _ => none
  | j + 1, x0, x1, x15, x16, h, ke0 =>
    bnd (pBin Try.prog .lss 3 (.tmp 16) (.tmp 15) x16 x15) fun x17 =>
    brV x17
    (bnd (pBin Try.prog .mul 3 (.const (.int .i64 8)) (.tmp 21) (.int .i64 8) x16) fun x22 =>
    bnd (pBin Try.prog .shr 51 (.tmp 20) (.tmp 22) x1 x22) fun x23 =>
    bnd (pConv Try.prog 51 5 x23 h) fun x24 =>
    bnd (pBuildSlice Try.prog 26 1 #[(0, x24)] h) fun x25 =>
    bnd (pAppend Try.prog #[26, 26] x0 x25.1 x25.2) fun x26 =>
    bnd (pBin Try.prog .add 3 (.tmp 16) (.const (.int .i64 1)) x16 (.int .i64 1)) fun x27 =>
    F31_lrlrr inv k j x26.1 x1 x15 x27 x26.2 ke0)
    (ke0 x0 x1 x15 x16 x17 h)
theorem F31_lrlrr_j (j : Nat) : kLoop (kCode env 31 false inv k (cp c31 116)) j (act 29 [(0, x0), (1, x1), (15, x15), (16, x16)]) h K = F31_lrlrr inv k j x0 x1 x15 x16 h (fun y0 y1 y15 y16 y17 h => K (.exit 0) (act 29 [(0, y0), (1, y1), (15, y15), (16, y16), (17, y17)]) h) := by
      induction j generalizing x0 x1 x15 x16 h with
      | zero => rfl
      | succ j ih =>
        unfold F31_lrlrr
        simp only [kLoop, kq_seq c31 116, r31_4, kq_seq c31 233, b31_lrllrlrr, kq_skip c31 932, kq_seq c31 467, kq_block c31 934 1, kq_seq c31 1868, r31_5, r31_6, r31_7, kq_exit c31 933 0, ih, reduceIte, reduceCtorEq, XE.exit.injEq, Nat.reduceEqDiff, Nat.reduceMul, Nat.reduceAdd] <;> kernel_rfl
theorem F31_lrlrr_eq  : kCode env 31 false inv k (cp c31 58) (act 29 [(0, x0), (1, x1), (15, x15), (16, x16)]) h K = F31_lrlrr inv k k x0 x1 x15 x16 h (fun y0 y1 y15 y16 y17 h => K (.exit 0) (act 29 [(0, y0), (1, y1), (15, y15), (16, y16), (17, y17)]) h) := kq_loop (F31_lrlrr_j k)
theorem r31_8  : kCode env 31 false inv k (cp c31 30) (act 29 [(0, x0), (1, x1), (15, x15), (16, x16), (17, x17)]) h K =
    K .normal (act 29 [(6, x0)]) h := kq_reg
/-- shadowbook/octet.Put -/
noncomputable def F31 (inv : Inv) (k : Nat) (x0 x1 x2 : Value) (h : AH) : Option (Value × AH) :=
    G31_1 inv x0 x1 x2 h fun y13 h =>
    brV y13
    (some (x0, h))
    (F31_lrlrr inv k k x0 x1 x2 (.int .i64 0) h
    (fun y0 y1 y15 y16 y17 h_1 =>
    some (y0, h_1)))
theorem F31_eq : eFun env k inv 31 #[x0, x1, x2] h = F31 inv k x0 x1 x2 h := by
      refine (kq_fun (a := act 29 [(0, x0), (1, x1), (2, x2)]) (c := cp c31 1)).trans ?_
      unfold F31
      simp only [kq_seq c31 1, r31_0, kq_seq c31 3, kq_seq c31 6, r31_1, b31_rlr, kq_seq c31 26, r31_2, kq_ret c31 53, res31_0, kq_skip c31 27, kq_seq c31 7, kq_seq c31 14, r31_3, kq_block c31 29 0, F31_lrlrr_eq, kq_seq c31 15, r31_8, kq_ret c31 31, reduceIte, reduceCtorEq, XE.exit.injEq, Nat.reduceEqDiff, Nat.reduceMul, Nat.reduceAdd] <;> kernel_rfl
theorem F31_call : eInv env (k + 1) (.func 31) #[] #[x0, x1, x2] h = F31 (eInv env k) k x0 x1 x2 h := kq_inv F31_eq
noncomputable def c32 : Code := codeOf Try.prog 32
theorem r32_0  : kCode env 32 false inv k (cp c32 2) (act 10 [(0, x0), (1, x1)]) h K =
    K .normal (act 10 [(0, x0), (1, x1)]) h := kq_reg
theorem r32_1  : kCode env 32 false inv k (cp c32 6) (act 10 [(0, x0), (1, x1)]) h K =
    bnd (pBuildSlice Try.prog 26 1 #[(0, x0)] h) fun x6 =>
    bnd (pConv Try.prog 3 51 x1 x6.2) fun x8 =>
    bnd (inv (.func 33) #[] #[x6.1, x8] x6.2) fun x9 =>
    K .normal (act 10 [(4, x9.1)]) x9.2 := kq_reg
theorem res32_0 : resOfFn env.P 32 .ret (act 10 [(4, x4)]) h = some (x4, h) := kq_res
/-- shadowbook/ints.head -/
noncomputable def F32 (inv : Inv) (k : Nat) (x0 x1 : Value) (h : AH) : Option (Value × AH) :=
    bnd (pBuildSlice Try.prog 26 1 #[(0, x0)] h) fun x6 =>
    bnd (pConv Try.prog 3 51 x1 x6.2) fun x8 =>
    bnd (inv (.func 33) #[] #[x6.1, x8] x6.2) fun x9 =>
    some (x9.1, x9.2)
theorem F32_eq : eFun env k inv 32 #[x0, x1] h = F32 inv k x0 x1 h := by
      refine (kq_fun (a := act 10 [(0, x0), (1, x1)]) (c := cp c32 1)).trans ?_
      unfold F32
      simp only [kq_seq c32 1, r32_0, kq_seq c32 3, r32_1, kq_ret c32 7, res32_0, reduceIte, reduceCtorEq, XE.exit.injEq, Nat.reduceEqDiff, Nat.reduceMul, Nat.reduceAdd] <;> kernel_rfl
theorem F32_call : eInv env (k + 1) (.func 32) #[] #[x0, x1] h = F32 (eInv env k) k x0 x1 h := kq_inv F32_eq
noncomputable def c33 : Code := codeOf Try.prog 33
theorem r33_0  : kCode env 33 false inv k (cp c33 2) (act 20 [(0, x0), (1, x1)]) h K =
    K .normal (act 20 [(0, x0), (1, x1)]) h := kq_reg
theorem r33_1  : kCode env 33 false inv k (cp c33 96) (act 20 [(0, x0), (1, x1)]) h K =
    bnd (pBin Try.prog .geq 51 (.tmp 5) (.const (.int .u64 128)) x1 (.int .u64 128)) fun x6 =>
    K .normal (act 20 [(0, x0), (1, x1), (6, x6)]) h := kq_reg
theorem b33_rllllr  : kCode env 33 false inv k (cp c33 97) (act 20 [(0, x0), (1, x1), (6, x6)]) h K = brV x6 (kCode env 33 false inv k (cp c33 194) (act 20 [(0, x0), (1, x1), (6, x6)]) h K) (kCode env 33 false inv k (cp c33 195) (act 20 [(0, x0), (1, x1), (6, x6)]) h K) := kq_cond
theorem r33_3  : kCode env 33 false inv k (cp c33 196) (act 20 [(0, x0), (1, x1), (6, x6)]) h K =
    bnd (pConv Try.prog 51 5 x1 h) fun x11 =>
    bnd (pBin Try.prog .or 5 (.tmp 11) (.const (.int .u8 128)) x11 (.int .u8 128)) fun x12 =>
    bnd (pBuildSlice Try.prog 26 1 #[(0, x12)] h) fun x13 =>
    bnd (pAppend Try.prog #[26, 26] x0 x13.1 x13.2) fun x14 =>
    K .normal (act 20 [(0, x14.1), (1, x1)]) x14.2 := kq_reg
theorem r33_2  : kCode env 33 false inv k (cp c33 99) (act 20 [(0, x0), (1, x1)]) h K =
    bnd (pBin Try.prog .shr 51 (.tmp 7) (.const (.int .u64 7)) x1 (.int .u64 7)) fun x8 =>
    K .normal (act 20 [(0, x0), (1, x8)]) h := kq_reg
noncomputable def F33_llr {β : Type} (inv : Inv) (k : Nat) : Nat → Value → Value → AH → (Value → Value → Value → AH → Option β) → Option β
  | 0, _, _, _, _ => none
  | j + 1, x0, x1, h, ke0 =>
    bnd (pBin Try.prog .geq 51 (.tmp 5) (.const (.int .u64 128)) x1 (.int .u64 128)) fun x6 =>
    brV x6
    (bnd (pConv Try.prog 51 5 x1 h) fun x11 =>
    bnd (pBin Try.prog .or 5 (.tmp 11) (.const (.int .u8 128)) x11 (.int .u8 128)) fun x12 =>
    bnd (pBuildSlice Try.prog 26 1 #[(0, x12)] h) fun x13 =>
    bnd (pAppend Try.prog #[26, 26] x0 x13.1 x13.2) fun x14 =>
    bnd (pBin Try.prog .shr 51 (.tmp 7) (.const (.int .u64 7)) x1 (.int .u64 7)) fun x8 =>
    F33_llr inv k j x14.1 x8 x14.2 ke0)
    (ke0 x0 x1 x6 h)
theorem F33_llr_j (j : Nat) : kLoop (kCode env 33 false inv k (cp c33 24)) j (act 20 [(0, x0), (1, x1)]) h K = F33_llr inv k j x0 x1 h (fun y0 y1 y6 h => K (.exit 0) (act 20 [(0, y0), (1, y1), (6, y6)]) h) := by
      induction j generalizing x0 x1 h with
      | zero => rfl
      | succ j ih =>
        unfold F33_llr
        simp only [kLoop, kq_seq c33 24, kq_seq c33 48, r33_1, b33_rllllr, kq_skip c33 194, kq_seq c33 49, kq_block c33 98 1, r33_3, r33_2, kq_exit c33 195 0, ih, reduceIte, reduceCtorEq, XE.exit.injEq, Nat.reduceEqDiff, Nat.reduceMul, Nat.reduceAdd] <;> kernel_rfl
theorem F33_llr_eq  : kCode env 33 false inv k (cp c33 12) (act 20 [(0, x0), (1, x1)]) h K = F33_llr inv k k x0 x1 h (fun y0 y1 y6 h => K (.exit 0) (act 20 [(0, y0), (1, y1), (6, y6)]) h) := kq_loop (F33_llr_j k)
theorem r33_4  : kCode env 33 false inv k (cp c33 14) (act 20 [(0, x0), (1, x1), (6, x6)]) h K =
    bnd (pConv Try.prog 51 5 x1 h) fun x17 =>
    bnd (pBuildSlice Try.prog 26 1 #[(0, x17)] h) fun x18 =>
    bnd (pAppend Try.prog #[26, 26] x0 x18.1 x18.2) fun x19 =>
    K .normal (act 20 [(4, x19.1)]) x19.2 := kq_reg
theorem res33_0 : resOfFn env.P 33 .ret (act 20 [(4, x4)]) h = some (x4, h) := kq_res
/-- shadowbook/octet.PutVar -/
noncomputable def F33 (inv : Inv) (k : Nat) (x0 x1 : Value) (h : AH) : Option (Value × AH) :=
    F33_llr inv k k x0 x1 h
    (fun y0 y1 y6 h =>
    bnd (pConv Try.prog 51 5 y1 h) fun x17 =>
    bnd (pBuildSlice Try.prog 26 1 #[(0, x17)] h) fun x18 =>
    bnd (pAppend Try.prog #[26, 26] y0 x18.1 x18.2) fun x19 =>
    some (x19.1, x19.2))
theorem F33_eq : eFun env k inv 33 #[x0, x1] h = F33 inv k x0 x1 h := by
      refine (kq_fun (a := act 20 [(0, x0), (1, x1)]) (c := cp c33 1)).trans ?_
      unfold F33
      simp only [kq_seq c33 1, r33_0, kq_seq c33 3, kq_block c33 6 0, F33_llr_eq, kq_seq c33 7, r33_4, kq_ret c33 15, res33_0, reduceIte, reduceCtorEq, XE.exit.injEq, Nat.reduceEqDiff, Nat.reduceMul, Nat.reduceAdd] <;> kernel_rfl
theorem F33_call : eInv env (k + 1) (.func 33) #[] #[x0, x1] h = F33 (eInv env k) k x0 x1 h := kq_inv F33_eq
noncomputable def c34 : Code := codeOf Try.prog 34
theorem r34_0  : kCode env 34 false inv k (cp c34 2) (act 7 [(0, x0)]) h K =
    K .normal (act 7 [(0, x0)]) h := kq_reg
theorem r34_1  : kCode env 34 false inv k (cp c34 6) (act 7 [(0, x0)]) h K =
    bnd (inv (.func 58) #[] #[x0] h) fun x4 =>
    bnd (pBuild Try.prog 79 #[(0, x4.1)]) fun x5 =>
    bnd (pBox Try.prog 79 x5 x4.2) fun x6 =>
    K .normal (act 7 [(2, x6.1)]) x6.2 := kq_reg
theorem res34_0 : resOfFn env.P 34 .ret (act 7 [(2, x2)]) h = some (x2, h) := kq_res
/-- shadowbook/octet.New -/
noncomputable def F34 (inv : Inv) (k : Nat) (x0 : Value) (h : AH) : Option (Value × AH) :=
    bnd (inv (.func 58) #[] #[x0] h) fun x4 =>
    bnd (pBuild Try.prog 79 #[(0, x4.1)]) fun x5 =>
    bnd (pBox Try.prog 79 x5 x4.2) fun x6 =>
    some (x6.1, x6.2)
theorem F34_eq : eFun env k inv 34 #[x0] h = F34 inv k x0 h := by
      refine (kq_fun (a := act 7 [(0, x0)]) (c := cp c34 1)).trans ?_
      unfold F34
      simp only [kq_seq c34 1, r34_0, kq_seq c34 3, r34_1, kq_ret c34 7, res34_0, reduceIte, reduceCtorEq, XE.exit.injEq, Nat.reduceEqDiff, Nat.reduceMul, Nat.reduceAdd] <;> kernel_rfl
theorem F34_call : eInv env (k + 1) (.func 34) #[] #[x0] h = F34 (eInv env k) k x0 h := kq_inv F34_eq
noncomputable def c35 : Code := codeOf Try.prog 35
theorem r35_0  : kCode env 35 false inv k (cp c35 2) (act 27 [(0, x0), (1, x1)]) h K =
    K .normal (act 27 [(0, x0), (1, x1)]) h := kq_reg
theorem r35_1  : kCode env 35 false inv k (cp c35 24) (act 27 [(0, x0), (1, x1)]) h K =
    bnd (pBin Try.prog .eql 57 (.tmp 9) (.const (.pointer none)) x0 (.pointer none)) fun x10 =>
    K .normal (act 27 [(0, x0), (1, x1), (8, x10)]) h := kq_reg
theorem b35_rllr  : kCode env 35 false inv k (cp c35 25) (act 27 [(0, x0), (1, x1), (8, x8)]) h K = brV x8 (kCode env 35 false inv k (cp c35 50) (act 27 [(0, x0), (1, x1), (8, x8)]) h K) (kCode env 35 false inv k (cp c35 51) (act 27 [(0, x0), (1, x1), (8, x8)]) h K) := kq_cond
theorem r35_2  : kCode env 35 false inv k (cp c35 100) (act 27 [(0, x0), (1, x1), (8, x8)]) h K =
    K .normal (act 27 [(4, (.int .u64 0)), (5, (.int .i64 1))]) h := kq_reg
theorem res35_0 : resOfFn env.P 35 .ret (act 27 [(4, x4), (5, x5)]) h = some (.tuple #[x4, x5], h) := kq_res
noncomputable abbrev G35_3 {β : Type} (inv : Inv) (x0 x1 : Value) (h : AH) (K : Value → AH → Option β) : Option β :=
    bnd (pBin Try.prog .lss 3 (.tmp 12) (.const (.int .i64 1)) x1 (.int .i64 1)) fun x13 =>
    bnd (gd (some x13) false h (some (x1, h))) fun x15 =>
    bnd (gd (some x13) false x15.2 (lt (pBin Try.prog .gtr 3 (.tmp 15) (.const (.int .i64 8)) x15.1 (.int .i64 8)) x15.2)) fun x16 =>
    bnd (pickV x13 (.bool true) x16.1) fun x17 =>
    K (x17) x16.2
theorem r35_3  : kCode env 35 false inv k (cp c35 102) (act 27 [(0, x0), (1, x1), (8, x8)]) h K =
    G35_3 inv x0 x1 h fun y11 h => K .normal (act 27 [(0, x0), (1, x1), (11, y11)]) h := kq_reg
theorem b35_rrrllr  : kCode env 35 false inv k (cp c35 103) (act 27 [(0, x0), (1, x1), (11, x11)]) h K = brV x11 (kCode env 35 false inv k (cp c35 206) (act 27 [(0, x0), (1, x1), (11, x11)]) h K) (kCode env 35 false inv k (cp c35 207) (act 27 [(0, x0), (1, x1), (11, x11)]) h K) := kq_cond
theorem r35_4  : kCode env 35 false inv k (cp c35 412) (act 27 [(0, x0), (1, x1), (11, x11)]) h K =
    K .normal (act 27 [(4, (.int .u64 0)), (5, (.int .i64 2))]) h := kq_reg
theorem r35_5  : kCode env 35 false inv k (cp c35 14) (act 27 [(0, x0), (1, x1), (11, x11)]) h K =
    bnd (inv (.func 59) #[] #[x0, x1] h) fun x21 =>
    bnd (pExtract x21.1 0) fun x22 =>
    bnd (pExtract x21.1 1) fun x23 =>
    K .normal (act 27 [(6, x22), (7, x23)]) x21.2 := kq_reg
theorem r35_6  : kCode env 35 false inv k (cp c35 30) (act 27 [(6, x6), (7, x7)]) h K =
    bnd (inv (.func 60) #[] #[x6] h) fun x25 =>
    K .normal (act 27 [(4, x25.1), (5, x7)]) x25.2 := kq_reg
/-- (*shadowbook/octet.Reader).Number -/
noncomputable def F35 (inv : Inv) (k : Nat) (x0 x1 : Value) (h : AH) : Option (Value × AH) :=
    bnd (pBin Try.prog .eql 57 (.tmp 9) (.const (.pointer none)) x0 (.pointer none)) fun x10 =>
    brV x10
    (some (.tuple #[(.int .u64 0), (.int .i64 1)], h))
    (G35_3 inv x0 x1 h fun y11 h =>
    brV y11
    (some (.tuple #[(.int .u64 0), (.int .i64 2)], h))
    (bnd (inv (.func 59) #[] #[x0, x1] h) fun x21 =>
    bnd (pExtract x21.1 0) fun x22 =>
    bnd (pExtract x21.1 1) fun x23 =>
    bnd (inv (.func 60) #[] #[x22] x21.2) fun x25 =>
    some (.tuple #[x25.1, x23], x25.2)))
theorem F35_eq : eFun env k inv 35 #[x0, x1] h = F35 inv k x0 x1 h := by
      refine (kq_fun (a := act 27 [(0, x0), (1, x1)]) (c := cp c35 1)).trans ?_
      unfold F35
      simp only [kq_seq c35 1, r35_0, kq_seq c35 3, kq_block c35 6 0, kq_seq c35 12, r35_1, b35_rllr, kq_seq c35 50, r35_2, kq_ret c35 101, res35_0, kq_seq c35 51, r35_3, b35_rrrllr, kq_seq c35 206, r35_4, kq_ret c35 413, kq_skip c35 207, kq_seq c35 7, r35_5, kq_seq c35 15, r35_6, kq_ret c35 31, reduceIte, reduceCtorEq, XE.exit.injEq, Nat.reduceEqDiff, Nat.reduceMul, Nat.reduceAdd] <;> kernel_rfl
theorem F35_call : eInv env (k + 1) (.func 35) #[] #[x0, x1] h = F35 (eInv env k) k x0 x1 h := kq_inv F35_eq
noncomputable def c36 : Code := codeOf Try.prog 36
theorem r36_0  : kCode env 36 false inv k (cp c36 2) (act 58 [(0, x0)]) h K =
    K .normal (act 58 [(0, x0), (2, (.int .u64 0))]) h := kq_reg
theorem r36_1  : kCode env 36 false inv k (cp c36 12) (act 58 [(0, x0), (2, x2)]) h K =
    bnd (pBin Try.prog .eql 57 (.tmp 7) (.const (.pointer none)) x0 (.pointer none)) fun x8 =>
    K .normal (act 58 [(0, x0), (2, x2), (8, x8)]) h := kq_reg
theorem b36_rlr  : kCode env 36 false inv k (cp c36 13) (act 58 [(0, x0), (2, x2), (8, x8)]) h K = brV x8 (kCode env 36 false inv k (cp c36 26) (act 58 [(0, x0), (2, x2), (8, x8)]) h K) (kCode env 36 false inv k (cp c36 27) (act 58 [(0, x0), (2, x2), (8, x8)]) h K) := kq_cond
theorem r36_2  : kCode env 36 false inv k (cp c36 52) (act 58 [(0, x0), (2, x2), (8, x8)]) h K =
    K .normal (act 58 [(2, (.int .u64 0)), (3, (.int .i64 1))]) h := kq_reg
theorem res36_0 : resOfFn env.P 36 .ret (act 58 [(2, x2), (3, x3)]) h = some (.tuple #[x2, x3], h) := kq_res
theorem r36_3  : kCode env 36 false inv k (cp c36 28) (act 58 [(0, x0), (2, x2), (8, x8)]) h K =
    bnd (pNilCheck x0) fun x10 =>
    bnd (pFieldAddr Try.prog 79 x10 0) fun x11 =>
    bnd (pLoad Try.prog 26 x11 h) fun x12 =>
    bnd (pLen Try.prog #[26] x12 h) fun x13 =>
    K .normal (act 58 [(0, x0), (2, x2), (12, x12), (13, x13), (14, (.int .i64 0))]) h := kq_reg
theorem r36_4  : kCode env 36 false inv k (cp c36 232) (act 58 [(0, x0), (2, x2), (12, x12), (13, x13), (14, x14)]) h K =
    bnd (pBin Try.prog .lss 3 (.tmp 14) (.tmp 13) x14 x13) fun x15 =>
    K .normal (act 58 [(0, x0), (2, x2), (12, x12), (13, x13), (14, x14), (15, x15)]) h := kq_reg
theorem b36_lrllrlrr  : kCode env 36 false inv k (cp c36 466) (act 58 [(0, x0), (2, x2), (12, x12), (13, x13), (14, x14), (15, x15)]) h K = brV x15 (kCode env 36 false inv k (cp c36 932) (act 58 [(0, x0), (2, x2), (12, x12), (13, x13), (14, x14), (15, x15)]) h K) (kCode env 36 false inv k (cp c36 933) (act 58 [(0, x0), (2, x2), (12, x12), (13, x13), (14, x14), (15, x15)]) h K) := kq_cond
theorem r36_5  : kCode env 36 false inv k (cp c36 3736) (act 58 [(0, x0), (2, x2), (12, x12), (13, x13), (14, x14), (15, x15)]) h K =
    bnd (pIndexAddr Try.prog 26 x12 x14) fun x17 =>
    bnd (pLoad Try.prog 5 x17 h) fun x18 =>
    K .normal (act 58 [(0, x0), (2, x2), (4, x14), (5, x18), (12, x12), (13, x13), (14, x14)]) h := kq_reg
theorem r36_6  : kCode env 36 false inv k (cp c36 14948) (act 58 [(0, x0), (2, x2), (4, x4), (5, x5), (12, x12), (13, x13), (14, x14)]) h K =
    bnd (pBin Try.prog .eql 3 (.tmp 19) (.const (.int .i64 10)) x4 (.int .i64 10)) fun x20 =>
    K .normal (act 58 [(0, x0), (2, x2), (4, x4), (5, x5), (12, x12), (13, x13), (14, x14), (20, x20)]) h := kq_reg
theorem b36_rlrllrrllrlrr  : kCode env 36 false inv k (cp c36 14949) (act 58 [(0, x0), (2, x2), (4, x4), (5, x5), (12, x12), (13, x13), (14, x14), (20, x20)]) h K = brV x20 (kCode env 36 false inv k (cp c36 29898) (act 58 [(0, x0), (2, x2), (4, x4), (5, x5), (12, x12), (13, x13), (14, x14), (20, x20)]) h K) (kCode env 36 false inv k (cp c36 29899) (act 58 [(0, x0), (2, x2), (4, x4), (5, x5), (12, x12), (13, x13), (14, x14), (20, x20)]) h K) := kq_cond
theorem r36_7  : kCode env 36 false inv k (cp c36 14950) (act 58 [(0, x0), (2, x2), (4, x4), (5, x5), (12, x12), (13, x13), (14, x14), (20, x20)]) h K =
    bnd (pBin Try.prog .andNot 5 (.tmp 21) (.const (.int .u8 128)) x5 (.int .u8 128)) fun x22 =>
    bnd (pConv Try.prog 5 51 x22 h) fun x23 =>
    K .normal (act 58 [(0, x0), (2, x2), (4, x4), (5, x5), (6, x23), (12, x12), (13, x13), (14, x14)]) h := kq_reg
noncomputable abbrev G36_8 {β : Type} (inv : Inv) (x0 x2 x4 x5 x6 x12 x13 x14 : Value) (h : AH) (K : Value → AH → Option β) : Option β :=
    bnd (pBin Try.prog .eql 3 (.tmp 24) (.const (.int .i64 9)) x4 (.int .i64 9)) fun x25 =>
    bnd (gd (some x25) true h (some (x6, h))) fun x27 =>
    bnd (gd (some x25) true x27.2 (lt (pBin Try.prog .gtr 51 (.tmp 27) (.const (.int .u64 1)) x27.1 (.int .u64 1)) x27.2)) fun x28 =>
    bnd (pickV x25 x28.1 (.bool false)) fun x29 =>
    K (x29) x28.2
theorem r36_8  : kCode env 36 false inv k (cp c36 59804) (act 58 [(0, x0), (2, x2), (4, x4), (5, x5), (6, x6), (12, x12), (13, x13), (14, x14)]) h K =
    G36_8 inv x0 x2 x4 x5 x6 x12 x13 x14 h fun y29 h => K .normal (act 58 [(0, x0), (2, x2), (4, x4), (5, x5), (6, x6), (12, x12), (13, x13), (14, x14), (29, y29)]) h := kq_reg
theorem b36_rlrrrllrrllrlrr  : kCode env 36 false inv k (cp c36 59805) (act 58 [(0, x0), (2, x2), (4, x4), (5, x5), (6, x6), (12, x12), (13, x13), (14, x14), (29, x29)]) h K = brV x29 (kCode env 36 false inv k (cp c36 119610) (act 58 [(0, x0), (2, x2), (4, x4), (5, x5), (6, x6), (12, x12), (13, x13), (14, x14), (29, x29)]) h K) (kCode env 36 false inv k (cp c36 119611) (act 58 [(0, x0), (2, x2), (4, x4), (5, x5), (6, x6), (12, x12), (13, x13), (14, x14), (29, x29)]) h K) := kq_cond
theorem r36_9  : kCode env 36 false inv k (cp c36 59806) (act 58 [(0, x0), (2, x2), (4, x4), (5, x5), (6, x6), (12, x12), (13, x13), (14, x14), (29, x29)]) h K =
    bnd (pBin Try.prog .mul 3 (.const (.int .i64 7)) (.tmp 32) (.int .i64 7) x4) fun x33 =>
    bnd (pBin Try.prog .shl 51 (.tmp 31) (.tmp 33) x6 x33) fun x34 =>
    bnd (pBin Try.prog .or 51 (.tmp 30) (.tmp 34) x2 x34) fun x35 =>
    K .normal (act 58 [(0, x0), (2, x35), (4, x4), (5, x5), (6, x6), (12, x12), (13, x13), (14, x14)]) h := kq_reg
theorem r36_10  : kCode env 36 false inv k (cp c36 239228) (act 58 [(0, x0), (2, x2), (4, x4), (5, x5), (6, x6), (12, x12), (13, x13), (14, x14)]) h K =
    bnd (pBin Try.prog .geq 5 (.tmp 36) (.const (.int .u8 128)) x5 (.int .u8 128)) fun x37 =>
    K .normal (act 58 [(0, x0), (2, x2), (4, x4), (6, x6), (12, x12), (13, x13), (14, x14), (37, x37)]) h := kq_reg
theorem b36_rlrrrrrllrrllrlrr  : kCode env 36 false inv k (cp c36 239229) (act 58 [(0, x0), (2, x2), (4, x4), (6, x6), (12, x12), (13, x13), (14, x14), (37, x37)]) h K = brV x37 (kCode env 36 false inv k (cp c36 478458) (act 58 [(0, x0), (2, x2), (4, x4), (6, x6), (12, x12), (13, x13), (14, x14), (37, x37)]) h K) (kCode env 36 false inv k (cp c36 478459) (act 58 [(0, x0), (2, x2), (4, x4), (6, x6), (12, x12), (13, x13), (14, x14), (37, x37)]) h K) := kq_cond
theorem r36_14  : kCode env 36 false inv k (cp c36 935) (act 58 [(0, x0), (2, x2), (4, x4), (6, x6), (12, x12), (13, x13), (14, x14), (37, x37)]) h K =
    bnd (pBin Try.prog .add 3 (.tmp 14) (.const (.int .i64 1)) x14 (.int .i64 1)) fun x55 =>
    K .normal (act 58 [(0, x0), (2, x2), (12, x12), (13, x13), (14, x55)]) h := kq_reg
noncomputable abbrev G36_11 {β : Type} (inv : Inv) (x0 x2 x4 x6 : Value) (h : AH) (K : Value → AH → Option β) : Option β :=
    bnd (pBin Try.prog .eql 51 (.tmp 38) (.const (.int .u64 0)) x6 (.int .u64 0)) fun x39 =>
    bnd (gd (some x39) true h (some (x4, h))) fun x41 =>
    bnd (gd (some x39) true x41.2 (lt (pBin Try.prog .gtr 3 (.tmp 41) (.const (.int .i64 0)) x41.1 (.int .i64 0)) x41.2)) fun x42 =>
    bnd (pickV x39 x42.1 (.bool false)) fun x43 =>
    K (x43) x42.2
theorem r36_11  : kCode env 36 false inv k (cp c36 478460) (act 58 [(0, x0), (2, x2), (4, x4), (6, x6), (12, x12), (13, x13), (14, x14), (37, x37)]) h K =
    G36_11 inv x0 x2 x4 x6 h fun y43 h => K .normal (act 58 [(0, x0), (2, x2), (4, x4), (43, y43)]) h := kq_reg
theorem b36_rlrrrrrrllrrllrlrr  : kCode env 36 false inv k (cp c36 478461) (act 58 [(0, x0), (2, x2), (4, x4), (43, x43)]) h K = brV x43 (kCode env 36 false inv k (cp c36 956922) (act 58 [(0, x0), (2, x2), (4, x4), (43, x43)]) h K) (kCode env 36 false inv k (cp c36 956923) (act 58 [(0, x0), (2, x2), (4, x4), (43, x43)]) h K) := kq_cond
noncomputable abbrev G36_12 {β : Type} (inv : Inv) (x0 x2 x4 : Value) (h : AH) (K : AH → Option β) : Option β :=
    bnd (pNilCheck x0) fun x46 =>
    bnd (pFieldAddr Try.prog 79 x46 0) fun x47 =>
    bnd (pLoad Try.prog 26 x47 h) fun x48 =>
    bnd (pBin Try.prog .add 3 (.tmp 49) (.const (.int .i64 1)) x4 (.int .i64 1)) fun x50 =>
    bnd (pSlice Try.prog 26 x48 (some x50) none none h) fun x51 =>
    bnd (pNilCheck x0) fun x52 =>
    bnd (pFieldAddr Try.prog 79 x52 0) fun x53 =>
    bnd (kSt (pStore Try.prog 26 x53 x51 h)) fun u =>
    K u.2
theorem r36_12  : kCode env 36 false inv k (cp c36 478462) (act 58 [(0, x0), (2, x2), (4, x4), (43, x43)]) h K =
    G36_12 inv x0 x2 x4 h fun  h => K .normal (act 58 [(2, x2)]) h := kq_reg
theorem r36_13  : kCode env 36 false inv k (cp c36 956926) (act 58 [(2, x2)]) h K =
    K .normal (act 58 [(2, x2), (3, (.int .i64 0))]) h := kq_reg
noncomputable def F36_lrlrr {β : Type} (inv : Inv) (k : Nat) : Nat → Value → Value → Value → Value → Value → AH → (Value → Value → Value → Value → Value → Value → Value → Value → Value → Value → Value → Value → AH → Option β) → (Value → Value → AH → Option β) → Option β
  | 0, _, _, _, _, _, _, _, _ => none
  | j + 1, x0, x2, x12, x13, x14, h, ke0, kr =>
    bnd (pBin Try.prog .lss 3 (.tmp 14) (.tmp 13) x14 x13) fun x15 =>
    brV x15
    (bnd (pIndexAddr Try.prog 26 x12 x14) fun x17 =>
    bnd (pLoad Try.prog 5 x17 h) fun x18 =>
    bnd (pBin Try.prog .eql 3 (.tmp 19) (.const (.int .i64 10)) x14 (.int .i64 10)) fun x20 =>
    brV x20
    (ke0 x0 x2 x14 x18 unk x12 x13 x14 unk x20 unk unk h)
    (bnd (pBin Try.prog .andNot 5 (.tmp 21) (.const (.int .u8 128)) x18 (.int .u8 128)) fun x22 =>
    bnd (pConv Try.prog 5 51 x22 h) fun x23 =>
    G36_8 inv x0 x2 x14 x18 x23 x12 x13 x14 h fun y29 h =>
    brV y29
    (ke0 x0 x2 x14 x18 x23 x12 x13 x14 unk unk y29 unk h)
    (bnd (pBin Try.prog .mul 3 (.const (.int .i64 7)) (.tmp 32) (.int .i64 7) x14) fun x33 =>
    bnd (pBin Try.prog .shl 51 (.tmp 31) (.tmp 33) x23 x33) fun x34 =>
    bnd (pBin Try.prog .or 51 (.tmp 30) (.tmp 34) x2 x34) fun x35 =>
    bnd (pBin Try.prog .geq 5 (.tmp 36) (.const (.int .u8 128)) x18 (.int .u8 128)) fun x37 =>
    brV x37
    (bnd (pBin Try.prog .add 3 (.tmp 14) (.const (.int .i64 1)) x14 (.int .i64 1)) fun x55 =>
    F36_lrlrr inv k j x0 x35 x12 x13 x55 h ke0 kr)
    (G36_11 inv x0 x35 x14 x23 h fun y43 h_1 =>
    brV y43
    (ke0 x0 x35 x14 unk unk unk unk unk unk unk unk y43 h_1)
    (G36_12 inv x0 x35 x14 h_1 fun  h_2 =>
    kr x35 (.int .i64 0) h_2)))))
    (ke0 x0 x2 unk unk unk x12 x13 x14 x15 unk unk unk h)
theorem F36_lrlrr_j (j : Nat) : kLoop (kCode env 36 false inv k (cp c36 116)) j (act 58 [(0, x0), (2, x2), (12, x12), (13, x13), (14, x14)]) h K = F36_lrlrr inv k j x0 x2 x12 x13 x14 h (fun y0 y2 y4 y5 y6 y12 y13 y14 y15 y20 y29 y43 h => K (.exit 0) (act 58 [(0, y0), (2, y2), (4, y4), (5, y5), (6, y6), (12, y12), (13, y13), (14, y14), (15, y15), (20, y20), (29, y29), (43, y43)]) h) (fun y2 y3 h => K .ret (act 58 [(2, y2), (3, y3)]) h) := by
      induction j generalizing x0 x2 x12 x13 x14 h with
      | zero => rfl
      | succ j ih =>
        unfold F36_lrlrr
        simp only [kLoop, kq_seq c36 116, r36_4, kq_seq c36 233, b36_lrllrlrr, kq_skip c36 932, kq_seq c36 467, kq_block c36 934 1, kq_seq c36 1868, r36_5, kq_seq c36 3737, kq_seq c36 7474, r36_6, b36_rlrllrrllrlrr, kq_exit c36 29898 0, kq_skip c36 29899, kq_seq c36 7475, r36_7, kq_seq c36 14951, kq_seq c36 29902, r36_8, b36_rlrrrllrrllrlrr, kq_exit c36 119610 0, kq_skip c36 119611, kq_seq c36 29903, r36_9, kq_seq c36 59807, kq_seq c36 119614, r36_10, b36_rlrrrrrllrrllrlrr, kq_exit c36 478458 1, r36_14, kq_skip c36 478459, kq_seq c36 119615, kq_seq c36 239230, r36_11, b36_rlrrrrrrllrrllrlrr, kq_exit c36 956922 0, kq_skip c36 956923, kq_seq c36 239231, r36_12, kq_seq c36 478463, r36_13, kq_ret c36 956927, kq_exit c36 933 0, ih, reduceIte, reduceCtorEq, XE.exit.injEq, Nat.reduceEqDiff, Nat.reduceMul, Nat.reduceAdd] <;> kernel_rfl
theorem F36_lrlrr_eq  : kCode env 36 false inv k (cp c36 58) (act 58 [(0, x0), (2, x2), (12, x12), (13, x13), (14, x14)]) h K = F36_lrlrr inv k k x0 x2 x12 x13 x14 h (fun y0 y2 y4 y5 y6 y12 y13 y14 y15 y20 y29 y43 h => K (.exit 0) (act 58 [(0, y0), (2, y2), (4, y4), (5, y5), (6, y6), (12, y12), (13, y13), (14, y14), (15, y15), (20, y20), (29, y29), (43, y43)]) h) (fun y2 y3 h => K .ret (act 58 [(2, y2), (3, y3)]) h) := kq_loop (F36_lrlrr_j k)
noncomputable def F36_rlrr {β : Type} (inv : Inv) (k : Nat) (x0 x2 x12 x13 x14 : Value) (h : AH) (kn : (Value → Value → Value → Value → Value → Value → Value → Value → Value → Value → Value → Value → AH → Option β)) (kr : (Value → Value → AH → Option β)) : Option β :=
    F36_lrlrr inv k k x0 x2 x12 x13 x14 h
    (fun y0 y2 y4 y5 y6 y12 y13 y14 y15 y20 y29 y43 h =>
    kn y0 y2 y4 y5 y6 y12 y13 y14 y15 y20 y29 y43 h)
    (fun y2_3 y3 h_4 =>
    kr y2_3 y3 h_4)
theorem F36_rlrr_eq  : kCode env 36 false inv k (cp c36 29) (act 58 [(0, x0), (2, x2), (12, x12), (13, x13), (14, x14)]) h K = F36_rlrr inv k x0 x2 x12 x13 x14 h (fun y0 y2 y4 y5 y6 y12 y13 y14 y15 y20 y29 y43 h => K .normal (act 58 [(0, y0), (2, y2), (4, y4), (5, y5), (6, y6), (12, y12), (13, y13), (14, y14), (15, y15), (20, y20), (29, y29), (43, y43)]) h) (fun y2 y3 h => K .ret (act 58 [(2, y2), (3, y3)]) h) := by
      unfold F36_rlrr
      simp only [kq_block c36 29 0, F36_lrlrr_eq, reduceIte, reduceCtorEq, XE.exit.injEq, Nat.reduceEqDiff, Nat.reduceMul, Nat.reduceAdd] <;> kernel_rfl
theorem r36_15  : kCode env 36 false inv k (cp c36 60) (act 58 [(0, x0), (2, x2), (4, x4), (5, x5), (6, x6), (12, x12), (13, x13), (14, x14), (15, x15), (20, x20), (29, x29), (43, x43)]) h K =
    bnd (inv (.func 61) #[] #[x0] h) fun x57 =>
    K .normal (act 58 [(57, x57.1)]) x57.2 := kq_reg
theorem b36_rlrrr  : kCode env 36 false inv k (cp c36 61) (act 58 [(57, x57)]) h K = brV x57 (kCode env 36 false inv k (cp c36 122) (act 58 [(57, x57)]) h K) (kCode env 36 false inv k (cp c36 123) (act 58 [(57, x57)]) h K) := kq_cond
theorem r36_16  : kCode env 36 false inv k (cp c36 244) (act 58 [(57, x57)]) h K =
    K .normal (act 58 [(2, (.int .u64 0)), (3, (.int .i64 7))]) h := kq_reg
theorem r36_17  : kCode env 36 false inv k (cp c36 62) (act 58 [(57, x57)]) h K =
    K .normal (act 58 [(2, (.int .u64 0)), (3, (.int .i64 4))]) h := kq_reg
/-- (*shadowbook/octet.Reader).Var -/
noncomputable def F36 (inv : Inv) (k : Nat) (x0 : Value) (h : AH) : Option (Value × AH) :=
    bnd (pBin Try.prog .eql 57 (.tmp 7) (.const (.pointer none)) x0 (.pointer none)) fun x8 =>
    brV x8
    (some (.tuple #[(.int .u64 0), (.int .i64 1)], h))
    (bnd (pNilCheck x0) fun x10 =>
    bnd (pFieldAddr Try.prog 79 x10 0) fun x11 =>
    bnd (pLoad Try.prog 26 x11 h) fun x12 =>
    bnd (pLen Try.prog #[26] x12 h) fun x13 =>
    F36_rlrr inv k x0 (.int .u64 0) x12 x13 (.int .i64 0) h
    (fun y0 y2 y4 y5 y6 y12 y13 y14 y15 y20 y29 y43 h =>
    bnd (inv (.func 61) #[] #[y0] h) fun x57 =>
    brV x57.1
    (some (.tuple #[(.int .u64 0), (.int .i64 7)], x57.2))
    (some (.tuple #[(.int .u64 0), (.int .i64 4)], x57.2)))
    (fun y2_5 y3 h_6 =>
    some (.tuple #[y2_5, y3], h_6)))
theorem F36_eq : eFun env k inv 36 #[x0] h = F36 inv k x0 h := by
      refine (kq_fun (a := act 58 [(0, x0)]) (c := cp c36 1)).trans ?_
      unfold F36
      simp only [kq_seq c36 1, r36_0, kq_seq c36 3, kq_seq c36 6, r36_1, b36_rlr, kq_seq c36 26, r36_2, kq_ret c36 53, res36_0, kq_skip c36 27, kq_seq c36 7, kq_seq c36 14, r36_3, F36_rlrr_eq, kq_seq c36 15, kq_seq c36 30, r36_15, b36_rlrrr, kq_seq c36 122, r36_16, kq_ret c36 245, kq_skip c36 123, kq_seq c36 31, r36_17, kq_ret c36 63, reduceIte, reduceCtorEq, XE.exit.injEq, Nat.reduceEqDiff, Nat.reduceMul, Nat.reduceAdd] <;> kernel_rfl
theorem F36_call : eInv env (k + 1) (.func 36) #[] #[x0] h = F36 (eInv env k) k x0 h := kq_inv F36_eq
noncomputable def c37 : Code := codeOf Try.prog 37
theorem r37_0  : kCode env 37 false inv k (cp c37 2) (act 19 [(0, x0), (1, x1)]) h K =
    K .normal (act 19 [(0, x0), (1, x1)]) h := kq_reg
theorem r37_1  : kCode env 37 false inv k (cp c37 12) (act 19 [(0, x0), (1, x1)]) h K =
    bnd (pLen Try.prog #[42] x0 h) fun x7 =>
    K .normal (act 19 [(0, x0), (1, x1), (7, x7), (8, (.int .i64 0))]) h := kq_reg
theorem r37_2  : kCode env 37 false inv k (cp c37 104) (act 19 [(0, x0), (1, x1), (7, x7), (8, x8)]) h K =
    bnd (pBin Try.prog .lss 3 (.tmp 8) (.tmp 7) x8 x7) fun x9 =>
    K .normal (act 19 [(0, x0), (1, x1), (7, x7), (8, x8), (9, x9)]) h := kq_reg
theorem b37_lrllrlr  : kCode env 37 false inv k (cp c37 210) (act 19 [(0, x0), (1, x1), (7, x7), (8, x8), (9, x9)]) h K = brV x9 (kCode env 37 false inv k (cp c37 420) (act 19 [(0, x0), (1, x1), (7, x7), (8, x8), (9, x9)]) h K) (kCode env 37 false inv k (cp c37 421) (act 19 [(0, x0), (1, x1), (7, x7), (8, x8), (9, x9)]) h K) := kq_cond
theorem r37_3  : kCode env 37 false inv k (cp c37 1688) (act 19 [(0, x0), (1, x1), (7, x7), (8, x8), (9, x9)]) h K =
    K .normal (act 19 [(0, x0), (1, x1), (5, x8), (7, x7), (8, x8)]) h := kq_reg
theorem r37_4  : kCode env 37 false inv k (cp c37 3378) (act 19 [(0, x0), (1, x1), (5, x5), (7, x7), (8, x8)]) h K =
    bnd (pIndexAddr Try.prog 42 x0 x5) fun x14 =>
    bnd (pLoad Try.prog 46 x14 h) fun x15 =>
    bnd (callV inv x1 #[x15] h) fun x16 =>
    K .normal (act 19 [(0, x0), (1, x1), (5, x5), (7, x7), (8, x8), (16, x16.1)]) x16.2 := kq_reg
theorem b37_rrllrrllrlr  : kCode env 37 false inv k (cp c37 3379) (act 19 [(0, x0), (1, x1), (5, x5), (7, x7), (8, x8), (16, x16)]) h K = brV x16 (kCode env 37 false inv k (cp c37 6758) (act 19 [(0, x0), (1, x1), (5, x5), (7, x7), (8, x8), (16, x16)]) h K) (kCode env 37 false inv k (cp c37 6759) (act 19 [(0, x0), (1, x1), (5, x5), (7, x7), (8, x8), (16, x16)]) h K) := kq_cond
theorem r37_5  : kCode env 37 false inv k (cp c37 13516) (act 19 [(0, x0), (1, x1), (5, x5), (7, x7), (8, x8), (16, x16)]) h K =
    K .normal (act 19 [(4, x5)]) h := kq_reg
theorem r37_6  : kCode env 37 false inv k (cp c37 423) (act 19 [(0, x0), (1, x1), (5, x5), (7, x7), (8, x8), (16, x16)]) h K =
    bnd (pBin Try.prog .add 3 (.tmp 8) (.const (.int .i64 1)) x8 (.int .i64 1)) fun x18 =>
    K .normal (act 19 [(0, x0), (1, x1), (7, x7), (8, x18)]) h := kq_reg
noncomputable def F37_lrlr {β : Type} (inv : Inv) (k : Nat) : Nat → Value → Value → Value → Value → AH → (Value → Value → Value → Value → Value → AH → Option β) → (Value → AH → Option β) → Option β
  | 0, _, _, _, _, _, _, _ => none
  | j + 1, x0, x1, x7, x8, h, ke0, kr =>
    bnd (pBin Try.prog .lss 3 (.tmp 8) (.tmp 7) x8 x7) fun x9 =>
    brV x9
    (bnd (pIndexAddr Try.prog 42 x0 x8) fun x14 =>
    bnd (pLoad Try.prog 46 x14 h) fun x15 =>
    bnd (callV inv x1 #[x15] h) fun x16 =>
    brV x16.1
    (kr x8 x16.2)
    (bnd (pBin Try.prog .add 3 (.tmp 8) (.const (.int .i64 1)) x8 (.int .i64 1)) fun x18 =>
    F37_lrlr inv k j x0 x1 x7 x18 x16.2 ke0 kr))
    (ke0 x0 x1 x7 x8 x9 h)
theorem F37_lrlr_j (j : Nat) : kLoop (kCode env 37 false inv k (cp c37 52)) j (act 19 [(0, x0), (1, x1), (7, x7), (8, x8)]) h K = F37_lrlr inv k j x0 x1 x7 x8 h (fun y0 y1 y7 y8 y9 h => K (.exit 0) (act 19 [(0, y0), (1, y1), (7, y7), (8, y8), (9, y9)]) h) (fun y4 h => K .ret (act 19 [(4, y4)]) h) := by
      induction j generalizing x0 x1 x7 x8 h with
      | zero => rfl
      | succ j ih =>
        unfold F37_lrlr
        simp only [kLoop, kq_seq c37 52, r37_2, kq_seq c37 105, b37_lrllrlr, kq_skip c37 420, kq_seq c37 211, kq_block c37 422 1, kq_seq c37 844, r37_3, kq_seq c37 1689, r37_4, b37_rrllrrllrlr, kq_seq c37 6758, r37_5, kq_ret c37 13517, kq_skip c37 6759, r37_6, kq_exit c37 421 0, ih, reduceIte, reduceCtorEq, XE.exit.injEq, Nat.reduceEqDiff, Nat.reduceMul, Nat.reduceAdd] <;> kernel_rfl
theorem F37_lrlr_eq  : kCode env 37 false inv k (cp c37 26) (act 19 [(0, x0), (1, x1), (7, x7), (8, x8)]) h K = F37_lrlr inv k k x0 x1 x7 x8 h (fun y0 y1 y7 y8 y9 h => K (.exit 0) (act 19 [(0, y0), (1, y1), (7, y7), (8, y8), (9, y9)]) h) (fun y4 h => K .ret (act 19 [(4, y4)]) h) := kq_loop (F37_lrlr_j k)
theorem r37_7  : kCode env 37 false inv k (cp c37 14) (act 19 [(0, x0), (1, x1), (7, x7), (8, x8), (9, x9)]) h K =
    K .normal (act 19 [(4, (.int .i64 (-1)))]) h := kq_reg
theorem res37_0 : resOfFn env.P 37 .ret (act 19 [(4, x4)]) h = some (x4, h) := kq_res
/-- slices.IndexFunc[[]shadowbook/ints.form,shadowbook/ints.form] -/
noncomputable def F37 (inv : Inv) (k : Nat) (x0 x1 : Value) (h : AH) : Option (Value × AH) :=
    bnd (pLen Try.prog #[42] x0 h) fun x7 =>
    F37_lrlr inv k k x0 x1 x7 (.int .i64 0) h
    (fun y0 y1 y7 y8 y9 h =>
    some ((.int .i64 (-1)), h))
    (fun y4 h_1 =>
    some (y4, h_1))
theorem F37_eq : eFun env k inv 37 #[x0, x1] h = F37 inv k x0 x1 h := by
      refine (kq_fun (a := act 19 [(0, x0), (1, x1)]) (c := cp c37 1)).trans ?_
      unfold F37
      simp only [kq_seq c37 1, r37_0, kq_seq c37 3, kq_seq c37 6, r37_1, kq_block c37 13 0, F37_lrlr_eq, kq_seq c37 7, r37_7, kq_ret c37 15, res37_0, reduceIte, reduceCtorEq, XE.exit.injEq, Nat.reduceEqDiff, Nat.reduceMul, Nat.reduceAdd] <;> kernel_rfl
theorem F37_call : eInv env (k + 1) (.func 37) #[] #[x0, x1] h = F37 (eInv env k) k x0 x1 h := kq_inv F37_eq
noncomputable def c38 : Code := codeOf Try.prog 38
theorem r38_0  : kCode env 38 false inv k (cp c38 2) (act 9 [(0, x0), (1, x1)]) h K =
    bnd (pBox Try.prog 46 x0 h) fun x2 =>
    K .normal (act 9 [(1, x1), (2, x2.1)]) x2.2 := kq_reg
theorem r38_1  : kCode env 38 false inv k (cp c38 6) (act 9 [(1, x1), (2, x2)]) h K =
    bnd (pFieldAddr Try.prog 46 x2 0) fun x4 =>
    bnd (pLoad Try.prog 5 x4 h) fun x5 =>
    bnd (pConv Try.prog 5 51 x5 h) fun x6 =>
    bnd (pLoad Try.prog 51 x1 h) fun x7 =>
    bnd (pBin Try.prog .eql 51 (.tmp 6) (.tmp 7) x6 x7) fun x8 =>
    K .normal (act 9 [(3, x8)]) h := kq_reg
theorem res38_0 : resOfFn env.P 38 .ret (act 9 [(3, x3)]) h = some (x3, h) := kq_res
/-- shadowbook/ints.Get$1 -/
noncomputable def F38 (inv : Inv) (k : Nat) (x0 x1 : Value) (h : AH) : Option (Value × AH) :=
    bnd (pBox Try.prog 46 x0 h) fun x2 =>
    bnd (pFieldAddr Try.prog 46 x2.1 0) fun x4 =>
    bnd (pLoad Try.prog 5 x4 x2.2) fun x5 =>
    bnd (pConv Try.prog 5 51 x5 x2.2) fun x6 =>
    bnd (pLoad Try.prog 51 x1 x2.2) fun x7 =>
    bnd (pBin Try.prog .eql 51 (.tmp 6) (.tmp 7) x6 x7) fun x8 =>
    some (x8, x2.2)
theorem F38_eq : eFun env k inv 38 #[x0, x1] h = F38 inv k x0 x1 h := by
      refine (kq_fun (a := act 9 [(0, x0), (1, x1)]) (c := cp c38 1)).trans ?_
      unfold F38
      simp only [kq_seq c38 1, r38_0, kq_seq c38 3, r38_1, kq_ret c38 7, res38_0, reduceIte, reduceCtorEq, XE.exit.injEq, Nat.reduceEqDiff, Nat.reduceMul, Nat.reduceAdd] <;> kernel_rfl
theorem F38_call : eInv env (k + 1) (.func 38) #[] #[x0, x1] h = F38 (eInv env k) k x0 x1 h := kq_inv F38_eq
noncomputable def c39 : Code := codeOf Try.prog 39
theorem r39_0  : kCode env 39 false inv k (cp c39 2) (act 10 [(0, x0), (1, x1)]) h K =
    K .normal (act 10 [(0, x0), (1, x1)]) h := kq_reg
theorem r39_1  : kCode env 39 false inv k (cp c39 6) (act 10 [(0, x0), (1, x1)]) h K =
    bnd (pConv Try.prog 26 9 x0 h) fun x6 =>
    bnd (pConv Try.prog 26 9 x1 h) fun x8 =>
    bnd (pBin Try.prog .eql 9 (.tmp 6) (.tmp 8) x6 x8) fun x9 =>
    K .normal (act 10 [(4, x9)]) h := kq_reg
theorem res39_0 : resOfFn env.P 39 .ret (act 10 [(4, x4)]) h = some (x4, h) := kq_res
/-- bytes.Equal -/
noncomputable def F39 (inv : Inv) (k : Nat) (x0 x1 : Value) (h : AH) : Option (Value × AH) :=
    bnd (pConv Try.prog 26 9 x0 h) fun x6 =>
    bnd (pConv Try.prog 26 9 x1 h) fun x8 =>
    bnd (pBin Try.prog .eql 9 (.tmp 6) (.tmp 8) x6 x8) fun x9 =>
    some (x9, h)
theorem F39_eq : eFun env k inv 39 #[x0, x1] h = F39 inv k x0 x1 h := by
      refine (kq_fun (a := act 10 [(0, x0), (1, x1)]) (c := cp c39 1)).trans ?_
      unfold F39
      simp only [kq_seq c39 1, r39_0, kq_seq c39 3, r39_1, kq_ret c39 7, res39_0, reduceIte, reduceCtorEq, XE.exit.injEq, Nat.reduceEqDiff, Nat.reduceMul, Nat.reduceAdd] <;> kernel_rfl
theorem F39_call : eInv env (k + 1) (.func 39) #[] #[x0, x1] h = F39 (eInv env k) k x0 x1 h := kq_inv F39_eq
noncomputable def c40 : Code := codeOf Try.prog 40
theorem r40_0  : kCode env 40 false inv k (cp c40 2) (act 10 [(0, x0), (1, x1)]) h K =
    K .normal (act 10 [(0, x0), (1, x1)]) h := kq_reg
theorem r40_1  : kCode env 40 false inv k (cp c40 6) (act 10 [(0, x0), (1, x1)]) h K =
    bnd (pBuildSlice Try.prog 26 1 #[(0, x0)] h) fun x6 =>
    bnd (pConv Try.prog 3 51 x1 x6.2) fun x8 =>
    bnd (inv (.func 42) #[] #[x6.1, x8] x6.2) fun x9 =>
    K .normal (act 10 [(4, x9.1)]) x9.2 := kq_reg
theorem res40_0 : resOfFn env.P 40 .ret (act 10 [(4, x4)]) h = some (x4, h) := kq_res
/-- shadowbook/shadowbookref06.head -/
noncomputable def F40 (inv : Inv) (k : Nat) (x0 x1 : Value) (h : AH) : Option (Value × AH) :=
    bnd (pBuildSlice Try.prog 26 1 #[(0, x0)] h) fun x6 =>
    bnd (pConv Try.prog 3 51 x1 x6.2) fun x8 =>
    bnd (inv (.func 42) #[] #[x6.1, x8] x6.2) fun x9 =>
    some (x9.1, x9.2)
theorem F40_eq : eFun env k inv 40 #[x0, x1] h = F40 inv k x0 x1 h := by
      refine (kq_fun (a := act 10 [(0, x0), (1, x1)]) (c := cp c40 1)).trans ?_
      unfold F40
      simp only [kq_seq c40 1, r40_0, kq_seq c40 3, r40_1, kq_ret c40 7, res40_0, reduceIte, reduceCtorEq, XE.exit.injEq, Nat.reduceEqDiff, Nat.reduceMul, Nat.reduceAdd] <;> kernel_rfl
theorem F40_call : eInv env (k + 1) (.func 40) #[] #[x0, x1] h = F40 (eInv env k) k x0 x1 h := kq_inv F40_eq
noncomputable def c41 : Code := codeOf Try.prog 41
theorem r41_0  : kCode env 41 false inv k (cp c41 2) (act 30 [(0, x0), (1, x1), (2, x2)]) h K =
    K .normal (act 30 [(0, x0), (1, x1), (2, x2)]) h := kq_reg
noncomputable abbrev G41_1 {β : Type} (inv : Inv) (x0 x1 x2 : Value) (h : AH) (K : Value → AH → Option β) : Option β :=
    bnd (pBin Try.prog .lss 3 (.tmp 8) (.const (.int .i64 1)) x2 (.int .i64 1)) fun x9 =>
    bnd (gd (some x9) false h (some (x2, h))) fun x11 =>
    bnd (gd (some x9) false x11.2 (lt (pBin Try.prog .gtr 3 (.tmp 11) (.const (.int .i64 8)) x11.1 (.int .i64 8)) x11.2)) fun x12 =>
    bnd (pickV x9 (.bool true) x12.1) fun x13 =>
    K (x13) x12.2
theorem r41_1  : kCode env 41 false inv k (cp c41 12) (act 30 [(0, x0), (1, x1), (2, x2)]) h K =
    G41_1 inv x0 x1 x2 h fun y13 h => K .normal (act 30 [(0, x0), (1, x1), (2, x2), (13, y13)]) h := kq_reg
theorem b41_rlr  : kCode env 41 false inv k (cp c41 13) (act 30 [(0, x0), (1, x1), (2, x2), (13, x13)]) h K = brV x13 (kCode env 41 false inv k (cp c41 26) (act 30 [(0, x0), (1, x1), (2, x2), (13, x13)]) h K) (kCode env 41 false inv k (cp c41 27) (act 30 [(0, x0), (1, x1), (2, x2), (13, x13)]) h K) := kq_cond
theorem r41_2  : kCode env 41 false inv k (cp c41 52) (act 30 [(0, x0), (1, x1), (2, x2), (13, x13)]) h K =
    K .normal (act 30 [(6, x0)]) h := kq_reg
theorem res41_0 : resOfFn env.P 41 .ret (act 30 [(6, x6)]) h = some (x6, h) := kq_res
theorem r41_3  : kCode env 41 false inv k (cp c41 28) (act 30 [(0, x0), (1, x1), (2, x2), (13, x13)]) h K =
    K .normal (act 30 [(0, x0), (1, x1), (2, x2), (7, (.int .i64 0))]) h := kq_reg
theorem r41_4  : kCode env 41 false inv k (cp c41 464) (act 30 [(0, x0), (1, x1), (2, x2), (7, x7)]) h K =
    bnd (pBin Try.prog .lss 3 (.tmp 15) (.tmp 16) x7 x2) fun x17 =>
    K .normal (act 30 [(0, x0), (1, x1), (2, x2), (7, x7), (17, x17)]) h := kq_reg
theorem b41_rlllrlrr  : kCode env 41 false inv k (cp c41 465) (act 30 [(0, x0), (1, x1), (2, x2), (7, x7), (17, x17)]) h K = brV x17 (kCode env 41 false inv k (cp c41 930) (act 30 [(0, x0), (1, x1), (2, x2), (7, x7), (17, x17)]) h K) (kCode env 41 false inv k (cp c41 931) (act 30 [(0, x0), (1, x1), (2, x2), (7, x7), (17, x17)]) h K) := kq_cond
noncomputable abbrev G41_6 {β : Type} (inv : Inv) (x0 x1 x2 x7 : Value) (h : AH) (K : Value → AH → Option β) : Option β :=
    bnd (pBin Try.prog .mul 3 (.const (.int .i64 8)) (.tmp 22) (.int .i64 8) x7) fun x23 =>
    bnd (pConv Try.prog 3 76 x23 h) fun x24 =>
    bnd (pBin Try.prog .shr 51 (.tmp 21) (.tmp 24) x1 x24) fun x25 =>
    bnd (pConv Try.prog 51 5 x25 h) fun x26 =>
    bnd (pBuildSlice Try.prog 26 1 #[(0, x26)] h) fun x27 =>
    bnd (pAppend Try.prog #[26, 26] x0 x27.1 x27.2) fun x28 =>
    K (x28.1) x28.2
theorem r41_6  : kCode env 41 false inv k (cp c41 932) (act 30 [(0, x0), (1, x1), (2, x2), (7, x7), (17, x17)]) h K =
    G41_6 inv x0 x1 x2 x7 h fun y0 h => K .normal (act 30 [(0, y0), (1, x1), (2, x2), (7, x7)]) h := kq_reg
theorem r41_5  : kCode env 41 false inv k (cp c41 467) (act 30 [(0, x0), (1, x1), (2, x2), (7, x7)]) h K =
    bnd (pBin Try.prog .add 3 (.tmp 18) (.const (.int .i64 1)) x7 (.int .i64 1)) fun x19 =>
    K .normal (act 30 [(0, x0), (1, x1), (2, x2), (7, x19)]) h := kq_reg
noncomputable def F41_lrlrr {β : Type} (inv : Inv) (k : Nat) : Nat → Value → Value → Value → Value → AH → (Value → Value → Value → Value → Value → AH → Option β) → Option β
  | 0, _, _, _, _, _, _ => none
  | j + 1, x0, x1, x2, x7, h, ke0 =>
    bnd (pBin Try.prog .lss 3 (.tmp 15) (.tmp 16) x7 x2) fun x17 =>
    brV x17
    (G41_6 inv x0 x1 x2 x7 h fun y0 h =>
    bnd (pBin Try.prog .add 3 (.tmp 18) (.const (.int .i64 1)) x7 (.int .i64 1)) fun x19 =>
    F41_lrlrr inv k j y0 x1 x2 x19 h ke0)
    (ke0 x0 x1 x2 x7 x17 h)
theorem F41_lrlrr_j (j : Nat) : kLoop (kCode env 41 false inv k (cp c41 116)) j (act 30 [(0, x0), (1, x1), (2, x2), (7, x7)]) h K = F41_lrlrr inv k j x0 x1 x2 x7 h (fun y0 y1 y2 y7 y17 h => K (.exit 0) (act 30 [(0, y0), (1, y1), (2, y2), (7, y7), (17, y17)]) h) := by
      induction j generalizing x0 x1 x2 x7 h with
      | zero => rfl
      | succ j ih =>
        unfold F41_lrlrr
        simp only [kLoop, kq_seq c41 116, kq_seq c41 232, r41_4, b41_rlllrlrr, kq_skip c41 930, kq_seq c41 233, kq_block c41 466 1, r41_6, r41_5, kq_exit c41 931 0, ih, reduceIte, reduceCtorEq, XE.exit.injEq, Nat.reduceEqDiff, Nat.reduceMul, Nat.reduceAdd] <;> kernel_rfl
theorem F41_lrlrr_eq  : kCode env 41 false inv k (cp c41 58) (act 30 [(0, x0), (1, x1), (2, x2), (7, x7)]) h K = F41_lrlrr inv k k x0 x1 x2 x7 h (fun y0 y1 y2 y7 y17 h => K (.exit 0) (act 30 [(0, y0), (1, y1), (2, y2), (7, y7), (17, y17)]) h) := kq_loop (F41_lrlrr_j k)
theorem r41_7  : kCode env 41 false inv k (cp c41 30) (act 30 [(0, x0), (1, x1), (2, x2), (7, x7), (17, x17)]) h K =
    K .normal (act 30 [(6, x0)]) h := kq_reg
/-- shadowbook/shadowbookref01.Put -/
noncomputable def F41 (inv : Inv) (k : Nat) (x0 x1 x2 : Value) (h : AH) : Option (Value × AH) :=
    G41_1 inv x0 x1 x2 h fun y13 h =>
    brV y13
    (some (x0, h))
    (F41_lrlrr inv k k x0 x1 x2 (.int .i64 0) h
    (fun y0 y1 y2 y7 y17 h_1 =>
    some (y0, h_1)))
theorem F41_eq : eFun env k inv 41 #[x0, x1, x2] h = F41 inv k x0 x1 x2 h := by
      refine (kq_fun (a := act 30 [(0, x0), (1, x1), (2, x2)]) (c := cp c41 1)).trans ?_
      unfold F41
      simp only [kq_seq c41 1, r41_0, kq_seq c41 3, kq_seq c41 6, r41_1, b41_rlr, kq_seq c41 26, r41_2, kq_ret c41 53, res41_0, kq_skip c41 27, kq_seq c41 7, kq_seq c41 14, r41_3, kq_block c41 29 0, F41_lrlrr_eq, kq_seq c41 15, r41_7, kq_ret c41 31, reduceIte, reduceCtorEq, XE.exit.injEq, Nat.reduceEqDiff, Nat.reduceMul, Nat.reduceAdd] <;> kernel_rfl
theorem F41_call : eInv env (k + 1) (.func 41) #[] #[x0, x1, x2] h = F41 (eInv env k) k x0 x1 x2 h := kq_inv F41_eq
end Go.Proofs.Ytcidbbkefpeahaa.Sh
