/- Shallow functions, part 1. Printed by a program of the prover's own from the loaded program; Lean checks it. -/
import Derived.Test.YtagcejlclcldcaaSz0
set_option linter.unusedVariables false
set_option linter.unusedSimpArgs false
set_option maxRecDepth 100000
namespace Go.Proofs.Ytagcejlclcldcaa.Sh
open Go Go.RowKit Go.Proofs.Ev
variable {β : Type} {inv : Inv} {k : Nat} {h : AH} {K : XE → Act → AH → Option β} {x0 x1 x2 x3 x4 x5 x6 x7 x8 x9 x10 x11 x12 x13 x14 x15 x16 x17 x18 x19 x20 x21 x22 x23 x24 x25 x26 x27 x28 x29 x30 x31 x32 x33 x34 x35 x36 x37 x38 x39 x40 x41 x42 x43 x44 x45 x46 x47 x48 x49 x50 x51 x52 x53 x54 x55 x56 x57 x58 x59 x60 x61 x62 x63 x64 x65 x66 x67 x68 x70 x71 x72 x73 x74 x75 x76 x77 x78 x79 x80 x81 z0 z1 : Value}
noncomputable def c5 : Code := codeOf Try.prog 5
theorem r5_0  : kCode env 5 false inv k (cp c5 2) (act 125 []) h K =
    K .normal (act 125 []) h := kq_reg
theorem r5_1  : kCode env 5 false inv k (cp c5 12) (act 125 []) h K =
    bnd (inv (.func 8) #[] #[] h) fun x19 =>
    bnd (pUn Try.prog .not x19.1) fun x20 =>
    K .normal (act 125 [(20, x20)]) x19.2 := kq_reg
theorem b5_rlr  : kCode env 5 false inv k (cp c5 13) (act 125 [(20, x20)]) h K = brV x20 (kCode env 5 false inv k (cp c5 26) (act 125 [(20, x20)]) h K) (kCode env 5 false inv k (cp c5 27) (act 125 [(20, x20)]) h K) := kq_cond
theorem r5_2  : kCode env 5 false inv k (cp c5 52) (act 125 [(20, x20)]) h K =
    K .normal (act 125 [(0, (.bool false))]) h := kq_reg
theorem res5_0 : resOfFn env.P 5 .ret (act 125 [(0, x0)]) h = some (x0, h) := kq_res
theorem r5_3  : kCode env 5 false inv k (cp c5 14) (act 125 [(20, x20)]) h K =
    bnd (inv (.func 16) #[] #[(.slice none 0 0)] h) fun x22 =>
    bnd (pExtract x22.1 0) fun x23 =>
    bnd (pExtract x22.1 1) fun x24 =>
    K .normal (act 125 [(1, x23)]) x22.2 := kq_reg
theorem r5_4  : kCode env 5 false inv k (cp c5 30) (act 125 [(1, x1)]) h K =
    bnd (pBuildSlice Try.prog 22 4 #[(0, (.string { data := #[98] })), (1, (.string { data := #[97] })), (2, (.string { data := #[98] })), (3, (.string { data := #[] }))] h) fun x26 =>
    bnd (inv (.func 17) #[] #[x26.1] x26.2) fun x27 =>
    bnd (pExtract x27.1 0) fun x28 =>
    bnd (pExtract x27.1 1) fun x29 =>
    K .normal (act 125 [(1, x1), (3, x28)]) x27.2 := kq_reg
theorem r5_5  : kCode env 5 false inv k (cp c5 62) (act 125 [(1, x1), (3, x3)]) h K =
    bnd (inv (.func 18) #[] #[x3] h) fun x32 =>
    bnd (pExtract x32.1 0) fun x33 =>
    bnd (pExtract x32.1 1) fun x34 =>
    K .normal (act 125 [(1, x1), (3, x3), (5, x33), (6, x34)]) x32.2 := kq_reg
theorem r5_6  : kCode env 5 false inv k (cp c5 126) (act 125 [(1, x1), (3, x3), (5, x5), (6, x6)]) h K =
    bnd (pBuildSlice Try.prog 30 2 #[(0, (.int .u8 3)), (1, (.int .u8 0))] h) fun x36 =>
    bnd (inv (.func 18) #[] #[x36.1] x36.2) fun x37 =>
    bnd (pExtract x37.1 0) fun x38 =>
    bnd (pExtract x37.1 1) fun x39 =>
    K .normal (act 125 [(1, x1), (3, x3), (5, x5), (6, x6), (8, x39)]) x37.2 := kq_reg
theorem r5_7  : kCode env 5 false inv k (cp c5 254) (act 125 [(1, x1), (3, x3), (5, x5), (6, x6), (8, x8)]) h K =
    bnd (pMakeSlice Try.prog 22 (.int .i64 4097) (.int .i64 4097) h) fun x41 =>
    bnd (inv (.func 16) #[] #[x41.1] x41.2) fun x42 =>
    bnd (pExtract x42.1 0) fun x43 =>
    bnd (pExtract x42.1 1) fun x44 =>
    K .normal (act 125 [(1, x1), (3, x3), (5, x5), (6, x6), (8, x8), (10, x44)]) x42.2 := kq_reg
theorem r5_8  : kCode env 5 false inv k (cp c5 510) (act 125 [(1, x1), (3, x3), (5, x5), (6, x6), (8, x8), (10, x10)]) h K =
    bnd (inv (.func 19) #[] #[(.string { data := #[97] }), (.int .i64 65537)] h) fun x46 =>
    bnd (pBuildSlice Try.prog 22 1 #[(0, x46.1)] x46.2) fun x47 =>
    bnd (inv (.func 16) #[] #[x47.1] x47.2) fun x48 =>
    bnd (pExtract x48.1 0) fun x49 =>
    bnd (pExtract x48.1 1) fun x50 =>
    K .normal (act 125 [(1, x1), (3, x3), (5, x5), (6, x6), (8, x8), (10, x10), (12, x50)]) x48.2 := kq_reg
noncomputable abbrev G5_9 {β : Type} (inv : Inv) (x1 x3 x5 x6 x8 x10 x12 : Value) (h : AH) (K : Value → AH → Option β) : Option β :=
    bnd (pBuildSlice Try.prog 30 9 #[(0, (.int .u8 2)), (1, (.int .u8 2)), (2, (.int .u8 2)), (3, (.int .u8 1)), (4, (.int .u8 98)), (5, (.int .u8 1)), (6, (.int .u8 97)), (7, (.int .u8 1)), (8, (.int .u8 2))] h) fun x52 =>
    bnd (pBytes Try.prog 30 30 x52.1 x52.2) fun x53 =>
    bnd (inv (.func 18) #[] #[x53.1] x53.2) fun x54 =>
    bnd (pExtract x54.1 0) fun x55 =>
    bnd (pExtract x54.1 1) fun x56 =>
    K (x56) x54.2
theorem r5_9  : kCode env 5 false inv k (cp c5 1022) (act 125 [(1, x1), (3, x3), (5, x5), (6, x6), (8, x8), (10, x10), (12, x12)]) h K =
    G5_9 inv x1 x3 x5 x6 x8 x10 x12 h fun y14 h => K .normal (act 125 [(1, x1), (3, x3), (5, x5), (6, x6), (8, x8), (10, x10), (12, x12), (14, y14)]) h := kq_reg
noncomputable abbrev G5_10 {β : Type} (inv : Inv) (x1 x3 x5 x6 x8 x10 x12 x14 : Value) (h : AH) (K : Value → AH → Option β) : Option β :=
    bnd (pBuildSlice Try.prog 30 9 #[(0, (.int .u8 2)), (1, (.int .u8 1)), (2, (.int .u8 2)), (3, (.int .u8 1)), (4, (.int .u8 97)), (5, (.int .u8 1)), (6, (.int .u8 98)), (7, (.int .u8 1)), (8, (.int .u8 0))] h) fun x58 =>
    bnd (pBytes Try.prog 30 30 x58.1 x58.2) fun x59 =>
    bnd (inv (.func 18) #[] #[x59.1] x59.2) fun x60 =>
    bnd (pExtract x60.1 0) fun x61 =>
    bnd (pExtract x60.1 1) fun x62 =>
    K (x62) x60.2
theorem r5_10  : kCode env 5 false inv k (cp c5 2046) (act 125 [(1, x1), (3, x3), (5, x5), (6, x6), (8, x8), (10, x10), (12, x12), (14, x14)]) h K =
    G5_10 inv x1 x3 x5 x6 x8 x10 x12 x14 h fun y16 h => K .normal (act 125 [(1, x1), (3, x3), (5, x5), (6, x6), (8, x8), (10, x10), (12, x12), (14, x14), (16, y16)]) h := kq_reg
theorem r5_11  : kCode env 5 false inv k (cp c5 4094) (act 125 [(1, x1), (3, x3), (5, x5), (6, x6), (8, x8), (10, x10), (12, x12), (14, x14), (16, x16)]) h K =
    bnd (pBuildSlice Try.prog 22 2 #[(0, (.string { data := #[120, 121] })), (1, (.string { data := #[] }))] h) fun x64 =>
    bnd (inv (.func 15) #[] #[x64.1] x64.2) fun x65 =>
    bnd (pExtract x65.1 0) fun x66 =>
    bnd (pExtract x65.1 1) fun x67 =>
    K .normal (act 125 [(1, x1), (3, x3), (5, x5), (6, x6), (8, x8), (10, x10), (12, x12), (14, x14), (16, x16), (17, x66), (18, x67)]) x65.2 := kq_reg
noncomputable abbrev G5_12 {β : Type} (inv : Inv) (x1 x3 x5 x6 x8 x10 x12 x14 x16 x17 x18 : Value) (h : AH) (K : Value → AH → Option β) : Option β :=
    bnd (pConv Try.prog 30 9 x1 h) fun x69 =>
    bnd (pBin Try.prog .eql 9 (.tmp 69) (.const (.string { data := #[1, 0] })) x69 (.string { data := #[1, 0] })) fun x70 =>
    bnd (gd (some x70) true h (some (x3, h))) fun x72 =>
    bnd (gd (some x70) true x72.2 (lt (pConv Try.prog 30 9 x72.1 x72.2) x72.2)) fun x73 =>
    bnd (gd (some x70) true x73.2 (lt (pBin Try.prog .eql 9 (.tmp 73) (.const (.string { data := #[2, 4, 3, 0, 1, 97, 1, 98, 2, 38] })) x73.1 (.string { data := #[2, 4, 3, 0, 1, 97, 1, 98, 2, 38] })) x73.2)) fun x74 =>
    bnd (pickV x70 x74.1 (.bool false)) fun x75 =>
    bnd (gd (some x75) true x74.2 (some (x6, x74.2))) fun x77 =>
    bnd (gd (some x75) true x77.2 (lt (pBin Try.prog .eql 31 (.tmp 77) (.const (.int .i64 0)) x77.1 (.int .i64 0)) x77.2)) fun x78 =>
    bnd (pickV x75 x78.1 (.bool false)) fun x79 =>
    bnd (gd (some x79) true x78.2 (some (x5, x78.2))) fun x81 =>
    bnd (gd (some x79) true x81.2 (pBuildSlice Try.prog 22 4 #[(0, (.string { data := #[98] })), (1, (.string { data := #[97] })), (2, (.string { data := #[98] })), (3, (.string { data := #[] }))] x81.2)) fun x82 =>
    bnd (gd (some x79) true x82.2 (inv (.func 14) #[] #[x81.1, x82.1] x82.2)) fun x83 =>
    bnd (pickV x79 x83.1 (.bool false)) fun x84 =>
    bnd (gd (some x84) true x83.2 (some (x8, x83.2))) fun x86 =>
    bnd (gd (some x84) true x86.2 (lt (pBin Try.prog .eql 31 (.tmp 86) (.const (.int .i64 4)) x86.1 (.int .i64 4)) x86.2)) fun x87 =>
    bnd (pickV x84 x87.1 (.bool false)) fun x88 =>
    bnd (gd (some x88) true x87.2 (some (x10, x87.2))) fun x90 =>
    bnd (gd (some x88) true x90.2 (lt (pBin Try.prog .eql 31 (.tmp 90) (.const (.int .i64 3)) x90.1 (.int .i64 3)) x90.2)) fun x91 =>
    bnd (pickV x88 x91.1 (.bool false)) fun x92 =>
    bnd (gd (some x92) true x91.2 (some (x12, x91.2))) fun x94 =>
    bnd (gd (some x92) true x94.2 (lt (pBin Try.prog .eql 31 (.tmp 94) (.const (.int .i64 3)) x94.1 (.int .i64 3)) x94.2)) fun x95 =>
    bnd (pickV x92 x95.1 (.bool false)) fun x96 =>
    bnd (gd (some x96) true x95.2 (some (x14, x95.2))) fun x98 =>
    bnd (gd (some x96) true x98.2 (lt (pBin Try.prog .eql 31 (.tmp 98) (.const (.int .i64 4)) x98.1 (.int .i64 4)) x98.2)) fun x99 =>
    bnd (pickV x96 x99.1 (.bool false)) fun x100 =>
    bnd (gd (some x100) true x99.2 (some (x16, x99.2))) fun x102 =>
    bnd (gd (some x100) true x102.2 (lt (pBin Try.prog .eql 31 (.tmp 102) (.const (.int .i64 4)) x102.1 (.int .i64 4)) x102.2)) fun x103 =>
    bnd (pickV x100 x103.1 (.bool false)) fun x104 =>
    bnd (gd (some x104) true x103.2 (some (x18, x103.2))) fun x106 =>
    bnd (gd (some x104) true x106.2 (lt (pBin Try.prog .eql 31 (.tmp 106) (.const (.int .i64 0)) x106.1 (.int .i64 0)) x106.2)) fun x107 =>
    bnd (pickV x104 x107.1 (.bool false)) fun x108 =>
    bnd (gd (some x108) true x107.2 (some (x17, x107.2))) fun x110 =>
    bnd (gd (some x108) true x110.2 (lt (pConv Try.prog 30 9 x110.1 x110.2) x110.2)) fun x111 =>
    bnd (gd (some x108) true x111.2 (lt (pBin Try.prog .eql 9 (.tmp 111) (.const (.string { data := #[1, 2, 2, 120, 121, 0] })) x111.1 (.string { data := #[1, 2, 2, 120, 121, 0] })) x111.2)) fun x112 =>
    bnd (pickV x108 x112.1 (.bool false)) fun x113 =>
    bnd (gd (some x113) true x112.2 (pBuildSlice Try.prog 22 3 #[(0, (.string { data := #[98] })), (1, (.string { data := #[97] })), (2, (.string { data := #[98] }))] x112.2)) fun x115 =>
    bnd (gd (some x113) true x115.2 (inv (.func 10) #[] #[x115.1] x115.2)) fun x116 =>
    bnd (gd (some x113) true x116.2 (pBuildSlice Try.prog 22 2 #[(0, (.string { data := #[97] })), (1, (.string { data := #[98] }))] x116.2)) fun x117 =>
    bnd (gd (some x113) true x117.2 (inv (.func 14) #[] #[x116.1, x117.1] x117.2)) fun x118 =>
    bnd (pickV x113 x118.1 (.bool false)) fun x119 =>
    bnd (gd (some x119) true x118.2 (inv (.func 10) #[] #[(.slice none 0 0)] x118.2)) fun x121 =>
    bnd (gd (some x119) true x121.2 (lt (pLen Try.prog #[22] x121.1 x121.2) x121.2)) fun x122 =>
    bnd (gd (some x119) true x122.2 (lt (pBin Try.prog .eql 3 (.tmp 122) (.const (.int .i64 0)) x122.1 (.int .i64 0)) x122.2)) fun x123 =>
    bnd (pickV x119 x123.1 (.bool false)) fun x124 =>
    K (x124) x123.2
theorem r5_12  : kCode env 5 false inv k (cp c5 8190) (act 125 [(1, x1), (3, x3), (5, x5), (6, x6), (8, x8), (10, x10), (12, x12), (14, x14), (16, x16), (17, x17), (18, x18)]) h K =
    G5_12 inv x1 x3 x5 x6 x8 x10 x12 x14 x16 x17 x18 h fun y0 h => K .normal (act 125 [(0, y0)]) h := kq_reg
/-- shadowbook/shadowbooklaw07.TextsNames -/
noncomputable def F5 (inv : Inv) (k : Nat) (h : AH) : Option (Value × AH) :=
    bnd (inv (.func 8) #[] #[] h) fun x19 =>
    bnd (pUn Try.prog .not x19.1) fun x20 =>
    brV x20
    (some ((.bool false), x19.2))
    (bnd (inv (.func 16) #[] #[(.slice none 0 0)] x19.2) fun x22 =>
    bnd (pExtract x22.1 0) fun x23 =>
    bnd (pExtract x22.1 1) fun x24 =>
    bnd (pBuildSlice Try.prog 22 4 #[(0, (.string { data := #[98] })), (1, (.string { data := #[97] })), (2, (.string { data := #[98] })), (3, (.string { data := #[] }))] x22.2) fun x26 =>
    bnd (inv (.func 17) #[] #[x26.1] x26.2) fun x27 =>
    bnd (pExtract x27.1 0) fun x28 =>
    bnd (pExtract x27.1 1) fun x29 =>
    bnd (inv (.func 18) #[] #[x28] x27.2) fun x32 =>
    bnd (pExtract x32.1 0) fun x33 =>
    bnd (pExtract x32.1 1) fun x34 =>
    bnd (pBuildSlice Try.prog 30 2 #[(0, (.int .u8 3)), (1, (.int .u8 0))] x32.2) fun x36 =>
    bnd (inv (.func 18) #[] #[x36.1] x36.2) fun x37 =>
    bnd (pExtract x37.1 0) fun x38 =>
    bnd (pExtract x37.1 1) fun x39 =>
    bnd (pMakeSlice Try.prog 22 (.int .i64 4097) (.int .i64 4097) x37.2) fun x41 =>
    bnd (inv (.func 16) #[] #[x41.1] x41.2) fun x42 =>
    bnd (pExtract x42.1 0) fun x43 =>
    bnd (pExtract x42.1 1) fun x44 =>
    bnd (inv (.func 19) #[] #[(.string { data := #[97] }), (.int .i64 65537)] x42.2) fun x46 =>
    bnd (pBuildSlice Try.prog 22 1 #[(0, x46.1)] x46.2) fun x47 =>
    bnd (inv (.func 16) #[] #[x47.1] x47.2) fun x48 =>
    bnd (pExtract x48.1 0) fun x49 =>
    bnd (pExtract x48.1 1) fun x50 =>
    G5_9 inv x23 x28 x33 x34 x39 x44 x50 x48.2 fun y14 h =>
    G5_10 inv x23 x28 x33 x34 x39 x44 x50 y14 h fun y16 h_1 =>
    bnd (pBuildSlice Try.prog 22 2 #[(0, (.string { data := #[120, 121] })), (1, (.string { data := #[] }))] h_1) fun x64 =>
    bnd (inv (.func 15) #[] #[x64.1] x64.2) fun x65 =>
    bnd (pExtract x65.1 0) fun x66 =>
    bnd (pExtract x65.1 1) fun x67 =>
    G5_12 inv x23 x28 x33 x34 x39 x44 x50 y14 y16 x66 x67 x65.2 fun y0 h_2 =>
    some (y0, h_2))
theorem F5_eq : eFun env k inv 5 #[] h = F5 inv k  h := by
      refine (kq_fun (a := act 125 []) (c := cp c5 1)).trans ?_
      unfold F5
      simp only [kq_seq c5 1, r5_0, kq_seq c5 3, kq_seq c5 6, r5_1, b5_rlr, kq_seq c5 26, r5_2, kq_ret c5 53, res5_0, kq_skip c5 27, kq_seq c5 7, r5_3, kq_seq c5 15, r5_4, kq_seq c5 31, r5_5, kq_seq c5 63, r5_6, kq_seq c5 127, r5_7, kq_seq c5 255, r5_8, kq_seq c5 511, r5_9, kq_seq c5 1023, r5_10, kq_seq c5 2047, r5_11, kq_seq c5 4095, r5_12, kq_ret c5 8191, reduceIte, reduceCtorEq, XE.exit.injEq, Nat.reduceEqDiff, Nat.reduceMul, Nat.reduceAdd] <;> kernel_rfl
theorem F5_call : eInv env (k + 1) (.func 5) #[] #[] h = F5 (eInv env k) k  h := kq_inv F5_eq
noncomputable def c8 : Code := codeOf Try.prog 8
theorem r8_0  : kCode env 8 false inv k (cp c8 2) (act 15 []) h K =
    K .normal (act 15 []) h := kq_reg
theorem r8_1  : kCode env 8 false inv k (cp c8 6) (act 15 []) h K =
    bnd (pBuildSlice Try.prog 22 6 #[(0, (.string { data := #[97] })), (1, (.string { data := #[97] })), (2, (.string { data := #[97] })), (3, (.string { data := #[97] })), (4, (.string { data := #[97] })), (5, (.string { data := #[97] }))] h) fun x4 =>
    bnd (inv (.func 16) #[] #[x4.1] x4.2) fun x5 =>
    bnd (pExtract x5.1 0) fun x6 =>
    bnd (pExtract x5.1 1) fun x7 =>
    K .normal (act 15 [(1, x6), (2, x7)]) x5.2 := kq_reg
noncomputable abbrev G8_2 {β : Type} (inv : Inv) (x1 x2 : Value) (h : AH) (K : Value → AH → Option β) : Option β :=
    bnd (pBin Try.prog .eql 31 (.tmp 8) (.const (.int .i64 0)) x2 (.int .i64 0)) fun x9 =>
    bnd (gd (some x9) true h (some (x1, h))) fun x11 =>
    bnd (gd (some x9) true x11.2 (lt (pConv Try.prog 30 9 x11.1 x11.2) x11.2)) fun x12 =>
    bnd (gd (some x9) true x12.2 (lt (pBin Try.prog .eql 9 (.tmp 12) (.const (.string { data := #[2, 6, 1, 1, 97, 0] })) x12.1 (.string { data := #[2, 6, 1, 1, 97, 0] })) x12.2)) fun x13 =>
    bnd (pickV x9 x13.1 (.bool false)) fun x14 =>
    K (x14) x13.2
theorem r8_2  : kCode env 8 false inv k (cp c8 14) (act 15 [(1, x1), (2, x2)]) h K =
    G8_2 inv x1 x2 h fun y0 h => K .normal (act 15 [(0, y0)]) h := kq_reg
theorem res8_0 : resOfFn env.P 8 .ret (act 15 [(0, x0)]) h = some (x0, h) := kq_res
/-- shadowbook/shadowbooklaw07.lives -/
noncomputable def F8 (inv : Inv) (k : Nat) (h : AH) : Option (Value × AH) :=
    bnd (pBuildSlice Try.prog 22 6 #[(0, (.string { data := #[97] })), (1, (.string { data := #[97] })), (2, (.string { data := #[97] })), (3, (.string { data := #[97] })), (4, (.string { data := #[97] })), (5, (.string { data := #[97] }))] h) fun x4 =>
    bnd (inv (.func 16) #[] #[x4.1] x4.2) fun x5 =>
    bnd (pExtract x5.1 0) fun x6 =>
    bnd (pExtract x5.1 1) fun x7 =>
    G8_2 inv x6 x7 x5.2 fun y0 h =>
    some (y0, h)
theorem F8_eq : eFun env k inv 8 #[] h = F8 inv k  h := by
      refine (kq_fun (a := act 15 []) (c := cp c8 1)).trans ?_
      unfold F8
      simp only [kq_seq c8 1, r8_0, kq_seq c8 3, r8_1, kq_seq c8 7, r8_2, kq_ret c8 15, res8_0, reduceIte, reduceCtorEq, XE.exit.injEq, Nat.reduceEqDiff, Nat.reduceMul, Nat.reduceAdd] <;> kernel_rfl
theorem F8_call : eInv env (k + 1) (.func 8) #[] #[] h = F8 (eInv env k) k  h := kq_inv F8_eq
noncomputable def c10 : Code := codeOf Try.prog 10
theorem r10_0  : kCode env 10 false inv k (cp c10 2) (act 20 [(0, x0)]) h K =
    K .normal (act 20 [(0, x0)]) h := kq_reg
theorem r10_1  : kCode env 10 false inv k (cp c10 6) (act 20 [(0, x0)]) h K =
    bnd (pMakeMap Try.prog 40 none h) fun x6 =>
    K .normal (act 20 [(0, x0), (3, x6.1)]) x6.2 := kq_reg
theorem r10_2  : kCode env 10 false inv k (cp c10 28) (act 20 [(0, x0), (3, x3)]) h K =
    bnd (pLen Try.prog #[22] x0 h) fun x8 =>
    K .normal (act 20 [(3, x3), (7, x0), (8, x8), (9, (.int .i64 0))]) h := kq_reg
theorem r10_3  : kCode env 10 false inv k (cp c10 232) (act 20 [(3, x3), (7, x7), (8, x8), (9, x9)]) h K =
    bnd (pBin Try.prog .lss 3 (.tmp 9) (.tmp 8) x9 x8) fun x10 =>
    K .normal (act 20 [(3, x3), (7, x7), (8, x8), (9, x9), (10, x10)]) h := kq_reg
theorem b10_lrllrlrr  : kCode env 10 false inv k (cp c10 466) (act 20 [(3, x3), (7, x7), (8, x8), (9, x9), (10, x10)]) h K = brV x10 (kCode env 10 false inv k (cp c10 932) (act 20 [(3, x3), (7, x7), (8, x8), (9, x9), (10, x10)]) h K) (kCode env 10 false inv k (cp c10 933) (act 20 [(3, x3), (7, x7), (8, x8), (9, x9), (10, x10)]) h K) := kq_cond
theorem r10_4  : kCode env 10 false inv k (cp c10 3736) (act 20 [(3, x3), (7, x7), (8, x8), (9, x9), (10, x10)]) h K =
    bnd (pIndexAddr Try.prog 22 x7 x9) fun x11 =>
    bnd (pLoad Try.prog 9 x11 h) fun x12 =>
    K .normal (act 20 [(3, x3), (5, x12), (7, x7), (8, x8), (9, x9)]) h := kq_reg
theorem r10_5  : kCode env 10 false inv k (cp c10 3737) (act 20 [(3, x3), (5, x5), (7, x7), (8, x8), (9, x9)]) h K =
    bnd (pBuild Try.prog 41 #[]) fun x15 =>
    bnd (kSt (pUpdate Try.prog 40 x3 x5 x15 h)) fun u =>
    K .normal (act 20 [(3, x3), (7, x7), (8, x8), (9, x9)]) u.2 := kq_reg
theorem r10_6  : kCode env 10 false inv k (cp c10 935) (act 20 [(3, x3), (7, x7), (8, x8), (9, x9)]) h K =
    bnd (pBin Try.prog .add 3 (.tmp 9) (.const (.int .i64 1)) x9 (.int .i64 1)) fun x16 =>
    K .normal (act 20 [(3, x3), (7, x7), (8, x8), (9, x16)]) h := kq_reg
noncomputable def F10_lrlrr {β : Type} (inv : Inv) (k : Nat) : Nat → Value → Value → Value → Value → AH → (Value → Value → Value → Value → Value → AH → Option β) → Option β
  | 0, _, _, _, _, _, _ => none
  | j + 1, x3, x7, x8, x9, h, ke0 =>
    bnd (pBin Try.prog .lss 3 (.tmp 9) (.tmp 8) x9 x8) fun x10 =>
    brV x10
    (bnd (pIndexAddr Try.prog 22 x7 x9) fun x11 =>
    bnd (pLoad Try.prog 9 x11 h) fun x12 =>
    bnd (pBuild Try.prog 41 #[]) fun x15 =>
    bnd (kSt (pUpdate Try.prog 40 x3 x12 x15 h)) fun u =>
    bnd (pBin Try.prog .add 3 (.tmp 9) (.const (.int .i64 1)) x9 (.int .i64 1)) fun x16 =>
    F10_lrlrr inv k j x3 x7 x8 x16 u.2 ke0)
    (ke0 x3 x7 x8 x9 x10 h)
theorem F10_lrlrr_j (j : Nat) : kLoop (kCode env 10 false inv k (cp c10 116)) j (act 20 [(3, x3), (7, x7), (8, x8), (9, x9)]) h K = F10_lrlrr inv k j x3 x7 x8 x9 h (fun y3 y7 y8 y9 y10 h => K (.exit 0) (act 20 [(3, y3), (7, y7), (8, y8), (9, y9), (10, y10)]) h) := by
      induction j generalizing x3 x7 x8 x9 h with
      | zero => rfl
      | succ j ih =>
        unfold F10_lrlrr
        simp only [kLoop, kq_seq c10 116, r10_3, kq_seq c10 233, b10_lrllrlrr, kq_skip c10 932, kq_seq c10 467, kq_block c10 934 1, kq_seq c10 1868, r10_4, r10_5, r10_6, kq_exit c10 933 0, ih, reduceIte, reduceCtorEq, XE.exit.injEq, Nat.reduceEqDiff, Nat.reduceMul, Nat.reduceAdd] <;> kernel_rfl
theorem F10_lrlrr_eq  : kCode env 10 false inv k (cp c10 58) (act 20 [(3, x3), (7, x7), (8, x8), (9, x9)]) h K = F10_lrlrr inv k k x3 x7 x8 x9 h (fun y3 y7 y8 y9 y10 h => K (.exit 0) (act 20 [(3, y3), (7, y7), (8, y8), (9, y9), (10, y10)]) h) := kq_loop (F10_lrlrr_j k)
theorem r10_7  : kCode env 10 false inv k (cp c10 30) (act 20 [(3, x3), (7, x7), (8, x8), (9, x9), (10, x10)]) h K =
    bnd (inv (.func 28) #[] #[x3] h) fun x18 =>
    bnd (inv (.func 27) #[] #[x18.1] x18.2) fun x19 =>
    K .normal (act 20 [(2, x19.1)]) x19.2 := kq_reg
theorem res10_0 : resOfFn env.P 10 .ret (act 20 [(2, x2)]) h = some (x2, h) := kq_res
/-- shadowbook/texts.Words -/
noncomputable def F10 (inv : Inv) (k : Nat) (x0 : Value) (h : AH) : Option (Value × AH) :=
    bnd (pMakeMap Try.prog 40 none h) fun x6 =>
    bnd (pLen Try.prog #[22] x0 x6.2) fun x8 =>
    F10_lrlrr inv k k x6.1 x0 x8 (.int .i64 0) x6.2
    (fun y3 y7 y8 y9 y10 h =>
    bnd (inv (.func 28) #[] #[y3] h) fun x18 =>
    bnd (inv (.func 27) #[] #[x18.1] x18.2) fun x19 =>
    some (x19.1, x19.2))
theorem F10_eq : eFun env k inv 10 #[x0] h = F10 inv k x0 h := by
      refine (kq_fun (a := act 20 [(0, x0)]) (c := cp c10 1)).trans ?_
      unfold F10
      simp only [kq_seq c10 1, r10_0, kq_seq c10 3, r10_1, kq_seq c10 7, kq_seq c10 14, r10_2, kq_block c10 29 0, F10_lrlrr_eq, kq_seq c10 15, r10_7, kq_ret c10 31, res10_0, reduceIte, reduceCtorEq, XE.exit.injEq, Nat.reduceEqDiff, Nat.reduceMul, Nat.reduceAdd] <;> kernel_rfl
theorem F10_call : eInv env (k + 1) (.func 10) #[] #[x0] h = F10 (eInv env k) k x0 h := kq_inv F10_eq
noncomputable def c14 : Code := codeOf Try.prog 14
theorem r14_0  : kCode env 14 false inv k (cp c14 2) (act 26 [(0, x0), (1, x1)]) h K =
    K .normal (act 26 [(0, x0), (1, x1)]) h := kq_reg
theorem r14_1  : kCode env 14 false inv k (cp c14 12) (act 26 [(0, x0), (1, x1)]) h K =
    bnd (pLen Try.prog #[22] x0 h) fun x7 =>
    bnd (pLen Try.prog #[22] x1 h) fun x9 =>
    bnd (pBin Try.prog .neq 3 (.tmp 7) (.tmp 9) x7 x9) fun x10 =>
    K .normal (act 26 [(0, x0), (1, x1), (10, x10)]) h := kq_reg
theorem b14_rlr  : kCode env 14 false inv k (cp c14 13) (act 26 [(0, x0), (1, x1), (10, x10)]) h K = brV x10 (kCode env 14 false inv k (cp c14 26) (act 26 [(0, x0), (1, x1), (10, x10)]) h K) (kCode env 14 false inv k (cp c14 27) (act 26 [(0, x0), (1, x1), (10, x10)]) h K) := kq_cond
theorem r14_2  : kCode env 14 false inv k (cp c14 52) (act 26 [(0, x0), (1, x1), (10, x10)]) h K =
    K .normal (act 26 [(4, (.bool false))]) h := kq_reg
theorem res14_0 : resOfFn env.P 14 .ret (act 26 [(4, x4)]) h = some (x4, h) := kq_res
theorem r14_3  : kCode env 14 false inv k (cp c14 28) (act 26 [(0, x0), (1, x1), (10, x10)]) h K =
    K .normal (act 26 [(0, x0), (1, x1), (5, (.int .i64 0))]) h := kq_reg
theorem r14_4  : kCode env 14 false inv k (cp c14 464) (act 26 [(0, x0), (1, x1), (5, x5)]) h K =
    bnd (pLen Try.prog #[22] x0 h) fun x13 =>
    bnd (pBin Try.prog .lss 3 (.tmp 11) (.tmp 13) x5 x13) fun x14 =>
    K .normal (act 26 [(0, x0), (1, x1), (5, x5), (14, x14)]) h := kq_reg
theorem b14_rlllrlrr  : kCode env 14 false inv k (cp c14 465) (act 26 [(0, x0), (1, x1), (5, x5), (14, x14)]) h K = brV x14 (kCode env 14 false inv k (cp c14 930) (act 26 [(0, x0), (1, x1), (5, x5), (14, x14)]) h K) (kCode env 14 false inv k (cp c14 931) (act 26 [(0, x0), (1, x1), (5, x5), (14, x14)]) h K) := kq_cond
theorem r14_6  : kCode env 14 false inv k (cp c14 1864) (act 26 [(0, x0), (1, x1), (5, x5), (14, x14)]) h K =
    bnd (pIndexAddr Try.prog 22 x0 x5) fun x19 =>
    bnd (pLoad Try.prog 9 x19 h) fun x20 =>
    bnd (pIndexAddr Try.prog 22 x1 x5) fun x23 =>
    bnd (pLoad Try.prog 9 x23 h) fun x24 =>
    bnd (pBin Try.prog .neq 9 (.tmp 20) (.tmp 24) x20 x24) fun x25 =>
    K .normal (act 26 [(0, x0), (1, x1), (5, x5), (25, x25)]) h := kq_draw
theorem b14_rllrllrlrr  : kCode env 14 false inv k (cp c14 1865) (act 26 [(0, x0), (1, x1), (5, x5), (25, x25)]) h K = brV x25 (kCode env 14 false inv k (cp c14 3730) (act 26 [(0, x0), (1, x1), (5, x5), (25, x25)]) h K) (kCode env 14 false inv k (cp c14 3731) (act 26 [(0, x0), (1, x1), (5, x5), (25, x25)]) h K) := kq_cond
theorem r14_7  : kCode env 14 false inv k (cp c14 7460) (act 26 [(0, x0), (1, x1), (5, x5), (25, x25)]) h K =
    K .normal (act 26 [(4, (.bool false))]) h := kq_reg
theorem r14_5  : kCode env 14 false inv k (cp c14 467) (act 26 [(0, x0), (1, x1), (5, x5), (25, x25)]) h K =
    bnd (pBin Try.prog .add 3 (.tmp 15) (.const (.int .i64 1)) x5 (.int .i64 1)) fun x16 =>
    K .normal (act 26 [(0, x0), (1, x1), (5, x16)]) h := kq_reg
noncomputable def F14_lrlrr {β : Type} (inv : Inv) (k : Nat) : Nat → Value → Value → Value → AH → (Value → Value → Value → Value → AH → Option β) → (Value → AH → Option β) → Option β
  | 0, _, _, _, _, _, _ => none
  | j + 1, x0, x1, x5, h, ke0, kr =>
    bnd (pLen Try.prog #[22] x0 h) fun x13 =>
    bnd (pBin Try.prog .lss 3 (.tmp 11) (.tmp 13) x5 x13) fun x14 =>
    brV x14
    (bnd (pIndexAddr Try.prog 22 x0 x5) fun x19 =>
    bnd (pLoad Try.prog 9 x19 h) fun x20 =>
    bnd (pIndexAddr Try.prog 22 x1 x5) fun x23 =>
    bnd (pLoad Try.prog 9 x23 h) fun x24 =>
    bnd (pBin Try.prog .neq 9 (.tmp 20) (.tmp 24) x20 x24) fun x25 =>
    brV x25
    (kr (.bool false) h)
    (bnd (pBin Try.prog .add 3 (.tmp 15) (.const (.int .i64 1)) x5 (.int .i64 1)) fun x16 =>
    F14_lrlrr inv k j x0 x1 x16 h ke0 kr))
    (ke0 x0 x1 x5 x14 h)
theorem F14_lrlrr_j (j : Nat) : kLoop (kCode env 14 false inv k (cp c14 116)) j (act 26 [(0, x0), (1, x1), (5, x5)]) h K = F14_lrlrr inv k j x0 x1 x5 h (fun y0 y1 y5 y14 h => K (.exit 0) (act 26 [(0, y0), (1, y1), (5, y5), (14, y14)]) h) (fun y4 h => K .ret (act 26 [(4, y4)]) h) := by
      induction j generalizing x0 x1 x5 h with
      | zero => rfl
      | succ j ih =>
        unfold F14_lrlrr
        simp only [kLoop, kq_seq c14 116, kq_seq c14 232, r14_4, b14_rlllrlrr, kq_skip c14 930, kq_seq c14 233, kq_block c14 466 1, kq_seq c14 932, r14_6, b14_rllrllrlrr, kq_seq c14 3730, r14_7, kq_ret c14 7461, kq_skip c14 3731, r14_5, kq_exit c14 931 0, ih, reduceIte, reduceCtorEq, XE.exit.injEq, Nat.reduceEqDiff, Nat.reduceMul, Nat.reduceAdd] <;> kernel_rfl
theorem F14_lrlrr_eq  : kCode env 14 false inv k (cp c14 58) (act 26 [(0, x0), (1, x1), (5, x5)]) h K = F14_lrlrr inv k k x0 x1 x5 h (fun y0 y1 y5 y14 h => K (.exit 0) (act 26 [(0, y0), (1, y1), (5, y5), (14, y14)]) h) (fun y4 h => K .ret (act 26 [(4, y4)]) h) := kq_loop (F14_lrlrr_j k)
theorem r14_8  : kCode env 14 false inv k (cp c14 30) (act 26 [(0, x0), (1, x1), (5, x5), (14, x14)]) h K =
    K .normal (act 26 [(4, (.bool true))]) h := kq_reg
/-- shadowbook/shadowbookkit.Same[string] -/
noncomputable def F14 (inv : Inv) (k : Nat) (x0 x1 : Value) (h : AH) : Option (Value × AH) :=
    bnd (pLen Try.prog #[22] x0 h) fun x7 =>
    bnd (pLen Try.prog #[22] x1 h) fun x9 =>
    bnd (pBin Try.prog .neq 3 (.tmp 7) (.tmp 9) x7 x9) fun x10 =>
    brV x10
    (some ((.bool false), h))
    (F14_lrlrr inv k k x0 x1 (.int .i64 0) h
    (fun y0 y1 y5 y14 h =>
    some ((.bool true), h))
    (fun y4 h_1 =>
    some (y4, h_1)))
theorem F14_eq : eFun env k inv 14 #[x0, x1] h = F14 inv k x0 x1 h := by
      refine (kq_fun (a := act 26 [(0, x0), (1, x1)]) (c := cp c14 1)).trans ?_
      unfold F14
      simp only [kq_seq c14 1, r14_0, kq_seq c14 3, kq_seq c14 6, r14_1, b14_rlr, kq_seq c14 26, r14_2, kq_ret c14 53, res14_0, kq_skip c14 27, kq_seq c14 7, kq_seq c14 14, r14_3, kq_block c14 29 0, F14_lrlrr_eq, kq_seq c14 15, r14_8, kq_ret c14 31, reduceIte, reduceCtorEq, XE.exit.injEq, Nat.reduceEqDiff, Nat.reduceMul, Nat.reduceAdd] <;> kernel_rfl
theorem F14_call : eInv env (k + 1) (.func 14) #[] #[x0, x1] h = F14 (eInv env k) k x0 x1 h := kq_inv F14_eq
noncomputable def c15 : Code := codeOf Try.prog 15
theorem r15_0  : kCode env 15 false inv k (cp c15 2) (act 29 [(0, x0)]) h K =
    K .normal (act 29 [(0, x0)]) h := kq_reg
theorem r15_1  : kCode env 15 false inv k (cp c15 12) (act 29 [(0, x0)]) h K =
    bnd (inv (.func 29) #[] #[x0] h) fun x9 =>
    K .normal (act 29 [(0, x0), (4, x9.1)]) x9.2 := kq_reg
theorem r15_2  : kCode env 15 false inv k (cp c15 26) (act 29 [(0, x0), (4, x4)]) h K =
    bnd (pBin Try.prog .neq 31 (.tmp 10) (.const (.int .i64 0)) x4 (.int .i64 0)) fun x11 =>
    K .normal (act 29 [(0, x0), (4, x4), (11, x11)]) h := kq_reg
theorem b15_rrlr  : kCode env 15 false inv k (cp c15 27) (act 29 [(0, x0), (4, x4), (11, x11)]) h K = brV x11 (kCode env 15 false inv k (cp c15 54) (act 29 [(0, x0), (4, x4), (11, x11)]) h K) (kCode env 15 false inv k (cp c15 55) (act 29 [(0, x0), (4, x4), (11, x11)]) h K) := kq_cond
theorem r15_3  : kCode env 15 false inv k (cp c15 108) (act 29 [(0, x0), (4, x4), (11, x11)]) h K =
    K .normal (act 29 [(2, (.slice none 0 0)), (3, x4)]) h := kq_reg
theorem res15_0 : resOfFn env.P 15 .ret (act 29 [(2, x2), (3, x3)]) h = some (.tuple #[x2, x3], h) := kq_res
theorem r15_4  : kCode env 15 false inv k (cp c15 14) (act 29 [(0, x0), (4, x4), (11, x11)]) h K =
    bnd (pBuildSlice Try.prog 30 1 #[(0, (.int .u8 1))] h) fun x13 =>
    bnd (pLen Try.prog #[22] x0 x13.2) fun x15 =>
    bnd (pConv Try.prog 3 48 x15 x13.2) fun x16 =>
    bnd (inv (.func 30) #[] #[x13.1, x16] x13.2) fun x17 =>
    K .normal (act 29 [(0, x0), (5, x17.1)]) x17.2 := kq_reg
theorem r15_5  : kCode env 15 false inv k (cp c15 60) (act 29 [(0, x0), (5, x5)]) h K =
    bnd (pLen Try.prog #[22] x0 h) fun x19 =>
    K .normal (act 29 [(5, x5), (18, x0), (19, x19), (20, (.int .i64 0))]) h := kq_reg
theorem r15_6  : kCode env 15 false inv k (cp c15 488) (act 29 [(5, x5), (18, x18), (19, x19), (20, x20)]) h K =
    bnd (pBin Try.prog .lss 3 (.tmp 20) (.tmp 19) x20 x19) fun x21 =>
    K .normal (act 29 [(5, x5), (18, x18), (19, x19), (20, x20), (21, x21)]) h := kq_reg
theorem b15_lrllrlrrr  : kCode env 15 false inv k (cp c15 978) (act 29 [(5, x5), (18, x18), (19, x19), (20, x20), (21, x21)]) h K = brV x21 (kCode env 15 false inv k (cp c15 1956) (act 29 [(5, x5), (18, x18), (19, x19), (20, x20), (21, x21)]) h K) (kCode env 15 false inv k (cp c15 1957) (act 29 [(5, x5), (18, x18), (19, x19), (20, x20), (21, x21)]) h K) := kq_cond
theorem r15_7  : kCode env 15 false inv k (cp c15 7832) (act 29 [(5, x5), (18, x18), (19, x19), (20, x20), (21, x21)]) h K =
    bnd (pIndexAddr Try.prog 22 x18 x20) fun x22 =>
    bnd (pLoad Try.prog 9 x22 h) fun x23 =>
    K .normal (act 29 [(5, x5), (7, x23), (18, x18), (19, x19), (20, x20)]) h := kq_reg
theorem r15_8  : kCode env 15 false inv k (cp c15 7833) (act 29 [(5, x5), (7, x7), (18, x18), (19, x19), (20, x20)]) h K =
    bnd (inv (.func 31) #[] #[x5, x7] h) fun x26 =>
    K .normal (act 29 [(5, x26.1), (18, x18), (19, x19), (20, x20)]) x26.2 := kq_reg
theorem r15_9  : kCode env 15 false inv k (cp c15 1959) (act 29 [(5, x5), (18, x18), (19, x19), (20, x20)]) h K =
    bnd (pBin Try.prog .add 3 (.tmp 20) (.const (.int .i64 1)) x20 (.int .i64 1)) fun x27 =>
    K .normal (act 29 [(5, x5), (18, x18), (19, x19), (20, x27)]) h := kq_reg
noncomputable def F15_lrlrrr {β : Type} (inv : Inv) (k : Nat) : Nat → Value → Value → Value → Value → AH → (Value → Value → Value → Value → Value → AH → Option β) → Option β
  | 0, _, _, _, _, _, _ => none
  | j + 1, x5, x18, x19, x20, h, ke0 =>
    bnd (pBin Try.prog .lss 3 (.tmp 20) (.tmp 19) x20 x19) fun x21 =>
    brV x21
    (bnd (pIndexAddr Try.prog 22 x18 x20) fun x22 =>
    bnd (pLoad Try.prog 9 x22 h) fun x23 =>
    bnd (inv (.func 31) #[] #[x5, x23] h) fun x26 =>
    bnd (pBin Try.prog .add 3 (.tmp 20) (.const (.int .i64 1)) x20 (.int .i64 1)) fun x27 =>
    F15_lrlrrr inv k j x26.1 x18 x19 x27 x26.2 ke0)
    (ke0 x5 x18 x19 x20 x21 h)
theorem F15_lrlrrr_j (j : Nat) : kLoop (kCode env 15 false inv k (cp c15 244)) j (act 29 [(5, x5), (18, x18), (19, x19), (20, x20)]) h K = F15_lrlrrr inv k j x5 x18 x19 x20 h (fun y5 y18 y19 y20 y21 h => K (.exit 0) (act 29 [(5, y5), (18, y18), (19, y19), (20, y20), (21, y21)]) h) := by
      induction j generalizing x5 x18 x19 x20 h with
      | zero => rfl
      | succ j ih =>
        unfold F15_lrlrrr
        simp only [kLoop, kq_seq c15 244, r15_6, kq_seq c15 489, b15_lrllrlrrr, kq_skip c15 1956, kq_seq c15 979, kq_block c15 1958 1, kq_seq c15 3916, r15_7, r15_8, r15_9, kq_exit c15 1957 0, ih, reduceIte, reduceCtorEq, XE.exit.injEq, Nat.reduceEqDiff, Nat.reduceMul, Nat.reduceAdd] <;> kernel_rfl
theorem F15_lrlrrr_eq  : kCode env 15 false inv k (cp c15 122) (act 29 [(5, x5), (18, x18), (19, x19), (20, x20)]) h K = F15_lrlrrr inv k k x5 x18 x19 x20 h (fun y5 y18 y19 y20 y21 h => K (.exit 0) (act 29 [(5, y5), (18, y18), (19, y19), (20, y20), (21, y21)]) h) := kq_loop (F15_lrlrrr_j k)
theorem r15_10  : kCode env 15 false inv k (cp c15 62) (act 29 [(5, x5), (18, x18), (19, x19), (20, x20), (21, x21)]) h K =
    K .normal (act 29 [(2, x5), (3, (.int .i64 0))]) h := kq_reg
/-- shadowbook/texts.Plain -/
noncomputable def F15 (inv : Inv) (k : Nat) (x0 : Value) (h : AH) : Option (Value × AH) :=
    bnd (inv (.func 29) #[] #[x0] h) fun x9 =>
    bnd (pBin Try.prog .neq 31 (.tmp 10) (.const (.int .i64 0)) x9.1 (.int .i64 0)) fun x11 =>
    brV x11
    (some (.tuple #[(.slice none 0 0), x9.1], x9.2))
    (bnd (pBuildSlice Try.prog 30 1 #[(0, (.int .u8 1))] x9.2) fun x13 =>
    bnd (pLen Try.prog #[22] x0 x13.2) fun x15 =>
    bnd (pConv Try.prog 3 48 x15 x13.2) fun x16 =>
    bnd (inv (.func 30) #[] #[x13.1, x16] x13.2) fun x17 =>
    bnd (pLen Try.prog #[22] x0 x17.2) fun x19 =>
    F15_lrlrrr inv k k x17.1 x0 x19 (.int .i64 0) x17.2
    (fun y5 y18 y19 y20 y21 h =>
    some (.tuple #[y5, (.int .i64 0)], h)))
theorem F15_eq : eFun env k inv 15 #[x0] h = F15 inv k x0 h := by
      refine (kq_fun (a := act 29 [(0, x0)]) (c := cp c15 1)).trans ?_
      unfold F15
      simp only [kq_seq c15 1, r15_0, kq_seq c15 3, kq_seq c15 6, r15_1, kq_seq c15 13, r15_2, b15_rrlr, kq_seq c15 54, r15_3, kq_ret c15 109, res15_0, kq_skip c15 55, kq_seq c15 7, r15_4, kq_seq c15 15, kq_seq c15 30, r15_5, kq_block c15 61 0, F15_lrlrrr_eq, kq_seq c15 31, r15_10, kq_ret c15 63, reduceIte, reduceCtorEq, XE.exit.injEq, Nat.reduceEqDiff, Nat.reduceMul, Nat.reduceAdd] <;> kernel_rfl
theorem F15_call : eInv env (k + 1) (.func 15) #[] #[x0] h = F15 (eInv env k) k x0 h := kq_inv F15_eq
noncomputable def c16 : Code := codeOf Try.prog 16
theorem r16_0  : kCode env 16 false inv k (cp c16 2) (act 32 [(0, x0)]) h K =
    K .normal (act 32 [(0, x0)]) h := kq_reg
theorem r16_1  : kCode env 16 false inv k (cp c16 6) (act 32 [(0, x0)]) h K =
    bnd (inv (.func 15) #[] #[x0] h) fun x10 =>
    bnd (pExtract x10.1 0) fun x11 =>
    bnd (pExtract x10.1 1) fun x12 =>
    K .normal (act 32 [(0, x0), (4, x11), (5, x12)]) x10.2 := kq_reg
theorem r16_2  : kCode env 16 false inv k (cp c16 28) (act 32 [(0, x0), (4, x4), (5, x5)]) h K =
    bnd (pBin Try.prog .neq 31 (.tmp 13) (.const (.int .i64 0)) x5 (.int .i64 0)) fun x14 =>
    K .normal (act 32 [(0, x0), (4, x4), (5, x5), (14, x14)]) h := kq_reg
theorem b16_rlrr  : kCode env 16 false inv k (cp c16 29) (act 32 [(0, x0), (4, x4), (5, x5), (14, x14)]) h K = brV x14 (kCode env 16 false inv k (cp c16 58) (act 32 [(0, x0), (4, x4), (5, x5), (14, x14)]) h K) (kCode env 16 false inv k (cp c16 59) (act 32 [(0, x0), (4, x4), (5, x5), (14, x14)]) h K) := kq_cond
theorem r16_3  : kCode env 16 false inv k (cp c16 116) (act 32 [(0, x0), (4, x4), (5, x5), (14, x14)]) h K =
    K .normal (act 32 [(2, (.slice none 0 0)), (3, x5)]) h := kq_reg
theorem res16_0 : resOfFn env.P 16 .ret (act 32 [(2, x2), (3, x3)]) h = some (.tuple #[x2, x3], h) := kq_res
theorem r16_4  : kCode env 16 false inv k (cp c16 60) (act 32 [(0, x0), (4, x4), (5, x5), (14, x14)]) h K =
    bnd (inv (.func 17) #[] #[x0] h) fun x18 =>
    bnd (pExtract x18.1 0) fun x19 =>
    bnd (pExtract x18.1 1) fun x20 =>
    K .normal (act 32 [(4, x4), (6, x19), (7, x20)]) x18.2 := kq_reg
noncomputable abbrev G16_5 {β : Type} (inv : Inv) (x4 x6 x7 : Value) (h : AH) (K : Value → AH → Option β) : Option β :=
    bnd (pBin Try.prog .eql 31 (.tmp 21) (.const (.int .i64 0)) x7 (.int .i64 0)) fun x22 =>
    bnd (gd (some x22) true h (some (x6, h))) fun x24 =>
    bnd (gd (some x22) true x24.2 (lt (pLen Try.prog #[30] x24.1 x24.2) x24.2)) fun x25 =>
    bnd (gd (some x22) true x25.2 (some (x4, x25.2))) fun x26 =>
    bnd (gd (some x22) true x26.2 (lt (pLen Try.prog #[30] x26.1 x26.2) x26.2)) fun x27 =>
    bnd (gd (some x22) true x27.2 (lt (pBin Try.prog .lss 3 (.tmp 25) (.tmp 27) x25.1 x27.1) x27.2)) fun x28 =>
    bnd (pickV x22 x28.1 (.bool false)) fun x29 =>
    K (x29) x28.2
theorem r16_5  : kCode env 16 false inv k (cp c16 122) (act 32 [(4, x4), (6, x6), (7, x7)]) h K =
    G16_5 inv x4 x6 x7 h fun y29 h => K .normal (act 32 [(4, x4), (6, x6), (29, y29)]) h := kq_reg
theorem b16_rrlrrr  : kCode env 16 false inv k (cp c16 123) (act 32 [(4, x4), (6, x6), (29, x29)]) h K = brV x29 (kCode env 16 false inv k (cp c16 246) (act 32 [(4, x4), (6, x6), (29, x29)]) h K) (kCode env 16 false inv k (cp c16 247) (act 32 [(4, x4), (6, x6), (29, x29)]) h K) := kq_cond
theorem r16_6  : kCode env 16 false inv k (cp c16 492) (act 32 [(4, x4), (6, x6), (29, x29)]) h K =
    K .normal (act 32 [(2, x6), (3, (.int .i64 0))]) h := kq_reg
theorem r16_7  : kCode env 16 false inv k (cp c16 62) (act 32 [(4, x4), (6, x6), (29, x29)]) h K =
    K .normal (act 32 [(2, x4), (3, (.int .i64 0))]) h := kq_reg
/-- shadowbook/texts.Put -/
noncomputable def F16 (inv : Inv) (k : Nat) (x0 : Value) (h : AH) : Option (Value × AH) :=
    bnd (inv (.func 15) #[] #[x0] h) fun x10 =>
    bnd (pExtract x10.1 0) fun x11 =>
    bnd (pExtract x10.1 1) fun x12 =>
    bnd (pBin Try.prog .neq 31 (.tmp 13) (.const (.int .i64 0)) x12 (.int .i64 0)) fun x14 =>
    brV x14
    (some (.tuple #[(.slice none 0 0), x12], x10.2))
    (bnd (inv (.func 17) #[] #[x0] x10.2) fun x18 =>
    bnd (pExtract x18.1 0) fun x19 =>
    bnd (pExtract x18.1 1) fun x20 =>
    G16_5 inv x11 x19 x20 x18.2 fun y29 h =>
    brV y29
    (some (.tuple #[x19, (.int .i64 0)], h))
    (some (.tuple #[x11, (.int .i64 0)], h)))
theorem F16_eq : eFun env k inv 16 #[x0] h = F16 inv k x0 h := by
      refine (kq_fun (a := act 32 [(0, x0)]) (c := cp c16 1)).trans ?_
      unfold F16
      simp only [kq_seq c16 1, r16_0, kq_seq c16 3, r16_1, kq_seq c16 7, kq_seq c16 14, r16_2, b16_rlrr, kq_seq c16 58, r16_3, kq_ret c16 117, res16_0, kq_skip c16 59, kq_seq c16 15, kq_seq c16 30, r16_4, kq_seq c16 61, r16_5, b16_rrlrrr, kq_seq c16 246, r16_6, kq_ret c16 493, kq_skip c16 247, kq_seq c16 31, r16_7, kq_ret c16 63, reduceIte, reduceCtorEq, XE.exit.injEq, Nat.reduceEqDiff, Nat.reduceMul, Nat.reduceAdd] <;> kernel_rfl
theorem F16_call : eInv env (k + 1) (.func 16) #[] #[x0] h = F16 (eInv env k) k x0 h := kq_inv F16_eq
noncomputable def c17 : Code := codeOf Try.prog 17
theorem r17_0  : kCode env 17 false inv k (cp c17 2) (act 79 [(0, x0)]) h K =
    K .normal (act 79 [(0, x0)]) h := kq_reg
theorem r17_1  : kCode env 17 false inv k (cp c17 12) (act 79 [(0, x0)]) h K =
    bnd (inv (.func 29) #[] #[x0] h) fun x18 =>
    K .normal (act 79 [(0, x0), (4, x18.1)]) x18.2 := kq_reg
theorem r17_2  : kCode env 17 false inv k (cp c17 26) (act 79 [(0, x0), (4, x4)]) h K =
    bnd (pBin Try.prog .neq 31 (.tmp 19) (.const (.int .i64 0)) x4 (.int .i64 0)) fun x20 =>
    K .normal (act 79 [(0, x0), (4, x4), (20, x20)]) h := kq_reg
theorem b17_rrlr  : kCode env 17 false inv k (cp c17 27) (act 79 [(0, x0), (4, x4), (20, x20)]) h K = brV x20 (kCode env 17 false inv k (cp c17 54) (act 79 [(0, x0), (4, x4), (20, x20)]) h K) (kCode env 17 false inv k (cp c17 55) (act 79 [(0, x0), (4, x4), (20, x20)]) h K) := kq_cond
theorem r17_3  : kCode env 17 false inv k (cp c17 108) (act 79 [(0, x0), (4, x4), (20, x20)]) h K =
    K .normal (act 79 [(2, (.slice none 0 0)), (3, x4)]) h := kq_reg
theorem res17_0 : resOfFn env.P 17 .ret (act 79 [(2, x2), (3, x3)]) h = some (.tuple #[x2, x3], h) := kq_res
theorem r17_4  : kCode env 17 false inv k (cp c17 14) (act 79 [(0, x0), (4, x4), (20, x20)]) h K =
    bnd (inv (.func 10) #[] #[x0] h) fun x23 =>
    K .normal (act 79 [(0, x0), (5, x23.1)]) x23.2 := kq_reg
theorem r17_5  : kCode env 17 false inv k (cp c17 30) (act 79 [(0, x0), (5, x5)]) h K =
    bnd (pBuildSlice Try.prog 30 1 #[(0, (.int .u8 2))] h) fun x24 =>
    bnd (pLen Try.prog #[22] x0 x24.2) fun x26 =>
    bnd (pConv Try.prog 3 48 x26 x24.2) fun x27 =>
    bnd (inv (.func 30) #[] #[x24.1, x27] x24.2) fun x28 =>
    bnd (pLen Try.prog #[22] x5 x28.2) fun x30 =>
    bnd (pConv Try.prog 3 48 x30 x28.2) fun x31 =>
    bnd (inv (.func 30) #[] #[x28.1, x31] x28.2) fun x32 =>
    K .normal (act 79 [(0, x0), (5, x5), (6, x32.1)]) x32.2 := kq_reg
theorem r17_6  : kCode env 17 false inv k (cp c17 124) (act 79 [(0, x0), (5, x5), (6, x6)]) h K =
    bnd (pLen Try.prog #[22] x5 h) fun x34 =>
    K .normal (act 79 [(0, x0), (5, x5), (6, x6), (33, x5), (34, x34), (35, (.int .i64 0))]) h := kq_reg
theorem r17_7  : kCode env 17 false inv k (cp c17 1000) (act 79 [(0, x0), (5, x5), (6, x6), (33, x33), (34, x34), (35, x35)]) h K =
    bnd (pBin Try.prog .lss 3 (.tmp 35) (.tmp 34) x35 x34) fun x36 =>
    K .normal (act 79 [(0, x0), (5, x5), (6, x6), (33, x33), (34, x34), (35, x35), (36, x36)]) h := kq_reg
theorem b17_lrllrlrrrr  : kCode env 17 false inv k (cp c17 2002) (act 79 [(0, x0), (5, x5), (6, x6), (33, x33), (34, x34), (35, x35), (36, x36)]) h K = brV x36 (kCode env 17 false inv k (cp c17 4004) (act 79 [(0, x0), (5, x5), (6, x6), (33, x33), (34, x34), (35, x35), (36, x36)]) h K) (kCode env 17 false inv k (cp c17 4005) (act 79 [(0, x0), (5, x5), (6, x6), (33, x33), (34, x34), (35, x35), (36, x36)]) h K) := kq_cond
theorem r17_8  : kCode env 17 false inv k (cp c17 16024) (act 79 [(0, x0), (5, x5), (6, x6), (33, x33), (34, x34), (35, x35), (36, x36)]) h K =
    bnd (pIndexAddr Try.prog 22 x33 x35) fun x37 =>
    bnd (pLoad Try.prog 9 x37 h) fun x38 =>
    K .normal (act 79 [(0, x0), (5, x5), (6, x6), (8, x38), (33, x33), (34, x34), (35, x35)]) h := kq_reg
theorem r17_9  : kCode env 17 false inv k (cp c17 16025) (act 79 [(0, x0), (5, x5), (6, x6), (8, x8), (33, x33), (34, x34), (35, x35)]) h K =
    bnd (inv (.func 31) #[] #[x6, x8] h) fun x41 =>
    K .normal (act 79 [(0, x0), (5, x5), (6, x41.1), (33, x33), (34, x34), (35, x35)]) x41.2 := kq_reg
theorem r17_10  : kCode env 17 false inv k (cp c17 4007) (act 79 [(0, x0), (5, x5), (6, x6), (33, x33), (34, x34), (35, x35)]) h K =
    bnd (pBin Try.prog .add 3 (.tmp 35) (.const (.int .i64 1)) x35 (.int .i64 1)) fun x42 =>
    K .normal (act 79 [(0, x0), (5, x5), (6, x6), (33, x33), (34, x34), (35, x42)]) h := kq_reg
noncomputable def F17_lrlrrrr {β : Type} (inv : Inv) (k : Nat) : Nat → Value → Value → Value → Value → Value → Value → AH → (Value → Value → Value → Value → Value → Value → Value → AH → Option β) → Option β
  | 0, _, _, _, _, _, _, _, _ => none
  | j + 1, x0, x5, x6, x33, x34, x35, h, ke0 =>
    bnd (pBin Try.prog .lss 3 (.tmp 35) (.tmp 34) x35 x34) fun x36 =>
    brV x36
    (bnd (pIndexAddr Try.prog 22 x33 x35) fun x37 =>
    bnd (pLoad Try.prog 9 x37 h) fun x38 =>
    bnd (inv (.func 31) #[] #[x6, x38] h) fun x41 =>
    bnd (pBin Try.prog .add 3 (.tmp 35) (.const (.int .i64 1)) x35 (.int .i64 1)) fun x42 =>
    F17_lrlrrrr inv k j x0 x5 x41.1 x33 x34 x42 x41.2 ke0)
    (ke0 x0 x5 x6 x33 x34 x35 x36 h)
theorem F17_lrlrrrr_j (j : Nat) : kLoop (kCode env 17 false inv k (cp c17 500)) j (act 79 [(0, x0), (5, x5), (6, x6), (33, x33), (34, x34), (35, x35)]) h K = F17_lrlrrrr inv k j x0 x5 x6 x33 x34 x35 h (fun y0 y5 y6 y33 y34 y35 y36 h => K (.exit 0) (act 79 [(0, y0), (5, y5), (6, y6), (33, y33), (34, y34), (35, y35), (36, y36)]) h) := by
      induction j generalizing x0 x5 x6 x33 x34 x35 h with
      | zero => rfl
      | succ j ih =>
        unfold F17_lrlrrrr
        simp only [kLoop, kq_seq c17 500, r17_7, kq_seq c17 1001, b17_lrllrlrrrr, kq_skip c17 4004, kq_seq c17 2003, kq_block c17 4006 1, kq_seq c17 8012, r17_8, r17_9, r17_10, kq_exit c17 4005 0, ih, reduceIte, reduceCtorEq, XE.exit.injEq, Nat.reduceEqDiff, Nat.reduceMul, Nat.reduceAdd] <;> kernel_rfl
theorem F17_lrlrrrr_eq  : kCode env 17 false inv k (cp c17 250) (act 79 [(0, x0), (5, x5), (6, x6), (33, x33), (34, x34), (35, x35)]) h K = F17_lrlrrrr inv k k x0 x5 x6 x33 x34 x35 h (fun y0 y5 y6 y33 y34 y35 y36 h => K (.exit 0) (act 79 [(0, y0), (5, y5), (6, y6), (33, y33), (34, y34), (35, y35), (36, y36)]) h) := kq_loop (F17_lrlrrrr_j k)
theorem r17_11  : kCode env 17 false inv k (cp c17 126) (act 79 [(0, x0), (5, x5), (6, x6), (33, x33), (34, x34), (35, x35), (36, x36)]) h K =
    K .normal (act 79 [(0, x0), (5, x5), (6, x6), (9, (.slice none 0 0))]) h := kq_reg
theorem r17_12  : kCode env 17 false inv k (cp c17 508) (act 79 [(0, x0), (5, x5), (6, x6), (9, x9)]) h K =
    bnd (pLen Try.prog #[22] x0 h) fun x44 =>
    K .normal (act 79 [(5, x5), (6, x6), (9, x9), (43, x0), (44, x44), (45, (.int .i64 0))]) h := kq_reg
theorem r17_13  : kCode env 17 false inv k (cp c17 4072) (act 79 [(5, x5), (6, x6), (9, x9), (43, x43), (44, x44), (45, x45)]) h K =
    bnd (pBin Try.prog .lss 3 (.tmp 45) (.tmp 44) x45 x44) fun x46 =>
    K .normal (act 79 [(5, x5), (6, x6), (9, x9), (43, x43), (44, x44), (45, x45), (46, x46)]) h := kq_reg
theorem b17_lrllrlrrrrrr  : kCode env 17 false inv k (cp c17 8146) (act 79 [(5, x5), (6, x6), (9, x9), (43, x43), (44, x44), (45, x45), (46, x46)]) h K = brV x46 (kCode env 17 false inv k (cp c17 16292) (act 79 [(5, x5), (6, x6), (9, x9), (43, x43), (44, x44), (45, x45), (46, x46)]) h K) (kCode env 17 false inv k (cp c17 16293) (act 79 [(5, x5), (6, x6), (9, x9), (43, x43), (44, x44), (45, x45), (46, x46)]) h K) := kq_cond
theorem r17_14  : kCode env 17 false inv k (cp c17 65176) (act 79 [(5, x5), (6, x6), (9, x9), (43, x43), (44, x44), (45, x45), (46, x46)]) h K =
    bnd (pIndexAddr Try.prog 22 x43 x45) fun x47 =>
    bnd (pLoad Try.prog 9 x47 h) fun x48 =>
    K .normal (act 79 [(5, x5), (6, x6), (9, x9), (11, x48), (43, x43), (44, x44), (45, x45)]) h := kq_reg
theorem r17_15  : kCode env 17 false inv k (cp c17 130354) (act 79 [(5, x5), (6, x6), (9, x9), (11, x11), (43, x43), (44, x44), (45, x45)]) h K =
    bnd (inv (.func 32) #[] #[x5, x11] h) fun x52 =>
    bnd (pExtract x52.1 0) fun x53 =>
    bnd (pExtract x52.1 1) fun x54 =>
    K .normal (act 79 [(5, x5), (6, x6), (9, x9), (12, x53), (43, x43), (44, x44), (45, x45)]) x52.2 := kq_reg
theorem r17_16  : kCode env 17 false inv k (cp c17 130355) (act 79 [(5, x5), (6, x6), (9, x9), (12, x12), (43, x43), (44, x44), (45, x45)]) h K =
    bnd (pConv Try.prog 3 48 x12 h) fun x57 =>
    bnd (pBuildSlice Try.prog 50 1 #[(0, x57)] h) fun x58 =>
    bnd (pAppend Try.prog #[50, 50] x9 x58.1 x58.2) fun x59 =>
    K .normal (act 79 [(5, x5), (6, x6), (9, x59.1), (43, x43), (44, x44), (45, x45)]) x59.2 := kq_reg
theorem r17_17  : kCode env 17 false inv k (cp c17 16295) (act 79 [(5, x5), (6, x6), (9, x9), (43, x43), (44, x44), (45, x45)]) h K =
    bnd (pBin Try.prog .add 3 (.tmp 45) (.const (.int .i64 1)) x45 (.int .i64 1)) fun x60 =>
    K .normal (act 79 [(5, x5), (6, x6), (9, x9), (43, x43), (44, x44), (45, x60)]) h := kq_reg
noncomputable def F17_lrlrrrrrr {β : Type} (inv : Inv) (k : Nat) : Nat → Value → Value → Value → Value → Value → Value → AH → (Value → Value → Value → Value → Value → Value → Value → AH → Option β) → Option β
  | 0, _, _, _, _, _, _, _, _ => none
  | j + 1, x5, x6, x9, x43, x44, x45, h, ke2 =>
    bnd (pBin Try.prog .lss 3 (.tmp 45) (.tmp 44) x45 x44) fun x46 =>
    brV x46
    (bnd (pIndexAddr Try.prog 22 x43 x45) fun x47 =>
    bnd (pLoad Try.prog 9 x47 h) fun x48 =>
    bnd (inv (.func 32) #[] #[x5, x48] h) fun x52 =>
    bnd (pExtract x52.1 0) fun x53 =>
    bnd (pExtract x52.1 1) fun x54 =>
    bnd (pConv Try.prog 3 48 x53 x52.2) fun x57 =>
    bnd (pBuildSlice Try.prog 50 1 #[(0, x57)] x52.2) fun x58 =>
    bnd (pAppend Try.prog #[50, 50] x9 x58.1 x58.2) fun x59 =>
    bnd (pBin Try.prog .add 3 (.tmp 45) (.const (.int .i64 1)) x45 (.int .i64 1)) fun x60 =>
    F17_lrlrrrrrr inv k j x5 x6 x59.1 x43 x44 x60 x59.2 ke2)
    (ke2 x5 x6 x9 x43 x44 x45 x46 h)
theorem F17_lrlrrrrrr_j (j : Nat) : kLoop (kCode env 17 false inv k (cp c17 2036)) j (act 79 [(5, x5), (6, x6), (9, x9), (43, x43), (44, x44), (45, x45)]) h K = F17_lrlrrrrrr inv k j x5 x6 x9 x43 x44 x45 h (fun y5 y6 y9 y43 y44 y45 y46 h => K (.exit 2) (act 79 [(5, y5), (6, y6), (9, y9), (43, y43), (44, y44), (45, y45), (46, y46)]) h) := by
      induction j generalizing x5 x6 x9 x43 x44 x45 h with
      | zero => rfl
      | succ j ih =>
        unfold F17_lrlrrrrrr
        simp only [kLoop, kq_seq c17 2036, r17_13, kq_seq c17 4073, b17_lrllrlrrrrrr, kq_skip c17 16292, kq_seq c17 8147, kq_block c17 16294 3, kq_seq c17 32588, r17_14, kq_seq c17 65177, r17_15, r17_16, r17_17, kq_exit c17 16293 2, ih, reduceIte, reduceCtorEq, XE.exit.injEq, Nat.reduceEqDiff, Nat.reduceMul, Nat.reduceAdd] <;> kernel_rfl
theorem F17_lrlrrrrrr_eq  : kCode env 17 false inv k (cp c17 1018) (act 79 [(5, x5), (6, x6), (9, x9), (43, x43), (44, x44), (45, x45)]) h K = F17_lrlrrrrrr inv k k x5 x6 x9 x43 x44 x45 h (fun y5 y6 y9 y43 y44 y45 y46 h => K (.exit 2) (act 79 [(5, y5), (6, y6), (9, y9), (43, y43), (44, y44), (45, y45), (46, y46)]) h) := kq_loop (F17_lrlrrrrrr_j k)
theorem r17_18  : kCode env 17 false inv k (cp c17 510) (act 79 [(5, x5), (6, x6), (9, x9), (43, x43), (44, x44), (45, x45), (46, x46)]) h K =
    bnd (inv (.func 33) #[] #[x9] h) fun x62 =>
    K .normal (act 79 [(6, x6), (9, x9), (14, x62.1)]) x62.2 := kq_reg
theorem r17_19  : kCode env 17 false inv k (cp c17 1022) (act 79 [(6, x6), (9, x9), (14, x14)]) h K =
    bnd (inv (.func 34) #[] #[x9, x14] h) fun x66 =>
    bnd (pExtract x66.1 0) fun x67 =>
    bnd (pExtract x66.1 1) fun x68 =>
    K .normal (act 79 [(6, x6), (14, x14), (15, x67), (16, x68)]) x66.2 := kq_reg
theorem r17_20  : kCode env 17 false inv k (cp c17 4092) (act 79 [(6, x6), (14, x14), (15, x15), (16, x16)]) h K =
    bnd (pBin Try.prog .neq 31 (.tmp 69) (.const (.int .i64 0)) x16 (.int .i64 0)) fun x70 =>
    K .normal (act 79 [(6, x6), (14, x14), (15, x15), (16, x16), (70, x70)]) h := kq_reg
theorem b17_rlrrrrrrrrr  : kCode env 17 false inv k (cp c17 4093) (act 79 [(6, x6), (14, x14), (15, x15), (16, x16), (70, x70)]) h K = brV x70 (kCode env 17 false inv k (cp c17 8186) (act 79 [(6, x6), (14, x14), (15, x15), (16, x16), (70, x70)]) h K) (kCode env 17 false inv k (cp c17 8187) (act 79 [(6, x6), (14, x14), (15, x15), (16, x16), (70, x70)]) h K) := kq_cond
theorem r17_21  : kCode env 17 false inv k (cp c17 16372) (act 79 [(6, x6), (14, x14), (15, x15), (16, x16), (70, x70)]) h K =
    K .normal (act 79 [(2, (.slice none 0 0)), (3, x16)]) h := kq_reg
theorem r17_22  : kCode env 17 false inv k (cp c17 4094) (act 79 [(6, x6), (14, x14), (15, x15), (16, x16), (70, x70)]) h K =
    bnd (pConv Try.prog 3 5 x14 h) fun x74 =>
    bnd (pBuildSlice Try.prog 30 1 #[(0, x74)] h) fun x75 =>
    bnd (pAppend Try.prog #[30, 30] x6 x75.1 x75.2) fun x76 =>
    bnd (pAppend Try.prog #[30, 30] x76.1 x15 x76.2) fun x78 =>
    K .normal (act 79 [(2, x78.1), (3, (.int .i64 0))]) x78.2 := kq_reg
/-- shadowbook/texts.Dict -/
noncomputable def F17 (inv : Inv) (k : Nat) (x0 : Value) (h : AH) : Option (Value × AH) :=
    bnd (inv (.func 29) #[] #[x0] h) fun x18 =>
    bnd (pBin Try.prog .neq 31 (.tmp 19) (.const (.int .i64 0)) x18.1 (.int .i64 0)) fun x20 =>
    brV x20
    (some (.tuple #[(.slice none 0 0), x18.1], x18.2))
    (bnd (inv (.func 10) #[] #[x0] x18.2) fun x23 =>
    bnd (pBuildSlice Try.prog 30 1 #[(0, (.int .u8 2))] x23.2) fun x24 =>
    bnd (pLen Try.prog #[22] x0 x24.2) fun x26 =>
    bnd (pConv Try.prog 3 48 x26 x24.2) fun x27 =>
    bnd (inv (.func 30) #[] #[x24.1, x27] x24.2) fun x28 =>
    bnd (pLen Try.prog #[22] x23.1 x28.2) fun x30 =>
    bnd (pConv Try.prog 3 48 x30 x28.2) fun x31 =>
    bnd (inv (.func 30) #[] #[x28.1, x31] x28.2) fun x32 =>
    bnd (pLen Try.prog #[22] x23.1 x32.2) fun x34 =>
    F17_lrlrrrr inv k k x0 x23.1 x32.1 x23.1 x34 (.int .i64 0) x32.2
    (fun y0 y5 y6 y33 y34 y35 y36 h =>
    bnd (pLen Try.prog #[22] y0 h) fun x44 =>
    F17_lrlrrrrrr inv k k y5 y6 (.slice none 0 0) y0 x44 (.int .i64 0) h
    (fun y5_1 y6_2 y9 y43 y44 y45 y46 h_3 =>
    bnd (inv (.func 33) #[] #[y9] h_3) fun x62 =>
    bnd (inv (.func 34) #[] #[y9, x62.1] x62.2) fun x66 =>
    bnd (pExtract x66.1 0) fun x67 =>
    bnd (pExtract x66.1 1) fun x68 =>
    bnd (pBin Try.prog .neq 31 (.tmp 69) (.const (.int .i64 0)) x68 (.int .i64 0)) fun x70 =>
    brV x70
    (some (.tuple #[(.slice none 0 0), x68], x66.2))
    (bnd (pConv Try.prog 3 5 x62.1 x66.2) fun x74 =>
    bnd (pBuildSlice Try.prog 30 1 #[(0, x74)] x66.2) fun x75 =>
    bnd (pAppend Try.prog #[30, 30] y6_2 x75.1 x75.2) fun x76 =>
    bnd (pAppend Try.prog #[30, 30] x76.1 x67 x76.2) fun x78 =>
    some (.tuple #[x78.1, (.int .i64 0)], x78.2)))))
theorem F17_eq : eFun env k inv 17 #[x0] h = F17 inv k x0 h := by
      refine (kq_fun (a := act 79 [(0, x0)]) (c := cp c17 1)).trans ?_
      unfold F17
      simp only [kq_seq c17 1, r17_0, kq_seq c17 3, kq_seq c17 6, r17_1, kq_seq c17 13, r17_2, b17_rrlr, kq_seq c17 54, r17_3, kq_ret c17 109, res17_0, kq_skip c17 55, kq_seq c17 7, r17_4, kq_seq c17 15, r17_5, kq_seq c17 31, kq_seq c17 62, r17_6, kq_block c17 125 0, F17_lrlrrrr_eq, kq_seq c17 63, r17_11, kq_seq c17 127, kq_seq c17 254, r17_12, kq_block c17 509 2, F17_lrlrrrrrr_eq, kq_seq c17 255, r17_18, kq_seq c17 511, r17_19, kq_seq c17 1023, kq_seq c17 2046, r17_20, b17_rlrrrrrrrrr, kq_seq c17 8186, r17_21, kq_ret c17 16373, kq_skip c17 8187, kq_seq c17 2047, r17_22, kq_ret c17 4095, reduceIte, reduceCtorEq, XE.exit.injEq, Nat.reduceEqDiff, Nat.reduceMul, Nat.reduceAdd] <;> kernel_rfl
theorem F17_call : eInv env (k + 1) (.func 17) #[] #[x0] h = F17 (eInv env k) k x0 h := kq_inv F17_eq
noncomputable def c18 : Code := codeOf Try.prog 18
theorem r18_0  : kCode env 18 false inv k (cp c18 2) (act 66 [(0, x0)]) h K =
    K .normal (act 66 [(0, x0), (2, (.slice none 0 0))]) h := kq_reg
theorem r18_1  : kCode env 18 false inv k (cp c18 6) (act 66 [(0, x0), (2, x2)]) h K =
    bnd (inv (.func 35) #[] #[x0] h) fun x10 =>
    K .normal (act 66 [(0, x0), (2, x2), (4, x10.1)]) x10.2 := kq_reg
theorem r18_2  : kCode env 18 false inv k (cp c18 14) (act 66 [(0, x0), (2, x2), (4, x4)]) h K =
    bnd (inv (.func 36) #[] #[x4, (.int .i64 1)] h) fun x13 =>
    bnd (pExtract x13.1 0) fun x14 =>
    bnd (pExtract x13.1 1) fun x15 =>
    K .normal (act 66 [(0, x0), (2, x2), (3, x15), (4, x4), (5, x14)]) x13.2 := kq_reg
theorem r18_3  : kCode env 18 false inv k (cp c18 60) (act 66 [(0, x0), (2, x2), (3, x3), (4, x4), (5, x5)]) h K =
    bnd (pBin Try.prog .neq 31 (.tmp 16) (.const (.int .i64 0)) x3 (.int .i64 0)) fun x17 =>
    K .normal (act 66 [(0, x0), (2, x2), (4, x4), (5, x5), (17, x17)]) h := kq_reg
theorem b18_rlrrr  : kCode env 18 false inv k (cp c18 61) (act 66 [(0, x0), (2, x2), (4, x4), (5, x5), (17, x17)]) h K = brV x17 (kCode env 18 false inv k (cp c18 122) (act 66 [(0, x0), (2, x2), (4, x4), (5, x5), (17, x17)]) h K) (kCode env 18 false inv k (cp c18 123) (act 66 [(0, x0), (2, x2), (4, x4), (5, x5), (17, x17)]) h K) := kq_cond
theorem r18_4  : kCode env 18 false inv k (cp c18 244) (act 66 [(0, x0), (2, x2), (4, x4), (5, x5), (17, x17)]) h K =
    K .normal (act 66 [(2, (.slice none 0 0)), (3, (.int .i64 4))]) h := kq_reg
theorem res18_0 : resOfFn env.P 18 .ret (act 66 [(2, x2), (3, x3)]) h = some (.tuple #[x2, x3], h) := kq_res
theorem r18_5  : kCode env 18 false inv k (cp c18 62) (act 66 [(0, x0), (2, x2), (4, x4), (5, x5), (17, x17)]) h K =
    bnd (inv (.func 37) #[] #[x4] h) fun x20 =>
    bnd (pExtract x20.1 0) fun x21 =>
    bnd (pExtract x20.1 1) fun x22 =>
    K .normal (act 66 [(0, x0), (2, x2), (3, x22), (4, x4), (5, x5), (6, x21)]) x20.2 := kq_reg
noncomputable abbrev G18_6 {β : Type} (inv : Inv) (x0 x2 x3 x4 x5 x6 : Value) (h : AH) (K : Value → AH → Option β) : Option β :=
    bnd (pBin Try.prog .neq 31 (.tmp 23) (.const (.int .i64 0)) x3 (.int .i64 0)) fun x24 =>
    bnd (gd (some x24) false h (some (x6, h))) fun x26 =>
    bnd (gd (some x24) false x26.2 (lt (pBin Try.prog .gtr 48 (.tmp 26) (.const (.int .u64 4096)) x26.1 (.int .u64 4096)) x26.2)) fun x27 =>
    bnd (pickV x24 (.bool true) x27.1) fun x28 =>
    K (x28) x27.2
theorem r18_6  : kCode env 18 false inv k (cp c18 252) (act 66 [(0, x0), (2, x2), (3, x3), (4, x4), (5, x5), (6, x6)]) h K =
    G18_6 inv x0 x2 x3 x4 x5 x6 h fun y28 h => K .normal (act 66 [(0, x0), (2, x2), (4, x4), (5, x5), (6, x6), (28, y28)]) h := kq_reg
theorem b18_rlrrrrr  : kCode env 18 false inv k (cp c18 253) (act 66 [(0, x0), (2, x2), (4, x4), (5, x5), (6, x6), (28, x28)]) h K = brV x28 (kCode env 18 false inv k (cp c18 506) (act 66 [(0, x0), (2, x2), (4, x4), (5, x5), (6, x6), (28, x28)]) h K) (kCode env 18 false inv k (cp c18 507) (act 66 [(0, x0), (2, x2), (4, x4), (5, x5), (6, x6), (28, x28)]) h K) := kq_cond
theorem r18_7  : kCode env 18 false inv k (cp c18 1012) (act 66 [(0, x0), (2, x2), (4, x4), (5, x5), (6, x6), (28, x28)]) h K =
    K .normal (act 66 [(2, (.slice none 0 0)), (3, (.int .i64 4))]) h := kq_reg
theorem r18_8  : kCode env 18 false inv k (cp c18 254) (act 66 [(0, x0), (2, x2), (4, x4), (5, x5), (6, x6), (28, x28)]) h K =
    K .normal (act 66 [(0, x0), (2, x2), (4, x4), (5, x5), (6, x6), (7, (.bool false))]) h := kq_reg
theorem r18_9  : kCode env 18 false inv k (cp c18 510) (act 66 [(0, x0), (2, x2), (4, x4), (5, x5), (6, x6), (7, x7)]) h K =
    K .normal (act 66 [(0, x0), (2, x2), (4, x4), (5, x5), (6, x6), (7, x7), (8, (.slice none 0 0))]) h := kq_reg
theorem r18_10  : kCode env 18 false inv k (cp c18 2044) (act 66 [(0, x0), (2, x2), (4, x4), (5, x5), (6, x6), (7, x7), (8, x8)]) h K =
    K .normal (act 66 [(0, x0), (2, x2), (4, x4), (6, x6), (7, x7), (8, x8), (29, x5)]) h := kq_reg
theorem r18_11  : kCode env 18 false inv k (cp c18 8180) (act 66 [(0, x0), (2, x2), (4, x4), (6, x6), (7, x7), (8, x8), (29, x29)]) h K =
    bnd (pBin Try.prog .eql 48 (.tmp 29) (.const (.int .u64 1)) x29 (.int .u64 1)) fun x31 =>
    K .normal (act 66 [(0, x0), (2, x2), (4, x4), (6, x6), (7, x7), (8, x8), (29, x29), (30, x31)]) h := kq_reg
theorem b18_rlrlrrrrrrrr  : kCode env 18 false inv k (cp c18 8181) (act 66 [(0, x0), (2, x2), (4, x4), (6, x6), (7, x7), (8, x8), (29, x29), (30, x30)]) h K = brV x30 (kCode env 18 false inv k (cp c18 16362) (act 66 [(0, x0), (2, x2), (4, x4), (6, x6), (7, x7), (8, x8), (29, x29), (30, x30)]) h K) (kCode env 18 false inv k (cp c18 16363) (act 66 [(0, x0), (2, x2), (4, x4), (6, x6), (7, x7), (8, x8), (29, x29), (30, x30)]) h K) := kq_cond
theorem r18_12  : kCode env 18 false inv k (cp c18 32724) (act 66 [(0, x0), (2, x2), (4, x4), (6, x6), (7, x7), (8, x8), (29, x29), (30, x30)]) h K =
    bnd (inv (.func 38) #[] #[x4, x6] h) fun x35 =>
    bnd (pExtract x35.1 0) fun x36 =>
    bnd (pExtract x35.1 1) fun x37 =>
    K .normal (act 66 [(0, x0), (2, x36), (7, x37)]) x35.2 := kq_reg
theorem r18_13  : kCode env 18 false inv k (cp c18 32725) (act 66 [(0, x0), (2, x2), (7, x7)]) h K =
    bnd (inv (.func 15) #[] #[x2] h) fun x40 =>
    bnd (pExtract x40.1 0) fun x41 =>
    bnd (pExtract x40.1 1) fun x42 =>
    K .normal (act 66 [(0, x0), (2, x2), (7, x7), (8, x41)]) x40.2 := kq_reg
theorem r18_14  : kCode env 18 false inv k (cp c18 32726) (act 66 [(0, x0), (2, x2), (4, x4), (6, x6), (7, x7), (8, x8), (29, x29), (30, x30)]) h K =
    bnd (pBin Try.prog .eql 48 (.tmp 29) (.const (.int .u64 2)) x29 (.int .u64 2)) fun x44 =>
    K .normal (act 66 [(0, x0), (2, x2), (4, x4), (6, x6), (7, x7), (8, x8), (43, x44)]) h := kq_reg
theorem b18_rrrlrlrrrrrrrr  : kCode env 18 false inv k (cp c18 32727) (act 66 [(0, x0), (2, x2), (4, x4), (6, x6), (7, x7), (8, x8), (43, x43)]) h K = brV x43 (kCode env 18 false inv k (cp c18 65454) (act 66 [(0, x0), (2, x2), (4, x4), (6, x6), (7, x7), (8, x8), (43, x43)]) h K) (kCode env 18 false inv k (cp c18 65455) (act 66 [(0, x0), (2, x2), (4, x4), (6, x6), (7, x7), (8, x8), (43, x43)]) h K) := kq_cond
theorem r18_15  : kCode env 18 false inv k (cp c18 130908) (act 66 [(0, x0), (2, x2), (4, x4), (6, x6), (7, x7), (8, x8), (43, x43)]) h K =
    bnd (pConv Try.prog 48 3 x6 h) fun x48 =>
    bnd (inv (.func 39) #[] #[x4, x48] h) fun x49 =>
    bnd (pExtract x49.1 0) fun x50 =>
    bnd (pExtract x49.1 1) fun x51 =>
    K .normal (act 66 [(0, x0), (2, x50), (7, x51)]) x49.2 := kq_reg
theorem r18_16  : kCode env 18 false inv k (cp c18 130909) (act 66 [(0, x0), (2, x2), (7, x7)]) h K =
    bnd (inv (.func 17) #[] #[x2] h) fun x54 =>
    bnd (pExtract x54.1 0) fun x55 =>
    bnd (pExtract x54.1 1) fun x56 =>
    K .normal (act 66 [(0, x0), (2, x2), (7, x7), (8, x55)]) x54.2 := kq_reg
noncomputable def F18_rlrrrrrrrr {β : Type} (inv : Inv) (k : Nat) (x0 x2 x4 x6 x7 x8 x29 : Value) (h : AH) (kn : (Value → Value → Value → Value → Value → Value → Value → AH → Option β)) : Option β :=
    bnd (pBin Try.prog .eql 48 (.tmp 29) (.const (.int .u64 1)) x29 (.int .u64 1)) fun x31 =>
    brV x31
    (bnd (inv (.func 38) #[] #[x4, x6] h) fun x35 =>
    bnd (pExtract x35.1 0) fun x36 =>
    bnd (pExtract x35.1 1) fun x37 =>
    bnd (inv (.func 15) #[] #[x36] x35.2) fun x40 =>
    bnd (pExtract x40.1 0) fun x41 =>
    bnd (pExtract x40.1 1) fun x42 =>
    kn x0 x36 unk unk x37 x41 unk x40.2)
    (bnd (pBin Try.prog .eql 48 (.tmp 29) (.const (.int .u64 2)) x29 (.int .u64 2)) fun x44 =>
    brV x44
    (bnd (pConv Try.prog 48 3 x6 h) fun x48 =>
    bnd (inv (.func 39) #[] #[x4, x48] h) fun x49 =>
    bnd (pExtract x49.1 0) fun x50 =>
    bnd (pExtract x49.1 1) fun x51 =>
    bnd (inv (.func 17) #[] #[x50] x49.2) fun x54 =>
    bnd (pExtract x54.1 0) fun x55 =>
    bnd (pExtract x54.1 1) fun x56 =>
    kn x0 x50 unk unk x51 x55 unk x54.2)
    (kn x0 x2 x4 x6 x7 x8 x44 h))
theorem F18_rlrrrrrrrr_eq  : kCode env 18 false inv k (cp c18 2045) (act 66 [(0, x0), (2, x2), (4, x4), (6, x6), (7, x7), (8, x8), (29, x29)]) h K = F18_rlrrrrrrrr inv k x0 x2 x4 x6 x7 x8 x29 h (fun y0 y2 y4 y6 y7 y8 y43 h => K .normal (act 66 [(0, y0), (2, y2), (4, y4), (6, y6), (7, y7), (8, y8), (43, y43)]) h) := by
      unfold F18_rlrrrrrrrr
      simp only [kq_block c18 2045 0, kq_seq c18 4090, r18_11, b18_rlrlrrrrrrrr, kq_seq c18 16362, r18_12, r18_13, kq_seq c18 16363, r18_14, b18_rrrlrlrrrrrrrr, kq_seq c18 65454, r18_15, r18_16, kq_skip c18 65455, reduceIte, reduceCtorEq, XE.exit.injEq, Nat.reduceEqDiff, Nat.reduceMul, Nat.reduceAdd] <;> kernel_rfl
theorem r18_17  : kCode env 18 false inv k (cp c18 4092) (act 66 [(0, x0), (2, x2), (4, x4), (6, x6), (7, x7), (8, x8), (43, x43)]) h K =
    bnd (pUn Try.prog .not x7) fun x58 =>
    bnd (gd (some x58) false h (some (x8, h))) fun x60 =>
    bnd (gd (some x58) false x60.2 (some (x0, x60.2))) fun x61 =>
    bnd (gd (some x58) false x61.2 (inv (.func 40) #[] #[x60.1, x61.1] x61.2)) fun x62 =>
    bnd (gd (some x58) false x62.2 (lt (pUn Try.prog .not x62.1) x62.2)) fun x63 =>
    bnd (pickV x58 (.bool true) x63.1) fun x64 =>
    K .normal (act 66 [(2, x2), (64, x64)]) x63.2 := kq_reg
theorem b18_rlrrrrrrrrr  : kCode env 18 false inv k (cp c18 4093) (act 66 [(2, x2), (64, x64)]) h K = brV x64 (kCode env 18 false inv k (cp c18 8186) (act 66 [(2, x2), (64, x64)]) h K) (kCode env 18 false inv k (cp c18 8187) (act 66 [(2, x2), (64, x64)]) h K) := kq_cond
theorem r18_18  : kCode env 18 false inv k (cp c18 16372) (act 66 [(2, x2), (64, x64)]) h K =
    K .normal (act 66 [(2, (.slice none 0 0)), (3, (.int .i64 4))]) h := kq_reg
theorem r18_19  : kCode env 18 false inv k (cp c18 4094) (act 66 [(2, x2), (64, x64)]) h K =
    K .normal (act 66 [(2, x2), (3, (.int .i64 0))]) h := kq_reg
/-- shadowbook/texts.Get -/
noncomputable def F18 (inv : Inv) (k : Nat) (x0 : Value) (h : AH) : Option (Value × AH) :=
    bnd (inv (.func 35) #[] #[x0] h) fun x10 =>
    bnd (inv (.func 36) #[] #[x10.1, (.int .i64 1)] x10.2) fun x13 =>
    bnd (pExtract x13.1 0) fun x14 =>
    bnd (pExtract x13.1 1) fun x15 =>
    bnd (pBin Try.prog .neq 31 (.tmp 16) (.const (.int .i64 0)) x15 (.int .i64 0)) fun x17 =>
    brV x17
    (some (.tuple #[(.slice none 0 0), (.int .i64 4)], x13.2))
    (bnd (inv (.func 37) #[] #[x10.1] x13.2) fun x20 =>
    bnd (pExtract x20.1 0) fun x21 =>
    bnd (pExtract x20.1 1) fun x22 =>
    G18_6 inv x0 (.slice none 0 0) x22 x10.1 x14 x21 x20.2 fun y28 h =>
    brV y28
    (some (.tuple #[(.slice none 0 0), (.int .i64 4)], h))
    (F18_rlrrrrrrrr inv k x0 (.slice none 0 0) x10.1 x21 (.bool false) (.slice none 0 0) x14 h
    (fun y0 y2 y4 y6 y7 y8 y43 h_1 =>
    bnd (pUn Try.prog .not y7) fun x58 =>
    bnd (gd (some x58) false h_1 (some (y8, h_1))) fun x60 =>
    bnd (gd (some x58) false x60.2 (some (y0, x60.2))) fun x61 =>
    bnd (gd (some x58) false x61.2 (inv (.func 40) #[] #[x60.1, x61.1] x61.2)) fun x62 =>
    bnd (gd (some x58) false x62.2 (lt (pUn Try.prog .not x62.1) x62.2)) fun x63 =>
    bnd (pickV x58 (.bool true) x63.1) fun x64 =>
    brV x64
    (some (.tuple #[(.slice none 0 0), (.int .i64 4)], x63.2))
    (some (.tuple #[y2, (.int .i64 0)], x63.2)))))
theorem F18_eq : eFun env k inv 18 #[x0] h = F18 inv k x0 h := by
      refine (kq_fun (a := act 66 [(0, x0)]) (c := cp c18 1)).trans ?_
      unfold F18
      simp only [kq_seq c18 1, r18_0, kq_seq c18 3, r18_1, kq_seq c18 7, r18_2, kq_seq c18 15, kq_seq c18 30, r18_3, b18_rlrrr, kq_seq c18 122, r18_4, kq_ret c18 245, res18_0, kq_skip c18 123, kq_seq c18 31, r18_5, kq_seq c18 63, kq_seq c18 126, r18_6, b18_rlrrrrr, kq_seq c18 506, r18_7, kq_ret c18 1013, kq_skip c18 507, kq_seq c18 127, r18_8, kq_seq c18 255, r18_9, kq_seq c18 511, kq_seq c18 1022, r18_10, F18_rlrrrrrrrr_eq, kq_seq c18 1023, kq_seq c18 2046, r18_17, b18_rlrrrrrrrrr, kq_seq c18 8186, r18_18, kq_ret c18 16373, kq_skip c18 8187, kq_seq c18 2047, r18_19, kq_ret c18 4095, reduceIte, reduceCtorEq, XE.exit.injEq, Nat.reduceEqDiff, Nat.reduceMul, Nat.reduceAdd] <;> kernel_rfl
theorem F18_call : eInv env (k + 1) (.func 18) #[] #[x0] h = F18 (eInv env k) k x0 h := kq_inv F18_eq
noncomputable def c19 : Code := codeOf Try.prog 19
theorem r19_0  : kCode env 19 false inv k (cp c19 2) (act 20 [(0, x0), (1, x1)]) h K =
    K .normal (act 20 [(0, x0), (1, x1)]) h := kq_reg
theorem r19_1  : kCode env 19 false inv k (cp c19 6) (act 20 [(0, x0), (1, x1)]) h K =
    K .normal (act 20 [(0, x0), (1, x1), (5, (.string { data := #[] }))]) h := kq_reg
theorem r19_2  : kCode env 19 false inv k (cp c19 224) (act 20 [(0, x0), (1, x1), (5, x5)]) h K =
    bnd (pBin Try.prog .gtr 3 (.tmp 6) (.const (.int .i64 0)) x1 (.int .i64 0)) fun x7 =>
    K .normal (act 20 [(0, x0), (1, x1), (5, x5), (7, x7)]) h := kq_reg
theorem b19_rllllrr  : kCode env 19 false inv k (cp c19 225) (act 20 [(0, x0), (1, x1), (5, x5), (7, x7)]) h K = brV x7 (kCode env 19 false inv k (cp c19 450) (act 20 [(0, x0), (1, x1), (5, x5), (7, x7)]) h K) (kCode env 19 false inv k (cp c19 451) (act 20 [(0, x0), (1, x1), (5, x5), (7, x7)]) h K) := kq_cond
theorem r19_4  : kCode env 19 false inv k (cp c19 1808) (act 20 [(0, x0), (1, x1), (5, x5), (7, x7)]) h K =
    bnd (pBin Try.prog .rem 3 (.tmp 10) (.const (.int .i64 2)) x1 (.int .i64 2)) fun x11 =>
    bnd (pBin Try.prog .eql 3 (.tmp 11) (.const (.int .i64 1)) x11 (.int .i64 1)) fun x12 =>
    K .normal (act 20 [(0, x0), (1, x1), (5, x5), (12, x12)]) h := kq_reg
theorem b19_rlllrlllrr  : kCode env 19 false inv k (cp c19 1809) (act 20 [(0, x0), (1, x1), (5, x5), (12, x12)]) h K = brV x12 (kCode env 19 false inv k (cp c19 3618) (act 20 [(0, x0), (1, x1), (5, x5), (12, x12)]) h K) (kCode env 19 false inv k (cp c19 3619) (act 20 [(0, x0), (1, x1), (5, x5), (12, x12)]) h K) := kq_cond
theorem r19_5  : kCode env 19 false inv k (cp c19 3618) (act 20 [(0, x0), (1, x1), (5, x5), (12, x12)]) h K =
    bnd (pBin Try.prog .add 9 (.tmp 13) (.tmp 14) x5 x0) fun x15 =>
    K .normal (act 20 [(0, x0), (1, x1), (5, x15)]) h := kq_reg
noncomputable def F19_rlllrlllrr {β : Type} (inv : Inv) (k : Nat) (x0 x1 x5 x12 : Value) (h : AH) (kn : (Value → Value → Value → Value → AH → Option β)) : Option β :=
    brV x12
    (bnd (pBin Try.prog .add 9 (.tmp 13) (.tmp 14) x5 x0) fun x15 =>
    kn x0 x1 x15 unk h)
    (kn x0 x1 x5 x12 h)
theorem F19_rlllrlllrr_eq  : kCode env 19 false inv k (cp c19 1809) (act 20 [(0, x0), (1, x1), (5, x5), (12, x12)]) h K = F19_rlllrlllrr inv k x0 x1 x5 x12 h (fun y0 y1 y5 y12 h => K .normal (act 20 [(0, y0), (1, y1), (5, y5), (12, y12)]) h) := by
      unfold F19_rlllrlllrr
      simp only [b19_rlllrlllrr, r19_5, kq_skip c19 3619, reduceIte, reduceCtorEq, XE.exit.injEq, Nat.reduceEqDiff, Nat.reduceMul, Nat.reduceAdd] <;> kernel_rfl
theorem r19_6  : kCode env 19 false inv k (cp c19 905) (act 20 [(0, x0), (1, x1), (5, x5), (12, x12)]) h K =
    bnd (pBin Try.prog .add 9 (.tmp 16) (.tmp 17) x0 x0) fun x18 =>
    K .normal (act 20 [(0, x18), (1, x1), (5, x5)]) h := kq_reg
theorem r19_3  : kCode env 19 false inv k (cp c19 227) (act 20 [(0, x0), (1, x1), (5, x5)]) h K =
    bnd (pBin Try.prog .quo 3 (.tmp 8) (.const (.int .i64 2)) x1 (.int .i64 2)) fun x9 =>
    K .normal (act 20 [(0, x0), (1, x9), (5, x5)]) h := kq_reg
noncomputable def F19_llrr {β : Type} (inv : Inv) (k : Nat) : Nat → Value → Value → Value → AH → (Value → Value → Value → Value → AH → Option β) → Option β
  | 0, _, _, _, _, _ => none
  | j + 1, x0, x1, x5, h, ke0 =>
    bnd (pBin Try.prog .gtr 3 (.tmp 6) (.const (.int .i64 0)) x1 (.int .i64 0)) fun x7 =>
    brV x7
    (bnd (pBin Try.prog .rem 3 (.tmp 10) (.const (.int .i64 2)) x1 (.int .i64 2)) fun x11 =>
    bnd (pBin Try.prog .eql 3 (.tmp 11) (.const (.int .i64 1)) x11 (.int .i64 1)) fun x12 =>
    F19_rlllrlllrr inv k x0 x1 x5 x12 h
    (fun y0 y1 y5 y12 h =>
    bnd (pBin Try.prog .add 9 (.tmp 16) (.tmp 17) y0 y0) fun x18 =>
    bnd (pBin Try.prog .quo 3 (.tmp 8) (.const (.int .i64 2)) y1 (.int .i64 2)) fun x9 =>
    F19_llrr inv k j x18 x9 y5 h ke0))
    (ke0 x0 x1 x5 x7 h)
theorem F19_llrr_j (j : Nat) : kLoop (kCode env 19 false inv k (cp c19 56)) j (act 20 [(0, x0), (1, x1), (5, x5)]) h K = F19_llrr inv k j x0 x1 x5 h (fun y0 y1 y5 y7 h => K (.exit 0) (act 20 [(0, y0), (1, y1), (5, y5), (7, y7)]) h) := by
      induction j generalizing x0 x1 x5 h with
      | zero => rfl
      | succ j ih =>
        unfold F19_llrr
        simp only [kLoop, kq_seq c19 56, kq_seq c19 112, r19_2, b19_rllllrr, kq_skip c19 450, kq_seq c19 113, kq_block c19 226 1, kq_seq c19 452, kq_seq c19 904, r19_4, F19_rlllrlllrr_eq, r19_6, r19_3, kq_exit c19 451 0, ih, reduceIte, reduceCtorEq, XE.exit.injEq, Nat.reduceEqDiff, Nat.reduceMul, Nat.reduceAdd] <;> kernel_rfl
theorem F19_llrr_eq  : kCode env 19 false inv k (cp c19 28) (act 20 [(0, x0), (1, x1), (5, x5)]) h K = F19_llrr inv k k x0 x1 x5 h (fun y0 y1 y5 y7 h => K (.exit 0) (act 20 [(0, y0), (1, y1), (5, y5), (7, y7)]) h) := kq_loop (F19_llrr_j k)
theorem r19_7  : kCode env 19 false inv k (cp c19 30) (act 20 [(0, x0), (1, x1), (5, x5), (7, x7)]) h K =
    K .normal (act 20 [(4, x5)]) h := kq_reg
theorem res19_0 : resOfFn env.P 19 .ret (act 20 [(4, x4)]) h = some (x4, h) := kq_res
/-- shadowbook/shadowbookkit.Times -/
noncomputable def F19 (inv : Inv) (k : Nat) (x0 x1 : Value) (h : AH) : Option (Value × AH) :=
    F19_llrr inv k k x0 x1 (.string { data := #[] }) h
    (fun y0 y1 y5 y7 h =>
    some (y5, h))
theorem F19_eq : eFun env k inv 19 #[x0, x1] h = F19 inv k x0 x1 h := by
      refine (kq_fun (a := act 20 [(0, x0), (1, x1)]) (c := cp c19 1)).trans ?_
      unfold F19
      simp only [kq_seq c19 1, r19_0, kq_seq c19 3, r19_1, kq_seq c19 7, kq_block c19 14 0, F19_llrr_eq, kq_seq c19 15, r19_7, kq_ret c19 31, res19_0, reduceIte, reduceCtorEq, XE.exit.injEq, Nat.reduceEqDiff, Nat.reduceMul, Nat.reduceAdd] <;> kernel_rfl
theorem F19_call : eInv env (k + 1) (.func 19) #[] #[x0, x1] h = F19 (eInv env k) k x0 x1 h := kq_inv F19_eq
noncomputable def c28 : Code := codeOf Try.prog 28
theorem r28_0  : kCode env 28 false inv k (cp c28 2) (act 4 [(0, x0)]) h K =
    bnd (pBox Try.prog 40 x0 h) fun x1 =>
    K .normal (act 4 [(1, x1.1)]) x1.2 := kq_reg
theorem r28_1  : kCode env 28 false inv k (cp c28 6) (act 4 [(1, x1)]) h K =
    bnd (pMakeFunc (.func 53) #[] #[x1]) fun x3 =>
    K .normal (act 4 [(2, x3)]) h := kq_reg
theorem res28_0 : resOfFn env.P 28 .ret (act 4 [(2, x2)]) h = some (x2, h) := kq_res
/-- maps.Keys[map[string]struct{},string,struct{}] -/
noncomputable def F28 (inv : Inv) (k : Nat) (x0 : Value) (h : AH) : Option (Value × AH) :=
    bnd (pBox Try.prog 40 x0 h) fun x1 =>
    bnd (pMakeFunc (.func 53) #[] #[x1.1]) fun x3 =>
    some (x3, x1.2)
theorem F28_eq : eFun env k inv 28 #[x0] h = F28 inv k x0 h := by
      refine (kq_fun (a := act 4 [(0, x0)]) (c := cp c28 1)).trans ?_
      unfold F28
      simp only [kq_seq c28 1, r28_0, kq_seq c28 3, r28_1, kq_ret c28 7, res28_0, reduceIte, reduceCtorEq, XE.exit.injEq, Nat.reduceEqDiff, Nat.reduceMul, Nat.reduceAdd] <;> kernel_rfl
theorem F28_call : eInv env (k + 1) (.func 28) #[] #[x0] h = F28 (eInv env k) k x0 h := kq_inv F28_eq
noncomputable def c29 : Code := codeOf Try.prog 29
theorem r29_0  : kCode env 29 false inv k (cp c29 2) (act 10 [(0, x0)]) h K =
    K .normal (act 10 [(0, x0)]) h := kq_reg
theorem r29_1  : kCode env 29 false inv k (cp c29 12) (act 10 [(0, x0)]) h K =
    bnd (pLen Try.prog #[22] x0 h) fun x4 =>
    bnd (pBin Try.prog .gtr 3 (.tmp 4) (.const (.int .i64 4096)) x4 (.int .i64 4096)) fun x5 =>
    bnd (gd (some x5) false h (some (x0, h))) fun x7 =>
    bnd (gd (some x5) false x7.2 (inv (.func 54) #[] #[x7.1, (.func (.func 55) #[] #[])] x7.2)) fun x8 =>
    bnd (pickV x5 (.bool true) x8.1) fun x9 =>
    K .normal (act 10 [(9, x9)]) x8.2 := kq_reg
theorem b29_rlr  : kCode env 29 false inv k (cp c29 13) (act 10 [(9, x9)]) h K = brV x9 (kCode env 29 false inv k (cp c29 26) (act 10 [(9, x9)]) h K) (kCode env 29 false inv k (cp c29 27) (act 10 [(9, x9)]) h K) := kq_cond
theorem r29_2  : kCode env 29 false inv k (cp c29 52) (act 10 [(9, x9)]) h K =
    K .normal (act 10 [(2, (.int .i64 3))]) h := kq_reg
theorem res29_0 : resOfFn env.P 29 .ret (act 10 [(2, x2)]) h = some (x2, h) := kq_res
theorem r29_3  : kCode env 29 false inv k (cp c29 14) (act 10 [(9, x9)]) h K =
    K .normal (act 10 [(2, (.int .i64 0))]) h := kq_reg
/-- shadowbook/texts.check -/
noncomputable def F29 (inv : Inv) (k : Nat) (x0 : Value) (h : AH) : Option (Value × AH) :=
    bnd (pLen Try.prog #[22] x0 h) fun x4 =>
    bnd (pBin Try.prog .gtr 3 (.tmp 4) (.const (.int .i64 4096)) x4 (.int .i64 4096)) fun x5 =>
    bnd (gd (some x5) false h (some (x0, h))) fun x7 =>
    bnd (gd (some x5) false x7.2 (inv (.func 54) #[] #[x7.1, (.func (.func 55) #[] #[])] x7.2)) fun x8 =>
    bnd (pickV x5 (.bool true) x8.1) fun x9 =>
    brV x9
    (some ((.int .i64 3), x8.2))
    (some ((.int .i64 0), x8.2))
theorem F29_eq : eFun env k inv 29 #[x0] h = F29 inv k x0 h := by
      refine (kq_fun (a := act 10 [(0, x0)]) (c := cp c29 1)).trans ?_
      unfold F29
      simp only [kq_seq c29 1, r29_0, kq_seq c29 3, kq_seq c29 6, r29_1, b29_rlr, kq_seq c29 26, r29_2, kq_ret c29 53, res29_0, kq_skip c29 27, kq_seq c29 7, r29_3, kq_ret c29 15, reduceIte, reduceCtorEq, XE.exit.injEq, Nat.reduceEqDiff, Nat.reduceMul, Nat.reduceAdd] <;> kernel_rfl
theorem F29_call : eInv env (k + 1) (.func 29) #[] #[x0] h = F29 (eInv env k) k x0 h := kq_inv F29_eq
noncomputable def c30 : Code := codeOf Try.prog 30
theorem r30_0  : kCode env 30 false inv k (cp c30 2) (act 20 [(0, x0), (1, x1)]) h K =
    K .normal (act 20 [(0, x0), (1, x1)]) h := kq_reg
theorem r30_1  : kCode env 30 false inv k (cp c30 96) (act 20 [(0, x0), (1, x1)]) h K =
    bnd (pBin Try.prog .geq 48 (.tmp 5) (.const (.int .u64 128)) x1 (.int .u64 128)) fun x6 =>
    K .normal (act 20 [(0, x0), (1, x1), (6, x6)]) h := kq_reg
theorem b30_rllllr  : kCode env 30 false inv k (cp c30 97) (act 20 [(0, x0), (1, x1), (6, x6)]) h K = brV x6 (kCode env 30 false inv k (cp c30 194) (act 20 [(0, x0), (1, x1), (6, x6)]) h K) (kCode env 30 false inv k (cp c30 195) (act 20 [(0, x0), (1, x1), (6, x6)]) h K) := kq_cond
theorem r30_3  : kCode env 30 false inv k (cp c30 196) (act 20 [(0, x0), (1, x1), (6, x6)]) h K =
    bnd (pConv Try.prog 48 5 x1 h) fun x11 =>
    bnd (pBin Try.prog .or 5 (.tmp 11) (.const (.int .u8 128)) x11 (.int .u8 128)) fun x12 =>
    bnd (pBuildSlice Try.prog 30 1 #[(0, x12)] h) fun x13 =>
    bnd (pAppend Try.prog #[30, 30] x0 x13.1 x13.2) fun x14 =>
    K .normal (act 20 [(0, x14.1), (1, x1)]) x14.2 := kq_reg
theorem r30_2  : kCode env 30 false inv k (cp c30 99) (act 20 [(0, x0), (1, x1)]) h K =
    bnd (pBin Try.prog .shr 48 (.tmp 7) (.const (.int .u64 7)) x1 (.int .u64 7)) fun x8 =>
    K .normal (act 20 [(0, x0), (1, x8)]) h := kq_reg
noncomputable def F30_llr {β : Type} (inv : Inv) (k : Nat) : Nat → Value → Value → AH → (Value → Value → Value → AH → Option β) → Option β
  | 0, _, _, _, _ => none
  | j + 1, x0, x1, h, ke0 =>
    bnd (pBin Try.prog .geq 48 (.tmp 5) (.const (.int .u64 128)) x1 (.int .u64 128)) fun x6 =>
    brV x6
    (bnd (pConv Try.prog 48 5 x1 h) fun x11 =>
    bnd (pBin Try.prog .or 5 (.tmp 11) (.const (.int .u8 128)) x11 (.int .u8 128)) fun x12 =>
    bnd (pBuildSlice Try.prog 30 1 #[(0, x12)] h) fun x13 =>
    bnd (pAppend Try.prog #[30, 30] x0 x13.1 x13.2) fun x14 =>
    bnd (pBin Try.prog .shr 48 (.tmp 7) (.const (.int .u64 7)) x1 (.int .u64 7)) fun x8 =>
    F30_llr inv k j x14.1 x8 x14.2 ke0)
    (ke0 x0 x1 x6 h)
theorem F30_llr_j (j : Nat) : kLoop (kCode env 30 false inv k (cp c30 24)) j (act 20 [(0, x0), (1, x1)]) h K = F30_llr inv k j x0 x1 h (fun y0 y1 y6 h => K (.exit 0) (act 20 [(0, y0), (1, y1), (6, y6)]) h) := by
      induction j generalizing x0 x1 h with
      | zero => rfl
      | succ j ih =>
        unfold F30_llr
        simp only [kLoop, kq_seq c30 24, kq_seq c30 48, r30_1, b30_rllllr, kq_skip c30 194, kq_seq c30 49, kq_block c30 98 1, r30_3, r30_2, kq_exit c30 195 0, ih, reduceIte, reduceCtorEq, XE.exit.injEq, Nat.reduceEqDiff, Nat.reduceMul, Nat.reduceAdd] <;> kernel_rfl
theorem F30_llr_eq  : kCode env 30 false inv k (cp c30 12) (act 20 [(0, x0), (1, x1)]) h K = F30_llr inv k k x0 x1 h (fun y0 y1 y6 h => K (.exit 0) (act 20 [(0, y0), (1, y1), (6, y6)]) h) := kq_loop (F30_llr_j k)
theorem r30_4  : kCode env 30 false inv k (cp c30 14) (act 20 [(0, x0), (1, x1), (6, x6)]) h K =
    bnd (pConv Try.prog 48 5 x1 h) fun x17 =>
    bnd (pBuildSlice Try.prog 30 1 #[(0, x17)] h) fun x18 =>
    bnd (pAppend Try.prog #[30, 30] x0 x18.1 x18.2) fun x19 =>
    K .normal (act 20 [(4, x19.1)]) x19.2 := kq_reg
theorem res30_0 : resOfFn env.P 30 .ret (act 20 [(4, x4)]) h = some (x4, h) := kq_res
/-- shadowbook/octet.PutVar -/
noncomputable def F30 (inv : Inv) (k : Nat) (x0 x1 : Value) (h : AH) : Option (Value × AH) :=
    F30_llr inv k k x0 x1 h
    (fun y0 y1 y6 h =>
    bnd (pConv Try.prog 48 5 y1 h) fun x17 =>
    bnd (pBuildSlice Try.prog 30 1 #[(0, x17)] h) fun x18 =>
    bnd (pAppend Try.prog #[30, 30] y0 x18.1 x18.2) fun x19 =>
    some (x19.1, x19.2))
theorem F30_eq : eFun env k inv 30 #[x0, x1] h = F30 inv k x0 x1 h := by
      refine (kq_fun (a := act 20 [(0, x0), (1, x1)]) (c := cp c30 1)).trans ?_
      unfold F30
      simp only [kq_seq c30 1, r30_0, kq_seq c30 3, kq_block c30 6 0, F30_llr_eq, kq_seq c30 7, r30_4, kq_ret c30 15, res30_0, reduceIte, reduceCtorEq, XE.exit.injEq, Nat.reduceEqDiff, Nat.reduceMul, Nat.reduceAdd] <;> kernel_rfl
theorem F30_call : eInv env (k + 1) (.func 30) #[] #[x0, x1] h = F30 (eInv env k) k x0 x1 h := kq_inv F30_eq
noncomputable def c31 : Code := codeOf Try.prog 31
theorem r31_0  : kCode env 31 false inv k (cp c31 2) (act 12 [(0, x0), (1, x1)]) h K =
    K .normal (act 12 [(0, x0), (1, x1)]) h := kq_reg
theorem r31_1  : kCode env 31 false inv k (cp c31 6) (act 12 [(0, x0), (1, x1)]) h K =
    bnd (pLen Try.prog #[9] x1 h) fun x7 =>
    bnd (pConv Try.prog 3 48 x7 h) fun x8 =>
    bnd (inv (.func 30) #[] #[x0, x8] h) fun x9 =>
    bnd (pAppend Try.prog #[30, 9] x9.1 x1 x9.2) fun x11 =>
    K .normal (act 12 [(4, x11.1)]) x11.2 := kq_reg
theorem res31_0 : resOfFn env.P 31 .ret (act 12 [(4, x4)]) h = some (x4, h) := kq_res
/-- shadowbook/texts.text -/
noncomputable def F31 (inv : Inv) (k : Nat) (x0 x1 : Value) (h : AH) : Option (Value × AH) :=
    bnd (pLen Try.prog #[9] x1 h) fun x7 =>
    bnd (pConv Try.prog 3 48 x7 h) fun x8 =>
    bnd (inv (.func 30) #[] #[x0, x8] h) fun x9 =>
    bnd (pAppend Try.prog #[30, 9] x9.1 x1 x9.2) fun x11 =>
    some (x11.1, x11.2)
theorem F31_eq : eFun env k inv 31 #[x0, x1] h = F31 inv k x0 x1 h := by
      refine (kq_fun (a := act 12 [(0, x0), (1, x1)]) (c := cp c31 1)).trans ?_
      unfold F31
      simp only [kq_seq c31 1, r31_0, kq_seq c31 3, r31_1, kq_ret c31 7, res31_0, reduceIte, reduceCtorEq, XE.exit.injEq, Nat.reduceEqDiff, Nat.reduceMul, Nat.reduceAdd] <;> kernel_rfl
theorem F31_call : eInv env (k + 1) (.func 31) #[] #[x0, x1] h = F31 (eInv env k) k x0 x1 h := kq_inv F31_eq
noncomputable def c32 : Code := codeOf Try.prog 32
theorem r32_0  : kCode env 32 false inv k (cp c32 2) (act 54 [(0, x0), (1, x1)]) h K =
    K .normal (act 54 [(0, x0), (1, x1)]) h := kq_reg
theorem r32_1  : kCode env 32 false inv k (cp c32 6) (act 54 [(0, x0), (1, x1)]) h K =
    bnd (pLen Try.prog #[22] x0 h) fun x11 =>
    K .normal (act 54 [(0, x0), (1, x1), (6, x11)]) h := kq_reg
theorem r32_2  : kCode env 32 false inv k (cp c32 14) (act 54 [(0, x0), (1, x1), (6, x6)]) h K =
    K .normal (act 54 [(0, x0), (1, x1), (6, x6), (7, (.int .i64 0)), (8, x6)]) h := kq_reg
theorem r32_3  : kCode env 32 false inv k (cp c32 480) (act 54 [(0, x0), (1, x1), (6, x6), (7, x7), (8, x8)]) h K =
    bnd (pBin Try.prog .lss 3 (.tmp 13) (.tmp 14) x7 x8) fun x15 =>
    K .normal (act 54 [(0, x0), (1, x1), (6, x6), (7, x7), (8, x8), (15, x15)]) h := kq_reg
theorem b32_rllllrrr  : kCode env 32 false inv k (cp c32 481) (act 54 [(0, x0), (1, x1), (6, x6), (7, x7), (8, x8), (15, x15)]) h K = brV x15 (kCode env 32 false inv k (cp c32 962) (act 54 [(0, x0), (1, x1), (6, x6), (7, x7), (8, x8), (15, x15)]) h K) (kCode env 32 false inv k (cp c32 963) (act 54 [(0, x0), (1, x1), (6, x6), (7, x7), (8, x8), (15, x15)]) h K) := kq_cond
theorem r32_4  : kCode env 32 false inv k (cp c32 964) (act 54 [(0, x0), (1, x1), (6, x6), (7, x7), (8, x8), (15, x15)]) h K =
    bnd (pBin Try.prog .add 3 (.tmp 16) (.tmp 17) x7 x8) fun x18 =>
    bnd (pConv Try.prog 3 70 x18 h) fun x19 =>
    bnd (pBin Try.prog .shr 70 (.tmp 19) (.const (.int .u64 1)) x19 (.int .u64 1)) fun x20 =>
    bnd (pConv Try.prog 70 3 x20 h) fun x21 =>
    K .normal (act 54 [(0, x0), (1, x1), (6, x6), (7, x7), (8, x8), (9, x21)]) h := kq_reg
theorem r32_5  : kCode env 32 false inv k (cp c32 1930) (act 54 [(0, x0), (1, x1), (6, x6), (7, x7), (8, x8), (9, x9)]) h K =
    bnd (pIndexAddr Try.prog 22 x0 x9) fun x24 =>
    bnd (pLoad Try.prog 9 x24 h) fun x25 =>
    bnd (inv (.func 56) #[] #[x25, x1] h) fun x27 =>
    K .normal (act 54 [(0, x0), (1, x1), (6, x6), (7, x7), (8, x8), (9, x9), (27, x27.1)]) x27.2 := kq_reg
theorem b32_rrlrlllrrr  : kCode env 32 false inv k (cp c32 1931) (act 54 [(0, x0), (1, x1), (6, x6), (7, x7), (8, x8), (9, x9), (27, x27)]) h K = brV x27 (kCode env 32 false inv k (cp c32 3862) (act 54 [(0, x0), (1, x1), (6, x6), (7, x7), (8, x8), (9, x9), (27, x27)]) h K) (kCode env 32 false inv k (cp c32 3863) (act 54 [(0, x0), (1, x1), (6, x6), (7, x7), (8, x8), (9, x9), (27, x27)]) h K) := kq_cond
theorem r32_6  : kCode env 32 false inv k (cp c32 3862) (act 54 [(0, x0), (1, x1), (6, x6), (7, x7), (8, x8), (9, x9), (27, x27)]) h K =
    bnd (pBin Try.prog .add 3 (.tmp 28) (.const (.int .i64 1)) x9 (.int .i64 1)) fun x29 =>
    K .normal (act 54 [(0, x0), (1, x1), (6, x6), (7, x29), (8, x8)]) h := kq_reg
theorem r32_7  : kCode env 32 false inv k (cp c32 3863) (act 54 [(0, x0), (1, x1), (6, x6), (7, x7), (8, x8), (9, x9), (27, x27)]) h K =
    K .normal (act 54 [(0, x0), (1, x1), (6, x6), (7, x7), (8, x9)]) h := kq_reg
noncomputable def F32_llrrr {β : Type} (inv : Inv) (k : Nat) : Nat → Value → Value → Value → Value → Value → AH → (Value → Value → Value → Value → Value → Value → AH → Option β) → Option β
  | 0, _, _, _, _, _, _, _ => none
  | j + 1, x0, x1, x6, x7, x8, h, ke0 =>
    bnd (pBin Try.prog .lss 3 (.tmp 13) (.tmp 14) x7 x8) fun x15 =>
    brV x15
    (bnd (pBin Try.prog .add 3 (.tmp 16) (.tmp 17) x7 x8) fun x18 =>
    bnd (pConv Try.prog 3 70 x18 h) fun x19 =>
    bnd (pBin Try.prog .shr 70 (.tmp 19) (.const (.int .u64 1)) x19 (.int .u64 1)) fun x20 =>
    bnd (pConv Try.prog 70 3 x20 h) fun x21 =>
    bnd (pIndexAddr Try.prog 22 x0 x21) fun x24 =>
    bnd (pLoad Try.prog 9 x24 h) fun x25 =>
    bnd (inv (.func 56) #[] #[x25, x1] h) fun x27 =>
    brV x27.1
    (bnd (pBin Try.prog .add 3 (.tmp 28) (.const (.int .i64 1)) x21 (.int .i64 1)) fun x29 =>
    F32_llrrr inv k j x0 x1 x6 x29 x8 x27.2 ke0)
    (F32_llrrr inv k j x0 x1 x6 x7 x21 x27.2 ke0))
    (ke0 x0 x1 x6 x7 x8 x15 h)
theorem F32_llrrr_j (j : Nat) : kLoop (kCode env 32 false inv k (cp c32 120)) j (act 54 [(0, x0), (1, x1), (6, x6), (7, x7), (8, x8)]) h K = F32_llrrr inv k j x0 x1 x6 x7 x8 h (fun y0 y1 y6 y7 y8 y15 h => K (.exit 0) (act 54 [(0, y0), (1, y1), (6, y6), (7, y7), (8, y8), (15, y15)]) h) := by
      induction j generalizing x0 x1 x6 x7 x8 h with
      | zero => rfl
      | succ j ih =>
        unfold F32_llrrr
        simp only [kLoop, kq_seq c32 120, kq_seq c32 240, r32_3, b32_rllllrrr, kq_skip c32 962, kq_block c32 241 1, kq_seq c32 482, r32_4, kq_seq c32 965, r32_5, b32_rrlrlllrrr, r32_6, r32_7, kq_exit c32 963 0, ih, reduceIte, reduceCtorEq, XE.exit.injEq, Nat.reduceEqDiff, Nat.reduceMul, Nat.reduceAdd] <;> kernel_rfl
theorem F32_llrrr_eq  : kCode env 32 false inv k (cp c32 60) (act 54 [(0, x0), (1, x1), (6, x6), (7, x7), (8, x8)]) h K = F32_llrrr inv k k x0 x1 x6 x7 x8 h (fun y0 y1 y6 y7 y8 y15 h => K (.exit 0) (act 54 [(0, y0), (1, y1), (6, y6), (7, y7), (8, y8), (15, y15)]) h) := kq_loop (F32_llrrr_j k)
noncomputable abbrev G32_8 {β : Type} (inv : Inv) (x0 x1 x6 x7 : Value) (h : AH) (K : Value → Value → AH → Option β) : Option β :=
    bnd (pBin Try.prog .lss 3 (.tmp 32) (.tmp 33) x7 x6) fun x34 =>
    bnd (gd (some x34) true h (some (x0, h))) fun x36 =>
    bnd (gd (some x34) true x36.2 (some (x7, x36.2))) fun x37 =>
    bnd (gd (some x34) true x37.2 (lt (pIndexAddr Try.prog 22 x36.1 x37.1) x37.2)) fun x38 =>
    bnd (gd (some x34) true x38.2 (lt (pLoad Try.prog 9 x38.1 x38.2) x38.2)) fun x39 =>
    bnd (gd (some x34) true x39.2 (some (x1, x39.2))) fun x40 =>
    bnd (gd (some x34) true x40.2 (lt (pBin Try.prog .eql 9 (.tmp 39) (.tmp 40) x39.1 x40.1) x40.2)) fun x41 =>
    bnd (gd (some x34) true x41.2 (some (x41.1, x41.2))) fun x42 =>
    bnd (gd (some x42.1) false x42.2 (some (x0, x42.2))) fun x43 =>
    bnd (gd (some x42.1) false x43.2 (some (x7, x43.2))) fun x44 =>
    bnd (gd (some x42.1) false x44.2 (lt (pIndexAddr Try.prog 22 x43.1 x44.1) x44.2)) fun x45 =>
    bnd (gd (some x42.1) false x45.2 (lt (pLoad Try.prog 9 x45.1 x45.2) x45.2)) fun x46 =>
    bnd (gd (some x42.1) false x46.2 (inv (.func 57) #[] #[x46.1] x46.2)) fun x47 =>
    bnd (gd (some x42.1) false x47.2 (some (x47.1, x47.2))) fun x48 =>
    bnd (gd (some x48.1) true x48.2 (some (x1, x48.2))) fun x49 =>
    bnd (gd (some x48.1) true x49.2 (inv (.func 57) #[] #[x49.1] x49.2)) fun x50 =>
    bnd (gd (some x42.1) false x50.2 (lt (pickV x48.1 x50.1 (.bool false)) x50.2)) fun x51 =>
    bnd (gd (some x34) true x51.2 (lt (pickV x42.1 (.bool true) x51.1) x51.2)) fun x52 =>
    bnd (pickV x34 x52.1 (.bool false)) fun x53 =>
    K (x7) (x53) x52.2
theorem r32_8  : kCode env 32 false inv k (cp c32 62) (act 54 [(0, x0), (1, x1), (6, x6), (7, x7), (8, x8), (15, x15)]) h K =
    G32_8 inv x0 x1 x6 x7 h fun y4 y5 h => K .normal (act 54 [(4, y4), (5, y5)]) h := kq_reg
theorem res32_0 : resOfFn env.P 32 .ret (act 54 [(4, x4), (5, x5)]) h = some (.tuple #[x4, x5], h) := kq_res
/-- slices.BinarySearch[[]string,string] -/
noncomputable def F32 (inv : Inv) (k : Nat) (x0 x1 : Value) (h : AH) : Option (Value × AH) :=
    bnd (pLen Try.prog #[22] x0 h) fun x11 =>
    F32_llrrr inv k k x0 x1 x11 (.int .i64 0) x11 h
    (fun y0 y1 y6 y7 y8 y15 h =>
    G32_8 inv y0 y1 y6 y7 h fun y4 y5 h_1 =>
    some (.tuple #[y4, y5], h_1))
theorem F32_eq : eFun env k inv 32 #[x0, x1] h = F32 inv k x0 x1 h := by
      refine (kq_fun (a := act 54 [(0, x0), (1, x1)]) (c := cp c32 1)).trans ?_
      unfold F32
      simp only [kq_seq c32 1, r32_0, kq_seq c32 3, r32_1, kq_seq c32 7, r32_2, kq_seq c32 15, kq_block c32 30 0, F32_llrrr_eq, kq_seq c32 31, r32_8, kq_ret c32 63, res32_0, reduceIte, reduceCtorEq, XE.exit.injEq, Nat.reduceEqDiff, Nat.reduceMul, Nat.reduceAdd] <;> kernel_rfl
theorem F32_call : eInv env (k + 1) (.func 32) #[] #[x0, x1] h = F32 (eInv env k) k x0 x1 h := kq_inv F32_eq
noncomputable def c33 : Code := codeOf Try.prog 33
theorem r33_0  : kCode env 33 false inv k (cp c33 2) (act 18 [(0, x0)]) h K =
    K .normal (act 18 [(0, x0)]) h := kq_reg
theorem r33_1  : kCode env 33 false inv k (cp c33 6) (act 18 [(0, x0)]) h K =
    K .normal (act 18 [(0, x0), (3, (.int .u64 0))]) h := kq_reg
theorem r33_2  : kCode env 33 false inv k (cp c33 28) (act 18 [(0, x0), (3, x3)]) h K =
    bnd (pLen Try.prog #[50] x0 h) fun x7 =>
    K .normal (act 18 [(3, x3), (6, x0), (7, x7), (8, (.int .i64 0))]) h := kq_reg
theorem r33_3  : kCode env 33 false inv k (cp c33 232) (act 18 [(3, x3), (6, x6), (7, x7), (8, x8)]) h K =
    bnd (pBin Try.prog .lss 3 (.tmp 8) (.tmp 7) x8 x7) fun x9 =>
    K .normal (act 18 [(3, x3), (6, x6), (7, x7), (8, x8), (9, x9)]) h := kq_reg
theorem b33_lrllrlrr  : kCode env 33 false inv k (cp c33 466) (act 18 [(3, x3), (6, x6), (7, x7), (8, x8), (9, x9)]) h K = brV x9 (kCode env 33 false inv k (cp c33 932) (act 18 [(3, x3), (6, x6), (7, x7), (8, x8), (9, x9)]) h K) (kCode env 33 false inv k (cp c33 933) (act 18 [(3, x3), (6, x6), (7, x7), (8, x8), (9, x9)]) h K) := kq_cond
theorem r33_4  : kCode env 33 false inv k (cp c33 3736) (act 18 [(3, x3), (6, x6), (7, x7), (8, x8), (9, x9)]) h K =
    bnd (pIndexAddr Try.prog 50 x6 x8) fun x10 =>
    bnd (pLoad Try.prog 48 x10 h) fun x11 =>
    K .normal (act 18 [(3, x3), (5, x11), (6, x6), (7, x7), (8, x8)]) h := kq_reg
theorem r33_5  : kCode env 33 false inv k (cp c33 3737) (act 18 [(3, x3), (5, x5), (6, x6), (7, x7), (8, x8)]) h K =
    bnd (pBin Try.prog .or 48 (.tmp 12) (.tmp 13) x3 x5) fun x14 =>
    K .normal (act 18 [(3, x14), (6, x6), (7, x7), (8, x8)]) h := kq_reg
theorem r33_6  : kCode env 33 false inv k (cp c33 935) (act 18 [(3, x3), (6, x6), (7, x7), (8, x8)]) h K =
    bnd (pBin Try.prog .add 3 (.tmp 8) (.const (.int .i64 1)) x8 (.int .i64 1)) fun x15 =>
    K .normal (act 18 [(3, x3), (6, x6), (7, x7), (8, x15)]) h := kq_reg
noncomputable def F33_lrlrr {β : Type} (inv : Inv) (k : Nat) : Nat → Value → Value → Value → Value → AH → (Value → Value → Value → Value → Value → AH → Option β) → Option β
  | 0, _, _, _, _, _, _ => none
  | j + 1, x3, x6, x7, x8, h, ke0 =>
    bnd (pBin Try.prog .lss 3 (.tmp 8) (.tmp 7) x8 x7) fun x9 =>
    brV x9
    (bnd (pIndexAddr Try.prog 50 x6 x8) fun x10 =>
    bnd (pLoad Try.prog 48 x10 h) fun x11 =>
    bnd (pBin Try.prog .or 48 (.tmp 12) (.tmp 13) x3 x11) fun x14 =>
    bnd (pBin Try.prog .add 3 (.tmp 8) (.const (.int .i64 1)) x8 (.int .i64 1)) fun x15 =>
    F33_lrlrr inv k j x14 x6 x7 x15 h ke0)
    (ke0 x3 x6 x7 x8 x9 h)
theorem F33_lrlrr_j (j : Nat) : kLoop (kCode env 33 false inv k (cp c33 116)) j (act 18 [(3, x3), (6, x6), (7, x7), (8, x8)]) h K = F33_lrlrr inv k j x3 x6 x7 x8 h (fun y3 y6 y7 y8 y9 h => K (.exit 0) (act 18 [(3, y3), (6, y6), (7, y7), (8, y8), (9, y9)]) h) := by
      induction j generalizing x3 x6 x7 x8 h with
      | zero => rfl
      | succ j ih =>
        unfold F33_lrlrr
        simp only [kLoop, kq_seq c33 116, r33_3, kq_seq c33 233, b33_lrllrlrr, kq_skip c33 932, kq_seq c33 467, kq_block c33 934 1, kq_seq c33 1868, r33_4, r33_5, r33_6, kq_exit c33 933 0, ih, reduceIte, reduceCtorEq, XE.exit.injEq, Nat.reduceEqDiff, Nat.reduceMul, Nat.reduceAdd] <;> kernel_rfl
theorem F33_lrlrr_eq  : kCode env 33 false inv k (cp c33 58) (act 18 [(3, x3), (6, x6), (7, x7), (8, x8)]) h K = F33_lrlrr inv k k x3 x6 x7 x8 h (fun y3 y6 y7 y8 y9 h => K (.exit 0) (act 18 [(3, y3), (6, y6), (7, y7), (8, y8), (9, y9)]) h) := kq_loop (F33_lrlrr_j k)
theorem r33_7  : kCode env 33 false inv k (cp c33 30) (act 18 [(3, x3), (6, x6), (7, x7), (8, x8), (9, x9)]) h K =
    bnd (inv (.func 58) #[] #[x3] h) fun x17 =>
    K .normal (act 18 [(2, x17.1)]) x17.2 := kq_reg
theorem res33_0 : resOfFn env.P 33 .ret (act 18 [(2, x2)]) h = some (x2, h) := kq_res
/-- shadowbook/packs.Width -/
noncomputable def F33 (inv : Inv) (k : Nat) (x0 : Value) (h : AH) : Option (Value × AH) :=
    bnd (pLen Try.prog #[50] x0 h) fun x7 =>
    F33_lrlrr inv k k (.int .u64 0) x0 x7 (.int .i64 0) h
    (fun y3 y6 y7 y8 y9 h =>
    bnd (inv (.func 58) #[] #[y3] h) fun x17 =>
    some (x17.1, x17.2))
theorem F33_eq : eFun env k inv 33 #[x0] h = F33 inv k x0 h := by
      refine (kq_fun (a := act 18 [(0, x0)]) (c := cp c33 1)).trans ?_
      unfold F33
      simp only [kq_seq c33 1, r33_0, kq_seq c33 3, r33_1, kq_seq c33 7, kq_seq c33 14, r33_2, kq_block c33 29 0, F33_lrlrr_eq, kq_seq c33 15, r33_7, kq_ret c33 31, res33_0, reduceIte, reduceCtorEq, XE.exit.injEq, Nat.reduceEqDiff, Nat.reduceMul, Nat.reduceAdd] <;> kernel_rfl
theorem F33_call : eInv env (k + 1) (.func 33) #[] #[x0] h = F33 (eInv env k) k x0 h := kq_inv F33_eq
noncomputable def c34 : Code := codeOf Try.prog 34
theorem r34_0  : kCode env 34 false inv k (cp c34 2) (act 54 [(0, x0), (1, x1)]) h K =
    K .normal (act 54 [(0, x0), (1, x1)]) h := kq_reg
theorem r34_1  : kCode env 34 false inv k (cp c34 24) (act 54 [(0, x0), (1, x1)]) h K =
    bnd (pLen Try.prog #[50] x0 h) fun x14 =>
    bnd (inv (.func 59) #[] #[x14, x1] h) fun x16 =>
    bnd (pUn Try.prog .not x16.1) fun x17 =>
    K .normal (act 54 [(0, x0), (1, x1), (12, x17)]) x16.2 := kq_reg
theorem b34_rllr  : kCode env 34 false inv k (cp c34 25) (act 54 [(0, x0), (1, x1), (12, x12)]) h K = brV x12 (kCode env 34 false inv k (cp c34 50) (act 54 [(0, x0), (1, x1), (12, x12)]) h K) (kCode env 34 false inv k (cp c34 51) (act 54 [(0, x0), (1, x1), (12, x12)]) h K) := kq_cond
theorem r34_2  : kCode env 34 false inv k (cp c34 100) (act 54 [(0, x0), (1, x1), (12, x12)]) h K =
    K .normal (act 54 [(4, (.slice none 0 0)), (5, (.int .i64 2))]) h := kq_reg
theorem res34_0 : resOfFn env.P 34 .ret (act 54 [(4, x4), (5, x5)]) h = some (.tuple #[x4, x5], h) := kq_res
theorem r34_3  : kCode env 34 false inv k (cp c34 102) (act 54 [(0, x0), (1, x1), (12, x12)]) h K =
    bnd (inv (.func 33) #[] #[x0] h) fun x20 =>
    bnd (pBin Try.prog .gtr 3 (.tmp 20) (.tmp 21) x20.1 x1) fun x22 =>
    K .normal (act 54 [(0, x0), (1, x1), (18, x22)]) x20.2 := kq_reg
theorem b34_rrrllr  : kCode env 34 false inv k (cp c34 103) (act 54 [(0, x0), (1, x1), (18, x18)]) h K = brV x18 (kCode env 34 false inv k (cp c34 206) (act 54 [(0, x0), (1, x1), (18, x18)]) h K) (kCode env 34 false inv k (cp c34 207) (act 54 [(0, x0), (1, x1), (18, x18)]) h K) := kq_cond
theorem r34_4  : kCode env 34 false inv k (cp c34 412) (act 54 [(0, x0), (1, x1), (18, x18)]) h K =
    K .normal (act 54 [(4, (.slice none 0 0)), (5, (.int .i64 3))]) h := kq_reg
theorem r34_5  : kCode env 34 false inv k (cp c34 14) (act 54 [(0, x0), (1, x1), (18, x18)]) h K =
    bnd (pLen Try.prog #[50] x0 h) fun x24 =>
    bnd (inv (.func 60) #[] #[x24, x1] h) fun x26 =>
    bnd (pMakeSlice Try.prog 30 (.int .i64 0) x26.1 x26.2) fun x27 =>
    bnd (pAlloc Try.prog 30 x27.2) fun x6 =>
    bnd (kSt (pStore Try.prog 30 x6.1 x27.1 x6.2)) fun u =>
    K .normal (act 54 [(0, x0), (1, x1), (6, x6.1)]) u.2 := kq_reg
theorem r34_6  : kCode env 34 false inv k (cp c34 30) (act 54 [(0, x0), (1, x1), (6, x6)]) h K =
    bnd (pAlloc Try.prog 5 h) fun x7 =>
    K .normal (act 54 [(0, x0), (1, x1), (6, x6), (7, x7.1)]) x7.2 := kq_reg
theorem r34_7  : kCode env 34 false inv k (cp c34 62) (act 54 [(0, x0), (1, x1), (6, x6), (7, x7)]) h K =
    bnd (pAlloc Try.prog 3 h) fun x8 =>
    bnd (kSt (pStore Try.prog 3 x8.1 (.int .i64 0) x8.2)) fun u =>
    K .normal (act 54 [(0, x0), (1, x1), (6, x6), (7, x7), (8, x8.1)]) u.2 := kq_reg
theorem r34_8  : kCode env 34 false inv k (cp c34 126) (act 54 [(0, x0), (1, x1), (6, x6), (7, x7), (8, x8)]) h K =
    bnd (pMakeFunc (.func 61) #[] #[x7, x8, x6]) fun x28 =>
    K .normal (act 54 [(0, x0), (1, x1), (6, x6), (7, x7), (8, x8), (9, x28)]) h := kq_reg
theorem r34_9  : kCode env 34 false inv k (cp c34 508) (act 54 [(0, x0), (1, x1), (6, x6), (7, x7), (8, x8), (9, x9)]) h K =
    bnd (pLen Try.prog #[50] x0 h) fun x30 =>
    K .normal (act 54 [(1, x1), (6, x6), (7, x7), (8, x8), (9, x9), (29, x0), (30, x30), (31, (.int .i64 0))]) h := kq_reg
theorem r34_10  : kCode env 34 false inv k (cp c34 4072) (act 54 [(1, x1), (6, x6), (7, x7), (8, x8), (9, x9), (29, x29), (30, x30), (31, x31)]) h K =
    bnd (pBin Try.prog .lss 3 (.tmp 31) (.tmp 30) x31 x30) fun x32 =>
    K .normal (act 54 [(1, x1), (6, x6), (7, x7), (8, x8), (9, x9), (29, x29), (30, x30), (31, x31), (32, x32)]) h := kq_reg
theorem b34_lrllrlrrrrrr  : kCode env 34 false inv k (cp c34 8146) (act 54 [(1, x1), (6, x6), (7, x7), (8, x8), (9, x9), (29, x29), (30, x30), (31, x31), (32, x32)]) h K = brV x32 (kCode env 34 false inv k (cp c34 16292) (act 54 [(1, x1), (6, x6), (7, x7), (8, x8), (9, x9), (29, x29), (30, x30), (31, x31), (32, x32)]) h K) (kCode env 34 false inv k (cp c34 16293) (act 54 [(1, x1), (6, x6), (7, x7), (8, x8), (9, x9), (29, x29), (30, x30), (31, x31), (32, x32)]) h K) := kq_cond
theorem r34_11  : kCode env 34 false inv k (cp c34 65176) (act 54 [(1, x1), (6, x6), (7, x7), (8, x8), (9, x9), (29, x29), (30, x30), (31, x31), (32, x32)]) h K =
    bnd (pIndexAddr Try.prog 50 x29 x31) fun x33 =>
    bnd (pLoad Try.prog 48 x33 h) fun x34 =>
    K .normal (act 54 [(1, x1), (6, x6), (7, x7), (8, x8), (9, x9), (11, x34), (29, x29), (30, x30), (31, x31)]) h := kq_reg
theorem r34_12  : kCode env 34 false inv k (cp c34 130354) (act 54 [(1, x1), (6, x6), (7, x7), (8, x8), (9, x9), (11, x11), (29, x29), (30, x30), (31, x31)]) h K =
    K .normal (act 54 [(1, x1), (6, x6), (7, x7), (8, x8), (9, x9), (11, x11), (29, x29), (30, x30), (31, x31), (35, x1), (36, (.int .i64 0))]) h := kq_reg
theorem r34_13  : kCode env 34 false inv k (cp c34 1042840) (act 54 [(1, x1), (6, x6), (7, x7), (8, x8), (9, x9), (11, x11), (29, x29), (30, x30), (31, x31), (35, x35), (36, x36)]) h K =
    bnd (pBin Try.prog .lss 3 (.tmp 36) (.tmp 35) x36 x35) fun x37 =>
    K .normal (act 54 [(1, x1), (6, x6), (7, x7), (8, x8), (9, x9), (11, x11), (29, x29), (30, x30), (31, x31), (35, x35), (36, x36), (37, x37)]) h := kq_reg
theorem b34_lrllrrllrrllrlrrrrrr  : kCode env 34 false inv k (cp c34 2085682) (act 54 [(1, x1), (6, x6), (7, x7), (8, x8), (9, x9), (11, x11), (29, x29), (30, x30), (31, x31), (35, x35), (36, x36), (37, x37)]) h K = brV x37 (kCode env 34 false inv k (cp c34 4171364) (act 54 [(1, x1), (6, x6), (7, x7), (8, x8), (9, x9), (11, x11), (29, x29), (30, x30), (31, x31), (35, x35), (36, x36), (37, x37)]) h K) (kCode env 34 false inv k (cp c34 4171365) (act 54 [(1, x1), (6, x6), (7, x7), (8, x8), (9, x9), (11, x11), (29, x29), (30, x30), (31, x31), (35, x35), (36, x36), (37, x37)]) h K) := kq_cond
theorem r34_14  : kCode env 34 false inv k (cp c34 16685464) (act 54 [(1, x1), (6, x6), (7, x7), (8, x8), (9, x9), (11, x11), (29, x29), (30, x30), (31, x31), (35, x35), (36, x36), (37, x37)]) h K =
    bnd (pBin Try.prog .and 48 (.tmp 39) (.const (.int .u64 1)) x11 (.int .u64 1)) fun x40 =>
    bnd (pConv Try.prog 48 5 x40 h) fun x41 =>
    bnd (callV inv x9 #[x41] h) fun x42 =>
    K .normal (act 54 [(1, x1), (6, x6), (7, x7), (8, x8), (9, x9), (11, x11), (29, x29), (30, x30), (31, x31), (35, x35), (36, x36)]) x42.2 := kq_reg
theorem r34_15  : kCode env 34 false inv k (cp c34 16685465) (act 54 [(1, x1), (6, x6), (7, x7), (8, x8), (9, x9), (11, x11), (29, x29), (30, x30), (31, x31), (35, x35), (36, x36)]) h K =
    bnd (pBin Try.prog .shr 48 (.tmp 43) (.const (.int .u64 1)) x11 (.int .u64 1)) fun x44 =>
    K .normal (act 54 [(1, x1), (6, x6), (7, x7), (8, x8), (9, x9), (11, x44), (29, x29), (30, x30), (31, x31), (35, x35), (36, x36)]) h := kq_reg
theorem r34_16  : kCode env 34 false inv k (cp c34 4171367) (act 54 [(1, x1), (6, x6), (7, x7), (8, x8), (9, x9), (11, x11), (29, x29), (30, x30), (31, x31), (35, x35), (36, x36)]) h K =
    bnd (pBin Try.prog .add 3 (.tmp 36) (.const (.int .i64 1)) x36 (.int .i64 1)) fun x45 =>
    K .normal (act 54 [(1, x1), (6, x6), (7, x7), (8, x8), (9, x9), (11, x11), (29, x29), (30, x30), (31, x31), (35, x35), (36, x45)]) h := kq_reg
noncomputable def F34_lrrllrrllrlrrrrrr {β : Type} (inv : Inv) (k : Nat) : Nat → Value → Value → Value → Value → Value → Value → Value → Value → Value → Value → Value → AH → (Value → Value → Value → Value → Value → Value → Value → Value → Value → Value → Value → Value → AH → Option β) → Option β
  | 0, _, _, _, _, _, _, _, _, _, _, _, _, _ => none
  | j + 1, x1, x6, x7, x8, x9, x11, x29, x30, x31, x35, x36, h, ke3 =>
    bnd (pBin Try.prog .lss 3 (.tmp 36) (.tmp 35) x36 x35) fun x37 =>
    brV x37
    (bnd (pBin Try.prog .and 48 (.tmp 39) (.const (.int .u64 1)) x11 (.int .u64 1)) fun x40 =>
    bnd (pConv Try.prog 48 5 x40 h) fun x41 =>
    bnd (callV inv x9 #[x41] h) fun x42 =>
    bnd (pBin Try.prog .shr 48 (.tmp 43) (.const (.int .u64 1)) x11 (.int .u64 1)) fun x44 =>
    bnd (pBin Try.prog .add 3 (.tmp 36) (.const (.int .i64 1)) x36 (.int .i64 1)) fun x45 =>
    F34_lrrllrrllrlrrrrrr inv k j x1 x6 x7 x8 x9 x44 x29 x30 x31 x35 x45 x42.2 ke3)
    (ke3 x1 x6 x7 x8 x9 x11 x29 x30 x31 x35 x36 x37 h)
theorem F34_lrrllrrllrlrrrrrr_j (j : Nat) : kLoop (kCode env 34 false inv k (cp c34 521420)) j (act 54 [(1, x1), (6, x6), (7, x7), (8, x8), (9, x9), (11, x11), (29, x29), (30, x30), (31, x31), (35, x35), (36, x36)]) h K = F34_lrrllrrllrlrrrrrr inv k j x1 x6 x7 x8 x9 x11 x29 x30 x31 x35 x36 h (fun y1 y6 y7 y8 y9 y11 y29 y30 y31 y35 y36 y37 h => K (.exit 3) (act 54 [(1, y1), (6, y6), (7, y7), (8, y8), (9, y9), (11, y11), (29, y29), (30, y30), (31, y31), (35, y35), (36, y36), (37, y37)]) h) := by
      induction j generalizing x1 x6 x7 x8 x9 x11 x29 x30 x31 x35 x36 h with
      | zero => rfl
      | succ j ih =>
        unfold F34_lrrllrrllrlrrrrrr
        simp only [kLoop, kq_seq c34 521420, r34_13, kq_seq c34 1042841, b34_lrllrrllrrllrlrrrrrr, kq_skip c34 4171364, kq_seq c34 2085683, kq_block c34 4171366 4, kq_seq c34 8342732, r34_14, r34_15, r34_16, kq_exit c34 4171365 3, ih, reduceIte, reduceCtorEq, XE.exit.injEq, Nat.reduceEqDiff, Nat.reduceMul, Nat.reduceAdd] <;> kernel_rfl
theorem F34_lrrllrrllrlrrrrrr_eq  : kCode env 34 false inv k (cp c34 260710) (act 54 [(1, x1), (6, x6), (7, x7), (8, x8), (9, x9), (11, x11), (29, x29), (30, x30), (31, x31), (35, x35), (36, x36)]) h K = F34_lrrllrrllrlrrrrrr inv k k x1 x6 x7 x8 x9 x11 x29 x30 x31 x35 x36 h (fun y1 y6 y7 y8 y9 y11 y29 y30 y31 y35 y36 y37 h => K (.exit 3) (act 54 [(1, y1), (6, y6), (7, y7), (8, y8), (9, y9), (11, y11), (29, y29), (30, y30), (31, y31), (35, y35), (36, y36), (37, y37)]) h) := kq_loop (F34_lrrllrrllrlrrrrrr_j k)
theorem r34_17  : kCode env 34 false inv k (cp c34 16295) (act 54 [(1, x1), (6, x6), (7, x7), (8, x8), (9, x9), (11, x11), (29, x29), (30, x30), (31, x31), (35, x35), (36, x36), (37, x37)]) h K =
    bnd (pBin Try.prog .add 3 (.tmp 31) (.const (.int .i64 1)) x31 (.int .i64 1)) fun x46 =>
    K .normal (act 54 [(1, x1), (6, x6), (7, x7), (8, x8), (9, x9), (29, x29), (30, x30), (31, x46)]) h := kq_reg
noncomputable def F34_lrlrrrrrr {β : Type} (inv : Inv) (k : Nat) : Nat → Value → Value → Value → Value → Value → Value → Value → Value → AH → (Value → Value → Value → Value → Value → Value → Value → Value → Value → AH → Option β) → Option β
  | 0, _, _, _, _, _, _, _, _, _, _ => none
  | j + 1, x1, x6, x7, x8, x9, x29, x30, x31, h, ke1 =>
    bnd (pBin Try.prog .lss 3 (.tmp 31) (.tmp 30) x31 x30) fun x32 =>
    brV x32
    (bnd (pIndexAddr Try.prog 50 x29 x31) fun x33 =>
    bnd (pLoad Try.prog 48 x33 h) fun x34 =>
    F34_lrrllrrllrlrrrrrr inv k k x1 x6 x7 x8 x9 x34 x29 x30 x31 x1 (.int .i64 0) h
    (fun y1 y6 y7 y8 y9 y11 y29 y30 y31 y35 y36 y37 h =>
    bnd (pBin Try.prog .add 3 (.tmp 31) (.const (.int .i64 1)) y31 (.int .i64 1)) fun x46 =>
    F34_lrlrrrrrr inv k j y1 y6 y7 y8 y9 y29 y30 x46 h ke1))
    (ke1 x1 x6 x7 x8 x9 x29 x30 x31 x32 h)
theorem F34_lrlrrrrrr_j (j : Nat) : kLoop (kCode env 34 false inv k (cp c34 2036)) j (act 54 [(1, x1), (6, x6), (7, x7), (8, x8), (9, x9), (29, x29), (30, x30), (31, x31)]) h K = F34_lrlrrrrrr inv k j x1 x6 x7 x8 x9 x29 x30 x31 h (fun y1 y6 y7 y8 y9 y29 y30 y31 y32 h => K (.exit 1) (act 54 [(1, y1), (6, y6), (7, y7), (8, y8), (9, y9), (29, y29), (30, y30), (31, y31), (32, y32)]) h) := by
      induction j generalizing x1 x6 x7 x8 x9 x29 x30 x31 h with
      | zero => rfl
      | succ j ih =>
        unfold F34_lrlrrrrrr
        simp only [kLoop, kq_seq c34 2036, r34_10, kq_seq c34 4073, b34_lrllrlrrrrrr, kq_skip c34 16292, kq_seq c34 8147, kq_block c34 16294 2, kq_seq c34 32588, r34_11, kq_seq c34 65177, r34_12, kq_block c34 130355 3, F34_lrrllrrllrlrrrrrr_eq, r34_17, kq_exit c34 16293 1, ih, reduceIte, reduceCtorEq, XE.exit.injEq, Nat.reduceEqDiff, Nat.reduceMul, Nat.reduceAdd] <;> kernel_rfl
theorem F34_lrlrrrrrr_eq  : kCode env 34 false inv k (cp c34 1018) (act 54 [(1, x1), (6, x6), (7, x7), (8, x8), (9, x9), (29, x29), (30, x30), (31, x31)]) h K = F34_lrlrrrrrr inv k k x1 x6 x7 x8 x9 x29 x30 x31 h (fun y1 y6 y7 y8 y9 y29 y30 y31 y32 h => K (.exit 1) (act 54 [(1, y1), (6, y6), (7, y7), (8, y8), (9, y9), (29, y29), (30, y30), (31, y31), (32, y32)]) h) := kq_loop (F34_lrlrrrrrr_j k)
theorem r34_18  : kCode env 34 false inv k (cp c34 1020) (act 54 [(1, x1), (6, x6), (7, x7), (8, x8), (9, x9), (29, x29), (30, x30), (31, x31), (32, x32)]) h K =
    bnd (pLoad Try.prog 3 x8 h) fun x47 =>
    bnd (pBin Try.prog .gtr 3 (.tmp 47) (.const (.int .i64 0)) x47 (.int .i64 0)) fun x48 =>
    K .normal (act 54 [(6, x6), (7, x7), (48, x48)]) h := kq_reg
theorem b34_rlrrrrrrr  : kCode env 34 false inv k (cp c34 1021) (act 54 [(6, x6), (7, x7), (48, x48)]) h K = brV x48 (kCode env 34 false inv k (cp c34 2042) (act 54 [(6, x6), (7, x7), (48, x48)]) h K) (kCode env 34 false inv k (cp c34 2043) (act 54 [(6, x6), (7, x7), (48, x48)]) h K) := kq_cond
theorem r34_19  : kCode env 34 false inv k (cp c34 2042) (act 54 [(6, x6), (7, x7), (48, x48)]) h K =
    bnd (pLoad Try.prog 30 x6 h) fun x49 =>
    bnd (pLoad Try.prog 5 x7 h) fun x50 =>
    bnd (pBuildSlice Try.prog 30 1 #[(0, x50)] h) fun x51 =>
    bnd (pAppend Try.prog #[30, 30] x49 x51.1 x51.2) fun x52 =>
    bnd (kSt (pStore Try.prog 30 x6 x52.1 x52.2)) fun u =>
    K .normal (act 54 [(6, x6)]) u.2 := kq_reg
noncomputable def F34_rlrrrrrrr {β : Type} (inv : Inv) (k : Nat) (x6 x7 x48 : Value) (h : AH) (kn : (Value → Value → Value → AH → Option β)) : Option β :=
    brV x48
    (bnd (pLoad Try.prog 30 x6 h) fun x49 =>
    bnd (pLoad Try.prog 5 x7 h) fun x50 =>
    bnd (pBuildSlice Try.prog 30 1 #[(0, x50)] h) fun x51 =>
    bnd (pAppend Try.prog #[30, 30] x49 x51.1 x51.2) fun x52 =>
    bnd (kSt (pStore Try.prog 30 x6 x52.1 x52.2)) fun u =>
    kn x6 unk unk u.2)
    (kn x6 x7 x48 h)
theorem F34_rlrrrrrrr_eq  : kCode env 34 false inv k (cp c34 1021) (act 54 [(6, x6), (7, x7), (48, x48)]) h K = F34_rlrrrrrrr inv k x6 x7 x48 h (fun y6 y7 y48 h => K .normal (act 54 [(6, y6), (7, y7), (48, y48)]) h) := by
      unfold F34_rlrrrrrrr
      simp only [b34_rlrrrrrrr, r34_19, kq_skip c34 2043, reduceIte, reduceCtorEq, XE.exit.injEq, Nat.reduceEqDiff, Nat.reduceMul, Nat.reduceAdd] <;> kernel_rfl
theorem r34_20  : kCode env 34 false inv k (cp c34 1022) (act 54 [(6, x6), (7, x7), (48, x48)]) h K =
    bnd (pLoad Try.prog 30 x6 h) fun x53 =>
    K .normal (act 54 [(4, x53), (5, (.int .i64 0))]) h := kq_reg
/-- shadowbook/packs.Put -/
noncomputable def F34 (inv : Inv) (k : Nat) (x0 x1 : Value) (h : AH) : Option (Value × AH) :=
    bnd (pLen Try.prog #[50] x0 h) fun x14 =>
    bnd (inv (.func 59) #[] #[x14, x1] h) fun x16 =>
    bnd (pUn Try.prog .not x16.1) fun x17 =>
    brV x17
    (some (.tuple #[(.slice none 0 0), (.int .i64 2)], x16.2))
    (bnd (inv (.func 33) #[] #[x0] x16.2) fun x20 =>
    bnd (pBin Try.prog .gtr 3 (.tmp 20) (.tmp 21) x20.1 x1) fun x22 =>
    brV x22
    (some (.tuple #[(.slice none 0 0), (.int .i64 3)], x20.2))
    (bnd (pLen Try.prog #[50] x0 x20.2) fun x24 =>
    bnd (inv (.func 60) #[] #[x24, x1] x20.2) fun x26 =>
    bnd (pMakeSlice Try.prog 30 (.int .i64 0) x26.1 x26.2) fun x27 =>
    bnd (pAlloc Try.prog 30 x27.2) fun x6 =>
    bnd (kSt (pStore Try.prog 30 x6.1 x27.1 x6.2)) fun u =>
    bnd (pAlloc Try.prog 5 u.2) fun x7 =>
    bnd (pAlloc Try.prog 3 x7.2) fun x8 =>
    bnd (kSt (pStore Try.prog 3 x8.1 (.int .i64 0) x8.2)) fun u_1 =>
    bnd (pMakeFunc (.func 61) #[] #[x7.1, x8.1, x6.1]) fun x28 =>
    bnd (pLen Try.prog #[50] x0 u_1.2) fun x30 =>
    F34_lrlrrrrrr inv k k x1 x6.1 x7.1 x8.1 x28 x0 x30 (.int .i64 0) u_1.2
    (fun y1 y6 y7 y8 y9 y29 y30 y31 y32 h =>
    bnd (pLoad Try.prog 3 y8 h) fun x47 =>
    bnd (pBin Try.prog .gtr 3 (.tmp 47) (.const (.int .i64 0)) x47 (.int .i64 0)) fun x48 =>
    F34_rlrrrrrrr inv k y6 y7 x48 h
    (fun y6_2 y7_3 y48 h_4 =>
    bnd (pLoad Try.prog 30 y6_2 h_4) fun x53 =>
    some (.tuple #[x53, (.int .i64 0)], h_4)))))
theorem F34_eq : eFun env k inv 34 #[x0, x1] h = F34 inv k x0 x1 h := by
      refine (kq_fun (a := act 54 [(0, x0), (1, x1)]) (c := cp c34 1)).trans ?_
      unfold F34
      simp only [kq_seq c34 1, r34_0, kq_seq c34 3, kq_block c34 6 0, kq_seq c34 12, r34_1, b34_rllr, kq_seq c34 50, r34_2, kq_ret c34 101, res34_0, kq_seq c34 51, r34_3, b34_rrrllr, kq_seq c34 206, r34_4, kq_ret c34 413, kq_skip c34 207, kq_seq c34 7, r34_5, kq_seq c34 15, r34_6, kq_seq c34 31, r34_7, kq_seq c34 63, r34_8, kq_seq c34 127, kq_seq c34 254, r34_9, kq_block c34 509 1, F34_lrlrrrrrr_eq, kq_seq c34 255, kq_seq c34 510, r34_18, F34_rlrrrrrrr_eq, kq_seq c34 511, r34_20, kq_ret c34 1023, reduceIte, reduceCtorEq, XE.exit.injEq, Nat.reduceEqDiff, Nat.reduceMul, Nat.reduceAdd] <;> kernel_rfl
theorem F34_call : eInv env (k + 1) (.func 34) #[] #[x0, x1] h = F34 (eInv env k) k x0 x1 h := kq_inv F34_eq
noncomputable def c35 : Code := codeOf Try.prog 35
theorem r35_0  : kCode env 35 false inv k (cp c35 2) (act 7 [(0, x0)]) h K =
    K .normal (act 7 [(0, x0)]) h := kq_reg
theorem r35_1  : kCode env 35 false inv k (cp c35 6) (act 7 [(0, x0)]) h K =
    bnd (inv (.func 62) #[] #[x0] h) fun x4 =>
    bnd (pBuild Try.prog 77 #[(0, x4.1)]) fun x5 =>
    bnd (pBox Try.prog 77 x5 x4.2) fun x6 =>
    K .normal (act 7 [(2, x6.1)]) x6.2 := kq_reg
theorem res35_0 : resOfFn env.P 35 .ret (act 7 [(2, x2)]) h = some (x2, h) := kq_res
/-- shadowbook/octet.New -/
noncomputable def F35 (inv : Inv) (k : Nat) (x0 : Value) (h : AH) : Option (Value × AH) :=
    bnd (inv (.func 62) #[] #[x0] h) fun x4 =>
    bnd (pBuild Try.prog 77 #[(0, x4.1)]) fun x5 =>
    bnd (pBox Try.prog 77 x5 x4.2) fun x6 =>
    some (x6.1, x6.2)
theorem F35_eq : eFun env k inv 35 #[x0] h = F35 inv k x0 h := by
      refine (kq_fun (a := act 7 [(0, x0)]) (c := cp c35 1)).trans ?_
      unfold F35
      simp only [kq_seq c35 1, r35_0, kq_seq c35 3, r35_1, kq_ret c35 7, res35_0, reduceIte, reduceCtorEq, XE.exit.injEq, Nat.reduceEqDiff, Nat.reduceMul, Nat.reduceAdd] <;> kernel_rfl
theorem F35_call : eInv env (k + 1) (.func 35) #[] #[x0] h = F35 (eInv env k) k x0 h := kq_inv F35_eq
noncomputable def c36 : Code := codeOf Try.prog 36
theorem r36_0  : kCode env 36 false inv k (cp c36 2) (act 27 [(0, x0), (1, x1)]) h K =
    K .normal (act 27 [(0, x0), (1, x1)]) h := kq_reg
theorem r36_1  : kCode env 36 false inv k (cp c36 24) (act 27 [(0, x0), (1, x1)]) h K =
    bnd (pBin Try.prog .eql 55 (.tmp 9) (.const (.pointer none)) x0 (.pointer none)) fun x10 =>
    K .normal (act 27 [(0, x0), (1, x1), (8, x10)]) h := kq_reg
theorem b36_rllr  : kCode env 36 false inv k (cp c36 25) (act 27 [(0, x0), (1, x1), (8, x8)]) h K = brV x8 (kCode env 36 false inv k (cp c36 50) (act 27 [(0, x0), (1, x1), (8, x8)]) h K) (kCode env 36 false inv k (cp c36 51) (act 27 [(0, x0), (1, x1), (8, x8)]) h K) := kq_cond
theorem r36_2  : kCode env 36 false inv k (cp c36 100) (act 27 [(0, x0), (1, x1), (8, x8)]) h K =
    K .normal (act 27 [(4, (.int .u64 0)), (5, (.int .i64 1))]) h := kq_reg
theorem res36_0 : resOfFn env.P 36 .ret (act 27 [(4, x4), (5, x5)]) h = some (.tuple #[x4, x5], h) := kq_res
noncomputable abbrev G36_3 {β : Type} (inv : Inv) (x0 x1 : Value) (h : AH) (K : Value → AH → Option β) : Option β :=
    bnd (pBin Try.prog .lss 3 (.tmp 12) (.const (.int .i64 1)) x1 (.int .i64 1)) fun x13 =>
    bnd (gd (some x13) false h (some (x1, h))) fun x15 =>
    bnd (gd (some x13) false x15.2 (lt (pBin Try.prog .gtr 3 (.tmp 15) (.const (.int .i64 8)) x15.1 (.int .i64 8)) x15.2)) fun x16 =>
    bnd (pickV x13 (.bool true) x16.1) fun x17 =>
    K (x17) x16.2
theorem r36_3  : kCode env 36 false inv k (cp c36 102) (act 27 [(0, x0), (1, x1), (8, x8)]) h K =
    G36_3 inv x0 x1 h fun y11 h => K .normal (act 27 [(0, x0), (1, x1), (11, y11)]) h := kq_reg
theorem b36_rrrllr  : kCode env 36 false inv k (cp c36 103) (act 27 [(0, x0), (1, x1), (11, x11)]) h K = brV x11 (kCode env 36 false inv k (cp c36 206) (act 27 [(0, x0), (1, x1), (11, x11)]) h K) (kCode env 36 false inv k (cp c36 207) (act 27 [(0, x0), (1, x1), (11, x11)]) h K) := kq_cond
theorem r36_4  : kCode env 36 false inv k (cp c36 412) (act 27 [(0, x0), (1, x1), (11, x11)]) h K =
    K .normal (act 27 [(4, (.int .u64 0)), (5, (.int .i64 2))]) h := kq_reg
theorem r36_5  : kCode env 36 false inv k (cp c36 14) (act 27 [(0, x0), (1, x1), (11, x11)]) h K =
    bnd (inv (.func 63) #[] #[x0, x1] h) fun x21 =>
    bnd (pExtract x21.1 0) fun x22 =>
    bnd (pExtract x21.1 1) fun x23 =>
    K .normal (act 27 [(6, x22), (7, x23)]) x21.2 := kq_reg
theorem r36_6  : kCode env 36 false inv k (cp c36 30) (act 27 [(6, x6), (7, x7)]) h K =
    bnd (inv (.func 64) #[] #[x6] h) fun x25 =>
    K .normal (act 27 [(4, x25.1), (5, x7)]) x25.2 := kq_reg
/-- (*shadowbook/octet.Reader).Number -/
noncomputable def F36 (inv : Inv) (k : Nat) (x0 x1 : Value) (h : AH) : Option (Value × AH) :=
    bnd (pBin Try.prog .eql 55 (.tmp 9) (.const (.pointer none)) x0 (.pointer none)) fun x10 =>
    brV x10
    (some (.tuple #[(.int .u64 0), (.int .i64 1)], h))
    (G36_3 inv x0 x1 h fun y11 h =>
    brV y11
    (some (.tuple #[(.int .u64 0), (.int .i64 2)], h))
    (bnd (inv (.func 63) #[] #[x0, x1] h) fun x21 =>
    bnd (pExtract x21.1 0) fun x22 =>
    bnd (pExtract x21.1 1) fun x23 =>
    bnd (inv (.func 64) #[] #[x22] x21.2) fun x25 =>
    some (.tuple #[x25.1, x23], x25.2)))
theorem F36_eq : eFun env k inv 36 #[x0, x1] h = F36 inv k x0 x1 h := by
      refine (kq_fun (a := act 27 [(0, x0), (1, x1)]) (c := cp c36 1)).trans ?_
      unfold F36
      simp only [kq_seq c36 1, r36_0, kq_seq c36 3, kq_block c36 6 0, kq_seq c36 12, r36_1, b36_rllr, kq_seq c36 50, r36_2, kq_ret c36 101, res36_0, kq_seq c36 51, r36_3, b36_rrrllr, kq_seq c36 206, r36_4, kq_ret c36 413, kq_skip c36 207, kq_seq c36 7, r36_5, kq_seq c36 15, r36_6, kq_ret c36 31, reduceIte, reduceCtorEq, XE.exit.injEq, Nat.reduceEqDiff, Nat.reduceMul, Nat.reduceAdd] <;> kernel_rfl
theorem F36_call : eInv env (k + 1) (.func 36) #[] #[x0, x1] h = F36 (eInv env k) k x0 x1 h := kq_inv F36_eq
noncomputable def c37 : Code := codeOf Try.prog 37
theorem r37_0  : kCode env 37 false inv k (cp c37 2) (act 58 [(0, x0)]) h K =
    K .normal (act 58 [(0, x0), (2, (.int .u64 0))]) h := kq_reg
theorem r37_1  : kCode env 37 false inv k (cp c37 12) (act 58 [(0, x0), (2, x2)]) h K =
    bnd (pBin Try.prog .eql 55 (.tmp 7) (.const (.pointer none)) x0 (.pointer none)) fun x8 =>
    K .normal (act 58 [(0, x0), (2, x2), (8, x8)]) h := kq_reg
theorem b37_rlr  : kCode env 37 false inv k (cp c37 13) (act 58 [(0, x0), (2, x2), (8, x8)]) h K = brV x8 (kCode env 37 false inv k (cp c37 26) (act 58 [(0, x0), (2, x2), (8, x8)]) h K) (kCode env 37 false inv k (cp c37 27) (act 58 [(0, x0), (2, x2), (8, x8)]) h K) := kq_cond
theorem r37_2  : kCode env 37 false inv k (cp c37 52) (act 58 [(0, x0), (2, x2), (8, x8)]) h K =
    K .normal (act 58 [(2, (.int .u64 0)), (3, (.int .i64 1))]) h := kq_reg
theorem res37_0 : resOfFn env.P 37 .ret (act 58 [(2, x2), (3, x3)]) h = some (.tuple #[x2, x3], h) := kq_res
theorem r37_3  : kCode env 37 false inv k (cp c37 28) (act 58 [(0, x0), (2, x2), (8, x8)]) h K =
    bnd (pNilCheck x0) fun x10 =>
    bnd (pFieldAddr Try.prog 77 x10 0) fun x11 =>
    bnd (pLoad Try.prog 30 x11 h) fun x12 =>
    bnd (pLen Try.prog #[30] x12 h) fun x13 =>
    K .normal (act 58 [(0, x0), (2, x2), (12, x12), (13, x13), (14, (.int .i64 0))]) h := kq_reg
theorem r37_4  : kCode env 37 false inv k (cp c37 232) (act 58 [(0, x0), (2, x2), (12, x12), (13, x13), (14, x14)]) h K =
    bnd (pBin Try.prog .lss 3 (.tmp 14) (.tmp 13) x14 x13) fun x15 =>
    K .normal (act 58 [(0, x0), (2, x2), (12, x12), (13, x13), (14, x14), (15, x15)]) h := kq_reg
theorem b37_lrllrlrr  : kCode env 37 false inv k (cp c37 466) (act 58 [(0, x0), (2, x2), (12, x12), (13, x13), (14, x14), (15, x15)]) h K = brV x15 (kCode env 37 false inv k (cp c37 932) (act 58 [(0, x0), (2, x2), (12, x12), (13, x13), (14, x14), (15, x15)]) h K) (kCode env 37 false inv k (cp c37 933) (act 58 [(0, x0), (2, x2), (12, x12), (13, x13), (14, x14), (15, x15)]) h K) := kq_cond
theorem r37_5  : kCode env 37 false inv k (cp c37 3736) (act 58 [(0, x0), (2, x2), (12, x12), (13, x13), (14, x14), (15, x15)]) h K =
    bnd (pIndexAddr Try.prog 30 x12 x14) fun x17 =>
    bnd (pLoad Try.prog 5 x17 h) fun x18 =>
    K .normal (act 58 [(0, x0), (2, x2), (4, x14), (5, x18), (12, x12), (13, x13), (14, x14)]) h := kq_reg
theorem r37_6  : kCode env 37 false inv k (cp c37 14948) (act 58 [(0, x0), (2, x2), (4, x4), (5, x5), (12, x12), (13, x13), (14, x14)]) h K =
    bnd (pBin Try.prog .eql 3 (.tmp 19) (.const (.int .i64 10)) x4 (.int .i64 10)) fun x20 =>
    K .normal (act 58 [(0, x0), (2, x2), (4, x4), (5, x5), (12, x12), (13, x13), (14, x14), (20, x20)]) h := kq_reg
theorem b37_rlrllrrllrlrr  : kCode env 37 false inv k (cp c37 14949) (act 58 [(0, x0), (2, x2), (4, x4), (5, x5), (12, x12), (13, x13), (14, x14), (20, x20)]) h K = brV x20 (kCode env 37 false inv k (cp c37 29898) (act 58 [(0, x0), (2, x2), (4, x4), (5, x5), (12, x12), (13, x13), (14, x14), (20, x20)]) h K) (kCode env 37 false inv k (cp c37 29899) (act 58 [(0, x0), (2, x2), (4, x4), (5, x5), (12, x12), (13, x13), (14, x14), (20, x20)]) h K) := kq_cond
theorem r37_7  : kCode env 37 false inv k (cp c37 14950) (act 58 [(0, x0), (2, x2), (4, x4), (5, x5), (12, x12), (13, x13), (14, x14), (20, x20)]) h K =
    bnd (pBin Try.prog .andNot 5 (.tmp 21) (.const (.int .u8 128)) x5 (.int .u8 128)) fun x22 =>
    bnd (pConv Try.prog 5 48 x22 h) fun x23 =>
    K .normal (act 58 [(0, x0), (2, x2), (4, x4), (5, x5), (6, x23), (12, x12), (13, x13), (14, x14)]) h := kq_reg
noncomputable abbrev G37_8 {β : Type} (inv : Inv) (x0 x2 x4 x5 x6 x12 x13 x14 : Value) (h : AH) (K : Value → AH → Option β) : Option β :=
    bnd (pBin Try.prog .eql 3 (.tmp 24) (.const (.int .i64 9)) x4 (.int .i64 9)) fun x25 =>
    bnd (gd (some x25) true h (some (x6, h))) fun x27 =>
    bnd (gd (some x25) true x27.2 (lt (pBin Try.prog .gtr 48 (.tmp 27) (.const (.int .u64 1)) x27.1 (.int .u64 1)) x27.2)) fun x28 =>
    bnd (pickV x25 x28.1 (.bool false)) fun x29 =>
    K (x29) x28.2
theorem r37_8  : kCode env 37 false inv k (cp c37 59804) (act 58 [(0, x0), (2, x2), (4, x4), (5, x5), (6, x6), (12, x12), (13, x13), (14, x14)]) h K =
    G37_8 inv x0 x2 x4 x5 x6 x12 x13 x14 h fun y29 h => K .normal (act 58 [(0, x0), (2, x2), (4, x4), (5, x5), (6, x6), (12, x12), (13, x13), (14, x14), (29, y29)]) h := kq_reg
theorem b37_rlrrrllrrllrlrr  : kCode env 37 false inv k (cp c37 59805) (act 58 [(0, x0), (2, x2), (4, x4), (5, x5), (6, x6), (12, x12), (13, x13), (14, x14), (29, x29)]) h K = brV x29 (kCode env 37 false inv k (cp c37 119610) (act 58 [(0, x0), (2, x2), (4, x4), (5, x5), (6, x6), (12, x12), (13, x13), (14, x14), (29, x29)]) h K) (kCode env 37 false inv k (cp c37 119611) (act 58 [(0, x0), (2, x2), (4, x4), (5, x5), (6, x6), (12, x12), (13, x13), (14, x14), (29, x29)]) h K) := kq_cond
theorem r37_9  : kCode env 37 false inv k (cp c37 59806) (act 58 [(0, x0), (2, x2), (4, x4), (5, x5), (6, x6), (12, x12), (13, x13), (14, x14), (29, x29)]) h K =
    bnd (pBin Try.prog .mul 3 (.const (.int .i64 7)) (.tmp 32) (.int .i64 7) x4) fun x33 =>
    bnd (pBin Try.prog .shl 48 (.tmp 31) (.tmp 33) x6 x33) fun x34 =>
    bnd (pBin Try.prog .or 48 (.tmp 30) (.tmp 34) x2 x34) fun x35 =>
    K .normal (act 58 [(0, x0), (2, x35), (4, x4), (5, x5), (6, x6), (12, x12), (13, x13), (14, x14)]) h := kq_reg
theorem r37_10  : kCode env 37 false inv k (cp c37 239228) (act 58 [(0, x0), (2, x2), (4, x4), (5, x5), (6, x6), (12, x12), (13, x13), (14, x14)]) h K =
    bnd (pBin Try.prog .geq 5 (.tmp 36) (.const (.int .u8 128)) x5 (.int .u8 128)) fun x37 =>
    K .normal (act 58 [(0, x0), (2, x2), (4, x4), (6, x6), (12, x12), (13, x13), (14, x14), (37, x37)]) h := kq_reg
theorem b37_rlrrrrrllrrllrlrr  : kCode env 37 false inv k (cp c37 239229) (act 58 [(0, x0), (2, x2), (4, x4), (6, x6), (12, x12), (13, x13), (14, x14), (37, x37)]) h K = brV x37 (kCode env 37 false inv k (cp c37 478458) (act 58 [(0, x0), (2, x2), (4, x4), (6, x6), (12, x12), (13, x13), (14, x14), (37, x37)]) h K) (kCode env 37 false inv k (cp c37 478459) (act 58 [(0, x0), (2, x2), (4, x4), (6, x6), (12, x12), (13, x13), (14, x14), (37, x37)]) h K) := kq_cond
theorem r37_14  : kCode env 37 false inv k (cp c37 935) (act 58 [(0, x0), (2, x2), (4, x4), (6, x6), (12, x12), (13, x13), (14, x14), (37, x37)]) h K =
    bnd (pBin Try.prog .add 3 (.tmp 14) (.const (.int .i64 1)) x14 (.int .i64 1)) fun x55 =>
    K .normal (act 58 [(0, x0), (2, x2), (12, x12), (13, x13), (14, x55)]) h := kq_reg
noncomputable abbrev G37_11 {β : Type} (inv : Inv) (x0 x2 x4 x6 : Value) (h : AH) (K : Value → AH → Option β) : Option β :=
    bnd (pBin Try.prog .eql 48 (.tmp 38) (.const (.int .u64 0)) x6 (.int .u64 0)) fun x39 =>
    bnd (gd (some x39) true h (some (x4, h))) fun x41 =>
    bnd (gd (some x39) true x41.2 (lt (pBin Try.prog .gtr 3 (.tmp 41) (.const (.int .i64 0)) x41.1 (.int .i64 0)) x41.2)) fun x42 =>
    bnd (pickV x39 x42.1 (.bool false)) fun x43 =>
    K (x43) x42.2
theorem r37_11  : kCode env 37 false inv k (cp c37 478460) (act 58 [(0, x0), (2, x2), (4, x4), (6, x6), (12, x12), (13, x13), (14, x14), (37, x37)]) h K =
    G37_11 inv x0 x2 x4 x6 h fun y43 h => K .normal (act 58 [(0, x0), (2, x2), (4, x4), (43, y43)]) h := kq_reg
theorem b37_rlrrrrrrllrrllrlrr  : kCode env 37 false inv k (cp c37 478461) (act 58 [(0, x0), (2, x2), (4, x4), (43, x43)]) h K = brV x43 (kCode env 37 false inv k (cp c37 956922) (act 58 [(0, x0), (2, x2), (4, x4), (43, x43)]) h K) (kCode env 37 false inv k (cp c37 956923) (act 58 [(0, x0), (2, x2), (4, x4), (43, x43)]) h K) := kq_cond
noncomputable abbrev G37_12 {β : Type} (inv : Inv) (x0 x2 x4 : Value) (h : AH) (K : AH → Option β) : Option β :=
    bnd (pNilCheck x0) fun x46 =>
    bnd (pFieldAddr Try.prog 77 x46 0) fun x47 =>
    bnd (pLoad Try.prog 30 x47 h) fun x48 =>
    bnd (pBin Try.prog .add 3 (.tmp 49) (.const (.int .i64 1)) x4 (.int .i64 1)) fun x50 =>
    bnd (pSlice Try.prog 30 x48 (some x50) none none h) fun x51 =>
    bnd (pNilCheck x0) fun x52 =>
    bnd (pFieldAddr Try.prog 77 x52 0) fun x53 =>
    bnd (kSt (pStore Try.prog 30 x53 x51 h)) fun u =>
    K u.2
theorem r37_12  : kCode env 37 false inv k (cp c37 478462) (act 58 [(0, x0), (2, x2), (4, x4), (43, x43)]) h K =
    G37_12 inv x0 x2 x4 h fun  h => K .normal (act 58 [(2, x2)]) h := kq_reg
theorem r37_13  : kCode env 37 false inv k (cp c37 956926) (act 58 [(2, x2)]) h K =
    K .normal (act 58 [(2, x2), (3, (.int .i64 0))]) h := kq_reg
noncomputable def F37_lrlrr {β : Type} (inv : Inv) (k : Nat) : Nat → Value → Value → Value → Value → Value → AH → (Value → Value → Value → Value → Value → Value → Value → Value → Value → Value → Value → Value → AH → Option β) → (Value → Value → AH → Option β) → Option β
  | 0, _, _, _, _, _, _, _, _ => none
  | j + 1, x0, x2, x12, x13, x14, h, ke0, kr =>
    bnd (pBin Try.prog .lss 3 (.tmp 14) (.tmp 13) x14 x13) fun x15 =>
    brV x15
    (bnd (pIndexAddr Try.prog 30 x12 x14) fun x17 =>
    bnd (pLoad Try.prog 5 x17 h) fun x18 =>
    bnd (pBin Try.prog .eql 3 (.tmp 19) (.const (.int .i64 10)) x14 (.int .i64 10)) fun x20 =>
    brV x20
    (ke0 x0 x2 x14 x18 unk x12 x13 x14 unk x20 unk unk h)
    (bnd (pBin Try.prog .andNot 5 (.tmp 21) (.const (.int .u8 128)) x18 (.int .u8 128)) fun x22 =>
    bnd (pConv Try.prog 5 48 x22 h) fun x23 =>
    G37_8 inv x0 x2 x14 x18 x23 x12 x13 x14 h fun y29 h =>
    brV y29
    (ke0 x0 x2 x14 x18 x23 x12 x13 x14 unk unk y29 unk h)
    (bnd (pBin Try.prog .mul 3 (.const (.int .i64 7)) (.tmp 32) (.int .i64 7) x14) fun x33 =>
    bnd (pBin Try.prog .shl 48 (.tmp 31) (.tmp 33) x23 x33) fun x34 =>
    bnd (pBin Try.prog .or 48 (.tmp 30) (.tmp 34) x2 x34) fun x35 =>
    bnd (pBin Try.prog .geq 5 (.tmp 36) (.const (.int .u8 128)) x18 (.int .u8 128)) fun x37 =>
    brV x37
    (bnd (pBin Try.prog .add 3 (.tmp 14) (.const (.int .i64 1)) x14 (.int .i64 1)) fun x55 =>
    F37_lrlrr inv k j x0 x35 x12 x13 x55 h ke0 kr)
    (G37_11 inv x0 x35 x14 x23 h fun y43 h_1 =>
    brV y43
    (ke0 x0 x35 x14 unk unk unk unk unk unk unk unk y43 h_1)
    (G37_12 inv x0 x35 x14 h_1 fun  h_2 =>
    kr x35 (.int .i64 0) h_2)))))
    (ke0 x0 x2 unk unk unk x12 x13 x14 x15 unk unk unk h)
theorem F37_lrlrr_j (j : Nat) : kLoop (kCode env 37 false inv k (cp c37 116)) j (act 58 [(0, x0), (2, x2), (12, x12), (13, x13), (14, x14)]) h K = F37_lrlrr inv k j x0 x2 x12 x13 x14 h (fun y0 y2 y4 y5 y6 y12 y13 y14 y15 y20 y29 y43 h => K (.exit 0) (act 58 [(0, y0), (2, y2), (4, y4), (5, y5), (6, y6), (12, y12), (13, y13), (14, y14), (15, y15), (20, y20), (29, y29), (43, y43)]) h) (fun y2 y3 h => K .ret (act 58 [(2, y2), (3, y3)]) h) := by
      induction j generalizing x0 x2 x12 x13 x14 h with
      | zero => rfl
      | succ j ih =>
        unfold F37_lrlrr
        simp only [kLoop, kq_seq c37 116, r37_4, kq_seq c37 233, b37_lrllrlrr, kq_skip c37 932, kq_seq c37 467, kq_block c37 934 1, kq_seq c37 1868, r37_5, kq_seq c37 3737, kq_seq c37 7474, r37_6, b37_rlrllrrllrlrr, kq_exit c37 29898 0, kq_skip c37 29899, kq_seq c37 7475, r37_7, kq_seq c37 14951, kq_seq c37 29902, r37_8, b37_rlrrrllrrllrlrr, kq_exit c37 119610 0, kq_skip c37 119611, kq_seq c37 29903, r37_9, kq_seq c37 59807, kq_seq c37 119614, r37_10, b37_rlrrrrrllrrllrlrr, kq_exit c37 478458 1, r37_14, kq_skip c37 478459, kq_seq c37 119615, kq_seq c37 239230, r37_11, b37_rlrrrrrrllrrllrlrr, kq_exit c37 956922 0, kq_skip c37 956923, kq_seq c37 239231, r37_12, kq_seq c37 478463, r37_13, kq_ret c37 956927, kq_exit c37 933 0, ih, reduceIte, reduceCtorEq, XE.exit.injEq, Nat.reduceEqDiff, Nat.reduceMul, Nat.reduceAdd] <;> kernel_rfl
theorem F37_lrlrr_eq  : kCode env 37 false inv k (cp c37 58) (act 58 [(0, x0), (2, x2), (12, x12), (13, x13), (14, x14)]) h K = F37_lrlrr inv k k x0 x2 x12 x13 x14 h (fun y0 y2 y4 y5 y6 y12 y13 y14 y15 y20 y29 y43 h => K (.exit 0) (act 58 [(0, y0), (2, y2), (4, y4), (5, y5), (6, y6), (12, y12), (13, y13), (14, y14), (15, y15), (20, y20), (29, y29), (43, y43)]) h) (fun y2 y3 h => K .ret (act 58 [(2, y2), (3, y3)]) h) := kq_loop (F37_lrlrr_j k)
noncomputable def F37_rlrr {β : Type} (inv : Inv) (k : Nat) (x0 x2 x12 x13 x14 : Value) (h : AH) (kn : (Value → Value → Value → Value → Value → Value → Value → Value → Value → Value → Value → Value → AH → Option β)) (kr : (Value → Value → AH → Option β)) : Option β :=
    F37_lrlrr inv k k x0 x2 x12 x13 x14 h
    (fun y0 y2 y4 y5 y6 y12 y13 y14 y15 y20 y29 y43 h =>
    kn y0 y2 y4 y5 y6 y12 y13 y14 y15 y20 y29 y43 h)
    (fun y2_3 y3 h_4 =>
    kr y2_3 y3 h_4)
theorem F37_rlrr_eq  : kCode env 37 false inv k (cp c37 29) (act 58 [(0, x0), (2, x2), (12, x12), (13, x13), (14, x14)]) h K = F37_rlrr inv k x0 x2 x12 x13 x14 h (fun y0 y2 y4 y5 y6 y12 y13 y14 y15 y20 y29 y43 h => K .normal (act 58 [(0, y0), (2, y2), (4, y4), (5, y5), (6, y6), (12, y12), (13, y13), (14, y14), (15, y15), (20, y20), (29, y29), (43, y43)]) h) (fun y2 y3 h => K .ret (act 58 [(2, y2), (3, y3)]) h) := by
      unfold F37_rlrr
      simp only [kq_block c37 29 0, F37_lrlrr_eq, reduceIte, reduceCtorEq, XE.exit.injEq, Nat.reduceEqDiff, Nat.reduceMul, Nat.reduceAdd] <;> kernel_rfl
theorem r37_15  : kCode env 37 false inv k (cp c37 60) (act 58 [(0, x0), (2, x2), (4, x4), (5, x5), (6, x6), (12, x12), (13, x13), (14, x14), (15, x15), (20, x20), (29, x29), (43, x43)]) h K =
    bnd (inv (.func 65) #[] #[x0] h) fun x57 =>
    K .normal (act 58 [(57, x57.1)]) x57.2 := kq_reg
theorem b37_rlrrr  : kCode env 37 false inv k (cp c37 61) (act 58 [(57, x57)]) h K = brV x57 (kCode env 37 false inv k (cp c37 122) (act 58 [(57, x57)]) h K) (kCode env 37 false inv k (cp c37 123) (act 58 [(57, x57)]) h K) := kq_cond
theorem r37_16  : kCode env 37 false inv k (cp c37 244) (act 58 [(57, x57)]) h K =
    K .normal (act 58 [(2, (.int .u64 0)), (3, (.int .i64 7))]) h := kq_reg
theorem r37_17  : kCode env 37 false inv k (cp c37 62) (act 58 [(57, x57)]) h K =
    K .normal (act 58 [(2, (.int .u64 0)), (3, (.int .i64 4))]) h := kq_reg
/-- (*shadowbook/octet.Reader).Var -/
noncomputable def F37 (inv : Inv) (k : Nat) (x0 : Value) (h : AH) : Option (Value × AH) :=
    bnd (pBin Try.prog .eql 55 (.tmp 7) (.const (.pointer none)) x0 (.pointer none)) fun x8 =>
    brV x8
    (some (.tuple #[(.int .u64 0), (.int .i64 1)], h))
    (bnd (pNilCheck x0) fun x10 =>
    bnd (pFieldAddr Try.prog 77 x10 0) fun x11 =>
    bnd (pLoad Try.prog 30 x11 h) fun x12 =>
    bnd (pLen Try.prog #[30] x12 h) fun x13 =>
    F37_rlrr inv k x0 (.int .u64 0) x12 x13 (.int .i64 0) h
    (fun y0 y2 y4 y5 y6 y12 y13 y14 y15 y20 y29 y43 h =>
    bnd (inv (.func 65) #[] #[y0] h) fun x57 =>
    brV x57.1
    (some (.tuple #[(.int .u64 0), (.int .i64 7)], x57.2))
    (some (.tuple #[(.int .u64 0), (.int .i64 4)], x57.2)))
    (fun y2_5 y3 h_6 =>
    some (.tuple #[y2_5, y3], h_6)))
theorem F37_eq : eFun env k inv 37 #[x0] h = F37 inv k x0 h := by
      refine (kq_fun (a := act 58 [(0, x0)]) (c := cp c37 1)).trans ?_
      unfold F37
      simp only [kq_seq c37 1, r37_0, kq_seq c37 3, kq_seq c37 6, r37_1, b37_rlr, kq_seq c37 26, r37_2, kq_ret c37 53, res37_0, kq_skip c37 27, kq_seq c37 7, kq_seq c37 14, r37_3, F37_rlrr_eq, kq_seq c37 15, kq_seq c37 30, r37_15, b37_rlrrr, kq_seq c37 122, r37_16, kq_ret c37 245, kq_skip c37 123, kq_seq c37 31, r37_17, kq_ret c37 63, reduceIte, reduceCtorEq, XE.exit.injEq, Nat.reduceEqDiff, Nat.reduceMul, Nat.reduceAdd] <;> kernel_rfl
theorem F37_call : eInv env (k + 1) (.func 37) #[] #[x0] h = F37 (eInv env k) k x0 h := kq_inv F37_eq
noncomputable def c38 : Code := codeOf Try.prog 38
theorem r38_0  : kCode env 38 false inv k (cp c38 2) (act 41 [(0, x0), (1, x1)]) h K =
    K .normal (act 41 [(0, x0), (1, x1), (4, (.slice none 0 0))]) h := kq_reg
theorem r38_1  : kCode env 38 false inv k (cp c38 12) (act 41 [(0, x0), (1, x1), (4, x4)]) h K =
    K .normal (act 41 [(0, x0), (1, x1), (4, x4), (5, (.bool true))]) h := kq_reg
theorem r38_2  : kCode env 38 false inv k (cp c38 864) (act 41 [(0, x0), (1, x1), (4, x4), (5, x5)]) h K =
    bnd (pBin Try.prog .gtr 48 (.tmp 9) (.const (.int .u64 0)) x1 (.int .u64 0)) fun x10 =>
    K .normal (act 41 [(0, x0), (1, x1), (4, x4), (5, x5), (10, x10)]) h := kq_reg
theorem b38_rllllrrlr  : kCode env 38 false inv k (cp c38 865) (act 41 [(0, x0), (1, x1), (4, x4), (5, x5), (10, x10)]) h K = brV x10 (kCode env 38 false inv k (cp c38 1730) (act 41 [(0, x0), (1, x1), (4, x4), (5, x5), (10, x10)]) h K) (kCode env 38 false inv k (cp c38 1731) (act 41 [(0, x0), (1, x1), (4, x4), (5, x5), (10, x10)]) h K) := kq_cond
theorem r38_4  : kCode env 38 false inv k (cp c38 3464) (act 41 [(0, x0), (1, x1), (4, x4), (5, x5), (10, x10)]) h K =
    bnd (inv (.func 37) #[] #[x0] h) fun x15 =>
    bnd (pExtract x15.1 0) fun x16 =>
    bnd (pExtract x15.1 1) fun x17 =>
    K .normal (act 41 [(0, x0), (1, x1), (4, x4), (5, x5), (6, x16), (7, x17)]) x15.2 := kq_reg
noncomputable abbrev G38_5 {β : Type} (inv : Inv) (x0 x1 x4 x5 x6 x7 : Value) (h : AH) (K : Value → AH → Option β) : Option β :=
    bnd (pBin Try.prog .neq 31 (.tmp 19) (.const (.int .i64 0)) x7 (.int .i64 0)) fun x20 =>
    bnd (gd (some x20) false h (some (x6, h))) fun x22 =>
    bnd (gd (some x20) false x22.2 (lt (pBin Try.prog .gtr 48 (.tmp 22) (.const (.int .u64 65536)) x22.1 (.int .u64 65536)) x22.2)) fun x23 =>
    bnd (pickV x20 (.bool true) x23.1) fun x24 =>
    K (x24) x23.2
theorem r38_5  : kCode env 38 false inv k (cp c38 27720) (act 41 [(0, x0), (1, x1), (4, x4), (5, x5), (6, x6), (7, x7)]) h K =
    G38_5 inv x0 x1 x4 x5 x6 x7 h fun y18 h => K .normal (act 41 [(0, x0), (1, x1), (4, x4), (5, x5), (6, x6), (18, y18)]) h := kq_reg
theorem b38_rllrllrlllrrlr  : kCode env 38 false inv k (cp c38 27721) (act 41 [(0, x0), (1, x1), (4, x4), (5, x5), (6, x6), (18, x18)]) h K = brV x18 (kCode env 38 false inv k (cp c38 55442) (act 41 [(0, x0), (1, x1), (4, x4), (5, x5), (6, x6), (18, x18)]) h K) (kCode env 38 false inv k (cp c38 55443) (act 41 [(0, x0), (1, x1), (4, x4), (5, x5), (6, x6), (18, x18)]) h K) := kq_cond
theorem r38_6  : kCode env 38 false inv k (cp c38 110884) (act 41 [(0, x0), (1, x1), (4, x4), (5, x5), (6, x6), (18, x18)]) h K =
    K .normal (act 41 [(4, x4), (5, (.bool false))]) h := kq_reg
theorem r38_7  : kCode env 38 false inv k (cp c38 13862) (act 41 [(0, x0), (1, x1), (4, x4), (5, x5), (6, x6), (18, x18)]) h K =
    bnd (pConv Try.prog 48 3 x6 h) fun x28 =>
    bnd (inv (.func 66) #[] #[x0, x28] h) fun x29 =>
    bnd (pExtract x29.1 0) fun x30 =>
    bnd (pExtract x29.1 1) fun x31 =>
    K .normal (act 41 [(0, x0), (1, x1), (4, x4), (5, x5), (7, x31), (8, x30)]) x29.2 := kq_reg
theorem r38_8  : kCode env 38 false inv k (cp c38 55452) (act 41 [(0, x0), (1, x1), (4, x4), (5, x5), (7, x7), (8, x8)]) h K =
    bnd (pBin Try.prog .neq 31 (.tmp 32) (.const (.int .i64 0)) x7 (.int .i64 0)) fun x33 =>
    K .normal (act 41 [(0, x0), (1, x1), (4, x4), (5, x5), (8, x8), (33, x33)]) h := kq_reg
theorem b38_rlrrrllrlllrrlr  : kCode env 38 false inv k (cp c38 55453) (act 41 [(0, x0), (1, x1), (4, x4), (5, x5), (8, x8), (33, x33)]) h K = brV x33 (kCode env 38 false inv k (cp c38 110906) (act 41 [(0, x0), (1, x1), (4, x4), (5, x5), (8, x8), (33, x33)]) h K) (kCode env 38 false inv k (cp c38 110907) (act 41 [(0, x0), (1, x1), (4, x4), (5, x5), (8, x8), (33, x33)]) h K) := kq_cond
theorem r38_9  : kCode env 38 false inv k (cp c38 221812) (act 41 [(0, x0), (1, x1), (4, x4), (5, x5), (8, x8), (33, x33)]) h K =
    K .normal (act 41 [(4, x4), (5, (.bool false))]) h := kq_reg
theorem r38_10  : kCode env 38 false inv k (cp c38 27727) (act 41 [(0, x0), (1, x1), (4, x4), (5, x5), (8, x8), (33, x33)]) h K =
    bnd (pConv Try.prog 30 9 x8 h) fun x36 =>
    bnd (pBuildSlice Try.prog 22 1 #[(0, x36)] h) fun x37 =>
    bnd (pAppend Try.prog #[22, 22] x4 x37.1 x37.2) fun x38 =>
    K .normal (act 41 [(0, x0), (1, x1), (4, x38.1), (5, x5)]) x38.2 := kq_reg
theorem r38_3  : kCode env 38 false inv k (cp c38 867) (act 41 [(0, x0), (1, x1), (4, x4), (5, x5)]) h K =
    bnd (pBin Try.prog .sub 48 (.tmp 11) (.const (.int .u64 1)) x1 (.int .u64 1)) fun x12 =>
    K .normal (act 41 [(0, x0), (1, x12), (4, x4), (5, x5)]) h := kq_reg
noncomputable def F38_llrrlr {β : Type} (inv : Inv) (k : Nat) : Nat → Value → Value → Value → Value → AH → (Value → Value → Value → Value → Value → AH → Option β) → Option β
  | 0, _, _, _, _, _, _ => none
  | j + 1, x0, x1, x4, x5, h, ke0 =>
    bnd (pBin Try.prog .gtr 48 (.tmp 9) (.const (.int .u64 0)) x1 (.int .u64 0)) fun x10 =>
    brV x10
    (bnd (inv (.func 37) #[] #[x0] h) fun x15 =>
    bnd (pExtract x15.1 0) fun x16 =>
    bnd (pExtract x15.1 1) fun x17 =>
    G38_5 inv x0 x1 x4 x5 x16 x17 x15.2 fun y18 h =>
    brV y18
    (ke0 unk unk x4 (.bool false) unk h)
    (bnd (pConv Try.prog 48 3 x16 h) fun x28 =>
    bnd (inv (.func 66) #[] #[x0, x28] h) fun x29 =>
    bnd (pExtract x29.1 0) fun x30 =>
    bnd (pExtract x29.1 1) fun x31 =>
    bnd (pBin Try.prog .neq 31 (.tmp 32) (.const (.int .i64 0)) x31 (.int .i64 0)) fun x33 =>
    brV x33
    (ke0 unk unk x4 (.bool false) unk x29.2)
    (bnd (pConv Try.prog 30 9 x30 x29.2) fun x36 =>
    bnd (pBuildSlice Try.prog 22 1 #[(0, x36)] x29.2) fun x37 =>
    bnd (pAppend Try.prog #[22, 22] x4 x37.1 x37.2) fun x38 =>
    bnd (pBin Try.prog .sub 48 (.tmp 11) (.const (.int .u64 1)) x1 (.int .u64 1)) fun x12 =>
    F38_llrrlr inv k j x0 x12 x38.1 x5 x38.2 ke0)))
    (ke0 x0 x1 x4 x5 x10 h)
theorem F38_llrrlr_j (j : Nat) : kLoop (kCode env 38 false inv k (cp c38 216)) j (act 41 [(0, x0), (1, x1), (4, x4), (5, x5)]) h K = F38_llrrlr inv k j x0 x1 x4 x5 h (fun y0 y1 y4 y5 y10 h => K (.exit 0) (act 41 [(0, y0), (1, y1), (4, y4), (5, y5), (10, y10)]) h) := by
      induction j generalizing x0 x1 x4 x5 h with
      | zero => rfl
      | succ j ih =>
        unfold F38_llrrlr
        simp only [kLoop, kq_seq c38 216, kq_seq c38 432, r38_2, b38_rllllrrlr, kq_skip c38 1730, kq_seq c38 433, kq_block c38 866 1, kq_seq c38 1732, r38_4, kq_seq c38 3465, kq_block c38 6930 2, kq_seq c38 13860, r38_5, b38_rllrllrlllrrlr, kq_seq c38 55442, r38_6, kq_exit c38 110885 0, kq_skip c38 55443, kq_seq c38 6931, r38_7, kq_seq c38 13863, kq_seq c38 27726, r38_8, b38_rlrrrllrlllrrlr, kq_seq c38 110906, r38_9, kq_exit c38 221813 0, kq_skip c38 110907, r38_10, r38_3, kq_exit c38 1731 0, ih, reduceIte, reduceCtorEq, XE.exit.injEq, Nat.reduceEqDiff, Nat.reduceMul, Nat.reduceAdd] <;> kernel_rfl
theorem F38_llrrlr_eq  : kCode env 38 false inv k (cp c38 108) (act 41 [(0, x0), (1, x1), (4, x4), (5, x5)]) h K = F38_llrrlr inv k k x0 x1 x4 x5 h (fun y0 y1 y4 y5 y10 h => K (.exit 0) (act 41 [(0, y0), (1, y1), (4, y4), (5, y5), (10, y10)]) h) := kq_loop (F38_llrrlr_j k)
noncomputable def F38_lrrlr {β : Type} (inv : Inv) (k : Nat) (x0 x1 x4 x5 : Value) (h : AH) (kn : (Value → Value → Value → Value → Value → AH → Option β)) : Option β :=
    F38_llrrlr inv k k x0 x1 x4 x5 h
    (fun y0 y1 y4 y5 y10 h =>
    kn y0 y1 y4 y5 y10 h)
theorem F38_lrrlr_eq  : kCode env 38 false inv k (cp c38 54) (act 41 [(0, x0), (1, x1), (4, x4), (5, x5)]) h K = F38_lrrlr inv k x0 x1 x4 x5 h (fun y0 y1 y4 y5 y10 h => K .normal (act 41 [(0, y0), (1, y1), (4, y4), (5, y5), (10, y10)]) h) := by
      unfold F38_lrrlr
      simp only [kq_block c38 54 0, F38_llrrlr_eq, reduceIte, reduceCtorEq, XE.exit.injEq, Nat.reduceEqDiff, Nat.reduceMul, Nat.reduceAdd] <;> kernel_rfl
theorem r38_11  : kCode env 38 false inv k (cp c38 110) (act 41 [(0, x0), (1, x1), (4, x4), (5, x5), (10, x10)]) h K =
    K .normal (act 41 [(4, x4), (5, x5)]) h := kq_reg
theorem res38_0 : resOfFn env.P 38 .ret (act 41 [(4, x4), (5, x5)]) h = some (.tuple #[x4, x5], h) := kq_res
/-- shadowbook/texts.read -/
noncomputable def F38 (inv : Inv) (k : Nat) (x0 x1 : Value) (h : AH) : Option (Value × AH) :=
    F38_lrrlr inv k x0 x1 (.slice none 0 0) (.bool true) h
    (fun y0 y1 y4 y5 y10 h =>
    some (.tuple #[y4, y5], h))
theorem F38_eq : eFun env k inv 38 #[x0, x1] h = F38 inv k x0 x1 h := by
      refine (kq_fun (a := act 41 [(0, x0), (1, x1)]) (c := cp c38 1)).trans ?_
      unfold F38
      simp only [kq_seq c38 1, r38_0, kq_scope c38 3, kq_seq c38 6, r38_1, kq_seq c38 13, kq_label c38 26, kq_seq c38 27, F38_lrrlr_eq, kq_seq c38 55, r38_11, kq_ret c38 111, res38_0, reduceIte, reduceCtorEq, XE.exit.injEq, Nat.reduceEqDiff, Nat.reduceMul, Nat.reduceAdd] <;> kernel_rfl
theorem F38_call : eInv env (k + 1) (.func 38) #[] #[x0, x1] h = F38 (eInv env k) k x0 x1 h := kq_inv F38_eq
noncomputable def c39 : Code := codeOf Try.prog 39
theorem r39_0  : kCode env 39 false inv k (cp c39 2) (act 83 [(0, x0), (1, x1)]) h K =
    K .normal (act 83 [(0, x0), (1, x1), (4, (.slice none 0 0))]) h := kq_reg
theorem r39_1  : kCode env 39 false inv k (cp c39 6) (act 83 [(0, x0), (1, x1), (4, x4)]) h K =
    bnd (inv (.func 37) #[] #[x0] h) fun x18 =>
    bnd (pExtract x18.1 0) fun x19 =>
    bnd (pExtract x18.1 1) fun x20 =>
    K .normal (act 83 [(0, x0), (1, x1), (4, x4), (6, x19), (7, x20)]) x18.2 := kq_reg
noncomputable abbrev G39_2 {β : Type} (inv : Inv) (x0 x1 x4 x6 x7 : Value) (h : AH) (K : Value → AH → Option β) : Option β :=
    bnd (pBin Try.prog .neq 31 (.tmp 21) (.const (.int .i64 0)) x7 (.int .i64 0)) fun x22 =>
    bnd (gd (some x22) false h (some (x6, h))) fun x24 =>
    bnd (gd (some x22) false x24.2 (some (x1, x24.2))) fun x25 =>
    bnd (gd (some x22) false x25.2 (lt (pConv Try.prog 3 48 x25.1 x25.2) x25.2)) fun x26 =>
    bnd (gd (some x22) false x26.2 (lt (pBin Try.prog .gtr 48 (.tmp 24) (.tmp 26) x24.1 x26.1) x26.2)) fun x27 =>
    bnd (pickV x22 (.bool true) x27.1) fun x28 =>
    K (x28) x27.2
theorem r39_2  : kCode env 39 false inv k (cp c39 28) (act 83 [(0, x0), (1, x1), (4, x4), (6, x6), (7, x7)]) h K =
    G39_2 inv x0 x1 x4 x6 x7 h fun y28 h => K .normal (act 83 [(0, x0), (1, x1), (4, x4), (6, x6), (28, y28)]) h := kq_reg
theorem b39_rlrr  : kCode env 39 false inv k (cp c39 29) (act 83 [(0, x0), (1, x1), (4, x4), (6, x6), (28, x28)]) h K = brV x28 (kCode env 39 false inv k (cp c39 58) (act 83 [(0, x0), (1, x1), (4, x4), (6, x6), (28, x28)]) h K) (kCode env 39 false inv k (cp c39 59) (act 83 [(0, x0), (1, x1), (4, x4), (6, x6), (28, x28)]) h K) := kq_cond
theorem r39_3  : kCode env 39 false inv k (cp c39 116) (act 83 [(0, x0), (1, x1), (4, x4), (6, x6), (28, x28)]) h K =
    K .normal (act 83 [(4, (.slice none 0 0)), (5, (.bool false))]) h := kq_reg
theorem res39_0 : resOfFn env.P 39 .ret (act 83 [(4, x4), (5, x5)]) h = some (.tuple #[x4, x5], h) := kq_res
theorem r39_4  : kCode env 39 false inv k (cp c39 30) (act 83 [(0, x0), (1, x1), (4, x4), (6, x6), (28, x28)]) h K =
    bnd (inv (.func 38) #[] #[x0, x6] h) fun x32 =>
    bnd (pExtract x32.1 0) fun x33 =>
    bnd (pExtract x32.1 1) fun x34 =>
    K .normal (act 83 [(0, x0), (1, x1), (4, x4), (8, x33), (9, x34)]) x32.2 := kq_reg
theorem r39_5  : kCode env 39 false inv k (cp c39 62) (act 83 [(0, x0), (1, x1), (4, x4), (8, x8), (9, x9)]) h K =
    bnd (inv (.func 36) #[] #[x0, (.int .i64 1)] h) fun x37 =>
    bnd (pExtract x37.1 0) fun x38 =>
    bnd (pExtract x37.1 1) fun x39 =>
    K .normal (act 83 [(0, x0), (1, x1), (4, x4), (7, x39), (8, x8), (9, x9), (10, x38)]) x37.2 := kq_reg
theorem r39_6  : kCode env 39 false inv k (cp c39 252) (act 83 [(0, x0), (1, x1), (4, x4), (7, x7), (8, x8), (9, x9), (10, x10)]) h K =
    bnd (pUn Try.prog .not x9) fun x41 =>
    bnd (gd (some x41) false h (some (x7, h))) fun x43 =>
    bnd (gd (some x41) false x43.2 (lt (pBin Try.prog .neq 31 (.tmp 43) (.const (.int .i64 0)) x43.1 (.int .i64 0)) x43.2)) fun x44 =>
    bnd (pickV x41 (.bool true) x44.1) fun x45 =>
    K .normal (act 83 [(0, x0), (1, x1), (4, x4), (8, x8), (10, x10), (45, x45)]) x44.2 := kq_reg
theorem b39_rlrrrrr  : kCode env 39 false inv k (cp c39 253) (act 83 [(0, x0), (1, x1), (4, x4), (8, x8), (10, x10), (45, x45)]) h K = brV x45 (kCode env 39 false inv k (cp c39 506) (act 83 [(0, x0), (1, x1), (4, x4), (8, x8), (10, x10), (45, x45)]) h K) (kCode env 39 false inv k (cp c39 507) (act 83 [(0, x0), (1, x1), (4, x4), (8, x8), (10, x10), (45, x45)]) h K) := kq_cond
theorem r39_7  : kCode env 39 false inv k (cp c39 1012) (act 83 [(0, x0), (1, x1), (4, x4), (8, x8), (10, x10), (45, x45)]) h K =
    K .normal (act 83 [(4, (.slice none 0 0)), (5, (.bool false))]) h := kq_reg
theorem r39_8  : kCode env 39 false inv k (cp c39 254) (act 83 [(0, x0), (1, x1), (4, x4), (8, x8), (10, x10), (45, x45)]) h K =
    bnd (inv (.func 67) #[] #[x0] h) fun x49 =>
    bnd (inv (.func 66) #[] #[x0, x49.1] x49.2) fun x50 =>
    bnd (pExtract x50.1 0) fun x51 =>
    bnd (pExtract x50.1 1) fun x52 =>
    K .normal (act 83 [(1, x1), (4, x4), (8, x8), (10, x10), (11, x51)]) x50.2 := kq_reg
theorem r39_9  : kCode env 39 false inv k (cp c39 510) (act 83 [(1, x1), (4, x4), (8, x8), (10, x10), (11, x11)]) h K =
    bnd (pConv Try.prog 48 3 x10 h) fun x57 =>
    bnd (inv (.func 68) #[] #[x11, x1, x57] h) fun x58 =>
    bnd (pExtract x58.1 0) fun x59 =>
    bnd (pExtract x58.1 1) fun x60 =>
    K .normal (act 83 [(4, x4), (7, x60), (8, x8), (13, x59)]) x58.2 := kq_reg
theorem r39_10  : kCode env 39 false inv k (cp c39 2044) (act 83 [(4, x4), (7, x7), (8, x8), (13, x13)]) h K =
    bnd (pBin Try.prog .neq 31 (.tmp 61) (.const (.int .i64 0)) x7 (.int .i64 0)) fun x62 =>
    K .normal (act 83 [(4, x4), (8, x8), (13, x13), (62, x62)]) h := kq_reg
theorem b39_rlrrrrrrrr  : kCode env 39 false inv k (cp c39 2045) (act 83 [(4, x4), (8, x8), (13, x13), (62, x62)]) h K = brV x62 (kCode env 39 false inv k (cp c39 4090) (act 83 [(4, x4), (8, x8), (13, x13), (62, x62)]) h K) (kCode env 39 false inv k (cp c39 4091) (act 83 [(4, x4), (8, x8), (13, x13), (62, x62)]) h K) := kq_cond
theorem r39_11  : kCode env 39 false inv k (cp c39 8180) (act 83 [(4, x4), (8, x8), (13, x13), (62, x62)]) h K =
    K .normal (act 83 [(4, (.slice none 0 0)), (5, (.bool false))]) h := kq_reg
theorem r39_12  : kCode env 39 false inv k (cp c39 4092) (act 83 [(4, x4), (8, x8), (13, x13), (62, x62)]) h K =
    bnd (pLen Try.prog #[50] x13 h) fun x64 =>
    K .normal (act 83 [(4, x4), (8, x8), (63, x13), (64, x64), (65, (.int .i64 0))]) h := kq_reg
theorem r39_13  : kCode env 39 false inv k (cp c39 32744) (act 83 [(4, x4), (8, x8), (63, x63), (64, x64), (65, x65)]) h K =
    bnd (pBin Try.prog .lss 3 (.tmp 65) (.tmp 64) x65 x64) fun x66 =>
    K .normal (act 83 [(4, x4), (8, x8), (63, x63), (64, x64), (65, x65), (66, x66)]) h := kq_reg
theorem b39_lrllrlrrrrrrrrr  : kCode env 39 false inv k (cp c39 65490) (act 83 [(4, x4), (8, x8), (63, x63), (64, x64), (65, x65), (66, x66)]) h K = brV x66 (kCode env 39 false inv k (cp c39 130980) (act 83 [(4, x4), (8, x8), (63, x63), (64, x64), (65, x65), (66, x66)]) h K) (kCode env 39 false inv k (cp c39 130981) (act 83 [(4, x4), (8, x8), (63, x63), (64, x64), (65, x65), (66, x66)]) h K) := kq_cond
theorem r39_14  : kCode env 39 false inv k (cp c39 523928) (act 83 [(4, x4), (8, x8), (63, x63), (64, x64), (65, x65), (66, x66)]) h K =
    bnd (pIndexAddr Try.prog 50 x63 x65) fun x67 =>
    bnd (pLoad Try.prog 48 x67 h) fun x68 =>
    K .normal (act 83 [(4, x4), (8, x8), (15, x68), (63, x63), (64, x64), (65, x65)]) h := kq_reg
theorem r39_15  : kCode env 39 false inv k (cp c39 2095716) (act 83 [(4, x4), (8, x8), (15, x15), (63, x63), (64, x64), (65, x65)]) h K =
    bnd (pLen Try.prog #[22] x8 h) fun x71 =>
    bnd (pConv Try.prog 3 48 x71 h) fun x72 =>
    bnd (pBin Try.prog .geq 48 (.tmp 69) (.tmp 72) x15 x72) fun x73 =>
    K .normal (act 83 [(4, x4), (8, x8), (15, x15), (63, x63), (64, x64), (65, x65), (73, x73)]) h := kq_reg
theorem b39_rlrllrrllrlrrrrrrrrr  : kCode env 39 false inv k (cp c39 2095717) (act 83 [(4, x4), (8, x8), (15, x15), (63, x63), (64, x64), (65, x65), (73, x73)]) h K = brV x73 (kCode env 39 false inv k (cp c39 4191434) (act 83 [(4, x4), (8, x8), (15, x15), (63, x63), (64, x64), (65, x65), (73, x73)]) h K) (kCode env 39 false inv k (cp c39 4191435) (act 83 [(4, x4), (8, x8), (15, x15), (63, x63), (64, x64), (65, x65), (73, x73)]) h K) := kq_cond
theorem r39_16  : kCode env 39 false inv k (cp c39 8382868) (act 83 [(4, x4), (8, x8), (15, x15), (63, x63), (64, x64), (65, x65), (73, x73)]) h K =
    K .normal (act 83 [(4, (.slice none 0 0)), (5, (.bool false))]) h := kq_reg
theorem r39_17  : kCode env 39 false inv k (cp c39 1047859) (act 83 [(4, x4), (8, x8), (15, x15), (63, x63), (64, x64), (65, x65), (73, x73)]) h K =
    bnd (pIndexAddr Try.prog 22 x8 x15) fun x77 =>
    bnd (pLoad Try.prog 9 x77 h) fun x78 =>
    bnd (pBuildSlice Try.prog 22 1 #[(0, x78)] h) fun x79 =>
    bnd (pAppend Try.prog #[22, 22] x4 x79.1 x79.2) fun x80 =>
    K .normal (act 83 [(4, x80.1), (8, x8), (63, x63), (64, x64), (65, x65)]) x80.2 := kq_reg
theorem r39_18  : kCode env 39 false inv k (cp c39 130983) (act 83 [(4, x4), (8, x8), (63, x63), (64, x64), (65, x65)]) h K =
    bnd (pBin Try.prog .add 3 (.tmp 65) (.const (.int .i64 1)) x65 (.int .i64 1)) fun x81 =>
    K .normal (act 83 [(4, x4), (8, x8), (63, x63), (64, x64), (65, x81)]) h := kq_reg
noncomputable def F39_lrlrrrrrrrrr {β : Type} (inv : Inv) (k : Nat) : Nat → Value → Value → Value → Value → Value → AH → (Value → Value → Value → Value → Value → Value → AH → Option β) → (Value → Value → AH → Option β) → Option β
  | 0, _, _, _, _, _, _, _, _ => none
  | j + 1, x4, x8, x63, x64, x65, h, ke0, kr =>
    bnd (pBin Try.prog .lss 3 (.tmp 65) (.tmp 64) x65 x64) fun x66 =>
    brV x66
    (bnd (pIndexAddr Try.prog 50 x63 x65) fun x67 =>
    bnd (pLoad Try.prog 48 x67 h) fun x68 =>
    bnd (pLen Try.prog #[22] x8 h) fun x71 =>
    bnd (pConv Try.prog 3 48 x71 h) fun x72 =>
    bnd (pBin Try.prog .geq 48 (.tmp 69) (.tmp 72) x68 x72) fun x73 =>
    brV x73
    (kr (.slice none 0 0) (.bool false) h)
    (bnd (pIndexAddr Try.prog 22 x8 x68) fun x77 =>
    bnd (pLoad Try.prog 9 x77 h) fun x78 =>
    bnd (pBuildSlice Try.prog 22 1 #[(0, x78)] h) fun x79 =>
    bnd (pAppend Try.prog #[22, 22] x4 x79.1 x79.2) fun x80 =>
    bnd (pBin Try.prog .add 3 (.tmp 65) (.const (.int .i64 1)) x65 (.int .i64 1)) fun x81 =>
    F39_lrlrrrrrrrrr inv k j x80.1 x8 x63 x64 x81 x80.2 ke0 kr))
    (ke0 x4 x8 x63 x64 x65 x66 h)
theorem F39_lrlrrrrrrrrr_j (j : Nat) : kLoop (kCode env 39 false inv k (cp c39 16372)) j (act 83 [(4, x4), (8, x8), (63, x63), (64, x64), (65, x65)]) h K = F39_lrlrrrrrrrrr inv k j x4 x8 x63 x64 x65 h (fun y4 y8 y63 y64 y65 y66 h => K (.exit 0) (act 83 [(4, y4), (8, y8), (63, y63), (64, y64), (65, y65), (66, y66)]) h) (fun y4 y5 h => K .ret (act 83 [(4, y4), (5, y5)]) h) := by
      induction j generalizing x4 x8 x63 x64 x65 h with
      | zero => rfl
      | succ j ih =>
        unfold F39_lrlrrrrrrrrr
        simp only [kLoop, kq_seq c39 16372, r39_13, kq_seq c39 32745, b39_lrllrlrrrrrrrrr, kq_skip c39 130980, kq_seq c39 65491, kq_block c39 130982 1, kq_seq c39 261964, r39_14, kq_seq c39 523929, kq_seq c39 1047858, r39_15, b39_rlrllrrllrlrrrrrrrrr, kq_seq c39 4191434, r39_16, kq_ret c39 8382869, kq_skip c39 4191435, r39_17, r39_18, kq_exit c39 130981 0, ih, reduceIte, reduceCtorEq, XE.exit.injEq, Nat.reduceEqDiff, Nat.reduceMul, Nat.reduceAdd] <;> kernel_rfl
theorem F39_lrlrrrrrrrrr_eq  : kCode env 39 false inv k (cp c39 8186) (act 83 [(4, x4), (8, x8), (63, x63), (64, x64), (65, x65)]) h K = F39_lrlrrrrrrrrr inv k k x4 x8 x63 x64 x65 h (fun y4 y8 y63 y64 y65 y66 h => K (.exit 0) (act 83 [(4, y4), (8, y8), (63, y63), (64, y64), (65, y65), (66, y66)]) h) (fun y4 y5 h => K .ret (act 83 [(4, y4), (5, y5)]) h) := kq_loop (F39_lrlrrrrrrrrr_j k)
theorem r39_19  : kCode env 39 false inv k (cp c39 4094) (act 83 [(4, x4), (8, x8), (63, x63), (64, x64), (65, x65), (66, x66)]) h K =
    K .normal (act 83 [(4, x4), (5, (.bool true))]) h := kq_reg
/-- shadowbook/texts.words -/
noncomputable def F39 (inv : Inv) (k : Nat) (x0 x1 : Value) (h : AH) : Option (Value × AH) :=
    bnd (inv (.func 37) #[] #[x0] h) fun x18 =>
    bnd (pExtract x18.1 0) fun x19 =>
    bnd (pExtract x18.1 1) fun x20 =>
    G39_2 inv x0 x1 (.slice none 0 0) x19 x20 x18.2 fun y28 h =>
    brV y28
    (some (.tuple #[(.slice none 0 0), (.bool false)], h))
    (bnd (inv (.func 38) #[] #[x0, x19] h) fun x32 =>
    bnd (pExtract x32.1 0) fun x33 =>
    bnd (pExtract x32.1 1) fun x34 =>
    bnd (inv (.func 36) #[] #[x0, (.int .i64 1)] x32.2) fun x37 =>
    bnd (pExtract x37.1 0) fun x38 =>
    bnd (pExtract x37.1 1) fun x39 =>
    bnd (pUn Try.prog .not x34) fun x41 =>
    bnd (gd (some x41) false x37.2 (some (x39, x37.2))) fun x43 =>
    bnd (gd (some x41) false x43.2 (lt (pBin Try.prog .neq 31 (.tmp 43) (.const (.int .i64 0)) x43.1 (.int .i64 0)) x43.2)) fun x44 =>
    bnd (pickV x41 (.bool true) x44.1) fun x45 =>
    brV x45
    (some (.tuple #[(.slice none 0 0), (.bool false)], x44.2))
    (bnd (inv (.func 67) #[] #[x0] x44.2) fun x49 =>
    bnd (inv (.func 66) #[] #[x0, x49.1] x49.2) fun x50 =>
    bnd (pExtract x50.1 0) fun x51 =>
    bnd (pExtract x50.1 1) fun x52 =>
    bnd (pConv Try.prog 48 3 x38 x50.2) fun x57 =>
    bnd (inv (.func 68) #[] #[x51, x1, x57] x50.2) fun x58 =>
    bnd (pExtract x58.1 0) fun x59 =>
    bnd (pExtract x58.1 1) fun x60 =>
    bnd (pBin Try.prog .neq 31 (.tmp 61) (.const (.int .i64 0)) x60 (.int .i64 0)) fun x62 =>
    brV x62
    (some (.tuple #[(.slice none 0 0), (.bool false)], x58.2))
    (bnd (pLen Try.prog #[50] x59 x58.2) fun x64 =>
    F39_lrlrrrrrrrrr inv k k (.slice none 0 0) x33 x59 x64 (.int .i64 0) x58.2
    (fun y4 y8 y63 y64 y65 y66 h_1 =>
    some (.tuple #[y4, (.bool true)], h_1))
    (fun y4_2 y5 h_3 =>
    some (.tuple #[y4_2, y5], h_3)))))
theorem F39_eq : eFun env k inv 39 #[x0, x1] h = F39 inv k x0 x1 h := by
      refine (kq_fun (a := act 83 [(0, x0), (1, x1)]) (c := cp c39 1)).trans ?_
      unfold F39
      simp only [kq_seq c39 1, r39_0, kq_seq c39 3, r39_1, kq_seq c39 7, kq_seq c39 14, r39_2, b39_rlrr, kq_seq c39 58, r39_3, kq_ret c39 117, res39_0, kq_skip c39 59, kq_seq c39 15, r39_4, kq_seq c39 31, r39_5, kq_seq c39 63, kq_seq c39 126, r39_6, b39_rlrrrrr, kq_seq c39 506, r39_7, kq_ret c39 1013, kq_skip c39 507, kq_seq c39 127, r39_8, kq_seq c39 255, r39_9, kq_seq c39 511, kq_seq c39 1022, r39_10, b39_rlrrrrrrrr, kq_seq c39 4090, r39_11, kq_ret c39 8181, kq_skip c39 4091, kq_seq c39 1023, kq_seq c39 2046, r39_12, kq_block c39 4093 0, F39_lrlrrrrrrrrr_eq, kq_seq c39 2047, r39_19, kq_ret c39 4095, reduceIte, reduceCtorEq, XE.exit.injEq, Nat.reduceEqDiff, Nat.reduceMul, Nat.reduceAdd] <;> kernel_rfl
theorem F39_call : eInv env (k + 1) (.func 39) #[] #[x0, x1] h = F39 (eInv env k) k x0 x1 h := kq_inv F39_eq
noncomputable def c40 : Code := codeOf Try.prog 40
theorem r40_0  : kCode env 40 false inv k (cp c40 2) (act 10 [(0, x0), (1, x1)]) h K =
    K .normal (act 10 [(0, x0), (1, x1)]) h := kq_reg
theorem r40_1  : kCode env 40 false inv k (cp c40 6) (act 10 [(0, x0), (1, x1)]) h K =
    bnd (pConv Try.prog 30 9 x0 h) fun x6 =>
    bnd (pConv Try.prog 30 9 x1 h) fun x8 =>
    bnd (pBin Try.prog .eql 9 (.tmp 6) (.tmp 8) x6 x8) fun x9 =>
    K .normal (act 10 [(4, x9)]) h := kq_reg
theorem res40_0 : resOfFn env.P 40 .ret (act 10 [(4, x4)]) h = some (x4, h) := kq_res
/-- bytes.Equal -/
noncomputable def F40 (inv : Inv) (k : Nat) (x0 x1 : Value) (h : AH) : Option (Value × AH) :=
    bnd (pConv Try.prog 30 9 x0 h) fun x6 =>
    bnd (pConv Try.prog 30 9 x1 h) fun x8 =>
    bnd (pBin Try.prog .eql 9 (.tmp 6) (.tmp 8) x6 x8) fun x9 =>
    some (x9, h)
theorem F40_eq : eFun env k inv 40 #[x0, x1] h = F40 inv k x0 x1 h := by
      refine (kq_fun (a := act 10 [(0, x0), (1, x1)]) (c := cp c40 1)).trans ?_
      unfold F40
      simp only [kq_seq c40 1, r40_0, kq_seq c40 3, r40_1, kq_ret c40 7, res40_0, reduceIte, reduceCtorEq, XE.exit.injEq, Nat.reduceEqDiff, Nat.reduceMul, Nat.reduceAdd] <;> kernel_rfl
theorem F40_call : eInv env (k + 1) (.func 40) #[] #[x0, x1] h = F40 (eInv env k) k x0 x1 h := kq_inv F40_eq
noncomputable def c53 : Code := codeOf Try.prog 53
theorem r53_0  : kCode env 53 false inv k (cp c53 2) (act 14 [(0, x0), (1, x1)]) h K =
    bnd (pLoad Try.prog 40 x1 h) fun x4 =>
    bnd (pRange Try.prog 40 x4 h) fun x5 =>
    K .normal (act 14 [(0, x0), (5, x5.1)]) x5.2 := kq_reg
theorem r53_1  : kCode env 53 false inv k (cp c53 24) (act 14 [(0, x0), (5, x5), (13, x13)]) h K =
    bnd (pNext x5 false h) fun x6 =>
    bnd (pExtract x6.1 0) fun x7 =>
    K .normal (act 14 [(0, x0), (5, x5), (7, x7)]) x6.2 := kq_reg
theorem b53_lrllr  : kCode env 53 false inv k (cp c53 50) (act 14 [(0, x0), (5, x5), (7, x7)]) h K = brV x7 (kCode env 53 false inv k (cp c53 100) (act 14 [(0, x0), (5, x5), (7, x7)]) h K) (kCode env 53 false inv k (cp c53 101) (act 14 [(0, x0), (5, x5), (7, x7)]) h K) := kq_cond
theorem r53_2  : kCode env 53 false inv k (cp c53 204) (act 14 [(0, x0), (5, x5), (7, x7)]) h K =
    bnd ((none : Option (Value × AH))) fun x8 =>
    bnd (pExtract x8.1 0) fun x9 =>
    K .normal (act 14 [(0, x0), (3, x9), (5, x5)]) x8.2 := kq_reg
theorem r53_3  : kCode env 53 false inv k (cp c53 410) (act 14 [(0, x0), (3, x3), (5, x5)]) h K =
    bnd (callV inv x0 #[x3] h) fun x12 =>
    bnd (pUn Try.prog .not x12.1) fun x13 =>
    K .normal (act 14 [(0, x0), (5, x5), (13, x13)]) x12.2 := kq_reg
theorem b53_rrlrrllr  : kCode env 53 false inv k (cp c53 411) (act 14 [(0, x0), (5, x5), (13, x13)]) h K = brV x13 (kCode env 53 false inv k (cp c53 822) (act 14 [(0, x0), (5, x5), (13, x13)]) h K) (kCode env 53 false inv k (cp c53 823) (act 14 [(0, x0), (5, x5), (13, x13)]) h K) := kq_cond
noncomputable def F53_lr {β : Type} (inv : Inv) (k : Nat) : Nat → Value → Value → Value → AH → (Value → Value → Value → AH → Option β) → (Value → Value → Value → AH → Option β) → Option β
  | 0, _, _, _, _, _, _ => none
  | j + 1, x0, x5, x13, h, ke0, kr =>
    bnd (pNext x5 false h) fun x6 =>
    bnd (pExtract x6.1 0) fun x7 =>
    brV x7
    (bnd ((none : Option (Value × AH))) fun x8 =>
    bnd (pExtract x8.1 0) fun x9 =>
    bnd (callV inv x0 #[x9] x8.2) fun x12 =>
    bnd (pUn Try.prog .not x12.1) fun x13_1 =>
    brV x13_1
    (kr x0 x5 x13_1 x12.2)
    (F53_lr inv k j x0 x5 x13_1 x12.2 ke0 kr))
    (ke0 x0 x5 x7 x6.2)
theorem F53_lr_j (j : Nat) : kLoop (kCode env 53 false inv k (cp c53 12)) j (act 14 [(0, x0), (5, x5), (13, x13)]) h K = F53_lr inv k j x0 x5 x13 h (fun y0 y5 y7 h => K (.exit 0) (act 14 [(0, y0), (5, y5), (7, y7)]) h) (fun y0 y5 y13 h => K .ret (act 14 [(0, y0), (5, y5), (13, y13)]) h) := by
      induction j generalizing x0 x5 x13 h with
      | zero => rfl
      | succ j ih =>
        unfold F53_lr
        simp only [kLoop, kq_seq c53 12, r53_1, kq_seq c53 25, b53_lrllr, kq_skip c53 100, kq_block c53 51 1, kq_seq c53 102, r53_2, kq_seq c53 205, r53_3, b53_rrlrrllr, kq_ret c53 822, kq_skip c53 823, kq_exit c53 101 0, ih, reduceIte, reduceCtorEq, XE.exit.injEq, Nat.reduceEqDiff, Nat.reduceMul, Nat.reduceAdd] <;> kernel_rfl
theorem F53_lr_eq  : kCode env 53 false inv k (cp c53 6) (act 14 [(0, x0), (5, x5), (13, x13)]) h K = F53_lr inv k k x0 x5 x13 h (fun y0 y5 y7 h => K (.exit 0) (act 14 [(0, y0), (5, y5), (7, y7)]) h) (fun y0 y5 y13 h => K .ret (act 14 [(0, y0), (5, y5), (13, y13)]) h) := kq_loop (F53_lr_j k)
theorem F53_lr_eq_13  : kCode env 53 false inv k (cp c53 6) (act 14 [(0, x0), (5, x5)]) h K = F53_lr inv k k x0 x5 unk h (fun y0 y5 y7 h => K (.exit 0) (act 14 [(0, y0), (5, y5), (7, y7)]) h) (fun y0 y5 y13 h => K .ret (act 14 [(0, y0), (5, y5), (13, y13)]) h) := by
      rw [show act 14 [(0, x0), (5, x5)] = act 14 [(0, x0), (5, x5), (13, unk)] from by kernel_rfl]; exact F53_lr_eq ..
theorem res53_0 : resOfFn env.P 53 .normal (act 14 [(0, x0), (5, x5), (7, x7)]) h = some (.tuple #[], h) := kq_res
theorem res53_1 : resOfFn env.P 53 .ret (act 14 [(0, x0), (5, x5), (13, x13)]) h = some (.tuple #[], h) := kq_res
/-- maps.Keys[map[string]struct{},string,struct{}]$1 -/
noncomputable def F53 (inv : Inv) (k : Nat) (x0 x1 : Value) (h : AH) : Option (Value × AH) :=
    bnd (pLoad Try.prog 40 x1 h) fun x4 =>
    bnd (pRange Try.prog 40 x4 h) fun x5 =>
    F53_lr inv k k x0 x5.1 unk x5.2
    (fun y0 y5 y7 h =>
    some (.tuple #[], h))
    (fun y0_2 y5_3 y13 h_4 =>
    some (.tuple #[], h_4))
theorem F53_eq : eFun env k inv 53 #[x0, x1] h = F53 inv k x0 x1 h := by
      refine (kq_fun (a := act 14 [(0, x0), (1, x1)]) (c := cp c53 1)).trans ?_
      unfold F53
      simp only [kq_seq c53 1, r53_0, kq_block c53 3 0, F53_lr_eq_13, res53_0, res53_1, reduceIte, reduceCtorEq, XE.exit.injEq, Nat.reduceEqDiff, Nat.reduceMul, Nat.reduceAdd] <;> kernel_rfl
theorem F53_call : eInv env (k + 1) (.func 53) #[] #[x0, x1] h = F53 (eInv env k) k x0 x1 h := kq_inv F53_eq
noncomputable def c54 : Code := codeOf Try.prog 54
theorem r54_0  : kCode env 54 false inv k (cp c54 2) (act 9 [(0, x0), (1, x1)]) h K =
    K .normal (act 9 [(0, x0), (1, x1)]) h := kq_reg
theorem r54_1  : kCode env 54 false inv k (cp c54 6) (act 9 [(0, x0), (1, x1)]) h K =
    bnd (inv (.func 78) #[] #[x0, x1] h) fun x7 =>
    bnd (pBin Try.prog .geq 3 (.tmp 7) (.const (.int .i64 0)) x7.1 (.int .i64 0)) fun x8 =>
    K .normal (act 9 [(4, x8)]) x7.2 := kq_reg
theorem res54_0 : resOfFn env.P 54 .ret (act 9 [(4, x4)]) h = some (x4, h) := kq_res
/-- slices.ContainsFunc[[]string,string] -/
noncomputable def F54 (inv : Inv) (k : Nat) (x0 x1 : Value) (h : AH) : Option (Value × AH) :=
    bnd (inv (.func 78) #[] #[x0, x1] h) fun x7 =>
    bnd (pBin Try.prog .geq 3 (.tmp 7) (.const (.int .i64 0)) x7.1 (.int .i64 0)) fun x8 =>
    some (x8, x7.2)
theorem F54_eq : eFun env k inv 54 #[x0, x1] h = F54 inv k x0 x1 h := by
      refine (kq_fun (a := act 9 [(0, x0), (1, x1)]) (c := cp c54 1)).trans ?_
      unfold F54
      simp only [kq_seq c54 1, r54_0, kq_seq c54 3, r54_1, kq_ret c54 7, res54_0, reduceIte, reduceCtorEq, XE.exit.injEq, Nat.reduceEqDiff, Nat.reduceMul, Nat.reduceAdd] <;> kernel_rfl
theorem F54_call : eInv env (k + 1) (.func 54) #[] #[x0, x1] h = F54 (eInv env k) k x0 x1 h := kq_inv F54_eq
noncomputable def c55 : Code := codeOf Try.prog 55
theorem r55_0  : kCode env 55 false inv k (cp c55 2) (act 6 [(0, x0)]) h K =
    K .normal (act 6 [(0, x0)]) h := kq_reg
theorem r55_1  : kCode env 55 false inv k (cp c55 6) (act 6 [(0, x0)]) h K =
    bnd (pLen Try.prog #[9] x0 h) fun x4 =>
    bnd (pBin Try.prog .gtr 3 (.tmp 4) (.const (.int .i64 65536)) x4 (.int .i64 65536)) fun x5 =>
    K .normal (act 6 [(2, x5)]) h := kq_reg
theorem res55_0 : resOfFn env.P 55 .ret (act 6 [(2, x2)]) h = some (x2, h) := kq_res
/-- shadowbook/texts.check$1 -/
noncomputable def F55 (inv : Inv) (k : Nat) (x0 : Value) (h : AH) : Option (Value × AH) :=
    bnd (pLen Try.prog #[9] x0 h) fun x4 =>
    bnd (pBin Try.prog .gtr 3 (.tmp 4) (.const (.int .i64 65536)) x4 (.int .i64 65536)) fun x5 =>
    some (x5, h)
theorem F55_eq : eFun env k inv 55 #[x0] h = F55 inv k x0 h := by
      refine (kq_fun (a := act 6 [(0, x0)]) (c := cp c55 1)).trans ?_
      unfold F55
      simp only [kq_seq c55 1, r55_0, kq_seq c55 3, r55_1, kq_ret c55 7, res55_0, reduceIte, reduceCtorEq, XE.exit.injEq, Nat.reduceEqDiff, Nat.reduceMul, Nat.reduceAdd] <;> kernel_rfl
theorem F55_call : eInv env (k + 1) (.func 55) #[] #[x0] h = F55 (eInv env k) k x0 h := kq_inv F55_eq
noncomputable def c56 : Code := codeOf Try.prog 56
theorem r56_0  : kCode env 56 false inv k (cp c56 2) (act 17 [(0, x0), (1, x1)]) h K =
    K .normal (act 17 [(0, x0), (1, x1)]) h := kq_reg
noncomputable abbrev G56_1 {β : Type} (inv : Inv) (x0 x1 : Value) (h : AH) (K : Value → AH → Option β) : Option β :=
    bnd (inv (.func 79) #[] #[x0] h) fun x6 =>
    bnd (gd (some x6.1) true x6.2 (some (x1, x6.2))) fun x8 =>
    bnd (gd (some x6.1) true x8.2 (inv (.func 79) #[] #[x8.1] x8.2)) fun x9 =>
    bnd (gd (some x6.1) true x9.2 (lt (pUn Try.prog .not x9.1) x9.2)) fun x10 =>
    bnd (pickV x6.1 x10.1 (.bool false)) fun x11 =>
    bnd (gd (some x11) false x10.2 (some (x0, x10.2))) fun x13 =>
    bnd (gd (some x11) false x13.2 (some (x1, x13.2))) fun x14 =>
    bnd (gd (some x11) false x14.2 (lt (pBin Try.prog .lss 9 (.tmp 13) (.tmp 14) x13.1 x14.1) x14.2)) fun x15 =>
    bnd (pickV x11 (.bool true) x15.1) fun x16 =>
    K (x16) x15.2
theorem r56_1  : kCode env 56 false inv k (cp c56 6) (act 17 [(0, x0), (1, x1)]) h K =
    G56_1 inv x0 x1 h fun y4 h => K .normal (act 17 [(4, y4)]) h := kq_reg
theorem res56_0 : resOfFn env.P 56 .ret (act 17 [(4, x4)]) h = some (x4, h) := kq_res
/-- cmp.Less[string] -/
noncomputable def F56 (inv : Inv) (k : Nat) (x0 x1 : Value) (h : AH) : Option (Value × AH) :=
    G56_1 inv x0 x1 h fun y4 h =>
    some (y4, h)
theorem F56_eq : eFun env k inv 56 #[x0, x1] h = F56 inv k x0 x1 h := by
      refine (kq_fun (a := act 17 [(0, x0), (1, x1)]) (c := cp c56 1)).trans ?_
      unfold F56
      simp only [kq_seq c56 1, r56_0, kq_seq c56 3, r56_1, kq_ret c56 7, res56_0, reduceIte, reduceCtorEq, XE.exit.injEq, Nat.reduceEqDiff, Nat.reduceMul, Nat.reduceAdd] <;> kernel_rfl
theorem F56_call : eInv env (k + 1) (.func 56) #[] #[x0, x1] h = F56 (eInv env k) k x0 x1 h := kq_inv F56_eq
noncomputable def c57 : Code := codeOf Try.prog 57
theorem r57_0  : kCode env 57 false inv k (cp c57 2) (act 6 [(0, x0)]) h K =
    K .normal (act 6 [(0, x0)]) h := kq_reg
theorem r57_1  : kCode env 57 false inv k (cp c57 6) (act 6 [(0, x0)]) h K =
    bnd (pBin Try.prog .neq 9 (.tmp 3) (.tmp 4) x0 x0) fun x5 =>
    K .normal (act 6 [(2, x5)]) h := kq_reg
theorem res57_0 : resOfFn env.P 57 .ret (act 6 [(2, x2)]) h = some (x2, h) := kq_res
/-- slices.isNaN[string] -/
noncomputable def F57 (inv : Inv) (k : Nat) (x0 : Value) (h : AH) : Option (Value × AH) :=
    bnd (pBin Try.prog .neq 9 (.tmp 3) (.tmp 4) x0 x0) fun x5 =>
    some (x5, h)
theorem F57_eq : eFun env k inv 57 #[x0] h = F57 inv k x0 h := by
      refine (kq_fun (a := act 6 [(0, x0)]) (c := cp c57 1)).trans ?_
      unfold F57
      simp only [kq_seq c57 1, r57_0, kq_seq c57 3, r57_1, kq_ret c57 7, res57_0, reduceIte, reduceCtorEq, XE.exit.injEq, Nat.reduceEqDiff, Nat.reduceMul, Nat.reduceAdd] <;> kernel_rfl
theorem F57_call : eInv env (k + 1) (.func 57) #[] #[x0] h = F57 (eInv env k) k x0 h := kq_inv F57_eq
noncomputable def c58 : Code := codeOf Try.prog 58
theorem r58_0  : kCode env 58 false inv k (cp c58 2) (act 25 [(0, x0)]) h K =
    K .normal (act 25 [(0, x0), (2, (.int .i64 0))]) h := kq_reg
theorem r58_1  : kCode env 58 false inv k (cp c58 12) (act 25 [(0, x0), (2, x2)]) h K =
    bnd (pBin Try.prog .geq 48 (.tmp 3) (.const (.int .u64 4294967296)) x0 (.int .u64 4294967296)) fun x4 =>
    K .normal (act 25 [(0, x0), (2, x2), (4, x4)]) h := kq_reg
theorem b58_rlr  : kCode env 58 false inv k (cp c58 13) (act 25 [(0, x0), (2, x2), (4, x4)]) h K = brV x4 (kCode env 58 false inv k (cp c58 26) (act 25 [(0, x0), (2, x2), (4, x4)]) h K) (kCode env 58 false inv k (cp c58 27) (act 25 [(0, x0), (2, x2), (4, x4)]) h K) := kq_cond
theorem r58_2  : kCode env 58 false inv k (cp c58 52) (act 25 [(0, x0), (2, x2), (4, x4)]) h K =
    bnd (pBin Try.prog .shr 48 (.tmp 5) (.const (.int .u64 32)) x0 (.int .u64 32)) fun x6 =>
    K .normal (act 25 [(0, x6)]) h := kq_reg
theorem r58_3  : kCode env 58 false inv k (cp c58 53) (act 25 [(0, x0)]) h K =
    K .normal (act 25 [(0, x0), (2, (.int .i64 32))]) h := kq_reg
noncomputable def F58_rlr {β : Type} (inv : Inv) (k : Nat) (x0 x2 x4 : Value) (h : AH) (kn : (Value → Value → Value → AH → Option β)) : Option β :=
    brV x4
    (bnd (pBin Try.prog .shr 48 (.tmp 5) (.const (.int .u64 32)) x0 (.int .u64 32)) fun x6 =>
    kn x6 (.int .i64 32) unk h)
    (kn x0 x2 x4 h)
theorem F58_rlr_eq  : kCode env 58 false inv k (cp c58 13) (act 25 [(0, x0), (2, x2), (4, x4)]) h K = F58_rlr inv k x0 x2 x4 h (fun y0 y2 y4 h => K .normal (act 25 [(0, y0), (2, y2), (4, y4)]) h) := by
      unfold F58_rlr
      simp only [b58_rlr, kq_seq c58 26, r58_2, r58_3, kq_skip c58 27, reduceIte, reduceCtorEq, XE.exit.injEq, Nat.reduceEqDiff, Nat.reduceMul, Nat.reduceAdd] <;> kernel_rfl
theorem r58_4  : kCode env 58 false inv k (cp c58 28) (act 25 [(0, x0), (2, x2), (4, x4)]) h K =
    bnd (pBin Try.prog .geq 48 (.tmp 7) (.const (.int .u64 65536)) x0 (.int .u64 65536)) fun x8 =>
    K .normal (act 25 [(0, x0), (2, x2), (8, x8)]) h := kq_reg
theorem b58_rlrr  : kCode env 58 false inv k (cp c58 29) (act 25 [(0, x0), (2, x2), (8, x8)]) h K = brV x8 (kCode env 58 false inv k (cp c58 58) (act 25 [(0, x0), (2, x2), (8, x8)]) h K) (kCode env 58 false inv k (cp c58 59) (act 25 [(0, x0), (2, x2), (8, x8)]) h K) := kq_cond
theorem r58_5  : kCode env 58 false inv k (cp c58 116) (act 25 [(0, x0), (2, x2), (8, x8)]) h K =
    bnd (pBin Try.prog .shr 48 (.tmp 9) (.const (.int .u64 16)) x0 (.int .u64 16)) fun x10 =>
    K .normal (act 25 [(0, x10), (2, x2)]) h := kq_reg
theorem r58_6  : kCode env 58 false inv k (cp c58 117) (act 25 [(0, x0), (2, x2)]) h K =
    bnd (pBin Try.prog .add 3 (.tmp 11) (.const (.int .i64 16)) x2 (.int .i64 16)) fun x12 =>
    K .normal (act 25 [(0, x0), (2, x12)]) h := kq_reg
noncomputable def F58_rlrr {β : Type} (inv : Inv) (k : Nat) (x0 x2 x8 : Value) (h : AH) (kn : (Value → Value → Value → AH → Option β)) : Option β :=
    brV x8
    (bnd (pBin Try.prog .shr 48 (.tmp 9) (.const (.int .u64 16)) x0 (.int .u64 16)) fun x10 =>
    bnd (pBin Try.prog .add 3 (.tmp 11) (.const (.int .i64 16)) x2 (.int .i64 16)) fun x12 =>
    kn x10 x12 unk h)
    (kn x0 x2 x8 h)
theorem F58_rlrr_eq  : kCode env 58 false inv k (cp c58 29) (act 25 [(0, x0), (2, x2), (8, x8)]) h K = F58_rlrr inv k x0 x2 x8 h (fun y0 y2 y8 h => K .normal (act 25 [(0, y0), (2, y2), (8, y8)]) h) := by
      unfold F58_rlrr
      simp only [b58_rlrr, kq_seq c58 58, r58_5, r58_6, kq_skip c58 59, reduceIte, reduceCtorEq, XE.exit.injEq, Nat.reduceEqDiff, Nat.reduceMul, Nat.reduceAdd] <;> kernel_rfl
theorem r58_7  : kCode env 58 false inv k (cp c58 60) (act 25 [(0, x0), (2, x2), (8, x8)]) h K =
    bnd (pBin Try.prog .geq 48 (.tmp 13) (.const (.int .u64 256)) x0 (.int .u64 256)) fun x14 =>
    K .normal (act 25 [(0, x0), (2, x2), (14, x14)]) h := kq_reg
theorem b58_rlrrr  : kCode env 58 false inv k (cp c58 61) (act 25 [(0, x0), (2, x2), (14, x14)]) h K = brV x14 (kCode env 58 false inv k (cp c58 122) (act 25 [(0, x0), (2, x2), (14, x14)]) h K) (kCode env 58 false inv k (cp c58 123) (act 25 [(0, x0), (2, x2), (14, x14)]) h K) := kq_cond
theorem r58_8  : kCode env 58 false inv k (cp c58 244) (act 25 [(0, x0), (2, x2), (14, x14)]) h K =
    bnd (pBin Try.prog .shr 48 (.tmp 15) (.const (.int .u64 8)) x0 (.int .u64 8)) fun x16 =>
    K .normal (act 25 [(0, x16), (2, x2)]) h := kq_reg
theorem r58_9  : kCode env 58 false inv k (cp c58 245) (act 25 [(0, x0), (2, x2)]) h K =
    bnd (pBin Try.prog .add 3 (.tmp 17) (.const (.int .i64 8)) x2 (.int .i64 8)) fun x18 =>
    K .normal (act 25 [(0, x0), (2, x18)]) h := kq_reg
noncomputable def F58_rlrrr {β : Type} (inv : Inv) (k : Nat) (x0 x2 x14 : Value) (h : AH) (kn : (Value → Value → Value → AH → Option β)) : Option β :=
    brV x14
    (bnd (pBin Try.prog .shr 48 (.tmp 15) (.const (.int .u64 8)) x0 (.int .u64 8)) fun x16 =>
    bnd (pBin Try.prog .add 3 (.tmp 17) (.const (.int .i64 8)) x2 (.int .i64 8)) fun x18 =>
    kn x16 x18 unk h)
    (kn x0 x2 x14 h)
theorem F58_rlrrr_eq  : kCode env 58 false inv k (cp c58 61) (act 25 [(0, x0), (2, x2), (14, x14)]) h K = F58_rlrrr inv k x0 x2 x14 h (fun y0 y2 y14 h => K .normal (act 25 [(0, y0), (2, y2), (14, y14)]) h) := by
      unfold F58_rlrrr
      simp only [b58_rlrrr, kq_seq c58 122, r58_8, r58_9, kq_skip c58 123, reduceIte, reduceCtorEq, XE.exit.injEq, Nat.reduceEqDiff, Nat.reduceMul, Nat.reduceAdd] <;> kernel_rfl
noncomputable abbrev G58_10 {β : Type} (inv : Inv) (x0 x2 : Value) (h : AH) (K : Value → AH → Option β) : Option β :=
    bnd (pConv Try.prog 48 5 x0 h) fun x21 =>
    bnd (pIndex Try.prog 9 (.string { data := #[0, 1, 2, 2, 3, 3, 3, 3, 4, 4, 4, 4, 4, 4, 4, 4, 5, 5, 5, 5, 5, 5, 5, 5, 5, 5, 5, 5, 5, 5, 5, 5, 6, 6, 6, 6, 6, 6, 6, 6, 6, 6, 6, 6, 6, 6, 6, 6, 6, 6, 6, 6, 6, 6, 6, 6, 6, 6, 6, 6, 6, 6, 6, 6, 7, 7, 7, 7, 7, 7, 7, 7, 7, 7, 7, 7, 7, 7, 7, 7, 7, 7, 7, 7, 7, 7, 7, 7, 7, 7, 7, 7, 7, 7, 7, 7, 7, 7, 7, 7, 7, 7, 7, 7, 7, 7, 7, 7, 7, 7, 7, 7, 7, 7, 7, 7, 7, 7, 7, 7, 7, 7, 7, 7, 7, 7, 7, 7, 8, 8, 8, 8, 8, 8, 8, 8, 8, 8, 8, 8, 8, 8, 8, 8, 8, 8, 8, 8, 8, 8, 8, 8, 8, 8, 8, 8, 8, 8, 8, 8, 8, 8, 8, 8, 8, 8, 8, 8, 8, 8, 8, 8, 8, 8, 8, 8, 8, 8, 8, 8, 8, 8, 8, 8, 8, 8, 8, 8, 8, 8, 8, 8, 8, 8, 8, 8, 8, 8, 8, 8, 8, 8, 8, 8, 8, 8, 8, 8, 8, 8, 8, 8, 8, 8, 8, 8, 8, 8, 8, 8, 8, 8, 8, 8, 8, 8, 8, 8, 8, 8, 8, 8, 8, 8, 8, 8, 8, 8, 8, 8, 8, 8, 8, 8, 8, 8, 8, 8, 8, 8, 8, 8, 8, 8, 8, 8] }) x21) fun x22 =>
    bnd (pConv Try.prog 5 3 x22 h) fun x23 =>
    bnd (pBin Try.prog .add 3 (.tmp 19) (.tmp 23) x2 x23) fun x24 =>
    K (x24) h
theorem r58_10  : kCode env 58 false inv k (cp c58 62) (act 25 [(0, x0), (2, x2), (14, x14)]) h K =
    G58_10 inv x0 x2 h fun y2 h => K .normal (act 25 [(2, y2)]) h := kq_reg
theorem res58_0 : resOfFn env.P 58 .ret (act 25 [(2, x2)]) h = some (x2, h) := kq_res
/-- math/bits.Len64 -/
noncomputable def F58 (inv : Inv) (k : Nat) (x0 : Value) (h : AH) : Option (Value × AH) :=
    bnd (pBin Try.prog .geq 48 (.tmp 3) (.const (.int .u64 4294967296)) x0 (.int .u64 4294967296)) fun x4 =>
    F58_rlr inv k x0 (.int .i64 0) x4 h
    (fun y0 y2 y4 h =>
    bnd (pBin Try.prog .geq 48 (.tmp 7) (.const (.int .u64 65536)) y0 (.int .u64 65536)) fun x8 =>
    F58_rlrr inv k y0 y2 x8 h
    (fun y0_1 y2_2 y8 h_3 =>
    bnd (pBin Try.prog .geq 48 (.tmp 13) (.const (.int .u64 256)) y0_1 (.int .u64 256)) fun x14 =>
    F58_rlrrr inv k y0_1 y2_2 x14 h_3
    (fun y0_4 y2_5 y14 h_6 =>
    G58_10 inv y0_4 y2_5 h_6 fun y2_7 h_8 =>
    some (y2_7, h_8))))
theorem F58_eq : eFun env k inv 58 #[x0] h = F58 inv k x0 h := by
      refine (kq_fun (a := act 25 [(0, x0)]) (c := cp c58 1)).trans ?_
      unfold F58
      simp only [kq_seq c58 1, r58_0, kq_seq c58 3, kq_seq c58 6, r58_1, F58_rlr_eq, kq_seq c58 7, kq_seq c58 14, r58_4, F58_rlrr_eq, kq_seq c58 15, kq_seq c58 30, r58_7, F58_rlrrr_eq, kq_seq c58 31, r58_10, kq_ret c58 63, res58_0, reduceIte, reduceCtorEq, XE.exit.injEq, Nat.reduceEqDiff, Nat.reduceMul, Nat.reduceAdd] <;> kernel_rfl
theorem F58_call : eInv env (k + 1) (.func 58) #[] #[x0] h = F58 (eInv env k) k x0 h := kq_inv F58_eq
noncomputable def c59 : Code := codeOf Try.prog 59
theorem r59_0  : kCode env 59 false inv k (cp c59 2) (act 19 [(0, x0), (1, x1)]) h K =
    K .normal (act 19 [(0, x0), (1, x1)]) h := kq_reg
noncomputable abbrev G59_1 {β : Type} (inv : Inv) (x0 x1 : Value) (h : AH) (K : Value → AH → Option β) : Option β :=
    bnd (pBin Try.prog .geq 3 (.tmp 5) (.const (.int .i64 0)) x0 (.int .i64 0)) fun x6 =>
    bnd (gd (some x6) true h (some (x0, h))) fun x8 =>
    bnd (gd (some x6) true x8.2 (lt (pBin Try.prog .leq 3 (.tmp 8) (.const (.int .i64 65536)) x8.1 (.int .i64 65536)) x8.2)) fun x9 =>
    bnd (pickV x6 x9.1 (.bool false)) fun x10 =>
    bnd (gd (some x10) true x9.2 (some (x1, x9.2))) fun x12 =>
    bnd (gd (some x10) true x12.2 (lt (pBin Try.prog .geq 3 (.tmp 12) (.const (.int .i64 0)) x12.1 (.int .i64 0)) x12.2)) fun x13 =>
    bnd (pickV x10 x13.1 (.bool false)) fun x14 =>
    bnd (gd (some x14) true x13.2 (some (x1, x13.2))) fun x16 =>
    bnd (gd (some x14) true x16.2 (lt (pBin Try.prog .leq 3 (.tmp 16) (.const (.int .i64 64)) x16.1 (.int .i64 64)) x16.2)) fun x17 =>
    bnd (pickV x14 x17.1 (.bool false)) fun x18 =>
    K (x18) x17.2
theorem r59_1  : kCode env 59 false inv k (cp c59 6) (act 19 [(0, x0), (1, x1)]) h K =
    G59_1 inv x0 x1 h fun y4 h => K .normal (act 19 [(4, y4)]) h := kq_reg
theorem res59_0 : resOfFn env.P 59 .ret (act 19 [(4, x4)]) h = some (x4, h) := kq_res
/-- shadowbook/packs.may -/
noncomputable def F59 (inv : Inv) (k : Nat) (x0 x1 : Value) (h : AH) : Option (Value × AH) :=
    G59_1 inv x0 x1 h fun y4 h =>
    some (y4, h)
theorem F59_eq : eFun env k inv 59 #[x0, x1] h = F59 inv k x0 x1 h := by
      refine (kq_fun (a := act 19 [(0, x0), (1, x1)]) (c := cp c59 1)).trans ?_
      unfold F59
      simp only [kq_seq c59 1, r59_0, kq_seq c59 3, r59_1, kq_ret c59 7, res59_0, reduceIte, reduceCtorEq, XE.exit.injEq, Nat.reduceEqDiff, Nat.reduceMul, Nat.reduceAdd] <;> kernel_rfl
theorem F59_call : eInv env (k + 1) (.func 59) #[] #[x0, x1] h = F59 (eInv env k) k x0 x1 h := kq_inv F59_eq
noncomputable def c60 : Code := codeOf Try.prog 60
theorem r60_0  : kCode env 60 false inv k (cp c60 2) (act 15 [(0, x0), (1, x1)]) h K =
    K .normal (act 15 [(0, x0), (1, x1)]) h := kq_reg
theorem r60_1  : kCode env 60 false inv k (cp c60 12) (act 15 [(0, x0), (1, x1)]) h K =
    bnd (inv (.func 59) #[] #[x0, x1] h) fun x7 =>
    bnd (pUn Try.prog .not x7.1) fun x8 =>
    K .normal (act 15 [(0, x0), (1, x1), (8, x8)]) x7.2 := kq_reg
theorem b60_rlr  : kCode env 60 false inv k (cp c60 13) (act 15 [(0, x0), (1, x1), (8, x8)]) h K = brV x8 (kCode env 60 false inv k (cp c60 26) (act 15 [(0, x0), (1, x1), (8, x8)]) h K) (kCode env 60 false inv k (cp c60 27) (act 15 [(0, x0), (1, x1), (8, x8)]) h K) := kq_cond
theorem r60_2  : kCode env 60 false inv k (cp c60 52) (act 15 [(0, x0), (1, x1), (8, x8)]) h K =
    K .normal (act 15 [(4, (.int .i64 0))]) h := kq_reg
theorem res60_0 : resOfFn env.P 60 .ret (act 15 [(4, x4)]) h = some (x4, h) := kq_res
noncomputable abbrev G60_3 {β : Type} (inv : Inv) (x0 x1 : Value) (h : AH) (K : Value → AH → Option β) : Option β :=
    bnd (pBin Try.prog .mul 3 (.tmp 9) (.tmp 10) x0 x1) fun x11 =>
    bnd (pBin Try.prog .add 3 (.tmp 11) (.const (.int .i64 8)) x11 (.int .i64 8)) fun x12 =>
    bnd (pBin Try.prog .sub 3 (.tmp 12) (.const (.int .i64 1)) x12 (.int .i64 1)) fun x13 =>
    bnd (pBin Try.prog .quo 3 (.tmp 13) (.const (.int .i64 8)) x13 (.int .i64 8)) fun x14 =>
    K (x14) h
theorem r60_3  : kCode env 60 false inv k (cp c60 14) (act 15 [(0, x0), (1, x1), (8, x8)]) h K =
    G60_3 inv x0 x1 h fun y4 h => K .normal (act 15 [(4, y4)]) h := kq_reg
/-- shadowbook/packs.Size -/
noncomputable def F60 (inv : Inv) (k : Nat) (x0 x1 : Value) (h : AH) : Option (Value × AH) :=
    bnd (inv (.func 59) #[] #[x0, x1] h) fun x7 =>
    bnd (pUn Try.prog .not x7.1) fun x8 =>
    brV x8
    (some ((.int .i64 0), x7.2))
    (G60_3 inv x0 x1 x7.2 fun y4 h =>
    some (y4, h))
theorem F60_eq : eFun env k inv 60 #[x0, x1] h = F60 inv k x0 x1 h := by
      refine (kq_fun (a := act 15 [(0, x0), (1, x1)]) (c := cp c60 1)).trans ?_
      unfold F60
      simp only [kq_seq c60 1, r60_0, kq_seq c60 3, kq_seq c60 6, r60_1, b60_rlr, kq_seq c60 26, r60_2, kq_ret c60 53, res60_0, kq_skip c60 27, kq_seq c60 7, r60_3, kq_ret c60 15, reduceIte, reduceCtorEq, XE.exit.injEq, Nat.reduceEqDiff, Nat.reduceMul, Nat.reduceAdd] <;> kernel_rfl
theorem F60_call : eInv env (k + 1) (.func 60) #[] #[x0, x1] h = F60 (eInv env k) k x0 x1 h := kq_inv F60_eq
noncomputable def c61 : Code := codeOf Try.prog 61
theorem r61_0  : kCode env 61 false inv k (cp c61 2) (act 18 [(0, x0), (1, x1), (2, x2), (3, x3)]) h K =
    bnd (pLoad Try.prog 5 x1 h) fun x5 =>
    bnd (pLoad Try.prog 3 x2 h) fun x7 =>
    bnd (pBin Try.prog .shl 5 (.tmp 6) (.tmp 7) x0 x7) fun x8 =>
    bnd (pBin Try.prog .or 5 (.tmp 5) (.tmp 8) x5 x8) fun x9 =>
    bnd (kSt (pStore Try.prog 5 x1 x9 h)) fun u =>
    K .normal (act 18 [(1, x1), (2, x2), (3, x3)]) u.2 := kq_draw
theorem r61_1  : kCode env 61 false inv k (cp c61 6) (act 18 [(1, x1), (2, x2), (3, x3)]) h K =
    bnd (pLoad Try.prog 3 x2 h) fun x10 =>
    bnd (pBin Try.prog .add 3 (.tmp 10) (.const (.int .i64 1)) x10 (.int .i64 1)) fun x11 =>
    bnd (kSt (pStore Try.prog 3 x2 x11 h)) fun u =>
    K .normal (act 18 [(1, x1), (2, x2), (3, x3)]) u.2 := kq_reg
theorem r61_2  : kCode env 61 false inv k (cp c61 14) (act 18 [(1, x1), (2, x2), (3, x3)]) h K =
    bnd (pLoad Try.prog 3 x2 h) fun x12 =>
    bnd (pBin Try.prog .eql 3 (.tmp 12) (.const (.int .i64 8)) x12 (.int .i64 8)) fun x13 =>
    K .normal (act 18 [(1, x1), (2, x2), (3, x3), (13, x13)]) h := kq_reg
theorem b61_rrr  : kCode env 61 false inv k (cp c61 15) (act 18 [(1, x1), (2, x2), (3, x3), (13, x13)]) h K = brV x13 (kCode env 61 false inv k (cp c61 30) (act 18 [(1, x1), (2, x2), (3, x3), (13, x13)]) h K) (kCode env 61 false inv k (cp c61 31) (act 18 [(1, x1), (2, x2), (3, x3), (13, x13)]) h K) := kq_cond
theorem r61_3  : kCode env 61 false inv k (cp c61 60) (act 18 [(1, x1), (2, x2), (3, x3), (13, x13)]) h K =
    bnd (pLoad Try.prog 30 x3 h) fun x14 =>
    bnd (pLoad Try.prog 5 x1 h) fun x15 =>
    bnd (pBuildSlice Try.prog 30 1 #[(0, x15)] h) fun x16 =>
    bnd (pAppend Try.prog #[30, 30] x14 x16.1 x16.2) fun x17 =>
    bnd (kSt (pStore Try.prog 30 x3 x17.1 x17.2)) fun u =>
    K .normal (act 18 [(1, x1), (2, x2)]) u.2 := kq_reg
theorem r61_4  : kCode env 61 false inv k (cp c61 61) (act 18 [(1, x1), (2, x2)]) h K =
    bnd (kSt (pStore Try.prog 5 x1 (.int .u8 0) h)) fun u =>
    bnd (kSt (pStore Try.prog 3 x2 (.int .i64 0) u.2)) fun u_3 =>
    K .normal (act 18 []) u_3.2 := kq_reg
theorem res61_0 : resOfFn env.P 61 .normal (act 18 []) h = some (.tuple #[], h) := kq_res
theorem res61_1 : resOfFn env.P 61 .normal (act 18 [(1, x1), (2, x2), (3, x3), (13, x13)]) h = some (.tuple #[], h) := kq_res
/-- shadowbook/packs.Put$1 -/
noncomputable def F61 (inv : Inv) (k : Nat) (x0 x1 x2 x3 : Value) (h : AH) : Option (Value × AH) :=
    bnd (pLoad Try.prog 5 x1 h) fun x5 =>
    bnd (pLoad Try.prog 3 x2 h) fun x7 =>
    bnd (pBin Try.prog .shl 5 (.tmp 6) (.tmp 7) x0 x7) fun x8 =>
    bnd (pBin Try.prog .or 5 (.tmp 5) (.tmp 8) x5 x8) fun x9 =>
    bnd (kSt (pStore Try.prog 5 x1 x9 h)) fun u =>
    bnd (pLoad Try.prog 3 x2 u.2) fun x10 =>
    bnd (pBin Try.prog .add 3 (.tmp 10) (.const (.int .i64 1)) x10 (.int .i64 1)) fun x11 =>
    bnd (kSt (pStore Try.prog 3 x2 x11 u.2)) fun u_1 =>
    bnd (pLoad Try.prog 3 x2 u_1.2) fun x12 =>
    bnd (pBin Try.prog .eql 3 (.tmp 12) (.const (.int .i64 8)) x12 (.int .i64 8)) fun x13 =>
    brV x13
    (bnd (pLoad Try.prog 30 x3 u_1.2) fun x14 =>
    bnd (pLoad Try.prog 5 x1 u_1.2) fun x15 =>
    bnd (pBuildSlice Try.prog 30 1 #[(0, x15)] u_1.2) fun x16 =>
    bnd (pAppend Try.prog #[30, 30] x14 x16.1 x16.2) fun x17 =>
    bnd (kSt (pStore Try.prog 30 x3 x17.1 x17.2)) fun u_2 =>
    bnd (kSt (pStore Try.prog 5 x1 (.int .u8 0) u_2.2)) fun u_4 =>
    bnd (kSt (pStore Try.prog 3 x2 (.int .i64 0) u_4.2)) fun u_5 =>
    some (.tuple #[], u_5.2))
    (some (.tuple #[], u_1.2))
theorem F61_eq : eFun env k inv 61 #[x0, x1, x2, x3] h = F61 inv k x0 x1 x2 x3 h := by
      refine (kq_fun (a := act 18 [(0, x0), (1, x1), (2, x2), (3, x3)]) (c := cp c61 1)).trans ?_
      unfold F61
      simp only [kq_seq c61 1, r61_0, kq_seq c61 3, r61_1, kq_seq c61 7, r61_2, b61_rrr, kq_seq c61 30, r61_3, r61_4, res61_0, kq_skip c61 31, res61_1, reduceIte, reduceCtorEq, XE.exit.injEq, Nat.reduceEqDiff, Nat.reduceMul, Nat.reduceAdd] <;> kernel_rfl
theorem F61_call : eInv env (k + 1) (.func 61) #[] #[x0, x1, x2, x3] h = F61 (eInv env k) k x0 x1 x2 x3 h := kq_inv F61_eq
noncomputable def c62 : Code := codeOf Try.prog 62
theorem r62_0  : kCode env 62 false inv k (cp c62 2) (act 8 [(0, x0)]) h K =
    K .normal (act 8 [(0, x0)]) h := kq_reg
theorem r62_1  : kCode env 62 false inv k (cp c62 12) (act 8 [(0, x0)]) h K =
    bnd (pBin Try.prog .eql 30 (.tmp 3) (.const (.slice none 0 0)) x0 (.slice none 0 0)) fun x4 =>
    K .normal (act 8 [(0, x0), (4, x4)]) h := kq_reg
theorem b62_rlr  : kCode env 62 false inv k (cp c62 13) (act 8 [(0, x0), (4, x4)]) h K = brV x4 (kCode env 62 false inv k (cp c62 26) (act 8 [(0, x0), (4, x4)]) h K) (kCode env 62 false inv k (cp c62 27) (act 8 [(0, x0), (4, x4)]) h K) := kq_cond
theorem r62_2  : kCode env 62 false inv k (cp c62 52) (act 8 [(0, x0), (4, x4)]) h K =
    K .normal (act 8 [(2, (.slice none 0 0))]) h := kq_reg
theorem res62_0 : resOfFn env.P 62 .ret (act 8 [(2, x2)]) h = some (x2, h) := kq_res
theorem r62_3  : kCode env 62 false inv k (cp c62 14) (act 8 [(0, x0), (4, x4)]) h K =
    bnd (pBuildSlice Try.prog 30 0 #[] h) fun x5 =>
    bnd (pAppend Try.prog #[30, 30] x5.1 x0 x5.2) fun x7 =>
    K .normal (act 8 [(2, x7.1)]) x7.2 := kq_reg
/-- slices.Clone[[]byte,byte] -/
noncomputable def F62 (inv : Inv) (k : Nat) (x0 : Value) (h : AH) : Option (Value × AH) :=
    bnd (pBin Try.prog .eql 30 (.tmp 3) (.const (.slice none 0 0)) x0 (.slice none 0 0)) fun x4 =>
    brV x4
    (some ((.slice none 0 0), h))
    (bnd (pBuildSlice Try.prog 30 0 #[] h) fun x5 =>
    bnd (pAppend Try.prog #[30, 30] x5.1 x0 x5.2) fun x7 =>
    some (x7.1, x7.2))
theorem F62_eq : eFun env k inv 62 #[x0] h = F62 inv k x0 h := by
      refine (kq_fun (a := act 8 [(0, x0)]) (c := cp c62 1)).trans ?_
      unfold F62
      simp only [kq_seq c62 1, r62_0, kq_seq c62 3, kq_seq c62 6, r62_1, b62_rlr, kq_seq c62 26, r62_2, kq_ret c62 53, res62_0, kq_skip c62 27, kq_seq c62 7, r62_3, kq_ret c62 15, reduceIte, reduceCtorEq, XE.exit.injEq, Nat.reduceEqDiff, Nat.reduceMul, Nat.reduceAdd] <;> kernel_rfl
theorem F62_call : eInv env (k + 1) (.func 62) #[] #[x0] h = F62 (eInv env k) k x0 h := kq_inv F62_eq
noncomputable def c63 : Code := codeOf Try.prog 63
theorem r63_0  : kCode env 63 false inv k (cp c63 2) (act 31 [(0, x0), (1, x1)]) h K =
    K .normal (act 31 [(0, x0), (1, x1)]) h := kq_reg
theorem r63_1  : kCode env 63 false inv k (cp c63 12) (act 31 [(0, x0), (1, x1)]) h K =
    bnd (pNilCheck x0) fun x8 =>
    bnd (pFieldAddr Try.prog 77 x8 0) fun x9 =>
    bnd (pLoad Try.prog 30 x9 h) fun x10 =>
    bnd (pLen Try.prog #[30] x10 h) fun x11 =>
    bnd (pBin Try.prog .lss 3 (.tmp 11) (.tmp 12) x11 x1) fun x13 =>
    K .normal (act 31 [(0, x0), (1, x1), (13, x13)]) h := kq_reg
theorem b63_rlr  : kCode env 63 false inv k (cp c63 13) (act 31 [(0, x0), (1, x1), (13, x13)]) h K = brV x13 (kCode env 63 false inv k (cp c63 26) (act 31 [(0, x0), (1, x1), (13, x13)]) h K) (kCode env 63 false inv k (cp c63 27) (act 31 [(0, x0), (1, x1), (13, x13)]) h K) := kq_cond
theorem r63_2  : kCode env 63 false inv k (cp c63 52) (act 31 [(0, x0), (1, x1), (13, x13)]) h K =
    K .normal (act 31 [(4, (.slice none 0 0)), (5, (.int .i64 7))]) h := kq_reg
theorem res63_0 : resOfFn env.P 63 .ret (act 31 [(4, x4), (5, x5)]) h = some (.tuple #[x4, x5], h) := kq_res
theorem r63_3  : kCode env 63 false inv k (cp c63 14) (act 31 [(0, x0), (1, x1), (13, x13)]) h K =
    bnd (pNilCheck x0) fun x15 =>
    bnd (pFieldAddr Try.prog 77 x15 0) fun x16 =>
    bnd (pLoad Try.prog 30 x16 h) fun x17 =>
    bnd (pSlice Try.prog 30 x17 none (some x1) (some x1) h) fun x20 =>
    K .normal (act 31 [(0, x0), (1, x1), (6, x20)]) h := kq_reg
theorem r63_4  : kCode env 63 false inv k (cp c63 30) (act 31 [(0, x0), (1, x1), (6, x6)]) h K =
    bnd (pNilCheck x0) fun x23 =>
    bnd (pFieldAddr Try.prog 77 x23 0) fun x24 =>
    bnd (pLoad Try.prog 30 x24 h) fun x25 =>
    bnd (pSlice Try.prog 30 x25 (some x1) none none h) fun x27 =>
    bnd (pNilCheck x0) fun x28 =>
    bnd (pFieldAddr Try.prog 77 x28 0) fun x29 =>
    bnd (kSt (pStore Try.prog 30 x29 x27 h)) fun u =>
    K .normal (act 31 [(6, x6)]) u.2 := kq_reg
theorem r63_5  : kCode env 63 false inv k (cp c63 62) (act 31 [(6, x6)]) h K =
    K .normal (act 31 [(4, x6), (5, (.int .i64 0))]) h := kq_reg
/-- (*shadowbook/octet.Reader).take -/
noncomputable def F63 (inv : Inv) (k : Nat) (x0 x1 : Value) (h : AH) : Option (Value × AH) :=
    bnd (pNilCheck x0) fun x8 =>
    bnd (pFieldAddr Try.prog 77 x8 0) fun x9 =>
    bnd (pLoad Try.prog 30 x9 h) fun x10 =>
    bnd (pLen Try.prog #[30] x10 h) fun x11 =>
    bnd (pBin Try.prog .lss 3 (.tmp 11) (.tmp 12) x11 x1) fun x13 =>
    brV x13
    (some (.tuple #[(.slice none 0 0), (.int .i64 7)], h))
    (bnd (pNilCheck x0) fun x15 =>
    bnd (pFieldAddr Try.prog 77 x15 0) fun x16 =>
    bnd (pLoad Try.prog 30 x16 h) fun x17 =>
    bnd (pSlice Try.prog 30 x17 none (some x1) (some x1) h) fun x20 =>
    bnd (pNilCheck x0) fun x23 =>
    bnd (pFieldAddr Try.prog 77 x23 0) fun x24 =>
    bnd (pLoad Try.prog 30 x24 h) fun x25 =>
    bnd (pSlice Try.prog 30 x25 (some x1) none none h) fun x27 =>
    bnd (pNilCheck x0) fun x28 =>
    bnd (pFieldAddr Try.prog 77 x28 0) fun x29 =>
    bnd (kSt (pStore Try.prog 30 x29 x27 h)) fun u =>
    some (.tuple #[x20, (.int .i64 0)], u.2))
theorem F63_eq : eFun env k inv 63 #[x0, x1] h = F63 inv k x0 x1 h := by
      refine (kq_fun (a := act 31 [(0, x0), (1, x1)]) (c := cp c63 1)).trans ?_
      unfold F63
      simp only [kq_seq c63 1, r63_0, kq_seq c63 3, kq_seq c63 6, r63_1, b63_rlr, kq_seq c63 26, r63_2, kq_ret c63 53, res63_0, kq_skip c63 27, kq_seq c63 7, r63_3, kq_seq c63 15, r63_4, kq_seq c63 31, r63_5, kq_ret c63 63, reduceIte, reduceCtorEq, XE.exit.injEq, Nat.reduceEqDiff, Nat.reduceMul, Nat.reduceAdd] <;> kernel_rfl
theorem F63_call : eInv env (k + 1) (.func 63) #[] #[x0, x1] h = F63 (eInv env k) k x0 x1 h := kq_inv F63_eq
noncomputable def c64 : Code := codeOf Try.prog 64
theorem r64_0  : kCode env 64 false inv k (cp c64 2) (act 18 [(0, x0)]) h K =
    bnd (pAlloc Try.prog 48 h) fun x2 =>
    K .normal (act 18 [(0, x0), (2, x2.1)]) x2.2 := kq_reg
theorem r64_1  : kCode env 64 false inv k (cp c64 12) (act 18 [(0, x0), (2, x2)]) h K =
    bnd (pLen Try.prog #[30] x0 h) fun x6 =>
    bnd (pBin Try.prog .gtr 3 (.tmp 6) (.const (.int .i64 8)) x6 (.int .i64 8)) fun x7 =>
    K .normal (act 18 [(0, x0), (2, x2), (7, x7)]) h := kq_reg
theorem b64_rlr  : kCode env 64 false inv k (cp c64 13) (act 18 [(0, x0), (2, x2), (7, x7)]) h K = brV x7 (kCode env 64 false inv k (cp c64 26) (act 18 [(0, x0), (2, x2), (7, x7)]) h K) (kCode env 64 false inv k (cp c64 27) (act 18 [(0, x0), (2, x2), (7, x7)]) h K) := kq_cond
theorem r64_2  : kCode env 64 false inv k (cp c64 52) (act 18 [(0, x0), (2, x2), (7, x7)]) h K =
    bnd (kSt (pStore Try.prog 48 x2 (.int .u64 0) h)) fun u =>
    K .normal (act 18 [(2, x2)]) u.2 := kq_reg
theorem res64_0 : resOfFn env.P 64 .ret (act 18 [(2, x2)]) h = bnd (pLoad Try.prog 48 x2 h) fun q0 =>
    some (q0, h) := kq_res
theorem r64_3  : kCode env 64 false inv k (cp c64 28) (act 18 [(0, x0), (2, x2), (7, x7)]) h K =
    bnd (inv (.func 80) #[] #[x0] h) fun x9 =>
    K .normal (act 18 [(2, x2), (9, x9.1)]) x9.2 := kq_reg
theorem g64_lrlrr  : kCode env 64 false inv k (cp c64 58) (act 18 [(2, x2), (9, x9)]) h K = kRange env 64 inv x9 (psOf (cp c64 58)) (cp c64 116) (cp c64 117) (act 18 [(2, x2), (9, x9)]) h fun e h => sw e (K .normal (act 18 [(2, x2), (9, x9)]) h) (none) [] := kq_range (g := x9) (ids := [])
noncomputable def F64_rlrr {β : Type} (inv : Inv) (k : Nat) (x2 x9 : Value) (h : AH) (kn : (Value → Value → AH → Option β)) : Option β :=
    kRange env 64 inv x9 (psOf (cp c64 58)) (cp c64 116) (cp c64 117) (act 18 [(2, x2), (9, x9)]) h fun e h => sw e
    (kn x2 x9 h)
    none []
theorem F64_rlrr_eq  : kCode env 64 false inv k (cp c64 29) (act 18 [(2, x2), (9, x9)]) h K = F64_rlrr inv k x2 x9 h (fun y2 y9 h => K .normal (act 18 [(2, y2), (9, y9)]) h) := by
      unfold F64_rlrr
      simp only [kq_block c64 29 0, g64_lrlrr, reduceIte, reduceCtorEq, XE.exit.injEq, Nat.reduceEqDiff, Nat.reduceMul, Nat.reduceAdd] <;> kernel_rfl
theorem r64_6  : kCode env 64 false inv k (cp c64 30) (act 18 [(2, x2), (9, x9)]) h K =
    bnd (pLoad Try.prog 48 x2 h) fun x17 =>
    bnd (kSt (pStore Try.prog 48 x2 x17 h)) fun u =>
    K .normal (act 18 [(2, x2)]) u.2 := kq_reg
/-- shadowbook/octet.Of -/
noncomputable def F64 (inv : Inv) (k : Nat) (x0 : Value) (h : AH) : Option (Value × AH) :=
    bnd (pAlloc Try.prog 48 h) fun x2 =>
    bnd (pLen Try.prog #[30] x0 x2.2) fun x6 =>
    bnd (pBin Try.prog .gtr 3 (.tmp 6) (.const (.int .i64 8)) x6 (.int .i64 8)) fun x7 =>
    brV x7
    (bnd (kSt (pStore Try.prog 48 x2.1 (.int .u64 0) x2.2)) fun u =>
    bnd (pLoad Try.prog 48 x2.1 u.2) fun q0 =>
    some (q0, u.2))
    (bnd (inv (.func 80) #[] #[x0] x2.2) fun x9 =>
    F64_rlrr inv k x2.1 x9.1 x9.2
    (fun y2 y9 h =>
    bnd (pLoad Try.prog 48 y2 h) fun x17 =>
    bnd (kSt (pStore Try.prog 48 y2 x17 h)) fun u_1 =>
    bnd (pLoad Try.prog 48 y2 u_1.2) fun q0 =>
    some (q0, u_1.2)))
theorem F64_eq : eFun env k inv 64 #[x0] h = F64 inv k x0 h := by
      refine (kq_fun (a := act 18 [(0, x0)]) (c := cp c64 1)).trans ?_
      unfold F64
      simp only [kq_seq c64 1, r64_0, kq_seq c64 3, kq_seq c64 6, r64_1, b64_rlr, kq_seq c64 26, r64_2, kq_ret c64 53, res64_0, kq_skip c64 27, kq_seq c64 7, kq_seq c64 14, r64_3, F64_rlrr_eq, kq_seq c64 15, r64_6, kq_ret c64 31, reduceIte, reduceCtorEq, XE.exit.injEq, Nat.reduceEqDiff, Nat.reduceMul, Nat.reduceAdd] <;> kernel_rfl
theorem F64_call : eInv env (k + 1) (.func 64) #[] #[x0] h = F64 (eInv env k) k x0 h := kq_inv F64_eq
theorem r64_4  : kCode env 64 true inv k (cp c64 116) (act 18 [(2, x2), (9, x9), (10, x10), (11, x11)]) h K =
    K .normal (act 18 [(2, x2), (4, x11)]) h := kq_reg
theorem r64_5  : kCode env 64 true inv k (cp c64 234) (act 18 [(2, x2), (4, x4)]) h K =
    bnd (pLoad Try.prog 48 x2 h) fun x12 =>
    bnd (pBin Try.prog .shl 48 (.tmp 12) (.const (.int .u64 8)) x12 (.int .u64 8)) fun x13 =>
    bnd (pConv Try.prog 5 48 x4 h) fun x15 =>
    bnd (pBin Try.prog .or 48 (.tmp 13) (.tmp 15) x13 x15) fun x16 =>
    bnd (kSt (pStore Try.prog 48 x2 x16 h)) fun u =>
    K .normal (act 18 []) u.2 := kq_reg
noncomputable def R64_lrlrr (inv : Inv) (k l : Nat) (x2 x9 z0 z1 : Value) (h : AH) : Option (Value × AH) :=
    rdBegin l h fun h =>
    bnd (pLoad Try.prog 48 x2 h) fun x12 =>
    bnd (pBin Try.prog .shl 48 (.tmp 12) (.const (.int .u64 8)) x12 (.int .u64 8)) fun x13 =>
    bnd (pConv Try.prog 5 48 z1 h) fun x15 =>
    bnd (pBin Try.prog .or 48 (.tmp 13) (.tmp 15) x13 x15) fun x16 =>
    bnd (kSt (pStore Try.prog 48 x2 x16 h)) fun u =>
    rdEnd l .normal u.2
theorem R64_lrlrr_eq {l : Nat} {pd : Option Code} (hl : h.get l = some (.loop .ready pd 64 (act 18 [(2, x2), (9, x9)]).tmps (psOf (cp c64 58)) (cp c64 116) (cp c64 117))) : eRound env k inv l #[z0, z1] h = R64_lrlrr inv k l x2 x9 z0 z1 h := by
      refine (eRound_k (a := act 18 [(2, x2), (9, x9), (10, z0), (11, z1)]) hl (by kernel_rfl) (by kernel_rfl)).trans ?_
      unfold R64_lrlrr
      simp only [r64_4, kq_block c64 117 1, r64_5, reduceIte, reduceCtorEq, XE.exit.injEq, Nat.reduceEqDiff, Nat.reduceMul, Nat.reduceAdd] <;> kernel_rfl
noncomputable def c65 : Code := codeOf Try.prog 65
theorem r65_0  : kCode env 65 false inv k (cp c65 2) (act 15 [(0, x0)]) h K =
    K .normal (act 15 [(0, x0)]) h := kq_reg
theorem r65_1  : kCode env 65 false inv k (cp c65 12) (act 15 [(0, x0)]) h K =
    bnd (pNilCheck x0) fun x4 =>
    bnd (pFieldAddr Try.prog 77 x4 0) fun x5 =>
    bnd (pLoad Try.prog 30 x5 h) fun x6 =>
    bnd (pLen Try.prog #[30] x6 h) fun x7 =>
    bnd (pBin Try.prog .geq 3 (.tmp 7) (.const (.int .i64 10)) x7 (.int .i64 10)) fun x8 =>
    K .normal (act 15 [(0, x0), (8, x8)]) h := kq_reg
theorem b65_rlr  : kCode env 65 false inv k (cp c65 13) (act 15 [(0, x0), (8, x8)]) h K = brV x8 (kCode env 65 false inv k (cp c65 26) (act 15 [(0, x0), (8, x8)]) h K) (kCode env 65 false inv k (cp c65 27) (act 15 [(0, x0), (8, x8)]) h K) := kq_cond
theorem r65_2  : kCode env 65 false inv k (cp c65 52) (act 15 [(0, x0), (8, x8)]) h K =
    K .normal (act 15 [(2, (.bool false))]) h := kq_reg
theorem res65_0 : resOfFn env.P 65 .ret (act 15 [(2, x2)]) h = some (x2, h) := kq_res
theorem r65_3  : kCode env 65 false inv k (cp c65 14) (act 15 [(0, x0), (8, x8)]) h K =
    bnd (pNilCheck x0) fun x10 =>
    bnd (pFieldAddr Try.prog 77 x10 0) fun x11 =>
    bnd (pLoad Try.prog 30 x11 h) fun x12 =>
    bnd (inv (.func 81) #[] #[x12, (.func (.func 82) #[] #[])] h) fun x13 =>
    bnd (pUn Try.prog .not x13.1) fun x14 =>
    K .normal (act 15 [(2, x14)]) x13.2 := kq_reg
/-- (*shadowbook/octet.Reader).ends -/
noncomputable def F65 (inv : Inv) (k : Nat) (x0 : Value) (h : AH) : Option (Value × AH) :=
    bnd (pNilCheck x0) fun x4 =>
    bnd (pFieldAddr Try.prog 77 x4 0) fun x5 =>
    bnd (pLoad Try.prog 30 x5 h) fun x6 =>
    bnd (pLen Try.prog #[30] x6 h) fun x7 =>
    bnd (pBin Try.prog .geq 3 (.tmp 7) (.const (.int .i64 10)) x7 (.int .i64 10)) fun x8 =>
    brV x8
    (some ((.bool false), h))
    (bnd (pNilCheck x0) fun x10 =>
    bnd (pFieldAddr Try.prog 77 x10 0) fun x11 =>
    bnd (pLoad Try.prog 30 x11 h) fun x12 =>
    bnd (inv (.func 81) #[] #[x12, (.func (.func 82) #[] #[])] h) fun x13 =>
    bnd (pUn Try.prog .not x13.1) fun x14 =>
    some (x14, x13.2))
theorem F65_eq : eFun env k inv 65 #[x0] h = F65 inv k x0 h := by
      refine (kq_fun (a := act 15 [(0, x0)]) (c := cp c65 1)).trans ?_
      unfold F65
      simp only [kq_seq c65 1, r65_0, kq_seq c65 3, kq_seq c65 6, r65_1, b65_rlr, kq_seq c65 26, r65_2, kq_ret c65 53, res65_0, kq_skip c65 27, kq_seq c65 7, r65_3, kq_ret c65 15, reduceIte, reduceCtorEq, XE.exit.injEq, Nat.reduceEqDiff, Nat.reduceMul, Nat.reduceAdd] <;> kernel_rfl
theorem F65_call : eInv env (k + 1) (.func 65) #[] #[x0] h = F65 (eInv env k) k x0 h := kq_inv F65_eq
noncomputable def c66 : Code := codeOf Try.prog 66
theorem r66_0  : kCode env 66 false inv k (cp c66 2) (act 23 [(0, x0), (1, x1)]) h K =
    K .normal (act 23 [(0, x0), (1, x1)]) h := kq_reg
theorem r66_1  : kCode env 66 false inv k (cp c66 24) (act 23 [(0, x0), (1, x1)]) h K =
    bnd (pBin Try.prog .eql 55 (.tmp 9) (.const (.pointer none)) x0 (.pointer none)) fun x10 =>
    K .normal (act 23 [(0, x0), (1, x1), (8, x10)]) h := kq_reg
theorem b66_rllr  : kCode env 66 false inv k (cp c66 25) (act 23 [(0, x0), (1, x1), (8, x8)]) h K = brV x8 (kCode env 66 false inv k (cp c66 50) (act 23 [(0, x0), (1, x1), (8, x8)]) h K) (kCode env 66 false inv k (cp c66 51) (act 23 [(0, x0), (1, x1), (8, x8)]) h K) := kq_cond
theorem r66_2  : kCode env 66 false inv k (cp c66 100) (act 23 [(0, x0), (1, x1), (8, x8)]) h K =
    K .normal (act 23 [(4, (.slice none 0 0)), (5, (.int .i64 1))]) h := kq_reg
theorem res66_0 : resOfFn env.P 66 .ret (act 23 [(4, x4), (5, x5)]) h = some (.tuple #[x4, x5], h) := kq_res
theorem r66_3  : kCode env 66 false inv k (cp c66 102) (act 23 [(0, x0), (1, x1), (8, x8)]) h K =
    bnd (pBin Try.prog .lss 3 (.tmp 12) (.const (.int .i64 0)) x1 (.int .i64 0)) fun x13 =>
    K .normal (act 23 [(0, x0), (1, x1), (11, x13)]) h := kq_reg
theorem b66_rrrllr  : kCode env 66 false inv k (cp c66 103) (act 23 [(0, x0), (1, x1), (11, x11)]) h K = brV x11 (kCode env 66 false inv k (cp c66 206) (act 23 [(0, x0), (1, x1), (11, x11)]) h K) (kCode env 66 false inv k (cp c66 207) (act 23 [(0, x0), (1, x1), (11, x11)]) h K) := kq_cond
theorem r66_4  : kCode env 66 false inv k (cp c66 412) (act 23 [(0, x0), (1, x1), (11, x11)]) h K =
    K .normal (act 23 [(4, (.slice none 0 0)), (5, (.int .i64 2))]) h := kq_reg
theorem r66_5  : kCode env 66 false inv k (cp c66 14) (act 23 [(0, x0), (1, x1), (11, x11)]) h K =
    bnd (inv (.func 63) #[] #[x0, x1] h) fun x17 =>
    bnd (pExtract x17.1 0) fun x18 =>
    bnd (pExtract x17.1 1) fun x19 =>
    K .normal (act 23 [(6, x18), (7, x19)]) x17.2 := kq_reg
theorem r66_6  : kCode env 66 false inv k (cp c66 30) (act 23 [(6, x6), (7, x7)]) h K =
    bnd (inv (.func 62) #[] #[x6] h) fun x21 =>
    K .normal (act 23 [(4, x21.1), (5, x7)]) x21.2 := kq_reg
/-- (*shadowbook/octet.Reader).Bytes -/
noncomputable def F66 (inv : Inv) (k : Nat) (x0 x1 : Value) (h : AH) : Option (Value × AH) :=
    bnd (pBin Try.prog .eql 55 (.tmp 9) (.const (.pointer none)) x0 (.pointer none)) fun x10 =>
    brV x10
    (some (.tuple #[(.slice none 0 0), (.int .i64 1)], h))
    (bnd (pBin Try.prog .lss 3 (.tmp 12) (.const (.int .i64 0)) x1 (.int .i64 0)) fun x13 =>
    brV x13
    (some (.tuple #[(.slice none 0 0), (.int .i64 2)], h))
    (bnd (inv (.func 63) #[] #[x0, x1] h) fun x17 =>
    bnd (pExtract x17.1 0) fun x18 =>
    bnd (pExtract x17.1 1) fun x19 =>
    bnd (inv (.func 62) #[] #[x18] x17.2) fun x21 =>
    some (.tuple #[x21.1, x19], x21.2)))
theorem F66_eq : eFun env k inv 66 #[x0, x1] h = F66 inv k x0 x1 h := by
      refine (kq_fun (a := act 23 [(0, x0), (1, x1)]) (c := cp c66 1)).trans ?_
      unfold F66
      simp only [kq_seq c66 1, r66_0, kq_seq c66 3, kq_block c66 6 0, kq_seq c66 12, r66_1, b66_rllr, kq_seq c66 50, r66_2, kq_ret c66 101, res66_0, kq_seq c66 51, r66_3, b66_rrrllr, kq_seq c66 206, r66_4, kq_ret c66 413, kq_skip c66 207, kq_seq c66 7, r66_5, kq_seq c66 15, r66_6, kq_ret c66 31, reduceIte, reduceCtorEq, XE.exit.injEq, Nat.reduceEqDiff, Nat.reduceMul, Nat.reduceAdd] <;> kernel_rfl
theorem F66_call : eInv env (k + 1) (.func 66) #[] #[x0, x1] h = F66 (eInv env k) k x0 x1 h := kq_inv F66_eq
noncomputable def c67 : Code := codeOf Try.prog 67
theorem r67_0  : kCode env 67 false inv k (cp c67 2) (act 10 [(0, x0)]) h K =
    K .normal (act 10 [(0, x0)]) h := kq_reg
theorem r67_1  : kCode env 67 false inv k (cp c67 12) (act 10 [(0, x0)]) h K =
    bnd (pBin Try.prog .eql 55 (.tmp 3) (.const (.pointer none)) x0 (.pointer none)) fun x4 =>
    K .normal (act 10 [(0, x0), (4, x4)]) h := kq_reg
theorem b67_rlr  : kCode env 67 false inv k (cp c67 13) (act 10 [(0, x0), (4, x4)]) h K = brV x4 (kCode env 67 false inv k (cp c67 26) (act 10 [(0, x0), (4, x4)]) h K) (kCode env 67 false inv k (cp c67 27) (act 10 [(0, x0), (4, x4)]) h K) := kq_cond
theorem r67_2  : kCode env 67 false inv k (cp c67 52) (act 10 [(0, x0), (4, x4)]) h K =
    K .normal (act 10 [(2, (.int .i64 0))]) h := kq_reg
theorem res67_0 : resOfFn env.P 67 .ret (act 10 [(2, x2)]) h = some (x2, h) := kq_res
theorem r67_3  : kCode env 67 false inv k (cp c67 14) (act 10 [(0, x0), (4, x4)]) h K =
    bnd (pNilCheck x0) fun x6 =>
    bnd (pFieldAddr Try.prog 77 x6 0) fun x7 =>
    bnd (pLoad Try.prog 30 x7 h) fun x8 =>
    bnd (pLen Try.prog #[30] x8 h) fun x9 =>
    K .normal (act 10 [(2, x9)]) h := kq_reg
/-- (*shadowbook/octet.Reader).Left -/
noncomputable def F67 (inv : Inv) (k : Nat) (x0 : Value) (h : AH) : Option (Value × AH) :=
    bnd (pBin Try.prog .eql 55 (.tmp 3) (.const (.pointer none)) x0 (.pointer none)) fun x4 =>
    brV x4
    (some ((.int .i64 0), h))
    (bnd (pNilCheck x0) fun x6 =>
    bnd (pFieldAddr Try.prog 77 x6 0) fun x7 =>
    bnd (pLoad Try.prog 30 x7 h) fun x8 =>
    bnd (pLen Try.prog #[30] x8 h) fun x9 =>
    some (x9, h))
theorem F67_eq : eFun env k inv 67 #[x0] h = F67 inv k x0 h := by
      refine (kq_fun (a := act 10 [(0, x0)]) (c := cp c67 1)).trans ?_
      unfold F67
      simp only [kq_seq c67 1, r67_0, kq_seq c67 3, kq_seq c67 6, r67_1, b67_rlr, kq_seq c67 26, r67_2, kq_ret c67 53, res67_0, kq_skip c67 27, kq_seq c67 7, r67_3, kq_ret c67 15, reduceIte, reduceCtorEq, XE.exit.injEq, Nat.reduceEqDiff, Nat.reduceMul, Nat.reduceAdd] <;> kernel_rfl
theorem F67_call : eInv env (k + 1) (.func 67) #[] #[x0] h = F67 (eInv env k) k x0 h := kq_inv F67_eq
noncomputable def c68 : Code := codeOf Try.prog 68
theorem r68_0  : kCode env 68 false inv k (cp c68 2) (act 30 [(0, x0), (1, x1), (2, x2)]) h K =
    K .normal (act 30 [(0, x0), (1, x1), (2, x2), (6, (.slice none 0 0)), (7, (.int .i64 0))]) h := kq_reg
theorem r68_1  : kCode env 68 false inv k (cp c68 12) (act 30 [(0, x0), (1, x1), (2, x2), (6, x6), (7, x7)]) h K =
    bnd (inv (.func 83) #[] #[x0, x1, x2] h) fun x15 =>
    K .normal (act 30 [(0, x0), (1, x1), (2, x2), (6, x6), (7, x7), (8, x15.1)]) x15.2 := kq_reg
theorem r68_2  : kCode env 68 false inv k (cp c68 26) (act 30 [(0, x0), (1, x1), (2, x2), (6, x6), (7, x7), (8, x8)]) h K =
    bnd (pBin Try.prog .neq 31 (.tmp 16) (.const (.int .i64 0)) x8 (.int .i64 0)) fun x17 =>
    K .normal (act 30 [(0, x0), (1, x1), (2, x2), (6, x6), (7, x7), (8, x8), (17, x17)]) h := kq_reg
theorem b68_rrlr  : kCode env 68 false inv k (cp c68 27) (act 30 [(0, x0), (1, x1), (2, x2), (6, x6), (7, x7), (8, x8), (17, x17)]) h K = brV x17 (kCode env 68 false inv k (cp c68 54) (act 30 [(0, x0), (1, x1), (2, x2), (6, x6), (7, x7), (8, x8), (17, x17)]) h K) (kCode env 68 false inv k (cp c68 55) (act 30 [(0, x0), (1, x1), (2, x2), (6, x6), (7, x7), (8, x8), (17, x17)]) h K) := kq_cond
theorem r68_3  : kCode env 68 false inv k (cp c68 108) (act 30 [(0, x0), (1, x1), (2, x2), (6, x6), (7, x7), (8, x8), (17, x17)]) h K =
    K .normal (act 30 [(6, (.slice none 0 0)), (7, x8)]) h := kq_reg
theorem res68_0 : resOfFn env.P 68 .ret (act 30 [(6, x6), (7, x7)]) h = some (.tuple #[x6, x7], h) := kq_res
theorem r68_4  : kCode env 68 false inv k (cp c68 14) (act 30 [(0, x0), (1, x1), (2, x2), (6, x6), (7, x7), (8, x8), (17, x17)]) h K =
    bnd (pAlloc Try.prog 50 h) fun x9 =>
    K .normal (act 30 [(0, x0), (1, x1), (2, x2), (6, x6), (7, x7), (9, x9.1)]) x9.2 := kq_reg
theorem r68_5  : kCode env 68 false inv k (cp c68 60) (act 30 [(0, x0), (1, x1), (2, x2), (6, x6), (7, x7), (9, x9)]) h K =
    bnd (inv (.func 84) #[] #[x0, x1, x2] h) fun x22 =>
    K .normal (act 30 [(6, x6), (7, x7), (9, x9), (22, x22.1)]) x22.2 := kq_reg
theorem g68_lrlrrr  : kCode env 68 false inv k (cp c68 122) (act 30 [(6, x6), (7, x7), (9, x9), (22, x22)]) h K = kRange env 68 inv x22 (psOf (cp c68 122)) (cp c68 244) (cp c68 245) (act 30 [(6, x6), (7, x7), (9, x9), (22, x22)]) h fun e h => sw e (K .normal (act 30 [(6, x6), (7, x7), (9, x9), (22, x22)]) h) (none) [] := kq_range (g := x22) (ids := [])
noncomputable def F68_rlrrr {β : Type} (inv : Inv) (k : Nat) (x6 x7 x9 x22 : Value) (h : AH) (kn : (Value → Value → Value → Value → AH → Option β)) : Option β :=
    kRange env 68 inv x22 (psOf (cp c68 122)) (cp c68 244) (cp c68 245) (act 30 [(6, x6), (7, x7), (9, x9), (22, x22)]) h fun e h => sw e
    (kn x6 x7 x9 x22 h)
    none []
theorem F68_rlrrr_eq  : kCode env 68 false inv k (cp c68 61) (act 30 [(6, x6), (7, x7), (9, x9), (22, x22)]) h K = F68_rlrrr inv k x6 x7 x9 x22 h (fun y6 y7 y9 y22 h => K .normal (act 30 [(6, y6), (7, y7), (9, y9), (22, y22)]) h) := by
      unfold F68_rlrrr
      simp only [kq_block c68 61 0, g68_lrlrrr, reduceIte, reduceCtorEq, XE.exit.injEq, Nat.reduceEqDiff, Nat.reduceMul, Nat.reduceAdd] <;> kernel_rfl
theorem r68_8  : kCode env 68 false inv k (cp c68 62) (act 30 [(6, x6), (7, x7), (9, x9), (22, x22)]) h K =
    bnd (pLoad Try.prog 50 x9 h) fun x29 =>
    K .normal (act 30 [(6, x29), (7, (.int .i64 0))]) h := kq_reg
/-- shadowbook/packs.Get -/
noncomputable def F68 (inv : Inv) (k : Nat) (x0 x1 x2 : Value) (h : AH) : Option (Value × AH) :=
    bnd (inv (.func 83) #[] #[x0, x1, x2] h) fun x15 =>
    bnd (pBin Try.prog .neq 31 (.tmp 16) (.const (.int .i64 0)) x15.1 (.int .i64 0)) fun x17 =>
    brV x17
    (some (.tuple #[(.slice none 0 0), x15.1], x15.2))
    (bnd (pAlloc Try.prog 50 x15.2) fun x9 =>
    bnd (inv (.func 84) #[] #[x0, x1, x2] x9.2) fun x22 =>
    F68_rlrrr inv k (.slice none 0 0) (.int .i64 0) x9.1 x22.1 x22.2
    (fun y6 y7 y9 y22 h =>
    bnd (pLoad Try.prog 50 y9 h) fun x29 =>
    some (.tuple #[x29, (.int .i64 0)], h)))
theorem F68_eq : eFun env k inv 68 #[x0, x1, x2] h = F68 inv k x0 x1 x2 h := by
      refine (kq_fun (a := act 30 [(0, x0), (1, x1), (2, x2)]) (c := cp c68 1)).trans ?_
      unfold F68
      simp only [kq_seq c68 1, r68_0, kq_seq c68 3, kq_seq c68 6, r68_1, kq_seq c68 13, r68_2, b68_rrlr, kq_seq c68 54, r68_3, kq_ret c68 109, res68_0, kq_skip c68 55, kq_seq c68 7, r68_4, kq_seq c68 15, kq_seq c68 30, r68_5, F68_rlrrr_eq, kq_seq c68 31, r68_8, kq_ret c68 63, reduceIte, reduceCtorEq, XE.exit.injEq, Nat.reduceEqDiff, Nat.reduceMul, Nat.reduceAdd] <;> kernel_rfl
theorem F68_call : eInv env (k + 1) (.func 68) #[] #[x0, x1, x2] h = F68 (eInv env k) k x0 x1 x2 h := kq_inv F68_eq
theorem r68_6  : kCode env 68 true inv k (cp c68 244) (act 30 [(6, x6), (7, x7), (9, x9), (22, x22), (23, x23), (24, x24)]) h K =
    K .normal (act 30 [(9, x9), (11, x24)]) h := kq_reg
theorem r68_7  : kCode env 68 true inv k (cp c68 490) (act 30 [(9, x9), (11, x11)]) h K =
    bnd (pLoad Try.prog 50 x9 h) fun x25 =>
    bnd (pBuildSlice Try.prog 50 1 #[(0, x11)] h) fun x27 =>
    bnd (pAppend Try.prog #[50, 50] x25 x27.1 x27.2) fun x28 =>
    bnd (kSt (pStore Try.prog 50 x9 x28.1 x28.2)) fun u =>
    K .normal (act 30 []) u.2 := kq_reg
noncomputable def R68_lrlrrr (inv : Inv) (k l : Nat) (x6 x7 x9 x22 z0 z1 : Value) (h : AH) : Option (Value × AH) :=
    rdBegin l h fun h =>
    bnd (pLoad Try.prog 50 x9 h) fun x25 =>
    bnd (pBuildSlice Try.prog 50 1 #[(0, z1)] h) fun x27 =>
    bnd (pAppend Try.prog #[50, 50] x25 x27.1 x27.2) fun x28 =>
    bnd (kSt (pStore Try.prog 50 x9 x28.1 x28.2)) fun u =>
    rdEnd l .normal u.2
theorem R68_lrlrrr_eq {l : Nat} {pd : Option Code} (hl : h.get l = some (.loop .ready pd 68 (act 30 [(6, x6), (7, x7), (9, x9), (22, x22)]).tmps (psOf (cp c68 122)) (cp c68 244) (cp c68 245))) : eRound env k inv l #[z0, z1] h = R68_lrlrrr inv k l x6 x7 x9 x22 z0 z1 h := by
      refine (eRound_k (a := act 30 [(6, x6), (7, x7), (9, x9), (22, x22), (23, z0), (24, z1)]) hl (by kernel_rfl) (by kernel_rfl)).trans ?_
      unfold R68_lrlrrr
      simp only [r68_6, kq_block c68 245 1, r68_7, reduceIte, reduceCtorEq, XE.exit.injEq, Nat.reduceEqDiff, Nat.reduceMul, Nat.reduceAdd] <;> kernel_rfl
noncomputable def c78 : Code := codeOf Try.prog 78
theorem r78_0  : kCode env 78 false inv k (cp c78 2) (act 19 [(0, x0), (1, x1)]) h K =
    K .normal (act 19 [(0, x0), (1, x1)]) h := kq_reg
theorem r78_1  : kCode env 78 false inv k (cp c78 12) (act 19 [(0, x0), (1, x1)]) h K =
    bnd (pLen Try.prog #[22] x0 h) fun x7 =>
    K .normal (act 19 [(0, x0), (1, x1), (7, x7), (8, (.int .i64 0))]) h := kq_reg
theorem r78_2  : kCode env 78 false inv k (cp c78 104) (act 19 [(0, x0), (1, x1), (7, x7), (8, x8)]) h K =
    bnd (pBin Try.prog .lss 3 (.tmp 8) (.tmp 7) x8 x7) fun x9 =>
    K .normal (act 19 [(0, x0), (1, x1), (7, x7), (8, x8), (9, x9)]) h := kq_reg
theorem b78_lrllrlr  : kCode env 78 false inv k (cp c78 210) (act 19 [(0, x0), (1, x1), (7, x7), (8, x8), (9, x9)]) h K = brV x9 (kCode env 78 false inv k (cp c78 420) (act 19 [(0, x0), (1, x1), (7, x7), (8, x8), (9, x9)]) h K) (kCode env 78 false inv k (cp c78 421) (act 19 [(0, x0), (1, x1), (7, x7), (8, x8), (9, x9)]) h K) := kq_cond
theorem r78_3  : kCode env 78 false inv k (cp c78 1688) (act 19 [(0, x0), (1, x1), (7, x7), (8, x8), (9, x9)]) h K =
    K .normal (act 19 [(0, x0), (1, x1), (5, x8), (7, x7), (8, x8)]) h := kq_reg
theorem r78_4  : kCode env 78 false inv k (cp c78 3378) (act 19 [(0, x0), (1, x1), (5, x5), (7, x7), (8, x8)]) h K =
    bnd (pIndexAddr Try.prog 22 x0 x5) fun x14 =>
    bnd (pLoad Try.prog 9 x14 h) fun x15 =>
    bnd (callV inv x1 #[x15] h) fun x16 =>
    K .normal (act 19 [(0, x0), (1, x1), (5, x5), (7, x7), (8, x8), (16, x16.1)]) x16.2 := kq_reg
theorem b78_rrllrrllrlr  : kCode env 78 false inv k (cp c78 3379) (act 19 [(0, x0), (1, x1), (5, x5), (7, x7), (8, x8), (16, x16)]) h K = brV x16 (kCode env 78 false inv k (cp c78 6758) (act 19 [(0, x0), (1, x1), (5, x5), (7, x7), (8, x8), (16, x16)]) h K) (kCode env 78 false inv k (cp c78 6759) (act 19 [(0, x0), (1, x1), (5, x5), (7, x7), (8, x8), (16, x16)]) h K) := kq_cond
theorem r78_5  : kCode env 78 false inv k (cp c78 13516) (act 19 [(0, x0), (1, x1), (5, x5), (7, x7), (8, x8), (16, x16)]) h K =
    K .normal (act 19 [(4, x5)]) h := kq_reg
theorem r78_6  : kCode env 78 false inv k (cp c78 423) (act 19 [(0, x0), (1, x1), (5, x5), (7, x7), (8, x8), (16, x16)]) h K =
    bnd (pBin Try.prog .add 3 (.tmp 8) (.const (.int .i64 1)) x8 (.int .i64 1)) fun x18 =>
    K .normal (act 19 [(0, x0), (1, x1), (7, x7), (8, x18)]) h := kq_reg
noncomputable def F78_lrlr {β : Type} (inv : Inv) (k : Nat) : Nat → Value → Value → Value → Value → AH → (Value → Value → Value → Value → Value → AH → Option β) → (Value → AH → Option β) → Option β
  | 0, _, _, _, _, _, _, _ => none
  | j + 1, x0, x1, x7, x8, h, ke0, kr =>
    bnd (pBin Try.prog .lss 3 (.tmp 8) (.tmp 7) x8 x7) fun x9 =>
    brV x9
    (bnd (pIndexAddr Try.prog 22 x0 x8) fun x14 =>
    bnd (pLoad Try.prog 9 x14 h) fun x15 =>
    bnd (callV inv x1 #[x15] h) fun x16 =>
    brV x16.1
    (kr x8 x16.2)
    (bnd (pBin Try.prog .add 3 (.tmp 8) (.const (.int .i64 1)) x8 (.int .i64 1)) fun x18 =>
    F78_lrlr inv k j x0 x1 x7 x18 x16.2 ke0 kr))
    (ke0 x0 x1 x7 x8 x9 h)
theorem F78_lrlr_j (j : Nat) : kLoop (kCode env 78 false inv k (cp c78 52)) j (act 19 [(0, x0), (1, x1), (7, x7), (8, x8)]) h K = F78_lrlr inv k j x0 x1 x7 x8 h (fun y0 y1 y7 y8 y9 h => K (.exit 0) (act 19 [(0, y0), (1, y1), (7, y7), (8, y8), (9, y9)]) h) (fun y4 h => K .ret (act 19 [(4, y4)]) h) := by
      induction j generalizing x0 x1 x7 x8 h with
      | zero => rfl
      | succ j ih =>
        unfold F78_lrlr
        simp only [kLoop, kq_seq c78 52, r78_2, kq_seq c78 105, b78_lrllrlr, kq_skip c78 420, kq_seq c78 211, kq_block c78 422 1, kq_seq c78 844, r78_3, kq_seq c78 1689, r78_4, b78_rrllrrllrlr, kq_seq c78 6758, r78_5, kq_ret c78 13517, kq_skip c78 6759, r78_6, kq_exit c78 421 0, ih, reduceIte, reduceCtorEq, XE.exit.injEq, Nat.reduceEqDiff, Nat.reduceMul, Nat.reduceAdd] <;> kernel_rfl
theorem F78_lrlr_eq  : kCode env 78 false inv k (cp c78 26) (act 19 [(0, x0), (1, x1), (7, x7), (8, x8)]) h K = F78_lrlr inv k k x0 x1 x7 x8 h (fun y0 y1 y7 y8 y9 h => K (.exit 0) (act 19 [(0, y0), (1, y1), (7, y7), (8, y8), (9, y9)]) h) (fun y4 h => K .ret (act 19 [(4, y4)]) h) := kq_loop (F78_lrlr_j k)
theorem r78_7  : kCode env 78 false inv k (cp c78 14) (act 19 [(0, x0), (1, x1), (7, x7), (8, x8), (9, x9)]) h K =
    K .normal (act 19 [(4, (.int .i64 (-1)))]) h := kq_reg
theorem res78_0 : resOfFn env.P 78 .ret (act 19 [(4, x4)]) h = some (x4, h) := kq_res
/-- slices.IndexFunc[[]string,string] -/
noncomputable def F78 (inv : Inv) (k : Nat) (x0 x1 : Value) (h : AH) : Option (Value × AH) :=
    bnd (pLen Try.prog #[22] x0 h) fun x7 =>
    F78_lrlr inv k k x0 x1 x7 (.int .i64 0) h
    (fun y0 y1 y7 y8 y9 h =>
    some ((.int .i64 (-1)), h))
    (fun y4 h_1 =>
    some (y4, h_1))
theorem F78_eq : eFun env k inv 78 #[x0, x1] h = F78 inv k x0 x1 h := by
      refine (kq_fun (a := act 19 [(0, x0), (1, x1)]) (c := cp c78 1)).trans ?_
      unfold F78
      simp only [kq_seq c78 1, r78_0, kq_seq c78 3, kq_seq c78 6, r78_1, kq_block c78 13 0, F78_lrlr_eq, kq_seq c78 7, r78_7, kq_ret c78 15, res78_0, reduceIte, reduceCtorEq, XE.exit.injEq, Nat.reduceEqDiff, Nat.reduceMul, Nat.reduceAdd] <;> kernel_rfl
theorem F78_call : eInv env (k + 1) (.func 78) #[] #[x0, x1] h = F78 (eInv env k) k x0 x1 h := kq_inv F78_eq
noncomputable def c79 : Code := codeOf Try.prog 79
theorem r79_0  : kCode env 79 false inv k (cp c79 2) (act 6 [(0, x0)]) h K =
    K .normal (act 6 [(0, x0)]) h := kq_reg
theorem r79_1  : kCode env 79 false inv k (cp c79 6) (act 6 [(0, x0)]) h K =
    bnd (pBin Try.prog .neq 9 (.tmp 3) (.tmp 4) x0 x0) fun x5 =>
    K .normal (act 6 [(2, x5)]) h := kq_reg
theorem res79_0 : resOfFn env.P 79 .ret (act 6 [(2, x2)]) h = some (x2, h) := kq_res
/-- cmp.isNaN[string] -/
noncomputable def F79 (inv : Inv) (k : Nat) (x0 : Value) (h : AH) : Option (Value × AH) :=
    bnd (pBin Try.prog .neq 9 (.tmp 3) (.tmp 4) x0 x0) fun x5 =>
    some (x5, h)
theorem F79_eq : eFun env k inv 79 #[x0] h = F79 inv k x0 h := by
      refine (kq_fun (a := act 6 [(0, x0)]) (c := cp c79 1)).trans ?_
      unfold F79
      simp only [kq_seq c79 1, r79_0, kq_seq c79 3, r79_1, kq_ret c79 7, res79_0, reduceIte, reduceCtorEq, XE.exit.injEq, Nat.reduceEqDiff, Nat.reduceMul, Nat.reduceAdd] <;> kernel_rfl
theorem F79_call : eInv env (k + 1) (.func 79) #[] #[x0] h = F79 (eInv env k) k x0 h := kq_inv F79_eq
noncomputable def c80 : Code := codeOf Try.prog 80
theorem r80_0  : kCode env 80 false inv k (cp c80 2) (act 4 [(0, x0)]) h K =
    bnd (pBox Try.prog 30 x0 h) fun x1 =>
    K .normal (act 4 [(1, x1.1)]) x1.2 := kq_reg
theorem r80_1  : kCode env 80 false inv k (cp c80 6) (act 4 [(1, x1)]) h K =
    bnd (pMakeFunc (.func 95) #[] #[x1]) fun x3 =>
    K .normal (act 4 [(2, x3)]) h := kq_reg
theorem res80_0 : resOfFn env.P 80 .ret (act 4 [(2, x2)]) h = some (x2, h) := kq_res
/-- slices.Backward[[]byte,byte] -/
noncomputable def F80 (inv : Inv) (k : Nat) (x0 : Value) (h : AH) : Option (Value × AH) :=
    bnd (pBox Try.prog 30 x0 h) fun x1 =>
    bnd (pMakeFunc (.func 95) #[] #[x1.1]) fun x3 =>
    some (x3, x1.2)
theorem F80_eq : eFun env k inv 80 #[x0] h = F80 inv k x0 h := by
      refine (kq_fun (a := act 4 [(0, x0)]) (c := cp c80 1)).trans ?_
      unfold F80
      simp only [kq_seq c80 1, r80_0, kq_seq c80 3, r80_1, kq_ret c80 7, res80_0, reduceIte, reduceCtorEq, XE.exit.injEq, Nat.reduceEqDiff, Nat.reduceMul, Nat.reduceAdd] <;> kernel_rfl
theorem F80_call : eInv env (k + 1) (.func 80) #[] #[x0] h = F80 (eInv env k) k x0 h := kq_inv F80_eq
noncomputable def c81 : Code := codeOf Try.prog 81
theorem r81_0  : kCode env 81 false inv k (cp c81 2) (act 9 [(0, x0), (1, x1)]) h K =
    K .normal (act 9 [(0, x0), (1, x1)]) h := kq_reg
theorem r81_1  : kCode env 81 false inv k (cp c81 6) (act 9 [(0, x0), (1, x1)]) h K =
    bnd (inv (.func 96) #[] #[x0, x1] h) fun x7 =>
    bnd (pBin Try.prog .geq 3 (.tmp 7) (.const (.int .i64 0)) x7.1 (.int .i64 0)) fun x8 =>
    K .normal (act 9 [(4, x8)]) x7.2 := kq_reg
theorem res81_0 : resOfFn env.P 81 .ret (act 9 [(4, x4)]) h = some (x4, h) := kq_res
/-- slices.ContainsFunc[[]byte,byte] -/
noncomputable def F81 (inv : Inv) (k : Nat) (x0 x1 : Value) (h : AH) : Option (Value × AH) :=
    bnd (inv (.func 96) #[] #[x0, x1] h) fun x7 =>
    bnd (pBin Try.prog .geq 3 (.tmp 7) (.const (.int .i64 0)) x7.1 (.int .i64 0)) fun x8 =>
    some (x8, x7.2)
theorem F81_eq : eFun env k inv 81 #[x0, x1] h = F81 inv k x0 x1 h := by
      refine (kq_fun (a := act 9 [(0, x0), (1, x1)]) (c := cp c81 1)).trans ?_
      unfold F81
      simp only [kq_seq c81 1, r81_0, kq_seq c81 3, r81_1, kq_ret c81 7, res81_0, reduceIte, reduceCtorEq, XE.exit.injEq, Nat.reduceEqDiff, Nat.reduceMul, Nat.reduceAdd] <;> kernel_rfl
theorem F81_call : eInv env (k + 1) (.func 81) #[] #[x0, x1] h = F81 (eInv env k) k x0 x1 h := kq_inv F81_eq
noncomputable def c82 : Code := codeOf Try.prog 82
theorem r82_0  : kCode env 82 false inv k (cp c82 2) (act 5 [(0, x0)]) h K =
    K .normal (act 5 [(0, x0)]) h := kq_reg
theorem r82_1  : kCode env 82 false inv k (cp c82 6) (act 5 [(0, x0)]) h K =
    bnd (pBin Try.prog .lss 5 (.tmp 3) (.const (.int .u8 128)) x0 (.int .u8 128)) fun x4 =>
    K .normal (act 5 [(2, x4)]) h := kq_reg
theorem res82_0 : resOfFn env.P 82 .ret (act 5 [(2, x2)]) h = some (x2, h) := kq_res
/-- (*shadowbook/octet.Reader).ends$1 -/
noncomputable def F82 (inv : Inv) (k : Nat) (x0 : Value) (h : AH) : Option (Value × AH) :=
    bnd (pBin Try.prog .lss 5 (.tmp 3) (.const (.int .u8 128)) x0 (.int .u8 128)) fun x4 =>
    some (x4, h)
theorem F82_eq : eFun env k inv 82 #[x0] h = F82 inv k x0 h := by
      refine (kq_fun (a := act 5 [(0, x0)]) (c := cp c82 1)).trans ?_
      unfold F82
      simp only [kq_seq c82 1, r82_0, kq_seq c82 3, r82_1, kq_ret c82 7, res82_0, reduceIte, reduceCtorEq, XE.exit.injEq, Nat.reduceEqDiff, Nat.reduceMul, Nat.reduceAdd] <;> kernel_rfl
theorem F82_call : eInv env (k + 1) (.func 82) #[] #[x0] h = F82 (eInv env k) k x0 h := kq_inv F82_eq
noncomputable def c83 : Code := codeOf Try.prog 83
theorem r83_0  : kCode env 83 false inv k (cp c83 2) (act 33 [(0, x0), (1, x1), (2, x2)]) h K =
    K .normal (act 33 [(0, x0), (1, x1), (2, x2)]) h := kq_reg
theorem r83_1  : kCode env 83 false inv k (cp c83 24) (act 33 [(0, x0), (1, x1), (2, x2)]) h K =
    bnd (inv (.func 59) #[] #[x1, x2] h) fun x10 =>
    bnd (pUn Try.prog .not x10.1) fun x11 =>
    K .normal (act 33 [(0, x0), (1, x1), (2, x2), (7, x11)]) x10.2 := kq_reg
theorem b83_rllr  : kCode env 83 false inv k (cp c83 25) (act 33 [(0, x0), (1, x1), (2, x2), (7, x7)]) h K = brV x7 (kCode env 83 false inv k (cp c83 50) (act 33 [(0, x0), (1, x1), (2, x2), (7, x7)]) h K) (kCode env 83 false inv k (cp c83 51) (act 33 [(0, x0), (1, x1), (2, x2), (7, x7)]) h K) := kq_cond
theorem r83_2  : kCode env 83 false inv k (cp c83 100) (act 33 [(0, x0), (1, x1), (2, x2), (7, x7)]) h K =
    K .normal (act 33 [(6, (.int .i64 2))]) h := kq_reg
theorem res83_0 : resOfFn env.P 83 .ret (act 33 [(6, x6)]) h = some (x6, h) := kq_res
theorem r83_3  : kCode env 83 false inv k (cp c83 102) (act 33 [(0, x0), (1, x1), (2, x2), (7, x7)]) h K =
    bnd (pLen Try.prog #[30] x0 h) fun x14 =>
    bnd (inv (.func 60) #[] #[x1, x2] h) fun x17 =>
    bnd (pBin Try.prog .neq 3 (.tmp 14) (.tmp 17) x14 x17.1) fun x18 =>
    K .normal (act 33 [(0, x0), (1, x1), (2, x2), (12, x18)]) x17.2 := kq_reg
theorem b83_rrrllr  : kCode env 83 false inv k (cp c83 103) (act 33 [(0, x0), (1, x1), (2, x2), (12, x12)]) h K = brV x12 (kCode env 83 false inv k (cp c83 206) (act 33 [(0, x0), (1, x1), (2, x2), (12, x12)]) h K) (kCode env 83 false inv k (cp c83 207) (act 33 [(0, x0), (1, x1), (2, x2), (12, x12)]) h K) := kq_cond
theorem r83_4  : kCode env 83 false inv k (cp c83 412) (act 33 [(0, x0), (1, x1), (2, x2), (12, x12)]) h K =
    K .normal (act 33 [(6, (.int .i64 4))]) h := kq_reg
noncomputable abbrev G83_5 {β : Type} (inv : Inv) (x0 x1 x2 : Value) (h : AH) (K : Value → AH → Option β) : Option β :=
    bnd (pBin Try.prog .mul 3 (.tmp 21) (.tmp 22) x1 x2) fun x23 =>
    bnd (pLen Try.prog #[30] x0 h) fun x25 =>
    bnd (pBin Try.prog .mul 3 (.const (.int .i64 8)) (.tmp 25) (.int .i64 8) x25) fun x26 =>
    bnd (pBin Try.prog .mul 3 (.tmp 27) (.tmp 28) x1 x2) fun x29 =>
    bnd (pBin Try.prog .sub 3 (.tmp 26) (.tmp 29) x26 x29) fun x30 =>
    bnd (inv (.func 97) #[] #[x0, x23, x30] h) fun x31 =>
    bnd (pBin Try.prog .neq 48 (.tmp 31) (.const (.int .u64 0)) x31.1 (.int .u64 0)) fun x32 =>
    K (x32) x31.2
theorem r83_5  : kCode env 83 false inv k (cp c83 414) (act 33 [(0, x0), (1, x1), (2, x2), (12, x12)]) h K =
    G83_5 inv x0 x1 x2 h fun y19 h => K .normal (act 33 [(19, y19)]) h := kq_reg
theorem b83_rrrrrllr  : kCode env 83 false inv k (cp c83 415) (act 33 [(19, x19)]) h K = brV x19 (kCode env 83 false inv k (cp c83 830) (act 33 [(19, x19)]) h K) (kCode env 83 false inv k (cp c83 831) (act 33 [(19, x19)]) h K) := kq_cond
theorem r83_6  : kCode env 83 false inv k (cp c83 1660) (act 33 [(19, x19)]) h K =
    K .normal (act 33 [(6, (.int .i64 4))]) h := kq_reg
theorem r83_7  : kCode env 83 false inv k (cp c83 14) (act 33 [(19, x19)]) h K =
    K .normal (act 33 [(6, (.int .i64 0))]) h := kq_reg
/-- shadowbook/packs.check -/
noncomputable def F83 (inv : Inv) (k : Nat) (x0 x1 x2 : Value) (h : AH) : Option (Value × AH) :=
    bnd (inv (.func 59) #[] #[x1, x2] h) fun x10 =>
    bnd (pUn Try.prog .not x10.1) fun x11 =>
    brV x11
    (some ((.int .i64 2), x10.2))
    (bnd (pLen Try.prog #[30] x0 x10.2) fun x14 =>
    bnd (inv (.func 60) #[] #[x1, x2] x10.2) fun x17 =>
    bnd (pBin Try.prog .neq 3 (.tmp 14) (.tmp 17) x14 x17.1) fun x18 =>
    brV x18
    (some ((.int .i64 4), x17.2))
    (G83_5 inv x0 x1 x2 x17.2 fun y19 h =>
    brV y19
    (some ((.int .i64 4), h))
    (some ((.int .i64 0), h))))
theorem F83_eq : eFun env k inv 83 #[x0, x1, x2] h = F83 inv k x0 x1 x2 h := by
      refine (kq_fun (a := act 33 [(0, x0), (1, x1), (2, x2)]) (c := cp c83 1)).trans ?_
      unfold F83
      simp only [kq_seq c83 1, r83_0, kq_seq c83 3, kq_block c83 6 0, kq_seq c83 12, r83_1, b83_rllr, kq_seq c83 50, r83_2, kq_ret c83 101, res83_0, kq_seq c83 51, r83_3, b83_rrrllr, kq_seq c83 206, r83_4, kq_ret c83 413, kq_seq c83 207, r83_5, b83_rrrrrllr, kq_seq c83 830, r83_6, kq_ret c83 1661, kq_skip c83 831, kq_seq c83 7, r83_7, kq_ret c83 15, reduceIte, reduceCtorEq, XE.exit.injEq, Nat.reduceEqDiff, Nat.reduceMul, Nat.reduceAdd] <;> kernel_rfl
theorem F83_call : eInv env (k + 1) (.func 83) #[] #[x0, x1, x2] h = F83 (eInv env k) k x0 x1 x2 h := kq_inv F83_eq
noncomputable def c84 : Code := codeOf Try.prog 84
theorem r84_0  : kCode env 84 false inv k (cp c84 2) (act 8 [(0, x0), (1, x1), (2, x2)]) h K =
    bnd (pBox Try.prog 30 x0 h) fun x3 =>
    bnd (pBox Try.prog 3 x1 x3.2) fun x4 =>
    bnd (pBox Try.prog 3 x2 x4.2) fun x5 =>
    K .normal (act 8 [(3, x3.1), (4, x4.1), (5, x5.1)]) x5.2 := kq_reg
theorem r84_1  : kCode env 84 false inv k (cp c84 6) (act 8 [(3, x3), (4, x4), (5, x5)]) h K =
    bnd (pMakeFunc (.func 98) #[] #[x3, x4, x5]) fun x7 =>
    K .normal (act 8 [(6, x7)]) h := kq_reg
theorem res84_0 : resOfFn env.P 84 .ret (act 8 [(6, x6)]) h = some (x6, h) := kq_res
/-- shadowbook/packs.Each -/
noncomputable def F84 (inv : Inv) (k : Nat) (x0 x1 x2 : Value) (h : AH) : Option (Value × AH) :=
    bnd (pBox Try.prog 30 x0 h) fun x3 =>
    bnd (pBox Try.prog 3 x1 x3.2) fun x4 =>
    bnd (pBox Try.prog 3 x2 x4.2) fun x5 =>
    bnd (pMakeFunc (.func 98) #[] #[x3.1, x4.1, x5.1]) fun x7 =>
    some (x7, x5.2)
theorem F84_eq : eFun env k inv 84 #[x0, x1, x2] h = F84 inv k x0 x1 x2 h := by
      refine (kq_fun (a := act 8 [(0, x0), (1, x1), (2, x2)]) (c := cp c84 1)).trans ?_
      unfold F84
      simp only [kq_seq c84 1, r84_0, kq_seq c84 3, r84_1, kq_ret c84 7, res84_0, reduceIte, reduceCtorEq, XE.exit.injEq, Nat.reduceEqDiff, Nat.reduceMul, Nat.reduceAdd] <;> kernel_rfl
theorem F84_call : eInv env (k + 1) (.func 84) #[] #[x0, x1, x2] h = F84 (eInv env k) k x0 x1 x2 h := kq_inv F84_eq
noncomputable def c95 : Code := codeOf Try.prog 95
theorem r95_0  : kCode env 95 false inv k (cp c95 2) (act 19 [(0, x0), (1, x1)]) h K =
    bnd (pLoad Try.prog 30 x1 h) fun x4 =>
    bnd (pLen Try.prog #[30] x4 h) fun x5 =>
    bnd (pBin Try.prog .sub 3 (.tmp 5) (.const (.int .i64 1)) x5 (.int .i64 1)) fun x6 =>
    K .normal (act 19 [(0, x0), (1, x1), (3, x6)]) h := kq_reg
theorem r95_1  : kCode env 95 false inv k (cp c95 48) (act 19 [(0, x0), (1, x1), (3, x3)]) h K =
    bnd (pBin Try.prog .geq 3 (.tmp 7) (.const (.int .i64 0)) x3 (.int .i64 0)) fun x8 =>
    K .normal (act 19 [(0, x0), (1, x1), (3, x3), (8, x8)]) h := kq_reg
theorem b95_rlllr  : kCode env 95 false inv k (cp c95 49) (act 19 [(0, x0), (1, x1), (3, x3), (8, x8)]) h K = brV x8 (kCode env 95 false inv k (cp c95 98) (act 19 [(0, x0), (1, x1), (3, x3), (8, x8)]) h K) (kCode env 95 false inv k (cp c95 99) (act 19 [(0, x0), (1, x1), (3, x3), (8, x8)]) h K) := kq_cond
theorem r95_3  : kCode env 95 false inv k (cp c95 200) (act 19 [(0, x0), (1, x1), (3, x3), (8, x8)]) h K =
    bnd (pLoad Try.prog 30 x1 h) fun x13 =>
    bnd (pIndexAddr Try.prog 30 x13 x3) fun x15 =>
    bnd (pLoad Try.prog 5 x15 h) fun x16 =>
    bnd (callV inv x0 #[x3, x16] h) fun x17 =>
    bnd (pUn Try.prog .not x17.1) fun x18 =>
    K .normal (act 19 [(0, x0), (1, x1), (3, x3), (18, x18)]) x17.2 := kq_reg
theorem b95_rllrllr  : kCode env 95 false inv k (cp c95 201) (act 19 [(0, x0), (1, x1), (3, x3), (18, x18)]) h K = brV x18 (kCode env 95 false inv k (cp c95 402) (act 19 [(0, x0), (1, x1), (3, x3), (18, x18)]) h K) (kCode env 95 false inv k (cp c95 403) (act 19 [(0, x0), (1, x1), (3, x3), (18, x18)]) h K) := kq_cond
theorem r95_2  : kCode env 95 false inv k (cp c95 51) (act 19 [(0, x0), (1, x1), (3, x3), (18, x18)]) h K =
    bnd (pBin Try.prog .sub 3 (.tmp 9) (.const (.int .i64 1)) x3 (.int .i64 1)) fun x10 =>
    K .normal (act 19 [(0, x0), (1, x1), (3, x10)]) h := kq_reg
noncomputable def F95_lr {β : Type} (inv : Inv) (k : Nat) : Nat → Value → Value → Value → AH → (Value → Value → Value → Value → AH → Option β) → (Value → Value → Value → Value → AH → Option β) → Option β
  | 0, _, _, _, _, _, _ => none
  | j + 1, x0, x1, x3, h, ke0, kr =>
    bnd (pBin Try.prog .geq 3 (.tmp 7) (.const (.int .i64 0)) x3 (.int .i64 0)) fun x8 =>
    brV x8
    (bnd (pLoad Try.prog 30 x1 h) fun x13 =>
    bnd (pIndexAddr Try.prog 30 x13 x3) fun x15 =>
    bnd (pLoad Try.prog 5 x15 h) fun x16 =>
    bnd (callV inv x0 #[x3, x16] h) fun x17 =>
    bnd (pUn Try.prog .not x17.1) fun x18 =>
    brV x18
    (kr x0 x1 x3 x18 x17.2)
    (bnd (pBin Try.prog .sub 3 (.tmp 9) (.const (.int .i64 1)) x3 (.int .i64 1)) fun x10 =>
    F95_lr inv k j x0 x1 x10 x17.2 ke0 kr))
    (ke0 x0 x1 x3 x8 h)
theorem F95_lr_j (j : Nat) : kLoop (kCode env 95 false inv k (cp c95 12)) j (act 19 [(0, x0), (1, x1), (3, x3)]) h K = F95_lr inv k j x0 x1 x3 h (fun y0 y1 y3 y8 h => K (.exit 0) (act 19 [(0, y0), (1, y1), (3, y3), (8, y8)]) h) (fun y0 y1 y3 y18 h => K .ret (act 19 [(0, y0), (1, y1), (3, y3), (18, y18)]) h) := by
      induction j generalizing x0 x1 x3 h with
      | zero => rfl
      | succ j ih =>
        unfold F95_lr
        simp only [kLoop, kq_seq c95 12, kq_seq c95 24, r95_1, b95_rlllr, kq_skip c95 98, kq_seq c95 25, kq_block c95 50 1, kq_seq c95 100, r95_3, b95_rllrllr, kq_ret c95 402, kq_skip c95 403, r95_2, kq_exit c95 99 0, ih, reduceIte, reduceCtorEq, XE.exit.injEq, Nat.reduceEqDiff, Nat.reduceMul, Nat.reduceAdd] <;> kernel_rfl
theorem F95_lr_eq  : kCode env 95 false inv k (cp c95 6) (act 19 [(0, x0), (1, x1), (3, x3)]) h K = F95_lr inv k k x0 x1 x3 h (fun y0 y1 y3 y8 h => K (.exit 0) (act 19 [(0, y0), (1, y1), (3, y3), (8, y8)]) h) (fun y0 y1 y3 y18 h => K .ret (act 19 [(0, y0), (1, y1), (3, y3), (18, y18)]) h) := kq_loop (F95_lr_j k)
theorem res95_0 : resOfFn env.P 95 .normal (act 19 [(0, x0), (1, x1), (3, x3), (8, x8)]) h = some (.tuple #[], h) := kq_res
theorem res95_1 : resOfFn env.P 95 .ret (act 19 [(0, x0), (1, x1), (3, x3), (18, x18)]) h = some (.tuple #[], h) := kq_res
/-- slices.Backward[[]byte,byte]$1 -/
noncomputable def F95 (inv : Inv) (k : Nat) (x0 x1 : Value) (h : AH) : Option (Value × AH) :=
    bnd (pLoad Try.prog 30 x1 h) fun x4 =>
    bnd (pLen Try.prog #[30] x4 h) fun x5 =>
    bnd (pBin Try.prog .sub 3 (.tmp 5) (.const (.int .i64 1)) x5 (.int .i64 1)) fun x6 =>
    F95_lr inv k k x0 x1 x6 h
    (fun y0 y1 y3 y8 h =>
    some (.tuple #[], h))
    (fun y0_1 y1_2 y3_3 y18 h_4 =>
    some (.tuple #[], h_4))
theorem F95_eq : eFun env k inv 95 #[x0, x1] h = F95 inv k x0 x1 h := by
      refine (kq_fun (a := act 19 [(0, x0), (1, x1)]) (c := cp c95 1)).trans ?_
      unfold F95
      simp only [kq_seq c95 1, r95_0, kq_block c95 3 0, F95_lr_eq, res95_0, res95_1, reduceIte, reduceCtorEq, XE.exit.injEq, Nat.reduceEqDiff, Nat.reduceMul, Nat.reduceAdd] <;> kernel_rfl
theorem F95_call : eInv env (k + 1) (.func 95) #[] #[x0, x1] h = F95 (eInv env k) k x0 x1 h := kq_inv F95_eq
noncomputable def c96 : Code := codeOf Try.prog 96
theorem r96_0  : kCode env 96 false inv k (cp c96 2) (act 19 [(0, x0), (1, x1)]) h K =
    K .normal (act 19 [(0, x0), (1, x1)]) h := kq_reg
theorem r96_1  : kCode env 96 false inv k (cp c96 12) (act 19 [(0, x0), (1, x1)]) h K =
    bnd (pLen Try.prog #[30] x0 h) fun x7 =>
    K .normal (act 19 [(0, x0), (1, x1), (7, x7), (8, (.int .i64 0))]) h := kq_reg
theorem r96_2  : kCode env 96 false inv k (cp c96 104) (act 19 [(0, x0), (1, x1), (7, x7), (8, x8)]) h K =
    bnd (pBin Try.prog .lss 3 (.tmp 8) (.tmp 7) x8 x7) fun x9 =>
    K .normal (act 19 [(0, x0), (1, x1), (7, x7), (8, x8), (9, x9)]) h := kq_reg
theorem b96_lrllrlr  : kCode env 96 false inv k (cp c96 210) (act 19 [(0, x0), (1, x1), (7, x7), (8, x8), (9, x9)]) h K = brV x9 (kCode env 96 false inv k (cp c96 420) (act 19 [(0, x0), (1, x1), (7, x7), (8, x8), (9, x9)]) h K) (kCode env 96 false inv k (cp c96 421) (act 19 [(0, x0), (1, x1), (7, x7), (8, x8), (9, x9)]) h K) := kq_cond
theorem r96_3  : kCode env 96 false inv k (cp c96 1688) (act 19 [(0, x0), (1, x1), (7, x7), (8, x8), (9, x9)]) h K =
    K .normal (act 19 [(0, x0), (1, x1), (5, x8), (7, x7), (8, x8)]) h := kq_reg
theorem r96_4  : kCode env 96 false inv k (cp c96 3378) (act 19 [(0, x0), (1, x1), (5, x5), (7, x7), (8, x8)]) h K =
    bnd (pIndexAddr Try.prog 30 x0 x5) fun x14 =>
    bnd (pLoad Try.prog 5 x14 h) fun x15 =>
    bnd (callV inv x1 #[x15] h) fun x16 =>
    K .normal (act 19 [(0, x0), (1, x1), (5, x5), (7, x7), (8, x8), (16, x16.1)]) x16.2 := kq_reg
theorem b96_rrllrrllrlr  : kCode env 96 false inv k (cp c96 3379) (act 19 [(0, x0), (1, x1), (5, x5), (7, x7), (8, x8), (16, x16)]) h K = brV x16 (kCode env 96 false inv k (cp c96 6758) (act 19 [(0, x0), (1, x1), (5, x5), (7, x7), (8, x8), (16, x16)]) h K) (kCode env 96 false inv k (cp c96 6759) (act 19 [(0, x0), (1, x1), (5, x5), (7, x7), (8, x8), (16, x16)]) h K) := kq_cond
theorem r96_5  : kCode env 96 false inv k (cp c96 13516) (act 19 [(0, x0), (1, x1), (5, x5), (7, x7), (8, x8), (16, x16)]) h K =
    K .normal (act 19 [(4, x5)]) h := kq_reg
theorem r96_6  : kCode env 96 false inv k (cp c96 423) (act 19 [(0, x0), (1, x1), (5, x5), (7, x7), (8, x8), (16, x16)]) h K =
    bnd (pBin Try.prog .add 3 (.tmp 8) (.const (.int .i64 1)) x8 (.int .i64 1)) fun x18 =>
    K .normal (act 19 [(0, x0), (1, x1), (7, x7), (8, x18)]) h := kq_reg
noncomputable def F96_lrlr {β : Type} (inv : Inv) (k : Nat) : Nat → Value → Value → Value → Value → AH → (Value → Value → Value → Value → Value → AH → Option β) → (Value → AH → Option β) → Option β
  | 0, _, _, _, _, _, _, _ => none
  | j + 1, x0, x1, x7, x8, h, ke0, kr =>
    bnd (pBin Try.prog .lss 3 (.tmp 8) (.tmp 7) x8 x7) fun x9 =>
    brV x9
    (bnd (pIndexAddr Try.prog 30 x0 x8) fun x14 =>
    bnd (pLoad Try.prog 5 x14 h) fun x15 =>
    bnd (callV inv x1 #[x15] h) fun x16 =>
    brV x16.1
    (kr x8 x16.2)
    (bnd (pBin Try.prog .add 3 (.tmp 8) (.const (.int .i64 1)) x8 (.int .i64 1)) fun x18 =>
    F96_lrlr inv k j x0 x1 x7 x18 x16.2 ke0 kr))
    (ke0 x0 x1 x7 x8 x9 h)
theorem F96_lrlr_j (j : Nat) : kLoop (kCode env 96 false inv k (cp c96 52)) j (act 19 [(0, x0), (1, x1), (7, x7), (8, x8)]) h K = F96_lrlr inv k j x0 x1 x7 x8 h (fun y0 y1 y7 y8 y9 h => K (.exit 0) (act 19 [(0, y0), (1, y1), (7, y7), (8, y8), (9, y9)]) h) (fun y4 h => K .ret (act 19 [(4, y4)]) h) := by
      induction j generalizing x0 x1 x7 x8 h with
      | zero => rfl
      | succ j ih =>
        unfold F96_lrlr
        simp only [kLoop, kq_seq c96 52, r96_2, kq_seq c96 105, b96_lrllrlr, kq_skip c96 420, kq_seq c96 211, kq_block c96 422 1, kq_seq c96 844, r96_3, kq_seq c96 1689, r96_4, b96_rrllrrllrlr, kq_seq c96 6758, r96_5, kq_ret c96 13517, kq_skip c96 6759, r96_6, kq_exit c96 421 0, ih, reduceIte, reduceCtorEq, XE.exit.injEq, Nat.reduceEqDiff, Nat.reduceMul, Nat.reduceAdd] <;> kernel_rfl
theorem F96_lrlr_eq  : kCode env 96 false inv k (cp c96 26) (act 19 [(0, x0), (1, x1), (7, x7), (8, x8)]) h K = F96_lrlr inv k k x0 x1 x7 x8 h (fun y0 y1 y7 y8 y9 h => K (.exit 0) (act 19 [(0, y0), (1, y1), (7, y7), (8, y8), (9, y9)]) h) (fun y4 h => K .ret (act 19 [(4, y4)]) h) := kq_loop (F96_lrlr_j k)
theorem r96_7  : kCode env 96 false inv k (cp c96 14) (act 19 [(0, x0), (1, x1), (7, x7), (8, x8), (9, x9)]) h K =
    K .normal (act 19 [(4, (.int .i64 (-1)))]) h := kq_reg
theorem res96_0 : resOfFn env.P 96 .ret (act 19 [(4, x4)]) h = some (x4, h) := kq_res
/-- slices.IndexFunc[[]byte,byte] -/
noncomputable def F96 (inv : Inv) (k : Nat) (x0 x1 : Value) (h : AH) : Option (Value × AH) :=
    bnd (pLen Try.prog #[30] x0 h) fun x7 =>
    F96_lrlr inv k k x0 x1 x7 (.int .i64 0) h
    (fun y0 y1 y7 y8 y9 h =>
    some ((.int .i64 (-1)), h))
    (fun y4 h_1 =>
    some (y4, h_1))
theorem F96_eq : eFun env k inv 96 #[x0, x1] h = F96 inv k x0 x1 h := by
      refine (kq_fun (a := act 19 [(0, x0), (1, x1)]) (c := cp c96 1)).trans ?_
      unfold F96
      simp only [kq_seq c96 1, r96_0, kq_seq c96 3, kq_seq c96 6, r96_1, kq_block c96 13 0, F96_lrlr_eq, kq_seq c96 7, r96_7, kq_ret c96 15, res96_0, reduceIte, reduceCtorEq, XE.exit.injEq, Nat.reduceEqDiff, Nat.reduceMul, Nat.reduceAdd] <;> kernel_rfl
theorem F96_call : eInv env (k + 1) (.func 96) #[] #[x0, x1] h = F96 (eInv env k) k x0 x1 h := kq_inv F96_eq
end Go.Proofs.Ytagcejlclcldcaa.Sh
