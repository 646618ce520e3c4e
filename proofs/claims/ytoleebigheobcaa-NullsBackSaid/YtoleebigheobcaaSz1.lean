/- Shallow functions, part 1. Printed by a program of the prover's own from the loaded program; Lean checks it. -/
import Derived.Test.YtoleebigheobcaaSz0
set_option linter.unusedVariables false
set_option linter.unusedSimpArgs false
set_option maxRecDepth 100000
namespace Go.Proofs.Ytoleebigheobcaa.Sh
open Go Go.RowKit Go.Proofs.Ev
variable {β : Type} {inv : Inv} {k : Nat} {h : AH} {K : XE → Act → AH → Option β} {x0 x1 x2 x3 x4 x5 x6 x7 x8 x9 x10 x11 x12 x13 x14 x15 x16 x17 x18 x19 x20 x21 x22 x23 x24 x25 x26 x27 x28 x29 x30 x31 x32 x33 x34 x35 x36 x37 x38 x39 x40 x41 x42 x43 x44 x45 x46 x47 x48 x49 x50 x51 x52 x53 x55 x56 x57 x59 x60 x61 x62 x64 x66 x67 x68 x74 x75 x76 x77 x78 x79 x80 x82 x83 x86 x87 x88 x98 z0 z1 : Value}
noncomputable def c5 : Code := codeOf Try.prog 5
theorem r5_0  : kCode env 5 false inv k (cp c5 2) (act 100 [(0, x0), (1, x1)]) h K =
    K .normal (act 100 [(0, x0), (1, x1)]) h := kq_reg
theorem r5_1  : kCode env 5 false inv k (cp c5 12) (act 100 [(0, x0), (1, x1)]) h K =
    bnd (inv (.func 8) #[] #[] h) fun x15 =>
    bnd (pUn Try.prog .not x15.1) fun x16 =>
    K .normal (act 100 [(0, x0), (1, x1), (16, x16)]) x15.2 := kq_reg
theorem b5_rlr  : kCode env 5 false inv k (cp c5 13) (act 100 [(0, x0), (1, x1), (16, x16)]) h K = brV x16 (kCode env 5 false inv k (cp c5 26) (act 100 [(0, x0), (1, x1), (16, x16)]) h K) (kCode env 5 false inv k (cp c5 27) (act 100 [(0, x0), (1, x1), (16, x16)]) h K) := kq_cond
theorem r5_2  : kCode env 5 false inv k (cp c5 52) (act 100 [(0, x0), (1, x1), (16, x16)]) h K =
    K .normal (act 100 [(4, (.bool false))]) h := kq_reg
theorem res5_0 : resOfFn env.P 5 .ret (act 100 [(4, x4)]) h = some (x4, h) := kq_res
noncomputable abbrev G5_3 {β : Type} (inv : Inv) (x0 x1 : Value) (h : AH) (K : Value → AH → Option β) : Option β :=
    bnd (pLen Try.prog #[22] x0 h) fun x18 =>
    bnd (pBin Try.prog .gtr 3 (.tmp 18) (.const (.int .i64 300)) x18 (.int .i64 300)) fun x19 =>
    bnd (gd (some x19) false h (some (x1, h))) fun x21 =>
    bnd (gd (some x19) false x21.2 (lt (pLen Try.prog #[32] x21.1 x21.2) x21.2)) fun x22 =>
    bnd (gd (some x19) false x22.2 (lt (pBin Try.prog .gtr 3 (.tmp 22) (.const (.int .i64 300)) x22.1 (.int .i64 300)) x22.2)) fun x23 =>
    bnd (pickV x19 (.bool true) x23.1) fun x24 =>
    K (x24) x23.2
theorem r5_3  : kCode env 5 false inv k (cp c5 28) (act 100 [(0, x0), (1, x1), (16, x16)]) h K =
    G5_3 inv x0 x1 h fun y24 h => K .normal (act 100 [(0, x0), (1, x1), (24, y24)]) h := kq_reg
theorem b5_rlrr  : kCode env 5 false inv k (cp c5 29) (act 100 [(0, x0), (1, x1), (24, x24)]) h K = brV x24 (kCode env 5 false inv k (cp c5 58) (act 100 [(0, x0), (1, x1), (24, x24)]) h K) (kCode env 5 false inv k (cp c5 59) (act 100 [(0, x0), (1, x1), (24, x24)]) h K) := kq_cond
theorem r5_4  : kCode env 5 false inv k (cp c5 116) (act 100 [(0, x0), (1, x1), (24, x24)]) h K =
    K .normal (act 100 [(4, (.bool true))]) h := kq_reg
theorem r5_5  : kCode env 5 false inv k (cp c5 30) (act 100 [(0, x0), (1, x1), (24, x24)]) h K =
    bnd (inv (.func 14) #[] #[x0] h) fun x27 =>
    bnd (pExtract x27.1 0) fun x28 =>
    bnd (pExtract x27.1 1) fun x29 =>
    K .normal (act 100 [(0, x0), (1, x1), (5, x28), (6, x29)]) x27.2 := kq_reg
theorem r5_6  : kCode env 5 false inv k (cp c5 62) (act 100 [(0, x0), (1, x1), (5, x5), (6, x6)]) h K =
    bnd (inv (.func 16) #[] #[x5] h) fun x32 =>
    bnd (pAppend Try.prog #[32, 32] x32.1 x1 x32.2) fun x34 =>
    bnd (inv (.func 15) #[] #[x34.1] x34.2) fun x35 =>
    bnd (pExtract x35.1 0) fun x36 =>
    bnd (pExtract x35.1 1) fun x37 =>
    bnd (pExtract x35.1 2) fun x38 =>
    K .normal (act 100 [(0, x0), (1, x1), (5, x5), (6, x6), (7, x36), (8, x37), (9, x38)]) x35.2 := kq_reg
noncomputable abbrev G5_7 {β : Type} (inv : Inv) (x0 x1 x5 x6 x7 x8 x9 : Value) (h : AH) (K : Value → AH → Option β) : Option β :=
    bnd (pBin Try.prog .neq 33 (.tmp 39) (.const (.int .i64 0)) x6 (.int .i64 0)) fun x40 =>
    bnd (gd (some x40) false h (some (x9, h))) fun x42 =>
    bnd (gd (some x40) false x42.2 (lt (pBin Try.prog .neq 33 (.tmp 42) (.const (.int .i64 0)) x42.1 (.int .i64 0)) x42.2)) fun x43 =>
    bnd (pickV x40 (.bool true) x43.1) fun x44 =>
    bnd (gd (some x44) false x43.2 (some (x8, x43.2))) fun x46 =>
    bnd (gd (some x44) false x46.2 (some (x5, x46.2))) fun x47 =>
    bnd (gd (some x44) false x47.2 (lt (pLen Try.prog #[32] x47.1 x47.2) x47.2)) fun x48 =>
    bnd (gd (some x44) false x48.2 (lt (pBin Try.prog .neq 3 (.tmp 46) (.tmp 48) x46.1 x48.1) x48.2)) fun x49 =>
    bnd (pickV x44 (.bool true) x49.1) fun x50 =>
    bnd (gd (some x50) false x49.2 (some (x7, x49.2))) fun x52 =>
    bnd (gd (some x50) false x52.2 (some (x0, x52.2))) fun x53 =>
    bnd (gd (some x50) false x53.2 (inv (.func 12) #[] #[x52.1, x53.1] x53.2)) fun x54 =>
    bnd (gd (some x50) false x54.2 (lt (pUn Try.prog .not x54.1) x54.2)) fun x55 =>
    bnd (pickV x50 (.bool true) x55.1) fun x56 =>
    K (x56) x55.2
theorem r5_7  : kCode env 5 false inv k (cp c5 252) (act 100 [(0, x0), (1, x1), (5, x5), (6, x6), (7, x7), (8, x8), (9, x9)]) h K =
    G5_7 inv x0 x1 x5 x6 x7 x8 x9 h fun y56 h => K .normal (act 100 [(1, x1), (56, y56)]) h := kq_reg
theorem b5_rlrrrrr  : kCode env 5 false inv k (cp c5 253) (act 100 [(1, x1), (56, x56)]) h K = brV x56 (kCode env 5 false inv k (cp c5 506) (act 100 [(1, x1), (56, x56)]) h K) (kCode env 5 false inv k (cp c5 507) (act 100 [(1, x1), (56, x56)]) h K) := kq_cond
theorem r5_8  : kCode env 5 false inv k (cp c5 1012) (act 100 [(1, x1), (56, x56)]) h K =
    K .normal (act 100 [(4, (.bool false))]) h := kq_reg
theorem r5_9  : kCode env 5 false inv k (cp c5 254) (act 100 [(1, x1), (56, x56)]) h K =
    bnd (inv (.func 15) #[] #[x1] h) fun x59 =>
    bnd (pExtract x59.1 0) fun x60 =>
    bnd (pExtract x59.1 1) fun x61 =>
    bnd (pExtract x59.1 2) fun x62 =>
    K .normal (act 100 [(1, x1), (10, x60), (11, x61), (12, x62)]) x59.2 := kq_reg
theorem r5_10  : kCode env 5 false inv k (cp c5 1020) (act 100 [(1, x1), (10, x10), (11, x11), (12, x12)]) h K =
    bnd (pBin Try.prog .neq 33 (.tmp 63) (.const (.int .i64 0)) x12 (.int .i64 0)) fun x64 =>
    K .normal (act 100 [(1, x1), (10, x10), (11, x11), (12, x12), (64, x64)]) h := kq_reg
theorem b5_rlrrrrrrr  : kCode env 5 false inv k (cp c5 1021) (act 100 [(1, x1), (10, x10), (11, x11), (12, x12), (64, x64)]) h K = brV x64 (kCode env 5 false inv k (cp c5 2042) (act 100 [(1, x1), (10, x10), (11, x11), (12, x12), (64, x64)]) h K) (kCode env 5 false inv k (cp c5 2043) (act 100 [(1, x1), (10, x10), (11, x11), (12, x12), (64, x64)]) h K) := kq_cond
noncomputable abbrev G5_11 {β : Type} (inv : Inv) (x10 x11 x12 : Value) (h : AH) (K : Value → AH → Option β) : Option β :=
    bnd (pBin Try.prog .eql 33 (.tmp 65) (.const (.int .i64 4)) x12 (.int .i64 4)) fun x66 =>
    bnd (gd (some x66) true h (some (x10, h))) fun x68 =>
    bnd (gd (some x66) true x68.2 (lt (pLen Try.prog #[22] x68.1 x68.2) x68.2)) fun x69 =>
    bnd (gd (some x66) true x69.2 (lt (pBin Try.prog .eql 3 (.tmp 69) (.const (.int .i64 0)) x69.1 (.int .i64 0)) x69.2)) fun x70 =>
    bnd (pickV x66 x70.1 (.bool false)) fun x71 =>
    bnd (gd (some x71) true x70.2 (some (x11, x70.2))) fun x73 =>
    bnd (gd (some x71) true x73.2 (lt (pBin Try.prog .eql 3 (.tmp 73) (.const (.int .i64 0)) x73.1 (.int .i64 0)) x73.2)) fun x74 =>
    bnd (pickV x71 x74.1 (.bool false)) fun x75 =>
    K (x75) x74.2
theorem r5_11  : kCode env 5 false inv k (cp c5 4084) (act 100 [(1, x1), (10, x10), (11, x11), (12, x12), (64, x64)]) h K =
    G5_11 inv x10 x11 x12 h fun y4 h => K .normal (act 100 [(4, y4)]) h := kq_reg
theorem r5_12  : kCode env 5 false inv k (cp c5 1022) (act 100 [(1, x1), (10, x10), (11, x11), (12, x12), (64, x64)]) h K =
    bnd (inv (.func 14) #[] #[x10] h) fun x78 =>
    bnd (pExtract x78.1 0) fun x79 =>
    bnd (pExtract x78.1 1) fun x80 =>
    K .normal (act 100 [(1, x1), (11, x11), (13, x79), (14, x80)]) x78.2 := kq_reg
noncomputable abbrev G5_13 {β : Type} (inv : Inv) (x1 x11 x13 x14 : Value) (h : AH) (K : Value → AH → Option β) : Option β :=
    bnd (pBin Try.prog .eql 33 (.tmp 81) (.const (.int .i64 0)) x14 (.int .i64 0)) fun x82 =>
    bnd (gd (some x82) true h (some (x11, h))) fun x84 =>
    bnd (gd (some x82) true x84.2 (lt (pBin Try.prog .geq 3 (.tmp 84) (.const (.int .i64 0)) x84.1 (.int .i64 0)) x84.2)) fun x85 =>
    bnd (pickV x82 x85.1 (.bool false)) fun x86 =>
    bnd (gd (some x86) true x85.2 (some (x11, x85.2))) fun x88 =>
    bnd (gd (some x86) true x88.2 (some (x1, x88.2))) fun x89 =>
    bnd (gd (some x86) true x89.2 (lt (pLen Try.prog #[32] x89.1 x89.2) x89.2)) fun x90 =>
    bnd (gd (some x86) true x90.2 (lt (pBin Try.prog .leq 3 (.tmp 88) (.tmp 90) x88.1 x90.1) x90.2)) fun x91 =>
    bnd (pickV x86 x91.1 (.bool false)) fun x92 =>
    bnd (gd (some x92) true x91.2 (some (x13, x91.2))) fun x94 =>
    bnd (gd (some x92) true x94.2 (some (x1, x94.2))) fun x95 =>
    bnd (gd (some x92) true x95.2 (some (x11, x95.2))) fun x96 =>
    bnd (gd (some x92) true x96.2 (lt (pSlice Try.prog 32 x95.1 none (some x96.1) none x96.2) x96.2)) fun x97 =>
    bnd (gd (some x92) true x97.2 (inv (.func 17) #[] #[x94.1, x97.1] x97.2)) fun x98 =>
    bnd (pickV x92 x98.1 (.bool false)) fun x99 =>
    K (x99) x98.2
theorem r5_13  : kCode env 5 false inv k (cp c5 2046) (act 100 [(1, x1), (11, x11), (13, x13), (14, x14)]) h K =
    G5_13 inv x1 x11 x13 x14 h fun y4 h => K .normal (act 100 [(4, y4)]) h := kq_reg
/-- shadowbook/shadowbooklaw08.NullsBack -/
noncomputable def F5 (inv : Inv) (k : Nat) (x0 x1 : Value) (h : AH) : Option (Value × AH) :=
    bnd (inv (.func 8) #[] #[] h) fun x15 =>
    bnd (pUn Try.prog .not x15.1) fun x16 =>
    brV x16
    (some ((.bool false), x15.2))
    (G5_3 inv x0 x1 x15.2 fun y24 h =>
    brV y24
    (some ((.bool true), h))
    (bnd (inv (.func 14) #[] #[x0] h) fun x27 =>
    bnd (pExtract x27.1 0) fun x28 =>
    bnd (pExtract x27.1 1) fun x29 =>
    bnd (inv (.func 16) #[] #[x28] x27.2) fun x32 =>
    bnd (pAppend Try.prog #[32, 32] x32.1 x1 x32.2) fun x34 =>
    bnd (inv (.func 15) #[] #[x34.1] x34.2) fun x35 =>
    bnd (pExtract x35.1 0) fun x36 =>
    bnd (pExtract x35.1 1) fun x37 =>
    bnd (pExtract x35.1 2) fun x38 =>
    G5_7 inv x0 x1 x28 x29 x36 x37 x38 x35.2 fun y56 h_1 =>
    brV y56
    (some ((.bool false), h_1))
    (bnd (inv (.func 15) #[] #[x1] h_1) fun x59 =>
    bnd (pExtract x59.1 0) fun x60 =>
    bnd (pExtract x59.1 1) fun x61 =>
    bnd (pExtract x59.1 2) fun x62 =>
    bnd (pBin Try.prog .neq 33 (.tmp 63) (.const (.int .i64 0)) x62 (.int .i64 0)) fun x64 =>
    brV x64
    (G5_11 inv x60 x61 x62 x59.2 fun y4 h_2 =>
    some (y4, h_2))
    (bnd (inv (.func 14) #[] #[x60] x59.2) fun x78 =>
    bnd (pExtract x78.1 0) fun x79 =>
    bnd (pExtract x78.1 1) fun x80 =>
    G5_13 inv x1 x61 x79 x80 x78.2 fun y4_3 h_4 =>
    some (y4_3, h_4)))))
theorem F5_eq : eFun env k inv 5 #[x0, x1] h = F5 inv k x0 x1 h := by
      refine (kq_fun (a := act 100 [(0, x0), (1, x1)]) (c := cp c5 1)).trans ?_
      unfold F5
      simp only [kq_seq c5 1, r5_0, kq_seq c5 3, kq_seq c5 6, r5_1, b5_rlr, kq_seq c5 26, r5_2, kq_ret c5 53, res5_0, kq_skip c5 27, kq_seq c5 7, kq_seq c5 14, r5_3, b5_rlrr, kq_seq c5 58, r5_4, kq_ret c5 117, kq_skip c5 59, kq_seq c5 15, r5_5, kq_seq c5 31, r5_6, kq_seq c5 63, kq_seq c5 126, r5_7, b5_rlrrrrr, kq_seq c5 506, r5_8, kq_ret c5 1013, kq_skip c5 507, kq_seq c5 127, r5_9, kq_seq c5 255, kq_seq c5 510, r5_10, b5_rlrrrrrrr, kq_seq c5 2042, r5_11, kq_ret c5 4085, kq_skip c5 2043, kq_seq c5 511, r5_12, kq_seq c5 1023, r5_13, kq_ret c5 2047, reduceIte, reduceCtorEq, XE.exit.injEq, Nat.reduceEqDiff, Nat.reduceMul, Nat.reduceAdd] <;> kernel_rfl
theorem F5_call : eInv env (k + 1) (.func 5) #[] #[x0, x1] h = F5 (eInv env k) k x0 x1 h := kq_inv F5_eq
noncomputable def c9 : Code := codeOf Try.prog 9
theorem r9_0  : kCode env 9 false inv k (cp c9 2) (act 5 [(0, x0)]) h K =
    K .normal (act 5 [(0, x0)]) h := kq_reg
theorem r9_1  : kCode env 9 false inv k (cp c9 6) (act 5 [(0, x0)]) h K =
    bnd (inv (.func 23) #[] #[x0] h) fun x4 =>
    K .normal (act 5 [(2, x4.1)]) x4.2 := kq_reg
theorem res9_0 : resOfFn env.P 9 .ret (act 5 [(2, x2)]) h = some (x2, h) := kq_res
/-- shadowbook/nulls.Count -/
noncomputable def F9 (inv : Inv) (k : Nat) (x0 : Value) (h : AH) : Option (Value × AH) :=
    bnd (inv (.func 23) #[] #[x0] h) fun x4 =>
    some (x4.1, x4.2)
theorem F9_eq : eFun env k inv 9 #[x0] h = F9 inv k x0 h := by
      refine (kq_fun (a := act 5 [(0, x0)]) (c := cp c9 1)).trans ?_
      unfold F9
      simp only [kq_seq c9 1, r9_0, kq_seq c9 3, r9_1, kq_ret c9 7, res9_0, reduceIte, reduceCtorEq, XE.exit.injEq, Nat.reduceEqDiff, Nat.reduceMul, Nat.reduceAdd] <;> kernel_rfl
theorem F9_call : eInv env (k + 1) (.func 9) #[] #[x0] h = F9 (eInv env k) k x0 h := kq_inv F9_eq
noncomputable def c10 : Code := codeOf Try.prog 10
theorem r10_0  : kCode env 10 false inv k (cp c10 2) (act 34 [(0, x0), (1, x1)]) h K =
    K .normal (act 34 [(0, x0), (1, x1)]) h := kq_reg
theorem r10_1  : kCode env 10 false inv k (cp c10 12) (act 34 [(0, x0), (1, x1)]) h K =
    bnd (pLen Try.prog #[22] x0 h) fun x10 =>
    bnd (inv (.func 9) #[] #[x0] h) fun x12 =>
    bnd (pBin Try.prog .sub 3 (.tmp 10) (.tmp 12) x10 x12.1) fun x13 =>
    bnd (pBin Try.prog .neq 3 (.tmp 13) (.tmp 14) x13 x1) fun x15 =>
    K .normal (act 34 [(0, x0), (15, x15)]) x12.2 := kq_reg
theorem b10_rlr  : kCode env 10 false inv k (cp c10 13) (act 34 [(0, x0), (15, x15)]) h K = brV x15 (kCode env 10 false inv k (cp c10 26) (act 34 [(0, x0), (15, x15)]) h K) (kCode env 10 false inv k (cp c10 27) (act 34 [(0, x0), (15, x15)]) h K) := kq_cond
theorem r10_2  : kCode env 10 false inv k (cp c10 52) (act 34 [(0, x0), (15, x15)]) h K =
    K .normal (act 34 [(4, (.slice none 0 0))]) h := kq_reg
theorem res10_0 : resOfFn env.P 10 .ret (act 34 [(4, x4)]) h = some (x4, h) := kq_res
theorem r10_3  : kCode env 10 false inv k (cp c10 14) (act 34 [(0, x0), (15, x15)]) h K =
    K .normal (act 34 [(0, x0), (5, (.slice none 0 0))]) h := kq_reg
theorem r10_4  : kCode env 10 false inv k (cp c10 30) (act 34 [(0, x0), (5, x5)]) h K =
    K .normal (act 34 [(0, x0), (5, x5), (6, (.int .i64 0))]) h := kq_reg
theorem r10_5  : kCode env 10 false inv k (cp c10 124) (act 34 [(0, x0), (5, x5), (6, x6)]) h K =
    bnd (pLen Try.prog #[22] x0 h) fun x17 =>
    K .normal (act 34 [(5, x5), (6, x6), (16, x0), (17, x17), (18, (.int .i64 0))]) h := kq_reg
theorem r10_6  : kCode env 10 false inv k (cp c10 1000) (act 34 [(5, x5), (6, x6), (16, x16), (17, x17), (18, x18)]) h K =
    bnd (pBin Try.prog .lss 3 (.tmp 18) (.tmp 17) x18 x17) fun x19 =>
    K .normal (act 34 [(5, x5), (6, x6), (16, x16), (17, x17), (18, x18), (19, x19)]) h := kq_reg
theorem b10_lrllrlrrrr  : kCode env 10 false inv k (cp c10 2002) (act 34 [(5, x5), (6, x6), (16, x16), (17, x17), (18, x18), (19, x19)]) h K = brV x19 (kCode env 10 false inv k (cp c10 4004) (act 34 [(5, x5), (6, x6), (16, x16), (17, x17), (18, x18), (19, x19)]) h K) (kCode env 10 false inv k (cp c10 4005) (act 34 [(5, x5), (6, x6), (16, x16), (17, x17), (18, x18), (19, x19)]) h K) := kq_cond
theorem r10_7  : kCode env 10 false inv k (cp c10 16024) (act 34 [(5, x5), (6, x6), (16, x16), (17, x17), (18, x18), (19, x19)]) h K =
    bnd (pIndexAddr Try.prog 22 x16 x18) fun x20 =>
    bnd (pLoad Try.prog 4 x20 h) fun x21 =>
    K .normal (act 34 [(5, x5), (6, x6), (8, x21), (16, x16), (17, x17), (18, x18)]) h := kq_reg
theorem r10_8  : kCode env 10 false inv k (cp c10 64100) (act 34 [(5, x5), (6, x6), (8, x8), (16, x16), (17, x17), (18, x18)]) h K =
    K .normal (act 34 [(5, x5), (6, x6), (16, x16), (17, x17), (18, x18), (22, x8)]) h := kq_reg
theorem b10_rlrllrrllrlrrrr  : kCode env 10 false inv k (cp c10 64101) (act 34 [(5, x5), (6, x6), (16, x16), (17, x17), (18, x18), (22, x22)]) h K = brV x22 (kCode env 10 false inv k (cp c10 128202) (act 34 [(5, x5), (6, x6), (16, x16), (17, x17), (18, x18), (22, x22)]) h K) (kCode env 10 false inv k (cp c10 128203) (act 34 [(5, x5), (6, x6), (16, x16), (17, x17), (18, x18), (22, x22)]) h K) := kq_cond
theorem r10_9  : kCode env 10 false inv k (cp c10 256404) (act 34 [(5, x5), (6, x6), (16, x16), (17, x17), (18, x18), (22, x22)]) h K =
    bnd (pBuildSlice Try.prog 25 1 #[(0, (.int .i64 (-1)))] h) fun x24 =>
    bnd (pAppend Try.prog #[25, 25] x5 x24.1 x24.2) fun x25 =>
    K .normal (act 34 [(5, x25.1), (6, x6), (16, x16), (17, x17), (18, x18)]) x25.2 := kq_reg
theorem r10_10  : kCode env 10 false inv k (cp c10 64102) (act 34 [(5, x5), (6, x6), (16, x16), (17, x17), (18, x18), (22, x22)]) h K =
    bnd (pBuildSlice Try.prog 25 1 #[(0, x6)] h) fun x28 =>
    bnd (pAppend Try.prog #[25, 25] x5 x28.1 x28.2) fun x29 =>
    K .normal (act 34 [(5, x29.1), (6, x6), (16, x16), (17, x17), (18, x18)]) x29.2 := kq_reg
theorem r10_11  : kCode env 10 false inv k (cp c10 64103) (act 34 [(5, x5), (6, x6), (16, x16), (17, x17), (18, x18)]) h K =
    bnd (pBin Try.prog .add 3 (.tmp 30) (.const (.int .i64 1)) x6 (.int .i64 1)) fun x31 =>
    K .normal (act 34 [(5, x5), (6, x31), (16, x16), (17, x17), (18, x18)]) h := kq_reg
noncomputable def F10_lrrllrlrrrr {β : Type} (inv : Inv) (k : Nat) (x5 x6 x16 x17 x18 x19 : Value) (h : AH) (kn : (Value → Value → Value → Value → Value → AH → Option β)) : Option β :=
    bnd (pIndexAddr Try.prog 22 x16 x18) fun x20 =>
    bnd (pLoad Try.prog 4 x20 h) fun x21 =>
    brV x21
    (bnd (pBuildSlice Try.prog 25 1 #[(0, (.int .i64 (-1)))] h) fun x24 =>
    bnd (pAppend Try.prog #[25, 25] x5 x24.1 x24.2) fun x25 =>
    kn x25.1 x6 x16 x17 x18 x25.2)
    (bnd (pBuildSlice Try.prog 25 1 #[(0, x6)] h) fun x28 =>
    bnd (pAppend Try.prog #[25, 25] x5 x28.1 x28.2) fun x29 =>
    bnd (pBin Try.prog .add 3 (.tmp 30) (.const (.int .i64 1)) x6 (.int .i64 1)) fun x31 =>
    kn x29.1 x31 x16 x17 x18 x29.2)
theorem F10_lrrllrlrrrr_eq  : kCode env 10 false inv k (cp c10 4006) (act 34 [(5, x5), (6, x6), (16, x16), (17, x17), (18, x18), (19, x19)]) h K = F10_lrrllrlrrrr inv k x5 x6 x16 x17 x18 x19 h (fun y5 y6 y16 y17 y18 h => K .normal (act 34 [(5, y5), (6, y6), (16, y16), (17, y17), (18, y18)]) h) := by
      unfold F10_lrrllrlrrrr
      simp only [kq_block c10 4006 1, kq_seq c10 8012, r10_7, kq_seq c10 16025, kq_seq c10 32050, r10_8, b10_rlrllrrllrlrrrr, kq_seq c10 128202, r10_9, kq_exit c10 256405 1, kq_skip c10 128203, kq_seq c10 32051, r10_10, r10_11, reduceIte, reduceCtorEq, XE.exit.injEq, Nat.reduceEqDiff, Nat.reduceMul, Nat.reduceAdd] <;> kernel_rfl
theorem r10_12  : kCode env 10 false inv k (cp c10 4007) (act 34 [(5, x5), (6, x6), (16, x16), (17, x17), (18, x18)]) h K =
    bnd (pBin Try.prog .add 3 (.tmp 18) (.const (.int .i64 1)) x18 (.int .i64 1)) fun x32 =>
    K .normal (act 34 [(5, x5), (6, x6), (16, x16), (17, x17), (18, x32)]) h := kq_reg
noncomputable def F10_lrlrrrr {β : Type} (inv : Inv) (k : Nat) : Nat → Value → Value → Value → Value → Value → AH → (Value → Value → Value → Value → Value → Value → AH → Option β) → Option β
  | 0, _, _, _, _, _, _, _ => none
  | j + 1, x5, x6, x16, x17, x18, h, ke0 =>
    bnd (pBin Try.prog .lss 3 (.tmp 18) (.tmp 17) x18 x17) fun x19 =>
    brV x19
    (F10_lrrllrlrrrr inv k x5 x6 x16 x17 x18 x19 h
    (fun y5 y6 y16 y17 y18 h =>
    bnd (pBin Try.prog .add 3 (.tmp 18) (.const (.int .i64 1)) y18 (.int .i64 1)) fun x32 =>
    F10_lrlrrrr inv k j y5 y6 y16 y17 x32 h ke0))
    (ke0 x5 x6 x16 x17 x18 x19 h)
theorem F10_lrlrrrr_j (j : Nat) : kLoop (kCode env 10 false inv k (cp c10 500)) j (act 34 [(5, x5), (6, x6), (16, x16), (17, x17), (18, x18)]) h K = F10_lrlrrrr inv k j x5 x6 x16 x17 x18 h (fun y5 y6 y16 y17 y18 y19 h => K (.exit 0) (act 34 [(5, y5), (6, y6), (16, y16), (17, y17), (18, y18), (19, y19)]) h) := by
      induction j generalizing x5 x6 x16 x17 x18 h with
      | zero => rfl
      | succ j ih =>
        unfold F10_lrlrrrr
        simp only [kLoop, kq_seq c10 500, r10_6, kq_seq c10 1001, b10_lrllrlrrrr, kq_skip c10 4004, kq_seq c10 2003, F10_lrrllrlrrrr_eq, r10_12, kq_exit c10 4005 0, ih, reduceIte, reduceCtorEq, XE.exit.injEq, Nat.reduceEqDiff, Nat.reduceMul, Nat.reduceAdd] <;> kernel_rfl
theorem F10_lrlrrrr_eq  : kCode env 10 false inv k (cp c10 250) (act 34 [(5, x5), (6, x6), (16, x16), (17, x17), (18, x18)]) h K = F10_lrlrrrr inv k k x5 x6 x16 x17 x18 h (fun y5 y6 y16 y17 y18 y19 h => K (.exit 0) (act 34 [(5, y5), (6, y6), (16, y16), (17, y17), (18, y18), (19, y19)]) h) := kq_loop (F10_lrlrrrr_j k)
theorem r10_13  : kCode env 10 false inv k (cp c10 126) (act 34 [(5, x5), (6, x6), (16, x16), (17, x17), (18, x18), (19, x19)]) h K =
    K .normal (act 34 [(4, x5)]) h := kq_reg
/-- shadowbook/nulls.Spread -/
noncomputable def F10 (inv : Inv) (k : Nat) (x0 x1 : Value) (h : AH) : Option (Value × AH) :=
    bnd (pLen Try.prog #[22] x0 h) fun x10 =>
    bnd (inv (.func 9) #[] #[x0] h) fun x12 =>
    bnd (pBin Try.prog .sub 3 (.tmp 10) (.tmp 12) x10 x12.1) fun x13 =>
    bnd (pBin Try.prog .neq 3 (.tmp 13) (.tmp 14) x13 x1) fun x15 =>
    brV x15
    (some ((.slice none 0 0), x12.2))
    (bnd (pLen Try.prog #[22] x0 x12.2) fun x17 =>
    F10_lrlrrrr inv k k (.slice none 0 0) (.int .i64 0) x0 x17 (.int .i64 0) x12.2
    (fun y5 y6 y16 y17 y18 y19 h =>
    some (y5, h)))
theorem F10_eq : eFun env k inv 10 #[x0, x1] h = F10 inv k x0 x1 h := by
      refine (kq_fun (a := act 34 [(0, x0), (1, x1)]) (c := cp c10 1)).trans ?_
      unfold F10
      simp only [kq_seq c10 1, r10_0, kq_seq c10 3, kq_seq c10 6, r10_1, b10_rlr, kq_seq c10 26, r10_2, kq_ret c10 53, res10_0, kq_skip c10 27, kq_seq c10 7, r10_3, kq_seq c10 15, r10_4, kq_seq c10 31, kq_seq c10 62, r10_5, kq_block c10 125 0, F10_lrlrrrr_eq, kq_seq c10 63, r10_13, kq_ret c10 127, reduceIte, reduceCtorEq, XE.exit.injEq, Nat.reduceEqDiff, Nat.reduceMul, Nat.reduceAdd] <;> kernel_rfl
theorem F10_call : eInv env (k + 1) (.func 10) #[] #[x0, x1] h = F10 (eInv env k) k x0 x1 h := kq_inv F10_eq
noncomputable def c12 : Code := codeOf Try.prog 12
theorem r12_0  : kCode env 12 false inv k (cp c12 2) (act 26 [(0, x0), (1, x1)]) h K =
    K .normal (act 26 [(0, x0), (1, x1)]) h := kq_reg
theorem r12_1  : kCode env 12 false inv k (cp c12 12) (act 26 [(0, x0), (1, x1)]) h K =
    bnd (pLen Try.prog #[22] x0 h) fun x7 =>
    bnd (pLen Try.prog #[22] x1 h) fun x9 =>
    bnd (pBin Try.prog .neq 3 (.tmp 7) (.tmp 9) x7 x9) fun x10 =>
    K .normal (act 26 [(0, x0), (1, x1), (10, x10)]) h := kq_reg
theorem b12_rlr  : kCode env 12 false inv k (cp c12 13) (act 26 [(0, x0), (1, x1), (10, x10)]) h K = brV x10 (kCode env 12 false inv k (cp c12 26) (act 26 [(0, x0), (1, x1), (10, x10)]) h K) (kCode env 12 false inv k (cp c12 27) (act 26 [(0, x0), (1, x1), (10, x10)]) h K) := kq_cond
theorem r12_2  : kCode env 12 false inv k (cp c12 52) (act 26 [(0, x0), (1, x1), (10, x10)]) h K =
    K .normal (act 26 [(4, (.bool false))]) h := kq_reg
theorem res12_0 : resOfFn env.P 12 .ret (act 26 [(4, x4)]) h = some (x4, h) := kq_res
theorem r12_3  : kCode env 12 false inv k (cp c12 28) (act 26 [(0, x0), (1, x1), (10, x10)]) h K =
    K .normal (act 26 [(0, x0), (1, x1), (5, (.int .i64 0))]) h := kq_reg
theorem r12_4  : kCode env 12 false inv k (cp c12 464) (act 26 [(0, x0), (1, x1), (5, x5)]) h K =
    bnd (pLen Try.prog #[22] x0 h) fun x13 =>
    bnd (pBin Try.prog .lss 3 (.tmp 11) (.tmp 13) x5 x13) fun x14 =>
    K .normal (act 26 [(0, x0), (1, x1), (5, x5), (14, x14)]) h := kq_reg
theorem b12_rlllrlrr  : kCode env 12 false inv k (cp c12 465) (act 26 [(0, x0), (1, x1), (5, x5), (14, x14)]) h K = brV x14 (kCode env 12 false inv k (cp c12 930) (act 26 [(0, x0), (1, x1), (5, x5), (14, x14)]) h K) (kCode env 12 false inv k (cp c12 931) (act 26 [(0, x0), (1, x1), (5, x5), (14, x14)]) h K) := kq_cond
theorem r12_6  : kCode env 12 false inv k (cp c12 1864) (act 26 [(0, x0), (1, x1), (5, x5), (14, x14)]) h K =
    bnd (pIndexAddr Try.prog 22 x0 x5) fun x19 =>
    bnd (pLoad Try.prog 4 x19 h) fun x20 =>
    bnd (pIndexAddr Try.prog 22 x1 x5) fun x23 =>
    bnd (pLoad Try.prog 4 x23 h) fun x24 =>
    bnd (pBin Try.prog .neq 4 (.tmp 20) (.tmp 24) x20 x24) fun x25 =>
    K .normal (act 26 [(0, x0), (1, x1), (5, x5), (25, x25)]) h := kq_draw
theorem b12_rllrllrlrr  : kCode env 12 false inv k (cp c12 1865) (act 26 [(0, x0), (1, x1), (5, x5), (25, x25)]) h K = brV x25 (kCode env 12 false inv k (cp c12 3730) (act 26 [(0, x0), (1, x1), (5, x5), (25, x25)]) h K) (kCode env 12 false inv k (cp c12 3731) (act 26 [(0, x0), (1, x1), (5, x5), (25, x25)]) h K) := kq_cond
theorem r12_7  : kCode env 12 false inv k (cp c12 7460) (act 26 [(0, x0), (1, x1), (5, x5), (25, x25)]) h K =
    K .normal (act 26 [(4, (.bool false))]) h := kq_reg
theorem r12_5  : kCode env 12 false inv k (cp c12 467) (act 26 [(0, x0), (1, x1), (5, x5), (25, x25)]) h K =
    bnd (pBin Try.prog .add 3 (.tmp 15) (.const (.int .i64 1)) x5 (.int .i64 1)) fun x16 =>
    K .normal (act 26 [(0, x0), (1, x1), (5, x16)]) h := kq_reg
noncomputable def F12_lrlrr {β : Type} (inv : Inv) (k : Nat) : Nat → Value → Value → Value → AH → (Value → Value → Value → Value → AH → Option β) → (Value → AH → Option β) → Option β
  | 0, _, _, _, _, _, _ => none
  | j + 1, x0, x1, x5, h, ke0, kr =>
    bnd (pLen Try.prog #[22] x0 h) fun x13 =>
    bnd (pBin Try.prog .lss 3 (.tmp 11) (.tmp 13) x5 x13) fun x14 =>
    brV x14
    (bnd (pIndexAddr Try.prog 22 x0 x5) fun x19 =>
    bnd (pLoad Try.prog 4 x19 h) fun x20 =>
    bnd (pIndexAddr Try.prog 22 x1 x5) fun x23 =>
    bnd (pLoad Try.prog 4 x23 h) fun x24 =>
    bnd (pBin Try.prog .neq 4 (.tmp 20) (.tmp 24) x20 x24) fun x25 =>
    brV x25
    (kr (.bool false) h)
    (bnd (pBin Try.prog .add 3 (.tmp 15) (.const (.int .i64 1)) x5 (.int .i64 1)) fun x16 =>
    F12_lrlrr inv k j x0 x1 x16 h ke0 kr))
    (ke0 x0 x1 x5 x14 h)
theorem F12_lrlrr_j (j : Nat) : kLoop (kCode env 12 false inv k (cp c12 116)) j (act 26 [(0, x0), (1, x1), (5, x5)]) h K = F12_lrlrr inv k j x0 x1 x5 h (fun y0 y1 y5 y14 h => K (.exit 0) (act 26 [(0, y0), (1, y1), (5, y5), (14, y14)]) h) (fun y4 h => K .ret (act 26 [(4, y4)]) h) := by
      induction j generalizing x0 x1 x5 h with
      | zero => rfl
      | succ j ih =>
        unfold F12_lrlrr
        simp only [kLoop, kq_seq c12 116, kq_seq c12 232, r12_4, b12_rlllrlrr, kq_skip c12 930, kq_seq c12 233, kq_block c12 466 1, kq_seq c12 932, r12_6, b12_rllrllrlrr, kq_seq c12 3730, r12_7, kq_ret c12 7461, kq_skip c12 3731, r12_5, kq_exit c12 931 0, ih, reduceIte, reduceCtorEq, XE.exit.injEq, Nat.reduceEqDiff, Nat.reduceMul, Nat.reduceAdd] <;> kernel_rfl
theorem F12_lrlrr_eq  : kCode env 12 false inv k (cp c12 58) (act 26 [(0, x0), (1, x1), (5, x5)]) h K = F12_lrlrr inv k k x0 x1 x5 h (fun y0 y1 y5 y14 h => K (.exit 0) (act 26 [(0, y0), (1, y1), (5, y5), (14, y14)]) h) (fun y4 h => K .ret (act 26 [(4, y4)]) h) := kq_loop (F12_lrlrr_j k)
theorem r12_8  : kCode env 12 false inv k (cp c12 30) (act 26 [(0, x0), (1, x1), (5, x5), (14, x14)]) h K =
    K .normal (act 26 [(4, (.bool true))]) h := kq_reg
/-- shadowbook/shadowbookkit.Same[bool] -/
noncomputable def F12 (inv : Inv) (k : Nat) (x0 x1 : Value) (h : AH) : Option (Value × AH) :=
    bnd (pLen Try.prog #[22] x0 h) fun x7 =>
    bnd (pLen Try.prog #[22] x1 h) fun x9 =>
    bnd (pBin Try.prog .neq 3 (.tmp 7) (.tmp 9) x7 x9) fun x10 =>
    brV x10
    (some ((.bool false), h))
    (F12_lrlrr inv k k x0 x1 (.int .i64 0) h
    (fun y0 y1 y5 y14 h =>
    some ((.bool true), h))
    (fun y4 h_1 =>
    some (y4, h_1)))
theorem F12_eq : eFun env k inv 12 #[x0, x1] h = F12 inv k x0 x1 h := by
      refine (kq_fun (a := act 26 [(0, x0), (1, x1)]) (c := cp c12 1)).trans ?_
      unfold F12
      simp only [kq_seq c12 1, r12_0, kq_seq c12 3, kq_seq c12 6, r12_1, b12_rlr, kq_seq c12 26, r12_2, kq_ret c12 53, res12_0, kq_skip c12 27, kq_seq c12 7, kq_seq c12 14, r12_3, kq_block c12 29 0, F12_lrlrr_eq, kq_seq c12 15, r12_8, kq_ret c12 31, reduceIte, reduceCtorEq, XE.exit.injEq, Nat.reduceEqDiff, Nat.reduceMul, Nat.reduceAdd] <;> kernel_rfl
theorem F12_call : eInv env (k + 1) (.func 12) #[] #[x0, x1] h = F12 (eInv env k) k x0 x1 h := kq_inv F12_eq
noncomputable def c13 : Code := codeOf Try.prog 13
theorem r13_0  : kCode env 13 false inv k (cp c13 2) (act 26 [(0, x0), (1, x1)]) h K =
    K .normal (act 26 [(0, x0), (1, x1)]) h := kq_reg
theorem r13_1  : kCode env 13 false inv k (cp c13 12) (act 26 [(0, x0), (1, x1)]) h K =
    bnd (pLen Try.prog #[25] x0 h) fun x7 =>
    bnd (pLen Try.prog #[25] x1 h) fun x9 =>
    bnd (pBin Try.prog .neq 3 (.tmp 7) (.tmp 9) x7 x9) fun x10 =>
    K .normal (act 26 [(0, x0), (1, x1), (10, x10)]) h := kq_reg
theorem b13_rlr  : kCode env 13 false inv k (cp c13 13) (act 26 [(0, x0), (1, x1), (10, x10)]) h K = brV x10 (kCode env 13 false inv k (cp c13 26) (act 26 [(0, x0), (1, x1), (10, x10)]) h K) (kCode env 13 false inv k (cp c13 27) (act 26 [(0, x0), (1, x1), (10, x10)]) h K) := kq_cond
theorem r13_2  : kCode env 13 false inv k (cp c13 52) (act 26 [(0, x0), (1, x1), (10, x10)]) h K =
    K .normal (act 26 [(4, (.bool false))]) h := kq_reg
theorem res13_0 : resOfFn env.P 13 .ret (act 26 [(4, x4)]) h = some (x4, h) := kq_res
theorem r13_3  : kCode env 13 false inv k (cp c13 28) (act 26 [(0, x0), (1, x1), (10, x10)]) h K =
    K .normal (act 26 [(0, x0), (1, x1), (5, (.int .i64 0))]) h := kq_reg
theorem r13_4  : kCode env 13 false inv k (cp c13 464) (act 26 [(0, x0), (1, x1), (5, x5)]) h K =
    bnd (pLen Try.prog #[25] x0 h) fun x13 =>
    bnd (pBin Try.prog .lss 3 (.tmp 11) (.tmp 13) x5 x13) fun x14 =>
    K .normal (act 26 [(0, x0), (1, x1), (5, x5), (14, x14)]) h := kq_reg
theorem b13_rlllrlrr  : kCode env 13 false inv k (cp c13 465) (act 26 [(0, x0), (1, x1), (5, x5), (14, x14)]) h K = brV x14 (kCode env 13 false inv k (cp c13 930) (act 26 [(0, x0), (1, x1), (5, x5), (14, x14)]) h K) (kCode env 13 false inv k (cp c13 931) (act 26 [(0, x0), (1, x1), (5, x5), (14, x14)]) h K) := kq_cond
theorem r13_6  : kCode env 13 false inv k (cp c13 1864) (act 26 [(0, x0), (1, x1), (5, x5), (14, x14)]) h K =
    bnd (pIndexAddr Try.prog 25 x0 x5) fun x19 =>
    bnd (pLoad Try.prog 3 x19 h) fun x20 =>
    bnd (pIndexAddr Try.prog 25 x1 x5) fun x23 =>
    bnd (pLoad Try.prog 3 x23 h) fun x24 =>
    bnd (pBin Try.prog .neq 3 (.tmp 20) (.tmp 24) x20 x24) fun x25 =>
    K .normal (act 26 [(0, x0), (1, x1), (5, x5), (25, x25)]) h := kq_draw
theorem b13_rllrllrlrr  : kCode env 13 false inv k (cp c13 1865) (act 26 [(0, x0), (1, x1), (5, x5), (25, x25)]) h K = brV x25 (kCode env 13 false inv k (cp c13 3730) (act 26 [(0, x0), (1, x1), (5, x5), (25, x25)]) h K) (kCode env 13 false inv k (cp c13 3731) (act 26 [(0, x0), (1, x1), (5, x5), (25, x25)]) h K) := kq_cond
theorem r13_7  : kCode env 13 false inv k (cp c13 7460) (act 26 [(0, x0), (1, x1), (5, x5), (25, x25)]) h K =
    K .normal (act 26 [(4, (.bool false))]) h := kq_reg
theorem r13_5  : kCode env 13 false inv k (cp c13 467) (act 26 [(0, x0), (1, x1), (5, x5), (25, x25)]) h K =
    bnd (pBin Try.prog .add 3 (.tmp 15) (.const (.int .i64 1)) x5 (.int .i64 1)) fun x16 =>
    K .normal (act 26 [(0, x0), (1, x1), (5, x16)]) h := kq_reg
noncomputable def F13_lrlrr {β : Type} (inv : Inv) (k : Nat) : Nat → Value → Value → Value → AH → (Value → Value → Value → Value → AH → Option β) → (Value → AH → Option β) → Option β
  | 0, _, _, _, _, _, _ => none
  | j + 1, x0, x1, x5, h, ke0, kr =>
    bnd (pLen Try.prog #[25] x0 h) fun x13 =>
    bnd (pBin Try.prog .lss 3 (.tmp 11) (.tmp 13) x5 x13) fun x14 =>
    brV x14
    (bnd (pIndexAddr Try.prog 25 x0 x5) fun x19 =>
    bnd (pLoad Try.prog 3 x19 h) fun x20 =>
    bnd (pIndexAddr Try.prog 25 x1 x5) fun x23 =>
    bnd (pLoad Try.prog 3 x23 h) fun x24 =>
    bnd (pBin Try.prog .neq 3 (.tmp 20) (.tmp 24) x20 x24) fun x25 =>
    brV x25
    (kr (.bool false) h)
    (bnd (pBin Try.prog .add 3 (.tmp 15) (.const (.int .i64 1)) x5 (.int .i64 1)) fun x16 =>
    F13_lrlrr inv k j x0 x1 x16 h ke0 kr))
    (ke0 x0 x1 x5 x14 h)
theorem F13_lrlrr_j (j : Nat) : kLoop (kCode env 13 false inv k (cp c13 116)) j (act 26 [(0, x0), (1, x1), (5, x5)]) h K = F13_lrlrr inv k j x0 x1 x5 h (fun y0 y1 y5 y14 h => K (.exit 0) (act 26 [(0, y0), (1, y1), (5, y5), (14, y14)]) h) (fun y4 h => K .ret (act 26 [(4, y4)]) h) := by
      induction j generalizing x0 x1 x5 h with
      | zero => rfl
      | succ j ih =>
        unfold F13_lrlrr
        simp only [kLoop, kq_seq c13 116, kq_seq c13 232, r13_4, b13_rlllrlrr, kq_skip c13 930, kq_seq c13 233, kq_block c13 466 1, kq_seq c13 932, r13_6, b13_rllrllrlrr, kq_seq c13 3730, r13_7, kq_ret c13 7461, kq_skip c13 3731, r13_5, kq_exit c13 931 0, ih, reduceIte, reduceCtorEq, XE.exit.injEq, Nat.reduceEqDiff, Nat.reduceMul, Nat.reduceAdd] <;> kernel_rfl
theorem F13_lrlrr_eq  : kCode env 13 false inv k (cp c13 58) (act 26 [(0, x0), (1, x1), (5, x5)]) h K = F13_lrlrr inv k k x0 x1 x5 h (fun y0 y1 y5 y14 h => K (.exit 0) (act 26 [(0, y0), (1, y1), (5, y5), (14, y14)]) h) (fun y4 h => K .ret (act 26 [(4, y4)]) h) := kq_loop (F13_lrlrr_j k)
theorem r13_8  : kCode env 13 false inv k (cp c13 30) (act 26 [(0, x0), (1, x1), (5, x5), (14, x14)]) h K =
    K .normal (act 26 [(4, (.bool true))]) h := kq_reg
/-- shadowbook/shadowbookkit.Same[int] -/
noncomputable def F13 (inv : Inv) (k : Nat) (x0 x1 : Value) (h : AH) : Option (Value × AH) :=
    bnd (pLen Try.prog #[25] x0 h) fun x7 =>
    bnd (pLen Try.prog #[25] x1 h) fun x9 =>
    bnd (pBin Try.prog .neq 3 (.tmp 7) (.tmp 9) x7 x9) fun x10 =>
    brV x10
    (some ((.bool false), h))
    (F13_lrlrr inv k k x0 x1 (.int .i64 0) h
    (fun y0 y1 y5 y14 h =>
    some ((.bool true), h))
    (fun y4 h_1 =>
    some (y4, h_1)))
theorem F13_eq : eFun env k inv 13 #[x0, x1] h = F13 inv k x0 x1 h := by
      refine (kq_fun (a := act 26 [(0, x0), (1, x1)]) (c := cp c13 1)).trans ?_
      unfold F13
      simp only [kq_seq c13 1, r13_0, kq_seq c13 3, kq_seq c13 6, r13_1, b13_rlr, kq_seq c13 26, r13_2, kq_ret c13 53, res13_0, kq_skip c13 27, kq_seq c13 7, kq_seq c13 14, r13_3, kq_block c13 29 0, F13_lrlrr_eq, kq_seq c13 15, r13_8, kq_ret c13 31, reduceIte, reduceCtorEq, XE.exit.injEq, Nat.reduceEqDiff, Nat.reduceMul, Nat.reduceAdd] <;> kernel_rfl
theorem F13_call : eInv env (k + 1) (.func 13) #[] #[x0, x1] h = F13 (eInv env k) k x0 x1 h := kq_inv F13_eq
noncomputable def c14 : Code := codeOf Try.prog 14
theorem r14_0  : kCode env 14 false inv k (cp c14 2) (act 34 [(0, x0)]) h K =
    K .normal (act 34 [(0, x0)]) h := kq_reg
theorem r14_1  : kCode env 14 false inv k (cp c14 12) (act 34 [(0, x0)]) h K =
    bnd (pLen Try.prog #[22] x0 h) fun x9 =>
    bnd (pBin Try.prog .gtr 3 (.tmp 9) (.const (.int .i64 4096)) x9 (.int .i64 4096)) fun x10 =>
    K .normal (act 34 [(0, x0), (10, x10)]) h := kq_reg
theorem b14_rlr  : kCode env 14 false inv k (cp c14 13) (act 34 [(0, x0), (10, x10)]) h K = brV x10 (kCode env 14 false inv k (cp c14 26) (act 34 [(0, x0), (10, x10)]) h K) (kCode env 14 false inv k (cp c14 27) (act 34 [(0, x0), (10, x10)]) h K) := kq_cond
theorem r14_2  : kCode env 14 false inv k (cp c14 52) (act 34 [(0, x0), (10, x10)]) h K =
    K .normal (act 34 [(2, (.slice none 0 0)), (3, (.int .i64 3))]) h := kq_reg
theorem res14_0 : resOfFn env.P 14 .ret (act 34 [(2, x2), (3, x3)]) h = some (.tuple #[x2, x3], h) := kq_res
theorem r14_3  : kCode env 14 false inv k (cp c14 14) (act 34 [(0, x0), (10, x10)]) h K =
    K .normal (act 34 [(0, x0), (4, x0)]) h := kq_reg
theorem r14_4  : kCode env 14 false inv k (cp c14 30) (act 34 [(0, x0), (4, x4)]) h K =
    bnd (pLen Try.prog #[22] x0 h) fun x13 =>
    bnd (pConv Try.prog 3 49 x13 h) fun x14 =>
    bnd (inv (.func 25) #[] #[(.slice none 0 0), x14] h) fun x15 =>
    bnd (inv (.func 26) #[] #[x4] x15.2) fun x17 =>
    bnd (pBuildSlice Try.prog 32 1 #[(0, x17.1)] x17.2) fun x18 =>
    bnd (pAppend Try.prog #[32, 32] x15.1 x18.1 x18.2) fun x19 =>
    K .normal (act 34 [(4, x4), (5, x19.1)]) x19.2 := kq_reg
theorem r14_5  : kCode env 14 false inv k (cp c14 124) (act 34 [(4, x4), (5, x5)]) h K =
    bnd (inv (.func 26) #[] #[x4] h) fun x21 =>
    bnd (pBin Try.prog .neq 5 (.tmp 21) (.const (.int .u8 2)) x21.1 (.int .u8 2)) fun x22 =>
    K .normal (act 34 [(4, x4), (5, x5), (22, x22)]) x21.2 := kq_reg
theorem b14_rlrrrr  : kCode env 14 false inv k (cp c14 125) (act 34 [(4, x4), (5, x5), (22, x22)]) h K = brV x22 (kCode env 14 false inv k (cp c14 250) (act 34 [(4, x4), (5, x5), (22, x22)]) h K) (kCode env 14 false inv k (cp c14 251) (act 34 [(4, x4), (5, x5), (22, x22)]) h K) := kq_cond
theorem r14_6  : kCode env 14 false inv k (cp c14 500) (act 34 [(4, x4), (5, x5), (22, x22)]) h K =
    K .normal (act 34 [(2, x5), (3, (.int .i64 0))]) h := kq_reg
theorem r14_7  : kCode env 14 false inv k (cp c14 126) (act 34 [(4, x4), (5, x5), (22, x22)]) h K =
    bnd (inv (.func 28) #[] #[x4] h) fun x26 =>
    bnd (inv (.func 27) #[] #[x26.1, (.int .i64 1)] x26.2) fun x27 =>
    bnd (pExtract x27.1 0) fun x28 =>
    bnd (pExtract x27.1 1) fun x29 =>
    K .normal (act 34 [(5, x5), (6, x28), (7, x29)]) x27.2 := kq_reg
theorem r14_8  : kCode env 14 false inv k (cp c14 254) (act 34 [(5, x5), (6, x6), (7, x7)]) h K =
    bnd (pAppend Try.prog #[32, 32] x5 x6 h) fun x32 =>
    K .normal (act 34 [(2, x32.1), (3, x7)]) x32.2 := kq_reg
/-- shadowbook/nulls.Put -/
noncomputable def F14 (inv : Inv) (k : Nat) (x0 : Value) (h : AH) : Option (Value × AH) :=
    bnd (pLen Try.prog #[22] x0 h) fun x9 =>
    bnd (pBin Try.prog .gtr 3 (.tmp 9) (.const (.int .i64 4096)) x9 (.int .i64 4096)) fun x10 =>
    brV x10
    (some (.tuple #[(.slice none 0 0), (.int .i64 3)], h))
    (bnd (pLen Try.prog #[22] x0 h) fun x13 =>
    bnd (pConv Try.prog 3 49 x13 h) fun x14 =>
    bnd (inv (.func 25) #[] #[(.slice none 0 0), x14] h) fun x15 =>
    bnd (inv (.func 26) #[] #[x0] x15.2) fun x17 =>
    bnd (pBuildSlice Try.prog 32 1 #[(0, x17.1)] x17.2) fun x18 =>
    bnd (pAppend Try.prog #[32, 32] x15.1 x18.1 x18.2) fun x19 =>
    bnd (inv (.func 26) #[] #[x0] x19.2) fun x21 =>
    bnd (pBin Try.prog .neq 5 (.tmp 21) (.const (.int .u8 2)) x21.1 (.int .u8 2)) fun x22 =>
    brV x22
    (some (.tuple #[x19.1, (.int .i64 0)], x21.2))
    (bnd (inv (.func 28) #[] #[x0] x21.2) fun x26 =>
    bnd (inv (.func 27) #[] #[x26.1, (.int .i64 1)] x26.2) fun x27 =>
    bnd (pExtract x27.1 0) fun x28 =>
    bnd (pExtract x27.1 1) fun x29 =>
    bnd (pAppend Try.prog #[32, 32] x19.1 x28 x27.2) fun x32 =>
    some (.tuple #[x32.1, x29], x32.2)))
theorem F14_eq : eFun env k inv 14 #[x0] h = F14 inv k x0 h := by
      refine (kq_fun (a := act 34 [(0, x0)]) (c := cp c14 1)).trans ?_
      unfold F14
      simp only [kq_seq c14 1, r14_0, kq_seq c14 3, kq_seq c14 6, r14_1, b14_rlr, kq_seq c14 26, r14_2, kq_ret c14 53, res14_0, kq_skip c14 27, kq_seq c14 7, r14_3, kq_seq c14 15, r14_4, kq_seq c14 31, kq_seq c14 62, r14_5, b14_rlrrrr, kq_seq c14 250, r14_6, kq_ret c14 501, kq_skip c14 251, kq_seq c14 63, r14_7, kq_seq c14 127, r14_8, kq_ret c14 255, reduceIte, reduceCtorEq, XE.exit.injEq, Nat.reduceEqDiff, Nat.reduceMul, Nat.reduceAdd] <;> kernel_rfl
theorem F14_call : eInv env (k + 1) (.func 14) #[] #[x0] h = F14 (eInv env k) k x0 h := kq_inv F14_eq
noncomputable def c15 : Code := codeOf Try.prog 15
theorem r15_0  : kCode env 15 false inv k (cp c15 2) (act 101 [(0, x0)]) h K =
    K .normal (act 101 [(0, x0)]) h := kq_reg
theorem r15_1  : kCode env 15 false inv k (cp c15 6) (act 101 [(0, x0)]) h K =
    bnd (inv (.func 29) #[] #[x0] h) fun x15 =>
    K .normal (act 101 [(0, x0), (5, x15.1)]) x15.2 := kq_reg
theorem r15_2  : kCode env 15 false inv k (cp c15 14) (act 101 [(0, x0), (5, x5)]) h K =
    bnd (inv (.func 30) #[] #[x5] h) fun x18 =>
    bnd (pExtract x18.1 0) fun x19 =>
    bnd (pExtract x18.1 1) fun x20 =>
    K .normal (act 101 [(0, x0), (4, x20), (5, x5), (6, x19)]) x18.2 := kq_reg
noncomputable abbrev G15_3 {β : Type} (inv : Inv) (x0 x4 x5 x6 : Value) (h : AH) (K : Value → AH → Option β) : Option β :=
    bnd (pBin Try.prog .neq 33 (.tmp 21) (.const (.int .i64 0)) x4 (.int .i64 0)) fun x22 =>
    bnd (gd (some x22) false h (some (x6, h))) fun x24 =>
    bnd (gd (some x22) false x24.2 (lt (pBin Try.prog .gtr 49 (.tmp 24) (.const (.int .u64 4096)) x24.1 (.int .u64 4096)) x24.2)) fun x25 =>
    bnd (pickV x22 (.bool true) x25.1) fun x26 =>
    K (x26) x25.2
theorem r15_3  : kCode env 15 false inv k (cp c15 60) (act 101 [(0, x0), (4, x4), (5, x5), (6, x6)]) h K =
    G15_3 inv x0 x4 x5 x6 h fun y26 h => K .normal (act 101 [(0, x0), (5, x5), (6, x6), (26, y26)]) h := kq_reg
theorem b15_rlrrr  : kCode env 15 false inv k (cp c15 61) (act 101 [(0, x0), (5, x5), (6, x6), (26, x26)]) h K = brV x26 (kCode env 15 false inv k (cp c15 122) (act 101 [(0, x0), (5, x5), (6, x6), (26, x26)]) h K) (kCode env 15 false inv k (cp c15 123) (act 101 [(0, x0), (5, x5), (6, x6), (26, x26)]) h K) := kq_cond
theorem r15_4  : kCode env 15 false inv k (cp c15 244) (act 101 [(0, x0), (5, x5), (6, x6), (26, x26)]) h K =
    K .normal (act 101 [(2, (.slice none 0 0)), (3, (.int .i64 0)), (4, (.int .i64 4))]) h := kq_reg
theorem res15_0 : resOfFn env.P 15 .ret (act 101 [(2, x2), (3, x3), (4, x4)]) h = some (.tuple #[x2, x3, x4], h) := kq_res
theorem r15_5  : kCode env 15 false inv k (cp c15 62) (act 101 [(0, x0), (5, x5), (6, x6), (26, x26)]) h K =
    bnd (inv (.func 31) #[] #[x5, (.int .i64 1)] h) fun x29 =>
    bnd (pExtract x29.1 0) fun x30 =>
    bnd (pExtract x29.1 1) fun x31 =>
    K .normal (act 101 [(0, x0), (4, x31), (5, x5), (6, x6), (7, x30)]) x29.2 := kq_reg
noncomputable abbrev G15_6 {β : Type} (inv : Inv) (x0 x4 x5 x6 x7 : Value) (h : AH) (K : Value → AH → Option β) : Option β :=
    bnd (pBin Try.prog .neq 33 (.tmp 32) (.const (.int .i64 0)) x4 (.int .i64 0)) fun x33 =>
    bnd (gd (some x33) false h (some (x7, h))) fun x35 =>
    bnd (gd (some x33) false x35.2 (lt (pBin Try.prog .gtr 49 (.tmp 35) (.const (.int .u64 2)) x35.1 (.int .u64 2)) x35.2)) fun x36 =>
    bnd (pickV x33 (.bool true) x36.1) fun x37 =>
    K (x37) x36.2
theorem r15_6  : kCode env 15 false inv k (cp c15 252) (act 101 [(0, x0), (4, x4), (5, x5), (6, x6), (7, x7)]) h K =
    G15_6 inv x0 x4 x5 x6 x7 h fun y37 h => K .normal (act 101 [(0, x0), (5, x5), (6, x6), (7, x7), (37, y37)]) h := kq_reg
theorem b15_rlrrrrr  : kCode env 15 false inv k (cp c15 253) (act 101 [(0, x0), (5, x5), (6, x6), (7, x7), (37, x37)]) h K = brV x37 (kCode env 15 false inv k (cp c15 506) (act 101 [(0, x0), (5, x5), (6, x6), (7, x7), (37, x37)]) h K) (kCode env 15 false inv k (cp c15 507) (act 101 [(0, x0), (5, x5), (6, x6), (7, x7), (37, x37)]) h K) := kq_cond
theorem r15_7  : kCode env 15 false inv k (cp c15 1012) (act 101 [(0, x0), (5, x5), (6, x6), (7, x7), (37, x37)]) h K =
    K .normal (act 101 [(2, (.slice none 0 0)), (3, (.int .i64 0)), (4, (.int .i64 4))]) h := kq_reg
theorem r15_8  : kCode env 15 false inv k (cp c15 254) (act 101 [(0, x0), (5, x5), (6, x6), (7, x7), (37, x37)]) h K =
    bnd (pBin Try.prog .eql 49 (.tmp 38) (.const (.int .u64 1)) x7 (.int .u64 1)) fun x39 =>
    bnd (pBuildSlice Try.prog 22 1 #[(0, x39)] h) fun x40 =>
    bnd (pConv Try.prog 49 3 x6 x40.2) fun x42 =>
    bnd (inv (.func 32) #[] #[x40.1, x42] x40.2) fun x43 =>
    K .normal (act 101 [(0, x0), (2, x43.1), (5, x5), (6, x6), (7, x7)]) x43.2 := kq_reg
theorem r15_9  : kCode env 15 false inv k (cp c15 1020) (act 101 [(0, x0), (2, x2), (5, x5), (6, x6), (7, x7)]) h K =
    bnd (pBin Try.prog .eql 49 (.tmp 44) (.const (.int .u64 2)) x7 (.int .u64 2)) fun x45 =>
    K .normal (act 101 [(0, x0), (2, x2), (5, x5), (6, x6), (45, x45)]) h := kq_reg
theorem b15_rlrrrrrrr  : kCode env 15 false inv k (cp c15 1021) (act 101 [(0, x0), (2, x2), (5, x5), (6, x6), (45, x45)]) h K = brV x45 (kCode env 15 false inv k (cp c15 2042) (act 101 [(0, x0), (2, x2), (5, x5), (6, x6), (45, x45)]) h K) (kCode env 15 false inv k (cp c15 2043) (act 101 [(0, x0), (2, x2), (5, x5), (6, x6), (45, x45)]) h K) := kq_cond
theorem r15_10  : kCode env 15 false inv k (cp c15 4084) (act 101 [(0, x0), (2, x2), (5, x5), (6, x6), (45, x45)]) h K =
    bnd (pConv Try.prog 49 3 x6 h) fun x49 =>
    bnd (inv (.func 34) #[] #[x49, (.int .i64 1)] h) fun x50 =>
    bnd (inv (.func 33) #[] #[x5, x50.1] x50.2) fun x51 =>
    bnd (pExtract x51.1 0) fun x52 =>
    bnd (pExtract x51.1 1) fun x53 =>
    K .normal (act 101 [(0, x0), (2, x2), (5, x5), (6, x6), (8, x52), (9, x53)]) x51.2 := kq_reg
theorem r15_11  : kCode env 15 false inv k (cp c15 16340) (act 101 [(0, x0), (2, x2), (5, x5), (6, x6), (8, x8), (9, x9)]) h K =
    bnd (pBin Try.prog .neq 33 (.tmp 54) (.const (.int .i64 0)) x9 (.int .i64 0)) fun x55 =>
    K .normal (act 101 [(0, x0), (2, x2), (5, x5), (6, x6), (8, x8), (55, x55)]) h := kq_reg
theorem b15_rlrlrlrrrrrrr  : kCode env 15 false inv k (cp c15 16341) (act 101 [(0, x0), (2, x2), (5, x5), (6, x6), (8, x8), (55, x55)]) h K = brV x55 (kCode env 15 false inv k (cp c15 32682) (act 101 [(0, x0), (2, x2), (5, x5), (6, x6), (8, x8), (55, x55)]) h K) (kCode env 15 false inv k (cp c15 32683) (act 101 [(0, x0), (2, x2), (5, x5), (6, x6), (8, x8), (55, x55)]) h K) := kq_cond
theorem r15_12  : kCode env 15 false inv k (cp c15 65364) (act 101 [(0, x0), (2, x2), (5, x5), (6, x6), (8, x8), (55, x55)]) h K =
    K .normal (act 101 [(2, (.slice none 0 0)), (3, (.int .i64 0)), (4, (.int .i64 4))]) h := kq_reg
theorem r15_13  : kCode env 15 false inv k (cp c15 16342) (act 101 [(0, x0), (2, x2), (5, x5), (6, x6), (8, x8), (55, x55)]) h K =
    bnd (pConv Try.prog 49 3 x6 h) fun x59 =>
    bnd (inv (.func 35) #[] #[x8, x59, (.int .i64 1)] h) fun x60 =>
    bnd (pExtract x60.1 0) fun x61 =>
    bnd (pExtract x60.1 1) fun x62 =>
    K .normal (act 101 [(0, x0), (2, x2), (5, x5), (9, x62), (10, x61)]) x60.2 := kq_reg
theorem r15_14  : kCode env 15 false inv k (cp c15 65372) (act 101 [(0, x0), (2, x2), (5, x5), (9, x9), (10, x10)]) h K =
    bnd (pBin Try.prog .neq 33 (.tmp 63) (.const (.int .i64 0)) x9 (.int .i64 0)) fun x64 =>
    K .normal (act 101 [(0, x0), (2, x2), (5, x5), (10, x10), (64, x64)]) h := kq_reg
theorem b15_rlrrrlrlrrrrrrr  : kCode env 15 false inv k (cp c15 65373) (act 101 [(0, x0), (2, x2), (5, x5), (10, x10), (64, x64)]) h K = brV x64 (kCode env 15 false inv k (cp c15 130746) (act 101 [(0, x0), (2, x2), (5, x5), (10, x10), (64, x64)]) h K) (kCode env 15 false inv k (cp c15 130747) (act 101 [(0, x0), (2, x2), (5, x5), (10, x10), (64, x64)]) h K) := kq_cond
theorem r15_15  : kCode env 15 false inv k (cp c15 261492) (act 101 [(0, x0), (2, x2), (5, x5), (10, x10), (64, x64)]) h K =
    K .normal (act 101 [(2, (.slice none 0 0)), (3, (.int .i64 0)), (4, (.int .i64 4))]) h := kq_reg
theorem r15_16  : kCode env 15 false inv k (cp c15 65374) (act 101 [(0, x0), (2, x2), (5, x5), (10, x10), (64, x64)]) h K =
    bnd (pLen Try.prog #[22] x2 h) fun x66 =>
    K .normal (act 101 [(0, x0), (2, x2), (5, x5), (10, x10), (66, x66), (67, (.int .i64 0))]) h := kq_reg
theorem r15_17  : kCode env 15 false inv k (cp c15 523000) (act 101 [(0, x0), (2, x2), (5, x5), (10, x10), (66, x66), (67, x67)]) h K =
    bnd (pBin Try.prog .lss 3 (.tmp 67) (.tmp 66) x67 x66) fun x68 =>
    K .normal (act 101 [(0, x0), (2, x2), (5, x5), (10, x10), (66, x66), (67, x67), (68, x68)]) h := kq_reg
theorem b15_lrllrrrrrlrlrrrrrrr  : kCode env 15 false inv k (cp c15 1046002) (act 101 [(0, x0), (2, x2), (5, x5), (10, x10), (66, x66), (67, x67), (68, x68)]) h K = brV x68 (kCode env 15 false inv k (cp c15 2092004) (act 101 [(0, x0), (2, x2), (5, x5), (10, x10), (66, x66), (67, x67), (68, x68)]) h K) (kCode env 15 false inv k (cp c15 2092005) (act 101 [(0, x0), (2, x2), (5, x5), (10, x10), (66, x66), (67, x67), (68, x68)]) h K) := kq_cond
theorem r15_18  : kCode env 15 false inv k (cp c15 8368024) (act 101 [(0, x0), (2, x2), (5, x5), (10, x10), (66, x66), (67, x67), (68, x68)]) h K =
    K .normal (act 101 [(0, x0), (2, x2), (5, x5), (10, x10), (11, x67), (66, x66), (67, x67)]) h := kq_reg
theorem r15_19  : kCode env 15 false inv k (cp c15 8368025) (act 101 [(0, x0), (2, x2), (5, x5), (10, x10), (11, x11), (66, x66), (67, x67)]) h K =
    bnd (pIndexAddr Try.prog 52 x10 x11) fun x74 =>
    bnd (pLoad Try.prog 49 x74 h) fun x75 =>
    bnd (pBin Try.prog .eql 49 (.tmp 75) (.const (.int .u64 1)) x75 (.int .u64 1)) fun x76 =>
    bnd (pIndexAddr Try.prog 22 x2 x11) fun x77 =>
    bnd (kSt (pStore Try.prog 4 x77 x76 h)) fun u =>
    K .normal (act 101 [(0, x0), (2, x2), (5, x5), (10, x10), (66, x66), (67, x67)]) u.2 := kq_reg
theorem r15_20  : kCode env 15 false inv k (cp c15 2092007) (act 101 [(0, x0), (2, x2), (5, x5), (10, x10), (66, x66), (67, x67)]) h K =
    bnd (pBin Try.prog .add 3 (.tmp 67) (.const (.int .i64 1)) x67 (.int .i64 1)) fun x78 =>
    K .normal (act 101 [(0, x0), (2, x2), (5, x5), (10, x10), (66, x66), (67, x78)]) h := kq_reg
noncomputable def F15_lrrrrrlrlrrrrrrr {β : Type} (inv : Inv) (k : Nat) : Nat → Value → Value → Value → Value → Value → Value → AH → (Value → Value → Value → Value → Value → Value → Value → AH → Option β) → Option β
  | 0, _, _, _, _, _, _, _, _ => none
  | j + 1, x0, x2, x5, x10, x66, x67, h, ke0 =>
    bnd (pBin Try.prog .lss 3 (.tmp 67) (.tmp 66) x67 x66) fun x68 =>
    brV x68
    (bnd (pIndexAddr Try.prog 52 x10 x67) fun x74 =>
    bnd (pLoad Try.prog 49 x74 h) fun x75 =>
    bnd (pBin Try.prog .eql 49 (.tmp 75) (.const (.int .u64 1)) x75 (.int .u64 1)) fun x76 =>
    bnd (pIndexAddr Try.prog 22 x2 x67) fun x77 =>
    bnd (kSt (pStore Try.prog 4 x77 x76 h)) fun u =>
    bnd (pBin Try.prog .add 3 (.tmp 67) (.const (.int .i64 1)) x67 (.int .i64 1)) fun x78 =>
    F15_lrrrrrlrlrrrrrrr inv k j x0 x2 x5 x10 x66 x78 u.2 ke0)
    (ke0 x0 x2 x5 x10 x66 x67 x68 h)
theorem F15_lrrrrrlrlrrrrrrr_j (j : Nat) : kLoop (kCode env 15 false inv k (cp c15 261500)) j (act 101 [(0, x0), (2, x2), (5, x5), (10, x10), (66, x66), (67, x67)]) h K = F15_lrrrrrlrlrrrrrrr inv k j x0 x2 x5 x10 x66 x67 h (fun y0 y2 y5 y10 y66 y67 y68 h => K (.exit 0) (act 101 [(0, y0), (2, y2), (5, y5), (10, y10), (66, y66), (67, y67), (68, y68)]) h) := by
      induction j generalizing x0 x2 x5 x10 x66 x67 h with
      | zero => rfl
      | succ j ih =>
        unfold F15_lrrrrrlrlrrrrrrr
        simp only [kLoop, kq_seq c15 261500, r15_17, kq_seq c15 523001, b15_lrllrrrrrlrlrrrrrrr, kq_skip c15 2092004, kq_seq c15 1046003, kq_block c15 2092006 1, kq_seq c15 4184012, r15_18, r15_19, r15_20, kq_exit c15 2092005 0, ih, reduceIte, reduceCtorEq, XE.exit.injEq, Nat.reduceEqDiff, Nat.reduceMul, Nat.reduceAdd] <;> kernel_rfl
theorem F15_lrrrrrlrlrrrrrrr_eq  : kCode env 15 false inv k (cp c15 130750) (act 101 [(0, x0), (2, x2), (5, x5), (10, x10), (66, x66), (67, x67)]) h K = F15_lrrrrrlrlrrrrrrr inv k k x0 x2 x5 x10 x66 x67 h (fun y0 y2 y5 y10 y66 y67 y68 h => K (.exit 0) (act 101 [(0, y0), (2, y2), (5, y5), (10, y10), (66, y66), (67, y67), (68, y68)]) h) := kq_loop (F15_lrrrrrlrlrrrrrrr_j k)
noncomputable def F15_rlrrrrrrr {β : Type} (inv : Inv) (k : Nat) (x0 x2 x5 x6 x45 : Value) (h : AH) (kn : (Value → Value → Value → Value → Value → Value → Value → Value → Value → AH → Option β)) (kr : (Value → Value → Value → AH → Option β)) : Option β :=
    brV x45
    (bnd (pConv Try.prog 49 3 x6 h) fun x49 =>
    bnd (inv (.func 34) #[] #[x49, (.int .i64 1)] h) fun x50 =>
    bnd (inv (.func 33) #[] #[x5, x50.1] x50.2) fun x51 =>
    bnd (pExtract x51.1 0) fun x52 =>
    bnd (pExtract x51.1 1) fun x53 =>
    bnd (pBin Try.prog .neq 33 (.tmp 54) (.const (.int .i64 0)) x53 (.int .i64 0)) fun x55 =>
    brV x55
    (kr (.slice none 0 0) (.int .i64 0) (.int .i64 4) x51.2)
    (bnd (pConv Try.prog 49 3 x6 x51.2) fun x59 =>
    bnd (inv (.func 35) #[] #[x52, x59, (.int .i64 1)] x51.2) fun x60 =>
    bnd (pExtract x60.1 0) fun x61 =>
    bnd (pExtract x60.1 1) fun x62 =>
    bnd (pBin Try.prog .neq 33 (.tmp 63) (.const (.int .i64 0)) x62 (.int .i64 0)) fun x64 =>
    brV x64
    (kr (.slice none 0 0) (.int .i64 0) (.int .i64 4) x60.2)
    (bnd (pLen Try.prog #[22] x2 x60.2) fun x66 =>
    F15_lrrrrrlrlrrrrrrr inv k k x0 x2 x5 x61 x66 (.int .i64 0) x60.2
    (fun y0 y2 y5 y10 y66 y67 y68 h =>
    kn y0 y2 y5 unk y10 unk y66 y67 y68 h))))
    (kn x0 x2 x5 x6 unk x45 unk unk unk h)
theorem F15_rlrrrrrrr_eq  : kCode env 15 false inv k (cp c15 1021) (act 101 [(0, x0), (2, x2), (5, x5), (6, x6), (45, x45)]) h K = F15_rlrrrrrrr inv k x0 x2 x5 x6 x45 h (fun y0 y2 y5 y6 y10 y45 y66 y67 y68 h => K .normal (act 101 [(0, y0), (2, y2), (5, y5), (6, y6), (10, y10), (45, y45), (66, y66), (67, y67), (68, y68)]) h) (fun y2 y3 y4 h => K .ret (act 101 [(2, y2), (3, y3), (4, y4)]) h) := by
      unfold F15_rlrrrrrrr
      simp only [b15_rlrrrrrrr, kq_seq c15 2042, r15_10, kq_seq c15 4085, kq_seq c15 8170, r15_11, b15_rlrlrlrrrrrrr, kq_seq c15 32682, r15_12, kq_ret c15 65365, kq_skip c15 32683, kq_seq c15 8171, r15_13, kq_seq c15 16343, kq_seq c15 32686, r15_14, b15_rlrrrlrlrrrrrrr, kq_seq c15 130746, r15_15, kq_ret c15 261493, kq_skip c15 130747, kq_seq c15 32687, r15_16, kq_block c15 65375 0, F15_lrrrrrlrlrrrrrrr_eq, kq_skip c15 2043, reduceIte, reduceCtorEq, XE.exit.injEq, Nat.reduceEqDiff, Nat.reduceMul, Nat.reduceAdd] <;> kernel_rfl
theorem r15_21  : kCode env 15 false inv k (cp c15 1022) (act 101 [(0, x0), (2, x2), (5, x5), (6, x6), (10, x10), (45, x45), (66, x66), (67, x67), (68, x68)]) h K =
    bnd (pLen Try.prog #[32] x0 h) fun x80 =>
    bnd (inv (.func 36) #[] #[x5] h) fun x82 =>
    bnd (pBin Try.prog .sub 3 (.tmp 80) (.tmp 82) x80 x82.1) fun x83 =>
    K .normal (act 101 [(0, x0), (2, x2), (3, x83)]) x82.2 := kq_reg
theorem r15_22  : kCode env 15 false inv k (cp c15 4092) (act 101 [(0, x0), (2, x2), (3, x3)]) h K =
    bnd (inv (.func 14) #[] #[x2] h) fun x86 =>
    bnd (pExtract x86.1 0) fun x87 =>
    bnd (pExtract x86.1 1) fun x88 =>
    K .normal (act 101 [(0, x0), (2, x2), (3, x3), (12, x87), (13, x88)]) x86.2 := kq_reg
noncomputable abbrev G15_23 {β : Type} (inv : Inv) (x0 x2 x3 x12 x13 : Value) (h : AH) (K : Value → AH → Option β) : Option β :=
    bnd (pBin Try.prog .neq 33 (.tmp 89) (.const (.int .i64 0)) x13 (.int .i64 0)) fun x90 =>
    bnd (gd (some x90) false h (some (x12, h))) fun x92 =>
    bnd (gd (some x90) false x92.2 (some (x0, x92.2))) fun x93 =>
    bnd (gd (some x90) false x93.2 (some (x3, x93.2))) fun x94 =>
    bnd (gd (some x90) false x94.2 (lt (pSlice Try.prog 32 x93.1 none (some x94.1) none x94.2) x94.2)) fun x95 =>
    bnd (gd (some x90) false x95.2 (inv (.func 37) #[] #[x92.1, x95.1] x95.2)) fun x96 =>
    bnd (gd (some x90) false x96.2 (lt (pUn Try.prog .not x96.1) x96.2)) fun x97 =>
    bnd (pickV x90 (.bool true) x97.1) fun x98 =>
    K (x98) x97.2
theorem r15_23  : kCode env 15 false inv k (cp c15 8186) (act 101 [(0, x0), (2, x2), (3, x3), (12, x12), (13, x13)]) h K =
    G15_23 inv x0 x2 x3 x12 x13 h fun y98 h => K .normal (act 101 [(2, x2), (3, x3), (98, y98)]) h := kq_reg
theorem b15_rrlrrrrrrrrr  : kCode env 15 false inv k (cp c15 8187) (act 101 [(2, x2), (3, x3), (98, x98)]) h K = brV x98 (kCode env 15 false inv k (cp c15 16374) (act 101 [(2, x2), (3, x3), (98, x98)]) h K) (kCode env 15 false inv k (cp c15 16375) (act 101 [(2, x2), (3, x3), (98, x98)]) h K) := kq_cond
theorem r15_24  : kCode env 15 false inv k (cp c15 32748) (act 101 [(2, x2), (3, x3), (98, x98)]) h K =
    K .normal (act 101 [(2, (.slice none 0 0)), (3, (.int .i64 0)), (4, (.int .i64 4))]) h := kq_reg
theorem r15_25  : kCode env 15 false inv k (cp c15 4094) (act 101 [(2, x2), (3, x3), (98, x98)]) h K =
    K .normal (act 101 [(2, x2), (3, x3), (4, (.int .i64 0))]) h := kq_reg
/-- shadowbook/nulls.Get -/
noncomputable def F15 (inv : Inv) (k : Nat) (x0 : Value) (h : AH) : Option (Value × AH) :=
    bnd (inv (.func 29) #[] #[x0] h) fun x15 =>
    bnd (inv (.func 30) #[] #[x15.1] x15.2) fun x18 =>
    bnd (pExtract x18.1 0) fun x19 =>
    bnd (pExtract x18.1 1) fun x20 =>
    G15_3 inv x0 x20 x15.1 x19 x18.2 fun y26 h =>
    brV y26
    (some (.tuple #[(.slice none 0 0), (.int .i64 0), (.int .i64 4)], h))
    (bnd (inv (.func 31) #[] #[x15.1, (.int .i64 1)] h) fun x29 =>
    bnd (pExtract x29.1 0) fun x30 =>
    bnd (pExtract x29.1 1) fun x31 =>
    G15_6 inv x0 x31 x15.1 x19 x30 x29.2 fun y37 h_1 =>
    brV y37
    (some (.tuple #[(.slice none 0 0), (.int .i64 0), (.int .i64 4)], h_1))
    (bnd (pBin Try.prog .eql 49 (.tmp 38) (.const (.int .u64 1)) x30 (.int .u64 1)) fun x39 =>
    bnd (pBuildSlice Try.prog 22 1 #[(0, x39)] h_1) fun x40 =>
    bnd (pConv Try.prog 49 3 x19 x40.2) fun x42 =>
    bnd (inv (.func 32) #[] #[x40.1, x42] x40.2) fun x43 =>
    bnd (pBin Try.prog .eql 49 (.tmp 44) (.const (.int .u64 2)) x30 (.int .u64 2)) fun x45 =>
    F15_rlrrrrrrr inv k x0 x43.1 x15.1 x19 x45 x43.2
    (fun y0 y2 y5 y6 y10 y45 y66 y67 y68 h_2 =>
    bnd (pLen Try.prog #[32] y0 h_2) fun x80 =>
    bnd (inv (.func 36) #[] #[y5] h_2) fun x82 =>
    bnd (pBin Try.prog .sub 3 (.tmp 80) (.tmp 82) x80 x82.1) fun x83 =>
    bnd (inv (.func 14) #[] #[y2] x82.2) fun x86 =>
    bnd (pExtract x86.1 0) fun x87 =>
    bnd (pExtract x86.1 1) fun x88 =>
    G15_23 inv y0 y2 x83 x87 x88 x86.2 fun y98 h_3 =>
    brV y98
    (some (.tuple #[(.slice none 0 0), (.int .i64 0), (.int .i64 4)], h_3))
    (some (.tuple #[y2, x83, (.int .i64 0)], h_3)))
    (fun y2_4 y3 y4 h_5 =>
    some (.tuple #[y2_4, y3, y4], h_5))))
theorem F15_eq : eFun env k inv 15 #[x0] h = F15 inv k x0 h := by
      refine (kq_fun (a := act 101 [(0, x0)]) (c := cp c15 1)).trans ?_
      unfold F15
      simp only [kq_seq c15 1, r15_0, kq_seq c15 3, r15_1, kq_seq c15 7, r15_2, kq_seq c15 15, kq_seq c15 30, r15_3, b15_rlrrr, kq_seq c15 122, r15_4, kq_ret c15 245, res15_0, kq_skip c15 123, kq_seq c15 31, r15_5, kq_seq c15 63, kq_seq c15 126, r15_6, b15_rlrrrrr, kq_seq c15 506, r15_7, kq_ret c15 1013, kq_skip c15 507, kq_seq c15 127, r15_8, kq_seq c15 255, kq_seq c15 510, r15_9, F15_rlrrrrrrr_eq, kq_seq c15 511, r15_21, kq_seq c15 1023, kq_seq c15 2046, r15_22, kq_seq c15 4093, r15_23, b15_rrlrrrrrrrrr, kq_seq c15 16374, r15_24, kq_ret c15 32749, kq_skip c15 16375, kq_seq c15 2047, r15_25, kq_ret c15 4095, reduceIte, reduceCtorEq, XE.exit.injEq, Nat.reduceEqDiff, Nat.reduceMul, Nat.reduceAdd] <;> kernel_rfl
theorem F15_call : eInv env (k + 1) (.func 15) #[] #[x0] h = F15 (eInv env k) k x0 h := kq_inv F15_eq
noncomputable def c16 : Code := codeOf Try.prog 16
theorem r16_0  : kCode env 16 false inv k (cp c16 2) (act 6 [(0, x0)]) h K =
    K .normal (act 6 [(0, x0)]) h := kq_reg
theorem r16_1  : kCode env 16 false inv k (cp c16 6) (act 6 [(0, x0)]) h K =
    bnd (pBuildSlice Try.prog 32 0 #[] h) fun x3 =>
    bnd (pAppend Try.prog #[32, 32] x3.1 x0 x3.2) fun x5 =>
    K .normal (act 6 [(2, x5.1)]) x5.2 := kq_reg
theorem res16_0 : resOfFn env.P 16 .ret (act 6 [(2, x2)]) h = some (x2, h) := kq_res
/-- shadowbook/shadowbookkit.Own[byte] -/
noncomputable def F16 (inv : Inv) (k : Nat) (x0 : Value) (h : AH) : Option (Value × AH) :=
    bnd (pBuildSlice Try.prog 32 0 #[] h) fun x3 =>
    bnd (pAppend Try.prog #[32, 32] x3.1 x0 x3.2) fun x5 =>
    some (x5.1, x5.2)
theorem F16_eq : eFun env k inv 16 #[x0] h = F16 inv k x0 h := by
      refine (kq_fun (a := act 6 [(0, x0)]) (c := cp c16 1)).trans ?_
      unfold F16
      simp only [kq_seq c16 1, r16_0, kq_seq c16 3, r16_1, kq_ret c16 7, res16_0, reduceIte, reduceCtorEq, XE.exit.injEq, Nat.reduceEqDiff, Nat.reduceMul, Nat.reduceAdd] <;> kernel_rfl
theorem F16_call : eInv env (k + 1) (.func 16) #[] #[x0] h = F16 (eInv env k) k x0 h := kq_inv F16_eq
noncomputable def c17 : Code := codeOf Try.prog 17
theorem r17_0  : kCode env 17 false inv k (cp c17 2) (act 26 [(0, x0), (1, x1)]) h K =
    K .normal (act 26 [(0, x0), (1, x1)]) h := kq_reg
theorem r17_1  : kCode env 17 false inv k (cp c17 12) (act 26 [(0, x0), (1, x1)]) h K =
    bnd (pLen Try.prog #[32] x0 h) fun x7 =>
    bnd (pLen Try.prog #[32] x1 h) fun x9 =>
    bnd (pBin Try.prog .neq 3 (.tmp 7) (.tmp 9) x7 x9) fun x10 =>
    K .normal (act 26 [(0, x0), (1, x1), (10, x10)]) h := kq_reg
theorem b17_rlr  : kCode env 17 false inv k (cp c17 13) (act 26 [(0, x0), (1, x1), (10, x10)]) h K = brV x10 (kCode env 17 false inv k (cp c17 26) (act 26 [(0, x0), (1, x1), (10, x10)]) h K) (kCode env 17 false inv k (cp c17 27) (act 26 [(0, x0), (1, x1), (10, x10)]) h K) := kq_cond
theorem r17_2  : kCode env 17 false inv k (cp c17 52) (act 26 [(0, x0), (1, x1), (10, x10)]) h K =
    K .normal (act 26 [(4, (.bool false))]) h := kq_reg
theorem res17_0 : resOfFn env.P 17 .ret (act 26 [(4, x4)]) h = some (x4, h) := kq_res
theorem r17_3  : kCode env 17 false inv k (cp c17 28) (act 26 [(0, x0), (1, x1), (10, x10)]) h K =
    K .normal (act 26 [(0, x0), (1, x1), (5, (.int .i64 0))]) h := kq_reg
theorem r17_4  : kCode env 17 false inv k (cp c17 464) (act 26 [(0, x0), (1, x1), (5, x5)]) h K =
    bnd (pLen Try.prog #[32] x0 h) fun x13 =>
    bnd (pBin Try.prog .lss 3 (.tmp 11) (.tmp 13) x5 x13) fun x14 =>
    K .normal (act 26 [(0, x0), (1, x1), (5, x5), (14, x14)]) h := kq_reg
theorem b17_rlllrlrr  : kCode env 17 false inv k (cp c17 465) (act 26 [(0, x0), (1, x1), (5, x5), (14, x14)]) h K = brV x14 (kCode env 17 false inv k (cp c17 930) (act 26 [(0, x0), (1, x1), (5, x5), (14, x14)]) h K) (kCode env 17 false inv k (cp c17 931) (act 26 [(0, x0), (1, x1), (5, x5), (14, x14)]) h K) := kq_cond
theorem r17_6  : kCode env 17 false inv k (cp c17 1864) (act 26 [(0, x0), (1, x1), (5, x5), (14, x14)]) h K =
    bnd (pIndexAddr Try.prog 32 x0 x5) fun x19 =>
    bnd (pLoad Try.prog 5 x19 h) fun x20 =>
    bnd (pIndexAddr Try.prog 32 x1 x5) fun x23 =>
    bnd (pLoad Try.prog 5 x23 h) fun x24 =>
    bnd (pBin Try.prog .neq 5 (.tmp 20) (.tmp 24) x20 x24) fun x25 =>
    K .normal (act 26 [(0, x0), (1, x1), (5, x5), (25, x25)]) h := kq_draw
theorem b17_rllrllrlrr  : kCode env 17 false inv k (cp c17 1865) (act 26 [(0, x0), (1, x1), (5, x5), (25, x25)]) h K = brV x25 (kCode env 17 false inv k (cp c17 3730) (act 26 [(0, x0), (1, x1), (5, x5), (25, x25)]) h K) (kCode env 17 false inv k (cp c17 3731) (act 26 [(0, x0), (1, x1), (5, x5), (25, x25)]) h K) := kq_cond
theorem r17_7  : kCode env 17 false inv k (cp c17 7460) (act 26 [(0, x0), (1, x1), (5, x5), (25, x25)]) h K =
    K .normal (act 26 [(4, (.bool false))]) h := kq_reg
theorem r17_5  : kCode env 17 false inv k (cp c17 467) (act 26 [(0, x0), (1, x1), (5, x5), (25, x25)]) h K =
    bnd (pBin Try.prog .add 3 (.tmp 15) (.const (.int .i64 1)) x5 (.int .i64 1)) fun x16 =>
    K .normal (act 26 [(0, x0), (1, x1), (5, x16)]) h := kq_reg
noncomputable def F17_lrlrr {β : Type} (inv : Inv) (k : Nat) : Nat → Value → Value → Value → AH → (Value → Value → Value → Value → AH → Option β) → (Value → AH → Option β) → Option β
  | 0, _, _, _, _, _, _ => none
  | j + 1, x0, x1, x5, h, ke0, kr =>
    bnd (pLen Try.prog #[32] x0 h) fun x13 =>
    bnd (pBin Try.prog .lss 3 (.tmp 11) (.tmp 13) x5 x13) fun x14 =>
    brV x14
    (bnd (pIndexAddr Try.prog 32 x0 x5) fun x19 =>
    bnd (pLoad Try.prog 5 x19 h) fun x20 =>
    bnd (pIndexAddr Try.prog 32 x1 x5) fun x23 =>
    bnd (pLoad Try.prog 5 x23 h) fun x24 =>
    bnd (pBin Try.prog .neq 5 (.tmp 20) (.tmp 24) x20 x24) fun x25 =>
    brV x25
    (kr (.bool false) h)
    (bnd (pBin Try.prog .add 3 (.tmp 15) (.const (.int .i64 1)) x5 (.int .i64 1)) fun x16 =>
    F17_lrlrr inv k j x0 x1 x16 h ke0 kr))
    (ke0 x0 x1 x5 x14 h)
theorem F17_lrlrr_j (j : Nat) : kLoop (kCode env 17 false inv k (cp c17 116)) j (act 26 [(0, x0), (1, x1), (5, x5)]) h K = F17_lrlrr inv k j x0 x1 x5 h (fun y0 y1 y5 y14 h => K (.exit 0) (act 26 [(0, y0), (1, y1), (5, y5), (14, y14)]) h) (fun y4 h => K .ret (act 26 [(4, y4)]) h) := by
      induction j generalizing x0 x1 x5 h with
      | zero => rfl
      | succ j ih =>
        unfold F17_lrlrr
        simp only [kLoop, kq_seq c17 116, kq_seq c17 232, r17_4, b17_rlllrlrr, kq_skip c17 930, kq_seq c17 233, kq_block c17 466 1, kq_seq c17 932, r17_6, b17_rllrllrlrr, kq_seq c17 3730, r17_7, kq_ret c17 7461, kq_skip c17 3731, r17_5, kq_exit c17 931 0, ih, reduceIte, reduceCtorEq, XE.exit.injEq, Nat.reduceEqDiff, Nat.reduceMul, Nat.reduceAdd] <;> kernel_rfl
theorem F17_lrlrr_eq  : kCode env 17 false inv k (cp c17 58) (act 26 [(0, x0), (1, x1), (5, x5)]) h K = F17_lrlrr inv k k x0 x1 x5 h (fun y0 y1 y5 y14 h => K (.exit 0) (act 26 [(0, y0), (1, y1), (5, y5), (14, y14)]) h) (fun y4 h => K .ret (act 26 [(4, y4)]) h) := kq_loop (F17_lrlrr_j k)
theorem r17_8  : kCode env 17 false inv k (cp c17 30) (act 26 [(0, x0), (1, x1), (5, x5), (14, x14)]) h K =
    K .normal (act 26 [(4, (.bool true))]) h := kq_reg
/-- shadowbook/shadowbookkit.Same[byte] -/
noncomputable def F17 (inv : Inv) (k : Nat) (x0 x1 : Value) (h : AH) : Option (Value × AH) :=
    bnd (pLen Try.prog #[32] x0 h) fun x7 =>
    bnd (pLen Try.prog #[32] x1 h) fun x9 =>
    bnd (pBin Try.prog .neq 3 (.tmp 7) (.tmp 9) x7 x9) fun x10 =>
    brV x10
    (some ((.bool false), h))
    (F17_lrlrr inv k k x0 x1 (.int .i64 0) h
    (fun y0 y1 y5 y14 h =>
    some ((.bool true), h))
    (fun y4 h_1 =>
    some (y4, h_1)))
theorem F17_eq : eFun env k inv 17 #[x0, x1] h = F17 inv k x0 x1 h := by
      refine (kq_fun (a := act 26 [(0, x0), (1, x1)]) (c := cp c17 1)).trans ?_
      unfold F17
      simp only [kq_seq c17 1, r17_0, kq_seq c17 3, kq_seq c17 6, r17_1, b17_rlr, kq_seq c17 26, r17_2, kq_ret c17 53, res17_0, kq_skip c17 27, kq_seq c17 7, kq_seq c17 14, r17_3, kq_block c17 29 0, F17_lrlrr_eq, kq_seq c17 15, r17_8, kq_ret c17 31, reduceIte, reduceCtorEq, XE.exit.injEq, Nat.reduceEqDiff, Nat.reduceMul, Nat.reduceAdd] <;> kernel_rfl
theorem F17_call : eInv env (k + 1) (.func 17) #[] #[x0, x1] h = F17 (eInv env k) k x0 x1 h := kq_inv F17_eq
noncomputable def c23 : Code := codeOf Try.prog 23
theorem r23_0  : kCode env 23 false inv k (cp c23 2) (act 16 [(0, x0)]) h K =
    K .normal (act 16 [(0, x0), (2, (.int .i64 0))]) h := kq_reg
theorem r23_1  : kCode env 23 false inv k (cp c23 12) (act 16 [(0, x0), (2, x2)]) h K =
    bnd (pLen Try.prog #[43] x0 h) fun x6 =>
    K .normal (act 16 [(2, x2), (5, x0), (6, x6), (7, (.int .i64 0))]) h := kq_reg
theorem r23_2  : kCode env 23 false inv k (cp c23 104) (act 16 [(2, x2), (5, x5), (6, x6), (7, x7)]) h K =
    bnd (pBin Try.prog .lss 3 (.tmp 7) (.tmp 6) x7 x6) fun x8 =>
    K .normal (act 16 [(2, x2), (5, x5), (6, x6), (7, x7), (8, x8)]) h := kq_reg
theorem b23_lrllrlr  : kCode env 23 false inv k (cp c23 210) (act 16 [(2, x2), (5, x5), (6, x6), (7, x7), (8, x8)]) h K = brV x8 (kCode env 23 false inv k (cp c23 420) (act 16 [(2, x2), (5, x5), (6, x6), (7, x7), (8, x8)]) h K) (kCode env 23 false inv k (cp c23 421) (act 16 [(2, x2), (5, x5), (6, x6), (7, x7), (8, x8)]) h K) := kq_cond
theorem r23_3  : kCode env 23 false inv k (cp c23 1688) (act 16 [(2, x2), (5, x5), (6, x6), (7, x7), (8, x8)]) h K =
    bnd (pIndexAddr Try.prog 43 x5 x7) fun x9 =>
    bnd (pLoad Try.prog 4 x9 h) fun x10 =>
    K .normal (act 16 [(2, x2), (4, x10), (5, x5), (6, x6), (7, x7)]) h := kq_reg
theorem r23_4  : kCode env 23 false inv k (cp c23 3378) (act 16 [(2, x2), (4, x4), (5, x5), (6, x6), (7, x7)]) h K =
    K .normal (act 16 [(2, x2), (5, x5), (6, x6), (7, x7), (11, x4)]) h := kq_reg
theorem b23_rrllrrllrlr  : kCode env 23 false inv k (cp c23 3379) (act 16 [(2, x2), (5, x5), (6, x6), (7, x7), (11, x11)]) h K = brV x11 (kCode env 23 false inv k (cp c23 6758) (act 16 [(2, x2), (5, x5), (6, x6), (7, x7), (11, x11)]) h K) (kCode env 23 false inv k (cp c23 6759) (act 16 [(2, x2), (5, x5), (6, x6), (7, x7), (11, x11)]) h K) := kq_cond
theorem r23_5  : kCode env 23 false inv k (cp c23 6758) (act 16 [(2, x2), (5, x5), (6, x6), (7, x7), (11, x11)]) h K =
    bnd (pBin Try.prog .add 3 (.tmp 12) (.const (.int .i64 1)) x2 (.int .i64 1)) fun x13 =>
    K .normal (act 16 [(2, x13), (5, x5), (6, x6), (7, x7)]) h := kq_reg
noncomputable def F23_lrrllrlr {β : Type} (inv : Inv) (k : Nat) (x2 x5 x6 x7 x8 : Value) (h : AH) (kn : (Value → Value → Value → Value → Value → AH → Option β)) : Option β :=
    bnd (pIndexAddr Try.prog 43 x5 x7) fun x9 =>
    bnd (pLoad Try.prog 4 x9 h) fun x10 =>
    brV x10
    (bnd (pBin Try.prog .add 3 (.tmp 12) (.const (.int .i64 1)) x2 (.int .i64 1)) fun x13 =>
    kn x13 x5 x6 x7 unk h)
    (kn x2 x5 x6 x7 x10 h)
theorem F23_lrrllrlr_eq  : kCode env 23 false inv k (cp c23 422) (act 16 [(2, x2), (5, x5), (6, x6), (7, x7), (8, x8)]) h K = F23_lrrllrlr inv k x2 x5 x6 x7 x8 h (fun y2 y5 y6 y7 y11 h => K .normal (act 16 [(2, y2), (5, y5), (6, y6), (7, y7), (11, y11)]) h) := by
      unfold F23_lrrllrlr
      simp only [kq_block c23 422 1, kq_seq c23 844, r23_3, kq_seq c23 1689, r23_4, b23_rrllrrllrlr, r23_5, kq_skip c23 6759, reduceIte, reduceCtorEq, XE.exit.injEq, Nat.reduceEqDiff, Nat.reduceMul, Nat.reduceAdd] <;> kernel_rfl
theorem r23_6  : kCode env 23 false inv k (cp c23 423) (act 16 [(2, x2), (5, x5), (6, x6), (7, x7), (11, x11)]) h K =
    bnd (pBin Try.prog .add 3 (.tmp 7) (.const (.int .i64 1)) x7 (.int .i64 1)) fun x14 =>
    K .normal (act 16 [(2, x2), (5, x5), (6, x6), (7, x14)]) h := kq_reg
noncomputable def F23_lrlr {β : Type} (inv : Inv) (k : Nat) : Nat → Value → Value → Value → Value → AH → (Value → Value → Value → Value → Value → AH → Option β) → Option β
  | 0, _, _, _, _, _, _ => none
  | j + 1, x2, x5, x6, x7, h, ke0 =>
    bnd (pBin Try.prog .lss 3 (.tmp 7) (.tmp 6) x7 x6) fun x8 =>
    brV x8
    (F23_lrrllrlr inv k x2 x5 x6 x7 x8 h
    (fun y2 y5 y6 y7 y11 h =>
    bnd (pBin Try.prog .add 3 (.tmp 7) (.const (.int .i64 1)) y7 (.int .i64 1)) fun x14 =>
    F23_lrlr inv k j y2 y5 y6 x14 h ke0))
    (ke0 x2 x5 x6 x7 x8 h)
theorem F23_lrlr_j (j : Nat) : kLoop (kCode env 23 false inv k (cp c23 52)) j (act 16 [(2, x2), (5, x5), (6, x6), (7, x7)]) h K = F23_lrlr inv k j x2 x5 x6 x7 h (fun y2 y5 y6 y7 y8 h => K (.exit 0) (act 16 [(2, y2), (5, y5), (6, y6), (7, y7), (8, y8)]) h) := by
      induction j generalizing x2 x5 x6 x7 h with
      | zero => rfl
      | succ j ih =>
        unfold F23_lrlr
        simp only [kLoop, kq_seq c23 52, r23_2, kq_seq c23 105, b23_lrllrlr, kq_skip c23 420, kq_seq c23 211, F23_lrrllrlr_eq, r23_6, kq_exit c23 421 0, ih, reduceIte, reduceCtorEq, XE.exit.injEq, Nat.reduceEqDiff, Nat.reduceMul, Nat.reduceAdd] <;> kernel_rfl
theorem F23_lrlr_eq  : kCode env 23 false inv k (cp c23 26) (act 16 [(2, x2), (5, x5), (6, x6), (7, x7)]) h K = F23_lrlr inv k k x2 x5 x6 x7 h (fun y2 y5 y6 y7 y8 h => K (.exit 0) (act 16 [(2, y2), (5, y5), (6, y6), (7, y7), (8, y8)]) h) := kq_loop (F23_lrlr_j k)
theorem r23_7  : kCode env 23 false inv k (cp c23 14) (act 16 [(2, x2), (5, x5), (6, x6), (7, x7), (8, x8)]) h K =
    K .normal (act 16 [(2, x2)]) h := kq_reg
theorem res23_0 : resOfFn env.P 23 .ret (act 16 [(2, x2)]) h = some (x2, h) := kq_res
/-- (shadowbook/nulls.flags).count -/
noncomputable def F23 (inv : Inv) (k : Nat) (x0 : Value) (h : AH) : Option (Value × AH) :=
    bnd (pLen Try.prog #[43] x0 h) fun x6 =>
    F23_lrlr inv k k (.int .i64 0) x0 x6 (.int .i64 0) h
    (fun y2 y5 y6 y7 y8 h =>
    some (y2, h))
theorem F23_eq : eFun env k inv 23 #[x0] h = F23 inv k x0 h := by
      refine (kq_fun (a := act 16 [(0, x0)]) (c := cp c23 1)).trans ?_
      unfold F23
      simp only [kq_seq c23 1, r23_0, kq_seq c23 3, kq_seq c23 6, r23_1, kq_block c23 13 0, F23_lrlr_eq, kq_seq c23 7, r23_7, kq_ret c23 15, res23_0, reduceIte, reduceCtorEq, XE.exit.injEq, Nat.reduceEqDiff, Nat.reduceMul, Nat.reduceAdd] <;> kernel_rfl
theorem F23_call : eInv env (k + 1) (.func 23) #[] #[x0] h = F23 (eInv env k) k x0 h := kq_inv F23_eq
noncomputable def c25 : Code := codeOf Try.prog 25
theorem r25_0  : kCode env 25 false inv k (cp c25 2) (act 20 [(0, x0), (1, x1)]) h K =
    K .normal (act 20 [(0, x0), (1, x1)]) h := kq_reg
theorem r25_1  : kCode env 25 false inv k (cp c25 96) (act 20 [(0, x0), (1, x1)]) h K =
    bnd (pBin Try.prog .geq 49 (.tmp 5) (.const (.int .u64 128)) x1 (.int .u64 128)) fun x6 =>
    K .normal (act 20 [(0, x0), (1, x1), (6, x6)]) h := kq_reg
theorem b25_rllllr  : kCode env 25 false inv k (cp c25 97) (act 20 [(0, x0), (1, x1), (6, x6)]) h K = brV x6 (kCode env 25 false inv k (cp c25 194) (act 20 [(0, x0), (1, x1), (6, x6)]) h K) (kCode env 25 false inv k (cp c25 195) (act 20 [(0, x0), (1, x1), (6, x6)]) h K) := kq_cond
theorem r25_3  : kCode env 25 false inv k (cp c25 196) (act 20 [(0, x0), (1, x1), (6, x6)]) h K =
    bnd (pConv Try.prog 49 5 x1 h) fun x11 =>
    bnd (pBin Try.prog .or 5 (.tmp 11) (.const (.int .u8 128)) x11 (.int .u8 128)) fun x12 =>
    bnd (pBuildSlice Try.prog 32 1 #[(0, x12)] h) fun x13 =>
    bnd (pAppend Try.prog #[32, 32] x0 x13.1 x13.2) fun x14 =>
    K .normal (act 20 [(0, x14.1), (1, x1)]) x14.2 := kq_reg
theorem r25_2  : kCode env 25 false inv k (cp c25 99) (act 20 [(0, x0), (1, x1)]) h K =
    bnd (pBin Try.prog .shr 49 (.tmp 7) (.const (.int .u64 7)) x1 (.int .u64 7)) fun x8 =>
    K .normal (act 20 [(0, x0), (1, x8)]) h := kq_reg
noncomputable def F25_llr {β : Type} (inv : Inv) (k : Nat) : Nat → Value → Value → AH → (Value → Value → Value → AH → Option β) → Option β
  | 0, _, _, _, _ => none
  | j + 1, x0, x1, h, ke0 =>
    bnd (pBin Try.prog .geq 49 (.tmp 5) (.const (.int .u64 128)) x1 (.int .u64 128)) fun x6 =>
    brV x6
    (bnd (pConv Try.prog 49 5 x1 h) fun x11 =>
    bnd (pBin Try.prog .or 5 (.tmp 11) (.const (.int .u8 128)) x11 (.int .u8 128)) fun x12 =>
    bnd (pBuildSlice Try.prog 32 1 #[(0, x12)] h) fun x13 =>
    bnd (pAppend Try.prog #[32, 32] x0 x13.1 x13.2) fun x14 =>
    bnd (pBin Try.prog .shr 49 (.tmp 7) (.const (.int .u64 7)) x1 (.int .u64 7)) fun x8 =>
    F25_llr inv k j x14.1 x8 x14.2 ke0)
    (ke0 x0 x1 x6 h)
theorem F25_llr_j (j : Nat) : kLoop (kCode env 25 false inv k (cp c25 24)) j (act 20 [(0, x0), (1, x1)]) h K = F25_llr inv k j x0 x1 h (fun y0 y1 y6 h => K (.exit 0) (act 20 [(0, y0), (1, y1), (6, y6)]) h) := by
      induction j generalizing x0 x1 h with
      | zero => rfl
      | succ j ih =>
        unfold F25_llr
        simp only [kLoop, kq_seq c25 24, kq_seq c25 48, r25_1, b25_rllllr, kq_skip c25 194, kq_seq c25 49, kq_block c25 98 1, r25_3, r25_2, kq_exit c25 195 0, ih, reduceIte, reduceCtorEq, XE.exit.injEq, Nat.reduceEqDiff, Nat.reduceMul, Nat.reduceAdd] <;> kernel_rfl
theorem F25_llr_eq  : kCode env 25 false inv k (cp c25 12) (act 20 [(0, x0), (1, x1)]) h K = F25_llr inv k k x0 x1 h (fun y0 y1 y6 h => K (.exit 0) (act 20 [(0, y0), (1, y1), (6, y6)]) h) := kq_loop (F25_llr_j k)
theorem r25_4  : kCode env 25 false inv k (cp c25 14) (act 20 [(0, x0), (1, x1), (6, x6)]) h K =
    bnd (pConv Try.prog 49 5 x1 h) fun x17 =>
    bnd (pBuildSlice Try.prog 32 1 #[(0, x17)] h) fun x18 =>
    bnd (pAppend Try.prog #[32, 32] x0 x18.1 x18.2) fun x19 =>
    K .normal (act 20 [(4, x19.1)]) x19.2 := kq_reg
theorem res25_0 : resOfFn env.P 25 .ret (act 20 [(4, x4)]) h = some (x4, h) := kq_res
/-- shadowbook/octet.PutVar -/
noncomputable def F25 (inv : Inv) (k : Nat) (x0 x1 : Value) (h : AH) : Option (Value × AH) :=
    F25_llr inv k k x0 x1 h
    (fun y0 y1 y6 h =>
    bnd (pConv Try.prog 49 5 y1 h) fun x17 =>
    bnd (pBuildSlice Try.prog 32 1 #[(0, x17)] h) fun x18 =>
    bnd (pAppend Try.prog #[32, 32] y0 x18.1 x18.2) fun x19 =>
    some (x19.1, x19.2))
theorem F25_eq : eFun env k inv 25 #[x0, x1] h = F25 inv k x0 x1 h := by
      refine (kq_fun (a := act 20 [(0, x0), (1, x1)]) (c := cp c25 1)).trans ?_
      unfold F25
      simp only [kq_seq c25 1, r25_0, kq_seq c25 3, kq_block c25 6 0, F25_llr_eq, kq_seq c25 7, r25_4, kq_ret c25 15, res25_0, reduceIte, reduceCtorEq, XE.exit.injEq, Nat.reduceEqDiff, Nat.reduceMul, Nat.reduceAdd] <;> kernel_rfl
theorem F25_call : eInv env (k + 1) (.func 25) #[] #[x0, x1] h = F25 (eInv env k) k x0 x1 h := kq_inv F25_eq
noncomputable def c26 : Code := codeOf Try.prog 26
theorem r26_0  : kCode env 26 false inv k (cp c26 2) (act 11 [(0, x0)]) h K =
    K .normal (act 11 [(0, x0)]) h := kq_reg
theorem r26_1  : kCode env 26 false inv k (cp c26 12) (act 11 [(0, x0)]) h K =
    bnd (inv (.func 23) #[] #[x0] h) fun x4 =>
    K .normal (act 11 [(0, x0), (4, x4.1)]) x4.2 := kq_reg
theorem r26_2  : kCode env 26 false inv k (cp c26 52) (act 11 [(0, x0), (4, x4)]) h K =
    bnd (pBin Try.prog .eql 3 (.tmp 4) (.const (.int .i64 0)) x4 (.int .i64 0)) fun x6 =>
    K .normal (act 11 [(0, x0), (4, x4), (5, x6)]) h := kq_reg
theorem b26_rlrlr  : kCode env 26 false inv k (cp c26 53) (act 11 [(0, x0), (4, x4), (5, x5)]) h K = brV x5 (kCode env 26 false inv k (cp c26 106) (act 11 [(0, x0), (4, x4), (5, x5)]) h K) (kCode env 26 false inv k (cp c26 107) (act 11 [(0, x0), (4, x4), (5, x5)]) h K) := kq_cond
theorem r26_3  : kCode env 26 false inv k (cp c26 212) (act 11 [(0, x0), (4, x4), (5, x5)]) h K =
    K .normal (act 11 [(2, (.int .u8 0))]) h := kq_reg
theorem res26_0 : resOfFn env.P 26 .ret (act 11 [(2, x2)]) h = some (x2, h) := kq_res
theorem r26_4  : kCode env 26 false inv k (cp c26 214) (act 11 [(0, x0), (4, x4), (5, x5)]) h K =
    bnd (pLen Try.prog #[43] x0 h) fun x9 =>
    bnd (pBin Try.prog .eql 3 (.tmp 4) (.tmp 9) x4 x9) fun x10 =>
    K .normal (act 11 [(7, x10)]) h := kq_reg
theorem b26_rrrlrlr  : kCode env 26 false inv k (cp c26 215) (act 11 [(7, x7)]) h K = brV x7 (kCode env 26 false inv k (cp c26 430) (act 11 [(7, x7)]) h K) (kCode env 26 false inv k (cp c26 431) (act 11 [(7, x7)]) h K) := kq_cond
theorem r26_5  : kCode env 26 false inv k (cp c26 860) (act 11 [(7, x7)]) h K =
    K .normal (act 11 [(2, (.int .u8 1))]) h := kq_reg
theorem r26_6  : kCode env 26 false inv k (cp c26 14) (act 11 [(7, x7)]) h K =
    K .normal (act 11 [(2, (.int .u8 2))]) h := kq_reg
/-- (shadowbook/nulls.flags).form -/
noncomputable def F26 (inv : Inv) (k : Nat) (x0 : Value) (h : AH) : Option (Value × AH) :=
    bnd (inv (.func 23) #[] #[x0] h) fun x4 =>
    bnd (pBin Try.prog .eql 3 (.tmp 4) (.const (.int .i64 0)) x4.1 (.int .i64 0)) fun x6 =>
    brV x6
    (some ((.int .u8 0), x4.2))
    (bnd (pLen Try.prog #[43] x0 x4.2) fun x9 =>
    bnd (pBin Try.prog .eql 3 (.tmp 4) (.tmp 9) x4.1 x9) fun x10 =>
    brV x10
    (some ((.int .u8 1), x4.2))
    (some ((.int .u8 2), x4.2)))
theorem F26_eq : eFun env k inv 26 #[x0] h = F26 inv k x0 h := by
      refine (kq_fun (a := act 11 [(0, x0)]) (c := cp c26 1)).trans ?_
      unfold F26
      simp only [kq_seq c26 1, r26_0, kq_seq c26 3, kq_seq c26 6, r26_1, kq_block c26 13 0, kq_seq c26 26, r26_2, b26_rlrlr, kq_seq c26 106, r26_3, kq_ret c26 213, res26_0, kq_seq c26 107, r26_4, b26_rrrlrlr, kq_seq c26 430, r26_5, kq_ret c26 861, kq_skip c26 431, kq_seq c26 7, r26_6, kq_ret c26 15, reduceIte, reduceCtorEq, XE.exit.injEq, Nat.reduceEqDiff, Nat.reduceMul, Nat.reduceAdd] <;> kernel_rfl
theorem F26_call : eInv env (k + 1) (.func 26) #[] #[x0] h = F26 (eInv env k) k x0 h := kq_inv F26_eq
noncomputable def c27 : Code := codeOf Try.prog 27
theorem r27_0  : kCode env 27 false inv k (cp c27 2) (act 54 [(0, x0), (1, x1)]) h K =
    K .normal (act 54 [(0, x0), (1, x1)]) h := kq_reg
theorem r27_1  : kCode env 27 false inv k (cp c27 24) (act 54 [(0, x0), (1, x1)]) h K =
    bnd (pLen Try.prog #[52] x0 h) fun x14 =>
    bnd (inv (.func 49) #[] #[x14, x1] h) fun x16 =>
    bnd (pUn Try.prog .not x16.1) fun x17 =>
    K .normal (act 54 [(0, x0), (1, x1), (12, x17)]) x16.2 := kq_reg
theorem b27_rllr  : kCode env 27 false inv k (cp c27 25) (act 54 [(0, x0), (1, x1), (12, x12)]) h K = brV x12 (kCode env 27 false inv k (cp c27 50) (act 54 [(0, x0), (1, x1), (12, x12)]) h K) (kCode env 27 false inv k (cp c27 51) (act 54 [(0, x0), (1, x1), (12, x12)]) h K) := kq_cond
theorem r27_2  : kCode env 27 false inv k (cp c27 100) (act 54 [(0, x0), (1, x1), (12, x12)]) h K =
    K .normal (act 54 [(4, (.slice none 0 0)), (5, (.int .i64 2))]) h := kq_reg
theorem res27_0 : resOfFn env.P 27 .ret (act 54 [(4, x4), (5, x5)]) h = some (.tuple #[x4, x5], h) := kq_res
theorem r27_3  : kCode env 27 false inv k (cp c27 102) (act 54 [(0, x0), (1, x1), (12, x12)]) h K =
    bnd (inv (.func 50) #[] #[x0] h) fun x20 =>
    bnd (pBin Try.prog .gtr 3 (.tmp 20) (.tmp 21) x20.1 x1) fun x22 =>
    K .normal (act 54 [(0, x0), (1, x1), (18, x22)]) x20.2 := kq_reg
theorem b27_rrrllr  : kCode env 27 false inv k (cp c27 103) (act 54 [(0, x0), (1, x1), (18, x18)]) h K = brV x18 (kCode env 27 false inv k (cp c27 206) (act 54 [(0, x0), (1, x1), (18, x18)]) h K) (kCode env 27 false inv k (cp c27 207) (act 54 [(0, x0), (1, x1), (18, x18)]) h K) := kq_cond
theorem r27_4  : kCode env 27 false inv k (cp c27 412) (act 54 [(0, x0), (1, x1), (18, x18)]) h K =
    K .normal (act 54 [(4, (.slice none 0 0)), (5, (.int .i64 3))]) h := kq_reg
theorem r27_5  : kCode env 27 false inv k (cp c27 14) (act 54 [(0, x0), (1, x1), (18, x18)]) h K =
    bnd (pLen Try.prog #[52] x0 h) fun x24 =>
    bnd (inv (.func 34) #[] #[x24, x1] h) fun x26 =>
    bnd (pMakeSlice Try.prog 32 (.int .i64 0) x26.1 x26.2) fun x27 =>
    bnd (pAlloc Try.prog 32 x27.2) fun x6 =>
    bnd (kSt (pStore Try.prog 32 x6.1 x27.1 x6.2)) fun u =>
    K .normal (act 54 [(0, x0), (1, x1), (6, x6.1)]) u.2 := kq_reg
theorem r27_6  : kCode env 27 false inv k (cp c27 30) (act 54 [(0, x0), (1, x1), (6, x6)]) h K =
    bnd (pAlloc Try.prog 5 h) fun x7 =>
    K .normal (act 54 [(0, x0), (1, x1), (6, x6), (7, x7.1)]) x7.2 := kq_reg
theorem r27_7  : kCode env 27 false inv k (cp c27 62) (act 54 [(0, x0), (1, x1), (6, x6), (7, x7)]) h K =
    bnd (pAlloc Try.prog 3 h) fun x8 =>
    bnd (kSt (pStore Try.prog 3 x8.1 (.int .i64 0) x8.2)) fun u =>
    K .normal (act 54 [(0, x0), (1, x1), (6, x6), (7, x7), (8, x8.1)]) u.2 := kq_reg
theorem r27_8  : kCode env 27 false inv k (cp c27 126) (act 54 [(0, x0), (1, x1), (6, x6), (7, x7), (8, x8)]) h K =
    bnd (pMakeFunc (.func 51) #[] #[x7, x8, x6]) fun x28 =>
    K .normal (act 54 [(0, x0), (1, x1), (6, x6), (7, x7), (8, x8), (9, x28)]) h := kq_reg
theorem r27_9  : kCode env 27 false inv k (cp c27 508) (act 54 [(0, x0), (1, x1), (6, x6), (7, x7), (8, x8), (9, x9)]) h K =
    bnd (pLen Try.prog #[52] x0 h) fun x30 =>
    K .normal (act 54 [(1, x1), (6, x6), (7, x7), (8, x8), (9, x9), (29, x0), (30, x30), (31, (.int .i64 0))]) h := kq_reg
theorem r27_10  : kCode env 27 false inv k (cp c27 4072) (act 54 [(1, x1), (6, x6), (7, x7), (8, x8), (9, x9), (29, x29), (30, x30), (31, x31)]) h K =
    bnd (pBin Try.prog .lss 3 (.tmp 31) (.tmp 30) x31 x30) fun x32 =>
    K .normal (act 54 [(1, x1), (6, x6), (7, x7), (8, x8), (9, x9), (29, x29), (30, x30), (31, x31), (32, x32)]) h := kq_reg
theorem b27_lrllrlrrrrrr  : kCode env 27 false inv k (cp c27 8146) (act 54 [(1, x1), (6, x6), (7, x7), (8, x8), (9, x9), (29, x29), (30, x30), (31, x31), (32, x32)]) h K = brV x32 (kCode env 27 false inv k (cp c27 16292) (act 54 [(1, x1), (6, x6), (7, x7), (8, x8), (9, x9), (29, x29), (30, x30), (31, x31), (32, x32)]) h K) (kCode env 27 false inv k (cp c27 16293) (act 54 [(1, x1), (6, x6), (7, x7), (8, x8), (9, x9), (29, x29), (30, x30), (31, x31), (32, x32)]) h K) := kq_cond
theorem r27_11  : kCode env 27 false inv k (cp c27 65176) (act 54 [(1, x1), (6, x6), (7, x7), (8, x8), (9, x9), (29, x29), (30, x30), (31, x31), (32, x32)]) h K =
    bnd (pIndexAddr Try.prog 52 x29 x31) fun x33 =>
    bnd (pLoad Try.prog 49 x33 h) fun x34 =>
    K .normal (act 54 [(1, x1), (6, x6), (7, x7), (8, x8), (9, x9), (11, x34), (29, x29), (30, x30), (31, x31)]) h := kq_reg
theorem r27_12  : kCode env 27 false inv k (cp c27 130354) (act 54 [(1, x1), (6, x6), (7, x7), (8, x8), (9, x9), (11, x11), (29, x29), (30, x30), (31, x31)]) h K =
    K .normal (act 54 [(1, x1), (6, x6), (7, x7), (8, x8), (9, x9), (11, x11), (29, x29), (30, x30), (31, x31), (35, x1), (36, (.int .i64 0))]) h := kq_reg
theorem r27_13  : kCode env 27 false inv k (cp c27 1042840) (act 54 [(1, x1), (6, x6), (7, x7), (8, x8), (9, x9), (11, x11), (29, x29), (30, x30), (31, x31), (35, x35), (36, x36)]) h K =
    bnd (pBin Try.prog .lss 3 (.tmp 36) (.tmp 35) x36 x35) fun x37 =>
    K .normal (act 54 [(1, x1), (6, x6), (7, x7), (8, x8), (9, x9), (11, x11), (29, x29), (30, x30), (31, x31), (35, x35), (36, x36), (37, x37)]) h := kq_reg
theorem b27_lrllrrllrrllrlrrrrrr  : kCode env 27 false inv k (cp c27 2085682) (act 54 [(1, x1), (6, x6), (7, x7), (8, x8), (9, x9), (11, x11), (29, x29), (30, x30), (31, x31), (35, x35), (36, x36), (37, x37)]) h K = brV x37 (kCode env 27 false inv k (cp c27 4171364) (act 54 [(1, x1), (6, x6), (7, x7), (8, x8), (9, x9), (11, x11), (29, x29), (30, x30), (31, x31), (35, x35), (36, x36), (37, x37)]) h K) (kCode env 27 false inv k (cp c27 4171365) (act 54 [(1, x1), (6, x6), (7, x7), (8, x8), (9, x9), (11, x11), (29, x29), (30, x30), (31, x31), (35, x35), (36, x36), (37, x37)]) h K) := kq_cond
theorem r27_14  : kCode env 27 false inv k (cp c27 16685464) (act 54 [(1, x1), (6, x6), (7, x7), (8, x8), (9, x9), (11, x11), (29, x29), (30, x30), (31, x31), (35, x35), (36, x36), (37, x37)]) h K =
    bnd (pBin Try.prog .and 49 (.tmp 39) (.const (.int .u64 1)) x11 (.int .u64 1)) fun x40 =>
    bnd (pConv Try.prog 49 5 x40 h) fun x41 =>
    bnd (callV inv x9 #[x41] h) fun x42 =>
    K .normal (act 54 [(1, x1), (6, x6), (7, x7), (8, x8), (9, x9), (11, x11), (29, x29), (30, x30), (31, x31), (35, x35), (36, x36)]) x42.2 := kq_reg
theorem r27_15  : kCode env 27 false inv k (cp c27 16685465) (act 54 [(1, x1), (6, x6), (7, x7), (8, x8), (9, x9), (11, x11), (29, x29), (30, x30), (31, x31), (35, x35), (36, x36)]) h K =
    bnd (pBin Try.prog .shr 49 (.tmp 43) (.const (.int .u64 1)) x11 (.int .u64 1)) fun x44 =>
    K .normal (act 54 [(1, x1), (6, x6), (7, x7), (8, x8), (9, x9), (11, x44), (29, x29), (30, x30), (31, x31), (35, x35), (36, x36)]) h := kq_reg
theorem r27_16  : kCode env 27 false inv k (cp c27 4171367) (act 54 [(1, x1), (6, x6), (7, x7), (8, x8), (9, x9), (11, x11), (29, x29), (30, x30), (31, x31), (35, x35), (36, x36)]) h K =
    bnd (pBin Try.prog .add 3 (.tmp 36) (.const (.int .i64 1)) x36 (.int .i64 1)) fun x45 =>
    K .normal (act 54 [(1, x1), (6, x6), (7, x7), (8, x8), (9, x9), (11, x11), (29, x29), (30, x30), (31, x31), (35, x35), (36, x45)]) h := kq_reg
noncomputable def F27_lrrllrrllrlrrrrrr {β : Type} (inv : Inv) (k : Nat) : Nat → Value → Value → Value → Value → Value → Value → Value → Value → Value → Value → Value → AH → (Value → Value → Value → Value → Value → Value → Value → Value → Value → Value → Value → Value → AH → Option β) → Option β
  | 0, _, _, _, _, _, _, _, _, _, _, _, _, _ => none
  | j + 1, x1, x6, x7, x8, x9, x11, x29, x30, x31, x35, x36, h, ke3 =>
    bnd (pBin Try.prog .lss 3 (.tmp 36) (.tmp 35) x36 x35) fun x37 =>
    brV x37
    (bnd (pBin Try.prog .and 49 (.tmp 39) (.const (.int .u64 1)) x11 (.int .u64 1)) fun x40 =>
    bnd (pConv Try.prog 49 5 x40 h) fun x41 =>
    bnd (callV inv x9 #[x41] h) fun x42 =>
    bnd (pBin Try.prog .shr 49 (.tmp 43) (.const (.int .u64 1)) x11 (.int .u64 1)) fun x44 =>
    bnd (pBin Try.prog .add 3 (.tmp 36) (.const (.int .i64 1)) x36 (.int .i64 1)) fun x45 =>
    F27_lrrllrrllrlrrrrrr inv k j x1 x6 x7 x8 x9 x44 x29 x30 x31 x35 x45 x42.2 ke3)
    (ke3 x1 x6 x7 x8 x9 x11 x29 x30 x31 x35 x36 x37 h)
theorem F27_lrrllrrllrlrrrrrr_j (j : Nat) : kLoop (kCode env 27 false inv k (cp c27 521420)) j (act 54 [(1, x1), (6, x6), (7, x7), (8, x8), (9, x9), (11, x11), (29, x29), (30, x30), (31, x31), (35, x35), (36, x36)]) h K = F27_lrrllrrllrlrrrrrr inv k j x1 x6 x7 x8 x9 x11 x29 x30 x31 x35 x36 h (fun y1 y6 y7 y8 y9 y11 y29 y30 y31 y35 y36 y37 h => K (.exit 3) (act 54 [(1, y1), (6, y6), (7, y7), (8, y8), (9, y9), (11, y11), (29, y29), (30, y30), (31, y31), (35, y35), (36, y36), (37, y37)]) h) := by
      induction j generalizing x1 x6 x7 x8 x9 x11 x29 x30 x31 x35 x36 h with
      | zero => rfl
      | succ j ih =>
        unfold F27_lrrllrrllrlrrrrrr
        simp only [kLoop, kq_seq c27 521420, r27_13, kq_seq c27 1042841, b27_lrllrrllrrllrlrrrrrr, kq_skip c27 4171364, kq_seq c27 2085683, kq_block c27 4171366 4, kq_seq c27 8342732, r27_14, r27_15, r27_16, kq_exit c27 4171365 3, ih, reduceIte, reduceCtorEq, XE.exit.injEq, Nat.reduceEqDiff, Nat.reduceMul, Nat.reduceAdd] <;> kernel_rfl
theorem F27_lrrllrrllrlrrrrrr_eq  : kCode env 27 false inv k (cp c27 260710) (act 54 [(1, x1), (6, x6), (7, x7), (8, x8), (9, x9), (11, x11), (29, x29), (30, x30), (31, x31), (35, x35), (36, x36)]) h K = F27_lrrllrrllrlrrrrrr inv k k x1 x6 x7 x8 x9 x11 x29 x30 x31 x35 x36 h (fun y1 y6 y7 y8 y9 y11 y29 y30 y31 y35 y36 y37 h => K (.exit 3) (act 54 [(1, y1), (6, y6), (7, y7), (8, y8), (9, y9), (11, y11), (29, y29), (30, y30), (31, y31), (35, y35), (36, y36), (37, y37)]) h) := kq_loop (F27_lrrllrrllrlrrrrrr_j k)
theorem r27_17  : kCode env 27 false inv k (cp c27 16295) (act 54 [(1, x1), (6, x6), (7, x7), (8, x8), (9, x9), (11, x11), (29, x29), (30, x30), (31, x31), (35, x35), (36, x36), (37, x37)]) h K =
    bnd (pBin Try.prog .add 3 (.tmp 31) (.const (.int .i64 1)) x31 (.int .i64 1)) fun x46 =>
    K .normal (act 54 [(1, x1), (6, x6), (7, x7), (8, x8), (9, x9), (29, x29), (30, x30), (31, x46)]) h := kq_reg
noncomputable def F27_lrlrrrrrr {β : Type} (inv : Inv) (k : Nat) : Nat → Value → Value → Value → Value → Value → Value → Value → Value → AH → (Value → Value → Value → Value → Value → Value → Value → Value → Value → AH → Option β) → Option β
  | 0, _, _, _, _, _, _, _, _, _, _ => none
  | j + 1, x1, x6, x7, x8, x9, x29, x30, x31, h, ke1 =>
    bnd (pBin Try.prog .lss 3 (.tmp 31) (.tmp 30) x31 x30) fun x32 =>
    brV x32
    (bnd (pIndexAddr Try.prog 52 x29 x31) fun x33 =>
    bnd (pLoad Try.prog 49 x33 h) fun x34 =>
    F27_lrrllrrllrlrrrrrr inv k k x1 x6 x7 x8 x9 x34 x29 x30 x31 x1 (.int .i64 0) h
    (fun y1 y6 y7 y8 y9 y11 y29 y30 y31 y35 y36 y37 h =>
    bnd (pBin Try.prog .add 3 (.tmp 31) (.const (.int .i64 1)) y31 (.int .i64 1)) fun x46 =>
    F27_lrlrrrrrr inv k j y1 y6 y7 y8 y9 y29 y30 x46 h ke1))
    (ke1 x1 x6 x7 x8 x9 x29 x30 x31 x32 h)
theorem F27_lrlrrrrrr_j (j : Nat) : kLoop (kCode env 27 false inv k (cp c27 2036)) j (act 54 [(1, x1), (6, x6), (7, x7), (8, x8), (9, x9), (29, x29), (30, x30), (31, x31)]) h K = F27_lrlrrrrrr inv k j x1 x6 x7 x8 x9 x29 x30 x31 h (fun y1 y6 y7 y8 y9 y29 y30 y31 y32 h => K (.exit 1) (act 54 [(1, y1), (6, y6), (7, y7), (8, y8), (9, y9), (29, y29), (30, y30), (31, y31), (32, y32)]) h) := by
      induction j generalizing x1 x6 x7 x8 x9 x29 x30 x31 h with
      | zero => rfl
      | succ j ih =>
        unfold F27_lrlrrrrrr
        simp only [kLoop, kq_seq c27 2036, r27_10, kq_seq c27 4073, b27_lrllrlrrrrrr, kq_skip c27 16292, kq_seq c27 8147, kq_block c27 16294 2, kq_seq c27 32588, r27_11, kq_seq c27 65177, r27_12, kq_block c27 130355 3, F27_lrrllrrllrlrrrrrr_eq, r27_17, kq_exit c27 16293 1, ih, reduceIte, reduceCtorEq, XE.exit.injEq, Nat.reduceEqDiff, Nat.reduceMul, Nat.reduceAdd] <;> kernel_rfl
theorem F27_lrlrrrrrr_eq  : kCode env 27 false inv k (cp c27 1018) (act 54 [(1, x1), (6, x6), (7, x7), (8, x8), (9, x9), (29, x29), (30, x30), (31, x31)]) h K = F27_lrlrrrrrr inv k k x1 x6 x7 x8 x9 x29 x30 x31 h (fun y1 y6 y7 y8 y9 y29 y30 y31 y32 h => K (.exit 1) (act 54 [(1, y1), (6, y6), (7, y7), (8, y8), (9, y9), (29, y29), (30, y30), (31, y31), (32, y32)]) h) := kq_loop (F27_lrlrrrrrr_j k)
theorem r27_18  : kCode env 27 false inv k (cp c27 1020) (act 54 [(1, x1), (6, x6), (7, x7), (8, x8), (9, x9), (29, x29), (30, x30), (31, x31), (32, x32)]) h K =
    bnd (pLoad Try.prog 3 x8 h) fun x47 =>
    bnd (pBin Try.prog .gtr 3 (.tmp 47) (.const (.int .i64 0)) x47 (.int .i64 0)) fun x48 =>
    K .normal (act 54 [(6, x6), (7, x7), (48, x48)]) h := kq_reg
theorem b27_rlrrrrrrr  : kCode env 27 false inv k (cp c27 1021) (act 54 [(6, x6), (7, x7), (48, x48)]) h K = brV x48 (kCode env 27 false inv k (cp c27 2042) (act 54 [(6, x6), (7, x7), (48, x48)]) h K) (kCode env 27 false inv k (cp c27 2043) (act 54 [(6, x6), (7, x7), (48, x48)]) h K) := kq_cond
theorem r27_19  : kCode env 27 false inv k (cp c27 2042) (act 54 [(6, x6), (7, x7), (48, x48)]) h K =
    bnd (pLoad Try.prog 32 x6 h) fun x49 =>
    bnd (pLoad Try.prog 5 x7 h) fun x50 =>
    bnd (pBuildSlice Try.prog 32 1 #[(0, x50)] h) fun x51 =>
    bnd (pAppend Try.prog #[32, 32] x49 x51.1 x51.2) fun x52 =>
    bnd (kSt (pStore Try.prog 32 x6 x52.1 x52.2)) fun u =>
    K .normal (act 54 [(6, x6)]) u.2 := kq_reg
noncomputable def F27_rlrrrrrrr {β : Type} (inv : Inv) (k : Nat) (x6 x7 x48 : Value) (h : AH) (kn : (Value → Value → Value → AH → Option β)) : Option β :=
    brV x48
    (bnd (pLoad Try.prog 32 x6 h) fun x49 =>
    bnd (pLoad Try.prog 5 x7 h) fun x50 =>
    bnd (pBuildSlice Try.prog 32 1 #[(0, x50)] h) fun x51 =>
    bnd (pAppend Try.prog #[32, 32] x49 x51.1 x51.2) fun x52 =>
    bnd (kSt (pStore Try.prog 32 x6 x52.1 x52.2)) fun u =>
    kn x6 unk unk u.2)
    (kn x6 x7 x48 h)
theorem F27_rlrrrrrrr_eq  : kCode env 27 false inv k (cp c27 1021) (act 54 [(6, x6), (7, x7), (48, x48)]) h K = F27_rlrrrrrrr inv k x6 x7 x48 h (fun y6 y7 y48 h => K .normal (act 54 [(6, y6), (7, y7), (48, y48)]) h) := by
      unfold F27_rlrrrrrrr
      simp only [b27_rlrrrrrrr, r27_19, kq_skip c27 2043, reduceIte, reduceCtorEq, XE.exit.injEq, Nat.reduceEqDiff, Nat.reduceMul, Nat.reduceAdd] <;> kernel_rfl
theorem r27_20  : kCode env 27 false inv k (cp c27 1022) (act 54 [(6, x6), (7, x7), (48, x48)]) h K =
    bnd (pLoad Try.prog 32 x6 h) fun x53 =>
    K .normal (act 54 [(4, x53), (5, (.int .i64 0))]) h := kq_reg
/-- shadowbook/packs.Put -/
noncomputable def F27 (inv : Inv) (k : Nat) (x0 x1 : Value) (h : AH) : Option (Value × AH) :=
    bnd (pLen Try.prog #[52] x0 h) fun x14 =>
    bnd (inv (.func 49) #[] #[x14, x1] h) fun x16 =>
    bnd (pUn Try.prog .not x16.1) fun x17 =>
    brV x17
    (some (.tuple #[(.slice none 0 0), (.int .i64 2)], x16.2))
    (bnd (inv (.func 50) #[] #[x0] x16.2) fun x20 =>
    bnd (pBin Try.prog .gtr 3 (.tmp 20) (.tmp 21) x20.1 x1) fun x22 =>
    brV x22
    (some (.tuple #[(.slice none 0 0), (.int .i64 3)], x20.2))
    (bnd (pLen Try.prog #[52] x0 x20.2) fun x24 =>
    bnd (inv (.func 34) #[] #[x24, x1] x20.2) fun x26 =>
    bnd (pMakeSlice Try.prog 32 (.int .i64 0) x26.1 x26.2) fun x27 =>
    bnd (pAlloc Try.prog 32 x27.2) fun x6 =>
    bnd (kSt (pStore Try.prog 32 x6.1 x27.1 x6.2)) fun u =>
    bnd (pAlloc Try.prog 5 u.2) fun x7 =>
    bnd (pAlloc Try.prog 3 x7.2) fun x8 =>
    bnd (kSt (pStore Try.prog 3 x8.1 (.int .i64 0) x8.2)) fun u_1 =>
    bnd (pMakeFunc (.func 51) #[] #[x7.1, x8.1, x6.1]) fun x28 =>
    bnd (pLen Try.prog #[52] x0 u_1.2) fun x30 =>
    F27_lrlrrrrrr inv k k x1 x6.1 x7.1 x8.1 x28 x0 x30 (.int .i64 0) u_1.2
    (fun y1 y6 y7 y8 y9 y29 y30 y31 y32 h =>
    bnd (pLoad Try.prog 3 y8 h) fun x47 =>
    bnd (pBin Try.prog .gtr 3 (.tmp 47) (.const (.int .i64 0)) x47 (.int .i64 0)) fun x48 =>
    F27_rlrrrrrrr inv k y6 y7 x48 h
    (fun y6_2 y7_3 y48 h_4 =>
    bnd (pLoad Try.prog 32 y6_2 h_4) fun x53 =>
    some (.tuple #[x53, (.int .i64 0)], h_4)))))
theorem F27_eq : eFun env k inv 27 #[x0, x1] h = F27 inv k x0 x1 h := by
      refine (kq_fun (a := act 54 [(0, x0), (1, x1)]) (c := cp c27 1)).trans ?_
      unfold F27
      simp only [kq_seq c27 1, r27_0, kq_seq c27 3, kq_block c27 6 0, kq_seq c27 12, r27_1, b27_rllr, kq_seq c27 50, r27_2, kq_ret c27 101, res27_0, kq_seq c27 51, r27_3, b27_rrrllr, kq_seq c27 206, r27_4, kq_ret c27 413, kq_skip c27 207, kq_seq c27 7, r27_5, kq_seq c27 15, r27_6, kq_seq c27 31, r27_7, kq_seq c27 63, r27_8, kq_seq c27 127, kq_seq c27 254, r27_9, kq_block c27 509 1, F27_lrlrrrrrr_eq, kq_seq c27 255, kq_seq c27 510, r27_18, F27_rlrrrrrrr_eq, kq_seq c27 511, r27_20, kq_ret c27 1023, reduceIte, reduceCtorEq, XE.exit.injEq, Nat.reduceEqDiff, Nat.reduceMul, Nat.reduceAdd] <;> kernel_rfl
theorem F27_call : eInv env (k + 1) (.func 27) #[] #[x0, x1] h = F27 (eInv env k) k x0 x1 h := kq_inv F27_eq
noncomputable def c28 : Code := codeOf Try.prog 28
theorem r28_0  : kCode env 28 false inv k (cp c28 2) (act 22 [(0, x0)]) h K =
    K .normal (act 22 [(0, x0)]) h := kq_reg
theorem r28_1  : kCode env 28 false inv k (cp c28 6) (act 22 [(0, x0)]) h K =
    bnd (pLen Try.prog #[43] x0 h) fun x7 =>
    bnd (pMakeSlice Try.prog 52 x7 x7 h) fun x8 =>
    K .normal (act 22 [(0, x0), (3, x8.1)]) x8.2 := kq_reg
theorem r28_2  : kCode env 28 false inv k (cp c28 28) (act 22 [(0, x0), (3, x3)]) h K =
    bnd (pLen Try.prog #[43] x0 h) fun x10 =>
    K .normal (act 22 [(3, x3), (9, x0), (10, x10), (11, (.int .i64 0))]) h := kq_reg
theorem r28_3  : kCode env 28 false inv k (cp c28 232) (act 22 [(3, x3), (9, x9), (10, x10), (11, x11)]) h K =
    bnd (pBin Try.prog .lss 3 (.tmp 11) (.tmp 10) x11 x10) fun x12 =>
    K .normal (act 22 [(3, x3), (9, x9), (10, x10), (11, x11), (12, x12)]) h := kq_reg
theorem b28_lrllrlrr  : kCode env 28 false inv k (cp c28 466) (act 22 [(3, x3), (9, x9), (10, x10), (11, x11), (12, x12)]) h K = brV x12 (kCode env 28 false inv k (cp c28 932) (act 22 [(3, x3), (9, x9), (10, x10), (11, x11), (12, x12)]) h K) (kCode env 28 false inv k (cp c28 933) (act 22 [(3, x3), (9, x9), (10, x10), (11, x11), (12, x12)]) h K) := kq_cond
theorem r28_4  : kCode env 28 false inv k (cp c28 3736) (act 22 [(3, x3), (9, x9), (10, x10), (11, x11), (12, x12)]) h K =
    bnd (pIndexAddr Try.prog 43 x9 x11) fun x14 =>
    bnd (pLoad Try.prog 4 x14 h) fun x15 =>
    K .normal (act 22 [(3, x3), (4, x11), (5, x15), (9, x9), (10, x10), (11, x11)]) h := kq_reg
theorem r28_5  : kCode env 28 false inv k (cp c28 7474) (act 22 [(3, x3), (4, x4), (5, x5), (9, x9), (10, x10), (11, x11)]) h K =
    K .normal (act 22 [(3, x3), (4, x4), (9, x9), (10, x10), (11, x11), (16, x5)]) h := kq_reg
theorem b28_rrllrrllrlrr  : kCode env 28 false inv k (cp c28 7475) (act 22 [(3, x3), (4, x4), (9, x9), (10, x10), (11, x11), (16, x16)]) h K = brV x16 (kCode env 28 false inv k (cp c28 14950) (act 22 [(3, x3), (4, x4), (9, x9), (10, x10), (11, x11), (16, x16)]) h K) (kCode env 28 false inv k (cp c28 14951) (act 22 [(3, x3), (4, x4), (9, x9), (10, x10), (11, x11), (16, x16)]) h K) := kq_cond
theorem r28_6  : kCode env 28 false inv k (cp c28 14950) (act 22 [(3, x3), (4, x4), (9, x9), (10, x10), (11, x11), (16, x16)]) h K =
    bnd (pIndexAddr Try.prog 52 x3 x4) fun x19 =>
    bnd (kSt (pStore Try.prog 49 x19 (.int .u64 1) h)) fun u =>
    K .normal (act 22 [(3, x3), (9, x9), (10, x10), (11, x11)]) u.2 := kq_reg
noncomputable def F28_lrrllrlrr {β : Type} (inv : Inv) (k : Nat) (x3 x9 x10 x11 x12 : Value) (h : AH) (kn : (Value → Value → Value → Value → Value → Value → AH → Option β)) : Option β :=
    bnd (pIndexAddr Try.prog 43 x9 x11) fun x14 =>
    bnd (pLoad Try.prog 4 x14 h) fun x15 =>
    brV x15
    (bnd (pIndexAddr Try.prog 52 x3 x11) fun x19 =>
    bnd (kSt (pStore Try.prog 49 x19 (.int .u64 1) h)) fun u =>
    kn x3 unk x9 x10 x11 unk u.2)
    (kn x3 x11 x9 x10 x11 x15 h)
theorem F28_lrrllrlrr_eq  : kCode env 28 false inv k (cp c28 934) (act 22 [(3, x3), (9, x9), (10, x10), (11, x11), (12, x12)]) h K = F28_lrrllrlrr inv k x3 x9 x10 x11 x12 h (fun y3 y4 y9 y10 y11 y16 h => K .normal (act 22 [(3, y3), (4, y4), (9, y9), (10, y10), (11, y11), (16, y16)]) h) := by
      unfold F28_lrrllrlrr
      simp only [kq_block c28 934 1, kq_seq c28 1868, r28_4, kq_seq c28 3737, r28_5, b28_rrllrrllrlrr, r28_6, kq_skip c28 14951, reduceIte, reduceCtorEq, XE.exit.injEq, Nat.reduceEqDiff, Nat.reduceMul, Nat.reduceAdd] <;> kernel_rfl
theorem r28_7  : kCode env 28 false inv k (cp c28 935) (act 22 [(3, x3), (4, x4), (9, x9), (10, x10), (11, x11), (16, x16)]) h K =
    bnd (pBin Try.prog .add 3 (.tmp 11) (.const (.int .i64 1)) x11 (.int .i64 1)) fun x20 =>
    K .normal (act 22 [(3, x3), (9, x9), (10, x10), (11, x20)]) h := kq_reg
noncomputable def F28_lrlrr {β : Type} (inv : Inv) (k : Nat) : Nat → Value → Value → Value → Value → AH → (Value → Value → Value → Value → Value → AH → Option β) → Option β
  | 0, _, _, _, _, _, _ => none
  | j + 1, x3, x9, x10, x11, h, ke0 =>
    bnd (pBin Try.prog .lss 3 (.tmp 11) (.tmp 10) x11 x10) fun x12 =>
    brV x12
    (F28_lrrllrlrr inv k x3 x9 x10 x11 x12 h
    (fun y3 y4 y9 y10 y11 y16 h =>
    bnd (pBin Try.prog .add 3 (.tmp 11) (.const (.int .i64 1)) y11 (.int .i64 1)) fun x20 =>
    F28_lrlrr inv k j y3 y9 y10 x20 h ke0))
    (ke0 x3 x9 x10 x11 x12 h)
theorem F28_lrlrr_j (j : Nat) : kLoop (kCode env 28 false inv k (cp c28 116)) j (act 22 [(3, x3), (9, x9), (10, x10), (11, x11)]) h K = F28_lrlrr inv k j x3 x9 x10 x11 h (fun y3 y9 y10 y11 y12 h => K (.exit 0) (act 22 [(3, y3), (9, y9), (10, y10), (11, y11), (12, y12)]) h) := by
      induction j generalizing x3 x9 x10 x11 h with
      | zero => rfl
      | succ j ih =>
        unfold F28_lrlrr
        simp only [kLoop, kq_seq c28 116, r28_3, kq_seq c28 233, b28_lrllrlrr, kq_skip c28 932, kq_seq c28 467, F28_lrrllrlrr_eq, r28_7, kq_exit c28 933 0, ih, reduceIte, reduceCtorEq, XE.exit.injEq, Nat.reduceEqDiff, Nat.reduceMul, Nat.reduceAdd] <;> kernel_rfl
theorem F28_lrlrr_eq  : kCode env 28 false inv k (cp c28 58) (act 22 [(3, x3), (9, x9), (10, x10), (11, x11)]) h K = F28_lrlrr inv k k x3 x9 x10 x11 h (fun y3 y9 y10 y11 y12 h => K (.exit 0) (act 22 [(3, y3), (9, y9), (10, y10), (11, y11), (12, y12)]) h) := kq_loop (F28_lrlrr_j k)
theorem r28_8  : kCode env 28 false inv k (cp c28 30) (act 22 [(3, x3), (9, x9), (10, x10), (11, x11), (12, x12)]) h K =
    K .normal (act 22 [(2, x3)]) h := kq_reg
theorem res28_0 : resOfFn env.P 28 .ret (act 22 [(2, x2)]) h = some (x2, h) := kq_res
/-- (shadowbook/nulls.flags).numbers -/
noncomputable def F28 (inv : Inv) (k : Nat) (x0 : Value) (h : AH) : Option (Value × AH) :=
    bnd (pLen Try.prog #[43] x0 h) fun x7 =>
    bnd (pMakeSlice Try.prog 52 x7 x7 h) fun x8 =>
    bnd (pLen Try.prog #[43] x0 x8.2) fun x10 =>
    F28_lrlrr inv k k x8.1 x0 x10 (.int .i64 0) x8.2
    (fun y3 y9 y10 y11 y12 h =>
    some (y3, h))
theorem F28_eq : eFun env k inv 28 #[x0] h = F28 inv k x0 h := by
      refine (kq_fun (a := act 22 [(0, x0)]) (c := cp c28 1)).trans ?_
      unfold F28
      simp only [kq_seq c28 1, r28_0, kq_seq c28 3, r28_1, kq_seq c28 7, kq_seq c28 14, r28_2, kq_block c28 29 0, F28_lrlrr_eq, kq_seq c28 15, r28_8, kq_ret c28 31, res28_0, reduceIte, reduceCtorEq, XE.exit.injEq, Nat.reduceEqDiff, Nat.reduceMul, Nat.reduceAdd] <;> kernel_rfl
theorem F28_call : eInv env (k + 1) (.func 28) #[] #[x0] h = F28 (eInv env k) k x0 h := kq_inv F28_eq
noncomputable def c29 : Code := codeOf Try.prog 29
theorem r29_0  : kCode env 29 false inv k (cp c29 2) (act 7 [(0, x0)]) h K =
    K .normal (act 7 [(0, x0)]) h := kq_reg
theorem r29_1  : kCode env 29 false inv k (cp c29 6) (act 7 [(0, x0)]) h K =
    bnd (inv (.func 52) #[] #[x0] h) fun x4 =>
    bnd (pBuild Try.prog 73 #[(0, x4.1)]) fun x5 =>
    bnd (pBox Try.prog 73 x5 x4.2) fun x6 =>
    K .normal (act 7 [(2, x6.1)]) x6.2 := kq_reg
theorem res29_0 : resOfFn env.P 29 .ret (act 7 [(2, x2)]) h = some (x2, h) := kq_res
/-- shadowbook/octet.New -/
noncomputable def F29 (inv : Inv) (k : Nat) (x0 : Value) (h : AH) : Option (Value × AH) :=
    bnd (inv (.func 52) #[] #[x0] h) fun x4 =>
    bnd (pBuild Try.prog 73 #[(0, x4.1)]) fun x5 =>
    bnd (pBox Try.prog 73 x5 x4.2) fun x6 =>
    some (x6.1, x6.2)
theorem F29_eq : eFun env k inv 29 #[x0] h = F29 inv k x0 h := by
      refine (kq_fun (a := act 7 [(0, x0)]) (c := cp c29 1)).trans ?_
      unfold F29
      simp only [kq_seq c29 1, r29_0, kq_seq c29 3, r29_1, kq_ret c29 7, res29_0, reduceIte, reduceCtorEq, XE.exit.injEq, Nat.reduceEqDiff, Nat.reduceMul, Nat.reduceAdd] <;> kernel_rfl
theorem F29_call : eInv env (k + 1) (.func 29) #[] #[x0] h = F29 (eInv env k) k x0 h := kq_inv F29_eq
noncomputable def c30 : Code := codeOf Try.prog 30
theorem r30_0  : kCode env 30 false inv k (cp c30 2) (act 58 [(0, x0)]) h K =
    K .normal (act 58 [(0, x0), (2, (.int .u64 0))]) h := kq_reg
theorem r30_1  : kCode env 30 false inv k (cp c30 12) (act 58 [(0, x0), (2, x2)]) h K =
    bnd (pBin Try.prog .eql 54 (.tmp 7) (.const (.pointer none)) x0 (.pointer none)) fun x8 =>
    K .normal (act 58 [(0, x0), (2, x2), (8, x8)]) h := kq_reg
theorem b30_rlr  : kCode env 30 false inv k (cp c30 13) (act 58 [(0, x0), (2, x2), (8, x8)]) h K = brV x8 (kCode env 30 false inv k (cp c30 26) (act 58 [(0, x0), (2, x2), (8, x8)]) h K) (kCode env 30 false inv k (cp c30 27) (act 58 [(0, x0), (2, x2), (8, x8)]) h K) := kq_cond
theorem r30_2  : kCode env 30 false inv k (cp c30 52) (act 58 [(0, x0), (2, x2), (8, x8)]) h K =
    K .normal (act 58 [(2, (.int .u64 0)), (3, (.int .i64 1))]) h := kq_reg
theorem res30_0 : resOfFn env.P 30 .ret (act 58 [(2, x2), (3, x3)]) h = some (.tuple #[x2, x3], h) := kq_res
theorem r30_3  : kCode env 30 false inv k (cp c30 28) (act 58 [(0, x0), (2, x2), (8, x8)]) h K =
    bnd (pNilCheck x0) fun x10 =>
    bnd (pFieldAddr Try.prog 73 x10 0) fun x11 =>
    bnd (pLoad Try.prog 32 x11 h) fun x12 =>
    bnd (pLen Try.prog #[32] x12 h) fun x13 =>
    K .normal (act 58 [(0, x0), (2, x2), (12, x12), (13, x13), (14, (.int .i64 0))]) h := kq_reg
theorem r30_4  : kCode env 30 false inv k (cp c30 232) (act 58 [(0, x0), (2, x2), (12, x12), (13, x13), (14, x14)]) h K =
    bnd (pBin Try.prog .lss 3 (.tmp 14) (.tmp 13) x14 x13) fun x15 =>
    K .normal (act 58 [(0, x0), (2, x2), (12, x12), (13, x13), (14, x14), (15, x15)]) h := kq_reg
theorem b30_lrllrlrr  : kCode env 30 false inv k (cp c30 466) (act 58 [(0, x0), (2, x2), (12, x12), (13, x13), (14, x14), (15, x15)]) h K = brV x15 (kCode env 30 false inv k (cp c30 932) (act 58 [(0, x0), (2, x2), (12, x12), (13, x13), (14, x14), (15, x15)]) h K) (kCode env 30 false inv k (cp c30 933) (act 58 [(0, x0), (2, x2), (12, x12), (13, x13), (14, x14), (15, x15)]) h K) := kq_cond
theorem r30_5  : kCode env 30 false inv k (cp c30 3736) (act 58 [(0, x0), (2, x2), (12, x12), (13, x13), (14, x14), (15, x15)]) h K =
    bnd (pIndexAddr Try.prog 32 x12 x14) fun x17 =>
    bnd (pLoad Try.prog 5 x17 h) fun x18 =>
    K .normal (act 58 [(0, x0), (2, x2), (4, x14), (5, x18), (12, x12), (13, x13), (14, x14)]) h := kq_reg
theorem r30_6  : kCode env 30 false inv k (cp c30 14948) (act 58 [(0, x0), (2, x2), (4, x4), (5, x5), (12, x12), (13, x13), (14, x14)]) h K =
    bnd (pBin Try.prog .eql 3 (.tmp 19) (.const (.int .i64 10)) x4 (.int .i64 10)) fun x20 =>
    K .normal (act 58 [(0, x0), (2, x2), (4, x4), (5, x5), (12, x12), (13, x13), (14, x14), (20, x20)]) h := kq_reg
theorem b30_rlrllrrllrlrr  : kCode env 30 false inv k (cp c30 14949) (act 58 [(0, x0), (2, x2), (4, x4), (5, x5), (12, x12), (13, x13), (14, x14), (20, x20)]) h K = brV x20 (kCode env 30 false inv k (cp c30 29898) (act 58 [(0, x0), (2, x2), (4, x4), (5, x5), (12, x12), (13, x13), (14, x14), (20, x20)]) h K) (kCode env 30 false inv k (cp c30 29899) (act 58 [(0, x0), (2, x2), (4, x4), (5, x5), (12, x12), (13, x13), (14, x14), (20, x20)]) h K) := kq_cond
theorem r30_7  : kCode env 30 false inv k (cp c30 14950) (act 58 [(0, x0), (2, x2), (4, x4), (5, x5), (12, x12), (13, x13), (14, x14), (20, x20)]) h K =
    bnd (pBin Try.prog .andNot 5 (.tmp 21) (.const (.int .u8 128)) x5 (.int .u8 128)) fun x22 =>
    bnd (pConv Try.prog 5 49 x22 h) fun x23 =>
    K .normal (act 58 [(0, x0), (2, x2), (4, x4), (5, x5), (6, x23), (12, x12), (13, x13), (14, x14)]) h := kq_reg
noncomputable abbrev G30_8 {β : Type} (inv : Inv) (x0 x2 x4 x5 x6 x12 x13 x14 : Value) (h : AH) (K : Value → AH → Option β) : Option β :=
    bnd (pBin Try.prog .eql 3 (.tmp 24) (.const (.int .i64 9)) x4 (.int .i64 9)) fun x25 =>
    bnd (gd (some x25) true h (some (x6, h))) fun x27 =>
    bnd (gd (some x25) true x27.2 (lt (pBin Try.prog .gtr 49 (.tmp 27) (.const (.int .u64 1)) x27.1 (.int .u64 1)) x27.2)) fun x28 =>
    bnd (pickV x25 x28.1 (.bool false)) fun x29 =>
    K (x29) x28.2
theorem r30_8  : kCode env 30 false inv k (cp c30 59804) (act 58 [(0, x0), (2, x2), (4, x4), (5, x5), (6, x6), (12, x12), (13, x13), (14, x14)]) h K =
    G30_8 inv x0 x2 x4 x5 x6 x12 x13 x14 h fun y29 h => K .normal (act 58 [(0, x0), (2, x2), (4, x4), (5, x5), (6, x6), (12, x12), (13, x13), (14, x14), (29, y29)]) h := kq_reg
theorem b30_rlrrrllrrllrlrr  : kCode env 30 false inv k (cp c30 59805) (act 58 [(0, x0), (2, x2), (4, x4), (5, x5), (6, x6), (12, x12), (13, x13), (14, x14), (29, x29)]) h K = brV x29 (kCode env 30 false inv k (cp c30 119610) (act 58 [(0, x0), (2, x2), (4, x4), (5, x5), (6, x6), (12, x12), (13, x13), (14, x14), (29, x29)]) h K) (kCode env 30 false inv k (cp c30 119611) (act 58 [(0, x0), (2, x2), (4, x4), (5, x5), (6, x6), (12, x12), (13, x13), (14, x14), (29, x29)]) h K) := kq_cond
theorem r30_9  : kCode env 30 false inv k (cp c30 59806) (act 58 [(0, x0), (2, x2), (4, x4), (5, x5), (6, x6), (12, x12), (13, x13), (14, x14), (29, x29)]) h K =
    bnd (pBin Try.prog .mul 3 (.const (.int .i64 7)) (.tmp 32) (.int .i64 7) x4) fun x33 =>
    bnd (pBin Try.prog .shl 49 (.tmp 31) (.tmp 33) x6 x33) fun x34 =>
    bnd (pBin Try.prog .or 49 (.tmp 30) (.tmp 34) x2 x34) fun x35 =>
    K .normal (act 58 [(0, x0), (2, x35), (4, x4), (5, x5), (6, x6), (12, x12), (13, x13), (14, x14)]) h := kq_reg
theorem r30_10  : kCode env 30 false inv k (cp c30 239228) (act 58 [(0, x0), (2, x2), (4, x4), (5, x5), (6, x6), (12, x12), (13, x13), (14, x14)]) h K =
    bnd (pBin Try.prog .geq 5 (.tmp 36) (.const (.int .u8 128)) x5 (.int .u8 128)) fun x37 =>
    K .normal (act 58 [(0, x0), (2, x2), (4, x4), (6, x6), (12, x12), (13, x13), (14, x14), (37, x37)]) h := kq_reg
theorem b30_rlrrrrrllrrllrlrr  : kCode env 30 false inv k (cp c30 239229) (act 58 [(0, x0), (2, x2), (4, x4), (6, x6), (12, x12), (13, x13), (14, x14), (37, x37)]) h K = brV x37 (kCode env 30 false inv k (cp c30 478458) (act 58 [(0, x0), (2, x2), (4, x4), (6, x6), (12, x12), (13, x13), (14, x14), (37, x37)]) h K) (kCode env 30 false inv k (cp c30 478459) (act 58 [(0, x0), (2, x2), (4, x4), (6, x6), (12, x12), (13, x13), (14, x14), (37, x37)]) h K) := kq_cond
theorem r30_14  : kCode env 30 false inv k (cp c30 935) (act 58 [(0, x0), (2, x2), (4, x4), (6, x6), (12, x12), (13, x13), (14, x14), (37, x37)]) h K =
    bnd (pBin Try.prog .add 3 (.tmp 14) (.const (.int .i64 1)) x14 (.int .i64 1)) fun x55 =>
    K .normal (act 58 [(0, x0), (2, x2), (12, x12), (13, x13), (14, x55)]) h := kq_reg
noncomputable abbrev G30_11 {β : Type} (inv : Inv) (x0 x2 x4 x6 : Value) (h : AH) (K : Value → AH → Option β) : Option β :=
    bnd (pBin Try.prog .eql 49 (.tmp 38) (.const (.int .u64 0)) x6 (.int .u64 0)) fun x39 =>
    bnd (gd (some x39) true h (some (x4, h))) fun x41 =>
    bnd (gd (some x39) true x41.2 (lt (pBin Try.prog .gtr 3 (.tmp 41) (.const (.int .i64 0)) x41.1 (.int .i64 0)) x41.2)) fun x42 =>
    bnd (pickV x39 x42.1 (.bool false)) fun x43 =>
    K (x43) x42.2
theorem r30_11  : kCode env 30 false inv k (cp c30 478460) (act 58 [(0, x0), (2, x2), (4, x4), (6, x6), (12, x12), (13, x13), (14, x14), (37, x37)]) h K =
    G30_11 inv x0 x2 x4 x6 h fun y43 h => K .normal (act 58 [(0, x0), (2, x2), (4, x4), (43, y43)]) h := kq_reg
theorem b30_rlrrrrrrllrrllrlrr  : kCode env 30 false inv k (cp c30 478461) (act 58 [(0, x0), (2, x2), (4, x4), (43, x43)]) h K = brV x43 (kCode env 30 false inv k (cp c30 956922) (act 58 [(0, x0), (2, x2), (4, x4), (43, x43)]) h K) (kCode env 30 false inv k (cp c30 956923) (act 58 [(0, x0), (2, x2), (4, x4), (43, x43)]) h K) := kq_cond
noncomputable abbrev G30_12 {β : Type} (inv : Inv) (x0 x2 x4 : Value) (h : AH) (K : AH → Option β) : Option β :=
    bnd (pNilCheck x0) fun x46 =>
    bnd (pFieldAddr Try.prog 73 x46 0) fun x47 =>
    bnd (pLoad Try.prog 32 x47 h) fun x48 =>
    bnd (pBin Try.prog .add 3 (.tmp 49) (.const (.int .i64 1)) x4 (.int .i64 1)) fun x50 =>
    bnd (pSlice Try.prog 32 x48 (some x50) none none h) fun x51 =>
    bnd (pNilCheck x0) fun x52 =>
    bnd (pFieldAddr Try.prog 73 x52 0) fun x53 =>
    bnd (kSt (pStore Try.prog 32 x53 x51 h)) fun u =>
    K u.2
theorem r30_12  : kCode env 30 false inv k (cp c30 478462) (act 58 [(0, x0), (2, x2), (4, x4), (43, x43)]) h K =
    G30_12 inv x0 x2 x4 h fun  h => K .normal (act 58 [(2, x2)]) h := kq_reg
theorem r30_13  : kCode env 30 false inv k (cp c30 956926) (act 58 [(2, x2)]) h K =
    K .normal (act 58 [(2, x2), (3, (.int .i64 0))]) h := kq_reg
noncomputable def F30_lrlrr {β : Type} (inv : Inv) (k : Nat) : Nat → Value → Value → Value → Value → Value → AH → (Value → Value → Value → Value → Value → Value → Value → Value → Value → Value → Value → Value → AH → Option β) → (Value → Value → AH → Option β) → Option β
  | 0, _, _, _, _, _, _, _, _ => none
  | j + 1, x0, x2, x12, x13, x14, h, ke0, kr =>
    bnd (pBin Try.prog .lss 3 (.tmp 14) (.tmp 13) x14 x13) fun x15 =>
    brV x15
    (bnd (pIndexAddr Try.prog 32 x12 x14) fun x17 =>
    bnd (pLoad Try.prog 5 x17 h) fun x18 =>
    bnd (pBin Try.prog .eql 3 (.tmp 19) (.const (.int .i64 10)) x14 (.int .i64 10)) fun x20 =>
    brV x20
    (ke0 x0 x2 x14 x18 unk x12 x13 x14 unk x20 unk unk h)
    (bnd (pBin Try.prog .andNot 5 (.tmp 21) (.const (.int .u8 128)) x18 (.int .u8 128)) fun x22 =>
    bnd (pConv Try.prog 5 49 x22 h) fun x23 =>
    G30_8 inv x0 x2 x14 x18 x23 x12 x13 x14 h fun y29 h =>
    brV y29
    (ke0 x0 x2 x14 x18 x23 x12 x13 x14 unk unk y29 unk h)
    (bnd (pBin Try.prog .mul 3 (.const (.int .i64 7)) (.tmp 32) (.int .i64 7) x14) fun x33 =>
    bnd (pBin Try.prog .shl 49 (.tmp 31) (.tmp 33) x23 x33) fun x34 =>
    bnd (pBin Try.prog .or 49 (.tmp 30) (.tmp 34) x2 x34) fun x35 =>
    bnd (pBin Try.prog .geq 5 (.tmp 36) (.const (.int .u8 128)) x18 (.int .u8 128)) fun x37 =>
    brV x37
    (bnd (pBin Try.prog .add 3 (.tmp 14) (.const (.int .i64 1)) x14 (.int .i64 1)) fun x55 =>
    F30_lrlrr inv k j x0 x35 x12 x13 x55 h ke0 kr)
    (G30_11 inv x0 x35 x14 x23 h fun y43 h_1 =>
    brV y43
    (ke0 x0 x35 x14 unk unk unk unk unk unk unk unk y43 h_1)
    (G30_12 inv x0 x35 x14 h_1 fun  h_2 =>
    kr x35 (.int .i64 0) h_2)))))
    (ke0 x0 x2 unk unk unk x12 x13 x14 x15 unk unk unk h)
theorem F30_lrlrr_j (j : Nat) : kLoop (kCode env 30 false inv k (cp c30 116)) j (act 58 [(0, x0), (2, x2), (12, x12), (13, x13), (14, x14)]) h K = F30_lrlrr inv k j x0 x2 x12 x13 x14 h (fun y0 y2 y4 y5 y6 y12 y13 y14 y15 y20 y29 y43 h => K (.exit 0) (act 58 [(0, y0), (2, y2), (4, y4), (5, y5), (6, y6), (12, y12), (13, y13), (14, y14), (15, y15), (20, y20), (29, y29), (43, y43)]) h) (fun y2 y3 h => K .ret (act 58 [(2, y2), (3, y3)]) h) := by
      induction j generalizing x0 x2 x12 x13 x14 h with
      | zero => rfl
      | succ j ih =>
        unfold F30_lrlrr
        simp only [kLoop, kq_seq c30 116, r30_4, kq_seq c30 233, b30_lrllrlrr, kq_skip c30 932, kq_seq c30 467, kq_block c30 934 1, kq_seq c30 1868, r30_5, kq_seq c30 3737, kq_seq c30 7474, r30_6, b30_rlrllrrllrlrr, kq_exit c30 29898 0, kq_skip c30 29899, kq_seq c30 7475, r30_7, kq_seq c30 14951, kq_seq c30 29902, r30_8, b30_rlrrrllrrllrlrr, kq_exit c30 119610 0, kq_skip c30 119611, kq_seq c30 29903, r30_9, kq_seq c30 59807, kq_seq c30 119614, r30_10, b30_rlrrrrrllrrllrlrr, kq_exit c30 478458 1, r30_14, kq_skip c30 478459, kq_seq c30 119615, kq_seq c30 239230, r30_11, b30_rlrrrrrrllrrllrlrr, kq_exit c30 956922 0, kq_skip c30 956923, kq_seq c30 239231, r30_12, kq_seq c30 478463, r30_13, kq_ret c30 956927, kq_exit c30 933 0, ih, reduceIte, reduceCtorEq, XE.exit.injEq, Nat.reduceEqDiff, Nat.reduceMul, Nat.reduceAdd] <;> kernel_rfl
theorem F30_lrlrr_eq  : kCode env 30 false inv k (cp c30 58) (act 58 [(0, x0), (2, x2), (12, x12), (13, x13), (14, x14)]) h K = F30_lrlrr inv k k x0 x2 x12 x13 x14 h (fun y0 y2 y4 y5 y6 y12 y13 y14 y15 y20 y29 y43 h => K (.exit 0) (act 58 [(0, y0), (2, y2), (4, y4), (5, y5), (6, y6), (12, y12), (13, y13), (14, y14), (15, y15), (20, y20), (29, y29), (43, y43)]) h) (fun y2 y3 h => K .ret (act 58 [(2, y2), (3, y3)]) h) := kq_loop (F30_lrlrr_j k)
noncomputable def F30_rlrr {β : Type} (inv : Inv) (k : Nat) (x0 x2 x12 x13 x14 : Value) (h : AH) (kn : (Value → Value → Value → Value → Value → Value → Value → Value → Value → Value → Value → Value → AH → Option β)) (kr : (Value → Value → AH → Option β)) : Option β :=
    F30_lrlrr inv k k x0 x2 x12 x13 x14 h
    (fun y0 y2 y4 y5 y6 y12 y13 y14 y15 y20 y29 y43 h =>
    kn y0 y2 y4 y5 y6 y12 y13 y14 y15 y20 y29 y43 h)
    (fun y2_3 y3 h_4 =>
    kr y2_3 y3 h_4)
theorem F30_rlrr_eq  : kCode env 30 false inv k (cp c30 29) (act 58 [(0, x0), (2, x2), (12, x12), (13, x13), (14, x14)]) h K = F30_rlrr inv k x0 x2 x12 x13 x14 h (fun y0 y2 y4 y5 y6 y12 y13 y14 y15 y20 y29 y43 h => K .normal (act 58 [(0, y0), (2, y2), (4, y4), (5, y5), (6, y6), (12, y12), (13, y13), (14, y14), (15, y15), (20, y20), (29, y29), (43, y43)]) h) (fun y2 y3 h => K .ret (act 58 [(2, y2), (3, y3)]) h) := by
      unfold F30_rlrr
      simp only [kq_block c30 29 0, F30_lrlrr_eq, reduceIte, reduceCtorEq, XE.exit.injEq, Nat.reduceEqDiff, Nat.reduceMul, Nat.reduceAdd] <;> kernel_rfl
theorem r30_15  : kCode env 30 false inv k (cp c30 60) (act 58 [(0, x0), (2, x2), (4, x4), (5, x5), (6, x6), (12, x12), (13, x13), (14, x14), (15, x15), (20, x20), (29, x29), (43, x43)]) h K =
    bnd (inv (.func 53) #[] #[x0] h) fun x57 =>
    K .normal (act 58 [(57, x57.1)]) x57.2 := kq_reg
theorem b30_rlrrr  : kCode env 30 false inv k (cp c30 61) (act 58 [(57, x57)]) h K = brV x57 (kCode env 30 false inv k (cp c30 122) (act 58 [(57, x57)]) h K) (kCode env 30 false inv k (cp c30 123) (act 58 [(57, x57)]) h K) := kq_cond
theorem r30_16  : kCode env 30 false inv k (cp c30 244) (act 58 [(57, x57)]) h K =
    K .normal (act 58 [(2, (.int .u64 0)), (3, (.int .i64 7))]) h := kq_reg
theorem r30_17  : kCode env 30 false inv k (cp c30 62) (act 58 [(57, x57)]) h K =
    K .normal (act 58 [(2, (.int .u64 0)), (3, (.int .i64 4))]) h := kq_reg
/-- (*shadowbook/octet.Reader).Var -/
noncomputable def F30 (inv : Inv) (k : Nat) (x0 : Value) (h : AH) : Option (Value × AH) :=
    bnd (pBin Try.prog .eql 54 (.tmp 7) (.const (.pointer none)) x0 (.pointer none)) fun x8 =>
    brV x8
    (some (.tuple #[(.int .u64 0), (.int .i64 1)], h))
    (bnd (pNilCheck x0) fun x10 =>
    bnd (pFieldAddr Try.prog 73 x10 0) fun x11 =>
    bnd (pLoad Try.prog 32 x11 h) fun x12 =>
    bnd (pLen Try.prog #[32] x12 h) fun x13 =>
    F30_rlrr inv k x0 (.int .u64 0) x12 x13 (.int .i64 0) h
    (fun y0 y2 y4 y5 y6 y12 y13 y14 y15 y20 y29 y43 h =>
    bnd (inv (.func 53) #[] #[y0] h) fun x57 =>
    brV x57.1
    (some (.tuple #[(.int .u64 0), (.int .i64 7)], x57.2))
    (some (.tuple #[(.int .u64 0), (.int .i64 4)], x57.2)))
    (fun y2_5 y3 h_6 =>
    some (.tuple #[y2_5, y3], h_6)))
theorem F30_eq : eFun env k inv 30 #[x0] h = F30 inv k x0 h := by
      refine (kq_fun (a := act 58 [(0, x0)]) (c := cp c30 1)).trans ?_
      unfold F30
      simp only [kq_seq c30 1, r30_0, kq_seq c30 3, kq_seq c30 6, r30_1, b30_rlr, kq_seq c30 26, r30_2, kq_ret c30 53, res30_0, kq_skip c30 27, kq_seq c30 7, kq_seq c30 14, r30_3, F30_rlrr_eq, kq_seq c30 15, kq_seq c30 30, r30_15, b30_rlrrr, kq_seq c30 122, r30_16, kq_ret c30 245, kq_skip c30 123, kq_seq c30 31, r30_17, kq_ret c30 63, reduceIte, reduceCtorEq, XE.exit.injEq, Nat.reduceEqDiff, Nat.reduceMul, Nat.reduceAdd] <;> kernel_rfl
theorem F30_call : eInv env (k + 1) (.func 30) #[] #[x0] h = F30 (eInv env k) k x0 h := kq_inv F30_eq
noncomputable def c31 : Code := codeOf Try.prog 31
theorem r31_0  : kCode env 31 false inv k (cp c31 2) (act 27 [(0, x0), (1, x1)]) h K =
    K .normal (act 27 [(0, x0), (1, x1)]) h := kq_reg
theorem r31_1  : kCode env 31 false inv k (cp c31 24) (act 27 [(0, x0), (1, x1)]) h K =
    bnd (pBin Try.prog .eql 54 (.tmp 9) (.const (.pointer none)) x0 (.pointer none)) fun x10 =>
    K .normal (act 27 [(0, x0), (1, x1), (8, x10)]) h := kq_reg
theorem b31_rllr  : kCode env 31 false inv k (cp c31 25) (act 27 [(0, x0), (1, x1), (8, x8)]) h K = brV x8 (kCode env 31 false inv k (cp c31 50) (act 27 [(0, x0), (1, x1), (8, x8)]) h K) (kCode env 31 false inv k (cp c31 51) (act 27 [(0, x0), (1, x1), (8, x8)]) h K) := kq_cond
theorem r31_2  : kCode env 31 false inv k (cp c31 100) (act 27 [(0, x0), (1, x1), (8, x8)]) h K =
    K .normal (act 27 [(4, (.int .u64 0)), (5, (.int .i64 1))]) h := kq_reg
theorem res31_0 : resOfFn env.P 31 .ret (act 27 [(4, x4), (5, x5)]) h = some (.tuple #[x4, x5], h) := kq_res
noncomputable abbrev G31_3 {β : Type} (inv : Inv) (x0 x1 : Value) (h : AH) (K : Value → AH → Option β) : Option β :=
    bnd (pBin Try.prog .lss 3 (.tmp 12) (.const (.int .i64 1)) x1 (.int .i64 1)) fun x13 =>
    bnd (gd (some x13) false h (some (x1, h))) fun x15 =>
    bnd (gd (some x13) false x15.2 (lt (pBin Try.prog .gtr 3 (.tmp 15) (.const (.int .i64 8)) x15.1 (.int .i64 8)) x15.2)) fun x16 =>
    bnd (pickV x13 (.bool true) x16.1) fun x17 =>
    K (x17) x16.2
theorem r31_3  : kCode env 31 false inv k (cp c31 102) (act 27 [(0, x0), (1, x1), (8, x8)]) h K =
    G31_3 inv x0 x1 h fun y11 h => K .normal (act 27 [(0, x0), (1, x1), (11, y11)]) h := kq_reg
theorem b31_rrrllr  : kCode env 31 false inv k (cp c31 103) (act 27 [(0, x0), (1, x1), (11, x11)]) h K = brV x11 (kCode env 31 false inv k (cp c31 206) (act 27 [(0, x0), (1, x1), (11, x11)]) h K) (kCode env 31 false inv k (cp c31 207) (act 27 [(0, x0), (1, x1), (11, x11)]) h K) := kq_cond
theorem r31_4  : kCode env 31 false inv k (cp c31 412) (act 27 [(0, x0), (1, x1), (11, x11)]) h K =
    K .normal (act 27 [(4, (.int .u64 0)), (5, (.int .i64 2))]) h := kq_reg
theorem r31_5  : kCode env 31 false inv k (cp c31 14) (act 27 [(0, x0), (1, x1), (11, x11)]) h K =
    bnd (inv (.func 54) #[] #[x0, x1] h) fun x21 =>
    bnd (pExtract x21.1 0) fun x22 =>
    bnd (pExtract x21.1 1) fun x23 =>
    K .normal (act 27 [(6, x22), (7, x23)]) x21.2 := kq_reg
theorem r31_6  : kCode env 31 false inv k (cp c31 30) (act 27 [(6, x6), (7, x7)]) h K =
    bnd (inv (.func 55) #[] #[x6] h) fun x25 =>
    K .normal (act 27 [(4, x25.1), (5, x7)]) x25.2 := kq_reg
/-- (*shadowbook/octet.Reader).Number -/
noncomputable def F31 (inv : Inv) (k : Nat) (x0 x1 : Value) (h : AH) : Option (Value × AH) :=
    bnd (pBin Try.prog .eql 54 (.tmp 9) (.const (.pointer none)) x0 (.pointer none)) fun x10 =>
    brV x10
    (some (.tuple #[(.int .u64 0), (.int .i64 1)], h))
    (G31_3 inv x0 x1 h fun y11 h =>
    brV y11
    (some (.tuple #[(.int .u64 0), (.int .i64 2)], h))
    (bnd (inv (.func 54) #[] #[x0, x1] h) fun x21 =>
    bnd (pExtract x21.1 0) fun x22 =>
    bnd (pExtract x21.1 1) fun x23 =>
    bnd (inv (.func 55) #[] #[x22] x21.2) fun x25 =>
    some (.tuple #[x25.1, x23], x25.2)))
theorem F31_eq : eFun env k inv 31 #[x0, x1] h = F31 inv k x0 x1 h := by
      refine (kq_fun (a := act 27 [(0, x0), (1, x1)]) (c := cp c31 1)).trans ?_
      unfold F31
      simp only [kq_seq c31 1, r31_0, kq_seq c31 3, kq_block c31 6 0, kq_seq c31 12, r31_1, b31_rllr, kq_seq c31 50, r31_2, kq_ret c31 101, res31_0, kq_seq c31 51, r31_3, b31_rrrllr, kq_seq c31 206, r31_4, kq_ret c31 413, kq_skip c31 207, kq_seq c31 7, r31_5, kq_seq c31 15, r31_6, kq_ret c31 31, reduceIte, reduceCtorEq, XE.exit.injEq, Nat.reduceEqDiff, Nat.reduceMul, Nat.reduceAdd] <;> kernel_rfl
theorem F31_call : eInv env (k + 1) (.func 31) #[] #[x0, x1] h = F31 (eInv env k) k x0 x1 h := kq_inv F31_eq
noncomputable def c32 : Code := codeOf Try.prog 32
theorem r32_0  : kCode env 32 false inv k (cp c32 2) (act 48 [(0, x0), (1, x1)]) h K =
    K .normal (act 48 [(0, x0), (1, x1)]) h := kq_reg
theorem r32_1  : kCode env 32 false inv k (cp c32 12) (act 48 [(0, x0), (1, x1)]) h K =
    bnd (pBin Try.prog .lss 3 (.tmp 9) (.const (.int .i64 0)) x1 (.int .i64 0)) fun x10 =>
    K .normal (act 48 [(0, x0), (1, x1), (10, x10)]) h := kq_reg
theorem b32_rlr  : kCode env 32 false inv k (cp c32 13) (act 48 [(0, x0), (1, x1), (10, x10)]) h K = brV x10 (kCode env 32 false inv k (cp c32 26) (act 48 [(0, x0), (1, x1), (10, x10)]) h K) (kCode env 32 false inv k (cp c32 27) (act 48 [(0, x0), (1, x1), (10, x10)]) h K) := kq_cond
theorem r32_2  : kCode env 32 false inv k (cp c32 26) (act 48 [(0, x0), (1, x1), (10, x10)]) h K =
    bnd (pMakeIface Try.prog 9 (.string { data := #[99, 97, 110, 110, 111, 116, 32, 98, 101, 32, 110, 101, 103, 97, 116, 105, 118, 101] })) fun x11 =>
    bnd ((none : Option (Value × AH))) fun u =>
    K .normal (act 48 [(0, x0), (1, x1)]) u.2 := kq_reg
noncomputable def F32_rlr {β : Type} (inv : Inv) (k : Nat) (x0 x1 x10 : Value) (h : AH) (kn : (Value → Value → Value → AH → Option β)) : Option β :=
    brV x10
    (bnd (pMakeIface Try.prog 9 (.string { data := #[99, 97, 110, 110, 111, 116, 32, 98, 101, 32, 110, 101, 103, 97, 116, 105, 118, 101] })) fun x11 =>
    bnd ((none : Option (Value × AH))) fun u =>
    kn x0 x1 unk u.2)
    (kn x0 x1 x10 h)
theorem F32_rlr_eq  : kCode env 32 false inv k (cp c32 13) (act 48 [(0, x0), (1, x1), (10, x10)]) h K = F32_rlr inv k x0 x1 x10 h (fun y0 y1 y10 h => K .normal (act 48 [(0, y0), (1, y1), (10, y10)]) h) := by
      unfold F32_rlr
      simp only [b32_rlr, r32_2, kq_skip c32 27, reduceIte, reduceCtorEq, XE.exit.injEq, Nat.reduceEqDiff, Nat.reduceMul, Nat.reduceAdd] <;> kernel_rfl
theorem r32_3  : kCode env 32 false inv k (cp c32 14) (act 48 [(0, x0), (1, x1), (10, x10)]) h K =
    bnd (pLen Try.prog #[22] x0 h) fun x14 =>
    bnd (pConv Try.prog 3 68 x14 h) fun x15 =>
    bnd (pConv Try.prog 3 68 x1 h) fun x17 =>
    bnd (inv (.func 56) #[] #[x15, x17] h) fun x18 =>
    bnd (pExtract x18.1 0) fun x19 =>
    bnd (pExtract x18.1 1) fun x20 =>
    K .normal (act 48 [(0, x0), (5, x19), (6, x20)]) x18.2 := kq_reg
noncomputable abbrev G32_4 {β : Type} (inv : Inv) (x0 x5 x6 : Value) (h : AH) (K : Value → AH → Option β) : Option β :=
    bnd (pBin Try.prog .gtr 68 (.tmp 21) (.const (.int .u64 0)) x5 (.int .u64 0)) fun x22 =>
    bnd (gd (some x22) false h (some (x6, h))) fun x24 =>
    bnd (gd (some x22) false x24.2 (lt (pBin Try.prog .gtr 68 (.tmp 24) (.const (.int .u64 9223372036854775807)) x24.1 (.int .u64 9223372036854775807)) x24.2)) fun x25 =>
    bnd (pickV x22 (.bool true) x25.1) fun x26 =>
    K (x26) x25.2
theorem r32_4  : kCode env 32 false inv k (cp c32 60) (act 48 [(0, x0), (5, x5), (6, x6)]) h K =
    G32_4 inv x0 x5 x6 h fun y26 h => K .normal (act 48 [(0, x0), (6, x6), (26, y26)]) h := kq_reg
theorem b32_rlrrr  : kCode env 32 false inv k (cp c32 61) (act 48 [(0, x0), (6, x6), (26, x26)]) h K = brV x26 (kCode env 32 false inv k (cp c32 122) (act 48 [(0, x0), (6, x6), (26, x26)]) h K) (kCode env 32 false inv k (cp c32 123) (act 48 [(0, x0), (6, x6), (26, x26)]) h K) := kq_cond
theorem r32_5  : kCode env 32 false inv k (cp c32 122) (act 48 [(0, x0), (6, x6), (26, x26)]) h K =
    bnd (pMakeIface Try.prog 9 (.string { data := #[116, 104, 101, 32, 114, 101, 115, 117, 108, 116, 32, 111, 102, 32, 40, 108, 101, 110, 40, 120, 41, 32, 42, 32, 99, 111, 117, 110, 116, 41, 32, 111, 118, 101, 114, 102, 108, 111, 119, 115] })) fun x27 =>
    bnd ((none : Option (Value × AH))) fun u =>
    K .normal (act 48 [(0, x0), (6, x6)]) u.2 := kq_reg
noncomputable def F32_rlrrr {β : Type} (inv : Inv) (k : Nat) (x0 x6 x26 : Value) (h : AH) (kn : (Value → Value → Value → AH → Option β)) : Option β :=
    brV x26
    (bnd (pMakeIface Try.prog 9 (.string { data := #[116, 104, 101, 32, 114, 101, 115, 117, 108, 116, 32, 111, 102, 32, 40, 108, 101, 110, 40, 120, 41, 32, 42, 32, 99, 111, 117, 110, 116, 41, 32, 111, 118, 101, 114, 102, 108, 111, 119, 115] })) fun x27 =>
    bnd ((none : Option (Value × AH))) fun u =>
    kn x0 x6 unk u.2)
    (kn x0 x6 x26 h)
theorem F32_rlrrr_eq  : kCode env 32 false inv k (cp c32 61) (act 48 [(0, x0), (6, x6), (26, x26)]) h K = F32_rlrrr inv k x0 x6 x26 h (fun y0 y6 y26 h => K .normal (act 48 [(0, y0), (6, y6), (26, y26)]) h) := by
      unfold F32_rlrrr
      simp only [b32_rlrrr, r32_5, kq_skip c32 123, reduceIte, reduceCtorEq, XE.exit.injEq, Nat.reduceEqDiff, Nat.reduceMul, Nat.reduceAdd] <;> kernel_rfl
theorem r32_6  : kCode env 32 false inv k (cp c32 62) (act 48 [(0, x0), (6, x6), (26, x26)]) h K =
    bnd (pConv Try.prog 68 3 x6 h) fun x29 =>
    bnd (pMakeSlice Try.prog 22 x29 x29 h) fun x30 =>
    K .normal (act 48 [(0, x0), (7, x30.1)]) x30.2 := kq_reg
theorem r32_7  : kCode env 32 false inv k (cp c32 126) (act 48 [(0, x0), (7, x7)]) h K =
    bnd (pCopy Try.prog #[22, 22] x7 x0 h) fun x33 =>
    K .normal (act 48 [(7, x7), (8, x33.1)]) x33.2 := kq_reg
theorem r32_8  : kCode env 32 false inv k (cp c32 4064) (act 48 [(7, x7), (8, x8)]) h K =
    bnd (pLen Try.prog #[22] x7 h) fun x36 =>
    bnd (pBin Try.prog .lss 3 (.tmp 34) (.tmp 36) x8 x36) fun x37 =>
    K .normal (act 48 [(7, x7), (8, x8), (37, x37)]) h := kq_reg
theorem b32_rllllrrrrrr  : kCode env 32 false inv k (cp c32 4065) (act 48 [(7, x7), (8, x8), (37, x37)]) h K = brV x37 (kCode env 32 false inv k (cp c32 8130) (act 48 [(7, x7), (8, x8), (37, x37)]) h K) (kCode env 32 false inv k (cp c32 8131) (act 48 [(7, x7), (8, x8), (37, x37)]) h K) := kq_cond
theorem r32_9  : kCode env 32 false inv k (cp c32 4066) (act 48 [(7, x7), (8, x8), (37, x37)]) h K =
    bnd (pSlice Try.prog 22 x7 (some x8) none none h) fun x41 =>
    bnd (pSlice Try.prog 22 x7 none (some x8) none h) fun x44 =>
    bnd (pCopy Try.prog #[22, 22] x41 x44 h) fun x45 =>
    bnd (pBin Try.prog .add 3 (.tmp 38) (.tmp 45) x8 x45.1) fun x46 =>
    K .normal (act 48 [(7, x7), (8, x46)]) x45.2 := kq_draw
noncomputable def F32_llrrrrrr {β : Type} (inv : Inv) (k : Nat) : Nat → Value → Value → AH → (Value → Value → Value → AH → Option β) → Option β
  | 0, _, _, _, _ => none
  | j + 1, x7, x8, h, ke0 =>
    bnd (pLen Try.prog #[22] x7 h) fun x36 =>
    bnd (pBin Try.prog .lss 3 (.tmp 34) (.tmp 36) x8 x36) fun x37 =>
    brV x37
    (bnd (pSlice Try.prog 22 x7 (some x8) none none h) fun x41 =>
    bnd (pSlice Try.prog 22 x7 none (some x8) none h) fun x44 =>
    bnd (pCopy Try.prog #[22, 22] x41 x44 h) fun x45 =>
    bnd (pBin Try.prog .add 3 (.tmp 38) (.tmp 45) x8 x45.1) fun x46 =>
    F32_llrrrrrr inv k j x7 x46 x45.2 ke0)
    (ke0 x7 x8 x37 h)
theorem F32_llrrrrrr_j (j : Nat) : kLoop (kCode env 32 false inv k (cp c32 1016)) j (act 48 [(7, x7), (8, x8)]) h K = F32_llrrrrrr inv k j x7 x8 h (fun y7 y8 y37 h => K (.exit 0) (act 48 [(7, y7), (8, y8), (37, y37)]) h) := by
      induction j generalizing x7 x8 h with
      | zero => rfl
      | succ j ih =>
        unfold F32_llrrrrrr
        simp only [kLoop, kq_seq c32 1016, kq_seq c32 2032, r32_8, b32_rllllrrrrrr, kq_skip c32 8130, kq_block c32 2033 1, r32_9, kq_exit c32 8131 0, ih, reduceIte, reduceCtorEq, XE.exit.injEq, Nat.reduceEqDiff, Nat.reduceMul, Nat.reduceAdd] <;> kernel_rfl
theorem F32_llrrrrrr_eq  : kCode env 32 false inv k (cp c32 508) (act 48 [(7, x7), (8, x8)]) h K = F32_llrrrrrr inv k k x7 x8 h (fun y7 y8 y37 h => K (.exit 0) (act 48 [(7, y7), (8, y8), (37, y37)]) h) := kq_loop (F32_llrrrrrr_j k)
theorem r32_10  : kCode env 32 false inv k (cp c32 510) (act 48 [(7, x7), (8, x8), (37, x37)]) h K =
    K .normal (act 48 [(4, x7)]) h := kq_reg
theorem res32_0 : resOfFn env.P 32 .ret (act 48 [(4, x4)]) h = some (x4, h) := kq_res
/-- slices.Repeat[[]bool,bool] -/
noncomputable def F32 (inv : Inv) (k : Nat) (x0 x1 : Value) (h : AH) : Option (Value × AH) :=
    bnd (pBin Try.prog .lss 3 (.tmp 9) (.const (.int .i64 0)) x1 (.int .i64 0)) fun x10 =>
    F32_rlr inv k x0 x1 x10 h
    (fun y0 y1 y10 h =>
    bnd (pLen Try.prog #[22] y0 h) fun x14 =>
    bnd (pConv Try.prog 3 68 x14 h) fun x15 =>
    bnd (pConv Try.prog 3 68 y1 h) fun x17 =>
    bnd (inv (.func 56) #[] #[x15, x17] h) fun x18 =>
    bnd (pExtract x18.1 0) fun x19 =>
    bnd (pExtract x18.1 1) fun x20 =>
    G32_4 inv y0 x19 x20 x18.2 fun y26 h_1 =>
    F32_rlrrr inv k y0 x20 y26 h_1
    (fun y0_2 y6 y26_3 h_4 =>
    bnd (pConv Try.prog 68 3 y6 h_4) fun x29 =>
    bnd (pMakeSlice Try.prog 22 x29 x29 h_4) fun x30 =>
    bnd (pCopy Try.prog #[22, 22] x30.1 y0_2 x30.2) fun x33 =>
    F32_llrrrrrr inv k k x30.1 x33.1 x33.2
    (fun y7 y8 y37 h_5 =>
    some (y7, h_5))))
theorem F32_eq : eFun env k inv 32 #[x0, x1] h = F32 inv k x0 x1 h := by
      refine (kq_fun (a := act 48 [(0, x0), (1, x1)]) (c := cp c32 1)).trans ?_
      unfold F32
      simp only [kq_seq c32 1, r32_0, kq_seq c32 3, kq_seq c32 6, r32_1, F32_rlr_eq, kq_seq c32 7, r32_3, kq_seq c32 15, kq_seq c32 30, r32_4, F32_rlrrr_eq, kq_seq c32 31, r32_6, kq_seq c32 63, r32_7, kq_seq c32 127, kq_block c32 254 0, F32_llrrrrrr_eq, kq_seq c32 255, r32_10, kq_ret c32 511, res32_0, reduceIte, reduceCtorEq, XE.exit.injEq, Nat.reduceEqDiff, Nat.reduceMul, Nat.reduceAdd] <;> kernel_rfl
theorem F32_call : eInv env (k + 1) (.func 32) #[] #[x0, x1] h = F32 (eInv env k) k x0 x1 h := kq_inv F32_eq
noncomputable def c33 : Code := codeOf Try.prog 33
theorem r33_0  : kCode env 33 false inv k (cp c33 2) (act 23 [(0, x0), (1, x1)]) h K =
    K .normal (act 23 [(0, x0), (1, x1)]) h := kq_reg
theorem r33_1  : kCode env 33 false inv k (cp c33 24) (act 23 [(0, x0), (1, x1)]) h K =
    bnd (pBin Try.prog .eql 54 (.tmp 9) (.const (.pointer none)) x0 (.pointer none)) fun x10 =>
    K .normal (act 23 [(0, x0), (1, x1), (8, x10)]) h := kq_reg
theorem b33_rllr  : kCode env 33 false inv k (cp c33 25) (act 23 [(0, x0), (1, x1), (8, x8)]) h K = brV x8 (kCode env 33 false inv k (cp c33 50) (act 23 [(0, x0), (1, x1), (8, x8)]) h K) (kCode env 33 false inv k (cp c33 51) (act 23 [(0, x0), (1, x1), (8, x8)]) h K) := kq_cond
theorem r33_2  : kCode env 33 false inv k (cp c33 100) (act 23 [(0, x0), (1, x1), (8, x8)]) h K =
    K .normal (act 23 [(4, (.slice none 0 0)), (5, (.int .i64 1))]) h := kq_reg
theorem res33_0 : resOfFn env.P 33 .ret (act 23 [(4, x4), (5, x5)]) h = some (.tuple #[x4, x5], h) := kq_res
theorem r33_3  : kCode env 33 false inv k (cp c33 102) (act 23 [(0, x0), (1, x1), (8, x8)]) h K =
    bnd (pBin Try.prog .lss 3 (.tmp 12) (.const (.int .i64 0)) x1 (.int .i64 0)) fun x13 =>
    K .normal (act 23 [(0, x0), (1, x1), (11, x13)]) h := kq_reg
theorem b33_rrrllr  : kCode env 33 false inv k (cp c33 103) (act 23 [(0, x0), (1, x1), (11, x11)]) h K = brV x11 (kCode env 33 false inv k (cp c33 206) (act 23 [(0, x0), (1, x1), (11, x11)]) h K) (kCode env 33 false inv k (cp c33 207) (act 23 [(0, x0), (1, x1), (11, x11)]) h K) := kq_cond
theorem r33_4  : kCode env 33 false inv k (cp c33 412) (act 23 [(0, x0), (1, x1), (11, x11)]) h K =
    K .normal (act 23 [(4, (.slice none 0 0)), (5, (.int .i64 2))]) h := kq_reg
theorem r33_5  : kCode env 33 false inv k (cp c33 14) (act 23 [(0, x0), (1, x1), (11, x11)]) h K =
    bnd (inv (.func 54) #[] #[x0, x1] h) fun x17 =>
    bnd (pExtract x17.1 0) fun x18 =>
    bnd (pExtract x17.1 1) fun x19 =>
    K .normal (act 23 [(6, x18), (7, x19)]) x17.2 := kq_reg
theorem r33_6  : kCode env 33 false inv k (cp c33 30) (act 23 [(6, x6), (7, x7)]) h K =
    bnd (inv (.func 52) #[] #[x6] h) fun x21 =>
    K .normal (act 23 [(4, x21.1), (5, x7)]) x21.2 := kq_reg
/-- (*shadowbook/octet.Reader).Bytes -/
noncomputable def F33 (inv : Inv) (k : Nat) (x0 x1 : Value) (h : AH) : Option (Value × AH) :=
    bnd (pBin Try.prog .eql 54 (.tmp 9) (.const (.pointer none)) x0 (.pointer none)) fun x10 =>
    brV x10
    (some (.tuple #[(.slice none 0 0), (.int .i64 1)], h))
    (bnd (pBin Try.prog .lss 3 (.tmp 12) (.const (.int .i64 0)) x1 (.int .i64 0)) fun x13 =>
    brV x13
    (some (.tuple #[(.slice none 0 0), (.int .i64 2)], h))
    (bnd (inv (.func 54) #[] #[x0, x1] h) fun x17 =>
    bnd (pExtract x17.1 0) fun x18 =>
    bnd (pExtract x17.1 1) fun x19 =>
    bnd (inv (.func 52) #[] #[x18] x17.2) fun x21 =>
    some (.tuple #[x21.1, x19], x21.2)))
theorem F33_eq : eFun env k inv 33 #[x0, x1] h = F33 inv k x0 x1 h := by
      refine (kq_fun (a := act 23 [(0, x0), (1, x1)]) (c := cp c33 1)).trans ?_
      unfold F33
      simp only [kq_seq c33 1, r33_0, kq_seq c33 3, kq_block c33 6 0, kq_seq c33 12, r33_1, b33_rllr, kq_seq c33 50, r33_2, kq_ret c33 101, res33_0, kq_seq c33 51, r33_3, b33_rrrllr, kq_seq c33 206, r33_4, kq_ret c33 413, kq_skip c33 207, kq_seq c33 7, r33_5, kq_seq c33 15, r33_6, kq_ret c33 31, reduceIte, reduceCtorEq, XE.exit.injEq, Nat.reduceEqDiff, Nat.reduceMul, Nat.reduceAdd] <;> kernel_rfl
theorem F33_call : eInv env (k + 1) (.func 33) #[] #[x0, x1] h = F33 (eInv env k) k x0 x1 h := kq_inv F33_eq
noncomputable def c34 : Code := codeOf Try.prog 34
theorem r34_0  : kCode env 34 false inv k (cp c34 2) (act 15 [(0, x0), (1, x1)]) h K =
    K .normal (act 15 [(0, x0), (1, x1)]) h := kq_reg
theorem r34_1  : kCode env 34 false inv k (cp c34 12) (act 15 [(0, x0), (1, x1)]) h K =
    bnd (inv (.func 49) #[] #[x0, x1] h) fun x7 =>
    bnd (pUn Try.prog .not x7.1) fun x8 =>
    K .normal (act 15 [(0, x0), (1, x1), (8, x8)]) x7.2 := kq_reg
theorem b34_rlr  : kCode env 34 false inv k (cp c34 13) (act 15 [(0, x0), (1, x1), (8, x8)]) h K = brV x8 (kCode env 34 false inv k (cp c34 26) (act 15 [(0, x0), (1, x1), (8, x8)]) h K) (kCode env 34 false inv k (cp c34 27) (act 15 [(0, x0), (1, x1), (8, x8)]) h K) := kq_cond
theorem r34_2  : kCode env 34 false inv k (cp c34 52) (act 15 [(0, x0), (1, x1), (8, x8)]) h K =
    K .normal (act 15 [(4, (.int .i64 0))]) h := kq_reg
theorem res34_0 : resOfFn env.P 34 .ret (act 15 [(4, x4)]) h = some (x4, h) := kq_res
noncomputable abbrev G34_3 {β : Type} (inv : Inv) (x0 x1 : Value) (h : AH) (K : Value → AH → Option β) : Option β :=
    bnd (pBin Try.prog .mul 3 (.tmp 9) (.tmp 10) x0 x1) fun x11 =>
    bnd (pBin Try.prog .add 3 (.tmp 11) (.const (.int .i64 8)) x11 (.int .i64 8)) fun x12 =>
    bnd (pBin Try.prog .sub 3 (.tmp 12) (.const (.int .i64 1)) x12 (.int .i64 1)) fun x13 =>
    bnd (pBin Try.prog .quo 3 (.tmp 13) (.const (.int .i64 8)) x13 (.int .i64 8)) fun x14 =>
    K (x14) h
theorem r34_3  : kCode env 34 false inv k (cp c34 14) (act 15 [(0, x0), (1, x1), (8, x8)]) h K =
    G34_3 inv x0 x1 h fun y4 h => K .normal (act 15 [(4, y4)]) h := kq_reg
/-- shadowbook/packs.Size -/
noncomputable def F34 (inv : Inv) (k : Nat) (x0 x1 : Value) (h : AH) : Option (Value × AH) :=
    bnd (inv (.func 49) #[] #[x0, x1] h) fun x7 =>
    bnd (pUn Try.prog .not x7.1) fun x8 =>
    brV x8
    (some ((.int .i64 0), x7.2))
    (G34_3 inv x0 x1 x7.2 fun y4 h =>
    some (y4, h))
theorem F34_eq : eFun env k inv 34 #[x0, x1] h = F34 inv k x0 x1 h := by
      refine (kq_fun (a := act 15 [(0, x0), (1, x1)]) (c := cp c34 1)).trans ?_
      unfold F34
      simp only [kq_seq c34 1, r34_0, kq_seq c34 3, kq_seq c34 6, r34_1, b34_rlr, kq_seq c34 26, r34_2, kq_ret c34 53, res34_0, kq_skip c34 27, kq_seq c34 7, r34_3, kq_ret c34 15, reduceIte, reduceCtorEq, XE.exit.injEq, Nat.reduceEqDiff, Nat.reduceMul, Nat.reduceAdd] <;> kernel_rfl
theorem F34_call : eInv env (k + 1) (.func 34) #[] #[x0, x1] h = F34 (eInv env k) k x0 x1 h := kq_inv F34_eq
noncomputable def c35 : Code := codeOf Try.prog 35
theorem r35_0  : kCode env 35 false inv k (cp c35 2) (act 30 [(0, x0), (1, x1), (2, x2)]) h K =
    K .normal (act 30 [(0, x0), (1, x1), (2, x2), (6, (.slice none 0 0)), (7, (.int .i64 0))]) h := kq_reg
theorem r35_1  : kCode env 35 false inv k (cp c35 12) (act 30 [(0, x0), (1, x1), (2, x2), (6, x6), (7, x7)]) h K =
    bnd (inv (.func 57) #[] #[x0, x1, x2] h) fun x15 =>
    K .normal (act 30 [(0, x0), (1, x1), (2, x2), (6, x6), (7, x7), (8, x15.1)]) x15.2 := kq_reg
theorem r35_2  : kCode env 35 false inv k (cp c35 26) (act 30 [(0, x0), (1, x1), (2, x2), (6, x6), (7, x7), (8, x8)]) h K =
    bnd (pBin Try.prog .neq 33 (.tmp 16) (.const (.int .i64 0)) x8 (.int .i64 0)) fun x17 =>
    K .normal (act 30 [(0, x0), (1, x1), (2, x2), (6, x6), (7, x7), (8, x8), (17, x17)]) h := kq_reg
theorem b35_rrlr  : kCode env 35 false inv k (cp c35 27) (act 30 [(0, x0), (1, x1), (2, x2), (6, x6), (7, x7), (8, x8), (17, x17)]) h K = brV x17 (kCode env 35 false inv k (cp c35 54) (act 30 [(0, x0), (1, x1), (2, x2), (6, x6), (7, x7), (8, x8), (17, x17)]) h K) (kCode env 35 false inv k (cp c35 55) (act 30 [(0, x0), (1, x1), (2, x2), (6, x6), (7, x7), (8, x8), (17, x17)]) h K) := kq_cond
theorem r35_3  : kCode env 35 false inv k (cp c35 108) (act 30 [(0, x0), (1, x1), (2, x2), (6, x6), (7, x7), (8, x8), (17, x17)]) h K =
    K .normal (act 30 [(6, (.slice none 0 0)), (7, x8)]) h := kq_reg
theorem res35_0 : resOfFn env.P 35 .ret (act 30 [(6, x6), (7, x7)]) h = some (.tuple #[x6, x7], h) := kq_res
theorem r35_4  : kCode env 35 false inv k (cp c35 14) (act 30 [(0, x0), (1, x1), (2, x2), (6, x6), (7, x7), (8, x8), (17, x17)]) h K =
    bnd (pAlloc Try.prog 52 h) fun x9 =>
    K .normal (act 30 [(0, x0), (1, x1), (2, x2), (6, x6), (7, x7), (9, x9.1)]) x9.2 := kq_reg
theorem r35_5  : kCode env 35 false inv k (cp c35 60) (act 30 [(0, x0), (1, x1), (2, x2), (6, x6), (7, x7), (9, x9)]) h K =
    bnd (inv (.func 58) #[] #[x0, x1, x2] h) fun x22 =>
    K .normal (act 30 [(6, x6), (7, x7), (9, x9), (22, x22.1)]) x22.2 := kq_reg
theorem g35_lrlrrr  : kCode env 35 false inv k (cp c35 122) (act 30 [(6, x6), (7, x7), (9, x9), (22, x22)]) h K = kRange env 35 inv x22 (psOf (cp c35 122)) (cp c35 244) (cp c35 245) (act 30 [(6, x6), (7, x7), (9, x9), (22, x22)]) h fun e h => sw e (K .normal (act 30 [(6, x6), (7, x7), (9, x9), (22, x22)]) h) (none) [] := kq_range (g := x22) (ids := [])
noncomputable def F35_rlrrr {β : Type} (inv : Inv) (k : Nat) (x6 x7 x9 x22 : Value) (h : AH) (kn : (Value → Value → Value → Value → AH → Option β)) : Option β :=
    kRange env 35 inv x22 (psOf (cp c35 122)) (cp c35 244) (cp c35 245) (act 30 [(6, x6), (7, x7), (9, x9), (22, x22)]) h fun e h => sw e
    (kn x6 x7 x9 x22 h)
    none []
theorem F35_rlrrr_eq  : kCode env 35 false inv k (cp c35 61) (act 30 [(6, x6), (7, x7), (9, x9), (22, x22)]) h K = F35_rlrrr inv k x6 x7 x9 x22 h (fun y6 y7 y9 y22 h => K .normal (act 30 [(6, y6), (7, y7), (9, y9), (22, y22)]) h) := by
      unfold F35_rlrrr
      simp only [kq_block c35 61 0, g35_lrlrrr, reduceIte, reduceCtorEq, XE.exit.injEq, Nat.reduceEqDiff, Nat.reduceMul, Nat.reduceAdd] <;> kernel_rfl
theorem r35_8  : kCode env 35 false inv k (cp c35 62) (act 30 [(6, x6), (7, x7), (9, x9), (22, x22)]) h K =
    bnd (pLoad Try.prog 52 x9 h) fun x29 =>
    K .normal (act 30 [(6, x29), (7, (.int .i64 0))]) h := kq_reg
/-- shadowbook/packs.Get -/
noncomputable def F35 (inv : Inv) (k : Nat) (x0 x1 x2 : Value) (h : AH) : Option (Value × AH) :=
    bnd (inv (.func 57) #[] #[x0, x1, x2] h) fun x15 =>
    bnd (pBin Try.prog .neq 33 (.tmp 16) (.const (.int .i64 0)) x15.1 (.int .i64 0)) fun x17 =>
    brV x17
    (some (.tuple #[(.slice none 0 0), x15.1], x15.2))
    (bnd (pAlloc Try.prog 52 x15.2) fun x9 =>
    bnd (inv (.func 58) #[] #[x0, x1, x2] x9.2) fun x22 =>
    F35_rlrrr inv k (.slice none 0 0) (.int .i64 0) x9.1 x22.1 x22.2
    (fun y6 y7 y9 y22 h =>
    bnd (pLoad Try.prog 52 y9 h) fun x29 =>
    some (.tuple #[x29, (.int .i64 0)], h)))
theorem F35_eq : eFun env k inv 35 #[x0, x1, x2] h = F35 inv k x0 x1 x2 h := by
      refine (kq_fun (a := act 30 [(0, x0), (1, x1), (2, x2)]) (c := cp c35 1)).trans ?_
      unfold F35
      simp only [kq_seq c35 1, r35_0, kq_seq c35 3, kq_seq c35 6, r35_1, kq_seq c35 13, r35_2, b35_rrlr, kq_seq c35 54, r35_3, kq_ret c35 109, res35_0, kq_skip c35 55, kq_seq c35 7, r35_4, kq_seq c35 15, kq_seq c35 30, r35_5, F35_rlrrr_eq, kq_seq c35 31, r35_8, kq_ret c35 63, reduceIte, reduceCtorEq, XE.exit.injEq, Nat.reduceEqDiff, Nat.reduceMul, Nat.reduceAdd] <;> kernel_rfl
theorem F35_call : eInv env (k + 1) (.func 35) #[] #[x0, x1, x2] h = F35 (eInv env k) k x0 x1 x2 h := kq_inv F35_eq
theorem r35_6  : kCode env 35 true inv k (cp c35 244) (act 30 [(6, x6), (7, x7), (9, x9), (22, x22), (23, x23), (24, x24)]) h K =
    K .normal (act 30 [(9, x9), (11, x24)]) h := kq_reg
theorem r35_7  : kCode env 35 true inv k (cp c35 490) (act 30 [(9, x9), (11, x11)]) h K =
    bnd (pLoad Try.prog 52 x9 h) fun x25 =>
    bnd (pBuildSlice Try.prog 52 1 #[(0, x11)] h) fun x27 =>
    bnd (pAppend Try.prog #[52, 52] x25 x27.1 x27.2) fun x28 =>
    bnd (kSt (pStore Try.prog 52 x9 x28.1 x28.2)) fun u =>
    K .normal (act 30 []) u.2 := kq_reg
noncomputable def R35_lrlrrr (inv : Inv) (k l : Nat) (x6 x7 x9 x22 z0 z1 : Value) (h : AH) : Option (Value × AH) :=
    rdBegin l h fun h =>
    bnd (pLoad Try.prog 52 x9 h) fun x25 =>
    bnd (pBuildSlice Try.prog 52 1 #[(0, z1)] h) fun x27 =>
    bnd (pAppend Try.prog #[52, 52] x25 x27.1 x27.2) fun x28 =>
    bnd (kSt (pStore Try.prog 52 x9 x28.1 x28.2)) fun u =>
    rdEnd l .normal u.2
theorem R35_lrlrrr_eq {l : Nat} {pd : Option Code} (hl : h.get l = some (.loop .ready pd 35 (act 30 [(6, x6), (7, x7), (9, x9), (22, x22)]).tmps (psOf (cp c35 122)) (cp c35 244) (cp c35 245))) : eRound env k inv l #[z0, z1] h = R35_lrlrrr inv k l x6 x7 x9 x22 z0 z1 h := by
      refine (eRound_k (a := act 30 [(6, x6), (7, x7), (9, x9), (22, x22), (23, z0), (24, z1)]) hl (by kernel_rfl) (by kernel_rfl)).trans ?_
      unfold R35_lrlrrr
      simp only [r35_6, kq_block c35 245 1, r35_7, reduceIte, reduceCtorEq, XE.exit.injEq, Nat.reduceEqDiff, Nat.reduceMul, Nat.reduceAdd] <;> kernel_rfl
noncomputable def c36 : Code := codeOf Try.prog 36
theorem r36_0  : kCode env 36 false inv k (cp c36 2) (act 10 [(0, x0)]) h K =
    K .normal (act 10 [(0, x0)]) h := kq_reg
theorem r36_1  : kCode env 36 false inv k (cp c36 12) (act 10 [(0, x0)]) h K =
    bnd (pBin Try.prog .eql 54 (.tmp 3) (.const (.pointer none)) x0 (.pointer none)) fun x4 =>
    K .normal (act 10 [(0, x0), (4, x4)]) h := kq_reg
theorem b36_rlr  : kCode env 36 false inv k (cp c36 13) (act 10 [(0, x0), (4, x4)]) h K = brV x4 (kCode env 36 false inv k (cp c36 26) (act 10 [(0, x0), (4, x4)]) h K) (kCode env 36 false inv k (cp c36 27) (act 10 [(0, x0), (4, x4)]) h K) := kq_cond
theorem r36_2  : kCode env 36 false inv k (cp c36 52) (act 10 [(0, x0), (4, x4)]) h K =
    K .normal (act 10 [(2, (.int .i64 0))]) h := kq_reg
theorem res36_0 : resOfFn env.P 36 .ret (act 10 [(2, x2)]) h = some (x2, h) := kq_res
theorem r36_3  : kCode env 36 false inv k (cp c36 14) (act 10 [(0, x0), (4, x4)]) h K =
    bnd (pNilCheck x0) fun x6 =>
    bnd (pFieldAddr Try.prog 73 x6 0) fun x7 =>
    bnd (pLoad Try.prog 32 x7 h) fun x8 =>
    bnd (pLen Try.prog #[32] x8 h) fun x9 =>
    K .normal (act 10 [(2, x9)]) h := kq_reg
/-- (*shadowbook/octet.Reader).Left -/
noncomputable def F36 (inv : Inv) (k : Nat) (x0 : Value) (h : AH) : Option (Value × AH) :=
    bnd (pBin Try.prog .eql 54 (.tmp 3) (.const (.pointer none)) x0 (.pointer none)) fun x4 =>
    brV x4
    (some ((.int .i64 0), h))
    (bnd (pNilCheck x0) fun x6 =>
    bnd (pFieldAddr Try.prog 73 x6 0) fun x7 =>
    bnd (pLoad Try.prog 32 x7 h) fun x8 =>
    bnd (pLen Try.prog #[32] x8 h) fun x9 =>
    some (x9, h))
theorem F36_eq : eFun env k inv 36 #[x0] h = F36 inv k x0 h := by
      refine (kq_fun (a := act 10 [(0, x0)]) (c := cp c36 1)).trans ?_
      unfold F36
      simp only [kq_seq c36 1, r36_0, kq_seq c36 3, kq_seq c36 6, r36_1, b36_rlr, kq_seq c36 26, r36_2, kq_ret c36 53, res36_0, kq_skip c36 27, kq_seq c36 7, r36_3, kq_ret c36 15, reduceIte, reduceCtorEq, XE.exit.injEq, Nat.reduceEqDiff, Nat.reduceMul, Nat.reduceAdd] <;> kernel_rfl
theorem F36_call : eInv env (k + 1) (.func 36) #[] #[x0] h = F36 (eInv env k) k x0 h := kq_inv F36_eq
noncomputable def c37 : Code := codeOf Try.prog 37
theorem r37_0  : kCode env 37 false inv k (cp c37 2) (act 10 [(0, x0), (1, x1)]) h K =
    K .normal (act 10 [(0, x0), (1, x1)]) h := kq_reg
theorem r37_1  : kCode env 37 false inv k (cp c37 6) (act 10 [(0, x0), (1, x1)]) h K =
    bnd (pConv Try.prog 32 9 x0 h) fun x6 =>
    bnd (pConv Try.prog 32 9 x1 h) fun x8 =>
    bnd (pBin Try.prog .eql 9 (.tmp 6) (.tmp 8) x6 x8) fun x9 =>
    K .normal (act 10 [(4, x9)]) h := kq_reg
theorem res37_0 : resOfFn env.P 37 .ret (act 10 [(4, x4)]) h = some (x4, h) := kq_res
/-- bytes.Equal -/
noncomputable def F37 (inv : Inv) (k : Nat) (x0 x1 : Value) (h : AH) : Option (Value × AH) :=
    bnd (pConv Try.prog 32 9 x0 h) fun x6 =>
    bnd (pConv Try.prog 32 9 x1 h) fun x8 =>
    bnd (pBin Try.prog .eql 9 (.tmp 6) (.tmp 8) x6 x8) fun x9 =>
    some (x9, h)
theorem F37_eq : eFun env k inv 37 #[x0, x1] h = F37 inv k x0 x1 h := by
      refine (kq_fun (a := act 10 [(0, x0), (1, x1)]) (c := cp c37 1)).trans ?_
      unfold F37
      simp only [kq_seq c37 1, r37_0, kq_seq c37 3, r37_1, kq_ret c37 7, res37_0, reduceIte, reduceCtorEq, XE.exit.injEq, Nat.reduceEqDiff, Nat.reduceMul, Nat.reduceAdd] <;> kernel_rfl
theorem F37_call : eInv env (k + 1) (.func 37) #[] #[x0, x1] h = F37 (eInv env k) k x0 x1 h := kq_inv F37_eq
noncomputable def c49 : Code := codeOf Try.prog 49
theorem r49_0  : kCode env 49 false inv k (cp c49 2) (act 19 [(0, x0), (1, x1)]) h K =
    K .normal (act 19 [(0, x0), (1, x1)]) h := kq_reg
noncomputable abbrev G49_1 {β : Type} (inv : Inv) (x0 x1 : Value) (h : AH) (K : Value → AH → Option β) : Option β :=
    bnd (pBin Try.prog .geq 3 (.tmp 5) (.const (.int .i64 0)) x0 (.int .i64 0)) fun x6 =>
    bnd (gd (some x6) true h (some (x0, h))) fun x8 =>
    bnd (gd (some x6) true x8.2 (lt (pBin Try.prog .leq 3 (.tmp 8) (.const (.int .i64 65536)) x8.1 (.int .i64 65536)) x8.2)) fun x9 =>
    bnd (pickV x6 x9.1 (.bool false)) fun x10 =>
    bnd (gd (some x10) true x9.2 (some (x1, x9.2))) fun x12 =>
    bnd (gd (some x10) true x12.2 (lt (pBin Try.prog .geq 3 (.tmp 12) (.const (.int .i64 0)) x12.1 (.int .i64 0)) x12.2)) fun x13 =>
    bnd (pickV x10 x13.1 (.bool false)) fun x14 =>
    bnd (gd (some x14) true x13.2 (some (x1, x13.2))) fun x16 =>
    bnd (gd (some x14) true x16.2 (lt (pBin Try.prog .leq 3 (.tmp 16) (.const (.int .i64 64)) x16.1 (.int .i64 64)) x16.2)) fun x17 =>
    bnd (pickV x14 x17.1 (.bool false)) fun x18 =>
    K (x18) x17.2
theorem r49_1  : kCode env 49 false inv k (cp c49 6) (act 19 [(0, x0), (1, x1)]) h K =
    G49_1 inv x0 x1 h fun y4 h => K .normal (act 19 [(4, y4)]) h := kq_reg
theorem res49_0 : resOfFn env.P 49 .ret (act 19 [(4, x4)]) h = some (x4, h) := kq_res
/-- shadowbook/packs.may -/
noncomputable def F49 (inv : Inv) (k : Nat) (x0 x1 : Value) (h : AH) : Option (Value × AH) :=
    G49_1 inv x0 x1 h fun y4 h =>
    some (y4, h)
theorem F49_eq : eFun env k inv 49 #[x0, x1] h = F49 inv k x0 x1 h := by
      refine (kq_fun (a := act 19 [(0, x0), (1, x1)]) (c := cp c49 1)).trans ?_
      unfold F49
      simp only [kq_seq c49 1, r49_0, kq_seq c49 3, r49_1, kq_ret c49 7, res49_0, reduceIte, reduceCtorEq, XE.exit.injEq, Nat.reduceEqDiff, Nat.reduceMul, Nat.reduceAdd] <;> kernel_rfl
theorem F49_call : eInv env (k + 1) (.func 49) #[] #[x0, x1] h = F49 (eInv env k) k x0 x1 h := kq_inv F49_eq
noncomputable def c50 : Code := codeOf Try.prog 50
theorem r50_0  : kCode env 50 false inv k (cp c50 2) (act 18 [(0, x0)]) h K =
    K .normal (act 18 [(0, x0)]) h := kq_reg
theorem r50_1  : kCode env 50 false inv k (cp c50 6) (act 18 [(0, x0)]) h K =
    K .normal (act 18 [(0, x0), (3, (.int .u64 0))]) h := kq_reg
theorem r50_2  : kCode env 50 false inv k (cp c50 28) (act 18 [(0, x0), (3, x3)]) h K =
    bnd (pLen Try.prog #[52] x0 h) fun x7 =>
    K .normal (act 18 [(3, x3), (6, x0), (7, x7), (8, (.int .i64 0))]) h := kq_reg
theorem r50_3  : kCode env 50 false inv k (cp c50 232) (act 18 [(3, x3), (6, x6), (7, x7), (8, x8)]) h K =
    bnd (pBin Try.prog .lss 3 (.tmp 8) (.tmp 7) x8 x7) fun x9 =>
    K .normal (act 18 [(3, x3), (6, x6), (7, x7), (8, x8), (9, x9)]) h := kq_reg
theorem b50_lrllrlrr  : kCode env 50 false inv k (cp c50 466) (act 18 [(3, x3), (6, x6), (7, x7), (8, x8), (9, x9)]) h K = brV x9 (kCode env 50 false inv k (cp c50 932) (act 18 [(3, x3), (6, x6), (7, x7), (8, x8), (9, x9)]) h K) (kCode env 50 false inv k (cp c50 933) (act 18 [(3, x3), (6, x6), (7, x7), (8, x8), (9, x9)]) h K) := kq_cond
theorem r50_4  : kCode env 50 false inv k (cp c50 3736) (act 18 [(3, x3), (6, x6), (7, x7), (8, x8), (9, x9)]) h K =
    bnd (pIndexAddr Try.prog 52 x6 x8) fun x10 =>
    bnd (pLoad Try.prog 49 x10 h) fun x11 =>
    K .normal (act 18 [(3, x3), (5, x11), (6, x6), (7, x7), (8, x8)]) h := kq_reg
theorem r50_5  : kCode env 50 false inv k (cp c50 3737) (act 18 [(3, x3), (5, x5), (6, x6), (7, x7), (8, x8)]) h K =
    bnd (pBin Try.prog .or 49 (.tmp 12) (.tmp 13) x3 x5) fun x14 =>
    K .normal (act 18 [(3, x14), (6, x6), (7, x7), (8, x8)]) h := kq_reg
theorem r50_6  : kCode env 50 false inv k (cp c50 935) (act 18 [(3, x3), (6, x6), (7, x7), (8, x8)]) h K =
    bnd (pBin Try.prog .add 3 (.tmp 8) (.const (.int .i64 1)) x8 (.int .i64 1)) fun x15 =>
    K .normal (act 18 [(3, x3), (6, x6), (7, x7), (8, x15)]) h := kq_reg
noncomputable def F50_lrlrr {β : Type} (inv : Inv) (k : Nat) : Nat → Value → Value → Value → Value → AH → (Value → Value → Value → Value → Value → AH → Option β) → Option β
  | 0, _, _, _, _, _, _ => none
  | j + 1, x3, x6, x7, x8, h, ke0 =>
    bnd (pBin Try.prog .lss 3 (.tmp 8) (.tmp 7) x8 x7) fun x9 =>
    brV x9
    (bnd (pIndexAddr Try.prog 52 x6 x8) fun x10 =>
    bnd (pLoad Try.prog 49 x10 h) fun x11 =>
    bnd (pBin Try.prog .or 49 (.tmp 12) (.tmp 13) x3 x11) fun x14 =>
    bnd (pBin Try.prog .add 3 (.tmp 8) (.const (.int .i64 1)) x8 (.int .i64 1)) fun x15 =>
    F50_lrlrr inv k j x14 x6 x7 x15 h ke0)
    (ke0 x3 x6 x7 x8 x9 h)
theorem F50_lrlrr_j (j : Nat) : kLoop (kCode env 50 false inv k (cp c50 116)) j (act 18 [(3, x3), (6, x6), (7, x7), (8, x8)]) h K = F50_lrlrr inv k j x3 x6 x7 x8 h (fun y3 y6 y7 y8 y9 h => K (.exit 0) (act 18 [(3, y3), (6, y6), (7, y7), (8, y8), (9, y9)]) h) := by
      induction j generalizing x3 x6 x7 x8 h with
      | zero => rfl
      | succ j ih =>
        unfold F50_lrlrr
        simp only [kLoop, kq_seq c50 116, r50_3, kq_seq c50 233, b50_lrllrlrr, kq_skip c50 932, kq_seq c50 467, kq_block c50 934 1, kq_seq c50 1868, r50_4, r50_5, r50_6, kq_exit c50 933 0, ih, reduceIte, reduceCtorEq, XE.exit.injEq, Nat.reduceEqDiff, Nat.reduceMul, Nat.reduceAdd] <;> kernel_rfl
theorem F50_lrlrr_eq  : kCode env 50 false inv k (cp c50 58) (act 18 [(3, x3), (6, x6), (7, x7), (8, x8)]) h K = F50_lrlrr inv k k x3 x6 x7 x8 h (fun y3 y6 y7 y8 y9 h => K (.exit 0) (act 18 [(3, y3), (6, y6), (7, y7), (8, y8), (9, y9)]) h) := kq_loop (F50_lrlrr_j k)
theorem r50_7  : kCode env 50 false inv k (cp c50 30) (act 18 [(3, x3), (6, x6), (7, x7), (8, x8), (9, x9)]) h K =
    bnd (inv (.func 62) #[] #[x3] h) fun x17 =>
    K .normal (act 18 [(2, x17.1)]) x17.2 := kq_reg
theorem res50_0 : resOfFn env.P 50 .ret (act 18 [(2, x2)]) h = some (x2, h) := kq_res
/-- shadowbook/packs.Width -/
noncomputable def F50 (inv : Inv) (k : Nat) (x0 : Value) (h : AH) : Option (Value × AH) :=
    bnd (pLen Try.prog #[52] x0 h) fun x7 =>
    F50_lrlrr inv k k (.int .u64 0) x0 x7 (.int .i64 0) h
    (fun y3 y6 y7 y8 y9 h =>
    bnd (inv (.func 62) #[] #[y3] h) fun x17 =>
    some (x17.1, x17.2))
theorem F50_eq : eFun env k inv 50 #[x0] h = F50 inv k x0 h := by
      refine (kq_fun (a := act 18 [(0, x0)]) (c := cp c50 1)).trans ?_
      unfold F50
      simp only [kq_seq c50 1, r50_0, kq_seq c50 3, r50_1, kq_seq c50 7, kq_seq c50 14, r50_2, kq_block c50 29 0, F50_lrlrr_eq, kq_seq c50 15, r50_7, kq_ret c50 31, res50_0, reduceIte, reduceCtorEq, XE.exit.injEq, Nat.reduceEqDiff, Nat.reduceMul, Nat.reduceAdd] <;> kernel_rfl
theorem F50_call : eInv env (k + 1) (.func 50) #[] #[x0] h = F50 (eInv env k) k x0 h := kq_inv F50_eq
noncomputable def c51 : Code := codeOf Try.prog 51
theorem r51_0  : kCode env 51 false inv k (cp c51 2) (act 18 [(0, x0), (1, x1), (2, x2), (3, x3)]) h K =
    bnd (pLoad Try.prog 5 x1 h) fun x5 =>
    bnd (pLoad Try.prog 3 x2 h) fun x7 =>
    bnd (pBin Try.prog .shl 5 (.tmp 6) (.tmp 7) x0 x7) fun x8 =>
    bnd (pBin Try.prog .or 5 (.tmp 5) (.tmp 8) x5 x8) fun x9 =>
    bnd (kSt (pStore Try.prog 5 x1 x9 h)) fun u =>
    K .normal (act 18 [(1, x1), (2, x2), (3, x3)]) u.2 := kq_draw
theorem r51_1  : kCode env 51 false inv k (cp c51 6) (act 18 [(1, x1), (2, x2), (3, x3)]) h K =
    bnd (pLoad Try.prog 3 x2 h) fun x10 =>
    bnd (pBin Try.prog .add 3 (.tmp 10) (.const (.int .i64 1)) x10 (.int .i64 1)) fun x11 =>
    bnd (kSt (pStore Try.prog 3 x2 x11 h)) fun u =>
    K .normal (act 18 [(1, x1), (2, x2), (3, x3)]) u.2 := kq_reg
theorem r51_2  : kCode env 51 false inv k (cp c51 14) (act 18 [(1, x1), (2, x2), (3, x3)]) h K =
    bnd (pLoad Try.prog 3 x2 h) fun x12 =>
    bnd (pBin Try.prog .eql 3 (.tmp 12) (.const (.int .i64 8)) x12 (.int .i64 8)) fun x13 =>
    K .normal (act 18 [(1, x1), (2, x2), (3, x3), (13, x13)]) h := kq_reg
theorem b51_rrr  : kCode env 51 false inv k (cp c51 15) (act 18 [(1, x1), (2, x2), (3, x3), (13, x13)]) h K = brV x13 (kCode env 51 false inv k (cp c51 30) (act 18 [(1, x1), (2, x2), (3, x3), (13, x13)]) h K) (kCode env 51 false inv k (cp c51 31) (act 18 [(1, x1), (2, x2), (3, x3), (13, x13)]) h K) := kq_cond
theorem r51_3  : kCode env 51 false inv k (cp c51 60) (act 18 [(1, x1), (2, x2), (3, x3), (13, x13)]) h K =
    bnd (pLoad Try.prog 32 x3 h) fun x14 =>
    bnd (pLoad Try.prog 5 x1 h) fun x15 =>
    bnd (pBuildSlice Try.prog 32 1 #[(0, x15)] h) fun x16 =>
    bnd (pAppend Try.prog #[32, 32] x14 x16.1 x16.2) fun x17 =>
    bnd (kSt (pStore Try.prog 32 x3 x17.1 x17.2)) fun u =>
    K .normal (act 18 [(1, x1), (2, x2)]) u.2 := kq_reg
theorem r51_4  : kCode env 51 false inv k (cp c51 61) (act 18 [(1, x1), (2, x2)]) h K =
    bnd (kSt (pStore Try.prog 5 x1 (.int .u8 0) h)) fun u =>
    bnd (kSt (pStore Try.prog 3 x2 (.int .i64 0) u.2)) fun u_3 =>
    K .normal (act 18 []) u_3.2 := kq_reg
theorem res51_0 : resOfFn env.P 51 .normal (act 18 []) h = some (.tuple #[], h) := kq_res
theorem res51_1 : resOfFn env.P 51 .normal (act 18 [(1, x1), (2, x2), (3, x3), (13, x13)]) h = some (.tuple #[], h) := kq_res
/-- shadowbook/packs.Put$1 -/
noncomputable def F51 (inv : Inv) (k : Nat) (x0 x1 x2 x3 : Value) (h : AH) : Option (Value × AH) :=
    bnd (pLoad Try.prog 5 x1 h) fun x5 =>
    bnd (pLoad Try.prog 3 x2 h) fun x7 =>
    bnd (pBin Try.prog .shl 5 (.tmp 6) (.tmp 7) x0 x7) fun x8 =>
    bnd (pBin Try.prog .or 5 (.tmp 5) (.tmp 8) x5 x8) fun x9 =>
    bnd (kSt (pStore Try.prog 5 x1 x9 h)) fun u =>
    bnd (pLoad Try.prog 3 x2 u.2) fun x10 =>
    bnd (pBin Try.prog .add 3 (.tmp 10) (.const (.int .i64 1)) x10 (.int .i64 1)) fun x11 =>
    bnd (kSt (pStore Try.prog 3 x2 x11 u.2)) fun u_1 =>
    bnd (pLoad Try.prog 3 x2 u_1.2) fun x12 =>
    bnd (pBin Try.prog .eql 3 (.tmp 12) (.const (.int .i64 8)) x12 (.int .i64 8)) fun x13 =>
    brV x13
    (bnd (pLoad Try.prog 32 x3 u_1.2) fun x14 =>
    bnd (pLoad Try.prog 5 x1 u_1.2) fun x15 =>
    bnd (pBuildSlice Try.prog 32 1 #[(0, x15)] u_1.2) fun x16 =>
    bnd (pAppend Try.prog #[32, 32] x14 x16.1 x16.2) fun x17 =>
    bnd (kSt (pStore Try.prog 32 x3 x17.1 x17.2)) fun u_2 =>
    bnd (kSt (pStore Try.prog 5 x1 (.int .u8 0) u_2.2)) fun u_4 =>
    bnd (kSt (pStore Try.prog 3 x2 (.int .i64 0) u_4.2)) fun u_5 =>
    some (.tuple #[], u_5.2))
    (some (.tuple #[], u_1.2))
theorem F51_eq : eFun env k inv 51 #[x0, x1, x2, x3] h = F51 inv k x0 x1 x2 x3 h := by
      refine (kq_fun (a := act 18 [(0, x0), (1, x1), (2, x2), (3, x3)]) (c := cp c51 1)).trans ?_
      unfold F51
      simp only [kq_seq c51 1, r51_0, kq_seq c51 3, r51_1, kq_seq c51 7, r51_2, b51_rrr, kq_seq c51 30, r51_3, r51_4, res51_0, kq_skip c51 31, res51_1, reduceIte, reduceCtorEq, XE.exit.injEq, Nat.reduceEqDiff, Nat.reduceMul, Nat.reduceAdd] <;> kernel_rfl
theorem F51_call : eInv env (k + 1) (.func 51) #[] #[x0, x1, x2, x3] h = F51 (eInv env k) k x0 x1 x2 x3 h := kq_inv F51_eq
noncomputable def c52 : Code := codeOf Try.prog 52
theorem r52_0  : kCode env 52 false inv k (cp c52 2) (act 8 [(0, x0)]) h K =
    K .normal (act 8 [(0, x0)]) h := kq_reg
theorem r52_1  : kCode env 52 false inv k (cp c52 12) (act 8 [(0, x0)]) h K =
    bnd (pBin Try.prog .eql 32 (.tmp 3) (.const (.slice none 0 0)) x0 (.slice none 0 0)) fun x4 =>
    K .normal (act 8 [(0, x0), (4, x4)]) h := kq_reg
theorem b52_rlr  : kCode env 52 false inv k (cp c52 13) (act 8 [(0, x0), (4, x4)]) h K = brV x4 (kCode env 52 false inv k (cp c52 26) (act 8 [(0, x0), (4, x4)]) h K) (kCode env 52 false inv k (cp c52 27) (act 8 [(0, x0), (4, x4)]) h K) := kq_cond
theorem r52_2  : kCode env 52 false inv k (cp c52 52) (act 8 [(0, x0), (4, x4)]) h K =
    K .normal (act 8 [(2, (.slice none 0 0))]) h := kq_reg
theorem res52_0 : resOfFn env.P 52 .ret (act 8 [(2, x2)]) h = some (x2, h) := kq_res
theorem r52_3  : kCode env 52 false inv k (cp c52 14) (act 8 [(0, x0), (4, x4)]) h K =
    bnd (pBuildSlice Try.prog 32 0 #[] h) fun x5 =>
    bnd (pAppend Try.prog #[32, 32] x5.1 x0 x5.2) fun x7 =>
    K .normal (act 8 [(2, x7.1)]) x7.2 := kq_reg
/-- slices.Clone[[]byte,byte] -/
noncomputable def F52 (inv : Inv) (k : Nat) (x0 : Value) (h : AH) : Option (Value × AH) :=
    bnd (pBin Try.prog .eql 32 (.tmp 3) (.const (.slice none 0 0)) x0 (.slice none 0 0)) fun x4 =>
    brV x4
    (some ((.slice none 0 0), h))
    (bnd (pBuildSlice Try.prog 32 0 #[] h) fun x5 =>
    bnd (pAppend Try.prog #[32, 32] x5.1 x0 x5.2) fun x7 =>
    some (x7.1, x7.2))
theorem F52_eq : eFun env k inv 52 #[x0] h = F52 inv k x0 h := by
      refine (kq_fun (a := act 8 [(0, x0)]) (c := cp c52 1)).trans ?_
      unfold F52
      simp only [kq_seq c52 1, r52_0, kq_seq c52 3, kq_seq c52 6, r52_1, b52_rlr, kq_seq c52 26, r52_2, kq_ret c52 53, res52_0, kq_skip c52 27, kq_seq c52 7, r52_3, kq_ret c52 15, reduceIte, reduceCtorEq, XE.exit.injEq, Nat.reduceEqDiff, Nat.reduceMul, Nat.reduceAdd] <;> kernel_rfl
theorem F52_call : eInv env (k + 1) (.func 52) #[] #[x0] h = F52 (eInv env k) k x0 h := kq_inv F52_eq
noncomputable def c53 : Code := codeOf Try.prog 53
theorem r53_0  : kCode env 53 false inv k (cp c53 2) (act 15 [(0, x0)]) h K =
    K .normal (act 15 [(0, x0)]) h := kq_reg
theorem r53_1  : kCode env 53 false inv k (cp c53 12) (act 15 [(0, x0)]) h K =
    bnd (pNilCheck x0) fun x4 =>
    bnd (pFieldAddr Try.prog 73 x4 0) fun x5 =>
    bnd (pLoad Try.prog 32 x5 h) fun x6 =>
    bnd (pLen Try.prog #[32] x6 h) fun x7 =>
    bnd (pBin Try.prog .geq 3 (.tmp 7) (.const (.int .i64 10)) x7 (.int .i64 10)) fun x8 =>
    K .normal (act 15 [(0, x0), (8, x8)]) h := kq_reg
theorem b53_rlr  : kCode env 53 false inv k (cp c53 13) (act 15 [(0, x0), (8, x8)]) h K = brV x8 (kCode env 53 false inv k (cp c53 26) (act 15 [(0, x0), (8, x8)]) h K) (kCode env 53 false inv k (cp c53 27) (act 15 [(0, x0), (8, x8)]) h K) := kq_cond
theorem r53_2  : kCode env 53 false inv k (cp c53 52) (act 15 [(0, x0), (8, x8)]) h K =
    K .normal (act 15 [(2, (.bool false))]) h := kq_reg
theorem res53_0 : resOfFn env.P 53 .ret (act 15 [(2, x2)]) h = some (x2, h) := kq_res
theorem r53_3  : kCode env 53 false inv k (cp c53 14) (act 15 [(0, x0), (8, x8)]) h K =
    bnd (pNilCheck x0) fun x10 =>
    bnd (pFieldAddr Try.prog 73 x10 0) fun x11 =>
    bnd (pLoad Try.prog 32 x11 h) fun x12 =>
    bnd (inv (.func 63) #[] #[x12, (.func (.func 64) #[] #[])] h) fun x13 =>
    bnd (pUn Try.prog .not x13.1) fun x14 =>
    K .normal (act 15 [(2, x14)]) x13.2 := kq_reg
/-- (*shadowbook/octet.Reader).ends -/
noncomputable def F53 (inv : Inv) (k : Nat) (x0 : Value) (h : AH) : Option (Value × AH) :=
    bnd (pNilCheck x0) fun x4 =>
    bnd (pFieldAddr Try.prog 73 x4 0) fun x5 =>
    bnd (pLoad Try.prog 32 x5 h) fun x6 =>
    bnd (pLen Try.prog #[32] x6 h) fun x7 =>
    bnd (pBin Try.prog .geq 3 (.tmp 7) (.const (.int .i64 10)) x7 (.int .i64 10)) fun x8 =>
    brV x8
    (some ((.bool false), h))
    (bnd (pNilCheck x0) fun x10 =>
    bnd (pFieldAddr Try.prog 73 x10 0) fun x11 =>
    bnd (pLoad Try.prog 32 x11 h) fun x12 =>
    bnd (inv (.func 63) #[] #[x12, (.func (.func 64) #[] #[])] h) fun x13 =>
    bnd (pUn Try.prog .not x13.1) fun x14 =>
    some (x14, x13.2))
theorem F53_eq : eFun env k inv 53 #[x0] h = F53 inv k x0 h := by
      refine (kq_fun (a := act 15 [(0, x0)]) (c := cp c53 1)).trans ?_
      unfold F53
      simp only [kq_seq c53 1, r53_0, kq_seq c53 3, kq_seq c53 6, r53_1, b53_rlr, kq_seq c53 26, r53_2, kq_ret c53 53, res53_0, kq_skip c53 27, kq_seq c53 7, r53_3, kq_ret c53 15, reduceIte, reduceCtorEq, XE.exit.injEq, Nat.reduceEqDiff, Nat.reduceMul, Nat.reduceAdd] <;> kernel_rfl
theorem F53_call : eInv env (k + 1) (.func 53) #[] #[x0] h = F53 (eInv env k) k x0 h := kq_inv F53_eq
noncomputable def c54 : Code := codeOf Try.prog 54
theorem r54_0  : kCode env 54 false inv k (cp c54 2) (act 31 [(0, x0), (1, x1)]) h K =
    K .normal (act 31 [(0, x0), (1, x1)]) h := kq_reg
theorem r54_1  : kCode env 54 false inv k (cp c54 12) (act 31 [(0, x0), (1, x1)]) h K =
    bnd (pNilCheck x0) fun x8 =>
    bnd (pFieldAddr Try.prog 73 x8 0) fun x9 =>
    bnd (pLoad Try.prog 32 x9 h) fun x10 =>
    bnd (pLen Try.prog #[32] x10 h) fun x11 =>
    bnd (pBin Try.prog .lss 3 (.tmp 11) (.tmp 12) x11 x1) fun x13 =>
    K .normal (act 31 [(0, x0), (1, x1), (13, x13)]) h := kq_reg
theorem b54_rlr  : kCode env 54 false inv k (cp c54 13) (act 31 [(0, x0), (1, x1), (13, x13)]) h K = brV x13 (kCode env 54 false inv k (cp c54 26) (act 31 [(0, x0), (1, x1), (13, x13)]) h K) (kCode env 54 false inv k (cp c54 27) (act 31 [(0, x0), (1, x1), (13, x13)]) h K) := kq_cond
theorem r54_2  : kCode env 54 false inv k (cp c54 52) (act 31 [(0, x0), (1, x1), (13, x13)]) h K =
    K .normal (act 31 [(4, (.slice none 0 0)), (5, (.int .i64 7))]) h := kq_reg
theorem res54_0 : resOfFn env.P 54 .ret (act 31 [(4, x4), (5, x5)]) h = some (.tuple #[x4, x5], h) := kq_res
theorem r54_3  : kCode env 54 false inv k (cp c54 14) (act 31 [(0, x0), (1, x1), (13, x13)]) h K =
    bnd (pNilCheck x0) fun x15 =>
    bnd (pFieldAddr Try.prog 73 x15 0) fun x16 =>
    bnd (pLoad Try.prog 32 x16 h) fun x17 =>
    bnd (pSlice Try.prog 32 x17 none (some x1) (some x1) h) fun x20 =>
    K .normal (act 31 [(0, x0), (1, x1), (6, x20)]) h := kq_reg
theorem r54_4  : kCode env 54 false inv k (cp c54 30) (act 31 [(0, x0), (1, x1), (6, x6)]) h K =
    bnd (pNilCheck x0) fun x23 =>
    bnd (pFieldAddr Try.prog 73 x23 0) fun x24 =>
    bnd (pLoad Try.prog 32 x24 h) fun x25 =>
    bnd (pSlice Try.prog 32 x25 (some x1) none none h) fun x27 =>
    bnd (pNilCheck x0) fun x28 =>
    bnd (pFieldAddr Try.prog 73 x28 0) fun x29 =>
    bnd (kSt (pStore Try.prog 32 x29 x27 h)) fun u =>
    K .normal (act 31 [(6, x6)]) u.2 := kq_reg
theorem r54_5  : kCode env 54 false inv k (cp c54 62) (act 31 [(6, x6)]) h K =
    K .normal (act 31 [(4, x6), (5, (.int .i64 0))]) h := kq_reg
/-- (*shadowbook/octet.Reader).take -/
noncomputable def F54 (inv : Inv) (k : Nat) (x0 x1 : Value) (h : AH) : Option (Value × AH) :=
    bnd (pNilCheck x0) fun x8 =>
    bnd (pFieldAddr Try.prog 73 x8 0) fun x9 =>
    bnd (pLoad Try.prog 32 x9 h) fun x10 =>
    bnd (pLen Try.prog #[32] x10 h) fun x11 =>
    bnd (pBin Try.prog .lss 3 (.tmp 11) (.tmp 12) x11 x1) fun x13 =>
    brV x13
    (some (.tuple #[(.slice none 0 0), (.int .i64 7)], h))
    (bnd (pNilCheck x0) fun x15 =>
    bnd (pFieldAddr Try.prog 73 x15 0) fun x16 =>
    bnd (pLoad Try.prog 32 x16 h) fun x17 =>
    bnd (pSlice Try.prog 32 x17 none (some x1) (some x1) h) fun x20 =>
    bnd (pNilCheck x0) fun x23 =>
    bnd (pFieldAddr Try.prog 73 x23 0) fun x24 =>
    bnd (pLoad Try.prog 32 x24 h) fun x25 =>
    bnd (pSlice Try.prog 32 x25 (some x1) none none h) fun x27 =>
    bnd (pNilCheck x0) fun x28 =>
    bnd (pFieldAddr Try.prog 73 x28 0) fun x29 =>
    bnd (kSt (pStore Try.prog 32 x29 x27 h)) fun u =>
    some (.tuple #[x20, (.int .i64 0)], u.2))
theorem F54_eq : eFun env k inv 54 #[x0, x1] h = F54 inv k x0 x1 h := by
      refine (kq_fun (a := act 31 [(0, x0), (1, x1)]) (c := cp c54 1)).trans ?_
      unfold F54
      simp only [kq_seq c54 1, r54_0, kq_seq c54 3, kq_seq c54 6, r54_1, b54_rlr, kq_seq c54 26, r54_2, kq_ret c54 53, res54_0, kq_skip c54 27, kq_seq c54 7, r54_3, kq_seq c54 15, r54_4, kq_seq c54 31, r54_5, kq_ret c54 63, reduceIte, reduceCtorEq, XE.exit.injEq, Nat.reduceEqDiff, Nat.reduceMul, Nat.reduceAdd] <;> kernel_rfl
theorem F54_call : eInv env (k + 1) (.func 54) #[] #[x0, x1] h = F54 (eInv env k) k x0 x1 h := kq_inv F54_eq
noncomputable def c55 : Code := codeOf Try.prog 55
theorem r55_0  : kCode env 55 false inv k (cp c55 2) (act 18 [(0, x0)]) h K =
    bnd (pAlloc Try.prog 49 h) fun x2 =>
    K .normal (act 18 [(0, x0), (2, x2.1)]) x2.2 := kq_reg
theorem r55_1  : kCode env 55 false inv k (cp c55 12) (act 18 [(0, x0), (2, x2)]) h K =
    bnd (pLen Try.prog #[32] x0 h) fun x6 =>
    bnd (pBin Try.prog .gtr 3 (.tmp 6) (.const (.int .i64 8)) x6 (.int .i64 8)) fun x7 =>
    K .normal (act 18 [(0, x0), (2, x2), (7, x7)]) h := kq_reg
theorem b55_rlr  : kCode env 55 false inv k (cp c55 13) (act 18 [(0, x0), (2, x2), (7, x7)]) h K = brV x7 (kCode env 55 false inv k (cp c55 26) (act 18 [(0, x0), (2, x2), (7, x7)]) h K) (kCode env 55 false inv k (cp c55 27) (act 18 [(0, x0), (2, x2), (7, x7)]) h K) := kq_cond
theorem r55_2  : kCode env 55 false inv k (cp c55 52) (act 18 [(0, x0), (2, x2), (7, x7)]) h K =
    bnd (kSt (pStore Try.prog 49 x2 (.int .u64 0) h)) fun u =>
    K .normal (act 18 [(2, x2)]) u.2 := kq_reg
theorem res55_0 : resOfFn env.P 55 .ret (act 18 [(2, x2)]) h = bnd (pLoad Try.prog 49 x2 h) fun q0 =>
    some (q0, h) := kq_res
theorem r55_3  : kCode env 55 false inv k (cp c55 28) (act 18 [(0, x0), (2, x2), (7, x7)]) h K =
    bnd (inv (.func 65) #[] #[x0] h) fun x9 =>
    K .normal (act 18 [(2, x2), (9, x9.1)]) x9.2 := kq_reg
theorem g55_lrlrr  : kCode env 55 false inv k (cp c55 58) (act 18 [(2, x2), (9, x9)]) h K = kRange env 55 inv x9 (psOf (cp c55 58)) (cp c55 116) (cp c55 117) (act 18 [(2, x2), (9, x9)]) h fun e h => sw e (K .normal (act 18 [(2, x2), (9, x9)]) h) (none) [] := kq_range (g := x9) (ids := [])
noncomputable def F55_rlrr {β : Type} (inv : Inv) (k : Nat) (x2 x9 : Value) (h : AH) (kn : (Value → Value → AH → Option β)) : Option β :=
    kRange env 55 inv x9 (psOf (cp c55 58)) (cp c55 116) (cp c55 117) (act 18 [(2, x2), (9, x9)]) h fun e h => sw e
    (kn x2 x9 h)
    none []
theorem F55_rlrr_eq  : kCode env 55 false inv k (cp c55 29) (act 18 [(2, x2), (9, x9)]) h K = F55_rlrr inv k x2 x9 h (fun y2 y9 h => K .normal (act 18 [(2, y2), (9, y9)]) h) := by
      unfold F55_rlrr
      simp only [kq_block c55 29 0, g55_lrlrr, reduceIte, reduceCtorEq, XE.exit.injEq, Nat.reduceEqDiff, Nat.reduceMul, Nat.reduceAdd] <;> kernel_rfl
theorem r55_6  : kCode env 55 false inv k (cp c55 30) (act 18 [(2, x2), (9, x9)]) h K =
    bnd (pLoad Try.prog 49 x2 h) fun x17 =>
    bnd (kSt (pStore Try.prog 49 x2 x17 h)) fun u =>
    K .normal (act 18 [(2, x2)]) u.2 := kq_reg
/-- shadowbook/octet.Of -/
noncomputable def F55 (inv : Inv) (k : Nat) (x0 : Value) (h : AH) : Option (Value × AH) :=
    bnd (pAlloc Try.prog 49 h) fun x2 =>
    bnd (pLen Try.prog #[32] x0 x2.2) fun x6 =>
    bnd (pBin Try.prog .gtr 3 (.tmp 6) (.const (.int .i64 8)) x6 (.int .i64 8)) fun x7 =>
    brV x7
    (bnd (kSt (pStore Try.prog 49 x2.1 (.int .u64 0) x2.2)) fun u =>
    bnd (pLoad Try.prog 49 x2.1 u.2) fun q0 =>
    some (q0, u.2))
    (bnd (inv (.func 65) #[] #[x0] x2.2) fun x9 =>
    F55_rlrr inv k x2.1 x9.1 x9.2
    (fun y2 y9 h =>
    bnd (pLoad Try.prog 49 y2 h) fun x17 =>
    bnd (kSt (pStore Try.prog 49 y2 x17 h)) fun u_1 =>
    bnd (pLoad Try.prog 49 y2 u_1.2) fun q0 =>
    some (q0, u_1.2)))
theorem F55_eq : eFun env k inv 55 #[x0] h = F55 inv k x0 h := by
      refine (kq_fun (a := act 18 [(0, x0)]) (c := cp c55 1)).trans ?_
      unfold F55
      simp only [kq_seq c55 1, r55_0, kq_seq c55 3, kq_seq c55 6, r55_1, b55_rlr, kq_seq c55 26, r55_2, kq_ret c55 53, res55_0, kq_skip c55 27, kq_seq c55 7, kq_seq c55 14, r55_3, F55_rlrr_eq, kq_seq c55 15, r55_6, kq_ret c55 31, reduceIte, reduceCtorEq, XE.exit.injEq, Nat.reduceEqDiff, Nat.reduceMul, Nat.reduceAdd] <;> kernel_rfl
theorem F55_call : eInv env (k + 1) (.func 55) #[] #[x0] h = F55 (eInv env k) k x0 h := kq_inv F55_eq
theorem r55_4  : kCode env 55 true inv k (cp c55 116) (act 18 [(2, x2), (9, x9), (10, x10), (11, x11)]) h K =
    K .normal (act 18 [(2, x2), (4, x11)]) h := kq_reg
theorem r55_5  : kCode env 55 true inv k (cp c55 234) (act 18 [(2, x2), (4, x4)]) h K =
    bnd (pLoad Try.prog 49 x2 h) fun x12 =>
    bnd (pBin Try.prog .shl 49 (.tmp 12) (.const (.int .u64 8)) x12 (.int .u64 8)) fun x13 =>
    bnd (pConv Try.prog 5 49 x4 h) fun x15 =>
    bnd (pBin Try.prog .or 49 (.tmp 13) (.tmp 15) x13 x15) fun x16 =>
    bnd (kSt (pStore Try.prog 49 x2 x16 h)) fun u =>
    K .normal (act 18 []) u.2 := kq_reg
noncomputable def R55_lrlrr (inv : Inv) (k l : Nat) (x2 x9 z0 z1 : Value) (h : AH) : Option (Value × AH) :=
    rdBegin l h fun h =>
    bnd (pLoad Try.prog 49 x2 h) fun x12 =>
    bnd (pBin Try.prog .shl 49 (.tmp 12) (.const (.int .u64 8)) x12 (.int .u64 8)) fun x13 =>
    bnd (pConv Try.prog 5 49 z1 h) fun x15 =>
    bnd (pBin Try.prog .or 49 (.tmp 13) (.tmp 15) x13 x15) fun x16 =>
    bnd (kSt (pStore Try.prog 49 x2 x16 h)) fun u =>
    rdEnd l .normal u.2
theorem R55_lrlrr_eq {l : Nat} {pd : Option Code} (hl : h.get l = some (.loop .ready pd 55 (act 18 [(2, x2), (9, x9)]).tmps (psOf (cp c55 58)) (cp c55 116) (cp c55 117))) : eRound env k inv l #[z0, z1] h = R55_lrlrr inv k l x2 x9 z0 z1 h := by
      refine (eRound_k (a := act 18 [(2, x2), (9, x9), (10, z0), (11, z1)]) hl (by kernel_rfl) (by kernel_rfl)).trans ?_
      unfold R55_lrlrr
      simp only [r55_4, kq_block c55 117 1, r55_5, reduceIte, reduceCtorEq, XE.exit.injEq, Nat.reduceEqDiff, Nat.reduceMul, Nat.reduceAdd] <;> kernel_rfl
noncomputable def c56 : Code := codeOf Try.prog 56
theorem r56_0  : kCode env 56 false inv k (cp c56 2) (act 30 [(0, x0), (1, x1)]) h K =
    K .normal (act 30 [(0, x0), (1, x1)]) h := kq_reg
theorem b56_lr  : kCode env 56 false inv k (cp c56 6) (act 30 [(0, x0), (1, x1)]) h K = brV (.bool false) (kCode env 56 false inv k (cp c56 12) (act 30 [(0, x0), (1, x1)]) h K) (kCode env 56 false inv k (cp c56 13) (act 30 [(0, x0), (1, x1)]) h K) := kq_cond
theorem r56_1  : kCode env 56 false inv k (cp c56 24) (act 30 [(0, x0), (1, x1)]) h K =
    bnd (pConv Try.prog 68 89 x0 h) fun x12 =>
    bnd (pConv Try.prog 68 89 x1 h) fun x14 =>
    bnd (inv (.func 66) #[] #[x12, x14] h) fun x15 =>
    bnd (pExtract x15.1 0) fun x16 =>
    bnd (pExtract x15.1 1) fun x17 =>
    K .normal (act 30 [(6, x16), (7, x17)]) x15.2 := kq_reg
theorem r56_2  : kCode env 56 false inv k (cp c56 50) (act 30 [(6, x6), (7, x7)]) h K =
    bnd (pConv Try.prog 89 68 x6 h) fun x19 =>
    bnd (pConv Try.prog 89 68 x7 h) fun x21 =>
    K .normal (act 30 [(4, x19), (5, x21)]) h := kq_reg
theorem res56_0 : resOfFn env.P 56 .ret (act 30 [(4, x4), (5, x5)]) h = some (.tuple #[x4, x5], h) := kq_res
theorem r56_3  : kCode env 56 false inv k (cp c56 14) (act 30 [(0, x0), (1, x1)]) h K =
    bnd (inv (.func 67) #[] #[x0, x1] h) fun x25 =>
    bnd (pExtract x25.1 0) fun x26 =>
    bnd (pExtract x25.1 1) fun x27 =>
    K .normal (act 30 [(8, x26), (9, x27)]) x25.2 := kq_reg
theorem r56_4  : kCode env 56 false inv k (cp c56 30) (act 30 [(8, x8), (9, x9)]) h K =
    K .normal (act 30 [(4, x8), (5, x9)]) h := kq_reg
/-- math/bits.Mul -/
noncomputable def F56 (inv : Inv) (k : Nat) (x0 x1 : Value) (h : AH) : Option (Value × AH) :=
    brV (.bool false)
    (bnd (pConv Try.prog 68 89 x0 h) fun x12 =>
    bnd (pConv Try.prog 68 89 x1 h) fun x14 =>
    bnd (inv (.func 66) #[] #[x12, x14] h) fun x15 =>
    bnd (pExtract x15.1 0) fun x16 =>
    bnd (pExtract x15.1 1) fun x17 =>
    bnd (pConv Try.prog 89 68 x16 x15.2) fun x19 =>
    bnd (pConv Try.prog 89 68 x17 x15.2) fun x21 =>
    some (.tuple #[x19, x21], x15.2))
    (bnd (inv (.func 67) #[] #[x0, x1] h) fun x25 =>
    bnd (pExtract x25.1 0) fun x26 =>
    bnd (pExtract x25.1 1) fun x27 =>
    some (.tuple #[x26, x27], x25.2))
theorem F56_eq : eFun env k inv 56 #[x0, x1] h = F56 inv k x0 x1 h := by
      refine (kq_fun (a := act 30 [(0, x0), (1, x1)]) (c := cp c56 1)).trans ?_
      unfold F56
      simp only [kq_seq c56 1, r56_0, kq_seq c56 3, b56_lr, kq_seq c56 12, r56_1, kq_seq c56 25, r56_2, kq_ret c56 51, res56_0, kq_skip c56 13, kq_seq c56 7, r56_3, kq_seq c56 15, r56_4, kq_ret c56 31, reduceIte, reduceCtorEq, XE.exit.injEq, Nat.reduceEqDiff, Nat.reduceMul, Nat.reduceAdd] <;> kernel_rfl
theorem F56_call : eInv env (k + 1) (.func 56) #[] #[x0, x1] h = F56 (eInv env k) k x0 x1 h := kq_inv F56_eq
noncomputable def c57 : Code := codeOf Try.prog 57
theorem r57_0  : kCode env 57 false inv k (cp c57 2) (act 33 [(0, x0), (1, x1), (2, x2)]) h K =
    K .normal (act 33 [(0, x0), (1, x1), (2, x2)]) h := kq_reg
theorem r57_1  : kCode env 57 false inv k (cp c57 24) (act 33 [(0, x0), (1, x1), (2, x2)]) h K =
    bnd (inv (.func 49) #[] #[x1, x2] h) fun x10 =>
    bnd (pUn Try.prog .not x10.1) fun x11 =>
    K .normal (act 33 [(0, x0), (1, x1), (2, x2), (7, x11)]) x10.2 := kq_reg
theorem b57_rllr  : kCode env 57 false inv k (cp c57 25) (act 33 [(0, x0), (1, x1), (2, x2), (7, x7)]) h K = brV x7 (kCode env 57 false inv k (cp c57 50) (act 33 [(0, x0), (1, x1), (2, x2), (7, x7)]) h K) (kCode env 57 false inv k (cp c57 51) (act 33 [(0, x0), (1, x1), (2, x2), (7, x7)]) h K) := kq_cond
theorem r57_2  : kCode env 57 false inv k (cp c57 100) (act 33 [(0, x0), (1, x1), (2, x2), (7, x7)]) h K =
    K .normal (act 33 [(6, (.int .i64 2))]) h := kq_reg
theorem res57_0 : resOfFn env.P 57 .ret (act 33 [(6, x6)]) h = some (x6, h) := kq_res
theorem r57_3  : kCode env 57 false inv k (cp c57 102) (act 33 [(0, x0), (1, x1), (2, x2), (7, x7)]) h K =
    bnd (pLen Try.prog #[32] x0 h) fun x14 =>
    bnd (inv (.func 34) #[] #[x1, x2] h) fun x17 =>
    bnd (pBin Try.prog .neq 3 (.tmp 14) (.tmp 17) x14 x17.1) fun x18 =>
    K .normal (act 33 [(0, x0), (1, x1), (2, x2), (12, x18)]) x17.2 := kq_reg
theorem b57_rrrllr  : kCode env 57 false inv k (cp c57 103) (act 33 [(0, x0), (1, x1), (2, x2), (12, x12)]) h K = brV x12 (kCode env 57 false inv k (cp c57 206) (act 33 [(0, x0), (1, x1), (2, x2), (12, x12)]) h K) (kCode env 57 false inv k (cp c57 207) (act 33 [(0, x0), (1, x1), (2, x2), (12, x12)]) h K) := kq_cond
theorem r57_4  : kCode env 57 false inv k (cp c57 412) (act 33 [(0, x0), (1, x1), (2, x2), (12, x12)]) h K =
    K .normal (act 33 [(6, (.int .i64 4))]) h := kq_reg
noncomputable abbrev G57_5 {β : Type} (inv : Inv) (x0 x1 x2 : Value) (h : AH) (K : Value → AH → Option β) : Option β :=
    bnd (pBin Try.prog .mul 3 (.tmp 21) (.tmp 22) x1 x2) fun x23 =>
    bnd (pLen Try.prog #[32] x0 h) fun x25 =>
    bnd (pBin Try.prog .mul 3 (.const (.int .i64 8)) (.tmp 25) (.int .i64 8) x25) fun x26 =>
    bnd (pBin Try.prog .mul 3 (.tmp 27) (.tmp 28) x1 x2) fun x29 =>
    bnd (pBin Try.prog .sub 3 (.tmp 26) (.tmp 29) x26 x29) fun x30 =>
    bnd (inv (.func 68) #[] #[x0, x23, x30] h) fun x31 =>
    bnd (pBin Try.prog .neq 49 (.tmp 31) (.const (.int .u64 0)) x31.1 (.int .u64 0)) fun x32 =>
    K (x32) x31.2
theorem r57_5  : kCode env 57 false inv k (cp c57 414) (act 33 [(0, x0), (1, x1), (2, x2), (12, x12)]) h K =
    G57_5 inv x0 x1 x2 h fun y19 h => K .normal (act 33 [(19, y19)]) h := kq_reg
theorem b57_rrrrrllr  : kCode env 57 false inv k (cp c57 415) (act 33 [(19, x19)]) h K = brV x19 (kCode env 57 false inv k (cp c57 830) (act 33 [(19, x19)]) h K) (kCode env 57 false inv k (cp c57 831) (act 33 [(19, x19)]) h K) := kq_cond
theorem r57_6  : kCode env 57 false inv k (cp c57 1660) (act 33 [(19, x19)]) h K =
    K .normal (act 33 [(6, (.int .i64 4))]) h := kq_reg
theorem r57_7  : kCode env 57 false inv k (cp c57 14) (act 33 [(19, x19)]) h K =
    K .normal (act 33 [(6, (.int .i64 0))]) h := kq_reg
/-- shadowbook/packs.check -/
noncomputable def F57 (inv : Inv) (k : Nat) (x0 x1 x2 : Value) (h : AH) : Option (Value × AH) :=
    bnd (inv (.func 49) #[] #[x1, x2] h) fun x10 =>
    bnd (pUn Try.prog .not x10.1) fun x11 =>
    brV x11
    (some ((.int .i64 2), x10.2))
    (bnd (pLen Try.prog #[32] x0 x10.2) fun x14 =>
    bnd (inv (.func 34) #[] #[x1, x2] x10.2) fun x17 =>
    bnd (pBin Try.prog .neq 3 (.tmp 14) (.tmp 17) x14 x17.1) fun x18 =>
    brV x18
    (some ((.int .i64 4), x17.2))
    (G57_5 inv x0 x1 x2 x17.2 fun y19 h =>
    brV y19
    (some ((.int .i64 4), h))
    (some ((.int .i64 0), h))))
theorem F57_eq : eFun env k inv 57 #[x0, x1, x2] h = F57 inv k x0 x1 x2 h := by
      refine (kq_fun (a := act 33 [(0, x0), (1, x1), (2, x2)]) (c := cp c57 1)).trans ?_
      unfold F57
      simp only [kq_seq c57 1, r57_0, kq_seq c57 3, kq_block c57 6 0, kq_seq c57 12, r57_1, b57_rllr, kq_seq c57 50, r57_2, kq_ret c57 101, res57_0, kq_seq c57 51, r57_3, b57_rrrllr, kq_seq c57 206, r57_4, kq_ret c57 413, kq_seq c57 207, r57_5, b57_rrrrrllr, kq_seq c57 830, r57_6, kq_ret c57 1661, kq_skip c57 831, kq_seq c57 7, r57_7, kq_ret c57 15, reduceIte, reduceCtorEq, XE.exit.injEq, Nat.reduceEqDiff, Nat.reduceMul, Nat.reduceAdd] <;> kernel_rfl
theorem F57_call : eInv env (k + 1) (.func 57) #[] #[x0, x1, x2] h = F57 (eInv env k) k x0 x1 x2 h := kq_inv F57_eq
noncomputable def c58 : Code := codeOf Try.prog 58
theorem r58_0  : kCode env 58 false inv k (cp c58 2) (act 8 [(0, x0), (1, x1), (2, x2)]) h K =
    bnd (pBox Try.prog 32 x0 h) fun x3 =>
    bnd (pBox Try.prog 3 x1 x3.2) fun x4 =>
    bnd (pBox Try.prog 3 x2 x4.2) fun x5 =>
    K .normal (act 8 [(3, x3.1), (4, x4.1), (5, x5.1)]) x5.2 := kq_reg
theorem r58_1  : kCode env 58 false inv k (cp c58 6) (act 8 [(3, x3), (4, x4), (5, x5)]) h K =
    bnd (pMakeFunc (.func 69) #[] #[x3, x4, x5]) fun x7 =>
    K .normal (act 8 [(6, x7)]) h := kq_reg
theorem res58_0 : resOfFn env.P 58 .ret (act 8 [(6, x6)]) h = some (x6, h) := kq_res
/-- shadowbook/packs.Each -/
noncomputable def F58 (inv : Inv) (k : Nat) (x0 x1 x2 : Value) (h : AH) : Option (Value × AH) :=
    bnd (pBox Try.prog 32 x0 h) fun x3 =>
    bnd (pBox Try.prog 3 x1 x3.2) fun x4 =>
    bnd (pBox Try.prog 3 x2 x4.2) fun x5 =>
    bnd (pMakeFunc (.func 69) #[] #[x3.1, x4.1, x5.1]) fun x7 =>
    some (x7, x5.2)
theorem F58_eq : eFun env k inv 58 #[x0, x1, x2] h = F58 inv k x0 x1 x2 h := by
      refine (kq_fun (a := act 8 [(0, x0), (1, x1), (2, x2)]) (c := cp c58 1)).trans ?_
      unfold F58
      simp only [kq_seq c58 1, r58_0, kq_seq c58 3, r58_1, kq_ret c58 7, res58_0, reduceIte, reduceCtorEq, XE.exit.injEq, Nat.reduceEqDiff, Nat.reduceMul, Nat.reduceAdd] <;> kernel_rfl
theorem F58_call : eInv env (k + 1) (.func 58) #[] #[x0, x1, x2] h = F58 (eInv env k) k x0 x1 x2 h := kq_inv F58_eq
noncomputable def c62 : Code := codeOf Try.prog 62
theorem r62_0  : kCode env 62 false inv k (cp c62 2) (act 25 [(0, x0)]) h K =
    K .normal (act 25 [(0, x0), (2, (.int .i64 0))]) h := kq_reg
theorem r62_1  : kCode env 62 false inv k (cp c62 12) (act 25 [(0, x0), (2, x2)]) h K =
    bnd (pBin Try.prog .geq 49 (.tmp 3) (.const (.int .u64 4294967296)) x0 (.int .u64 4294967296)) fun x4 =>
    K .normal (act 25 [(0, x0), (2, x2), (4, x4)]) h := kq_reg
theorem b62_rlr  : kCode env 62 false inv k (cp c62 13) (act 25 [(0, x0), (2, x2), (4, x4)]) h K = brV x4 (kCode env 62 false inv k (cp c62 26) (act 25 [(0, x0), (2, x2), (4, x4)]) h K) (kCode env 62 false inv k (cp c62 27) (act 25 [(0, x0), (2, x2), (4, x4)]) h K) := kq_cond
theorem r62_2  : kCode env 62 false inv k (cp c62 52) (act 25 [(0, x0), (2, x2), (4, x4)]) h K =
    bnd (pBin Try.prog .shr 49 (.tmp 5) (.const (.int .u64 32)) x0 (.int .u64 32)) fun x6 =>
    K .normal (act 25 [(0, x6)]) h := kq_reg
theorem r62_3  : kCode env 62 false inv k (cp c62 53) (act 25 [(0, x0)]) h K =
    K .normal (act 25 [(0, x0), (2, (.int .i64 32))]) h := kq_reg
noncomputable def F62_rlr {β : Type} (inv : Inv) (k : Nat) (x0 x2 x4 : Value) (h : AH) (kn : (Value → Value → Value → AH → Option β)) : Option β :=
    brV x4
    (bnd (pBin Try.prog .shr 49 (.tmp 5) (.const (.int .u64 32)) x0 (.int .u64 32)) fun x6 =>
    kn x6 (.int .i64 32) unk h)
    (kn x0 x2 x4 h)
theorem F62_rlr_eq  : kCode env 62 false inv k (cp c62 13) (act 25 [(0, x0), (2, x2), (4, x4)]) h K = F62_rlr inv k x0 x2 x4 h (fun y0 y2 y4 h => K .normal (act 25 [(0, y0), (2, y2), (4, y4)]) h) := by
      unfold F62_rlr
      simp only [b62_rlr, kq_seq c62 26, r62_2, r62_3, kq_skip c62 27, reduceIte, reduceCtorEq, XE.exit.injEq, Nat.reduceEqDiff, Nat.reduceMul, Nat.reduceAdd] <;> kernel_rfl
theorem r62_4  : kCode env 62 false inv k (cp c62 28) (act 25 [(0, x0), (2, x2), (4, x4)]) h K =
    bnd (pBin Try.prog .geq 49 (.tmp 7) (.const (.int .u64 65536)) x0 (.int .u64 65536)) fun x8 =>
    K .normal (act 25 [(0, x0), (2, x2), (8, x8)]) h := kq_reg
theorem b62_rlrr  : kCode env 62 false inv k (cp c62 29) (act 25 [(0, x0), (2, x2), (8, x8)]) h K = brV x8 (kCode env 62 false inv k (cp c62 58) (act 25 [(0, x0), (2, x2), (8, x8)]) h K) (kCode env 62 false inv k (cp c62 59) (act 25 [(0, x0), (2, x2), (8, x8)]) h K) := kq_cond
theorem r62_5  : kCode env 62 false inv k (cp c62 116) (act 25 [(0, x0), (2, x2), (8, x8)]) h K =
    bnd (pBin Try.prog .shr 49 (.tmp 9) (.const (.int .u64 16)) x0 (.int .u64 16)) fun x10 =>
    K .normal (act 25 [(0, x10), (2, x2)]) h := kq_reg
theorem r62_6  : kCode env 62 false inv k (cp c62 117) (act 25 [(0, x0), (2, x2)]) h K =
    bnd (pBin Try.prog .add 3 (.tmp 11) (.const (.int .i64 16)) x2 (.int .i64 16)) fun x12 =>
    K .normal (act 25 [(0, x0), (2, x12)]) h := kq_reg
noncomputable def F62_rlrr {β : Type} (inv : Inv) (k : Nat) (x0 x2 x8 : Value) (h : AH) (kn : (Value → Value → Value → AH → Option β)) : Option β :=
    brV x8
    (bnd (pBin Try.prog .shr 49 (.tmp 9) (.const (.int .u64 16)) x0 (.int .u64 16)) fun x10 =>
    bnd (pBin Try.prog .add 3 (.tmp 11) (.const (.int .i64 16)) x2 (.int .i64 16)) fun x12 =>
    kn x10 x12 unk h)
    (kn x0 x2 x8 h)
theorem F62_rlrr_eq  : kCode env 62 false inv k (cp c62 29) (act 25 [(0, x0), (2, x2), (8, x8)]) h K = F62_rlrr inv k x0 x2 x8 h (fun y0 y2 y8 h => K .normal (act 25 [(0, y0), (2, y2), (8, y8)]) h) := by
      unfold F62_rlrr
      simp only [b62_rlrr, kq_seq c62 58, r62_5, r62_6, kq_skip c62 59, reduceIte, reduceCtorEq, XE.exit.injEq, Nat.reduceEqDiff, Nat.reduceMul, Nat.reduceAdd] <;> kernel_rfl
theorem r62_7  : kCode env 62 false inv k (cp c62 60) (act 25 [(0, x0), (2, x2), (8, x8)]) h K =
    bnd (pBin Try.prog .geq 49 (.tmp 13) (.const (.int .u64 256)) x0 (.int .u64 256)) fun x14 =>
    K .normal (act 25 [(0, x0), (2, x2), (14, x14)]) h := kq_reg
theorem b62_rlrrr  : kCode env 62 false inv k (cp c62 61) (act 25 [(0, x0), (2, x2), (14, x14)]) h K = brV x14 (kCode env 62 false inv k (cp c62 122) (act 25 [(0, x0), (2, x2), (14, x14)]) h K) (kCode env 62 false inv k (cp c62 123) (act 25 [(0, x0), (2, x2), (14, x14)]) h K) := kq_cond
theorem r62_8  : kCode env 62 false inv k (cp c62 244) (act 25 [(0, x0), (2, x2), (14, x14)]) h K =
    bnd (pBin Try.prog .shr 49 (.tmp 15) (.const (.int .u64 8)) x0 (.int .u64 8)) fun x16 =>
    K .normal (act 25 [(0, x16), (2, x2)]) h := kq_reg
theorem r62_9  : kCode env 62 false inv k (cp c62 245) (act 25 [(0, x0), (2, x2)]) h K =
    bnd (pBin Try.prog .add 3 (.tmp 17) (.const (.int .i64 8)) x2 (.int .i64 8)) fun x18 =>
    K .normal (act 25 [(0, x0), (2, x18)]) h := kq_reg
noncomputable def F62_rlrrr {β : Type} (inv : Inv) (k : Nat) (x0 x2 x14 : Value) (h : AH) (kn : (Value → Value → Value → AH → Option β)) : Option β :=
    brV x14
    (bnd (pBin Try.prog .shr 49 (.tmp 15) (.const (.int .u64 8)) x0 (.int .u64 8)) fun x16 =>
    bnd (pBin Try.prog .add 3 (.tmp 17) (.const (.int .i64 8)) x2 (.int .i64 8)) fun x18 =>
    kn x16 x18 unk h)
    (kn x0 x2 x14 h)
theorem F62_rlrrr_eq  : kCode env 62 false inv k (cp c62 61) (act 25 [(0, x0), (2, x2), (14, x14)]) h K = F62_rlrrr inv k x0 x2 x14 h (fun y0 y2 y14 h => K .normal (act 25 [(0, y0), (2, y2), (14, y14)]) h) := by
      unfold F62_rlrrr
      simp only [b62_rlrrr, kq_seq c62 122, r62_8, r62_9, kq_skip c62 123, reduceIte, reduceCtorEq, XE.exit.injEq, Nat.reduceEqDiff, Nat.reduceMul, Nat.reduceAdd] <;> kernel_rfl
noncomputable abbrev G62_10 {β : Type} (inv : Inv) (x0 x2 : Value) (h : AH) (K : Value → AH → Option β) : Option β :=
    bnd (pConv Try.prog 49 5 x0 h) fun x21 =>
    bnd (pIndex Try.prog 9 (.string { data := #[0, 1, 2, 2, 3, 3, 3, 3, 4, 4, 4, 4, 4, 4, 4, 4, 5, 5, 5, 5, 5, 5, 5, 5, 5, 5, 5, 5, 5, 5, 5, 5, 6, 6, 6, 6, 6, 6, 6, 6, 6, 6, 6, 6, 6, 6, 6, 6, 6, 6, 6, 6, 6, 6, 6, 6, 6, 6, 6, 6, 6, 6, 6, 6, 7, 7, 7, 7, 7, 7, 7, 7, 7, 7, 7, 7, 7, 7, 7, 7, 7, 7, 7, 7, 7, 7, 7, 7, 7, 7, 7, 7, 7, 7, 7, 7, 7, 7, 7, 7, 7, 7, 7, 7, 7, 7, 7, 7, 7, 7, 7, 7, 7, 7, 7, 7, 7, 7, 7, 7, 7, 7, 7, 7, 7, 7, 7, 7, 8, 8, 8, 8, 8, 8, 8, 8, 8, 8, 8, 8, 8, 8, 8, 8, 8, 8, 8, 8, 8, 8, 8, 8, 8, 8, 8, 8, 8, 8, 8, 8, 8, 8, 8, 8, 8, 8, 8, 8, 8, 8, 8, 8, 8, 8, 8, 8, 8, 8, 8, 8, 8, 8, 8, 8, 8, 8, 8, 8, 8, 8, 8, 8, 8, 8, 8, 8, 8, 8, 8, 8, 8, 8, 8, 8, 8, 8, 8, 8, 8, 8, 8, 8, 8, 8, 8, 8, 8, 8, 8, 8, 8, 8, 8, 8, 8, 8, 8, 8, 8, 8, 8, 8, 8, 8, 8, 8, 8, 8, 8, 8, 8, 8, 8, 8, 8, 8, 8, 8, 8, 8, 8, 8, 8, 8, 8, 8] }) x21) fun x22 =>
    bnd (pConv Try.prog 5 3 x22 h) fun x23 =>
    bnd (pBin Try.prog .add 3 (.tmp 19) (.tmp 23) x2 x23) fun x24 =>
    K (x24) h
theorem r62_10  : kCode env 62 false inv k (cp c62 62) (act 25 [(0, x0), (2, x2), (14, x14)]) h K =
    G62_10 inv x0 x2 h fun y2 h => K .normal (act 25 [(2, y2)]) h := kq_reg
theorem res62_0 : resOfFn env.P 62 .ret (act 25 [(2, x2)]) h = some (x2, h) := kq_res
/-- math/bits.Len64 -/
noncomputable def F62 (inv : Inv) (k : Nat) (x0 : Value) (h : AH) : Option (Value × AH) :=
    bnd (pBin Try.prog .geq 49 (.tmp 3) (.const (.int .u64 4294967296)) x0 (.int .u64 4294967296)) fun x4 =>
    F62_rlr inv k x0 (.int .i64 0) x4 h
    (fun y0 y2 y4 h =>
    bnd (pBin Try.prog .geq 49 (.tmp 7) (.const (.int .u64 65536)) y0 (.int .u64 65536)) fun x8 =>
    F62_rlrr inv k y0 y2 x8 h
    (fun y0_1 y2_2 y8 h_3 =>
    bnd (pBin Try.prog .geq 49 (.tmp 13) (.const (.int .u64 256)) y0_1 (.int .u64 256)) fun x14 =>
    F62_rlrrr inv k y0_1 y2_2 x14 h_3
    (fun y0_4 y2_5 y14 h_6 =>
    G62_10 inv y0_4 y2_5 h_6 fun y2_7 h_8 =>
    some (y2_7, h_8))))
theorem F62_eq : eFun env k inv 62 #[x0] h = F62 inv k x0 h := by
      refine (kq_fun (a := act 25 [(0, x0)]) (c := cp c62 1)).trans ?_
      unfold F62
      simp only [kq_seq c62 1, r62_0, kq_seq c62 3, kq_seq c62 6, r62_1, F62_rlr_eq, kq_seq c62 7, kq_seq c62 14, r62_4, F62_rlrr_eq, kq_seq c62 15, kq_seq c62 30, r62_7, F62_rlrrr_eq, kq_seq c62 31, r62_10, kq_ret c62 63, res62_0, reduceIte, reduceCtorEq, XE.exit.injEq, Nat.reduceEqDiff, Nat.reduceMul, Nat.reduceAdd] <;> kernel_rfl
theorem F62_call : eInv env (k + 1) (.func 62) #[] #[x0] h = F62 (eInv env k) k x0 h := kq_inv F62_eq
noncomputable def c63 : Code := codeOf Try.prog 63
theorem r63_0  : kCode env 63 false inv k (cp c63 2) (act 9 [(0, x0), (1, x1)]) h K =
    K .normal (act 9 [(0, x0), (1, x1)]) h := kq_reg
theorem r63_1  : kCode env 63 false inv k (cp c63 6) (act 9 [(0, x0), (1, x1)]) h K =
    bnd (inv (.func 71) #[] #[x0, x1] h) fun x7 =>
    bnd (pBin Try.prog .geq 3 (.tmp 7) (.const (.int .i64 0)) x7.1 (.int .i64 0)) fun x8 =>
    K .normal (act 9 [(4, x8)]) x7.2 := kq_reg
theorem res63_0 : resOfFn env.P 63 .ret (act 9 [(4, x4)]) h = some (x4, h) := kq_res
/-- slices.ContainsFunc[[]byte,byte] -/
noncomputable def F63 (inv : Inv) (k : Nat) (x0 x1 : Value) (h : AH) : Option (Value × AH) :=
    bnd (inv (.func 71) #[] #[x0, x1] h) fun x7 =>
    bnd (pBin Try.prog .geq 3 (.tmp 7) (.const (.int .i64 0)) x7.1 (.int .i64 0)) fun x8 =>
    some (x8, x7.2)
theorem F63_eq : eFun env k inv 63 #[x0, x1] h = F63 inv k x0 x1 h := by
      refine (kq_fun (a := act 9 [(0, x0), (1, x1)]) (c := cp c63 1)).trans ?_
      unfold F63
      simp only [kq_seq c63 1, r63_0, kq_seq c63 3, r63_1, kq_ret c63 7, res63_0, reduceIte, reduceCtorEq, XE.exit.injEq, Nat.reduceEqDiff, Nat.reduceMul, Nat.reduceAdd] <;> kernel_rfl
theorem F63_call : eInv env (k + 1) (.func 63) #[] #[x0, x1] h = F63 (eInv env k) k x0 x1 h := kq_inv F63_eq
noncomputable def c64 : Code := codeOf Try.prog 64
theorem r64_0  : kCode env 64 false inv k (cp c64 2) (act 5 [(0, x0)]) h K =
    K .normal (act 5 [(0, x0)]) h := kq_reg
theorem r64_1  : kCode env 64 false inv k (cp c64 6) (act 5 [(0, x0)]) h K =
    bnd (pBin Try.prog .lss 5 (.tmp 3) (.const (.int .u8 128)) x0 (.int .u8 128)) fun x4 =>
    K .normal (act 5 [(2, x4)]) h := kq_reg
theorem res64_0 : resOfFn env.P 64 .ret (act 5 [(2, x2)]) h = some (x2, h) := kq_res
/-- (*shadowbook/octet.Reader).ends$1 -/
noncomputable def F64 (inv : Inv) (k : Nat) (x0 : Value) (h : AH) : Option (Value × AH) :=
    bnd (pBin Try.prog .lss 5 (.tmp 3) (.const (.int .u8 128)) x0 (.int .u8 128)) fun x4 =>
    some (x4, h)
theorem F64_eq : eFun env k inv 64 #[x0] h = F64 inv k x0 h := by
      refine (kq_fun (a := act 5 [(0, x0)]) (c := cp c64 1)).trans ?_
      unfold F64
      simp only [kq_seq c64 1, r64_0, kq_seq c64 3, r64_1, kq_ret c64 7, res64_0, reduceIte, reduceCtorEq, XE.exit.injEq, Nat.reduceEqDiff, Nat.reduceMul, Nat.reduceAdd] <;> kernel_rfl
theorem F64_call : eInv env (k + 1) (.func 64) #[] #[x0] h = F64 (eInv env k) k x0 h := kq_inv F64_eq
noncomputable def c65 : Code := codeOf Try.prog 65
theorem r65_0  : kCode env 65 false inv k (cp c65 2) (act 4 [(0, x0)]) h K =
    bnd (pBox Try.prog 32 x0 h) fun x1 =>
    K .normal (act 4 [(1, x1.1)]) x1.2 := kq_reg
theorem r65_1  : kCode env 65 false inv k (cp c65 6) (act 4 [(1, x1)]) h K =
    bnd (pMakeFunc (.func 72) #[] #[x1]) fun x3 =>
    K .normal (act 4 [(2, x3)]) h := kq_reg
theorem res65_0 : resOfFn env.P 65 .ret (act 4 [(2, x2)]) h = some (x2, h) := kq_res
/-- slices.Backward[[]byte,byte] -/
noncomputable def F65 (inv : Inv) (k : Nat) (x0 : Value) (h : AH) : Option (Value × AH) :=
    bnd (pBox Try.prog 32 x0 h) fun x1 =>
    bnd (pMakeFunc (.func 72) #[] #[x1.1]) fun x3 =>
    some (x3, x1.2)
theorem F65_eq : eFun env k inv 65 #[x0] h = F65 inv k x0 h := by
      refine (kq_fun (a := act 4 [(0, x0)]) (c := cp c65 1)).trans ?_
      unfold F65
      simp only [kq_seq c65 1, r65_0, kq_seq c65 3, r65_1, kq_ret c65 7, res65_0, reduceIte, reduceCtorEq, XE.exit.injEq, Nat.reduceEqDiff, Nat.reduceMul, Nat.reduceAdd] <;> kernel_rfl
theorem F65_call : eInv env (k + 1) (.func 65) #[] #[x0] h = F65 (eInv env k) k x0 h := kq_inv F65_eq
noncomputable def c66 : Code := codeOf Try.prog 66
theorem r66_0  : kCode env 66 false inv k (cp c66 2) (act 17 [(0, x0), (1, x1)]) h K =
    K .normal (act 17 [(0, x0), (1, x1)]) h := kq_reg
theorem r66_1  : kCode env 66 false inv k (cp c66 6) (act 17 [(0, x0), (1, x1)]) h K =
    bnd (pConv Try.prog 89 49 x0 h) fun x8 =>
    bnd (pConv Try.prog 89 49 x1 h) fun x10 =>
    bnd (pBin Try.prog .mul 49 (.tmp 8) (.tmp 10) x8 x10) fun x11 =>
    K .normal (act 17 [(6, x11)]) h := kq_reg
theorem r66_2  : kCode env 66 false inv k (cp c66 14) (act 17 [(6, x6)]) h K =
    bnd (pBin Try.prog .shr 49 (.tmp 12) (.const (.int .u64 32)) x6 (.int .u64 32)) fun x13 =>
    bnd (pConv Try.prog 49 89 x13 h) fun x14 =>
    bnd (pConv Try.prog 49 89 x6 h) fun x16 =>
    K .normal (act 17 [(4, x14), (5, x16)]) h := kq_reg
theorem res66_0 : resOfFn env.P 66 .ret (act 17 [(4, x4), (5, x5)]) h = some (.tuple #[x4, x5], h) := kq_res
/-- math/bits.Mul32 -/
noncomputable def F66 (inv : Inv) (k : Nat) (x0 x1 : Value) (h : AH) : Option (Value × AH) :=
    bnd (pConv Try.prog 89 49 x0 h) fun x8 =>
    bnd (pConv Try.prog 89 49 x1 h) fun x10 =>
    bnd (pBin Try.prog .mul 49 (.tmp 8) (.tmp 10) x8 x10) fun x11 =>
    bnd (pBin Try.prog .shr 49 (.tmp 12) (.const (.int .u64 32)) x11 (.int .u64 32)) fun x13 =>
    bnd (pConv Try.prog 49 89 x13 h) fun x14 =>
    bnd (pConv Try.prog 49 89 x11 h) fun x16 =>
    some (.tuple #[x14, x16], h)
theorem F66_eq : eFun env k inv 66 #[x0, x1] h = F66 inv k x0 x1 h := by
      refine (kq_fun (a := act 17 [(0, x0), (1, x1)]) (c := cp c66 1)).trans ?_
      unfold F66
      simp only [kq_seq c66 1, r66_0, kq_seq c66 3, r66_1, kq_seq c66 7, r66_2, kq_ret c66 15, res66_0, reduceIte, reduceCtorEq, XE.exit.injEq, Nat.reduceEqDiff, Nat.reduceMul, Nat.reduceAdd] <;> kernel_rfl
theorem F66_call : eInv env (k + 1) (.func 66) #[] #[x0, x1] h = F66 (eInv env k) k x0 x1 h := kq_inv F66_eq
noncomputable def c67 : Code := codeOf Try.prog 67
theorem r67_0  : kCode env 67 false inv k (cp c67 2) (act 51 [(0, x0), (1, x1)]) h K =
    K .normal (act 51 [(0, x0), (1, x1)]) h := kq_reg
theorem r67_1  : kCode env 67 false inv k (cp c67 6) (act 51 [(0, x0), (1, x1)]) h K =
    bnd (pBin Try.prog .and 49 (.tmp 14) (.const (.int .u64 4294967295)) x0 (.int .u64 4294967295)) fun x15 =>
    K .normal (act 51 [(0, x0), (1, x1), (6, x15)]) h := kq_reg
theorem r67_2  : kCode env 67 false inv k (cp c67 14) (act 51 [(0, x0), (1, x1), (6, x6)]) h K =
    bnd (pBin Try.prog .shr 49 (.tmp 16) (.const (.int .u64 32)) x0 (.int .u64 32)) fun x17 =>
    K .normal (act 51 [(0, x0), (1, x1), (6, x6), (7, x17)]) h := kq_reg
theorem r67_3  : kCode env 67 false inv k (cp c67 30) (act 51 [(0, x0), (1, x1), (6, x6), (7, x7)]) h K =
    bnd (pBin Try.prog .and 49 (.tmp 18) (.const (.int .u64 4294967295)) x1 (.int .u64 4294967295)) fun x19 =>
    K .normal (act 51 [(0, x0), (1, x1), (6, x6), (7, x7), (8, x19)]) h := kq_reg
theorem r67_4  : kCode env 67 false inv k (cp c67 62) (act 51 [(0, x0), (1, x1), (6, x6), (7, x7), (8, x8)]) h K =
    bnd (pBin Try.prog .shr 49 (.tmp 20) (.const (.int .u64 32)) x1 (.int .u64 32)) fun x21 =>
    K .normal (act 51 [(0, x0), (1, x1), (6, x6), (7, x7), (8, x8), (9, x21)]) h := kq_reg
theorem r67_5  : kCode env 67 false inv k (cp c67 126) (act 51 [(0, x0), (1, x1), (6, x6), (7, x7), (8, x8), (9, x9)]) h K =
    bnd (pBin Try.prog .mul 49 (.tmp 22) (.tmp 23) x6 x8) fun x24 =>
    K .normal (act 51 [(0, x0), (1, x1), (6, x6), (7, x7), (8, x8), (9, x9), (10, x24)]) h := kq_reg
theorem r67_6  : kCode env 67 false inv k (cp c67 254) (act 51 [(0, x0), (1, x1), (6, x6), (7, x7), (8, x8), (9, x9), (10, x10)]) h K =
    bnd (pBin Try.prog .mul 49 (.tmp 25) (.tmp 26) x7 x8) fun x27 =>
    bnd (pBin Try.prog .shr 49 (.tmp 28) (.const (.int .u64 32)) x10 (.int .u64 32)) fun x29 =>
    bnd (pBin Try.prog .add 49 (.tmp 27) (.tmp 29) x27 x29) fun x30 =>
    K .normal (act 51 [(0, x0), (1, x1), (6, x6), (7, x7), (9, x9), (11, x30)]) h := kq_reg
theorem r67_7  : kCode env 67 false inv k (cp c67 510) (act 51 [(0, x0), (1, x1), (6, x6), (7, x7), (9, x9), (11, x11)]) h K =
    bnd (pBin Try.prog .and 49 (.tmp 31) (.const (.int .u64 4294967295)) x11 (.int .u64 4294967295)) fun x32 =>
    K .normal (act 51 [(0, x0), (1, x1), (6, x6), (7, x7), (9, x9), (11, x11), (12, x32)]) h := kq_reg
theorem r67_8  : kCode env 67 false inv k (cp c67 1022) (act 51 [(0, x0), (1, x1), (6, x6), (7, x7), (9, x9), (11, x11), (12, x12)]) h K =
    bnd (pBin Try.prog .shr 49 (.tmp 33) (.const (.int .u64 32)) x11 (.int .u64 32)) fun x34 =>
    K .normal (act 51 [(0, x0), (1, x1), (6, x6), (7, x7), (9, x9), (12, x12), (13, x34)]) h := kq_reg
theorem r67_9  : kCode env 67 false inv k (cp c67 2046) (act 51 [(0, x0), (1, x1), (6, x6), (7, x7), (9, x9), (12, x12), (13, x13)]) h K =
    bnd (pBin Try.prog .mul 49 (.tmp 36) (.tmp 37) x6 x9) fun x38 =>
    bnd (pBin Try.prog .add 49 (.tmp 35) (.tmp 38) x12 x38) fun x39 =>
    K .normal (act 51 [(0, x0), (1, x1), (7, x7), (9, x9), (12, x39), (13, x13)]) h := kq_reg
noncomputable abbrev G67_10 {β : Type} (inv : Inv) (x0 x1 x7 x9 x12 x13 : Value) (h : AH) (K : Value → AH → Option β) : Option β :=
    bnd (pBin Try.prog .mul 49 (.tmp 40) (.tmp 41) x7 x9) fun x42 =>
    bnd (pBin Try.prog .add 49 (.tmp 42) (.tmp 43) x42 x13) fun x44 =>
    bnd (pBin Try.prog .shr 49 (.tmp 45) (.const (.int .u64 32)) x12 (.int .u64 32)) fun x46 =>
    bnd (pBin Try.prog .add 49 (.tmp 44) (.tmp 46) x44 x46) fun x47 =>
    K (x47) h
theorem r67_10  : kCode env 67 false inv k (cp c67 4094) (act 51 [(0, x0), (1, x1), (7, x7), (9, x9), (12, x12), (13, x13)]) h K =
    G67_10 inv x0 x1 x7 x9 x12 x13 h fun y4 h => K .normal (act 51 [(0, x0), (1, x1), (4, y4)]) h := kq_reg
theorem r67_11  : kCode env 67 false inv k (cp c67 8190) (act 51 [(0, x0), (1, x1), (4, x4)]) h K =
    bnd (pBin Try.prog .mul 49 (.tmp 48) (.tmp 49) x0 x1) fun x50 =>
    K .normal (act 51 [(4, x4), (5, x50)]) h := kq_reg
theorem res67_0 : resOfFn env.P 67 .ret (act 51 [(4, x4), (5, x5)]) h = some (.tuple #[x4, x5], h) := kq_res
/-- math/bits.Mul64 -/
noncomputable def F67 (inv : Inv) (k : Nat) (x0 x1 : Value) (h : AH) : Option (Value × AH) :=
    bnd (pBin Try.prog .and 49 (.tmp 14) (.const (.int .u64 4294967295)) x0 (.int .u64 4294967295)) fun x15 =>
    bnd (pBin Try.prog .shr 49 (.tmp 16) (.const (.int .u64 32)) x0 (.int .u64 32)) fun x17 =>
    bnd (pBin Try.prog .and 49 (.tmp 18) (.const (.int .u64 4294967295)) x1 (.int .u64 4294967295)) fun x19 =>
    bnd (pBin Try.prog .shr 49 (.tmp 20) (.const (.int .u64 32)) x1 (.int .u64 32)) fun x21 =>
    bnd (pBin Try.prog .mul 49 (.tmp 22) (.tmp 23) x15 x19) fun x24 =>
    bnd (pBin Try.prog .mul 49 (.tmp 25) (.tmp 26) x17 x19) fun x27 =>
    bnd (pBin Try.prog .shr 49 (.tmp 28) (.const (.int .u64 32)) x24 (.int .u64 32)) fun x29 =>
    bnd (pBin Try.prog .add 49 (.tmp 27) (.tmp 29) x27 x29) fun x30 =>
    bnd (pBin Try.prog .and 49 (.tmp 31) (.const (.int .u64 4294967295)) x30 (.int .u64 4294967295)) fun x32 =>
    bnd (pBin Try.prog .shr 49 (.tmp 33) (.const (.int .u64 32)) x30 (.int .u64 32)) fun x34 =>
    bnd (pBin Try.prog .mul 49 (.tmp 36) (.tmp 37) x15 x21) fun x38 =>
    bnd (pBin Try.prog .add 49 (.tmp 35) (.tmp 38) x32 x38) fun x39 =>
    G67_10 inv x0 x1 x17 x21 x39 x34 h fun y4 h =>
    bnd (pBin Try.prog .mul 49 (.tmp 48) (.tmp 49) x0 x1) fun x50 =>
    some (.tuple #[y4, x50], h)
theorem F67_eq : eFun env k inv 67 #[x0, x1] h = F67 inv k x0 x1 h := by
      refine (kq_fun (a := act 51 [(0, x0), (1, x1)]) (c := cp c67 1)).trans ?_
      unfold F67
      simp only [kq_seq c67 1, r67_0, kq_seq c67 3, r67_1, kq_seq c67 7, r67_2, kq_seq c67 15, r67_3, kq_seq c67 31, r67_4, kq_seq c67 63, r67_5, kq_seq c67 127, r67_6, kq_seq c67 255, r67_7, kq_seq c67 511, r67_8, kq_seq c67 1023, r67_9, kq_seq c67 2047, r67_10, kq_seq c67 4095, r67_11, kq_ret c67 8191, res67_0, reduceIte, reduceCtorEq, XE.exit.injEq, Nat.reduceEqDiff, Nat.reduceMul, Nat.reduceAdd] <;> kernel_rfl
theorem F67_call : eInv env (k + 1) (.func 67) #[] #[x0, x1] h = F67 (eInv env k) k x0 x1 h := kq_inv F67_eq
noncomputable def c68 : Code := codeOf Try.prog 68
theorem r68_0  : kCode env 68 false inv k (cp c68 2) (act 32 [(0, x0), (1, x1), (2, x2)]) h K =
    K .normal (act 32 [(0, x0), (1, x1), (2, x2), (6, (.int .u64 0))]) h := kq_reg
theorem r68_1  : kCode env 68 false inv k (cp c68 12) (act 32 [(0, x0), (1, x1), (2, x2), (6, x6)]) h K =
    K .normal (act 32 [(0, x0), (1, x1), (6, x6), (9, x2), (10, (.int .i64 0))]) h := kq_reg
theorem r68_2  : kCode env 68 false inv k (cp c68 104) (act 32 [(0, x0), (1, x1), (6, x6), (9, x9), (10, x10)]) h K =
    bnd (pBin Try.prog .lss 3 (.tmp 10) (.tmp 9) x10 x9) fun x11 =>
    K .normal (act 32 [(0, x0), (1, x1), (6, x6), (9, x9), (10, x10), (11, x11)]) h := kq_reg
theorem b68_lrllrlr  : kCode env 68 false inv k (cp c68 210) (act 32 [(0, x0), (1, x1), (6, x6), (9, x9), (10, x10), (11, x11)]) h K = brV x11 (kCode env 68 false inv k (cp c68 420) (act 32 [(0, x0), (1, x1), (6, x6), (9, x9), (10, x10), (11, x11)]) h K) (kCode env 68 false inv k (cp c68 421) (act 32 [(0, x0), (1, x1), (6, x6), (9, x9), (10, x10), (11, x11)]) h K) := kq_cond
theorem r68_3  : kCode env 68 false inv k (cp c68 1688) (act 32 [(0, x0), (1, x1), (6, x6), (9, x9), (10, x10), (11, x11)]) h K =
    K .normal (act 32 [(0, x0), (1, x1), (6, x6), (7, x10), (9, x9), (10, x10)]) h := kq_reg
theorem r68_4  : kCode env 68 false inv k (cp c68 3378) (act 32 [(0, x0), (1, x1), (6, x6), (7, x7), (9, x9), (10, x10)]) h K =
    bnd (pBin Try.prog .add 3 (.tmp 13) (.tmp 14) x1 x7) fun x15 =>
    K .normal (act 32 [(0, x0), (1, x1), (6, x6), (7, x7), (8, x15), (9, x9), (10, x10)]) h := kq_reg
noncomputable abbrev G68_5 {β : Type} (inv : Inv) (x0 x1 x6 x7 x8 x9 x10 : Value) (h : AH) (K : Value → AH → Option β) : Option β :=
    bnd (pBin Try.prog .quo 3 (.tmp 18) (.const (.int .i64 8)) x8 (.int .i64 8)) fun x19 =>
    bnd (pIndexAddr Try.prog 32 x0 x19) fun x20 =>
    bnd (pLoad Try.prog 5 x20 h) fun x21 =>
    bnd (pBin Try.prog .rem 3 (.tmp 22) (.const (.int .i64 8)) x8 (.int .i64 8)) fun x23 =>
    bnd (pBin Try.prog .shr 5 (.tmp 21) (.tmp 23) x21 x23) fun x24 =>
    bnd (pBin Try.prog .and 5 (.tmp 24) (.const (.int .u8 1)) x24 (.int .u8 1)) fun x25 =>
    bnd (pConv Try.prog 5 49 x25 h) fun x26 =>
    bnd (pBin Try.prog .shl 49 (.tmp 26) (.tmp 27) x26 x7) fun x28 =>
    bnd (pBin Try.prog .or 49 (.tmp 16) (.tmp 28) x6 x28) fun x29 =>
    K (x29) h
theorem r68_5  : kCode env 68 false inv k (cp c68 3379) (act 32 [(0, x0), (1, x1), (6, x6), (7, x7), (8, x8), (9, x9), (10, x10)]) h K =
    G68_5 inv x0 x1 x6 x7 x8 x9 x10 h fun y6 h => K .normal (act 32 [(0, x0), (1, x1), (6, y6), (9, x9), (10, x10)]) h := kq_reg
theorem r68_6  : kCode env 68 false inv k (cp c68 423) (act 32 [(0, x0), (1, x1), (6, x6), (9, x9), (10, x10)]) h K =
    bnd (pBin Try.prog .add 3 (.tmp 10) (.const (.int .i64 1)) x10 (.int .i64 1)) fun x30 =>
    K .normal (act 32 [(0, x0), (1, x1), (6, x6), (9, x9), (10, x30)]) h := kq_reg
noncomputable def F68_lrlr {β : Type} (inv : Inv) (k : Nat) : Nat → Value → Value → Value → Value → Value → AH → (Value → Value → Value → Value → Value → Value → AH → Option β) → Option β
  | 0, _, _, _, _, _, _, _ => none
  | j + 1, x0, x1, x6, x9, x10, h, ke0 =>
    bnd (pBin Try.prog .lss 3 (.tmp 10) (.tmp 9) x10 x9) fun x11 =>
    brV x11
    (bnd (pBin Try.prog .add 3 (.tmp 13) (.tmp 14) x1 x10) fun x15 =>
    G68_5 inv x0 x1 x6 x10 x15 x9 x10 h fun y6 h =>
    bnd (pBin Try.prog .add 3 (.tmp 10) (.const (.int .i64 1)) x10 (.int .i64 1)) fun x30 =>
    F68_lrlr inv k j x0 x1 y6 x9 x30 h ke0)
    (ke0 x0 x1 x6 x9 x10 x11 h)
theorem F68_lrlr_j (j : Nat) : kLoop (kCode env 68 false inv k (cp c68 52)) j (act 32 [(0, x0), (1, x1), (6, x6), (9, x9), (10, x10)]) h K = F68_lrlr inv k j x0 x1 x6 x9 x10 h (fun y0 y1 y6 y9 y10 y11 h => K (.exit 0) (act 32 [(0, y0), (1, y1), (6, y6), (9, y9), (10, y10), (11, y11)]) h) := by
      induction j generalizing x0 x1 x6 x9 x10 h with
      | zero => rfl
      | succ j ih =>
        unfold F68_lrlr
        simp only [kLoop, kq_seq c68 52, r68_2, kq_seq c68 105, b68_lrllrlr, kq_skip c68 420, kq_seq c68 211, kq_block c68 422 1, kq_seq c68 844, r68_3, kq_seq c68 1689, r68_4, r68_5, r68_6, kq_exit c68 421 0, ih, reduceIte, reduceCtorEq, XE.exit.injEq, Nat.reduceEqDiff, Nat.reduceMul, Nat.reduceAdd] <;> kernel_rfl
theorem F68_lrlr_eq  : kCode env 68 false inv k (cp c68 26) (act 32 [(0, x0), (1, x1), (6, x6), (9, x9), (10, x10)]) h K = F68_lrlr inv k k x0 x1 x6 x9 x10 h (fun y0 y1 y6 y9 y10 y11 h => K (.exit 0) (act 32 [(0, y0), (1, y1), (6, y6), (9, y9), (10, y10), (11, y11)]) h) := kq_loop (F68_lrlr_j k)
theorem r68_7  : kCode env 68 false inv k (cp c68 14) (act 32 [(0, x0), (1, x1), (6, x6), (9, x9), (10, x10), (11, x11)]) h K =
    K .normal (act 32 [(6, x6)]) h := kq_reg
theorem res68_0 : resOfFn env.P 68 .ret (act 32 [(6, x6)]) h = some (x6, h) := kq_res
/-- shadowbook/packs.at -/
noncomputable def F68 (inv : Inv) (k : Nat) (x0 x1 x2 : Value) (h : AH) : Option (Value × AH) :=
    F68_lrlr inv k k x0 x1 (.int .u64 0) x2 (.int .i64 0) h
    (fun y0 y1 y6 y9 y10 y11 h =>
    some (y6, h))
theorem F68_eq : eFun env k inv 68 #[x0, x1, x2] h = F68 inv k x0 x1 x2 h := by
      refine (kq_fun (a := act 32 [(0, x0), (1, x1), (2, x2)]) (c := cp c68 1)).trans ?_
      unfold F68
      simp only [kq_seq c68 1, r68_0, kq_seq c68 3, kq_seq c68 6, r68_1, kq_block c68 13 0, F68_lrlr_eq, kq_seq c68 7, r68_7, kq_ret c68 15, res68_0, reduceIte, reduceCtorEq, XE.exit.injEq, Nat.reduceEqDiff, Nat.reduceMul, Nat.reduceAdd] <;> kernel_rfl
theorem F68_call : eInv env (k + 1) (.func 68) #[] #[x0, x1, x2] h = F68 (eInv env k) k x0 x1 x2 h := kq_inv F68_eq
noncomputable def c69 : Code := codeOf Try.prog 69
theorem r69_0  : kCode env 69 false inv k (cp c69 4) (act 26 [(0, x0), (1, x1), (2, x2), (3, x3)]) h K =
    bnd (pLoad Try.prog 32 x1 h) fun x6 =>
    bnd (pLoad Try.prog 3 x2 h) fun x7 =>
    bnd (pLoad Try.prog 3 x3 h) fun x8 =>
    bnd (inv (.func 57) #[] #[x6, x7, x8] h) fun x9 =>
    bnd (pBin Try.prog .neq 33 (.tmp 9) (.const (.int .i64 0)) x9.1 (.int .i64 0)) fun x10 =>
    K .normal (act 26 [(0, x0), (1, x1), (2, x2), (3, x3), (10, x10)]) x9.2 := kq_reg
theorem b69_rl  : kCode env 69 false inv k (cp c69 5) (act 26 [(0, x0), (1, x1), (2, x2), (3, x3), (10, x10)]) h K = brV x10 (kCode env 69 false inv k (cp c69 10) (act 26 [(0, x0), (1, x1), (2, x2), (3, x3), (10, x10)]) h K) (kCode env 69 false inv k (cp c69 11) (act 26 [(0, x0), (1, x1), (2, x2), (3, x3), (10, x10)]) h K) := kq_cond
theorem res69_0 : resOfFn env.P 69 .ret (act 26 [(0, x0), (1, x1), (2, x2), (3, x3), (10, x10)]) h = some (.tuple #[], h) := kq_res
theorem r69_1  : kCode env 69 false inv k (cp c69 6) (act 26 [(0, x0), (1, x1), (2, x2), (3, x3), (10, x10)]) h K =
    bnd (pLoad Try.prog 3 x2 h) fun x11 =>
    K .normal (act 26 [(0, x0), (1, x1), (3, x3), (11, x11), (12, (.int .i64 0))]) h := kq_reg
theorem r69_2  : kCode env 69 false inv k (cp c69 56) (act 26 [(0, x0), (1, x1), (3, x3), (11, x11), (12, x12)]) h K =
    bnd (pBin Try.prog .lss 3 (.tmp 12) (.tmp 11) x12 x11) fun x13 =>
    K .normal (act 26 [(0, x0), (1, x1), (3, x3), (11, x11), (12, x12), (13, x13)]) h := kq_reg
theorem b69_lrllrr  : kCode env 69 false inv k (cp c69 114) (act 26 [(0, x0), (1, x1), (3, x3), (11, x11), (12, x12), (13, x13)]) h K = brV x13 (kCode env 69 false inv k (cp c69 228) (act 26 [(0, x0), (1, x1), (3, x3), (11, x11), (12, x12), (13, x13)]) h K) (kCode env 69 false inv k (cp c69 229) (act 26 [(0, x0), (1, x1), (3, x3), (11, x11), (12, x12), (13, x13)]) h K) := kq_cond
theorem r69_3  : kCode env 69 false inv k (cp c69 920) (act 26 [(0, x0), (1, x1), (3, x3), (11, x11), (12, x12), (13, x13)]) h K =
    K .normal (act 26 [(0, x0), (1, x1), (3, x3), (5, x12), (11, x11), (12, x12)]) h := kq_reg
theorem r69_4  : kCode env 69 false inv k (cp c69 1842) (act 26 [(0, x0), (1, x1), (3, x3), (5, x5), (11, x11), (12, x12)]) h K =
    bnd (pLoad Try.prog 32 x1 h) fun x17 =>
    bnd (pLoad Try.prog 3 x3 h) fun x19 =>
    bnd (pBin Try.prog .mul 3 (.tmp 18) (.tmp 19) x5 x19) fun x20 =>
    bnd (pLoad Try.prog 3 x3 h) fun x21 =>
    bnd (inv (.func 68) #[] #[x17, x20, x21] h) fun x22 =>
    bnd (callV inv x0 #[x5, x22.1] x22.2) fun x23 =>
    bnd (pUn Try.prog .not x23.1) fun x24 =>
    K .normal (act 26 [(0, x0), (1, x1), (3, x3), (11, x11), (12, x12), (24, x24)]) x23.2 := kq_reg
theorem b69_rrllrrllrr  : kCode env 69 false inv k (cp c69 1843) (act 26 [(0, x0), (1, x1), (3, x3), (11, x11), (12, x12), (24, x24)]) h K = brV x24 (kCode env 69 false inv k (cp c69 3686) (act 26 [(0, x0), (1, x1), (3, x3), (11, x11), (12, x12), (24, x24)]) h K) (kCode env 69 false inv k (cp c69 3687) (act 26 [(0, x0), (1, x1), (3, x3), (11, x11), (12, x12), (24, x24)]) h K) := kq_cond
theorem r69_5  : kCode env 69 false inv k (cp c69 231) (act 26 [(0, x0), (1, x1), (3, x3), (11, x11), (12, x12), (24, x24)]) h K =
    bnd (pBin Try.prog .add 3 (.tmp 12) (.const (.int .i64 1)) x12 (.int .i64 1)) fun x25 =>
    K .normal (act 26 [(0, x0), (1, x1), (3, x3), (11, x11), (12, x25)]) h := kq_reg
noncomputable def F69_lrr {β : Type} (inv : Inv) (k : Nat) : Nat → Value → Value → Value → Value → Value → AH → (Value → Value → Value → Value → Value → Value → AH → Option β) → (Value → Value → Value → Value → Value → Value → AH → Option β) → Option β
  | 0, _, _, _, _, _, _, _, _ => none
  | j + 1, x0, x1, x3, x11, x12, h, ke0, kr =>
    bnd (pBin Try.prog .lss 3 (.tmp 12) (.tmp 11) x12 x11) fun x13 =>
    brV x13
    (bnd (pLoad Try.prog 32 x1 h) fun x17 =>
    bnd (pLoad Try.prog 3 x3 h) fun x19 =>
    bnd (pBin Try.prog .mul 3 (.tmp 18) (.tmp 19) x12 x19) fun x20 =>
    bnd (pLoad Try.prog 3 x3 h) fun x21 =>
    bnd (inv (.func 68) #[] #[x17, x20, x21] h) fun x22 =>
    bnd (callV inv x0 #[x12, x22.1] x22.2) fun x23 =>
    bnd (pUn Try.prog .not x23.1) fun x24 =>
    brV x24
    (kr x0 x1 x3 x11 x12 x24 x23.2)
    (bnd (pBin Try.prog .add 3 (.tmp 12) (.const (.int .i64 1)) x12 (.int .i64 1)) fun x25 =>
    F69_lrr inv k j x0 x1 x3 x11 x25 x23.2 ke0 kr))
    (ke0 x0 x1 x3 x11 x12 x13 h)
theorem F69_lrr_j (j : Nat) : kLoop (kCode env 69 false inv k (cp c69 28)) j (act 26 [(0, x0), (1, x1), (3, x3), (11, x11), (12, x12)]) h K = F69_lrr inv k j x0 x1 x3 x11 x12 h (fun y0 y1 y3 y11 y12 y13 h => K (.exit 0) (act 26 [(0, y0), (1, y1), (3, y3), (11, y11), (12, y12), (13, y13)]) h) (fun y0 y1 y3 y11 y12 y24 h => K .ret (act 26 [(0, y0), (1, y1), (3, y3), (11, y11), (12, y12), (24, y24)]) h) := by
      induction j generalizing x0 x1 x3 x11 x12 h with
      | zero => rfl
      | succ j ih =>
        unfold F69_lrr
        simp only [kLoop, kq_seq c69 28, r69_2, kq_seq c69 57, b69_lrllrr, kq_skip c69 228, kq_seq c69 115, kq_block c69 230 1, kq_seq c69 460, r69_3, kq_seq c69 921, r69_4, b69_rrllrrllrr, kq_ret c69 3686, kq_skip c69 3687, r69_5, kq_exit c69 229 0, ih, reduceIte, reduceCtorEq, XE.exit.injEq, Nat.reduceEqDiff, Nat.reduceMul, Nat.reduceAdd] <;> kernel_rfl
theorem F69_lrr_eq  : kCode env 69 false inv k (cp c69 14) (act 26 [(0, x0), (1, x1), (3, x3), (11, x11), (12, x12)]) h K = F69_lrr inv k k x0 x1 x3 x11 x12 h (fun y0 y1 y3 y11 y12 y13 h => K (.exit 0) (act 26 [(0, y0), (1, y1), (3, y3), (11, y11), (12, y12), (13, y13)]) h) (fun y0 y1 y3 y11 y12 y24 h => K .ret (act 26 [(0, y0), (1, y1), (3, y3), (11, y11), (12, y12), (24, y24)]) h) := kq_loop (F69_lrr_j k)
theorem res69_1 : resOfFn env.P 69 .normal (act 26 [(0, x0), (1, x1), (3, x3), (11, x11), (12, x12), (13, x13)]) h = some (.tuple #[], h) := kq_res
theorem res69_2 : resOfFn env.P 69 .ret (act 26 [(0, x0), (1, x1), (3, x3), (11, x11), (12, x12), (24, x24)]) h = some (.tuple #[], h) := kq_res
/-- shadowbook/packs.Each$1 -/
noncomputable def F69 (inv : Inv) (k : Nat) (x0 x1 x2 x3 : Value) (h : AH) : Option (Value × AH) :=
    bnd (pLoad Try.prog 32 x1 h) fun x6 =>
    bnd (pLoad Try.prog 3 x2 h) fun x7 =>
    bnd (pLoad Try.prog 3 x3 h) fun x8 =>
    bnd (inv (.func 57) #[] #[x6, x7, x8] h) fun x9 =>
    bnd (pBin Try.prog .neq 33 (.tmp 9) (.const (.int .i64 0)) x9.1 (.int .i64 0)) fun x10 =>
    brV x10
    (some (.tuple #[], x9.2))
    (bnd (pLoad Try.prog 3 x2 x9.2) fun x11 =>
    F69_lrr inv k k x0 x1 x3 x11 (.int .i64 0) x9.2
    (fun y0 y1 y3 y11 y12 y13 h =>
    some (.tuple #[], h))
    (fun y0_1 y1_2 y3_3 y11_4 y12_5 y24 h_6 =>
    some (.tuple #[], h_6)))
theorem F69_eq : eFun env k inv 69 #[x0, x1, x2, x3] h = F69 inv k x0 x1 x2 x3 h := by
      refine (kq_fun (a := act 26 [(0, x0), (1, x1), (2, x2), (3, x3)]) (c := cp c69 1)).trans ?_
      unfold F69
      simp only [kq_seq c69 1, kq_seq c69 2, r69_0, b69_rl, kq_ret c69 10, res69_0, kq_skip c69 11, kq_seq c69 3, r69_1, kq_block c69 7 0, F69_lrr_eq, res69_1, res69_2, reduceIte, reduceCtorEq, XE.exit.injEq, Nat.reduceEqDiff, Nat.reduceMul, Nat.reduceAdd] <;> kernel_rfl
theorem F69_call : eInv env (k + 1) (.func 69) #[] #[x0, x1, x2, x3] h = F69 (eInv env k) k x0 x1 x2 x3 h := kq_inv F69_eq
noncomputable def c71 : Code := codeOf Try.prog 71
theorem r71_0  : kCode env 71 false inv k (cp c71 2) (act 19 [(0, x0), (1, x1)]) h K =
    K .normal (act 19 [(0, x0), (1, x1)]) h := kq_reg
theorem r71_1  : kCode env 71 false inv k (cp c71 12) (act 19 [(0, x0), (1, x1)]) h K =
    bnd (pLen Try.prog #[32] x0 h) fun x7 =>
    K .normal (act 19 [(0, x0), (1, x1), (7, x7), (8, (.int .i64 0))]) h := kq_reg
theorem r71_2  : kCode env 71 false inv k (cp c71 104) (act 19 [(0, x0), (1, x1), (7, x7), (8, x8)]) h K =
    bnd (pBin Try.prog .lss 3 (.tmp 8) (.tmp 7) x8 x7) fun x9 =>
    K .normal (act 19 [(0, x0), (1, x1), (7, x7), (8, x8), (9, x9)]) h := kq_reg
theorem b71_lrllrlr  : kCode env 71 false inv k (cp c71 210) (act 19 [(0, x0), (1, x1), (7, x7), (8, x8), (9, x9)]) h K = brV x9 (kCode env 71 false inv k (cp c71 420) (act 19 [(0, x0), (1, x1), (7, x7), (8, x8), (9, x9)]) h K) (kCode env 71 false inv k (cp c71 421) (act 19 [(0, x0), (1, x1), (7, x7), (8, x8), (9, x9)]) h K) := kq_cond
theorem r71_3  : kCode env 71 false inv k (cp c71 1688) (act 19 [(0, x0), (1, x1), (7, x7), (8, x8), (9, x9)]) h K =
    K .normal (act 19 [(0, x0), (1, x1), (5, x8), (7, x7), (8, x8)]) h := kq_reg
theorem r71_4  : kCode env 71 false inv k (cp c71 3378) (act 19 [(0, x0), (1, x1), (5, x5), (7, x7), (8, x8)]) h K =
    bnd (pIndexAddr Try.prog 32 x0 x5) fun x14 =>
    bnd (pLoad Try.prog 5 x14 h) fun x15 =>
    bnd (callV inv x1 #[x15] h) fun x16 =>
    K .normal (act 19 [(0, x0), (1, x1), (5, x5), (7, x7), (8, x8), (16, x16.1)]) x16.2 := kq_reg
theorem b71_rrllrrllrlr  : kCode env 71 false inv k (cp c71 3379) (act 19 [(0, x0), (1, x1), (5, x5), (7, x7), (8, x8), (16, x16)]) h K = brV x16 (kCode env 71 false inv k (cp c71 6758) (act 19 [(0, x0), (1, x1), (5, x5), (7, x7), (8, x8), (16, x16)]) h K) (kCode env 71 false inv k (cp c71 6759) (act 19 [(0, x0), (1, x1), (5, x5), (7, x7), (8, x8), (16, x16)]) h K) := kq_cond
theorem r71_5  : kCode env 71 false inv k (cp c71 13516) (act 19 [(0, x0), (1, x1), (5, x5), (7, x7), (8, x8), (16, x16)]) h K =
    K .normal (act 19 [(4, x5)]) h := kq_reg
theorem r71_6  : kCode env 71 false inv k (cp c71 423) (act 19 [(0, x0), (1, x1), (5, x5), (7, x7), (8, x8), (16, x16)]) h K =
    bnd (pBin Try.prog .add 3 (.tmp 8) (.const (.int .i64 1)) x8 (.int .i64 1)) fun x18 =>
    K .normal (act 19 [(0, x0), (1, x1), (7, x7), (8, x18)]) h := kq_reg
noncomputable def F71_lrlr {β : Type} (inv : Inv) (k : Nat) : Nat → Value → Value → Value → Value → AH → (Value → Value → Value → Value → Value → AH → Option β) → (Value → AH → Option β) → Option β
  | 0, _, _, _, _, _, _, _ => none
  | j + 1, x0, x1, x7, x8, h, ke0, kr =>
    bnd (pBin Try.prog .lss 3 (.tmp 8) (.tmp 7) x8 x7) fun x9 =>
    brV x9
    (bnd (pIndexAddr Try.prog 32 x0 x8) fun x14 =>
    bnd (pLoad Try.prog 5 x14 h) fun x15 =>
    bnd (callV inv x1 #[x15] h) fun x16 =>
    brV x16.1
    (kr x8 x16.2)
    (bnd (pBin Try.prog .add 3 (.tmp 8) (.const (.int .i64 1)) x8 (.int .i64 1)) fun x18 =>
    F71_lrlr inv k j x0 x1 x7 x18 x16.2 ke0 kr))
    (ke0 x0 x1 x7 x8 x9 h)
theorem F71_lrlr_j (j : Nat) : kLoop (kCode env 71 false inv k (cp c71 52)) j (act 19 [(0, x0), (1, x1), (7, x7), (8, x8)]) h K = F71_lrlr inv k j x0 x1 x7 x8 h (fun y0 y1 y7 y8 y9 h => K (.exit 0) (act 19 [(0, y0), (1, y1), (7, y7), (8, y8), (9, y9)]) h) (fun y4 h => K .ret (act 19 [(4, y4)]) h) := by
      induction j generalizing x0 x1 x7 x8 h with
      | zero => rfl
      | succ j ih =>
        unfold F71_lrlr
        simp only [kLoop, kq_seq c71 52, r71_2, kq_seq c71 105, b71_lrllrlr, kq_skip c71 420, kq_seq c71 211, kq_block c71 422 1, kq_seq c71 844, r71_3, kq_seq c71 1689, r71_4, b71_rrllrrllrlr, kq_seq c71 6758, r71_5, kq_ret c71 13517, kq_skip c71 6759, r71_6, kq_exit c71 421 0, ih, reduceIte, reduceCtorEq, XE.exit.injEq, Nat.reduceEqDiff, Nat.reduceMul, Nat.reduceAdd] <;> kernel_rfl
theorem F71_lrlr_eq  : kCode env 71 false inv k (cp c71 26) (act 19 [(0, x0), (1, x1), (7, x7), (8, x8)]) h K = F71_lrlr inv k k x0 x1 x7 x8 h (fun y0 y1 y7 y8 y9 h => K (.exit 0) (act 19 [(0, y0), (1, y1), (7, y7), (8, y8), (9, y9)]) h) (fun y4 h => K .ret (act 19 [(4, y4)]) h) := kq_loop (F71_lrlr_j k)
theorem r71_7  : kCode env 71 false inv k (cp c71 14) (act 19 [(0, x0), (1, x1), (7, x7), (8, x8), (9, x9)]) h K =
    K .normal (act 19 [(4, (.int .i64 (-1)))]) h := kq_reg
theorem res71_0 : resOfFn env.P 71 .ret (act 19 [(4, x4)]) h = some (x4, h) := kq_res
/-- slices.IndexFunc[[]byte,byte] -/
noncomputable def F71 (inv : Inv) (k : Nat) (x0 x1 : Value) (h : AH) : Option (Value × AH) :=
    bnd (pLen Try.prog #[32] x0 h) fun x7 =>
    F71_lrlr inv k k x0 x1 x7 (.int .i64 0) h
    (fun y0 y1 y7 y8 y9 h =>
    some ((.int .i64 (-1)), h))
    (fun y4 h_1 =>
    some (y4, h_1))
theorem F71_eq : eFun env k inv 71 #[x0, x1] h = F71 inv k x0 x1 h := by
      refine (kq_fun (a := act 19 [(0, x0), (1, x1)]) (c := cp c71 1)).trans ?_
      unfold F71
      simp only [kq_seq c71 1, r71_0, kq_seq c71 3, kq_seq c71 6, r71_1, kq_block c71 13 0, F71_lrlr_eq, kq_seq c71 7, r71_7, kq_ret c71 15, res71_0, reduceIte, reduceCtorEq, XE.exit.injEq, Nat.reduceEqDiff, Nat.reduceMul, Nat.reduceAdd] <;> kernel_rfl
theorem F71_call : eInv env (k + 1) (.func 71) #[] #[x0, x1] h = F71 (eInv env k) k x0 x1 h := kq_inv F71_eq
noncomputable def c72 : Code := codeOf Try.prog 72
theorem r72_0  : kCode env 72 false inv k (cp c72 2) (act 19 [(0, x0), (1, x1)]) h K =
    bnd (pLoad Try.prog 32 x1 h) fun x4 =>
    bnd (pLen Try.prog #[32] x4 h) fun x5 =>
    bnd (pBin Try.prog .sub 3 (.tmp 5) (.const (.int .i64 1)) x5 (.int .i64 1)) fun x6 =>
    K .normal (act 19 [(0, x0), (1, x1), (3, x6)]) h := kq_reg
theorem r72_1  : kCode env 72 false inv k (cp c72 48) (act 19 [(0, x0), (1, x1), (3, x3)]) h K =
    bnd (pBin Try.prog .geq 3 (.tmp 7) (.const (.int .i64 0)) x3 (.int .i64 0)) fun x8 =>
    K .normal (act 19 [(0, x0), (1, x1), (3, x3), (8, x8)]) h := kq_reg
theorem b72_rlllr  : kCode env 72 false inv k (cp c72 49) (act 19 [(0, x0), (1, x1), (3, x3), (8, x8)]) h K = brV x8 (kCode env 72 false inv k (cp c72 98) (act 19 [(0, x0), (1, x1), (3, x3), (8, x8)]) h K) (kCode env 72 false inv k (cp c72 99) (act 19 [(0, x0), (1, x1), (3, x3), (8, x8)]) h K) := kq_cond
theorem r72_3  : kCode env 72 false inv k (cp c72 200) (act 19 [(0, x0), (1, x1), (3, x3), (8, x8)]) h K =
    bnd (pLoad Try.prog 32 x1 h) fun x13 =>
    bnd (pIndexAddr Try.prog 32 x13 x3) fun x15 =>
    bnd (pLoad Try.prog 5 x15 h) fun x16 =>
    bnd (callV inv x0 #[x3, x16] h) fun x17 =>
    bnd (pUn Try.prog .not x17.1) fun x18 =>
    K .normal (act 19 [(0, x0), (1, x1), (3, x3), (18, x18)]) x17.2 := kq_reg
theorem b72_rllrllr  : kCode env 72 false inv k (cp c72 201) (act 19 [(0, x0), (1, x1), (3, x3), (18, x18)]) h K = brV x18 (kCode env 72 false inv k (cp c72 402) (act 19 [(0, x0), (1, x1), (3, x3), (18, x18)]) h K) (kCode env 72 false inv k (cp c72 403) (act 19 [(0, x0), (1, x1), (3, x3), (18, x18)]) h K) := kq_cond
theorem r72_2  : kCode env 72 false inv k (cp c72 51) (act 19 [(0, x0), (1, x1), (3, x3), (18, x18)]) h K =
    bnd (pBin Try.prog .sub 3 (.tmp 9) (.const (.int .i64 1)) x3 (.int .i64 1)) fun x10 =>
    K .normal (act 19 [(0, x0), (1, x1), (3, x10)]) h := kq_reg
noncomputable def F72_lr {β : Type} (inv : Inv) (k : Nat) : Nat → Value → Value → Value → AH → (Value → Value → Value → Value → AH → Option β) → (Value → Value → Value → Value → AH → Option β) → Option β
  | 0, _, _, _, _, _, _ => none
  | j + 1, x0, x1, x3, h, ke0, kr =>
    bnd (pBin Try.prog .geq 3 (.tmp 7) (.const (.int .i64 0)) x3 (.int .i64 0)) fun x8 =>
    brV x8
    (bnd (pLoad Try.prog 32 x1 h) fun x13 =>
    bnd (pIndexAddr Try.prog 32 x13 x3) fun x15 =>
    bnd (pLoad Try.prog 5 x15 h) fun x16 =>
    bnd (callV inv x0 #[x3, x16] h) fun x17 =>
    bnd (pUn Try.prog .not x17.1) fun x18 =>
    brV x18
    (kr x0 x1 x3 x18 x17.2)
    (bnd (pBin Try.prog .sub 3 (.tmp 9) (.const (.int .i64 1)) x3 (.int .i64 1)) fun x10 =>
    F72_lr inv k j x0 x1 x10 x17.2 ke0 kr))
    (ke0 x0 x1 x3 x8 h)
theorem F72_lr_j (j : Nat) : kLoop (kCode env 72 false inv k (cp c72 12)) j (act 19 [(0, x0), (1, x1), (3, x3)]) h K = F72_lr inv k j x0 x1 x3 h (fun y0 y1 y3 y8 h => K (.exit 0) (act 19 [(0, y0), (1, y1), (3, y3), (8, y8)]) h) (fun y0 y1 y3 y18 h => K .ret (act 19 [(0, y0), (1, y1), (3, y3), (18, y18)]) h) := by
      induction j generalizing x0 x1 x3 h with
      | zero => rfl
      | succ j ih =>
        unfold F72_lr
        simp only [kLoop, kq_seq c72 12, kq_seq c72 24, r72_1, b72_rlllr, kq_skip c72 98, kq_seq c72 25, kq_block c72 50 1, kq_seq c72 100, r72_3, b72_rllrllr, kq_ret c72 402, kq_skip c72 403, r72_2, kq_exit c72 99 0, ih, reduceIte, reduceCtorEq, XE.exit.injEq, Nat.reduceEqDiff, Nat.reduceMul, Nat.reduceAdd] <;> kernel_rfl
theorem F72_lr_eq  : kCode env 72 false inv k (cp c72 6) (act 19 [(0, x0), (1, x1), (3, x3)]) h K = F72_lr inv k k x0 x1 x3 h (fun y0 y1 y3 y8 h => K (.exit 0) (act 19 [(0, y0), (1, y1), (3, y3), (8, y8)]) h) (fun y0 y1 y3 y18 h => K .ret (act 19 [(0, y0), (1, y1), (3, y3), (18, y18)]) h) := kq_loop (F72_lr_j k)
theorem res72_0 : resOfFn env.P 72 .normal (act 19 [(0, x0), (1, x1), (3, x3), (8, x8)]) h = some (.tuple #[], h) := kq_res
theorem res72_1 : resOfFn env.P 72 .ret (act 19 [(0, x0), (1, x1), (3, x3), (18, x18)]) h = some (.tuple #[], h) := kq_res
/-- slices.Backward[[]byte,byte]$1 -/
noncomputable def F72 (inv : Inv) (k : Nat) (x0 x1 : Value) (h : AH) : Option (Value × AH) :=
    bnd (pLoad Try.prog 32 x1 h) fun x4 =>
    bnd (pLen Try.prog #[32] x4 h) fun x5 =>
    bnd (pBin Try.prog .sub 3 (.tmp 5) (.const (.int .i64 1)) x5 (.int .i64 1)) fun x6 =>
    F72_lr inv k k x0 x1 x6 h
    (fun y0 y1 y3 y8 h =>
    some (.tuple #[], h))
    (fun y0_1 y1_2 y3_3 y18 h_4 =>
    some (.tuple #[], h_4))
theorem F72_eq : eFun env k inv 72 #[x0, x1] h = F72 inv k x0 x1 h := by
      refine (kq_fun (a := act 19 [(0, x0), (1, x1)]) (c := cp c72 1)).trans ?_
      unfold F72
      simp only [kq_seq c72 1, r72_0, kq_block c72 3 0, F72_lr_eq, res72_0, res72_1, reduceIte, reduceCtorEq, XE.exit.injEq, Nat.reduceEqDiff, Nat.reduceMul, Nat.reduceAdd] <;> kernel_rfl
theorem F72_call : eInv env (k + 1) (.func 72) #[] #[x0, x1] h = F72 (eInv env k) k x0 x1 h := kq_inv F72_eq
end Go.Proofs.Ytoleebigheobcaa.Sh
