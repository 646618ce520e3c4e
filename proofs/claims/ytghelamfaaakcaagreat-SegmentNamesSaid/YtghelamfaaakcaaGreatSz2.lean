/- Shallow functions, part 2. Printed by a program of the prover's own from the loaded program; Lean checks it. -/
import Derived.Test.YtghelamfaaakcaaGreatSz1
set_option linter.unusedVariables false
set_option linter.unusedSimpArgs false
set_option maxRecDepth 100000
namespace Go.Proofs.YtghelamfaaakcaaGreat.Sh
open Go Go.RowKit Go.Proofs.Ev
variable {β : Type} {inv : Inv} {k : Nat} {h : AH} {K : XE → Act → AH → Option β} {x0 x1 x2 x3 x4 x5 x6 x7 x8 x9 x10 x11 x12 x13 x14 x15 x16 x17 x18 x19 x20 x21 x22 x23 x24 x25 x26 x27 x28 x29 x30 x31 x32 x33 x34 x35 x36 x37 x38 x39 x40 x41 x42 x43 x44 x45 x46 x47 x48 x49 x50 x51 x52 x53 x54 x55 x56 x57 x58 x59 x60 x61 x62 x63 x64 x65 x66 x67 x68 x70 x71 x72 x73 x74 x75 x76 x77 x78 x79 x80 x81 z0 z1 : Value}
noncomputable def c78 : Code := codeOf Tryz.prog 78
theorem r78_0  : kCode env 78 false inv k (cp c78 2) (act 32 [(0, x0)]) h K =
    K .normal (act 32 [(0, x0)]) h := kq_reg
theorem r78_1  : kCode env 78 false inv k (cp c78 6) (act 32 [(0, x0)]) h K =
    K .normal (act 32 [(0, x0), (4, (.slice none 0 0))]) h := kq_reg
theorem r78_2  : kCode env 78 false inv k (cp c78 28) (act 32 [(0, x0), (4, x4)]) h K =
    bnd (inv (.func 121) #[] #[] h) fun x9 =>
    bnd (pLen Tryz.prog #[154] x9.1 x9.2) fun x10 =>
    K .normal (act 32 [(0, x0), (4, x4), (9, x9.1), (10, x10), (11, (.int .i64 0))]) x9.2 := kq_reg
theorem r78_3  : kCode env 78 false inv k (cp c78 232) (act 32 [(0, x0), (4, x4), (9, x9), (10, x10), (11, x11)]) h K =
    bnd (pBin Tryz.prog .lss 3 (.tmp 11) (.tmp 10) x11 x10) fun x12 =>
    K .normal (act 32 [(0, x0), (4, x4), (9, x9), (10, x10), (11, x11), (12, x12)]) h := kq_reg
theorem b78_lrllrlrr  : kCode env 78 false inv k (cp c78 466) (act 32 [(0, x0), (4, x4), (9, x9), (10, x10), (11, x11), (12, x12)]) h K = brV x12 (kCode env 78 false inv k (cp c78 932) (act 32 [(0, x0), (4, x4), (9, x9), (10, x10), (11, x11), (12, x12)]) h K) (kCode env 78 false inv k (cp c78 933) (act 32 [(0, x0), (4, x4), (9, x9), (10, x10), (11, x11), (12, x12)]) h K) := kq_cond
theorem r78_4  : kCode env 78 false inv k (cp c78 3736) (act 32 [(0, x0), (4, x4), (9, x9), (10, x10), (11, x11), (12, x12)]) h K =
    bnd (pIndexAddr Tryz.prog 154 x9 x11) fun x13 =>
    bnd (pLoad Tryz.prog 158 x13 h) fun x14 =>
    bnd (pAlloc Tryz.prog 158 h) fun x6 =>
    bnd (kSt (pStore Tryz.prog 158 x6.1 x14 x6.2)) fun u =>
    K .normal (act 32 [(0, x0), (4, x4), (6, x6.1), (9, x9), (10, x10), (11, x11)]) u.2 := kq_reg
theorem r78_5  : kCode env 78 false inv k (cp c78 7474) (act 32 [(0, x0), (4, x4), (6, x6), (9, x9), (10, x10), (11, x11)]) h K =
    bnd (pFieldAddr Tryz.prog 158 x6 1) fun x16 =>
    bnd (pLoad Tryz.prog 83 x16 h) fun x17 =>
    bnd (callV inv x17 #[x0] h) fun x19 =>
    bnd (pExtract x19.1 0) fun x20 =>
    bnd (pExtract x19.1 1) fun x21 =>
    K .normal (act 32 [(0, x0), (4, x4), (7, x20), (8, x21), (9, x9), (10, x10), (11, x11)]) x19.2 := kq_reg
theorem r78_6  : kCode env 78 false inv k (cp c78 29900) (act 32 [(0, x0), (4, x4), (7, x7), (8, x8), (9, x9), (10, x10), (11, x11)]) h K =
    bnd (pBin Tryz.prog .neq 25 (.tmp 22) (.const (.int .i64 0)) x8 (.int .i64 0)) fun x23 =>
    K .normal (act 32 [(0, x0), (4, x4), (7, x7), (8, x8), (9, x9), (10, x10), (11, x11), (23, x23)]) h := kq_reg
theorem b78_rlrrllrrllrlrr  : kCode env 78 false inv k (cp c78 29901) (act 32 [(0, x0), (4, x4), (7, x7), (8, x8), (9, x9), (10, x10), (11, x11), (23, x23)]) h K = brV x23 (kCode env 78 false inv k (cp c78 59802) (act 32 [(0, x0), (4, x4), (7, x7), (8, x8), (9, x9), (10, x10), (11, x11), (23, x23)]) h K) (kCode env 78 false inv k (cp c78 59803) (act 32 [(0, x0), (4, x4), (7, x7), (8, x8), (9, x9), (10, x10), (11, x11), (23, x23)]) h K) := kq_cond
theorem r78_7  : kCode env 78 false inv k (cp c78 119604) (act 32 [(0, x0), (4, x4), (7, x7), (8, x8), (9, x9), (10, x10), (11, x11), (23, x23)]) h K =
    K .normal (act 32 [(2, (.slice none 0 0)), (3, x8)]) h := kq_reg
theorem r78_8  : kCode env 78 false inv k (cp c78 14951) (act 32 [(0, x0), (4, x4), (7, x7), (8, x8), (9, x9), (10, x10), (11, x11), (23, x23)]) h K =
    bnd (pBuildSlice Tryz.prog 153 1 #[(0, x7)] h) fun x27 =>
    bnd (pAppend Tryz.prog #[153, 153] x4 x27.1 x27.2) fun x28 =>
    K .normal (act 32 [(0, x0), (4, x28.1), (9, x9), (10, x10), (11, x11)]) x28.2 := kq_reg
theorem r78_9  : kCode env 78 false inv k (cp c78 935) (act 32 [(0, x0), (4, x4), (9, x9), (10, x10), (11, x11)]) h K =
    bnd (pBin Tryz.prog .add 3 (.tmp 11) (.const (.int .i64 1)) x11 (.int .i64 1)) fun x29 =>
    K .normal (act 32 [(0, x0), (4, x4), (9, x9), (10, x10), (11, x29)]) h := kq_reg
noncomputable def F78_lrlrr {β : Type} (inv : Inv) (k : Nat) : Nat → Value → Value → Value → Value → Value → AH → (Value → Value → Value → Value → Value → Value → AH → Option β) → (Value → Value → AH → Option β) → Option β
  | 0, _, _, _, _, _, _, _, _ => none
  | j + 1, x0, x4, x9, x10, x11, h, ke0, kr =>
    bnd (pBin Tryz.prog .lss 3 (.tmp 11) (.tmp 10) x11 x10) fun x12 =>
    brV x12
    (bnd (pIndexAddr Tryz.prog 154 x9 x11) fun x13 =>
    bnd (pLoad Tryz.prog 158 x13 h) fun x14 =>
    bnd (pAlloc Tryz.prog 158 h) fun x6 =>
    bnd (kSt (pStore Tryz.prog 158 x6.1 x14 x6.2)) fun u =>
    bnd (pFieldAddr Tryz.prog 158 x6.1 1) fun x16 =>
    bnd (pLoad Tryz.prog 83 x16 u.2) fun x17 =>
    bnd (callV inv x17 #[x0] u.2) fun x19 =>
    bnd (pExtract x19.1 0) fun x20 =>
    bnd (pExtract x19.1 1) fun x21 =>
    bnd (pBin Tryz.prog .neq 25 (.tmp 22) (.const (.int .i64 0)) x21 (.int .i64 0)) fun x23 =>
    brV x23
    (kr (.slice none 0 0) x21 x19.2)
    (bnd (pBuildSlice Tryz.prog 153 1 #[(0, x20)] x19.2) fun x27 =>
    bnd (pAppend Tryz.prog #[153, 153] x4 x27.1 x27.2) fun x28 =>
    bnd (pBin Tryz.prog .add 3 (.tmp 11) (.const (.int .i64 1)) x11 (.int .i64 1)) fun x29 =>
    F78_lrlrr inv k j x0 x28.1 x9 x10 x29 x28.2 ke0 kr))
    (ke0 x0 x4 x9 x10 x11 x12 h)
theorem F78_lrlrr_j (j : Nat) : kLoop (kCode env 78 false inv k (cp c78 116)) j (act 32 [(0, x0), (4, x4), (9, x9), (10, x10), (11, x11)]) h K = F78_lrlrr inv k j x0 x4 x9 x10 x11 h (fun y0 y4 y9 y10 y11 y12 h => K (.exit 0) (act 32 [(0, y0), (4, y4), (9, y9), (10, y10), (11, y11), (12, y12)]) h) (fun y2 y3 h => K .ret (act 32 [(2, y2), (3, y3)]) h) := by
      induction j generalizing x0 x4 x9 x10 x11 h with
      | zero => rfl
      | succ j ih =>
        unfold F78_lrlrr
        simp only [kLoop, kq_seq c78 116, r78_3, kq_seq c78 233, b78_lrllrlrr, kq_skip c78 932, kq_seq c78 467, kq_block c78 934 1, kq_seq c78 1868, r78_4, kq_seq c78 3737, r78_5, kq_seq c78 7475, kq_seq c78 14950, r78_6, b78_rlrrllrrllrlrr, kq_seq c78 59802, r78_7, kq_ret c78 119605, kq_skip c78 59803, r78_8, r78_9, kq_exit c78 933 0, ih, reduceIte, reduceCtorEq, XE.exit.injEq, Nat.reduceEqDiff, Nat.reduceMul, Nat.reduceAdd] <;> kernel_rfl
theorem F78_lrlrr_eq  : kCode env 78 false inv k (cp c78 58) (act 32 [(0, x0), (4, x4), (9, x9), (10, x10), (11, x11)]) h K = F78_lrlrr inv k k x0 x4 x9 x10 x11 h (fun y0 y4 y9 y10 y11 y12 h => K (.exit 0) (act 32 [(0, y0), (4, y4), (9, y9), (10, y10), (11, y11), (12, y12)]) h) (fun y2 y3 h => K .ret (act 32 [(2, y2), (3, y3)]) h) := kq_loop (F78_lrlrr_j k)
theorem r78_10  : kCode env 78 false inv k (cp c78 30) (act 32 [(0, x0), (4, x4), (9, x9), (10, x10), (11, x11), (12, x12)]) h K =
    bnd (inv (.func 122) #[] #[x4, (.func (.func 123) #[] #[])] h) fun x31 =>
    K .normal (act 32 [(2, x31.1), (3, (.int .i64 0))]) x31.2 := kq_reg
theorem res78_0 : resOfFn env.P 78 .ret (act 32 [(2, x2), (3, x3)]) h = some (.tuple #[x2, x3], h) := kq_res
/-- shadowbook/ints.Put -/
noncomputable def F78 (inv : Inv) (k : Nat) (x0 : Value) (h : AH) : Option (Value × AH) :=
    bnd (inv (.func 121) #[] #[] h) fun x9 =>
    bnd (pLen Tryz.prog #[154] x9.1 x9.2) fun x10 =>
    F78_lrlrr inv k k x0 (.slice none 0 0) x9.1 x10 (.int .i64 0) x9.2
    (fun y0 y4 y9 y10 y11 y12 h =>
    bnd (inv (.func 122) #[] #[y4, (.func (.func 123) #[] #[])] h) fun x31 =>
    some (.tuple #[x31.1, (.int .i64 0)], x31.2))
    (fun y2 y3 h_1 =>
    some (.tuple #[y2, y3], h_1))
theorem F78_eq : eFun env k inv 78 #[x0] h = F78 inv k x0 h := by
      refine (kq_fun (a := act 32 [(0, x0)]) (c := cp c78 1)).trans ?_
      unfold F78
      simp only [kq_seq c78 1, r78_0, kq_seq c78 3, r78_1, kq_seq c78 7, kq_seq c78 14, r78_2, kq_block c78 29 0, F78_lrlrr_eq, kq_seq c78 15, r78_10, kq_ret c78 31, res78_0, reduceIte, reduceCtorEq, XE.exit.injEq, Nat.reduceEqDiff, Nat.reduceMul, Nat.reduceAdd] <;> kernel_rfl
theorem F78_call : eInv env (k + 1) (.func 78) #[] #[x0] h = F78 (eInv env k) k x0 h := kq_inv F78_eq
noncomputable def c79 : Code := codeOf Tryz.prog 79
theorem r79_0  : kCode env 79 false inv k (cp c79 2) (act 10 [(0, x0), (1, x1)]) h K =
    K .normal (act 10 [(0, x0)]) h := kq_reg
theorem r79_1  : kCode env 79 false inv k (cp c79 6) (act 10 [(0, x0)]) h K =
    bnd (inv (.func 80) #[] #[x0] h) fun x7 =>
    bnd (pExtract x7.1 0) fun x8 =>
    bnd (pExtract x7.1 1) fun x9 =>
    K .normal (act 10 [(4, x8), (5, x9)]) x7.2 := kq_reg
theorem res79_0 : resOfFn env.P 79 .ret (act 10 [(4, x4), (5, x5)]) h = some (.tuple #[x4, x5], h) := kq_res
/-- shadowbook/segment.numbers$5 -/
noncomputable def F79 (inv : Inv) (k : Nat) (x0 x1 : Value) (h : AH) : Option (Value × AH) :=
    bnd (inv (.func 80) #[] #[x0] h) fun x7 =>
    bnd (pExtract x7.1 0) fun x8 =>
    bnd (pExtract x7.1 1) fun x9 =>
    some (.tuple #[x8, x9], x7.2)
theorem F79_eq : eFun env k inv 79 #[x0, x1] h = F79 inv k x0 x1 h := by
      refine (kq_fun (a := act 10 [(0, x0), (1, x1)]) (c := cp c79 1)).trans ?_
      unfold F79
      simp only [kq_seq c79 1, r79_0, kq_seq c79 3, r79_1, kq_ret c79 7, res79_0, reduceIte, reduceCtorEq, XE.exit.injEq, Nat.reduceEqDiff, Nat.reduceMul, Nat.reduceAdd] <;> kernel_rfl
theorem F79_call : eInv env (k + 1) (.func 79) #[] #[x0, x1] h = F79 (eInv env k) k x0 x1 h := kq_inv F79_eq
noncomputable def c80 : Code := codeOf Tryz.prog 80
theorem r80_0  : kCode env 80 false inv k (cp c80 2) (act 69 [(0, x0)]) h K =
    K .normal (act 69 [(0, x0)]) h := kq_reg
theorem r80_1  : kCode env 80 false inv k (cp c80 6) (act 69 [(0, x0)]) h K =
    bnd (inv (.func 58) #[] #[x0] h) fun x14 =>
    K .normal (act 69 [(0, x0), (4, x14.1)]) x14.2 := kq_reg
theorem r80_2  : kCode env 80 false inv k (cp c80 14) (act 69 [(0, x0), (4, x4)]) h K =
    bnd (inv (.func 77) #[] #[x4, (.int .i64 1)] h) fun x17 =>
    bnd (pExtract x17.1 0) fun x18 =>
    bnd (pExtract x17.1 1) fun x19 =>
    bnd (pAlloc Tryz.prog 60 x17.2) fun x5 =>
    bnd (kSt (pStore Tryz.prog 60 x5.1 x18 x5.2)) fun u =>
    K .normal (act 69 [(0, x0), (4, x4), (5, x5.1), (6, x19)]) u.2 := kq_reg
theorem r80_3  : kCode env 80 false inv k (cp c80 60) (act 69 [(0, x0), (4, x4), (5, x5), (6, x6)]) h K =
    bnd (pBin Tryz.prog .neq 25 (.tmp 20) (.const (.int .i64 0)) x6 (.int .i64 0)) fun x21 =>
    K .normal (act 69 [(0, x0), (4, x4), (5, x5), (21, x21)]) h := kq_reg
theorem b80_rlrrr  : kCode env 80 false inv k (cp c80 61) (act 69 [(0, x0), (4, x4), (5, x5), (21, x21)]) h K = brV x21 (kCode env 80 false inv k (cp c80 122) (act 69 [(0, x0), (4, x4), (5, x5), (21, x21)]) h K) (kCode env 80 false inv k (cp c80 123) (act 69 [(0, x0), (4, x4), (5, x5), (21, x21)]) h K) := kq_cond
theorem r80_4  : kCode env 80 false inv k (cp c80 244) (act 69 [(0, x0), (4, x4), (5, x5), (21, x21)]) h K =
    K .normal (act 69 [(2, (.slice none 0 0)), (3, (.int .i64 4))]) h := kq_reg
theorem res80_0 : resOfFn env.P 80 .ret (act 69 [(2, x2), (3, x3)]) h = some (.tuple #[x2, x3], h) := kq_res
theorem r80_5  : kCode env 80 false inv k (cp c80 62) (act 69 [(0, x0), (4, x4), (5, x5), (21, x21)]) h K =
    bnd (inv (.func 92) #[] #[x4] h) fun x24 =>
    bnd (pExtract x24.1 0) fun x25 =>
    bnd (pExtract x24.1 1) fun x26 =>
    K .normal (act 69 [(0, x0), (4, x4), (5, x5), (6, x26), (7, x25)]) x24.2 := kq_reg
noncomputable abbrev G80_6 {β : Type} (inv : Inv) (x0 x4 x5 x6 x7 : Value) (h : AH) (K : Value → AH → Option β) : Option β :=
    bnd (pBin Tryz.prog .neq 25 (.tmp 27) (.const (.int .i64 0)) x6 (.int .i64 0)) fun x28 =>
    bnd (gd (some x28) false h (some (x7, h))) fun x30 =>
    bnd (gd (some x28) false x30.2 (lt (pBin Tryz.prog .gtr 60 (.tmp 30) (.const (.int .u64 4096)) x30.1 (.int .u64 4096)) x30.2)) fun x31 =>
    bnd (pickV x28 (.bool true) x31.1) fun x32 =>
    K (x32) x31.2
theorem r80_6  : kCode env 80 false inv k (cp c80 252) (act 69 [(0, x0), (4, x4), (5, x5), (6, x6), (7, x7)]) h K =
    G80_6 inv x0 x4 x5 x6 x7 h fun y32 h => K .normal (act 69 [(0, x0), (4, x4), (5, x5), (7, x7), (32, y32)]) h := kq_reg
theorem b80_rlrrrrr  : kCode env 80 false inv k (cp c80 253) (act 69 [(0, x0), (4, x4), (5, x5), (7, x7), (32, x32)]) h K = brV x32 (kCode env 80 false inv k (cp c80 506) (act 69 [(0, x0), (4, x4), (5, x5), (7, x7), (32, x32)]) h K) (kCode env 80 false inv k (cp c80 507) (act 69 [(0, x0), (4, x4), (5, x5), (7, x7), (32, x32)]) h K) := kq_cond
theorem r80_7  : kCode env 80 false inv k (cp c80 1012) (act 69 [(0, x0), (4, x4), (5, x5), (7, x7), (32, x32)]) h K =
    K .normal (act 69 [(2, (.slice none 0 0)), (3, (.int .i64 4))]) h := kq_reg
theorem r80_8  : kCode env 80 false inv k (cp c80 254) (act 69 [(0, x0), (4, x4), (5, x5), (7, x7), (32, x32)]) h K =
    bnd (inv (.func 121) #[] #[] h) fun x33 =>
    bnd (pMakeFunc (.func 126) #[] #[x5]) fun x34 =>
    bnd (inv (.func 125) #[] #[x33.1, x34] x33.2) fun x35 =>
    K .normal (act 69 [(0, x0), (4, x4), (7, x7), (8, x35.1)]) x35.2 := kq_reg
theorem r80_9  : kCode env 80 false inv k (cp c80 1020) (act 69 [(0, x0), (4, x4), (7, x7), (8, x8)]) h K =
    bnd (pBin Tryz.prog .lss 3 (.tmp 36) (.const (.int .i64 0)) x8 (.int .i64 0)) fun x37 =>
    K .normal (act 69 [(0, x0), (4, x4), (7, x7), (8, x8), (37, x37)]) h := kq_reg
theorem b80_rlrrrrrrr  : kCode env 80 false inv k (cp c80 1021) (act 69 [(0, x0), (4, x4), (7, x7), (8, x8), (37, x37)]) h K = brV x37 (kCode env 80 false inv k (cp c80 2042) (act 69 [(0, x0), (4, x4), (7, x7), (8, x8), (37, x37)]) h K) (kCode env 80 false inv k (cp c80 2043) (act 69 [(0, x0), (4, x4), (7, x7), (8, x8), (37, x37)]) h K) := kq_cond
theorem r80_10  : kCode env 80 false inv k (cp c80 4084) (act 69 [(0, x0), (4, x4), (7, x7), (8, x8), (37, x37)]) h K =
    K .normal (act 69 [(2, (.slice none 0 0)), (3, (.int .i64 4))]) h := kq_reg
theorem r80_11  : kCode env 80 false inv k (cp c80 1022) (act 69 [(0, x0), (4, x4), (7, x7), (8, x8), (37, x37)]) h K =
    bnd (inv (.func 121) #[] #[] h) fun x38 =>
    bnd (pIndexAddr Tryz.prog 154 x38.1 x8) fun x40 =>
    bnd (pLoad Tryz.prog 158 x40 x38.2) fun x41 =>
    bnd (pAlloc Tryz.prog 158 x38.2) fun x9 =>
    bnd (kSt (pStore Tryz.prog 158 x9.1 x41 x9.2)) fun u =>
    K .normal (act 69 [(0, x0), (4, x4), (7, x7), (9, x9.1)]) u.2 := kq_reg
theorem r80_12  : kCode env 80 false inv k (cp c80 2046) (act 69 [(0, x0), (4, x4), (7, x7), (9, x9)]) h K =
    bnd (pFieldAddr Tryz.prog 158 x9 2) fun x43 =>
    bnd (pLoad Tryz.prog 156 x43 h) fun x44 =>
    bnd (pConv Tryz.prog 60 3 x7 h) fun x47 =>
    bnd (callV inv x44 #[x4, x47] h) fun x48 =>
    bnd (pExtract x48.1 0) fun x49 =>
    bnd (pExtract x48.1 1) fun x50 =>
    K .normal (act 69 [(0, x0), (6, x50), (9, x9), (10, x49)]) x48.2 := kq_reg
theorem r80_13  : kCode env 80 false inv k (cp c80 8188) (act 69 [(0, x0), (6, x6), (9, x9), (10, x10)]) h K =
    bnd (pBin Tryz.prog .neq 25 (.tmp 51) (.const (.int .i64 0)) x6 (.int .i64 0)) fun x52 =>
    K .normal (act 69 [(0, x0), (9, x9), (10, x10), (52, x52)]) h := kq_reg
theorem b80_rlrrrrrrrrrr  : kCode env 80 false inv k (cp c80 8189) (act 69 [(0, x0), (9, x9), (10, x10), (52, x52)]) h K = brV x52 (kCode env 80 false inv k (cp c80 16378) (act 69 [(0, x0), (9, x9), (10, x10), (52, x52)]) h K) (kCode env 80 false inv k (cp c80 16379) (act 69 [(0, x0), (9, x9), (10, x10), (52, x52)]) h K) := kq_cond
theorem r80_14  : kCode env 80 false inv k (cp c80 32756) (act 69 [(0, x0), (9, x9), (10, x10), (52, x52)]) h K =
    K .normal (act 69 [(2, (.slice none 0 0)), (3, (.int .i64 4))]) h := kq_reg
theorem r80_15  : kCode env 80 false inv k (cp c80 16380) (act 69 [(0, x0), (9, x9), (10, x10), (52, x52)]) h K =
    bnd (pFieldAddr Tryz.prog 158 x9 1) fun x54 =>
    bnd (pLoad Tryz.prog 83 x54 h) fun x55 =>
    bnd (callV inv x55 #[x10] h) fun x57 =>
    bnd (pExtract x57.1 0) fun x58 =>
    bnd (pExtract x57.1 1) fun x59 =>
    K .normal (act 69 [(0, x0), (10, x10), (11, x58), (12, x59)]) x57.2 := kq_reg
noncomputable abbrev G80_16 {β : Type} (inv : Inv) (x0 x10 x11 x12 : Value) (h : AH) (K : Value → AH → Option β) : Option β :=
    bnd (pBin Tryz.prog .neq 25 (.tmp 60) (.const (.int .i64 0)) x12 (.int .i64 0)) fun x61 =>
    bnd (gd (some x61) false h (some (x11, h))) fun x63 =>
    bnd (gd (some x61) false x63.2 (some (x0, x63.2))) fun x64 =>
    bnd (gd (some x61) false x64.2 (inv (.func 104) #[] #[x63.1, x64.1] x64.2)) fun x65 =>
    bnd (gd (some x61) false x65.2 (lt (pUn Tryz.prog .not x65.1) x65.2)) fun x66 =>
    bnd (pickV x61 (.bool true) x66.1) fun x67 =>
    K (x67) x66.2
theorem r80_16  : kCode env 80 false inv k (cp c80 32762) (act 69 [(0, x0), (10, x10), (11, x11), (12, x12)]) h K =
    G80_16 inv x0 x10 x11 x12 h fun y67 h => K .normal (act 69 [(10, x10), (67, y67)]) h := kq_reg
theorem b80_rrlrrrrrrrrrrr  : kCode env 80 false inv k (cp c80 32763) (act 69 [(10, x10), (67, x67)]) h K = brV x67 (kCode env 80 false inv k (cp c80 65526) (act 69 [(10, x10), (67, x67)]) h K) (kCode env 80 false inv k (cp c80 65527) (act 69 [(10, x10), (67, x67)]) h K) := kq_cond
theorem r80_17  : kCode env 80 false inv k (cp c80 131052) (act 69 [(10, x10), (67, x67)]) h K =
    K .normal (act 69 [(2, (.slice none 0 0)), (3, (.int .i64 4))]) h := kq_reg
theorem r80_18  : kCode env 80 false inv k (cp c80 16382) (act 69 [(10, x10), (67, x67)]) h K =
    K .normal (act 69 [(2, x10), (3, (.int .i64 0))]) h := kq_reg
/-- shadowbook/ints.Get -/
noncomputable def F80 (inv : Inv) (k : Nat) (x0 : Value) (h : AH) : Option (Value × AH) :=
    bnd (inv (.func 58) #[] #[x0] h) fun x14 =>
    bnd (inv (.func 77) #[] #[x14.1, (.int .i64 1)] x14.2) fun x17 =>
    bnd (pExtract x17.1 0) fun x18 =>
    bnd (pExtract x17.1 1) fun x19 =>
    bnd (pAlloc Tryz.prog 60 x17.2) fun x5 =>
    bnd (kSt (pStore Tryz.prog 60 x5.1 x18 x5.2)) fun u =>
    bnd (pBin Tryz.prog .neq 25 (.tmp 20) (.const (.int .i64 0)) x19 (.int .i64 0)) fun x21 =>
    brV x21
    (some (.tuple #[(.slice none 0 0), (.int .i64 4)], u.2))
    (bnd (inv (.func 92) #[] #[x14.1] u.2) fun x24 =>
    bnd (pExtract x24.1 0) fun x25 =>
    bnd (pExtract x24.1 1) fun x26 =>
    G80_6 inv x0 x14.1 x5.1 x26 x25 x24.2 fun y32 h =>
    brV y32
    (some (.tuple #[(.slice none 0 0), (.int .i64 4)], h))
    (bnd (inv (.func 121) #[] #[] h) fun x33 =>
    bnd (pMakeFunc (.func 126) #[] #[x5.1]) fun x34 =>
    bnd (inv (.func 125) #[] #[x33.1, x34] x33.2) fun x35 =>
    bnd (pBin Tryz.prog .lss 3 (.tmp 36) (.const (.int .i64 0)) x35.1 (.int .i64 0)) fun x37 =>
    brV x37
    (some (.tuple #[(.slice none 0 0), (.int .i64 4)], x35.2))
    (bnd (inv (.func 121) #[] #[] x35.2) fun x38 =>
    bnd (pIndexAddr Tryz.prog 154 x38.1 x35.1) fun x40 =>
    bnd (pLoad Tryz.prog 158 x40 x38.2) fun x41 =>
    bnd (pAlloc Tryz.prog 158 x38.2) fun x9 =>
    bnd (kSt (pStore Tryz.prog 158 x9.1 x41 x9.2)) fun u_1 =>
    bnd (pFieldAddr Tryz.prog 158 x9.1 2) fun x43 =>
    bnd (pLoad Tryz.prog 156 x43 u_1.2) fun x44 =>
    bnd (pConv Tryz.prog 60 3 x25 u_1.2) fun x47 =>
    bnd (callV inv x44 #[x14.1, x47] u_1.2) fun x48 =>
    bnd (pExtract x48.1 0) fun x49 =>
    bnd (pExtract x48.1 1) fun x50 =>
    bnd (pBin Tryz.prog .neq 25 (.tmp 51) (.const (.int .i64 0)) x50 (.int .i64 0)) fun x52 =>
    brV x52
    (some (.tuple #[(.slice none 0 0), (.int .i64 4)], x48.2))
    (bnd (pFieldAddr Tryz.prog 158 x9.1 1) fun x54 =>
    bnd (pLoad Tryz.prog 83 x54 x48.2) fun x55 =>
    bnd (callV inv x55 #[x49] x48.2) fun x57 =>
    bnd (pExtract x57.1 0) fun x58 =>
    bnd (pExtract x57.1 1) fun x59 =>
    G80_16 inv x0 x49 x58 x59 x57.2 fun y67 h_2 =>
    brV y67
    (some (.tuple #[(.slice none 0 0), (.int .i64 4)], h_2))
    (some (.tuple #[x49, (.int .i64 0)], h_2))))))
theorem F80_eq : eFun env k inv 80 #[x0] h = F80 inv k x0 h := by
      refine (kq_fun (a := act 69 [(0, x0)]) (c := cp c80 1)).trans ?_
      unfold F80
      simp only [kq_seq c80 1, r80_0, kq_seq c80 3, r80_1, kq_seq c80 7, r80_2, kq_seq c80 15, kq_seq c80 30, r80_3, b80_rlrrr, kq_seq c80 122, r80_4, kq_ret c80 245, res80_0, kq_skip c80 123, kq_seq c80 31, r80_5, kq_seq c80 63, kq_seq c80 126, r80_6, b80_rlrrrrr, kq_seq c80 506, r80_7, kq_ret c80 1013, kq_skip c80 507, kq_seq c80 127, r80_8, kq_seq c80 255, kq_seq c80 510, r80_9, b80_rlrrrrrrr, kq_seq c80 2042, r80_10, kq_ret c80 4085, kq_skip c80 2043, kq_seq c80 511, r80_11, kq_seq c80 1023, r80_12, kq_seq c80 2047, kq_seq c80 4094, r80_13, b80_rlrrrrrrrrrr, kq_seq c80 16378, r80_14, kq_ret c80 32757, kq_skip c80 16379, kq_seq c80 4095, kq_seq c80 8190, r80_15, kq_seq c80 16381, r80_16, b80_rrlrrrrrrrrrrr, kq_seq c80 65526, r80_17, kq_ret c80 131053, kq_skip c80 65527, kq_seq c80 8191, r80_18, kq_ret c80 16383, reduceIte, reduceCtorEq, XE.exit.injEq, Nat.reduceEqDiff, Nat.reduceMul, Nat.reduceAdd] <;> kernel_rfl
theorem F80_call : eInv env (k + 1) (.func 80) #[] #[x0] h = F80 (eInv env k) k x0 h := kq_inv F80_eq
noncomputable def c81 : Code := codeOf Tryz.prog 81
theorem r81_0  : kCode env 81 false inv k (cp c81 2) (act 6 [(0, x0)]) h K =
    bnd (pBox Tryz.prog 31 x0 h) fun x1 =>
    K .normal (act 6 [(1, x1.1)]) x1.2 := kq_reg
theorem r81_1  : kCode env 81 false inv k (cp c81 6) (act 6 [(1, x1)]) h K =
    bnd (pFieldAddr Tryz.prog 31 x1 1) fun x3 =>
    bnd (pLoad Tryz.prog 2 x3 h) fun x4 =>
    bnd (pConv Tryz.prog 2 60 x4 h) fun x5 =>
    K .normal (act 6 [(2, x5)]) h := kq_reg
theorem res81_0 : resOfFn env.P 81 .ret (act 6 [(2, x2)]) h = some (x2, h) := kq_res
/-- shadowbook/segment.truths$1 -/
noncomputable def F81 (inv : Inv) (k : Nat) (x0 : Value) (h : AH) : Option (Value × AH) :=
    bnd (pBox Tryz.prog 31 x0 h) fun x1 =>
    bnd (pFieldAddr Tryz.prog 31 x1.1 1) fun x3 =>
    bnd (pLoad Tryz.prog 2 x3 x1.2) fun x4 =>
    bnd (pConv Tryz.prog 2 60 x4 x1.2) fun x5 =>
    some (x5, x1.2)
theorem F81_eq : eFun env k inv 81 #[x0] h = F81 inv k x0 h := by
      refine (kq_fun (a := act 6 [(0, x0)]) (c := cp c81 1)).trans ?_
      unfold F81
      simp only [kq_seq c81 1, r81_0, kq_seq c81 3, r81_1, kq_ret c81 7, res81_0, reduceIte, reduceCtorEq, XE.exit.injEq, Nat.reduceEqDiff, Nat.reduceMul, Nat.reduceAdd] <;> kernel_rfl
theorem F81_call : eInv env (k + 1) (.func 81) #[] #[x0] h = F81 (eInv env k) k x0 h := kq_inv F81_eq
noncomputable def c82 : Code := codeOf Tryz.prog 82
theorem r82_0  : kCode env 82 false inv k (cp c82 2) (act 6 [(0, x0)]) h K =
    bnd (pAlloc Tryz.prog 31 h) fun x2 =>
    K .normal (act 6 [(0, x0), (2, x2.1)]) x2.2 := kq_reg
theorem r82_1  : kCode env 82 false inv k (cp c82 6) (act 6 [(0, x0), (2, x2)]) h K =
    bnd (pConv Tryz.prog 60 2 x0 h) fun x4 =>
    bnd (pBuild Tryz.prog 31 #[(0, (.int .i64 2)), (1, x4)]) fun x5 =>
    bnd (kSt (pStore Tryz.prog 31 x2 x5 h)) fun u =>
    K .normal (act 6 [(2, x2)]) u.2 := kq_reg
theorem res82_0 : resOfFn env.P 82 .ret (act 6 [(2, x2)]) h = bnd (pLoad Tryz.prog 31 x2 h) fun q0 =>
    some (q0, h) := kq_res
/-- shadowbook/segment.truths$2 -/
noncomputable def F82 (inv : Inv) (k : Nat) (x0 : Value) (h : AH) : Option (Value × AH) :=
    bnd (pAlloc Tryz.prog 31 h) fun x2 =>
    bnd (pConv Tryz.prog 60 2 x0 x2.2) fun x4 =>
    bnd (pBuild Tryz.prog 31 #[(0, (.int .i64 2)), (1, x4)]) fun x5 =>
    bnd (kSt (pStore Tryz.prog 31 x2.1 x5 x2.2)) fun u =>
    bnd (pLoad Tryz.prog 31 x2.1 u.2) fun q0 =>
    some (q0, u.2)
theorem F82_eq : eFun env k inv 82 #[x0] h = F82 inv k x0 h := by
      refine (kq_fun (a := act 6 [(0, x0)]) (c := cp c82 1)).trans ?_
      unfold F82
      simp only [kq_seq c82 1, r82_0, kq_seq c82 3, r82_1, kq_ret c82 7, res82_0, reduceIte, reduceCtorEq, XE.exit.injEq, Nat.reduceEqDiff, Nat.reduceMul, Nat.reduceAdd] <;> kernel_rfl
theorem F82_call : eInv env (k + 1) (.func 82) #[] #[x0] h = F82 (eInv env k) k x0 h := kq_inv F82_eq
noncomputable def c83 : Code := codeOf Tryz.prog 83
theorem r83_0  : kCode env 83 false inv k (cp c83 2) (act 10 [(0, x0), (1, x1)]) h K =
    K .normal (act 10 [(0, x0), (1, x1)]) h := kq_reg
theorem r83_1  : kCode env 83 false inv k (cp c83 6) (act 10 [(0, x0), (1, x1)]) h K =
    bnd (pConv Tryz.prog 60 5 x1 h) fun x7 =>
    bnd (pBuildSlice Tryz.prog 33 1 #[(0, x7)] h) fun x8 =>
    bnd (pAppend Tryz.prog #[33, 33] x0 x8.1 x8.2) fun x9 =>
    K .normal (act 10 [(4, x9.1)]) x9.2 := kq_reg
theorem res83_0 : resOfFn env.P 83 .ret (act 10 [(4, x4)]) h = some (x4, h) := kq_res
/-- shadowbook/segment.truths$3 -/
noncomputable def F83 (inv : Inv) (k : Nat) (x0 x1 : Value) (h : AH) : Option (Value × AH) :=
    bnd (pConv Tryz.prog 60 5 x1 h) fun x7 =>
    bnd (pBuildSlice Tryz.prog 33 1 #[(0, x7)] h) fun x8 =>
    bnd (pAppend Tryz.prog #[33, 33] x0 x8.1 x8.2) fun x9 =>
    some (x9.1, x9.2)
theorem F83_eq : eFun env k inv 83 #[x0, x1] h = F83 inv k x0 x1 h := by
      refine (kq_fun (a := act 10 [(0, x0), (1, x1)]) (c := cp c83 1)).trans ?_
      unfold F83
      simp only [kq_seq c83 1, r83_0, kq_seq c83 3, r83_1, kq_ret c83 7, res83_0, reduceIte, reduceCtorEq, XE.exit.injEq, Nat.reduceEqDiff, Nat.reduceMul, Nat.reduceAdd] <;> kernel_rfl
theorem F83_call : eInv env (k + 1) (.func 83) #[] #[x0, x1] h = F83 (eInv env k) k x0 x1 h := kq_inv F83_eq
noncomputable def c84 : Code := codeOf Tryz.prog 84
theorem r84_0  : kCode env 84 false inv k (cp c84 2) (act 8 [(0, x0)]) h K =
    K .normal (act 8 [(0, x0)]) h := kq_reg
theorem r84_1  : kCode env 84 false inv k (cp c84 6) (act 8 [(0, x0)]) h K =
    bnd (inv (.func 77) #[] #[x0, (.int .i64 1)] h) fun x5 =>
    bnd (pExtract x5.1 0) fun x6 =>
    bnd (pExtract x5.1 1) fun x7 =>
    K .normal (act 8 [(2, x6), (3, x7)]) x5.2 := kq_reg
theorem res84_0 : resOfFn env.P 84 .ret (act 8 [(2, x2), (3, x3)]) h = some (.tuple #[x2, x3], h) := kq_res
/-- shadowbook/segment.truths$4 -/
noncomputable def F84 (inv : Inv) (k : Nat) (x0 : Value) (h : AH) : Option (Value × AH) :=
    bnd (inv (.func 77) #[] #[x0, (.int .i64 1)] h) fun x5 =>
    bnd (pExtract x5.1 0) fun x6 =>
    bnd (pExtract x5.1 1) fun x7 =>
    some (.tuple #[x6, x7], x5.2)
theorem F84_eq : eFun env k inv 84 #[x0] h = F84 inv k x0 h := by
      refine (kq_fun (a := act 8 [(0, x0)]) (c := cp c84 1)).trans ?_
      unfold F84
      simp only [kq_seq c84 1, r84_0, kq_seq c84 3, r84_1, kq_ret c84 7, res84_0, reduceIte, reduceCtorEq, XE.exit.injEq, Nat.reduceEqDiff, Nat.reduceMul, Nat.reduceAdd] <;> kernel_rfl
theorem F84_call : eInv env (k + 1) (.func 84) #[] #[x0] h = F84 (eInv env k) k x0 h := kq_inv F84_eq
noncomputable def c85 : Code := codeOf Tryz.prog 85
theorem r85_0  : kCode env 85 false inv k (cp c85 2) (act 8 [(0, x0)]) h K =
    K .normal (act 8 [(0, x0)]) h := kq_reg
theorem r85_1  : kCode env 85 false inv k (cp c85 6) (act 8 [(0, x0)]) h K =
    bnd (inv (.func 49) #[] #[x0, (.int .i64 1)] h) fun x5 =>
    bnd (pExtract x5.1 0) fun x6 =>
    bnd (pExtract x5.1 1) fun x7 =>
    K .normal (act 8 [(2, x6), (3, x7)]) x5.2 := kq_reg
theorem res85_0 : resOfFn env.P 85 .ret (act 8 [(2, x2), (3, x3)]) h = some (.tuple #[x2, x3], h) := kq_res
/-- shadowbook/segment.truths$5 -/
noncomputable def F85 (inv : Inv) (k : Nat) (x0 : Value) (h : AH) : Option (Value × AH) :=
    bnd (inv (.func 49) #[] #[x0, (.int .i64 1)] h) fun x5 =>
    bnd (pExtract x5.1 0) fun x6 =>
    bnd (pExtract x5.1 1) fun x7 =>
    some (.tuple #[x6, x7], x5.2)
theorem F85_eq : eFun env k inv 85 #[x0] h = F85 inv k x0 h := by
      refine (kq_fun (a := act 8 [(0, x0)]) (c := cp c85 1)).trans ?_
      unfold F85
      simp only [kq_seq c85 1, r85_0, kq_seq c85 3, r85_1, kq_ret c85 7, res85_0, reduceIte, reduceCtorEq, XE.exit.injEq, Nat.reduceEqDiff, Nat.reduceMul, Nat.reduceAdd] <;> kernel_rfl
theorem F85_call : eInv env (k + 1) (.func 85) #[] #[x0] h = F85 (eInv env k) k x0 h := kq_inv F85_eq
noncomputable def c86 : Code := codeOf Tryz.prog 86
theorem r86_0  : kCode env 86 false inv k (cp c86 2) (act 11 [(0, x0), (1, x1)]) h K =
    K .normal (act 11 [(0, x0), (1, x1)]) h := kq_reg
theorem r86_1  : kCode env 86 false inv k (cp c86 6) (act 11 [(0, x0), (1, x1)]) h K =
    bnd (inv (.func 87) #[] #[x0, x1, (.int .i64 1)] h) fun x8 =>
    bnd (pExtract x8.1 0) fun x9 =>
    bnd (pExtract x8.1 1) fun x10 =>
    K .normal (act 11 [(4, x9), (5, x10)]) x8.2 := kq_reg
theorem res86_0 : resOfFn env.P 86 .ret (act 11 [(4, x4), (5, x5)]) h = some (.tuple #[x4, x5], h) := kq_res
/-- shadowbook/segment.truths$6 -/
noncomputable def F86 (inv : Inv) (k : Nat) (x0 x1 : Value) (h : AH) : Option (Value × AH) :=
    bnd (inv (.func 87) #[] #[x0, x1, (.int .i64 1)] h) fun x8 =>
    bnd (pExtract x8.1 0) fun x9 =>
    bnd (pExtract x8.1 1) fun x10 =>
    some (.tuple #[x9, x10], x8.2)
theorem F86_eq : eFun env k inv 86 #[x0, x1] h = F86 inv k x0 x1 h := by
      refine (kq_fun (a := act 11 [(0, x0), (1, x1)]) (c := cp c86 1)).trans ?_
      unfold F86
      simp only [kq_seq c86 1, r86_0, kq_seq c86 3, r86_1, kq_ret c86 7, res86_0, reduceIte, reduceCtorEq, XE.exit.injEq, Nat.reduceEqDiff, Nat.reduceMul, Nat.reduceAdd] <;> kernel_rfl
theorem F86_call : eInv env (k + 1) (.func 86) #[] #[x0, x1] h = F86 (eInv env k) k x0 x1 h := kq_inv F86_eq
noncomputable def c87 : Code := codeOf Tryz.prog 87
theorem r87_0  : kCode env 87 false inv k (cp c87 2) (act 30 [(0, x0), (1, x1), (2, x2)]) h K =
    K .normal (act 30 [(0, x0), (1, x1), (2, x2), (6, (.slice none 0 0)), (7, (.int .i64 0))]) h := kq_reg
theorem r87_1  : kCode env 87 false inv k (cp c87 12) (act 30 [(0, x0), (1, x1), (2, x2), (6, x6), (7, x7)]) h K =
    bnd (inv (.func 127) #[] #[x0, x1, x2] h) fun x15 =>
    K .normal (act 30 [(0, x0), (1, x1), (2, x2), (6, x6), (7, x7), (8, x15.1)]) x15.2 := kq_reg
theorem r87_2  : kCode env 87 false inv k (cp c87 26) (act 30 [(0, x0), (1, x1), (2, x2), (6, x6), (7, x7), (8, x8)]) h K =
    bnd (pBin Tryz.prog .neq 25 (.tmp 16) (.const (.int .i64 0)) x8 (.int .i64 0)) fun x17 =>
    K .normal (act 30 [(0, x0), (1, x1), (2, x2), (6, x6), (7, x7), (8, x8), (17, x17)]) h := kq_reg
theorem b87_rrlr  : kCode env 87 false inv k (cp c87 27) (act 30 [(0, x0), (1, x1), (2, x2), (6, x6), (7, x7), (8, x8), (17, x17)]) h K = brV x17 (kCode env 87 false inv k (cp c87 54) (act 30 [(0, x0), (1, x1), (2, x2), (6, x6), (7, x7), (8, x8), (17, x17)]) h K) (kCode env 87 false inv k (cp c87 55) (act 30 [(0, x0), (1, x1), (2, x2), (6, x6), (7, x7), (8, x8), (17, x17)]) h K) := kq_cond
theorem r87_3  : kCode env 87 false inv k (cp c87 108) (act 30 [(0, x0), (1, x1), (2, x2), (6, x6), (7, x7), (8, x8), (17, x17)]) h K =
    K .normal (act 30 [(6, (.slice none 0 0)), (7, x8)]) h := kq_reg
theorem res87_0 : resOfFn env.P 87 .ret (act 30 [(6, x6), (7, x7)]) h = some (.tuple #[x6, x7], h) := kq_res
theorem r87_4  : kCode env 87 false inv k (cp c87 14) (act 30 [(0, x0), (1, x1), (2, x2), (6, x6), (7, x7), (8, x8), (17, x17)]) h K =
    bnd (pAlloc Tryz.prog 63 h) fun x9 =>
    K .normal (act 30 [(0, x0), (1, x1), (2, x2), (6, x6), (7, x7), (9, x9.1)]) x9.2 := kq_reg
theorem r87_5  : kCode env 87 false inv k (cp c87 60) (act 30 [(0, x0), (1, x1), (2, x2), (6, x6), (7, x7), (9, x9)]) h K =
    bnd (inv (.func 128) #[] #[x0, x1, x2] h) fun x22 =>
    K .normal (act 30 [(6, x6), (7, x7), (9, x9), (22, x22.1)]) x22.2 := kq_reg
theorem g87_lrlrrr  : kCode env 87 false inv k (cp c87 122) (act 30 [(6, x6), (7, x7), (9, x9), (22, x22)]) h K = kRange env 87 inv x22 (psOf (cp c87 122)) (cp c87 244) (cp c87 245) (act 30 [(6, x6), (7, x7), (9, x9), (22, x22)]) h fun e h => sw e (K .normal (act 30 [(6, x6), (7, x7), (9, x9), (22, x22)]) h) (none) [] := kq_range (g := x22) (ids := [])
noncomputable def F87_rlrrr {β : Type} (inv : Inv) (k : Nat) (x6 x7 x9 x22 : Value) (h : AH) (kn : (Value → Value → Value → Value → AH → Option β)) : Option β :=
    kRange env 87 inv x22 (psOf (cp c87 122)) (cp c87 244) (cp c87 245) (act 30 [(6, x6), (7, x7), (9, x9), (22, x22)]) h fun e h => sw e
    (kn x6 x7 x9 x22 h)
    none []
theorem F87_rlrrr_eq  : kCode env 87 false inv k (cp c87 61) (act 30 [(6, x6), (7, x7), (9, x9), (22, x22)]) h K = F87_rlrrr inv k x6 x7 x9 x22 h (fun y6 y7 y9 y22 h => K .normal (act 30 [(6, y6), (7, y7), (9, y9), (22, y22)]) h) := by
      unfold F87_rlrrr
      simp only [kq_block c87 61 0, g87_lrlrrr, reduceIte, reduceCtorEq, XE.exit.injEq, Nat.reduceEqDiff, Nat.reduceMul, Nat.reduceAdd] <;> kernel_rfl
theorem r87_8  : kCode env 87 false inv k (cp c87 62) (act 30 [(6, x6), (7, x7), (9, x9), (22, x22)]) h K =
    bnd (pLoad Tryz.prog 63 x9 h) fun x29 =>
    K .normal (act 30 [(6, x29), (7, (.int .i64 0))]) h := kq_reg
/-- shadowbook/packs.Get -/
noncomputable def F87 (inv : Inv) (k : Nat) (x0 x1 x2 : Value) (h : AH) : Option (Value × AH) :=
    bnd (inv (.func 127) #[] #[x0, x1, x2] h) fun x15 =>
    bnd (pBin Tryz.prog .neq 25 (.tmp 16) (.const (.int .i64 0)) x15.1 (.int .i64 0)) fun x17 =>
    brV x17
    (some (.tuple #[(.slice none 0 0), x15.1], x15.2))
    (bnd (pAlloc Tryz.prog 63 x15.2) fun x9 =>
    bnd (inv (.func 128) #[] #[x0, x1, x2] x9.2) fun x22 =>
    F87_rlrrr inv k (.slice none 0 0) (.int .i64 0) x9.1 x22.1 x22.2
    (fun y6 y7 y9 y22 h =>
    bnd (pLoad Tryz.prog 63 y9 h) fun x29 =>
    some (.tuple #[x29, (.int .i64 0)], h)))
theorem F87_eq : eFun env k inv 87 #[x0, x1, x2] h = F87 inv k x0 x1 x2 h := by
      refine (kq_fun (a := act 30 [(0, x0), (1, x1), (2, x2)]) (c := cp c87 1)).trans ?_
      unfold F87
      simp only [kq_seq c87 1, r87_0, kq_seq c87 3, kq_seq c87 6, r87_1, kq_seq c87 13, r87_2, b87_rrlr, kq_seq c87 54, r87_3, kq_ret c87 109, res87_0, kq_skip c87 55, kq_seq c87 7, r87_4, kq_seq c87 15, kq_seq c87 30, r87_5, F87_rlrrr_eq, kq_seq c87 31, r87_8, kq_ret c87 63, reduceIte, reduceCtorEq, XE.exit.injEq, Nat.reduceEqDiff, Nat.reduceMul, Nat.reduceAdd] <;> kernel_rfl
theorem F87_call : eInv env (k + 1) (.func 87) #[] #[x0, x1, x2] h = F87 (eInv env k) k x0 x1 x2 h := kq_inv F87_eq
theorem r87_6  : kCode env 87 true inv k (cp c87 244) (act 30 [(6, x6), (7, x7), (9, x9), (22, x22), (23, x23), (24, x24)]) h K =
    K .normal (act 30 [(9, x9), (11, x24)]) h := kq_reg
theorem r87_7  : kCode env 87 true inv k (cp c87 490) (act 30 [(9, x9), (11, x11)]) h K =
    bnd (pLoad Tryz.prog 63 x9 h) fun x25 =>
    bnd (pBuildSlice Tryz.prog 63 1 #[(0, x11)] h) fun x27 =>
    bnd (pAppend Tryz.prog #[63, 63] x25 x27.1 x27.2) fun x28 =>
    bnd (kSt (pStore Tryz.prog 63 x9 x28.1 x28.2)) fun u =>
    K .normal (act 30 []) u.2 := kq_reg
noncomputable def R87_lrlrrr (inv : Inv) (k l : Nat) (x6 x7 x9 x22 z0 z1 : Value) (h : AH) : Option (Value × AH) :=
    rdBegin l h fun h =>
    bnd (pLoad Tryz.prog 63 x9 h) fun x25 =>
    bnd (pBuildSlice Tryz.prog 63 1 #[(0, z1)] h) fun x27 =>
    bnd (pAppend Tryz.prog #[63, 63] x25 x27.1 x27.2) fun x28 =>
    bnd (kSt (pStore Tryz.prog 63 x9 x28.1 x28.2)) fun u =>
    rdEnd l .normal u.2
theorem R87_lrlrrr_eq {l : Nat} {pd : Option Code} (hl : h.get l = some (.loop .ready pd 87 (act 30 [(6, x6), (7, x7), (9, x9), (22, x22)]).tmps (psOf (cp c87 122)) (cp c87 244) (cp c87 245))) : eRound env k inv l #[z0, z1] h = R87_lrlrrr inv k l x6 x7 x9 x22 z0 z1 h := by
      refine (eRound_k (a := act 30 [(6, x6), (7, x7), (9, x9), (22, x22), (23, z0), (24, z1)]) hl (by kernel_rfl) (by kernel_rfl)).trans ?_
      unfold R87_lrlrrr
      simp only [r87_6, kq_block c87 245 1, r87_7, reduceIte, reduceCtorEq, XE.exit.injEq, Nat.reduceEqDiff, Nat.reduceMul, Nat.reduceAdd] <;> kernel_rfl
noncomputable def c88 : Code := codeOf Tryz.prog 88
theorem r88_0  : kCode env 88 false inv k (cp c88 2) (act 5 [(0, x0)]) h K =
    bnd (pBox Tryz.prog 31 x0 h) fun x1 =>
    K .normal (act 5 [(1, x1.1)]) x1.2 := kq_reg
theorem r88_1  : kCode env 88 false inv k (cp c88 6) (act 5 [(1, x1)]) h K =
    bnd (pFieldAddr Tryz.prog 31 x1 2) fun x3 =>
    bnd (pLoad Tryz.prog 9 x3 h) fun x4 =>
    K .normal (act 5 [(2, x4)]) h := kq_reg
theorem res88_0 : resOfFn env.P 88 .ret (act 5 [(2, x2)]) h = some (x2, h) := kq_res
/-- shadowbook/segment.words$1 -/
noncomputable def F88 (inv : Inv) (k : Nat) (x0 : Value) (h : AH) : Option (Value × AH) :=
    bnd (pBox Tryz.prog 31 x0 h) fun x1 =>
    bnd (pFieldAddr Tryz.prog 31 x1.1 2) fun x3 =>
    bnd (pLoad Tryz.prog 9 x3 x1.2) fun x4 =>
    some (x4, x1.2)
theorem F88_eq : eFun env k inv 88 #[x0] h = F88 inv k x0 h := by
      refine (kq_fun (a := act 5 [(0, x0)]) (c := cp c88 1)).trans ?_
      unfold F88
      simp only [kq_seq c88 1, r88_0, kq_seq c88 3, r88_1, kq_ret c88 7, res88_0, reduceIte, reduceCtorEq, XE.exit.injEq, Nat.reduceEqDiff, Nat.reduceMul, Nat.reduceAdd] <;> kernel_rfl
theorem F88_call : eInv env (k + 1) (.func 88) #[] #[x0] h = F88 (eInv env k) k x0 h := kq_inv F88_eq
noncomputable def c89 : Code := codeOf Tryz.prog 89
theorem r89_0  : kCode env 89 false inv k (cp c89 2) (act 5 [(0, x0)]) h K =
    bnd (pAlloc Tryz.prog 31 h) fun x2 =>
    K .normal (act 5 [(0, x0), (2, x2.1)]) x2.2 := kq_reg
theorem r89_1  : kCode env 89 false inv k (cp c89 6) (act 5 [(0, x0), (2, x2)]) h K =
    bnd (pBuild Tryz.prog 31 #[(0, (.int .i64 3)), (2, x0)]) fun x4 =>
    bnd (kSt (pStore Tryz.prog 31 x2 x4 h)) fun u =>
    K .normal (act 5 [(2, x2)]) u.2 := kq_reg
theorem res89_0 : resOfFn env.P 89 .ret (act 5 [(2, x2)]) h = bnd (pLoad Tryz.prog 31 x2 h) fun q0 =>
    some (q0, h) := kq_res
/-- shadowbook/segment.words$2 -/
noncomputable def F89 (inv : Inv) (k : Nat) (x0 : Value) (h : AH) : Option (Value × AH) :=
    bnd (pAlloc Tryz.prog 31 h) fun x2 =>
    bnd (pBuild Tryz.prog 31 #[(0, (.int .i64 3)), (2, x0)]) fun x4 =>
    bnd (kSt (pStore Tryz.prog 31 x2.1 x4 x2.2)) fun u =>
    bnd (pLoad Tryz.prog 31 x2.1 u.2) fun q0 =>
    some (q0, u.2)
theorem F89_eq : eFun env k inv 89 #[x0] h = F89 inv k x0 h := by
      refine (kq_fun (a := act 5 [(0, x0)]) (c := cp c89 1)).trans ?_
      unfold F89
      simp only [kq_seq c89 1, r89_0, kq_seq c89 3, r89_1, kq_ret c89 7, res89_0, reduceIte, reduceCtorEq, XE.exit.injEq, Nat.reduceEqDiff, Nat.reduceMul, Nat.reduceAdd] <;> kernel_rfl
theorem F89_call : eInv env (k + 1) (.func 89) #[] #[x0] h = F89 (eInv env k) k x0 h := kq_inv F89_eq
noncomputable def c90 : Code := codeOf Tryz.prog 90
theorem r90_0  : kCode env 90 false inv k (cp c90 2) (act 12 [(0, x0), (1, x1)]) h K =
    K .normal (act 12 [(0, x0), (1, x1)]) h := kq_reg
theorem r90_1  : kCode env 90 false inv k (cp c90 6) (act 12 [(0, x0), (1, x1)]) h K =
    bnd (pLen Tryz.prog #[9] x1 h) fun x7 =>
    bnd (pConv Tryz.prog 3 60 x7 h) fun x8 =>
    bnd (inv (.func 47) #[] #[x0, x8] h) fun x9 =>
    bnd (pAppend Tryz.prog #[33, 9] x9.1 x1 x9.2) fun x11 =>
    K .normal (act 12 [(4, x11.1)]) x11.2 := kq_reg
theorem res90_0 : resOfFn env.P 90 .ret (act 12 [(4, x4)]) h = some (x4, h) := kq_res
/-- shadowbook/segment.words$3 -/
noncomputable def F90 (inv : Inv) (k : Nat) (x0 x1 : Value) (h : AH) : Option (Value × AH) :=
    bnd (pLen Tryz.prog #[9] x1 h) fun x7 =>
    bnd (pConv Tryz.prog 3 60 x7 h) fun x8 =>
    bnd (inv (.func 47) #[] #[x0, x8] h) fun x9 =>
    bnd (pAppend Tryz.prog #[33, 9] x9.1 x1 x9.2) fun x11 =>
    some (x11.1, x11.2)
theorem F90_eq : eFun env k inv 90 #[x0, x1] h = F90 inv k x0 x1 h := by
      refine (kq_fun (a := act 12 [(0, x0), (1, x1)]) (c := cp c90 1)).trans ?_
      unfold F90
      simp only [kq_seq c90 1, r90_0, kq_seq c90 3, r90_1, kq_ret c90 7, res90_0, reduceIte, reduceCtorEq, XE.exit.injEq, Nat.reduceEqDiff, Nat.reduceMul, Nat.reduceAdd] <;> kernel_rfl
theorem F90_call : eInv env (k + 1) (.func 90) #[] #[x0, x1] h = F90 (eInv env k) k x0 x1 h := kq_inv F90_eq
noncomputable def c91 : Code := codeOf Tryz.prog 91
theorem r91_0  : kCode env 91 false inv k (cp c91 2) (act 28 [(0, x0)]) h K =
    K .normal (act 28 [(0, x0)]) h := kq_reg
theorem r91_1  : kCode env 91 false inv k (cp c91 6) (act 28 [(0, x0)]) h K =
    bnd (inv (.func 92) #[] #[x0] h) fun x9 =>
    bnd (pExtract x9.1 0) fun x10 =>
    bnd (pExtract x9.1 1) fun x11 =>
    K .normal (act 28 [(0, x0), (4, x10), (5, x11)]) x9.2 := kq_reg
noncomputable abbrev G91_2 {β : Type} (inv : Inv) (x0 x4 x5 : Value) (h : AH) (K : Value → AH → Option β) : Option β :=
    bnd (pBin Tryz.prog .neq 25 (.tmp 12) (.const (.int .i64 0)) x5 (.int .i64 0)) fun x13 =>
    bnd (gd (some x13) false h (some (x4, h))) fun x15 =>
    bnd (gd (some x13) false x15.2 (lt (pBin Tryz.prog .gtr 60 (.tmp 15) (.const (.int .u64 65536)) x15.1 (.int .u64 65536)) x15.2)) fun x16 =>
    bnd (pickV x13 (.bool true) x16.1) fun x17 =>
    K (x17) x16.2
theorem r91_2  : kCode env 91 false inv k (cp c91 28) (act 28 [(0, x0), (4, x4), (5, x5)]) h K =
    G91_2 inv x0 x4 x5 h fun y17 h => K .normal (act 28 [(0, x0), (4, x4), (17, y17)]) h := kq_reg
theorem b91_rlrr  : kCode env 91 false inv k (cp c91 29) (act 28 [(0, x0), (4, x4), (17, x17)]) h K = brV x17 (kCode env 91 false inv k (cp c91 58) (act 28 [(0, x0), (4, x4), (17, x17)]) h K) (kCode env 91 false inv k (cp c91 59) (act 28 [(0, x0), (4, x4), (17, x17)]) h K) := kq_cond
theorem r91_3  : kCode env 91 false inv k (cp c91 116) (act 28 [(0, x0), (4, x4), (17, x17)]) h K =
    K .normal (act 28 [(2, (.string { data := #[] })), (3, (.int .i64 4))]) h := kq_reg
theorem res91_0 : resOfFn env.P 91 .ret (act 28 [(2, x2), (3, x3)]) h = some (.tuple #[x2, x3], h) := kq_res
theorem r91_4  : kCode env 91 false inv k (cp c91 30) (act 28 [(0, x0), (4, x4), (17, x17)]) h K =
    bnd (pConv Tryz.prog 60 3 x4 h) fun x21 =>
    bnd (inv (.func 60) #[] #[x0, x21] h) fun x22 =>
    bnd (pExtract x22.1 0) fun x23 =>
    bnd (pExtract x22.1 1) fun x24 =>
    K .normal (act 28 [(5, x24), (6, x23)]) x22.2 := kq_reg
theorem r91_5  : kCode env 91 false inv k (cp c91 62) (act 28 [(5, x5), (6, x6)]) h K =
    bnd (pConv Tryz.prog 33 9 x6 h) fun x26 =>
    K .normal (act 28 [(2, x26), (3, x5)]) h := kq_reg
/-- shadowbook/segment.words$4 -/
noncomputable def F91 (inv : Inv) (k : Nat) (x0 : Value) (h : AH) : Option (Value × AH) :=
    bnd (inv (.func 92) #[] #[x0] h) fun x9 =>
    bnd (pExtract x9.1 0) fun x10 =>
    bnd (pExtract x9.1 1) fun x11 =>
    G91_2 inv x0 x10 x11 x9.2 fun y17 h =>
    brV y17
    (some (.tuple #[(.string { data := #[] }), (.int .i64 4)], h))
    (bnd (pConv Tryz.prog 60 3 x10 h) fun x21 =>
    bnd (inv (.func 60) #[] #[x0, x21] h) fun x22 =>
    bnd (pExtract x22.1 0) fun x23 =>
    bnd (pExtract x22.1 1) fun x24 =>
    bnd (pConv Tryz.prog 33 9 x23 x22.2) fun x26 =>
    some (.tuple #[x26, x24], x22.2))
theorem F91_eq : eFun env k inv 91 #[x0] h = F91 inv k x0 h := by
      refine (kq_fun (a := act 28 [(0, x0)]) (c := cp c91 1)).trans ?_
      unfold F91
      simp only [kq_seq c91 1, r91_0, kq_seq c91 3, r91_1, kq_seq c91 7, kq_seq c91 14, r91_2, b91_rlrr, kq_seq c91 58, r91_3, kq_ret c91 117, res91_0, kq_skip c91 59, kq_seq c91 15, r91_4, kq_seq c91 31, r91_5, kq_ret c91 63, reduceIte, reduceCtorEq, XE.exit.injEq, Nat.reduceEqDiff, Nat.reduceMul, Nat.reduceAdd] <;> kernel_rfl
theorem F91_call : eInv env (k + 1) (.func 91) #[] #[x0] h = F91 (eInv env k) k x0 h := kq_inv F91_eq
noncomputable def c92 : Code := codeOf Tryz.prog 92
theorem r92_0  : kCode env 92 false inv k (cp c92 2) (act 58 [(0, x0)]) h K =
    K .normal (act 58 [(0, x0), (2, (.int .u64 0))]) h := kq_reg
theorem r92_1  : kCode env 92 false inv k (cp c92 12) (act 58 [(0, x0), (2, x2)]) h K =
    bnd (pBin Tryz.prog .eql 114 (.tmp 7) (.const (.pointer none)) x0 (.pointer none)) fun x8 =>
    K .normal (act 58 [(0, x0), (2, x2), (8, x8)]) h := kq_reg
theorem b92_rlr  : kCode env 92 false inv k (cp c92 13) (act 58 [(0, x0), (2, x2), (8, x8)]) h K = brV x8 (kCode env 92 false inv k (cp c92 26) (act 58 [(0, x0), (2, x2), (8, x8)]) h K) (kCode env 92 false inv k (cp c92 27) (act 58 [(0, x0), (2, x2), (8, x8)]) h K) := kq_cond
theorem r92_2  : kCode env 92 false inv k (cp c92 52) (act 58 [(0, x0), (2, x2), (8, x8)]) h K =
    K .normal (act 58 [(2, (.int .u64 0)), (3, (.int .i64 1))]) h := kq_reg
theorem res92_0 : resOfFn env.P 92 .ret (act 58 [(2, x2), (3, x3)]) h = some (.tuple #[x2, x3], h) := kq_res
theorem r92_3  : kCode env 92 false inv k (cp c92 28) (act 58 [(0, x0), (2, x2), (8, x8)]) h K =
    bnd (pNilCheck Tryz.prog x0) fun x10 =>
    bnd (pFieldAddr Tryz.prog 144 x10 0) fun x11 =>
    bnd (pLoad Tryz.prog 33 x11 h) fun x12 =>
    bnd (pLen Tryz.prog #[33] x12 h) fun x13 =>
    K .normal (act 58 [(0, x0), (2, x2), (12, x12), (13, x13), (14, (.int .i64 0))]) h := kq_reg
theorem r92_4  : kCode env 92 false inv k (cp c92 232) (act 58 [(0, x0), (2, x2), (12, x12), (13, x13), (14, x14)]) h K =
    bnd (pBin Tryz.prog .lss 3 (.tmp 14) (.tmp 13) x14 x13) fun x15 =>
    K .normal (act 58 [(0, x0), (2, x2), (12, x12), (13, x13), (14, x14), (15, x15)]) h := kq_reg
theorem b92_lrllrlrr  : kCode env 92 false inv k (cp c92 466) (act 58 [(0, x0), (2, x2), (12, x12), (13, x13), (14, x14), (15, x15)]) h K = brV x15 (kCode env 92 false inv k (cp c92 932) (act 58 [(0, x0), (2, x2), (12, x12), (13, x13), (14, x14), (15, x15)]) h K) (kCode env 92 false inv k (cp c92 933) (act 58 [(0, x0), (2, x2), (12, x12), (13, x13), (14, x14), (15, x15)]) h K) := kq_cond
theorem r92_5  : kCode env 92 false inv k (cp c92 3736) (act 58 [(0, x0), (2, x2), (12, x12), (13, x13), (14, x14), (15, x15)]) h K =
    bnd (pIndexAddr Tryz.prog 33 x12 x14) fun x17 =>
    bnd (pLoad Tryz.prog 5 x17 h) fun x18 =>
    K .normal (act 58 [(0, x0), (2, x2), (4, x14), (5, x18), (12, x12), (13, x13), (14, x14)]) h := kq_reg
theorem r92_6  : kCode env 92 false inv k (cp c92 14948) (act 58 [(0, x0), (2, x2), (4, x4), (5, x5), (12, x12), (13, x13), (14, x14)]) h K =
    bnd (pBin Tryz.prog .eql 3 (.tmp 19) (.const (.int .i64 10)) x4 (.int .i64 10)) fun x20 =>
    K .normal (act 58 [(0, x0), (2, x2), (4, x4), (5, x5), (12, x12), (13, x13), (14, x14), (20, x20)]) h := kq_reg
theorem b92_rlrllrrllrlrr  : kCode env 92 false inv k (cp c92 14949) (act 58 [(0, x0), (2, x2), (4, x4), (5, x5), (12, x12), (13, x13), (14, x14), (20, x20)]) h K = brV x20 (kCode env 92 false inv k (cp c92 29898) (act 58 [(0, x0), (2, x2), (4, x4), (5, x5), (12, x12), (13, x13), (14, x14), (20, x20)]) h K) (kCode env 92 false inv k (cp c92 29899) (act 58 [(0, x0), (2, x2), (4, x4), (5, x5), (12, x12), (13, x13), (14, x14), (20, x20)]) h K) := kq_cond
theorem r92_7  : kCode env 92 false inv k (cp c92 14950) (act 58 [(0, x0), (2, x2), (4, x4), (5, x5), (12, x12), (13, x13), (14, x14), (20, x20)]) h K =
    bnd (pBin Tryz.prog .andNot 5 (.tmp 21) (.const (.int .u8 128)) x5 (.int .u8 128)) fun x22 =>
    bnd (pConv Tryz.prog 5 60 x22 h) fun x23 =>
    K .normal (act 58 [(0, x0), (2, x2), (4, x4), (5, x5), (6, x23), (12, x12), (13, x13), (14, x14)]) h := kq_reg
noncomputable abbrev G92_8 {β : Type} (inv : Inv) (x0 x2 x4 x5 x6 x12 x13 x14 : Value) (h : AH) (K : Value → AH → Option β) : Option β :=
    bnd (pBin Tryz.prog .eql 3 (.tmp 24) (.const (.int .i64 9)) x4 (.int .i64 9)) fun x25 =>
    bnd (gd (some x25) true h (some (x6, h))) fun x27 =>
    bnd (gd (some x25) true x27.2 (lt (pBin Tryz.prog .gtr 60 (.tmp 27) (.const (.int .u64 1)) x27.1 (.int .u64 1)) x27.2)) fun x28 =>
    bnd (pickV x25 x28.1 (.bool false)) fun x29 =>
    K (x29) x28.2
theorem r92_8  : kCode env 92 false inv k (cp c92 59804) (act 58 [(0, x0), (2, x2), (4, x4), (5, x5), (6, x6), (12, x12), (13, x13), (14, x14)]) h K =
    G92_8 inv x0 x2 x4 x5 x6 x12 x13 x14 h fun y29 h => K .normal (act 58 [(0, x0), (2, x2), (4, x4), (5, x5), (6, x6), (12, x12), (13, x13), (14, x14), (29, y29)]) h := kq_reg
theorem b92_rlrrrllrrllrlrr  : kCode env 92 false inv k (cp c92 59805) (act 58 [(0, x0), (2, x2), (4, x4), (5, x5), (6, x6), (12, x12), (13, x13), (14, x14), (29, x29)]) h K = brV x29 (kCode env 92 false inv k (cp c92 119610) (act 58 [(0, x0), (2, x2), (4, x4), (5, x5), (6, x6), (12, x12), (13, x13), (14, x14), (29, x29)]) h K) (kCode env 92 false inv k (cp c92 119611) (act 58 [(0, x0), (2, x2), (4, x4), (5, x5), (6, x6), (12, x12), (13, x13), (14, x14), (29, x29)]) h K) := kq_cond
theorem r92_9  : kCode env 92 false inv k (cp c92 59806) (act 58 [(0, x0), (2, x2), (4, x4), (5, x5), (6, x6), (12, x12), (13, x13), (14, x14), (29, x29)]) h K =
    bnd (pBin Tryz.prog .mul 3 (.const (.int .i64 7)) (.tmp 32) (.int .i64 7) x4) fun x33 =>
    bnd (pBin Tryz.prog .shl 60 (.tmp 31) (.tmp 33) x6 x33) fun x34 =>
    bnd (pBin Tryz.prog .or 60 (.tmp 30) (.tmp 34) x2 x34) fun x35 =>
    K .normal (act 58 [(0, x0), (2, x35), (4, x4), (5, x5), (6, x6), (12, x12), (13, x13), (14, x14)]) h := kq_reg
theorem r92_10  : kCode env 92 false inv k (cp c92 239228) (act 58 [(0, x0), (2, x2), (4, x4), (5, x5), (6, x6), (12, x12), (13, x13), (14, x14)]) h K =
    bnd (pBin Tryz.prog .geq 5 (.tmp 36) (.const (.int .u8 128)) x5 (.int .u8 128)) fun x37 =>
    K .normal (act 58 [(0, x0), (2, x2), (4, x4), (6, x6), (12, x12), (13, x13), (14, x14), (37, x37)]) h := kq_reg
theorem b92_rlrrrrrllrrllrlrr  : kCode env 92 false inv k (cp c92 239229) (act 58 [(0, x0), (2, x2), (4, x4), (6, x6), (12, x12), (13, x13), (14, x14), (37, x37)]) h K = brV x37 (kCode env 92 false inv k (cp c92 478458) (act 58 [(0, x0), (2, x2), (4, x4), (6, x6), (12, x12), (13, x13), (14, x14), (37, x37)]) h K) (kCode env 92 false inv k (cp c92 478459) (act 58 [(0, x0), (2, x2), (4, x4), (6, x6), (12, x12), (13, x13), (14, x14), (37, x37)]) h K) := kq_cond
theorem r92_14  : kCode env 92 false inv k (cp c92 935) (act 58 [(0, x0), (2, x2), (4, x4), (6, x6), (12, x12), (13, x13), (14, x14), (37, x37)]) h K =
    bnd (pBin Tryz.prog .add 3 (.tmp 14) (.const (.int .i64 1)) x14 (.int .i64 1)) fun x55 =>
    K .normal (act 58 [(0, x0), (2, x2), (12, x12), (13, x13), (14, x55)]) h := kq_reg
noncomputable abbrev G92_11 {β : Type} (inv : Inv) (x0 x2 x4 x6 : Value) (h : AH) (K : Value → AH → Option β) : Option β :=
    bnd (pBin Tryz.prog .eql 60 (.tmp 38) (.const (.int .u64 0)) x6 (.int .u64 0)) fun x39 =>
    bnd (gd (some x39) true h (some (x4, h))) fun x41 =>
    bnd (gd (some x39) true x41.2 (lt (pBin Tryz.prog .gtr 3 (.tmp 41) (.const (.int .i64 0)) x41.1 (.int .i64 0)) x41.2)) fun x42 =>
    bnd (pickV x39 x42.1 (.bool false)) fun x43 =>
    K (x43) x42.2
theorem r92_11  : kCode env 92 false inv k (cp c92 478460) (act 58 [(0, x0), (2, x2), (4, x4), (6, x6), (12, x12), (13, x13), (14, x14), (37, x37)]) h K =
    G92_11 inv x0 x2 x4 x6 h fun y43 h => K .normal (act 58 [(0, x0), (2, x2), (4, x4), (43, y43)]) h := kq_reg
theorem b92_rlrrrrrrllrrllrlrr  : kCode env 92 false inv k (cp c92 478461) (act 58 [(0, x0), (2, x2), (4, x4), (43, x43)]) h K = brV x43 (kCode env 92 false inv k (cp c92 956922) (act 58 [(0, x0), (2, x2), (4, x4), (43, x43)]) h K) (kCode env 92 false inv k (cp c92 956923) (act 58 [(0, x0), (2, x2), (4, x4), (43, x43)]) h K) := kq_cond
noncomputable abbrev G92_12 {β : Type} (inv : Inv) (x0 x2 x4 : Value) (h : AH) (K : AH → Option β) : Option β :=
    bnd (pNilCheck Tryz.prog x0) fun x46 =>
    bnd (pFieldAddr Tryz.prog 144 x46 0) fun x47 =>
    bnd (pLoad Tryz.prog 33 x47 h) fun x48 =>
    bnd (pBin Tryz.prog .add 3 (.tmp 49) (.const (.int .i64 1)) x4 (.int .i64 1)) fun x50 =>
    bnd (pSlice Tryz.prog 33 x48 (some x50) none none h) fun x51 =>
    bnd (pNilCheck Tryz.prog x0) fun x52 =>
    bnd (pFieldAddr Tryz.prog 144 x52 0) fun x53 =>
    bnd (kSt (pStore Tryz.prog 33 x53 x51 h)) fun u =>
    K u.2
theorem r92_12  : kCode env 92 false inv k (cp c92 478462) (act 58 [(0, x0), (2, x2), (4, x4), (43, x43)]) h K =
    G92_12 inv x0 x2 x4 h fun  h => K .normal (act 58 [(2, x2)]) h := kq_reg
theorem r92_13  : kCode env 92 false inv k (cp c92 956926) (act 58 [(2, x2)]) h K =
    K .normal (act 58 [(2, x2), (3, (.int .i64 0))]) h := kq_reg
noncomputable def F92_lrlrr {β : Type} (inv : Inv) (k : Nat) : Nat → Value → Value → Value → Value → Value → AH → (Value → Value → Value → Value → Value → Value → Value → Value → Value → Value → Value → Value → AH → Option β) → (Value → Value → AH → Option β) → Option β
  | 0, _, _, _, _, _, _, _, _ => none
  | j + 1, x0, x2, x12, x13, x14, h, ke0, kr =>
    bnd (pBin Tryz.prog .lss 3 (.tmp 14) (.tmp 13) x14 x13) fun x15 =>
    brV x15
    (bnd (pIndexAddr Tryz.prog 33 x12 x14) fun x17 =>
    bnd (pLoad Tryz.prog 5 x17 h) fun x18 =>
    bnd (pBin Tryz.prog .eql 3 (.tmp 19) (.const (.int .i64 10)) x14 (.int .i64 10)) fun x20 =>
    brV x20
    (ke0 x0 x2 x14 x18 unk x12 x13 x14 unk x20 unk unk h)
    (bnd (pBin Tryz.prog .andNot 5 (.tmp 21) (.const (.int .u8 128)) x18 (.int .u8 128)) fun x22 =>
    bnd (pConv Tryz.prog 5 60 x22 h) fun x23 =>
    G92_8 inv x0 x2 x14 x18 x23 x12 x13 x14 h fun y29 h =>
    brV y29
    (ke0 x0 x2 x14 x18 x23 x12 x13 x14 unk unk y29 unk h)
    (bnd (pBin Tryz.prog .mul 3 (.const (.int .i64 7)) (.tmp 32) (.int .i64 7) x14) fun x33 =>
    bnd (pBin Tryz.prog .shl 60 (.tmp 31) (.tmp 33) x23 x33) fun x34 =>
    bnd (pBin Tryz.prog .or 60 (.tmp 30) (.tmp 34) x2 x34) fun x35 =>
    bnd (pBin Tryz.prog .geq 5 (.tmp 36) (.const (.int .u8 128)) x18 (.int .u8 128)) fun x37 =>
    brV x37
    (bnd (pBin Tryz.prog .add 3 (.tmp 14) (.const (.int .i64 1)) x14 (.int .i64 1)) fun x55 =>
    F92_lrlrr inv k j x0 x35 x12 x13 x55 h ke0 kr)
    (G92_11 inv x0 x35 x14 x23 h fun y43 h_1 =>
    brV y43
    (ke0 x0 x35 x14 unk unk unk unk unk unk unk unk y43 h_1)
    (G92_12 inv x0 x35 x14 h_1 fun  h_2 =>
    kr x35 (.int .i64 0) h_2)))))
    (ke0 x0 x2 unk unk unk x12 x13 x14 x15 unk unk unk h)
theorem F92_lrlrr_j (j : Nat) : kLoop (kCode env 92 false inv k (cp c92 116)) j (act 58 [(0, x0), (2, x2), (12, x12), (13, x13), (14, x14)]) h K = F92_lrlrr inv k j x0 x2 x12 x13 x14 h (fun y0 y2 y4 y5 y6 y12 y13 y14 y15 y20 y29 y43 h => K (.exit 0) (act 58 [(0, y0), (2, y2), (4, y4), (5, y5), (6, y6), (12, y12), (13, y13), (14, y14), (15, y15), (20, y20), (29, y29), (43, y43)]) h) (fun y2 y3 h => K .ret (act 58 [(2, y2), (3, y3)]) h) := by
      induction j generalizing x0 x2 x12 x13 x14 h with
      | zero => rfl
      | succ j ih =>
        unfold F92_lrlrr
        simp only [kLoop, kq_seq c92 116, r92_4, kq_seq c92 233, b92_lrllrlrr, kq_skip c92 932, kq_seq c92 467, kq_block c92 934 1, kq_seq c92 1868, r92_5, kq_seq c92 3737, kq_seq c92 7474, r92_6, b92_rlrllrrllrlrr, kq_exit c92 29898 0, kq_skip c92 29899, kq_seq c92 7475, r92_7, kq_seq c92 14951, kq_seq c92 29902, r92_8, b92_rlrrrllrrllrlrr, kq_exit c92 119610 0, kq_skip c92 119611, kq_seq c92 29903, r92_9, kq_seq c92 59807, kq_seq c92 119614, r92_10, b92_rlrrrrrllrrllrlrr, kq_exit c92 478458 1, r92_14, kq_skip c92 478459, kq_seq c92 119615, kq_seq c92 239230, r92_11, b92_rlrrrrrrllrrllrlrr, kq_exit c92 956922 0, kq_skip c92 956923, kq_seq c92 239231, r92_12, kq_seq c92 478463, r92_13, kq_ret c92 956927, kq_exit c92 933 0, ih, reduceIte, reduceCtorEq, XE.exit.injEq, Nat.reduceEqDiff, Nat.reduceMul, Nat.reduceAdd] <;> kernel_rfl
theorem F92_lrlrr_eq  : kCode env 92 false inv k (cp c92 58) (act 58 [(0, x0), (2, x2), (12, x12), (13, x13), (14, x14)]) h K = F92_lrlrr inv k k x0 x2 x12 x13 x14 h (fun y0 y2 y4 y5 y6 y12 y13 y14 y15 y20 y29 y43 h => K (.exit 0) (act 58 [(0, y0), (2, y2), (4, y4), (5, y5), (6, y6), (12, y12), (13, y13), (14, y14), (15, y15), (20, y20), (29, y29), (43, y43)]) h) (fun y2 y3 h => K .ret (act 58 [(2, y2), (3, y3)]) h) := kq_loop (F92_lrlrr_j k)
noncomputable def F92_rlrr {β : Type} (inv : Inv) (k : Nat) (x0 x2 x12 x13 x14 : Value) (h : AH) (kn : (Value → Value → Value → Value → Value → Value → Value → Value → Value → Value → Value → Value → AH → Option β)) (kr : (Value → Value → AH → Option β)) : Option β :=
    F92_lrlrr inv k k x0 x2 x12 x13 x14 h
    (fun y0 y2 y4 y5 y6 y12 y13 y14 y15 y20 y29 y43 h =>
    kn y0 y2 y4 y5 y6 y12 y13 y14 y15 y20 y29 y43 h)
    (fun y2_3 y3 h_4 =>
    kr y2_3 y3 h_4)
theorem F92_rlrr_eq  : kCode env 92 false inv k (cp c92 29) (act 58 [(0, x0), (2, x2), (12, x12), (13, x13), (14, x14)]) h K = F92_rlrr inv k x0 x2 x12 x13 x14 h (fun y0 y2 y4 y5 y6 y12 y13 y14 y15 y20 y29 y43 h => K .normal (act 58 [(0, y0), (2, y2), (4, y4), (5, y5), (6, y6), (12, y12), (13, y13), (14, y14), (15, y15), (20, y20), (29, y29), (43, y43)]) h) (fun y2 y3 h => K .ret (act 58 [(2, y2), (3, y3)]) h) := by
      unfold F92_rlrr
      simp only [kq_block c92 29 0, F92_lrlrr_eq, reduceIte, reduceCtorEq, XE.exit.injEq, Nat.reduceEqDiff, Nat.reduceMul, Nat.reduceAdd] <;> kernel_rfl
theorem r92_15  : kCode env 92 false inv k (cp c92 60) (act 58 [(0, x0), (2, x2), (4, x4), (5, x5), (6, x6), (12, x12), (13, x13), (14, x14), (15, x15), (20, x20), (29, x29), (43, x43)]) h K =
    bnd (inv (.func 129) #[] #[x0] h) fun x57 =>
    K .normal (act 58 [(57, x57.1)]) x57.2 := kq_reg
theorem b92_rlrrr  : kCode env 92 false inv k (cp c92 61) (act 58 [(57, x57)]) h K = brV x57 (kCode env 92 false inv k (cp c92 122) (act 58 [(57, x57)]) h K) (kCode env 92 false inv k (cp c92 123) (act 58 [(57, x57)]) h K) := kq_cond
theorem r92_16  : kCode env 92 false inv k (cp c92 244) (act 58 [(57, x57)]) h K =
    K .normal (act 58 [(2, (.int .u64 0)), (3, (.int .i64 7))]) h := kq_reg
theorem r92_17  : kCode env 92 false inv k (cp c92 62) (act 58 [(57, x57)]) h K =
    K .normal (act 58 [(2, (.int .u64 0)), (3, (.int .i64 4))]) h := kq_reg
/-- (*shadowbook/octet.Reader).Var -/
noncomputable def F92 (inv : Inv) (k : Nat) (x0 : Value) (h : AH) : Option (Value × AH) :=
    bnd (pBin Tryz.prog .eql 114 (.tmp 7) (.const (.pointer none)) x0 (.pointer none)) fun x8 =>
    brV x8
    (some (.tuple #[(.int .u64 0), (.int .i64 1)], h))
    (bnd (pNilCheck Tryz.prog x0) fun x10 =>
    bnd (pFieldAddr Tryz.prog 144 x10 0) fun x11 =>
    bnd (pLoad Tryz.prog 33 x11 h) fun x12 =>
    bnd (pLen Tryz.prog #[33] x12 h) fun x13 =>
    F92_rlrr inv k x0 (.int .u64 0) x12 x13 (.int .i64 0) h
    (fun y0 y2 y4 y5 y6 y12 y13 y14 y15 y20 y29 y43 h =>
    bnd (inv (.func 129) #[] #[y0] h) fun x57 =>
    brV x57.1
    (some (.tuple #[(.int .u64 0), (.int .i64 7)], x57.2))
    (some (.tuple #[(.int .u64 0), (.int .i64 4)], x57.2)))
    (fun y2_5 y3 h_6 =>
    some (.tuple #[y2_5, y3], h_6)))
theorem F92_eq : eFun env k inv 92 #[x0] h = F92 inv k x0 h := by
      refine (kq_fun (a := act 58 [(0, x0)]) (c := cp c92 1)).trans ?_
      unfold F92
      simp only [kq_seq c92 1, r92_0, kq_seq c92 3, kq_seq c92 6, r92_1, b92_rlr, kq_seq c92 26, r92_2, kq_ret c92 53, res92_0, kq_skip c92 27, kq_seq c92 7, kq_seq c92 14, r92_3, F92_rlrr_eq, kq_seq c92 15, kq_seq c92 30, r92_15, b92_rlrrr, kq_seq c92 122, r92_16, kq_ret c92 245, kq_skip c92 123, kq_seq c92 31, r92_17, kq_ret c92 63, reduceIte, reduceCtorEq, XE.exit.injEq, Nat.reduceEqDiff, Nat.reduceMul, Nat.reduceAdd] <;> kernel_rfl
theorem F92_call : eInv env (k + 1) (.func 92) #[] #[x0] h = F92 (eInv env k) k x0 h := kq_inv F92_eq
noncomputable def c93 : Code := codeOf Tryz.prog 93
theorem r93_0  : kCode env 93 false inv k (cp c93 2) (act 32 [(0, x0)]) h K =
    K .normal (act 32 [(0, x0)]) h := kq_reg
theorem r93_1  : kCode env 93 false inv k (cp c93 6) (act 32 [(0, x0)]) h K =
    bnd (inv (.func 130) #[] #[x0] h) fun x10 =>
    bnd (pExtract x10.1 0) fun x11 =>
    bnd (pExtract x10.1 1) fun x12 =>
    K .normal (act 32 [(0, x0), (4, x11), (5, x12)]) x10.2 := kq_reg
theorem r93_2  : kCode env 93 false inv k (cp c93 28) (act 32 [(0, x0), (4, x4), (5, x5)]) h K =
    bnd (pBin Tryz.prog .neq 25 (.tmp 13) (.const (.int .i64 0)) x5 (.int .i64 0)) fun x14 =>
    K .normal (act 32 [(0, x0), (4, x4), (5, x5), (14, x14)]) h := kq_reg
theorem b93_rlrr  : kCode env 93 false inv k (cp c93 29) (act 32 [(0, x0), (4, x4), (5, x5), (14, x14)]) h K = brV x14 (kCode env 93 false inv k (cp c93 58) (act 32 [(0, x0), (4, x4), (5, x5), (14, x14)]) h K) (kCode env 93 false inv k (cp c93 59) (act 32 [(0, x0), (4, x4), (5, x5), (14, x14)]) h K) := kq_cond
theorem r93_3  : kCode env 93 false inv k (cp c93 116) (act 32 [(0, x0), (4, x4), (5, x5), (14, x14)]) h K =
    K .normal (act 32 [(2, (.slice none 0 0)), (3, x5)]) h := kq_reg
theorem res93_0 : resOfFn env.P 93 .ret (act 32 [(2, x2), (3, x3)]) h = some (.tuple #[x2, x3], h) := kq_res
theorem r93_4  : kCode env 93 false inv k (cp c93 60) (act 32 [(0, x0), (4, x4), (5, x5), (14, x14)]) h K =
    bnd (inv (.func 131) #[] #[x0] h) fun x18 =>
    bnd (pExtract x18.1 0) fun x19 =>
    bnd (pExtract x18.1 1) fun x20 =>
    K .normal (act 32 [(4, x4), (6, x19), (7, x20)]) x18.2 := kq_reg
noncomputable abbrev G93_5 {β : Type} (inv : Inv) (x4 x6 x7 : Value) (h : AH) (K : Value → AH → Option β) : Option β :=
    bnd (pBin Tryz.prog .eql 25 (.tmp 21) (.const (.int .i64 0)) x7 (.int .i64 0)) fun x22 =>
    bnd (gd (some x22) true h (some (x6, h))) fun x24 =>
    bnd (gd (some x22) true x24.2 (lt (pLen Tryz.prog #[33] x24.1 x24.2) x24.2)) fun x25 =>
    bnd (gd (some x22) true x25.2 (some (x4, x25.2))) fun x26 =>
    bnd (gd (some x22) true x26.2 (lt (pLen Tryz.prog #[33] x26.1 x26.2) x26.2)) fun x27 =>
    bnd (gd (some x22) true x27.2 (lt (pBin Tryz.prog .lss 3 (.tmp 25) (.tmp 27) x25.1 x27.1) x27.2)) fun x28 =>
    bnd (pickV x22 x28.1 (.bool false)) fun x29 =>
    K (x29) x28.2
theorem r93_5  : kCode env 93 false inv k (cp c93 122) (act 32 [(4, x4), (6, x6), (7, x7)]) h K =
    G93_5 inv x4 x6 x7 h fun y29 h => K .normal (act 32 [(4, x4), (6, x6), (29, y29)]) h := kq_reg
theorem b93_rrlrrr  : kCode env 93 false inv k (cp c93 123) (act 32 [(4, x4), (6, x6), (29, x29)]) h K = brV x29 (kCode env 93 false inv k (cp c93 246) (act 32 [(4, x4), (6, x6), (29, x29)]) h K) (kCode env 93 false inv k (cp c93 247) (act 32 [(4, x4), (6, x6), (29, x29)]) h K) := kq_cond
theorem r93_6  : kCode env 93 false inv k (cp c93 492) (act 32 [(4, x4), (6, x6), (29, x29)]) h K =
    K .normal (act 32 [(2, x6), (3, (.int .i64 0))]) h := kq_reg
theorem r93_7  : kCode env 93 false inv k (cp c93 62) (act 32 [(4, x4), (6, x6), (29, x29)]) h K =
    K .normal (act 32 [(2, x4), (3, (.int .i64 0))]) h := kq_reg
/-- shadowbook/texts.Put -/
noncomputable def F93 (inv : Inv) (k : Nat) (x0 : Value) (h : AH) : Option (Value × AH) :=
    bnd (inv (.func 130) #[] #[x0] h) fun x10 =>
    bnd (pExtract x10.1 0) fun x11 =>
    bnd (pExtract x10.1 1) fun x12 =>
    bnd (pBin Tryz.prog .neq 25 (.tmp 13) (.const (.int .i64 0)) x12 (.int .i64 0)) fun x14 =>
    brV x14
    (some (.tuple #[(.slice none 0 0), x12], x10.2))
    (bnd (inv (.func 131) #[] #[x0] x10.2) fun x18 =>
    bnd (pExtract x18.1 0) fun x19 =>
    bnd (pExtract x18.1 1) fun x20 =>
    G93_5 inv x11 x19 x20 x18.2 fun y29 h =>
    brV y29
    (some (.tuple #[x19, (.int .i64 0)], h))
    (some (.tuple #[x11, (.int .i64 0)], h)))
theorem F93_eq : eFun env k inv 93 #[x0] h = F93 inv k x0 h := by
      refine (kq_fun (a := act 32 [(0, x0)]) (c := cp c93 1)).trans ?_
      unfold F93
      simp only [kq_seq c93 1, r93_0, kq_seq c93 3, r93_1, kq_seq c93 7, kq_seq c93 14, r93_2, b93_rlrr, kq_seq c93 58, r93_3, kq_ret c93 117, res93_0, kq_skip c93 59, kq_seq c93 15, kq_seq c93 30, r93_4, kq_seq c93 61, r93_5, b93_rrlrrr, kq_seq c93 246, r93_6, kq_ret c93 493, kq_skip c93 247, kq_seq c93 31, r93_7, kq_ret c93 63, reduceIte, reduceCtorEq, XE.exit.injEq, Nat.reduceEqDiff, Nat.reduceMul, Nat.reduceAdd] <;> kernel_rfl
theorem F93_call : eInv env (k + 1) (.func 93) #[] #[x0] h = F93 (eInv env k) k x0 h := kq_inv F93_eq
noncomputable def c94 : Code := codeOf Tryz.prog 94
theorem r94_0  : kCode env 94 false inv k (cp c94 2) (act 10 [(0, x0), (1, x1)]) h K =
    K .normal (act 10 [(0, x0)]) h := kq_reg
theorem r94_1  : kCode env 94 false inv k (cp c94 6) (act 10 [(0, x0)]) h K =
    bnd (inv (.func 95) #[] #[x0] h) fun x7 =>
    bnd (pExtract x7.1 0) fun x8 =>
    bnd (pExtract x7.1 1) fun x9 =>
    K .normal (act 10 [(4, x8), (5, x9)]) x7.2 := kq_reg
theorem res94_0 : resOfFn env.P 94 .ret (act 10 [(4, x4), (5, x5)]) h = some (.tuple #[x4, x5], h) := kq_res
/-- shadowbook/segment.words$5 -/
noncomputable def F94 (inv : Inv) (k : Nat) (x0 x1 : Value) (h : AH) : Option (Value × AH) :=
    bnd (inv (.func 95) #[] #[x0] h) fun x7 =>
    bnd (pExtract x7.1 0) fun x8 =>
    bnd (pExtract x7.1 1) fun x9 =>
    some (.tuple #[x8, x9], x7.2)
theorem F94_eq : eFun env k inv 94 #[x0, x1] h = F94 inv k x0 x1 h := by
      refine (kq_fun (a := act 10 [(0, x0), (1, x1)]) (c := cp c94 1)).trans ?_
      unfold F94
      simp only [kq_seq c94 1, r94_0, kq_seq c94 3, r94_1, kq_ret c94 7, res94_0, reduceIte, reduceCtorEq, XE.exit.injEq, Nat.reduceEqDiff, Nat.reduceMul, Nat.reduceAdd] <;> kernel_rfl
theorem F94_call : eInv env (k + 1) (.func 94) #[] #[x0, x1] h = F94 (eInv env k) k x0 x1 h := kq_inv F94_eq
noncomputable def c95 : Code := codeOf Tryz.prog 95
theorem r95_0  : kCode env 95 false inv k (cp c95 2) (act 66 [(0, x0)]) h K =
    K .normal (act 66 [(0, x0), (2, (.slice none 0 0))]) h := kq_reg
theorem r95_1  : kCode env 95 false inv k (cp c95 6) (act 66 [(0, x0), (2, x2)]) h K =
    bnd (inv (.func 58) #[] #[x0] h) fun x10 =>
    K .normal (act 66 [(0, x0), (2, x2), (4, x10.1)]) x10.2 := kq_reg
theorem r95_2  : kCode env 95 false inv k (cp c95 14) (act 66 [(0, x0), (2, x2), (4, x4)]) h K =
    bnd (inv (.func 77) #[] #[x4, (.int .i64 1)] h) fun x13 =>
    bnd (pExtract x13.1 0) fun x14 =>
    bnd (pExtract x13.1 1) fun x15 =>
    K .normal (act 66 [(0, x0), (2, x2), (3, x15), (4, x4), (5, x14)]) x13.2 := kq_reg
theorem r95_3  : kCode env 95 false inv k (cp c95 60) (act 66 [(0, x0), (2, x2), (3, x3), (4, x4), (5, x5)]) h K =
    bnd (pBin Tryz.prog .neq 25 (.tmp 16) (.const (.int .i64 0)) x3 (.int .i64 0)) fun x17 =>
    K .normal (act 66 [(0, x0), (2, x2), (4, x4), (5, x5), (17, x17)]) h := kq_reg
theorem b95_rlrrr  : kCode env 95 false inv k (cp c95 61) (act 66 [(0, x0), (2, x2), (4, x4), (5, x5), (17, x17)]) h K = brV x17 (kCode env 95 false inv k (cp c95 122) (act 66 [(0, x0), (2, x2), (4, x4), (5, x5), (17, x17)]) h K) (kCode env 95 false inv k (cp c95 123) (act 66 [(0, x0), (2, x2), (4, x4), (5, x5), (17, x17)]) h K) := kq_cond
theorem r95_4  : kCode env 95 false inv k (cp c95 244) (act 66 [(0, x0), (2, x2), (4, x4), (5, x5), (17, x17)]) h K =
    K .normal (act 66 [(2, (.slice none 0 0)), (3, (.int .i64 4))]) h := kq_reg
theorem res95_0 : resOfFn env.P 95 .ret (act 66 [(2, x2), (3, x3)]) h = some (.tuple #[x2, x3], h) := kq_res
theorem r95_5  : kCode env 95 false inv k (cp c95 62) (act 66 [(0, x0), (2, x2), (4, x4), (5, x5), (17, x17)]) h K =
    bnd (inv (.func 92) #[] #[x4] h) fun x20 =>
    bnd (pExtract x20.1 0) fun x21 =>
    bnd (pExtract x20.1 1) fun x22 =>
    K .normal (act 66 [(0, x0), (2, x2), (3, x22), (4, x4), (5, x5), (6, x21)]) x20.2 := kq_reg
noncomputable abbrev G95_6 {β : Type} (inv : Inv) (x0 x2 x3 x4 x5 x6 : Value) (h : AH) (K : Value → AH → Option β) : Option β :=
    bnd (pBin Tryz.prog .neq 25 (.tmp 23) (.const (.int .i64 0)) x3 (.int .i64 0)) fun x24 =>
    bnd (gd (some x24) false h (some (x6, h))) fun x26 =>
    bnd (gd (some x24) false x26.2 (lt (pBin Tryz.prog .gtr 60 (.tmp 26) (.const (.int .u64 4096)) x26.1 (.int .u64 4096)) x26.2)) fun x27 =>
    bnd (pickV x24 (.bool true) x27.1) fun x28 =>
    K (x28) x27.2
theorem r95_6  : kCode env 95 false inv k (cp c95 252) (act 66 [(0, x0), (2, x2), (3, x3), (4, x4), (5, x5), (6, x6)]) h K =
    G95_6 inv x0 x2 x3 x4 x5 x6 h fun y28 h => K .normal (act 66 [(0, x0), (2, x2), (4, x4), (5, x5), (6, x6), (28, y28)]) h := kq_reg
theorem b95_rlrrrrr  : kCode env 95 false inv k (cp c95 253) (act 66 [(0, x0), (2, x2), (4, x4), (5, x5), (6, x6), (28, x28)]) h K = brV x28 (kCode env 95 false inv k (cp c95 506) (act 66 [(0, x0), (2, x2), (4, x4), (5, x5), (6, x6), (28, x28)]) h K) (kCode env 95 false inv k (cp c95 507) (act 66 [(0, x0), (2, x2), (4, x4), (5, x5), (6, x6), (28, x28)]) h K) := kq_cond
theorem r95_7  : kCode env 95 false inv k (cp c95 1012) (act 66 [(0, x0), (2, x2), (4, x4), (5, x5), (6, x6), (28, x28)]) h K =
    K .normal (act 66 [(2, (.slice none 0 0)), (3, (.int .i64 4))]) h := kq_reg
theorem r95_8  : kCode env 95 false inv k (cp c95 254) (act 66 [(0, x0), (2, x2), (4, x4), (5, x5), (6, x6), (28, x28)]) h K =
    K .normal (act 66 [(0, x0), (2, x2), (4, x4), (5, x5), (6, x6), (7, (.bool false))]) h := kq_reg
theorem r95_9  : kCode env 95 false inv k (cp c95 510) (act 66 [(0, x0), (2, x2), (4, x4), (5, x5), (6, x6), (7, x7)]) h K =
    K .normal (act 66 [(0, x0), (2, x2), (4, x4), (5, x5), (6, x6), (7, x7), (8, (.slice none 0 0))]) h := kq_reg
theorem r95_10  : kCode env 95 false inv k (cp c95 2044) (act 66 [(0, x0), (2, x2), (4, x4), (5, x5), (6, x6), (7, x7), (8, x8)]) h K =
    K .normal (act 66 [(0, x0), (2, x2), (4, x4), (6, x6), (7, x7), (8, x8), (29, x5)]) h := kq_reg
theorem r95_11  : kCode env 95 false inv k (cp c95 8180) (act 66 [(0, x0), (2, x2), (4, x4), (6, x6), (7, x7), (8, x8), (29, x29)]) h K =
    bnd (pBin Tryz.prog .eql 60 (.tmp 29) (.const (.int .u64 1)) x29 (.int .u64 1)) fun x31 =>
    K .normal (act 66 [(0, x0), (2, x2), (4, x4), (6, x6), (7, x7), (8, x8), (29, x29), (30, x31)]) h := kq_reg
theorem b95_rlrlrrrrrrrr  : kCode env 95 false inv k (cp c95 8181) (act 66 [(0, x0), (2, x2), (4, x4), (6, x6), (7, x7), (8, x8), (29, x29), (30, x30)]) h K = brV x30 (kCode env 95 false inv k (cp c95 16362) (act 66 [(0, x0), (2, x2), (4, x4), (6, x6), (7, x7), (8, x8), (29, x29), (30, x30)]) h K) (kCode env 95 false inv k (cp c95 16363) (act 66 [(0, x0), (2, x2), (4, x4), (6, x6), (7, x7), (8, x8), (29, x29), (30, x30)]) h K) := kq_cond
theorem r95_12  : kCode env 95 false inv k (cp c95 32724) (act 66 [(0, x0), (2, x2), (4, x4), (6, x6), (7, x7), (8, x8), (29, x29), (30, x30)]) h K =
    bnd (inv (.func 132) #[] #[x4, x6] h) fun x35 =>
    bnd (pExtract x35.1 0) fun x36 =>
    bnd (pExtract x35.1 1) fun x37 =>
    K .normal (act 66 [(0, x0), (2, x36), (7, x37)]) x35.2 := kq_reg
theorem r95_13  : kCode env 95 false inv k (cp c95 32725) (act 66 [(0, x0), (2, x2), (7, x7)]) h K =
    bnd (inv (.func 130) #[] #[x2] h) fun x40 =>
    bnd (pExtract x40.1 0) fun x41 =>
    bnd (pExtract x40.1 1) fun x42 =>
    K .normal (act 66 [(0, x0), (2, x2), (7, x7), (8, x41)]) x40.2 := kq_reg
theorem r95_14  : kCode env 95 false inv k (cp c95 32726) (act 66 [(0, x0), (2, x2), (4, x4), (6, x6), (7, x7), (8, x8), (29, x29), (30, x30)]) h K =
    bnd (pBin Tryz.prog .eql 60 (.tmp 29) (.const (.int .u64 2)) x29 (.int .u64 2)) fun x44 =>
    K .normal (act 66 [(0, x0), (2, x2), (4, x4), (6, x6), (7, x7), (8, x8), (43, x44)]) h := kq_reg
theorem b95_rrrlrlrrrrrrrr  : kCode env 95 false inv k (cp c95 32727) (act 66 [(0, x0), (2, x2), (4, x4), (6, x6), (7, x7), (8, x8), (43, x43)]) h K = brV x43 (kCode env 95 false inv k (cp c95 65454) (act 66 [(0, x0), (2, x2), (4, x4), (6, x6), (7, x7), (8, x8), (43, x43)]) h K) (kCode env 95 false inv k (cp c95 65455) (act 66 [(0, x0), (2, x2), (4, x4), (6, x6), (7, x7), (8, x8), (43, x43)]) h K) := kq_cond
theorem r95_15  : kCode env 95 false inv k (cp c95 130908) (act 66 [(0, x0), (2, x2), (4, x4), (6, x6), (7, x7), (8, x8), (43, x43)]) h K =
    bnd (pConv Tryz.prog 60 3 x6 h) fun x48 =>
    bnd (inv (.func 133) #[] #[x4, x48] h) fun x49 =>
    bnd (pExtract x49.1 0) fun x50 =>
    bnd (pExtract x49.1 1) fun x51 =>
    K .normal (act 66 [(0, x0), (2, x50), (7, x51)]) x49.2 := kq_reg
theorem r95_16  : kCode env 95 false inv k (cp c95 130909) (act 66 [(0, x0), (2, x2), (7, x7)]) h K =
    bnd (inv (.func 131) #[] #[x2] h) fun x54 =>
    bnd (pExtract x54.1 0) fun x55 =>
    bnd (pExtract x54.1 1) fun x56 =>
    K .normal (act 66 [(0, x0), (2, x2), (7, x7), (8, x55)]) x54.2 := kq_reg
noncomputable def F95_rlrrrrrrrr {β : Type} (inv : Inv) (k : Nat) (x0 x2 x4 x6 x7 x8 x29 : Value) (h : AH) (kn : (Value → Value → Value → Value → Value → Value → Value → AH → Option β)) : Option β :=
    bnd (pBin Tryz.prog .eql 60 (.tmp 29) (.const (.int .u64 1)) x29 (.int .u64 1)) fun x31 =>
    brV x31
    (bnd (inv (.func 132) #[] #[x4, x6] h) fun x35 =>
    bnd (pExtract x35.1 0) fun x36 =>
    bnd (pExtract x35.1 1) fun x37 =>
    bnd (inv (.func 130) #[] #[x36] x35.2) fun x40 =>
    bnd (pExtract x40.1 0) fun x41 =>
    bnd (pExtract x40.1 1) fun x42 =>
    kn x0 x36 unk unk x37 x41 unk x40.2)
    (bnd (pBin Tryz.prog .eql 60 (.tmp 29) (.const (.int .u64 2)) x29 (.int .u64 2)) fun x44 =>
    brV x44
    (bnd (pConv Tryz.prog 60 3 x6 h) fun x48 =>
    bnd (inv (.func 133) #[] #[x4, x48] h) fun x49 =>
    bnd (pExtract x49.1 0) fun x50 =>
    bnd (pExtract x49.1 1) fun x51 =>
    bnd (inv (.func 131) #[] #[x50] x49.2) fun x54 =>
    bnd (pExtract x54.1 0) fun x55 =>
    bnd (pExtract x54.1 1) fun x56 =>
    kn x0 x50 unk unk x51 x55 unk x54.2)
    (kn x0 x2 x4 x6 x7 x8 x44 h))
theorem F95_rlrrrrrrrr_eq  : kCode env 95 false inv k (cp c95 2045) (act 66 [(0, x0), (2, x2), (4, x4), (6, x6), (7, x7), (8, x8), (29, x29)]) h K = F95_rlrrrrrrrr inv k x0 x2 x4 x6 x7 x8 x29 h (fun y0 y2 y4 y6 y7 y8 y43 h => K .normal (act 66 [(0, y0), (2, y2), (4, y4), (6, y6), (7, y7), (8, y8), (43, y43)]) h) := by
      unfold F95_rlrrrrrrrr
      simp only [kq_block c95 2045 0, kq_seq c95 4090, r95_11, b95_rlrlrrrrrrrr, kq_seq c95 16362, r95_12, r95_13, kq_seq c95 16363, r95_14, b95_rrrlrlrrrrrrrr, kq_seq c95 65454, r95_15, r95_16, kq_skip c95 65455, reduceIte, reduceCtorEq, XE.exit.injEq, Nat.reduceEqDiff, Nat.reduceMul, Nat.reduceAdd] <;> kernel_rfl
theorem r95_17  : kCode env 95 false inv k (cp c95 4092) (act 66 [(0, x0), (2, x2), (4, x4), (6, x6), (7, x7), (8, x8), (43, x43)]) h K =
    bnd (pUn Tryz.prog .not x7) fun x58 =>
    bnd (gd (some x58) false h (some (x8, h))) fun x60 =>
    bnd (gd (some x58) false x60.2 (some (x0, x60.2))) fun x61 =>
    bnd (gd (some x58) false x61.2 (inv (.func 104) #[] #[x60.1, x61.1] x61.2)) fun x62 =>
    bnd (gd (some x58) false x62.2 (lt (pUn Tryz.prog .not x62.1) x62.2)) fun x63 =>
    bnd (pickV x58 (.bool true) x63.1) fun x64 =>
    K .normal (act 66 [(2, x2), (64, x64)]) x63.2 := kq_reg
theorem b95_rlrrrrrrrrr  : kCode env 95 false inv k (cp c95 4093) (act 66 [(2, x2), (64, x64)]) h K = brV x64 (kCode env 95 false inv k (cp c95 8186) (act 66 [(2, x2), (64, x64)]) h K) (kCode env 95 false inv k (cp c95 8187) (act 66 [(2, x2), (64, x64)]) h K) := kq_cond
theorem r95_18  : kCode env 95 false inv k (cp c95 16372) (act 66 [(2, x2), (64, x64)]) h K =
    K .normal (act 66 [(2, (.slice none 0 0)), (3, (.int .i64 4))]) h := kq_reg
theorem r95_19  : kCode env 95 false inv k (cp c95 4094) (act 66 [(2, x2), (64, x64)]) h K =
    K .normal (act 66 [(2, x2), (3, (.int .i64 0))]) h := kq_reg
/-- shadowbook/texts.Get -/
noncomputable def F95 (inv : Inv) (k : Nat) (x0 : Value) (h : AH) : Option (Value × AH) :=
    bnd (inv (.func 58) #[] #[x0] h) fun x10 =>
    bnd (inv (.func 77) #[] #[x10.1, (.int .i64 1)] x10.2) fun x13 =>
    bnd (pExtract x13.1 0) fun x14 =>
    bnd (pExtract x13.1 1) fun x15 =>
    bnd (pBin Tryz.prog .neq 25 (.tmp 16) (.const (.int .i64 0)) x15 (.int .i64 0)) fun x17 =>
    brV x17
    (some (.tuple #[(.slice none 0 0), (.int .i64 4)], x13.2))
    (bnd (inv (.func 92) #[] #[x10.1] x13.2) fun x20 =>
    bnd (pExtract x20.1 0) fun x21 =>
    bnd (pExtract x20.1 1) fun x22 =>
    G95_6 inv x0 (.slice none 0 0) x22 x10.1 x14 x21 x20.2 fun y28 h =>
    brV y28
    (some (.tuple #[(.slice none 0 0), (.int .i64 4)], h))
    (F95_rlrrrrrrrr inv k x0 (.slice none 0 0) x10.1 x21 (.bool false) (.slice none 0 0) x14 h
    (fun y0 y2 y4 y6 y7 y8 y43 h_1 =>
    bnd (pUn Tryz.prog .not y7) fun x58 =>
    bnd (gd (some x58) false h_1 (some (y8, h_1))) fun x60 =>
    bnd (gd (some x58) false x60.2 (some (y0, x60.2))) fun x61 =>
    bnd (gd (some x58) false x61.2 (inv (.func 104) #[] #[x60.1, x61.1] x61.2)) fun x62 =>
    bnd (gd (some x58) false x62.2 (lt (pUn Tryz.prog .not x62.1) x62.2)) fun x63 =>
    bnd (pickV x58 (.bool true) x63.1) fun x64 =>
    brV x64
    (some (.tuple #[(.slice none 0 0), (.int .i64 4)], x63.2))
    (some (.tuple #[y2, (.int .i64 0)], x63.2)))))
theorem F95_eq : eFun env k inv 95 #[x0] h = F95 inv k x0 h := by
      refine (kq_fun (a := act 66 [(0, x0)]) (c := cp c95 1)).trans ?_
      unfold F95
      simp only [kq_seq c95 1, r95_0, kq_seq c95 3, r95_1, kq_seq c95 7, r95_2, kq_seq c95 15, kq_seq c95 30, r95_3, b95_rlrrr, kq_seq c95 122, r95_4, kq_ret c95 245, res95_0, kq_skip c95 123, kq_seq c95 31, r95_5, kq_seq c95 63, kq_seq c95 126, r95_6, b95_rlrrrrr, kq_seq c95 506, r95_7, kq_ret c95 1013, kq_skip c95 507, kq_seq c95 127, r95_8, kq_seq c95 255, r95_9, kq_seq c95 511, kq_seq c95 1022, r95_10, F95_rlrrrrrrrr_eq, kq_seq c95 1023, kq_seq c95 2046, r95_17, b95_rlrrrrrrrrr, kq_seq c95 8186, r95_18, kq_ret c95 16373, kq_skip c95 8187, kq_seq c95 2047, r95_19, kq_ret c95 4095, reduceIte, reduceCtorEq, XE.exit.injEq, Nat.reduceEqDiff, Nat.reduceMul, Nat.reduceAdd] <;> kernel_rfl
theorem F95_call : eInv env (k + 1) (.func 95) #[] #[x0] h = F95 (eInv env k) k x0 h := kq_inv F95_eq
noncomputable def c96 : Code := codeOf Tryz.prog 96
theorem r96_0  : kCode env 96 false inv k (cp c96 2) (act 16 [(0, x0)]) h K =
    K .normal (act 16 [(0, x0), (2, (.int .i64 0))]) h := kq_reg
theorem r96_1  : kCode env 96 false inv k (cp c96 12) (act 16 [(0, x0), (2, x2)]) h K =
    bnd (pLen Tryz.prog #[105] x0 h) fun x6 =>
    K .normal (act 16 [(2, x2), (5, x0), (6, x6), (7, (.int .i64 0))]) h := kq_reg
theorem r96_2  : kCode env 96 false inv k (cp c96 104) (act 16 [(2, x2), (5, x5), (6, x6), (7, x7)]) h K =
    bnd (pBin Tryz.prog .lss 3 (.tmp 7) (.tmp 6) x7 x6) fun x8 =>
    K .normal (act 16 [(2, x2), (5, x5), (6, x6), (7, x7), (8, x8)]) h := kq_reg
theorem b96_lrllrlr  : kCode env 96 false inv k (cp c96 210) (act 16 [(2, x2), (5, x5), (6, x6), (7, x7), (8, x8)]) h K = brV x8 (kCode env 96 false inv k (cp c96 420) (act 16 [(2, x2), (5, x5), (6, x6), (7, x7), (8, x8)]) h K) (kCode env 96 false inv k (cp c96 421) (act 16 [(2, x2), (5, x5), (6, x6), (7, x7), (8, x8)]) h K) := kq_cond
theorem r96_3  : kCode env 96 false inv k (cp c96 1688) (act 16 [(2, x2), (5, x5), (6, x6), (7, x7), (8, x8)]) h K =
    bnd (pIndexAddr Tryz.prog 105 x5 x7) fun x9 =>
    bnd (pLoad Tryz.prog 4 x9 h) fun x10 =>
    K .normal (act 16 [(2, x2), (4, x10), (5, x5), (6, x6), (7, x7)]) h := kq_reg
theorem r96_4  : kCode env 96 false inv k (cp c96 3378) (act 16 [(2, x2), (4, x4), (5, x5), (6, x6), (7, x7)]) h K =
    K .normal (act 16 [(2, x2), (5, x5), (6, x6), (7, x7), (11, x4)]) h := kq_reg
theorem b96_rrllrrllrlr  : kCode env 96 false inv k (cp c96 3379) (act 16 [(2, x2), (5, x5), (6, x6), (7, x7), (11, x11)]) h K = brV x11 (kCode env 96 false inv k (cp c96 6758) (act 16 [(2, x2), (5, x5), (6, x6), (7, x7), (11, x11)]) h K) (kCode env 96 false inv k (cp c96 6759) (act 16 [(2, x2), (5, x5), (6, x6), (7, x7), (11, x11)]) h K) := kq_cond
theorem r96_5  : kCode env 96 false inv k (cp c96 6758) (act 16 [(2, x2), (5, x5), (6, x6), (7, x7), (11, x11)]) h K =
    bnd (pBin Tryz.prog .add 3 (.tmp 12) (.const (.int .i64 1)) x2 (.int .i64 1)) fun x13 =>
    K .normal (act 16 [(2, x13), (5, x5), (6, x6), (7, x7)]) h := kq_reg
noncomputable def F96_lrrllrlr {β : Type} (inv : Inv) (k : Nat) (x2 x5 x6 x7 x8 : Value) (h : AH) (kn : (Value → Value → Value → Value → Value → AH → Option β)) : Option β :=
    bnd (pIndexAddr Tryz.prog 105 x5 x7) fun x9 =>
    bnd (pLoad Tryz.prog 4 x9 h) fun x10 =>
    brV x10
    (bnd (pBin Tryz.prog .add 3 (.tmp 12) (.const (.int .i64 1)) x2 (.int .i64 1)) fun x13 =>
    kn x13 x5 x6 x7 unk h)
    (kn x2 x5 x6 x7 x10 h)
theorem F96_lrrllrlr_eq  : kCode env 96 false inv k (cp c96 422) (act 16 [(2, x2), (5, x5), (6, x6), (7, x7), (8, x8)]) h K = F96_lrrllrlr inv k x2 x5 x6 x7 x8 h (fun y2 y5 y6 y7 y11 h => K .normal (act 16 [(2, y2), (5, y5), (6, y6), (7, y7), (11, y11)]) h) := by
      unfold F96_lrrllrlr
      simp only [kq_block c96 422 1, kq_seq c96 844, r96_3, kq_seq c96 1689, r96_4, b96_rrllrrllrlr, r96_5, kq_skip c96 6759, reduceIte, reduceCtorEq, XE.exit.injEq, Nat.reduceEqDiff, Nat.reduceMul, Nat.reduceAdd] <;> kernel_rfl
theorem r96_6  : kCode env 96 false inv k (cp c96 423) (act 16 [(2, x2), (5, x5), (6, x6), (7, x7), (11, x11)]) h K =
    bnd (pBin Tryz.prog .add 3 (.tmp 7) (.const (.int .i64 1)) x7 (.int .i64 1)) fun x14 =>
    K .normal (act 16 [(2, x2), (5, x5), (6, x6), (7, x14)]) h := kq_reg
noncomputable def F96_lrlr {β : Type} (inv : Inv) (k : Nat) : Nat → Value → Value → Value → Value → AH → (Value → Value → Value → Value → Value → AH → Option β) → Option β
  | 0, _, _, _, _, _, _ => none
  | j + 1, x2, x5, x6, x7, h, ke0 =>
    bnd (pBin Tryz.prog .lss 3 (.tmp 7) (.tmp 6) x7 x6) fun x8 =>
    brV x8
    (F96_lrrllrlr inv k x2 x5 x6 x7 x8 h
    (fun y2 y5 y6 y7 y11 h =>
    bnd (pBin Tryz.prog .add 3 (.tmp 7) (.const (.int .i64 1)) y7 (.int .i64 1)) fun x14 =>
    F96_lrlr inv k j y2 y5 y6 x14 h ke0))
    (ke0 x2 x5 x6 x7 x8 h)
theorem F96_lrlr_j (j : Nat) : kLoop (kCode env 96 false inv k (cp c96 52)) j (act 16 [(2, x2), (5, x5), (6, x6), (7, x7)]) h K = F96_lrlr inv k j x2 x5 x6 x7 h (fun y2 y5 y6 y7 y8 h => K (.exit 0) (act 16 [(2, y2), (5, y5), (6, y6), (7, y7), (8, y8)]) h) := by
      induction j generalizing x2 x5 x6 x7 h with
      | zero => rfl
      | succ j ih =>
        unfold F96_lrlr
        simp only [kLoop, kq_seq c96 52, r96_2, kq_seq c96 105, b96_lrllrlr, kq_skip c96 420, kq_seq c96 211, F96_lrrllrlr_eq, r96_6, kq_exit c96 421 0, ih, reduceIte, reduceCtorEq, XE.exit.injEq, Nat.reduceEqDiff, Nat.reduceMul, Nat.reduceAdd] <;> kernel_rfl
theorem F96_lrlr_eq  : kCode env 96 false inv k (cp c96 26) (act 16 [(2, x2), (5, x5), (6, x6), (7, x7)]) h K = F96_lrlr inv k k x2 x5 x6 x7 h (fun y2 y5 y6 y7 y8 h => K (.exit 0) (act 16 [(2, y2), (5, y5), (6, y6), (7, y7), (8, y8)]) h) := kq_loop (F96_lrlr_j k)
theorem r96_7  : kCode env 96 false inv k (cp c96 14) (act 16 [(2, x2), (5, x5), (6, x6), (7, x7), (8, x8)]) h K =
    K .normal (act 16 [(2, x2)]) h := kq_reg
theorem res96_0 : resOfFn env.P 96 .ret (act 16 [(2, x2)]) h = some (x2, h) := kq_res
/-- (shadowbook/nulls.flags).count -/
noncomputable def F96 (inv : Inv) (k : Nat) (x0 : Value) (h : AH) : Option (Value × AH) :=
    bnd (pLen Tryz.prog #[105] x0 h) fun x6 =>
    F96_lrlr inv k k (.int .i64 0) x0 x6 (.int .i64 0) h
    (fun y2 y5 y6 y7 y8 h =>
    some (y2, h))
theorem F96_eq : eFun env k inv 96 #[x0] h = F96 inv k x0 h := by
      refine (kq_fun (a := act 16 [(0, x0)]) (c := cp c96 1)).trans ?_
      unfold F96
      simp only [kq_seq c96 1, r96_0, kq_seq c96 3, kq_seq c96 6, r96_1, kq_block c96 13 0, F96_lrlr_eq, kq_seq c96 7, r96_7, kq_ret c96 15, res96_0, reduceIte, reduceCtorEq, XE.exit.injEq, Nat.reduceEqDiff, Nat.reduceMul, Nat.reduceAdd] <;> kernel_rfl
theorem F96_call : eInv env (k + 1) (.func 96) #[] #[x0] h = F96 (eInv env k) k x0 h := kq_inv F96_eq
noncomputable def c97 : Code := codeOf Tryz.prog 97
theorem r97_0  : kCode env 97 false inv k (cp c97 2) (act 19 [(0, x0), (1, x1)]) h K =
    K .normal (act 19 [(0, x0), (1, x1)]) h := kq_reg
noncomputable abbrev G97_1 {β : Type} (inv : Inv) (x0 x1 : Value) (h : AH) (K : Value → AH → Option β) : Option β :=
    bnd (pBin Tryz.prog .geq 3 (.tmp 5) (.const (.int .i64 0)) x0 (.int .i64 0)) fun x6 =>
    bnd (gd (some x6) true h (some (x0, h))) fun x8 =>
    bnd (gd (some x6) true x8.2 (lt (pBin Tryz.prog .leq 3 (.tmp 8) (.const (.int .i64 65536)) x8.1 (.int .i64 65536)) x8.2)) fun x9 =>
    bnd (pickV x6 x9.1 (.bool false)) fun x10 =>
    bnd (gd (some x10) true x9.2 (some (x1, x9.2))) fun x12 =>
    bnd (gd (some x10) true x12.2 (lt (pBin Tryz.prog .geq 3 (.tmp 12) (.const (.int .i64 0)) x12.1 (.int .i64 0)) x12.2)) fun x13 =>
    bnd (pickV x10 x13.1 (.bool false)) fun x14 =>
    bnd (gd (some x14) true x13.2 (some (x1, x13.2))) fun x16 =>
    bnd (gd (some x14) true x16.2 (lt (pBin Tryz.prog .leq 3 (.tmp 16) (.const (.int .i64 64)) x16.1 (.int .i64 64)) x16.2)) fun x17 =>
    bnd (pickV x14 x17.1 (.bool false)) fun x18 =>
    K (x18) x17.2
theorem r97_1  : kCode env 97 false inv k (cp c97 6) (act 19 [(0, x0), (1, x1)]) h K =
    G97_1 inv x0 x1 h fun y4 h => K .normal (act 19 [(4, y4)]) h := kq_reg
theorem res97_0 : resOfFn env.P 97 .ret (act 19 [(4, x4)]) h = some (x4, h) := kq_res
/-- shadowbook/packs.may -/
noncomputable def F97 (inv : Inv) (k : Nat) (x0 x1 : Value) (h : AH) : Option (Value × AH) :=
    G97_1 inv x0 x1 h fun y4 h =>
    some (y4, h)
theorem F97_eq : eFun env k inv 97 #[x0, x1] h = F97 inv k x0 x1 h := by
      refine (kq_fun (a := act 19 [(0, x0), (1, x1)]) (c := cp c97 1)).trans ?_
      unfold F97
      simp only [kq_seq c97 1, r97_0, kq_seq c97 3, r97_1, kq_ret c97 7, res97_0, reduceIte, reduceCtorEq, XE.exit.injEq, Nat.reduceEqDiff, Nat.reduceMul, Nat.reduceAdd] <;> kernel_rfl
theorem F97_call : eInv env (k + 1) (.func 97) #[] #[x0, x1] h = F97 (eInv env k) k x0 x1 h := kq_inv F97_eq
noncomputable def c98 : Code := codeOf Tryz.prog 98
theorem r98_0  : kCode env 98 false inv k (cp c98 2) (act 18 [(0, x0)]) h K =
    K .normal (act 18 [(0, x0)]) h := kq_reg
theorem r98_1  : kCode env 98 false inv k (cp c98 6) (act 18 [(0, x0)]) h K =
    K .normal (act 18 [(0, x0), (3, (.int .u64 0))]) h := kq_reg
theorem r98_2  : kCode env 98 false inv k (cp c98 28) (act 18 [(0, x0), (3, x3)]) h K =
    bnd (pLen Tryz.prog #[63] x0 h) fun x7 =>
    K .normal (act 18 [(3, x3), (6, x0), (7, x7), (8, (.int .i64 0))]) h := kq_reg
theorem r98_3  : kCode env 98 false inv k (cp c98 232) (act 18 [(3, x3), (6, x6), (7, x7), (8, x8)]) h K =
    bnd (pBin Tryz.prog .lss 3 (.tmp 8) (.tmp 7) x8 x7) fun x9 =>
    K .normal (act 18 [(3, x3), (6, x6), (7, x7), (8, x8), (9, x9)]) h := kq_reg
theorem b98_lrllrlrr  : kCode env 98 false inv k (cp c98 466) (act 18 [(3, x3), (6, x6), (7, x7), (8, x8), (9, x9)]) h K = brV x9 (kCode env 98 false inv k (cp c98 932) (act 18 [(3, x3), (6, x6), (7, x7), (8, x8), (9, x9)]) h K) (kCode env 98 false inv k (cp c98 933) (act 18 [(3, x3), (6, x6), (7, x7), (8, x8), (9, x9)]) h K) := kq_cond
theorem r98_4  : kCode env 98 false inv k (cp c98 3736) (act 18 [(3, x3), (6, x6), (7, x7), (8, x8), (9, x9)]) h K =
    bnd (pIndexAddr Tryz.prog 63 x6 x8) fun x10 =>
    bnd (pLoad Tryz.prog 60 x10 h) fun x11 =>
    K .normal (act 18 [(3, x3), (5, x11), (6, x6), (7, x7), (8, x8)]) h := kq_reg
theorem r98_5  : kCode env 98 false inv k (cp c98 3737) (act 18 [(3, x3), (5, x5), (6, x6), (7, x7), (8, x8)]) h K =
    bnd (pBin Tryz.prog .or 60 (.tmp 12) (.tmp 13) x3 x5) fun x14 =>
    K .normal (act 18 [(3, x14), (6, x6), (7, x7), (8, x8)]) h := kq_reg
theorem r98_6  : kCode env 98 false inv k (cp c98 935) (act 18 [(3, x3), (6, x6), (7, x7), (8, x8)]) h K =
    bnd (pBin Tryz.prog .add 3 (.tmp 8) (.const (.int .i64 1)) x8 (.int .i64 1)) fun x15 =>
    K .normal (act 18 [(3, x3), (6, x6), (7, x7), (8, x15)]) h := kq_reg
noncomputable def F98_lrlrr {β : Type} (inv : Inv) (k : Nat) : Nat → Value → Value → Value → Value → AH → (Value → Value → Value → Value → Value → AH → Option β) → Option β
  | 0, _, _, _, _, _, _ => none
  | j + 1, x3, x6, x7, x8, h, ke0 =>
    bnd (pBin Tryz.prog .lss 3 (.tmp 8) (.tmp 7) x8 x7) fun x9 =>
    brV x9
    (bnd (pIndexAddr Tryz.prog 63 x6 x8) fun x10 =>
    bnd (pLoad Tryz.prog 60 x10 h) fun x11 =>
    bnd (pBin Tryz.prog .or 60 (.tmp 12) (.tmp 13) x3 x11) fun x14 =>
    bnd (pBin Tryz.prog .add 3 (.tmp 8) (.const (.int .i64 1)) x8 (.int .i64 1)) fun x15 =>
    F98_lrlrr inv k j x14 x6 x7 x15 h ke0)
    (ke0 x3 x6 x7 x8 x9 h)
theorem F98_lrlrr_j (j : Nat) : kLoop (kCode env 98 false inv k (cp c98 116)) j (act 18 [(3, x3), (6, x6), (7, x7), (8, x8)]) h K = F98_lrlrr inv k j x3 x6 x7 x8 h (fun y3 y6 y7 y8 y9 h => K (.exit 0) (act 18 [(3, y3), (6, y6), (7, y7), (8, y8), (9, y9)]) h) := by
      induction j generalizing x3 x6 x7 x8 h with
      | zero => rfl
      | succ j ih =>
        unfold F98_lrlrr
        simp only [kLoop, kq_seq c98 116, r98_3, kq_seq c98 233, b98_lrllrlrr, kq_skip c98 932, kq_seq c98 467, kq_block c98 934 1, kq_seq c98 1868, r98_4, r98_5, r98_6, kq_exit c98 933 0, ih, reduceIte, reduceCtorEq, XE.exit.injEq, Nat.reduceEqDiff, Nat.reduceMul, Nat.reduceAdd] <;> kernel_rfl
theorem F98_lrlrr_eq  : kCode env 98 false inv k (cp c98 58) (act 18 [(3, x3), (6, x6), (7, x7), (8, x8)]) h K = F98_lrlrr inv k k x3 x6 x7 x8 h (fun y3 y6 y7 y8 y9 h => K (.exit 0) (act 18 [(3, y3), (6, y6), (7, y7), (8, y8), (9, y9)]) h) := kq_loop (F98_lrlrr_j k)
theorem r98_7  : kCode env 98 false inv k (cp c98 30) (act 18 [(3, x3), (6, x6), (7, x7), (8, x8), (9, x9)]) h K =
    bnd (inv (.func 134) #[] #[x3] h) fun x17 =>
    K .normal (act 18 [(2, x17.1)]) x17.2 := kq_reg
theorem res98_0 : resOfFn env.P 98 .ret (act 18 [(2, x2)]) h = some (x2, h) := kq_res
/-- shadowbook/packs.Width -/
noncomputable def F98 (inv : Inv) (k : Nat) (x0 : Value) (h : AH) : Option (Value × AH) :=
    bnd (pLen Tryz.prog #[63] x0 h) fun x7 =>
    F98_lrlrr inv k k (.int .u64 0) x0 x7 (.int .i64 0) h
    (fun y3 y6 y7 y8 y9 h =>
    bnd (inv (.func 134) #[] #[y3] h) fun x17 =>
    some (x17.1, x17.2))
theorem F98_eq : eFun env k inv 98 #[x0] h = F98 inv k x0 h := by
      refine (kq_fun (a := act 18 [(0, x0)]) (c := cp c98 1)).trans ?_
      unfold F98
      simp only [kq_seq c98 1, r98_0, kq_seq c98 3, r98_1, kq_seq c98 7, kq_seq c98 14, r98_2, kq_block c98 29 0, F98_lrlrr_eq, kq_seq c98 15, r98_7, kq_ret c98 31, res98_0, reduceIte, reduceCtorEq, XE.exit.injEq, Nat.reduceEqDiff, Nat.reduceMul, Nat.reduceAdd] <;> kernel_rfl
theorem F98_call : eInv env (k + 1) (.func 98) #[] #[x0] h = F98 (eInv env k) k x0 h := kq_inv F98_eq
noncomputable def c99 : Code := codeOf Tryz.prog 99
theorem r99_0  : kCode env 99 false inv k (cp c99 2) (act 15 [(0, x0), (1, x1)]) h K =
    K .normal (act 15 [(0, x0), (1, x1)]) h := kq_reg
theorem r99_1  : kCode env 99 false inv k (cp c99 12) (act 15 [(0, x0), (1, x1)]) h K =
    bnd (inv (.func 97) #[] #[x0, x1] h) fun x7 =>
    bnd (pUn Tryz.prog .not x7.1) fun x8 =>
    K .normal (act 15 [(0, x0), (1, x1), (8, x8)]) x7.2 := kq_reg
theorem b99_rlr  : kCode env 99 false inv k (cp c99 13) (act 15 [(0, x0), (1, x1), (8, x8)]) h K = brV x8 (kCode env 99 false inv k (cp c99 26) (act 15 [(0, x0), (1, x1), (8, x8)]) h K) (kCode env 99 false inv k (cp c99 27) (act 15 [(0, x0), (1, x1), (8, x8)]) h K) := kq_cond
theorem r99_2  : kCode env 99 false inv k (cp c99 52) (act 15 [(0, x0), (1, x1), (8, x8)]) h K =
    K .normal (act 15 [(4, (.int .i64 0))]) h := kq_reg
theorem res99_0 : resOfFn env.P 99 .ret (act 15 [(4, x4)]) h = some (x4, h) := kq_res
noncomputable abbrev G99_3 {β : Type} (inv : Inv) (x0 x1 : Value) (h : AH) (K : Value → AH → Option β) : Option β :=
    bnd (pBin Tryz.prog .mul 3 (.tmp 9) (.tmp 10) x0 x1) fun x11 =>
    bnd (pBin Tryz.prog .add 3 (.tmp 11) (.const (.int .i64 8)) x11 (.int .i64 8)) fun x12 =>
    bnd (pBin Tryz.prog .sub 3 (.tmp 12) (.const (.int .i64 1)) x12 (.int .i64 1)) fun x13 =>
    bnd (pBin Tryz.prog .quo 3 (.tmp 13) (.const (.int .i64 8)) x13 (.int .i64 8)) fun x14 =>
    K (x14) h
theorem r99_3  : kCode env 99 false inv k (cp c99 14) (act 15 [(0, x0), (1, x1), (8, x8)]) h K =
    G99_3 inv x0 x1 h fun y4 h => K .normal (act 15 [(4, y4)]) h := kq_reg
/-- shadowbook/packs.Size -/
noncomputable def F99 (inv : Inv) (k : Nat) (x0 x1 : Value) (h : AH) : Option (Value × AH) :=
    bnd (inv (.func 97) #[] #[x0, x1] h) fun x7 =>
    bnd (pUn Tryz.prog .not x7.1) fun x8 =>
    brV x8
    (some ((.int .i64 0), x7.2))
    (G99_3 inv x0 x1 x7.2 fun y4 h =>
    some (y4, h))
theorem F99_eq : eFun env k inv 99 #[x0, x1] h = F99 inv k x0 x1 h := by
      refine (kq_fun (a := act 15 [(0, x0), (1, x1)]) (c := cp c99 1)).trans ?_
      unfold F99
      simp only [kq_seq c99 1, r99_0, kq_seq c99 3, kq_seq c99 6, r99_1, b99_rlr, kq_seq c99 26, r99_2, kq_ret c99 53, res99_0, kq_skip c99 27, kq_seq c99 7, r99_3, kq_ret c99 15, reduceIte, reduceCtorEq, XE.exit.injEq, Nat.reduceEqDiff, Nat.reduceMul, Nat.reduceAdd] <;> kernel_rfl
theorem F99_call : eInv env (k + 1) (.func 99) #[] #[x0, x1] h = F99 (eInv env k) k x0 x1 h := kq_inv F99_eq
noncomputable def c100 : Code := codeOf Tryz.prog 100
theorem r100_0  : kCode env 100 false inv k (cp c100 2) (act 18 [(0, x0), (1, x1), (2, x2), (3, x3)]) h K =
    bnd (pLoad Tryz.prog 5 x1 h) fun x5 =>
    bnd (pLoad Tryz.prog 3 x2 h) fun x7 =>
    bnd (pBin Tryz.prog .shl 5 (.tmp 6) (.tmp 7) x0 x7) fun x8 =>
    bnd (pBin Tryz.prog .or 5 (.tmp 5) (.tmp 8) x5 x8) fun x9 =>
    bnd (kSt (pStore Tryz.prog 5 x1 x9 h)) fun u =>
    K .normal (act 18 [(1, x1), (2, x2), (3, x3)]) u.2 := kq_draw
theorem r100_1  : kCode env 100 false inv k (cp c100 6) (act 18 [(1, x1), (2, x2), (3, x3)]) h K =
    bnd (pLoad Tryz.prog 3 x2 h) fun x10 =>
    bnd (pBin Tryz.prog .add 3 (.tmp 10) (.const (.int .i64 1)) x10 (.int .i64 1)) fun x11 =>
    bnd (kSt (pStore Tryz.prog 3 x2 x11 h)) fun u =>
    K .normal (act 18 [(1, x1), (2, x2), (3, x3)]) u.2 := kq_reg
theorem r100_2  : kCode env 100 false inv k (cp c100 14) (act 18 [(1, x1), (2, x2), (3, x3)]) h K =
    bnd (pLoad Tryz.prog 3 x2 h) fun x12 =>
    bnd (pBin Tryz.prog .eql 3 (.tmp 12) (.const (.int .i64 8)) x12 (.int .i64 8)) fun x13 =>
    K .normal (act 18 [(1, x1), (2, x2), (3, x3), (13, x13)]) h := kq_reg
theorem b100_rrr  : kCode env 100 false inv k (cp c100 15) (act 18 [(1, x1), (2, x2), (3, x3), (13, x13)]) h K = brV x13 (kCode env 100 false inv k (cp c100 30) (act 18 [(1, x1), (2, x2), (3, x3), (13, x13)]) h K) (kCode env 100 false inv k (cp c100 31) (act 18 [(1, x1), (2, x2), (3, x3), (13, x13)]) h K) := kq_cond
theorem r100_3  : kCode env 100 false inv k (cp c100 60) (act 18 [(1, x1), (2, x2), (3, x3), (13, x13)]) h K =
    bnd (pLoad Tryz.prog 33 x3 h) fun x14 =>
    bnd (pLoad Tryz.prog 5 x1 h) fun x15 =>
    bnd (pBuildSlice Tryz.prog 33 1 #[(0, x15)] h) fun x16 =>
    bnd (pAppend Tryz.prog #[33, 33] x14 x16.1 x16.2) fun x17 =>
    bnd (kSt (pStore Tryz.prog 33 x3 x17.1 x17.2)) fun u =>
    K .normal (act 18 [(1, x1), (2, x2)]) u.2 := kq_reg
theorem r100_4  : kCode env 100 false inv k (cp c100 61) (act 18 [(1, x1), (2, x2)]) h K =
    bnd (kSt (pStore Tryz.prog 5 x1 (.int .u8 0) h)) fun u =>
    bnd (kSt (pStore Tryz.prog 3 x2 (.int .i64 0) u.2)) fun u_3 =>
    K .normal (act 18 []) u_3.2 := kq_reg
theorem res100_0 : resOfFn env.P 100 .normal (act 18 []) h = some (.tuple #[], h) := kq_res
theorem res100_1 : resOfFn env.P 100 .normal (act 18 [(1, x1), (2, x2), (3, x3), (13, x13)]) h = some (.tuple #[], h) := kq_res
/-- shadowbook/packs.Put$1 -/
noncomputable def F100 (inv : Inv) (k : Nat) (x0 x1 x2 x3 : Value) (h : AH) : Option (Value × AH) :=
    bnd (pLoad Tryz.prog 5 x1 h) fun x5 =>
    bnd (pLoad Tryz.prog 3 x2 h) fun x7 =>
    bnd (pBin Tryz.prog .shl 5 (.tmp 6) (.tmp 7) x0 x7) fun x8 =>
    bnd (pBin Tryz.prog .or 5 (.tmp 5) (.tmp 8) x5 x8) fun x9 =>
    bnd (kSt (pStore Tryz.prog 5 x1 x9 h)) fun u =>
    bnd (pLoad Tryz.prog 3 x2 u.2) fun x10 =>
    bnd (pBin Tryz.prog .add 3 (.tmp 10) (.const (.int .i64 1)) x10 (.int .i64 1)) fun x11 =>
    bnd (kSt (pStore Tryz.prog 3 x2 x11 u.2)) fun u_1 =>
    bnd (pLoad Tryz.prog 3 x2 u_1.2) fun x12 =>
    bnd (pBin Tryz.prog .eql 3 (.tmp 12) (.const (.int .i64 8)) x12 (.int .i64 8)) fun x13 =>
    brV x13
    (bnd (pLoad Tryz.prog 33 x3 u_1.2) fun x14 =>
    bnd (pLoad Tryz.prog 5 x1 u_1.2) fun x15 =>
    bnd (pBuildSlice Tryz.prog 33 1 #[(0, x15)] u_1.2) fun x16 =>
    bnd (pAppend Tryz.prog #[33, 33] x14 x16.1 x16.2) fun x17 =>
    bnd (kSt (pStore Tryz.prog 33 x3 x17.1 x17.2)) fun u_2 =>
    bnd (kSt (pStore Tryz.prog 5 x1 (.int .u8 0) u_2.2)) fun u_4 =>
    bnd (kSt (pStore Tryz.prog 3 x2 (.int .i64 0) u_4.2)) fun u_5 =>
    some (.tuple #[], u_5.2))
    (some (.tuple #[], u_1.2))
theorem F100_eq : eFun env k inv 100 #[x0, x1, x2, x3] h = F100 inv k x0 x1 x2 x3 h := by
      refine (kq_fun (a := act 18 [(0, x0), (1, x1), (2, x2), (3, x3)]) (c := cp c100 1)).trans ?_
      unfold F100
      simp only [kq_seq c100 1, r100_0, kq_seq c100 3, r100_1, kq_seq c100 7, r100_2, b100_rrr, kq_seq c100 30, r100_3, r100_4, res100_0, kq_skip c100 31, res100_1, reduceIte, reduceCtorEq, XE.exit.injEq, Nat.reduceEqDiff, Nat.reduceMul, Nat.reduceAdd] <;> kernel_rfl
theorem F100_call : eInv env (k + 1) (.func 100) #[] #[x0, x1, x2, x3] h = F100 (eInv env k) k x0 x1 x2 x3 h := kq_inv F100_eq
noncomputable def c101 : Code := codeOf Tryz.prog 101
theorem r101_0  : kCode env 101 false inv k (cp c101 2) (act 22 [(0, x0), (1, x1)]) h K =
    bnd (pBox Tryz.prog 31 x0 h) fun x2 =>
    bnd (pBox Tryz.prog 31 x1 x2.2) fun x3 =>
    K .normal (act 22 [(2, x2.1), (3, x3.1)]) x3.2 := kq_reg
noncomputable abbrev G101_1 {β : Type} (inv : Inv) (x2 x3 : Value) (h : AH) (K : Value → AH → Option β) : Option β :=
    bnd (pFieldAddr Tryz.prog 31 x2 0) fun x5 =>
    bnd (pLoad Tryz.prog 3 x5 h) fun x6 =>
    bnd (pFieldAddr Tryz.prog 31 x3 0) fun x7 =>
    bnd (pLoad Tryz.prog 3 x7 h) fun x8 =>
    bnd (inv (.func 124) #[] #[x6, x8] h) fun x9 =>
    bnd (pFieldAddr Tryz.prog 31 x2 1) fun x10 =>
    bnd (pLoad Tryz.prog 2 x10 x9.2) fun x11 =>
    bnd (pFieldAddr Tryz.prog 31 x3 1) fun x12 =>
    bnd (pLoad Tryz.prog 2 x12 x9.2) fun x13 =>
    bnd (inv (.func 136) #[] #[x11, x13] x9.2) fun x14 =>
    bnd (pFieldAddr Tryz.prog 31 x2 2) fun x15 =>
    bnd (pLoad Tryz.prog 9 x15 x14.2) fun x16 =>
    bnd (pFieldAddr Tryz.prog 31 x3 2) fun x17 =>
    bnd (pLoad Tryz.prog 9 x17 x14.2) fun x18 =>
    bnd (inv (.func 137) #[] #[x16, x18] x14.2) fun x19 =>
    bnd (pBuildSlice Tryz.prog 72 3 #[(0, x9.1), (1, x14.1), (2, x19.1)] x19.2) fun x20 =>
    bnd (inv (.func 135) #[] #[x20.1] x20.2) fun x21 =>
    chkK ((!true || !true || (sameO (pLoad Tryz.prog 2 x10 h) x11 && sameO (pLoad Tryz.prog 2 x10 x9.2) x11)) && ((!true || !true || (sameO (pLoad Tryz.prog 2 x12 h) x13 && sameO (pLoad Tryz.prog 2 x12 x9.2) x13)) && ((!true || !true || (sameO (pLoad Tryz.prog 9 x15 h) x16 && sameO (pLoad Tryz.prog 9 x15 x9.2) x16)) && ((!true || !true || (sameO (pLoad Tryz.prog 9 x15 x9.2) x16 && sameO (pLoad Tryz.prog 9 x15 x14.2) x16)) && ((!true || !true || (sameO (pLoad Tryz.prog 9 x17 h) x18 && sameO (pLoad Tryz.prog 9 x17 x9.2) x18)) && ((!true || !true || (sameO (pLoad Tryz.prog 9 x17 x9.2) x18 && sameO (pLoad Tryz.prog 9 x17 x14.2) x18)) && true)))))) <|
    K (x21.1) x21.2
theorem r101_1  : kCode env 101 false inv k (cp c101 6) (act 22 [(2, x2), (3, x3)]) h K =
    G101_1 inv x2 x3 h fun y4 h => K .normal (act 22 [(4, y4)]) h := kq_draw
theorem res101_0 : resOfFn env.P 101 .ret (act 22 [(4, x4)]) h = some (x4, h) := kq_res
/-- shadowbook/zone.Compare -/
noncomputable def F101 (inv : Inv) (k : Nat) (x0 x1 : Value) (h : AH) : Option (Value × AH) :=
    bnd (pBox Tryz.prog 31 x0 h) fun x2 =>
    bnd (pBox Tryz.prog 31 x1 x2.2) fun x3 =>
    G101_1 inv x2.1 x3.1 x3.2 fun y4 h =>
    some (y4, h)
theorem F101_eq : eFun env k inv 101 #[x0, x1] h = F101 inv k x0 x1 h := by
      refine (kq_fun (a := act 22 [(0, x0), (1, x1)]) (c := cp c101 1)).trans ?_
      unfold F101
      simp only [kq_seq c101 1, r101_0, kq_seq c101 3, r101_1, kq_ret c101 7, res101_0, reduceIte, reduceCtorEq, XE.exit.injEq, Nat.reduceEqDiff, Nat.reduceMul, Nat.reduceAdd] <;> kernel_rfl
theorem F101_call : eInv env (k + 1) (.func 101) #[] #[x0, x1] h = F101 (eInv env k) k x0 x1 h := kq_inv F101_eq
noncomputable def c103 : Code := codeOf Tryz.prog 103
theorem r103_0  : kCode env 103 false inv k (cp c103 2) (act 48 [(0, x0), (1, x1)]) h K =
    K .normal (act 48 [(0, x0), (1, x1)]) h := kq_reg
theorem r103_1  : kCode env 103 false inv k (cp c103 12) (act 48 [(0, x0), (1, x1)]) h K =
    bnd (pBin Tryz.prog .lss 3 (.tmp 9) (.const (.int .i64 0)) x1 (.int .i64 0)) fun x10 =>
    K .normal (act 48 [(0, x0), (1, x1), (10, x10)]) h := kq_reg
theorem b103_rlr  : kCode env 103 false inv k (cp c103 13) (act 48 [(0, x0), (1, x1), (10, x10)]) h K = brV x10 (kCode env 103 false inv k (cp c103 26) (act 48 [(0, x0), (1, x1), (10, x10)]) h K) (kCode env 103 false inv k (cp c103 27) (act 48 [(0, x0), (1, x1), (10, x10)]) h K) := kq_cond
theorem r103_2  : kCode env 103 false inv k (cp c103 26) (act 48 [(0, x0), (1, x1), (10, x10)]) h K =
    bnd (pMakeIface Tryz.prog 9 (.string { data := #[99, 97, 110, 110, 111, 116, 32, 98, 101, 32, 110, 101, 103, 97, 116, 105, 118, 101] })) fun x11 =>
    bnd ((none : Option (Value × AH))) fun u =>
    K .normal (act 48 [(0, x0), (1, x1)]) u.2 := kq_reg
noncomputable def F103_rlr {β : Type} (inv : Inv) (k : Nat) (x0 x1 x10 : Value) (h : AH) (kn : (Value → Value → Value → AH → Option β)) : Option β :=
    brV x10
    (bnd (pMakeIface Tryz.prog 9 (.string { data := #[99, 97, 110, 110, 111, 116, 32, 98, 101, 32, 110, 101, 103, 97, 116, 105, 118, 101] })) fun x11 =>
    bnd ((none : Option (Value × AH))) fun u =>
    kn x0 x1 unk u.2)
    (kn x0 x1 x10 h)
theorem F103_rlr_eq  : kCode env 103 false inv k (cp c103 13) (act 48 [(0, x0), (1, x1), (10, x10)]) h K = F103_rlr inv k x0 x1 x10 h (fun y0 y1 y10 h => K .normal (act 48 [(0, y0), (1, y1), (10, y10)]) h) := by
      unfold F103_rlr
      simp only [b103_rlr, r103_2, kq_skip c103 27, reduceIte, reduceCtorEq, XE.exit.injEq, Nat.reduceEqDiff, Nat.reduceMul, Nat.reduceAdd] <;> kernel_rfl
theorem r103_3  : kCode env 103 false inv k (cp c103 14) (act 48 [(0, x0), (1, x1), (10, x10)]) h K =
    bnd (pLen Tryz.prog #[32] x0 h) fun x14 =>
    bnd (pConv Tryz.prog 3 109 x14 h) fun x15 =>
    bnd (pConv Tryz.prog 3 109 x1 h) fun x17 =>
    bnd (inv (.func 138) #[] #[x15, x17] h) fun x18 =>
    bnd (pExtract x18.1 0) fun x19 =>
    bnd (pExtract x18.1 1) fun x20 =>
    K .normal (act 48 [(0, x0), (5, x19), (6, x20)]) x18.2 := kq_reg
noncomputable abbrev G103_4 {β : Type} (inv : Inv) (x0 x5 x6 : Value) (h : AH) (K : Value → AH → Option β) : Option β :=
    bnd (pBin Tryz.prog .gtr 109 (.tmp 21) (.const (.int .u64 0)) x5 (.int .u64 0)) fun x22 =>
    bnd (gd (some x22) false h (some (x6, h))) fun x24 =>
    bnd (gd (some x22) false x24.2 (lt (pBin Tryz.prog .gtr 109 (.tmp 24) (.const (.int .u64 9223372036854775807)) x24.1 (.int .u64 9223372036854775807)) x24.2)) fun x25 =>
    bnd (pickV x22 (.bool true) x25.1) fun x26 =>
    K (x26) x25.2
theorem r103_4  : kCode env 103 false inv k (cp c103 60) (act 48 [(0, x0), (5, x5), (6, x6)]) h K =
    G103_4 inv x0 x5 x6 h fun y26 h => K .normal (act 48 [(0, x0), (6, x6), (26, y26)]) h := kq_reg
theorem b103_rlrrr  : kCode env 103 false inv k (cp c103 61) (act 48 [(0, x0), (6, x6), (26, x26)]) h K = brV x26 (kCode env 103 false inv k (cp c103 122) (act 48 [(0, x0), (6, x6), (26, x26)]) h K) (kCode env 103 false inv k (cp c103 123) (act 48 [(0, x0), (6, x6), (26, x26)]) h K) := kq_cond
theorem r103_5  : kCode env 103 false inv k (cp c103 122) (act 48 [(0, x0), (6, x6), (26, x26)]) h K =
    bnd (pMakeIface Tryz.prog 9 (.string { data := #[116, 104, 101, 32, 114, 101, 115, 117, 108, 116, 32, 111, 102, 32, 40, 108, 101, 110, 40, 120, 41, 32, 42, 32, 99, 111, 117, 110, 116, 41, 32, 111, 118, 101, 114, 102, 108, 111, 119, 115] })) fun x27 =>
    bnd ((none : Option (Value × AH))) fun u =>
    K .normal (act 48 [(0, x0), (6, x6)]) u.2 := kq_reg
noncomputable def F103_rlrrr {β : Type} (inv : Inv) (k : Nat) (x0 x6 x26 : Value) (h : AH) (kn : (Value → Value → Value → AH → Option β)) : Option β :=
    brV x26
    (bnd (pMakeIface Tryz.prog 9 (.string { data := #[116, 104, 101, 32, 114, 101, 115, 117, 108, 116, 32, 111, 102, 32, 40, 108, 101, 110, 40, 120, 41, 32, 42, 32, 99, 111, 117, 110, 116, 41, 32, 111, 118, 101, 114, 102, 108, 111, 119, 115] })) fun x27 =>
    bnd ((none : Option (Value × AH))) fun u =>
    kn x0 x6 unk u.2)
    (kn x0 x6 x26 h)
theorem F103_rlrrr_eq  : kCode env 103 false inv k (cp c103 61) (act 48 [(0, x0), (6, x6), (26, x26)]) h K = F103_rlrrr inv k x0 x6 x26 h (fun y0 y6 y26 h => K .normal (act 48 [(0, y0), (6, y6), (26, y26)]) h) := by
      unfold F103_rlrrr
      simp only [b103_rlrrr, r103_5, kq_skip c103 123, reduceIte, reduceCtorEq, XE.exit.injEq, Nat.reduceEqDiff, Nat.reduceMul, Nat.reduceAdd] <;> kernel_rfl
theorem r103_6  : kCode env 103 false inv k (cp c103 62) (act 48 [(0, x0), (6, x6), (26, x26)]) h K =
    bnd (pConv Tryz.prog 109 3 x6 h) fun x29 =>
    bnd (pMakeSlice Tryz.prog 32 x29 x29 h) fun x30 =>
    K .normal (act 48 [(0, x0), (7, x30.1)]) x30.2 := kq_reg
theorem r103_7  : kCode env 103 false inv k (cp c103 126) (act 48 [(0, x0), (7, x7)]) h K =
    bnd (pCopy Tryz.prog #[32, 32] x7 x0 h) fun x33 =>
    K .normal (act 48 [(7, x7), (8, x33.1)]) x33.2 := kq_reg
theorem r103_8  : kCode env 103 false inv k (cp c103 4064) (act 48 [(7, x7), (8, x8)]) h K =
    bnd (pLen Tryz.prog #[32] x7 h) fun x36 =>
    bnd (pBin Tryz.prog .lss 3 (.tmp 34) (.tmp 36) x8 x36) fun x37 =>
    K .normal (act 48 [(7, x7), (8, x8), (37, x37)]) h := kq_reg
theorem b103_rllllrrrrrr  : kCode env 103 false inv k (cp c103 4065) (act 48 [(7, x7), (8, x8), (37, x37)]) h K = brV x37 (kCode env 103 false inv k (cp c103 8130) (act 48 [(7, x7), (8, x8), (37, x37)]) h K) (kCode env 103 false inv k (cp c103 8131) (act 48 [(7, x7), (8, x8), (37, x37)]) h K) := kq_cond
theorem r103_9  : kCode env 103 false inv k (cp c103 4066) (act 48 [(7, x7), (8, x8), (37, x37)]) h K =
    bnd (pSlice Tryz.prog 32 x7 (some x8) none none h) fun x41 =>
    bnd (pSlice Tryz.prog 32 x7 none (some x8) none h) fun x44 =>
    bnd (pCopy Tryz.prog #[32, 32] x41 x44 h) fun x45 =>
    bnd (pBin Tryz.prog .add 3 (.tmp 38) (.tmp 45) x8 x45.1) fun x46 =>
    K .normal (act 48 [(7, x7), (8, x46)]) x45.2 := kq_draw
noncomputable def F103_llrrrrrr {β : Type} (inv : Inv) (k : Nat) : Nat → Value → Value → AH → (Value → Value → Value → AH → Option β) → Option β
  | 0, _, _, _, _ => none
  | j + 1, x7, x8, h, ke0 =>
    bnd (pLen Tryz.prog #[32] x7 h) fun x36 =>
    bnd (pBin Tryz.prog .lss 3 (.tmp 34) (.tmp 36) x8 x36) fun x37 =>
    brV x37
    (bnd (pSlice Tryz.prog 32 x7 (some x8) none none h) fun x41 =>
    bnd (pSlice Tryz.prog 32 x7 none (some x8) none h) fun x44 =>
    bnd (pCopy Tryz.prog #[32, 32] x41 x44 h) fun x45 =>
    bnd (pBin Tryz.prog .add 3 (.tmp 38) (.tmp 45) x8 x45.1) fun x46 =>
    F103_llrrrrrr inv k j x7 x46 x45.2 ke0)
    (ke0 x7 x8 x37 h)
theorem F103_llrrrrrr_j (j : Nat) : kLoop (kCode env 103 false inv k (cp c103 1016)) j (act 48 [(7, x7), (8, x8)]) h K = F103_llrrrrrr inv k j x7 x8 h (fun y7 y8 y37 h => K (.exit 0) (act 48 [(7, y7), (8, y8), (37, y37)]) h) := by
      induction j generalizing x7 x8 h with
      | zero => rfl
      | succ j ih =>
        unfold F103_llrrrrrr
        simp only [kLoop, kq_seq c103 1016, kq_seq c103 2032, r103_8, b103_rllllrrrrrr, kq_skip c103 8130, kq_block c103 2033 1, r103_9, kq_exit c103 8131 0, ih, reduceIte, reduceCtorEq, XE.exit.injEq, Nat.reduceEqDiff, Nat.reduceMul, Nat.reduceAdd] <;> kernel_rfl
theorem F103_llrrrrrr_eq  : kCode env 103 false inv k (cp c103 508) (act 48 [(7, x7), (8, x8)]) h K = F103_llrrrrrr inv k k x7 x8 h (fun y7 y8 y37 h => K (.exit 0) (act 48 [(7, y7), (8, y8), (37, y37)]) h) := kq_loop (F103_llrrrrrr_j k)
theorem r103_10  : kCode env 103 false inv k (cp c103 510) (act 48 [(7, x7), (8, x8), (37, x37)]) h K =
    K .normal (act 48 [(4, x7)]) h := kq_reg
theorem res103_0 : resOfFn env.P 103 .ret (act 48 [(4, x4)]) h = some (x4, h) := kq_res
/-- slices.Repeat[[]bool,bool] -/
noncomputable def F103 (inv : Inv) (k : Nat) (x0 x1 : Value) (h : AH) : Option (Value × AH) :=
    bnd (pBin Tryz.prog .lss 3 (.tmp 9) (.const (.int .i64 0)) x1 (.int .i64 0)) fun x10 =>
    F103_rlr inv k x0 x1 x10 h
    (fun y0 y1 y10 h =>
    bnd (pLen Tryz.prog #[32] y0 h) fun x14 =>
    bnd (pConv Tryz.prog 3 109 x14 h) fun x15 =>
    bnd (pConv Tryz.prog 3 109 y1 h) fun x17 =>
    bnd (inv (.func 138) #[] #[x15, x17] h) fun x18 =>
    bnd (pExtract x18.1 0) fun x19 =>
    bnd (pExtract x18.1 1) fun x20 =>
    G103_4 inv y0 x19 x20 x18.2 fun y26 h_1 =>
    F103_rlrrr inv k y0 x20 y26 h_1
    (fun y0_2 y6 y26_3 h_4 =>
    bnd (pConv Tryz.prog 109 3 y6 h_4) fun x29 =>
    bnd (pMakeSlice Tryz.prog 32 x29 x29 h_4) fun x30 =>
    bnd (pCopy Tryz.prog #[32, 32] x30.1 y0_2 x30.2) fun x33 =>
    F103_llrrrrrr inv k k x30.1 x33.1 x33.2
    (fun y7 y8 y37 h_5 =>
    some (y7, h_5))))
theorem F103_eq : eFun env k inv 103 #[x0, x1] h = F103 inv k x0 x1 h := by
      refine (kq_fun (a := act 48 [(0, x0), (1, x1)]) (c := cp c103 1)).trans ?_
      unfold F103
      simp only [kq_seq c103 1, r103_0, kq_seq c103 3, kq_seq c103 6, r103_1, F103_rlr_eq, kq_seq c103 7, r103_3, kq_seq c103 15, kq_seq c103 30, r103_4, F103_rlrrr_eq, kq_seq c103 31, r103_6, kq_seq c103 63, r103_7, kq_seq c103 127, kq_block c103 254 0, F103_llrrrrrr_eq, kq_seq c103 255, r103_10, kq_ret c103 511, res103_0, reduceIte, reduceCtorEq, XE.exit.injEq, Nat.reduceEqDiff, Nat.reduceMul, Nat.reduceAdd] <;> kernel_rfl
theorem F103_call : eInv env (k + 1) (.func 103) #[] #[x0, x1] h = F103 (eInv env k) k x0 x1 h := kq_inv F103_eq
noncomputable def c104 : Code := codeOf Tryz.prog 104
theorem r104_0  : kCode env 104 false inv k (cp c104 2) (act 10 [(0, x0), (1, x1)]) h K =
    K .normal (act 10 [(0, x0), (1, x1)]) h := kq_reg
theorem r104_1  : kCode env 104 false inv k (cp c104 6) (act 10 [(0, x0), (1, x1)]) h K =
    bnd (pConv Tryz.prog 33 9 x0 h) fun x6 =>
    bnd (pConv Tryz.prog 33 9 x1 h) fun x8 =>
    bnd (pBin Tryz.prog .eql 9 (.tmp 6) (.tmp 8) x6 x8) fun x9 =>
    K .normal (act 10 [(4, x9)]) h := kq_reg
theorem res104_0 : resOfFn env.P 104 .ret (act 10 [(4, x4)]) h = some (x4, h) := kq_res
/-- bytes.Equal -/
noncomputable def F104 (inv : Inv) (k : Nat) (x0 x1 : Value) (h : AH) : Option (Value × AH) :=
    bnd (pConv Tryz.prog 33 9 x0 h) fun x6 =>
    bnd (pConv Tryz.prog 33 9 x1 h) fun x8 =>
    bnd (pBin Tryz.prog .eql 9 (.tmp 6) (.tmp 8) x6 x8) fun x9 =>
    some (x9, h)
theorem F104_eq : eFun env k inv 104 #[x0, x1] h = F104 inv k x0 x1 h := by
      refine (kq_fun (a := act 10 [(0, x0), (1, x1)]) (c := cp c104 1)).trans ?_
      unfold F104
      simp only [kq_seq c104 1, r104_0, kq_seq c104 3, r104_1, kq_ret c104 7, res104_0, reduceIte, reduceCtorEq, XE.exit.injEq, Nat.reduceEqDiff, Nat.reduceMul, Nat.reduceAdd] <;> kernel_rfl
theorem F104_call : eInv env (k + 1) (.func 104) #[] #[x0, x1] h = F104 (eInv env k) k x0 x1 h := kq_inv F104_eq
noncomputable def c105 : Code := codeOf Tryz.prog 105
theorem r105_0  : kCode env 105 false inv k (cp c105 2) (act 8 [(0, x0)]) h K =
    K .normal (act 8 [(0, x0)]) h := kq_reg
theorem r105_1  : kCode env 105 false inv k (cp c105 12) (act 8 [(0, x0)]) h K =
    bnd (pBin Tryz.prog .eql 33 (.tmp 3) (.const (.slice none 0 0)) x0 (.slice none 0 0)) fun x4 =>
    K .normal (act 8 [(0, x0), (4, x4)]) h := kq_reg
theorem b105_rlr  : kCode env 105 false inv k (cp c105 13) (act 8 [(0, x0), (4, x4)]) h K = brV x4 (kCode env 105 false inv k (cp c105 26) (act 8 [(0, x0), (4, x4)]) h K) (kCode env 105 false inv k (cp c105 27) (act 8 [(0, x0), (4, x4)]) h K) := kq_cond
theorem r105_2  : kCode env 105 false inv k (cp c105 52) (act 8 [(0, x0), (4, x4)]) h K =
    K .normal (act 8 [(2, (.slice none 0 0))]) h := kq_reg
theorem res105_0 : resOfFn env.P 105 .ret (act 8 [(2, x2)]) h = some (x2, h) := kq_res
theorem r105_3  : kCode env 105 false inv k (cp c105 14) (act 8 [(0, x0), (4, x4)]) h K =
    bnd (pBuildSlice Tryz.prog 33 0 #[] h) fun x5 =>
    bnd (pAppend Tryz.prog #[33, 33] x5.1 x0 x5.2) fun x7 =>
    K .normal (act 8 [(2, x7.1)]) x7.2 := kq_reg
/-- slices.Clone[[]byte,byte] -/
noncomputable def F105 (inv : Inv) (k : Nat) (x0 : Value) (h : AH) : Option (Value × AH) :=
    bnd (pBin Tryz.prog .eql 33 (.tmp 3) (.const (.slice none 0 0)) x0 (.slice none 0 0)) fun x4 =>
    brV x4
    (some ((.slice none 0 0), h))
    (bnd (pBuildSlice Tryz.prog 33 0 #[] h) fun x5 =>
    bnd (pAppend Tryz.prog #[33, 33] x5.1 x0 x5.2) fun x7 =>
    some (x7.1, x7.2))
theorem F105_eq : eFun env k inv 105 #[x0] h = F105 inv k x0 h := by
      refine (kq_fun (a := act 8 [(0, x0)]) (c := cp c105 1)).trans ?_
      unfold F105
      simp only [kq_seq c105 1, r105_0, kq_seq c105 3, kq_seq c105 6, r105_1, b105_rlr, kq_seq c105 26, r105_2, kq_ret c105 53, res105_0, kq_skip c105 27, kq_seq c105 7, r105_3, kq_ret c105 15, reduceIte, reduceCtorEq, XE.exit.injEq, Nat.reduceEqDiff, Nat.reduceMul, Nat.reduceAdd] <;> kernel_rfl
theorem F105_call : eInv env (k + 1) (.func 105) #[] #[x0] h = F105 (eInv env k) k x0 h := kq_inv F105_eq
noncomputable def c106 : Code := codeOf Tryz.prog 106
theorem r106_0  : kCode env 106 false inv k (cp c106 2) (act 31 [(0, x0), (1, x1)]) h K =
    K .normal (act 31 [(0, x0), (1, x1)]) h := kq_reg
theorem r106_1  : kCode env 106 false inv k (cp c106 12) (act 31 [(0, x0), (1, x1)]) h K =
    bnd (pNilCheck Tryz.prog x0) fun x8 =>
    bnd (pFieldAddr Tryz.prog 144 x8 0) fun x9 =>
    bnd (pLoad Tryz.prog 33 x9 h) fun x10 =>
    bnd (pLen Tryz.prog #[33] x10 h) fun x11 =>
    bnd (pBin Tryz.prog .lss 3 (.tmp 11) (.tmp 12) x11 x1) fun x13 =>
    K .normal (act 31 [(0, x0), (1, x1), (13, x13)]) h := kq_reg
theorem b106_rlr  : kCode env 106 false inv k (cp c106 13) (act 31 [(0, x0), (1, x1), (13, x13)]) h K = brV x13 (kCode env 106 false inv k (cp c106 26) (act 31 [(0, x0), (1, x1), (13, x13)]) h K) (kCode env 106 false inv k (cp c106 27) (act 31 [(0, x0), (1, x1), (13, x13)]) h K) := kq_cond
theorem r106_2  : kCode env 106 false inv k (cp c106 52) (act 31 [(0, x0), (1, x1), (13, x13)]) h K =
    K .normal (act 31 [(4, (.slice none 0 0)), (5, (.int .i64 7))]) h := kq_reg
theorem res106_0 : resOfFn env.P 106 .ret (act 31 [(4, x4), (5, x5)]) h = some (.tuple #[x4, x5], h) := kq_res
theorem r106_3  : kCode env 106 false inv k (cp c106 14) (act 31 [(0, x0), (1, x1), (13, x13)]) h K =
    bnd (pNilCheck Tryz.prog x0) fun x15 =>
    bnd (pFieldAddr Tryz.prog 144 x15 0) fun x16 =>
    bnd (pLoad Tryz.prog 33 x16 h) fun x17 =>
    bnd (pSlice Tryz.prog 33 x17 none (some x1) (some x1) h) fun x20 =>
    K .normal (act 31 [(0, x0), (1, x1), (6, x20)]) h := kq_reg
theorem r106_4  : kCode env 106 false inv k (cp c106 30) (act 31 [(0, x0), (1, x1), (6, x6)]) h K =
    bnd (pNilCheck Tryz.prog x0) fun x23 =>
    bnd (pFieldAddr Tryz.prog 144 x23 0) fun x24 =>
    bnd (pLoad Tryz.prog 33 x24 h) fun x25 =>
    bnd (pSlice Tryz.prog 33 x25 (some x1) none none h) fun x27 =>
    bnd (pNilCheck Tryz.prog x0) fun x28 =>
    bnd (pFieldAddr Tryz.prog 144 x28 0) fun x29 =>
    bnd (kSt (pStore Tryz.prog 33 x29 x27 h)) fun u =>
    K .normal (act 31 [(6, x6)]) u.2 := kq_reg
theorem r106_5  : kCode env 106 false inv k (cp c106 62) (act 31 [(6, x6)]) h K =
    K .normal (act 31 [(4, x6), (5, (.int .i64 0))]) h := kq_reg
/-- (*shadowbook/octet.Reader).take -/
noncomputable def F106 (inv : Inv) (k : Nat) (x0 x1 : Value) (h : AH) : Option (Value × AH) :=
    bnd (pNilCheck Tryz.prog x0) fun x8 =>
    bnd (pFieldAddr Tryz.prog 144 x8 0) fun x9 =>
    bnd (pLoad Tryz.prog 33 x9 h) fun x10 =>
    bnd (pLen Tryz.prog #[33] x10 h) fun x11 =>
    bnd (pBin Tryz.prog .lss 3 (.tmp 11) (.tmp 12) x11 x1) fun x13 =>
    brV x13
    (some (.tuple #[(.slice none 0 0), (.int .i64 7)], h))
    (bnd (pNilCheck Tryz.prog x0) fun x15 =>
    bnd (pFieldAddr Tryz.prog 144 x15 0) fun x16 =>
    bnd (pLoad Tryz.prog 33 x16 h) fun x17 =>
    bnd (pSlice Tryz.prog 33 x17 none (some x1) (some x1) h) fun x20 =>
    bnd (pNilCheck Tryz.prog x0) fun x23 =>
    bnd (pFieldAddr Tryz.prog 144 x23 0) fun x24 =>
    bnd (pLoad Tryz.prog 33 x24 h) fun x25 =>
    bnd (pSlice Tryz.prog 33 x25 (some x1) none none h) fun x27 =>
    bnd (pNilCheck Tryz.prog x0) fun x28 =>
    bnd (pFieldAddr Tryz.prog 144 x28 0) fun x29 =>
    bnd (kSt (pStore Tryz.prog 33 x29 x27 h)) fun u =>
    some (.tuple #[x20, (.int .i64 0)], u.2))
theorem F106_eq : eFun env k inv 106 #[x0, x1] h = F106 inv k x0 x1 h := by
      refine (kq_fun (a := act 31 [(0, x0), (1, x1)]) (c := cp c106 1)).trans ?_
      unfold F106
      simp only [kq_seq c106 1, r106_0, kq_seq c106 3, kq_seq c106 6, r106_1, b106_rlr, kq_seq c106 26, r106_2, kq_ret c106 53, res106_0, kq_skip c106 27, kq_seq c106 7, r106_3, kq_seq c106 15, r106_4, kq_seq c106 31, r106_5, kq_ret c106 63, reduceIte, reduceCtorEq, XE.exit.injEq, Nat.reduceEqDiff, Nat.reduceMul, Nat.reduceAdd] <;> kernel_rfl
theorem F106_call : eInv env (k + 1) (.func 106) #[] #[x0, x1] h = F106 (eInv env k) k x0 x1 h := kq_inv F106_eq
noncomputable def c120 : Code := codeOf Tryz.prog 120
theorem r120_0  : kCode env 120 false inv k (cp c120 2) (act 18 [(0, x0)]) h K =
    bnd (pAlloc Tryz.prog 60 h) fun x2 =>
    K .normal (act 18 [(0, x0), (2, x2.1)]) x2.2 := kq_reg
theorem r120_1  : kCode env 120 false inv k (cp c120 12) (act 18 [(0, x0), (2, x2)]) h K =
    bnd (pLen Tryz.prog #[33] x0 h) fun x6 =>
    bnd (pBin Tryz.prog .gtr 3 (.tmp 6) (.const (.int .i64 8)) x6 (.int .i64 8)) fun x7 =>
    K .normal (act 18 [(0, x0), (2, x2), (7, x7)]) h := kq_reg
theorem b120_rlr  : kCode env 120 false inv k (cp c120 13) (act 18 [(0, x0), (2, x2), (7, x7)]) h K = brV x7 (kCode env 120 false inv k (cp c120 26) (act 18 [(0, x0), (2, x2), (7, x7)]) h K) (kCode env 120 false inv k (cp c120 27) (act 18 [(0, x0), (2, x2), (7, x7)]) h K) := kq_cond
theorem r120_2  : kCode env 120 false inv k (cp c120 52) (act 18 [(0, x0), (2, x2), (7, x7)]) h K =
    bnd (kSt (pStore Tryz.prog 60 x2 (.int .u64 0) h)) fun u =>
    K .normal (act 18 [(2, x2)]) u.2 := kq_reg
theorem res120_0 : resOfFn env.P 120 .ret (act 18 [(2, x2)]) h = bnd (pLoad Tryz.prog 60 x2 h) fun q0 =>
    some (q0, h) := kq_res
theorem r120_3  : kCode env 120 false inv k (cp c120 28) (act 18 [(0, x0), (2, x2), (7, x7)]) h K =
    bnd (inv (.func 143) #[] #[x0] h) fun x9 =>
    K .normal (act 18 [(2, x2), (9, x9.1)]) x9.2 := kq_reg
theorem g120_lrlrr  : kCode env 120 false inv k (cp c120 58) (act 18 [(2, x2), (9, x9)]) h K = kRange env 120 inv x9 (psOf (cp c120 58)) (cp c120 116) (cp c120 117) (act 18 [(2, x2), (9, x9)]) h fun e h => sw e (K .normal (act 18 [(2, x2), (9, x9)]) h) (none) [] := kq_range (g := x9) (ids := [])
noncomputable def F120_rlrr {β : Type} (inv : Inv) (k : Nat) (x2 x9 : Value) (h : AH) (kn : (Value → Value → AH → Option β)) : Option β :=
    kRange env 120 inv x9 (psOf (cp c120 58)) (cp c120 116) (cp c120 117) (act 18 [(2, x2), (9, x9)]) h fun e h => sw e
    (kn x2 x9 h)
    none []
theorem F120_rlrr_eq  : kCode env 120 false inv k (cp c120 29) (act 18 [(2, x2), (9, x9)]) h K = F120_rlrr inv k x2 x9 h (fun y2 y9 h => K .normal (act 18 [(2, y2), (9, y9)]) h) := by
      unfold F120_rlrr
      simp only [kq_block c120 29 0, g120_lrlrr, reduceIte, reduceCtorEq, XE.exit.injEq, Nat.reduceEqDiff, Nat.reduceMul, Nat.reduceAdd] <;> kernel_rfl
theorem r120_6  : kCode env 120 false inv k (cp c120 30) (act 18 [(2, x2), (9, x9)]) h K =
    bnd (pLoad Tryz.prog 60 x2 h) fun x17 =>
    bnd (kSt (pStore Tryz.prog 60 x2 x17 h)) fun u =>
    K .normal (act 18 [(2, x2)]) u.2 := kq_reg
/-- shadowbook/octet.Of -/
noncomputable def F120 (inv : Inv) (k : Nat) (x0 : Value) (h : AH) : Option (Value × AH) :=
    bnd (pAlloc Tryz.prog 60 h) fun x2 =>
    bnd (pLen Tryz.prog #[33] x0 x2.2) fun x6 =>
    bnd (pBin Tryz.prog .gtr 3 (.tmp 6) (.const (.int .i64 8)) x6 (.int .i64 8)) fun x7 =>
    brV x7
    (bnd (kSt (pStore Tryz.prog 60 x2.1 (.int .u64 0) x2.2)) fun u =>
    bnd (pLoad Tryz.prog 60 x2.1 u.2) fun q0 =>
    some (q0, u.2))
    (bnd (inv (.func 143) #[] #[x0] x2.2) fun x9 =>
    F120_rlrr inv k x2.1 x9.1 x9.2
    (fun y2 y9 h =>
    bnd (pLoad Tryz.prog 60 y2 h) fun x17 =>
    bnd (kSt (pStore Tryz.prog 60 y2 x17 h)) fun u_1 =>
    bnd (pLoad Tryz.prog 60 y2 u_1.2) fun q0 =>
    some (q0, u_1.2)))
theorem F120_eq : eFun env k inv 120 #[x0] h = F120 inv k x0 h := by
      refine (kq_fun (a := act 18 [(0, x0)]) (c := cp c120 1)).trans ?_
      unfold F120
      simp only [kq_seq c120 1, r120_0, kq_seq c120 3, kq_seq c120 6, r120_1, b120_rlr, kq_seq c120 26, r120_2, kq_ret c120 53, res120_0, kq_skip c120 27, kq_seq c120 7, kq_seq c120 14, r120_3, F120_rlrr_eq, kq_seq c120 15, r120_6, kq_ret c120 31, reduceIte, reduceCtorEq, XE.exit.injEq, Nat.reduceEqDiff, Nat.reduceMul, Nat.reduceAdd] <;> kernel_rfl
theorem F120_call : eInv env (k + 1) (.func 120) #[] #[x0] h = F120 (eInv env k) k x0 h := kq_inv F120_eq
theorem r120_4  : kCode env 120 true inv k (cp c120 116) (act 18 [(2, x2), (9, x9), (10, x10), (11, x11)]) h K =
    K .normal (act 18 [(2, x2), (4, x11)]) h := kq_reg
theorem r120_5  : kCode env 120 true inv k (cp c120 234) (act 18 [(2, x2), (4, x4)]) h K =
    bnd (pLoad Tryz.prog 60 x2 h) fun x12 =>
    bnd (pBin Tryz.prog .shl 60 (.tmp 12) (.const (.int .u64 8)) x12 (.int .u64 8)) fun x13 =>
    bnd (pConv Tryz.prog 5 60 x4 h) fun x15 =>
    bnd (pBin Tryz.prog .or 60 (.tmp 13) (.tmp 15) x13 x15) fun x16 =>
    bnd (kSt (pStore Tryz.prog 60 x2 x16 h)) fun u =>
    K .normal (act 18 []) u.2 := kq_reg
noncomputable def R120_lrlrr (inv : Inv) (k l : Nat) (x2 x9 z0 z1 : Value) (h : AH) : Option (Value × AH) :=
    rdBegin l h fun h =>
    bnd (pLoad Tryz.prog 60 x2 h) fun x12 =>
    bnd (pBin Tryz.prog .shl 60 (.tmp 12) (.const (.int .u64 8)) x12 (.int .u64 8)) fun x13 =>
    bnd (pConv Tryz.prog 5 60 z1 h) fun x15 =>
    bnd (pBin Tryz.prog .or 60 (.tmp 13) (.tmp 15) x13 x15) fun x16 =>
    bnd (kSt (pStore Tryz.prog 60 x2 x16 h)) fun u =>
    rdEnd l .normal u.2
theorem R120_lrlrr_eq {l : Nat} {pd : Option Code} (hl : h.get l = some (.loop .ready pd 120 (act 18 [(2, x2), (9, x9)]).tmps (psOf (cp c120 58)) (cp c120 116) (cp c120 117))) : eRound env k inv l #[z0, z1] h = R120_lrlrr inv k l x2 x9 z0 z1 h := by
      refine (eRound_k (a := act 18 [(2, x2), (9, x9), (10, z0), (11, z1)]) hl (by kernel_rfl) (by kernel_rfl)).trans ?_
      unfold R120_lrlrr
      simp only [r120_4, kq_block c120 117 1, r120_5, reduceIte, reduceCtorEq, XE.exit.injEq, Nat.reduceEqDiff, Nat.reduceMul, Nat.reduceAdd] <;> kernel_rfl
noncomputable def c121 : Code := codeOf Tryz.prog 121
theorem r121_0  : kCode env 121 false inv k (cp c121 2) (act 5 []) h K =
    K .normal (act 5 []) h := kq_reg
noncomputable abbrev G121_1 {β : Type} (inv : Inv) (h : AH) (K : Value → AH → Option β) : Option β :=
    bnd (pBuild Tryz.prog 158 #[(0, (.int .u8 1)), (1, (.func (.func 144) #[] #[])), (2, (.func (.func 145) #[] #[]))]) fun x1 =>
    bnd (pBuild Tryz.prog 158 #[(0, (.int .u8 2)), (1, (.func (.func 146) #[] #[])), (2, (.func (.func 147) #[] #[]))]) fun x2 =>
    bnd (pBuild Tryz.prog 158 #[(0, (.int .u8 3)), (1, (.func (.func 148) #[] #[])), (2, (.func (.func 149) #[] #[]))]) fun x3 =>
    bnd (pBuildSlice Tryz.prog 154 3 #[(0, x1), (1, x2), (2, x3)] h) fun x4 =>
    K (x4.1) x4.2
theorem r121_1  : kCode env 121 false inv k (cp c121 6) (act 5 []) h K =
    G121_1 inv  h fun y0 h => K .normal (act 5 [(0, y0)]) h := kq_reg
theorem res121_0 : resOfFn env.P 121 .ret (act 5 [(0, x0)]) h = some (x0, h) := kq_res
/-- shadowbook/ints.forms -/
noncomputable def F121 (inv : Inv) (k : Nat) (h : AH) : Option (Value × AH) :=
    G121_1 inv  h fun y0 h =>
    some (y0, h)
theorem F121_eq : eFun env k inv 121 #[] h = F121 inv k  h := by
      refine (kq_fun (a := act 5 []) (c := cp c121 1)).trans ?_
      unfold F121
      simp only [kq_seq c121 1, r121_0, kq_seq c121 3, r121_1, kq_ret c121 7, res121_0, reduceIte, reduceCtorEq, XE.exit.injEq, Nat.reduceEqDiff, Nat.reduceMul, Nat.reduceAdd] <;> kernel_rfl
theorem F121_call : eInv env (k + 1) (.func 121) #[] #[] h = F121 (eInv env k) k  h := kq_inv F121_eq
noncomputable def c122 : Code := codeOf Tryz.prog 122
theorem r122_0  : kCode env 122 false inv k (cp c122 2) (act 33 [(0, x0), (1, x1)]) h K =
    K .normal (act 33 [(0, x0), (1, x1)]) h := kq_reg
theorem r122_1  : kCode env 122 false inv k (cp c122 12) (act 33 [(0, x0), (1, x1)]) h K =
    bnd (pLen Tryz.prog #[153] x0 h) fun x8 =>
    bnd (pBin Tryz.prog .lss 3 (.tmp 8) (.const (.int .i64 1)) x8 (.int .i64 1)) fun x9 =>
    K .normal (act 33 [(0, x0), (1, x1), (9, x9)]) h := kq_reg
theorem b122_rlr  : kCode env 122 false inv k (cp c122 13) (act 33 [(0, x0), (1, x1), (9, x9)]) h K = brV x9 (kCode env 122 false inv k (cp c122 26) (act 33 [(0, x0), (1, x1), (9, x9)]) h K) (kCode env 122 false inv k (cp c122 27) (act 33 [(0, x0), (1, x1), (9, x9)]) h K) := kq_cond
theorem r122_2  : kCode env 122 false inv k (cp c122 26) (act 33 [(0, x0), (1, x1), (9, x9)]) h K =
    bnd (pMakeIface Tryz.prog 9 (.string { data := #[115, 108, 105, 99, 101, 115, 46, 77, 105, 110, 70, 117, 110, 99, 58, 32, 101, 109, 112, 116, 121, 32, 108, 105, 115, 116] })) fun x10 =>
    bnd ((none : Option (Value × AH))) fun u =>
    K .normal (act 33 [(0, x0), (1, x1)]) u.2 := kq_reg
noncomputable def F122_rlr {β : Type} (inv : Inv) (k : Nat) (x0 x1 x9 : Value) (h : AH) (kn : (Value → Value → Value → AH → Option β)) : Option β :=
    brV x9
    (bnd (pMakeIface Tryz.prog 9 (.string { data := #[115, 108, 105, 99, 101, 115, 46, 77, 105, 110, 70, 117, 110, 99, 58, 32, 101, 109, 112, 116, 121, 32, 108, 105, 115, 116] })) fun x10 =>
    bnd ((none : Option (Value × AH))) fun u =>
    kn x0 x1 unk u.2)
    (kn x0 x1 x9 h)
theorem F122_rlr_eq  : kCode env 122 false inv k (cp c122 13) (act 33 [(0, x0), (1, x1), (9, x9)]) h K = F122_rlr inv k x0 x1 x9 h (fun y0 y1 y9 h => K .normal (act 33 [(0, y0), (1, y1), (9, y9)]) h) := by
      unfold F122_rlr
      simp only [b122_rlr, r122_2, kq_skip c122 27, reduceIte, reduceCtorEq, XE.exit.injEq, Nat.reduceEqDiff, Nat.reduceMul, Nat.reduceAdd] <;> kernel_rfl
theorem r122_3  : kCode env 122 false inv k (cp c122 14) (act 33 [(0, x0), (1, x1), (9, x9)]) h K =
    bnd (pIndexAddr Tryz.prog 153 x0 (.int .i64 0)) fun x12 =>
    bnd (pLoad Tryz.prog 33 x12 h) fun x13 =>
    K .normal (act 33 [(0, x0), (1, x1), (5, x13)]) h := kq_reg
theorem r122_4  : kCode env 122 false inv k (cp c122 60) (act 33 [(0, x0), (1, x1), (5, x5)]) h K =
    K .normal (act 33 [(0, x0), (1, x1), (5, x5), (6, (.int .i64 1))]) h := kq_reg
theorem r122_5  : kCode env 122 false inv k (cp c122 976) (act 33 [(0, x0), (1, x1), (5, x5), (6, x6)]) h K =
    bnd (pLen Tryz.prog #[153] x0 h) fun x16 =>
    bnd (pBin Tryz.prog .lss 3 (.tmp 14) (.tmp 16) x6 x16) fun x17 =>
    K .normal (act 33 [(0, x0), (1, x1), (5, x5), (6, x6), (17, x17)]) h := kq_reg
theorem b122_rlllrlrrr  : kCode env 122 false inv k (cp c122 977) (act 33 [(0, x0), (1, x1), (5, x5), (6, x6), (17, x17)]) h K = brV x17 (kCode env 122 false inv k (cp c122 1954) (act 33 [(0, x0), (1, x1), (5, x5), (6, x6), (17, x17)]) h K) (kCode env 122 false inv k (cp c122 1955) (act 33 [(0, x0), (1, x1), (5, x5), (6, x6), (17, x17)]) h K) := kq_cond
theorem r122_7  : kCode env 122 false inv k (cp c122 3912) (act 33 [(0, x0), (1, x1), (5, x5), (6, x6), (17, x17)]) h K =
    bnd (pIndexAddr Tryz.prog 153 x0 x6) fun x23 =>
    bnd (pLoad Tryz.prog 33 x23 h) fun x24 =>
    bnd (callV inv x1 #[x24, x5] h) fun x26 =>
    bnd (pBin Tryz.prog .lss 3 (.tmp 26) (.const (.int .i64 0)) x26.1 (.int .i64 0)) fun x27 =>
    K .normal (act 33 [(0, x0), (1, x1), (5, x5), (6, x6), (27, x27)]) x26.2 := kq_reg
theorem b122_rllrllrlrrr  : kCode env 122 false inv k (cp c122 3913) (act 33 [(0, x0), (1, x1), (5, x5), (6, x6), (27, x27)]) h K = brV x27 (kCode env 122 false inv k (cp c122 7826) (act 33 [(0, x0), (1, x1), (5, x5), (6, x6), (27, x27)]) h K) (kCode env 122 false inv k (cp c122 7827) (act 33 [(0, x0), (1, x1), (5, x5), (6, x6), (27, x27)]) h K) := kq_cond
theorem r122_8  : kCode env 122 false inv k (cp c122 7826) (act 33 [(0, x0), (1, x1), (5, x5), (6, x6), (27, x27)]) h K =
    bnd (pIndexAddr Tryz.prog 153 x0 x6) fun x30 =>
    bnd (pLoad Tryz.prog 33 x30 h) fun x31 =>
    K .normal (act 33 [(0, x0), (1, x1), (5, x31), (6, x6)]) h := kq_reg
noncomputable def F122_lrllrlrrr {β : Type} (inv : Inv) (k : Nat) (x0 x1 x5 x6 x17 : Value) (h : AH) (kn : (Value → Value → Value → Value → Value → AH → Option β)) : Option β :=
    bnd (pIndexAddr Tryz.prog 153 x0 x6) fun x23 =>
    bnd (pLoad Tryz.prog 33 x23 h) fun x24 =>
    bnd (callV inv x1 #[x24, x5] h) fun x26 =>
    bnd (pBin Tryz.prog .lss 3 (.tmp 26) (.const (.int .i64 0)) x26.1 (.int .i64 0)) fun x27 =>
    brV x27
    (bnd (pIndexAddr Tryz.prog 153 x0 x6) fun x30 =>
    bnd (pLoad Tryz.prog 33 x30 x26.2) fun x31 =>
    kn x0 x1 x31 x6 unk x26.2)
    (kn x0 x1 x5 x6 x27 x26.2)
theorem F122_lrllrlrrr_eq  : kCode env 122 false inv k (cp c122 978) (act 33 [(0, x0), (1, x1), (5, x5), (6, x6), (17, x17)]) h K = F122_lrllrlrrr inv k x0 x1 x5 x6 x17 h (fun y0 y1 y5 y6 y27 h => K .normal (act 33 [(0, y0), (1, y1), (5, y5), (6, y6), (27, y27)]) h) := by
      unfold F122_lrllrlrrr
      simp only [kq_block c122 978 1, kq_seq c122 1956, r122_7, b122_rllrllrlrrr, r122_8, kq_skip c122 7827, reduceIte, reduceCtorEq, XE.exit.injEq, Nat.reduceEqDiff, Nat.reduceMul, Nat.reduceAdd] <;> kernel_rfl
theorem r122_6  : kCode env 122 false inv k (cp c122 979) (act 33 [(0, x0), (1, x1), (5, x5), (6, x6), (27, x27)]) h K =
    bnd (pBin Tryz.prog .add 3 (.tmp 18) (.const (.int .i64 1)) x6 (.int .i64 1)) fun x19 =>
    K .normal (act 33 [(0, x0), (1, x1), (5, x5), (6, x19)]) h := kq_reg
noncomputable def F122_lrlrrr {β : Type} (inv : Inv) (k : Nat) : Nat → Value → Value → Value → Value → AH → (Value → Value → Value → Value → Value → AH → Option β) → Option β
  | 0, _, _, _, _, _, _ => none
  | j + 1, x0, x1, x5, x6, h, ke0 =>
    bnd (pLen Tryz.prog #[153] x0 h) fun x16 =>
    bnd (pBin Tryz.prog .lss 3 (.tmp 14) (.tmp 16) x6 x16) fun x17 =>
    brV x17
    (F122_lrllrlrrr inv k x0 x1 x5 x6 x17 h
    (fun y0 y1 y5 y6 y27 h =>
    bnd (pBin Tryz.prog .add 3 (.tmp 18) (.const (.int .i64 1)) y6 (.int .i64 1)) fun x19 =>
    F122_lrlrrr inv k j y0 y1 y5 x19 h ke0))
    (ke0 x0 x1 x5 x6 x17 h)
theorem F122_lrlrrr_j (j : Nat) : kLoop (kCode env 122 false inv k (cp c122 244)) j (act 33 [(0, x0), (1, x1), (5, x5), (6, x6)]) h K = F122_lrlrrr inv k j x0 x1 x5 x6 h (fun y0 y1 y5 y6 y17 h => K (.exit 0) (act 33 [(0, y0), (1, y1), (5, y5), (6, y6), (17, y17)]) h) := by
      induction j generalizing x0 x1 x5 x6 h with
      | zero => rfl
      | succ j ih =>
        unfold F122_lrlrrr
        simp only [kLoop, kq_seq c122 244, kq_seq c122 488, r122_5, b122_rlllrlrrr, kq_skip c122 1954, kq_seq c122 489, F122_lrllrlrrr_eq, r122_6, kq_exit c122 1955 0, ih, reduceIte, reduceCtorEq, XE.exit.injEq, Nat.reduceEqDiff, Nat.reduceMul, Nat.reduceAdd] <;> kernel_rfl
theorem F122_lrlrrr_eq  : kCode env 122 false inv k (cp c122 122) (act 33 [(0, x0), (1, x1), (5, x5), (6, x6)]) h K = F122_lrlrrr inv k k x0 x1 x5 x6 h (fun y0 y1 y5 y6 y17 h => K (.exit 0) (act 33 [(0, y0), (1, y1), (5, y5), (6, y6), (17, y17)]) h) := kq_loop (F122_lrlrrr_j k)
theorem r122_9  : kCode env 122 false inv k (cp c122 62) (act 33 [(0, x0), (1, x1), (5, x5), (6, x6), (17, x17)]) h K =
    K .normal (act 33 [(4, x5)]) h := kq_reg
theorem res122_0 : resOfFn env.P 122 .ret (act 33 [(4, x4)]) h = some (x4, h) := kq_res
/-- slices.MinFunc[[][]byte,[]byte] -/
noncomputable def F122 (inv : Inv) (k : Nat) (x0 x1 : Value) (h : AH) : Option (Value × AH) :=
    bnd (pLen Tryz.prog #[153] x0 h) fun x8 =>
    bnd (pBin Tryz.prog .lss 3 (.tmp 8) (.const (.int .i64 1)) x8 (.int .i64 1)) fun x9 =>
    F122_rlr inv k x0 x1 x9 h
    (fun y0 y1 y9 h =>
    bnd (pIndexAddr Tryz.prog 153 y0 (.int .i64 0)) fun x12 =>
    bnd (pLoad Tryz.prog 33 x12 h) fun x13 =>
    F122_lrlrrr inv k k y0 y1 x13 (.int .i64 1) h
    (fun y0_1 y1_2 y5 y6 y17 h_3 =>
    some (y5, h_3)))
theorem F122_eq : eFun env k inv 122 #[x0, x1] h = F122 inv k x0 x1 h := by
      refine (kq_fun (a := act 33 [(0, x0), (1, x1)]) (c := cp c122 1)).trans ?_
      unfold F122
      simp only [kq_seq c122 1, r122_0, kq_seq c122 3, kq_seq c122 6, r122_1, F122_rlr_eq, kq_seq c122 7, r122_3, kq_seq c122 15, kq_seq c122 30, r122_4, kq_block c122 61 0, F122_lrlrrr_eq, kq_seq c122 31, r122_9, kq_ret c122 63, res122_0, reduceIte, reduceCtorEq, XE.exit.injEq, Nat.reduceEqDiff, Nat.reduceMul, Nat.reduceAdd] <;> kernel_rfl
theorem F122_call : eInv env (k + 1) (.func 122) #[] #[x0, x1] h = F122 (eInv env k) k x0 x1 h := kq_inv F122_eq
noncomputable def c123 : Code := codeOf Tryz.prog 123
theorem r123_0  : kCode env 123 false inv k (cp c123 2) (act 10 [(0, x0), (1, x1)]) h K =
    K .normal (act 10 [(0, x0), (1, x1)]) h := kq_reg
theorem r123_1  : kCode env 123 false inv k (cp c123 6) (act 10 [(0, x0), (1, x1)]) h K =
    bnd (pLen Tryz.prog #[33] x0 h) fun x6 =>
    bnd (pLen Tryz.prog #[33] x1 h) fun x8 =>
    bnd (inv (.func 124) #[] #[x6, x8] h) fun x9 =>
    K .normal (act 10 [(4, x9.1)]) x9.2 := kq_reg
theorem res123_0 : resOfFn env.P 123 .ret (act 10 [(4, x4)]) h = some (x4, h) := kq_res
/-- shadowbook/ints.Put$1 -/
noncomputable def F123 (inv : Inv) (k : Nat) (x0 x1 : Value) (h : AH) : Option (Value × AH) :=
    bnd (pLen Tryz.prog #[33] x0 h) fun x6 =>
    bnd (pLen Tryz.prog #[33] x1 h) fun x8 =>
    bnd (inv (.func 124) #[] #[x6, x8] h) fun x9 =>
    some (x9.1, x9.2)
theorem F123_eq : eFun env k inv 123 #[x0, x1] h = F123 inv k x0 x1 h := by
      refine (kq_fun (a := act 10 [(0, x0), (1, x1)]) (c := cp c123 1)).trans ?_
      unfold F123
      simp only [kq_seq c123 1, r123_0, kq_seq c123 3, r123_1, kq_ret c123 7, res123_0, reduceIte, reduceCtorEq, XE.exit.injEq, Nat.reduceEqDiff, Nat.reduceMul, Nat.reduceAdd] <;> kernel_rfl
theorem F123_call : eInv env (k + 1) (.func 123) #[] #[x0, x1] h = F123 (eInv env k) k x0 x1 h := kq_inv F123_eq
noncomputable def c124 : Code := codeOf Tryz.prog 124
theorem r124_0  : kCode env 124 false inv k (cp c124 2) (act 20 [(0, x0), (1, x1)]) h K =
    K .normal (act 20 [(0, x0), (1, x1)]) h := kq_reg
theorem r124_1  : kCode env 124 false inv k (cp c124 6) (act 20 [(0, x0), (1, x1)]) h K =
    bnd (inv (.func 150) #[] #[x0] h) fun x8 =>
    K .normal (act 20 [(0, x0), (1, x1), (5, x8.1)]) x8.2 := kq_reg
theorem r124_2  : kCode env 124 false inv k (cp c124 14) (act 20 [(0, x0), (1, x1), (5, x5)]) h K =
    bnd (inv (.func 150) #[] #[x1] h) fun x10 =>
    K .normal (act 20 [(0, x0), (1, x1), (5, x5), (6, x10.1)]) x10.2 := kq_reg
theorem r124_3  : kCode env 124 false inv k (cp c124 60) (act 20 [(0, x0), (1, x1), (5, x5), (6, x6)]) h K =
    K .normal (act 20 [(0, x0), (1, x1), (6, x6), (11, x5)]) h := kq_reg
theorem b124_rlrrr  : kCode env 124 false inv k (cp c124 61) (act 20 [(0, x0), (1, x1), (6, x6), (11, x11)]) h K = brV x11 (kCode env 124 false inv k (cp c124 122) (act 20 [(0, x0), (1, x1), (6, x6), (11, x11)]) h K) (kCode env 124 false inv k (cp c124 123) (act 20 [(0, x0), (1, x1), (6, x6), (11, x11)]) h K) := kq_cond
theorem r124_4  : kCode env 124 false inv k (cp c124 488) (act 20 [(0, x0), (1, x1), (6, x6), (11, x11)]) h K =
    K .normal (act 20 [(12, x6)]) h := kq_reg
theorem b124_rllrlrrr  : kCode env 124 false inv k (cp c124 489) (act 20 [(12, x12)]) h K = brV x12 (kCode env 124 false inv k (cp c124 978) (act 20 [(12, x12)]) h K) (kCode env 124 false inv k (cp c124 979) (act 20 [(12, x12)]) h K) := kq_cond
theorem r124_5  : kCode env 124 false inv k (cp c124 1956) (act 20 [(12, x12)]) h K =
    K .normal (act 20 [(4, (.int .i64 0))]) h := kq_reg
theorem res124_0 : resOfFn env.P 124 .ret (act 20 [(4, x4)]) h = some (x4, h) := kq_res
theorem r124_6  : kCode env 124 false inv k (cp c124 490) (act 20 [(12, x12)]) h K =
    K .normal (act 20 [(4, (.int .i64 (-1)))]) h := kq_reg
theorem r124_7  : kCode env 124 false inv k (cp c124 124) (act 20 [(0, x0), (1, x1), (6, x6), (11, x11)]) h K =
    K .normal (act 20 [(0, x0), (1, x1), (13, x6)]) h := kq_reg
theorem b124_rlrrrr  : kCode env 124 false inv k (cp c124 125) (act 20 [(0, x0), (1, x1), (13, x13)]) h K = brV x13 (kCode env 124 false inv k (cp c124 250) (act 20 [(0, x0), (1, x1), (13, x13)]) h K) (kCode env 124 false inv k (cp c124 251) (act 20 [(0, x0), (1, x1), (13, x13)]) h K) := kq_cond
theorem r124_8  : kCode env 124 false inv k (cp c124 500) (act 20 [(0, x0), (1, x1), (13, x13)]) h K =
    K .normal (act 20 [(4, (.int .i64 1))]) h := kq_reg
theorem r124_9  : kCode env 124 false inv k (cp c124 252) (act 20 [(0, x0), (1, x1), (13, x13)]) h K =
    bnd (pBin Tryz.prog .lss 3 (.tmp 14) (.tmp 15) x0 x1) fun x16 =>
    K .normal (act 20 [(0, x0), (1, x1), (16, x16)]) h := kq_reg
theorem b124_rlrrrrr  : kCode env 124 false inv k (cp c124 253) (act 20 [(0, x0), (1, x1), (16, x16)]) h K = brV x16 (kCode env 124 false inv k (cp c124 506) (act 20 [(0, x0), (1, x1), (16, x16)]) h K) (kCode env 124 false inv k (cp c124 507) (act 20 [(0, x0), (1, x1), (16, x16)]) h K) := kq_cond
theorem r124_10  : kCode env 124 false inv k (cp c124 1012) (act 20 [(0, x0), (1, x1), (16, x16)]) h K =
    K .normal (act 20 [(4, (.int .i64 (-1)))]) h := kq_reg
theorem r124_11  : kCode env 124 false inv k (cp c124 508) (act 20 [(0, x0), (1, x1), (16, x16)]) h K =
    bnd (pBin Tryz.prog .gtr 3 (.tmp 17) (.tmp 18) x0 x1) fun x19 =>
    K .normal (act 20 [(19, x19)]) h := kq_reg
theorem b124_rlrrrrrr  : kCode env 124 false inv k (cp c124 509) (act 20 [(19, x19)]) h K = brV x19 (kCode env 124 false inv k (cp c124 1018) (act 20 [(19, x19)]) h K) (kCode env 124 false inv k (cp c124 1019) (act 20 [(19, x19)]) h K) := kq_cond
theorem r124_12  : kCode env 124 false inv k (cp c124 2036) (act 20 [(19, x19)]) h K =
    K .normal (act 20 [(4, (.int .i64 1))]) h := kq_reg
theorem r124_13  : kCode env 124 false inv k (cp c124 510) (act 20 [(19, x19)]) h K =
    K .normal (act 20 [(4, (.int .i64 0))]) h := kq_reg
/-- cmp.Compare[int] -/
noncomputable def F124 (inv : Inv) (k : Nat) (x0 x1 : Value) (h : AH) : Option (Value × AH) :=
    bnd (inv (.func 150) #[] #[x0] h) fun x8 =>
    bnd (inv (.func 150) #[] #[x1] x8.2) fun x10 =>
    brV x8.1
    (brV x10.1
    (some ((.int .i64 0), x10.2))
    (some ((.int .i64 (-1)), x10.2)))
    (brV x10.1
    (some ((.int .i64 1), x10.2))
    (bnd (pBin Tryz.prog .lss 3 (.tmp 14) (.tmp 15) x0 x1) fun x16 =>
    brV x16
    (some ((.int .i64 (-1)), x10.2))
    (bnd (pBin Tryz.prog .gtr 3 (.tmp 17) (.tmp 18) x0 x1) fun x19 =>
    brV x19
    (some ((.int .i64 1), x10.2))
    (some ((.int .i64 0), x10.2)))))
theorem F124_eq : eFun env k inv 124 #[x0, x1] h = F124 inv k x0 x1 h := by
      refine (kq_fun (a := act 20 [(0, x0), (1, x1)]) (c := cp c124 1)).trans ?_
      unfold F124
      simp only [kq_seq c124 1, r124_0, kq_seq c124 3, r124_1, kq_seq c124 7, r124_2, kq_seq c124 15, kq_seq c124 30, r124_3, b124_rlrrr, kq_seq c124 122, kq_seq c124 244, r124_4, b124_rllrlrrr, kq_seq c124 978, r124_5, kq_ret c124 1957, res124_0, kq_skip c124 979, kq_seq c124 245, r124_6, kq_ret c124 491, kq_skip c124 123, kq_seq c124 31, kq_seq c124 62, r124_7, b124_rlrrrr, kq_seq c124 250, r124_8, kq_ret c124 501, kq_skip c124 251, kq_seq c124 63, kq_seq c124 126, r124_9, b124_rlrrrrr, kq_seq c124 506, r124_10, kq_ret c124 1013, kq_skip c124 507, kq_seq c124 127, kq_seq c124 254, r124_11, b124_rlrrrrrr, kq_seq c124 1018, r124_12, kq_ret c124 2037, kq_skip c124 1019, kq_seq c124 255, r124_13, kq_ret c124 511, reduceIte, reduceCtorEq, XE.exit.injEq, Nat.reduceEqDiff, Nat.reduceMul, Nat.reduceAdd] <;> kernel_rfl
theorem F124_call : eInv env (k + 1) (.func 124) #[] #[x0, x1] h = F124 (eInv env k) k x0 x1 h := kq_inv F124_eq
noncomputable def c125 : Code := codeOf Tryz.prog 125
theorem r125_0  : kCode env 125 false inv k (cp c125 2) (act 19 [(0, x0), (1, x1)]) h K =
    K .normal (act 19 [(0, x0), (1, x1)]) h := kq_reg
theorem r125_1  : kCode env 125 false inv k (cp c125 12) (act 19 [(0, x0), (1, x1)]) h K =
    bnd (pLen Tryz.prog #[154] x0 h) fun x7 =>
    K .normal (act 19 [(0, x0), (1, x1), (7, x7), (8, (.int .i64 0))]) h := kq_reg
theorem r125_2  : kCode env 125 false inv k (cp c125 104) (act 19 [(0, x0), (1, x1), (7, x7), (8, x8)]) h K =
    bnd (pBin Tryz.prog .lss 3 (.tmp 8) (.tmp 7) x8 x7) fun x9 =>
    K .normal (act 19 [(0, x0), (1, x1), (7, x7), (8, x8), (9, x9)]) h := kq_reg
theorem b125_lrllrlr  : kCode env 125 false inv k (cp c125 210) (act 19 [(0, x0), (1, x1), (7, x7), (8, x8), (9, x9)]) h K = brV x9 (kCode env 125 false inv k (cp c125 420) (act 19 [(0, x0), (1, x1), (7, x7), (8, x8), (9, x9)]) h K) (kCode env 125 false inv k (cp c125 421) (act 19 [(0, x0), (1, x1), (7, x7), (8, x8), (9, x9)]) h K) := kq_cond
theorem r125_3  : kCode env 125 false inv k (cp c125 1688) (act 19 [(0, x0), (1, x1), (7, x7), (8, x8), (9, x9)]) h K =
    K .normal (act 19 [(0, x0), (1, x1), (5, x8), (7, x7), (8, x8)]) h := kq_reg
theorem r125_4  : kCode env 125 false inv k (cp c125 3378) (act 19 [(0, x0), (1, x1), (5, x5), (7, x7), (8, x8)]) h K =
    bnd (pIndexAddr Tryz.prog 154 x0 x5) fun x14 =>
    bnd (pLoad Tryz.prog 158 x14 h) fun x15 =>
    bnd (callV inv x1 #[x15] h) fun x16 =>
    K .normal (act 19 [(0, x0), (1, x1), (5, x5), (7, x7), (8, x8), (16, x16.1)]) x16.2 := kq_reg
theorem b125_rrllrrllrlr  : kCode env 125 false inv k (cp c125 3379) (act 19 [(0, x0), (1, x1), (5, x5), (7, x7), (8, x8), (16, x16)]) h K = brV x16 (kCode env 125 false inv k (cp c125 6758) (act 19 [(0, x0), (1, x1), (5, x5), (7, x7), (8, x8), (16, x16)]) h K) (kCode env 125 false inv k (cp c125 6759) (act 19 [(0, x0), (1, x1), (5, x5), (7, x7), (8, x8), (16, x16)]) h K) := kq_cond
theorem r125_5  : kCode env 125 false inv k (cp c125 13516) (act 19 [(0, x0), (1, x1), (5, x5), (7, x7), (8, x8), (16, x16)]) h K =
    K .normal (act 19 [(4, x5)]) h := kq_reg
theorem r125_6  : kCode env 125 false inv k (cp c125 423) (act 19 [(0, x0), (1, x1), (5, x5), (7, x7), (8, x8), (16, x16)]) h K =
    bnd (pBin Tryz.prog .add 3 (.tmp 8) (.const (.int .i64 1)) x8 (.int .i64 1)) fun x18 =>
    K .normal (act 19 [(0, x0), (1, x1), (7, x7), (8, x18)]) h := kq_reg
noncomputable def F125_lrlr {β : Type} (inv : Inv) (k : Nat) : Nat → Value → Value → Value → Value → AH → (Value → Value → Value → Value → Value → AH → Option β) → (Value → AH → Option β) → Option β
  | 0, _, _, _, _, _, _, _ => none
  | j + 1, x0, x1, x7, x8, h, ke0, kr =>
    bnd (pBin Tryz.prog .lss 3 (.tmp 8) (.tmp 7) x8 x7) fun x9 =>
    brV x9
    (bnd (pIndexAddr Tryz.prog 154 x0 x8) fun x14 =>
    bnd (pLoad Tryz.prog 158 x14 h) fun x15 =>
    bnd (callV inv x1 #[x15] h) fun x16 =>
    brV x16.1
    (kr x8 x16.2)
    (bnd (pBin Tryz.prog .add 3 (.tmp 8) (.const (.int .i64 1)) x8 (.int .i64 1)) fun x18 =>
    F125_lrlr inv k j x0 x1 x7 x18 x16.2 ke0 kr))
    (ke0 x0 x1 x7 x8 x9 h)
theorem F125_lrlr_j (j : Nat) : kLoop (kCode env 125 false inv k (cp c125 52)) j (act 19 [(0, x0), (1, x1), (7, x7), (8, x8)]) h K = F125_lrlr inv k j x0 x1 x7 x8 h (fun y0 y1 y7 y8 y9 h => K (.exit 0) (act 19 [(0, y0), (1, y1), (7, y7), (8, y8), (9, y9)]) h) (fun y4 h => K .ret (act 19 [(4, y4)]) h) := by
      induction j generalizing x0 x1 x7 x8 h with
      | zero => rfl
      | succ j ih =>
        unfold F125_lrlr
        simp only [kLoop, kq_seq c125 52, r125_2, kq_seq c125 105, b125_lrllrlr, kq_skip c125 420, kq_seq c125 211, kq_block c125 422 1, kq_seq c125 844, r125_3, kq_seq c125 1689, r125_4, b125_rrllrrllrlr, kq_seq c125 6758, r125_5, kq_ret c125 13517, kq_skip c125 6759, r125_6, kq_exit c125 421 0, ih, reduceIte, reduceCtorEq, XE.exit.injEq, Nat.reduceEqDiff, Nat.reduceMul, Nat.reduceAdd] <;> kernel_rfl
theorem F125_lrlr_eq  : kCode env 125 false inv k (cp c125 26) (act 19 [(0, x0), (1, x1), (7, x7), (8, x8)]) h K = F125_lrlr inv k k x0 x1 x7 x8 h (fun y0 y1 y7 y8 y9 h => K (.exit 0) (act 19 [(0, y0), (1, y1), (7, y7), (8, y8), (9, y9)]) h) (fun y4 h => K .ret (act 19 [(4, y4)]) h) := kq_loop (F125_lrlr_j k)
theorem r125_7  : kCode env 125 false inv k (cp c125 14) (act 19 [(0, x0), (1, x1), (7, x7), (8, x8), (9, x9)]) h K =
    K .normal (act 19 [(4, (.int .i64 (-1)))]) h := kq_reg
theorem res125_0 : resOfFn env.P 125 .ret (act 19 [(4, x4)]) h = some (x4, h) := kq_res
/-- slices.IndexFunc[[]shadowbook/ints.form,shadowbook/ints.form] -/
noncomputable def F125 (inv : Inv) (k : Nat) (x0 x1 : Value) (h : AH) : Option (Value × AH) :=
    bnd (pLen Tryz.prog #[154] x0 h) fun x7 =>
    F125_lrlr inv k k x0 x1 x7 (.int .i64 0) h
    (fun y0 y1 y7 y8 y9 h =>
    some ((.int .i64 (-1)), h))
    (fun y4 h_1 =>
    some (y4, h_1))
theorem F125_eq : eFun env k inv 125 #[x0, x1] h = F125 inv k x0 x1 h := by
      refine (kq_fun (a := act 19 [(0, x0), (1, x1)]) (c := cp c125 1)).trans ?_
      unfold F125
      simp only [kq_seq c125 1, r125_0, kq_seq c125 3, kq_seq c125 6, r125_1, kq_block c125 13 0, F125_lrlr_eq, kq_seq c125 7, r125_7, kq_ret c125 15, res125_0, reduceIte, reduceCtorEq, XE.exit.injEq, Nat.reduceEqDiff, Nat.reduceMul, Nat.reduceAdd] <;> kernel_rfl
theorem F125_call : eInv env (k + 1) (.func 125) #[] #[x0, x1] h = F125 (eInv env k) k x0 x1 h := kq_inv F125_eq
noncomputable def c126 : Code := codeOf Tryz.prog 126
theorem r126_0  : kCode env 126 false inv k (cp c126 2) (act 9 [(0, x0), (1, x1)]) h K =
    bnd (pBox Tryz.prog 158 x0 h) fun x2 =>
    K .normal (act 9 [(1, x1), (2, x2.1)]) x2.2 := kq_reg
theorem r126_1  : kCode env 126 false inv k (cp c126 6) (act 9 [(1, x1), (2, x2)]) h K =
    bnd (pFieldAddr Tryz.prog 158 x2 0) fun x4 =>
    bnd (pLoad Tryz.prog 5 x4 h) fun x5 =>
    bnd (pConv Tryz.prog 5 60 x5 h) fun x6 =>
    bnd (pLoad Tryz.prog 60 x1 h) fun x7 =>
    bnd (pBin Tryz.prog .eql 60 (.tmp 6) (.tmp 7) x6 x7) fun x8 =>
    K .normal (act 9 [(3, x8)]) h := kq_reg
theorem res126_0 : resOfFn env.P 126 .ret (act 9 [(3, x3)]) h = some (x3, h) := kq_res
/-- shadowbook/ints.Get$1 -/
noncomputable def F126 (inv : Inv) (k : Nat) (x0 x1 : Value) (h : AH) : Option (Value × AH) :=
    bnd (pBox Tryz.prog 158 x0 h) fun x2 =>
    bnd (pFieldAddr Tryz.prog 158 x2.1 0) fun x4 =>
    bnd (pLoad Tryz.prog 5 x4 x2.2) fun x5 =>
    bnd (pConv Tryz.prog 5 60 x5 x2.2) fun x6 =>
    bnd (pLoad Tryz.prog 60 x1 x2.2) fun x7 =>
    bnd (pBin Tryz.prog .eql 60 (.tmp 6) (.tmp 7) x6 x7) fun x8 =>
    some (x8, x2.2)
theorem F126_eq : eFun env k inv 126 #[x0, x1] h = F126 inv k x0 x1 h := by
      refine (kq_fun (a := act 9 [(0, x0), (1, x1)]) (c := cp c126 1)).trans ?_
      unfold F126
      simp only [kq_seq c126 1, r126_0, kq_seq c126 3, r126_1, kq_ret c126 7, res126_0, reduceIte, reduceCtorEq, XE.exit.injEq, Nat.reduceEqDiff, Nat.reduceMul, Nat.reduceAdd] <;> kernel_rfl
theorem F126_call : eInv env (k + 1) (.func 126) #[] #[x0, x1] h = F126 (eInv env k) k x0 x1 h := kq_inv F126_eq
noncomputable def c127 : Code := codeOf Tryz.prog 127
theorem r127_0  : kCode env 127 false inv k (cp c127 2) (act 33 [(0, x0), (1, x1), (2, x2)]) h K =
    K .normal (act 33 [(0, x0), (1, x1), (2, x2)]) h := kq_reg
theorem r127_1  : kCode env 127 false inv k (cp c127 24) (act 33 [(0, x0), (1, x1), (2, x2)]) h K =
    bnd (inv (.func 97) #[] #[x1, x2] h) fun x10 =>
    bnd (pUn Tryz.prog .not x10.1) fun x11 =>
    K .normal (act 33 [(0, x0), (1, x1), (2, x2), (7, x11)]) x10.2 := kq_reg
theorem b127_rllr  : kCode env 127 false inv k (cp c127 25) (act 33 [(0, x0), (1, x1), (2, x2), (7, x7)]) h K = brV x7 (kCode env 127 false inv k (cp c127 50) (act 33 [(0, x0), (1, x1), (2, x2), (7, x7)]) h K) (kCode env 127 false inv k (cp c127 51) (act 33 [(0, x0), (1, x1), (2, x2), (7, x7)]) h K) := kq_cond
theorem r127_2  : kCode env 127 false inv k (cp c127 100) (act 33 [(0, x0), (1, x1), (2, x2), (7, x7)]) h K =
    K .normal (act 33 [(6, (.int .i64 2))]) h := kq_reg
theorem res127_0 : resOfFn env.P 127 .ret (act 33 [(6, x6)]) h = some (x6, h) := kq_res
theorem r127_3  : kCode env 127 false inv k (cp c127 102) (act 33 [(0, x0), (1, x1), (2, x2), (7, x7)]) h K =
    bnd (pLen Tryz.prog #[33] x0 h) fun x14 =>
    bnd (inv (.func 99) #[] #[x1, x2] h) fun x17 =>
    bnd (pBin Tryz.prog .neq 3 (.tmp 14) (.tmp 17) x14 x17.1) fun x18 =>
    K .normal (act 33 [(0, x0), (1, x1), (2, x2), (12, x18)]) x17.2 := kq_reg
theorem b127_rrrllr  : kCode env 127 false inv k (cp c127 103) (act 33 [(0, x0), (1, x1), (2, x2), (12, x12)]) h K = brV x12 (kCode env 127 false inv k (cp c127 206) (act 33 [(0, x0), (1, x1), (2, x2), (12, x12)]) h K) (kCode env 127 false inv k (cp c127 207) (act 33 [(0, x0), (1, x1), (2, x2), (12, x12)]) h K) := kq_cond
theorem r127_4  : kCode env 127 false inv k (cp c127 412) (act 33 [(0, x0), (1, x1), (2, x2), (12, x12)]) h K =
    K .normal (act 33 [(6, (.int .i64 4))]) h := kq_reg
noncomputable abbrev G127_5 {β : Type} (inv : Inv) (x0 x1 x2 : Value) (h : AH) (K : Value → AH → Option β) : Option β :=
    bnd (pBin Tryz.prog .mul 3 (.tmp 21) (.tmp 22) x1 x2) fun x23 =>
    bnd (pLen Tryz.prog #[33] x0 h) fun x25 =>
    bnd (pBin Tryz.prog .mul 3 (.const (.int .i64 8)) (.tmp 25) (.int .i64 8) x25) fun x26 =>
    bnd (pBin Tryz.prog .mul 3 (.tmp 27) (.tmp 28) x1 x2) fun x29 =>
    bnd (pBin Tryz.prog .sub 3 (.tmp 26) (.tmp 29) x26 x29) fun x30 =>
    bnd (inv (.func 151) #[] #[x0, x23, x30] h) fun x31 =>
    bnd (pBin Tryz.prog .neq 60 (.tmp 31) (.const (.int .u64 0)) x31.1 (.int .u64 0)) fun x32 =>
    K (x32) x31.2
theorem r127_5  : kCode env 127 false inv k (cp c127 414) (act 33 [(0, x0), (1, x1), (2, x2), (12, x12)]) h K =
    G127_5 inv x0 x1 x2 h fun y19 h => K .normal (act 33 [(19, y19)]) h := kq_reg
theorem b127_rrrrrllr  : kCode env 127 false inv k (cp c127 415) (act 33 [(19, x19)]) h K = brV x19 (kCode env 127 false inv k (cp c127 830) (act 33 [(19, x19)]) h K) (kCode env 127 false inv k (cp c127 831) (act 33 [(19, x19)]) h K) := kq_cond
theorem r127_6  : kCode env 127 false inv k (cp c127 1660) (act 33 [(19, x19)]) h K =
    K .normal (act 33 [(6, (.int .i64 4))]) h := kq_reg
theorem r127_7  : kCode env 127 false inv k (cp c127 14) (act 33 [(19, x19)]) h K =
    K .normal (act 33 [(6, (.int .i64 0))]) h := kq_reg
/-- shadowbook/packs.check -/
noncomputable def F127 (inv : Inv) (k : Nat) (x0 x1 x2 : Value) (h : AH) : Option (Value × AH) :=
    bnd (inv (.func 97) #[] #[x1, x2] h) fun x10 =>
    bnd (pUn Tryz.prog .not x10.1) fun x11 =>
    brV x11
    (some ((.int .i64 2), x10.2))
    (bnd (pLen Tryz.prog #[33] x0 x10.2) fun x14 =>
    bnd (inv (.func 99) #[] #[x1, x2] x10.2) fun x17 =>
    bnd (pBin Tryz.prog .neq 3 (.tmp 14) (.tmp 17) x14 x17.1) fun x18 =>
    brV x18
    (some ((.int .i64 4), x17.2))
    (G127_5 inv x0 x1 x2 x17.2 fun y19 h =>
    brV y19
    (some ((.int .i64 4), h))
    (some ((.int .i64 0), h))))
theorem F127_eq : eFun env k inv 127 #[x0, x1, x2] h = F127 inv k x0 x1 x2 h := by
      refine (kq_fun (a := act 33 [(0, x0), (1, x1), (2, x2)]) (c := cp c127 1)).trans ?_
      unfold F127
      simp only [kq_seq c127 1, r127_0, kq_seq c127 3, kq_block c127 6 0, kq_seq c127 12, r127_1, b127_rllr, kq_seq c127 50, r127_2, kq_ret c127 101, res127_0, kq_seq c127 51, r127_3, b127_rrrllr, kq_seq c127 206, r127_4, kq_ret c127 413, kq_seq c127 207, r127_5, b127_rrrrrllr, kq_seq c127 830, r127_6, kq_ret c127 1661, kq_skip c127 831, kq_seq c127 7, r127_7, kq_ret c127 15, reduceIte, reduceCtorEq, XE.exit.injEq, Nat.reduceEqDiff, Nat.reduceMul, Nat.reduceAdd] <;> kernel_rfl
theorem F127_call : eInv env (k + 1) (.func 127) #[] #[x0, x1, x2] h = F127 (eInv env k) k x0 x1 x2 h := kq_inv F127_eq
noncomputable def c128 : Code := codeOf Tryz.prog 128
theorem r128_0  : kCode env 128 false inv k (cp c128 2) (act 8 [(0, x0), (1, x1), (2, x2)]) h K =
    bnd (pBox Tryz.prog 33 x0 h) fun x3 =>
    bnd (pBox Tryz.prog 3 x1 x3.2) fun x4 =>
    bnd (pBox Tryz.prog 3 x2 x4.2) fun x5 =>
    K .normal (act 8 [(3, x3.1), (4, x4.1), (5, x5.1)]) x5.2 := kq_reg
theorem r128_1  : kCode env 128 false inv k (cp c128 6) (act 8 [(3, x3), (4, x4), (5, x5)]) h K =
    bnd (pMakeFunc (.func 152) #[] #[x3, x4, x5]) fun x7 =>
    K .normal (act 8 [(6, x7)]) h := kq_reg
theorem res128_0 : resOfFn env.P 128 .ret (act 8 [(6, x6)]) h = some (x6, h) := kq_res
/-- shadowbook/packs.Each -/
noncomputable def F128 (inv : Inv) (k : Nat) (x0 x1 x2 : Value) (h : AH) : Option (Value × AH) :=
    bnd (pBox Tryz.prog 33 x0 h) fun x3 =>
    bnd (pBox Tryz.prog 3 x1 x3.2) fun x4 =>
    bnd (pBox Tryz.prog 3 x2 x4.2) fun x5 =>
    bnd (pMakeFunc (.func 152) #[] #[x3.1, x4.1, x5.1]) fun x7 =>
    some (x7, x5.2)
theorem F128_eq : eFun env k inv 128 #[x0, x1, x2] h = F128 inv k x0 x1 x2 h := by
      refine (kq_fun (a := act 8 [(0, x0), (1, x1), (2, x2)]) (c := cp c128 1)).trans ?_
      unfold F128
      simp only [kq_seq c128 1, r128_0, kq_seq c128 3, r128_1, kq_ret c128 7, res128_0, reduceIte, reduceCtorEq, XE.exit.injEq, Nat.reduceEqDiff, Nat.reduceMul, Nat.reduceAdd] <;> kernel_rfl
theorem F128_call : eInv env (k + 1) (.func 128) #[] #[x0, x1, x2] h = F128 (eInv env k) k x0 x1 x2 h := kq_inv F128_eq
noncomputable def c129 : Code := codeOf Tryz.prog 129
theorem r129_0  : kCode env 129 false inv k (cp c129 2) (act 15 [(0, x0)]) h K =
    K .normal (act 15 [(0, x0)]) h := kq_reg
theorem r129_1  : kCode env 129 false inv k (cp c129 12) (act 15 [(0, x0)]) h K =
    bnd (pNilCheck Tryz.prog x0) fun x4 =>
    bnd (pFieldAddr Tryz.prog 144 x4 0) fun x5 =>
    bnd (pLoad Tryz.prog 33 x5 h) fun x6 =>
    bnd (pLen Tryz.prog #[33] x6 h) fun x7 =>
    bnd (pBin Tryz.prog .geq 3 (.tmp 7) (.const (.int .i64 10)) x7 (.int .i64 10)) fun x8 =>
    K .normal (act 15 [(0, x0), (8, x8)]) h := kq_reg
theorem b129_rlr  : kCode env 129 false inv k (cp c129 13) (act 15 [(0, x0), (8, x8)]) h K = brV x8 (kCode env 129 false inv k (cp c129 26) (act 15 [(0, x0), (8, x8)]) h K) (kCode env 129 false inv k (cp c129 27) (act 15 [(0, x0), (8, x8)]) h K) := kq_cond
theorem r129_2  : kCode env 129 false inv k (cp c129 52) (act 15 [(0, x0), (8, x8)]) h K =
    K .normal (act 15 [(2, (.bool false))]) h := kq_reg
theorem res129_0 : resOfFn env.P 129 .ret (act 15 [(2, x2)]) h = some (x2, h) := kq_res
theorem r129_3  : kCode env 129 false inv k (cp c129 14) (act 15 [(0, x0), (8, x8)]) h K =
    bnd (pNilCheck Tryz.prog x0) fun x10 =>
    bnd (pFieldAddr Tryz.prog 144 x10 0) fun x11 =>
    bnd (pLoad Tryz.prog 33 x11 h) fun x12 =>
    bnd (inv (.func 153) #[] #[x12, (.func (.func 154) #[] #[])] h) fun x13 =>
    bnd (pUn Tryz.prog .not x13.1) fun x14 =>
    K .normal (act 15 [(2, x14)]) x13.2 := kq_reg
/-- (*shadowbook/octet.Reader).ends -/
noncomputable def F129 (inv : Inv) (k : Nat) (x0 : Value) (h : AH) : Option (Value × AH) :=
    bnd (pNilCheck Tryz.prog x0) fun x4 =>
    bnd (pFieldAddr Tryz.prog 144 x4 0) fun x5 =>
    bnd (pLoad Tryz.prog 33 x5 h) fun x6 =>
    bnd (pLen Tryz.prog #[33] x6 h) fun x7 =>
    bnd (pBin Tryz.prog .geq 3 (.tmp 7) (.const (.int .i64 10)) x7 (.int .i64 10)) fun x8 =>
    brV x8
    (some ((.bool false), h))
    (bnd (pNilCheck Tryz.prog x0) fun x10 =>
    bnd (pFieldAddr Tryz.prog 144 x10 0) fun x11 =>
    bnd (pLoad Tryz.prog 33 x11 h) fun x12 =>
    bnd (inv (.func 153) #[] #[x12, (.func (.func 154) #[] #[])] h) fun x13 =>
    bnd (pUn Tryz.prog .not x13.1) fun x14 =>
    some (x14, x13.2))
theorem F129_eq : eFun env k inv 129 #[x0] h = F129 inv k x0 h := by
      refine (kq_fun (a := act 15 [(0, x0)]) (c := cp c129 1)).trans ?_
      unfold F129
      simp only [kq_seq c129 1, r129_0, kq_seq c129 3, kq_seq c129 6, r129_1, b129_rlr, kq_seq c129 26, r129_2, kq_ret c129 53, res129_0, kq_skip c129 27, kq_seq c129 7, r129_3, kq_ret c129 15, reduceIte, reduceCtorEq, XE.exit.injEq, Nat.reduceEqDiff, Nat.reduceMul, Nat.reduceAdd] <;> kernel_rfl
theorem F129_call : eInv env (k + 1) (.func 129) #[] #[x0] h = F129 (eInv env k) k x0 h := kq_inv F129_eq
noncomputable def c130 : Code := codeOf Tryz.prog 130
theorem r130_0  : kCode env 130 false inv k (cp c130 2) (act 29 [(0, x0)]) h K =
    K .normal (act 29 [(0, x0)]) h := kq_reg
theorem r130_1  : kCode env 130 false inv k (cp c130 12) (act 29 [(0, x0)]) h K =
    bnd (inv (.func 155) #[] #[x0] h) fun x9 =>
    K .normal (act 29 [(0, x0), (4, x9.1)]) x9.2 := kq_reg
theorem r130_2  : kCode env 130 false inv k (cp c130 26) (act 29 [(0, x0), (4, x4)]) h K =
    bnd (pBin Tryz.prog .neq 25 (.tmp 10) (.const (.int .i64 0)) x4 (.int .i64 0)) fun x11 =>
    K .normal (act 29 [(0, x0), (4, x4), (11, x11)]) h := kq_reg
theorem b130_rrlr  : kCode env 130 false inv k (cp c130 27) (act 29 [(0, x0), (4, x4), (11, x11)]) h K = brV x11 (kCode env 130 false inv k (cp c130 54) (act 29 [(0, x0), (4, x4), (11, x11)]) h K) (kCode env 130 false inv k (cp c130 55) (act 29 [(0, x0), (4, x4), (11, x11)]) h K) := kq_cond
theorem r130_3  : kCode env 130 false inv k (cp c130 108) (act 29 [(0, x0), (4, x4), (11, x11)]) h K =
    K .normal (act 29 [(2, (.slice none 0 0)), (3, x4)]) h := kq_reg
theorem res130_0 : resOfFn env.P 130 .ret (act 29 [(2, x2), (3, x3)]) h = some (.tuple #[x2, x3], h) := kq_res
theorem r130_4  : kCode env 130 false inv k (cp c130 14) (act 29 [(0, x0), (4, x4), (11, x11)]) h K =
    bnd (pBuildSlice Tryz.prog 33 1 #[(0, (.int .u8 1))] h) fun x13 =>
    bnd (pLen Tryz.prog #[122] x0 x13.2) fun x15 =>
    bnd (pConv Tryz.prog 3 60 x15 x13.2) fun x16 =>
    bnd (inv (.func 47) #[] #[x13.1, x16] x13.2) fun x17 =>
    K .normal (act 29 [(0, x0), (5, x17.1)]) x17.2 := kq_reg
theorem r130_5  : kCode env 130 false inv k (cp c130 60) (act 29 [(0, x0), (5, x5)]) h K =
    bnd (pLen Tryz.prog #[122] x0 h) fun x19 =>
    K .normal (act 29 [(5, x5), (18, x0), (19, x19), (20, (.int .i64 0))]) h := kq_reg
theorem r130_6  : kCode env 130 false inv k (cp c130 488) (act 29 [(5, x5), (18, x18), (19, x19), (20, x20)]) h K =
    bnd (pBin Tryz.prog .lss 3 (.tmp 20) (.tmp 19) x20 x19) fun x21 =>
    K .normal (act 29 [(5, x5), (18, x18), (19, x19), (20, x20), (21, x21)]) h := kq_reg
theorem b130_lrllrlrrr  : kCode env 130 false inv k (cp c130 978) (act 29 [(5, x5), (18, x18), (19, x19), (20, x20), (21, x21)]) h K = brV x21 (kCode env 130 false inv k (cp c130 1956) (act 29 [(5, x5), (18, x18), (19, x19), (20, x20), (21, x21)]) h K) (kCode env 130 false inv k (cp c130 1957) (act 29 [(5, x5), (18, x18), (19, x19), (20, x20), (21, x21)]) h K) := kq_cond
theorem r130_7  : kCode env 130 false inv k (cp c130 7832) (act 29 [(5, x5), (18, x18), (19, x19), (20, x20), (21, x21)]) h K =
    bnd (pIndexAddr Tryz.prog 122 x18 x20) fun x22 =>
    bnd (pLoad Tryz.prog 9 x22 h) fun x23 =>
    K .normal (act 29 [(5, x5), (7, x23), (18, x18), (19, x19), (20, x20)]) h := kq_reg
theorem r130_8  : kCode env 130 false inv k (cp c130 7833) (act 29 [(5, x5), (7, x7), (18, x18), (19, x19), (20, x20)]) h K =
    bnd (inv (.func 156) #[] #[x5, x7] h) fun x26 =>
    K .normal (act 29 [(5, x26.1), (18, x18), (19, x19), (20, x20)]) x26.2 := kq_reg
theorem r130_9  : kCode env 130 false inv k (cp c130 1959) (act 29 [(5, x5), (18, x18), (19, x19), (20, x20)]) h K =
    bnd (pBin Tryz.prog .add 3 (.tmp 20) (.const (.int .i64 1)) x20 (.int .i64 1)) fun x27 =>
    K .normal (act 29 [(5, x5), (18, x18), (19, x19), (20, x27)]) h := kq_reg
noncomputable def F130_lrlrrr {β : Type} (inv : Inv) (k : Nat) : Nat → Value → Value → Value → Value → AH → (Value → Value → Value → Value → Value → AH → Option β) → Option β
  | 0, _, _, _, _, _, _ => none
  | j + 1, x5, x18, x19, x20, h, ke0 =>
    bnd (pBin Tryz.prog .lss 3 (.tmp 20) (.tmp 19) x20 x19) fun x21 =>
    brV x21
    (bnd (pIndexAddr Tryz.prog 122 x18 x20) fun x22 =>
    bnd (pLoad Tryz.prog 9 x22 h) fun x23 =>
    bnd (inv (.func 156) #[] #[x5, x23] h) fun x26 =>
    bnd (pBin Tryz.prog .add 3 (.tmp 20) (.const (.int .i64 1)) x20 (.int .i64 1)) fun x27 =>
    F130_lrlrrr inv k j x26.1 x18 x19 x27 x26.2 ke0)
    (ke0 x5 x18 x19 x20 x21 h)
theorem F130_lrlrrr_j (j : Nat) : kLoop (kCode env 130 false inv k (cp c130 244)) j (act 29 [(5, x5), (18, x18), (19, x19), (20, x20)]) h K = F130_lrlrrr inv k j x5 x18 x19 x20 h (fun y5 y18 y19 y20 y21 h => K (.exit 0) (act 29 [(5, y5), (18, y18), (19, y19), (20, y20), (21, y21)]) h) := by
      induction j generalizing x5 x18 x19 x20 h with
      | zero => rfl
      | succ j ih =>
        unfold F130_lrlrrr
        simp only [kLoop, kq_seq c130 244, r130_6, kq_seq c130 489, b130_lrllrlrrr, kq_skip c130 1956, kq_seq c130 979, kq_block c130 1958 1, kq_seq c130 3916, r130_7, r130_8, r130_9, kq_exit c130 1957 0, ih, reduceIte, reduceCtorEq, XE.exit.injEq, Nat.reduceEqDiff, Nat.reduceMul, Nat.reduceAdd] <;> kernel_rfl
theorem F130_lrlrrr_eq  : kCode env 130 false inv k (cp c130 122) (act 29 [(5, x5), (18, x18), (19, x19), (20, x20)]) h K = F130_lrlrrr inv k k x5 x18 x19 x20 h (fun y5 y18 y19 y20 y21 h => K (.exit 0) (act 29 [(5, y5), (18, y18), (19, y19), (20, y20), (21, y21)]) h) := kq_loop (F130_lrlrrr_j k)
theorem r130_10  : kCode env 130 false inv k (cp c130 62) (act 29 [(5, x5), (18, x18), (19, x19), (20, x20), (21, x21)]) h K =
    K .normal (act 29 [(2, x5), (3, (.int .i64 0))]) h := kq_reg
/-- shadowbook/texts.Plain -/
noncomputable def F130 (inv : Inv) (k : Nat) (x0 : Value) (h : AH) : Option (Value × AH) :=
    bnd (inv (.func 155) #[] #[x0] h) fun x9 =>
    bnd (pBin Tryz.prog .neq 25 (.tmp 10) (.const (.int .i64 0)) x9.1 (.int .i64 0)) fun x11 =>
    brV x11
    (some (.tuple #[(.slice none 0 0), x9.1], x9.2))
    (bnd (pBuildSlice Tryz.prog 33 1 #[(0, (.int .u8 1))] x9.2) fun x13 =>
    bnd (pLen Tryz.prog #[122] x0 x13.2) fun x15 =>
    bnd (pConv Tryz.prog 3 60 x15 x13.2) fun x16 =>
    bnd (inv (.func 47) #[] #[x13.1, x16] x13.2) fun x17 =>
    bnd (pLen Tryz.prog #[122] x0 x17.2) fun x19 =>
    F130_lrlrrr inv k k x17.1 x0 x19 (.int .i64 0) x17.2
    (fun y5 y18 y19 y20 y21 h =>
    some (.tuple #[y5, (.int .i64 0)], h)))
theorem F130_eq : eFun env k inv 130 #[x0] h = F130 inv k x0 h := by
      refine (kq_fun (a := act 29 [(0, x0)]) (c := cp c130 1)).trans ?_
      unfold F130
      simp only [kq_seq c130 1, r130_0, kq_seq c130 3, kq_seq c130 6, r130_1, kq_seq c130 13, r130_2, b130_rrlr, kq_seq c130 54, r130_3, kq_ret c130 109, res130_0, kq_skip c130 55, kq_seq c130 7, r130_4, kq_seq c130 15, kq_seq c130 30, r130_5, kq_block c130 61 0, F130_lrlrrr_eq, kq_seq c130 31, r130_10, kq_ret c130 63, reduceIte, reduceCtorEq, XE.exit.injEq, Nat.reduceEqDiff, Nat.reduceMul, Nat.reduceAdd] <;> kernel_rfl
theorem F130_call : eInv env (k + 1) (.func 130) #[] #[x0] h = F130 (eInv env k) k x0 h := kq_inv F130_eq
noncomputable def c131 : Code := codeOf Tryz.prog 131
theorem r131_0  : kCode env 131 false inv k (cp c131 2) (act 79 [(0, x0)]) h K =
    K .normal (act 79 [(0, x0)]) h := kq_reg
theorem r131_1  : kCode env 131 false inv k (cp c131 12) (act 79 [(0, x0)]) h K =
    bnd (inv (.func 155) #[] #[x0] h) fun x18 =>
    K .normal (act 79 [(0, x0), (4, x18.1)]) x18.2 := kq_reg
theorem r131_2  : kCode env 131 false inv k (cp c131 26) (act 79 [(0, x0), (4, x4)]) h K =
    bnd (pBin Tryz.prog .neq 25 (.tmp 19) (.const (.int .i64 0)) x4 (.int .i64 0)) fun x20 =>
    K .normal (act 79 [(0, x0), (4, x4), (20, x20)]) h := kq_reg
theorem b131_rrlr  : kCode env 131 false inv k (cp c131 27) (act 79 [(0, x0), (4, x4), (20, x20)]) h K = brV x20 (kCode env 131 false inv k (cp c131 54) (act 79 [(0, x0), (4, x4), (20, x20)]) h K) (kCode env 131 false inv k (cp c131 55) (act 79 [(0, x0), (4, x4), (20, x20)]) h K) := kq_cond
theorem r131_3  : kCode env 131 false inv k (cp c131 108) (act 79 [(0, x0), (4, x4), (20, x20)]) h K =
    K .normal (act 79 [(2, (.slice none 0 0)), (3, x4)]) h := kq_reg
theorem res131_0 : resOfFn env.P 131 .ret (act 79 [(2, x2), (3, x3)]) h = some (.tuple #[x2, x3], h) := kq_res
theorem r131_4  : kCode env 131 false inv k (cp c131 14) (act 79 [(0, x0), (4, x4), (20, x20)]) h K =
    bnd (inv (.func 157) #[] #[x0] h) fun x23 =>
    K .normal (act 79 [(0, x0), (5, x23.1)]) x23.2 := kq_reg
theorem r131_5  : kCode env 131 false inv k (cp c131 30) (act 79 [(0, x0), (5, x5)]) h K =
    bnd (pBuildSlice Tryz.prog 33 1 #[(0, (.int .u8 2))] h) fun x24 =>
    bnd (pLen Tryz.prog #[122] x0 x24.2) fun x26 =>
    bnd (pConv Tryz.prog 3 60 x26 x24.2) fun x27 =>
    bnd (inv (.func 47) #[] #[x24.1, x27] x24.2) fun x28 =>
    bnd (pLen Tryz.prog #[122] x5 x28.2) fun x30 =>
    bnd (pConv Tryz.prog 3 60 x30 x28.2) fun x31 =>
    bnd (inv (.func 47) #[] #[x28.1, x31] x28.2) fun x32 =>
    K .normal (act 79 [(0, x0), (5, x5), (6, x32.1)]) x32.2 := kq_reg
theorem r131_6  : kCode env 131 false inv k (cp c131 124) (act 79 [(0, x0), (5, x5), (6, x6)]) h K =
    bnd (pLen Tryz.prog #[122] x5 h) fun x34 =>
    K .normal (act 79 [(0, x0), (5, x5), (6, x6), (33, x5), (34, x34), (35, (.int .i64 0))]) h := kq_reg
theorem r131_7  : kCode env 131 false inv k (cp c131 1000) (act 79 [(0, x0), (5, x5), (6, x6), (33, x33), (34, x34), (35, x35)]) h K =
    bnd (pBin Tryz.prog .lss 3 (.tmp 35) (.tmp 34) x35 x34) fun x36 =>
    K .normal (act 79 [(0, x0), (5, x5), (6, x6), (33, x33), (34, x34), (35, x35), (36, x36)]) h := kq_reg
theorem b131_lrllrlrrrr  : kCode env 131 false inv k (cp c131 2002) (act 79 [(0, x0), (5, x5), (6, x6), (33, x33), (34, x34), (35, x35), (36, x36)]) h K = brV x36 (kCode env 131 false inv k (cp c131 4004) (act 79 [(0, x0), (5, x5), (6, x6), (33, x33), (34, x34), (35, x35), (36, x36)]) h K) (kCode env 131 false inv k (cp c131 4005) (act 79 [(0, x0), (5, x5), (6, x6), (33, x33), (34, x34), (35, x35), (36, x36)]) h K) := kq_cond
theorem r131_8  : kCode env 131 false inv k (cp c131 16024) (act 79 [(0, x0), (5, x5), (6, x6), (33, x33), (34, x34), (35, x35), (36, x36)]) h K =
    bnd (pIndexAddr Tryz.prog 122 x33 x35) fun x37 =>
    bnd (pLoad Tryz.prog 9 x37 h) fun x38 =>
    K .normal (act 79 [(0, x0), (5, x5), (6, x6), (8, x38), (33, x33), (34, x34), (35, x35)]) h := kq_reg
theorem r131_9  : kCode env 131 false inv k (cp c131 16025) (act 79 [(0, x0), (5, x5), (6, x6), (8, x8), (33, x33), (34, x34), (35, x35)]) h K =
    bnd (inv (.func 156) #[] #[x6, x8] h) fun x41 =>
    K .normal (act 79 [(0, x0), (5, x5), (6, x41.1), (33, x33), (34, x34), (35, x35)]) x41.2 := kq_reg
theorem r131_10  : kCode env 131 false inv k (cp c131 4007) (act 79 [(0, x0), (5, x5), (6, x6), (33, x33), (34, x34), (35, x35)]) h K =
    bnd (pBin Tryz.prog .add 3 (.tmp 35) (.const (.int .i64 1)) x35 (.int .i64 1)) fun x42 =>
    K .normal (act 79 [(0, x0), (5, x5), (6, x6), (33, x33), (34, x34), (35, x42)]) h := kq_reg
noncomputable def F131_lrlrrrr {β : Type} (inv : Inv) (k : Nat) : Nat → Value → Value → Value → Value → Value → Value → AH → (Value → Value → Value → Value → Value → Value → Value → AH → Option β) → Option β
  | 0, _, _, _, _, _, _, _, _ => none
  | j + 1, x0, x5, x6, x33, x34, x35, h, ke0 =>
    bnd (pBin Tryz.prog .lss 3 (.tmp 35) (.tmp 34) x35 x34) fun x36 =>
    brV x36
    (bnd (pIndexAddr Tryz.prog 122 x33 x35) fun x37 =>
    bnd (pLoad Tryz.prog 9 x37 h) fun x38 =>
    bnd (inv (.func 156) #[] #[x6, x38] h) fun x41 =>
    bnd (pBin Tryz.prog .add 3 (.tmp 35) (.const (.int .i64 1)) x35 (.int .i64 1)) fun x42 =>
    F131_lrlrrrr inv k j x0 x5 x41.1 x33 x34 x42 x41.2 ke0)
    (ke0 x0 x5 x6 x33 x34 x35 x36 h)
theorem F131_lrlrrrr_j (j : Nat) : kLoop (kCode env 131 false inv k (cp c131 500)) j (act 79 [(0, x0), (5, x5), (6, x6), (33, x33), (34, x34), (35, x35)]) h K = F131_lrlrrrr inv k j x0 x5 x6 x33 x34 x35 h (fun y0 y5 y6 y33 y34 y35 y36 h => K (.exit 0) (act 79 [(0, y0), (5, y5), (6, y6), (33, y33), (34, y34), (35, y35), (36, y36)]) h) := by
      induction j generalizing x0 x5 x6 x33 x34 x35 h with
      | zero => rfl
      | succ j ih =>
        unfold F131_lrlrrrr
        simp only [kLoop, kq_seq c131 500, r131_7, kq_seq c131 1001, b131_lrllrlrrrr, kq_skip c131 4004, kq_seq c131 2003, kq_block c131 4006 1, kq_seq c131 8012, r131_8, r131_9, r131_10, kq_exit c131 4005 0, ih, reduceIte, reduceCtorEq, XE.exit.injEq, Nat.reduceEqDiff, Nat.reduceMul, Nat.reduceAdd] <;> kernel_rfl
theorem F131_lrlrrrr_eq  : kCode env 131 false inv k (cp c131 250) (act 79 [(0, x0), (5, x5), (6, x6), (33, x33), (34, x34), (35, x35)]) h K = F131_lrlrrrr inv k k x0 x5 x6 x33 x34 x35 h (fun y0 y5 y6 y33 y34 y35 y36 h => K (.exit 0) (act 79 [(0, y0), (5, y5), (6, y6), (33, y33), (34, y34), (35, y35), (36, y36)]) h) := kq_loop (F131_lrlrrrr_j k)
theorem r131_11  : kCode env 131 false inv k (cp c131 126) (act 79 [(0, x0), (5, x5), (6, x6), (33, x33), (34, x34), (35, x35), (36, x36)]) h K =
    K .normal (act 79 [(0, x0), (5, x5), (6, x6), (9, (.slice none 0 0))]) h := kq_reg
theorem r131_12  : kCode env 131 false inv k (cp c131 508) (act 79 [(0, x0), (5, x5), (6, x6), (9, x9)]) h K =
    bnd (pLen Tryz.prog #[122] x0 h) fun x44 =>
    K .normal (act 79 [(5, x5), (6, x6), (9, x9), (43, x0), (44, x44), (45, (.int .i64 0))]) h := kq_reg
theorem r131_13  : kCode env 131 false inv k (cp c131 4072) (act 79 [(5, x5), (6, x6), (9, x9), (43, x43), (44, x44), (45, x45)]) h K =
    bnd (pBin Tryz.prog .lss 3 (.tmp 45) (.tmp 44) x45 x44) fun x46 =>
    K .normal (act 79 [(5, x5), (6, x6), (9, x9), (43, x43), (44, x44), (45, x45), (46, x46)]) h := kq_reg
theorem b131_lrllrlrrrrrr  : kCode env 131 false inv k (cp c131 8146) (act 79 [(5, x5), (6, x6), (9, x9), (43, x43), (44, x44), (45, x45), (46, x46)]) h K = brV x46 (kCode env 131 false inv k (cp c131 16292) (act 79 [(5, x5), (6, x6), (9, x9), (43, x43), (44, x44), (45, x45), (46, x46)]) h K) (kCode env 131 false inv k (cp c131 16293) (act 79 [(5, x5), (6, x6), (9, x9), (43, x43), (44, x44), (45, x45), (46, x46)]) h K) := kq_cond
theorem r131_14  : kCode env 131 false inv k (cp c131 65176) (act 79 [(5, x5), (6, x6), (9, x9), (43, x43), (44, x44), (45, x45), (46, x46)]) h K =
    bnd (pIndexAddr Tryz.prog 122 x43 x45) fun x47 =>
    bnd (pLoad Tryz.prog 9 x47 h) fun x48 =>
    K .normal (act 79 [(5, x5), (6, x6), (9, x9), (11, x48), (43, x43), (44, x44), (45, x45)]) h := kq_reg
theorem r131_15  : kCode env 131 false inv k (cp c131 130354) (act 79 [(5, x5), (6, x6), (9, x9), (11, x11), (43, x43), (44, x44), (45, x45)]) h K =
    bnd (inv (.func 158) #[] #[x5, x11] h) fun x52 =>
    bnd (pExtract x52.1 0) fun x53 =>
    bnd (pExtract x52.1 1) fun x54 =>
    K .normal (act 79 [(5, x5), (6, x6), (9, x9), (12, x53), (43, x43), (44, x44), (45, x45)]) x52.2 := kq_reg
theorem r131_16  : kCode env 131 false inv k (cp c131 130355) (act 79 [(5, x5), (6, x6), (9, x9), (12, x12), (43, x43), (44, x44), (45, x45)]) h K =
    bnd (pConv Tryz.prog 3 60 x12 h) fun x57 =>
    bnd (pBuildSlice Tryz.prog 63 1 #[(0, x57)] h) fun x58 =>
    bnd (pAppend Tryz.prog #[63, 63] x9 x58.1 x58.2) fun x59 =>
    K .normal (act 79 [(5, x5), (6, x6), (9, x59.1), (43, x43), (44, x44), (45, x45)]) x59.2 := kq_reg
theorem r131_17  : kCode env 131 false inv k (cp c131 16295) (act 79 [(5, x5), (6, x6), (9, x9), (43, x43), (44, x44), (45, x45)]) h K =
    bnd (pBin Tryz.prog .add 3 (.tmp 45) (.const (.int .i64 1)) x45 (.int .i64 1)) fun x60 =>
    K .normal (act 79 [(5, x5), (6, x6), (9, x9), (43, x43), (44, x44), (45, x60)]) h := kq_reg
noncomputable def F131_lrlrrrrrr {β : Type} (inv : Inv) (k : Nat) : Nat → Value → Value → Value → Value → Value → Value → AH → (Value → Value → Value → Value → Value → Value → Value → AH → Option β) → Option β
  | 0, _, _, _, _, _, _, _, _ => none
  | j + 1, x5, x6, x9, x43, x44, x45, h, ke2 =>
    bnd (pBin Tryz.prog .lss 3 (.tmp 45) (.tmp 44) x45 x44) fun x46 =>
    brV x46
    (bnd (pIndexAddr Tryz.prog 122 x43 x45) fun x47 =>
    bnd (pLoad Tryz.prog 9 x47 h) fun x48 =>
    bnd (inv (.func 158) #[] #[x5, x48] h) fun x52 =>
    bnd (pExtract x52.1 0) fun x53 =>
    bnd (pExtract x52.1 1) fun x54 =>
    bnd (pConv Tryz.prog 3 60 x53 x52.2) fun x57 =>
    bnd (pBuildSlice Tryz.prog 63 1 #[(0, x57)] x52.2) fun x58 =>
    bnd (pAppend Tryz.prog #[63, 63] x9 x58.1 x58.2) fun x59 =>
    bnd (pBin Tryz.prog .add 3 (.tmp 45) (.const (.int .i64 1)) x45 (.int .i64 1)) fun x60 =>
    F131_lrlrrrrrr inv k j x5 x6 x59.1 x43 x44 x60 x59.2 ke2)
    (ke2 x5 x6 x9 x43 x44 x45 x46 h)
theorem F131_lrlrrrrrr_j (j : Nat) : kLoop (kCode env 131 false inv k (cp c131 2036)) j (act 79 [(5, x5), (6, x6), (9, x9), (43, x43), (44, x44), (45, x45)]) h K = F131_lrlrrrrrr inv k j x5 x6 x9 x43 x44 x45 h (fun y5 y6 y9 y43 y44 y45 y46 h => K (.exit 2) (act 79 [(5, y5), (6, y6), (9, y9), (43, y43), (44, y44), (45, y45), (46, y46)]) h) := by
      induction j generalizing x5 x6 x9 x43 x44 x45 h with
      | zero => rfl
      | succ j ih =>
        unfold F131_lrlrrrrrr
        simp only [kLoop, kq_seq c131 2036, r131_13, kq_seq c131 4073, b131_lrllrlrrrrrr, kq_skip c131 16292, kq_seq c131 8147, kq_block c131 16294 3, kq_seq c131 32588, r131_14, kq_seq c131 65177, r131_15, r131_16, r131_17, kq_exit c131 16293 2, ih, reduceIte, reduceCtorEq, XE.exit.injEq, Nat.reduceEqDiff, Nat.reduceMul, Nat.reduceAdd] <;> kernel_rfl
theorem F131_lrlrrrrrr_eq  : kCode env 131 false inv k (cp c131 1018) (act 79 [(5, x5), (6, x6), (9, x9), (43, x43), (44, x44), (45, x45)]) h K = F131_lrlrrrrrr inv k k x5 x6 x9 x43 x44 x45 h (fun y5 y6 y9 y43 y44 y45 y46 h => K (.exit 2) (act 79 [(5, y5), (6, y6), (9, y9), (43, y43), (44, y44), (45, y45), (46, y46)]) h) := kq_loop (F131_lrlrrrrrr_j k)
theorem r131_18  : kCode env 131 false inv k (cp c131 510) (act 79 [(5, x5), (6, x6), (9, x9), (43, x43), (44, x44), (45, x45), (46, x46)]) h K =
    bnd (inv (.func 98) #[] #[x9] h) fun x62 =>
    K .normal (act 79 [(6, x6), (9, x9), (14, x62.1)]) x62.2 := kq_reg
theorem r131_19  : kCode env 131 false inv k (cp c131 1022) (act 79 [(6, x6), (9, x9), (14, x14)]) h K =
    bnd (inv (.func 49) #[] #[x9, x14] h) fun x66 =>
    bnd (pExtract x66.1 0) fun x67 =>
    bnd (pExtract x66.1 1) fun x68 =>
    K .normal (act 79 [(6, x6), (14, x14), (15, x67), (16, x68)]) x66.2 := kq_reg
theorem r131_20  : kCode env 131 false inv k (cp c131 4092) (act 79 [(6, x6), (14, x14), (15, x15), (16, x16)]) h K =
    bnd (pBin Tryz.prog .neq 25 (.tmp 69) (.const (.int .i64 0)) x16 (.int .i64 0)) fun x70 =>
    K .normal (act 79 [(6, x6), (14, x14), (15, x15), (16, x16), (70, x70)]) h := kq_reg
theorem b131_rlrrrrrrrrr  : kCode env 131 false inv k (cp c131 4093) (act 79 [(6, x6), (14, x14), (15, x15), (16, x16), (70, x70)]) h K = brV x70 (kCode env 131 false inv k (cp c131 8186) (act 79 [(6, x6), (14, x14), (15, x15), (16, x16), (70, x70)]) h K) (kCode env 131 false inv k (cp c131 8187) (act 79 [(6, x6), (14, x14), (15, x15), (16, x16), (70, x70)]) h K) := kq_cond
theorem r131_21  : kCode env 131 false inv k (cp c131 16372) (act 79 [(6, x6), (14, x14), (15, x15), (16, x16), (70, x70)]) h K =
    K .normal (act 79 [(2, (.slice none 0 0)), (3, x16)]) h := kq_reg
theorem r131_22  : kCode env 131 false inv k (cp c131 4094) (act 79 [(6, x6), (14, x14), (15, x15), (16, x16), (70, x70)]) h K =
    bnd (pConv Tryz.prog 3 5 x14 h) fun x74 =>
    bnd (pBuildSlice Tryz.prog 33 1 #[(0, x74)] h) fun x75 =>
    bnd (pAppend Tryz.prog #[33, 33] x6 x75.1 x75.2) fun x76 =>
    bnd (pAppend Tryz.prog #[33, 33] x76.1 x15 x76.2) fun x78 =>
    K .normal (act 79 [(2, x78.1), (3, (.int .i64 0))]) x78.2 := kq_reg
/-- shadowbook/texts.Dict -/
noncomputable def F131 (inv : Inv) (k : Nat) (x0 : Value) (h : AH) : Option (Value × AH) :=
    bnd (inv (.func 155) #[] #[x0] h) fun x18 =>
    bnd (pBin Tryz.prog .neq 25 (.tmp 19) (.const (.int .i64 0)) x18.1 (.int .i64 0)) fun x20 =>
    brV x20
    (some (.tuple #[(.slice none 0 0), x18.1], x18.2))
    (bnd (inv (.func 157) #[] #[x0] x18.2) fun x23 =>
    bnd (pBuildSlice Tryz.prog 33 1 #[(0, (.int .u8 2))] x23.2) fun x24 =>
    bnd (pLen Tryz.prog #[122] x0 x24.2) fun x26 =>
    bnd (pConv Tryz.prog 3 60 x26 x24.2) fun x27 =>
    bnd (inv (.func 47) #[] #[x24.1, x27] x24.2) fun x28 =>
    bnd (pLen Tryz.prog #[122] x23.1 x28.2) fun x30 =>
    bnd (pConv Tryz.prog 3 60 x30 x28.2) fun x31 =>
    bnd (inv (.func 47) #[] #[x28.1, x31] x28.2) fun x32 =>
    bnd (pLen Tryz.prog #[122] x23.1 x32.2) fun x34 =>
    F131_lrlrrrr inv k k x0 x23.1 x32.1 x23.1 x34 (.int .i64 0) x32.2
    (fun y0 y5 y6 y33 y34 y35 y36 h =>
    bnd (pLen Tryz.prog #[122] y0 h) fun x44 =>
    F131_lrlrrrrrr inv k k y5 y6 (.slice none 0 0) y0 x44 (.int .i64 0) h
    (fun y5_1 y6_2 y9 y43 y44 y45 y46 h_3 =>
    bnd (inv (.func 98) #[] #[y9] h_3) fun x62 =>
    bnd (inv (.func 49) #[] #[y9, x62.1] x62.2) fun x66 =>
    bnd (pExtract x66.1 0) fun x67 =>
    bnd (pExtract x66.1 1) fun x68 =>
    bnd (pBin Tryz.prog .neq 25 (.tmp 69) (.const (.int .i64 0)) x68 (.int .i64 0)) fun x70 =>
    brV x70
    (some (.tuple #[(.slice none 0 0), x68], x66.2))
    (bnd (pConv Tryz.prog 3 5 x62.1 x66.2) fun x74 =>
    bnd (pBuildSlice Tryz.prog 33 1 #[(0, x74)] x66.2) fun x75 =>
    bnd (pAppend Tryz.prog #[33, 33] y6_2 x75.1 x75.2) fun x76 =>
    bnd (pAppend Tryz.prog #[33, 33] x76.1 x67 x76.2) fun x78 =>
    some (.tuple #[x78.1, (.int .i64 0)], x78.2)))))
theorem F131_eq : eFun env k inv 131 #[x0] h = F131 inv k x0 h := by
      refine (kq_fun (a := act 79 [(0, x0)]) (c := cp c131 1)).trans ?_
      unfold F131
      simp only [kq_seq c131 1, r131_0, kq_seq c131 3, kq_seq c131 6, r131_1, kq_seq c131 13, r131_2, b131_rrlr, kq_seq c131 54, r131_3, kq_ret c131 109, res131_0, kq_skip c131 55, kq_seq c131 7, r131_4, kq_seq c131 15, r131_5, kq_seq c131 31, kq_seq c131 62, r131_6, kq_block c131 125 0, F131_lrlrrrr_eq, kq_seq c131 63, r131_11, kq_seq c131 127, kq_seq c131 254, r131_12, kq_block c131 509 2, F131_lrlrrrrrr_eq, kq_seq c131 255, r131_18, kq_seq c131 511, r131_19, kq_seq c131 1023, kq_seq c131 2046, r131_20, b131_rlrrrrrrrrr, kq_seq c131 8186, r131_21, kq_ret c131 16373, kq_skip c131 8187, kq_seq c131 2047, r131_22, kq_ret c131 4095, reduceIte, reduceCtorEq, XE.exit.injEq, Nat.reduceEqDiff, Nat.reduceMul, Nat.reduceAdd] <;> kernel_rfl
theorem F131_call : eInv env (k + 1) (.func 131) #[] #[x0] h = F131 (eInv env k) k x0 h := kq_inv F131_eq
noncomputable def c132 : Code := codeOf Tryz.prog 132
theorem r132_0  : kCode env 132 false inv k (cp c132 2) (act 41 [(0, x0), (1, x1)]) h K =
    K .normal (act 41 [(0, x0), (1, x1), (4, (.slice none 0 0))]) h := kq_reg
theorem r132_1  : kCode env 132 false inv k (cp c132 12) (act 41 [(0, x0), (1, x1), (4, x4)]) h K =
    K .normal (act 41 [(0, x0), (1, x1), (4, x4), (5, (.bool true))]) h := kq_reg
theorem r132_2  : kCode env 132 false inv k (cp c132 864) (act 41 [(0, x0), (1, x1), (4, x4), (5, x5)]) h K =
    bnd (pBin Tryz.prog .gtr 60 (.tmp 9) (.const (.int .u64 0)) x1 (.int .u64 0)) fun x10 =>
    K .normal (act 41 [(0, x0), (1, x1), (4, x4), (5, x5), (10, x10)]) h := kq_reg
theorem b132_rllllrrlr  : kCode env 132 false inv k (cp c132 865) (act 41 [(0, x0), (1, x1), (4, x4), (5, x5), (10, x10)]) h K = brV x10 (kCode env 132 false inv k (cp c132 1730) (act 41 [(0, x0), (1, x1), (4, x4), (5, x5), (10, x10)]) h K) (kCode env 132 false inv k (cp c132 1731) (act 41 [(0, x0), (1, x1), (4, x4), (5, x5), (10, x10)]) h K) := kq_cond
theorem r132_4  : kCode env 132 false inv k (cp c132 3464) (act 41 [(0, x0), (1, x1), (4, x4), (5, x5), (10, x10)]) h K =
    bnd (inv (.func 92) #[] #[x0] h) fun x15 =>
    bnd (pExtract x15.1 0) fun x16 =>
    bnd (pExtract x15.1 1) fun x17 =>
    K .normal (act 41 [(0, x0), (1, x1), (4, x4), (5, x5), (6, x16), (7, x17)]) x15.2 := kq_reg
noncomputable abbrev G132_5 {β : Type} (inv : Inv) (x0 x1 x4 x5 x6 x7 : Value) (h : AH) (K : Value → AH → Option β) : Option β :=
    bnd (pBin Tryz.prog .neq 25 (.tmp 19) (.const (.int .i64 0)) x7 (.int .i64 0)) fun x20 =>
    bnd (gd (some x20) false h (some (x6, h))) fun x22 =>
    bnd (gd (some x20) false x22.2 (lt (pBin Tryz.prog .gtr 60 (.tmp 22) (.const (.int .u64 65536)) x22.1 (.int .u64 65536)) x22.2)) fun x23 =>
    bnd (pickV x20 (.bool true) x23.1) fun x24 =>
    K (x24) x23.2
theorem r132_5  : kCode env 132 false inv k (cp c132 27720) (act 41 [(0, x0), (1, x1), (4, x4), (5, x5), (6, x6), (7, x7)]) h K =
    G132_5 inv x0 x1 x4 x5 x6 x7 h fun y18 h => K .normal (act 41 [(0, x0), (1, x1), (4, x4), (5, x5), (6, x6), (18, y18)]) h := kq_reg
theorem b132_rllrllrlllrrlr  : kCode env 132 false inv k (cp c132 27721) (act 41 [(0, x0), (1, x1), (4, x4), (5, x5), (6, x6), (18, x18)]) h K = brV x18 (kCode env 132 false inv k (cp c132 55442) (act 41 [(0, x0), (1, x1), (4, x4), (5, x5), (6, x6), (18, x18)]) h K) (kCode env 132 false inv k (cp c132 55443) (act 41 [(0, x0), (1, x1), (4, x4), (5, x5), (6, x6), (18, x18)]) h K) := kq_cond
theorem r132_6  : kCode env 132 false inv k (cp c132 110884) (act 41 [(0, x0), (1, x1), (4, x4), (5, x5), (6, x6), (18, x18)]) h K =
    K .normal (act 41 [(4, x4), (5, (.bool false))]) h := kq_reg
theorem r132_7  : kCode env 132 false inv k (cp c132 13862) (act 41 [(0, x0), (1, x1), (4, x4), (5, x5), (6, x6), (18, x18)]) h K =
    bnd (pConv Tryz.prog 60 3 x6 h) fun x28 =>
    bnd (inv (.func 60) #[] #[x0, x28] h) fun x29 =>
    bnd (pExtract x29.1 0) fun x30 =>
    bnd (pExtract x29.1 1) fun x31 =>
    K .normal (act 41 [(0, x0), (1, x1), (4, x4), (5, x5), (7, x31), (8, x30)]) x29.2 := kq_reg
theorem r132_8  : kCode env 132 false inv k (cp c132 55452) (act 41 [(0, x0), (1, x1), (4, x4), (5, x5), (7, x7), (8, x8)]) h K =
    bnd (pBin Tryz.prog .neq 25 (.tmp 32) (.const (.int .i64 0)) x7 (.int .i64 0)) fun x33 =>
    K .normal (act 41 [(0, x0), (1, x1), (4, x4), (5, x5), (8, x8), (33, x33)]) h := kq_reg
theorem b132_rlrrrllrlllrrlr  : kCode env 132 false inv k (cp c132 55453) (act 41 [(0, x0), (1, x1), (4, x4), (5, x5), (8, x8), (33, x33)]) h K = brV x33 (kCode env 132 false inv k (cp c132 110906) (act 41 [(0, x0), (1, x1), (4, x4), (5, x5), (8, x8), (33, x33)]) h K) (kCode env 132 false inv k (cp c132 110907) (act 41 [(0, x0), (1, x1), (4, x4), (5, x5), (8, x8), (33, x33)]) h K) := kq_cond
theorem r132_9  : kCode env 132 false inv k (cp c132 221812) (act 41 [(0, x0), (1, x1), (4, x4), (5, x5), (8, x8), (33, x33)]) h K =
    K .normal (act 41 [(4, x4), (5, (.bool false))]) h := kq_reg
theorem r132_10  : kCode env 132 false inv k (cp c132 27727) (act 41 [(0, x0), (1, x1), (4, x4), (5, x5), (8, x8), (33, x33)]) h K =
    bnd (pConv Tryz.prog 33 9 x8 h) fun x36 =>
    bnd (pBuildSlice Tryz.prog 122 1 #[(0, x36)] h) fun x37 =>
    bnd (pAppend Tryz.prog #[122, 122] x4 x37.1 x37.2) fun x38 =>
    K .normal (act 41 [(0, x0), (1, x1), (4, x38.1), (5, x5)]) x38.2 := kq_reg
theorem r132_3  : kCode env 132 false inv k (cp c132 867) (act 41 [(0, x0), (1, x1), (4, x4), (5, x5)]) h K =
    bnd (pBin Tryz.prog .sub 60 (.tmp 11) (.const (.int .u64 1)) x1 (.int .u64 1)) fun x12 =>
    K .normal (act 41 [(0, x0), (1, x12), (4, x4), (5, x5)]) h := kq_reg
noncomputable def F132_llrrlr {β : Type} (inv : Inv) (k : Nat) : Nat → Value → Value → Value → Value → AH → (Value → Value → Value → Value → Value → AH → Option β) → Option β
  | 0, _, _, _, _, _, _ => none
  | j + 1, x0, x1, x4, x5, h, ke0 =>
    bnd (pBin Tryz.prog .gtr 60 (.tmp 9) (.const (.int .u64 0)) x1 (.int .u64 0)) fun x10 =>
    brV x10
    (bnd (inv (.func 92) #[] #[x0] h) fun x15 =>
    bnd (pExtract x15.1 0) fun x16 =>
    bnd (pExtract x15.1 1) fun x17 =>
    G132_5 inv x0 x1 x4 x5 x16 x17 x15.2 fun y18 h =>
    brV y18
    (ke0 unk unk x4 (.bool false) unk h)
    (bnd (pConv Tryz.prog 60 3 x16 h) fun x28 =>
    bnd (inv (.func 60) #[] #[x0, x28] h) fun x29 =>
    bnd (pExtract x29.1 0) fun x30 =>
    bnd (pExtract x29.1 1) fun x31 =>
    bnd (pBin Tryz.prog .neq 25 (.tmp 32) (.const (.int .i64 0)) x31 (.int .i64 0)) fun x33 =>
    brV x33
    (ke0 unk unk x4 (.bool false) unk x29.2)
    (bnd (pConv Tryz.prog 33 9 x30 x29.2) fun x36 =>
    bnd (pBuildSlice Tryz.prog 122 1 #[(0, x36)] x29.2) fun x37 =>
    bnd (pAppend Tryz.prog #[122, 122] x4 x37.1 x37.2) fun x38 =>
    bnd (pBin Tryz.prog .sub 60 (.tmp 11) (.const (.int .u64 1)) x1 (.int .u64 1)) fun x12 =>
    F132_llrrlr inv k j x0 x12 x38.1 x5 x38.2 ke0)))
    (ke0 x0 x1 x4 x5 x10 h)
theorem F132_llrrlr_j (j : Nat) : kLoop (kCode env 132 false inv k (cp c132 216)) j (act 41 [(0, x0), (1, x1), (4, x4), (5, x5)]) h K = F132_llrrlr inv k j x0 x1 x4 x5 h (fun y0 y1 y4 y5 y10 h => K (.exit 0) (act 41 [(0, y0), (1, y1), (4, y4), (5, y5), (10, y10)]) h) := by
      induction j generalizing x0 x1 x4 x5 h with
      | zero => rfl
      | succ j ih =>
        unfold F132_llrrlr
        simp only [kLoop, kq_seq c132 216, kq_seq c132 432, r132_2, b132_rllllrrlr, kq_skip c132 1730, kq_seq c132 433, kq_block c132 866 1, kq_seq c132 1732, r132_4, kq_seq c132 3465, kq_block c132 6930 2, kq_seq c132 13860, r132_5, b132_rllrllrlllrrlr, kq_seq c132 55442, r132_6, kq_exit c132 110885 0, kq_skip c132 55443, kq_seq c132 6931, r132_7, kq_seq c132 13863, kq_seq c132 27726, r132_8, b132_rlrrrllrlllrrlr, kq_seq c132 110906, r132_9, kq_exit c132 221813 0, kq_skip c132 110907, r132_10, r132_3, kq_exit c132 1731 0, ih, reduceIte, reduceCtorEq, XE.exit.injEq, Nat.reduceEqDiff, Nat.reduceMul, Nat.reduceAdd] <;> kernel_rfl
theorem F132_llrrlr_eq  : kCode env 132 false inv k (cp c132 108) (act 41 [(0, x0), (1, x1), (4, x4), (5, x5)]) h K = F132_llrrlr inv k k x0 x1 x4 x5 h (fun y0 y1 y4 y5 y10 h => K (.exit 0) (act 41 [(0, y0), (1, y1), (4, y4), (5, y5), (10, y10)]) h) := kq_loop (F132_llrrlr_j k)
noncomputable def F132_lrrlr {β : Type} (inv : Inv) (k : Nat) (x0 x1 x4 x5 : Value) (h : AH) (kn : (Value → Value → Value → Value → Value → AH → Option β)) : Option β :=
    F132_llrrlr inv k k x0 x1 x4 x5 h
    (fun y0 y1 y4 y5 y10 h =>
    kn y0 y1 y4 y5 y10 h)
theorem F132_lrrlr_eq  : kCode env 132 false inv k (cp c132 54) (act 41 [(0, x0), (1, x1), (4, x4), (5, x5)]) h K = F132_lrrlr inv k x0 x1 x4 x5 h (fun y0 y1 y4 y5 y10 h => K .normal (act 41 [(0, y0), (1, y1), (4, y4), (5, y5), (10, y10)]) h) := by
      unfold F132_lrrlr
      simp only [kq_block c132 54 0, F132_llrrlr_eq, reduceIte, reduceCtorEq, XE.exit.injEq, Nat.reduceEqDiff, Nat.reduceMul, Nat.reduceAdd] <;> kernel_rfl
theorem r132_11  : kCode env 132 false inv k (cp c132 110) (act 41 [(0, x0), (1, x1), (4, x4), (5, x5), (10, x10)]) h K =
    K .normal (act 41 [(4, x4), (5, x5)]) h := kq_reg
theorem res132_0 : resOfFn env.P 132 .ret (act 41 [(4, x4), (5, x5)]) h = some (.tuple #[x4, x5], h) := kq_res
/-- shadowbook/texts.read -/
noncomputable def F132 (inv : Inv) (k : Nat) (x0 x1 : Value) (h : AH) : Option (Value × AH) :=
    F132_lrrlr inv k x0 x1 (.slice none 0 0) (.bool true) h
    (fun y0 y1 y4 y5 y10 h =>
    some (.tuple #[y4, y5], h))
theorem F132_eq : eFun env k inv 132 #[x0, x1] h = F132 inv k x0 x1 h := by
      refine (kq_fun (a := act 41 [(0, x0), (1, x1)]) (c := cp c132 1)).trans ?_
      unfold F132
      simp only [kq_seq c132 1, r132_0, kq_scope c132 3, kq_seq c132 6, r132_1, kq_seq c132 13, kq_label c132 26, kq_seq c132 27, F132_lrrlr_eq, kq_seq c132 55, r132_11, kq_ret c132 111, res132_0, reduceIte, reduceCtorEq, XE.exit.injEq, Nat.reduceEqDiff, Nat.reduceMul, Nat.reduceAdd] <;> kernel_rfl
theorem F132_call : eInv env (k + 1) (.func 132) #[] #[x0, x1] h = F132 (eInv env k) k x0 x1 h := kq_inv F132_eq
noncomputable def c133 : Code := codeOf Tryz.prog 133
theorem r133_0  : kCode env 133 false inv k (cp c133 2) (act 83 [(0, x0), (1, x1)]) h K =
    K .normal (act 83 [(0, x0), (1, x1), (4, (.slice none 0 0))]) h := kq_reg
theorem r133_1  : kCode env 133 false inv k (cp c133 6) (act 83 [(0, x0), (1, x1), (4, x4)]) h K =
    bnd (inv (.func 92) #[] #[x0] h) fun x18 =>
    bnd (pExtract x18.1 0) fun x19 =>
    bnd (pExtract x18.1 1) fun x20 =>
    K .normal (act 83 [(0, x0), (1, x1), (4, x4), (6, x19), (7, x20)]) x18.2 := kq_reg
noncomputable abbrev G133_2 {β : Type} (inv : Inv) (x0 x1 x4 x6 x7 : Value) (h : AH) (K : Value → AH → Option β) : Option β :=
    bnd (pBin Tryz.prog .neq 25 (.tmp 21) (.const (.int .i64 0)) x7 (.int .i64 0)) fun x22 =>
    bnd (gd (some x22) false h (some (x6, h))) fun x24 =>
    bnd (gd (some x22) false x24.2 (some (x1, x24.2))) fun x25 =>
    bnd (gd (some x22) false x25.2 (lt (pConv Tryz.prog 3 60 x25.1 x25.2) x25.2)) fun x26 =>
    bnd (gd (some x22) false x26.2 (lt (pBin Tryz.prog .gtr 60 (.tmp 24) (.tmp 26) x24.1 x26.1) x26.2)) fun x27 =>
    bnd (pickV x22 (.bool true) x27.1) fun x28 =>
    K (x28) x27.2
theorem r133_2  : kCode env 133 false inv k (cp c133 28) (act 83 [(0, x0), (1, x1), (4, x4), (6, x6), (7, x7)]) h K =
    G133_2 inv x0 x1 x4 x6 x7 h fun y28 h => K .normal (act 83 [(0, x0), (1, x1), (4, x4), (6, x6), (28, y28)]) h := kq_reg
theorem b133_rlrr  : kCode env 133 false inv k (cp c133 29) (act 83 [(0, x0), (1, x1), (4, x4), (6, x6), (28, x28)]) h K = brV x28 (kCode env 133 false inv k (cp c133 58) (act 83 [(0, x0), (1, x1), (4, x4), (6, x6), (28, x28)]) h K) (kCode env 133 false inv k (cp c133 59) (act 83 [(0, x0), (1, x1), (4, x4), (6, x6), (28, x28)]) h K) := kq_cond
theorem r133_3  : kCode env 133 false inv k (cp c133 116) (act 83 [(0, x0), (1, x1), (4, x4), (6, x6), (28, x28)]) h K =
    K .normal (act 83 [(4, (.slice none 0 0)), (5, (.bool false))]) h := kq_reg
theorem res133_0 : resOfFn env.P 133 .ret (act 83 [(4, x4), (5, x5)]) h = some (.tuple #[x4, x5], h) := kq_res
theorem r133_4  : kCode env 133 false inv k (cp c133 30) (act 83 [(0, x0), (1, x1), (4, x4), (6, x6), (28, x28)]) h K =
    bnd (inv (.func 132) #[] #[x0, x6] h) fun x32 =>
    bnd (pExtract x32.1 0) fun x33 =>
    bnd (pExtract x32.1 1) fun x34 =>
    K .normal (act 83 [(0, x0), (1, x1), (4, x4), (8, x33), (9, x34)]) x32.2 := kq_reg
theorem r133_5  : kCode env 133 false inv k (cp c133 62) (act 83 [(0, x0), (1, x1), (4, x4), (8, x8), (9, x9)]) h K =
    bnd (inv (.func 77) #[] #[x0, (.int .i64 1)] h) fun x37 =>
    bnd (pExtract x37.1 0) fun x38 =>
    bnd (pExtract x37.1 1) fun x39 =>
    K .normal (act 83 [(0, x0), (1, x1), (4, x4), (7, x39), (8, x8), (9, x9), (10, x38)]) x37.2 := kq_reg
theorem r133_6  : kCode env 133 false inv k (cp c133 252) (act 83 [(0, x0), (1, x1), (4, x4), (7, x7), (8, x8), (9, x9), (10, x10)]) h K =
    bnd (pUn Tryz.prog .not x9) fun x41 =>
    bnd (gd (some x41) false h (some (x7, h))) fun x43 =>
    bnd (gd (some x41) false x43.2 (lt (pBin Tryz.prog .neq 25 (.tmp 43) (.const (.int .i64 0)) x43.1 (.int .i64 0)) x43.2)) fun x44 =>
    bnd (pickV x41 (.bool true) x44.1) fun x45 =>
    K .normal (act 83 [(0, x0), (1, x1), (4, x4), (8, x8), (10, x10), (45, x45)]) x44.2 := kq_reg
theorem b133_rlrrrrr  : kCode env 133 false inv k (cp c133 253) (act 83 [(0, x0), (1, x1), (4, x4), (8, x8), (10, x10), (45, x45)]) h K = brV x45 (kCode env 133 false inv k (cp c133 506) (act 83 [(0, x0), (1, x1), (4, x4), (8, x8), (10, x10), (45, x45)]) h K) (kCode env 133 false inv k (cp c133 507) (act 83 [(0, x0), (1, x1), (4, x4), (8, x8), (10, x10), (45, x45)]) h K) := kq_cond
theorem r133_7  : kCode env 133 false inv k (cp c133 1012) (act 83 [(0, x0), (1, x1), (4, x4), (8, x8), (10, x10), (45, x45)]) h K =
    K .normal (act 83 [(4, (.slice none 0 0)), (5, (.bool false))]) h := kq_reg
theorem r133_8  : kCode env 133 false inv k (cp c133 254) (act 83 [(0, x0), (1, x1), (4, x4), (8, x8), (10, x10), (45, x45)]) h K =
    bnd (inv (.func 61) #[] #[x0] h) fun x49 =>
    bnd (inv (.func 60) #[] #[x0, x49.1] x49.2) fun x50 =>
    bnd (pExtract x50.1 0) fun x51 =>
    bnd (pExtract x50.1 1) fun x52 =>
    K .normal (act 83 [(1, x1), (4, x4), (8, x8), (10, x10), (11, x51)]) x50.2 := kq_reg
theorem r133_9  : kCode env 133 false inv k (cp c133 510) (act 83 [(1, x1), (4, x4), (8, x8), (10, x10), (11, x11)]) h K =
    bnd (pConv Tryz.prog 60 3 x10 h) fun x57 =>
    bnd (inv (.func 87) #[] #[x11, x1, x57] h) fun x58 =>
    bnd (pExtract x58.1 0) fun x59 =>
    bnd (pExtract x58.1 1) fun x60 =>
    K .normal (act 83 [(4, x4), (7, x60), (8, x8), (13, x59)]) x58.2 := kq_reg
theorem r133_10  : kCode env 133 false inv k (cp c133 2044) (act 83 [(4, x4), (7, x7), (8, x8), (13, x13)]) h K =
    bnd (pBin Tryz.prog .neq 25 (.tmp 61) (.const (.int .i64 0)) x7 (.int .i64 0)) fun x62 =>
    K .normal (act 83 [(4, x4), (8, x8), (13, x13), (62, x62)]) h := kq_reg
theorem b133_rlrrrrrrrr  : kCode env 133 false inv k (cp c133 2045) (act 83 [(4, x4), (8, x8), (13, x13), (62, x62)]) h K = brV x62 (kCode env 133 false inv k (cp c133 4090) (act 83 [(4, x4), (8, x8), (13, x13), (62, x62)]) h K) (kCode env 133 false inv k (cp c133 4091) (act 83 [(4, x4), (8, x8), (13, x13), (62, x62)]) h K) := kq_cond
theorem r133_11  : kCode env 133 false inv k (cp c133 8180) (act 83 [(4, x4), (8, x8), (13, x13), (62, x62)]) h K =
    K .normal (act 83 [(4, (.slice none 0 0)), (5, (.bool false))]) h := kq_reg
theorem r133_12  : kCode env 133 false inv k (cp c133 4092) (act 83 [(4, x4), (8, x8), (13, x13), (62, x62)]) h K =
    bnd (pLen Tryz.prog #[63] x13 h) fun x64 =>
    K .normal (act 83 [(4, x4), (8, x8), (63, x13), (64, x64), (65, (.int .i64 0))]) h := kq_reg
theorem r133_13  : kCode env 133 false inv k (cp c133 32744) (act 83 [(4, x4), (8, x8), (63, x63), (64, x64), (65, x65)]) h K =
    bnd (pBin Tryz.prog .lss 3 (.tmp 65) (.tmp 64) x65 x64) fun x66 =>
    K .normal (act 83 [(4, x4), (8, x8), (63, x63), (64, x64), (65, x65), (66, x66)]) h := kq_reg
theorem b133_lrllrlrrrrrrrrr  : kCode env 133 false inv k (cp c133 65490) (act 83 [(4, x4), (8, x8), (63, x63), (64, x64), (65, x65), (66, x66)]) h K = brV x66 (kCode env 133 false inv k (cp c133 130980) (act 83 [(4, x4), (8, x8), (63, x63), (64, x64), (65, x65), (66, x66)]) h K) (kCode env 133 false inv k (cp c133 130981) (act 83 [(4, x4), (8, x8), (63, x63), (64, x64), (65, x65), (66, x66)]) h K) := kq_cond
theorem r133_14  : kCode env 133 false inv k (cp c133 523928) (act 83 [(4, x4), (8, x8), (63, x63), (64, x64), (65, x65), (66, x66)]) h K =
    bnd (pIndexAddr Tryz.prog 63 x63 x65) fun x67 =>
    bnd (pLoad Tryz.prog 60 x67 h) fun x68 =>
    K .normal (act 83 [(4, x4), (8, x8), (15, x68), (63, x63), (64, x64), (65, x65)]) h := kq_reg
theorem r133_15  : kCode env 133 false inv k (cp c133 2095716) (act 83 [(4, x4), (8, x8), (15, x15), (63, x63), (64, x64), (65, x65)]) h K =
    bnd (pLen Tryz.prog #[122] x8 h) fun x71 =>
    bnd (pConv Tryz.prog 3 60 x71 h) fun x72 =>
    bnd (pBin Tryz.prog .geq 60 (.tmp 69) (.tmp 72) x15 x72) fun x73 =>
    K .normal (act 83 [(4, x4), (8, x8), (15, x15), (63, x63), (64, x64), (65, x65), (73, x73)]) h := kq_reg
theorem b133_rlrllrrllrlrrrrrrrrr  : kCode env 133 false inv k (cp c133 2095717) (act 83 [(4, x4), (8, x8), (15, x15), (63, x63), (64, x64), (65, x65), (73, x73)]) h K = brV x73 (kCode env 133 false inv k (cp c133 4191434) (act 83 [(4, x4), (8, x8), (15, x15), (63, x63), (64, x64), (65, x65), (73, x73)]) h K) (kCode env 133 false inv k (cp c133 4191435) (act 83 [(4, x4), (8, x8), (15, x15), (63, x63), (64, x64), (65, x65), (73, x73)]) h K) := kq_cond
theorem r133_16  : kCode env 133 false inv k (cp c133 8382868) (act 83 [(4, x4), (8, x8), (15, x15), (63, x63), (64, x64), (65, x65), (73, x73)]) h K =
    K .normal (act 83 [(4, (.slice none 0 0)), (5, (.bool false))]) h := kq_reg
theorem r133_17  : kCode env 133 false inv k (cp c133 1047859) (act 83 [(4, x4), (8, x8), (15, x15), (63, x63), (64, x64), (65, x65), (73, x73)]) h K =
    bnd (pIndexAddr Tryz.prog 122 x8 x15) fun x77 =>
    bnd (pLoad Tryz.prog 9 x77 h) fun x78 =>
    bnd (pBuildSlice Tryz.prog 122 1 #[(0, x78)] h) fun x79 =>
    bnd (pAppend Tryz.prog #[122, 122] x4 x79.1 x79.2) fun x80 =>
    K .normal (act 83 [(4, x80.1), (8, x8), (63, x63), (64, x64), (65, x65)]) x80.2 := kq_reg
theorem r133_18  : kCode env 133 false inv k (cp c133 130983) (act 83 [(4, x4), (8, x8), (63, x63), (64, x64), (65, x65)]) h K =
    bnd (pBin Tryz.prog .add 3 (.tmp 65) (.const (.int .i64 1)) x65 (.int .i64 1)) fun x81 =>
    K .normal (act 83 [(4, x4), (8, x8), (63, x63), (64, x64), (65, x81)]) h := kq_reg
noncomputable def F133_lrlrrrrrrrrr {β : Type} (inv : Inv) (k : Nat) : Nat → Value → Value → Value → Value → Value → AH → (Value → Value → Value → Value → Value → Value → AH → Option β) → (Value → Value → AH → Option β) → Option β
  | 0, _, _, _, _, _, _, _, _ => none
  | j + 1, x4, x8, x63, x64, x65, h, ke0, kr =>
    bnd (pBin Tryz.prog .lss 3 (.tmp 65) (.tmp 64) x65 x64) fun x66 =>
    brV x66
    (bnd (pIndexAddr Tryz.prog 63 x63 x65) fun x67 =>
    bnd (pLoad Tryz.prog 60 x67 h) fun x68 =>
    bnd (pLen Tryz.prog #[122] x8 h) fun x71 =>
    bnd (pConv Tryz.prog 3 60 x71 h) fun x72 =>
    bnd (pBin Tryz.prog .geq 60 (.tmp 69) (.tmp 72) x68 x72) fun x73 =>
    brV x73
    (kr (.slice none 0 0) (.bool false) h)
    (bnd (pIndexAddr Tryz.prog 122 x8 x68) fun x77 =>
    bnd (pLoad Tryz.prog 9 x77 h) fun x78 =>
    bnd (pBuildSlice Tryz.prog 122 1 #[(0, x78)] h) fun x79 =>
    bnd (pAppend Tryz.prog #[122, 122] x4 x79.1 x79.2) fun x80 =>
    bnd (pBin Tryz.prog .add 3 (.tmp 65) (.const (.int .i64 1)) x65 (.int .i64 1)) fun x81 =>
    F133_lrlrrrrrrrrr inv k j x80.1 x8 x63 x64 x81 x80.2 ke0 kr))
    (ke0 x4 x8 x63 x64 x65 x66 h)
theorem F133_lrlrrrrrrrrr_j (j : Nat) : kLoop (kCode env 133 false inv k (cp c133 16372)) j (act 83 [(4, x4), (8, x8), (63, x63), (64, x64), (65, x65)]) h K = F133_lrlrrrrrrrrr inv k j x4 x8 x63 x64 x65 h (fun y4 y8 y63 y64 y65 y66 h => K (.exit 0) (act 83 [(4, y4), (8, y8), (63, y63), (64, y64), (65, y65), (66, y66)]) h) (fun y4 y5 h => K .ret (act 83 [(4, y4), (5, y5)]) h) := by
      induction j generalizing x4 x8 x63 x64 x65 h with
      | zero => rfl
      | succ j ih =>
        unfold F133_lrlrrrrrrrrr
        simp only [kLoop, kq_seq c133 16372, r133_13, kq_seq c133 32745, b133_lrllrlrrrrrrrrr, kq_skip c133 130980, kq_seq c133 65491, kq_block c133 130982 1, kq_seq c133 261964, r133_14, kq_seq c133 523929, kq_seq c133 1047858, r133_15, b133_rlrllrrllrlrrrrrrrrr, kq_seq c133 4191434, r133_16, kq_ret c133 8382869, kq_skip c133 4191435, r133_17, r133_18, kq_exit c133 130981 0, ih, reduceIte, reduceCtorEq, XE.exit.injEq, Nat.reduceEqDiff, Nat.reduceMul, Nat.reduceAdd] <;> kernel_rfl
theorem F133_lrlrrrrrrrrr_eq  : kCode env 133 false inv k (cp c133 8186) (act 83 [(4, x4), (8, x8), (63, x63), (64, x64), (65, x65)]) h K = F133_lrlrrrrrrrrr inv k k x4 x8 x63 x64 x65 h (fun y4 y8 y63 y64 y65 y66 h => K (.exit 0) (act 83 [(4, y4), (8, y8), (63, y63), (64, y64), (65, y65), (66, y66)]) h) (fun y4 y5 h => K .ret (act 83 [(4, y4), (5, y5)]) h) := kq_loop (F133_lrlrrrrrrrrr_j k)
theorem r133_19  : kCode env 133 false inv k (cp c133 4094) (act 83 [(4, x4), (8, x8), (63, x63), (64, x64), (65, x65), (66, x66)]) h K =
    K .normal (act 83 [(4, x4), (5, (.bool true))]) h := kq_reg
/-- shadowbook/texts.words -/
noncomputable def F133 (inv : Inv) (k : Nat) (x0 x1 : Value) (h : AH) : Option (Value × AH) :=
    bnd (inv (.func 92) #[] #[x0] h) fun x18 =>
    bnd (pExtract x18.1 0) fun x19 =>
    bnd (pExtract x18.1 1) fun x20 =>
    G133_2 inv x0 x1 (.slice none 0 0) x19 x20 x18.2 fun y28 h =>
    brV y28
    (some (.tuple #[(.slice none 0 0), (.bool false)], h))
    (bnd (inv (.func 132) #[] #[x0, x19] h) fun x32 =>
    bnd (pExtract x32.1 0) fun x33 =>
    bnd (pExtract x32.1 1) fun x34 =>
    bnd (inv (.func 77) #[] #[x0, (.int .i64 1)] x32.2) fun x37 =>
    bnd (pExtract x37.1 0) fun x38 =>
    bnd (pExtract x37.1 1) fun x39 =>
    bnd (pUn Tryz.prog .not x34) fun x41 =>
    bnd (gd (some x41) false x37.2 (some (x39, x37.2))) fun x43 =>
    bnd (gd (some x41) false x43.2 (lt (pBin Tryz.prog .neq 25 (.tmp 43) (.const (.int .i64 0)) x43.1 (.int .i64 0)) x43.2)) fun x44 =>
    bnd (pickV x41 (.bool true) x44.1) fun x45 =>
    brV x45
    (some (.tuple #[(.slice none 0 0), (.bool false)], x44.2))
    (bnd (inv (.func 61) #[] #[x0] x44.2) fun x49 =>
    bnd (inv (.func 60) #[] #[x0, x49.1] x49.2) fun x50 =>
    bnd (pExtract x50.1 0) fun x51 =>
    bnd (pExtract x50.1 1) fun x52 =>
    bnd (pConv Tryz.prog 60 3 x38 x50.2) fun x57 =>
    bnd (inv (.func 87) #[] #[x51, x1, x57] x50.2) fun x58 =>
    bnd (pExtract x58.1 0) fun x59 =>
    bnd (pExtract x58.1 1) fun x60 =>
    bnd (pBin Tryz.prog .neq 25 (.tmp 61) (.const (.int .i64 0)) x60 (.int .i64 0)) fun x62 =>
    brV x62
    (some (.tuple #[(.slice none 0 0), (.bool false)], x58.2))
    (bnd (pLen Tryz.prog #[63] x59 x58.2) fun x64 =>
    F133_lrlrrrrrrrrr inv k k (.slice none 0 0) x33 x59 x64 (.int .i64 0) x58.2
    (fun y4 y8 y63 y64 y65 y66 h_1 =>
    some (.tuple #[y4, (.bool true)], h_1))
    (fun y4_2 y5 h_3 =>
    some (.tuple #[y4_2, y5], h_3)))))
theorem F133_eq : eFun env k inv 133 #[x0, x1] h = F133 inv k x0 x1 h := by
      refine (kq_fun (a := act 83 [(0, x0), (1, x1)]) (c := cp c133 1)).trans ?_
      unfold F133
      simp only [kq_seq c133 1, r133_0, kq_seq c133 3, r133_1, kq_seq c133 7, kq_seq c133 14, r133_2, b133_rlrr, kq_seq c133 58, r133_3, kq_ret c133 117, res133_0, kq_skip c133 59, kq_seq c133 15, r133_4, kq_seq c133 31, r133_5, kq_seq c133 63, kq_seq c133 126, r133_6, b133_rlrrrrr, kq_seq c133 506, r133_7, kq_ret c133 1013, kq_skip c133 507, kq_seq c133 127, r133_8, kq_seq c133 255, r133_9, kq_seq c133 511, kq_seq c133 1022, r133_10, b133_rlrrrrrrrr, kq_seq c133 4090, r133_11, kq_ret c133 8181, kq_skip c133 4091, kq_seq c133 1023, kq_seq c133 2046, r133_12, kq_block c133 4093 0, F133_lrlrrrrrrrrr_eq, kq_seq c133 2047, r133_19, kq_ret c133 4095, reduceIte, reduceCtorEq, XE.exit.injEq, Nat.reduceEqDiff, Nat.reduceMul, Nat.reduceAdd] <;> kernel_rfl
theorem F133_call : eInv env (k + 1) (.func 133) #[] #[x0, x1] h = F133 (eInv env k) k x0 x1 h := kq_inv F133_eq
noncomputable def c134 : Code := codeOf Tryz.prog 134
theorem r134_0  : kCode env 134 false inv k (cp c134 2) (act 25 [(0, x0)]) h K =
    K .normal (act 25 [(0, x0), (2, (.int .i64 0))]) h := kq_reg
theorem r134_1  : kCode env 134 false inv k (cp c134 12) (act 25 [(0, x0), (2, x2)]) h K =
    bnd (pBin Tryz.prog .geq 60 (.tmp 3) (.const (.int .u64 4294967296)) x0 (.int .u64 4294967296)) fun x4 =>
    K .normal (act 25 [(0, x0), (2, x2), (4, x4)]) h := kq_reg
theorem b134_rlr  : kCode env 134 false inv k (cp c134 13) (act 25 [(0, x0), (2, x2), (4, x4)]) h K = brV x4 (kCode env 134 false inv k (cp c134 26) (act 25 [(0, x0), (2, x2), (4, x4)]) h K) (kCode env 134 false inv k (cp c134 27) (act 25 [(0, x0), (2, x2), (4, x4)]) h K) := kq_cond
theorem r134_2  : kCode env 134 false inv k (cp c134 52) (act 25 [(0, x0), (2, x2), (4, x4)]) h K =
    bnd (pBin Tryz.prog .shr 60 (.tmp 5) (.const (.int .u64 32)) x0 (.int .u64 32)) fun x6 =>
    K .normal (act 25 [(0, x6)]) h := kq_reg
theorem r134_3  : kCode env 134 false inv k (cp c134 53) (act 25 [(0, x0)]) h K =
    K .normal (act 25 [(0, x0), (2, (.int .i64 32))]) h := kq_reg
noncomputable def F134_rlr {β : Type} (inv : Inv) (k : Nat) (x0 x2 x4 : Value) (h : AH) (kn : (Value → Value → Value → AH → Option β)) : Option β :=
    brV x4
    (bnd (pBin Tryz.prog .shr 60 (.tmp 5) (.const (.int .u64 32)) x0 (.int .u64 32)) fun x6 =>
    kn x6 (.int .i64 32) unk h)
    (kn x0 x2 x4 h)
theorem F134_rlr_eq  : kCode env 134 false inv k (cp c134 13) (act 25 [(0, x0), (2, x2), (4, x4)]) h K = F134_rlr inv k x0 x2 x4 h (fun y0 y2 y4 h => K .normal (act 25 [(0, y0), (2, y2), (4, y4)]) h) := by
      unfold F134_rlr
      simp only [b134_rlr, kq_seq c134 26, r134_2, r134_3, kq_skip c134 27, reduceIte, reduceCtorEq, XE.exit.injEq, Nat.reduceEqDiff, Nat.reduceMul, Nat.reduceAdd] <;> kernel_rfl
theorem r134_4  : kCode env 134 false inv k (cp c134 28) (act 25 [(0, x0), (2, x2), (4, x4)]) h K =
    bnd (pBin Tryz.prog .geq 60 (.tmp 7) (.const (.int .u64 65536)) x0 (.int .u64 65536)) fun x8 =>
    K .normal (act 25 [(0, x0), (2, x2), (8, x8)]) h := kq_reg
theorem b134_rlrr  : kCode env 134 false inv k (cp c134 29) (act 25 [(0, x0), (2, x2), (8, x8)]) h K = brV x8 (kCode env 134 false inv k (cp c134 58) (act 25 [(0, x0), (2, x2), (8, x8)]) h K) (kCode env 134 false inv k (cp c134 59) (act 25 [(0, x0), (2, x2), (8, x8)]) h K) := kq_cond
theorem r134_5  : kCode env 134 false inv k (cp c134 116) (act 25 [(0, x0), (2, x2), (8, x8)]) h K =
    bnd (pBin Tryz.prog .shr 60 (.tmp 9) (.const (.int .u64 16)) x0 (.int .u64 16)) fun x10 =>
    K .normal (act 25 [(0, x10), (2, x2)]) h := kq_reg
theorem r134_6  : kCode env 134 false inv k (cp c134 117) (act 25 [(0, x0), (2, x2)]) h K =
    bnd (pBin Tryz.prog .add 3 (.tmp 11) (.const (.int .i64 16)) x2 (.int .i64 16)) fun x12 =>
    K .normal (act 25 [(0, x0), (2, x12)]) h := kq_reg
noncomputable def F134_rlrr {β : Type} (inv : Inv) (k : Nat) (x0 x2 x8 : Value) (h : AH) (kn : (Value → Value → Value → AH → Option β)) : Option β :=
    brV x8
    (bnd (pBin Tryz.prog .shr 60 (.tmp 9) (.const (.int .u64 16)) x0 (.int .u64 16)) fun x10 =>
    bnd (pBin Tryz.prog .add 3 (.tmp 11) (.const (.int .i64 16)) x2 (.int .i64 16)) fun x12 =>
    kn x10 x12 unk h)
    (kn x0 x2 x8 h)
theorem F134_rlrr_eq  : kCode env 134 false inv k (cp c134 29) (act 25 [(0, x0), (2, x2), (8, x8)]) h K = F134_rlrr inv k x0 x2 x8 h (fun y0 y2 y8 h => K .normal (act 25 [(0, y0), (2, y2), (8, y8)]) h) := by
      unfold F134_rlrr
      simp only [b134_rlrr, kq_seq c134 58, r134_5, r134_6, kq_skip c134 59, reduceIte, reduceCtorEq, XE.exit.injEq, Nat.reduceEqDiff, Nat.reduceMul, Nat.reduceAdd] <;> kernel_rfl
theorem r134_7  : kCode env 134 false inv k (cp c134 60) (act 25 [(0, x0), (2, x2), (8, x8)]) h K =
    bnd (pBin Tryz.prog .geq 60 (.tmp 13) (.const (.int .u64 256)) x0 (.int .u64 256)) fun x14 =>
    K .normal (act 25 [(0, x0), (2, x2), (14, x14)]) h := kq_reg
theorem b134_rlrrr  : kCode env 134 false inv k (cp c134 61) (act 25 [(0, x0), (2, x2), (14, x14)]) h K = brV x14 (kCode env 134 false inv k (cp c134 122) (act 25 [(0, x0), (2, x2), (14, x14)]) h K) (kCode env 134 false inv k (cp c134 123) (act 25 [(0, x0), (2, x2), (14, x14)]) h K) := kq_cond
theorem r134_8  : kCode env 134 false inv k (cp c134 244) (act 25 [(0, x0), (2, x2), (14, x14)]) h K =
    bnd (pBin Tryz.prog .shr 60 (.tmp 15) (.const (.int .u64 8)) x0 (.int .u64 8)) fun x16 =>
    K .normal (act 25 [(0, x16), (2, x2)]) h := kq_reg
theorem r134_9  : kCode env 134 false inv k (cp c134 245) (act 25 [(0, x0), (2, x2)]) h K =
    bnd (pBin Tryz.prog .add 3 (.tmp 17) (.const (.int .i64 8)) x2 (.int .i64 8)) fun x18 =>
    K .normal (act 25 [(0, x0), (2, x18)]) h := kq_reg
noncomputable def F134_rlrrr {β : Type} (inv : Inv) (k : Nat) (x0 x2 x14 : Value) (h : AH) (kn : (Value → Value → Value → AH → Option β)) : Option β :=
    brV x14
    (bnd (pBin Tryz.prog .shr 60 (.tmp 15) (.const (.int .u64 8)) x0 (.int .u64 8)) fun x16 =>
    bnd (pBin Tryz.prog .add 3 (.tmp 17) (.const (.int .i64 8)) x2 (.int .i64 8)) fun x18 =>
    kn x16 x18 unk h)
    (kn x0 x2 x14 h)
theorem F134_rlrrr_eq  : kCode env 134 false inv k (cp c134 61) (act 25 [(0, x0), (2, x2), (14, x14)]) h K = F134_rlrrr inv k x0 x2 x14 h (fun y0 y2 y14 h => K .normal (act 25 [(0, y0), (2, y2), (14, y14)]) h) := by
      unfold F134_rlrrr
      simp only [b134_rlrrr, kq_seq c134 122, r134_8, r134_9, kq_skip c134 123, reduceIte, reduceCtorEq, XE.exit.injEq, Nat.reduceEqDiff, Nat.reduceMul, Nat.reduceAdd] <;> kernel_rfl
noncomputable abbrev G134_10 {β : Type} (inv : Inv) (x0 x2 : Value) (h : AH) (K : Value → AH → Option β) : Option β :=
    bnd (pConv Tryz.prog 60 5 x0 h) fun x21 =>
    bnd (pIndex Tryz.prog 9 (.string { data := #[0, 1, 2, 2, 3, 3, 3, 3, 4, 4, 4, 4, 4, 4, 4, 4, 5, 5, 5, 5, 5, 5, 5, 5, 5, 5, 5, 5, 5, 5, 5, 5, 6, 6, 6, 6, 6, 6, 6, 6, 6, 6, 6, 6, 6, 6, 6, 6, 6, 6, 6, 6, 6, 6, 6, 6, 6, 6, 6, 6, 6, 6, 6, 6, 7, 7, 7, 7, 7, 7, 7, 7, 7, 7, 7, 7, 7, 7, 7, 7, 7, 7, 7, 7, 7, 7, 7, 7, 7, 7, 7, 7, 7, 7, 7, 7, 7, 7, 7, 7, 7, 7, 7, 7, 7, 7, 7, 7, 7, 7, 7, 7, 7, 7, 7, 7, 7, 7, 7, 7, 7, 7, 7, 7, 7, 7, 7, 7, 8, 8, 8, 8, 8, 8, 8, 8, 8, 8, 8, 8, 8, 8, 8, 8, 8, 8, 8, 8, 8, 8, 8, 8, 8, 8, 8, 8, 8, 8, 8, 8, 8, 8, 8, 8, 8, 8, 8, 8, 8, 8, 8, 8, 8, 8, 8, 8, 8, 8, 8, 8, 8, 8, 8, 8, 8, 8, 8, 8, 8, 8, 8, 8, 8, 8, 8, 8, 8, 8, 8, 8, 8, 8, 8, 8, 8, 8, 8, 8, 8, 8, 8, 8, 8, 8, 8, 8, 8, 8, 8, 8, 8, 8, 8, 8, 8, 8, 8, 8, 8, 8, 8, 8, 8, 8, 8, 8, 8, 8, 8, 8, 8, 8, 8, 8, 8, 8, 8, 8, 8, 8, 8, 8, 8, 8, 8, 8] }) x21) fun x22 =>
    bnd (pConv Tryz.prog 5 3 x22 h) fun x23 =>
    bnd (pBin Tryz.prog .add 3 (.tmp 19) (.tmp 23) x2 x23) fun x24 =>
    K (x24) h
theorem r134_10  : kCode env 134 false inv k (cp c134 62) (act 25 [(0, x0), (2, x2), (14, x14)]) h K =
    G134_10 inv x0 x2 h fun y2 h => K .normal (act 25 [(2, y2)]) h := kq_reg
theorem res134_0 : resOfFn env.P 134 .ret (act 25 [(2, x2)]) h = some (x2, h) := kq_res
/-- math/bits.Len64 -/
noncomputable def F134 (inv : Inv) (k : Nat) (x0 : Value) (h : AH) : Option (Value × AH) :=
    bnd (pBin Tryz.prog .geq 60 (.tmp 3) (.const (.int .u64 4294967296)) x0 (.int .u64 4294967296)) fun x4 =>
    F134_rlr inv k x0 (.int .i64 0) x4 h
    (fun y0 y2 y4 h =>
    bnd (pBin Tryz.prog .geq 60 (.tmp 7) (.const (.int .u64 65536)) y0 (.int .u64 65536)) fun x8 =>
    F134_rlrr inv k y0 y2 x8 h
    (fun y0_1 y2_2 y8 h_3 =>
    bnd (pBin Tryz.prog .geq 60 (.tmp 13) (.const (.int .u64 256)) y0_1 (.int .u64 256)) fun x14 =>
    F134_rlrrr inv k y0_1 y2_2 x14 h_3
    (fun y0_4 y2_5 y14 h_6 =>
    G134_10 inv y0_4 y2_5 h_6 fun y2_7 h_8 =>
    some (y2_7, h_8))))
theorem F134_eq : eFun env k inv 134 #[x0] h = F134 inv k x0 h := by
      refine (kq_fun (a := act 25 [(0, x0)]) (c := cp c134 1)).trans ?_
      unfold F134
      simp only [kq_seq c134 1, r134_0, kq_seq c134 3, kq_seq c134 6, r134_1, F134_rlr_eq, kq_seq c134 7, kq_seq c134 14, r134_4, F134_rlrr_eq, kq_seq c134 15, kq_seq c134 30, r134_7, F134_rlrrr_eq, kq_seq c134 31, r134_10, kq_ret c134 63, res134_0, reduceIte, reduceCtorEq, XE.exit.injEq, Nat.reduceEqDiff, Nat.reduceMul, Nat.reduceAdd] <;> kernel_rfl
theorem F134_call : eInv env (k + 1) (.func 134) #[] #[x0] h = F134 (eInv env k) k x0 h := kq_inv F134_eq
noncomputable def c135 : Code := codeOf Tryz.prog 135
theorem r135_0  : kCode env 135 false inv k (cp c135 2) (act 18 [(0, x0)]) h K =
    K .normal (act 18 [(0, x0)]) h := kq_reg
theorem r135_1  : kCode env 135 false inv k (cp c135 6) (act 18 [(0, x0)]) h K =
    K .normal (act 18 [(0, x0), (3, (.int .i64 0))]) h := kq_reg
theorem r135_2  : kCode env 135 false inv k (cp c135 28) (act 18 [(0, x0), (3, x3)]) h K =
    bnd (pLen Tryz.prog #[72] x0 h) fun x7 =>
    K .normal (act 18 [(3, x3), (6, x0), (7, x7), (8, (.int .i64 0))]) h := kq_reg
theorem r135_3  : kCode env 135 false inv k (cp c135 232) (act 18 [(3, x3), (6, x6), (7, x7), (8, x8)]) h K =
    bnd (pBin Tryz.prog .lss 3 (.tmp 8) (.tmp 7) x8 x7) fun x9 =>
    K .normal (act 18 [(3, x3), (6, x6), (7, x7), (8, x8), (9, x9)]) h := kq_reg
theorem b135_lrllrlrr  : kCode env 135 false inv k (cp c135 466) (act 18 [(3, x3), (6, x6), (7, x7), (8, x8), (9, x9)]) h K = brV x9 (kCode env 135 false inv k (cp c135 932) (act 18 [(3, x3), (6, x6), (7, x7), (8, x8), (9, x9)]) h K) (kCode env 135 false inv k (cp c135 933) (act 18 [(3, x3), (6, x6), (7, x7), (8, x8), (9, x9)]) h K) := kq_cond
theorem r135_4  : kCode env 135 false inv k (cp c135 3736) (act 18 [(3, x3), (6, x6), (7, x7), (8, x8), (9, x9)]) h K =
    bnd (pIndexAddr Tryz.prog 72 x6 x8) fun x10 =>
    bnd (pLoad Tryz.prog 3 x10 h) fun x11 =>
    K .normal (act 18 [(3, x3), (5, x11), (6, x6), (7, x7), (8, x8)]) h := kq_reg
theorem r135_5  : kCode env 135 false inv k (cp c135 7474) (act 18 [(3, x3), (5, x5), (6, x6), (7, x7), (8, x8)]) h K =
    bnd (pBin Tryz.prog .neq 3 (.tmp 12) (.tmp 13) x5 x3) fun x14 =>
    K .normal (act 18 [(3, x3), (5, x5), (6, x6), (7, x7), (8, x8), (14, x14)]) h := kq_reg
theorem b135_rrllrrllrlrr  : kCode env 135 false inv k (cp c135 7475) (act 18 [(3, x3), (5, x5), (6, x6), (7, x7), (8, x8), (14, x14)]) h K = brV x14 (kCode env 135 false inv k (cp c135 14950) (act 18 [(3, x3), (5, x5), (6, x6), (7, x7), (8, x8), (14, x14)]) h K) (kCode env 135 false inv k (cp c135 14951) (act 18 [(3, x3), (5, x5), (6, x6), (7, x7), (8, x8), (14, x14)]) h K) := kq_cond
theorem r135_6  : kCode env 135 false inv k (cp c135 29900) (act 18 [(3, x3), (5, x5), (6, x6), (7, x7), (8, x8), (14, x14)]) h K =
    K .normal (act 18 [(2, x5)]) h := kq_reg
theorem r135_7  : kCode env 135 false inv k (cp c135 935) (act 18 [(3, x3), (5, x5), (6, x6), (7, x7), (8, x8), (14, x14)]) h K =
    bnd (pBin Tryz.prog .add 3 (.tmp 8) (.const (.int .i64 1)) x8 (.int .i64 1)) fun x16 =>
    K .normal (act 18 [(3, x3), (6, x6), (7, x7), (8, x16)]) h := kq_reg
noncomputable def F135_lrlrr {β : Type} (inv : Inv) (k : Nat) : Nat → Value → Value → Value → Value → AH → (Value → Value → Value → Value → Value → AH → Option β) → (Value → AH → Option β) → Option β
  | 0, _, _, _, _, _, _, _ => none
  | j + 1, x3, x6, x7, x8, h, ke0, kr =>
    bnd (pBin Tryz.prog .lss 3 (.tmp 8) (.tmp 7) x8 x7) fun x9 =>
    brV x9
    (bnd (pIndexAddr Tryz.prog 72 x6 x8) fun x10 =>
    bnd (pLoad Tryz.prog 3 x10 h) fun x11 =>
    bnd (pBin Tryz.prog .neq 3 (.tmp 12) (.tmp 13) x11 x3) fun x14 =>
    brV x14
    (kr x11 h)
    (bnd (pBin Tryz.prog .add 3 (.tmp 8) (.const (.int .i64 1)) x8 (.int .i64 1)) fun x16 =>
    F135_lrlrr inv k j x3 x6 x7 x16 h ke0 kr))
    (ke0 x3 x6 x7 x8 x9 h)
theorem F135_lrlrr_j (j : Nat) : kLoop (kCode env 135 false inv k (cp c135 116)) j (act 18 [(3, x3), (6, x6), (7, x7), (8, x8)]) h K = F135_lrlrr inv k j x3 x6 x7 x8 h (fun y3 y6 y7 y8 y9 h => K (.exit 0) (act 18 [(3, y3), (6, y6), (7, y7), (8, y8), (9, y9)]) h) (fun y2 h => K .ret (act 18 [(2, y2)]) h) := by
      induction j generalizing x3 x6 x7 x8 h with
      | zero => rfl
      | succ j ih =>
        unfold F135_lrlrr
        simp only [kLoop, kq_seq c135 116, r135_3, kq_seq c135 233, b135_lrllrlrr, kq_skip c135 932, kq_seq c135 467, kq_block c135 934 1, kq_seq c135 1868, r135_4, kq_seq c135 3737, r135_5, b135_rrllrrllrlrr, kq_seq c135 14950, r135_6, kq_ret c135 29901, kq_skip c135 14951, r135_7, kq_exit c135 933 0, ih, reduceIte, reduceCtorEq, XE.exit.injEq, Nat.reduceEqDiff, Nat.reduceMul, Nat.reduceAdd] <;> kernel_rfl
theorem F135_lrlrr_eq  : kCode env 135 false inv k (cp c135 58) (act 18 [(3, x3), (6, x6), (7, x7), (8, x8)]) h K = F135_lrlrr inv k k x3 x6 x7 x8 h (fun y3 y6 y7 y8 y9 h => K (.exit 0) (act 18 [(3, y3), (6, y6), (7, y7), (8, y8), (9, y9)]) h) (fun y2 h => K .ret (act 18 [(2, y2)]) h) := kq_loop (F135_lrlrr_j k)
theorem r135_8  : kCode env 135 false inv k (cp c135 30) (act 18 [(3, x3), (6, x6), (7, x7), (8, x8), (9, x9)]) h K =
    K .normal (act 18 [(2, x3)]) h := kq_reg
theorem res135_0 : resOfFn env.P 135 .ret (act 18 [(2, x2)]) h = some (x2, h) := kq_res
/-- cmp.Or[int] -/
noncomputable def F135 (inv : Inv) (k : Nat) (x0 : Value) (h : AH) : Option (Value × AH) :=
    bnd (pLen Tryz.prog #[72] x0 h) fun x7 =>
    F135_lrlrr inv k k (.int .i64 0) x0 x7 (.int .i64 0) h
    (fun y3 y6 y7 y8 y9 h =>
    some (y3, h))
    (fun y2 h_1 =>
    some (y2, h_1))
theorem F135_eq : eFun env k inv 135 #[x0] h = F135 inv k x0 h := by
      refine (kq_fun (a := act 18 [(0, x0)]) (c := cp c135 1)).trans ?_
      unfold F135
      simp only [kq_seq c135 1, r135_0, kq_seq c135 3, r135_1, kq_seq c135 7, kq_seq c135 14, r135_2, kq_block c135 29 0, F135_lrlrr_eq, kq_seq c135 15, r135_8, kq_ret c135 31, res135_0, reduceIte, reduceCtorEq, XE.exit.injEq, Nat.reduceEqDiff, Nat.reduceMul, Nat.reduceAdd] <;> kernel_rfl
theorem F135_call : eInv env (k + 1) (.func 135) #[] #[x0] h = F135 (eInv env k) k x0 h := kq_inv F135_eq
noncomputable def c136 : Code := codeOf Tryz.prog 136
theorem r136_0  : kCode env 136 false inv k (cp c136 2) (act 20 [(0, x0), (1, x1)]) h K =
    K .normal (act 20 [(0, x0), (1, x1)]) h := kq_reg
theorem r136_1  : kCode env 136 false inv k (cp c136 6) (act 20 [(0, x0), (1, x1)]) h K =
    bnd (inv (.func 159) #[] #[x0] h) fun x8 =>
    K .normal (act 20 [(0, x0), (1, x1), (5, x8.1)]) x8.2 := kq_reg
theorem r136_2  : kCode env 136 false inv k (cp c136 14) (act 20 [(0, x0), (1, x1), (5, x5)]) h K =
    bnd (inv (.func 159) #[] #[x1] h) fun x10 =>
    K .normal (act 20 [(0, x0), (1, x1), (5, x5), (6, x10.1)]) x10.2 := kq_reg
theorem r136_3  : kCode env 136 false inv k (cp c136 60) (act 20 [(0, x0), (1, x1), (5, x5), (6, x6)]) h K =
    K .normal (act 20 [(0, x0), (1, x1), (6, x6), (11, x5)]) h := kq_reg
theorem b136_rlrrr  : kCode env 136 false inv k (cp c136 61) (act 20 [(0, x0), (1, x1), (6, x6), (11, x11)]) h K = brV x11 (kCode env 136 false inv k (cp c136 122) (act 20 [(0, x0), (1, x1), (6, x6), (11, x11)]) h K) (kCode env 136 false inv k (cp c136 123) (act 20 [(0, x0), (1, x1), (6, x6), (11, x11)]) h K) := kq_cond
theorem r136_4  : kCode env 136 false inv k (cp c136 488) (act 20 [(0, x0), (1, x1), (6, x6), (11, x11)]) h K =
    K .normal (act 20 [(12, x6)]) h := kq_reg
theorem b136_rllrlrrr  : kCode env 136 false inv k (cp c136 489) (act 20 [(12, x12)]) h K = brV x12 (kCode env 136 false inv k (cp c136 978) (act 20 [(12, x12)]) h K) (kCode env 136 false inv k (cp c136 979) (act 20 [(12, x12)]) h K) := kq_cond
theorem r136_5  : kCode env 136 false inv k (cp c136 1956) (act 20 [(12, x12)]) h K =
    K .normal (act 20 [(4, (.int .i64 0))]) h := kq_reg
theorem res136_0 : resOfFn env.P 136 .ret (act 20 [(4, x4)]) h = some (x4, h) := kq_res
theorem r136_6  : kCode env 136 false inv k (cp c136 490) (act 20 [(12, x12)]) h K =
    K .normal (act 20 [(4, (.int .i64 (-1)))]) h := kq_reg
theorem r136_7  : kCode env 136 false inv k (cp c136 124) (act 20 [(0, x0), (1, x1), (6, x6), (11, x11)]) h K =
    K .normal (act 20 [(0, x0), (1, x1), (13, x6)]) h := kq_reg
theorem b136_rlrrrr  : kCode env 136 false inv k (cp c136 125) (act 20 [(0, x0), (1, x1), (13, x13)]) h K = brV x13 (kCode env 136 false inv k (cp c136 250) (act 20 [(0, x0), (1, x1), (13, x13)]) h K) (kCode env 136 false inv k (cp c136 251) (act 20 [(0, x0), (1, x1), (13, x13)]) h K) := kq_cond
theorem r136_8  : kCode env 136 false inv k (cp c136 500) (act 20 [(0, x0), (1, x1), (13, x13)]) h K =
    K .normal (act 20 [(4, (.int .i64 1))]) h := kq_reg
theorem r136_9  : kCode env 136 false inv k (cp c136 252) (act 20 [(0, x0), (1, x1), (13, x13)]) h K =
    bnd (pBin Tryz.prog .lss 2 (.tmp 14) (.tmp 15) x0 x1) fun x16 =>
    K .normal (act 20 [(0, x0), (1, x1), (16, x16)]) h := kq_reg
theorem b136_rlrrrrr  : kCode env 136 false inv k (cp c136 253) (act 20 [(0, x0), (1, x1), (16, x16)]) h K = brV x16 (kCode env 136 false inv k (cp c136 506) (act 20 [(0, x0), (1, x1), (16, x16)]) h K) (kCode env 136 false inv k (cp c136 507) (act 20 [(0, x0), (1, x1), (16, x16)]) h K) := kq_cond
theorem r136_10  : kCode env 136 false inv k (cp c136 1012) (act 20 [(0, x0), (1, x1), (16, x16)]) h K =
    K .normal (act 20 [(4, (.int .i64 (-1)))]) h := kq_reg
theorem r136_11  : kCode env 136 false inv k (cp c136 508) (act 20 [(0, x0), (1, x1), (16, x16)]) h K =
    bnd (pBin Tryz.prog .gtr 2 (.tmp 17) (.tmp 18) x0 x1) fun x19 =>
    K .normal (act 20 [(19, x19)]) h := kq_reg
theorem b136_rlrrrrrr  : kCode env 136 false inv k (cp c136 509) (act 20 [(19, x19)]) h K = brV x19 (kCode env 136 false inv k (cp c136 1018) (act 20 [(19, x19)]) h K) (kCode env 136 false inv k (cp c136 1019) (act 20 [(19, x19)]) h K) := kq_cond
theorem r136_12  : kCode env 136 false inv k (cp c136 2036) (act 20 [(19, x19)]) h K =
    K .normal (act 20 [(4, (.int .i64 1))]) h := kq_reg
theorem r136_13  : kCode env 136 false inv k (cp c136 510) (act 20 [(19, x19)]) h K =
    K .normal (act 20 [(4, (.int .i64 0))]) h := kq_reg
/-- cmp.Compare[int64] -/
noncomputable def F136 (inv : Inv) (k : Nat) (x0 x1 : Value) (h : AH) : Option (Value × AH) :=
    bnd (inv (.func 159) #[] #[x0] h) fun x8 =>
    bnd (inv (.func 159) #[] #[x1] x8.2) fun x10 =>
    brV x8.1
    (brV x10.1
    (some ((.int .i64 0), x10.2))
    (some ((.int .i64 (-1)), x10.2)))
    (brV x10.1
    (some ((.int .i64 1), x10.2))
    (bnd (pBin Tryz.prog .lss 2 (.tmp 14) (.tmp 15) x0 x1) fun x16 =>
    brV x16
    (some ((.int .i64 (-1)), x10.2))
    (bnd (pBin Tryz.prog .gtr 2 (.tmp 17) (.tmp 18) x0 x1) fun x19 =>
    brV x19
    (some ((.int .i64 1), x10.2))
    (some ((.int .i64 0), x10.2)))))
theorem F136_eq : eFun env k inv 136 #[x0, x1] h = F136 inv k x0 x1 h := by
      refine (kq_fun (a := act 20 [(0, x0), (1, x1)]) (c := cp c136 1)).trans ?_
      unfold F136
      simp only [kq_seq c136 1, r136_0, kq_seq c136 3, r136_1, kq_seq c136 7, r136_2, kq_seq c136 15, kq_seq c136 30, r136_3, b136_rlrrr, kq_seq c136 122, kq_seq c136 244, r136_4, b136_rllrlrrr, kq_seq c136 978, r136_5, kq_ret c136 1957, res136_0, kq_skip c136 979, kq_seq c136 245, r136_6, kq_ret c136 491, kq_skip c136 123, kq_seq c136 31, kq_seq c136 62, r136_7, b136_rlrrrr, kq_seq c136 250, r136_8, kq_ret c136 501, kq_skip c136 251, kq_seq c136 63, kq_seq c136 126, r136_9, b136_rlrrrrr, kq_seq c136 506, r136_10, kq_ret c136 1013, kq_skip c136 507, kq_seq c136 127, kq_seq c136 254, r136_11, b136_rlrrrrrr, kq_seq c136 1018, r136_12, kq_ret c136 2037, kq_skip c136 1019, kq_seq c136 255, r136_13, kq_ret c136 511, reduceIte, reduceCtorEq, XE.exit.injEq, Nat.reduceEqDiff, Nat.reduceMul, Nat.reduceAdd] <;> kernel_rfl
theorem F136_call : eInv env (k + 1) (.func 136) #[] #[x0, x1] h = F136 (eInv env k) k x0 x1 h := kq_inv F136_eq
noncomputable def c137 : Code := codeOf Tryz.prog 137
theorem r137_0  : kCode env 137 false inv k (cp c137 2) (act 8 [(0, x0), (1, x1)]) h K =
    K .normal (act 8 [(0, x0), (1, x1)]) h := kq_reg
theorem r137_1  : kCode env 137 false inv k (cp c137 6) (act 8 [(0, x0), (1, x1)]) h K =
    bnd (inv (.func 160) #[] #[x0, x1] h) fun x7 =>
    K .normal (act 8 [(4, x7.1)]) x7.2 := kq_reg
theorem res137_0 : resOfFn env.P 137 .ret (act 8 [(4, x4)]) h = some (x4, h) := kq_res
/-- strings.Compare -/
noncomputable def F137 (inv : Inv) (k : Nat) (x0 x1 : Value) (h : AH) : Option (Value × AH) :=
    bnd (inv (.func 160) #[] #[x0, x1] h) fun x7 =>
    some (x7.1, x7.2)
theorem F137_eq : eFun env k inv 137 #[x0, x1] h = F137 inv k x0 x1 h := by
      refine (kq_fun (a := act 8 [(0, x0), (1, x1)]) (c := cp c137 1)).trans ?_
      unfold F137
      simp only [kq_seq c137 1, r137_0, kq_seq c137 3, r137_1, kq_ret c137 7, res137_0, reduceIte, reduceCtorEq, XE.exit.injEq, Nat.reduceEqDiff, Nat.reduceMul, Nat.reduceAdd] <;> kernel_rfl
theorem F137_call : eInv env (k + 1) (.func 137) #[] #[x0, x1] h = F137 (eInv env k) k x0 x1 h := kq_inv F137_eq
noncomputable def c138 : Code := codeOf Tryz.prog 138
theorem r138_0  : kCode env 138 false inv k (cp c138 2) (act 30 [(0, x0), (1, x1)]) h K =
    K .normal (act 30 [(0, x0), (1, x1)]) h := kq_reg
theorem b138_lr  : kCode env 138 false inv k (cp c138 6) (act 30 [(0, x0), (1, x1)]) h K = brV (.bool false) (kCode env 138 false inv k (cp c138 12) (act 30 [(0, x0), (1, x1)]) h K) (kCode env 138 false inv k (cp c138 13) (act 30 [(0, x0), (1, x1)]) h K) := kq_cond
theorem r138_1  : kCode env 138 false inv k (cp c138 24) (act 30 [(0, x0), (1, x1)]) h K =
    bnd (pConv Tryz.prog 109 188 x0 h) fun x12 =>
    bnd (pConv Tryz.prog 109 188 x1 h) fun x14 =>
    bnd (inv (.func 161) #[] #[x12, x14] h) fun x15 =>
    bnd (pExtract x15.1 0) fun x16 =>
    bnd (pExtract x15.1 1) fun x17 =>
    K .normal (act 30 [(6, x16), (7, x17)]) x15.2 := kq_reg
theorem r138_2  : kCode env 138 false inv k (cp c138 50) (act 30 [(6, x6), (7, x7)]) h K =
    bnd (pConv Tryz.prog 188 109 x6 h) fun x19 =>
    bnd (pConv Tryz.prog 188 109 x7 h) fun x21 =>
    K .normal (act 30 [(4, x19), (5, x21)]) h := kq_reg
theorem res138_0 : resOfFn env.P 138 .ret (act 30 [(4, x4), (5, x5)]) h = some (.tuple #[x4, x5], h) := kq_res
theorem r138_3  : kCode env 138 false inv k (cp c138 14) (act 30 [(0, x0), (1, x1)]) h K =
    bnd (inv (.func 162) #[] #[x0, x1] h) fun x25 =>
    bnd (pExtract x25.1 0) fun x26 =>
    bnd (pExtract x25.1 1) fun x27 =>
    K .normal (act 30 [(8, x26), (9, x27)]) x25.2 := kq_reg
theorem r138_4  : kCode env 138 false inv k (cp c138 30) (act 30 [(8, x8), (9, x9)]) h K =
    K .normal (act 30 [(4, x8), (5, x9)]) h := kq_reg
/-- math/bits.Mul -/
noncomputable def F138 (inv : Inv) (k : Nat) (x0 x1 : Value) (h : AH) : Option (Value × AH) :=
    brV (.bool false)
    (bnd (pConv Tryz.prog 109 188 x0 h) fun x12 =>
    bnd (pConv Tryz.prog 109 188 x1 h) fun x14 =>
    bnd (inv (.func 161) #[] #[x12, x14] h) fun x15 =>
    bnd (pExtract x15.1 0) fun x16 =>
    bnd (pExtract x15.1 1) fun x17 =>
    bnd (pConv Tryz.prog 188 109 x16 x15.2) fun x19 =>
    bnd (pConv Tryz.prog 188 109 x17 x15.2) fun x21 =>
    some (.tuple #[x19, x21], x15.2))
    (bnd (inv (.func 162) #[] #[x0, x1] h) fun x25 =>
    bnd (pExtract x25.1 0) fun x26 =>
    bnd (pExtract x25.1 1) fun x27 =>
    some (.tuple #[x26, x27], x25.2))
theorem F138_eq : eFun env k inv 138 #[x0, x1] h = F138 inv k x0 x1 h := by
      refine (kq_fun (a := act 30 [(0, x0), (1, x1)]) (c := cp c138 1)).trans ?_
      unfold F138
      simp only [kq_seq c138 1, r138_0, kq_seq c138 3, b138_lr, kq_seq c138 12, r138_1, kq_seq c138 25, r138_2, kq_ret c138 51, res138_0, kq_skip c138 13, kq_seq c138 7, r138_3, kq_seq c138 15, r138_4, kq_ret c138 31, reduceIte, reduceCtorEq, XE.exit.injEq, Nat.reduceEqDiff, Nat.reduceMul, Nat.reduceAdd] <;> kernel_rfl
theorem F138_call : eInv env (k + 1) (.func 138) #[] #[x0, x1] h = F138 (eInv env k) k x0 x1 h := kq_inv F138_eq
noncomputable def c143 : Code := codeOf Tryz.prog 143
theorem r143_0  : kCode env 143 false inv k (cp c143 2) (act 4 [(0, x0)]) h K =
    bnd (pBox Tryz.prog 33 x0 h) fun x1 =>
    K .normal (act 4 [(1, x1.1)]) x1.2 := kq_reg
theorem r143_1  : kCode env 143 false inv k (cp c143 6) (act 4 [(1, x1)]) h K =
    bnd (pMakeFunc (.func 163) #[] #[x1]) fun x3 =>
    K .normal (act 4 [(2, x3)]) h := kq_reg
theorem res143_0 : resOfFn env.P 143 .ret (act 4 [(2, x2)]) h = some (x2, h) := kq_res
/-- slices.Backward[[]byte,byte] -/
noncomputable def F143 (inv : Inv) (k : Nat) (x0 : Value) (h : AH) : Option (Value × AH) :=
    bnd (pBox Tryz.prog 33 x0 h) fun x1 =>
    bnd (pMakeFunc (.func 163) #[] #[x1.1]) fun x3 =>
    some (x3, x1.2)
theorem F143_eq : eFun env k inv 143 #[x0] h = F143 inv k x0 h := by
      refine (kq_fun (a := act 4 [(0, x0)]) (c := cp c143 1)).trans ?_
      unfold F143
      simp only [kq_seq c143 1, r143_0, kq_seq c143 3, r143_1, kq_ret c143 7, res143_0, reduceIte, reduceCtorEq, XE.exit.injEq, Nat.reduceEqDiff, Nat.reduceMul, Nat.reduceAdd] <;> kernel_rfl
theorem F143_call : eInv env (k + 1) (.func 143) #[] #[x0] h = F143 (eInv env k) k x0 h := kq_inv F143_eq
noncomputable def c144 : Code := codeOf Tryz.prog 144
theorem r144_0  : kCode env 144 false inv k (cp c144 2) (act 25 [(0, x0)]) h K =
    K .normal (act 25 [(0, x0)]) h := kq_reg
theorem r144_1  : kCode env 144 false inv k (cp c144 12) (act 25 [(0, x0)]) h K =
    bnd (pLen Tryz.prog #[121] x0 h) fun x8 =>
    bnd (pBin Tryz.prog .gtr 3 (.tmp 8) (.const (.int .i64 4096)) x8 (.int .i64 4096)) fun x9 =>
    K .normal (act 25 [(0, x0), (9, x9)]) h := kq_reg
theorem b144_rlr  : kCode env 144 false inv k (cp c144 13) (act 25 [(0, x0), (9, x9)]) h K = brV x9 (kCode env 144 false inv k (cp c144 26) (act 25 [(0, x0), (9, x9)]) h K) (kCode env 144 false inv k (cp c144 27) (act 25 [(0, x0), (9, x9)]) h K) := kq_cond
theorem r144_2  : kCode env 144 false inv k (cp c144 52) (act 25 [(0, x0), (9, x9)]) h K =
    K .normal (act 25 [(2, (.slice none 0 0)), (3, (.int .i64 3))]) h := kq_reg
theorem res144_0 : resOfFn env.P 144 .ret (act 25 [(2, x2), (3, x3)]) h = some (.tuple #[x2, x3], h) := kq_res
theorem r144_3  : kCode env 144 false inv k (cp c144 14) (act 25 [(0, x0), (9, x9)]) h K =
    bnd (pLen Tryz.prog #[121] x0 h) fun x11 =>
    bnd (inv (.func 164) #[] #[(.int .u8 1), x11] h) fun x12 =>
    K .normal (act 25 [(0, x0), (4, x12.1)]) x12.2 := kq_reg
theorem r144_4  : kCode env 144 false inv k (cp c144 60) (act 25 [(0, x0), (4, x4)]) h K =
    bnd (pLen Tryz.prog #[121] x0 h) fun x14 =>
    K .normal (act 25 [(4, x4), (13, x0), (14, x14), (15, (.int .i64 0))]) h := kq_reg
theorem r144_5  : kCode env 144 false inv k (cp c144 488) (act 25 [(4, x4), (13, x13), (14, x14), (15, x15)]) h K =
    bnd (pBin Tryz.prog .lss 3 (.tmp 15) (.tmp 14) x15 x14) fun x16 =>
    K .normal (act 25 [(4, x4), (13, x13), (14, x14), (15, x15), (16, x16)]) h := kq_reg
theorem b144_lrllrlrrr  : kCode env 144 false inv k (cp c144 978) (act 25 [(4, x4), (13, x13), (14, x14), (15, x15), (16, x16)]) h K = brV x16 (kCode env 144 false inv k (cp c144 1956) (act 25 [(4, x4), (13, x13), (14, x14), (15, x15), (16, x16)]) h K) (kCode env 144 false inv k (cp c144 1957) (act 25 [(4, x4), (13, x13), (14, x14), (15, x15), (16, x16)]) h K) := kq_cond
theorem r144_6  : kCode env 144 false inv k (cp c144 7832) (act 25 [(4, x4), (13, x13), (14, x14), (15, x15), (16, x16)]) h K =
    bnd (pIndexAddr Tryz.prog 121 x13 x15) fun x17 =>
    bnd (pLoad Tryz.prog 2 x17 h) fun x18 =>
    K .normal (act 25 [(4, x4), (6, x18), (13, x13), (14, x14), (15, x15)]) h := kq_reg
theorem r144_7  : kCode env 144 false inv k (cp c144 7833) (act 25 [(4, x4), (6, x6), (13, x13), (14, x14), (15, x15)]) h K =
    bnd (pConv Tryz.prog 2 60 x6 h) fun x21 =>
    bnd (inv (.func 75) #[] #[x4, x21, (.int .i64 8)] h) fun x22 =>
    K .normal (act 25 [(4, x22.1), (13, x13), (14, x14), (15, x15)]) x22.2 := kq_reg
theorem r144_8  : kCode env 144 false inv k (cp c144 1959) (act 25 [(4, x4), (13, x13), (14, x14), (15, x15)]) h K =
    bnd (pBin Tryz.prog .add 3 (.tmp 15) (.const (.int .i64 1)) x15 (.int .i64 1)) fun x23 =>
    K .normal (act 25 [(4, x4), (13, x13), (14, x14), (15, x23)]) h := kq_reg
noncomputable def F144_lrlrrr {β : Type} (inv : Inv) (k : Nat) : Nat → Value → Value → Value → Value → AH → (Value → Value → Value → Value → Value → AH → Option β) → Option β
  | 0, _, _, _, _, _, _ => none
  | j + 1, x4, x13, x14, x15, h, ke0 =>
    bnd (pBin Tryz.prog .lss 3 (.tmp 15) (.tmp 14) x15 x14) fun x16 =>
    brV x16
    (bnd (pIndexAddr Tryz.prog 121 x13 x15) fun x17 =>
    bnd (pLoad Tryz.prog 2 x17 h) fun x18 =>
    bnd (pConv Tryz.prog 2 60 x18 h) fun x21 =>
    bnd (inv (.func 75) #[] #[x4, x21, (.int .i64 8)] h) fun x22 =>
    bnd (pBin Tryz.prog .add 3 (.tmp 15) (.const (.int .i64 1)) x15 (.int .i64 1)) fun x23 =>
    F144_lrlrrr inv k j x22.1 x13 x14 x23 x22.2 ke0)
    (ke0 x4 x13 x14 x15 x16 h)
theorem F144_lrlrrr_j (j : Nat) : kLoop (kCode env 144 false inv k (cp c144 244)) j (act 25 [(4, x4), (13, x13), (14, x14), (15, x15)]) h K = F144_lrlrrr inv k j x4 x13 x14 x15 h (fun y4 y13 y14 y15 y16 h => K (.exit 0) (act 25 [(4, y4), (13, y13), (14, y14), (15, y15), (16, y16)]) h) := by
      induction j generalizing x4 x13 x14 x15 h with
      | zero => rfl
      | succ j ih =>
        unfold F144_lrlrrr
        simp only [kLoop, kq_seq c144 244, r144_5, kq_seq c144 489, b144_lrllrlrrr, kq_skip c144 1956, kq_seq c144 979, kq_block c144 1958 1, kq_seq c144 3916, r144_6, r144_7, r144_8, kq_exit c144 1957 0, ih, reduceIte, reduceCtorEq, XE.exit.injEq, Nat.reduceEqDiff, Nat.reduceMul, Nat.reduceAdd] <;> kernel_rfl
theorem F144_lrlrrr_eq  : kCode env 144 false inv k (cp c144 122) (act 25 [(4, x4), (13, x13), (14, x14), (15, x15)]) h K = F144_lrlrrr inv k k x4 x13 x14 x15 h (fun y4 y13 y14 y15 y16 h => K (.exit 0) (act 25 [(4, y4), (13, y13), (14, y14), (15, y15), (16, y16)]) h) := kq_loop (F144_lrlrrr_j k)
theorem r144_9  : kCode env 144 false inv k (cp c144 62) (act 25 [(4, x4), (13, x13), (14, x14), (15, x15), (16, x16)]) h K =
    K .normal (act 25 [(2, x4), (3, (.int .i64 0))]) h := kq_reg
/-- shadowbook/ints.Plain -/
noncomputable def F144 (inv : Inv) (k : Nat) (x0 : Value) (h : AH) : Option (Value × AH) :=
    bnd (pLen Tryz.prog #[121] x0 h) fun x8 =>
    bnd (pBin Tryz.prog .gtr 3 (.tmp 8) (.const (.int .i64 4096)) x8 (.int .i64 4096)) fun x9 =>
    brV x9
    (some (.tuple #[(.slice none 0 0), (.int .i64 3)], h))
    (bnd (pLen Tryz.prog #[121] x0 h) fun x11 =>
    bnd (inv (.func 164) #[] #[(.int .u8 1), x11] h) fun x12 =>
    bnd (pLen Tryz.prog #[121] x0 x12.2) fun x14 =>
    F144_lrlrrr inv k k x12.1 x0 x14 (.int .i64 0) x12.2
    (fun y4 y13 y14 y15 y16 h =>
    some (.tuple #[y4, (.int .i64 0)], h)))
theorem F144_eq : eFun env k inv 144 #[x0] h = F144 inv k x0 h := by
      refine (kq_fun (a := act 25 [(0, x0)]) (c := cp c144 1)).trans ?_
      unfold F144
      simp only [kq_seq c144 1, r144_0, kq_seq c144 3, kq_seq c144 6, r144_1, b144_rlr, kq_seq c144 26, r144_2, kq_ret c144 53, res144_0, kq_skip c144 27, kq_seq c144 7, r144_3, kq_seq c144 15, kq_seq c144 30, r144_4, kq_block c144 61 0, F144_lrlrrr_eq, kq_seq c144 31, r144_9, kq_ret c144 63, reduceIte, reduceCtorEq, XE.exit.injEq, Nat.reduceEqDiff, Nat.reduceMul, Nat.reduceAdd] <;> kernel_rfl
theorem F144_call : eInv env (k + 1) (.func 144) #[] #[x0] h = F144 (eInv env k) k x0 h := kq_inv F144_eq
noncomputable def c145 : Code := codeOf Tryz.prog 145
theorem r145_0  : kCode env 145 false inv k (cp c145 2) (act 26 [(0, x0), (1, x1)]) h K =
    K .normal (act 26 [(0, x0), (1, x1), (4, (.slice none 0 0))]) h := kq_reg
theorem r145_1  : kCode env 145 false inv k (cp c145 12) (act 26 [(0, x0), (1, x1), (4, x4)]) h K =
    K .normal (act 26 [(0, x0), (4, x4), (8, x1), (9, (.int .i64 0))]) h := kq_reg
theorem r145_2  : kCode env 145 false inv k (cp c145 104) (act 26 [(0, x0), (4, x4), (8, x8), (9, x9)]) h K =
    bnd (pBin Tryz.prog .lss 3 (.tmp 9) (.tmp 8) x9 x8) fun x10 =>
    K .normal (act 26 [(0, x0), (4, x4), (8, x8), (9, x9), (10, x10)]) h := kq_reg
theorem b145_lrllrlr  : kCode env 145 false inv k (cp c145 210) (act 26 [(0, x0), (4, x4), (8, x8), (9, x9), (10, x10)]) h K = brV x10 (kCode env 145 false inv k (cp c145 420) (act 26 [(0, x0), (4, x4), (8, x8), (9, x9), (10, x10)]) h K) (kCode env 145 false inv k (cp c145 421) (act 26 [(0, x0), (4, x4), (8, x8), (9, x9), (10, x10)]) h K) := kq_cond
theorem r145_3  : kCode env 145 false inv k (cp c145 1688) (act 26 [(0, x0), (4, x4), (8, x8), (9, x9), (10, x10)]) h K =
    bnd (inv (.func 77) #[] #[x0, (.int .i64 8)] h) fun x13 =>
    bnd (pExtract x13.1 0) fun x14 =>
    bnd (pExtract x13.1 1) fun x15 =>
    K .normal (act 26 [(0, x0), (4, x4), (6, x14), (7, x15), (8, x8), (9, x9)]) x13.2 := kq_reg
theorem r145_4  : kCode env 145 false inv k (cp c145 6756) (act 26 [(0, x0), (4, x4), (6, x6), (7, x7), (8, x8), (9, x9)]) h K =
    bnd (pBin Tryz.prog .neq 25 (.tmp 16) (.const (.int .i64 0)) x7 (.int .i64 0)) fun x17 =>
    K .normal (act 26 [(0, x0), (4, x4), (6, x6), (7, x7), (8, x8), (9, x9), (17, x17)]) h := kq_reg
theorem b145_rlrllrrllrlr  : kCode env 145 false inv k (cp c145 6757) (act 26 [(0, x0), (4, x4), (6, x6), (7, x7), (8, x8), (9, x9), (17, x17)]) h K = brV x17 (kCode env 145 false inv k (cp c145 13514) (act 26 [(0, x0), (4, x4), (6, x6), (7, x7), (8, x8), (9, x9), (17, x17)]) h K) (kCode env 145 false inv k (cp c145 13515) (act 26 [(0, x0), (4, x4), (6, x6), (7, x7), (8, x8), (9, x9), (17, x17)]) h K) := kq_cond
theorem r145_5  : kCode env 145 false inv k (cp c145 27028) (act 26 [(0, x0), (4, x4), (6, x6), (7, x7), (8, x8), (9, x9), (17, x17)]) h K =
    K .normal (act 26 [(4, (.slice none 0 0)), (5, x7)]) h := kq_reg
theorem r145_6  : kCode env 145 false inv k (cp c145 3379) (act 26 [(0, x0), (4, x4), (6, x6), (7, x7), (8, x8), (9, x9), (17, x17)]) h K =
    bnd (pConv Tryz.prog 60 2 x6 h) fun x21 =>
    bnd (pBuildSlice Tryz.prog 121 1 #[(0, x21)] h) fun x22 =>
    bnd (pAppend Tryz.prog #[121, 121] x4 x22.1 x22.2) fun x23 =>
    K .normal (act 26 [(0, x0), (4, x23.1), (8, x8), (9, x9)]) x23.2 := kq_reg
theorem r145_7  : kCode env 145 false inv k (cp c145 423) (act 26 [(0, x0), (4, x4), (8, x8), (9, x9)]) h K =
    bnd (pBin Tryz.prog .add 3 (.tmp 9) (.const (.int .i64 1)) x9 (.int .i64 1)) fun x24 =>
    K .normal (act 26 [(0, x0), (4, x4), (8, x8), (9, x24)]) h := kq_reg
noncomputable def F145_lrlr {β : Type} (inv : Inv) (k : Nat) : Nat → Value → Value → Value → Value → AH → (Value → Value → Value → Value → Value → AH → Option β) → (Value → Value → AH → Option β) → Option β
  | 0, _, _, _, _, _, _, _ => none
  | j + 1, x0, x4, x8, x9, h, ke0, kr =>
    bnd (pBin Tryz.prog .lss 3 (.tmp 9) (.tmp 8) x9 x8) fun x10 =>
    brV x10
    (bnd (inv (.func 77) #[] #[x0, (.int .i64 8)] h) fun x13 =>
    bnd (pExtract x13.1 0) fun x14 =>
    bnd (pExtract x13.1 1) fun x15 =>
    bnd (pBin Tryz.prog .neq 25 (.tmp 16) (.const (.int .i64 0)) x15 (.int .i64 0)) fun x17 =>
    brV x17
    (kr (.slice none 0 0) x15 x13.2)
    (bnd (pConv Tryz.prog 60 2 x14 x13.2) fun x21 =>
    bnd (pBuildSlice Tryz.prog 121 1 #[(0, x21)] x13.2) fun x22 =>
    bnd (pAppend Tryz.prog #[121, 121] x4 x22.1 x22.2) fun x23 =>
    bnd (pBin Tryz.prog .add 3 (.tmp 9) (.const (.int .i64 1)) x9 (.int .i64 1)) fun x24 =>
    F145_lrlr inv k j x0 x23.1 x8 x24 x23.2 ke0 kr))
    (ke0 x0 x4 x8 x9 x10 h)
theorem F145_lrlr_j (j : Nat) : kLoop (kCode env 145 false inv k (cp c145 52)) j (act 26 [(0, x0), (4, x4), (8, x8), (9, x9)]) h K = F145_lrlr inv k j x0 x4 x8 x9 h (fun y0 y4 y8 y9 y10 h => K (.exit 0) (act 26 [(0, y0), (4, y4), (8, y8), (9, y9), (10, y10)]) h) (fun y4 y5 h => K .ret (act 26 [(4, y4), (5, y5)]) h) := by
      induction j generalizing x0 x4 x8 x9 h with
      | zero => rfl
      | succ j ih =>
        unfold F145_lrlr
        simp only [kLoop, kq_seq c145 52, r145_2, kq_seq c145 105, b145_lrllrlr, kq_skip c145 420, kq_seq c145 211, kq_block c145 422 1, kq_seq c145 844, r145_3, kq_seq c145 1689, kq_seq c145 3378, r145_4, b145_rlrllrrllrlr, kq_seq c145 13514, r145_5, kq_ret c145 27029, kq_skip c145 13515, r145_6, r145_7, kq_exit c145 421 0, ih, reduceIte, reduceCtorEq, XE.exit.injEq, Nat.reduceEqDiff, Nat.reduceMul, Nat.reduceAdd] <;> kernel_rfl
theorem F145_lrlr_eq  : kCode env 145 false inv k (cp c145 26) (act 26 [(0, x0), (4, x4), (8, x8), (9, x9)]) h K = F145_lrlr inv k k x0 x4 x8 x9 h (fun y0 y4 y8 y9 y10 h => K (.exit 0) (act 26 [(0, y0), (4, y4), (8, y8), (9, y9), (10, y10)]) h) (fun y4 y5 h => K .ret (act 26 [(4, y4), (5, y5)]) h) := kq_loop (F145_lrlr_j k)
theorem r145_8  : kCode env 145 false inv k (cp c145 14) (act 26 [(0, x0), (4, x4), (8, x8), (9, x9), (10, x10)]) h K =
    K .normal (act 26 [(4, x4), (5, (.int .i64 0))]) h := kq_reg
theorem res145_0 : resOfFn env.P 145 .ret (act 26 [(4, x4), (5, x5)]) h = some (.tuple #[x4, x5], h) := kq_res
/-- shadowbook/ints.plain -/
noncomputable def F145 (inv : Inv) (k : Nat) (x0 x1 : Value) (h : AH) : Option (Value × AH) :=
    F145_lrlr inv k k x0 (.slice none 0 0) x1 (.int .i64 0) h
    (fun y0 y4 y8 y9 y10 h =>
    some (.tuple #[y4, (.int .i64 0)], h))
    (fun y4_1 y5 h_2 =>
    some (.tuple #[y4_1, y5], h_2))
theorem F145_eq : eFun env k inv 145 #[x0, x1] h = F145 inv k x0 x1 h := by
      refine (kq_fun (a := act 26 [(0, x0), (1, x1)]) (c := cp c145 1)).trans ?_
      unfold F145
      simp only [kq_seq c145 1, r145_0, kq_seq c145 3, kq_seq c145 6, r145_1, kq_block c145 13 0, F145_lrlr_eq, kq_seq c145 7, r145_8, kq_ret c145 15, res145_0, reduceIte, reduceCtorEq, XE.exit.injEq, Nat.reduceEqDiff, Nat.reduceMul, Nat.reduceAdd] <;> kernel_rfl
theorem F145_call : eInv env (k + 1) (.func 145) #[] #[x0, x1] h = F145 (eInv env k) k x0 x1 h := kq_inv F145_eq
end Go.Proofs.YtghelamfaaakcaaGreat.Sh
