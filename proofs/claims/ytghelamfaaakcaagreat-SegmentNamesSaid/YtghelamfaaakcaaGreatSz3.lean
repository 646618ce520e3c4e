/- Shallow functions, part 3. Printed by a program of the prover's own from the loaded program; Lean checks it. -/
import Derived.Test.YtghelamfaaakcaaGreatSz2
set_option linter.unusedVariables false
set_option linter.unusedSimpArgs false
set_option maxRecDepth 100000
namespace Go.Proofs.YtghelamfaaakcaaGreat.Sh
open Go Go.RowKit Go.Proofs.Ev
variable {β : Type} {inv : Inv} {k : Nat} {h : AH} {K : XE → Act → AH → Option β} {x0 x1 x2 x3 x4 x5 x6 x7 x8 x9 x10 x11 x12 x13 x14 x15 x16 x17 x18 x19 x20 x21 x22 x23 x24 x25 x26 x27 x28 x29 x30 x31 x32 x33 x34 x35 x36 x37 x38 x39 x40 x41 x42 x43 x44 x45 x46 x47 x48 x49 x50 x51 x54 x55 x56 x57 x58 x59 : Value}
noncomputable def c146 : Code := codeOf Tryz.prog 146
theorem r146_0  : kCode env 146 false inv k (cp c146 2) (act 52 [(0, x0)]) h K =
    K .normal (act 52 [(0, x0)]) h := kq_reg
theorem r146_1  : kCode env 146 false inv k (cp c146 24) (act 52 [(0, x0)]) h K =
    bnd (pLen Tryz.prog #[121] x0 h) fun x8 =>
    bnd (pBin Tryz.prog .gtr 3 (.tmp 8) (.const (.int .i64 4096)) x8 (.int .i64 4096)) fun x9 =>
    K .normal (act 52 [(0, x0), (9, x9)]) h := kq_reg
theorem b146_rllr  : kCode env 146 false inv k (cp c146 25) (act 52 [(0, x0), (9, x9)]) h K = brV x9 (kCode env 146 false inv k (cp c146 50) (act 52 [(0, x0), (9, x9)]) h K) (kCode env 146 false inv k (cp c146 51) (act 52 [(0, x0), (9, x9)]) h K) := kq_cond
theorem r146_2  : kCode env 146 false inv k (cp c146 100) (act 52 [(0, x0), (9, x9)]) h K =
    K .normal (act 52 [(2, (.slice none 0 0)), (3, (.int .i64 3))]) h := kq_reg
theorem res146_0 : resOfFn env.P 146 .ret (act 52 [(2, x2), (3, x3)]) h = some (.tuple #[x2, x3], h) := kq_res
theorem r146_3  : kCode env 146 false inv k (cp c146 26) (act 52 [(0, x0), (9, x9)]) h K =
    bnd (pLen Tryz.prog #[121] x0 h) fun x11 =>
    bnd (inv (.func 164) #[] #[(.int .u8 2), x11] h) fun x12 =>
    K .normal (act 52 [(0, x0), (4, x12.1)]) x12.2 := kq_reg
theorem r146_4  : kCode env 146 false inv k (cp c146 54) (act 52 [(0, x0), (4, x4)]) h K =
    K .normal (act 52 [(0, x0), (4, x4), (5, (.int .i64 0))]) h := kq_reg
theorem r146_5  : kCode env 146 false inv k (cp c146 444) (act 52 [(0, x0), (4, x4), (5, x5)]) h K =
    bnd (pLen Tryz.prog #[121] x0 h) fun x14 =>
    K .normal (act 52 [(0, x0), (4, x4), (5, x5), (14, x14), (15, (.int .i64 0))]) h := kq_reg
theorem r146_6  : kCode env 146 false inv k (cp c146 3560) (act 52 [(0, x0), (4, x4), (5, x5), (14, x14), (15, x15)]) h K =
    bnd (pBin Tryz.prog .lss 3 (.tmp 15) (.tmp 14) x15 x14) fun x16 =>
    K .normal (act 52 [(0, x0), (4, x4), (5, x5), (14, x14), (15, x15), (16, x16)]) h := kq_reg
theorem b146_lrllrlrrrrlr  : kCode env 146 false inv k (cp c146 7122) (act 52 [(0, x0), (4, x4), (5, x5), (14, x14), (15, x15), (16, x16)]) h K = brV x16 (kCode env 146 false inv k (cp c146 14244) (act 52 [(0, x0), (4, x4), (5, x5), (14, x14), (15, x15), (16, x16)]) h K) (kCode env 146 false inv k (cp c146 14245) (act 52 [(0, x0), (4, x4), (5, x5), (14, x14), (15, x15), (16, x16)]) h K) := kq_cond
theorem r146_7  : kCode env 146 false inv k (cp c146 56984) (act 52 [(0, x0), (4, x4), (5, x5), (14, x14), (15, x15), (16, x16)]) h K =
    K .normal (act 52 [(0, x0), (4, x4), (5, x5), (6, x15), (14, x14), (15, x15)]) h := kq_reg
noncomputable abbrev G146_8 {β : Type} (inv : Inv) (x0 x4 x5 x6 x14 x15 : Value) (h : AH) (K : Value → AH → Option β) : Option β :=
    bnd (pBin Tryz.prog .add 3 (.tmp 18) (.const (.int .i64 1)) x6 (.int .i64 1)) fun x19 =>
    bnd (pLen Tryz.prog #[121] x0 h) fun x21 =>
    bnd (pBin Tryz.prog .lss 3 (.tmp 19) (.tmp 21) x19 x21) fun x22 =>
    bnd (gd3 (some x22) true h (some (x0, h))) fun x24 =>
    bnd (gd3 (some x22) true x24.2.1 (some (x6, x24.2.1))) fun x25 =>
    bnd (gd3 (some x22) true x25.2.1 (lt (pBin Tryz.prog .add 3 (.tmp 25) (.const (.int .i64 1)) x25.1 (.int .i64 1)) x25.2.1)) fun x26 =>
    bnd (gd3 (some x22) true x26.2.1 (lt (pIndexAddr Tryz.prog 121 x24.1 x26.1) x26.2.1)) fun x27 =>
    bnd (gd3 (some x22) true x27.2.1 (lt (pLoad Tryz.prog 2 x27.1 x27.2.1) x27.2.1)) fun x28 =>
    bnd (gd3 (some x22) true x28.2.1 (some (x0, x28.2.1))) fun x29 =>
    bnd (gd3 (some x22) true x29.2.1 (some (x5, x29.2.1))) fun x30 =>
    bnd (gd3 (some x22) true x30.2.1 (lt (pIndexAddr Tryz.prog 121 x29.1 x30.1) x30.2.1)) fun x31 =>
    bnd (gd3 (some x22) true x31.2.1 (lt (pLoad Tryz.prog 2 x31.1 x31.2.1) x31.2.1)) fun x32 =>
    bnd (gd3 (some x22) true x32.2.1 (lt (pBin Tryz.prog .eql 2 (.tmp 28) (.tmp 32) x28.1 x32.1) x32.2.1)) fun x33 =>
    bnd (pickV x22 x33.1 (.bool false)) fun x34 =>
    K (x34) x33.2.1
theorem r146_8  : kCode env 146 false inv k (cp c146 227940) (act 52 [(0, x0), (4, x4), (5, x5), (6, x6), (14, x14), (15, x15)]) h K =
    G146_8 inv x0 x4 x5 x6 x14 x15 h fun y34 h => K .normal (act 52 [(0, x0), (4, x4), (5, x5), (6, x6), (14, x14), (15, x15), (34, y34)]) h := kq_draw
theorem b146_rlrllrrllrlrrrrlr  : kCode env 146 false inv k (cp c146 227941) (act 52 [(0, x0), (4, x4), (5, x5), (6, x6), (14, x14), (15, x15), (34, x34)]) h K = brV x34 (kCode env 146 false inv k (cp c146 455882) (act 52 [(0, x0), (4, x4), (5, x5), (6, x6), (14, x14), (15, x15), (34, x34)]) h K) (kCode env 146 false inv k (cp c146 455883) (act 52 [(0, x0), (4, x4), (5, x5), (6, x6), (14, x14), (15, x15), (34, x34)]) h K) := kq_cond
noncomputable abbrev G146_9 {β : Type} (inv : Inv) (x0 x4 x5 x6 x14 x15 : Value) (h : AH) (K : Value → AH → Option β) : Option β :=
    bnd (pBin Tryz.prog .add 3 (.tmp 36) (.const (.int .i64 1)) x6 (.int .i64 1)) fun x37 =>
    bnd (pBin Tryz.prog .sub 3 (.tmp 37) (.tmp 38) x37 x5) fun x39 =>
    bnd (pConv Tryz.prog 3 60 x39 h) fun x40 =>
    bnd (inv (.func 47) #[] #[x4, x40] h) fun x41 =>
    bnd (pIndexAddr Tryz.prog 121 x0 x6) fun x44 =>
    bnd (pLoad Tryz.prog 2 x44 x41.2) fun x45 =>
    bnd (pConv Tryz.prog 2 60 x45 x41.2) fun x46 =>
    bnd (inv (.func 75) #[] #[x41.1, x46, (.int .i64 8)] x41.2) fun x47 =>
    chkK ((!true || !true || (sameO (pLoad Tryz.prog 2 x44 h) x45 && sameO (pLoad Tryz.prog 2 x44 x41.2) x45)) && ((!true || !true || (sameO (pConv Tryz.prog 2 60 x45 h) x46 && sameO (pConv Tryz.prog 2 60 x45 x41.2) x46)) && true)) <|
    K (x47.1) x47.2
theorem r146_9  : kCode env 146 false inv k (cp c146 227942) (act 52 [(0, x0), (4, x4), (5, x5), (6, x6), (14, x14), (15, x15), (34, x34)]) h K =
    G146_9 inv x0 x4 x5 x6 x14 x15 h fun y4 h => K .normal (act 52 [(0, x0), (4, y4), (6, x6), (14, x14), (15, x15)]) h := kq_draw
theorem r146_10  : kCode env 146 false inv k (cp c146 227943) (act 52 [(0, x0), (4, x4), (6, x6), (14, x14), (15, x15)]) h K =
    bnd (pBin Tryz.prog .add 3 (.tmp 48) (.const (.int .i64 1)) x6 (.int .i64 1)) fun x49 =>
    K .normal (act 52 [(0, x0), (4, x4), (5, x49), (14, x14), (15, x15)]) h := kq_reg
noncomputable def F146_lrrllrlrrrrlr {β : Type} (inv : Inv) (k : Nat) (x0 x4 x5 x14 x15 x16 : Value) (h : AH) (kn : (Value → Value → Value → Value → Value → Value → Value → AH → Option β)) : Option β :=
    G146_8 inv x0 x4 x5 x15 x14 x15 h fun y34 h =>
    brV y34
    (kn x0 x4 x5 x15 x14 x15 y34 h)
    (G146_9 inv x0 x4 x5 x15 x14 x15 h fun y4 h_1 =>
    bnd (pBin Tryz.prog .add 3 (.tmp 48) (.const (.int .i64 1)) x15 (.int .i64 1)) fun x49 =>
    kn x0 y4 x49 unk x14 x15 unk h_1)
theorem F146_lrrllrlrrrrlr_eq  : kCode env 146 false inv k (cp c146 14246) (act 52 [(0, x0), (4, x4), (5, x5), (14, x14), (15, x15), (16, x16)]) h K = F146_lrrllrlrrrrlr inv k x0 x4 x5 x14 x15 x16 h (fun y0 y4 y5 y6 y14 y15 y34 h => K .normal (act 52 [(0, y0), (4, y4), (5, y5), (6, y6), (14, y14), (15, y15), (34, y34)]) h) := by
      unfold F146_lrrllrlrrrrlr
      simp only [kq_block c146 14246 1, kq_seq c146 28492, r146_7, kq_seq c146 56985, kq_seq c146 113970, r146_8, b146_rlrllrrllrlrrrrlr, kq_exit c146 455882 1, kq_skip c146 455883, kq_seq c146 113971, r146_9, r146_10, reduceIte, reduceCtorEq, XE.exit.injEq, Nat.reduceEqDiff, Nat.reduceMul, Nat.reduceAdd] <;> kernel_rfl
theorem r146_11  : kCode env 146 false inv k (cp c146 14247) (act 52 [(0, x0), (4, x4), (5, x5), (6, x6), (14, x14), (15, x15), (34, x34)]) h K =
    bnd (pBin Tryz.prog .add 3 (.tmp 15) (.const (.int .i64 1)) x15 (.int .i64 1)) fun x50 =>
    K .normal (act 52 [(0, x0), (4, x4), (5, x5), (14, x14), (15, x50)]) h := kq_reg
noncomputable def F146_lrlrrrrlr {β : Type} (inv : Inv) (k : Nat) : Nat → Value → Value → Value → Value → Value → AH → (Value → Value → Value → Value → Value → Value → AH → Option β) → Option β
  | 0, _, _, _, _, _, _, _ => none
  | j + 1, x0, x4, x5, x14, x15, h, ke0 =>
    bnd (pBin Tryz.prog .lss 3 (.tmp 15) (.tmp 14) x15 x14) fun x16 =>
    brV x16
    (F146_lrrllrlrrrrlr inv k x0 x4 x5 x14 x15 x16 h
    (fun y0 y4 y5 y6 y14 y15 y34 h =>
    bnd (pBin Tryz.prog .add 3 (.tmp 15) (.const (.int .i64 1)) y15 (.int .i64 1)) fun x50 =>
    F146_lrlrrrrlr inv k j y0 y4 y5 y14 x50 h ke0))
    (ke0 x0 x4 x5 x14 x15 x16 h)
theorem F146_lrlrrrrlr_j (j : Nat) : kLoop (kCode env 146 false inv k (cp c146 1780)) j (act 52 [(0, x0), (4, x4), (5, x5), (14, x14), (15, x15)]) h K = F146_lrlrrrrlr inv k j x0 x4 x5 x14 x15 h (fun y0 y4 y5 y14 y15 y16 h => K (.exit 0) (act 52 [(0, y0), (4, y4), (5, y5), (14, y14), (15, y15), (16, y16)]) h) := by
      induction j generalizing x0 x4 x5 x14 x15 h with
      | zero => rfl
      | succ j ih =>
        unfold F146_lrlrrrrlr
        simp only [kLoop, kq_seq c146 1780, r146_6, kq_seq c146 3561, b146_lrllrlrrrrlr, kq_skip c146 14244, kq_seq c146 7123, F146_lrrllrlrrrrlr_eq, r146_11, kq_exit c146 14245 0, ih, reduceIte, reduceCtorEq, XE.exit.injEq, Nat.reduceEqDiff, Nat.reduceMul, Nat.reduceAdd] <;> kernel_rfl
theorem F146_lrlrrrrlr_eq  : kCode env 146 false inv k (cp c146 890) (act 52 [(0, x0), (4, x4), (5, x5), (14, x14), (15, x15)]) h K = F146_lrlrrrrlr inv k k x0 x4 x5 x14 x15 h (fun y0 y4 y5 y14 y15 y16 h => K (.exit 0) (act 52 [(0, y0), (4, y4), (5, y5), (14, y14), (15, y15), (16, y16)]) h) := kq_loop (F146_lrlrrrrlr_j k)
theorem r146_12  : kCode env 146 false inv k (cp c146 446) (act 52 [(0, x0), (4, x4), (5, x5), (14, x14), (15, x15), (16, x16)]) h K =
    K .normal (act 52 [(2, x4), (3, (.int .i64 0))]) h := kq_reg
/-- shadowbook/ints.Runs -/
noncomputable def F146 (inv : Inv) (k : Nat) (x0 : Value) (h : AH) : Option (Value × AH) :=
    bnd (pLen Tryz.prog #[121] x0 h) fun x8 =>
    bnd (pBin Tryz.prog .gtr 3 (.tmp 8) (.const (.int .i64 4096)) x8 (.int .i64 4096)) fun x9 =>
    brV x9
    (some (.tuple #[(.slice none 0 0), (.int .i64 3)], h))
    (bnd (pLen Tryz.prog #[121] x0 h) fun x11 =>
    bnd (inv (.func 164) #[] #[(.int .u8 2), x11] h) fun x12 =>
    bnd (pLen Tryz.prog #[121] x0 x12.2) fun x14 =>
    F146_lrlrrrrlr inv k k x0 x12.1 (.int .i64 0) x14 (.int .i64 0) x12.2
    (fun y0 y4 y5 y14 y15 y16 h =>
    some (.tuple #[y4, (.int .i64 0)], h)))
theorem F146_eq : eFun env k inv 146 #[x0] h = F146 inv k x0 h := by
      refine (kq_fun (a := act 52 [(0, x0)]) (c := cp c146 1)).trans ?_
      unfold F146
      simp only [kq_seq c146 1, r146_0, kq_scope c146 3, kq_seq c146 6, kq_seq c146 12, r146_1, b146_rllr, kq_seq c146 50, r146_2, kq_ret c146 101, res146_0, kq_skip c146 51, kq_seq c146 13, r146_3, kq_seq c146 27, r146_4, kq_seq c146 55, kq_label c146 110, kq_seq c146 111, kq_seq c146 222, r146_5, kq_block c146 445 0, F146_lrlrrrrlr_eq, kq_seq c146 223, r146_12, kq_ret c146 447, reduceIte, reduceCtorEq, XE.exit.injEq, Nat.reduceEqDiff, Nat.reduceMul, Nat.reduceAdd] <;> kernel_rfl
theorem F146_call : eInv env (k + 1) (.func 146) #[] #[x0] h = F146 (eInv env k) k x0 h := kq_inv F146_eq
noncomputable def c147 : Code := codeOf Tryz.prog 147
theorem r147_0  : kCode env 147 false inv k (cp c147 2) (act 50 [(0, x0), (1, x1)]) h K =
    K .normal (act 50 [(0, x0), (1, x1), (4, (.slice none 0 0))]) h := kq_reg
theorem r147_1  : kCode env 147 false inv k (cp c147 96) (act 50 [(0, x0), (1, x1), (4, x4)]) h K =
    bnd (pLen Tryz.prog #[121] x4 h) fun x10 =>
    bnd (pBin Tryz.prog .lss 3 (.tmp 10) (.tmp 11) x10 x1) fun x12 =>
    K .normal (act 50 [(0, x0), (1, x1), (4, x4), (12, x12)]) h := kq_reg
theorem b147_rllllr  : kCode env 147 false inv k (cp c147 97) (act 50 [(0, x0), (1, x1), (4, x4), (12, x12)]) h K = brV x12 (kCode env 147 false inv k (cp c147 194) (act 50 [(0, x0), (1, x1), (4, x4), (12, x12)]) h K) (kCode env 147 false inv k (cp c147 195) (act 50 [(0, x0), (1, x1), (4, x4), (12, x12)]) h K) := kq_cond
theorem r147_2  : kCode env 147 false inv k (cp c147 196) (act 50 [(0, x0), (1, x1), (4, x4), (12, x12)]) h K =
    bnd (inv (.func 92) #[] #[x0] h) fun x15 =>
    bnd (pExtract x15.1 0) fun x16 =>
    bnd (pExtract x15.1 1) fun x17 =>
    K .normal (act 50 [(0, x0), (1, x1), (4, x4), (6, x16), (7, x17)]) x15.2 := kq_reg
theorem r147_3  : kCode env 147 false inv k (cp c147 788) (act 50 [(0, x0), (1, x1), (4, x4), (6, x6), (7, x7)]) h K =
    bnd (pBin Tryz.prog .neq 25 (.tmp 18) (.const (.int .i64 0)) x7 (.int .i64 0)) fun x19 =>
    K .normal (act 50 [(0, x0), (1, x1), (4, x4), (6, x6), (7, x7), (19, x19)]) h := kq_reg
theorem b147_rlrlrlllr  : kCode env 147 false inv k (cp c147 789) (act 50 [(0, x0), (1, x1), (4, x4), (6, x6), (7, x7), (19, x19)]) h K = brV x19 (kCode env 147 false inv k (cp c147 1578) (act 50 [(0, x0), (1, x1), (4, x4), (6, x6), (7, x7), (19, x19)]) h K) (kCode env 147 false inv k (cp c147 1579) (act 50 [(0, x0), (1, x1), (4, x4), (6, x6), (7, x7), (19, x19)]) h K) := kq_cond
theorem r147_4  : kCode env 147 false inv k (cp c147 3156) (act 50 [(0, x0), (1, x1), (4, x4), (6, x6), (7, x7), (19, x19)]) h K =
    K .normal (act 50 [(4, (.slice none 0 0)), (5, x7)]) h := kq_reg
theorem r147_5  : kCode env 147 false inv k (cp c147 790) (act 50 [(0, x0), (1, x1), (4, x4), (6, x6), (7, x7), (19, x19)]) h K =
    bnd (inv (.func 77) #[] #[x0, (.int .i64 8)] h) fun x23 =>
    bnd (pExtract x23.1 0) fun x24 =>
    bnd (pExtract x23.1 1) fun x25 =>
    K .normal (act 50 [(0, x0), (1, x1), (4, x4), (6, x6), (7, x25), (8, x24)]) x23.2 := kq_reg
noncomputable abbrev G147_6 {β : Type} (inv : Inv) (x0 x1 x4 x6 x7 x8 : Value) (h : AH) (K : Value → AH → Option β) : Option β :=
    bnd (pBin Tryz.prog .neq 25 (.tmp 26) (.const (.int .i64 0)) x7 (.int .i64 0)) fun x27 =>
    bnd (gd (some x27) false h (some (x6, h))) fun x29 =>
    bnd (gd (some x27) false x29.2 (lt (pBin Tryz.prog .lss 60 (.tmp 29) (.const (.int .u64 1)) x29.1 (.int .u64 1)) x29.2)) fun x30 =>
    bnd (pickV x27 (.bool true) x30.1) fun x31 =>
    bnd (gd (some x31) false x30.2 (some (x6, x30.2))) fun x33 =>
    bnd (gd (some x31) false x33.2 (some (x1, x33.2))) fun x34 =>
    bnd (gd (some x31) false x34.2 (some (x4, x34.2))) fun x35 =>
    bnd (gd (some x31) false x35.2 (lt (pLen Tryz.prog #[121] x35.1 x35.2) x35.2)) fun x36 =>
    bnd (gd (some x31) false x36.2 (lt (pBin Tryz.prog .sub 3 (.tmp 34) (.tmp 36) x34.1 x36.1) x36.2)) fun x37 =>
    bnd (gd (some x31) false x37.2 (lt (pConv Tryz.prog 3 60 x37.1 x37.2) x37.2)) fun x38 =>
    bnd (gd (some x31) false x38.2 (lt (pBin Tryz.prog .gtr 60 (.tmp 33) (.tmp 38) x33.1 x38.1) x38.2)) fun x39 =>
    bnd (pickV x31 (.bool true) x39.1) fun x40 =>
    K (x40) x39.2
theorem r147_6  : kCode env 147 false inv k (cp c147 3164) (act 50 [(0, x0), (1, x1), (4, x4), (6, x6), (7, x7), (8, x8)]) h K =
    G147_6 inv x0 x1 x4 x6 x7 x8 h fun y40 h => K .normal (act 50 [(0, x0), (1, x1), (4, x4), (6, x6), (8, x8), (40, y40)]) h := kq_reg
theorem b147_rlrrrlrlllr  : kCode env 147 false inv k (cp c147 3165) (act 50 [(0, x0), (1, x1), (4, x4), (6, x6), (8, x8), (40, x40)]) h K = brV x40 (kCode env 147 false inv k (cp c147 6330) (act 50 [(0, x0), (1, x1), (4, x4), (6, x6), (8, x8), (40, x40)]) h K) (kCode env 147 false inv k (cp c147 6331) (act 50 [(0, x0), (1, x1), (4, x4), (6, x6), (8, x8), (40, x40)]) h K) := kq_cond
theorem r147_7  : kCode env 147 false inv k (cp c147 12660) (act 50 [(0, x0), (1, x1), (4, x4), (6, x6), (8, x8), (40, x40)]) h K =
    K .normal (act 50 [(4, (.slice none 0 0)), (5, (.int .i64 4))]) h := kq_reg
theorem r147_8  : kCode env 147 false inv k (cp c147 1583) (act 50 [(0, x0), (1, x1), (4, x4), (6, x6), (8, x8), (40, x40)]) h K =
    bnd (pConv Tryz.prog 60 2 x8 h) fun x43 =>
    bnd (pBuildSlice Tryz.prog 121 1 #[(0, x43)] h) fun x44 =>
    bnd (pConv Tryz.prog 60 3 x6 x44.2) fun x46 =>
    bnd (inv (.func 165) #[] #[x44.1, x46] x44.2) fun x47 =>
    bnd (pAppend Tryz.prog #[121, 121] x4 x47.1 x47.2) fun x48 =>
    K .normal (act 50 [(0, x0), (1, x1), (4, x48.1)]) x48.2 := kq_reg
noncomputable def F147_llr {β : Type} (inv : Inv) (k : Nat) : Nat → Value → Value → Value → AH → (Value → Value → Value → Value → AH → Option β) → (Value → Value → AH → Option β) → Option β
  | 0, _, _, _, _, _, _ => none
  | j + 1, x0, x1, x4, h, ke0, kr =>
    bnd (pLen Tryz.prog #[121] x4 h) fun x10 =>
    bnd (pBin Tryz.prog .lss 3 (.tmp 10) (.tmp 11) x10 x1) fun x12 =>
    brV x12
    (bnd (inv (.func 92) #[] #[x0] h) fun x15 =>
    bnd (pExtract x15.1 0) fun x16 =>
    bnd (pExtract x15.1 1) fun x17 =>
    bnd (pBin Tryz.prog .neq 25 (.tmp 18) (.const (.int .i64 0)) x17 (.int .i64 0)) fun x19 =>
    brV x19
    (kr (.slice none 0 0) x17 x15.2)
    (bnd (inv (.func 77) #[] #[x0, (.int .i64 8)] x15.2) fun x23 =>
    bnd (pExtract x23.1 0) fun x24 =>
    bnd (pExtract x23.1 1) fun x25 =>
    G147_6 inv x0 x1 x4 x16 x25 x24 x23.2 fun y40 h =>
    brV y40
    (kr (.slice none 0 0) (.int .i64 4) h)
    (bnd (pConv Tryz.prog 60 2 x24 h) fun x43 =>
    bnd (pBuildSlice Tryz.prog 121 1 #[(0, x43)] h) fun x44 =>
    bnd (pConv Tryz.prog 60 3 x16 x44.2) fun x46 =>
    bnd (inv (.func 165) #[] #[x44.1, x46] x44.2) fun x47 =>
    bnd (pAppend Tryz.prog #[121, 121] x4 x47.1 x47.2) fun x48 =>
    F147_llr inv k j x0 x1 x48.1 x48.2 ke0 kr)))
    (ke0 x0 x1 x4 x12 h)
theorem F147_llr_j (j : Nat) : kLoop (kCode env 147 false inv k (cp c147 24)) j (act 50 [(0, x0), (1, x1), (4, x4)]) h K = F147_llr inv k j x0 x1 x4 h (fun y0 y1 y4 y12 h => K (.exit 0) (act 50 [(0, y0), (1, y1), (4, y4), (12, y12)]) h) (fun y4 y5 h => K .ret (act 50 [(4, y4), (5, y5)]) h) := by
      induction j generalizing x0 x1 x4 h with
      | zero => rfl
      | succ j ih =>
        unfold F147_llr
        simp only [kLoop, kq_seq c147 24, kq_seq c147 48, r147_1, b147_rllllr, kq_skip c147 194, kq_block c147 49 1, kq_seq c147 98, r147_2, kq_seq c147 197, kq_seq c147 394, r147_3, b147_rlrlrlllr, kq_seq c147 1578, r147_4, kq_ret c147 3157, kq_skip c147 1579, kq_seq c147 395, r147_5, kq_seq c147 791, kq_seq c147 1582, r147_6, b147_rlrrrlrlllr, kq_seq c147 6330, r147_7, kq_ret c147 12661, kq_skip c147 6331, r147_8, kq_exit c147 195 0, ih, reduceIte, reduceCtorEq, XE.exit.injEq, Nat.reduceEqDiff, Nat.reduceMul, Nat.reduceAdd] <;> kernel_rfl
theorem F147_llr_eq  : kCode env 147 false inv k (cp c147 12) (act 50 [(0, x0), (1, x1), (4, x4)]) h K = F147_llr inv k k x0 x1 x4 h (fun y0 y1 y4 y12 h => K (.exit 0) (act 50 [(0, y0), (1, y1), (4, y4), (12, y12)]) h) (fun y4 y5 h => K .ret (act 50 [(4, y4), (5, y5)]) h) := kq_loop (F147_llr_j k)
theorem r147_9  : kCode env 147 false inv k (cp c147 14) (act 50 [(0, x0), (1, x1), (4, x4), (12, x12)]) h K =
    K .normal (act 50 [(4, x4), (5, (.int .i64 0))]) h := kq_reg
theorem res147_0 : resOfFn env.P 147 .ret (act 50 [(4, x4), (5, x5)]) h = some (.tuple #[x4, x5], h) := kq_res
/-- shadowbook/ints.runs -/
noncomputable def F147 (inv : Inv) (k : Nat) (x0 x1 : Value) (h : AH) : Option (Value × AH) :=
    F147_llr inv k k x0 x1 (.slice none 0 0) h
    (fun y0 y1 y4 y12 h =>
    some (.tuple #[y4, (.int .i64 0)], h))
    (fun y4_1 y5 h_2 =>
    some (.tuple #[y4_1, y5], h_2))
theorem F147_eq : eFun env k inv 147 #[x0, x1] h = F147 inv k x0 x1 h := by
      refine (kq_fun (a := act 50 [(0, x0), (1, x1)]) (c := cp c147 1)).trans ?_
      unfold F147
      simp only [kq_seq c147 1, r147_0, kq_seq c147 3, kq_block c147 6 0, F147_llr_eq, kq_seq c147 7, r147_9, kq_ret c147 15, res147_0, reduceIte, reduceCtorEq, XE.exit.injEq, Nat.reduceEqDiff, Nat.reduceMul, Nat.reduceAdd] <;> kernel_rfl
theorem F147_call : eInv env (k + 1) (.func 147) #[] #[x0, x1] h = F147 (eInv env k) k x0 x1 h := kq_inv F147_eq
noncomputable def c148 : Code := codeOf Tryz.prog 148
theorem r148_0  : kCode env 148 false inv k (cp c148 2) (act 59 [(0, x0)]) h K =
    K .normal (act 59 [(0, x0)]) h := kq_reg
theorem r148_1  : kCode env 148 false inv k (cp c148 12) (act 59 [(0, x0)]) h K =
    bnd (pLen Tryz.prog #[121] x0 h) fun x13 =>
    bnd (pBin Tryz.prog .gtr 3 (.tmp 13) (.const (.int .i64 4096)) x13 (.int .i64 4096)) fun x14 =>
    K .normal (act 59 [(0, x0), (14, x14)]) h := kq_reg
theorem b148_rlr  : kCode env 148 false inv k (cp c148 13) (act 59 [(0, x0), (14, x14)]) h K = brV x14 (kCode env 148 false inv k (cp c148 26) (act 59 [(0, x0), (14, x14)]) h K) (kCode env 148 false inv k (cp c148 27) (act 59 [(0, x0), (14, x14)]) h K) := kq_cond
theorem r148_2  : kCode env 148 false inv k (cp c148 52) (act 59 [(0, x0), (14, x14)]) h K =
    K .normal (act 59 [(2, (.slice none 0 0)), (3, (.int .i64 3))]) h := kq_reg
theorem res148_0 : resOfFn env.P 148 .ret (act 59 [(2, x2), (3, x3)]) h = some (.tuple #[x2, x3], h) := kq_res
theorem r148_3  : kCode env 148 false inv k (cp c148 14) (act 59 [(0, x0), (14, x14)]) h K =
    K .normal (act 59 [(0, x0), (4, (.int .i64 0))]) h := kq_reg
theorem r148_4  : kCode env 148 false inv k (cp c148 60) (act 59 [(0, x0), (4, x4)]) h K =
    bnd (pLen Tryz.prog #[121] x0 h) fun x16 =>
    bnd (pBin Tryz.prog .gtr 3 (.tmp 16) (.const (.int .i64 0)) x16 (.int .i64 0)) fun x17 =>
    K .normal (act 59 [(0, x0), (4, x4), (17, x17)]) h := kq_reg
theorem b148_rlrrr  : kCode env 148 false inv k (cp c148 61) (act 59 [(0, x0), (4, x4), (17, x17)]) h K = brV x17 (kCode env 148 false inv k (cp c148 122) (act 59 [(0, x0), (4, x4), (17, x17)]) h K) (kCode env 148 false inv k (cp c148 123) (act 59 [(0, x0), (4, x4), (17, x17)]) h K) := kq_cond
theorem r148_5  : kCode env 148 false inv k (cp c148 122) (act 59 [(0, x0), (4, x4), (17, x17)]) h K =
    bnd (inv (.func 166) #[] #[x0] h) fun x19 =>
    K .normal (act 59 [(0, x0), (4, x19.1)]) x19.2 := kq_reg
noncomputable def F148_rlrrr {β : Type} (inv : Inv) (k : Nat) (x0 x4 x17 : Value) (h : AH) (kn : (Value → Value → Value → AH → Option β)) : Option β :=
    brV x17
    (bnd (inv (.func 166) #[] #[x0] h) fun x19 =>
    kn x0 x19.1 unk x19.2)
    (kn x0 x4 x17 h)
theorem F148_rlrrr_eq  : kCode env 148 false inv k (cp c148 61) (act 59 [(0, x0), (4, x4), (17, x17)]) h K = F148_rlrrr inv k x0 x4 x17 h (fun y0 y4 y17 h => K .normal (act 59 [(0, y0), (4, y4), (17, y17)]) h) := by
      unfold F148_rlrrr
      simp only [b148_rlrrr, r148_5, kq_skip c148 123, reduceIte, reduceCtorEq, XE.exit.injEq, Nat.reduceEqDiff, Nat.reduceMul, Nat.reduceAdd] <;> kernel_rfl
theorem r148_6  : kCode env 148 false inv k (cp c148 62) (act 59 [(0, x0), (4, x4), (17, x17)]) h K =
    K .normal (act 59 [(0, x0), (4, x4), (5, (.slice none 0 0))]) h := kq_reg
theorem r148_7  : kCode env 148 false inv k (cp c148 252) (act 59 [(0, x0), (4, x4), (5, x5)]) h K =
    bnd (pLen Tryz.prog #[121] x0 h) fun x21 =>
    K .normal (act 59 [(0, x0), (4, x4), (5, x5), (20, x0), (21, x21), (22, (.int .i64 0))]) h := kq_reg
theorem r148_8  : kCode env 148 false inv k (cp c148 2024) (act 59 [(0, x0), (4, x4), (5, x5), (20, x20), (21, x21), (22, x22)]) h K =
    bnd (pBin Tryz.prog .lss 3 (.tmp 22) (.tmp 21) x22 x21) fun x23 =>
    K .normal (act 59 [(0, x0), (4, x4), (5, x5), (20, x20), (21, x21), (22, x22), (23, x23)]) h := kq_reg
theorem b148_lrllrlrrrrr  : kCode env 148 false inv k (cp c148 4050) (act 59 [(0, x0), (4, x4), (5, x5), (20, x20), (21, x21), (22, x22), (23, x23)]) h K = brV x23 (kCode env 148 false inv k (cp c148 8100) (act 59 [(0, x0), (4, x4), (5, x5), (20, x20), (21, x21), (22, x22), (23, x23)]) h K) (kCode env 148 false inv k (cp c148 8101) (act 59 [(0, x0), (4, x4), (5, x5), (20, x20), (21, x21), (22, x22), (23, x23)]) h K) := kq_cond
theorem r148_9  : kCode env 148 false inv k (cp c148 32408) (act 59 [(0, x0), (4, x4), (5, x5), (20, x20), (21, x21), (22, x22), (23, x23)]) h K =
    bnd (pIndexAddr Tryz.prog 121 x20 x22) fun x24 =>
    bnd (pLoad Tryz.prog 2 x24 h) fun x25 =>
    K .normal (act 59 [(0, x0), (4, x4), (5, x5), (7, x25), (20, x20), (21, x21), (22, x22)]) h := kq_reg
theorem r148_10  : kCode env 148 false inv k (cp c148 32409) (act 59 [(0, x0), (4, x4), (5, x5), (7, x7), (20, x20), (21, x21), (22, x22)]) h K =
    bnd (pConv Tryz.prog 2 60 x7 h) fun x28 =>
    bnd (pConv Tryz.prog 2 60 x4 h) fun x30 =>
    bnd (pBin Tryz.prog .sub 60 (.tmp 28) (.tmp 30) x28 x30) fun x31 =>
    bnd (pBuildSlice Tryz.prog 63 1 #[(0, x31)] h) fun x32 =>
    bnd (pAppend Tryz.prog #[63, 63] x5 x32.1 x32.2) fun x33 =>
    K .normal (act 59 [(0, x0), (4, x4), (5, x33.1), (20, x20), (21, x21), (22, x22)]) x33.2 := kq_reg
theorem r148_11  : kCode env 148 false inv k (cp c148 8103) (act 59 [(0, x0), (4, x4), (5, x5), (20, x20), (21, x21), (22, x22)]) h K =
    bnd (pBin Tryz.prog .add 3 (.tmp 22) (.const (.int .i64 1)) x22 (.int .i64 1)) fun x34 =>
    K .normal (act 59 [(0, x0), (4, x4), (5, x5), (20, x20), (21, x21), (22, x34)]) h := kq_reg
noncomputable def F148_lrlrrrrr {β : Type} (inv : Inv) (k : Nat) : Nat → Value → Value → Value → Value → Value → Value → AH → (Value → Value → Value → Value → Value → Value → Value → AH → Option β) → Option β
  | 0, _, _, _, _, _, _, _, _ => none
  | j + 1, x0, x4, x5, x20, x21, x22, h, ke0 =>
    bnd (pBin Tryz.prog .lss 3 (.tmp 22) (.tmp 21) x22 x21) fun x23 =>
    brV x23
    (bnd (pIndexAddr Tryz.prog 121 x20 x22) fun x24 =>
    bnd (pLoad Tryz.prog 2 x24 h) fun x25 =>
    bnd (pConv Tryz.prog 2 60 x25 h) fun x28 =>
    bnd (pConv Tryz.prog 2 60 x4 h) fun x30 =>
    bnd (pBin Tryz.prog .sub 60 (.tmp 28) (.tmp 30) x28 x30) fun x31 =>
    bnd (pBuildSlice Tryz.prog 63 1 #[(0, x31)] h) fun x32 =>
    bnd (pAppend Tryz.prog #[63, 63] x5 x32.1 x32.2) fun x33 =>
    bnd (pBin Tryz.prog .add 3 (.tmp 22) (.const (.int .i64 1)) x22 (.int .i64 1)) fun x34 =>
    F148_lrlrrrrr inv k j x0 x4 x33.1 x20 x21 x34 x33.2 ke0)
    (ke0 x0 x4 x5 x20 x21 x22 x23 h)
theorem F148_lrlrrrrr_j (j : Nat) : kLoop (kCode env 148 false inv k (cp c148 1012)) j (act 59 [(0, x0), (4, x4), (5, x5), (20, x20), (21, x21), (22, x22)]) h K = F148_lrlrrrrr inv k j x0 x4 x5 x20 x21 x22 h (fun y0 y4 y5 y20 y21 y22 y23 h => K (.exit 0) (act 59 [(0, y0), (4, y4), (5, y5), (20, y20), (21, y21), (22, y22), (23, y23)]) h) := by
      induction j generalizing x0 x4 x5 x20 x21 x22 h with
      | zero => rfl
      | succ j ih =>
        unfold F148_lrlrrrrr
        simp only [kLoop, kq_seq c148 1012, r148_8, kq_seq c148 2025, b148_lrllrlrrrrr, kq_skip c148 8100, kq_seq c148 4051, kq_block c148 8102 1, kq_seq c148 16204, r148_9, r148_10, r148_11, kq_exit c148 8101 0, ih, reduceIte, reduceCtorEq, XE.exit.injEq, Nat.reduceEqDiff, Nat.reduceMul, Nat.reduceAdd] <;> kernel_rfl
theorem F148_lrlrrrrr_eq  : kCode env 148 false inv k (cp c148 506) (act 59 [(0, x0), (4, x4), (5, x5), (20, x20), (21, x21), (22, x22)]) h K = F148_lrlrrrrr inv k k x0 x4 x5 x20 x21 x22 h (fun y0 y4 y5 y20 y21 y22 y23 h => K (.exit 0) (act 59 [(0, y0), (4, y4), (5, y5), (20, y20), (21, y21), (22, y22), (23, y23)]) h) := kq_loop (F148_lrlrrrrr_j k)
theorem r148_12  : kCode env 148 false inv k (cp c148 254) (act 59 [(0, x0), (4, x4), (5, x5), (20, x20), (21, x21), (22, x22), (23, x23)]) h K =
    bnd (inv (.func 98) #[] #[x5] h) fun x36 =>
    K .normal (act 59 [(0, x0), (4, x4), (5, x5), (8, x36.1)]) x36.2 := kq_reg
theorem r148_13  : kCode env 148 false inv k (cp c148 510) (act 59 [(0, x0), (4, x4), (5, x5), (8, x8)]) h K =
    bnd (inv (.func 49) #[] #[x5, x8] h) fun x40 =>
    bnd (pExtract x40.1 0) fun x41 =>
    bnd (pExtract x40.1 1) fun x42 =>
    K .normal (act 59 [(0, x0), (4, x4), (8, x8), (9, x41), (10, x42)]) x40.2 := kq_reg
theorem r148_14  : kCode env 148 false inv k (cp c148 2044) (act 59 [(0, x0), (4, x4), (8, x8), (9, x9), (10, x10)]) h K =
    bnd (pBin Tryz.prog .neq 25 (.tmp 43) (.const (.int .i64 0)) x10 (.int .i64 0)) fun x44 =>
    K .normal (act 59 [(0, x0), (4, x4), (8, x8), (9, x9), (10, x10), (44, x44)]) h := kq_reg
theorem b148_rlrrrrrrrr  : kCode env 148 false inv k (cp c148 2045) (act 59 [(0, x0), (4, x4), (8, x8), (9, x9), (10, x10), (44, x44)]) h K = brV x44 (kCode env 148 false inv k (cp c148 4090) (act 59 [(0, x0), (4, x4), (8, x8), (9, x9), (10, x10), (44, x44)]) h K) (kCode env 148 false inv k (cp c148 4091) (act 59 [(0, x0), (4, x4), (8, x8), (9, x9), (10, x10), (44, x44)]) h K) := kq_cond
theorem r148_15  : kCode env 148 false inv k (cp c148 8180) (act 59 [(0, x0), (4, x4), (8, x8), (9, x9), (10, x10), (44, x44)]) h K =
    K .normal (act 59 [(2, (.slice none 0 0)), (3, x10)]) h := kq_reg
theorem r148_16  : kCode env 148 false inv k (cp c148 2046) (act 59 [(0, x0), (4, x4), (8, x8), (9, x9), (10, x10), (44, x44)]) h K =
    bnd (pLen Tryz.prog #[121] x0 h) fun x47 =>
    bnd (inv (.func 164) #[] #[(.int .u8 3), x47] h) fun x48 =>
    bnd (pConv Tryz.prog 2 60 x4 x48.2) fun x50 =>
    bnd (inv (.func 75) #[] #[x48.1, x50, (.int .i64 8)] x48.2) fun x51 =>
    K .normal (act 59 [(8, x8), (9, x9), (11, x51.1)]) x51.2 := kq_reg
theorem r148_17  : kCode env 148 false inv k (cp c148 4094) (act 59 [(8, x8), (9, x9), (11, x11)]) h K =
    bnd (pConv Tryz.prog 3 5 x8 h) fun x54 =>
    bnd (pBuildSlice Tryz.prog 33 1 #[(0, x54)] h) fun x55 =>
    bnd (pAppend Tryz.prog #[33, 33] x11 x55.1 x55.2) fun x56 =>
    bnd (pAppend Tryz.prog #[33, 33] x56.1 x9 x56.2) fun x58 =>
    K .normal (act 59 [(2, x58.1), (3, (.int .i64 0))]) x58.2 := kq_reg
/-- shadowbook/ints.Packed -/
noncomputable def F148 (inv : Inv) (k : Nat) (x0 : Value) (h : AH) : Option (Value × AH) :=
    bnd (pLen Tryz.prog #[121] x0 h) fun x13 =>
    bnd (pBin Tryz.prog .gtr 3 (.tmp 13) (.const (.int .i64 4096)) x13 (.int .i64 4096)) fun x14 =>
    brV x14
    (some (.tuple #[(.slice none 0 0), (.int .i64 3)], h))
    (bnd (pLen Tryz.prog #[121] x0 h) fun x16 =>
    bnd (pBin Tryz.prog .gtr 3 (.tmp 16) (.const (.int .i64 0)) x16 (.int .i64 0)) fun x17 =>
    F148_rlrrr inv k x0 (.int .i64 0) x17 h
    (fun y0 y4 y17 h =>
    bnd (pLen Tryz.prog #[121] y0 h) fun x21 =>
    F148_lrlrrrrr inv k k y0 y4 (.slice none 0 0) y0 x21 (.int .i64 0) h
    (fun y0_1 y4_2 y5 y20 y21 y22 y23 h_3 =>
    bnd (inv (.func 98) #[] #[y5] h_3) fun x36 =>
    bnd (inv (.func 49) #[] #[y5, x36.1] x36.2) fun x40 =>
    bnd (pExtract x40.1 0) fun x41 =>
    bnd (pExtract x40.1 1) fun x42 =>
    bnd (pBin Tryz.prog .neq 25 (.tmp 43) (.const (.int .i64 0)) x42 (.int .i64 0)) fun x44 =>
    brV x44
    (some (.tuple #[(.slice none 0 0), x42], x40.2))
    (bnd (pLen Tryz.prog #[121] y0_1 x40.2) fun x47 =>
    bnd (inv (.func 164) #[] #[(.int .u8 3), x47] x40.2) fun x48 =>
    bnd (pConv Tryz.prog 2 60 y4_2 x48.2) fun x50 =>
    bnd (inv (.func 75) #[] #[x48.1, x50, (.int .i64 8)] x48.2) fun x51 =>
    bnd (pConv Tryz.prog 3 5 x36.1 x51.2) fun x54 =>
    bnd (pBuildSlice Tryz.prog 33 1 #[(0, x54)] x51.2) fun x55 =>
    bnd (pAppend Tryz.prog #[33, 33] x51.1 x55.1 x55.2) fun x56 =>
    bnd (pAppend Tryz.prog #[33, 33] x56.1 x41 x56.2) fun x58 =>
    some (.tuple #[x58.1, (.int .i64 0)], x58.2)))))
theorem F148_eq : eFun env k inv 148 #[x0] h = F148 inv k x0 h := by
      refine (kq_fun (a := act 59 [(0, x0)]) (c := cp c148 1)).trans ?_
      unfold F148
      simp only [kq_seq c148 1, r148_0, kq_seq c148 3, kq_seq c148 6, r148_1, b148_rlr, kq_seq c148 26, r148_2, kq_ret c148 53, res148_0, kq_skip c148 27, kq_seq c148 7, r148_3, kq_seq c148 15, kq_seq c148 30, r148_4, F148_rlrrr_eq, kq_seq c148 31, r148_6, kq_seq c148 63, kq_seq c148 126, r148_7, kq_block c148 253 0, F148_lrlrrrrr_eq, kq_seq c148 127, r148_12, kq_seq c148 255, r148_13, kq_seq c148 511, kq_seq c148 1022, r148_14, b148_rlrrrrrrrr, kq_seq c148 4090, r148_15, kq_ret c148 8181, kq_skip c148 4091, kq_seq c148 1023, r148_16, kq_seq c148 2047, r148_17, kq_ret c148 4095, reduceIte, reduceCtorEq, XE.exit.injEq, Nat.reduceEqDiff, Nat.reduceMul, Nat.reduceAdd] <;> kernel_rfl
theorem F148_call : eInv env (k + 1) (.func 148) #[] #[x0] h = F148 (eInv env k) k x0 h := kq_inv F148_eq
noncomputable def c149 : Code := codeOf Tryz.prog 149
theorem r149_0  : kCode env 149 false inv k (cp c149 2) (act 62 [(0, x0), (1, x1)]) h K =
    K .normal (act 62 [(0, x0), (1, x1), (4, (.slice none 0 0))]) h := kq_reg
theorem r149_1  : kCode env 149 false inv k (cp c149 6) (act 62 [(0, x0), (1, x1), (4, x4)]) h K =
    bnd (inv (.func 77) #[] #[x0, (.int .i64 8)] h) fun x14 =>
    bnd (pExtract x14.1 0) fun x15 =>
    bnd (pExtract x14.1 1) fun x16 =>
    K .normal (act 62 [(0, x0), (1, x1), (4, x4), (5, x16), (6, x15)]) x14.2 := kq_reg
theorem r149_2  : kCode env 149 false inv k (cp c149 28) (act 62 [(0, x0), (1, x1), (4, x4), (5, x5), (6, x6)]) h K =
    bnd (pBin Tryz.prog .neq 25 (.tmp 17) (.const (.int .i64 0)) x5 (.int .i64 0)) fun x18 =>
    K .normal (act 62 [(0, x0), (1, x1), (4, x4), (5, x5), (6, x6), (18, x18)]) h := kq_reg
theorem b149_rlrr  : kCode env 149 false inv k (cp c149 29) (act 62 [(0, x0), (1, x1), (4, x4), (5, x5), (6, x6), (18, x18)]) h K = brV x18 (kCode env 149 false inv k (cp c149 58) (act 62 [(0, x0), (1, x1), (4, x4), (5, x5), (6, x6), (18, x18)]) h K) (kCode env 149 false inv k (cp c149 59) (act 62 [(0, x0), (1, x1), (4, x4), (5, x5), (6, x6), (18, x18)]) h K) := kq_cond
theorem r149_3  : kCode env 149 false inv k (cp c149 116) (act 62 [(0, x0), (1, x1), (4, x4), (5, x5), (6, x6), (18, x18)]) h K =
    K .normal (act 62 [(4, (.slice none 0 0)), (5, x5)]) h := kq_reg
theorem res149_0 : resOfFn env.P 149 .ret (act 62 [(4, x4), (5, x5)]) h = some (.tuple #[x4, x5], h) := kq_res
theorem r149_4  : kCode env 149 false inv k (cp c149 30) (act 62 [(0, x0), (1, x1), (4, x4), (5, x5), (6, x6), (18, x18)]) h K =
    bnd (inv (.func 77) #[] #[x0, (.int .i64 1)] h) fun x22 =>
    bnd (pExtract x22.1 0) fun x23 =>
    bnd (pExtract x22.1 1) fun x24 =>
    K .normal (act 62 [(0, x0), (1, x1), (4, x4), (5, x24), (6, x6), (7, x23)]) x22.2 := kq_reg
theorem r149_5  : kCode env 149 false inv k (cp c149 124) (act 62 [(0, x0), (1, x1), (4, x4), (5, x5), (6, x6), (7, x7)]) h K =
    bnd (pBin Tryz.prog .neq 25 (.tmp 25) (.const (.int .i64 0)) x5 (.int .i64 0)) fun x26 =>
    K .normal (act 62 [(0, x0), (1, x1), (4, x4), (5, x5), (6, x6), (7, x7), (26, x26)]) h := kq_reg
theorem b149_rlrrrr  : kCode env 149 false inv k (cp c149 125) (act 62 [(0, x0), (1, x1), (4, x4), (5, x5), (6, x6), (7, x7), (26, x26)]) h K = brV x26 (kCode env 149 false inv k (cp c149 250) (act 62 [(0, x0), (1, x1), (4, x4), (5, x5), (6, x6), (7, x7), (26, x26)]) h K) (kCode env 149 false inv k (cp c149 251) (act 62 [(0, x0), (1, x1), (4, x4), (5, x5), (6, x6), (7, x7), (26, x26)]) h K) := kq_cond
theorem r149_6  : kCode env 149 false inv k (cp c149 500) (act 62 [(0, x0), (1, x1), (4, x4), (5, x5), (6, x6), (7, x7), (26, x26)]) h K =
    K .normal (act 62 [(4, (.slice none 0 0)), (5, x5)]) h := kq_reg
theorem r149_7  : kCode env 149 false inv k (cp c149 126) (act 62 [(0, x0), (1, x1), (4, x4), (5, x5), (6, x6), (7, x7), (26, x26)]) h K =
    bnd (inv (.func 61) #[] #[x0] h) fun x31 =>
    bnd (inv (.func 60) #[] #[x0, x31.1] x31.2) fun x32 =>
    bnd (pExtract x32.1 0) fun x33 =>
    bnd (pExtract x32.1 1) fun x34 =>
    K .normal (act 62 [(1, x1), (4, x4), (5, x34), (6, x6), (7, x7), (8, x33)]) x32.2 := kq_reg
theorem r149_8  : kCode env 149 false inv k (cp c149 508) (act 62 [(1, x1), (4, x4), (5, x5), (6, x6), (7, x7), (8, x8)]) h K =
    bnd (pBin Tryz.prog .neq 25 (.tmp 35) (.const (.int .i64 0)) x5 (.int .i64 0)) fun x36 =>
    K .normal (act 62 [(1, x1), (4, x4), (5, x5), (6, x6), (7, x7), (8, x8), (36, x36)]) h := kq_reg
theorem b149_rlrrrrrr  : kCode env 149 false inv k (cp c149 509) (act 62 [(1, x1), (4, x4), (5, x5), (6, x6), (7, x7), (8, x8), (36, x36)]) h K = brV x36 (kCode env 149 false inv k (cp c149 1018) (act 62 [(1, x1), (4, x4), (5, x5), (6, x6), (7, x7), (8, x8), (36, x36)]) h K) (kCode env 149 false inv k (cp c149 1019) (act 62 [(1, x1), (4, x4), (5, x5), (6, x6), (7, x7), (8, x8), (36, x36)]) h K) := kq_cond
theorem r149_9  : kCode env 149 false inv k (cp c149 2036) (act 62 [(1, x1), (4, x4), (5, x5), (6, x6), (7, x7), (8, x8), (36, x36)]) h K =
    K .normal (act 62 [(4, (.slice none 0 0)), (5, x5)]) h := kq_reg
theorem r149_10  : kCode env 149 false inv k (cp c149 510) (act 62 [(1, x1), (4, x4), (5, x5), (6, x6), (7, x7), (8, x8), (36, x36)]) h K =
    bnd (pConv Tryz.prog 60 3 x7 h) fun x42 =>
    bnd (inv (.func 87) #[] #[x8, x1, x42] h) fun x43 =>
    bnd (pExtract x43.1 0) fun x44 =>
    bnd (pExtract x43.1 1) fun x45 =>
    K .normal (act 62 [(4, x4), (5, x45), (6, x6), (9, x44)]) x43.2 := kq_reg
theorem r149_11  : kCode env 149 false inv k (cp c149 2044) (act 62 [(4, x4), (5, x5), (6, x6), (9, x9)]) h K =
    bnd (pLen Tryz.prog #[63] x9 h) fun x47 =>
    K .normal (act 62 [(4, x4), (5, x5), (6, x6), (46, x9), (47, x47), (48, (.int .i64 0))]) h := kq_reg
theorem r149_12  : kCode env 149 false inv k (cp c149 16360) (act 62 [(4, x4), (5, x5), (6, x6), (46, x46), (47, x47), (48, x48)]) h K =
    bnd (pBin Tryz.prog .lss 3 (.tmp 48) (.tmp 47) x48 x47) fun x49 =>
    K .normal (act 62 [(4, x4), (5, x5), (6, x6), (46, x46), (47, x47), (48, x48), (49, x49)]) h := kq_reg
theorem b149_lrllrlrrrrrrrr  : kCode env 149 false inv k (cp c149 32722) (act 62 [(4, x4), (5, x5), (6, x6), (46, x46), (47, x47), (48, x48), (49, x49)]) h K = brV x49 (kCode env 149 false inv k (cp c149 65444) (act 62 [(4, x4), (5, x5), (6, x6), (46, x46), (47, x47), (48, x48), (49, x49)]) h K) (kCode env 149 false inv k (cp c149 65445) (act 62 [(4, x4), (5, x5), (6, x6), (46, x46), (47, x47), (48, x48), (49, x49)]) h K) := kq_cond
theorem r149_13  : kCode env 149 false inv k (cp c149 261784) (act 62 [(4, x4), (5, x5), (6, x6), (46, x46), (47, x47), (48, x48), (49, x49)]) h K =
    bnd (pIndexAddr Tryz.prog 63 x46 x48) fun x50 =>
    bnd (pLoad Tryz.prog 60 x50 h) fun x51 =>
    K .normal (act 62 [(4, x4), (5, x5), (6, x6), (11, x51), (46, x46), (47, x47), (48, x48)]) h := kq_reg
theorem r149_14  : kCode env 149 false inv k (cp c149 261785) (act 62 [(4, x4), (5, x5), (6, x6), (11, x11), (46, x46), (47, x47), (48, x48)]) h K =
    bnd (pBin Tryz.prog .add 60 (.tmp 53) (.tmp 54) x6 x11) fun x55 =>
    bnd (pConv Tryz.prog 60 2 x55 h) fun x56 =>
    bnd (pBuildSlice Tryz.prog 121 1 #[(0, x56)] h) fun x57 =>
    bnd (pAppend Tryz.prog #[121, 121] x4 x57.1 x57.2) fun x58 =>
    K .normal (act 62 [(4, x58.1), (5, x5), (6, x6), (46, x46), (47, x47), (48, x48)]) x58.2 := kq_reg
theorem r149_15  : kCode env 149 false inv k (cp c149 65447) (act 62 [(4, x4), (5, x5), (6, x6), (46, x46), (47, x47), (48, x48)]) h K =
    bnd (pBin Tryz.prog .add 3 (.tmp 48) (.const (.int .i64 1)) x48 (.int .i64 1)) fun x59 =>
    K .normal (act 62 [(4, x4), (5, x5), (6, x6), (46, x46), (47, x47), (48, x59)]) h := kq_reg
noncomputable def F149_lrlrrrrrrrr {β : Type} (inv : Inv) (k : Nat) : Nat → Value → Value → Value → Value → Value → Value → AH → (Value → Value → Value → Value → Value → Value → Value → AH → Option β) → Option β
  | 0, _, _, _, _, _, _, _, _ => none
  | j + 1, x4, x5, x6, x46, x47, x48, h, ke0 =>
    bnd (pBin Tryz.prog .lss 3 (.tmp 48) (.tmp 47) x48 x47) fun x49 =>
    brV x49
    (bnd (pIndexAddr Tryz.prog 63 x46 x48) fun x50 =>
    bnd (pLoad Tryz.prog 60 x50 h) fun x51 =>
    bnd (pBin Tryz.prog .add 60 (.tmp 53) (.tmp 54) x6 x51) fun x55 =>
    bnd (pConv Tryz.prog 60 2 x55 h) fun x56 =>
    bnd (pBuildSlice Tryz.prog 121 1 #[(0, x56)] h) fun x57 =>
    bnd (pAppend Tryz.prog #[121, 121] x4 x57.1 x57.2) fun x58 =>
    bnd (pBin Tryz.prog .add 3 (.tmp 48) (.const (.int .i64 1)) x48 (.int .i64 1)) fun x59 =>
    F149_lrlrrrrrrrr inv k j x58.1 x5 x6 x46 x47 x59 x58.2 ke0)
    (ke0 x4 x5 x6 x46 x47 x48 x49 h)
theorem F149_lrlrrrrrrrr_j (j : Nat) : kLoop (kCode env 149 false inv k (cp c149 8180)) j (act 62 [(4, x4), (5, x5), (6, x6), (46, x46), (47, x47), (48, x48)]) h K = F149_lrlrrrrrrrr inv k j x4 x5 x6 x46 x47 x48 h (fun y4 y5 y6 y46 y47 y48 y49 h => K (.exit 0) (act 62 [(4, y4), (5, y5), (6, y6), (46, y46), (47, y47), (48, y48), (49, y49)]) h) := by
      induction j generalizing x4 x5 x6 x46 x47 x48 h with
      | zero => rfl
      | succ j ih =>
        unfold F149_lrlrrrrrrrr
        simp only [kLoop, kq_seq c149 8180, r149_12, kq_seq c149 16361, b149_lrllrlrrrrrrrr, kq_skip c149 65444, kq_seq c149 32723, kq_block c149 65446 1, kq_seq c149 130892, r149_13, r149_14, r149_15, kq_exit c149 65445 0, ih, reduceIte, reduceCtorEq, XE.exit.injEq, Nat.reduceEqDiff, Nat.reduceMul, Nat.reduceAdd] <;> kernel_rfl
theorem F149_lrlrrrrrrrr_eq  : kCode env 149 false inv k (cp c149 4090) (act 62 [(4, x4), (5, x5), (6, x6), (46, x46), (47, x47), (48, x48)]) h K = F149_lrlrrrrrrrr inv k k x4 x5 x6 x46 x47 x48 h (fun y4 y5 y6 y46 y47 y48 y49 h => K (.exit 0) (act 62 [(4, y4), (5, y5), (6, y6), (46, y46), (47, y47), (48, y48), (49, y49)]) h) := kq_loop (F149_lrlrrrrrrrr_j k)
theorem r149_16  : kCode env 149 false inv k (cp c149 2046) (act 62 [(4, x4), (5, x5), (6, x6), (46, x46), (47, x47), (48, x48), (49, x49)]) h K =
    K .normal (act 62 [(4, x4), (5, x5)]) h := kq_reg
/-- shadowbook/ints.packed -/
noncomputable def F149 (inv : Inv) (k : Nat) (x0 x1 : Value) (h : AH) : Option (Value × AH) :=
    bnd (inv (.func 77) #[] #[x0, (.int .i64 8)] h) fun x14 =>
    bnd (pExtract x14.1 0) fun x15 =>
    bnd (pExtract x14.1 1) fun x16 =>
    bnd (pBin Tryz.prog .neq 25 (.tmp 17) (.const (.int .i64 0)) x16 (.int .i64 0)) fun x18 =>
    brV x18
    (some (.tuple #[(.slice none 0 0), x16], x14.2))
    (bnd (inv (.func 77) #[] #[x0, (.int .i64 1)] x14.2) fun x22 =>
    bnd (pExtract x22.1 0) fun x23 =>
    bnd (pExtract x22.1 1) fun x24 =>
    bnd (pBin Tryz.prog .neq 25 (.tmp 25) (.const (.int .i64 0)) x24 (.int .i64 0)) fun x26 =>
    brV x26
    (some (.tuple #[(.slice none 0 0), x24], x22.2))
    (bnd (inv (.func 61) #[] #[x0] x22.2) fun x31 =>
    bnd (inv (.func 60) #[] #[x0, x31.1] x31.2) fun x32 =>
    bnd (pExtract x32.1 0) fun x33 =>
    bnd (pExtract x32.1 1) fun x34 =>
    bnd (pBin Tryz.prog .neq 25 (.tmp 35) (.const (.int .i64 0)) x34 (.int .i64 0)) fun x36 =>
    brV x36
    (some (.tuple #[(.slice none 0 0), x34], x32.2))
    (bnd (pConv Tryz.prog 60 3 x23 x32.2) fun x42 =>
    bnd (inv (.func 87) #[] #[x33, x1, x42] x32.2) fun x43 =>
    bnd (pExtract x43.1 0) fun x44 =>
    bnd (pExtract x43.1 1) fun x45 =>
    bnd (pLen Tryz.prog #[63] x44 x43.2) fun x47 =>
    F149_lrlrrrrrrrr inv k k (.slice none 0 0) x45 x15 x44 x47 (.int .i64 0) x43.2
    (fun y4 y5 y6 y46 y47 y48 y49 h =>
    some (.tuple #[y4, y5], h)))))
theorem F149_eq : eFun env k inv 149 #[x0, x1] h = F149 inv k x0 x1 h := by
      refine (kq_fun (a := act 62 [(0, x0), (1, x1)]) (c := cp c149 1)).trans ?_
      unfold F149
      simp only [kq_seq c149 1, r149_0, kq_seq c149 3, r149_1, kq_seq c149 7, kq_seq c149 14, r149_2, b149_rlrr, kq_seq c149 58, r149_3, kq_ret c149 117, res149_0, kq_skip c149 59, kq_seq c149 15, r149_4, kq_seq c149 31, kq_seq c149 62, r149_5, b149_rlrrrr, kq_seq c149 250, r149_6, kq_ret c149 501, kq_skip c149 251, kq_seq c149 63, r149_7, kq_seq c149 127, kq_seq c149 254, r149_8, b149_rlrrrrrr, kq_seq c149 1018, r149_9, kq_ret c149 2037, kq_skip c149 1019, kq_seq c149 255, r149_10, kq_seq c149 511, kq_seq c149 1022, r149_11, kq_block c149 2045 0, F149_lrlrrrrrrrr_eq, kq_seq c149 1023, r149_16, kq_ret c149 2047, reduceIte, reduceCtorEq, XE.exit.injEq, Nat.reduceEqDiff, Nat.reduceMul, Nat.reduceAdd] <;> kernel_rfl
theorem F149_call : eInv env (k + 1) (.func 149) #[] #[x0, x1] h = F149 (eInv env k) k x0 x1 h := kq_inv F149_eq
noncomputable def c150 : Code := codeOf Tryz.prog 150
theorem r150_0  : kCode env 150 false inv k (cp c150 2) (act 6 [(0, x0)]) h K =
    K .normal (act 6 [(0, x0)]) h := kq_reg
theorem r150_1  : kCode env 150 false inv k (cp c150 6) (act 6 [(0, x0)]) h K =
    bnd (pBin Tryz.prog .neq 3 (.tmp 3) (.tmp 4) x0 x0) fun x5 =>
    K .normal (act 6 [(2, x5)]) h := kq_reg
theorem res150_0 : resOfFn env.P 150 .ret (act 6 [(2, x2)]) h = some (x2, h) := kq_res
/-- cmp.isNaN[int] -/
noncomputable def F150 (inv : Inv) (k : Nat) (x0 : Value) (h : AH) : Option (Value × AH) :=
    bnd (pBin Tryz.prog .neq 3 (.tmp 3) (.tmp 4) x0 x0) fun x5 =>
    some (x5, h)
theorem F150_eq : eFun env k inv 150 #[x0] h = F150 inv k x0 h := by
      refine (kq_fun (a := act 6 [(0, x0)]) (c := cp c150 1)).trans ?_
      unfold F150
      simp only [kq_seq c150 1, r150_0, kq_seq c150 3, r150_1, kq_ret c150 7, res150_0, reduceIte, reduceCtorEq, XE.exit.injEq, Nat.reduceEqDiff, Nat.reduceMul, Nat.reduceAdd] <;> kernel_rfl
theorem F150_call : eInv env (k + 1) (.func 150) #[] #[x0] h = F150 (eInv env k) k x0 h := kq_inv F150_eq
noncomputable def c151 : Code := codeOf Tryz.prog 151
theorem r151_0  : kCode env 151 false inv k (cp c151 2) (act 32 [(0, x0), (1, x1), (2, x2)]) h K =
    K .normal (act 32 [(0, x0), (1, x1), (2, x2), (6, (.int .u64 0))]) h := kq_reg
theorem r151_1  : kCode env 151 false inv k (cp c151 12) (act 32 [(0, x0), (1, x1), (2, x2), (6, x6)]) h K =
    K .normal (act 32 [(0, x0), (1, x1), (6, x6), (9, x2), (10, (.int .i64 0))]) h := kq_reg
theorem r151_2  : kCode env 151 false inv k (cp c151 104) (act 32 [(0, x0), (1, x1), (6, x6), (9, x9), (10, x10)]) h K =
    bnd (pBin Tryz.prog .lss 3 (.tmp 10) (.tmp 9) x10 x9) fun x11 =>
    K .normal (act 32 [(0, x0), (1, x1), (6, x6), (9, x9), (10, x10), (11, x11)]) h := kq_reg
theorem b151_lrllrlr  : kCode env 151 false inv k (cp c151 210) (act 32 [(0, x0), (1, x1), (6, x6), (9, x9), (10, x10), (11, x11)]) h K = brV x11 (kCode env 151 false inv k (cp c151 420) (act 32 [(0, x0), (1, x1), (6, x6), (9, x9), (10, x10), (11, x11)]) h K) (kCode env 151 false inv k (cp c151 421) (act 32 [(0, x0), (1, x1), (6, x6), (9, x9), (10, x10), (11, x11)]) h K) := kq_cond
theorem r151_3  : kCode env 151 false inv k (cp c151 1688) (act 32 [(0, x0), (1, x1), (6, x6), (9, x9), (10, x10), (11, x11)]) h K =
    K .normal (act 32 [(0, x0), (1, x1), (6, x6), (7, x10), (9, x9), (10, x10)]) h := kq_reg
theorem r151_4  : kCode env 151 false inv k (cp c151 3378) (act 32 [(0, x0), (1, x1), (6, x6), (7, x7), (9, x9), (10, x10)]) h K =
    bnd (pBin Tryz.prog .add 3 (.tmp 13) (.tmp 14) x1 x7) fun x15 =>
    K .normal (act 32 [(0, x0), (1, x1), (6, x6), (7, x7), (8, x15), (9, x9), (10, x10)]) h := kq_reg
noncomputable abbrev G151_5 {β : Type} (inv : Inv) (x0 x1 x6 x7 x8 x9 x10 : Value) (h : AH) (K : Value → AH → Option β) : Option β :=
    bnd (pBin Tryz.prog .quo 3 (.tmp 18) (.const (.int .i64 8)) x8 (.int .i64 8)) fun x19 =>
    bnd (pIndexAddr Tryz.prog 33 x0 x19) fun x20 =>
    bnd (pLoad Tryz.prog 5 x20 h) fun x21 =>
    bnd (pBin Tryz.prog .rem 3 (.tmp 22) (.const (.int .i64 8)) x8 (.int .i64 8)) fun x23 =>
    bnd (pBin Tryz.prog .shr 5 (.tmp 21) (.tmp 23) x21 x23) fun x24 =>
    bnd (pBin Tryz.prog .and 5 (.tmp 24) (.const (.int .u8 1)) x24 (.int .u8 1)) fun x25 =>
    bnd (pConv Tryz.prog 5 60 x25 h) fun x26 =>
    bnd (pBin Tryz.prog .shl 60 (.tmp 26) (.tmp 27) x26 x7) fun x28 =>
    bnd (pBin Tryz.prog .or 60 (.tmp 16) (.tmp 28) x6 x28) fun x29 =>
    K (x29) h
theorem r151_5  : kCode env 151 false inv k (cp c151 3379) (act 32 [(0, x0), (1, x1), (6, x6), (7, x7), (8, x8), (9, x9), (10, x10)]) h K =
    G151_5 inv x0 x1 x6 x7 x8 x9 x10 h fun y6 h => K .normal (act 32 [(0, x0), (1, x1), (6, y6), (9, x9), (10, x10)]) h := kq_reg
theorem r151_6  : kCode env 151 false inv k (cp c151 423) (act 32 [(0, x0), (1, x1), (6, x6), (9, x9), (10, x10)]) h K =
    bnd (pBin Tryz.prog .add 3 (.tmp 10) (.const (.int .i64 1)) x10 (.int .i64 1)) fun x30 =>
    K .normal (act 32 [(0, x0), (1, x1), (6, x6), (9, x9), (10, x30)]) h := kq_reg
noncomputable def F151_lrlr {β : Type} (inv : Inv) (k : Nat) : Nat → Value → Value → Value → Value → Value → AH → (Value → Value → Value → Value → Value → Value → AH → Option β) → Option β
  | 0, _, _, _, _, _, _, _ => none
  | j + 1, x0, x1, x6, x9, x10, h, ke0 =>
    bnd (pBin Tryz.prog .lss 3 (.tmp 10) (.tmp 9) x10 x9) fun x11 =>
    brV x11
    (bnd (pBin Tryz.prog .add 3 (.tmp 13) (.tmp 14) x1 x10) fun x15 =>
    G151_5 inv x0 x1 x6 x10 x15 x9 x10 h fun y6 h =>
    bnd (pBin Tryz.prog .add 3 (.tmp 10) (.const (.int .i64 1)) x10 (.int .i64 1)) fun x30 =>
    F151_lrlr inv k j x0 x1 y6 x9 x30 h ke0)
    (ke0 x0 x1 x6 x9 x10 x11 h)
theorem F151_lrlr_j (j : Nat) : kLoop (kCode env 151 false inv k (cp c151 52)) j (act 32 [(0, x0), (1, x1), (6, x6), (9, x9), (10, x10)]) h K = F151_lrlr inv k j x0 x1 x6 x9 x10 h (fun y0 y1 y6 y9 y10 y11 h => K (.exit 0) (act 32 [(0, y0), (1, y1), (6, y6), (9, y9), (10, y10), (11, y11)]) h) := by
      induction j generalizing x0 x1 x6 x9 x10 h with
      | zero => rfl
      | succ j ih =>
        unfold F151_lrlr
        simp only [kLoop, kq_seq c151 52, r151_2, kq_seq c151 105, b151_lrllrlr, kq_skip c151 420, kq_seq c151 211, kq_block c151 422 1, kq_seq c151 844, r151_3, kq_seq c151 1689, r151_4, r151_5, r151_6, kq_exit c151 421 0, ih, reduceIte, reduceCtorEq, XE.exit.injEq, Nat.reduceEqDiff, Nat.reduceMul, Nat.reduceAdd] <;> kernel_rfl
theorem F151_lrlr_eq  : kCode env 151 false inv k (cp c151 26) (act 32 [(0, x0), (1, x1), (6, x6), (9, x9), (10, x10)]) h K = F151_lrlr inv k k x0 x1 x6 x9 x10 h (fun y0 y1 y6 y9 y10 y11 h => K (.exit 0) (act 32 [(0, y0), (1, y1), (6, y6), (9, y9), (10, y10), (11, y11)]) h) := kq_loop (F151_lrlr_j k)
theorem r151_7  : kCode env 151 false inv k (cp c151 14) (act 32 [(0, x0), (1, x1), (6, x6), (9, x9), (10, x10), (11, x11)]) h K =
    K .normal (act 32 [(6, x6)]) h := kq_reg
theorem res151_0 : resOfFn env.P 151 .ret (act 32 [(6, x6)]) h = some (x6, h) := kq_res
/-- shadowbook/packs.at -/
noncomputable def F151 (inv : Inv) (k : Nat) (x0 x1 x2 : Value) (h : AH) : Option (Value × AH) :=
    F151_lrlr inv k k x0 x1 (.int .u64 0) x2 (.int .i64 0) h
    (fun y0 y1 y6 y9 y10 y11 h =>
    some (y6, h))
theorem F151_eq : eFun env k inv 151 #[x0, x1, x2] h = F151 inv k x0 x1 x2 h := by
      refine (kq_fun (a := act 32 [(0, x0), (1, x1), (2, x2)]) (c := cp c151 1)).trans ?_
      unfold F151
      simp only [kq_seq c151 1, r151_0, kq_seq c151 3, kq_seq c151 6, r151_1, kq_block c151 13 0, F151_lrlr_eq, kq_seq c151 7, r151_7, kq_ret c151 15, res151_0, reduceIte, reduceCtorEq, XE.exit.injEq, Nat.reduceEqDiff, Nat.reduceMul, Nat.reduceAdd] <;> kernel_rfl
theorem F151_call : eInv env (k + 1) (.func 151) #[] #[x0, x1, x2] h = F151 (eInv env k) k x0 x1 x2 h := kq_inv F151_eq
noncomputable def c152 : Code := codeOf Tryz.prog 152
theorem r152_0  : kCode env 152 false inv k (cp c152 4) (act 26 [(0, x0), (1, x1), (2, x2), (3, x3)]) h K =
    bnd (pLoad Tryz.prog 33 x1 h) fun x6 =>
    bnd (pLoad Tryz.prog 3 x2 h) fun x7 =>
    bnd (pLoad Tryz.prog 3 x3 h) fun x8 =>
    bnd (inv (.func 127) #[] #[x6, x7, x8] h) fun x9 =>
    bnd (pBin Tryz.prog .neq 25 (.tmp 9) (.const (.int .i64 0)) x9.1 (.int .i64 0)) fun x10 =>
    K .normal (act 26 [(0, x0), (1, x1), (2, x2), (3, x3), (10, x10)]) x9.2 := kq_reg
theorem b152_rl  : kCode env 152 false inv k (cp c152 5) (act 26 [(0, x0), (1, x1), (2, x2), (3, x3), (10, x10)]) h K = brV x10 (kCode env 152 false inv k (cp c152 10) (act 26 [(0, x0), (1, x1), (2, x2), (3, x3), (10, x10)]) h K) (kCode env 152 false inv k (cp c152 11) (act 26 [(0, x0), (1, x1), (2, x2), (3, x3), (10, x10)]) h K) := kq_cond
theorem res152_0 : resOfFn env.P 152 .ret (act 26 [(0, x0), (1, x1), (2, x2), (3, x3), (10, x10)]) h = some (.tuple #[], h) := kq_res
theorem r152_1  : kCode env 152 false inv k (cp c152 6) (act 26 [(0, x0), (1, x1), (2, x2), (3, x3), (10, x10)]) h K =
    bnd (pLoad Tryz.prog 3 x2 h) fun x11 =>
    K .normal (act 26 [(0, x0), (1, x1), (3, x3), (11, x11), (12, (.int .i64 0))]) h := kq_reg
theorem r152_2  : kCode env 152 false inv k (cp c152 56) (act 26 [(0, x0), (1, x1), (3, x3), (11, x11), (12, x12)]) h K =
    bnd (pBin Tryz.prog .lss 3 (.tmp 12) (.tmp 11) x12 x11) fun x13 =>
    K .normal (act 26 [(0, x0), (1, x1), (3, x3), (11, x11), (12, x12), (13, x13)]) h := kq_reg
theorem b152_lrllrr  : kCode env 152 false inv k (cp c152 114) (act 26 [(0, x0), (1, x1), (3, x3), (11, x11), (12, x12), (13, x13)]) h K = brV x13 (kCode env 152 false inv k (cp c152 228) (act 26 [(0, x0), (1, x1), (3, x3), (11, x11), (12, x12), (13, x13)]) h K) (kCode env 152 false inv k (cp c152 229) (act 26 [(0, x0), (1, x1), (3, x3), (11, x11), (12, x12), (13, x13)]) h K) := kq_cond
theorem r152_3  : kCode env 152 false inv k (cp c152 920) (act 26 [(0, x0), (1, x1), (3, x3), (11, x11), (12, x12), (13, x13)]) h K =
    K .normal (act 26 [(0, x0), (1, x1), (3, x3), (5, x12), (11, x11), (12, x12)]) h := kq_reg
theorem r152_4  : kCode env 152 false inv k (cp c152 1842) (act 26 [(0, x0), (1, x1), (3, x3), (5, x5), (11, x11), (12, x12)]) h K =
    bnd (pLoad Tryz.prog 33 x1 h) fun x17 =>
    bnd (pLoad Tryz.prog 3 x3 h) fun x19 =>
    bnd (pBin Tryz.prog .mul 3 (.tmp 18) (.tmp 19) x5 x19) fun x20 =>
    bnd (pLoad Tryz.prog 3 x3 h) fun x21 =>
    bnd (inv (.func 151) #[] #[x17, x20, x21] h) fun x22 =>
    bnd (callV inv x0 #[x5, x22.1] x22.2) fun x23 =>
    bnd (pUn Tryz.prog .not x23.1) fun x24 =>
    K .normal (act 26 [(0, x0), (1, x1), (3, x3), (11, x11), (12, x12), (24, x24)]) x23.2 := kq_reg
theorem b152_rrllrrllrr  : kCode env 152 false inv k (cp c152 1843) (act 26 [(0, x0), (1, x1), (3, x3), (11, x11), (12, x12), (24, x24)]) h K = brV x24 (kCode env 152 false inv k (cp c152 3686) (act 26 [(0, x0), (1, x1), (3, x3), (11, x11), (12, x12), (24, x24)]) h K) (kCode env 152 false inv k (cp c152 3687) (act 26 [(0, x0), (1, x1), (3, x3), (11, x11), (12, x12), (24, x24)]) h K) := kq_cond
theorem r152_5  : kCode env 152 false inv k (cp c152 231) (act 26 [(0, x0), (1, x1), (3, x3), (11, x11), (12, x12), (24, x24)]) h K =
    bnd (pBin Tryz.prog .add 3 (.tmp 12) (.const (.int .i64 1)) x12 (.int .i64 1)) fun x25 =>
    K .normal (act 26 [(0, x0), (1, x1), (3, x3), (11, x11), (12, x25)]) h := kq_reg
noncomputable def F152_lrr {β : Type} (inv : Inv) (k : Nat) : Nat → Value → Value → Value → Value → Value → AH → (Value → Value → Value → Value → Value → Value → AH → Option β) → (Value → Value → Value → Value → Value → Value → AH → Option β) → Option β
  | 0, _, _, _, _, _, _, _, _ => none
  | j + 1, x0, x1, x3, x11, x12, h, ke0, kr =>
    bnd (pBin Tryz.prog .lss 3 (.tmp 12) (.tmp 11) x12 x11) fun x13 =>
    brV x13
    (bnd (pLoad Tryz.prog 33 x1 h) fun x17 =>
    bnd (pLoad Tryz.prog 3 x3 h) fun x19 =>
    bnd (pBin Tryz.prog .mul 3 (.tmp 18) (.tmp 19) x12 x19) fun x20 =>
    bnd (pLoad Tryz.prog 3 x3 h) fun x21 =>
    bnd (inv (.func 151) #[] #[x17, x20, x21] h) fun x22 =>
    bnd (callV inv x0 #[x12, x22.1] x22.2) fun x23 =>
    bnd (pUn Tryz.prog .not x23.1) fun x24 =>
    brV x24
    (kr x0 x1 x3 x11 x12 x24 x23.2)
    (bnd (pBin Tryz.prog .add 3 (.tmp 12) (.const (.int .i64 1)) x12 (.int .i64 1)) fun x25 =>
    F152_lrr inv k j x0 x1 x3 x11 x25 x23.2 ke0 kr))
    (ke0 x0 x1 x3 x11 x12 x13 h)
theorem F152_lrr_j (j : Nat) : kLoop (kCode env 152 false inv k (cp c152 28)) j (act 26 [(0, x0), (1, x1), (3, x3), (11, x11), (12, x12)]) h K = F152_lrr inv k j x0 x1 x3 x11 x12 h (fun y0 y1 y3 y11 y12 y13 h => K (.exit 0) (act 26 [(0, y0), (1, y1), (3, y3), (11, y11), (12, y12), (13, y13)]) h) (fun y0 y1 y3 y11 y12 y24 h => K .ret (act 26 [(0, y0), (1, y1), (3, y3), (11, y11), (12, y12), (24, y24)]) h) := by
      induction j generalizing x0 x1 x3 x11 x12 h with
      | zero => rfl
      | succ j ih =>
        unfold F152_lrr
        simp only [kLoop, kq_seq c152 28, r152_2, kq_seq c152 57, b152_lrllrr, kq_skip c152 228, kq_seq c152 115, kq_block c152 230 1, kq_seq c152 460, r152_3, kq_seq c152 921, r152_4, b152_rrllrrllrr, kq_ret c152 3686, kq_skip c152 3687, r152_5, kq_exit c152 229 0, ih, reduceIte, reduceCtorEq, XE.exit.injEq, Nat.reduceEqDiff, Nat.reduceMul, Nat.reduceAdd] <;> kernel_rfl
theorem F152_lrr_eq  : kCode env 152 false inv k (cp c152 14) (act 26 [(0, x0), (1, x1), (3, x3), (11, x11), (12, x12)]) h K = F152_lrr inv k k x0 x1 x3 x11 x12 h (fun y0 y1 y3 y11 y12 y13 h => K (.exit 0) (act 26 [(0, y0), (1, y1), (3, y3), (11, y11), (12, y12), (13, y13)]) h) (fun y0 y1 y3 y11 y12 y24 h => K .ret (act 26 [(0, y0), (1, y1), (3, y3), (11, y11), (12, y12), (24, y24)]) h) := kq_loop (F152_lrr_j k)
theorem res152_1 : resOfFn env.P 152 .normal (act 26 [(0, x0), (1, x1), (3, x3), (11, x11), (12, x12), (13, x13)]) h = some (.tuple #[], h) := kq_res
theorem res152_2 : resOfFn env.P 152 .ret (act 26 [(0, x0), (1, x1), (3, x3), (11, x11), (12, x12), (24, x24)]) h = some (.tuple #[], h) := kq_res
/-- shadowbook/packs.Each$1 -/
noncomputable def F152 (inv : Inv) (k : Nat) (x0 x1 x2 x3 : Value) (h : AH) : Option (Value × AH) :=
    bnd (pLoad Tryz.prog 33 x1 h) fun x6 =>
    bnd (pLoad Tryz.prog 3 x2 h) fun x7 =>
    bnd (pLoad Tryz.prog 3 x3 h) fun x8 =>
    bnd (inv (.func 127) #[] #[x6, x7, x8] h) fun x9 =>
    bnd (pBin Tryz.prog .neq 25 (.tmp 9) (.const (.int .i64 0)) x9.1 (.int .i64 0)) fun x10 =>
    brV x10
    (some (.tuple #[], x9.2))
    (bnd (pLoad Tryz.prog 3 x2 x9.2) fun x11 =>
    F152_lrr inv k k x0 x1 x3 x11 (.int .i64 0) x9.2
    (fun y0 y1 y3 y11 y12 y13 h =>
    some (.tuple #[], h))
    (fun y0_1 y1_2 y3_3 y11_4 y12_5 y24 h_6 =>
    some (.tuple #[], h_6)))
theorem F152_eq : eFun env k inv 152 #[x0, x1, x2, x3] h = F152 inv k x0 x1 x2 x3 h := by
      refine (kq_fun (a := act 26 [(0, x0), (1, x1), (2, x2), (3, x3)]) (c := cp c152 1)).trans ?_
      unfold F152
      simp only [kq_seq c152 1, kq_seq c152 2, r152_0, b152_rl, kq_ret c152 10, res152_0, kq_skip c152 11, kq_seq c152 3, r152_1, kq_block c152 7 0, F152_lrr_eq, res152_1, res152_2, reduceIte, reduceCtorEq, XE.exit.injEq, Nat.reduceEqDiff, Nat.reduceMul, Nat.reduceAdd] <;> kernel_rfl
theorem F152_call : eInv env (k + 1) (.func 152) #[] #[x0, x1, x2, x3] h = F152 (eInv env k) k x0 x1 x2 x3 h := kq_inv F152_eq
noncomputable def c153 : Code := codeOf Tryz.prog 153
theorem r153_0  : kCode env 153 false inv k (cp c153 2) (act 9 [(0, x0), (1, x1)]) h K =
    K .normal (act 9 [(0, x0), (1, x1)]) h := kq_reg
theorem r153_1  : kCode env 153 false inv k (cp c153 6) (act 9 [(0, x0), (1, x1)]) h K =
    bnd (inv (.func 167) #[] #[x0, x1] h) fun x7 =>
    bnd (pBin Tryz.prog .geq 3 (.tmp 7) (.const (.int .i64 0)) x7.1 (.int .i64 0)) fun x8 =>
    K .normal (act 9 [(4, x8)]) x7.2 := kq_reg
theorem res153_0 : resOfFn env.P 153 .ret (act 9 [(4, x4)]) h = some (x4, h) := kq_res
/-- slices.ContainsFunc[[]byte,byte] -/
noncomputable def F153 (inv : Inv) (k : Nat) (x0 x1 : Value) (h : AH) : Option (Value × AH) :=
    bnd (inv (.func 167) #[] #[x0, x1] h) fun x7 =>
    bnd (pBin Tryz.prog .geq 3 (.tmp 7) (.const (.int .i64 0)) x7.1 (.int .i64 0)) fun x8 =>
    some (x8, x7.2)
theorem F153_eq : eFun env k inv 153 #[x0, x1] h = F153 inv k x0 x1 h := by
      refine (kq_fun (a := act 9 [(0, x0), (1, x1)]) (c := cp c153 1)).trans ?_
      unfold F153
      simp only [kq_seq c153 1, r153_0, kq_seq c153 3, r153_1, kq_ret c153 7, res153_0, reduceIte, reduceCtorEq, XE.exit.injEq, Nat.reduceEqDiff, Nat.reduceMul, Nat.reduceAdd] <;> kernel_rfl
theorem F153_call : eInv env (k + 1) (.func 153) #[] #[x0, x1] h = F153 (eInv env k) k x0 x1 h := kq_inv F153_eq
noncomputable def c154 : Code := codeOf Tryz.prog 154
theorem r154_0  : kCode env 154 false inv k (cp c154 2) (act 5 [(0, x0)]) h K =
    K .normal (act 5 [(0, x0)]) h := kq_reg
theorem r154_1  : kCode env 154 false inv k (cp c154 6) (act 5 [(0, x0)]) h K =
    bnd (pBin Tryz.prog .lss 5 (.tmp 3) (.const (.int .u8 128)) x0 (.int .u8 128)) fun x4 =>
    K .normal (act 5 [(2, x4)]) h := kq_reg
theorem res154_0 : resOfFn env.P 154 .ret (act 5 [(2, x2)]) h = some (x2, h) := kq_res
/-- (*shadowbook/octet.Reader).ends$1 -/
noncomputable def F154 (inv : Inv) (k : Nat) (x0 : Value) (h : AH) : Option (Value × AH) :=
    bnd (pBin Tryz.prog .lss 5 (.tmp 3) (.const (.int .u8 128)) x0 (.int .u8 128)) fun x4 =>
    some (x4, h)
theorem F154_eq : eFun env k inv 154 #[x0] h = F154 inv k x0 h := by
      refine (kq_fun (a := act 5 [(0, x0)]) (c := cp c154 1)).trans ?_
      unfold F154
      simp only [kq_seq c154 1, r154_0, kq_seq c154 3, r154_1, kq_ret c154 7, res154_0, reduceIte, reduceCtorEq, XE.exit.injEq, Nat.reduceEqDiff, Nat.reduceMul, Nat.reduceAdd] <;> kernel_rfl
theorem F154_call : eInv env (k + 1) (.func 154) #[] #[x0] h = F154 (eInv env k) k x0 h := kq_inv F154_eq
noncomputable def c155 : Code := codeOf Tryz.prog 155
theorem r155_0  : kCode env 155 false inv k (cp c155 2) (act 10 [(0, x0)]) h K =
    K .normal (act 10 [(0, x0)]) h := kq_reg
theorem r155_1  : kCode env 155 false inv k (cp c155 12) (act 10 [(0, x0)]) h K =
    bnd (pLen Tryz.prog #[122] x0 h) fun x4 =>
    bnd (pBin Tryz.prog .gtr 3 (.tmp 4) (.const (.int .i64 4096)) x4 (.int .i64 4096)) fun x5 =>
    bnd (gd (some x5) false h (some (x0, h))) fun x7 =>
    bnd (gd (some x5) false x7.2 (inv (.func 168) #[] #[x7.1, (.func (.func 169) #[] #[])] x7.2)) fun x8 =>
    bnd (pickV x5 (.bool true) x8.1) fun x9 =>
    K .normal (act 10 [(9, x9)]) x8.2 := kq_reg
theorem b155_rlr  : kCode env 155 false inv k (cp c155 13) (act 10 [(9, x9)]) h K = brV x9 (kCode env 155 false inv k (cp c155 26) (act 10 [(9, x9)]) h K) (kCode env 155 false inv k (cp c155 27) (act 10 [(9, x9)]) h K) := kq_cond
theorem r155_2  : kCode env 155 false inv k (cp c155 52) (act 10 [(9, x9)]) h K =
    K .normal (act 10 [(2, (.int .i64 3))]) h := kq_reg
theorem res155_0 : resOfFn env.P 155 .ret (act 10 [(2, x2)]) h = some (x2, h) := kq_res
theorem r155_3  : kCode env 155 false inv k (cp c155 14) (act 10 [(9, x9)]) h K =
    K .normal (act 10 [(2, (.int .i64 0))]) h := kq_reg
/-- shadowbook/texts.check -/
noncomputable def F155 (inv : Inv) (k : Nat) (x0 : Value) (h : AH) : Option (Value × AH) :=
    bnd (pLen Tryz.prog #[122] x0 h) fun x4 =>
    bnd (pBin Tryz.prog .gtr 3 (.tmp 4) (.const (.int .i64 4096)) x4 (.int .i64 4096)) fun x5 =>
    bnd (gd (some x5) false h (some (x0, h))) fun x7 =>
    bnd (gd (some x5) false x7.2 (inv (.func 168) #[] #[x7.1, (.func (.func 169) #[] #[])] x7.2)) fun x8 =>
    bnd (pickV x5 (.bool true) x8.1) fun x9 =>
    brV x9
    (some ((.int .i64 3), x8.2))
    (some ((.int .i64 0), x8.2))
theorem F155_eq : eFun env k inv 155 #[x0] h = F155 inv k x0 h := by
      refine (kq_fun (a := act 10 [(0, x0)]) (c := cp c155 1)).trans ?_
      unfold F155
      simp only [kq_seq c155 1, r155_0, kq_seq c155 3, kq_seq c155 6, r155_1, b155_rlr, kq_seq c155 26, r155_2, kq_ret c155 53, res155_0, kq_skip c155 27, kq_seq c155 7, r155_3, kq_ret c155 15, reduceIte, reduceCtorEq, XE.exit.injEq, Nat.reduceEqDiff, Nat.reduceMul, Nat.reduceAdd] <;> kernel_rfl
theorem F155_call : eInv env (k + 1) (.func 155) #[] #[x0] h = F155 (eInv env k) k x0 h := kq_inv F155_eq
noncomputable def c156 : Code := codeOf Tryz.prog 156
theorem r156_0  : kCode env 156 false inv k (cp c156 2) (act 12 [(0, x0), (1, x1)]) h K =
    K .normal (act 12 [(0, x0), (1, x1)]) h := kq_reg
theorem r156_1  : kCode env 156 false inv k (cp c156 6) (act 12 [(0, x0), (1, x1)]) h K =
    bnd (pLen Tryz.prog #[9] x1 h) fun x7 =>
    bnd (pConv Tryz.prog 3 60 x7 h) fun x8 =>
    bnd (inv (.func 47) #[] #[x0, x8] h) fun x9 =>
    bnd (pAppend Tryz.prog #[33, 9] x9.1 x1 x9.2) fun x11 =>
    K .normal (act 12 [(4, x11.1)]) x11.2 := kq_reg
theorem res156_0 : resOfFn env.P 156 .ret (act 12 [(4, x4)]) h = some (x4, h) := kq_res
/-- shadowbook/texts.text -/
noncomputable def F156 (inv : Inv) (k : Nat) (x0 x1 : Value) (h : AH) : Option (Value × AH) :=
    bnd (pLen Tryz.prog #[9] x1 h) fun x7 =>
    bnd (pConv Tryz.prog 3 60 x7 h) fun x8 =>
    bnd (inv (.func 47) #[] #[x0, x8] h) fun x9 =>
    bnd (pAppend Tryz.prog #[33, 9] x9.1 x1 x9.2) fun x11 =>
    some (x11.1, x11.2)
theorem F156_eq : eFun env k inv 156 #[x0, x1] h = F156 inv k x0 x1 h := by
      refine (kq_fun (a := act 12 [(0, x0), (1, x1)]) (c := cp c156 1)).trans ?_
      unfold F156
      simp only [kq_seq c156 1, r156_0, kq_seq c156 3, r156_1, kq_ret c156 7, res156_0, reduceIte, reduceCtorEq, XE.exit.injEq, Nat.reduceEqDiff, Nat.reduceMul, Nat.reduceAdd] <;> kernel_rfl
theorem F156_call : eInv env (k + 1) (.func 156) #[] #[x0, x1] h = F156 (eInv env k) k x0 x1 h := kq_inv F156_eq
noncomputable def c157 : Code := codeOf Tryz.prog 157
theorem r157_0  : kCode env 157 false inv k (cp c157 2) (act 20 [(0, x0)]) h K =
    K .normal (act 20 [(0, x0)]) h := kq_reg
theorem r157_1  : kCode env 157 false inv k (cp c157 6) (act 20 [(0, x0)]) h K =
    bnd (pMakeMap Tryz.prog 199 none h) fun x6 =>
    K .normal (act 20 [(0, x0), (3, x6.1)]) x6.2 := kq_reg
theorem r157_2  : kCode env 157 false inv k (cp c157 28) (act 20 [(0, x0), (3, x3)]) h K =
    bnd (pLen Tryz.prog #[122] x0 h) fun x8 =>
    K .normal (act 20 [(3, x3), (7, x0), (8, x8), (9, (.int .i64 0))]) h := kq_reg
theorem r157_3  : kCode env 157 false inv k (cp c157 232) (act 20 [(3, x3), (7, x7), (8, x8), (9, x9)]) h K =
    bnd (pBin Tryz.prog .lss 3 (.tmp 9) (.tmp 8) x9 x8) fun x10 =>
    K .normal (act 20 [(3, x3), (7, x7), (8, x8), (9, x9), (10, x10)]) h := kq_reg
theorem b157_lrllrlrr  : kCode env 157 false inv k (cp c157 466) (act 20 [(3, x3), (7, x7), (8, x8), (9, x9), (10, x10)]) h K = brV x10 (kCode env 157 false inv k (cp c157 932) (act 20 [(3, x3), (7, x7), (8, x8), (9, x9), (10, x10)]) h K) (kCode env 157 false inv k (cp c157 933) (act 20 [(3, x3), (7, x7), (8, x8), (9, x9), (10, x10)]) h K) := kq_cond
theorem r157_4  : kCode env 157 false inv k (cp c157 3736) (act 20 [(3, x3), (7, x7), (8, x8), (9, x9), (10, x10)]) h K =
    bnd (pIndexAddr Tryz.prog 122 x7 x9) fun x11 =>
    bnd (pLoad Tryz.prog 9 x11 h) fun x12 =>
    K .normal (act 20 [(3, x3), (5, x12), (7, x7), (8, x8), (9, x9)]) h := kq_reg
theorem r157_5  : kCode env 157 false inv k (cp c157 3737) (act 20 [(3, x3), (5, x5), (7, x7), (8, x8), (9, x9)]) h K =
    bnd (pBuild Tryz.prog 200 #[]) fun x15 =>
    bnd (kSt (pUpdate Tryz.prog 199 x3 x5 x15 h)) fun u =>
    K .normal (act 20 [(3, x3), (7, x7), (8, x8), (9, x9)]) u.2 := kq_reg
theorem r157_6  : kCode env 157 false inv k (cp c157 935) (act 20 [(3, x3), (7, x7), (8, x8), (9, x9)]) h K =
    bnd (pBin Tryz.prog .add 3 (.tmp 9) (.const (.int .i64 1)) x9 (.int .i64 1)) fun x16 =>
    K .normal (act 20 [(3, x3), (7, x7), (8, x8), (9, x16)]) h := kq_reg
noncomputable def F157_lrlrr {β : Type} (inv : Inv) (k : Nat) : Nat → Value → Value → Value → Value → AH → (Value → Value → Value → Value → Value → AH → Option β) → Option β
  | 0, _, _, _, _, _, _ => none
  | j + 1, x3, x7, x8, x9, h, ke0 =>
    bnd (pBin Tryz.prog .lss 3 (.tmp 9) (.tmp 8) x9 x8) fun x10 =>
    brV x10
    (bnd (pIndexAddr Tryz.prog 122 x7 x9) fun x11 =>
    bnd (pLoad Tryz.prog 9 x11 h) fun x12 =>
    bnd (pBuild Tryz.prog 200 #[]) fun x15 =>
    bnd (kSt (pUpdate Tryz.prog 199 x3 x12 x15 h)) fun u =>
    bnd (pBin Tryz.prog .add 3 (.tmp 9) (.const (.int .i64 1)) x9 (.int .i64 1)) fun x16 =>
    F157_lrlrr inv k j x3 x7 x8 x16 u.2 ke0)
    (ke0 x3 x7 x8 x9 x10 h)
theorem F157_lrlrr_j (j : Nat) : kLoop (kCode env 157 false inv k (cp c157 116)) j (act 20 [(3, x3), (7, x7), (8, x8), (9, x9)]) h K = F157_lrlrr inv k j x3 x7 x8 x9 h (fun y3 y7 y8 y9 y10 h => K (.exit 0) (act 20 [(3, y3), (7, y7), (8, y8), (9, y9), (10, y10)]) h) := by
      induction j generalizing x3 x7 x8 x9 h with
      | zero => rfl
      | succ j ih =>
        unfold F157_lrlrr
        simp only [kLoop, kq_seq c157 116, r157_3, kq_seq c157 233, b157_lrllrlrr, kq_skip c157 932, kq_seq c157 467, kq_block c157 934 1, kq_seq c157 1868, r157_4, r157_5, r157_6, kq_exit c157 933 0, ih, reduceIte, reduceCtorEq, XE.exit.injEq, Nat.reduceEqDiff, Nat.reduceMul, Nat.reduceAdd] <;> kernel_rfl
theorem F157_lrlrr_eq  : kCode env 157 false inv k (cp c157 58) (act 20 [(3, x3), (7, x7), (8, x8), (9, x9)]) h K = F157_lrlrr inv k k x3 x7 x8 x9 h (fun y3 y7 y8 y9 y10 h => K (.exit 0) (act 20 [(3, y3), (7, y7), (8, y8), (9, y9), (10, y10)]) h) := kq_loop (F157_lrlrr_j k)
theorem r157_7  : kCode env 157 false inv k (cp c157 30) (act 20 [(3, x3), (7, x7), (8, x8), (9, x9), (10, x10)]) h K =
    bnd (inv (.func 171) #[] #[x3] h) fun x18 =>
    bnd (inv (.func 170) #[] #[x18.1] x18.2) fun x19 =>
    K .normal (act 20 [(2, x19.1)]) x19.2 := kq_reg
theorem res157_0 : resOfFn env.P 157 .ret (act 20 [(2, x2)]) h = some (x2, h) := kq_res
/-- shadowbook/texts.Words -/
noncomputable def F157 (inv : Inv) (k : Nat) (x0 : Value) (h : AH) : Option (Value × AH) :=
    bnd (pMakeMap Tryz.prog 199 none h) fun x6 =>
    bnd (pLen Tryz.prog #[122] x0 x6.2) fun x8 =>
    F157_lrlrr inv k k x6.1 x0 x8 (.int .i64 0) x6.2
    (fun y3 y7 y8 y9 y10 h =>
    bnd (inv (.func 171) #[] #[y3] h) fun x18 =>
    bnd (inv (.func 170) #[] #[x18.1] x18.2) fun x19 =>
    some (x19.1, x19.2))
theorem F157_eq : eFun env k inv 157 #[x0] h = F157 inv k x0 h := by
      refine (kq_fun (a := act 20 [(0, x0)]) (c := cp c157 1)).trans ?_
      unfold F157
      simp only [kq_seq c157 1, r157_0, kq_seq c157 3, r157_1, kq_seq c157 7, kq_seq c157 14, r157_2, kq_block c157 29 0, F157_lrlrr_eq, kq_seq c157 15, r157_7, kq_ret c157 31, res157_0, reduceIte, reduceCtorEq, XE.exit.injEq, Nat.reduceEqDiff, Nat.reduceMul, Nat.reduceAdd] <;> kernel_rfl
theorem F157_call : eInv env (k + 1) (.func 157) #[] #[x0] h = F157 (eInv env k) k x0 h := kq_inv F157_eq
noncomputable def c158 : Code := codeOf Tryz.prog 158
theorem r158_0  : kCode env 158 false inv k (cp c158 2) (act 54 [(0, x0), (1, x1)]) h K =
    K .normal (act 54 [(0, x0), (1, x1)]) h := kq_reg
theorem r158_1  : kCode env 158 false inv k (cp c158 6) (act 54 [(0, x0), (1, x1)]) h K =
    bnd (pLen Tryz.prog #[122] x0 h) fun x11 =>
    K .normal (act 54 [(0, x0), (1, x1), (6, x11)]) h := kq_reg
theorem r158_2  : kCode env 158 false inv k (cp c158 14) (act 54 [(0, x0), (1, x1), (6, x6)]) h K =
    K .normal (act 54 [(0, x0), (1, x1), (6, x6), (7, (.int .i64 0)), (8, x6)]) h := kq_reg
theorem r158_3  : kCode env 158 false inv k (cp c158 480) (act 54 [(0, x0), (1, x1), (6, x6), (7, x7), (8, x8)]) h K =
    bnd (pBin Tryz.prog .lss 3 (.tmp 13) (.tmp 14) x7 x8) fun x15 =>
    K .normal (act 54 [(0, x0), (1, x1), (6, x6), (7, x7), (8, x8), (15, x15)]) h := kq_reg
theorem b158_rllllrrr  : kCode env 158 false inv k (cp c158 481) (act 54 [(0, x0), (1, x1), (6, x6), (7, x7), (8, x8), (15, x15)]) h K = brV x15 (kCode env 158 false inv k (cp c158 962) (act 54 [(0, x0), (1, x1), (6, x6), (7, x7), (8, x8), (15, x15)]) h K) (kCode env 158 false inv k (cp c158 963) (act 54 [(0, x0), (1, x1), (6, x6), (7, x7), (8, x8), (15, x15)]) h K) := kq_cond
theorem r158_4  : kCode env 158 false inv k (cp c158 964) (act 54 [(0, x0), (1, x1), (6, x6), (7, x7), (8, x8), (15, x15)]) h K =
    bnd (pBin Tryz.prog .add 3 (.tmp 16) (.tmp 17) x7 x8) fun x18 =>
    bnd (pConv Tryz.prog 3 109 x18 h) fun x19 =>
    bnd (pBin Tryz.prog .shr 109 (.tmp 19) (.const (.int .u64 1)) x19 (.int .u64 1)) fun x20 =>
    bnd (pConv Tryz.prog 109 3 x20 h) fun x21 =>
    K .normal (act 54 [(0, x0), (1, x1), (6, x6), (7, x7), (8, x8), (9, x21)]) h := kq_reg
theorem r158_5  : kCode env 158 false inv k (cp c158 1930) (act 54 [(0, x0), (1, x1), (6, x6), (7, x7), (8, x8), (9, x9)]) h K =
    bnd (pIndexAddr Tryz.prog 122 x0 x9) fun x24 =>
    bnd (pLoad Tryz.prog 9 x24 h) fun x25 =>
    bnd (inv (.func 172) #[] #[x25, x1] h) fun x27 =>
    K .normal (act 54 [(0, x0), (1, x1), (6, x6), (7, x7), (8, x8), (9, x9), (27, x27.1)]) x27.2 := kq_reg
theorem b158_rrlrlllrrr  : kCode env 158 false inv k (cp c158 1931) (act 54 [(0, x0), (1, x1), (6, x6), (7, x7), (8, x8), (9, x9), (27, x27)]) h K = brV x27 (kCode env 158 false inv k (cp c158 3862) (act 54 [(0, x0), (1, x1), (6, x6), (7, x7), (8, x8), (9, x9), (27, x27)]) h K) (kCode env 158 false inv k (cp c158 3863) (act 54 [(0, x0), (1, x1), (6, x6), (7, x7), (8, x8), (9, x9), (27, x27)]) h K) := kq_cond
theorem r158_6  : kCode env 158 false inv k (cp c158 3862) (act 54 [(0, x0), (1, x1), (6, x6), (7, x7), (8, x8), (9, x9), (27, x27)]) h K =
    bnd (pBin Tryz.prog .add 3 (.tmp 28) (.const (.int .i64 1)) x9 (.int .i64 1)) fun x29 =>
    K .normal (act 54 [(0, x0), (1, x1), (6, x6), (7, x29), (8, x8)]) h := kq_reg
theorem r158_7  : kCode env 158 false inv k (cp c158 3863) (act 54 [(0, x0), (1, x1), (6, x6), (7, x7), (8, x8), (9, x9), (27, x27)]) h K =
    K .normal (act 54 [(0, x0), (1, x1), (6, x6), (7, x7), (8, x9)]) h := kq_reg
noncomputable def F158_llrrr {β : Type} (inv : Inv) (k : Nat) : Nat → Value → Value → Value → Value → Value → AH → (Value → Value → Value → Value → Value → Value → AH → Option β) → Option β
  | 0, _, _, _, _, _, _, _ => none
  | j + 1, x0, x1, x6, x7, x8, h, ke0 =>
    bnd (pBin Tryz.prog .lss 3 (.tmp 13) (.tmp 14) x7 x8) fun x15 =>
    brV x15
    (bnd (pBin Tryz.prog .add 3 (.tmp 16) (.tmp 17) x7 x8) fun x18 =>
    bnd (pConv Tryz.prog 3 109 x18 h) fun x19 =>
    bnd (pBin Tryz.prog .shr 109 (.tmp 19) (.const (.int .u64 1)) x19 (.int .u64 1)) fun x20 =>
    bnd (pConv Tryz.prog 109 3 x20 h) fun x21 =>
    bnd (pIndexAddr Tryz.prog 122 x0 x21) fun x24 =>
    bnd (pLoad Tryz.prog 9 x24 h) fun x25 =>
    bnd (inv (.func 172) #[] #[x25, x1] h) fun x27 =>
    brV x27.1
    (bnd (pBin Tryz.prog .add 3 (.tmp 28) (.const (.int .i64 1)) x21 (.int .i64 1)) fun x29 =>
    F158_llrrr inv k j x0 x1 x6 x29 x8 x27.2 ke0)
    (F158_llrrr inv k j x0 x1 x6 x7 x21 x27.2 ke0))
    (ke0 x0 x1 x6 x7 x8 x15 h)
theorem F158_llrrr_j (j : Nat) : kLoop (kCode env 158 false inv k (cp c158 120)) j (act 54 [(0, x0), (1, x1), (6, x6), (7, x7), (8, x8)]) h K = F158_llrrr inv k j x0 x1 x6 x7 x8 h (fun y0 y1 y6 y7 y8 y15 h => K (.exit 0) (act 54 [(0, y0), (1, y1), (6, y6), (7, y7), (8, y8), (15, y15)]) h) := by
      induction j generalizing x0 x1 x6 x7 x8 h with
      | zero => rfl
      | succ j ih =>
        unfold F158_llrrr
        simp only [kLoop, kq_seq c158 120, kq_seq c158 240, r158_3, b158_rllllrrr, kq_skip c158 962, kq_block c158 241 1, kq_seq c158 482, r158_4, kq_seq c158 965, r158_5, b158_rrlrlllrrr, r158_6, r158_7, kq_exit c158 963 0, ih, reduceIte, reduceCtorEq, XE.exit.injEq, Nat.reduceEqDiff, Nat.reduceMul, Nat.reduceAdd] <;> kernel_rfl
theorem F158_llrrr_eq  : kCode env 158 false inv k (cp c158 60) (act 54 [(0, x0), (1, x1), (6, x6), (7, x7), (8, x8)]) h K = F158_llrrr inv k k x0 x1 x6 x7 x8 h (fun y0 y1 y6 y7 y8 y15 h => K (.exit 0) (act 54 [(0, y0), (1, y1), (6, y6), (7, y7), (8, y8), (15, y15)]) h) := kq_loop (F158_llrrr_j k)
noncomputable abbrev G158_8 {β : Type} (inv : Inv) (x0 x1 x6 x7 : Value) (h : AH) (K : Value → Value → AH → Option β) : Option β :=
    bnd (pBin Tryz.prog .lss 3 (.tmp 32) (.tmp 33) x7 x6) fun x34 =>
    bnd (gd (some x34) true h (some (x0, h))) fun x36 =>
    bnd (gd (some x34) true x36.2 (some (x7, x36.2))) fun x37 =>
    bnd (gd (some x34) true x37.2 (lt (pIndexAddr Tryz.prog 122 x36.1 x37.1) x37.2)) fun x38 =>
    bnd (gd (some x34) true x38.2 (lt (pLoad Tryz.prog 9 x38.1 x38.2) x38.2)) fun x39 =>
    bnd (gd (some x34) true x39.2 (some (x1, x39.2))) fun x40 =>
    bnd (gd (some x34) true x40.2 (lt (pBin Tryz.prog .eql 9 (.tmp 39) (.tmp 40) x39.1 x40.1) x40.2)) fun x41 =>
    bnd (gd (some x34) true x41.2 (some (x41.1, x41.2))) fun x42 =>
    bnd (gd (some x42.1) false x42.2 (some (x0, x42.2))) fun x43 =>
    bnd (gd (some x42.1) false x43.2 (some (x7, x43.2))) fun x44 =>
    bnd (gd (some x42.1) false x44.2 (lt (pIndexAddr Tryz.prog 122 x43.1 x44.1) x44.2)) fun x45 =>
    bnd (gd (some x42.1) false x45.2 (lt (pLoad Tryz.prog 9 x45.1 x45.2) x45.2)) fun x46 =>
    bnd (gd (some x42.1) false x46.2 (inv (.func 173) #[] #[x46.1] x46.2)) fun x47 =>
    bnd (gd (some x42.1) false x47.2 (some (x47.1, x47.2))) fun x48 =>
    bnd (gd (some x48.1) true x48.2 (some (x1, x48.2))) fun x49 =>
    bnd (gd (some x48.1) true x49.2 (inv (.func 173) #[] #[x49.1] x49.2)) fun x50 =>
    bnd (gd (some x42.1) false x50.2 (lt (pickV x48.1 x50.1 (.bool false)) x50.2)) fun x51 =>
    bnd (gd (some x34) true x51.2 (lt (pickV x42.1 (.bool true) x51.1) x51.2)) fun x52 =>
    bnd (pickV x34 x52.1 (.bool false)) fun x53 =>
    K (x7) (x53) x52.2
theorem r158_8  : kCode env 158 false inv k (cp c158 62) (act 54 [(0, x0), (1, x1), (6, x6), (7, x7), (8, x8), (15, x15)]) h K =
    G158_8 inv x0 x1 x6 x7 h fun y4 y5 h => K .normal (act 54 [(4, y4), (5, y5)]) h := kq_reg
theorem res158_0 : resOfFn env.P 158 .ret (act 54 [(4, x4), (5, x5)]) h = some (.tuple #[x4, x5], h) := kq_res
/-- slices.BinarySearch[[]string,string] -/
noncomputable def F158 (inv : Inv) (k : Nat) (x0 x1 : Value) (h : AH) : Option (Value × AH) :=
    bnd (pLen Tryz.prog #[122] x0 h) fun x11 =>
    F158_llrrr inv k k x0 x1 x11 (.int .i64 0) x11 h
    (fun y0 y1 y6 y7 y8 y15 h =>
    G158_8 inv y0 y1 y6 y7 h fun y4 y5 h_1 =>
    some (.tuple #[y4, y5], h_1))
theorem F158_eq : eFun env k inv 158 #[x0, x1] h = F158 inv k x0 x1 h := by
      refine (kq_fun (a := act 54 [(0, x0), (1, x1)]) (c := cp c158 1)).trans ?_
      unfold F158
      simp only [kq_seq c158 1, r158_0, kq_seq c158 3, r158_1, kq_seq c158 7, r158_2, kq_seq c158 15, kq_block c158 30 0, F158_llrrr_eq, kq_seq c158 31, r158_8, kq_ret c158 63, res158_0, reduceIte, reduceCtorEq, XE.exit.injEq, Nat.reduceEqDiff, Nat.reduceMul, Nat.reduceAdd] <;> kernel_rfl
theorem F158_call : eInv env (k + 1) (.func 158) #[] #[x0, x1] h = F158 (eInv env k) k x0 x1 h := kq_inv F158_eq
noncomputable def c159 : Code := codeOf Tryz.prog 159
theorem r159_0  : kCode env 159 false inv k (cp c159 2) (act 6 [(0, x0)]) h K =
    K .normal (act 6 [(0, x0)]) h := kq_reg
theorem r159_1  : kCode env 159 false inv k (cp c159 6) (act 6 [(0, x0)]) h K =
    bnd (pBin Tryz.prog .neq 2 (.tmp 3) (.tmp 4) x0 x0) fun x5 =>
    K .normal (act 6 [(2, x5)]) h := kq_reg
theorem res159_0 : resOfFn env.P 159 .ret (act 6 [(2, x2)]) h = some (x2, h) := kq_res
/-- cmp.isNaN[int64] -/
noncomputable def F159 (inv : Inv) (k : Nat) (x0 : Value) (h : AH) : Option (Value × AH) :=
    bnd (pBin Tryz.prog .neq 2 (.tmp 3) (.tmp 4) x0 x0) fun x5 =>
    some (x5, h)
theorem F159_eq : eFun env k inv 159 #[x0] h = F159 inv k x0 h := by
      refine (kq_fun (a := act 6 [(0, x0)]) (c := cp c159 1)).trans ?_
      unfold F159
      simp only [kq_seq c159 1, r159_0, kq_seq c159 3, r159_1, kq_ret c159 7, res159_0, reduceIte, reduceCtorEq, XE.exit.injEq, Nat.reduceEqDiff, Nat.reduceMul, Nat.reduceAdd] <;> kernel_rfl
theorem F159_call : eInv env (k + 1) (.func 159) #[] #[x0] h = F159 (eInv env k) k x0 h := kq_inv F159_eq
noncomputable def c160 : Code := codeOf Tryz.prog 160
theorem r160_0  : kCode env 160 false inv k (cp c160 2) (act 8 [(0, x0), (1, x1)]) h K =
    K .normal (act 8 [(0, x0), (1, x1)]) h := kq_reg
theorem r160_1  : kCode env 160 false inv k (cp c160 6) (act 8 [(0, x0), (1, x1)]) h K =
    bnd (inv (.func 174) #[] #[x0, x1] h) fun x7 =>
    K .normal (act 8 [(4, x7.1)]) x7.2 := kq_reg
theorem res160_0 : resOfFn env.P 160 .ret (act 8 [(4, x4)]) h = some (x4, h) := kq_res
/-- internal/bytealg.CompareString -/
noncomputable def F160 (inv : Inv) (k : Nat) (x0 x1 : Value) (h : AH) : Option (Value × AH) :=
    bnd (inv (.func 174) #[] #[x0, x1] h) fun x7 =>
    some (x7.1, x7.2)
theorem F160_eq : eFun env k inv 160 #[x0, x1] h = F160 inv k x0 x1 h := by
      refine (kq_fun (a := act 8 [(0, x0), (1, x1)]) (c := cp c160 1)).trans ?_
      unfold F160
      simp only [kq_seq c160 1, r160_0, kq_seq c160 3, r160_1, kq_ret c160 7, res160_0, reduceIte, reduceCtorEq, XE.exit.injEq, Nat.reduceEqDiff, Nat.reduceMul, Nat.reduceAdd] <;> kernel_rfl
theorem F160_call : eInv env (k + 1) (.func 160) #[] #[x0, x1] h = F160 (eInv env k) k x0 x1 h := kq_inv F160_eq
noncomputable def c161 : Code := codeOf Tryz.prog 161
theorem r161_0  : kCode env 161 false inv k (cp c161 2) (act 17 [(0, x0), (1, x1)]) h K =
    K .normal (act 17 [(0, x0), (1, x1)]) h := kq_reg
theorem r161_1  : kCode env 161 false inv k (cp c161 6) (act 17 [(0, x0), (1, x1)]) h K =
    bnd (pConv Tryz.prog 188 60 x0 h) fun x8 =>
    bnd (pConv Tryz.prog 188 60 x1 h) fun x10 =>
    bnd (pBin Tryz.prog .mul 60 (.tmp 8) (.tmp 10) x8 x10) fun x11 =>
    K .normal (act 17 [(6, x11)]) h := kq_reg
theorem r161_2  : kCode env 161 false inv k (cp c161 14) (act 17 [(6, x6)]) h K =
    bnd (pBin Tryz.prog .shr 60 (.tmp 12) (.const (.int .u64 32)) x6 (.int .u64 32)) fun x13 =>
    bnd (pConv Tryz.prog 60 188 x13 h) fun x14 =>
    bnd (pConv Tryz.prog 60 188 x6 h) fun x16 =>
    K .normal (act 17 [(4, x14), (5, x16)]) h := kq_reg
theorem res161_0 : resOfFn env.P 161 .ret (act 17 [(4, x4), (5, x5)]) h = some (.tuple #[x4, x5], h) := kq_res
/-- math/bits.Mul32 -/
noncomputable def F161 (inv : Inv) (k : Nat) (x0 x1 : Value) (h : AH) : Option (Value × AH) :=
    bnd (pConv Tryz.prog 188 60 x0 h) fun x8 =>
    bnd (pConv Tryz.prog 188 60 x1 h) fun x10 =>
    bnd (pBin Tryz.prog .mul 60 (.tmp 8) (.tmp 10) x8 x10) fun x11 =>
    bnd (pBin Tryz.prog .shr 60 (.tmp 12) (.const (.int .u64 32)) x11 (.int .u64 32)) fun x13 =>
    bnd (pConv Tryz.prog 60 188 x13 h) fun x14 =>
    bnd (pConv Tryz.prog 60 188 x11 h) fun x16 =>
    some (.tuple #[x14, x16], h)
theorem F161_eq : eFun env k inv 161 #[x0, x1] h = F161 inv k x0 x1 h := by
      refine (kq_fun (a := act 17 [(0, x0), (1, x1)]) (c := cp c161 1)).trans ?_
      unfold F161
      simp only [kq_seq c161 1, r161_0, kq_seq c161 3, r161_1, kq_seq c161 7, r161_2, kq_ret c161 15, res161_0, reduceIte, reduceCtorEq, XE.exit.injEq, Nat.reduceEqDiff, Nat.reduceMul, Nat.reduceAdd] <;> kernel_rfl
theorem F161_call : eInv env (k + 1) (.func 161) #[] #[x0, x1] h = F161 (eInv env k) k x0 x1 h := kq_inv F161_eq
noncomputable def c162 : Code := codeOf Tryz.prog 162
theorem r162_0  : kCode env 162 false inv k (cp c162 2) (act 51 [(0, x0), (1, x1)]) h K =
    K .normal (act 51 [(0, x0), (1, x1)]) h := kq_reg
theorem r162_1  : kCode env 162 false inv k (cp c162 6) (act 51 [(0, x0), (1, x1)]) h K =
    bnd (pBin Tryz.prog .and 60 (.tmp 14) (.const (.int .u64 4294967295)) x0 (.int .u64 4294967295)) fun x15 =>
    K .normal (act 51 [(0, x0), (1, x1), (6, x15)]) h := kq_reg
theorem r162_2  : kCode env 162 false inv k (cp c162 14) (act 51 [(0, x0), (1, x1), (6, x6)]) h K =
    bnd (pBin Tryz.prog .shr 60 (.tmp 16) (.const (.int .u64 32)) x0 (.int .u64 32)) fun x17 =>
    K .normal (act 51 [(0, x0), (1, x1), (6, x6), (7, x17)]) h := kq_reg
theorem r162_3  : kCode env 162 false inv k (cp c162 30) (act 51 [(0, x0), (1, x1), (6, x6), (7, x7)]) h K =
    bnd (pBin Tryz.prog .and 60 (.tmp 18) (.const (.int .u64 4294967295)) x1 (.int .u64 4294967295)) fun x19 =>
    K .normal (act 51 [(0, x0), (1, x1), (6, x6), (7, x7), (8, x19)]) h := kq_reg
theorem r162_4  : kCode env 162 false inv k (cp c162 62) (act 51 [(0, x0), (1, x1), (6, x6), (7, x7), (8, x8)]) h K =
    bnd (pBin Tryz.prog .shr 60 (.tmp 20) (.const (.int .u64 32)) x1 (.int .u64 32)) fun x21 =>
    K .normal (act 51 [(0, x0), (1, x1), (6, x6), (7, x7), (8, x8), (9, x21)]) h := kq_reg
theorem r162_5  : kCode env 162 false inv k (cp c162 126) (act 51 [(0, x0), (1, x1), (6, x6), (7, x7), (8, x8), (9, x9)]) h K =
    bnd (pBin Tryz.prog .mul 60 (.tmp 22) (.tmp 23) x6 x8) fun x24 =>
    K .normal (act 51 [(0, x0), (1, x1), (6, x6), (7, x7), (8, x8), (9, x9), (10, x24)]) h := kq_reg
theorem r162_6  : kCode env 162 false inv k (cp c162 254) (act 51 [(0, x0), (1, x1), (6, x6), (7, x7), (8, x8), (9, x9), (10, x10)]) h K =
    bnd (pBin Tryz.prog .mul 60 (.tmp 25) (.tmp 26) x7 x8) fun x27 =>
    bnd (pBin Tryz.prog .shr 60 (.tmp 28) (.const (.int .u64 32)) x10 (.int .u64 32)) fun x29 =>
    bnd (pBin Tryz.prog .add 60 (.tmp 27) (.tmp 29) x27 x29) fun x30 =>
    K .normal (act 51 [(0, x0), (1, x1), (6, x6), (7, x7), (9, x9), (11, x30)]) h := kq_reg
theorem r162_7  : kCode env 162 false inv k (cp c162 510) (act 51 [(0, x0), (1, x1), (6, x6), (7, x7), (9, x9), (11, x11)]) h K =
    bnd (pBin Tryz.prog .and 60 (.tmp 31) (.const (.int .u64 4294967295)) x11 (.int .u64 4294967295)) fun x32 =>
    K .normal (act 51 [(0, x0), (1, x1), (6, x6), (7, x7), (9, x9), (11, x11), (12, x32)]) h := kq_reg
theorem r162_8  : kCode env 162 false inv k (cp c162 1022) (act 51 [(0, x0), (1, x1), (6, x6), (7, x7), (9, x9), (11, x11), (12, x12)]) h K =
    bnd (pBin Tryz.prog .shr 60 (.tmp 33) (.const (.int .u64 32)) x11 (.int .u64 32)) fun x34 =>
    K .normal (act 51 [(0, x0), (1, x1), (6, x6), (7, x7), (9, x9), (12, x12), (13, x34)]) h := kq_reg
theorem r162_9  : kCode env 162 false inv k (cp c162 2046) (act 51 [(0, x0), (1, x1), (6, x6), (7, x7), (9, x9), (12, x12), (13, x13)]) h K =
    bnd (pBin Tryz.prog .mul 60 (.tmp 36) (.tmp 37) x6 x9) fun x38 =>
    bnd (pBin Tryz.prog .add 60 (.tmp 35) (.tmp 38) x12 x38) fun x39 =>
    K .normal (act 51 [(0, x0), (1, x1), (7, x7), (9, x9), (12, x39), (13, x13)]) h := kq_reg
noncomputable abbrev G162_10 {β : Type} (inv : Inv) (x0 x1 x7 x9 x12 x13 : Value) (h : AH) (K : Value → AH → Option β) : Option β :=
    bnd (pBin Tryz.prog .mul 60 (.tmp 40) (.tmp 41) x7 x9) fun x42 =>
    bnd (pBin Tryz.prog .add 60 (.tmp 42) (.tmp 43) x42 x13) fun x44 =>
    bnd (pBin Tryz.prog .shr 60 (.tmp 45) (.const (.int .u64 32)) x12 (.int .u64 32)) fun x46 =>
    bnd (pBin Tryz.prog .add 60 (.tmp 44) (.tmp 46) x44 x46) fun x47 =>
    K (x47) h
theorem r162_10  : kCode env 162 false inv k (cp c162 4094) (act 51 [(0, x0), (1, x1), (7, x7), (9, x9), (12, x12), (13, x13)]) h K =
    G162_10 inv x0 x1 x7 x9 x12 x13 h fun y4 h => K .normal (act 51 [(0, x0), (1, x1), (4, y4)]) h := kq_reg
theorem r162_11  : kCode env 162 false inv k (cp c162 8190) (act 51 [(0, x0), (1, x1), (4, x4)]) h K =
    bnd (pBin Tryz.prog .mul 60 (.tmp 48) (.tmp 49) x0 x1) fun x50 =>
    K .normal (act 51 [(4, x4), (5, x50)]) h := kq_reg
theorem res162_0 : resOfFn env.P 162 .ret (act 51 [(4, x4), (5, x5)]) h = some (.tuple #[x4, x5], h) := kq_res
/-- math/bits.Mul64 -/
noncomputable def F162 (inv : Inv) (k : Nat) (x0 x1 : Value) (h : AH) : Option (Value × AH) :=
    bnd (pBin Tryz.prog .and 60 (.tmp 14) (.const (.int .u64 4294967295)) x0 (.int .u64 4294967295)) fun x15 =>
    bnd (pBin Tryz.prog .shr 60 (.tmp 16) (.const (.int .u64 32)) x0 (.int .u64 32)) fun x17 =>
    bnd (pBin Tryz.prog .and 60 (.tmp 18) (.const (.int .u64 4294967295)) x1 (.int .u64 4294967295)) fun x19 =>
    bnd (pBin Tryz.prog .shr 60 (.tmp 20) (.const (.int .u64 32)) x1 (.int .u64 32)) fun x21 =>
    bnd (pBin Tryz.prog .mul 60 (.tmp 22) (.tmp 23) x15 x19) fun x24 =>
    bnd (pBin Tryz.prog .mul 60 (.tmp 25) (.tmp 26) x17 x19) fun x27 =>
    bnd (pBin Tryz.prog .shr 60 (.tmp 28) (.const (.int .u64 32)) x24 (.int .u64 32)) fun x29 =>
    bnd (pBin Tryz.prog .add 60 (.tmp 27) (.tmp 29) x27 x29) fun x30 =>
    bnd (pBin Tryz.prog .and 60 (.tmp 31) (.const (.int .u64 4294967295)) x30 (.int .u64 4294967295)) fun x32 =>
    bnd (pBin Tryz.prog .shr 60 (.tmp 33) (.const (.int .u64 32)) x30 (.int .u64 32)) fun x34 =>
    bnd (pBin Tryz.prog .mul 60 (.tmp 36) (.tmp 37) x15 x21) fun x38 =>
    bnd (pBin Tryz.prog .add 60 (.tmp 35) (.tmp 38) x32 x38) fun x39 =>
    G162_10 inv x0 x1 x17 x21 x39 x34 h fun y4 h =>
    bnd (pBin Tryz.prog .mul 60 (.tmp 48) (.tmp 49) x0 x1) fun x50 =>
    some (.tuple #[y4, x50], h)
theorem F162_eq : eFun env k inv 162 #[x0, x1] h = F162 inv k x0 x1 h := by
      refine (kq_fun (a := act 51 [(0, x0), (1, x1)]) (c := cp c162 1)).trans ?_
      unfold F162
      simp only [kq_seq c162 1, r162_0, kq_seq c162 3, r162_1, kq_seq c162 7, r162_2, kq_seq c162 15, r162_3, kq_seq c162 31, r162_4, kq_seq c162 63, r162_5, kq_seq c162 127, r162_6, kq_seq c162 255, r162_7, kq_seq c162 511, r162_8, kq_seq c162 1023, r162_9, kq_seq c162 2047, r162_10, kq_seq c162 4095, r162_11, kq_ret c162 8191, res162_0, reduceIte, reduceCtorEq, XE.exit.injEq, Nat.reduceEqDiff, Nat.reduceMul, Nat.reduceAdd] <;> kernel_rfl
theorem F162_call : eInv env (k + 1) (.func 162) #[] #[x0, x1] h = F162 (eInv env k) k x0 x1 h := kq_inv F162_eq
noncomputable def c163 : Code := codeOf Tryz.prog 163
theorem r163_0  : kCode env 163 false inv k (cp c163 2) (act 19 [(0, x0), (1, x1)]) h K =
    bnd (pLoad Tryz.prog 33 x1 h) fun x4 =>
    bnd (pLen Tryz.prog #[33] x4 h) fun x5 =>
    bnd (pBin Tryz.prog .sub 3 (.tmp 5) (.const (.int .i64 1)) x5 (.int .i64 1)) fun x6 =>
    K .normal (act 19 [(0, x0), (1, x1), (3, x6)]) h := kq_reg
theorem r163_1  : kCode env 163 false inv k (cp c163 48) (act 19 [(0, x0), (1, x1), (3, x3)]) h K =
    bnd (pBin Tryz.prog .geq 3 (.tmp 7) (.const (.int .i64 0)) x3 (.int .i64 0)) fun x8 =>
    K .normal (act 19 [(0, x0), (1, x1), (3, x3), (8, x8)]) h := kq_reg
theorem b163_rlllr  : kCode env 163 false inv k (cp c163 49) (act 19 [(0, x0), (1, x1), (3, x3), (8, x8)]) h K = brV x8 (kCode env 163 false inv k (cp c163 98) (act 19 [(0, x0), (1, x1), (3, x3), (8, x8)]) h K) (kCode env 163 false inv k (cp c163 99) (act 19 [(0, x0), (1, x1), (3, x3), (8, x8)]) h K) := kq_cond
theorem r163_3  : kCode env 163 false inv k (cp c163 200) (act 19 [(0, x0), (1, x1), (3, x3), (8, x8)]) h K =
    bnd (pLoad Tryz.prog 33 x1 h) fun x13 =>
    bnd (pIndexAddr Tryz.prog 33 x13 x3) fun x15 =>
    bnd (pLoad Tryz.prog 5 x15 h) fun x16 =>
    bnd (callV inv x0 #[x3, x16] h) fun x17 =>
    bnd (pUn Tryz.prog .not x17.1) fun x18 =>
    K .normal (act 19 [(0, x0), (1, x1), (3, x3), (18, x18)]) x17.2 := kq_reg
theorem b163_rllrllr  : kCode env 163 false inv k (cp c163 201) (act 19 [(0, x0), (1, x1), (3, x3), (18, x18)]) h K = brV x18 (kCode env 163 false inv k (cp c163 402) (act 19 [(0, x0), (1, x1), (3, x3), (18, x18)]) h K) (kCode env 163 false inv k (cp c163 403) (act 19 [(0, x0), (1, x1), (3, x3), (18, x18)]) h K) := kq_cond
theorem r163_2  : kCode env 163 false inv k (cp c163 51) (act 19 [(0, x0), (1, x1), (3, x3), (18, x18)]) h K =
    bnd (pBin Tryz.prog .sub 3 (.tmp 9) (.const (.int .i64 1)) x3 (.int .i64 1)) fun x10 =>
    K .normal (act 19 [(0, x0), (1, x1), (3, x10)]) h := kq_reg
noncomputable def F163_lr {β : Type} (inv : Inv) (k : Nat) : Nat → Value → Value → Value → AH → (Value → Value → Value → Value → AH → Option β) → (Value → Value → Value → Value → AH → Option β) → Option β
  | 0, _, _, _, _, _, _ => none
  | j + 1, x0, x1, x3, h, ke0, kr =>
    bnd (pBin Tryz.prog .geq 3 (.tmp 7) (.const (.int .i64 0)) x3 (.int .i64 0)) fun x8 =>
    brV x8
    (bnd (pLoad Tryz.prog 33 x1 h) fun x13 =>
    bnd (pIndexAddr Tryz.prog 33 x13 x3) fun x15 =>
    bnd (pLoad Tryz.prog 5 x15 h) fun x16 =>
    bnd (callV inv x0 #[x3, x16] h) fun x17 =>
    bnd (pUn Tryz.prog .not x17.1) fun x18 =>
    brV x18
    (kr x0 x1 x3 x18 x17.2)
    (bnd (pBin Tryz.prog .sub 3 (.tmp 9) (.const (.int .i64 1)) x3 (.int .i64 1)) fun x10 =>
    F163_lr inv k j x0 x1 x10 x17.2 ke0 kr))
    (ke0 x0 x1 x3 x8 h)
theorem F163_lr_j (j : Nat) : kLoop (kCode env 163 false inv k (cp c163 12)) j (act 19 [(0, x0), (1, x1), (3, x3)]) h K = F163_lr inv k j x0 x1 x3 h (fun y0 y1 y3 y8 h => K (.exit 0) (act 19 [(0, y0), (1, y1), (3, y3), (8, y8)]) h) (fun y0 y1 y3 y18 h => K .ret (act 19 [(0, y0), (1, y1), (3, y3), (18, y18)]) h) := by
      induction j generalizing x0 x1 x3 h with
      | zero => rfl
      | succ j ih =>
        unfold F163_lr
        simp only [kLoop, kq_seq c163 12, kq_seq c163 24, r163_1, b163_rlllr, kq_skip c163 98, kq_seq c163 25, kq_block c163 50 1, kq_seq c163 100, r163_3, b163_rllrllr, kq_ret c163 402, kq_skip c163 403, r163_2, kq_exit c163 99 0, ih, reduceIte, reduceCtorEq, XE.exit.injEq, Nat.reduceEqDiff, Nat.reduceMul, Nat.reduceAdd] <;> kernel_rfl
theorem F163_lr_eq  : kCode env 163 false inv k (cp c163 6) (act 19 [(0, x0), (1, x1), (3, x3)]) h K = F163_lr inv k k x0 x1 x3 h (fun y0 y1 y3 y8 h => K (.exit 0) (act 19 [(0, y0), (1, y1), (3, y3), (8, y8)]) h) (fun y0 y1 y3 y18 h => K .ret (act 19 [(0, y0), (1, y1), (3, y3), (18, y18)]) h) := kq_loop (F163_lr_j k)
theorem res163_0 : resOfFn env.P 163 .normal (act 19 [(0, x0), (1, x1), (3, x3), (8, x8)]) h = some (.tuple #[], h) := kq_res
theorem res163_1 : resOfFn env.P 163 .ret (act 19 [(0, x0), (1, x1), (3, x3), (18, x18)]) h = some (.tuple #[], h) := kq_res
/-- slices.Backward[[]byte,byte]$1 -/
noncomputable def F163 (inv : Inv) (k : Nat) (x0 x1 : Value) (h : AH) : Option (Value × AH) :=
    bnd (pLoad Tryz.prog 33 x1 h) fun x4 =>
    bnd (pLen Tryz.prog #[33] x4 h) fun x5 =>
    bnd (pBin Tryz.prog .sub 3 (.tmp 5) (.const (.int .i64 1)) x5 (.int .i64 1)) fun x6 =>
    F163_lr inv k k x0 x1 x6 h
    (fun y0 y1 y3 y8 h =>
    some (.tuple #[], h))
    (fun y0_1 y1_2 y3_3 y18 h_4 =>
    some (.tuple #[], h_4))
theorem F163_eq : eFun env k inv 163 #[x0, x1] h = F163 inv k x0 x1 h := by
      refine (kq_fun (a := act 19 [(0, x0), (1, x1)]) (c := cp c163 1)).trans ?_
      unfold F163
      simp only [kq_seq c163 1, r163_0, kq_block c163 3 0, F163_lr_eq, res163_0, res163_1, reduceIte, reduceCtorEq, XE.exit.injEq, Nat.reduceEqDiff, Nat.reduceMul, Nat.reduceAdd] <;> kernel_rfl
theorem F163_call : eInv env (k + 1) (.func 163) #[] #[x0, x1] h = F163 (eInv env k) k x0 x1 h := kq_inv F163_eq
noncomputable def c164 : Code := codeOf Tryz.prog 164
theorem r164_0  : kCode env 164 false inv k (cp c164 2) (act 10 [(0, x0), (1, x1)]) h K =
    K .normal (act 10 [(0, x0), (1, x1)]) h := kq_reg
theorem r164_1  : kCode env 164 false inv k (cp c164 6) (act 10 [(0, x0), (1, x1)]) h K =
    bnd (pBuildSlice Tryz.prog 33 1 #[(0, x0)] h) fun x6 =>
    bnd (pConv Tryz.prog 3 60 x1 x6.2) fun x8 =>
    bnd (inv (.func 47) #[] #[x6.1, x8] x6.2) fun x9 =>
    K .normal (act 10 [(4, x9.1)]) x9.2 := kq_reg
theorem res164_0 : resOfFn env.P 164 .ret (act 10 [(4, x4)]) h = some (x4, h) := kq_res
/-- shadowbook/ints.head -/
noncomputable def F164 (inv : Inv) (k : Nat) (x0 x1 : Value) (h : AH) : Option (Value × AH) :=
    bnd (pBuildSlice Tryz.prog 33 1 #[(0, x0)] h) fun x6 =>
    bnd (pConv Tryz.prog 3 60 x1 x6.2) fun x8 =>
    bnd (inv (.func 47) #[] #[x6.1, x8] x6.2) fun x9 =>
    some (x9.1, x9.2)
theorem F164_eq : eFun env k inv 164 #[x0, x1] h = F164 inv k x0 x1 h := by
      refine (kq_fun (a := act 10 [(0, x0), (1, x1)]) (c := cp c164 1)).trans ?_
      unfold F164
      simp only [kq_seq c164 1, r164_0, kq_seq c164 3, r164_1, kq_ret c164 7, res164_0, reduceIte, reduceCtorEq, XE.exit.injEq, Nat.reduceEqDiff, Nat.reduceMul, Nat.reduceAdd] <;> kernel_rfl
theorem F164_call : eInv env (k + 1) (.func 164) #[] #[x0, x1] h = F164 (eInv env k) k x0 x1 h := kq_inv F164_eq
noncomputable def c165 : Code := codeOf Tryz.prog 165
theorem r165_0  : kCode env 165 false inv k (cp c165 2) (act 48 [(0, x0), (1, x1)]) h K =
    K .normal (act 48 [(0, x0), (1, x1)]) h := kq_reg
theorem r165_1  : kCode env 165 false inv k (cp c165 12) (act 48 [(0, x0), (1, x1)]) h K =
    bnd (pBin Tryz.prog .lss 3 (.tmp 9) (.const (.int .i64 0)) x1 (.int .i64 0)) fun x10 =>
    K .normal (act 48 [(0, x0), (1, x1), (10, x10)]) h := kq_reg
theorem b165_rlr  : kCode env 165 false inv k (cp c165 13) (act 48 [(0, x0), (1, x1), (10, x10)]) h K = brV x10 (kCode env 165 false inv k (cp c165 26) (act 48 [(0, x0), (1, x1), (10, x10)]) h K) (kCode env 165 false inv k (cp c165 27) (act 48 [(0, x0), (1, x1), (10, x10)]) h K) := kq_cond
theorem r165_2  : kCode env 165 false inv k (cp c165 26) (act 48 [(0, x0), (1, x1), (10, x10)]) h K =
    bnd (pMakeIface Tryz.prog 9 (.string { data := #[99, 97, 110, 110, 111, 116, 32, 98, 101, 32, 110, 101, 103, 97, 116, 105, 118, 101] })) fun x11 =>
    bnd ((none : Option (Value × AH))) fun u =>
    K .normal (act 48 [(0, x0), (1, x1)]) u.2 := kq_reg
noncomputable def F165_rlr {β : Type} (inv : Inv) (k : Nat) (x0 x1 x10 : Value) (h : AH) (kn : (Value → Value → Value → AH → Option β)) : Option β :=
    brV x10
    (bnd (pMakeIface Tryz.prog 9 (.string { data := #[99, 97, 110, 110, 111, 116, 32, 98, 101, 32, 110, 101, 103, 97, 116, 105, 118, 101] })) fun x11 =>
    bnd ((none : Option (Value × AH))) fun u =>
    kn x0 x1 unk u.2)
    (kn x0 x1 x10 h)
theorem F165_rlr_eq  : kCode env 165 false inv k (cp c165 13) (act 48 [(0, x0), (1, x1), (10, x10)]) h K = F165_rlr inv k x0 x1 x10 h (fun y0 y1 y10 h => K .normal (act 48 [(0, y0), (1, y1), (10, y10)]) h) := by
      unfold F165_rlr
      simp only [b165_rlr, r165_2, kq_skip c165 27, reduceIte, reduceCtorEq, XE.exit.injEq, Nat.reduceEqDiff, Nat.reduceMul, Nat.reduceAdd] <;> kernel_rfl
theorem r165_3  : kCode env 165 false inv k (cp c165 14) (act 48 [(0, x0), (1, x1), (10, x10)]) h K =
    bnd (pLen Tryz.prog #[121] x0 h) fun x14 =>
    bnd (pConv Tryz.prog 3 109 x14 h) fun x15 =>
    bnd (pConv Tryz.prog 3 109 x1 h) fun x17 =>
    bnd (inv (.func 138) #[] #[x15, x17] h) fun x18 =>
    bnd (pExtract x18.1 0) fun x19 =>
    bnd (pExtract x18.1 1) fun x20 =>
    K .normal (act 48 [(0, x0), (5, x19), (6, x20)]) x18.2 := kq_reg
noncomputable abbrev G165_4 {β : Type} (inv : Inv) (x0 x5 x6 : Value) (h : AH) (K : Value → AH → Option β) : Option β :=
    bnd (pBin Tryz.prog .gtr 109 (.tmp 21) (.const (.int .u64 0)) x5 (.int .u64 0)) fun x22 =>
    bnd (gd (some x22) false h (some (x6, h))) fun x24 =>
    bnd (gd (some x22) false x24.2 (lt (pBin Tryz.prog .gtr 109 (.tmp 24) (.const (.int .u64 9223372036854775807)) x24.1 (.int .u64 9223372036854775807)) x24.2)) fun x25 =>
    bnd (pickV x22 (.bool true) x25.1) fun x26 =>
    K (x26) x25.2
theorem r165_4  : kCode env 165 false inv k (cp c165 60) (act 48 [(0, x0), (5, x5), (6, x6)]) h K =
    G165_4 inv x0 x5 x6 h fun y26 h => K .normal (act 48 [(0, x0), (6, x6), (26, y26)]) h := kq_reg
theorem b165_rlrrr  : kCode env 165 false inv k (cp c165 61) (act 48 [(0, x0), (6, x6), (26, x26)]) h K = brV x26 (kCode env 165 false inv k (cp c165 122) (act 48 [(0, x0), (6, x6), (26, x26)]) h K) (kCode env 165 false inv k (cp c165 123) (act 48 [(0, x0), (6, x6), (26, x26)]) h K) := kq_cond
theorem r165_5  : kCode env 165 false inv k (cp c165 122) (act 48 [(0, x0), (6, x6), (26, x26)]) h K =
    bnd (pMakeIface Tryz.prog 9 (.string { data := #[116, 104, 101, 32, 114, 101, 115, 117, 108, 116, 32, 111, 102, 32, 40, 108, 101, 110, 40, 120, 41, 32, 42, 32, 99, 111, 117, 110, 116, 41, 32, 111, 118, 101, 114, 102, 108, 111, 119, 115] })) fun x27 =>
    bnd ((none : Option (Value × AH))) fun u =>
    K .normal (act 48 [(0, x0), (6, x6)]) u.2 := kq_reg
noncomputable def F165_rlrrr {β : Type} (inv : Inv) (k : Nat) (x0 x6 x26 : Value) (h : AH) (kn : (Value → Value → Value → AH → Option β)) : Option β :=
    brV x26
    (bnd (pMakeIface Tryz.prog 9 (.string { data := #[116, 104, 101, 32, 114, 101, 115, 117, 108, 116, 32, 111, 102, 32, 40, 108, 101, 110, 40, 120, 41, 32, 42, 32, 99, 111, 117, 110, 116, 41, 32, 111, 118, 101, 114, 102, 108, 111, 119, 115] })) fun x27 =>
    bnd ((none : Option (Value × AH))) fun u =>
    kn x0 x6 unk u.2)
    (kn x0 x6 x26 h)
theorem F165_rlrrr_eq  : kCode env 165 false inv k (cp c165 61) (act 48 [(0, x0), (6, x6), (26, x26)]) h K = F165_rlrrr inv k x0 x6 x26 h (fun y0 y6 y26 h => K .normal (act 48 [(0, y0), (6, y6), (26, y26)]) h) := by
      unfold F165_rlrrr
      simp only [b165_rlrrr, r165_5, kq_skip c165 123, reduceIte, reduceCtorEq, XE.exit.injEq, Nat.reduceEqDiff, Nat.reduceMul, Nat.reduceAdd] <;> kernel_rfl
theorem r165_6  : kCode env 165 false inv k (cp c165 62) (act 48 [(0, x0), (6, x6), (26, x26)]) h K =
    bnd (pConv Tryz.prog 109 3 x6 h) fun x29 =>
    bnd (pMakeSlice Tryz.prog 121 x29 x29 h) fun x30 =>
    K .normal (act 48 [(0, x0), (7, x30.1)]) x30.2 := kq_reg
theorem r165_7  : kCode env 165 false inv k (cp c165 126) (act 48 [(0, x0), (7, x7)]) h K =
    bnd (pCopy Tryz.prog #[121, 121] x7 x0 h) fun x33 =>
    K .normal (act 48 [(7, x7), (8, x33.1)]) x33.2 := kq_reg
theorem r165_8  : kCode env 165 false inv k (cp c165 4064) (act 48 [(7, x7), (8, x8)]) h K =
    bnd (pLen Tryz.prog #[121] x7 h) fun x36 =>
    bnd (pBin Tryz.prog .lss 3 (.tmp 34) (.tmp 36) x8 x36) fun x37 =>
    K .normal (act 48 [(7, x7), (8, x8), (37, x37)]) h := kq_reg
theorem b165_rllllrrrrrr  : kCode env 165 false inv k (cp c165 4065) (act 48 [(7, x7), (8, x8), (37, x37)]) h K = brV x37 (kCode env 165 false inv k (cp c165 8130) (act 48 [(7, x7), (8, x8), (37, x37)]) h K) (kCode env 165 false inv k (cp c165 8131) (act 48 [(7, x7), (8, x8), (37, x37)]) h K) := kq_cond
theorem r165_9  : kCode env 165 false inv k (cp c165 4066) (act 48 [(7, x7), (8, x8), (37, x37)]) h K =
    bnd (pSlice Tryz.prog 121 x7 (some x8) none none h) fun x41 =>
    bnd (pSlice Tryz.prog 121 x7 none (some x8) none h) fun x44 =>
    bnd (pCopy Tryz.prog #[121, 121] x41 x44 h) fun x45 =>
    bnd (pBin Tryz.prog .add 3 (.tmp 38) (.tmp 45) x8 x45.1) fun x46 =>
    K .normal (act 48 [(7, x7), (8, x46)]) x45.2 := kq_draw
noncomputable def F165_llrrrrrr {β : Type} (inv : Inv) (k : Nat) : Nat → Value → Value → AH → (Value → Value → Value → AH → Option β) → Option β
  | 0, _, _, _, _ => none
  | j + 1, x7, x8, h, ke0 =>
    bnd (pLen Tryz.prog #[121] x7 h) fun x36 =>
    bnd (pBin Tryz.prog .lss 3 (.tmp 34) (.tmp 36) x8 x36) fun x37 =>
    brV x37
    (bnd (pSlice Tryz.prog 121 x7 (some x8) none none h) fun x41 =>
    bnd (pSlice Tryz.prog 121 x7 none (some x8) none h) fun x44 =>
    bnd (pCopy Tryz.prog #[121, 121] x41 x44 h) fun x45 =>
    bnd (pBin Tryz.prog .add 3 (.tmp 38) (.tmp 45) x8 x45.1) fun x46 =>
    F165_llrrrrrr inv k j x7 x46 x45.2 ke0)
    (ke0 x7 x8 x37 h)
theorem F165_llrrrrrr_j (j : Nat) : kLoop (kCode env 165 false inv k (cp c165 1016)) j (act 48 [(7, x7), (8, x8)]) h K = F165_llrrrrrr inv k j x7 x8 h (fun y7 y8 y37 h => K (.exit 0) (act 48 [(7, y7), (8, y8), (37, y37)]) h) := by
      induction j generalizing x7 x8 h with
      | zero => rfl
      | succ j ih =>
        unfold F165_llrrrrrr
        simp only [kLoop, kq_seq c165 1016, kq_seq c165 2032, r165_8, b165_rllllrrrrrr, kq_skip c165 8130, kq_block c165 2033 1, r165_9, kq_exit c165 8131 0, ih, reduceIte, reduceCtorEq, XE.exit.injEq, Nat.reduceEqDiff, Nat.reduceMul, Nat.reduceAdd] <;> kernel_rfl
theorem F165_llrrrrrr_eq  : kCode env 165 false inv k (cp c165 508) (act 48 [(7, x7), (8, x8)]) h K = F165_llrrrrrr inv k k x7 x8 h (fun y7 y8 y37 h => K (.exit 0) (act 48 [(7, y7), (8, y8), (37, y37)]) h) := kq_loop (F165_llrrrrrr_j k)
theorem r165_10  : kCode env 165 false inv k (cp c165 510) (act 48 [(7, x7), (8, x8), (37, x37)]) h K =
    K .normal (act 48 [(4, x7)]) h := kq_reg
theorem res165_0 : resOfFn env.P 165 .ret (act 48 [(4, x4)]) h = some (x4, h) := kq_res
/-- slices.Repeat[[]int64,int64] -/
noncomputable def F165 (inv : Inv) (k : Nat) (x0 x1 : Value) (h : AH) : Option (Value × AH) :=
    bnd (pBin Tryz.prog .lss 3 (.tmp 9) (.const (.int .i64 0)) x1 (.int .i64 0)) fun x10 =>
    F165_rlr inv k x0 x1 x10 h
    (fun y0 y1 y10 h =>
    bnd (pLen Tryz.prog #[121] y0 h) fun x14 =>
    bnd (pConv Tryz.prog 3 109 x14 h) fun x15 =>
    bnd (pConv Tryz.prog 3 109 y1 h) fun x17 =>
    bnd (inv (.func 138) #[] #[x15, x17] h) fun x18 =>
    bnd (pExtract x18.1 0) fun x19 =>
    bnd (pExtract x18.1 1) fun x20 =>
    G165_4 inv y0 x19 x20 x18.2 fun y26 h_1 =>
    F165_rlrrr inv k y0 x20 y26 h_1
    (fun y0_2 y6 y26_3 h_4 =>
    bnd (pConv Tryz.prog 109 3 y6 h_4) fun x29 =>
    bnd (pMakeSlice Tryz.prog 121 x29 x29 h_4) fun x30 =>
    bnd (pCopy Tryz.prog #[121, 121] x30.1 y0_2 x30.2) fun x33 =>
    F165_llrrrrrr inv k k x30.1 x33.1 x33.2
    (fun y7 y8 y37 h_5 =>
    some (y7, h_5))))
theorem F165_eq : eFun env k inv 165 #[x0, x1] h = F165 inv k x0 x1 h := by
      refine (kq_fun (a := act 48 [(0, x0), (1, x1)]) (c := cp c165 1)).trans ?_
      unfold F165
      simp only [kq_seq c165 1, r165_0, kq_seq c165 3, kq_seq c165 6, r165_1, F165_rlr_eq, kq_seq c165 7, r165_3, kq_seq c165 15, kq_seq c165 30, r165_4, F165_rlrrr_eq, kq_seq c165 31, r165_6, kq_seq c165 63, r165_7, kq_seq c165 127, kq_block c165 254 0, F165_llrrrrrr_eq, kq_seq c165 255, r165_10, kq_ret c165 511, res165_0, reduceIte, reduceCtorEq, XE.exit.injEq, Nat.reduceEqDiff, Nat.reduceMul, Nat.reduceAdd] <;> kernel_rfl
theorem F165_call : eInv env (k + 1) (.func 165) #[] #[x0, x1] h = F165 (eInv env k) k x0 x1 h := kq_inv F165_eq
noncomputable def c166 : Code := codeOf Tryz.prog 166
theorem r166_0  : kCode env 166 false inv k (cp c166 2) (act 25 [(0, x0)]) h K =
    K .normal (act 25 [(0, x0)]) h := kq_reg
theorem r166_1  : kCode env 166 false inv k (cp c166 12) (act 25 [(0, x0)]) h K =
    bnd (pLen Tryz.prog #[121] x0 h) fun x6 =>
    bnd (pBin Tryz.prog .lss 3 (.tmp 6) (.const (.int .i64 1)) x6 (.int .i64 1)) fun x7 =>
    K .normal (act 25 [(0, x0), (7, x7)]) h := kq_reg
theorem b166_rlr  : kCode env 166 false inv k (cp c166 13) (act 25 [(0, x0), (7, x7)]) h K = brV x7 (kCode env 166 false inv k (cp c166 26) (act 25 [(0, x0), (7, x7)]) h K) (kCode env 166 false inv k (cp c166 27) (act 25 [(0, x0), (7, x7)]) h K) := kq_cond
theorem r166_2  : kCode env 166 false inv k (cp c166 26) (act 25 [(0, x0), (7, x7)]) h K =
    bnd (pMakeIface Tryz.prog 9 (.string { data := #[115, 108, 105, 99, 101, 115, 46, 77, 105, 110, 58, 32, 101, 109, 112, 116, 121, 32, 108, 105, 115, 116] })) fun x8 =>
    bnd ((none : Option (Value × AH))) fun u =>
    K .normal (act 25 [(0, x0)]) u.2 := kq_reg
noncomputable def F166_rlr {β : Type} (inv : Inv) (k : Nat) (x0 x7 : Value) (h : AH) (kn : (Value → Value → AH → Option β)) : Option β :=
    brV x7
    (bnd (pMakeIface Tryz.prog 9 (.string { data := #[115, 108, 105, 99, 101, 115, 46, 77, 105, 110, 58, 32, 101, 109, 112, 116, 121, 32, 108, 105, 115, 116] })) fun x8 =>
    bnd ((none : Option (Value × AH))) fun u =>
    kn x0 unk u.2)
    (kn x0 x7 h)
theorem F166_rlr_eq  : kCode env 166 false inv k (cp c166 13) (act 25 [(0, x0), (7, x7)]) h K = F166_rlr inv k x0 x7 h (fun y0 y7 h => K .normal (act 25 [(0, y0), (7, y7)]) h) := by
      unfold F166_rlr
      simp only [b166_rlr, r166_2, kq_skip c166 27, reduceIte, reduceCtorEq, XE.exit.injEq, Nat.reduceEqDiff, Nat.reduceMul, Nat.reduceAdd] <;> kernel_rfl
theorem r166_3  : kCode env 166 false inv k (cp c166 14) (act 25 [(0, x0), (7, x7)]) h K =
    bnd (pIndexAddr Tryz.prog 121 x0 (.int .i64 0)) fun x10 =>
    bnd (pLoad Tryz.prog 2 x10 h) fun x11 =>
    K .normal (act 25 [(0, x0), (3, x11)]) h := kq_reg
theorem r166_4  : kCode env 166 false inv k (cp c166 60) (act 25 [(0, x0), (3, x3)]) h K =
    K .normal (act 25 [(0, x0), (3, x3), (4, (.int .i64 1))]) h := kq_reg
theorem r166_5  : kCode env 166 false inv k (cp c166 976) (act 25 [(0, x0), (3, x3), (4, x4)]) h K =
    bnd (pLen Tryz.prog #[121] x0 h) fun x14 =>
    bnd (pBin Tryz.prog .lss 3 (.tmp 12) (.tmp 14) x4 x14) fun x15 =>
    K .normal (act 25 [(0, x0), (3, x3), (4, x4), (15, x15)]) h := kq_reg
theorem b166_rlllrlrrr  : kCode env 166 false inv k (cp c166 977) (act 25 [(0, x0), (3, x3), (4, x4), (15, x15)]) h K = brV x15 (kCode env 166 false inv k (cp c166 1954) (act 25 [(0, x0), (3, x3), (4, x4), (15, x15)]) h K) (kCode env 166 false inv k (cp c166 1955) (act 25 [(0, x0), (3, x3), (4, x4), (15, x15)]) h K) := kq_cond
theorem r166_7  : kCode env 166 false inv k (cp c166 1956) (act 25 [(0, x0), (3, x3), (4, x4), (15, x15)]) h K =
    bnd (pIndexAddr Tryz.prog 121 x0 x4) fun x21 =>
    bnd (pLoad Tryz.prog 2 x21 h) fun x22 =>
    bnd (pMinMax Tryz.prog false #[x3, x22]) fun x23 =>
    K .normal (act 25 [(0, x0), (3, x23), (4, x4)]) h := kq_reg
theorem r166_6  : kCode env 166 false inv k (cp c166 979) (act 25 [(0, x0), (3, x3), (4, x4)]) h K =
    bnd (pBin Tryz.prog .add 3 (.tmp 16) (.const (.int .i64 1)) x4 (.int .i64 1)) fun x17 =>
    K .normal (act 25 [(0, x0), (3, x3), (4, x17)]) h := kq_reg
noncomputable def F166_lrlrrr {β : Type} (inv : Inv) (k : Nat) : Nat → Value → Value → Value → AH → (Value → Value → Value → Value → AH → Option β) → Option β
  | 0, _, _, _, _, _ => none
  | j + 1, x0, x3, x4, h, ke0 =>
    bnd (pLen Tryz.prog #[121] x0 h) fun x14 =>
    bnd (pBin Tryz.prog .lss 3 (.tmp 12) (.tmp 14) x4 x14) fun x15 =>
    brV x15
    (bnd (pIndexAddr Tryz.prog 121 x0 x4) fun x21 =>
    bnd (pLoad Tryz.prog 2 x21 h) fun x22 =>
    bnd (pMinMax Tryz.prog false #[x3, x22]) fun x23 =>
    bnd (pBin Tryz.prog .add 3 (.tmp 16) (.const (.int .i64 1)) x4 (.int .i64 1)) fun x17 =>
    F166_lrlrrr inv k j x0 x23 x17 h ke0)
    (ke0 x0 x3 x4 x15 h)
theorem F166_lrlrrr_j (j : Nat) : kLoop (kCode env 166 false inv k (cp c166 244)) j (act 25 [(0, x0), (3, x3), (4, x4)]) h K = F166_lrlrrr inv k j x0 x3 x4 h (fun y0 y3 y4 y15 h => K (.exit 0) (act 25 [(0, y0), (3, y3), (4, y4), (15, y15)]) h) := by
      induction j generalizing x0 x3 x4 h with
      | zero => rfl
      | succ j ih =>
        unfold F166_lrlrrr
        simp only [kLoop, kq_seq c166 244, kq_seq c166 488, r166_5, b166_rlllrlrrr, kq_skip c166 1954, kq_seq c166 489, kq_block c166 978 1, r166_7, r166_6, kq_exit c166 1955 0, ih, reduceIte, reduceCtorEq, XE.exit.injEq, Nat.reduceEqDiff, Nat.reduceMul, Nat.reduceAdd] <;> kernel_rfl
theorem F166_lrlrrr_eq  : kCode env 166 false inv k (cp c166 122) (act 25 [(0, x0), (3, x3), (4, x4)]) h K = F166_lrlrrr inv k k x0 x3 x4 h (fun y0 y3 y4 y15 h => K (.exit 0) (act 25 [(0, y0), (3, y3), (4, y4), (15, y15)]) h) := kq_loop (F166_lrlrrr_j k)
theorem r166_8  : kCode env 166 false inv k (cp c166 62) (act 25 [(0, x0), (3, x3), (4, x4), (15, x15)]) h K =
    K .normal (act 25 [(2, x3)]) h := kq_reg
theorem res166_0 : resOfFn env.P 166 .ret (act 25 [(2, x2)]) h = some (x2, h) := kq_res
/-- slices.Min[[]int64,int64] -/
noncomputable def F166 (inv : Inv) (k : Nat) (x0 : Value) (h : AH) : Option (Value × AH) :=
    bnd (pLen Tryz.prog #[121] x0 h) fun x6 =>
    bnd (pBin Tryz.prog .lss 3 (.tmp 6) (.const (.int .i64 1)) x6 (.int .i64 1)) fun x7 =>
    F166_rlr inv k x0 x7 h
    (fun y0 y7 h =>
    bnd (pIndexAddr Tryz.prog 121 y0 (.int .i64 0)) fun x10 =>
    bnd (pLoad Tryz.prog 2 x10 h) fun x11 =>
    F166_lrlrrr inv k k y0 x11 (.int .i64 1) h
    (fun y0_1 y3 y4 y15 h_2 =>
    some (y3, h_2)))
theorem F166_eq : eFun env k inv 166 #[x0] h = F166 inv k x0 h := by
      refine (kq_fun (a := act 25 [(0, x0)]) (c := cp c166 1)).trans ?_
      unfold F166
      simp only [kq_seq c166 1, r166_0, kq_seq c166 3, kq_seq c166 6, r166_1, F166_rlr_eq, kq_seq c166 7, r166_3, kq_seq c166 15, kq_seq c166 30, r166_4, kq_block c166 61 0, F166_lrlrrr_eq, kq_seq c166 31, r166_8, kq_ret c166 63, res166_0, reduceIte, reduceCtorEq, XE.exit.injEq, Nat.reduceEqDiff, Nat.reduceMul, Nat.reduceAdd] <;> kernel_rfl
theorem F166_call : eInv env (k + 1) (.func 166) #[] #[x0] h = F166 (eInv env k) k x0 h := kq_inv F166_eq
noncomputable def c167 : Code := codeOf Tryz.prog 167
theorem r167_0  : kCode env 167 false inv k (cp c167 2) (act 19 [(0, x0), (1, x1)]) h K =
    K .normal (act 19 [(0, x0), (1, x1)]) h := kq_reg
theorem r167_1  : kCode env 167 false inv k (cp c167 12) (act 19 [(0, x0), (1, x1)]) h K =
    bnd (pLen Tryz.prog #[33] x0 h) fun x7 =>
    K .normal (act 19 [(0, x0), (1, x1), (7, x7), (8, (.int .i64 0))]) h := kq_reg
theorem r167_2  : kCode env 167 false inv k (cp c167 104) (act 19 [(0, x0), (1, x1), (7, x7), (8, x8)]) h K =
    bnd (pBin Tryz.prog .lss 3 (.tmp 8) (.tmp 7) x8 x7) fun x9 =>
    K .normal (act 19 [(0, x0), (1, x1), (7, x7), (8, x8), (9, x9)]) h := kq_reg
theorem b167_lrllrlr  : kCode env 167 false inv k (cp c167 210) (act 19 [(0, x0), (1, x1), (7, x7), (8, x8), (9, x9)]) h K = brV x9 (kCode env 167 false inv k (cp c167 420) (act 19 [(0, x0), (1, x1), (7, x7), (8, x8), (9, x9)]) h K) (kCode env 167 false inv k (cp c167 421) (act 19 [(0, x0), (1, x1), (7, x7), (8, x8), (9, x9)]) h K) := kq_cond
theorem r167_3  : kCode env 167 false inv k (cp c167 1688) (act 19 [(0, x0), (1, x1), (7, x7), (8, x8), (9, x9)]) h K =
    K .normal (act 19 [(0, x0), (1, x1), (5, x8), (7, x7), (8, x8)]) h := kq_reg
theorem r167_4  : kCode env 167 false inv k (cp c167 3378) (act 19 [(0, x0), (1, x1), (5, x5), (7, x7), (8, x8)]) h K =
    bnd (pIndexAddr Tryz.prog 33 x0 x5) fun x14 =>
    bnd (pLoad Tryz.prog 5 x14 h) fun x15 =>
    bnd (callV inv x1 #[x15] h) fun x16 =>
    K .normal (act 19 [(0, x0), (1, x1), (5, x5), (7, x7), (8, x8), (16, x16.1)]) x16.2 := kq_reg
theorem b167_rrllrrllrlr  : kCode env 167 false inv k (cp c167 3379) (act 19 [(0, x0), (1, x1), (5, x5), (7, x7), (8, x8), (16, x16)]) h K = brV x16 (kCode env 167 false inv k (cp c167 6758) (act 19 [(0, x0), (1, x1), (5, x5), (7, x7), (8, x8), (16, x16)]) h K) (kCode env 167 false inv k (cp c167 6759) (act 19 [(0, x0), (1, x1), (5, x5), (7, x7), (8, x8), (16, x16)]) h K) := kq_cond
theorem r167_5  : kCode env 167 false inv k (cp c167 13516) (act 19 [(0, x0), (1, x1), (5, x5), (7, x7), (8, x8), (16, x16)]) h K =
    K .normal (act 19 [(4, x5)]) h := kq_reg
theorem r167_6  : kCode env 167 false inv k (cp c167 423) (act 19 [(0, x0), (1, x1), (5, x5), (7, x7), (8, x8), (16, x16)]) h K =
    bnd (pBin Tryz.prog .add 3 (.tmp 8) (.const (.int .i64 1)) x8 (.int .i64 1)) fun x18 =>
    K .normal (act 19 [(0, x0), (1, x1), (7, x7), (8, x18)]) h := kq_reg
noncomputable def F167_lrlr {β : Type} (inv : Inv) (k : Nat) : Nat → Value → Value → Value → Value → AH → (Value → Value → Value → Value → Value → AH → Option β) → (Value → AH → Option β) → Option β
  | 0, _, _, _, _, _, _, _ => none
  | j + 1, x0, x1, x7, x8, h, ke0, kr =>
    bnd (pBin Tryz.prog .lss 3 (.tmp 8) (.tmp 7) x8 x7) fun x9 =>
    brV x9
    (bnd (pIndexAddr Tryz.prog 33 x0 x8) fun x14 =>
    bnd (pLoad Tryz.prog 5 x14 h) fun x15 =>
    bnd (callV inv x1 #[x15] h) fun x16 =>
    brV x16.1
    (kr x8 x16.2)
    (bnd (pBin Tryz.prog .add 3 (.tmp 8) (.const (.int .i64 1)) x8 (.int .i64 1)) fun x18 =>
    F167_lrlr inv k j x0 x1 x7 x18 x16.2 ke0 kr))
    (ke0 x0 x1 x7 x8 x9 h)
theorem F167_lrlr_j (j : Nat) : kLoop (kCode env 167 false inv k (cp c167 52)) j (act 19 [(0, x0), (1, x1), (7, x7), (8, x8)]) h K = F167_lrlr inv k j x0 x1 x7 x8 h (fun y0 y1 y7 y8 y9 h => K (.exit 0) (act 19 [(0, y0), (1, y1), (7, y7), (8, y8), (9, y9)]) h) (fun y4 h => K .ret (act 19 [(4, y4)]) h) := by
      induction j generalizing x0 x1 x7 x8 h with
      | zero => rfl
      | succ j ih =>
        unfold F167_lrlr
        simp only [kLoop, kq_seq c167 52, r167_2, kq_seq c167 105, b167_lrllrlr, kq_skip c167 420, kq_seq c167 211, kq_block c167 422 1, kq_seq c167 844, r167_3, kq_seq c167 1689, r167_4, b167_rrllrrllrlr, kq_seq c167 6758, r167_5, kq_ret c167 13517, kq_skip c167 6759, r167_6, kq_exit c167 421 0, ih, reduceIte, reduceCtorEq, XE.exit.injEq, Nat.reduceEqDiff, Nat.reduceMul, Nat.reduceAdd] <;> kernel_rfl
theorem F167_lrlr_eq  : kCode env 167 false inv k (cp c167 26) (act 19 [(0, x0), (1, x1), (7, x7), (8, x8)]) h K = F167_lrlr inv k k x0 x1 x7 x8 h (fun y0 y1 y7 y8 y9 h => K (.exit 0) (act 19 [(0, y0), (1, y1), (7, y7), (8, y8), (9, y9)]) h) (fun y4 h => K .ret (act 19 [(4, y4)]) h) := kq_loop (F167_lrlr_j k)
theorem r167_7  : kCode env 167 false inv k (cp c167 14) (act 19 [(0, x0), (1, x1), (7, x7), (8, x8), (9, x9)]) h K =
    K .normal (act 19 [(4, (.int .i64 (-1)))]) h := kq_reg
theorem res167_0 : resOfFn env.P 167 .ret (act 19 [(4, x4)]) h = some (x4, h) := kq_res
/-- slices.IndexFunc[[]byte,byte] -/
noncomputable def F167 (inv : Inv) (k : Nat) (x0 x1 : Value) (h : AH) : Option (Value × AH) :=
    bnd (pLen Tryz.prog #[33] x0 h) fun x7 =>
    F167_lrlr inv k k x0 x1 x7 (.int .i64 0) h
    (fun y0 y1 y7 y8 y9 h =>
    some ((.int .i64 (-1)), h))
    (fun y4 h_1 =>
    some (y4, h_1))
theorem F167_eq : eFun env k inv 167 #[x0, x1] h = F167 inv k x0 x1 h := by
      refine (kq_fun (a := act 19 [(0, x0), (1, x1)]) (c := cp c167 1)).trans ?_
      unfold F167
      simp only [kq_seq c167 1, r167_0, kq_seq c167 3, kq_seq c167 6, r167_1, kq_block c167 13 0, F167_lrlr_eq, kq_seq c167 7, r167_7, kq_ret c167 15, res167_0, reduceIte, reduceCtorEq, XE.exit.injEq, Nat.reduceEqDiff, Nat.reduceMul, Nat.reduceAdd] <;> kernel_rfl
theorem F167_call : eInv env (k + 1) (.func 167) #[] #[x0, x1] h = F167 (eInv env k) k x0 x1 h := kq_inv F167_eq
noncomputable def c168 : Code := codeOf Tryz.prog 168
theorem r168_0  : kCode env 168 false inv k (cp c168 2) (act 9 [(0, x0), (1, x1)]) h K =
    K .normal (act 9 [(0, x0), (1, x1)]) h := kq_reg
theorem r168_1  : kCode env 168 false inv k (cp c168 6) (act 9 [(0, x0), (1, x1)]) h K =
    bnd (inv (.func 175) #[] #[x0, x1] h) fun x7 =>
    bnd (pBin Tryz.prog .geq 3 (.tmp 7) (.const (.int .i64 0)) x7.1 (.int .i64 0)) fun x8 =>
    K .normal (act 9 [(4, x8)]) x7.2 := kq_reg
theorem res168_0 : resOfFn env.P 168 .ret (act 9 [(4, x4)]) h = some (x4, h) := kq_res
/-- slices.ContainsFunc[[]string,string] -/
noncomputable def F168 (inv : Inv) (k : Nat) (x0 x1 : Value) (h : AH) : Option (Value × AH) :=
    bnd (inv (.func 175) #[] #[x0, x1] h) fun x7 =>
    bnd (pBin Tryz.prog .geq 3 (.tmp 7) (.const (.int .i64 0)) x7.1 (.int .i64 0)) fun x8 =>
    some (x8, x7.2)
theorem F168_eq : eFun env k inv 168 #[x0, x1] h = F168 inv k x0 x1 h := by
      refine (kq_fun (a := act 9 [(0, x0), (1, x1)]) (c := cp c168 1)).trans ?_
      unfold F168
      simp only [kq_seq c168 1, r168_0, kq_seq c168 3, r168_1, kq_ret c168 7, res168_0, reduceIte, reduceCtorEq, XE.exit.injEq, Nat.reduceEqDiff, Nat.reduceMul, Nat.reduceAdd] <;> kernel_rfl
theorem F168_call : eInv env (k + 1) (.func 168) #[] #[x0, x1] h = F168 (eInv env k) k x0 x1 h := kq_inv F168_eq
noncomputable def c169 : Code := codeOf Tryz.prog 169
theorem r169_0  : kCode env 169 false inv k (cp c169 2) (act 6 [(0, x0)]) h K =
    K .normal (act 6 [(0, x0)]) h := kq_reg
theorem r169_1  : kCode env 169 false inv k (cp c169 6) (act 6 [(0, x0)]) h K =
    bnd (pLen Tryz.prog #[9] x0 h) fun x4 =>
    bnd (pBin Tryz.prog .gtr 3 (.tmp 4) (.const (.int .i64 65536)) x4 (.int .i64 65536)) fun x5 =>
    K .normal (act 6 [(2, x5)]) h := kq_reg
theorem res169_0 : resOfFn env.P 169 .ret (act 6 [(2, x2)]) h = some (x2, h) := kq_res
/-- shadowbook/texts.check$1 -/
noncomputable def F169 (inv : Inv) (k : Nat) (x0 : Value) (h : AH) : Option (Value × AH) :=
    bnd (pLen Tryz.prog #[9] x0 h) fun x4 =>
    bnd (pBin Tryz.prog .gtr 3 (.tmp 4) (.const (.int .i64 65536)) x4 (.int .i64 65536)) fun x5 =>
    some (x5, h)
theorem F169_eq : eFun env k inv 169 #[x0] h = F169 inv k x0 h := by
      refine (kq_fun (a := act 6 [(0, x0)]) (c := cp c169 1)).trans ?_
      unfold F169
      simp only [kq_seq c169 1, r169_0, kq_seq c169 3, r169_1, kq_ret c169 7, res169_0, reduceIte, reduceCtorEq, XE.exit.injEq, Nat.reduceEqDiff, Nat.reduceMul, Nat.reduceAdd] <;> kernel_rfl
theorem F169_call : eInv env (k + 1) (.func 169) #[] #[x0] h = F169 (eInv env k) k x0 h := kq_inv F169_eq
noncomputable def c171 : Code := codeOf Tryz.prog 171
theorem r171_0  : kCode env 171 false inv k (cp c171 2) (act 4 [(0, x0)]) h K =
    bnd (pBox Tryz.prog 199 x0 h) fun x1 =>
    K .normal (act 4 [(1, x1.1)]) x1.2 := kq_reg
theorem r171_1  : kCode env 171 false inv k (cp c171 6) (act 4 [(1, x1)]) h K =
    bnd (pMakeFunc (.func 178) #[] #[x1]) fun x3 =>
    K .normal (act 4 [(2, x3)]) h := kq_reg
theorem res171_0 : resOfFn env.P 171 .ret (act 4 [(2, x2)]) h = some (x2, h) := kq_res
/-- maps.Keys[map[string]struct{},string,struct{}] -/
noncomputable def F171 (inv : Inv) (k : Nat) (x0 : Value) (h : AH) : Option (Value × AH) :=
    bnd (pBox Tryz.prog 199 x0 h) fun x1 =>
    bnd (pMakeFunc (.func 178) #[] #[x1.1]) fun x3 =>
    some (x3, x1.2)
theorem F171_eq : eFun env k inv 171 #[x0] h = F171 inv k x0 h := by
      refine (kq_fun (a := act 4 [(0, x0)]) (c := cp c171 1)).trans ?_
      unfold F171
      simp only [kq_seq c171 1, r171_0, kq_seq c171 3, r171_1, kq_ret c171 7, res171_0, reduceIte, reduceCtorEq, XE.exit.injEq, Nat.reduceEqDiff, Nat.reduceMul, Nat.reduceAdd] <;> kernel_rfl
theorem F171_call : eInv env (k + 1) (.func 171) #[] #[x0] h = F171 (eInv env k) k x0 h := kq_inv F171_eq
noncomputable def c172 : Code := codeOf Tryz.prog 172
theorem r172_0  : kCode env 172 false inv k (cp c172 2) (act 17 [(0, x0), (1, x1)]) h K =
    K .normal (act 17 [(0, x0), (1, x1)]) h := kq_reg
noncomputable abbrev G172_1 {β : Type} (inv : Inv) (x0 x1 : Value) (h : AH) (K : Value → AH → Option β) : Option β :=
    bnd (inv (.func 179) #[] #[x0] h) fun x6 =>
    bnd (gd (some x6.1) true x6.2 (some (x1, x6.2))) fun x8 =>
    bnd (gd (some x6.1) true x8.2 (inv (.func 179) #[] #[x8.1] x8.2)) fun x9 =>
    bnd (gd (some x6.1) true x9.2 (lt (pUn Tryz.prog .not x9.1) x9.2)) fun x10 =>
    bnd (pickV x6.1 x10.1 (.bool false)) fun x11 =>
    bnd (gd (some x11) false x10.2 (some (x0, x10.2))) fun x13 =>
    bnd (gd (some x11) false x13.2 (some (x1, x13.2))) fun x14 =>
    bnd (gd (some x11) false x14.2 (lt (pBin Tryz.prog .lss 9 (.tmp 13) (.tmp 14) x13.1 x14.1) x14.2)) fun x15 =>
    bnd (pickV x11 (.bool true) x15.1) fun x16 =>
    K (x16) x15.2
theorem r172_1  : kCode env 172 false inv k (cp c172 6) (act 17 [(0, x0), (1, x1)]) h K =
    G172_1 inv x0 x1 h fun y4 h => K .normal (act 17 [(4, y4)]) h := kq_reg
theorem res172_0 : resOfFn env.P 172 .ret (act 17 [(4, x4)]) h = some (x4, h) := kq_res
/-- cmp.Less[string] -/
noncomputable def F172 (inv : Inv) (k : Nat) (x0 x1 : Value) (h : AH) : Option (Value × AH) :=
    G172_1 inv x0 x1 h fun y4 h =>
    some (y4, h)
theorem F172_eq : eFun env k inv 172 #[x0, x1] h = F172 inv k x0 x1 h := by
      refine (kq_fun (a := act 17 [(0, x0), (1, x1)]) (c := cp c172 1)).trans ?_
      unfold F172
      simp only [kq_seq c172 1, r172_0, kq_seq c172 3, r172_1, kq_ret c172 7, res172_0, reduceIte, reduceCtorEq, XE.exit.injEq, Nat.reduceEqDiff, Nat.reduceMul, Nat.reduceAdd] <;> kernel_rfl
theorem F172_call : eInv env (k + 1) (.func 172) #[] #[x0, x1] h = F172 (eInv env k) k x0 x1 h := kq_inv F172_eq
noncomputable def c173 : Code := codeOf Tryz.prog 173
theorem r173_0  : kCode env 173 false inv k (cp c173 2) (act 6 [(0, x0)]) h K =
    K .normal (act 6 [(0, x0)]) h := kq_reg
theorem r173_1  : kCode env 173 false inv k (cp c173 6) (act 6 [(0, x0)]) h K =
    bnd (pBin Tryz.prog .neq 9 (.tmp 3) (.tmp 4) x0 x0) fun x5 =>
    K .normal (act 6 [(2, x5)]) h := kq_reg
theorem res173_0 : resOfFn env.P 173 .ret (act 6 [(2, x2)]) h = some (x2, h) := kq_res
/-- slices.isNaN[string] -/
noncomputable def F173 (inv : Inv) (k : Nat) (x0 : Value) (h : AH) : Option (Value × AH) :=
    bnd (pBin Tryz.prog .neq 9 (.tmp 3) (.tmp 4) x0 x0) fun x5 =>
    some (x5, h)
theorem F173_eq : eFun env k inv 173 #[x0] h = F173 inv k x0 h := by
      refine (kq_fun (a := act 6 [(0, x0)]) (c := cp c173 1)).trans ?_
      unfold F173
      simp only [kq_seq c173 1, r173_0, kq_seq c173 3, r173_1, kq_ret c173 7, res173_0, reduceIte, reduceCtorEq, XE.exit.injEq, Nat.reduceEqDiff, Nat.reduceMul, Nat.reduceAdd] <;> kernel_rfl
theorem F173_call : eInv env (k + 1) (.func 173) #[] #[x0] h = F173 (eInv env k) k x0 h := kq_inv F173_eq
noncomputable def c175 : Code := codeOf Tryz.prog 175
theorem r175_0  : kCode env 175 false inv k (cp c175 2) (act 19 [(0, x0), (1, x1)]) h K =
    K .normal (act 19 [(0, x0), (1, x1)]) h := kq_reg
theorem r175_1  : kCode env 175 false inv k (cp c175 12) (act 19 [(0, x0), (1, x1)]) h K =
    bnd (pLen Tryz.prog #[122] x0 h) fun x7 =>
    K .normal (act 19 [(0, x0), (1, x1), (7, x7), (8, (.int .i64 0))]) h := kq_reg
theorem r175_2  : kCode env 175 false inv k (cp c175 104) (act 19 [(0, x0), (1, x1), (7, x7), (8, x8)]) h K =
    bnd (pBin Tryz.prog .lss 3 (.tmp 8) (.tmp 7) x8 x7) fun x9 =>
    K .normal (act 19 [(0, x0), (1, x1), (7, x7), (8, x8), (9, x9)]) h := kq_reg
theorem b175_lrllrlr  : kCode env 175 false inv k (cp c175 210) (act 19 [(0, x0), (1, x1), (7, x7), (8, x8), (9, x9)]) h K = brV x9 (kCode env 175 false inv k (cp c175 420) (act 19 [(0, x0), (1, x1), (7, x7), (8, x8), (9, x9)]) h K) (kCode env 175 false inv k (cp c175 421) (act 19 [(0, x0), (1, x1), (7, x7), (8, x8), (9, x9)]) h K) := kq_cond
theorem r175_3  : kCode env 175 false inv k (cp c175 1688) (act 19 [(0, x0), (1, x1), (7, x7), (8, x8), (9, x9)]) h K =
    K .normal (act 19 [(0, x0), (1, x1), (5, x8), (7, x7), (8, x8)]) h := kq_reg
theorem r175_4  : kCode env 175 false inv k (cp c175 3378) (act 19 [(0, x0), (1, x1), (5, x5), (7, x7), (8, x8)]) h K =
    bnd (pIndexAddr Tryz.prog 122 x0 x5) fun x14 =>
    bnd (pLoad Tryz.prog 9 x14 h) fun x15 =>
    bnd (callV inv x1 #[x15] h) fun x16 =>
    K .normal (act 19 [(0, x0), (1, x1), (5, x5), (7, x7), (8, x8), (16, x16.1)]) x16.2 := kq_reg
theorem b175_rrllrrllrlr  : kCode env 175 false inv k (cp c175 3379) (act 19 [(0, x0), (1, x1), (5, x5), (7, x7), (8, x8), (16, x16)]) h K = brV x16 (kCode env 175 false inv k (cp c175 6758) (act 19 [(0, x0), (1, x1), (5, x5), (7, x7), (8, x8), (16, x16)]) h K) (kCode env 175 false inv k (cp c175 6759) (act 19 [(0, x0), (1, x1), (5, x5), (7, x7), (8, x8), (16, x16)]) h K) := kq_cond
theorem r175_5  : kCode env 175 false inv k (cp c175 13516) (act 19 [(0, x0), (1, x1), (5, x5), (7, x7), (8, x8), (16, x16)]) h K =
    K .normal (act 19 [(4, x5)]) h := kq_reg
theorem r175_6  : kCode env 175 false inv k (cp c175 423) (act 19 [(0, x0), (1, x1), (5, x5), (7, x7), (8, x8), (16, x16)]) h K =
    bnd (pBin Tryz.prog .add 3 (.tmp 8) (.const (.int .i64 1)) x8 (.int .i64 1)) fun x18 =>
    K .normal (act 19 [(0, x0), (1, x1), (7, x7), (8, x18)]) h := kq_reg
noncomputable def F175_lrlr {β : Type} (inv : Inv) (k : Nat) : Nat → Value → Value → Value → Value → AH → (Value → Value → Value → Value → Value → AH → Option β) → (Value → AH → Option β) → Option β
  | 0, _, _, _, _, _, _, _ => none
  | j + 1, x0, x1, x7, x8, h, ke0, kr =>
    bnd (pBin Tryz.prog .lss 3 (.tmp 8) (.tmp 7) x8 x7) fun x9 =>
    brV x9
    (bnd (pIndexAddr Tryz.prog 122 x0 x8) fun x14 =>
    bnd (pLoad Tryz.prog 9 x14 h) fun x15 =>
    bnd (callV inv x1 #[x15] h) fun x16 =>
    brV x16.1
    (kr x8 x16.2)
    (bnd (pBin Tryz.prog .add 3 (.tmp 8) (.const (.int .i64 1)) x8 (.int .i64 1)) fun x18 =>
    F175_lrlr inv k j x0 x1 x7 x18 x16.2 ke0 kr))
    (ke0 x0 x1 x7 x8 x9 h)
theorem F175_lrlr_j (j : Nat) : kLoop (kCode env 175 false inv k (cp c175 52)) j (act 19 [(0, x0), (1, x1), (7, x7), (8, x8)]) h K = F175_lrlr inv k j x0 x1 x7 x8 h (fun y0 y1 y7 y8 y9 h => K (.exit 0) (act 19 [(0, y0), (1, y1), (7, y7), (8, y8), (9, y9)]) h) (fun y4 h => K .ret (act 19 [(4, y4)]) h) := by
      induction j generalizing x0 x1 x7 x8 h with
      | zero => rfl
      | succ j ih =>
        unfold F175_lrlr
        simp only [kLoop, kq_seq c175 52, r175_2, kq_seq c175 105, b175_lrllrlr, kq_skip c175 420, kq_seq c175 211, kq_block c175 422 1, kq_seq c175 844, r175_3, kq_seq c175 1689, r175_4, b175_rrllrrllrlr, kq_seq c175 6758, r175_5, kq_ret c175 13517, kq_skip c175 6759, r175_6, kq_exit c175 421 0, ih, reduceIte, reduceCtorEq, XE.exit.injEq, Nat.reduceEqDiff, Nat.reduceMul, Nat.reduceAdd] <;> kernel_rfl
theorem F175_lrlr_eq  : kCode env 175 false inv k (cp c175 26) (act 19 [(0, x0), (1, x1), (7, x7), (8, x8)]) h K = F175_lrlr inv k k x0 x1 x7 x8 h (fun y0 y1 y7 y8 y9 h => K (.exit 0) (act 19 [(0, y0), (1, y1), (7, y7), (8, y8), (9, y9)]) h) (fun y4 h => K .ret (act 19 [(4, y4)]) h) := kq_loop (F175_lrlr_j k)
theorem r175_7  : kCode env 175 false inv k (cp c175 14) (act 19 [(0, x0), (1, x1), (7, x7), (8, x8), (9, x9)]) h K =
    K .normal (act 19 [(4, (.int .i64 (-1)))]) h := kq_reg
theorem res175_0 : resOfFn env.P 175 .ret (act 19 [(4, x4)]) h = some (x4, h) := kq_res
/-- slices.IndexFunc[[]string,string] -/
noncomputable def F175 (inv : Inv) (k : Nat) (x0 x1 : Value) (h : AH) : Option (Value × AH) :=
    bnd (pLen Tryz.prog #[122] x0 h) fun x7 =>
    F175_lrlr inv k k x0 x1 x7 (.int .i64 0) h
    (fun y0 y1 y7 y8 y9 h =>
    some ((.int .i64 (-1)), h))
    (fun y4 h_1 =>
    some (y4, h_1))
theorem F175_eq : eFun env k inv 175 #[x0, x1] h = F175 inv k x0 x1 h := by
      refine (kq_fun (a := act 19 [(0, x0), (1, x1)]) (c := cp c175 1)).trans ?_
      unfold F175
      simp only [kq_seq c175 1, r175_0, kq_seq c175 3, kq_seq c175 6, r175_1, kq_block c175 13 0, F175_lrlr_eq, kq_seq c175 7, r175_7, kq_ret c175 15, res175_0, reduceIte, reduceCtorEq, XE.exit.injEq, Nat.reduceEqDiff, Nat.reduceMul, Nat.reduceAdd] <;> kernel_rfl
theorem F175_call : eInv env (k + 1) (.func 175) #[] #[x0, x1] h = F175 (eInv env k) k x0 x1 h := kq_inv F175_eq
noncomputable def c178 : Code := codeOf Tryz.prog 178
theorem r178_0  : kCode env 178 false inv k (cp c178 2) (act 14 [(0, x0), (1, x1)]) h K =
    bnd (pLoad Tryz.prog 199 x1 h) fun x4 =>
    bnd (pRange Tryz.prog 199 x4 h) fun x5 =>
    K .normal (act 14 [(0, x0), (5, x5.1)]) x5.2 := kq_reg
theorem r178_1  : kCode env 178 false inv k (cp c178 24) (act 14 [(0, x0), (5, x5), (13, x13)]) h K =
    bnd (pNext x5 false h) fun x6 =>
    bnd (pExtract x6.1 0) fun x7 =>
    K .normal (act 14 [(0, x0), (5, x5), (7, x7)]) x6.2 := kq_reg
theorem b178_lrllr  : kCode env 178 false inv k (cp c178 50) (act 14 [(0, x0), (5, x5), (7, x7)]) h K = brV x7 (kCode env 178 false inv k (cp c178 100) (act 14 [(0, x0), (5, x5), (7, x7)]) h K) (kCode env 178 false inv k (cp c178 101) (act 14 [(0, x0), (5, x5), (7, x7)]) h K) := kq_cond
theorem r178_2  : kCode env 178 false inv k (cp c178 204) (act 14 [(0, x0), (5, x5), (7, x7)]) h K =
    bnd ((none : Option (Value × AH))) fun x8 =>
    bnd (pExtract x8.1 0) fun x9 =>
    K .normal (act 14 [(0, x0), (3, x9), (5, x5)]) x8.2 := kq_reg
theorem r178_3  : kCode env 178 false inv k (cp c178 410) (act 14 [(0, x0), (3, x3), (5, x5)]) h K =
    bnd (callV inv x0 #[x3] h) fun x12 =>
    bnd (pUn Tryz.prog .not x12.1) fun x13 =>
    K .normal (act 14 [(0, x0), (5, x5), (13, x13)]) x12.2 := kq_reg
theorem b178_rrlrrllr  : kCode env 178 false inv k (cp c178 411) (act 14 [(0, x0), (5, x5), (13, x13)]) h K = brV x13 (kCode env 178 false inv k (cp c178 822) (act 14 [(0, x0), (5, x5), (13, x13)]) h K) (kCode env 178 false inv k (cp c178 823) (act 14 [(0, x0), (5, x5), (13, x13)]) h K) := kq_cond
noncomputable def F178_lr {β : Type} (inv : Inv) (k : Nat) : Nat → Value → Value → Value → AH → (Value → Value → Value → AH → Option β) → (Value → Value → Value → AH → Option β) → Option β
  | 0, _, _, _, _, _, _ => none
  | j + 1, x0, x5, x13, h, ke0, kr =>
    bnd (pNext x5 false h) fun x6 =>
    bnd (pExtract x6.1 0) fun x7 =>
    brV x7
    (bnd ((none : Option (Value × AH))) fun x8 =>
    bnd (pExtract x8.1 0) fun x9 =>
    bnd (callV inv x0 #[x9] x8.2) fun x12 =>
    bnd (pUn Tryz.prog .not x12.1) fun x13_1 =>
    brV x13_1
    (kr x0 x5 x13_1 x12.2)
    (F178_lr inv k j x0 x5 x13_1 x12.2 ke0 kr))
    (ke0 x0 x5 x7 x6.2)
theorem F178_lr_j (j : Nat) : kLoop (kCode env 178 false inv k (cp c178 12)) j (act 14 [(0, x0), (5, x5), (13, x13)]) h K = F178_lr inv k j x0 x5 x13 h (fun y0 y5 y7 h => K (.exit 0) (act 14 [(0, y0), (5, y5), (7, y7)]) h) (fun y0 y5 y13 h => K .ret (act 14 [(0, y0), (5, y5), (13, y13)]) h) := by
      induction j generalizing x0 x5 x13 h with
      | zero => rfl
      | succ j ih =>
        unfold F178_lr
        simp only [kLoop, kq_seq c178 12, r178_1, kq_seq c178 25, b178_lrllr, kq_skip c178 100, kq_block c178 51 1, kq_seq c178 102, r178_2, kq_seq c178 205, r178_3, b178_rrlrrllr, kq_ret c178 822, kq_skip c178 823, kq_exit c178 101 0, ih, reduceIte, reduceCtorEq, XE.exit.injEq, Nat.reduceEqDiff, Nat.reduceMul, Nat.reduceAdd] <;> kernel_rfl
theorem F178_lr_eq  : kCode env 178 false inv k (cp c178 6) (act 14 [(0, x0), (5, x5), (13, x13)]) h K = F178_lr inv k k x0 x5 x13 h (fun y0 y5 y7 h => K (.exit 0) (act 14 [(0, y0), (5, y5), (7, y7)]) h) (fun y0 y5 y13 h => K .ret (act 14 [(0, y0), (5, y5), (13, y13)]) h) := kq_loop (F178_lr_j k)
theorem F178_lr_eq_13  : kCode env 178 false inv k (cp c178 6) (act 14 [(0, x0), (5, x5)]) h K = F178_lr inv k k x0 x5 unk h (fun y0 y5 y7 h => K (.exit 0) (act 14 [(0, y0), (5, y5), (7, y7)]) h) (fun y0 y5 y13 h => K .ret (act 14 [(0, y0), (5, y5), (13, y13)]) h) := by
      rw [show act 14 [(0, x0), (5, x5)] = act 14 [(0, x0), (5, x5), (13, unk)] from by kernel_rfl]; exact F178_lr_eq ..
theorem res178_0 : resOfFn env.P 178 .normal (act 14 [(0, x0), (5, x5), (7, x7)]) h = some (.tuple #[], h) := kq_res
theorem res178_1 : resOfFn env.P 178 .ret (act 14 [(0, x0), (5, x5), (13, x13)]) h = some (.tuple #[], h) := kq_res
/-- maps.Keys[map[string]struct{},string,struct{}]$1 -/
noncomputable def F178 (inv : Inv) (k : Nat) (x0 x1 : Value) (h : AH) : Option (Value × AH) :=
    bnd (pLoad Tryz.prog 199 x1 h) fun x4 =>
    bnd (pRange Tryz.prog 199 x4 h) fun x5 =>
    F178_lr inv k k x0 x5.1 unk x5.2
    (fun y0 y5 y7 h =>
    some (.tuple #[], h))
    (fun y0_2 y5_3 y13 h_4 =>
    some (.tuple #[], h_4))
theorem F178_eq : eFun env k inv 178 #[x0, x1] h = F178 inv k x0 x1 h := by
      refine (kq_fun (a := act 14 [(0, x0), (1, x1)]) (c := cp c178 1)).trans ?_
      unfold F178
      simp only [kq_seq c178 1, r178_0, kq_block c178 3 0, F178_lr_eq_13, res178_0, res178_1, reduceIte, reduceCtorEq, XE.exit.injEq, Nat.reduceEqDiff, Nat.reduceMul, Nat.reduceAdd] <;> kernel_rfl
theorem F178_call : eInv env (k + 1) (.func 178) #[] #[x0, x1] h = F178 (eInv env k) k x0 x1 h := kq_inv F178_eq
noncomputable def c179 : Code := codeOf Tryz.prog 179
theorem r179_0  : kCode env 179 false inv k (cp c179 2) (act 6 [(0, x0)]) h K =
    K .normal (act 6 [(0, x0)]) h := kq_reg
theorem r179_1  : kCode env 179 false inv k (cp c179 6) (act 6 [(0, x0)]) h K =
    bnd (pBin Tryz.prog .neq 9 (.tmp 3) (.tmp 4) x0 x0) fun x5 =>
    K .normal (act 6 [(2, x5)]) h := kq_reg
theorem res179_0 : resOfFn env.P 179 .ret (act 6 [(2, x2)]) h = some (x2, h) := kq_res
/-- cmp.isNaN[string] -/
noncomputable def F179 (inv : Inv) (k : Nat) (x0 : Value) (h : AH) : Option (Value × AH) :=
    bnd (pBin Tryz.prog .neq 9 (.tmp 3) (.tmp 4) x0 x0) fun x5 =>
    some (x5, h)
theorem F179_eq : eFun env k inv 179 #[x0] h = F179 inv k x0 h := by
      refine (kq_fun (a := act 6 [(0, x0)]) (c := cp c179 1)).trans ?_
      unfold F179
      simp only [kq_seq c179 1, r179_0, kq_seq c179 3, r179_1, kq_ret c179 7, res179_0, reduceIte, reduceCtorEq, XE.exit.injEq, Nat.reduceEqDiff, Nat.reduceMul, Nat.reduceAdd] <;> kernel_rfl
theorem F179_call : eInv env (k + 1) (.func 179) #[] #[x0] h = F179 (eInv env k) k x0 h := kq_inv F179_eq
noncomputable def c213 : Code := codeOf Tryz.prog 213
theorem r213_0  : kCode env 213 false inv k (cp c213 2) (act 42 [(0, x0), (1, x1), (2, x2)]) h K =
    bnd (pBox Tryz.prog 86 x0 h) fun x3 =>
    K .normal (act 42 [(1, x1), (2, x2), (3, x3.1), (6, (.slice none 0 0))]) x3.2 := kq_reg
theorem r213_1  : kCode env 213 false inv k (cp c213 6) (act 42 [(1, x1), (2, x2), (3, x3), (6, x6)]) h K =
    bnd (pFieldAddr Tryz.prog 86 x3 5) fun x12 =>
    bnd (pLoad Tryz.prog 84 x12 h) fun x13 =>
    bnd (callV inv x13 #[x1, x2] h) fun x16 =>
    bnd (pExtract x16.1 0) fun x17 =>
    bnd (pExtract x16.1 1) fun x18 =>
    K .normal (act 42 [(2, x2), (3, x3), (6, x6), (7, x18), (8, x17)]) x16.2 := kq_reg
noncomputable abbrev G213_2 {β : Type} (inv : Inv) (x2 x3 x6 x7 x8 : Value) (h : AH) (K : Value → AH → Option β) : Option β :=
    bnd (pBin Tryz.prog .neq 25 (.tmp 19) (.const (.int .i64 0)) x7 (.int .i64 0)) fun x20 =>
    bnd (gd (some x20) false h (some (x8, h))) fun x22 =>
    bnd (gd (some x20) false x22.2 (lt (pLen Tryz.prog #[121] x22.1 x22.2) x22.2)) fun x23 =>
    bnd (gd (some x20) false x23.2 (some (x2, x23.2))) fun x24 =>
    bnd (gd (some x20) false x24.2 (lt (pBin Tryz.prog .neq 3 (.tmp 23) (.tmp 24) x23.1 x24.1) x24.2)) fun x25 =>
    bnd (pickV x20 (.bool true) x25.1) fun x26 =>
    K (x26) x25.2
theorem r213_2  : kCode env 213 false inv k (cp c213 28) (act 42 [(2, x2), (3, x3), (6, x6), (7, x7), (8, x8)]) h K =
    G213_2 inv x2 x3 x6 x7 x8 h fun y26 h => K .normal (act 42 [(3, x3), (6, x6), (8, x8), (26, y26)]) h := kq_reg
theorem b213_rlrr  : kCode env 213 false inv k (cp c213 29) (act 42 [(3, x3), (6, x6), (8, x8), (26, x26)]) h K = brV x26 (kCode env 213 false inv k (cp c213 58) (act 42 [(3, x3), (6, x6), (8, x8), (26, x26)]) h K) (kCode env 213 false inv k (cp c213 59) (act 42 [(3, x3), (6, x6), (8, x8), (26, x26)]) h K) := kq_cond
theorem r213_3  : kCode env 213 false inv k (cp c213 116) (act 42 [(3, x3), (6, x6), (8, x8), (26, x26)]) h K =
    K .normal (act 42 [(6, (.slice none 0 0)), (7, (.int .i64 4))]) h := kq_reg
theorem res213_0 : resOfFn env.P 213 .ret (act 42 [(6, x6), (7, x7)]) h = some (.tuple #[x6, x7], h) := kq_res
theorem r213_4  : kCode env 213 false inv k (cp c213 60) (act 42 [(3, x3), (6, x6), (8, x8), (26, x26)]) h K =
    bnd (pLen Tryz.prog #[121] x8 h) fun x28 =>
    K .normal (act 42 [(3, x3), (6, x6), (27, x8), (28, x28), (29, (.int .i64 0))]) h := kq_reg
theorem r213_5  : kCode env 213 false inv k (cp c213 488) (act 42 [(3, x3), (6, x6), (27, x27), (28, x28), (29, x29)]) h K =
    bnd (pBin Tryz.prog .lss 3 (.tmp 29) (.tmp 28) x29 x28) fun x30 =>
    K .normal (act 42 [(3, x3), (6, x6), (27, x27), (28, x28), (29, x29), (30, x30)]) h := kq_reg
theorem b213_lrllrlrrr  : kCode env 213 false inv k (cp c213 978) (act 42 [(3, x3), (6, x6), (27, x27), (28, x28), (29, x29), (30, x30)]) h K = brV x30 (kCode env 213 false inv k (cp c213 1956) (act 42 [(3, x3), (6, x6), (27, x27), (28, x28), (29, x29), (30, x30)]) h K) (kCode env 213 false inv k (cp c213 1957) (act 42 [(3, x3), (6, x6), (27, x27), (28, x28), (29, x29), (30, x30)]) h K) := kq_cond
theorem r213_6  : kCode env 213 false inv k (cp c213 7832) (act 42 [(3, x3), (6, x6), (27, x27), (28, x28), (29, x29), (30, x30)]) h K =
    bnd (pIndexAddr Tryz.prog 121 x27 x29) fun x31 =>
    bnd (pLoad Tryz.prog 2 x31 h) fun x32 =>
    K .normal (act 42 [(3, x3), (6, x6), (10, x32), (27, x27), (28, x28), (29, x29)]) h := kq_reg
theorem r213_7  : kCode env 213 false inv k (cp c213 7833) (act 42 [(3, x3), (6, x6), (10, x10), (27, x27), (28, x28), (29, x29)]) h K =
    bnd (pFieldAddr Tryz.prog 86 x3 1) fun x34 =>
    bnd (pLoad Tryz.prog 47 x34 h) fun x35 =>
    bnd (callV inv x35 #[x10] h) fun x37 =>
    bnd (pBuildSlice Tryz.prog 22 1 #[(0, x37.1)] x37.2) fun x38 =>
    bnd (pAppend Tryz.prog #[22, 22] x6 x38.1 x38.2) fun x39 =>
    K .normal (act 42 [(3, x3), (6, x39.1), (27, x27), (28, x28), (29, x29)]) x39.2 := kq_reg
theorem r213_8  : kCode env 213 false inv k (cp c213 1959) (act 42 [(3, x3), (6, x6), (27, x27), (28, x28), (29, x29)]) h K =
    bnd (pBin Tryz.prog .add 3 (.tmp 29) (.const (.int .i64 1)) x29 (.int .i64 1)) fun x40 =>
    K .normal (act 42 [(3, x3), (6, x6), (27, x27), (28, x28), (29, x40)]) h := kq_reg
noncomputable def F213_lrlrrr {β : Type} (inv : Inv) (k : Nat) : Nat → Value → Value → Value → Value → Value → AH → (Value → Value → Value → Value → Value → Value → AH → Option β) → Option β
  | 0, _, _, _, _, _, _, _ => none
  | j + 1, x3, x6, x27, x28, x29, h, ke0 =>
    bnd (pBin Tryz.prog .lss 3 (.tmp 29) (.tmp 28) x29 x28) fun x30 =>
    brV x30
    (bnd (pIndexAddr Tryz.prog 121 x27 x29) fun x31 =>
    bnd (pLoad Tryz.prog 2 x31 h) fun x32 =>
    bnd (pFieldAddr Tryz.prog 86 x3 1) fun x34 =>
    bnd (pLoad Tryz.prog 47 x34 h) fun x35 =>
    bnd (callV inv x35 #[x32] h) fun x37 =>
    bnd (pBuildSlice Tryz.prog 22 1 #[(0, x37.1)] x37.2) fun x38 =>
    bnd (pAppend Tryz.prog #[22, 22] x6 x38.1 x38.2) fun x39 =>
    bnd (pBin Tryz.prog .add 3 (.tmp 29) (.const (.int .i64 1)) x29 (.int .i64 1)) fun x40 =>
    F213_lrlrrr inv k j x3 x39.1 x27 x28 x40 x39.2 ke0)
    (ke0 x3 x6 x27 x28 x29 x30 h)
theorem F213_lrlrrr_j (j : Nat) : kLoop (kCode env 213 false inv k (cp c213 244)) j (act 42 [(3, x3), (6, x6), (27, x27), (28, x28), (29, x29)]) h K = F213_lrlrrr inv k j x3 x6 x27 x28 x29 h (fun y3 y6 y27 y28 y29 y30 h => K (.exit 0) (act 42 [(3, y3), (6, y6), (27, y27), (28, y28), (29, y29), (30, y30)]) h) := by
      induction j generalizing x3 x6 x27 x28 x29 h with
      | zero => rfl
      | succ j ih =>
        unfold F213_lrlrrr
        simp only [kLoop, kq_seq c213 244, r213_5, kq_seq c213 489, b213_lrllrlrrr, kq_skip c213 1956, kq_seq c213 979, kq_block c213 1958 1, kq_seq c213 3916, r213_6, r213_7, r213_8, kq_exit c213 1957 0, ih, reduceIte, reduceCtorEq, XE.exit.injEq, Nat.reduceEqDiff, Nat.reduceMul, Nat.reduceAdd] <;> kernel_rfl
theorem F213_lrlrrr_eq  : kCode env 213 false inv k (cp c213 122) (act 42 [(3, x3), (6, x6), (27, x27), (28, x28), (29, x29)]) h K = F213_lrlrrr inv k k x3 x6 x27 x28 x29 h (fun y3 y6 y27 y28 y29 y30 h => K (.exit 0) (act 42 [(3, y3), (6, y6), (27, y27), (28, y28), (29, y29), (30, y30)]) h) := kq_loop (F213_lrlrrr_j k)
theorem r213_9  : kCode env 213 false inv k (cp c213 62) (act 42 [(3, x3), (6, x6), (27, x27), (28, x28), (29, x29), (30, x30)]) h K =
    K .normal (act 42 [(6, x6), (7, (.int .i64 0))]) h := kq_reg
/-- (shadowbook/segment.codec[int64]).back -/
noncomputable def F213 (inv : Inv) (k : Nat) (x0 x1 x2 : Value) (h : AH) : Option (Value × AH) :=
    bnd (pBox Tryz.prog 86 x0 h) fun x3 =>
    bnd (pFieldAddr Tryz.prog 86 x3.1 5) fun x12 =>
    bnd (pLoad Tryz.prog 84 x12 x3.2) fun x13 =>
    bnd (callV inv x13 #[x1, x2] x3.2) fun x16 =>
    bnd (pExtract x16.1 0) fun x17 =>
    bnd (pExtract x16.1 1) fun x18 =>
    G213_2 inv x2 x3.1 (.slice none 0 0) x18 x17 x16.2 fun y26 h =>
    brV y26
    (some (.tuple #[(.slice none 0 0), (.int .i64 4)], h))
    (bnd (pLen Tryz.prog #[121] x17 h) fun x28 =>
    F213_lrlrrr inv k k x3.1 (.slice none 0 0) x17 x28 (.int .i64 0) h
    (fun y3 y6 y27 y28 y29 y30 h_1 =>
    some (.tuple #[y6, (.int .i64 0)], h_1)))
theorem F213_eq : eFun env k inv 213 #[x0, x1, x2] h = F213 inv k x0 x1 x2 h := by
      refine (kq_fun (a := act 42 [(0, x0), (1, x1), (2, x2)]) (c := cp c213 1)).trans ?_
      unfold F213
      simp only [kq_seq c213 1, r213_0, kq_seq c213 3, r213_1, kq_seq c213 7, kq_seq c213 14, r213_2, b213_rlrr, kq_seq c213 58, r213_3, kq_ret c213 117, res213_0, kq_skip c213 59, kq_seq c213 15, kq_seq c213 30, r213_4, kq_block c213 61 0, F213_lrlrrr_eq, kq_seq c213 31, r213_9, kq_ret c213 63, reduceIte, reduceCtorEq, XE.exit.injEq, Nat.reduceEqDiff, Nat.reduceMul, Nat.reduceAdd] <;> kernel_rfl
theorem F213_call : eInv env (k + 1) (.func 213) #[] #[x0, x1, x2] h = F213 (eInv env k) k x0 x1 x2 h := kq_inv F213_eq
noncomputable def c214 : Code := codeOf Tryz.prog 214
theorem r214_0  : kCode env 214 false inv k (cp c214 2) (act 29 [(0, x0), (1, x1)]) h K =
    bnd (pBox Tryz.prog 86 x0 h) fun x2 =>
    K .normal (act 29 [(1, x1), (2, x2.1)]) x2.2 := kq_reg
theorem r214_1  : kCode env 214 false inv k (cp c214 6) (act 29 [(1, x1), (2, x2)]) h K =
    K .normal (act 29 [(1, x1), (2, x2), (6, (.slice none 0 0))]) h := kq_reg
theorem r214_2  : kCode env 214 false inv k (cp c214 28) (act 29 [(1, x1), (2, x2), (6, x6)]) h K =
    bnd (pLen Tryz.prog #[22] x1 h) fun x10 =>
    K .normal (act 29 [(2, x2), (6, x6), (9, x1), (10, x10), (11, (.int .i64 0))]) h := kq_reg
theorem r214_3  : kCode env 214 false inv k (cp c214 232) (act 29 [(2, x2), (6, x6), (9, x9), (10, x10), (11, x11)]) h K =
    bnd (pBin Tryz.prog .lss 3 (.tmp 11) (.tmp 10) x11 x10) fun x12 =>
    K .normal (act 29 [(2, x2), (6, x6), (9, x9), (10, x10), (11, x11), (12, x12)]) h := kq_reg
theorem b214_lrllrlrr  : kCode env 214 false inv k (cp c214 466) (act 29 [(2, x2), (6, x6), (9, x9), (10, x10), (11, x11), (12, x12)]) h K = brV x12 (kCode env 214 false inv k (cp c214 932) (act 29 [(2, x2), (6, x6), (9, x9), (10, x10), (11, x11), (12, x12)]) h K) (kCode env 214 false inv k (cp c214 933) (act 29 [(2, x2), (6, x6), (9, x9), (10, x10), (11, x11), (12, x12)]) h K) := kq_cond
theorem r214_4  : kCode env 214 false inv k (cp c214 3736) (act 29 [(2, x2), (6, x6), (9, x9), (10, x10), (11, x11), (12, x12)]) h K =
    bnd (pIndexAddr Tryz.prog 22 x9 x11) fun x13 =>
    bnd (pLoad Tryz.prog 31 x13 h) fun x14 =>
    bnd (pAlloc Tryz.prog 31 h) fun x8 =>
    bnd (kSt (pStore Tryz.prog 31 x8.1 x14 x8.2)) fun u =>
    K .normal (act 29 [(2, x2), (6, x6), (8, x8.1), (9, x9), (10, x10), (11, x11)]) u.2 := kq_reg
theorem r214_5  : kCode env 214 false inv k (cp c214 3737) (act 29 [(2, x2), (6, x6), (8, x8), (9, x9), (10, x10), (11, x11)]) h K =
    bnd (pFieldAddr Tryz.prog 86 x2 0) fun x16 =>
    bnd (pLoad Tryz.prog 80 x16 h) fun x17 =>
    bnd (pLoad Tryz.prog 31 x8 h) fun x18 =>
    bnd (callV inv x17 #[x18] h) fun x19 =>
    bnd (pBuildSlice Tryz.prog 121 1 #[(0, x19.1)] x19.2) fun x20 =>
    bnd (pAppend Tryz.prog #[121, 121] x6 x20.1 x20.2) fun x21 =>
    K .normal (act 29 [(2, x2), (6, x21.1), (9, x9), (10, x10), (11, x11)]) x21.2 := kq_reg
theorem r214_6  : kCode env 214 false inv k (cp c214 935) (act 29 [(2, x2), (6, x6), (9, x9), (10, x10), (11, x11)]) h K =
    bnd (pBin Tryz.prog .add 3 (.tmp 11) (.const (.int .i64 1)) x11 (.int .i64 1)) fun x22 =>
    K .normal (act 29 [(2, x2), (6, x6), (9, x9), (10, x10), (11, x22)]) h := kq_reg
noncomputable def F214_lrlrr {β : Type} (inv : Inv) (k : Nat) : Nat → Value → Value → Value → Value → Value → AH → (Value → Value → Value → Value → Value → Value → AH → Option β) → Option β
  | 0, _, _, _, _, _, _, _ => none
  | j + 1, x2, x6, x9, x10, x11, h, ke0 =>
    bnd (pBin Tryz.prog .lss 3 (.tmp 11) (.tmp 10) x11 x10) fun x12 =>
    brV x12
    (bnd (pIndexAddr Tryz.prog 22 x9 x11) fun x13 =>
    bnd (pLoad Tryz.prog 31 x13 h) fun x14 =>
    bnd (pAlloc Tryz.prog 31 h) fun x8 =>
    bnd (kSt (pStore Tryz.prog 31 x8.1 x14 x8.2)) fun u =>
    bnd (pFieldAddr Tryz.prog 86 x2 0) fun x16 =>
    bnd (pLoad Tryz.prog 80 x16 u.2) fun x17 =>
    bnd (pLoad Tryz.prog 31 x8.1 u.2) fun x18 =>
    bnd (callV inv x17 #[x18] u.2) fun x19 =>
    bnd (pBuildSlice Tryz.prog 121 1 #[(0, x19.1)] x19.2) fun x20 =>
    bnd (pAppend Tryz.prog #[121, 121] x6 x20.1 x20.2) fun x21 =>
    bnd (pBin Tryz.prog .add 3 (.tmp 11) (.const (.int .i64 1)) x11 (.int .i64 1)) fun x22 =>
    F214_lrlrr inv k j x2 x21.1 x9 x10 x22 x21.2 ke0)
    (ke0 x2 x6 x9 x10 x11 x12 h)
theorem F214_lrlrr_j (j : Nat) : kLoop (kCode env 214 false inv k (cp c214 116)) j (act 29 [(2, x2), (6, x6), (9, x9), (10, x10), (11, x11)]) h K = F214_lrlrr inv k j x2 x6 x9 x10 x11 h (fun y2 y6 y9 y10 y11 y12 h => K (.exit 0) (act 29 [(2, y2), (6, y6), (9, y9), (10, y10), (11, y11), (12, y12)]) h) := by
      induction j generalizing x2 x6 x9 x10 x11 h with
      | zero => rfl
      | succ j ih =>
        unfold F214_lrlrr
        simp only [kLoop, kq_seq c214 116, r214_3, kq_seq c214 233, b214_lrllrlrr, kq_skip c214 932, kq_seq c214 467, kq_block c214 934 1, kq_seq c214 1868, r214_4, r214_5, r214_6, kq_exit c214 933 0, ih, reduceIte, reduceCtorEq, XE.exit.injEq, Nat.reduceEqDiff, Nat.reduceMul, Nat.reduceAdd] <;> kernel_rfl
theorem F214_lrlrr_eq  : kCode env 214 false inv k (cp c214 58) (act 29 [(2, x2), (6, x6), (9, x9), (10, x10), (11, x11)]) h K = F214_lrlrr inv k k x2 x6 x9 x10 x11 h (fun y2 y6 y9 y10 y11 y12 h => K (.exit 0) (act 29 [(2, y2), (6, y6), (9, y9), (10, y10), (11, y11), (12, y12)]) h) := kq_loop (F214_lrlrr_j k)
theorem r214_7  : kCode env 214 false inv k (cp c214 30) (act 29 [(2, x2), (6, x6), (9, x9), (10, x10), (11, x11), (12, x12)]) h K =
    bnd (pFieldAddr Tryz.prog 86 x2 4) fun x23 =>
    bnd (pLoad Tryz.prog 83 x23 h) fun x24 =>
    bnd (callV inv x24 #[x6] h) fun x26 =>
    bnd (pExtract x26.1 0) fun x27 =>
    bnd (pExtract x26.1 1) fun x28 =>
    K .normal (act 29 [(4, x27), (5, x28)]) x26.2 := kq_reg
theorem res214_0 : resOfFn env.P 214 .ret (act 29 [(4, x4), (5, x5)]) h = some (.tuple #[x4, x5], h) := kq_res
/-- (shadowbook/segment.codec[int64]).cells -/
noncomputable def F214 (inv : Inv) (k : Nat) (x0 x1 : Value) (h : AH) : Option (Value × AH) :=
    bnd (pBox Tryz.prog 86 x0 h) fun x2 =>
    bnd (pLen Tryz.prog #[22] x1 x2.2) fun x10 =>
    F214_lrlrr inv k k x2.1 (.slice none 0 0) x1 x10 (.int .i64 0) x2.2
    (fun y2 y6 y9 y10 y11 y12 h =>
    bnd (pFieldAddr Tryz.prog 86 y2 4) fun x23 =>
    bnd (pLoad Tryz.prog 83 x23 h) fun x24 =>
    bnd (callV inv x24 #[y6] h) fun x26 =>
    bnd (pExtract x26.1 0) fun x27 =>
    bnd (pExtract x26.1 1) fun x28 =>
    some (.tuple #[x27, x28], x26.2))
theorem F214_eq : eFun env k inv 214 #[x0, x1] h = F214 inv k x0 x1 h := by
      refine (kq_fun (a := act 29 [(0, x0), (1, x1)]) (c := cp c214 1)).trans ?_
      unfold F214
      simp only [kq_seq c214 1, r214_0, kq_seq c214 3, r214_1, kq_seq c214 7, kq_seq c214 14, r214_2, kq_block c214 29 0, F214_lrlrr_eq, kq_seq c214 15, r214_7, kq_ret c214 31, res214_0, reduceIte, reduceCtorEq, XE.exit.injEq, Nat.reduceEqDiff, Nat.reduceMul, Nat.reduceAdd] <;> kernel_rfl
theorem F214_call : eInv env (k + 1) (.func 214) #[] #[x0, x1] h = F214 (eInv env k) k x0 x1 h := kq_inv F214_eq
noncomputable def c215 : Code := codeOf Tryz.prog 215
theorem r215_0  : kCode env 215 false inv k (cp c215 2) (act 37 [(0, x0), (1, x1)]) h K =
    bnd (pBox Tryz.prog 86 x0 h) fun x2 =>
    bnd (pAlloc Tryz.prog 31 x2.2) fun x4 =>
    bnd (pAlloc Tryz.prog 31 x4.2) fun x5 =>
    K .normal (act 37 [(1, x1), (2, x2.1), (4, x4.1), (5, x5.1)]) x5.2 := kq_reg
theorem r215_1  : kCode env 215 false inv k (cp c215 6) (act 37 [(1, x1), (2, x2), (4, x4), (5, x5)]) h K =
    bnd (pFieldAddr Tryz.prog 86 x2 3) fun x10 =>
    bnd (pLoad Tryz.prog 82 x10 h) fun x11 =>
    bnd (callV inv x11 #[x1] h) fun x13 =>
    bnd (pExtract x13.1 0) fun x14 =>
    bnd (pExtract x13.1 1) fun x15 =>
    K .normal (act 37 [(1, x1), (2, x2), (4, x4), (5, x5), (6, x15), (7, x14)]) x13.2 := kq_reg
theorem r215_2  : kCode env 215 false inv k (cp c215 28) (act 37 [(1, x1), (2, x2), (4, x4), (5, x5), (6, x6), (7, x7)]) h K =
    bnd (pBin Tryz.prog .neq 25 (.tmp 16) (.const (.int .i64 0)) x6 (.int .i64 0)) fun x17 =>
    K .normal (act 37 [(1, x1), (2, x2), (4, x4), (5, x5), (6, x6), (7, x7), (17, x17)]) h := kq_reg
theorem b215_rlrr  : kCode env 215 false inv k (cp c215 29) (act 37 [(1, x1), (2, x2), (4, x4), (5, x5), (6, x6), (7, x7), (17, x17)]) h K = brV x17 (kCode env 215 false inv k (cp c215 58) (act 37 [(1, x1), (2, x2), (4, x4), (5, x5), (6, x6), (7, x7), (17, x17)]) h K) (kCode env 215 false inv k (cp c215 59) (act 37 [(1, x1), (2, x2), (4, x4), (5, x5), (6, x6), (7, x7), (17, x17)]) h K) := kq_cond
theorem r215_3  : kCode env 215 false inv k (cp c215 116) (act 37 [(1, x1), (2, x2), (4, x4), (5, x5), (6, x6), (7, x7), (17, x17)]) h K =
    bnd (pLoad Tryz.prog 31 x4 h) fun x18 =>
    bnd (pLoad Tryz.prog 31 x5 h) fun x19 =>
    bnd (kSt (pStore Tryz.prog 31 x4 x18 h)) fun u =>
    bnd (kSt (pStore Tryz.prog 31 x5 x19 u.2)) fun u_1 =>
    chkK ((!true || !true || (sameO (pLoad Tryz.prog 31 x5 h) x19 && sameO (pLoad Tryz.prog 31 x5 u.2) x19)) && true) <|
    K .normal (act 37 [(4, x4), (5, x5), (6, x6)]) u_1.2 := kq_draw
theorem res215_0 : resOfFn env.P 215 .ret (act 37 [(4, x4), (5, x5), (6, x6)]) h = bnd (pLoad Tryz.prog 31 x4 h) fun q0 =>
    bnd (pLoad Tryz.prog 31 x5 h) fun q1 =>
    some (.tuple #[q0, q1, x6], h) := kq_res
theorem r215_4  : kCode env 215 false inv k (cp c215 30) (act 37 [(1, x1), (2, x2), (4, x4), (5, x5), (6, x6), (7, x7), (17, x17)]) h K =
    bnd (pFieldAddr Tryz.prog 86 x2 3) fun x22 =>
    bnd (pLoad Tryz.prog 82 x22 h) fun x23 =>
    bnd (callV inv x23 #[x1] h) fun x25 =>
    bnd (pExtract x25.1 0) fun x26 =>
    bnd (pExtract x25.1 1) fun x27 =>
    K .normal (act 37 [(2, x2), (4, x4), (5, x5), (6, x27), (7, x7), (8, x26)]) x25.2 := kq_reg
noncomputable abbrev G215_5 {β : Type} (inv : Inv) (x2 x4 x5 x6 x7 x8 : Value) (h : AH) (K : AH → Option β) : Option β :=
    bnd (pFieldAddr Tryz.prog 86 x2 1) fun x28 =>
    bnd (pLoad Tryz.prog 47 x28 h) fun x29 =>
    bnd (callV inv x29 #[x7] h) fun x31 =>
    bnd (pFieldAddr Tryz.prog 86 x2 1) fun x32 =>
    bnd (pLoad Tryz.prog 47 x32 x31.2) fun x33 =>
    bnd (callV inv x33 #[x8] x31.2) fun x35 =>
    bnd (kSt (pStore Tryz.prog 31 x4 x31.1 x35.2)) fun u =>
    bnd (kSt (pStore Tryz.prog 31 x5 x35.1 u.2)) fun u_3 =>
    chkK ((!true || !true || (sameO (pLoad Tryz.prog 47 x32 h) x33 && sameO (pLoad Tryz.prog 47 x32 x31.2) x33)) && true) <|
    K u_3.2
theorem r215_5  : kCode env 215 false inv k (cp c215 62) (act 37 [(2, x2), (4, x4), (5, x5), (6, x6), (7, x7), (8, x8)]) h K =
    G215_5 inv x2 x4 x5 x6 x7 x8 h fun  h => K .normal (act 37 [(4, x4), (5, x5), (6, x6)]) h := kq_draw
/-- (shadowbook/segment.codec[int64]).ends -/
noncomputable def F215 (inv : Inv) (k : Nat) (x0 x1 : Value) (h : AH) : Option (Value × AH) :=
    bnd (pBox Tryz.prog 86 x0 h) fun x2 =>
    bnd (pAlloc Tryz.prog 31 x2.2) fun x4 =>
    bnd (pAlloc Tryz.prog 31 x4.2) fun x5 =>
    bnd (pFieldAddr Tryz.prog 86 x2.1 3) fun x10 =>
    bnd (pLoad Tryz.prog 82 x10 x5.2) fun x11 =>
    bnd (callV inv x11 #[x1] x5.2) fun x13 =>
    bnd (pExtract x13.1 0) fun x14 =>
    bnd (pExtract x13.1 1) fun x15 =>
    bnd (pBin Tryz.prog .neq 25 (.tmp 16) (.const (.int .i64 0)) x15 (.int .i64 0)) fun x17 =>
    brV x17
    (bnd (pLoad Tryz.prog 31 x4.1 x13.2) fun x18 =>
    bnd (pLoad Tryz.prog 31 x5.1 x13.2) fun x19 =>
    bnd (kSt (pStore Tryz.prog 31 x4.1 x18 x13.2)) fun u =>
    bnd (kSt (pStore Tryz.prog 31 x5.1 x19 u.2)) fun u_2 =>
    chkK ((!true || !true || (sameO (pLoad Tryz.prog 31 x5.1 x13.2) x19 && sameO (pLoad Tryz.prog 31 x5.1 u.2) x19)) && true) <|
    bnd (pLoad Tryz.prog 31 x4.1 u_2.2) fun q0 =>
    bnd (pLoad Tryz.prog 31 x5.1 u_2.2) fun q1 =>
    some (.tuple #[q0, q1, x15], u_2.2))
    (bnd (pFieldAddr Tryz.prog 86 x2.1 3) fun x22 =>
    bnd (pLoad Tryz.prog 82 x22 x13.2) fun x23 =>
    bnd (callV inv x23 #[x1] x13.2) fun x25 =>
    bnd (pExtract x25.1 0) fun x26 =>
    bnd (pExtract x25.1 1) fun x27 =>
    G215_5 inv x2.1 x4.1 x5.1 x27 x14 x26 x25.2 fun  h =>
    bnd (pLoad Tryz.prog 31 x4.1 h) fun q0 =>
    bnd (pLoad Tryz.prog 31 x5.1 h) fun q1 =>
    some (.tuple #[q0, q1, x27], h))
theorem F215_eq : eFun env k inv 215 #[x0, x1] h = F215 inv k x0 x1 h := by
      refine (kq_fun (a := act 37 [(0, x0), (1, x1)]) (c := cp c215 1)).trans ?_
      unfold F215
      simp only [kq_seq c215 1, r215_0, kq_seq c215 3, r215_1, kq_seq c215 7, kq_seq c215 14, r215_2, b215_rlrr, kq_seq c215 58, r215_3, kq_ret c215 117, res215_0, kq_skip c215 59, kq_seq c215 15, r215_4, kq_seq c215 31, r215_5, kq_ret c215 63, reduceIte, reduceCtorEq, XE.exit.injEq, Nat.reduceEqDiff, Nat.reduceMul, Nat.reduceAdd] <;> kernel_rfl
theorem F215_call : eInv env (k + 1) (.func 215) #[] #[x0, x1] h = F215 (eInv env k) k x0 x1 h := kq_inv F215_eq
noncomputable def c216 : Code := codeOf Tryz.prog 216
theorem r216_0  : kCode env 216 false inv k (cp c216 2) (act 24 [(0, x0), (1, x1), (2, x2)]) h K =
    bnd (pBox Tryz.prog 86 x0 h) fun x3 =>
    bnd (pBox Tryz.prog 38 x2 x3.2) fun x5 =>
    K .normal (act 24 [(1, x1), (3, x3.1), (5, x5.1)]) x5.2 := kq_reg
noncomputable abbrev G216_1 {β : Type} (inv : Inv) (x1 x3 x5 : Value) (h : AH) (K : Value → AH → Option β) : Option β :=
    bnd (pFieldAddr Tryz.prog 86 x3 2) fun x7 =>
    bnd (pLoad Tryz.prog 81 x7 h) fun x8 =>
    bnd (pFieldAddr Tryz.prog 86 x3 2) fun x9 =>
    bnd (pLoad Tryz.prog 81 x9 h) fun x10 =>
    bnd (pFieldAddr Tryz.prog 86 x3 0) fun x12 =>
    bnd (pLoad Tryz.prog 80 x12 h) fun x13 =>
    bnd (pFieldAddr Tryz.prog 38 x5 2) fun x14 =>
    bnd (pLoad Tryz.prog 31 x14 h) fun x15 =>
    bnd (callV inv x13 #[x15] h) fun x16 =>
    bnd (callV inv x10 #[x1, x16.1] x16.2) fun x17 =>
    bnd (pFieldAddr Tryz.prog 86 x3 0) fun x18 =>
    bnd (pLoad Tryz.prog 80 x18 x17.2) fun x19 =>
    bnd (pFieldAddr Tryz.prog 38 x5 3) fun x20 =>
    bnd (pLoad Tryz.prog 31 x20 x17.2) fun x21 =>
    bnd (callV inv x19 #[x21] x17.2) fun x22 =>
    bnd (callV inv x8 #[x17.1, x22.1] x22.2) fun x23 =>
    chkK ((!true || !true || (sameO (pLoad Tryz.prog 81 x7 h) x8 && sameO (pLoad Tryz.prog 81 x7 x16.2) x8)) && ((!true || !true || (sameO (pLoad Tryz.prog 81 x7 x16.2) x8 && sameO (pLoad Tryz.prog 81 x7 x17.2) x8)) && ((!true || !true || (sameO (pLoad Tryz.prog 81 x7 x17.2) x8 && sameO (pLoad Tryz.prog 81 x7 x22.2) x8)) && ((!true || !true || (sameO (pLoad Tryz.prog 81 x9 h) x10 && sameO (pLoad Tryz.prog 81 x9 x16.2) x10)) && ((!true || !true || (sameO (pLoad Tryz.prog 80 x18 h) x19 && sameO (pLoad Tryz.prog 80 x18 x16.2) x19)) && ((!true || !true || (sameO (pLoad Tryz.prog 80 x18 x16.2) x19 && sameO (pLoad Tryz.prog 80 x18 x17.2) x19)) && ((!true || !true || (sameO (pLoad Tryz.prog 31 x20 h) x21 && sameO (pLoad Tryz.prog 31 x20 x16.2) x21)) && ((!true || !true || (sameO (pLoad Tryz.prog 31 x20 x16.2) x21 && sameO (pLoad Tryz.prog 31 x20 x17.2) x21)) && true)))))))) <|
    K (x23.1) x23.2
theorem r216_1  : kCode env 216 false inv k (cp c216 6) (act 24 [(1, x1), (3, x3), (5, x5)]) h K =
    G216_1 inv x1 x3 x5 h fun y6 h => K .normal (act 24 [(6, y6)]) h := kq_draw
theorem res216_0 : resOfFn env.P 216 .ret (act 24 [(6, x6)]) h = some (x6, h) := kq_res
/-- (shadowbook/segment.codec[int64]).zone -/
noncomputable def F216 (inv : Inv) (k : Nat) (x0 x1 x2 : Value) (h : AH) : Option (Value × AH) :=
    bnd (pBox Tryz.prog 86 x0 h) fun x3 =>
    bnd (pBox Tryz.prog 38 x2 x3.2) fun x5 =>
    G216_1 inv x1 x3.1 x5.1 x5.2 fun y6 h =>
    some (y6, h)
theorem F216_eq : eFun env k inv 216 #[x0, x1, x2] h = F216 inv k x0 x1 x2 h := by
      refine (kq_fun (a := act 24 [(0, x0), (1, x1), (2, x2)]) (c := cp c216 1)).trans ?_
      unfold F216
      simp only [kq_seq c216 1, r216_0, kq_seq c216 3, r216_1, kq_ret c216 7, res216_0, reduceIte, reduceCtorEq, XE.exit.injEq, Nat.reduceEqDiff, Nat.reduceMul, Nat.reduceAdd] <;> kernel_rfl
theorem F216_call : eInv env (k + 1) (.func 216) #[] #[x0, x1, x2] h = F216 (eInv env k) k x0 x1 x2 h := kq_inv F216_eq
noncomputable def c217 : Code := codeOf Tryz.prog 217
theorem r217_0  : kCode env 217 false inv k (cp c217 2) (act 42 [(0, x0), (1, x1), (2, x2)]) h K =
    bnd (pBox Tryz.prog 94 x0 h) fun x3 =>
    K .normal (act 42 [(1, x1), (2, x2), (3, x3.1), (6, (.slice none 0 0))]) x3.2 := kq_reg
theorem r217_1  : kCode env 217 false inv k (cp c217 6) (act 42 [(1, x1), (2, x2), (3, x3), (6, x6)]) h K =
    bnd (pFieldAddr Tryz.prog 94 x3 5) fun x12 =>
    bnd (pLoad Tryz.prog 92 x12 h) fun x13 =>
    bnd (callV inv x13 #[x1, x2] h) fun x16 =>
    bnd (pExtract x16.1 0) fun x17 =>
    bnd (pExtract x16.1 1) fun x18 =>
    K .normal (act 42 [(2, x2), (3, x3), (6, x6), (7, x18), (8, x17)]) x16.2 := kq_reg
noncomputable abbrev G217_2 {β : Type} (inv : Inv) (x2 x3 x6 x7 x8 : Value) (h : AH) (K : Value → AH → Option β) : Option β :=
    bnd (pBin Tryz.prog .neq 25 (.tmp 19) (.const (.int .i64 0)) x7 (.int .i64 0)) fun x20 =>
    bnd (gd (some x20) false h (some (x8, h))) fun x22 =>
    bnd (gd (some x20) false x22.2 (lt (pLen Tryz.prog #[63] x22.1 x22.2) x22.2)) fun x23 =>
    bnd (gd (some x20) false x23.2 (some (x2, x23.2))) fun x24 =>
    bnd (gd (some x20) false x24.2 (lt (pBin Tryz.prog .neq 3 (.tmp 23) (.tmp 24) x23.1 x24.1) x24.2)) fun x25 =>
    bnd (pickV x20 (.bool true) x25.1) fun x26 =>
    K (x26) x25.2
theorem r217_2  : kCode env 217 false inv k (cp c217 28) (act 42 [(2, x2), (3, x3), (6, x6), (7, x7), (8, x8)]) h K =
    G217_2 inv x2 x3 x6 x7 x8 h fun y26 h => K .normal (act 42 [(3, x3), (6, x6), (8, x8), (26, y26)]) h := kq_reg
theorem b217_rlrr  : kCode env 217 false inv k (cp c217 29) (act 42 [(3, x3), (6, x6), (8, x8), (26, x26)]) h K = brV x26 (kCode env 217 false inv k (cp c217 58) (act 42 [(3, x3), (6, x6), (8, x8), (26, x26)]) h K) (kCode env 217 false inv k (cp c217 59) (act 42 [(3, x3), (6, x6), (8, x8), (26, x26)]) h K) := kq_cond
theorem r217_3  : kCode env 217 false inv k (cp c217 116) (act 42 [(3, x3), (6, x6), (8, x8), (26, x26)]) h K =
    K .normal (act 42 [(6, (.slice none 0 0)), (7, (.int .i64 4))]) h := kq_reg
theorem res217_0 : resOfFn env.P 217 .ret (act 42 [(6, x6), (7, x7)]) h = some (.tuple #[x6, x7], h) := kq_res
theorem r217_4  : kCode env 217 false inv k (cp c217 60) (act 42 [(3, x3), (6, x6), (8, x8), (26, x26)]) h K =
    bnd (pLen Tryz.prog #[63] x8 h) fun x28 =>
    K .normal (act 42 [(3, x3), (6, x6), (27, x8), (28, x28), (29, (.int .i64 0))]) h := kq_reg
theorem r217_5  : kCode env 217 false inv k (cp c217 488) (act 42 [(3, x3), (6, x6), (27, x27), (28, x28), (29, x29)]) h K =
    bnd (pBin Tryz.prog .lss 3 (.tmp 29) (.tmp 28) x29 x28) fun x30 =>
    K .normal (act 42 [(3, x3), (6, x6), (27, x27), (28, x28), (29, x29), (30, x30)]) h := kq_reg
theorem b217_lrllrlrrr  : kCode env 217 false inv k (cp c217 978) (act 42 [(3, x3), (6, x6), (27, x27), (28, x28), (29, x29), (30, x30)]) h K = brV x30 (kCode env 217 false inv k (cp c217 1956) (act 42 [(3, x3), (6, x6), (27, x27), (28, x28), (29, x29), (30, x30)]) h K) (kCode env 217 false inv k (cp c217 1957) (act 42 [(3, x3), (6, x6), (27, x27), (28, x28), (29, x29), (30, x30)]) h K) := kq_cond
theorem r217_6  : kCode env 217 false inv k (cp c217 7832) (act 42 [(3, x3), (6, x6), (27, x27), (28, x28), (29, x29), (30, x30)]) h K =
    bnd (pIndexAddr Tryz.prog 63 x27 x29) fun x31 =>
    bnd (pLoad Tryz.prog 60 x31 h) fun x32 =>
    K .normal (act 42 [(3, x3), (6, x6), (10, x32), (27, x27), (28, x28), (29, x29)]) h := kq_reg
theorem r217_7  : kCode env 217 false inv k (cp c217 7833) (act 42 [(3, x3), (6, x6), (10, x10), (27, x27), (28, x28), (29, x29)]) h K =
    bnd (pFieldAddr Tryz.prog 94 x3 1) fun x34 =>
    bnd (pLoad Tryz.prog 89 x34 h) fun x35 =>
    bnd (callV inv x35 #[x10] h) fun x37 =>
    bnd (pBuildSlice Tryz.prog 22 1 #[(0, x37.1)] x37.2) fun x38 =>
    bnd (pAppend Tryz.prog #[22, 22] x6 x38.1 x38.2) fun x39 =>
    K .normal (act 42 [(3, x3), (6, x39.1), (27, x27), (28, x28), (29, x29)]) x39.2 := kq_reg
theorem r217_8  : kCode env 217 false inv k (cp c217 1959) (act 42 [(3, x3), (6, x6), (27, x27), (28, x28), (29, x29)]) h K =
    bnd (pBin Tryz.prog .add 3 (.tmp 29) (.const (.int .i64 1)) x29 (.int .i64 1)) fun x40 =>
    K .normal (act 42 [(3, x3), (6, x6), (27, x27), (28, x28), (29, x40)]) h := kq_reg
noncomputable def F217_lrlrrr {β : Type} (inv : Inv) (k : Nat) : Nat → Value → Value → Value → Value → Value → AH → (Value → Value → Value → Value → Value → Value → AH → Option β) → Option β
  | 0, _, _, _, _, _, _, _ => none
  | j + 1, x3, x6, x27, x28, x29, h, ke0 =>
    bnd (pBin Tryz.prog .lss 3 (.tmp 29) (.tmp 28) x29 x28) fun x30 =>
    brV x30
    (bnd (pIndexAddr Tryz.prog 63 x27 x29) fun x31 =>
    bnd (pLoad Tryz.prog 60 x31 h) fun x32 =>
    bnd (pFieldAddr Tryz.prog 94 x3 1) fun x34 =>
    bnd (pLoad Tryz.prog 89 x34 h) fun x35 =>
    bnd (callV inv x35 #[x32] h) fun x37 =>
    bnd (pBuildSlice Tryz.prog 22 1 #[(0, x37.1)] x37.2) fun x38 =>
    bnd (pAppend Tryz.prog #[22, 22] x6 x38.1 x38.2) fun x39 =>
    bnd (pBin Tryz.prog .add 3 (.tmp 29) (.const (.int .i64 1)) x29 (.int .i64 1)) fun x40 =>
    F217_lrlrrr inv k j x3 x39.1 x27 x28 x40 x39.2 ke0)
    (ke0 x3 x6 x27 x28 x29 x30 h)
theorem F217_lrlrrr_j (j : Nat) : kLoop (kCode env 217 false inv k (cp c217 244)) j (act 42 [(3, x3), (6, x6), (27, x27), (28, x28), (29, x29)]) h K = F217_lrlrrr inv k j x3 x6 x27 x28 x29 h (fun y3 y6 y27 y28 y29 y30 h => K (.exit 0) (act 42 [(3, y3), (6, y6), (27, y27), (28, y28), (29, y29), (30, y30)]) h) := by
      induction j generalizing x3 x6 x27 x28 x29 h with
      | zero => rfl
      | succ j ih =>
        unfold F217_lrlrrr
        simp only [kLoop, kq_seq c217 244, r217_5, kq_seq c217 489, b217_lrllrlrrr, kq_skip c217 1956, kq_seq c217 979, kq_block c217 1958 1, kq_seq c217 3916, r217_6, r217_7, r217_8, kq_exit c217 1957 0, ih, reduceIte, reduceCtorEq, XE.exit.injEq, Nat.reduceEqDiff, Nat.reduceMul, Nat.reduceAdd] <;> kernel_rfl
theorem F217_lrlrrr_eq  : kCode env 217 false inv k (cp c217 122) (act 42 [(3, x3), (6, x6), (27, x27), (28, x28), (29, x29)]) h K = F217_lrlrrr inv k k x3 x6 x27 x28 x29 h (fun y3 y6 y27 y28 y29 y30 h => K (.exit 0) (act 42 [(3, y3), (6, y6), (27, y27), (28, y28), (29, y29), (30, y30)]) h) := kq_loop (F217_lrlrrr_j k)
theorem r217_9  : kCode env 217 false inv k (cp c217 62) (act 42 [(3, x3), (6, x6), (27, x27), (28, x28), (29, x29), (30, x30)]) h K =
    K .normal (act 42 [(6, x6), (7, (.int .i64 0))]) h := kq_reg
/-- (shadowbook/segment.codec[uint64]).back -/
noncomputable def F217 (inv : Inv) (k : Nat) (x0 x1 x2 : Value) (h : AH) : Option (Value × AH) :=
    bnd (pBox Tryz.prog 94 x0 h) fun x3 =>
    bnd (pFieldAddr Tryz.prog 94 x3.1 5) fun x12 =>
    bnd (pLoad Tryz.prog 92 x12 x3.2) fun x13 =>
    bnd (callV inv x13 #[x1, x2] x3.2) fun x16 =>
    bnd (pExtract x16.1 0) fun x17 =>
    bnd (pExtract x16.1 1) fun x18 =>
    G217_2 inv x2 x3.1 (.slice none 0 0) x18 x17 x16.2 fun y26 h =>
    brV y26
    (some (.tuple #[(.slice none 0 0), (.int .i64 4)], h))
    (bnd (pLen Tryz.prog #[63] x17 h) fun x28 =>
    F217_lrlrrr inv k k x3.1 (.slice none 0 0) x17 x28 (.int .i64 0) h
    (fun y3 y6 y27 y28 y29 y30 h_1 =>
    some (.tuple #[y6, (.int .i64 0)], h_1)))
theorem F217_eq : eFun env k inv 217 #[x0, x1, x2] h = F217 inv k x0 x1 x2 h := by
      refine (kq_fun (a := act 42 [(0, x0), (1, x1), (2, x2)]) (c := cp c217 1)).trans ?_
      unfold F217
      simp only [kq_seq c217 1, r217_0, kq_seq c217 3, r217_1, kq_seq c217 7, kq_seq c217 14, r217_2, b217_rlrr, kq_seq c217 58, r217_3, kq_ret c217 117, res217_0, kq_skip c217 59, kq_seq c217 15, kq_seq c217 30, r217_4, kq_block c217 61 0, F217_lrlrrr_eq, kq_seq c217 31, r217_9, kq_ret c217 63, reduceIte, reduceCtorEq, XE.exit.injEq, Nat.reduceEqDiff, Nat.reduceMul, Nat.reduceAdd] <;> kernel_rfl
theorem F217_call : eInv env (k + 1) (.func 217) #[] #[x0, x1, x2] h = F217 (eInv env k) k x0 x1 x2 h := kq_inv F217_eq
noncomputable def c218 : Code := codeOf Tryz.prog 218
theorem r218_0  : kCode env 218 false inv k (cp c218 2) (act 29 [(0, x0), (1, x1)]) h K =
    bnd (pBox Tryz.prog 94 x0 h) fun x2 =>
    K .normal (act 29 [(1, x1), (2, x2.1)]) x2.2 := kq_reg
theorem r218_1  : kCode env 218 false inv k (cp c218 6) (act 29 [(1, x1), (2, x2)]) h K =
    K .normal (act 29 [(1, x1), (2, x2), (6, (.slice none 0 0))]) h := kq_reg
theorem r218_2  : kCode env 218 false inv k (cp c218 28) (act 29 [(1, x1), (2, x2), (6, x6)]) h K =
    bnd (pLen Tryz.prog #[22] x1 h) fun x10 =>
    K .normal (act 29 [(2, x2), (6, x6), (9, x1), (10, x10), (11, (.int .i64 0))]) h := kq_reg
theorem r218_3  : kCode env 218 false inv k (cp c218 232) (act 29 [(2, x2), (6, x6), (9, x9), (10, x10), (11, x11)]) h K =
    bnd (pBin Tryz.prog .lss 3 (.tmp 11) (.tmp 10) x11 x10) fun x12 =>
    K .normal (act 29 [(2, x2), (6, x6), (9, x9), (10, x10), (11, x11), (12, x12)]) h := kq_reg
theorem b218_lrllrlrr  : kCode env 218 false inv k (cp c218 466) (act 29 [(2, x2), (6, x6), (9, x9), (10, x10), (11, x11), (12, x12)]) h K = brV x12 (kCode env 218 false inv k (cp c218 932) (act 29 [(2, x2), (6, x6), (9, x9), (10, x10), (11, x11), (12, x12)]) h K) (kCode env 218 false inv k (cp c218 933) (act 29 [(2, x2), (6, x6), (9, x9), (10, x10), (11, x11), (12, x12)]) h K) := kq_cond
theorem r218_4  : kCode env 218 false inv k (cp c218 3736) (act 29 [(2, x2), (6, x6), (9, x9), (10, x10), (11, x11), (12, x12)]) h K =
    bnd (pIndexAddr Tryz.prog 22 x9 x11) fun x13 =>
    bnd (pLoad Tryz.prog 31 x13 h) fun x14 =>
    bnd (pAlloc Tryz.prog 31 h) fun x8 =>
    bnd (kSt (pStore Tryz.prog 31 x8.1 x14 x8.2)) fun u =>
    K .normal (act 29 [(2, x2), (6, x6), (8, x8.1), (9, x9), (10, x10), (11, x11)]) u.2 := kq_reg
theorem r218_5  : kCode env 218 false inv k (cp c218 3737) (act 29 [(2, x2), (6, x6), (8, x8), (9, x9), (10, x10), (11, x11)]) h K =
    bnd (pFieldAddr Tryz.prog 94 x2 0) fun x16 =>
    bnd (pLoad Tryz.prog 88 x16 h) fun x17 =>
    bnd (pLoad Tryz.prog 31 x8 h) fun x18 =>
    bnd (callV inv x17 #[x18] h) fun x19 =>
    bnd (pBuildSlice Tryz.prog 63 1 #[(0, x19.1)] x19.2) fun x20 =>
    bnd (pAppend Tryz.prog #[63, 63] x6 x20.1 x20.2) fun x21 =>
    K .normal (act 29 [(2, x2), (6, x21.1), (9, x9), (10, x10), (11, x11)]) x21.2 := kq_reg
theorem r218_6  : kCode env 218 false inv k (cp c218 935) (act 29 [(2, x2), (6, x6), (9, x9), (10, x10), (11, x11)]) h K =
    bnd (pBin Tryz.prog .add 3 (.tmp 11) (.const (.int .i64 1)) x11 (.int .i64 1)) fun x22 =>
    K .normal (act 29 [(2, x2), (6, x6), (9, x9), (10, x10), (11, x22)]) h := kq_reg
noncomputable def F218_lrlrr {β : Type} (inv : Inv) (k : Nat) : Nat → Value → Value → Value → Value → Value → AH → (Value → Value → Value → Value → Value → Value → AH → Option β) → Option β
  | 0, _, _, _, _, _, _, _ => none
  | j + 1, x2, x6, x9, x10, x11, h, ke0 =>
    bnd (pBin Tryz.prog .lss 3 (.tmp 11) (.tmp 10) x11 x10) fun x12 =>
    brV x12
    (bnd (pIndexAddr Tryz.prog 22 x9 x11) fun x13 =>
    bnd (pLoad Tryz.prog 31 x13 h) fun x14 =>
    bnd (pAlloc Tryz.prog 31 h) fun x8 =>
    bnd (kSt (pStore Tryz.prog 31 x8.1 x14 x8.2)) fun u =>
    bnd (pFieldAddr Tryz.prog 94 x2 0) fun x16 =>
    bnd (pLoad Tryz.prog 88 x16 u.2) fun x17 =>
    bnd (pLoad Tryz.prog 31 x8.1 u.2) fun x18 =>
    bnd (callV inv x17 #[x18] u.2) fun x19 =>
    bnd (pBuildSlice Tryz.prog 63 1 #[(0, x19.1)] x19.2) fun x20 =>
    bnd (pAppend Tryz.prog #[63, 63] x6 x20.1 x20.2) fun x21 =>
    bnd (pBin Tryz.prog .add 3 (.tmp 11) (.const (.int .i64 1)) x11 (.int .i64 1)) fun x22 =>
    F218_lrlrr inv k j x2 x21.1 x9 x10 x22 x21.2 ke0)
    (ke0 x2 x6 x9 x10 x11 x12 h)
theorem F218_lrlrr_j (j : Nat) : kLoop (kCode env 218 false inv k (cp c218 116)) j (act 29 [(2, x2), (6, x6), (9, x9), (10, x10), (11, x11)]) h K = F218_lrlrr inv k j x2 x6 x9 x10 x11 h (fun y2 y6 y9 y10 y11 y12 h => K (.exit 0) (act 29 [(2, y2), (6, y6), (9, y9), (10, y10), (11, y11), (12, y12)]) h) := by
      induction j generalizing x2 x6 x9 x10 x11 h with
      | zero => rfl
      | succ j ih =>
        unfold F218_lrlrr
        simp only [kLoop, kq_seq c218 116, r218_3, kq_seq c218 233, b218_lrllrlrr, kq_skip c218 932, kq_seq c218 467, kq_block c218 934 1, kq_seq c218 1868, r218_4, r218_5, r218_6, kq_exit c218 933 0, ih, reduceIte, reduceCtorEq, XE.exit.injEq, Nat.reduceEqDiff, Nat.reduceMul, Nat.reduceAdd] <;> kernel_rfl
theorem F218_lrlrr_eq  : kCode env 218 false inv k (cp c218 58) (act 29 [(2, x2), (6, x6), (9, x9), (10, x10), (11, x11)]) h K = F218_lrlrr inv k k x2 x6 x9 x10 x11 h (fun y2 y6 y9 y10 y11 y12 h => K (.exit 0) (act 29 [(2, y2), (6, y6), (9, y9), (10, y10), (11, y11), (12, y12)]) h) := kq_loop (F218_lrlrr_j k)
theorem r218_7  : kCode env 218 false inv k (cp c218 30) (act 29 [(2, x2), (6, x6), (9, x9), (10, x10), (11, x11), (12, x12)]) h K =
    bnd (pFieldAddr Tryz.prog 94 x2 4) fun x23 =>
    bnd (pLoad Tryz.prog 91 x23 h) fun x24 =>
    bnd (callV inv x24 #[x6] h) fun x26 =>
    bnd (pExtract x26.1 0) fun x27 =>
    bnd (pExtract x26.1 1) fun x28 =>
    K .normal (act 29 [(4, x27), (5, x28)]) x26.2 := kq_reg
theorem res218_0 : resOfFn env.P 218 .ret (act 29 [(4, x4), (5, x5)]) h = some (.tuple #[x4, x5], h) := kq_res
/-- (shadowbook/segment.codec[uint64]).cells -/
noncomputable def F218 (inv : Inv) (k : Nat) (x0 x1 : Value) (h : AH) : Option (Value × AH) :=
    bnd (pBox Tryz.prog 94 x0 h) fun x2 =>
    bnd (pLen Tryz.prog #[22] x1 x2.2) fun x10 =>
    F218_lrlrr inv k k x2.1 (.slice none 0 0) x1 x10 (.int .i64 0) x2.2
    (fun y2 y6 y9 y10 y11 y12 h =>
    bnd (pFieldAddr Tryz.prog 94 y2 4) fun x23 =>
    bnd (pLoad Tryz.prog 91 x23 h) fun x24 =>
    bnd (callV inv x24 #[y6] h) fun x26 =>
    bnd (pExtract x26.1 0) fun x27 =>
    bnd (pExtract x26.1 1) fun x28 =>
    some (.tuple #[x27, x28], x26.2))
theorem F218_eq : eFun env k inv 218 #[x0, x1] h = F218 inv k x0 x1 h := by
      refine (kq_fun (a := act 29 [(0, x0), (1, x1)]) (c := cp c218 1)).trans ?_
      unfold F218
      simp only [kq_seq c218 1, r218_0, kq_seq c218 3, r218_1, kq_seq c218 7, kq_seq c218 14, r218_2, kq_block c218 29 0, F218_lrlrr_eq, kq_seq c218 15, r218_7, kq_ret c218 31, res218_0, reduceIte, reduceCtorEq, XE.exit.injEq, Nat.reduceEqDiff, Nat.reduceMul, Nat.reduceAdd] <;> kernel_rfl
theorem F218_call : eInv env (k + 1) (.func 218) #[] #[x0, x1] h = F218 (eInv env k) k x0 x1 h := kq_inv F218_eq
noncomputable def c219 : Code := codeOf Tryz.prog 219
theorem r219_0  : kCode env 219 false inv k (cp c219 2) (act 37 [(0, x0), (1, x1)]) h K =
    bnd (pBox Tryz.prog 94 x0 h) fun x2 =>
    bnd (pAlloc Tryz.prog 31 x2.2) fun x4 =>
    bnd (pAlloc Tryz.prog 31 x4.2) fun x5 =>
    K .normal (act 37 [(1, x1), (2, x2.1), (4, x4.1), (5, x5.1)]) x5.2 := kq_reg
theorem r219_1  : kCode env 219 false inv k (cp c219 6) (act 37 [(1, x1), (2, x2), (4, x4), (5, x5)]) h K =
    bnd (pFieldAddr Tryz.prog 94 x2 3) fun x10 =>
    bnd (pLoad Tryz.prog 90 x10 h) fun x11 =>
    bnd (callV inv x11 #[x1] h) fun x13 =>
    bnd (pExtract x13.1 0) fun x14 =>
    bnd (pExtract x13.1 1) fun x15 =>
    K .normal (act 37 [(1, x1), (2, x2), (4, x4), (5, x5), (6, x15), (7, x14)]) x13.2 := kq_reg
theorem r219_2  : kCode env 219 false inv k (cp c219 28) (act 37 [(1, x1), (2, x2), (4, x4), (5, x5), (6, x6), (7, x7)]) h K =
    bnd (pBin Tryz.prog .neq 25 (.tmp 16) (.const (.int .i64 0)) x6 (.int .i64 0)) fun x17 =>
    K .normal (act 37 [(1, x1), (2, x2), (4, x4), (5, x5), (6, x6), (7, x7), (17, x17)]) h := kq_reg
theorem b219_rlrr  : kCode env 219 false inv k (cp c219 29) (act 37 [(1, x1), (2, x2), (4, x4), (5, x5), (6, x6), (7, x7), (17, x17)]) h K = brV x17 (kCode env 219 false inv k (cp c219 58) (act 37 [(1, x1), (2, x2), (4, x4), (5, x5), (6, x6), (7, x7), (17, x17)]) h K) (kCode env 219 false inv k (cp c219 59) (act 37 [(1, x1), (2, x2), (4, x4), (5, x5), (6, x6), (7, x7), (17, x17)]) h K) := kq_cond
theorem r219_3  : kCode env 219 false inv k (cp c219 116) (act 37 [(1, x1), (2, x2), (4, x4), (5, x5), (6, x6), (7, x7), (17, x17)]) h K =
    bnd (pLoad Tryz.prog 31 x4 h) fun x18 =>
    bnd (pLoad Tryz.prog 31 x5 h) fun x19 =>
    bnd (kSt (pStore Tryz.prog 31 x4 x18 h)) fun u =>
    bnd (kSt (pStore Tryz.prog 31 x5 x19 u.2)) fun u_1 =>
    chkK ((!true || !true || (sameO (pLoad Tryz.prog 31 x5 h) x19 && sameO (pLoad Tryz.prog 31 x5 u.2) x19)) && true) <|
    K .normal (act 37 [(4, x4), (5, x5), (6, x6)]) u_1.2 := kq_draw
theorem res219_0 : resOfFn env.P 219 .ret (act 37 [(4, x4), (5, x5), (6, x6)]) h = bnd (pLoad Tryz.prog 31 x4 h) fun q0 =>
    bnd (pLoad Tryz.prog 31 x5 h) fun q1 =>
    some (.tuple #[q0, q1, x6], h) := kq_res
theorem r219_4  : kCode env 219 false inv k (cp c219 30) (act 37 [(1, x1), (2, x2), (4, x4), (5, x5), (6, x6), (7, x7), (17, x17)]) h K =
    bnd (pFieldAddr Tryz.prog 94 x2 3) fun x22 =>
    bnd (pLoad Tryz.prog 90 x22 h) fun x23 =>
    bnd (callV inv x23 #[x1] h) fun x25 =>
    bnd (pExtract x25.1 0) fun x26 =>
    bnd (pExtract x25.1 1) fun x27 =>
    K .normal (act 37 [(2, x2), (4, x4), (5, x5), (6, x27), (7, x7), (8, x26)]) x25.2 := kq_reg
noncomputable abbrev G219_5 {β : Type} (inv : Inv) (x2 x4 x5 x6 x7 x8 : Value) (h : AH) (K : AH → Option β) : Option β :=
    bnd (pFieldAddr Tryz.prog 94 x2 1) fun x28 =>
    bnd (pLoad Tryz.prog 89 x28 h) fun x29 =>
    bnd (callV inv x29 #[x7] h) fun x31 =>
    bnd (pFieldAddr Tryz.prog 94 x2 1) fun x32 =>
    bnd (pLoad Tryz.prog 89 x32 x31.2) fun x33 =>
    bnd (callV inv x33 #[x8] x31.2) fun x35 =>
    bnd (kSt (pStore Tryz.prog 31 x4 x31.1 x35.2)) fun u =>
    bnd (kSt (pStore Tryz.prog 31 x5 x35.1 u.2)) fun u_3 =>
    chkK ((!true || !true || (sameO (pLoad Tryz.prog 89 x32 h) x33 && sameO (pLoad Tryz.prog 89 x32 x31.2) x33)) && true) <|
    K u_3.2
theorem r219_5  : kCode env 219 false inv k (cp c219 62) (act 37 [(2, x2), (4, x4), (5, x5), (6, x6), (7, x7), (8, x8)]) h K =
    G219_5 inv x2 x4 x5 x6 x7 x8 h fun  h => K .normal (act 37 [(4, x4), (5, x5), (6, x6)]) h := kq_draw
/-- (shadowbook/segment.codec[uint64]).ends -/
noncomputable def F219 (inv : Inv) (k : Nat) (x0 x1 : Value) (h : AH) : Option (Value × AH) :=
    bnd (pBox Tryz.prog 94 x0 h) fun x2 =>
    bnd (pAlloc Tryz.prog 31 x2.2) fun x4 =>
    bnd (pAlloc Tryz.prog 31 x4.2) fun x5 =>
    bnd (pFieldAddr Tryz.prog 94 x2.1 3) fun x10 =>
    bnd (pLoad Tryz.prog 90 x10 x5.2) fun x11 =>
    bnd (callV inv x11 #[x1] x5.2) fun x13 =>
    bnd (pExtract x13.1 0) fun x14 =>
    bnd (pExtract x13.1 1) fun x15 =>
    bnd (pBin Tryz.prog .neq 25 (.tmp 16) (.const (.int .i64 0)) x15 (.int .i64 0)) fun x17 =>
    brV x17
    (bnd (pLoad Tryz.prog 31 x4.1 x13.2) fun x18 =>
    bnd (pLoad Tryz.prog 31 x5.1 x13.2) fun x19 =>
    bnd (kSt (pStore Tryz.prog 31 x4.1 x18 x13.2)) fun u =>
    bnd (kSt (pStore Tryz.prog 31 x5.1 x19 u.2)) fun u_2 =>
    chkK ((!true || !true || (sameO (pLoad Tryz.prog 31 x5.1 x13.2) x19 && sameO (pLoad Tryz.prog 31 x5.1 u.2) x19)) && true) <|
    bnd (pLoad Tryz.prog 31 x4.1 u_2.2) fun q0 =>
    bnd (pLoad Tryz.prog 31 x5.1 u_2.2) fun q1 =>
    some (.tuple #[q0, q1, x15], u_2.2))
    (bnd (pFieldAddr Tryz.prog 94 x2.1 3) fun x22 =>
    bnd (pLoad Tryz.prog 90 x22 x13.2) fun x23 =>
    bnd (callV inv x23 #[x1] x13.2) fun x25 =>
    bnd (pExtract x25.1 0) fun x26 =>
    bnd (pExtract x25.1 1) fun x27 =>
    G219_5 inv x2.1 x4.1 x5.1 x27 x14 x26 x25.2 fun  h =>
    bnd (pLoad Tryz.prog 31 x4.1 h) fun q0 =>
    bnd (pLoad Tryz.prog 31 x5.1 h) fun q1 =>
    some (.tuple #[q0, q1, x27], h))
theorem F219_eq : eFun env k inv 219 #[x0, x1] h = F219 inv k x0 x1 h := by
      refine (kq_fun (a := act 37 [(0, x0), (1, x1)]) (c := cp c219 1)).trans ?_
      unfold F219
      simp only [kq_seq c219 1, r219_0, kq_seq c219 3, r219_1, kq_seq c219 7, kq_seq c219 14, r219_2, b219_rlrr, kq_seq c219 58, r219_3, kq_ret c219 117, res219_0, kq_skip c219 59, kq_seq c219 15, r219_4, kq_seq c219 31, r219_5, kq_ret c219 63, reduceIte, reduceCtorEq, XE.exit.injEq, Nat.reduceEqDiff, Nat.reduceMul, Nat.reduceAdd] <;> kernel_rfl
theorem F219_call : eInv env (k + 1) (.func 219) #[] #[x0, x1] h = F219 (eInv env k) k x0 x1 h := kq_inv F219_eq
noncomputable def c220 : Code := codeOf Tryz.prog 220
theorem r220_0  : kCode env 220 false inv k (cp c220 2) (act 24 [(0, x0), (1, x1), (2, x2)]) h K =
    bnd (pBox Tryz.prog 94 x0 h) fun x3 =>
    bnd (pBox Tryz.prog 38 x2 x3.2) fun x5 =>
    K .normal (act 24 [(1, x1), (3, x3.1), (5, x5.1)]) x5.2 := kq_reg
noncomputable abbrev G220_1 {β : Type} (inv : Inv) (x1 x3 x5 : Value) (h : AH) (K : Value → AH → Option β) : Option β :=
    bnd (pFieldAddr Tryz.prog 94 x3 2) fun x7 =>
    bnd (pLoad Tryz.prog 59 x7 h) fun x8 =>
    bnd (pFieldAddr Tryz.prog 94 x3 2) fun x9 =>
    bnd (pLoad Tryz.prog 59 x9 h) fun x10 =>
    bnd (pFieldAddr Tryz.prog 94 x3 0) fun x12 =>
    bnd (pLoad Tryz.prog 88 x12 h) fun x13 =>
    bnd (pFieldAddr Tryz.prog 38 x5 2) fun x14 =>
    bnd (pLoad Tryz.prog 31 x14 h) fun x15 =>
    bnd (callV inv x13 #[x15] h) fun x16 =>
    bnd (callV inv x10 #[x1, x16.1] x16.2) fun x17 =>
    bnd (pFieldAddr Tryz.prog 94 x3 0) fun x18 =>
    bnd (pLoad Tryz.prog 88 x18 x17.2) fun x19 =>
    bnd (pFieldAddr Tryz.prog 38 x5 3) fun x20 =>
    bnd (pLoad Tryz.prog 31 x20 x17.2) fun x21 =>
    bnd (callV inv x19 #[x21] x17.2) fun x22 =>
    bnd (callV inv x8 #[x17.1, x22.1] x22.2) fun x23 =>
    chkK ((!true || !true || (sameO (pLoad Tryz.prog 59 x7 h) x8 && sameO (pLoad Tryz.prog 59 x7 x16.2) x8)) && ((!true || !true || (sameO (pLoad Tryz.prog 59 x7 x16.2) x8 && sameO (pLoad Tryz.prog 59 x7 x17.2) x8)) && ((!true || !true || (sameO (pLoad Tryz.prog 59 x7 x17.2) x8 && sameO (pLoad Tryz.prog 59 x7 x22.2) x8)) && ((!true || !true || (sameO (pLoad Tryz.prog 59 x9 h) x10 && sameO (pLoad Tryz.prog 59 x9 x16.2) x10)) && ((!true || !true || (sameO (pLoad Tryz.prog 88 x18 h) x19 && sameO (pLoad Tryz.prog 88 x18 x16.2) x19)) && ((!true || !true || (sameO (pLoad Tryz.prog 88 x18 x16.2) x19 && sameO (pLoad Tryz.prog 88 x18 x17.2) x19)) && ((!true || !true || (sameO (pLoad Tryz.prog 31 x20 h) x21 && sameO (pLoad Tryz.prog 31 x20 x16.2) x21)) && ((!true || !true || (sameO (pLoad Tryz.prog 31 x20 x16.2) x21 && sameO (pLoad Tryz.prog 31 x20 x17.2) x21)) && true)))))))) <|
    K (x23.1) x23.2
theorem r220_1  : kCode env 220 false inv k (cp c220 6) (act 24 [(1, x1), (3, x3), (5, x5)]) h K =
    G220_1 inv x1 x3 x5 h fun y6 h => K .normal (act 24 [(6, y6)]) h := kq_draw
theorem res220_0 : resOfFn env.P 220 .ret (act 24 [(6, x6)]) h = some (x6, h) := kq_res
/-- (shadowbook/segment.codec[uint64]).zone -/
noncomputable def F220 (inv : Inv) (k : Nat) (x0 x1 x2 : Value) (h : AH) : Option (Value × AH) :=
    bnd (pBox Tryz.prog 94 x0 h) fun x3 =>
    bnd (pBox Tryz.prog 38 x2 x3.2) fun x5 =>
    G220_1 inv x1 x3.1 x5.1 x5.2 fun y6 h =>
    some (y6, h)
theorem F220_eq : eFun env k inv 220 #[x0, x1, x2] h = F220 inv k x0 x1 x2 h := by
      refine (kq_fun (a := act 24 [(0, x0), (1, x1), (2, x2)]) (c := cp c220 1)).trans ?_
      unfold F220
      simp only [kq_seq c220 1, r220_0, kq_seq c220 3, r220_1, kq_ret c220 7, res220_0, reduceIte, reduceCtorEq, XE.exit.injEq, Nat.reduceEqDiff, Nat.reduceMul, Nat.reduceAdd] <;> kernel_rfl
theorem F220_call : eInv env (k + 1) (.func 220) #[] #[x0, x1, x2] h = F220 (eInv env k) k x0 x1 x2 h := kq_inv F220_eq
noncomputable def c221 : Code := codeOf Tryz.prog 221
theorem r221_0  : kCode env 221 false inv k (cp c221 2) (act 42 [(0, x0), (1, x1), (2, x2)]) h K =
    bnd (pBox Tryz.prog 103 x0 h) fun x3 =>
    K .normal (act 42 [(1, x1), (2, x2), (3, x3.1), (6, (.slice none 0 0))]) x3.2 := kq_reg
theorem r221_1  : kCode env 221 false inv k (cp c221 6) (act 42 [(1, x1), (2, x2), (3, x3), (6, x6)]) h K =
    bnd (pFieldAddr Tryz.prog 103 x3 5) fun x12 =>
    bnd (pLoad Tryz.prog 101 x12 h) fun x13 =>
    bnd (callV inv x13 #[x1, x2] h) fun x16 =>
    bnd (pExtract x16.1 0) fun x17 =>
    bnd (pExtract x16.1 1) fun x18 =>
    K .normal (act 42 [(2, x2), (3, x3), (6, x6), (7, x18), (8, x17)]) x16.2 := kq_reg
noncomputable abbrev G221_2 {β : Type} (inv : Inv) (x2 x3 x6 x7 x8 : Value) (h : AH) (K : Value → AH → Option β) : Option β :=
    bnd (pBin Tryz.prog .neq 25 (.tmp 19) (.const (.int .i64 0)) x7 (.int .i64 0)) fun x20 =>
    bnd (gd (some x20) false h (some (x8, h))) fun x22 =>
    bnd (gd (some x20) false x22.2 (lt (pLen Tryz.prog #[122] x22.1 x22.2) x22.2)) fun x23 =>
    bnd (gd (some x20) false x23.2 (some (x2, x23.2))) fun x24 =>
    bnd (gd (some x20) false x24.2 (lt (pBin Tryz.prog .neq 3 (.tmp 23) (.tmp 24) x23.1 x24.1) x24.2)) fun x25 =>
    bnd (pickV x20 (.bool true) x25.1) fun x26 =>
    K (x26) x25.2
theorem r221_2  : kCode env 221 false inv k (cp c221 28) (act 42 [(2, x2), (3, x3), (6, x6), (7, x7), (8, x8)]) h K =
    G221_2 inv x2 x3 x6 x7 x8 h fun y26 h => K .normal (act 42 [(3, x3), (6, x6), (8, x8), (26, y26)]) h := kq_reg
theorem b221_rlrr  : kCode env 221 false inv k (cp c221 29) (act 42 [(3, x3), (6, x6), (8, x8), (26, x26)]) h K = brV x26 (kCode env 221 false inv k (cp c221 58) (act 42 [(3, x3), (6, x6), (8, x8), (26, x26)]) h K) (kCode env 221 false inv k (cp c221 59) (act 42 [(3, x3), (6, x6), (8, x8), (26, x26)]) h K) := kq_cond
theorem r221_3  : kCode env 221 false inv k (cp c221 116) (act 42 [(3, x3), (6, x6), (8, x8), (26, x26)]) h K =
    K .normal (act 42 [(6, (.slice none 0 0)), (7, (.int .i64 4))]) h := kq_reg
theorem res221_0 : resOfFn env.P 221 .ret (act 42 [(6, x6), (7, x7)]) h = some (.tuple #[x6, x7], h) := kq_res
theorem r221_4  : kCode env 221 false inv k (cp c221 60) (act 42 [(3, x3), (6, x6), (8, x8), (26, x26)]) h K =
    bnd (pLen Tryz.prog #[122] x8 h) fun x28 =>
    K .normal (act 42 [(3, x3), (6, x6), (27, x8), (28, x28), (29, (.int .i64 0))]) h := kq_reg
theorem r221_5  : kCode env 221 false inv k (cp c221 488) (act 42 [(3, x3), (6, x6), (27, x27), (28, x28), (29, x29)]) h K =
    bnd (pBin Tryz.prog .lss 3 (.tmp 29) (.tmp 28) x29 x28) fun x30 =>
    K .normal (act 42 [(3, x3), (6, x6), (27, x27), (28, x28), (29, x29), (30, x30)]) h := kq_reg
theorem b221_lrllrlrrr  : kCode env 221 false inv k (cp c221 978) (act 42 [(3, x3), (6, x6), (27, x27), (28, x28), (29, x29), (30, x30)]) h K = brV x30 (kCode env 221 false inv k (cp c221 1956) (act 42 [(3, x3), (6, x6), (27, x27), (28, x28), (29, x29), (30, x30)]) h K) (kCode env 221 false inv k (cp c221 1957) (act 42 [(3, x3), (6, x6), (27, x27), (28, x28), (29, x29), (30, x30)]) h K) := kq_cond
theorem r221_6  : kCode env 221 false inv k (cp c221 7832) (act 42 [(3, x3), (6, x6), (27, x27), (28, x28), (29, x29), (30, x30)]) h K =
    bnd (pIndexAddr Tryz.prog 122 x27 x29) fun x31 =>
    bnd (pLoad Tryz.prog 9 x31 h) fun x32 =>
    K .normal (act 42 [(3, x3), (6, x6), (10, x32), (27, x27), (28, x28), (29, x29)]) h := kq_reg
theorem r221_7  : kCode env 221 false inv k (cp c221 7833) (act 42 [(3, x3), (6, x6), (10, x10), (27, x27), (28, x28), (29, x29)]) h K =
    bnd (pFieldAddr Tryz.prog 103 x3 1) fun x34 =>
    bnd (pLoad Tryz.prog 97 x34 h) fun x35 =>
    bnd (callV inv x35 #[x10] h) fun x37 =>
    bnd (pBuildSlice Tryz.prog 22 1 #[(0, x37.1)] x37.2) fun x38 =>
    bnd (pAppend Tryz.prog #[22, 22] x6 x38.1 x38.2) fun x39 =>
    K .normal (act 42 [(3, x3), (6, x39.1), (27, x27), (28, x28), (29, x29)]) x39.2 := kq_reg
theorem r221_8  : kCode env 221 false inv k (cp c221 1959) (act 42 [(3, x3), (6, x6), (27, x27), (28, x28), (29, x29)]) h K =
    bnd (pBin Tryz.prog .add 3 (.tmp 29) (.const (.int .i64 1)) x29 (.int .i64 1)) fun x40 =>
    K .normal (act 42 [(3, x3), (6, x6), (27, x27), (28, x28), (29, x40)]) h := kq_reg
noncomputable def F221_lrlrrr {β : Type} (inv : Inv) (k : Nat) : Nat → Value → Value → Value → Value → Value → AH → (Value → Value → Value → Value → Value → Value → AH → Option β) → Option β
  | 0, _, _, _, _, _, _, _ => none
  | j + 1, x3, x6, x27, x28, x29, h, ke0 =>
    bnd (pBin Tryz.prog .lss 3 (.tmp 29) (.tmp 28) x29 x28) fun x30 =>
    brV x30
    (bnd (pIndexAddr Tryz.prog 122 x27 x29) fun x31 =>
    bnd (pLoad Tryz.prog 9 x31 h) fun x32 =>
    bnd (pFieldAddr Tryz.prog 103 x3 1) fun x34 =>
    bnd (pLoad Tryz.prog 97 x34 h) fun x35 =>
    bnd (callV inv x35 #[x32] h) fun x37 =>
    bnd (pBuildSlice Tryz.prog 22 1 #[(0, x37.1)] x37.2) fun x38 =>
    bnd (pAppend Tryz.prog #[22, 22] x6 x38.1 x38.2) fun x39 =>
    bnd (pBin Tryz.prog .add 3 (.tmp 29) (.const (.int .i64 1)) x29 (.int .i64 1)) fun x40 =>
    F221_lrlrrr inv k j x3 x39.1 x27 x28 x40 x39.2 ke0)
    (ke0 x3 x6 x27 x28 x29 x30 h)
theorem F221_lrlrrr_j (j : Nat) : kLoop (kCode env 221 false inv k (cp c221 244)) j (act 42 [(3, x3), (6, x6), (27, x27), (28, x28), (29, x29)]) h K = F221_lrlrrr inv k j x3 x6 x27 x28 x29 h (fun y3 y6 y27 y28 y29 y30 h => K (.exit 0) (act 42 [(3, y3), (6, y6), (27, y27), (28, y28), (29, y29), (30, y30)]) h) := by
      induction j generalizing x3 x6 x27 x28 x29 h with
      | zero => rfl
      | succ j ih =>
        unfold F221_lrlrrr
        simp only [kLoop, kq_seq c221 244, r221_5, kq_seq c221 489, b221_lrllrlrrr, kq_skip c221 1956, kq_seq c221 979, kq_block c221 1958 1, kq_seq c221 3916, r221_6, r221_7, r221_8, kq_exit c221 1957 0, ih, reduceIte, reduceCtorEq, XE.exit.injEq, Nat.reduceEqDiff, Nat.reduceMul, Nat.reduceAdd] <;> kernel_rfl
theorem F221_lrlrrr_eq  : kCode env 221 false inv k (cp c221 122) (act 42 [(3, x3), (6, x6), (27, x27), (28, x28), (29, x29)]) h K = F221_lrlrrr inv k k x3 x6 x27 x28 x29 h (fun y3 y6 y27 y28 y29 y30 h => K (.exit 0) (act 42 [(3, y3), (6, y6), (27, y27), (28, y28), (29, y29), (30, y30)]) h) := kq_loop (F221_lrlrrr_j k)
theorem r221_9  : kCode env 221 false inv k (cp c221 62) (act 42 [(3, x3), (6, x6), (27, x27), (28, x28), (29, x29), (30, x30)]) h K =
    K .normal (act 42 [(6, x6), (7, (.int .i64 0))]) h := kq_reg
/-- (shadowbook/segment.codec[string]).back -/
noncomputable def F221 (inv : Inv) (k : Nat) (x0 x1 x2 : Value) (h : AH) : Option (Value × AH) :=
    bnd (pBox Tryz.prog 103 x0 h) fun x3 =>
    bnd (pFieldAddr Tryz.prog 103 x3.1 5) fun x12 =>
    bnd (pLoad Tryz.prog 101 x12 x3.2) fun x13 =>
    bnd (callV inv x13 #[x1, x2] x3.2) fun x16 =>
    bnd (pExtract x16.1 0) fun x17 =>
    bnd (pExtract x16.1 1) fun x18 =>
    G221_2 inv x2 x3.1 (.slice none 0 0) x18 x17 x16.2 fun y26 h =>
    brV y26
    (some (.tuple #[(.slice none 0 0), (.int .i64 4)], h))
    (bnd (pLen Tryz.prog #[122] x17 h) fun x28 =>
    F221_lrlrrr inv k k x3.1 (.slice none 0 0) x17 x28 (.int .i64 0) h
    (fun y3 y6 y27 y28 y29 y30 h_1 =>
    some (.tuple #[y6, (.int .i64 0)], h_1)))
theorem F221_eq : eFun env k inv 221 #[x0, x1, x2] h = F221 inv k x0 x1 x2 h := by
      refine (kq_fun (a := act 42 [(0, x0), (1, x1), (2, x2)]) (c := cp c221 1)).trans ?_
      unfold F221
      simp only [kq_seq c221 1, r221_0, kq_seq c221 3, r221_1, kq_seq c221 7, kq_seq c221 14, r221_2, b221_rlrr, kq_seq c221 58, r221_3, kq_ret c221 117, res221_0, kq_skip c221 59, kq_seq c221 15, kq_seq c221 30, r221_4, kq_block c221 61 0, F221_lrlrrr_eq, kq_seq c221 31, r221_9, kq_ret c221 63, reduceIte, reduceCtorEq, XE.exit.injEq, Nat.reduceEqDiff, Nat.reduceMul, Nat.reduceAdd] <;> kernel_rfl
theorem F221_call : eInv env (k + 1) (.func 221) #[] #[x0, x1, x2] h = F221 (eInv env k) k x0 x1 x2 h := kq_inv F221_eq
noncomputable def c222 : Code := codeOf Tryz.prog 222
theorem r222_0  : kCode env 222 false inv k (cp c222 2) (act 29 [(0, x0), (1, x1)]) h K =
    bnd (pBox Tryz.prog 103 x0 h) fun x2 =>
    K .normal (act 29 [(1, x1), (2, x2.1)]) x2.2 := kq_reg
theorem r222_1  : kCode env 222 false inv k (cp c222 6) (act 29 [(1, x1), (2, x2)]) h K =
    K .normal (act 29 [(1, x1), (2, x2), (6, (.slice none 0 0))]) h := kq_reg
theorem r222_2  : kCode env 222 false inv k (cp c222 28) (act 29 [(1, x1), (2, x2), (6, x6)]) h K =
    bnd (pLen Tryz.prog #[22] x1 h) fun x10 =>
    K .normal (act 29 [(2, x2), (6, x6), (9, x1), (10, x10), (11, (.int .i64 0))]) h := kq_reg
theorem r222_3  : kCode env 222 false inv k (cp c222 232) (act 29 [(2, x2), (6, x6), (9, x9), (10, x10), (11, x11)]) h K =
    bnd (pBin Tryz.prog .lss 3 (.tmp 11) (.tmp 10) x11 x10) fun x12 =>
    K .normal (act 29 [(2, x2), (6, x6), (9, x9), (10, x10), (11, x11), (12, x12)]) h := kq_reg
theorem b222_lrllrlrr  : kCode env 222 false inv k (cp c222 466) (act 29 [(2, x2), (6, x6), (9, x9), (10, x10), (11, x11), (12, x12)]) h K = brV x12 (kCode env 222 false inv k (cp c222 932) (act 29 [(2, x2), (6, x6), (9, x9), (10, x10), (11, x11), (12, x12)]) h K) (kCode env 222 false inv k (cp c222 933) (act 29 [(2, x2), (6, x6), (9, x9), (10, x10), (11, x11), (12, x12)]) h K) := kq_cond
theorem r222_4  : kCode env 222 false inv k (cp c222 3736) (act 29 [(2, x2), (6, x6), (9, x9), (10, x10), (11, x11), (12, x12)]) h K =
    bnd (pIndexAddr Tryz.prog 22 x9 x11) fun x13 =>
    bnd (pLoad Tryz.prog 31 x13 h) fun x14 =>
    bnd (pAlloc Tryz.prog 31 h) fun x8 =>
    bnd (kSt (pStore Tryz.prog 31 x8.1 x14 x8.2)) fun u =>
    K .normal (act 29 [(2, x2), (6, x6), (8, x8.1), (9, x9), (10, x10), (11, x11)]) u.2 := kq_reg
theorem r222_5  : kCode env 222 false inv k (cp c222 3737) (act 29 [(2, x2), (6, x6), (8, x8), (9, x9), (10, x10), (11, x11)]) h K =
    bnd (pFieldAddr Tryz.prog 103 x2 0) fun x16 =>
    bnd (pLoad Tryz.prog 96 x16 h) fun x17 =>
    bnd (pLoad Tryz.prog 31 x8 h) fun x18 =>
    bnd (callV inv x17 #[x18] h) fun x19 =>
    bnd (pBuildSlice Tryz.prog 122 1 #[(0, x19.1)] x19.2) fun x20 =>
    bnd (pAppend Tryz.prog #[122, 122] x6 x20.1 x20.2) fun x21 =>
    K .normal (act 29 [(2, x2), (6, x21.1), (9, x9), (10, x10), (11, x11)]) x21.2 := kq_reg
theorem r222_6  : kCode env 222 false inv k (cp c222 935) (act 29 [(2, x2), (6, x6), (9, x9), (10, x10), (11, x11)]) h K =
    bnd (pBin Tryz.prog .add 3 (.tmp 11) (.const (.int .i64 1)) x11 (.int .i64 1)) fun x22 =>
    K .normal (act 29 [(2, x2), (6, x6), (9, x9), (10, x10), (11, x22)]) h := kq_reg
noncomputable def F222_lrlrr {β : Type} (inv : Inv) (k : Nat) : Nat → Value → Value → Value → Value → Value → AH → (Value → Value → Value → Value → Value → Value → AH → Option β) → Option β
  | 0, _, _, _, _, _, _, _ => none
  | j + 1, x2, x6, x9, x10, x11, h, ke0 =>
    bnd (pBin Tryz.prog .lss 3 (.tmp 11) (.tmp 10) x11 x10) fun x12 =>
    brV x12
    (bnd (pIndexAddr Tryz.prog 22 x9 x11) fun x13 =>
    bnd (pLoad Tryz.prog 31 x13 h) fun x14 =>
    bnd (pAlloc Tryz.prog 31 h) fun x8 =>
    bnd (kSt (pStore Tryz.prog 31 x8.1 x14 x8.2)) fun u =>
    bnd (pFieldAddr Tryz.prog 103 x2 0) fun x16 =>
    bnd (pLoad Tryz.prog 96 x16 u.2) fun x17 =>
    bnd (pLoad Tryz.prog 31 x8.1 u.2) fun x18 =>
    bnd (callV inv x17 #[x18] u.2) fun x19 =>
    bnd (pBuildSlice Tryz.prog 122 1 #[(0, x19.1)] x19.2) fun x20 =>
    bnd (pAppend Tryz.prog #[122, 122] x6 x20.1 x20.2) fun x21 =>
    bnd (pBin Tryz.prog .add 3 (.tmp 11) (.const (.int .i64 1)) x11 (.int .i64 1)) fun x22 =>
    F222_lrlrr inv k j x2 x21.1 x9 x10 x22 x21.2 ke0)
    (ke0 x2 x6 x9 x10 x11 x12 h)
theorem F222_lrlrr_j (j : Nat) : kLoop (kCode env 222 false inv k (cp c222 116)) j (act 29 [(2, x2), (6, x6), (9, x9), (10, x10), (11, x11)]) h K = F222_lrlrr inv k j x2 x6 x9 x10 x11 h (fun y2 y6 y9 y10 y11 y12 h => K (.exit 0) (act 29 [(2, y2), (6, y6), (9, y9), (10, y10), (11, y11), (12, y12)]) h) := by
      induction j generalizing x2 x6 x9 x10 x11 h with
      | zero => rfl
      | succ j ih =>
        unfold F222_lrlrr
        simp only [kLoop, kq_seq c222 116, r222_3, kq_seq c222 233, b222_lrllrlrr, kq_skip c222 932, kq_seq c222 467, kq_block c222 934 1, kq_seq c222 1868, r222_4, r222_5, r222_6, kq_exit c222 933 0, ih, reduceIte, reduceCtorEq, XE.exit.injEq, Nat.reduceEqDiff, Nat.reduceMul, Nat.reduceAdd] <;> kernel_rfl
theorem F222_lrlrr_eq  : kCode env 222 false inv k (cp c222 58) (act 29 [(2, x2), (6, x6), (9, x9), (10, x10), (11, x11)]) h K = F222_lrlrr inv k k x2 x6 x9 x10 x11 h (fun y2 y6 y9 y10 y11 y12 h => K (.exit 0) (act 29 [(2, y2), (6, y6), (9, y9), (10, y10), (11, y11), (12, y12)]) h) := kq_loop (F222_lrlrr_j k)
theorem r222_7  : kCode env 222 false inv k (cp c222 30) (act 29 [(2, x2), (6, x6), (9, x9), (10, x10), (11, x11), (12, x12)]) h K =
    bnd (pFieldAddr Tryz.prog 103 x2 4) fun x23 =>
    bnd (pLoad Tryz.prog 100 x23 h) fun x24 =>
    bnd (callV inv x24 #[x6] h) fun x26 =>
    bnd (pExtract x26.1 0) fun x27 =>
    bnd (pExtract x26.1 1) fun x28 =>
    K .normal (act 29 [(4, x27), (5, x28)]) x26.2 := kq_reg
theorem res222_0 : resOfFn env.P 222 .ret (act 29 [(4, x4), (5, x5)]) h = some (.tuple #[x4, x5], h) := kq_res
/-- (shadowbook/segment.codec[string]).cells -/
noncomputable def F222 (inv : Inv) (k : Nat) (x0 x1 : Value) (h : AH) : Option (Value × AH) :=
    bnd (pBox Tryz.prog 103 x0 h) fun x2 =>
    bnd (pLen Tryz.prog #[22] x1 x2.2) fun x10 =>
    F222_lrlrr inv k k x2.1 (.slice none 0 0) x1 x10 (.int .i64 0) x2.2
    (fun y2 y6 y9 y10 y11 y12 h =>
    bnd (pFieldAddr Tryz.prog 103 y2 4) fun x23 =>
    bnd (pLoad Tryz.prog 100 x23 h) fun x24 =>
    bnd (callV inv x24 #[y6] h) fun x26 =>
    bnd (pExtract x26.1 0) fun x27 =>
    bnd (pExtract x26.1 1) fun x28 =>
    some (.tuple #[x27, x28], x26.2))
theorem F222_eq : eFun env k inv 222 #[x0, x1] h = F222 inv k x0 x1 h := by
      refine (kq_fun (a := act 29 [(0, x0), (1, x1)]) (c := cp c222 1)).trans ?_
      unfold F222
      simp only [kq_seq c222 1, r222_0, kq_seq c222 3, r222_1, kq_seq c222 7, kq_seq c222 14, r222_2, kq_block c222 29 0, F222_lrlrr_eq, kq_seq c222 15, r222_7, kq_ret c222 31, res222_0, reduceIte, reduceCtorEq, XE.exit.injEq, Nat.reduceEqDiff, Nat.reduceMul, Nat.reduceAdd] <;> kernel_rfl
theorem F222_call : eInv env (k + 1) (.func 222) #[] #[x0, x1] h = F222 (eInv env k) k x0 x1 h := kq_inv F222_eq
noncomputable def c223 : Code := codeOf Tryz.prog 223
theorem r223_0  : kCode env 223 false inv k (cp c223 2) (act 37 [(0, x0), (1, x1)]) h K =
    bnd (pBox Tryz.prog 103 x0 h) fun x2 =>
    bnd (pAlloc Tryz.prog 31 x2.2) fun x4 =>
    bnd (pAlloc Tryz.prog 31 x4.2) fun x5 =>
    K .normal (act 37 [(1, x1), (2, x2.1), (4, x4.1), (5, x5.1)]) x5.2 := kq_reg
theorem r223_1  : kCode env 223 false inv k (cp c223 6) (act 37 [(1, x1), (2, x2), (4, x4), (5, x5)]) h K =
    bnd (pFieldAddr Tryz.prog 103 x2 3) fun x10 =>
    bnd (pLoad Tryz.prog 99 x10 h) fun x11 =>
    bnd (callV inv x11 #[x1] h) fun x13 =>
    bnd (pExtract x13.1 0) fun x14 =>
    bnd (pExtract x13.1 1) fun x15 =>
    K .normal (act 37 [(1, x1), (2, x2), (4, x4), (5, x5), (6, x15), (7, x14)]) x13.2 := kq_reg
theorem r223_2  : kCode env 223 false inv k (cp c223 28) (act 37 [(1, x1), (2, x2), (4, x4), (5, x5), (6, x6), (7, x7)]) h K =
    bnd (pBin Tryz.prog .neq 25 (.tmp 16) (.const (.int .i64 0)) x6 (.int .i64 0)) fun x17 =>
    K .normal (act 37 [(1, x1), (2, x2), (4, x4), (5, x5), (6, x6), (7, x7), (17, x17)]) h := kq_reg
theorem b223_rlrr  : kCode env 223 false inv k (cp c223 29) (act 37 [(1, x1), (2, x2), (4, x4), (5, x5), (6, x6), (7, x7), (17, x17)]) h K = brV x17 (kCode env 223 false inv k (cp c223 58) (act 37 [(1, x1), (2, x2), (4, x4), (5, x5), (6, x6), (7, x7), (17, x17)]) h K) (kCode env 223 false inv k (cp c223 59) (act 37 [(1, x1), (2, x2), (4, x4), (5, x5), (6, x6), (7, x7), (17, x17)]) h K) := kq_cond
theorem r223_3  : kCode env 223 false inv k (cp c223 116) (act 37 [(1, x1), (2, x2), (4, x4), (5, x5), (6, x6), (7, x7), (17, x17)]) h K =
    bnd (pLoad Tryz.prog 31 x4 h) fun x18 =>
    bnd (pLoad Tryz.prog 31 x5 h) fun x19 =>
    bnd (kSt (pStore Tryz.prog 31 x4 x18 h)) fun u =>
    bnd (kSt (pStore Tryz.prog 31 x5 x19 u.2)) fun u_1 =>
    chkK ((!true || !true || (sameO (pLoad Tryz.prog 31 x5 h) x19 && sameO (pLoad Tryz.prog 31 x5 u.2) x19)) && true) <|
    K .normal (act 37 [(4, x4), (5, x5), (6, x6)]) u_1.2 := kq_draw
theorem res223_0 : resOfFn env.P 223 .ret (act 37 [(4, x4), (5, x5), (6, x6)]) h = bnd (pLoad Tryz.prog 31 x4 h) fun q0 =>
    bnd (pLoad Tryz.prog 31 x5 h) fun q1 =>
    some (.tuple #[q0, q1, x6], h) := kq_res
theorem r223_4  : kCode env 223 false inv k (cp c223 30) (act 37 [(1, x1), (2, x2), (4, x4), (5, x5), (6, x6), (7, x7), (17, x17)]) h K =
    bnd (pFieldAddr Tryz.prog 103 x2 3) fun x22 =>
    bnd (pLoad Tryz.prog 99 x22 h) fun x23 =>
    bnd (callV inv x23 #[x1] h) fun x25 =>
    bnd (pExtract x25.1 0) fun x26 =>
    bnd (pExtract x25.1 1) fun x27 =>
    K .normal (act 37 [(2, x2), (4, x4), (5, x5), (6, x27), (7, x7), (8, x26)]) x25.2 := kq_reg
noncomputable abbrev G223_5 {β : Type} (inv : Inv) (x2 x4 x5 x6 x7 x8 : Value) (h : AH) (K : AH → Option β) : Option β :=
    bnd (pFieldAddr Tryz.prog 103 x2 1) fun x28 =>
    bnd (pLoad Tryz.prog 97 x28 h) fun x29 =>
    bnd (callV inv x29 #[x7] h) fun x31 =>
    bnd (pFieldAddr Tryz.prog 103 x2 1) fun x32 =>
    bnd (pLoad Tryz.prog 97 x32 x31.2) fun x33 =>
    bnd (callV inv x33 #[x8] x31.2) fun x35 =>
    bnd (kSt (pStore Tryz.prog 31 x4 x31.1 x35.2)) fun u =>
    bnd (kSt (pStore Tryz.prog 31 x5 x35.1 u.2)) fun u_3 =>
    chkK ((!true || !true || (sameO (pLoad Tryz.prog 97 x32 h) x33 && sameO (pLoad Tryz.prog 97 x32 x31.2) x33)) && true) <|
    K u_3.2
theorem r223_5  : kCode env 223 false inv k (cp c223 62) (act 37 [(2, x2), (4, x4), (5, x5), (6, x6), (7, x7), (8, x8)]) h K =
    G223_5 inv x2 x4 x5 x6 x7 x8 h fun  h => K .normal (act 37 [(4, x4), (5, x5), (6, x6)]) h := kq_draw
/-- (shadowbook/segment.codec[string]).ends -/
noncomputable def F223 (inv : Inv) (k : Nat) (x0 x1 : Value) (h : AH) : Option (Value × AH) :=
    bnd (pBox Tryz.prog 103 x0 h) fun x2 =>
    bnd (pAlloc Tryz.prog 31 x2.2) fun x4 =>
    bnd (pAlloc Tryz.prog 31 x4.2) fun x5 =>
    bnd (pFieldAddr Tryz.prog 103 x2.1 3) fun x10 =>
    bnd (pLoad Tryz.prog 99 x10 x5.2) fun x11 =>
    bnd (callV inv x11 #[x1] x5.2) fun x13 =>
    bnd (pExtract x13.1 0) fun x14 =>
    bnd (pExtract x13.1 1) fun x15 =>
    bnd (pBin Tryz.prog .neq 25 (.tmp 16) (.const (.int .i64 0)) x15 (.int .i64 0)) fun x17 =>
    brV x17
    (bnd (pLoad Tryz.prog 31 x4.1 x13.2) fun x18 =>
    bnd (pLoad Tryz.prog 31 x5.1 x13.2) fun x19 =>
    bnd (kSt (pStore Tryz.prog 31 x4.1 x18 x13.2)) fun u =>
    bnd (kSt (pStore Tryz.prog 31 x5.1 x19 u.2)) fun u_2 =>
    chkK ((!true || !true || (sameO (pLoad Tryz.prog 31 x5.1 x13.2) x19 && sameO (pLoad Tryz.prog 31 x5.1 u.2) x19)) && true) <|
    bnd (pLoad Tryz.prog 31 x4.1 u_2.2) fun q0 =>
    bnd (pLoad Tryz.prog 31 x5.1 u_2.2) fun q1 =>
    some (.tuple #[q0, q1, x15], u_2.2))
    (bnd (pFieldAddr Tryz.prog 103 x2.1 3) fun x22 =>
    bnd (pLoad Tryz.prog 99 x22 x13.2) fun x23 =>
    bnd (callV inv x23 #[x1] x13.2) fun x25 =>
    bnd (pExtract x25.1 0) fun x26 =>
    bnd (pExtract x25.1 1) fun x27 =>
    G223_5 inv x2.1 x4.1 x5.1 x27 x14 x26 x25.2 fun  h =>
    bnd (pLoad Tryz.prog 31 x4.1 h) fun q0 =>
    bnd (pLoad Tryz.prog 31 x5.1 h) fun q1 =>
    some (.tuple #[q0, q1, x27], h))
theorem F223_eq : eFun env k inv 223 #[x0, x1] h = F223 inv k x0 x1 h := by
      refine (kq_fun (a := act 37 [(0, x0), (1, x1)]) (c := cp c223 1)).trans ?_
      unfold F223
      simp only [kq_seq c223 1, r223_0, kq_seq c223 3, r223_1, kq_seq c223 7, kq_seq c223 14, r223_2, b223_rlrr, kq_seq c223 58, r223_3, kq_ret c223 117, res223_0, kq_skip c223 59, kq_seq c223 15, r223_4, kq_seq c223 31, r223_5, kq_ret c223 63, reduceIte, reduceCtorEq, XE.exit.injEq, Nat.reduceEqDiff, Nat.reduceMul, Nat.reduceAdd] <;> kernel_rfl
theorem F223_call : eInv env (k + 1) (.func 223) #[] #[x0, x1] h = F223 (eInv env k) k x0 x1 h := kq_inv F223_eq
noncomputable def c224 : Code := codeOf Tryz.prog 224
theorem r224_0  : kCode env 224 false inv k (cp c224 2) (act 24 [(0, x0), (1, x1), (2, x2)]) h K =
    bnd (pBox Tryz.prog 103 x0 h) fun x3 =>
    bnd (pBox Tryz.prog 38 x2 x3.2) fun x5 =>
    K .normal (act 24 [(1, x1), (3, x3.1), (5, x5.1)]) x5.2 := kq_reg
noncomputable abbrev G224_1 {β : Type} (inv : Inv) (x1 x3 x5 : Value) (h : AH) (K : Value → AH → Option β) : Option β :=
    bnd (pFieldAddr Tryz.prog 103 x3 2) fun x7 =>
    bnd (pLoad Tryz.prog 98 x7 h) fun x8 =>
    bnd (pFieldAddr Tryz.prog 103 x3 2) fun x9 =>
    bnd (pLoad Tryz.prog 98 x9 h) fun x10 =>
    bnd (pFieldAddr Tryz.prog 103 x3 0) fun x12 =>
    bnd (pLoad Tryz.prog 96 x12 h) fun x13 =>
    bnd (pFieldAddr Tryz.prog 38 x5 2) fun x14 =>
    bnd (pLoad Tryz.prog 31 x14 h) fun x15 =>
    bnd (callV inv x13 #[x15] h) fun x16 =>
    bnd (callV inv x10 #[x1, x16.1] x16.2) fun x17 =>
    bnd (pFieldAddr Tryz.prog 103 x3 0) fun x18 =>
    bnd (pLoad Tryz.prog 96 x18 x17.2) fun x19 =>
    bnd (pFieldAddr Tryz.prog 38 x5 3) fun x20 =>
    bnd (pLoad Tryz.prog 31 x20 x17.2) fun x21 =>
    bnd (callV inv x19 #[x21] x17.2) fun x22 =>
    bnd (callV inv x8 #[x17.1, x22.1] x22.2) fun x23 =>
    chkK ((!true || !true || (sameO (pLoad Tryz.prog 98 x7 h) x8 && sameO (pLoad Tryz.prog 98 x7 x16.2) x8)) && ((!true || !true || (sameO (pLoad Tryz.prog 98 x7 x16.2) x8 && sameO (pLoad Tryz.prog 98 x7 x17.2) x8)) && ((!true || !true || (sameO (pLoad Tryz.prog 98 x7 x17.2) x8 && sameO (pLoad Tryz.prog 98 x7 x22.2) x8)) && ((!true || !true || (sameO (pLoad Tryz.prog 98 x9 h) x10 && sameO (pLoad Tryz.prog 98 x9 x16.2) x10)) && ((!true || !true || (sameO (pLoad Tryz.prog 96 x18 h) x19 && sameO (pLoad Tryz.prog 96 x18 x16.2) x19)) && ((!true || !true || (sameO (pLoad Tryz.prog 96 x18 x16.2) x19 && sameO (pLoad Tryz.prog 96 x18 x17.2) x19)) && ((!true || !true || (sameO (pLoad Tryz.prog 31 x20 h) x21 && sameO (pLoad Tryz.prog 31 x20 x16.2) x21)) && ((!true || !true || (sameO (pLoad Tryz.prog 31 x20 x16.2) x21 && sameO (pLoad Tryz.prog 31 x20 x17.2) x21)) && true)))))))) <|
    K (x23.1) x23.2
theorem r224_1  : kCode env 224 false inv k (cp c224 6) (act 24 [(1, x1), (3, x3), (5, x5)]) h K =
    G224_1 inv x1 x3 x5 h fun y6 h => K .normal (act 24 [(6, y6)]) h := kq_draw
theorem res224_0 : resOfFn env.P 224 .ret (act 24 [(6, x6)]) h = some (x6, h) := kq_res
/-- (shadowbook/segment.codec[string]).zone -/
noncomputable def F224 (inv : Inv) (k : Nat) (x0 x1 x2 : Value) (h : AH) : Option (Value × AH) :=
    bnd (pBox Tryz.prog 103 x0 h) fun x3 =>
    bnd (pBox Tryz.prog 38 x2 x3.2) fun x5 =>
    G224_1 inv x1 x3.1 x5.1 x5.2 fun y6 h =>
    some (y6, h)
theorem F224_eq : eFun env k inv 224 #[x0, x1, x2] h = F224 inv k x0 x1 x2 h := by
      refine (kq_fun (a := act 24 [(0, x0), (1, x1), (2, x2)]) (c := cp c224 1)).trans ?_
      unfold F224
      simp only [kq_seq c224 1, r224_0, kq_seq c224 3, r224_1, kq_ret c224 7, res224_0, reduceIte, reduceCtorEq, XE.exit.injEq, Nat.reduceEqDiff, Nat.reduceMul, Nat.reduceAdd] <;> kernel_rfl
theorem F224_call : eInv env (k + 1) (.func 224) #[] #[x0, x1, x2] h = F224 (eInv env k) k x0 x1 x2 h := kq_inv F224_eq
end Go.Proofs.YtghelamfaaakcaaGreat.Sh
