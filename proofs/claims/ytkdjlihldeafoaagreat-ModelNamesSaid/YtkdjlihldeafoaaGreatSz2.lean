/- Shallow functions, part 2. Printed by a program of the prover's own from the loaded program; Lean checks it. -/
import Derived.Test.YtkdjlihldeafoaaGreatSz1
set_option linter.unusedVariables false
set_option linter.unusedSimpArgs false
set_option maxRecDepth 100000
namespace Go.Proofs.YtkdjlihldeafoaaGreat.Sh
open Go Go.RowKit Go.Proofs.Ev
variable {β : Type} {inv : Inv} {k : Nat} {h : AH} {K : XE → Act → AH → Option β} {x0 x1 x2 x3 x4 x5 x6 x7 x8 x9 x10 x11 x12 x13 x14 x15 x16 x17 x18 x19 x20 x21 x22 x23 x24 x25 x26 x27 x28 x29 x30 x31 x32 x33 x34 x35 x36 x37 x38 x39 x40 x41 x42 x45 x46 x47 x49 x50 x51 x52 x53 x54 x55 x56 x65 : Value}
noncomputable def c77 : Code := codeOf Tryz.prog 77
theorem r77_0  : kCode env 77 false inv k (cp c77 2) (act 26 [(0, x0), (1, x1)]) h K =
    bnd (pBox Tryz.prog 40 x1 h) fun x3 =>
    bnd (pAlloc Tryz.prog 34 x3.2) fun x4 =>
    K .normal (act 26 [(0, x0), (4, x4.1)]) x4.2 := kq_reg
theorem r77_1  : kCode env 77 false inv k (cp c77 12) (act 26 [(0, x0), (4, x4)]) h K =
    bnd (pNilCheck Tryz.prog x0) fun x8 =>
    bnd (pFieldAddr Tryz.prog 85 x8 0) fun x9 =>
    bnd (pFieldAddr Tryz.prog 58 x9 1) fun x10 =>
    bnd (pLoad Tryz.prog 56 x10 h) fun x11 =>
    bnd (pLen Tryz.prog #[56] x11 h) fun x12 =>
    K .normal (act 26 [(4, x4), (11, x11), (12, x12), (13, (.int .i64 0))]) h := kq_reg
theorem r77_2  : kCode env 77 false inv k (cp c77 104) (act 26 [(4, x4), (11, x11), (12, x12), (13, x13)]) h K =
    bnd (pBin Tryz.prog .lss 3 (.tmp 13) (.tmp 12) x13 x12) fun x14 =>
    K .normal (act 26 [(4, x4), (11, x11), (12, x12), (13, x13), (14, x14)]) h := kq_reg
theorem b77_lrllrlr  : kCode env 77 false inv k (cp c77 210) (act 26 [(4, x4), (11, x11), (12, x12), (13, x13), (14, x14)]) h K = brV x14 (kCode env 77 false inv k (cp c77 420) (act 26 [(4, x4), (11, x11), (12, x12), (13, x13), (14, x14)]) h K) (kCode env 77 false inv k (cp c77 421) (act 26 [(4, x4), (11, x11), (12, x12), (13, x13), (14, x14)]) h K) := kq_cond
theorem r77_3  : kCode env 77 false inv k (cp c77 1688) (act 26 [(4, x4), (11, x11), (12, x12), (13, x13), (14, x14)]) h K =
    bnd (pIndexAddr Tryz.prog 56 x11 x13) fun x15 =>
    bnd (pLoad Tryz.prog 81 x15 h) fun x16 =>
    bnd (pAlloc Tryz.prog 81 h) fun x6 =>
    bnd (kSt (pStore Tryz.prog 81 x6.1 x16 x6.2)) fun u =>
    K .normal (act 26 [(4, x4), (6, x6.1), (11, x11), (12, x12), (13, x13)]) u.2 := kq_reg
theorem r77_4  : kCode env 77 false inv k (cp c77 1689) (act 26 [(4, x4), (6, x6), (11, x11), (12, x12), (13, x13)]) h K =
    bnd (pFieldAddr Tryz.prog 34 x4 2) fun x17 =>
    bnd (pLoad Tryz.prog 32 x17 h) fun x18 =>
    bnd (pFieldAddr Tryz.prog 81 x6 0) fun x19 =>
    bnd (pLoad Tryz.prog 9 x19 h) fun x20 =>
    bnd (pBuildSlice Tryz.prog 32 1 #[(0, x20)] h) fun x21 =>
    bnd (pAppend Tryz.prog #[32, 32] x18 x21.1 x21.2) fun x22 =>
    bnd (pFieldAddr Tryz.prog 34 x4 2) fun x23 =>
    bnd (kSt (pStore Tryz.prog 32 x23 x22.1 x22.2)) fun u =>
    K .normal (act 26 [(4, x4), (11, x11), (12, x12), (13, x13)]) u.2 := kq_reg
theorem r77_5  : kCode env 77 false inv k (cp c77 423) (act 26 [(4, x4), (11, x11), (12, x12), (13, x13)]) h K =
    bnd (pBin Tryz.prog .add 3 (.tmp 13) (.const (.int .i64 1)) x13 (.int .i64 1)) fun x24 =>
    K .normal (act 26 [(4, x4), (11, x11), (12, x12), (13, x24)]) h := kq_reg
noncomputable def F77_lrlr {β : Type} (inv : Inv) (k : Nat) : Nat → Value → Value → Value → Value → AH → (Value → Value → Value → Value → Value → AH → Option β) → Option β
  | 0, _, _, _, _, _, _ => none
  | j + 1, x4, x11, x12, x13, h, ke0 =>
    bnd (pBin Tryz.prog .lss 3 (.tmp 13) (.tmp 12) x13 x12) fun x14 =>
    brV x14
    (bnd (pIndexAddr Tryz.prog 56 x11 x13) fun x15 =>
    bnd (pLoad Tryz.prog 81 x15 h) fun x16 =>
    bnd (pAlloc Tryz.prog 81 h) fun x6 =>
    bnd (kSt (pStore Tryz.prog 81 x6.1 x16 x6.2)) fun u =>
    bnd (pFieldAddr Tryz.prog 34 x4 2) fun x17 =>
    bnd (pLoad Tryz.prog 32 x17 u.2) fun x18 =>
    bnd (pFieldAddr Tryz.prog 81 x6.1 0) fun x19 =>
    bnd (pLoad Tryz.prog 9 x19 u.2) fun x20 =>
    bnd (pBuildSlice Tryz.prog 32 1 #[(0, x20)] u.2) fun x21 =>
    bnd (pAppend Tryz.prog #[32, 32] x18 x21.1 x21.2) fun x22 =>
    bnd (pFieldAddr Tryz.prog 34 x4 2) fun x23 =>
    bnd (kSt (pStore Tryz.prog 32 x23 x22.1 x22.2)) fun u_1 =>
    bnd (pBin Tryz.prog .add 3 (.tmp 13) (.const (.int .i64 1)) x13 (.int .i64 1)) fun x24 =>
    F77_lrlr inv k j x4 x11 x12 x24 u_1.2 ke0)
    (ke0 x4 x11 x12 x13 x14 h)
theorem F77_lrlr_j (j : Nat) : kLoop (kCode env 77 false inv k (cp c77 52)) j (act 26 [(4, x4), (11, x11), (12, x12), (13, x13)]) h K = F77_lrlr inv k j x4 x11 x12 x13 h (fun y4 y11 y12 y13 y14 h => K (.exit 0) (act 26 [(4, y4), (11, y11), (12, y12), (13, y13), (14, y14)]) h) := by
      induction j generalizing x4 x11 x12 x13 h with
      | zero => rfl
      | succ j ih =>
        unfold F77_lrlr
        simp only [kLoop, kq_seq c77 52, r77_2, kq_seq c77 105, b77_lrllrlr, kq_skip c77 420, kq_seq c77 211, kq_block c77 422 1, kq_seq c77 844, r77_3, r77_4, r77_5, kq_exit c77 421 0, ih, reduceIte, reduceCtorEq, XE.exit.injEq, Nat.reduceEqDiff, Nat.reduceMul, Nat.reduceAdd] <;> kernel_rfl
theorem F77_lrlr_eq  : kCode env 77 false inv k (cp c77 26) (act 26 [(4, x4), (11, x11), (12, x12), (13, x13)]) h K = F77_lrlr inv k k x4 x11 x12 x13 h (fun y4 y11 y12 y13 y14 h => K (.exit 0) (act 26 [(4, y4), (11, y11), (12, y12), (13, y13), (14, y14)]) h) := kq_loop (F77_lrlr_j k)
theorem r77_6  : kCode env 77 false inv k (cp c77 14) (act 26 [(4, x4), (11, x11), (12, x12), (13, x13), (14, x14)]) h K =
    bnd (pLoad Tryz.prog 34 x4 h) fun x25 =>
    bnd (kSt (pStore Tryz.prog 34 x4 x25 h)) fun u =>
    K .normal (act 26 [(4, x4)]) u.2 := kq_reg
theorem res77_0 : resOfFn env.P 77 .ret (act 26 [(4, x4)]) h = bnd (pLoad Tryz.prog 34 x4 h) fun q0 =>
    some (q0, h) := kq_res
/-- (*shadowbook/model.Model).snaps -/
noncomputable def F77 (inv : Inv) (k : Nat) (x0 x1 : Value) (h : AH) : Option (Value × AH) :=
    bnd (pBox Tryz.prog 40 x1 h) fun x3 =>
    bnd (pAlloc Tryz.prog 34 x3.2) fun x4 =>
    bnd (pNilCheck Tryz.prog x0) fun x8 =>
    bnd (pFieldAddr Tryz.prog 85 x8 0) fun x9 =>
    bnd (pFieldAddr Tryz.prog 58 x9 1) fun x10 =>
    bnd (pLoad Tryz.prog 56 x10 x4.2) fun x11 =>
    bnd (pLen Tryz.prog #[56] x11 x4.2) fun x12 =>
    F77_lrlr inv k k x4.1 x11 x12 (.int .i64 0) x4.2
    (fun y4 y11 y12 y13 y14 h =>
    bnd (pLoad Tryz.prog 34 y4 h) fun x25 =>
    bnd (kSt (pStore Tryz.prog 34 y4 x25 h)) fun u =>
    bnd (pLoad Tryz.prog 34 y4 u.2) fun q0 =>
    some (q0, u.2))
theorem F77_eq : eFun env k inv 77 #[x0, x1] h = F77 inv k x0 x1 h := by
      refine (kq_fun (a := act 26 [(0, x0), (1, x1)]) (c := cp c77 1)).trans ?_
      unfold F77
      simp only [kq_seq c77 1, r77_0, kq_seq c77 3, kq_seq c77 6, r77_1, kq_block c77 13 0, F77_lrlr_eq, kq_seq c77 7, r77_6, kq_ret c77 15, res77_0, reduceIte, reduceCtorEq, XE.exit.injEq, Nat.reduceEqDiff, Nat.reduceMul, Nat.reduceAdd] <;> kernel_rfl
theorem F77_call : eInv env (k + 1) (.func 77) #[] #[x0, x1] h = F77 (eInv env k) k x0 x1 h := kq_inv F77_eq
noncomputable def c81 : Code := codeOf Tryz.prog 81
theorem r81_0  : kCode env 81 false inv k (cp c81 2) (act 39 [(0, x0), (1, x1), (2, x2)]) h K =
    K .normal (act 39 [(0, x0), (1, x1), (2, x2)]) h := kq_reg
theorem r81_1  : kCode env 81 false inv k (cp c81 12) (act 39 [(0, x0), (1, x1), (2, x2)]) h K =
    bnd (pLen Tryz.prog #[45] x0 h) fun x12 =>
    K .normal (act 39 [(0, x0), (1, x1), (2, x2), (11, x0), (12, x12), (13, (.int .i64 0))]) h := kq_reg
theorem r81_2  : kCode env 81 false inv k (cp c81 104) (act 39 [(0, x0), (1, x1), (2, x2), (11, x11), (12, x12), (13, x13)]) h K =
    bnd (pBin Tryz.prog .lss 3 (.tmp 13) (.tmp 12) x13 x12) fun x14 =>
    K .normal (act 39 [(0, x0), (1, x1), (2, x2), (11, x11), (12, x12), (13, x13), (14, x14)]) h := kq_reg
theorem b81_lrllrlr  : kCode env 81 false inv k (cp c81 210) (act 39 [(0, x0), (1, x1), (2, x2), (11, x11), (12, x12), (13, x13), (14, x14)]) h K = brV x14 (kCode env 81 false inv k (cp c81 420) (act 39 [(0, x0), (1, x1), (2, x2), (11, x11), (12, x12), (13, x13), (14, x14)]) h K) (kCode env 81 false inv k (cp c81 421) (act 39 [(0, x0), (1, x1), (2, x2), (11, x11), (12, x12), (13, x13), (14, x14)]) h K) := kq_cond
theorem r81_3  : kCode env 81 false inv k (cp c81 1688) (act 39 [(0, x0), (1, x1), (2, x2), (11, x11), (12, x12), (13, x13), (14, x14)]) h K =
    bnd (pIndexAddr Tryz.prog 45 x11 x13) fun x16 =>
    bnd (pLoad Tryz.prog 49 x16 h) fun x17 =>
    bnd (pAlloc Tryz.prog 49 h) fun x8 =>
    bnd (kSt (pStore Tryz.prog 49 x8.1 x17 x8.2)) fun u =>
    K .normal (act 39 [(0, x0), (1, x1), (2, x2), (7, x13), (8, x8.1), (11, x11), (12, x12), (13, x13)]) u.2 := kq_reg
theorem r81_4  : kCode env 81 false inv k (cp c81 6756) (act 39 [(0, x0), (1, x1), (2, x2), (7, x7), (8, x8), (11, x11), (12, x12), (13, x13)]) h K =
    bnd (pLen Tryz.prog #[45] x1 h) fun x20 =>
    bnd (pBin Tryz.prog .geq 3 (.tmp 18) (.tmp 20) x7 x20) fun x21 =>
    K .normal (act 39 [(0, x0), (1, x1), (2, x2), (7, x7), (8, x8), (11, x11), (12, x12), (13, x13), (21, x21)]) h := kq_reg
theorem b81_rlrllrrllrlr  : kCode env 81 false inv k (cp c81 6757) (act 39 [(0, x0), (1, x1), (2, x2), (7, x7), (8, x8), (11, x11), (12, x12), (13, x13), (21, x21)]) h K = brV x21 (kCode env 81 false inv k (cp c81 13514) (act 39 [(0, x0), (1, x1), (2, x2), (7, x7), (8, x8), (11, x11), (12, x12), (13, x13), (21, x21)]) h K) (kCode env 81 false inv k (cp c81 13515) (act 39 [(0, x0), (1, x1), (2, x2), (7, x7), (8, x8), (11, x11), (12, x12), (13, x13), (21, x21)]) h K) := kq_cond
theorem r81_5  : kCode env 81 false inv k (cp c81 27028) (act 39 [(0, x0), (1, x1), (2, x2), (7, x7), (8, x8), (11, x11), (12, x12), (13, x13), (21, x21)]) h K =
    K .normal (act 39 [(6, (.int .i64 1))]) h := kq_reg
theorem r81_6  : kCode env 81 false inv k (cp c81 6758) (act 39 [(0, x0), (1, x1), (2, x2), (7, x7), (8, x8), (11, x11), (12, x12), (13, x13), (21, x21)]) h K =
    bnd (pIndexAddr Tryz.prog 45 x1 x7) fun x24 =>
    bnd (pLoad Tryz.prog 49 x24 h) fun x25 =>
    bnd (pAlloc Tryz.prog 49 h) fun x9 =>
    bnd (kSt (pStore Tryz.prog 49 x9.1 x25 x9.2)) fun u =>
    K .normal (act 39 [(0, x0), (1, x1), (2, x2), (8, x8), (9, x9.1), (11, x11), (12, x12), (13, x13)]) u.2 := kq_reg
theorem r81_7  : kCode env 81 false inv k (cp c81 13518) (act 39 [(0, x0), (1, x1), (2, x2), (8, x8), (9, x9), (11, x11), (12, x12), (13, x13)]) h K =
    bnd (pLoad Tryz.prog 49 x8 h) fun x27 =>
    bnd (pLoad Tryz.prog 49 x9 h) fun x28 =>
    bnd (callV inv x2 #[x27, x28] h) fun x29 =>
    K .normal (act 39 [(0, x0), (1, x1), (2, x2), (10, x29.1), (11, x11), (12, x12), (13, x13)]) x29.2 := kq_reg
theorem r81_8  : kCode env 81 false inv k (cp c81 27038) (act 39 [(0, x0), (1, x1), (2, x2), (10, x10), (11, x11), (12, x12), (13, x13)]) h K =
    bnd (pBin Tryz.prog .neq 3 (.tmp 30) (.const (.int .i64 0)) x10 (.int .i64 0)) fun x31 =>
    K .normal (act 39 [(0, x0), (1, x1), (2, x2), (10, x10), (11, x11), (12, x12), (13, x13), (31, x31)]) h := kq_reg
theorem b81_rrrrrllrrllrlr  : kCode env 81 false inv k (cp c81 27039) (act 39 [(0, x0), (1, x1), (2, x2), (10, x10), (11, x11), (12, x12), (13, x13), (31, x31)]) h K = brV x31 (kCode env 81 false inv k (cp c81 54078) (act 39 [(0, x0), (1, x1), (2, x2), (10, x10), (11, x11), (12, x12), (13, x13), (31, x31)]) h K) (kCode env 81 false inv k (cp c81 54079) (act 39 [(0, x0), (1, x1), (2, x2), (10, x10), (11, x11), (12, x12), (13, x13), (31, x31)]) h K) := kq_cond
theorem r81_9  : kCode env 81 false inv k (cp c81 108156) (act 39 [(0, x0), (1, x1), (2, x2), (10, x10), (11, x11), (12, x12), (13, x13), (31, x31)]) h K =
    K .normal (act 39 [(6, x10)]) h := kq_reg
theorem r81_10  : kCode env 81 false inv k (cp c81 423) (act 39 [(0, x0), (1, x1), (2, x2), (10, x10), (11, x11), (12, x12), (13, x13), (31, x31)]) h K =
    bnd (pBin Tryz.prog .add 3 (.tmp 13) (.const (.int .i64 1)) x13 (.int .i64 1)) fun x33 =>
    K .normal (act 39 [(0, x0), (1, x1), (2, x2), (11, x11), (12, x12), (13, x33)]) h := kq_reg
noncomputable def F81_lrlr {β : Type} (inv : Inv) (k : Nat) : Nat → Value → Value → Value → Value → Value → Value → AH → (Value → Value → Value → Value → Value → Value → Value → AH → Option β) → (Value → AH → Option β) → Option β
  | 0, _, _, _, _, _, _, _, _, _ => none
  | j + 1, x0, x1, x2, x11, x12, x13, h, ke0, kr =>
    bnd (pBin Tryz.prog .lss 3 (.tmp 13) (.tmp 12) x13 x12) fun x14 =>
    brV x14
    (bnd (pIndexAddr Tryz.prog 45 x11 x13) fun x16 =>
    bnd (pLoad Tryz.prog 49 x16 h) fun x17 =>
    bnd (pAlloc Tryz.prog 49 h) fun x8 =>
    bnd (kSt (pStore Tryz.prog 49 x8.1 x17 x8.2)) fun u =>
    bnd (pLen Tryz.prog #[45] x1 u.2) fun x20 =>
    bnd (pBin Tryz.prog .geq 3 (.tmp 18) (.tmp 20) x13 x20) fun x21 =>
    brV x21
    (kr (.int .i64 1) u.2)
    (bnd (pIndexAddr Tryz.prog 45 x1 x13) fun x24 =>
    bnd (pLoad Tryz.prog 49 x24 u.2) fun x25 =>
    bnd (pAlloc Tryz.prog 49 u.2) fun x9 =>
    bnd (kSt (pStore Tryz.prog 49 x9.1 x25 x9.2)) fun u_1 =>
    bnd (pLoad Tryz.prog 49 x8.1 u_1.2) fun x27 =>
    bnd (pLoad Tryz.prog 49 x9.1 u_1.2) fun x28 =>
    bnd (callV inv x2 #[x27, x28] u_1.2) fun x29 =>
    bnd (pBin Tryz.prog .neq 3 (.tmp 30) (.const (.int .i64 0)) x29.1 (.int .i64 0)) fun x31 =>
    brV x31
    (kr x29.1 x29.2)
    (bnd (pBin Tryz.prog .add 3 (.tmp 13) (.const (.int .i64 1)) x13 (.int .i64 1)) fun x33 =>
    F81_lrlr inv k j x0 x1 x2 x11 x12 x33 x29.2 ke0 kr)))
    (ke0 x0 x1 x2 x11 x12 x13 x14 h)
theorem F81_lrlr_j (j : Nat) : kLoop (kCode env 81 false inv k (cp c81 52)) j (act 39 [(0, x0), (1, x1), (2, x2), (11, x11), (12, x12), (13, x13)]) h K = F81_lrlr inv k j x0 x1 x2 x11 x12 x13 h (fun y0 y1 y2 y11 y12 y13 y14 h => K (.exit 0) (act 39 [(0, y0), (1, y1), (2, y2), (11, y11), (12, y12), (13, y13), (14, y14)]) h) (fun y6 h => K .ret (act 39 [(6, y6)]) h) := by
      induction j generalizing x0 x1 x2 x11 x12 x13 h with
      | zero => rfl
      | succ j ih =>
        unfold F81_lrlr
        simp only [kLoop, kq_seq c81 52, r81_2, kq_seq c81 105, b81_lrllrlr, kq_skip c81 420, kq_seq c81 211, kq_block c81 422 1, kq_seq c81 844, r81_3, kq_seq c81 1689, kq_seq c81 3378, r81_4, b81_rlrllrrllrlr, kq_seq c81 13514, r81_5, kq_ret c81 27029, kq_skip c81 13515, kq_seq c81 3379, r81_6, kq_seq c81 6759, r81_7, kq_seq c81 13519, r81_8, b81_rrrrrllrrllrlr, kq_seq c81 54078, r81_9, kq_ret c81 108157, kq_skip c81 54079, r81_10, kq_exit c81 421 0, ih, reduceIte, reduceCtorEq, XE.exit.injEq, Nat.reduceEqDiff, Nat.reduceMul, Nat.reduceAdd] <;> kernel_rfl
theorem F81_lrlr_eq  : kCode env 81 false inv k (cp c81 26) (act 39 [(0, x0), (1, x1), (2, x2), (11, x11), (12, x12), (13, x13)]) h K = F81_lrlr inv k k x0 x1 x2 x11 x12 x13 h (fun y0 y1 y2 y11 y12 y13 y14 h => K (.exit 0) (act 39 [(0, y0), (1, y1), (2, y2), (11, y11), (12, y12), (13, y13), (14, y14)]) h) (fun y6 h => K .ret (act 39 [(6, y6)]) h) := kq_loop (F81_lrlr_j k)
theorem r81_11  : kCode env 81 false inv k (cp c81 28) (act 39 [(0, x0), (1, x1), (2, x2), (11, x11), (12, x12), (13, x13), (14, x14)]) h K =
    bnd (pLen Tryz.prog #[45] x0 h) fun x35 =>
    bnd (pLen Tryz.prog #[45] x1 h) fun x37 =>
    bnd (pBin Tryz.prog .lss 3 (.tmp 35) (.tmp 37) x35 x37) fun x38 =>
    K .normal (act 39 [(38, x38)]) h := kq_reg
theorem b81_rlrr  : kCode env 81 false inv k (cp c81 29) (act 39 [(38, x38)]) h K = brV x38 (kCode env 81 false inv k (cp c81 58) (act 39 [(38, x38)]) h K) (kCode env 81 false inv k (cp c81 59) (act 39 [(38, x38)]) h K) := kq_cond
theorem r81_12  : kCode env 81 false inv k (cp c81 116) (act 39 [(38, x38)]) h K =
    K .normal (act 39 [(6, (.int .i64 (-1)))]) h := kq_reg
theorem res81_0 : resOfFn env.P 81 .ret (act 39 [(6, x6)]) h = some (x6, h) := kq_res
theorem r81_13  : kCode env 81 false inv k (cp c81 30) (act 39 [(38, x38)]) h K =
    K .normal (act 39 [(6, (.int .i64 0))]) h := kq_reg
/-- slices.CompareFunc[[]shadowbook/api.Cell,[]shadowbook/api.Cell,shadowbook/api.Cell,shadowbook/api.Cell] -/
noncomputable def F81 (inv : Inv) (k : Nat) (x0 x1 x2 : Value) (h : AH) : Option (Value × AH) :=
    bnd (pLen Tryz.prog #[45] x0 h) fun x12 =>
    F81_lrlr inv k k x0 x1 x2 x0 x12 (.int .i64 0) h
    (fun y0 y1 y2 y11 y12 y13 y14 h =>
    bnd (pLen Tryz.prog #[45] y0 h) fun x35 =>
    bnd (pLen Tryz.prog #[45] y1 h) fun x37 =>
    bnd (pBin Tryz.prog .lss 3 (.tmp 35) (.tmp 37) x35 x37) fun x38 =>
    brV x38
    (some ((.int .i64 (-1)), h))
    (some ((.int .i64 0), h)))
    (fun y6 h_2 =>
    some (y6, h_2))
theorem F81_eq : eFun env k inv 81 #[x0, x1, x2] h = F81 inv k x0 x1 x2 h := by
      refine (kq_fun (a := act 39 [(0, x0), (1, x1), (2, x2)]) (c := cp c81 1)).trans ?_
      unfold F81
      simp only [kq_seq c81 1, r81_0, kq_seq c81 3, kq_seq c81 6, r81_1, kq_block c81 13 0, F81_lrlr_eq, kq_seq c81 7, kq_seq c81 14, r81_11, b81_rlrr, kq_seq c81 58, r81_12, kq_ret c81 117, res81_0, kq_skip c81 59, kq_seq c81 15, r81_13, kq_ret c81 31, reduceIte, reduceCtorEq, XE.exit.injEq, Nat.reduceEqDiff, Nat.reduceMul, Nat.reduceAdd] <;> kernel_rfl
theorem F81_call : eInv env (k + 1) (.func 81) #[] #[x0, x1, x2] h = F81 (eInv env k) k x0 x1 x2 h := kq_inv F81_eq
noncomputable def c82 : Code := codeOf Tryz.prog 82
theorem r82_0  : kCode env 82 false inv k (cp c82 2) (act 22 [(0, x0), (1, x1)]) h K =
    bnd (pBox Tryz.prog 49 x0 h) fun x2 =>
    bnd (pBox Tryz.prog 49 x1 x2.2) fun x3 =>
    K .normal (act 22 [(2, x2.1), (3, x3.1)]) x3.2 := kq_reg
noncomputable abbrev G82_1 {β : Type} (inv : Inv) (x2 x3 : Value) (h : AH) (K : Value → AH → Option β) : Option β :=
    bnd (pFieldAddr Tryz.prog 49 x2 0) fun x5 =>
    bnd (pLoad Tryz.prog 3 x5 h) fun x6 =>
    bnd (pFieldAddr Tryz.prog 49 x3 0) fun x7 =>
    bnd (pLoad Tryz.prog 3 x7 h) fun x8 =>
    bnd (inv (.func 122) #[] #[x6, x8] h) fun x9 =>
    bnd (pFieldAddr Tryz.prog 49 x2 1) fun x10 =>
    bnd (pLoad Tryz.prog 2 x10 x9.2) fun x11 =>
    bnd (pFieldAddr Tryz.prog 49 x3 1) fun x12 =>
    bnd (pLoad Tryz.prog 2 x12 x9.2) fun x13 =>
    bnd (inv (.func 123) #[] #[x11, x13] x9.2) fun x14 =>
    bnd (pFieldAddr Tryz.prog 49 x2 2) fun x15 =>
    bnd (pLoad Tryz.prog 9 x15 x14.2) fun x16 =>
    bnd (pFieldAddr Tryz.prog 49 x3 2) fun x17 =>
    bnd (pLoad Tryz.prog 9 x17 x14.2) fun x18 =>
    bnd (inv (.func 124) #[] #[x16, x18] x14.2) fun x19 =>
    bnd (pBuildSlice Tryz.prog 24 3 #[(0, x9.1), (1, x14.1), (2, x19.1)] x19.2) fun x20 =>
    bnd (inv (.func 121) #[] #[x20.1] x20.2) fun x21 =>
    chkK ((!true || !true || (sameO (pLoad Tryz.prog 2 x10 h) x11 && sameO (pLoad Tryz.prog 2 x10 x9.2) x11)) && ((!true || !true || (sameO (pLoad Tryz.prog 2 x12 h) x13 && sameO (pLoad Tryz.prog 2 x12 x9.2) x13)) && ((!true || !true || (sameO (pLoad Tryz.prog 9 x15 h) x16 && sameO (pLoad Tryz.prog 9 x15 x9.2) x16)) && ((!true || !true || (sameO (pLoad Tryz.prog 9 x15 x9.2) x16 && sameO (pLoad Tryz.prog 9 x15 x14.2) x16)) && ((!true || !true || (sameO (pLoad Tryz.prog 9 x17 h) x18 && sameO (pLoad Tryz.prog 9 x17 x9.2) x18)) && ((!true || !true || (sameO (pLoad Tryz.prog 9 x17 x9.2) x18 && sameO (pLoad Tryz.prog 9 x17 x14.2) x18)) && true)))))) <|
    K (x21.1) x21.2
theorem r82_1  : kCode env 82 false inv k (cp c82 6) (act 22 [(2, x2), (3, x3)]) h K =
    G82_1 inv x2 x3 h fun y4 h => K .normal (act 22 [(4, y4)]) h := kq_draw
theorem res82_0 : resOfFn env.P 82 .ret (act 22 [(4, x4)]) h = some (x4, h) := kq_res
/-- shadowbook/value.Compare -/
noncomputable def F82 (inv : Inv) (k : Nat) (x0 x1 : Value) (h : AH) : Option (Value × AH) :=
    bnd (pBox Tryz.prog 49 x0 h) fun x2 =>
    bnd (pBox Tryz.prog 49 x1 x2.2) fun x3 =>
    G82_1 inv x2.1 x3.1 x3.2 fun y4 h =>
    some (y4, h)
theorem F82_eq : eFun env k inv 82 #[x0, x1] h = F82 inv k x0 x1 h := by
      refine (kq_fun (a := act 22 [(0, x0), (1, x1)]) (c := cp c82 1)).trans ?_
      unfold F82
      simp only [kq_seq c82 1, r82_0, kq_seq c82 3, r82_1, kq_ret c82 7, res82_0, reduceIte, reduceCtorEq, XE.exit.injEq, Nat.reduceEqDiff, Nat.reduceMul, Nat.reduceAdd] <;> kernel_rfl
theorem F82_call : eInv env (k + 1) (.func 82) #[] #[x0, x1] h = F82 (eInv env k) k x0 x1 h := kq_inv F82_eq
noncomputable def c83 : Code := codeOf Tryz.prog 83
theorem r83_0  : kCode env 83 false inv k (cp c83 2) (act 31 [(0, x0)]) h K =
    K .normal (act 31 [(0, x0)]) h := kq_reg
theorem r83_1  : kCode env 83 false inv k (cp c83 6) (act 31 [(0, x0)]) h K =
    bnd (inv (.func 125) #[] #[x0] h) fun x7 =>
    K .normal (act 31 [(3, x7.1)]) x7.2 := kq_reg
theorem r83_2  : kCode env 83 false inv k (cp c83 28) (act 31 [(3, x3)]) h K =
    bnd (pLen Tryz.prog #[55] x3 h) fun x9 =>
    K .normal (act 31 [(3, x3), (8, x3), (9, x9), (10, (.int .i64 0))]) h := kq_reg
theorem r83_3  : kCode env 83 false inv k (cp c83 232) (act 31 [(3, x3), (8, x8), (9, x9), (10, x10)]) h K =
    bnd (pBin Tryz.prog .lss 3 (.tmp 10) (.tmp 9) x10 x9) fun x11 =>
    K .normal (act 31 [(3, x3), (8, x8), (9, x9), (10, x10), (11, x11)]) h := kq_reg
theorem b83_lrllrlrr  : kCode env 83 false inv k (cp c83 466) (act 31 [(3, x3), (8, x8), (9, x9), (10, x10), (11, x11)]) h K = brV x11 (kCode env 83 false inv k (cp c83 932) (act 31 [(3, x3), (8, x8), (9, x9), (10, x10), (11, x11)]) h K) (kCode env 83 false inv k (cp c83 933) (act 31 [(3, x3), (8, x8), (9, x9), (10, x10), (11, x11)]) h K) := kq_cond
theorem r83_4  : kCode env 83 false inv k (cp c83 3736) (act 31 [(3, x3), (8, x8), (9, x9), (10, x10), (11, x11)]) h K =
    bnd (pIndexAddr Tryz.prog 55 x8 x10) fun x13 =>
    bnd (pLoad Tryz.prog 79 x13 h) fun x14 =>
    bnd (pAlloc Tryz.prog 79 h) fun x5 =>
    bnd (kSt (pStore Tryz.prog 79 x5.1 x14 x5.2)) fun u =>
    K .normal (act 31 [(3, x3), (4, x10), (5, x5.1), (8, x8), (9, x9), (10, x10)]) u.2 := kq_reg
noncomputable abbrev G83_5 {β : Type} (inv : Inv) (x3 x4 x5 x8 x9 x10 : Value) (h : AH) (K : AH → Option β) : Option β :=
    bnd (pFieldAddr Tryz.prog 79 x5 1) fun x19 =>
    bnd (pLoad Tryz.prog 36 x19 h) fun x20 =>
    bnd (inv (.func 107) #[] #[x20] h) fun x21 =>
    bnd (pFieldAddr Tryz.prog 79 x5 2) fun x22 =>
    bnd (pLoad Tryz.prog 31 x22 x21.2) fun x23 =>
    bnd (inv (.func 126) #[] #[x23] x21.2) fun x24 =>
    bnd (pIndexAddr Tryz.prog 55 x3 x4) fun x25 =>
    bnd (pFieldAddr Tryz.prog 79 x25 1) fun x26 =>
    bnd (kSt (pStore Tryz.prog 36 x26 x21.1 x24.2)) fun u =>
    bnd (pIndexAddr Tryz.prog 55 x3 x4) fun x27 =>
    bnd (pFieldAddr Tryz.prog 79 x27 2) fun x28 =>
    bnd (kSt (pStore Tryz.prog 31 x28 x24.1 u.2)) fun u_1 =>
    chkK ((!true || !true || (sameO (pLoad Tryz.prog 31 x22 h) x23 && sameO (pLoad Tryz.prog 31 x22 x21.2) x23)) && true) <|
    K u_1.2
theorem r83_5  : kCode env 83 false inv k (cp c83 3737) (act 31 [(3, x3), (4, x4), (5, x5), (8, x8), (9, x9), (10, x10)]) h K =
    G83_5 inv x3 x4 x5 x8 x9 x10 h fun  h => K .normal (act 31 [(3, x3), (8, x8), (9, x9), (10, x10)]) h := kq_draw
theorem r83_6  : kCode env 83 false inv k (cp c83 935) (act 31 [(3, x3), (8, x8), (9, x9), (10, x10)]) h K =
    bnd (pBin Tryz.prog .add 3 (.tmp 10) (.const (.int .i64 1)) x10 (.int .i64 1)) fun x29 =>
    K .normal (act 31 [(3, x3), (8, x8), (9, x9), (10, x29)]) h := kq_reg
noncomputable def F83_lrlrr {β : Type} (inv : Inv) (k : Nat) : Nat → Value → Value → Value → Value → AH → (Value → Value → Value → Value → Value → AH → Option β) → Option β
  | 0, _, _, _, _, _, _ => none
  | j + 1, x3, x8, x9, x10, h, ke0 =>
    bnd (pBin Tryz.prog .lss 3 (.tmp 10) (.tmp 9) x10 x9) fun x11 =>
    brV x11
    (bnd (pIndexAddr Tryz.prog 55 x8 x10) fun x13 =>
    bnd (pLoad Tryz.prog 79 x13 h) fun x14 =>
    bnd (pAlloc Tryz.prog 79 h) fun x5 =>
    bnd (kSt (pStore Tryz.prog 79 x5.1 x14 x5.2)) fun u =>
    G83_5 inv x3 x10 x5.1 x8 x9 x10 u.2 fun  h =>
    bnd (pBin Tryz.prog .add 3 (.tmp 10) (.const (.int .i64 1)) x10 (.int .i64 1)) fun x29 =>
    F83_lrlrr inv k j x3 x8 x9 x29 h ke0)
    (ke0 x3 x8 x9 x10 x11 h)
theorem F83_lrlrr_j (j : Nat) : kLoop (kCode env 83 false inv k (cp c83 116)) j (act 31 [(3, x3), (8, x8), (9, x9), (10, x10)]) h K = F83_lrlrr inv k j x3 x8 x9 x10 h (fun y3 y8 y9 y10 y11 h => K (.exit 0) (act 31 [(3, y3), (8, y8), (9, y9), (10, y10), (11, y11)]) h) := by
      induction j generalizing x3 x8 x9 x10 h with
      | zero => rfl
      | succ j ih =>
        unfold F83_lrlrr
        simp only [kLoop, kq_seq c83 116, r83_3, kq_seq c83 233, b83_lrllrlrr, kq_skip c83 932, kq_seq c83 467, kq_block c83 934 1, kq_seq c83 1868, r83_4, r83_5, r83_6, kq_exit c83 933 0, ih, reduceIte, reduceCtorEq, XE.exit.injEq, Nat.reduceEqDiff, Nat.reduceMul, Nat.reduceAdd] <;> kernel_rfl
theorem F83_lrlrr_eq  : kCode env 83 false inv k (cp c83 58) (act 31 [(3, x3), (8, x8), (9, x9), (10, x10)]) h K = F83_lrlrr inv k k x3 x8 x9 x10 h (fun y3 y8 y9 y10 y11 h => K (.exit 0) (act 31 [(3, y3), (8, y8), (9, y9), (10, y10), (11, y11)]) h) := kq_loop (F83_lrlrr_j k)
theorem r83_7  : kCode env 83 false inv k (cp c83 30) (act 31 [(3, x3), (8, x8), (9, x9), (10, x10), (11, x11)]) h K =
    K .normal (act 31 [(2, x3)]) h := kq_reg
theorem res83_0 : resOfFn env.P 83 .ret (act 31 [(2, x2)]) h = some (x2, h) := kq_res
/-- shadowbook/model.copyTables -/
noncomputable def F83 (inv : Inv) (k : Nat) (x0 : Value) (h : AH) : Option (Value × AH) :=
    bnd (inv (.func 125) #[] #[x0] h) fun x7 =>
    bnd (pLen Tryz.prog #[55] x7.1 x7.2) fun x9 =>
    F83_lrlrr inv k k x7.1 x7.1 x9 (.int .i64 0) x7.2
    (fun y3 y8 y9 y10 y11 h =>
    some (y3, h))
theorem F83_eq : eFun env k inv 83 #[x0] h = F83 inv k x0 h := by
      refine (kq_fun (a := act 31 [(0, x0)]) (c := cp c83 1)).trans ?_
      unfold F83
      simp only [kq_seq c83 1, r83_0, kq_seq c83 3, r83_1, kq_seq c83 7, kq_seq c83 14, r83_2, kq_block c83 29 0, F83_lrlrr_eq, kq_seq c83 15, r83_7, kq_ret c83 31, res83_0, reduceIte, reduceCtorEq, XE.exit.injEq, Nat.reduceEqDiff, Nat.reduceMul, Nat.reduceAdd] <;> kernel_rfl
theorem F83_call : eInv env (k + 1) (.func 83) #[] #[x0] h = F83 (eInv env k) k x0 h := kq_inv F83_eq
noncomputable def c84 : Code := codeOf Tryz.prog 84
theorem r84_0  : kCode env 84 false inv k (cp c84 2) (act 8 [(0, x0)]) h K =
    K .normal (act 8 [(0, x0)]) h := kq_reg
theorem r84_1  : kCode env 84 false inv k (cp c84 12) (act 8 [(0, x0)]) h K =
    bnd (pBin Tryz.prog .eql 56 (.tmp 3) (.const (.slice none 0 0)) x0 (.slice none 0 0)) fun x4 =>
    K .normal (act 8 [(0, x0), (4, x4)]) h := kq_reg
theorem b84_rlr  : kCode env 84 false inv k (cp c84 13) (act 8 [(0, x0), (4, x4)]) h K = brV x4 (kCode env 84 false inv k (cp c84 26) (act 8 [(0, x0), (4, x4)]) h K) (kCode env 84 false inv k (cp c84 27) (act 8 [(0, x0), (4, x4)]) h K) := kq_cond
theorem r84_2  : kCode env 84 false inv k (cp c84 52) (act 8 [(0, x0), (4, x4)]) h K =
    K .normal (act 8 [(2, (.slice none 0 0))]) h := kq_reg
theorem res84_0 : resOfFn env.P 84 .ret (act 8 [(2, x2)]) h = some (x2, h) := kq_res
theorem r84_3  : kCode env 84 false inv k (cp c84 14) (act 8 [(0, x0), (4, x4)]) h K =
    bnd (pBuildSlice Tryz.prog 56 0 #[] h) fun x5 =>
    bnd (pAppend Tryz.prog #[56, 56] x5.1 x0 x5.2) fun x7 =>
    K .normal (act 8 [(2, x7.1)]) x7.2 := kq_reg
/-- slices.Clone[[]shadowbook/api.Frozen,shadowbook/api.Frozen] -/
noncomputable def F84 (inv : Inv) (k : Nat) (x0 : Value) (h : AH) : Option (Value × AH) :=
    bnd (pBin Tryz.prog .eql 56 (.tmp 3) (.const (.slice none 0 0)) x0 (.slice none 0 0)) fun x4 =>
    brV x4
    (some ((.slice none 0 0), h))
    (bnd (pBuildSlice Tryz.prog 56 0 #[] h) fun x5 =>
    bnd (pAppend Tryz.prog #[56, 56] x5.1 x0 x5.2) fun x7 =>
    some (x7.1, x7.2))
theorem F84_eq : eFun env k inv 84 #[x0] h = F84 inv k x0 h := by
      refine (kq_fun (a := act 8 [(0, x0)]) (c := cp c84 1)).trans ?_
      unfold F84
      simp only [kq_seq c84 1, r84_0, kq_seq c84 3, kq_seq c84 6, r84_1, b84_rlr, kq_seq c84 26, r84_2, kq_ret c84 53, res84_0, kq_skip c84 27, kq_seq c84 7, r84_3, kq_ret c84 15, reduceIte, reduceCtorEq, XE.exit.injEq, Nat.reduceEqDiff, Nat.reduceMul, Nat.reduceAdd] <;> kernel_rfl
theorem F84_call : eInv env (k + 1) (.func 84) #[] #[x0] h = F84 (eInv env k) k x0 h := kq_inv F84_eq
noncomputable def c85 : Code := codeOf Tryz.prog 85
theorem r85_0  : kCode env 85 false inv k (cp c85 2) (act 26 [(0, x0), (1, x1)]) h K =
    K .normal (act 26 [(0, x0), (1, x1)]) h := kq_reg
theorem r85_1  : kCode env 85 false inv k (cp c85 12) (act 26 [(0, x0), (1, x1)]) h K =
    bnd (pLen Tryz.prog #[36] x0 h) fun x7 =>
    bnd (pLen Tryz.prog #[36] x1 h) fun x9 =>
    bnd (pBin Tryz.prog .neq 3 (.tmp 7) (.tmp 9) x7 x9) fun x10 =>
    K .normal (act 26 [(0, x0), (1, x1), (10, x10)]) h := kq_reg
theorem b85_rlr  : kCode env 85 false inv k (cp c85 13) (act 26 [(0, x0), (1, x1), (10, x10)]) h K = brV x10 (kCode env 85 false inv k (cp c85 26) (act 26 [(0, x0), (1, x1), (10, x10)]) h K) (kCode env 85 false inv k (cp c85 27) (act 26 [(0, x0), (1, x1), (10, x10)]) h K) := kq_cond
theorem r85_2  : kCode env 85 false inv k (cp c85 52) (act 26 [(0, x0), (1, x1), (10, x10)]) h K =
    K .normal (act 26 [(4, (.bool false))]) h := kq_reg
theorem res85_0 : resOfFn env.P 85 .ret (act 26 [(4, x4)]) h = some (x4, h) := kq_res
theorem r85_3  : kCode env 85 false inv k (cp c85 28) (act 26 [(0, x0), (1, x1), (10, x10)]) h K =
    bnd (pLen Tryz.prog #[36] x0 h) fun x12 =>
    K .normal (act 26 [(0, x0), (1, x1), (12, x12), (13, (.int .i64 0))]) h := kq_reg
theorem r85_4  : kCode env 85 false inv k (cp c85 232) (act 26 [(0, x0), (1, x1), (12, x12), (13, x13)]) h K =
    bnd (pBin Tryz.prog .lss 3 (.tmp 13) (.tmp 12) x13 x12) fun x14 =>
    K .normal (act 26 [(0, x0), (1, x1), (12, x12), (13, x13), (14, x14)]) h := kq_reg
theorem b85_lrllrlrr  : kCode env 85 false inv k (cp c85 466) (act 26 [(0, x0), (1, x1), (12, x12), (13, x13), (14, x14)]) h K = brV x14 (kCode env 85 false inv k (cp c85 932) (act 26 [(0, x0), (1, x1), (12, x12), (13, x13), (14, x14)]) h K) (kCode env 85 false inv k (cp c85 933) (act 26 [(0, x0), (1, x1), (12, x12), (13, x13), (14, x14)]) h K) := kq_cond
theorem r85_5  : kCode env 85 false inv k (cp c85 3736) (act 26 [(0, x0), (1, x1), (12, x12), (13, x13), (14, x14)]) h K =
    K .normal (act 26 [(0, x0), (1, x1), (5, x13), (12, x12), (13, x13)]) h := kq_reg
theorem r85_6  : kCode env 85 false inv k (cp c85 7474) (act 26 [(0, x0), (1, x1), (5, x5), (12, x12), (13, x13)]) h K =
    bnd (pIndexAddr Tryz.prog 36 x0 x5) fun x18 =>
    bnd (pLoad Tryz.prog 118 x18 h) fun x19 =>
    bnd (pIndexAddr Tryz.prog 36 x1 x5) fun x22 =>
    bnd (pLoad Tryz.prog 118 x22 h) fun x23 =>
    bnd (pBin Tryz.prog .neq 118 (.tmp 19) (.tmp 23) x19 x23) fun x24 =>
    K .normal (act 26 [(0, x0), (1, x1), (12, x12), (13, x13), (24, x24)]) h := kq_draw
theorem b85_rrllrrllrlrr  : kCode env 85 false inv k (cp c85 7475) (act 26 [(0, x0), (1, x1), (12, x12), (13, x13), (24, x24)]) h K = brV x24 (kCode env 85 false inv k (cp c85 14950) (act 26 [(0, x0), (1, x1), (12, x12), (13, x13), (24, x24)]) h K) (kCode env 85 false inv k (cp c85 14951) (act 26 [(0, x0), (1, x1), (12, x12), (13, x13), (24, x24)]) h K) := kq_cond
theorem r85_7  : kCode env 85 false inv k (cp c85 29900) (act 26 [(0, x0), (1, x1), (12, x12), (13, x13), (24, x24)]) h K =
    K .normal (act 26 [(4, (.bool false))]) h := kq_reg
theorem r85_8  : kCode env 85 false inv k (cp c85 935) (act 26 [(0, x0), (1, x1), (12, x12), (13, x13), (24, x24)]) h K =
    bnd (pBin Tryz.prog .add 3 (.tmp 13) (.const (.int .i64 1)) x13 (.int .i64 1)) fun x25 =>
    K .normal (act 26 [(0, x0), (1, x1), (12, x12), (13, x25)]) h := kq_reg
noncomputable def F85_lrlrr {β : Type} (inv : Inv) (k : Nat) : Nat → Value → Value → Value → Value → AH → (Value → Value → Value → Value → Value → AH → Option β) → (Value → AH → Option β) → Option β
  | 0, _, _, _, _, _, _, _ => none
  | j + 1, x0, x1, x12, x13, h, ke0, kr =>
    bnd (pBin Tryz.prog .lss 3 (.tmp 13) (.tmp 12) x13 x12) fun x14 =>
    brV x14
    (bnd (pIndexAddr Tryz.prog 36 x0 x13) fun x18 =>
    bnd (pLoad Tryz.prog 118 x18 h) fun x19 =>
    bnd (pIndexAddr Tryz.prog 36 x1 x13) fun x22 =>
    bnd (pLoad Tryz.prog 118 x22 h) fun x23 =>
    bnd (pBin Tryz.prog .neq 118 (.tmp 19) (.tmp 23) x19 x23) fun x24 =>
    brV x24
    (kr (.bool false) h)
    (bnd (pBin Tryz.prog .add 3 (.tmp 13) (.const (.int .i64 1)) x13 (.int .i64 1)) fun x25 =>
    F85_lrlrr inv k j x0 x1 x12 x25 h ke0 kr))
    (ke0 x0 x1 x12 x13 x14 h)
theorem F85_lrlrr_j (j : Nat) : kLoop (kCode env 85 false inv k (cp c85 116)) j (act 26 [(0, x0), (1, x1), (12, x12), (13, x13)]) h K = F85_lrlrr inv k j x0 x1 x12 x13 h (fun y0 y1 y12 y13 y14 h => K (.exit 0) (act 26 [(0, y0), (1, y1), (12, y12), (13, y13), (14, y14)]) h) (fun y4 h => K .ret (act 26 [(4, y4)]) h) := by
      induction j generalizing x0 x1 x12 x13 h with
      | zero => rfl
      | succ j ih =>
        unfold F85_lrlrr
        simp only [kLoop, kq_seq c85 116, r85_4, kq_seq c85 233, b85_lrllrlrr, kq_skip c85 932, kq_seq c85 467, kq_block c85 934 1, kq_seq c85 1868, r85_5, kq_seq c85 3737, r85_6, b85_rrllrrllrlrr, kq_seq c85 14950, r85_7, kq_ret c85 29901, kq_skip c85 14951, r85_8, kq_exit c85 933 0, ih, reduceIte, reduceCtorEq, XE.exit.injEq, Nat.reduceEqDiff, Nat.reduceMul, Nat.reduceAdd] <;> kernel_rfl
theorem F85_lrlrr_eq  : kCode env 85 false inv k (cp c85 58) (act 26 [(0, x0), (1, x1), (12, x12), (13, x13)]) h K = F85_lrlrr inv k k x0 x1 x12 x13 h (fun y0 y1 y12 y13 y14 h => K (.exit 0) (act 26 [(0, y0), (1, y1), (12, y12), (13, y13), (14, y14)]) h) (fun y4 h => K .ret (act 26 [(4, y4)]) h) := kq_loop (F85_lrlrr_j k)
theorem r85_9  : kCode env 85 false inv k (cp c85 30) (act 26 [(0, x0), (1, x1), (12, x12), (13, x13), (14, x14)]) h K =
    K .normal (act 26 [(4, (.bool true))]) h := kq_reg
/-- slices.Equal[[]shadowbook/api.Col,shadowbook/api.Col] -/
noncomputable def F85 (inv : Inv) (k : Nat) (x0 x1 : Value) (h : AH) : Option (Value × AH) :=
    bnd (pLen Tryz.prog #[36] x0 h) fun x7 =>
    bnd (pLen Tryz.prog #[36] x1 h) fun x9 =>
    bnd (pBin Tryz.prog .neq 3 (.tmp 7) (.tmp 9) x7 x9) fun x10 =>
    brV x10
    (some ((.bool false), h))
    (bnd (pLen Tryz.prog #[36] x0 h) fun x12 =>
    F85_lrlrr inv k k x0 x1 x12 (.int .i64 0) h
    (fun y0 y1 y12 y13 y14 h =>
    some ((.bool true), h))
    (fun y4 h_1 =>
    some (y4, h_1)))
theorem F85_eq : eFun env k inv 85 #[x0, x1] h = F85 inv k x0 x1 h := by
      refine (kq_fun (a := act 26 [(0, x0), (1, x1)]) (c := cp c85 1)).trans ?_
      unfold F85
      simp only [kq_seq c85 1, r85_0, kq_seq c85 3, kq_seq c85 6, r85_1, b85_rlr, kq_seq c85 26, r85_2, kq_ret c85 53, res85_0, kq_skip c85 27, kq_seq c85 7, kq_seq c85 14, r85_3, kq_block c85 29 0, F85_lrlrr_eq, kq_seq c85 15, r85_9, kq_ret c85 31, reduceIte, reduceCtorEq, XE.exit.injEq, Nat.reduceEqDiff, Nat.reduceMul, Nat.reduceAdd] <;> kernel_rfl
theorem F85_call : eInv env (k + 1) (.func 85) #[] #[x0, x1] h = F85 (eInv env k) k x0 x1 h := kq_inv F85_eq
noncomputable def c86 : Code := codeOf Tryz.prog 86
theorem r86_0  : kCode env 86 false inv k (cp c86 2) (act 8 [(0, x0), (1, x1)]) h K =
    K .normal (act 8 [(0, x0), (1, x1)]) h := kq_reg
theorem r86_1  : kCode env 86 false inv k (cp c86 6) (act 8 [(0, x0), (1, x1)]) h K =
    bnd (inv (.func 45) #[] #[x0, x1, (.func (.func 127) #[] #[])] h) fun x7 =>
    K .normal (act 8 [(4, x7.1)]) x7.2 := kq_reg
theorem res86_0 : resOfFn env.P 86 .ret (act 8 [(4, x4)]) h = some (x4, h) := kq_res
/-- shadowbook/batch.Same -/
noncomputable def F86 (inv : Inv) (k : Nat) (x0 x1 : Value) (h : AH) : Option (Value × AH) :=
    bnd (inv (.func 45) #[] #[x0, x1, (.func (.func 127) #[] #[])] h) fun x7 =>
    some (x7.1, x7.2)
theorem F86_eq : eFun env k inv 86 #[x0, x1] h = F86 inv k x0 x1 h := by
      refine (kq_fun (a := act 8 [(0, x0), (1, x1)]) (c := cp c86 1)).trans ?_
      unfold F86
      simp only [kq_seq c86 1, r86_0, kq_seq c86 3, r86_1, kq_ret c86 7, res86_0, reduceIte, reduceCtorEq, XE.exit.injEq, Nat.reduceEqDiff, Nat.reduceMul, Nat.reduceAdd] <;> kernel_rfl
theorem F86_call : eInv env (k + 1) (.func 86) #[] #[x0, x1] h = F86 (eInv env k) k x0 x1 h := kq_inv F86_eq
noncomputable def c102 : Code := codeOf Tryz.prog 102
theorem r102_0  : kCode env 102 false inv k (cp c102 2) (act 45 [(0, x0)]) h K =
    K .normal (act 45 [(0, x0)]) h := kq_reg
noncomputable abbrev G102_1 {β : Type} (inv : Inv) (x0 : Value) (h : AH) (K : Value → AH → Option β) : Option β :=
    bnd (pLen Tryz.prog #[9] x0 h) fun x6 =>
    bnd (pBin Tryz.prog .lss 3 (.tmp 6) (.const (.int .i64 1)) x6 (.int .i64 1)) fun x7 =>
    bnd (gd (some x7) false h (some (x0, h))) fun x9 =>
    bnd (gd (some x7) false x9.2 (lt (pLen Tryz.prog #[9] x9.1 x9.2) x9.2)) fun x10 =>
    bnd (gd (some x7) false x10.2 (lt (pBin Tryz.prog .gtr 3 (.tmp 10) (.const (.int .i64 32)) x10.1 (.int .i64 32)) x10.2)) fun x11 =>
    bnd (pickV x7 (.bool true) x11.1) fun x12 =>
    K (x12) x11.2
theorem r102_1  : kCode env 102 false inv k (cp c102 24) (act 45 [(0, x0)]) h K =
    G102_1 inv x0 h fun y12 h => K .normal (act 45 [(0, x0), (12, y12)]) h := kq_reg
theorem b102_rllr  : kCode env 102 false inv k (cp c102 25) (act 45 [(0, x0), (12, x12)]) h K = brV x12 (kCode env 102 false inv k (cp c102 50) (act 45 [(0, x0), (12, x12)]) h K) (kCode env 102 false inv k (cp c102 51) (act 45 [(0, x0), (12, x12)]) h K) := kq_cond
theorem r102_2  : kCode env 102 false inv k (cp c102 100) (act 45 [(0, x0), (12, x12)]) h K =
    K .normal (act 45 [(2, (.int .i64 170))]) h := kq_reg
theorem res102_0 : resOfFn env.P 102 .ret (act 45 [(2, x2)]) h = some (x2, h) := kq_res
theorem r102_3  : kCode env 102 false inv k (cp c102 108) (act 45 [(0, x0), (12, x12)]) h K =
    bnd (pRange Tryz.prog 9 x0 h) fun x14 =>
    K .normal (act 45 [(14, x14.1)]) x14.2 := kq_reg
theorem r102_4  : kCode env 102 false inv k (cp c102 872) (act 45 [(3, x3), (4, x4), (14, x14), (19, x19), (34, x34)]) h K =
    bnd (pNext x14 true h) fun x15 =>
    bnd (pExtract x15.1 0) fun x16 =>
    K .normal (act 45 [(14, x14), (15, x15.1), (16, x16)]) x15.2 := kq_reg
theorem b102_lrllrlrrlr  : kCode env 102 false inv k (cp c102 1746) (act 45 [(14, x14), (15, x15), (16, x16)]) h K = brV x16 (kCode env 102 false inv k (cp c102 3492) (act 45 [(14, x14), (15, x15), (16, x16)]) h K) (kCode env 102 false inv k (cp c102 3493) (act 45 [(14, x14), (15, x15), (16, x16)]) h K) := kq_cond
theorem r102_5  : kCode env 102 false inv k (cp c102 6988) (act 45 [(14, x14), (15, x15), (16, x16)]) h K =
    bnd (pExtract x15 1) fun x17 =>
    bnd (pExtract x15 2) fun x18 =>
    K .normal (act 45 [(3, x17), (4, x18), (14, x14)]) h := kq_reg
noncomputable abbrev G102_6 {β : Type} (inv : Inv) (x3 x4 x14 : Value) (h : AH) (K : Value → AH → Option β) : Option β :=
    bnd (pBin Tryz.prog .geq 21 (.tmp 20) (.const (.int .i32 97)) x4 (.int .i32 97)) fun x21 =>
    bnd (gd (some x21) true h (some (x4, h))) fun x23 =>
    bnd (gd (some x21) true x23.2 (lt (pBin Tryz.prog .leq 21 (.tmp 23) (.const (.int .i32 122)) x23.1 (.int .i32 122)) x23.2)) fun x24 =>
    bnd (pickV x21 x24.1 (.bool false)) fun x25 =>
    K (x25) x24.2
theorem r102_6  : kCode env 102 false inv k (cp c102 111824) (act 45 [(3, x3), (4, x4), (14, x14)]) h K =
    G102_6 inv x3 x4 x14 h fun y19 h => K .normal (act 45 [(3, x3), (4, x4), (14, x14), (19, y19)]) h := kq_reg
theorem b102_rlllrlrrllrlrrlr  : kCode env 102 false inv k (cp c102 111825) (act 45 [(3, x3), (4, x4), (14, x14), (19, x19)]) h K = brV x19 (kCode env 102 false inv k (cp c102 223650) (act 45 [(3, x3), (4, x4), (14, x14), (19, x19)]) h K) (kCode env 102 false inv k (cp c102 223651) (act 45 [(3, x3), (4, x4), (14, x14), (19, x19)]) h K) := kq_cond
noncomputable abbrev G102_7 {β : Type} (inv : Inv) (x3 x4 x14 : Value) (h : AH) (K : Value → AH → Option β) : Option β :=
    bnd (pBin Tryz.prog .geq 21 (.tmp 26) (.const (.int .i32 65)) x4 (.int .i32 65)) fun x27 =>
    bnd (gd (some x27) true h (some (x4, h))) fun x29 =>
    bnd (gd (some x27) true x29.2 (lt (pBin Tryz.prog .leq 21 (.tmp 29) (.const (.int .i32 90)) x29.1 (.int .i32 90)) x29.2)) fun x30 =>
    bnd (pickV x27 x30.1 (.bool false)) fun x31 =>
    K (x31) x30.2
theorem r102_7  : kCode env 102 false inv k (cp c102 447302) (act 45 [(3, x3), (4, x4), (14, x14), (19, x19)]) h K =
    G102_7 inv x3 x4 x14 h fun y19 h => K .normal (act 45 [(3, x3), (4, x4), (14, x14), (19, y19)]) h := kq_reg
theorem b102_rrrlllrlrrllrlrrlr  : kCode env 102 false inv k (cp c102 447303) (act 45 [(3, x3), (4, x4), (14, x14), (19, x19)]) h K = brV x19 (kCode env 102 false inv k (cp c102 894606) (act 45 [(3, x3), (4, x4), (14, x14), (19, x19)]) h K) (kCode env 102 false inv k (cp c102 894607) (act 45 [(3, x3), (4, x4), (14, x14), (19, x19)]) h K) := kq_cond
theorem r102_8  : kCode env 102 false inv k (cp c102 894607) (act 45 [(3, x3), (4, x4), (14, x14), (19, x19)]) h K =
    bnd (pBin Tryz.prog .eql 21 (.tmp 32) (.const (.int .i32 95)) x4 (.int .i32 95)) fun x33 =>
    K .normal (act 45 [(3, x3), (4, x4), (14, x14), (19, x33)]) h := kq_reg
noncomputable def F102_rlllrlrrllrlrrlr {β : Type} (inv : Inv) (k : Nat) (x3 x4 x14 x19 : Value) (h : AH) (kn : (Value → Value → Value → Value → AH → Option β)) : Option β :=
    brV x19
    (kn x3 x4 x14 x19 h)
    (G102_7 inv x3 x4 x14 h fun y19 h =>
    brV y19
    (kn x3 x4 x14 y19 h)
    (bnd (pBin Tryz.prog .eql 21 (.tmp 32) (.const (.int .i32 95)) x4 (.int .i32 95)) fun x33 =>
    kn x3 x4 x14 x33 h))
theorem F102_rlllrlrrllrlrrlr_eq  : kCode env 102 false inv k (cp c102 111825) (act 45 [(3, x3), (4, x4), (14, x14), (19, x19)]) h K = F102_rlllrlrrllrlrrlr inv k x3 x4 x14 x19 h (fun y3 y4 y14 y19 h => K .normal (act 45 [(3, y3), (4, y4), (14, y14), (19, y19)]) h) := by
      unfold F102_rlllrlrrllrlrrlr
      simp only [b102_rlllrlrrllrlrrlr, kq_skip c102 223650, kq_seq c102 223651, r102_7, b102_rrrlllrlrrllrlrrlr, kq_skip c102 894606, r102_8, reduceIte, reduceCtorEq, XE.exit.injEq, Nat.reduceEqDiff, Nat.reduceMul, Nat.reduceAdd] <;> kernel_rfl
theorem b102_rllrlrrllrlrrlr  : kCode env 102 false inv k (cp c102 55913) (act 45 [(3, x3), (4, x4), (14, x14), (19, x19)]) h K = brV x19 (kCode env 102 false inv k (cp c102 111826) (act 45 [(3, x3), (4, x4), (14, x14), (19, x19)]) h K) (kCode env 102 false inv k (cp c102 111827) (act 45 [(3, x3), (4, x4), (14, x14), (19, x19)]) h K) := kq_cond
noncomputable abbrev G102_9 {β : Type} (inv : Inv) (x3 x4 x14 : Value) (h : AH) (K : Value → AH → Option β) : Option β :=
    bnd (pBin Tryz.prog .gtr 3 (.tmp 35) (.const (.int .i64 0)) x3 (.int .i64 0)) fun x36 =>
    bnd (gd (some x36) true h (some (x4, h))) fun x38 =>
    bnd (gd (some x36) true x38.2 (lt (pBin Tryz.prog .geq 21 (.tmp 38) (.const (.int .i32 48)) x38.1 (.int .i32 48)) x38.2)) fun x39 =>
    bnd (pickV x36 x39.1 (.bool false)) fun x40 =>
    bnd (gd (some x40) true x39.2 (some (x4, x39.2))) fun x42 =>
    bnd (gd (some x40) true x42.2 (lt (pBin Tryz.prog .leq 21 (.tmp 42) (.const (.int .i32 57)) x42.1 (.int .i32 57)) x42.2)) fun x43 =>
    bnd (pickV x40 x43.1 (.bool false)) fun x44 =>
    K (x44) x43.2
theorem r102_9  : kCode env 102 false inv k (cp c102 223654) (act 45 [(3, x3), (4, x4), (14, x14), (19, x19)]) h K =
    G102_9 inv x3 x4 x14 h fun y34 h => K .normal (act 45 [(14, x14), (34, y34)]) h := kq_reg
theorem b102_rrrllrlrrllrlrrlr  : kCode env 102 false inv k (cp c102 223655) (act 45 [(14, x14), (34, x34)]) h K = brV x34 (kCode env 102 false inv k (cp c102 447310) (act 45 [(14, x14), (34, x34)]) h K) (kCode env 102 false inv k (cp c102 447311) (act 45 [(14, x14), (34, x34)]) h K) := kq_cond
theorem r102_10  : kCode env 102 false inv k (cp c102 27958) (act 45 [(14, x14), (34, x34)]) h K =
    K .normal (act 45 [(2, (.int .i64 170))]) h := kq_reg
noncomputable def F102_lrlrrlr {β : Type} (inv : Inv) (k : Nat) : Nat → Value → Value → Value → Value → Value → AH → (Value → Value → Value → AH → Option β) → (Value → AH → Option β) → Option β
  | 0, _, _, _, _, _, _, _, _ => none
  | j + 1, x3, x4, x14, x19, x34, h, ke0, kr =>
    bnd (pNext x14 true h) fun x15 =>
    bnd (pExtract x15.1 0) fun x16 =>
    brV x16
    (bnd (pExtract x15.1 1) fun x17 =>
    bnd (pExtract x15.1 2) fun x18 =>
    G102_6 inv x17 x18 x14 x15.2 fun y19 h =>
    F102_rlllrlrrllrlrrlr inv k x17 x18 x14 y19 h
    (fun y3 y4 y14 y19_1 h_2 =>
    brV y19_1
    (F102_lrlrrlr inv k j y3 y4 y14 y19_1 unk h_2 ke0 kr)
    (G102_9 inv y3 y4 y14 h_2 fun y34 h_3 =>
    brV y34
    (F102_lrlrrlr inv k j unk unk y14 unk y34 h_3 ke0 kr)
    (kr (.int .i64 170) h_3))))
    (ke0 x14 x15.1 x16 x15.2)
theorem F102_lrlrrlr_j (j : Nat) : kLoop (kCode env 102 false inv k (cp c102 436)) j (act 45 [(3, x3), (4, x4), (14, x14), (19, x19), (34, x34)]) h K = F102_lrlrrlr inv k j x3 x4 x14 x19 x34 h (fun y14 y15 y16 h => K (.exit 0) (act 45 [(14, y14), (15, y15), (16, y16)]) h) (fun y2 h => K .ret (act 45 [(2, y2)]) h) := by
      induction j generalizing x3 x4 x14 x19 x34 h with
      | zero => rfl
      | succ j ih =>
        have ih_34 : ∀ (x3 x4 x14 x19 : Value) (h : AH), kLoop (kCode env 102 false inv k (cp c102 436)) j (act 45 [(3, x3), (4, x4), (14, x14), (19, x19)]) h K = F102_lrlrrlr inv k j x3 x4 x14 x19 unk h (fun y14 y15 y16 h => K (.exit 0) (act 45 [(14, y14), (15, y15), (16, y16)]) h) (fun y2 h => K .ret (act 45 [(2, y2)]) h) := fun x3 x4 x14 x19 h => by
          rw [show act 45 [(3, x3), (4, x4), (14, x14), (19, x19)] = act 45 [(3, x3), (4, x4), (14, x14), (19, x19), (34, unk)] from by kernel_rfl]; exact ih ..
        have ih_3_4_19 : ∀ (x14 x34 : Value) (h : AH), kLoop (kCode env 102 false inv k (cp c102 436)) j (act 45 [(14, x14), (34, x34)]) h K = F102_lrlrrlr inv k j unk unk x14 unk x34 h (fun y14 y15 y16 h => K (.exit 0) (act 45 [(14, y14), (15, y15), (16, y16)]) h) (fun y2 h => K .ret (act 45 [(2, y2)]) h) := fun x14 x34 h => by
          rw [show act 45 [(14, x14), (34, x34)] = act 45 [(3, unk), (4, unk), (14, x14), (19, unk), (34, x34)] from by kernel_rfl]; exact ih ..
        unfold F102_lrlrrlr
        simp only [kLoop, kq_seq c102 436, r102_4, kq_seq c102 873, b102_lrllrlrrlr, kq_skip c102 3492, kq_block c102 1747 1, kq_seq c102 3494, r102_5, kq_seq c102 6989, kq_block c102 13978 2, kq_seq c102 27956, kq_seq c102 55912, r102_6, F102_rlllrlrrllrlrrlr_eq, b102_rllrlrrllrlrrlr, kq_exit c102 111826 1, kq_seq c102 111827, r102_9, b102_rrrllrlrrllrlrrlr, kq_exit c102 447310 1, kq_skip c102 447311, kq_seq c102 13979, r102_10, kq_ret c102 27959, kq_exit c102 3493 0, ih, ih_34, ih_3_4_19, reduceIte, reduceCtorEq, XE.exit.injEq, Nat.reduceEqDiff, Nat.reduceMul, Nat.reduceAdd] <;> kernel_rfl
theorem F102_lrlrrlr_eq  : kCode env 102 false inv k (cp c102 218) (act 45 [(3, x3), (4, x4), (14, x14), (19, x19), (34, x34)]) h K = F102_lrlrrlr inv k k x3 x4 x14 x19 x34 h (fun y14 y15 y16 h => K (.exit 0) (act 45 [(14, y14), (15, y15), (16, y16)]) h) (fun y2 h => K .ret (act 45 [(2, y2)]) h) := kq_loop (F102_lrlrrlr_j k)
theorem F102_lrlrrlr_eq_3_4_19_34  : kCode env 102 false inv k (cp c102 218) (act 45 [(14, x14)]) h K = F102_lrlrrlr inv k k unk unk x14 unk unk h (fun y14 y15 y16 h => K (.exit 0) (act 45 [(14, y14), (15, y15), (16, y16)]) h) (fun y2 h => K .ret (act 45 [(2, y2)]) h) := by
      rw [show act 45 [(14, x14)] = act 45 [(3, unk), (4, unk), (14, x14), (19, unk), (34, unk)] from by kernel_rfl]; exact F102_lrlrrlr_eq ..
theorem r102_11  : kCode env 102 false inv k (cp c102 110) (act 45 [(14, x14), (15, x15), (16, x16)]) h K =
    K .normal (act 45 [(2, (.int .i64 0))]) h := kq_reg
/-- shadowbook/schema.Name -/
noncomputable def F102 (inv : Inv) (k : Nat) (x0 : Value) (h : AH) : Option (Value × AH) :=
    G102_1 inv x0 h fun y12 h =>
    brV y12
    (some ((.int .i64 170), h))
    (bnd (pRange Tryz.prog 9 x0 h) fun x14 =>
    F102_lrlrrlr inv k k unk unk x14.1 unk unk x14.2
    (fun y14 y15 y16 h_4 =>
    some ((.int .i64 0), h_4))
    (fun y2 h_5 =>
    some (y2, h_5)))
theorem F102_eq : eFun env k inv 102 #[x0] h = F102 inv k x0 h := by
      refine (kq_fun (a := act 45 [(0, x0)]) (c := cp c102 1)).trans ?_
      unfold F102
      simp only [kq_seq c102 1, r102_0, kq_scope c102 3, kq_seq c102 6, kq_seq c102 12, r102_1, b102_rllr, kq_seq c102 50, r102_2, kq_ret c102 101, res102_0, kq_skip c102 51, kq_seq c102 13, kq_label c102 26, kq_seq c102 27, kq_seq c102 54, r102_3, kq_block c102 109 0, F102_lrlrrlr_eq_3_4_19_34, kq_seq c102 55, r102_11, kq_ret c102 111, reduceIte, reduceCtorEq, XE.exit.injEq, Nat.reduceEqDiff, Nat.reduceMul, Nat.reduceAdd] <;> kernel_rfl
theorem F102_call : eInv env (k + 1) (.func 102) #[] #[x0] h = F102 (eInv env k) k x0 h := kq_inv F102_eq
noncomputable def c103 : Code := codeOf Tryz.prog 103
theorem r103_0  : kCode env 103 false inv k (cp c103 2) (act 43 [(0, x0)]) h K =
    K .normal (act 43 [(0, x0)]) h := kq_reg
noncomputable abbrev G103_1 {β : Type} (inv : Inv) (x0 : Value) (h : AH) (K : Value → AH → Option β) : Option β :=
    bnd (pLen Tryz.prog #[36] x0 h) fun x7 =>
    bnd (pBin Tryz.prog .lss 3 (.tmp 7) (.const (.int .i64 1)) x7 (.int .i64 1)) fun x8 =>
    bnd (gd (some x8) false h (some (x0, h))) fun x10 =>
    bnd (gd (some x8) false x10.2 (lt (pLen Tryz.prog #[36] x10.1 x10.2) x10.2)) fun x11 =>
    bnd (gd (some x8) false x11.2 (lt (pBin Tryz.prog .gtr 3 (.tmp 11) (.const (.int .i64 16)) x11.1 (.int .i64 16)) x11.2)) fun x12 =>
    bnd (pickV x8 (.bool true) x12.1) fun x13 =>
    K (x13) x12.2
theorem r103_1  : kCode env 103 false inv k (cp c103 12) (act 43 [(0, x0)]) h K =
    G103_1 inv x0 h fun y13 h => K .normal (act 43 [(0, x0), (13, y13)]) h := kq_reg
theorem b103_rlr  : kCode env 103 false inv k (cp c103 13) (act 43 [(0, x0), (13, x13)]) h K = brV x13 (kCode env 103 false inv k (cp c103 26) (act 43 [(0, x0), (13, x13)]) h K) (kCode env 103 false inv k (cp c103 27) (act 43 [(0, x0), (13, x13)]) h K) := kq_cond
theorem r103_2  : kCode env 103 false inv k (cp c103 52) (act 43 [(0, x0), (13, x13)]) h K =
    K .normal (act 43 [(2, (.int .i64 171))]) h := kq_reg
theorem res103_0 : resOfFn env.P 103 .ret (act 43 [(2, x2)]) h = some (x2, h) := kq_res
theorem r103_3  : kCode env 103 false inv k (cp c103 28) (act 43 [(0, x0), (13, x13)]) h K =
    bnd (pLen Tryz.prog #[36] x0 h) fun x15 =>
    K .normal (act 43 [(0, x0), (14, x0), (15, x15), (16, (.int .i64 0))]) h := kq_reg
theorem r103_4  : kCode env 103 false inv k (cp c103 232) (act 43 [(0, x0), (14, x14), (15, x15), (16, x16)]) h K =
    bnd (pBin Tryz.prog .lss 3 (.tmp 16) (.tmp 15) x16 x15) fun x17 =>
    K .normal (act 43 [(0, x0), (14, x14), (15, x15), (16, x16), (17, x17)]) h := kq_reg
theorem b103_lrllrlrr  : kCode env 103 false inv k (cp c103 466) (act 43 [(0, x0), (14, x14), (15, x15), (16, x16), (17, x17)]) h K = brV x17 (kCode env 103 false inv k (cp c103 932) (act 43 [(0, x0), (14, x14), (15, x15), (16, x16), (17, x17)]) h K) (kCode env 103 false inv k (cp c103 933) (act 43 [(0, x0), (14, x14), (15, x15), (16, x16), (17, x17)]) h K) := kq_cond
theorem r103_5  : kCode env 103 false inv k (cp c103 3736) (act 43 [(0, x0), (14, x14), (15, x15), (16, x16), (17, x17)]) h K =
    bnd (pIndexAddr Tryz.prog 36 x14 x16) fun x19 =>
    bnd (pLoad Tryz.prog 118 x19 h) fun x20 =>
    bnd (pAlloc Tryz.prog 118 h) fun x4 =>
    bnd (kSt (pStore Tryz.prog 118 x4.1 x20 x4.2)) fun u =>
    K .normal (act 43 [(0, x0), (3, x16), (4, x4.1), (14, x14), (15, x15), (16, x16)]) u.2 := kq_reg
theorem r103_6  : kCode env 103 false inv k (cp c103 14948) (act 43 [(0, x0), (3, x3), (4, x4), (14, x14), (15, x15), (16, x16)]) h K =
    bnd (pFieldAddr Tryz.prog 118 x4 0) fun x21 =>
    bnd (pLoad Tryz.prog 9 x21 h) fun x22 =>
    bnd (inv (.func 102) #[] #[x22] h) fun x23 =>
    K .normal (act 43 [(0, x0), (3, x3), (4, x4), (5, x23.1), (14, x14), (15, x15), (16, x16)]) x23.2 := kq_reg
theorem r103_7  : kCode env 103 false inv k (cp c103 29898) (act 43 [(0, x0), (3, x3), (4, x4), (5, x5), (14, x14), (15, x15), (16, x16)]) h K =
    bnd (pBin Tryz.prog .neq 30 (.tmp 24) (.const (.int .i64 0)) x5 (.int .i64 0)) fun x25 =>
    K .normal (act 43 [(0, x0), (3, x3), (4, x4), (5, x5), (14, x14), (15, x15), (16, x16), (25, x25)]) h := kq_reg
theorem b103_rrlrllrrllrlrr  : kCode env 103 false inv k (cp c103 29899) (act 43 [(0, x0), (3, x3), (4, x4), (5, x5), (14, x14), (15, x15), (16, x16), (25, x25)]) h K = brV x25 (kCode env 103 false inv k (cp c103 59798) (act 43 [(0, x0), (3, x3), (4, x4), (5, x5), (14, x14), (15, x15), (16, x16), (25, x25)]) h K) (kCode env 103 false inv k (cp c103 59799) (act 43 [(0, x0), (3, x3), (4, x4), (5, x5), (14, x14), (15, x15), (16, x16), (25, x25)]) h K) := kq_cond
theorem r103_8  : kCode env 103 false inv k (cp c103 119596) (act 43 [(0, x0), (3, x3), (4, x4), (5, x5), (14, x14), (15, x15), (16, x16), (25, x25)]) h K =
    K .normal (act 43 [(2, x5)]) h := kq_reg
noncomputable abbrev G103_9 {β : Type} (inv : Inv) (x0 x3 x4 x14 x15 x16 : Value) (h : AH) (K : Value → AH → Option β) : Option β :=
    bnd (pFieldAddr Tryz.prog 118 x4 1) fun x27 =>
    bnd (pLoad Tryz.prog 3 x27 h) fun x28 =>
    bnd (pBin Tryz.prog .lss 3 (.tmp 28) (.const (.int .i64 1)) x28 (.int .i64 1)) fun x29 =>
    bnd (gd (some x29) false h (lt (pFieldAddr Tryz.prog 118 x4 1) h)) fun x31 =>
    bnd (gd (some x29) false x31.2 (lt (pLoad Tryz.prog 3 x31.1 x31.2) x31.2)) fun x32 =>
    bnd (gd (some x29) false x32.2 (lt (pBin Tryz.prog .gtr 3 (.tmp 32) (.const (.int .i64 3)) x32.1 (.int .i64 3)) x32.2)) fun x33 =>
    bnd (pickV x29 (.bool true) x33.1) fun x34 =>
    bnd (gd (some x34) false x33.2 (some (x0, x33.2))) fun x36 =>
    bnd (gd (some x34) false x36.2 (some (x3, x36.2))) fun x37 =>
    bnd (gd (some x34) false x37.2 (lt (pSlice Tryz.prog 36 x36.1 none (some x37.1) none x37.2) x37.2)) fun x38 =>
    bnd (gd (some x34) false x38.2 (lt (pMakeFunc (.func 135) #[] #[x4]) x38.2)) fun x39 =>
    bnd (gd (some x34) false x39.2 (inv (.func 134) #[] #[x38.1, x39.1] x39.2)) fun x40 =>
    bnd (pickV x34 (.bool true) x40.1) fun x41 =>
    K (x41) x40.2
theorem r103_9  : kCode env 103 false inv k (cp c103 14950) (act 43 [(0, x0), (3, x3), (4, x4), (5, x5), (14, x14), (15, x15), (16, x16), (25, x25)]) h K =
    G103_9 inv x0 x3 x4 x14 x15 x16 h fun y41 h => K .normal (act 43 [(0, x0), (14, x14), (15, x15), (16, x16), (41, y41)]) h := kq_reg
theorem b103_rrrllrrllrlrr  : kCode env 103 false inv k (cp c103 14951) (act 43 [(0, x0), (14, x14), (15, x15), (16, x16), (41, x41)]) h K = brV x41 (kCode env 103 false inv k (cp c103 29902) (act 43 [(0, x0), (14, x14), (15, x15), (16, x16), (41, x41)]) h K) (kCode env 103 false inv k (cp c103 29903) (act 43 [(0, x0), (14, x14), (15, x15), (16, x16), (41, x41)]) h K) := kq_cond
theorem r103_10  : kCode env 103 false inv k (cp c103 59804) (act 43 [(0, x0), (14, x14), (15, x15), (16, x16), (41, x41)]) h K =
    K .normal (act 43 [(2, (.int .i64 171))]) h := kq_reg
theorem r103_11  : kCode env 103 false inv k (cp c103 935) (act 43 [(0, x0), (14, x14), (15, x15), (16, x16), (41, x41)]) h K =
    bnd (pBin Tryz.prog .add 3 (.tmp 16) (.const (.int .i64 1)) x16 (.int .i64 1)) fun x42 =>
    K .normal (act 43 [(0, x0), (14, x14), (15, x15), (16, x42)]) h := kq_reg
noncomputable def F103_lrlrr {β : Type} (inv : Inv) (k : Nat) : Nat → Value → Value → Value → Value → AH → (Value → Value → Value → Value → Value → AH → Option β) → (Value → AH → Option β) → Option β
  | 0, _, _, _, _, _, _, _ => none
  | j + 1, x0, x14, x15, x16, h, ke0, kr =>
    bnd (pBin Tryz.prog .lss 3 (.tmp 16) (.tmp 15) x16 x15) fun x17 =>
    brV x17
    (bnd (pIndexAddr Tryz.prog 36 x14 x16) fun x19 =>
    bnd (pLoad Tryz.prog 118 x19 h) fun x20 =>
    bnd (pAlloc Tryz.prog 118 h) fun x4 =>
    bnd (kSt (pStore Tryz.prog 118 x4.1 x20 x4.2)) fun u =>
    bnd (pFieldAddr Tryz.prog 118 x4.1 0) fun x21 =>
    bnd (pLoad Tryz.prog 9 x21 u.2) fun x22 =>
    bnd (inv (.func 102) #[] #[x22] u.2) fun x23 =>
    bnd (pBin Tryz.prog .neq 30 (.tmp 24) (.const (.int .i64 0)) x23.1 (.int .i64 0)) fun x25 =>
    brV x25
    (kr x23.1 x23.2)
    (G103_9 inv x0 x16 x4.1 x14 x15 x16 x23.2 fun y41 h =>
    brV y41
    (kr (.int .i64 171) h)
    (bnd (pBin Tryz.prog .add 3 (.tmp 16) (.const (.int .i64 1)) x16 (.int .i64 1)) fun x42 =>
    F103_lrlrr inv k j x0 x14 x15 x42 h ke0 kr)))
    (ke0 x0 x14 x15 x16 x17 h)
theorem F103_lrlrr_j (j : Nat) : kLoop (kCode env 103 false inv k (cp c103 116)) j (act 43 [(0, x0), (14, x14), (15, x15), (16, x16)]) h K = F103_lrlrr inv k j x0 x14 x15 x16 h (fun y0 y14 y15 y16 y17 h => K (.exit 0) (act 43 [(0, y0), (14, y14), (15, y15), (16, y16), (17, y17)]) h) (fun y2 h => K .ret (act 43 [(2, y2)]) h) := by
      induction j generalizing x0 x14 x15 x16 h with
      | zero => rfl
      | succ j ih =>
        unfold F103_lrlrr
        simp only [kLoop, kq_seq c103 116, r103_4, kq_seq c103 233, b103_lrllrlrr, kq_skip c103 932, kq_seq c103 467, kq_block c103 934 1, kq_seq c103 1868, r103_5, kq_seq c103 3737, kq_seq c103 7474, r103_6, kq_seq c103 14949, r103_7, b103_rrlrllrrllrlrr, kq_seq c103 59798, r103_8, kq_ret c103 119597, kq_skip c103 59799, kq_seq c103 7475, r103_9, b103_rrrllrrllrlrr, kq_seq c103 29902, r103_10, kq_ret c103 59805, kq_skip c103 29903, r103_11, kq_exit c103 933 0, ih, reduceIte, reduceCtorEq, XE.exit.injEq, Nat.reduceEqDiff, Nat.reduceMul, Nat.reduceAdd] <;> kernel_rfl
theorem F103_lrlrr_eq  : kCode env 103 false inv k (cp c103 58) (act 43 [(0, x0), (14, x14), (15, x15), (16, x16)]) h K = F103_lrlrr inv k k x0 x14 x15 x16 h (fun y0 y14 y15 y16 y17 h => K (.exit 0) (act 43 [(0, y0), (14, y14), (15, y15), (16, y16), (17, y17)]) h) (fun y2 h => K .ret (act 43 [(2, y2)]) h) := kq_loop (F103_lrlrr_j k)
theorem r103_12  : kCode env 103 false inv k (cp c103 30) (act 43 [(0, x0), (14, x14), (15, x15), (16, x16), (17, x17)]) h K =
    K .normal (act 43 [(2, (.int .i64 0))]) h := kq_reg
/-- shadowbook/schema.Check -/
noncomputable def F103 (inv : Inv) (k : Nat) (x0 : Value) (h : AH) : Option (Value × AH) :=
    G103_1 inv x0 h fun y13 h =>
    brV y13
    (some ((.int .i64 171), h))
    (bnd (pLen Tryz.prog #[36] x0 h) fun x15 =>
    F103_lrlrr inv k k x0 x0 x15 (.int .i64 0) h
    (fun y0 y14 y15 y16 y17 h_1 =>
    some ((.int .i64 0), h_1))
    (fun y2 h_2 =>
    some (y2, h_2)))
theorem F103_eq : eFun env k inv 103 #[x0] h = F103 inv k x0 h := by
      refine (kq_fun (a := act 43 [(0, x0)]) (c := cp c103 1)).trans ?_
      unfold F103
      simp only [kq_seq c103 1, r103_0, kq_seq c103 3, kq_seq c103 6, r103_1, b103_rlr, kq_seq c103 26, r103_2, kq_ret c103 53, res103_0, kq_skip c103 27, kq_seq c103 7, kq_seq c103 14, r103_3, kq_block c103 29 0, F103_lrlrr_eq, kq_seq c103 15, r103_12, kq_ret c103 31, reduceIte, reduceCtorEq, XE.exit.injEq, Nat.reduceEqDiff, Nat.reduceMul, Nat.reduceAdd] <;> kernel_rfl
theorem F103_call : eInv env (k + 1) (.func 103) #[] #[x0] h = F103 (eInv env k) k x0 h := kq_inv F103_eq
noncomputable def c104 : Code := codeOf Tryz.prog 104
theorem r104_0  : kCode env 104 false inv k (cp c104 2) (act 49 [(0, x0), (1, x1), (2, x2)]) h K =
    K .normal (act 49 [(0, x0), (1, x1), (2, x2)]) h := kq_reg
theorem r104_1  : kCode env 104 false inv k (cp c104 6) (act 49 [(0, x0), (1, x1), (2, x2)]) h K =
    bnd (pLen Tryz.prog #[55] x0 h) fun x13 =>
    K .normal (act 49 [(0, x0), (1, x1), (2, x2), (8, x13)]) h := kq_reg
theorem r104_2  : kCode env 104 false inv k (cp c104 14) (act 49 [(0, x0), (1, x1), (2, x2), (8, x8)]) h K =
    K .normal (act 49 [(0, x0), (1, x1), (2, x2), (8, x8), (9, (.int .i64 0)), (10, x8)]) h := kq_reg
theorem r104_3  : kCode env 104 false inv k (cp c104 480) (act 49 [(0, x0), (1, x1), (2, x2), (8, x8), (9, x9), (10, x10)]) h K =
    bnd (pBin Tryz.prog .lss 3 (.tmp 15) (.tmp 16) x9 x10) fun x17 =>
    K .normal (act 49 [(0, x0), (1, x1), (2, x2), (8, x8), (9, x9), (10, x10), (17, x17)]) h := kq_reg
theorem b104_rllllrrr  : kCode env 104 false inv k (cp c104 481) (act 49 [(0, x0), (1, x1), (2, x2), (8, x8), (9, x9), (10, x10), (17, x17)]) h K = brV x17 (kCode env 104 false inv k (cp c104 962) (act 49 [(0, x0), (1, x1), (2, x2), (8, x8), (9, x9), (10, x10), (17, x17)]) h K) (kCode env 104 false inv k (cp c104 963) (act 49 [(0, x0), (1, x1), (2, x2), (8, x8), (9, x9), (10, x10), (17, x17)]) h K) := kq_cond
theorem r104_4  : kCode env 104 false inv k (cp c104 964) (act 49 [(0, x0), (1, x1), (2, x2), (8, x8), (9, x9), (10, x10), (17, x17)]) h K =
    bnd (pBin Tryz.prog .add 3 (.tmp 18) (.tmp 19) x9 x10) fun x20 =>
    bnd (pConv Tryz.prog 3 160 x20 h) fun x21 =>
    bnd (pBin Tryz.prog .shr 160 (.tmp 21) (.const (.int .u64 1)) x21 (.int .u64 1)) fun x22 =>
    bnd (pConv Tryz.prog 160 3 x22 h) fun x23 =>
    K .normal (act 49 [(0, x0), (1, x1), (2, x2), (8, x8), (9, x9), (10, x10), (11, x23)]) h := kq_reg
theorem r104_5  : kCode env 104 false inv k (cp c104 1930) (act 49 [(0, x0), (1, x1), (2, x2), (8, x8), (9, x9), (10, x10), (11, x11)]) h K =
    bnd (pIndexAddr Tryz.prog 55 x0 x11) fun x27 =>
    bnd (pLoad Tryz.prog 79 x27 h) fun x28 =>
    bnd (callV inv x2 #[x28, x1] h) fun x30 =>
    bnd (pBin Tryz.prog .lss 3 (.tmp 30) (.const (.int .i64 0)) x30.1 (.int .i64 0)) fun x31 =>
    K .normal (act 49 [(0, x0), (1, x1), (2, x2), (8, x8), (9, x9), (10, x10), (11, x11), (31, x31)]) x30.2 := kq_reg
theorem b104_rrlrlllrrr  : kCode env 104 false inv k (cp c104 1931) (act 49 [(0, x0), (1, x1), (2, x2), (8, x8), (9, x9), (10, x10), (11, x11), (31, x31)]) h K = brV x31 (kCode env 104 false inv k (cp c104 3862) (act 49 [(0, x0), (1, x1), (2, x2), (8, x8), (9, x9), (10, x10), (11, x11), (31, x31)]) h K) (kCode env 104 false inv k (cp c104 3863) (act 49 [(0, x0), (1, x1), (2, x2), (8, x8), (9, x9), (10, x10), (11, x11), (31, x31)]) h K) := kq_cond
theorem r104_6  : kCode env 104 false inv k (cp c104 3862) (act 49 [(0, x0), (1, x1), (2, x2), (8, x8), (9, x9), (10, x10), (11, x11), (31, x31)]) h K =
    bnd (pBin Tryz.prog .add 3 (.tmp 32) (.const (.int .i64 1)) x11 (.int .i64 1)) fun x33 =>
    K .normal (act 49 [(0, x0), (1, x1), (2, x2), (8, x8), (9, x33), (10, x10)]) h := kq_reg
theorem r104_7  : kCode env 104 false inv k (cp c104 3863) (act 49 [(0, x0), (1, x1), (2, x2), (8, x8), (9, x9), (10, x10), (11, x11), (31, x31)]) h K =
    K .normal (act 49 [(0, x0), (1, x1), (2, x2), (8, x8), (9, x9), (10, x11)]) h := kq_reg
noncomputable def F104_llrrr {β : Type} (inv : Inv) (k : Nat) : Nat → Value → Value → Value → Value → Value → Value → AH → (Value → Value → Value → Value → Value → Value → Value → AH → Option β) → Option β
  | 0, _, _, _, _, _, _, _, _ => none
  | j + 1, x0, x1, x2, x8, x9, x10, h, ke0 =>
    bnd (pBin Tryz.prog .lss 3 (.tmp 15) (.tmp 16) x9 x10) fun x17 =>
    brV x17
    (bnd (pBin Tryz.prog .add 3 (.tmp 18) (.tmp 19) x9 x10) fun x20 =>
    bnd (pConv Tryz.prog 3 160 x20 h) fun x21 =>
    bnd (pBin Tryz.prog .shr 160 (.tmp 21) (.const (.int .u64 1)) x21 (.int .u64 1)) fun x22 =>
    bnd (pConv Tryz.prog 160 3 x22 h) fun x23 =>
    bnd (pIndexAddr Tryz.prog 55 x0 x23) fun x27 =>
    bnd (pLoad Tryz.prog 79 x27 h) fun x28 =>
    bnd (callV inv x2 #[x28, x1] h) fun x30 =>
    bnd (pBin Tryz.prog .lss 3 (.tmp 30) (.const (.int .i64 0)) x30.1 (.int .i64 0)) fun x31 =>
    brV x31
    (bnd (pBin Tryz.prog .add 3 (.tmp 32) (.const (.int .i64 1)) x23 (.int .i64 1)) fun x33 =>
    F104_llrrr inv k j x0 x1 x2 x8 x33 x10 x30.2 ke0)
    (F104_llrrr inv k j x0 x1 x2 x8 x9 x23 x30.2 ke0))
    (ke0 x0 x1 x2 x8 x9 x10 x17 h)
theorem F104_llrrr_j (j : Nat) : kLoop (kCode env 104 false inv k (cp c104 120)) j (act 49 [(0, x0), (1, x1), (2, x2), (8, x8), (9, x9), (10, x10)]) h K = F104_llrrr inv k j x0 x1 x2 x8 x9 x10 h (fun y0 y1 y2 y8 y9 y10 y17 h => K (.exit 0) (act 49 [(0, y0), (1, y1), (2, y2), (8, y8), (9, y9), (10, y10), (17, y17)]) h) := by
      induction j generalizing x0 x1 x2 x8 x9 x10 h with
      | zero => rfl
      | succ j ih =>
        unfold F104_llrrr
        simp only [kLoop, kq_seq c104 120, kq_seq c104 240, r104_3, b104_rllllrrr, kq_skip c104 962, kq_block c104 241 1, kq_seq c104 482, r104_4, kq_seq c104 965, r104_5, b104_rrlrlllrrr, r104_6, r104_7, kq_exit c104 963 0, ih, reduceIte, reduceCtorEq, XE.exit.injEq, Nat.reduceEqDiff, Nat.reduceMul, Nat.reduceAdd] <;> kernel_rfl
theorem F104_llrrr_eq  : kCode env 104 false inv k (cp c104 60) (act 49 [(0, x0), (1, x1), (2, x2), (8, x8), (9, x9), (10, x10)]) h K = F104_llrrr inv k k x0 x1 x2 x8 x9 x10 h (fun y0 y1 y2 y8 y9 y10 y17 h => K (.exit 0) (act 49 [(0, y0), (1, y1), (2, y2), (8, y8), (9, y9), (10, y10), (17, y17)]) h) := kq_loop (F104_llrrr_j k)
noncomputable abbrev G104_8 {β : Type} (inv : Inv) (x0 x1 x2 x8 x9 : Value) (h : AH) (K : Value → Value → AH → Option β) : Option β :=
    bnd (pBin Tryz.prog .lss 3 (.tmp 36) (.tmp 37) x9 x8) fun x38 =>
    bnd (gd (some x38) true h (some (x2, h))) fun x40 =>
    bnd (gd (some x38) true x40.2 (some (x0, x40.2))) fun x41 =>
    bnd (gd (some x38) true x41.2 (some (x9, x41.2))) fun x42 =>
    bnd (gd (some x38) true x42.2 (lt (pIndexAddr Tryz.prog 55 x41.1 x42.1) x42.2)) fun x43 =>
    bnd (gd (some x38) true x43.2 (lt (pLoad Tryz.prog 79 x43.1 x43.2) x43.2)) fun x44 =>
    bnd (gd (some x38) true x44.2 (some (x1, x44.2))) fun x45 =>
    bnd (gd (some x38) true x45.2 (callV inv x40.1 #[x44.1, x45.1] x45.2)) fun x46 =>
    bnd (gd (some x38) true x46.2 (lt (pBin Tryz.prog .eql 3 (.tmp 46) (.const (.int .i64 0)) x46.1 (.int .i64 0)) x46.2)) fun x47 =>
    bnd (pickV x38 x47.1 (.bool false)) fun x48 =>
    K (x9) (x48) x47.2
theorem r104_8  : kCode env 104 false inv k (cp c104 62) (act 49 [(0, x0), (1, x1), (2, x2), (8, x8), (9, x9), (10, x10), (17, x17)]) h K =
    G104_8 inv x0 x1 x2 x8 x9 h fun y6 y7 h => K .normal (act 49 [(6, y6), (7, y7)]) h := kq_reg
theorem res104_0 : resOfFn env.P 104 .ret (act 49 [(6, x6), (7, x7)]) h = some (.tuple #[x6, x7], h) := kq_res
/-- slices.BinarySearchFunc[[]shadowbook/api.Table,shadowbook/api.Table,string] -/
noncomputable def F104 (inv : Inv) (k : Nat) (x0 x1 x2 : Value) (h : AH) : Option (Value × AH) :=
    bnd (pLen Tryz.prog #[55] x0 h) fun x13 =>
    F104_llrrr inv k k x0 x1 x2 x13 (.int .i64 0) x13 h
    (fun y0 y1 y2 y8 y9 y10 y17 h =>
    G104_8 inv y0 y1 y2 y8 y9 h fun y6 y7 h_1 =>
    some (.tuple #[y6, y7], h_1))
theorem F104_eq : eFun env k inv 104 #[x0, x1, x2] h = F104 inv k x0 x1 x2 h := by
      refine (kq_fun (a := act 49 [(0, x0), (1, x1), (2, x2)]) (c := cp c104 1)).trans ?_
      unfold F104
      simp only [kq_seq c104 1, r104_0, kq_seq c104 3, r104_1, kq_seq c104 7, r104_2, kq_seq c104 15, kq_block c104 30 0, F104_llrrr_eq, kq_seq c104 31, r104_8, kq_ret c104 63, res104_0, reduceIte, reduceCtorEq, XE.exit.injEq, Nat.reduceEqDiff, Nat.reduceMul, Nat.reduceAdd] <;> kernel_rfl
theorem F104_call : eInv env (k + 1) (.func 104) #[] #[x0, x1, x2] h = F104 (eInv env k) k x0 x1 x2 h := kq_inv F104_eq
noncomputable def c105 : Code := codeOf Tryz.prog 105
theorem r105_0  : kCode env 105 false inv k (cp c105 2) (act 9 [(0, x0), (1, x1)]) h K =
    bnd (pBox Tryz.prog 79 x0 h) fun x2 =>
    K .normal (act 9 [(1, x1), (2, x2.1)]) x2.2 := kq_reg
theorem r105_1  : kCode env 105 false inv k (cp c105 6) (act 9 [(1, x1), (2, x2)]) h K =
    bnd (pFieldAddr Tryz.prog 79 x2 0) fun x5 =>
    bnd (pLoad Tryz.prog 9 x5 h) fun x6 =>
    bnd (inv (.func 124) #[] #[x6, x1] h) fun x8 =>
    K .normal (act 9 [(4, x8.1)]) x8.2 := kq_reg
theorem res105_0 : resOfFn env.P 105 .ret (act 9 [(4, x4)]) h = some (x4, h) := kq_res
/-- shadowbook/model.byTable -/
noncomputable def F105 (inv : Inv) (k : Nat) (x0 x1 : Value) (h : AH) : Option (Value × AH) :=
    bnd (pBox Tryz.prog 79 x0 h) fun x2 =>
    bnd (pFieldAddr Tryz.prog 79 x2.1 0) fun x5 =>
    bnd (pLoad Tryz.prog 9 x5 x2.2) fun x6 =>
    bnd (inv (.func 124) #[] #[x6, x1] x2.2) fun x8 =>
    some (x8.1, x8.2)
theorem F105_eq : eFun env k inv 105 #[x0, x1] h = F105 inv k x0 x1 h := by
      refine (kq_fun (a := act 9 [(0, x0), (1, x1)]) (c := cp c105 1)).trans ?_
      unfold F105
      simp only [kq_seq c105 1, r105_0, kq_seq c105 3, r105_1, kq_ret c105 7, res105_0, reduceIte, reduceCtorEq, XE.exit.injEq, Nat.reduceEqDiff, Nat.reduceMul, Nat.reduceAdd] <;> kernel_rfl
theorem F105_call : eInv env (k + 1) (.func 105) #[] #[x0, x1] h = F105 (eInv env k) k x0 x1 h := kq_inv F105_eq
noncomputable def c106 : Code := codeOf Tryz.prog 106
theorem r106_0  : kCode env 106 false inv k (cp c106 2) (act 18 [(0, x0), (1, x1), (2, x2), (3, x3)]) h K =
    K .normal (act 18 [(0, x0), (1, x1), (2, x2), (3, x3)]) h := kq_reg
theorem r106_1  : kCode env 106 false inv k (cp c106 6) (act 18 [(0, x0), (1, x1), (2, x2), (3, x3)]) h K =
    bnd (pSlice Tryz.prog 55 x0 none (some x1) none h) fun x11 =>
    bnd (pSlice Tryz.prog 55 x0 (some x2) none none h) fun x15 =>
    bnd (pBuildSlice Tryz.prog 180 3 #[(0, x11), (1, x3), (2, x15)] h) fun x16 =>
    bnd (inv (.func 136) #[] #[x16.1] x16.2) fun x17 =>
    K .normal (act 18 [(8, x17.1)]) x17.2 := kq_draw
theorem res106_0 : resOfFn env.P 106 .ret (act 18 [(8, x8)]) h = some (x8, h) := kq_res
/-- shadowbook/model.put[shadowbook/api.Table] -/
noncomputable def F106 (inv : Inv) (k : Nat) (x0 x1 x2 x3 : Value) (h : AH) : Option (Value × AH) :=
    bnd (pSlice Tryz.prog 55 x0 none (some x1) none h) fun x11 =>
    bnd (pSlice Tryz.prog 55 x0 (some x2) none none h) fun x15 =>
    bnd (pBuildSlice Tryz.prog 180 3 #[(0, x11), (1, x3), (2, x15)] h) fun x16 =>
    bnd (inv (.func 136) #[] #[x16.1] x16.2) fun x17 =>
    some (x17.1, x17.2)
theorem F106_eq : eFun env k inv 106 #[x0, x1, x2, x3] h = F106 inv k x0 x1 x2 x3 h := by
      refine (kq_fun (a := act 18 [(0, x0), (1, x1), (2, x2), (3, x3)]) (c := cp c106 1)).trans ?_
      unfold F106
      simp only [kq_seq c106 1, r106_0, kq_seq c106 3, r106_1, kq_ret c106 7, res106_0, reduceIte, reduceCtorEq, XE.exit.injEq, Nat.reduceEqDiff, Nat.reduceMul, Nat.reduceAdd] <;> kernel_rfl
theorem F106_call : eInv env (k + 1) (.func 106) #[] #[x0, x1, x2, x3] h = F106 (eInv env k) k x0 x1 x2 x3 h := kq_inv F106_eq
noncomputable def c107 : Code := codeOf Tryz.prog 107
theorem r107_0  : kCode env 107 false inv k (cp c107 2) (act 8 [(0, x0)]) h K =
    K .normal (act 8 [(0, x0)]) h := kq_reg
theorem r107_1  : kCode env 107 false inv k (cp c107 12) (act 8 [(0, x0)]) h K =
    bnd (pBin Tryz.prog .eql 36 (.tmp 3) (.const (.slice none 0 0)) x0 (.slice none 0 0)) fun x4 =>
    K .normal (act 8 [(0, x0), (4, x4)]) h := kq_reg
theorem b107_rlr  : kCode env 107 false inv k (cp c107 13) (act 8 [(0, x0), (4, x4)]) h K = brV x4 (kCode env 107 false inv k (cp c107 26) (act 8 [(0, x0), (4, x4)]) h K) (kCode env 107 false inv k (cp c107 27) (act 8 [(0, x0), (4, x4)]) h K) := kq_cond
theorem r107_2  : kCode env 107 false inv k (cp c107 52) (act 8 [(0, x0), (4, x4)]) h K =
    K .normal (act 8 [(2, (.slice none 0 0))]) h := kq_reg
theorem res107_0 : resOfFn env.P 107 .ret (act 8 [(2, x2)]) h = some (x2, h) := kq_res
theorem r107_3  : kCode env 107 false inv k (cp c107 14) (act 8 [(0, x0), (4, x4)]) h K =
    bnd (pBuildSlice Tryz.prog 36 0 #[] h) fun x5 =>
    bnd (pAppend Tryz.prog #[36, 36] x5.1 x0 x5.2) fun x7 =>
    K .normal (act 8 [(2, x7.1)]) x7.2 := kq_reg
/-- slices.Clone[[]shadowbook/api.Col,shadowbook/api.Col] -/
noncomputable def F107 (inv : Inv) (k : Nat) (x0 : Value) (h : AH) : Option (Value × AH) :=
    bnd (pBin Tryz.prog .eql 36 (.tmp 3) (.const (.slice none 0 0)) x0 (.slice none 0 0)) fun x4 =>
    brV x4
    (some ((.slice none 0 0), h))
    (bnd (pBuildSlice Tryz.prog 36 0 #[] h) fun x5 =>
    bnd (pAppend Tryz.prog #[36, 36] x5.1 x0 x5.2) fun x7 =>
    some (x7.1, x7.2))
theorem F107_eq : eFun env k inv 107 #[x0] h = F107 inv k x0 h := by
      refine (kq_fun (a := act 8 [(0, x0)]) (c := cp c107 1)).trans ?_
      unfold F107
      simp only [kq_seq c107 1, r107_0, kq_seq c107 3, kq_seq c107 6, r107_1, b107_rlr, kq_seq c107 26, r107_2, kq_ret c107 53, res107_0, kq_skip c107 27, kq_seq c107 7, r107_3, kq_ret c107 15, reduceIte, reduceCtorEq, XE.exit.injEq, Nat.reduceEqDiff, Nat.reduceMul, Nat.reduceAdd] <;> kernel_rfl
theorem F107_call : eInv env (k + 1) (.func 107) #[] #[x0] h = F107 (eInv env k) k x0 h := kq_inv F107_eq
noncomputable def c108 : Code := codeOf Tryz.prog 108
theorem r108_0  : kCode env 108 false inv k (cp c108 2) (act 44 [(0, x0), (1, x1), (2, x2)]) h K =
    K .normal (act 44 [(0, x0), (1, x1), (2, x2), (7, (.int .i64 0))]) h := kq_reg
theorem r108_1  : kCode env 108 false inv k (cp c108 12) (act 44 [(0, x0), (1, x1), (2, x2), (7, x7)]) h K =
    bnd (inv (.func 137) #[] #[x0, x2] h) fun x16 =>
    K .normal (act 44 [(1, x1), (2, x2), (7, x7), (9, x16.1)]) x16.2 := kq_reg
theorem r108_2  : kCode env 108 false inv k (cp c108 26) (act 44 [(1, x1), (2, x2), (7, x7), (9, x9)]) h K =
    bnd (pBin Tryz.prog .neq 30 (.tmp 17) (.const (.int .i64 0)) x9 (.int .i64 0)) fun x18 =>
    K .normal (act 44 [(1, x1), (2, x2), (7, x7), (9, x9), (18, x18)]) h := kq_reg
theorem b108_rrlr  : kCode env 108 false inv k (cp c108 27) (act 44 [(1, x1), (2, x2), (7, x7), (9, x9), (18, x18)]) h K = brV x18 (kCode env 108 false inv k (cp c108 54) (act 44 [(1, x1), (2, x2), (7, x7), (9, x9), (18, x18)]) h K) (kCode env 108 false inv k (cp c108 55) (act 44 [(1, x1), (2, x2), (7, x7), (9, x9), (18, x18)]) h K) := kq_cond
theorem r108_3  : kCode env 108 false inv k (cp c108 108) (act 44 [(1, x1), (2, x2), (7, x7), (9, x9), (18, x18)]) h K =
    K .normal (act 44 [(6, (.slice none 0 0)), (7, (.int .i64 0)), (8, x9)]) h := kq_reg
theorem res108_0 : resOfFn env.P 108 .ret (act 44 [(6, x6), (7, x7), (8, x8)]) h = some (.tuple #[x6, x7, x8], h) := kq_res
theorem r108_4  : kCode env 108 false inv k (cp c108 14) (act 44 [(1, x1), (2, x2), (7, x7), (9, x9), (18, x18)]) h K =
    bnd (inv (.func 126) #[] #[x1] h) fun x21 =>
    K .normal (act 44 [(2, x2), (6, x21.1), (7, x7)]) x21.2 := kq_reg
theorem r108_5  : kCode env 108 false inv k (cp c108 60) (act 44 [(2, x2), (6, x6), (7, x7)]) h K =
    bnd (pLen Tryz.prog #[37] x2 h) fun x23 =>
    K .normal (act 44 [(6, x6), (7, x7), (22, x2), (23, x23), (24, (.int .i64 0))]) h := kq_reg
theorem r108_6  : kCode env 108 false inv k (cp c108 488) (act 44 [(6, x6), (7, x7), (22, x22), (23, x23), (24, x24)]) h K =
    bnd (pBin Tryz.prog .lss 3 (.tmp 24) (.tmp 23) x24 x23) fun x25 =>
    K .normal (act 44 [(6, x6), (7, x7), (22, x22), (23, x23), (24, x24), (25, x25)]) h := kq_reg
theorem b108_lrllrlrrr  : kCode env 108 false inv k (cp c108 978) (act 44 [(6, x6), (7, x7), (22, x22), (23, x23), (24, x24), (25, x25)]) h K = brV x25 (kCode env 108 false inv k (cp c108 1956) (act 44 [(6, x6), (7, x7), (22, x22), (23, x23), (24, x24), (25, x25)]) h K) (kCode env 108 false inv k (cp c108 1957) (act 44 [(6, x6), (7, x7), (22, x22), (23, x23), (24, x24), (25, x25)]) h K) := kq_cond
theorem r108_7  : kCode env 108 false inv k (cp c108 7832) (act 44 [(6, x6), (7, x7), (22, x22), (23, x23), (24, x24), (25, x25)]) h K =
    bnd (pIndexAddr Tryz.prog 37 x22 x24) fun x26 =>
    bnd (pLoad Tryz.prog 134 x26 h) fun x27 =>
    bnd (pAlloc Tryz.prog 134 h) fun x11 =>
    bnd (kSt (pStore Tryz.prog 134 x11.1 x27 x11.2)) fun u =>
    K .normal (act 44 [(6, x6), (7, x7), (11, x11.1), (22, x22), (23, x23), (24, x24)]) u.2 := kq_reg
theorem r108_8  : kCode env 108 false inv k (cp c108 15666) (act 44 [(6, x6), (7, x7), (11, x11), (22, x22), (23, x23), (24, x24)]) h K =
    bnd (pLoad Tryz.prog 134 x11 h) fun x30 =>
    bnd (inv (.func 138) #[] #[x6, x30] h) fun x31 =>
    bnd (pExtract x31.1 0) fun x32 =>
    bnd (pExtract x31.1 1) fun x33 =>
    K .normal (act 44 [(7, x7), (12, x32), (13, x33), (22, x22), (23, x23), (24, x24)]) x31.2 := kq_reg
theorem r108_9  : kCode env 108 false inv k (cp c108 62668) (act 44 [(7, x7), (12, x12), (13, x13), (22, x22), (23, x23), (24, x24)]) h K =
    bnd (pLen Tryz.prog #[31] x12 h) fun x35 =>
    bnd (pBin Tryz.prog .gtr 3 (.tmp 35) (.const (.int .i64 4096)) x35 (.int .i64 4096)) fun x36 =>
    K .normal (act 44 [(7, x7), (12, x12), (13, x13), (22, x22), (23, x23), (24, x24), (36, x36)]) h := kq_reg
theorem b108_rlrrllrrllrlrrr  : kCode env 108 false inv k (cp c108 62669) (act 44 [(7, x7), (12, x12), (13, x13), (22, x22), (23, x23), (24, x24), (36, x36)]) h K = brV x36 (kCode env 108 false inv k (cp c108 125338) (act 44 [(7, x7), (12, x12), (13, x13), (22, x22), (23, x23), (24, x24), (36, x36)]) h K) (kCode env 108 false inv k (cp c108 125339) (act 44 [(7, x7), (12, x12), (13, x13), (22, x22), (23, x23), (24, x24), (36, x36)]) h K) := kq_cond
theorem r108_10  : kCode env 108 false inv k (cp c108 250676) (act 44 [(7, x7), (12, x12), (13, x13), (22, x22), (23, x23), (24, x24), (36, x36)]) h K =
    K .normal (act 44 [(6, (.slice none 0 0)), (7, (.int .i64 0)), (8, (.int .i64 191))]) h := kq_reg
theorem r108_11  : kCode env 108 false inv k (cp c108 31335) (act 44 [(7, x7), (12, x12), (13, x13), (22, x22), (23, x23), (24, x24), (36, x36)]) h K =
    bnd (pBin Tryz.prog .add 3 (.tmp 38) (.tmp 39) x7 x13) fun x40 =>
    K .normal (act 44 [(6, x12), (7, x40), (22, x22), (23, x23), (24, x24)]) h := kq_reg
theorem r108_12  : kCode env 108 false inv k (cp c108 1959) (act 44 [(6, x6), (7, x7), (22, x22), (23, x23), (24, x24)]) h K =
    bnd (pBin Tryz.prog .add 3 (.tmp 24) (.const (.int .i64 1)) x24 (.int .i64 1)) fun x41 =>
    K .normal (act 44 [(6, x6), (7, x7), (22, x22), (23, x23), (24, x41)]) h := kq_reg
noncomputable def F108_lrlrrr {β : Type} (inv : Inv) (k : Nat) : Nat → Value → Value → Value → Value → Value → AH → (Value → Value → Value → Value → Value → Value → AH → Option β) → (Value → Value → Value → AH → Option β) → Option β
  | 0, _, _, _, _, _, _, _, _ => none
  | j + 1, x6, x7, x22, x23, x24, h, ke0, kr =>
    bnd (pBin Tryz.prog .lss 3 (.tmp 24) (.tmp 23) x24 x23) fun x25 =>
    brV x25
    (bnd (pIndexAddr Tryz.prog 37 x22 x24) fun x26 =>
    bnd (pLoad Tryz.prog 134 x26 h) fun x27 =>
    bnd (pAlloc Tryz.prog 134 h) fun x11 =>
    bnd (kSt (pStore Tryz.prog 134 x11.1 x27 x11.2)) fun u =>
    bnd (pLoad Tryz.prog 134 x11.1 u.2) fun x30 =>
    bnd (inv (.func 138) #[] #[x6, x30] u.2) fun x31 =>
    bnd (pExtract x31.1 0) fun x32 =>
    bnd (pExtract x31.1 1) fun x33 =>
    bnd (pLen Tryz.prog #[31] x32 x31.2) fun x35 =>
    bnd (pBin Tryz.prog .gtr 3 (.tmp 35) (.const (.int .i64 4096)) x35 (.int .i64 4096)) fun x36 =>
    brV x36
    (kr (.slice none 0 0) (.int .i64 0) (.int .i64 191) x31.2)
    (bnd (pBin Tryz.prog .add 3 (.tmp 38) (.tmp 39) x7 x33) fun x40 =>
    bnd (pBin Tryz.prog .add 3 (.tmp 24) (.const (.int .i64 1)) x24 (.int .i64 1)) fun x41 =>
    F108_lrlrrr inv k j x32 x40 x22 x23 x41 x31.2 ke0 kr))
    (ke0 x6 x7 x22 x23 x24 x25 h)
theorem F108_lrlrrr_j (j : Nat) : kLoop (kCode env 108 false inv k (cp c108 244)) j (act 44 [(6, x6), (7, x7), (22, x22), (23, x23), (24, x24)]) h K = F108_lrlrrr inv k j x6 x7 x22 x23 x24 h (fun y6 y7 y22 y23 y24 y25 h => K (.exit 0) (act 44 [(6, y6), (7, y7), (22, y22), (23, y23), (24, y24), (25, y25)]) h) (fun y6 y7 y8 h => K .ret (act 44 [(6, y6), (7, y7), (8, y8)]) h) := by
      induction j generalizing x6 x7 x22 x23 x24 h with
      | zero => rfl
      | succ j ih =>
        unfold F108_lrlrrr
        simp only [kLoop, kq_seq c108 244, r108_6, kq_seq c108 489, b108_lrllrlrrr, kq_skip c108 1956, kq_seq c108 979, kq_block c108 1958 1, kq_seq c108 3916, r108_7, kq_seq c108 7833, r108_8, kq_seq c108 15667, kq_seq c108 31334, r108_9, b108_rlrrllrrllrlrrr, kq_seq c108 125338, r108_10, kq_ret c108 250677, kq_skip c108 125339, r108_11, r108_12, kq_exit c108 1957 0, ih, reduceIte, reduceCtorEq, XE.exit.injEq, Nat.reduceEqDiff, Nat.reduceMul, Nat.reduceAdd] <;> kernel_rfl
theorem F108_lrlrrr_eq  : kCode env 108 false inv k (cp c108 122) (act 44 [(6, x6), (7, x7), (22, x22), (23, x23), (24, x24)]) h K = F108_lrlrrr inv k k x6 x7 x22 x23 x24 h (fun y6 y7 y22 y23 y24 y25 h => K (.exit 0) (act 44 [(6, y6), (7, y7), (22, y22), (23, y23), (24, y24), (25, y25)]) h) (fun y6 y7 y8 h => K .ret (act 44 [(6, y6), (7, y7), (8, y8)]) h) := kq_loop (F108_lrlrrr_j k)
theorem r108_13  : kCode env 108 false inv k (cp c108 62) (act 44 [(6, x6), (7, x7), (22, x22), (23, x23), (24, x24), (25, x25)]) h K =
    K .normal (act 44 [(6, x6), (7, x7), (8, (.int .i64 0))]) h := kq_reg
/-- shadowbook/batch.Do -/
noncomputable def F108 (inv : Inv) (k : Nat) (x0 x1 x2 : Value) (h : AH) : Option (Value × AH) :=
    bnd (inv (.func 137) #[] #[x0, x2] h) fun x16 =>
    bnd (pBin Tryz.prog .neq 30 (.tmp 17) (.const (.int .i64 0)) x16.1 (.int .i64 0)) fun x18 =>
    brV x18
    (some (.tuple #[(.slice none 0 0), (.int .i64 0), x16.1], x16.2))
    (bnd (inv (.func 126) #[] #[x1] x16.2) fun x21 =>
    bnd (pLen Tryz.prog #[37] x2 x21.2) fun x23 =>
    F108_lrlrrr inv k k x21.1 (.int .i64 0) x2 x23 (.int .i64 0) x21.2
    (fun y6 y7 y22 y23 y24 y25 h =>
    some (.tuple #[y6, y7, (.int .i64 0)], h))
    (fun y6_1 y7_2 y8 h_3 =>
    some (.tuple #[y6_1, y7_2, y8], h_3)))
theorem F108_eq : eFun env k inv 108 #[x0, x1, x2] h = F108 inv k x0 x1 x2 h := by
      refine (kq_fun (a := act 44 [(0, x0), (1, x1), (2, x2)]) (c := cp c108 1)).trans ?_
      unfold F108
      simp only [kq_seq c108 1, r108_0, kq_seq c108 3, kq_seq c108 6, r108_1, kq_seq c108 13, r108_2, b108_rrlr, kq_seq c108 54, r108_3, kq_ret c108 109, res108_0, kq_skip c108 55, kq_seq c108 7, r108_4, kq_seq c108 15, kq_seq c108 30, r108_5, kq_block c108 61 0, F108_lrlrrr_eq, kq_seq c108 31, r108_13, kq_ret c108 63, reduceIte, reduceCtorEq, XE.exit.injEq, Nat.reduceEqDiff, Nat.reduceMul, Nat.reduceAdd] <;> kernel_rfl
theorem F108_call : eInv env (k + 1) (.func 108) #[] #[x0, x1, x2] h = F108 (eInv env k) k x0 x1 x2 h := kq_inv F108_eq
noncomputable def c109 : Code := codeOf Tryz.prog 109
theorem r109_0  : kCode env 109 false inv k (cp c109 2) (act 35 [(0, x0), (1, x1)]) h K =
    bnd (pBox Tryz.prog 40 x1 h) fun x3 =>
    bnd (pAlloc Tryz.prog 79 x3.2) fun x4 =>
    K .normal (act 35 [(0, x0), (3, x3.1), (4, x4.1)]) x4.2 := kq_reg
theorem r109_1  : kCode env 109 false inv k (cp c109 6) (act 35 [(0, x0), (3, x3), (4, x4)]) h K =
    bnd (pFieldAddr Tryz.prog 40 x3 2) fun x12 =>
    bnd (pLoad Tryz.prog 9 x12 h) fun x13 =>
    bnd (inv (.func 119) #[] #[x0, x13] h) fun x14 =>
    bnd (pExtract x14.1 0) fun x15 =>
    bnd (pExtract x14.1 1) fun x16 =>
    K .normal (act 35 [(3, x3), (4, x4), (6, x15), (7, x16)]) x14.2 := kq_reg
theorem r109_2  : kCode env 109 false inv k (cp c109 28) (act 35 [(3, x3), (4, x4), (6, x6), (7, x7)]) h K =
    bnd (pBin Tryz.prog .neq 30 (.tmp 17) (.const (.int .i64 0)) x7 (.int .i64 0)) fun x18 =>
    K .normal (act 35 [(3, x3), (4, x4), (6, x6), (7, x7), (18, x18)]) h := kq_reg
theorem b109_rlrr  : kCode env 109 false inv k (cp c109 29) (act 35 [(3, x3), (4, x4), (6, x6), (7, x7), (18, x18)]) h K = brV x18 (kCode env 109 false inv k (cp c109 58) (act 35 [(3, x3), (4, x4), (6, x6), (7, x7), (18, x18)]) h K) (kCode env 109 false inv k (cp c109 59) (act 35 [(3, x3), (4, x4), (6, x6), (7, x7), (18, x18)]) h K) := kq_cond
theorem r109_3  : kCode env 109 false inv k (cp c109 116) (act 35 [(3, x3), (4, x4), (6, x6), (7, x7), (18, x18)]) h K =
    bnd (pBuild Tryz.prog 79 #[]) fun x19 =>
    bnd (kSt (pStore Tryz.prog 79 x4 x19 h)) fun u =>
    K .normal (act 35 [(4, x4), (5, x7)]) u.2 := kq_reg
theorem res109_0 : resOfFn env.P 109 .ret (act 35 [(4, x4), (5, x5)]) h = bnd (pLoad Tryz.prog 79 x4 h) fun q0 =>
    some (.tuple #[q0, x5], h) := kq_res
theorem r109_4  : kCode env 109 false inv k (cp c109 30) (act 35 [(3, x3), (4, x4), (6, x6), (7, x7), (18, x18)]) h K =
    bnd (pFieldAddr Tryz.prog 40 x3 1) fun x23 =>
    bnd (pLoad Tryz.prog 9 x23 h) fun x24 =>
    bnd (inv (.func 104) #[] #[x6, x24, (.func (.func 105) #[] #[])] h) fun x25 =>
    bnd (pExtract x25.1 0) fun x26 =>
    bnd (pExtract x25.1 1) fun x27 =>
    K .normal (act 35 [(4, x4), (6, x6), (8, x26), (9, x27)]) x25.2 := kq_reg
theorem r109_5  : kCode env 109 false inv k (cp c109 124) (act 35 [(4, x4), (6, x6), (8, x8), (9, x9)]) h K =
    bnd (pUn Tryz.prog .not x9) fun x29 =>
    K .normal (act 35 [(4, x4), (6, x6), (8, x8), (29, x29)]) h := kq_reg
theorem b109_rlrrrr  : kCode env 109 false inv k (cp c109 125) (act 35 [(4, x4), (6, x6), (8, x8), (29, x29)]) h K = brV x29 (kCode env 109 false inv k (cp c109 250) (act 35 [(4, x4), (6, x6), (8, x8), (29, x29)]) h K) (kCode env 109 false inv k (cp c109 251) (act 35 [(4, x4), (6, x6), (8, x8), (29, x29)]) h K) := kq_cond
theorem r109_6  : kCode env 109 false inv k (cp c109 500) (act 35 [(4, x4), (6, x6), (8, x8), (29, x29)]) h K =
    bnd (pBuild Tryz.prog 79 #[]) fun x30 =>
    bnd (kSt (pStore Tryz.prog 79 x4 x30 h)) fun u =>
    K .normal (act 35 [(4, x4), (5, (.int .i64 210))]) u.2 := kq_reg
theorem r109_7  : kCode env 109 false inv k (cp c109 126) (act 35 [(4, x4), (6, x6), (8, x8), (29, x29)]) h K =
    bnd (pIndexAddr Tryz.prog 55 x6 x8) fun x33 =>
    bnd (pLoad Tryz.prog 79 x33 h) fun x34 =>
    bnd (kSt (pStore Tryz.prog 79 x4 x34 h)) fun u =>
    K .normal (act 35 [(4, x4), (5, (.int .i64 0))]) u.2 := kq_reg
/-- (*shadowbook/model.Model).find -/
noncomputable def F109 (inv : Inv) (k : Nat) (x0 x1 : Value) (h : AH) : Option (Value × AH) :=
    bnd (pBox Tryz.prog 40 x1 h) fun x3 =>
    bnd (pAlloc Tryz.prog 79 x3.2) fun x4 =>
    bnd (pFieldAddr Tryz.prog 40 x3.1 2) fun x12 =>
    bnd (pLoad Tryz.prog 9 x12 x4.2) fun x13 =>
    bnd (inv (.func 119) #[] #[x0, x13] x4.2) fun x14 =>
    bnd (pExtract x14.1 0) fun x15 =>
    bnd (pExtract x14.1 1) fun x16 =>
    bnd (pBin Tryz.prog .neq 30 (.tmp 17) (.const (.int .i64 0)) x16 (.int .i64 0)) fun x18 =>
    brV x18
    (bnd (pBuild Tryz.prog 79 #[]) fun x19 =>
    bnd (kSt (pStore Tryz.prog 79 x4.1 x19 x14.2)) fun u =>
    bnd (pLoad Tryz.prog 79 x4.1 u.2) fun q0 =>
    some (.tuple #[q0, x16], u.2))
    (bnd (pFieldAddr Tryz.prog 40 x3.1 1) fun x23 =>
    bnd (pLoad Tryz.prog 9 x23 x14.2) fun x24 =>
    bnd (inv (.func 104) #[] #[x15, x24, (.func (.func 105) #[] #[])] x14.2) fun x25 =>
    bnd (pExtract x25.1 0) fun x26 =>
    bnd (pExtract x25.1 1) fun x27 =>
    bnd (pUn Tryz.prog .not x27) fun x29 =>
    brV x29
    (bnd (pBuild Tryz.prog 79 #[]) fun x30 =>
    bnd (kSt (pStore Tryz.prog 79 x4.1 x30 x25.2)) fun u_1 =>
    bnd (pLoad Tryz.prog 79 x4.1 u_1.2) fun q0 =>
    some (.tuple #[q0, (.int .i64 210)], u_1.2))
    (bnd (pIndexAddr Tryz.prog 55 x15 x26) fun x33 =>
    bnd (pLoad Tryz.prog 79 x33 x25.2) fun x34 =>
    bnd (kSt (pStore Tryz.prog 79 x4.1 x34 x25.2)) fun u_2 =>
    bnd (pLoad Tryz.prog 79 x4.1 u_2.2) fun q0 =>
    some (.tuple #[q0, (.int .i64 0)], u_2.2)))
theorem F109_eq : eFun env k inv 109 #[x0, x1] h = F109 inv k x0 x1 h := by
      refine (kq_fun (a := act 35 [(0, x0), (1, x1)]) (c := cp c109 1)).trans ?_
      unfold F109
      simp only [kq_seq c109 1, r109_0, kq_seq c109 3, r109_1, kq_seq c109 7, kq_seq c109 14, r109_2, b109_rlrr, kq_seq c109 58, r109_3, kq_ret c109 117, res109_0, kq_skip c109 59, kq_seq c109 15, r109_4, kq_seq c109 31, kq_seq c109 62, r109_5, b109_rlrrrr, kq_seq c109 250, r109_6, kq_ret c109 501, kq_skip c109 251, kq_seq c109 63, r109_7, kq_ret c109 127, reduceIte, reduceCtorEq, XE.exit.injEq, Nat.reduceEqDiff, Nat.reduceMul, Nat.reduceAdd] <;> kernel_rfl
theorem F109_call : eInv env (k + 1) (.func 109) #[] #[x0, x1] h = F109 (eInv env k) k x0 x1 h := kq_inv F109_eq
noncomputable def c110 : Code := codeOf Tryz.prog 110
theorem r110_0  : kCode env 110 false inv k (cp c110 2) (act 32 [(0, x0), (1, x1)]) h K =
    K .normal (act 32 [(0, x0), (1, x1)]) h := kq_reg
theorem r110_1  : kCode env 110 false inv k (cp c110 6) (act 32 [(0, x0), (1, x1)]) h K =
    K .normal (act 32 [(0, x0), (1, x1), (6, (.slice none 0 0))]) h := kq_reg
theorem r110_2  : kCode env 110 false inv k (cp c110 28) (act 32 [(0, x0), (1, x1), (6, x6)]) h K =
    bnd (pLen Tryz.prog #[24] x1 h) fun x10 =>
    K .normal (act 32 [(0, x0), (6, x6), (9, x1), (10, x10), (11, (.int .i64 0))]) h := kq_reg
theorem r110_3  : kCode env 110 false inv k (cp c110 232) (act 32 [(0, x0), (6, x6), (9, x9), (10, x10), (11, x11)]) h K =
    bnd (pBin Tryz.prog .lss 3 (.tmp 11) (.tmp 10) x11 x10) fun x12 =>
    K .normal (act 32 [(0, x0), (6, x6), (9, x9), (10, x10), (11, x11), (12, x12)]) h := kq_reg
theorem b110_lrllrlrr  : kCode env 110 false inv k (cp c110 466) (act 32 [(0, x0), (6, x6), (9, x9), (10, x10), (11, x11), (12, x12)]) h K = brV x12 (kCode env 110 false inv k (cp c110 932) (act 32 [(0, x0), (6, x6), (9, x9), (10, x10), (11, x11), (12, x12)]) h K) (kCode env 110 false inv k (cp c110 933) (act 32 [(0, x0), (6, x6), (9, x9), (10, x10), (11, x11), (12, x12)]) h K) := kq_cond
theorem r110_4  : kCode env 110 false inv k (cp c110 3736) (act 32 [(0, x0), (6, x6), (9, x9), (10, x10), (11, x11), (12, x12)]) h K =
    bnd (pIndexAddr Tryz.prog 24 x9 x11) fun x13 =>
    bnd (pLoad Tryz.prog 3 x13 h) fun x14 =>
    K .normal (act 32 [(0, x0), (6, x6), (8, x14), (9, x9), (10, x10), (11, x11)]) h := kq_reg
noncomputable abbrev G110_5 {β : Type} (inv : Inv) (x0 x6 x8 x9 x10 x11 : Value) (h : AH) (K : Value → AH → Option β) : Option β :=
    bnd (pBin Tryz.prog .lss 3 (.tmp 15) (.const (.int .i64 0)) x8 (.int .i64 0)) fun x16 =>
    bnd (gd (some x16) false h (some (x8, h))) fun x18 =>
    bnd (gd (some x16) false x18.2 (some (x0, x18.2))) fun x19 =>
    bnd (gd (some x16) false x19.2 (lt (pLen Tryz.prog #[36] x19.1 x19.2) x19.2)) fun x20 =>
    bnd (gd (some x16) false x20.2 (lt (pBin Tryz.prog .geq 3 (.tmp 18) (.tmp 20) x18.1 x20.1) x20.2)) fun x21 =>
    bnd (pickV x16 (.bool true) x21.1) fun x22 =>
    K (x22) x21.2
theorem r110_5  : kCode env 110 false inv k (cp c110 14948) (act 32 [(0, x0), (6, x6), (8, x8), (9, x9), (10, x10), (11, x11)]) h K =
    G110_5 inv x0 x6 x8 x9 x10 x11 h fun y22 h => K .normal (act 32 [(0, x0), (6, x6), (8, x8), (9, x9), (10, x10), (11, x11), (22, y22)]) h := kq_reg
theorem b110_rlrllrrllrlrr  : kCode env 110 false inv k (cp c110 14949) (act 32 [(0, x0), (6, x6), (8, x8), (9, x9), (10, x10), (11, x11), (22, x22)]) h K = brV x22 (kCode env 110 false inv k (cp c110 29898) (act 32 [(0, x0), (6, x6), (8, x8), (9, x9), (10, x10), (11, x11), (22, x22)]) h K) (kCode env 110 false inv k (cp c110 29899) (act 32 [(0, x0), (6, x6), (8, x8), (9, x9), (10, x10), (11, x11), (22, x22)]) h K) := kq_cond
theorem r110_6  : kCode env 110 false inv k (cp c110 59796) (act 32 [(0, x0), (6, x6), (8, x8), (9, x9), (10, x10), (11, x11), (22, x22)]) h K =
    K .normal (act 32 [(4, (.slice none 0 0)), (5, (.int .i64 172))]) h := kq_reg
theorem r110_7  : kCode env 110 false inv k (cp c110 7475) (act 32 [(0, x0), (6, x6), (8, x8), (9, x9), (10, x10), (11, x11), (22, x22)]) h K =
    bnd (pIndexAddr Tryz.prog 36 x0 x8) fun x26 =>
    bnd (pLoad Tryz.prog 118 x26 h) fun x27 =>
    bnd (pBuildSlice Tryz.prog 36 1 #[(0, x27)] h) fun x28 =>
    bnd (pAppend Tryz.prog #[36, 36] x6 x28.1 x28.2) fun x29 =>
    K .normal (act 32 [(0, x0), (6, x29.1), (9, x9), (10, x10), (11, x11)]) x29.2 := kq_reg
theorem r110_8  : kCode env 110 false inv k (cp c110 935) (act 32 [(0, x0), (6, x6), (9, x9), (10, x10), (11, x11)]) h K =
    bnd (pBin Tryz.prog .add 3 (.tmp 11) (.const (.int .i64 1)) x11 (.int .i64 1)) fun x30 =>
    K .normal (act 32 [(0, x0), (6, x6), (9, x9), (10, x10), (11, x30)]) h := kq_reg
noncomputable def F110_lrlrr {β : Type} (inv : Inv) (k : Nat) : Nat → Value → Value → Value → Value → Value → AH → (Value → Value → Value → Value → Value → Value → AH → Option β) → (Value → Value → AH → Option β) → Option β
  | 0, _, _, _, _, _, _, _, _ => none
  | j + 1, x0, x6, x9, x10, x11, h, ke0, kr =>
    bnd (pBin Tryz.prog .lss 3 (.tmp 11) (.tmp 10) x11 x10) fun x12 =>
    brV x12
    (bnd (pIndexAddr Tryz.prog 24 x9 x11) fun x13 =>
    bnd (pLoad Tryz.prog 3 x13 h) fun x14 =>
    G110_5 inv x0 x6 x14 x9 x10 x11 h fun y22 h =>
    brV y22
    (kr (.slice none 0 0) (.int .i64 172) h)
    (bnd (pIndexAddr Tryz.prog 36 x0 x14) fun x26 =>
    bnd (pLoad Tryz.prog 118 x26 h) fun x27 =>
    bnd (pBuildSlice Tryz.prog 36 1 #[(0, x27)] h) fun x28 =>
    bnd (pAppend Tryz.prog #[36, 36] x6 x28.1 x28.2) fun x29 =>
    bnd (pBin Tryz.prog .add 3 (.tmp 11) (.const (.int .i64 1)) x11 (.int .i64 1)) fun x30 =>
    F110_lrlrr inv k j x0 x29.1 x9 x10 x30 x29.2 ke0 kr))
    (ke0 x0 x6 x9 x10 x11 x12 h)
theorem F110_lrlrr_j (j : Nat) : kLoop (kCode env 110 false inv k (cp c110 116)) j (act 32 [(0, x0), (6, x6), (9, x9), (10, x10), (11, x11)]) h K = F110_lrlrr inv k j x0 x6 x9 x10 x11 h (fun y0 y6 y9 y10 y11 y12 h => K (.exit 0) (act 32 [(0, y0), (6, y6), (9, y9), (10, y10), (11, y11), (12, y12)]) h) (fun y4 y5 h => K .ret (act 32 [(4, y4), (5, y5)]) h) := by
      induction j generalizing x0 x6 x9 x10 x11 h with
      | zero => rfl
      | succ j ih =>
        unfold F110_lrlrr
        simp only [kLoop, kq_seq c110 116, r110_3, kq_seq c110 233, b110_lrllrlrr, kq_skip c110 932, kq_seq c110 467, kq_block c110 934 1, kq_seq c110 1868, r110_4, kq_seq c110 3737, kq_seq c110 7474, r110_5, b110_rlrllrrllrlrr, kq_seq c110 29898, r110_6, kq_ret c110 59797, kq_skip c110 29899, r110_7, r110_8, kq_exit c110 933 0, ih, reduceIte, reduceCtorEq, XE.exit.injEq, Nat.reduceEqDiff, Nat.reduceMul, Nat.reduceAdd] <;> kernel_rfl
theorem F110_lrlrr_eq  : kCode env 110 false inv k (cp c110 58) (act 32 [(0, x0), (6, x6), (9, x9), (10, x10), (11, x11)]) h K = F110_lrlrr inv k k x0 x6 x9 x10 x11 h (fun y0 y6 y9 y10 y11 y12 h => K (.exit 0) (act 32 [(0, y0), (6, y6), (9, y9), (10, y10), (11, y11), (12, y12)]) h) (fun y4 y5 h => K .ret (act 32 [(4, y4), (5, y5)]) h) := kq_loop (F110_lrlrr_j k)
theorem r110_9  : kCode env 110 false inv k (cp c110 30) (act 32 [(0, x0), (6, x6), (9, x9), (10, x10), (11, x11), (12, x12)]) h K =
    K .normal (act 32 [(4, x6), (5, (.int .i64 0))]) h := kq_reg
theorem res110_0 : resOfFn env.P 110 .ret (act 32 [(4, x4), (5, x5)]) h = some (.tuple #[x4, x5], h) := kq_res
/-- shadowbook/schema.Take -/
noncomputable def F110 (inv : Inv) (k : Nat) (x0 x1 : Value) (h : AH) : Option (Value × AH) :=
    bnd (pLen Tryz.prog #[24] x1 h) fun x10 =>
    F110_lrlrr inv k k x0 (.slice none 0 0) x1 x10 (.int .i64 0) h
    (fun y0 y6 y9 y10 y11 y12 h =>
    some (.tuple #[y6, (.int .i64 0)], h))
    (fun y4 y5 h_1 =>
    some (.tuple #[y4, y5], h_1))
theorem F110_eq : eFun env k inv 110 #[x0, x1] h = F110 inv k x0 x1 h := by
      refine (kq_fun (a := act 32 [(0, x0), (1, x1)]) (c := cp c110 1)).trans ?_
      unfold F110
      simp only [kq_seq c110 1, r110_0, kq_seq c110 3, r110_1, kq_seq c110 7, kq_seq c110 14, r110_2, kq_block c110 29 0, F110_lrlrr_eq, kq_seq c110 15, r110_9, kq_ret c110 31, res110_0, reduceIte, reduceCtorEq, XE.exit.injEq, Nat.reduceEqDiff, Nat.reduceMul, Nat.reduceAdd] <;> kernel_rfl
theorem F110_call : eInv env (k + 1) (.func 110) #[] #[x0, x1] h = F110 (eInv env k) k x0 x1 h := kq_inv F110_eq
noncomputable def c111 : Code := codeOf Tryz.prog 111
theorem r111_0  : kCode env 111 false inv k (cp c111 2) (act 66 [(0, x0), (1, x1)]) h K =
    K .normal (act 66 [(0, x0), (1, x1)]) h := kq_reg
theorem r111_1  : kCode env 111 false inv k (cp c111 12) (act 66 [(0, x0), (1, x1)]) h K =
    bnd (inv (.func 103) #[] #[x0] h) fun x12 =>
    K .normal (act 66 [(0, x0), (1, x1), (5, x12.1)]) x12.2 := kq_reg
theorem r111_2  : kCode env 111 false inv k (cp c111 26) (act 66 [(0, x0), (1, x1), (5, x5)]) h K =
    bnd (pBin Tryz.prog .neq 30 (.tmp 13) (.const (.int .i64 0)) x5 (.int .i64 0)) fun x14 =>
    K .normal (act 66 [(0, x0), (1, x1), (5, x5), (14, x14)]) h := kq_reg
theorem b111_rrlr  : kCode env 111 false inv k (cp c111 27) (act 66 [(0, x0), (1, x1), (5, x5), (14, x14)]) h K = brV x14 (kCode env 111 false inv k (cp c111 54) (act 66 [(0, x0), (1, x1), (5, x5), (14, x14)]) h K) (kCode env 111 false inv k (cp c111 55) (act 66 [(0, x0), (1, x1), (5, x5), (14, x14)]) h K) := kq_cond
theorem r111_3  : kCode env 111 false inv k (cp c111 108) (act 66 [(0, x0), (1, x1), (5, x5), (14, x14)]) h K =
    K .normal (act 66 [(4, x5)]) h := kq_reg
theorem res111_0 : resOfFn env.P 111 .ret (act 66 [(4, x4)]) h = some (x4, h) := kq_res
theorem r111_4  : kCode env 111 false inv k (cp c111 28) (act 66 [(0, x0), (1, x1), (5, x5), (14, x14)]) h K =
    bnd (pLen Tryz.prog #[23] x1 h) fun x17 =>
    bnd (pBin Tryz.prog .gtr 3 (.tmp 17) (.const (.int .i64 64)) x17 (.int .i64 64)) fun x18 =>
    K .normal (act 66 [(0, x0), (1, x1), (18, x18)]) h := kq_reg
theorem b111_rlrr  : kCode env 111 false inv k (cp c111 29) (act 66 [(0, x0), (1, x1), (18, x18)]) h K = brV x18 (kCode env 111 false inv k (cp c111 58) (act 66 [(0, x0), (1, x1), (18, x18)]) h K) (kCode env 111 false inv k (cp c111 59) (act 66 [(0, x0), (1, x1), (18, x18)]) h K) := kq_cond
theorem r111_5  : kCode env 111 false inv k (cp c111 116) (act 66 [(0, x0), (1, x1), (18, x18)]) h K =
    K .normal (act 66 [(4, (.int .i64 180))]) h := kq_reg
theorem r111_6  : kCode env 111 false inv k (cp c111 30) (act 66 [(0, x0), (1, x1), (18, x18)]) h K =
    bnd (pLen Tryz.prog #[23] x1 h) fun x20 =>
    bnd (pMakeSlice Tryz.prog 24 x20 x20 h) fun x21 =>
    K .normal (act 66 [(0, x0), (1, x1), (6, x21.1)]) x21.2 := kq_reg
theorem r111_7  : kCode env 111 false inv k (cp c111 124) (act 66 [(0, x0), (1, x1), (6, x6)]) h K =
    bnd (pLen Tryz.prog #[23] x1 h) fun x23 =>
    K .normal (act 66 [(0, x0), (1, x1), (6, x6), (22, x1), (23, x23), (24, (.int .i64 0))]) h := kq_reg
theorem r111_8  : kCode env 111 false inv k (cp c111 1000) (act 66 [(0, x0), (1, x1), (6, x6), (22, x22), (23, x23), (24, x24)]) h K =
    bnd (pBin Tryz.prog .lss 3 (.tmp 24) (.tmp 23) x24 x23) fun x25 =>
    K .normal (act 66 [(0, x0), (1, x1), (6, x6), (22, x22), (23, x23), (24, x24), (25, x25)]) h := kq_reg
theorem b111_lrllrlrrrr  : kCode env 111 false inv k (cp c111 2002) (act 66 [(0, x0), (1, x1), (6, x6), (22, x22), (23, x23), (24, x24), (25, x25)]) h K = brV x25 (kCode env 111 false inv k (cp c111 4004) (act 66 [(0, x0), (1, x1), (6, x6), (22, x22), (23, x23), (24, x24), (25, x25)]) h K) (kCode env 111 false inv k (cp c111 4005) (act 66 [(0, x0), (1, x1), (6, x6), (22, x22), (23, x23), (24, x24), (25, x25)]) h K) := kq_cond
theorem r111_9  : kCode env 111 false inv k (cp c111 16024) (act 66 [(0, x0), (1, x1), (6, x6), (22, x22), (23, x23), (24, x24), (25, x25)]) h K =
    bnd (pIndexAddr Tryz.prog 23 x22 x24) fun x27 =>
    bnd (pLoad Tryz.prog 70 x27 h) fun x28 =>
    bnd (pAlloc Tryz.prog 70 h) fun x8 =>
    bnd (kSt (pStore Tryz.prog 70 x8.1 x28 x8.2)) fun u =>
    K .normal (act 66 [(0, x0), (1, x1), (6, x6), (7, x24), (8, x8.1), (22, x22), (23, x23), (24, x24)]) u.2 := kq_reg
theorem r111_10  : kCode env 111 false inv k (cp c111 64100) (act 66 [(0, x0), (1, x1), (6, x6), (7, x7), (8, x8), (22, x22), (23, x23), (24, x24)]) h K =
    bnd (pLoad Tryz.prog 70 x8 h) fun x30 =>
    bnd (inv (.func 139) #[] #[x0, x30] h) fun x31 =>
    bnd (pUn Tryz.prog .not x31.1) fun x32 =>
    K .normal (act 66 [(0, x0), (1, x1), (6, x6), (7, x7), (8, x8), (22, x22), (23, x23), (24, x24), (32, x32)]) x31.2 := kq_reg
theorem b111_rlrllrrllrlrrrr  : kCode env 111 false inv k (cp c111 64101) (act 66 [(0, x0), (1, x1), (6, x6), (7, x7), (8, x8), (22, x22), (23, x23), (24, x24), (32, x32)]) h K = brV x32 (kCode env 111 false inv k (cp c111 128202) (act 66 [(0, x0), (1, x1), (6, x6), (7, x7), (8, x8), (22, x22), (23, x23), (24, x24), (32, x32)]) h K) (kCode env 111 false inv k (cp c111 128203) (act 66 [(0, x0), (1, x1), (6, x6), (7, x7), (8, x8), (22, x22), (23, x23), (24, x24), (32, x32)]) h K) := kq_cond
theorem r111_11  : kCode env 111 false inv k (cp c111 256404) (act 66 [(0, x0), (1, x1), (6, x6), (7, x7), (8, x8), (22, x22), (23, x23), (24, x24), (32, x32)]) h K =
    K .normal (act 66 [(4, (.int .i64 180))]) h := kq_reg
theorem r111_12  : kCode env 111 false inv k (cp c111 64102) (act 66 [(0, x0), (1, x1), (6, x6), (7, x7), (8, x8), (22, x22), (23, x23), (24, x24), (32, x32)]) h K =
    bnd (pFieldAddr Tryz.prog 70 x8 3) fun x33 =>
    bnd (pLoad Tryz.prog 24 x33 h) fun x34 =>
    bnd (pLen Tryz.prog #[24] x34 h) fun x35 =>
    K .normal (act 66 [(0, x0), (1, x1), (6, x6), (7, x7), (22, x22), (23, x23), (24, x24), (34, x34), (35, x35), (36, (.int .i64 0))]) h := kq_reg
theorem r111_13  : kCode env 111 false inv k (cp c111 512824) (act 66 [(0, x0), (1, x1), (6, x6), (7, x7), (22, x22), (23, x23), (24, x24), (34, x34), (35, x35), (36, x36)]) h K =
    bnd (pBin Tryz.prog .lss 3 (.tmp 36) (.tmp 35) x36 x35) fun x37 =>
    K .normal (act 66 [(0, x0), (1, x1), (6, x6), (7, x7), (22, x22), (23, x23), (24, x24), (34, x34), (35, x35), (36, x36), (37, x37)]) h := kq_reg
theorem b111_lrllrrrllrrllrlrrrr  : kCode env 111 false inv k (cp c111 1025650) (act 66 [(0, x0), (1, x1), (6, x6), (7, x7), (22, x22), (23, x23), (24, x24), (34, x34), (35, x35), (36, x36), (37, x37)]) h K = brV x37 (kCode env 111 false inv k (cp c111 2051300) (act 66 [(0, x0), (1, x1), (6, x6), (7, x7), (22, x22), (23, x23), (24, x24), (34, x34), (35, x35), (36, x36), (37, x37)]) h K) (kCode env 111 false inv k (cp c111 2051301) (act 66 [(0, x0), (1, x1), (6, x6), (7, x7), (22, x22), (23, x23), (24, x24), (34, x34), (35, x35), (36, x36), (37, x37)]) h K) := kq_cond
theorem r111_14  : kCode env 111 false inv k (cp c111 8205208) (act 66 [(0, x0), (1, x1), (6, x6), (7, x7), (22, x22), (23, x23), (24, x24), (34, x34), (35, x35), (36, x36), (37, x37)]) h K =
    bnd (pIndexAddr Tryz.prog 24 x34 x36) fun x38 =>
    bnd (pLoad Tryz.prog 3 x38 h) fun x39 =>
    K .normal (act 66 [(0, x0), (1, x1), (6, x6), (7, x7), (10, x39), (22, x22), (23, x23), (24, x24), (34, x34), (35, x35), (36, x36)]) h := kq_reg
noncomputable abbrev G111_15 {β : Type} (inv : Inv) (x0 x1 x6 x7 x10 x22 x23 x24 x34 x35 x36 : Value) (h : AH) (K : Value → AH → Option β) : Option β :=
    bnd (pBin Tryz.prog .lss 3 (.tmp 40) (.const (.int .i64 0)) x10 (.int .i64 0)) fun x41 =>
    bnd (gd (some x41) false h (some (x10, h))) fun x43 =>
    bnd (gd (some x41) false x43.2 (some (x7, x43.2))) fun x44 =>
    bnd (gd (some x41) false x44.2 (lt (pBin Tryz.prog .geq 3 (.tmp 43) (.tmp 44) x43.1 x44.1) x44.2)) fun x45 =>
    bnd (pickV x41 (.bool true) x45.1) fun x46 =>
    K (x46) x45.2
theorem r111_15  : kCode env 111 false inv k (cp c111 32820836) (act 66 [(0, x0), (1, x1), (6, x6), (7, x7), (10, x10), (22, x22), (23, x23), (24, x24), (34, x34), (35, x35), (36, x36)]) h K =
    G111_15 inv x0 x1 x6 x7 x10 x22 x23 x24 x34 x35 x36 h fun y46 h => K .normal (act 66 [(0, x0), (1, x1), (6, x6), (7, x7), (10, x10), (22, x22), (23, x23), (24, x24), (34, x34), (35, x35), (36, x36), (46, y46)]) h := kq_reg
theorem b111_rlrllrrllrrrllrrllrlrrrr  : kCode env 111 false inv k (cp c111 32820837) (act 66 [(0, x0), (1, x1), (6, x6), (7, x7), (10, x10), (22, x22), (23, x23), (24, x24), (34, x34), (35, x35), (36, x36), (46, x46)]) h K = brV x46 (kCode env 111 false inv k (cp c111 65641674) (act 66 [(0, x0), (1, x1), (6, x6), (7, x7), (10, x10), (22, x22), (23, x23), (24, x24), (34, x34), (35, x35), (36, x36), (46, x46)]) h K) (kCode env 111 false inv k (cp c111 65641675) (act 66 [(0, x0), (1, x1), (6, x6), (7, x7), (10, x10), (22, x22), (23, x23), (24, x24), (34, x34), (35, x35), (36, x36), (46, x46)]) h K) := kq_cond
theorem r111_16  : kCode env 111 false inv k (cp c111 131283348) (act 66 [(0, x0), (1, x1), (6, x6), (7, x7), (10, x10), (22, x22), (23, x23), (24, x24), (34, x34), (35, x35), (36, x36), (46, x46)]) h K =
    K .normal (act 66 [(4, (.int .i64 180))]) h := kq_reg
theorem r111_17  : kCode env 111 false inv k (cp c111 16410419) (act 66 [(0, x0), (1, x1), (6, x6), (7, x7), (10, x10), (22, x22), (23, x23), (24, x24), (34, x34), (35, x35), (36, x36), (46, x46)]) h K =
    bnd (pIndexAddr Tryz.prog 24 x6 x10) fun x49 =>
    bnd (pLoad Tryz.prog 3 x49 h) fun x50 =>
    bnd (pBin Tryz.prog .add 3 (.tmp 50) (.const (.int .i64 1)) x50 (.int .i64 1)) fun x51 =>
    bnd (pIndexAddr Tryz.prog 24 x6 x10) fun x52 =>
    bnd (kSt (pStore Tryz.prog 3 x52 x51 h)) fun u =>
    K .normal (act 66 [(0, x0), (1, x1), (6, x6), (7, x7), (22, x22), (23, x23), (24, x24), (34, x34), (35, x35), (36, x36)]) u.2 := kq_reg
theorem r111_18  : kCode env 111 false inv k (cp c111 2051303) (act 66 [(0, x0), (1, x1), (6, x6), (7, x7), (22, x22), (23, x23), (24, x24), (34, x34), (35, x35), (36, x36)]) h K =
    bnd (pBin Tryz.prog .add 3 (.tmp 36) (.const (.int .i64 1)) x36 (.int .i64 1)) fun x53 =>
    K .normal (act 66 [(0, x0), (1, x1), (6, x6), (7, x7), (22, x22), (23, x23), (24, x24), (34, x34), (35, x35), (36, x53)]) h := kq_reg
noncomputable def F111_lrrrllrrllrlrrrr {β : Type} (inv : Inv) (k : Nat) : Nat → Value → Value → Value → Value → Value → Value → Value → Value → Value → Value → AH → (Value → Value → Value → Value → Value → Value → Value → Value → Value → Value → Value → AH → Option β) → (Value → AH → Option β) → Option β
  | 0, _, _, _, _, _, _, _, _, _, _, _, _, _ => none
  | j + 1, x0, x1, x6, x7, x22, x23, x24, x34, x35, x36, h, ke2, kr =>
    bnd (pBin Tryz.prog .lss 3 (.tmp 36) (.tmp 35) x36 x35) fun x37 =>
    brV x37
    (bnd (pIndexAddr Tryz.prog 24 x34 x36) fun x38 =>
    bnd (pLoad Tryz.prog 3 x38 h) fun x39 =>
    G111_15 inv x0 x1 x6 x7 x39 x22 x23 x24 x34 x35 x36 h fun y46 h =>
    brV y46
    (kr (.int .i64 180) h)
    (bnd (pIndexAddr Tryz.prog 24 x6 x39) fun x49 =>
    bnd (pLoad Tryz.prog 3 x49 h) fun x50 =>
    bnd (pBin Tryz.prog .add 3 (.tmp 50) (.const (.int .i64 1)) x50 (.int .i64 1)) fun x51 =>
    bnd (pIndexAddr Tryz.prog 24 x6 x39) fun x52 =>
    bnd (kSt (pStore Tryz.prog 3 x52 x51 h)) fun u =>
    bnd (pBin Tryz.prog .add 3 (.tmp 36) (.const (.int .i64 1)) x36 (.int .i64 1)) fun x53 =>
    F111_lrrrllrrllrlrrrr inv k j x0 x1 x6 x7 x22 x23 x24 x34 x35 x53 u.2 ke2 kr))
    (ke2 x0 x1 x6 x7 x22 x23 x24 x34 x35 x36 x37 h)
theorem F111_lrrrllrrllrlrrrr_j (j : Nat) : kLoop (kCode env 111 false inv k (cp c111 256412)) j (act 66 [(0, x0), (1, x1), (6, x6), (7, x7), (22, x22), (23, x23), (24, x24), (34, x34), (35, x35), (36, x36)]) h K = F111_lrrrllrrllrlrrrr inv k j x0 x1 x6 x7 x22 x23 x24 x34 x35 x36 h (fun y0 y1 y6 y7 y22 y23 y24 y34 y35 y36 y37 h => K (.exit 2) (act 66 [(0, y0), (1, y1), (6, y6), (7, y7), (22, y22), (23, y23), (24, y24), (34, y34), (35, y35), (36, y36), (37, y37)]) h) (fun y4 h => K .ret (act 66 [(4, y4)]) h) := by
      induction j generalizing x0 x1 x6 x7 x22 x23 x24 x34 x35 x36 h with
      | zero => rfl
      | succ j ih =>
        unfold F111_lrrrllrrllrlrrrr
        simp only [kLoop, kq_seq c111 256412, r111_13, kq_seq c111 512825, b111_lrllrrrllrrllrlrrrr, kq_skip c111 2051300, kq_seq c111 1025651, kq_block c111 2051302 3, kq_seq c111 4102604, r111_14, kq_seq c111 8205209, kq_seq c111 16410418, r111_15, b111_rlrllrrllrrrllrrllrlrrrr, kq_seq c111 65641674, r111_16, kq_ret c111 131283349, kq_skip c111 65641675, r111_17, r111_18, kq_exit c111 2051301 2, ih, reduceIte, reduceCtorEq, XE.exit.injEq, Nat.reduceEqDiff, Nat.reduceMul, Nat.reduceAdd] <;> kernel_rfl
theorem F111_lrrrllrrllrlrrrr_eq  : kCode env 111 false inv k (cp c111 128206) (act 66 [(0, x0), (1, x1), (6, x6), (7, x7), (22, x22), (23, x23), (24, x24), (34, x34), (35, x35), (36, x36)]) h K = F111_lrrrllrrllrlrrrr inv k k x0 x1 x6 x7 x22 x23 x24 x34 x35 x36 h (fun y0 y1 y6 y7 y22 y23 y24 y34 y35 y36 y37 h => K (.exit 2) (act 66 [(0, y0), (1, y1), (6, y6), (7, y7), (22, y22), (23, y23), (24, y24), (34, y34), (35, y35), (36, y36), (37, y37)]) h) (fun y4 h => K .ret (act 66 [(4, y4)]) h) := kq_loop (F111_lrrrllrrllrlrrrr_j k)
theorem r111_19  : kCode env 111 false inv k (cp c111 4007) (act 66 [(0, x0), (1, x1), (6, x6), (7, x7), (22, x22), (23, x23), (24, x24), (34, x34), (35, x35), (36, x36), (37, x37)]) h K =
    bnd (pBin Tryz.prog .add 3 (.tmp 24) (.const (.int .i64 1)) x24 (.int .i64 1)) fun x54 =>
    K .normal (act 66 [(0, x0), (1, x1), (6, x6), (22, x22), (23, x23), (24, x54)]) h := kq_reg
noncomputable def F111_lrlrrrr {β : Type} (inv : Inv) (k : Nat) : Nat → Value → Value → Value → Value → Value → Value → AH → (Value → Value → Value → Value → Value → Value → Value → AH → Option β) → (Value → AH → Option β) → Option β
  | 0, _, _, _, _, _, _, _, _, _ => none
  | j + 1, x0, x1, x6, x22, x23, x24, h, ke0, kr =>
    bnd (pBin Tryz.prog .lss 3 (.tmp 24) (.tmp 23) x24 x23) fun x25 =>
    brV x25
    (bnd (pIndexAddr Tryz.prog 23 x22 x24) fun x27 =>
    bnd (pLoad Tryz.prog 70 x27 h) fun x28 =>
    bnd (pAlloc Tryz.prog 70 h) fun x8 =>
    bnd (kSt (pStore Tryz.prog 70 x8.1 x28 x8.2)) fun u =>
    bnd (pLoad Tryz.prog 70 x8.1 u.2) fun x30 =>
    bnd (inv (.func 139) #[] #[x0, x30] u.2) fun x31 =>
    bnd (pUn Tryz.prog .not x31.1) fun x32 =>
    brV x32
    (kr (.int .i64 180) x31.2)
    (bnd (pFieldAddr Tryz.prog 70 x8.1 3) fun x33 =>
    bnd (pLoad Tryz.prog 24 x33 x31.2) fun x34 =>
    bnd (pLen Tryz.prog #[24] x34 x31.2) fun x35 =>
    F111_lrrrllrrllrlrrrr inv k k x0 x1 x6 x24 x22 x23 x24 x34 x35 (.int .i64 0) x31.2
    (fun y0 y1 y6 y7 y22 y23 y24 y34 y35 y36 y37 h =>
    bnd (pBin Tryz.prog .add 3 (.tmp 24) (.const (.int .i64 1)) y24 (.int .i64 1)) fun x54 =>
    F111_lrlrrrr inv k j y0 y1 y6 y22 y23 x54 h ke0 kr)
    (fun y4 h_1 =>
    kr y4 h_1)))
    (ke0 x0 x1 x6 x22 x23 x24 x25 h)
theorem F111_lrlrrrr_j (j : Nat) : kLoop (kCode env 111 false inv k (cp c111 500)) j (act 66 [(0, x0), (1, x1), (6, x6), (22, x22), (23, x23), (24, x24)]) h K = F111_lrlrrrr inv k j x0 x1 x6 x22 x23 x24 h (fun y0 y1 y6 y22 y23 y24 y25 h => K (.exit 0) (act 66 [(0, y0), (1, y1), (6, y6), (22, y22), (23, y23), (24, y24), (25, y25)]) h) (fun y4 h => K .ret (act 66 [(4, y4)]) h) := by
      induction j generalizing x0 x1 x6 x22 x23 x24 h with
      | zero => rfl
      | succ j ih =>
        unfold F111_lrlrrrr
        simp only [kLoop, kq_seq c111 500, r111_8, kq_seq c111 1001, b111_lrllrlrrrr, kq_skip c111 4004, kq_seq c111 2003, kq_block c111 4006 1, kq_seq c111 8012, r111_9, kq_seq c111 16025, kq_seq c111 32050, r111_10, b111_rlrllrrllrlrrrr, kq_seq c111 128202, r111_11, kq_ret c111 256405, kq_skip c111 128203, kq_seq c111 32051, r111_12, kq_block c111 64103 2, F111_lrrrllrrllrlrrrr_eq, r111_19, kq_exit c111 4005 0, ih, reduceIte, reduceCtorEq, XE.exit.injEq, Nat.reduceEqDiff, Nat.reduceMul, Nat.reduceAdd] <;> kernel_rfl
theorem F111_lrlrrrr_eq  : kCode env 111 false inv k (cp c111 250) (act 66 [(0, x0), (1, x1), (6, x6), (22, x22), (23, x23), (24, x24)]) h K = F111_lrlrrrr inv k k x0 x1 x6 x22 x23 x24 h (fun y0 y1 y6 y22 y23 y24 y25 h => K (.exit 0) (act 66 [(0, y0), (1, y1), (6, y6), (22, y22), (23, y23), (24, y24), (25, y25)]) h) (fun y4 h => K .ret (act 66 [(4, y4)]) h) := kq_loop (F111_lrlrrrr_j k)
noncomputable abbrev G111_20 {β : Type} (inv : Inv) (x1 x6 : Value) (h : AH) (K : Value → AH → Option β) : Option β :=
    bnd (pLen Tryz.prog #[23] x1 h) fun x56 =>
    bnd (pBin Tryz.prog .gtr 3 (.tmp 56) (.const (.int .i64 0)) x56 (.int .i64 0)) fun x57 =>
    bnd (gd (some x57) true h (some (x6, h))) fun x59 =>
    bnd (gd (some x57) true x59.2 (some (x1, x59.2))) fun x60 =>
    bnd (gd (some x57) true x60.2 (lt (pLen Tryz.prog #[23] x60.1 x60.2) x60.2)) fun x61 =>
    bnd (gd (some x57) true x61.2 (lt (pBin Tryz.prog .sub 3 (.tmp 61) (.const (.int .i64 1)) x61.1 (.int .i64 1)) x61.2)) fun x62 =>
    bnd (gd (some x57) true x62.2 (lt (pSlice Tryz.prog 24 x59.1 none (some x62.1) none x62.2) x62.2)) fun x63 =>
    bnd (gd (some x57) true x63.2 (inv (.func 140) #[] #[x63.1, (.func (.func 141) #[] #[])] x63.2)) fun x64 =>
    bnd (pickV x57 x64.1 (.bool false)) fun x65 =>
    K (x65) x64.2
theorem r111_20  : kCode env 111 false inv k (cp c111 252) (act 66 [(0, x0), (1, x1), (6, x6), (22, x22), (23, x23), (24, x24), (25, x25)]) h K =
    G111_20 inv x1 x6 h fun y65 h => K .normal (act 66 [(65, y65)]) h := kq_reg
theorem b111_rlrrrrr  : kCode env 111 false inv k (cp c111 253) (act 66 [(65, x65)]) h K = brV x65 (kCode env 111 false inv k (cp c111 506) (act 66 [(65, x65)]) h K) (kCode env 111 false inv k (cp c111 507) (act 66 [(65, x65)]) h K) := kq_cond
theorem r111_21  : kCode env 111 false inv k (cp c111 1012) (act 66 [(65, x65)]) h K =
    K .normal (act 66 [(4, (.int .i64 180))]) h := kq_reg
theorem r111_22  : kCode env 111 false inv k (cp c111 254) (act 66 [(65, x65)]) h K =
    K .normal (act 66 [(4, (.int .i64 0))]) h := kq_reg
/-- shadowbook/pred.Check -/
noncomputable def F111 (inv : Inv) (k : Nat) (x0 x1 : Value) (h : AH) : Option (Value × AH) :=
    bnd (inv (.func 103) #[] #[x0] h) fun x12 =>
    bnd (pBin Tryz.prog .neq 30 (.tmp 13) (.const (.int .i64 0)) x12.1 (.int .i64 0)) fun x14 =>
    brV x14
    (some (x12.1, x12.2))
    (bnd (pLen Tryz.prog #[23] x1 x12.2) fun x17 =>
    bnd (pBin Tryz.prog .gtr 3 (.tmp 17) (.const (.int .i64 64)) x17 (.int .i64 64)) fun x18 =>
    brV x18
    (some ((.int .i64 180), x12.2))
    (bnd (pLen Tryz.prog #[23] x1 x12.2) fun x20 =>
    bnd (pMakeSlice Tryz.prog 24 x20 x20 x12.2) fun x21 =>
    bnd (pLen Tryz.prog #[23] x1 x21.2) fun x23 =>
    F111_lrlrrrr inv k k x0 x1 x21.1 x1 x23 (.int .i64 0) x21.2
    (fun y0 y1 y6 y22 y23 y24 y25 h =>
    G111_20 inv y1 y6 h fun y65 h_2 =>
    brV y65
    (some ((.int .i64 180), h_2))
    (some ((.int .i64 0), h_2)))
    (fun y4 h_3 =>
    some (y4, h_3))))
theorem F111_eq : eFun env k inv 111 #[x0, x1] h = F111 inv k x0 x1 h := by
      refine (kq_fun (a := act 66 [(0, x0), (1, x1)]) (c := cp c111 1)).trans ?_
      unfold F111
      simp only [kq_seq c111 1, r111_0, kq_seq c111 3, kq_seq c111 6, r111_1, kq_seq c111 13, r111_2, b111_rrlr, kq_seq c111 54, r111_3, kq_ret c111 109, res111_0, kq_skip c111 55, kq_seq c111 7, kq_seq c111 14, r111_4, b111_rlrr, kq_seq c111 58, r111_5, kq_ret c111 117, kq_skip c111 59, kq_seq c111 15, r111_6, kq_seq c111 31, kq_seq c111 62, r111_7, kq_block c111 125 0, F111_lrlrrrr_eq, kq_seq c111 63, kq_seq c111 126, r111_20, b111_rlrrrrr, kq_seq c111 506, r111_21, kq_ret c111 1013, kq_skip c111 507, kq_seq c111 127, r111_22, kq_ret c111 255, reduceIte, reduceCtorEq, XE.exit.injEq, Nat.reduceEqDiff, Nat.reduceMul, Nat.reduceAdd] <;> kernel_rfl
theorem F111_call : eInv env (k + 1) (.func 111) #[] #[x0, x1] h = F111 (eInv env k) k x0 x1 h := kq_inv F111_eq
noncomputable def c112 : Code := codeOf Tryz.prog 112
theorem r112_0  : kCode env 112 false inv k (cp c112 2) (act 23 [(0, x0), (1, x1)]) h K =
    K .normal (act 23 [(0, x0), (1, x1)]) h := kq_reg
theorem r112_1  : kCode env 112 false inv k (cp c112 6) (act 23 [(0, x0), (1, x1)]) h K =
    K .normal (act 23 [(0, x0), (1, x1), (5, (.slice none 0 0))]) h := kq_reg
theorem r112_2  : kCode env 112 false inv k (cp c112 28) (act 23 [(0, x0), (1, x1), (5, x5)]) h K =
    bnd (pLen Tryz.prog #[31] x1 h) fun x9 =>
    K .normal (act 23 [(0, x0), (5, x5), (8, x1), (9, x9), (10, (.int .i64 0))]) h := kq_reg
theorem r112_3  : kCode env 112 false inv k (cp c112 232) (act 23 [(0, x0), (5, x5), (8, x8), (9, x9), (10, x10)]) h K =
    bnd (pBin Tryz.prog .lss 3 (.tmp 10) (.tmp 9) x10 x9) fun x11 =>
    K .normal (act 23 [(0, x0), (5, x5), (8, x8), (9, x9), (10, x10), (11, x11)]) h := kq_reg
theorem b112_lrllrlrr  : kCode env 112 false inv k (cp c112 466) (act 23 [(0, x0), (5, x5), (8, x8), (9, x9), (10, x10), (11, x11)]) h K = brV x11 (kCode env 112 false inv k (cp c112 932) (act 23 [(0, x0), (5, x5), (8, x8), (9, x9), (10, x10), (11, x11)]) h K) (kCode env 112 false inv k (cp c112 933) (act 23 [(0, x0), (5, x5), (8, x8), (9, x9), (10, x10), (11, x11)]) h K) := kq_cond
theorem r112_4  : kCode env 112 false inv k (cp c112 3736) (act 23 [(0, x0), (5, x5), (8, x8), (9, x9), (10, x10), (11, x11)]) h K =
    bnd (pIndexAddr Tryz.prog 31 x8 x10) fun x12 =>
    bnd (pLoad Tryz.prog 45 x12 h) fun x13 =>
    K .normal (act 23 [(0, x0), (5, x5), (7, x13), (8, x8), (9, x9), (10, x10)]) h := kq_reg
theorem r112_5  : kCode env 112 false inv k (cp c112 7474) (act 23 [(0, x0), (5, x5), (7, x7), (8, x8), (9, x9), (10, x10)]) h K =
    bnd (inv (.func 142) #[] #[x0, x7] h) fun x16 =>
    K .normal (act 23 [(0, x0), (5, x5), (7, x7), (8, x8), (9, x9), (10, x10), (16, x16.1)]) x16.2 := kq_reg
theorem b112_rrllrrllrlrr  : kCode env 112 false inv k (cp c112 7475) (act 23 [(0, x0), (5, x5), (7, x7), (8, x8), (9, x9), (10, x10), (16, x16)]) h K = brV x16 (kCode env 112 false inv k (cp c112 14950) (act 23 [(0, x0), (5, x5), (7, x7), (8, x8), (9, x9), (10, x10), (16, x16)]) h K) (kCode env 112 false inv k (cp c112 14951) (act 23 [(0, x0), (5, x5), (7, x7), (8, x8), (9, x9), (10, x10), (16, x16)]) h K) := kq_cond
theorem r112_6  : kCode env 112 false inv k (cp c112 14950) (act 23 [(0, x0), (5, x5), (7, x7), (8, x8), (9, x9), (10, x10), (16, x16)]) h K =
    bnd (pBuildSlice Tryz.prog 31 1 #[(0, x7)] h) fun x19 =>
    bnd (pAppend Tryz.prog #[31, 31] x5 x19.1 x19.2) fun x20 =>
    K .normal (act 23 [(0, x0), (5, x20.1), (8, x8), (9, x9), (10, x10)]) x20.2 := kq_reg
noncomputable def F112_lrrllrlrr {β : Type} (inv : Inv) (k : Nat) (x0 x5 x8 x9 x10 x11 : Value) (h : AH) (kn : (Value → Value → Value → Value → Value → Value → Value → AH → Option β)) : Option β :=
    bnd (pIndexAddr Tryz.prog 31 x8 x10) fun x12 =>
    bnd (pLoad Tryz.prog 45 x12 h) fun x13 =>
    bnd (inv (.func 142) #[] #[x0, x13] h) fun x16 =>
    brV x16.1
    (bnd (pBuildSlice Tryz.prog 31 1 #[(0, x13)] x16.2) fun x19 =>
    bnd (pAppend Tryz.prog #[31, 31] x5 x19.1 x19.2) fun x20 =>
    kn x0 x20.1 unk x8 x9 x10 unk x20.2)
    (kn x0 x5 x13 x8 x9 x10 x16.1 x16.2)
theorem F112_lrrllrlrr_eq  : kCode env 112 false inv k (cp c112 934) (act 23 [(0, x0), (5, x5), (8, x8), (9, x9), (10, x10), (11, x11)]) h K = F112_lrrllrlrr inv k x0 x5 x8 x9 x10 x11 h (fun y0 y5 y7 y8 y9 y10 y16 h => K .normal (act 23 [(0, y0), (5, y5), (7, y7), (8, y8), (9, y9), (10, y10), (16, y16)]) h) := by
      unfold F112_lrrllrlrr
      simp only [kq_block c112 934 1, kq_seq c112 1868, r112_4, kq_seq c112 3737, r112_5, b112_rrllrrllrlrr, r112_6, kq_skip c112 14951, reduceIte, reduceCtorEq, XE.exit.injEq, Nat.reduceEqDiff, Nat.reduceMul, Nat.reduceAdd] <;> kernel_rfl
theorem r112_7  : kCode env 112 false inv k (cp c112 935) (act 23 [(0, x0), (5, x5), (7, x7), (8, x8), (9, x9), (10, x10), (16, x16)]) h K =
    bnd (pBin Tryz.prog .add 3 (.tmp 10) (.const (.int .i64 1)) x10 (.int .i64 1)) fun x21 =>
    K .normal (act 23 [(0, x0), (5, x5), (8, x8), (9, x9), (10, x21)]) h := kq_reg
noncomputable def F112_lrlrr {β : Type} (inv : Inv) (k : Nat) : Nat → Value → Value → Value → Value → Value → AH → (Value → Value → Value → Value → Value → Value → AH → Option β) → Option β
  | 0, _, _, _, _, _, _, _ => none
  | j + 1, x0, x5, x8, x9, x10, h, ke0 =>
    bnd (pBin Tryz.prog .lss 3 (.tmp 10) (.tmp 9) x10 x9) fun x11 =>
    brV x11
    (F112_lrrllrlrr inv k x0 x5 x8 x9 x10 x11 h
    (fun y0 y5 y7 y8 y9 y10 y16 h =>
    bnd (pBin Tryz.prog .add 3 (.tmp 10) (.const (.int .i64 1)) y10 (.int .i64 1)) fun x21 =>
    F112_lrlrr inv k j y0 y5 y8 y9 x21 h ke0))
    (ke0 x0 x5 x8 x9 x10 x11 h)
theorem F112_lrlrr_j (j : Nat) : kLoop (kCode env 112 false inv k (cp c112 116)) j (act 23 [(0, x0), (5, x5), (8, x8), (9, x9), (10, x10)]) h K = F112_lrlrr inv k j x0 x5 x8 x9 x10 h (fun y0 y5 y8 y9 y10 y11 h => K (.exit 0) (act 23 [(0, y0), (5, y5), (8, y8), (9, y9), (10, y10), (11, y11)]) h) := by
      induction j generalizing x0 x5 x8 x9 x10 h with
      | zero => rfl
      | succ j ih =>
        unfold F112_lrlrr
        simp only [kLoop, kq_seq c112 116, r112_3, kq_seq c112 233, b112_lrllrlrr, kq_skip c112 932, kq_seq c112 467, F112_lrrllrlrr_eq, r112_7, kq_exit c112 933 0, ih, reduceIte, reduceCtorEq, XE.exit.injEq, Nat.reduceEqDiff, Nat.reduceMul, Nat.reduceAdd] <;> kernel_rfl
theorem F112_lrlrr_eq  : kCode env 112 false inv k (cp c112 58) (act 23 [(0, x0), (5, x5), (8, x8), (9, x9), (10, x10)]) h K = F112_lrlrr inv k k x0 x5 x8 x9 x10 h (fun y0 y5 y8 y9 y10 y11 h => K (.exit 0) (act 23 [(0, y0), (5, y5), (8, y8), (9, y9), (10, y10), (11, y11)]) h) := kq_loop (F112_lrlrr_j k)
theorem r112_8  : kCode env 112 false inv k (cp c112 30) (act 23 [(0, x0), (5, x5), (8, x8), (9, x9), (10, x10), (11, x11)]) h K =
    K .normal (act 23 [(4, x5)]) h := kq_reg
theorem res112_0 : resOfFn env.P 112 .ret (act 23 [(4, x4)]) h = some (x4, h) := kq_res
/-- shadowbook/pred.Keep -/
noncomputable def F112 (inv : Inv) (k : Nat) (x0 x1 : Value) (h : AH) : Option (Value × AH) :=
    bnd (pLen Tryz.prog #[31] x1 h) fun x9 =>
    F112_lrlrr inv k k x0 (.slice none 0 0) x1 x9 (.int .i64 0) h
    (fun y0 y5 y8 y9 y10 y11 h =>
    some (y5, h))
theorem F112_eq : eFun env k inv 112 #[x0, x1] h = F112 inv k x0 x1 h := by
      refine (kq_fun (a := act 23 [(0, x0), (1, x1)]) (c := cp c112 1)).trans ?_
      unfold F112
      simp only [kq_seq c112 1, r112_0, kq_seq c112 3, r112_1, kq_seq c112 7, kq_seq c112 14, r112_2, kq_block c112 29 0, F112_lrlrr_eq, kq_seq c112 15, r112_8, kq_ret c112 31, res112_0, reduceIte, reduceCtorEq, XE.exit.injEq, Nat.reduceEqDiff, Nat.reduceMul, Nat.reduceAdd] <;> kernel_rfl
theorem F112_call : eInv env (k + 1) (.func 112) #[] #[x0, x1] h = F112 (eInv env k) k x0 x1 h := kq_inv F112_eq
noncomputable def c113 : Code := codeOf Tryz.prog 113
theorem r113_0  : kCode env 113 false inv k (cp c113 2) (act 34 [(0, x0), (1, x1)]) h K =
    K .normal (act 34 [(0, x0), (1, x1)]) h := kq_reg
theorem r113_1  : kCode env 113 false inv k (cp c113 6) (act 34 [(0, x0), (1, x1)]) h K =
    K .normal (act 34 [(0, x0), (1, x1), (5, (.slice none 0 0))]) h := kq_reg
theorem r113_2  : kCode env 113 false inv k (cp c113 28) (act 34 [(0, x0), (1, x1), (5, x5)]) h K =
    bnd (pLen Tryz.prog #[24] x1 h) fun x10 =>
    K .normal (act 34 [(0, x0), (5, x5), (9, x1), (10, x10), (11, (.int .i64 0))]) h := kq_reg
theorem r113_3  : kCode env 113 false inv k (cp c113 232) (act 34 [(0, x0), (5, x5), (9, x9), (10, x10), (11, x11)]) h K =
    bnd (pBin Tryz.prog .lss 3 (.tmp 11) (.tmp 10) x11 x10) fun x12 =>
    K .normal (act 34 [(0, x0), (5, x5), (9, x9), (10, x10), (11, x11), (12, x12)]) h := kq_reg
theorem b113_lrllrlrr  : kCode env 113 false inv k (cp c113 466) (act 34 [(0, x0), (5, x5), (9, x9), (10, x10), (11, x11), (12, x12)]) h K = brV x12 (kCode env 113 false inv k (cp c113 932) (act 34 [(0, x0), (5, x5), (9, x9), (10, x10), (11, x11), (12, x12)]) h K) (kCode env 113 false inv k (cp c113 933) (act 34 [(0, x0), (5, x5), (9, x9), (10, x10), (11, x11), (12, x12)]) h K) := kq_cond
theorem r113_4  : kCode env 113 false inv k (cp c113 3736) (act 34 [(0, x0), (5, x5), (9, x9), (10, x10), (11, x11), (12, x12)]) h K =
    bnd (pIndexAddr Tryz.prog 24 x9 x11) fun x13 =>
    bnd (pLoad Tryz.prog 3 x13 h) fun x14 =>
    K .normal (act 34 [(0, x0), (5, x5), (7, x14), (9, x9), (10, x10), (11, x11)]) h := kq_reg
theorem r113_5  : kCode env 113 false inv k (cp c113 7474) (act 34 [(0, x0), (5, x5), (7, x7), (9, x9), (10, x10), (11, x11)]) h K =
    bnd (pBuild Tryz.prog 49 #[]) fun x15 =>
    bnd (pAlloc Tryz.prog 49 h) fun x8 =>
    bnd (kSt (pStore Tryz.prog 49 x8.1 x15 x8.2)) fun u =>
    K .normal (act 34 [(0, x0), (5, x5), (7, x7), (8, x8.1), (9, x9), (10, x10), (11, x11)]) u.2 := kq_reg
noncomputable abbrev G113_6 {β : Type} (inv : Inv) (x0 x5 x7 x8 x9 x10 x11 : Value) (h : AH) (K : Value → AH → Option β) : Option β :=
    bnd (pBin Tryz.prog .geq 3 (.tmp 16) (.const (.int .i64 0)) x7 (.int .i64 0)) fun x17 =>
    bnd (gd (some x17) true h (some (x7, h))) fun x19 =>
    bnd (gd (some x17) true x19.2 (some (x0, x19.2))) fun x20 =>
    bnd (gd (some x17) true x20.2 (lt (pLen Tryz.prog #[45] x20.1 x20.2) x20.2)) fun x21 =>
    bnd (gd (some x17) true x21.2 (lt (pBin Tryz.prog .lss 3 (.tmp 19) (.tmp 21) x19.1 x21.1) x21.2)) fun x22 =>
    bnd (pickV x17 x22.1 (.bool false)) fun x23 =>
    K (x23) x22.2
theorem r113_6  : kCode env 113 false inv k (cp c113 29900) (act 34 [(0, x0), (5, x5), (7, x7), (8, x8), (9, x9), (10, x10), (11, x11)]) h K =
    G113_6 inv x0 x5 x7 x8 x9 x10 x11 h fun y23 h => K .normal (act 34 [(0, x0), (5, x5), (7, x7), (8, x8), (9, x9), (10, x10), (11, x11), (23, y23)]) h := kq_reg
theorem b113_rlrrllrrllrlrr  : kCode env 113 false inv k (cp c113 29901) (act 34 [(0, x0), (5, x5), (7, x7), (8, x8), (9, x9), (10, x10), (11, x11), (23, x23)]) h K = brV x23 (kCode env 113 false inv k (cp c113 59802) (act 34 [(0, x0), (5, x5), (7, x7), (8, x8), (9, x9), (10, x10), (11, x11), (23, x23)]) h K) (kCode env 113 false inv k (cp c113 59803) (act 34 [(0, x0), (5, x5), (7, x7), (8, x8), (9, x9), (10, x10), (11, x11), (23, x23)]) h K) := kq_cond
theorem r113_7  : kCode env 113 false inv k (cp c113 59802) (act 34 [(0, x0), (5, x5), (7, x7), (8, x8), (9, x9), (10, x10), (11, x11), (23, x23)]) h K =
    bnd (pIndexAddr Tryz.prog 45 x0 x7) fun x26 =>
    bnd (pLoad Tryz.prog 49 x26 h) fun x27 =>
    bnd (kSt (pStore Tryz.prog 49 x8 x27 h)) fun u =>
    K .normal (act 34 [(0, x0), (5, x5), (8, x8), (9, x9), (10, x10), (11, x11)]) u.2 := kq_reg
noncomputable def F113_rlrrllrrllrlrr {β : Type} (inv : Inv) (k : Nat) (x0 x5 x7 x8 x9 x10 x11 x23 : Value) (h : AH) (kn : (Value → Value → Value → Value → Value → Value → Value → Value → AH → Option β)) : Option β :=
    brV x23
    (bnd (pIndexAddr Tryz.prog 45 x0 x7) fun x26 =>
    bnd (pLoad Tryz.prog 49 x26 h) fun x27 =>
    bnd (kSt (pStore Tryz.prog 49 x8 x27 h)) fun u =>
    kn x0 x5 unk x8 x9 x10 x11 unk u.2)
    (kn x0 x5 x7 x8 x9 x10 x11 x23 h)
theorem F113_rlrrllrrllrlrr_eq  : kCode env 113 false inv k (cp c113 29901) (act 34 [(0, x0), (5, x5), (7, x7), (8, x8), (9, x9), (10, x10), (11, x11), (23, x23)]) h K = F113_rlrrllrrllrlrr inv k x0 x5 x7 x8 x9 x10 x11 x23 h (fun y0 y5 y7 y8 y9 y10 y11 y23 h => K .normal (act 34 [(0, y0), (5, y5), (7, y7), (8, y8), (9, y9), (10, y10), (11, y11), (23, y23)]) h) := by
      unfold F113_rlrrllrrllrlrr
      simp only [b113_rlrrllrrllrlrr, r113_7, kq_skip c113 59803, reduceIte, reduceCtorEq, XE.exit.injEq, Nat.reduceEqDiff, Nat.reduceMul, Nat.reduceAdd] <;> kernel_rfl
theorem r113_8  : kCode env 113 false inv k (cp c113 14951) (act 34 [(0, x0), (5, x5), (7, x7), (8, x8), (9, x9), (10, x10), (11, x11), (23, x23)]) h K =
    bnd (pLoad Tryz.prog 49 x8 h) fun x29 =>
    bnd (pBuildSlice Tryz.prog 45 1 #[(0, x29)] h) fun x30 =>
    bnd (pAppend Tryz.prog #[45, 45] x5 x30.1 x30.2) fun x31 =>
    K .normal (act 34 [(0, x0), (5, x31.1), (9, x9), (10, x10), (11, x11)]) x31.2 := kq_reg
theorem r113_9  : kCode env 113 false inv k (cp c113 935) (act 34 [(0, x0), (5, x5), (9, x9), (10, x10), (11, x11)]) h K =
    bnd (pBin Tryz.prog .add 3 (.tmp 11) (.const (.int .i64 1)) x11 (.int .i64 1)) fun x32 =>
    K .normal (act 34 [(0, x0), (5, x5), (9, x9), (10, x10), (11, x32)]) h := kq_reg
noncomputable def F113_lrlrr {β : Type} (inv : Inv) (k : Nat) : Nat → Value → Value → Value → Value → Value → AH → (Value → Value → Value → Value → Value → Value → AH → Option β) → Option β
  | 0, _, _, _, _, _, _, _ => none
  | j + 1, x0, x5, x9, x10, x11, h, ke0 =>
    bnd (pBin Tryz.prog .lss 3 (.tmp 11) (.tmp 10) x11 x10) fun x12 =>
    brV x12
    (bnd (pIndexAddr Tryz.prog 24 x9 x11) fun x13 =>
    bnd (pLoad Tryz.prog 3 x13 h) fun x14 =>
    bnd (pBuild Tryz.prog 49 #[]) fun x15 =>
    bnd (pAlloc Tryz.prog 49 h) fun x8 =>
    bnd (kSt (pStore Tryz.prog 49 x8.1 x15 x8.2)) fun u =>
    G113_6 inv x0 x5 x14 x8.1 x9 x10 x11 u.2 fun y23 h =>
    F113_rlrrllrrllrlrr inv k x0 x5 x14 x8.1 x9 x10 x11 y23 h
    (fun y0 y5 y7 y8 y9 y10 y11 y23_1 h_2 =>
    bnd (pLoad Tryz.prog 49 y8 h_2) fun x29 =>
    bnd (pBuildSlice Tryz.prog 45 1 #[(0, x29)] h_2) fun x30 =>
    bnd (pAppend Tryz.prog #[45, 45] y5 x30.1 x30.2) fun x31 =>
    bnd (pBin Tryz.prog .add 3 (.tmp 11) (.const (.int .i64 1)) y11 (.int .i64 1)) fun x32 =>
    F113_lrlrr inv k j y0 x31.1 y9 y10 x32 x31.2 ke0))
    (ke0 x0 x5 x9 x10 x11 x12 h)
theorem F113_lrlrr_j (j : Nat) : kLoop (kCode env 113 false inv k (cp c113 116)) j (act 34 [(0, x0), (5, x5), (9, x9), (10, x10), (11, x11)]) h K = F113_lrlrr inv k j x0 x5 x9 x10 x11 h (fun y0 y5 y9 y10 y11 y12 h => K (.exit 0) (act 34 [(0, y0), (5, y5), (9, y9), (10, y10), (11, y11), (12, y12)]) h) := by
      induction j generalizing x0 x5 x9 x10 x11 h with
      | zero => rfl
      | succ j ih =>
        unfold F113_lrlrr
        simp only [kLoop, kq_seq c113 116, r113_3, kq_seq c113 233, b113_lrllrlrr, kq_skip c113 932, kq_seq c113 467, kq_block c113 934 1, kq_seq c113 1868, r113_4, kq_seq c113 3737, r113_5, kq_seq c113 7475, kq_seq c113 14950, r113_6, F113_rlrrllrrllrlrr_eq, r113_8, r113_9, kq_exit c113 933 0, ih, reduceIte, reduceCtorEq, XE.exit.injEq, Nat.reduceEqDiff, Nat.reduceMul, Nat.reduceAdd] <;> kernel_rfl
theorem F113_lrlrr_eq  : kCode env 113 false inv k (cp c113 58) (act 34 [(0, x0), (5, x5), (9, x9), (10, x10), (11, x11)]) h K = F113_lrlrr inv k k x0 x5 x9 x10 x11 h (fun y0 y5 y9 y10 y11 y12 h => K (.exit 0) (act 34 [(0, y0), (5, y5), (9, y9), (10, y10), (11, y11), (12, y12)]) h) := kq_loop (F113_lrlrr_j k)
theorem r113_10  : kCode env 113 false inv k (cp c113 30) (act 34 [(0, x0), (5, x5), (9, x9), (10, x10), (11, x11), (12, x12)]) h K =
    K .normal (act 34 [(4, x5)]) h := kq_reg
theorem res113_0 : resOfFn env.P 113 .ret (act 34 [(4, x4)]) h = some (x4, h) := kq_res
/-- shadowbook/schema.Pick -/
noncomputable def F113 (inv : Inv) (k : Nat) (x0 x1 : Value) (h : AH) : Option (Value × AH) :=
    bnd (pLen Tryz.prog #[24] x1 h) fun x10 =>
    F113_lrlrr inv k k x0 (.slice none 0 0) x1 x10 (.int .i64 0) h
    (fun y0 y5 y9 y10 y11 y12 h =>
    some (y5, h))
theorem F113_eq : eFun env k inv 113 #[x0, x1] h = F113 inv k x0 x1 h := by
      refine (kq_fun (a := act 34 [(0, x0), (1, x1)]) (c := cp c113 1)).trans ?_
      unfold F113
      simp only [kq_seq c113 1, r113_0, kq_seq c113 3, r113_1, kq_seq c113 7, kq_seq c113 14, r113_2, kq_block c113 29 0, F113_lrlrr_eq, kq_seq c113 15, r113_10, kq_ret c113 31, res113_0, reduceIte, reduceCtorEq, XE.exit.injEq, Nat.reduceEqDiff, Nat.reduceMul, Nat.reduceAdd] <;> kernel_rfl
theorem F113_call : eInv env (k + 1) (.func 113) #[] #[x0, x1] h = F113 (eInv env k) k x0 x1 h := kq_inv F113_eq
noncomputable def c114 : Code := codeOf Tryz.prog 114
theorem r114_0  : kCode env 114 false inv k (cp c114 2) (act 54 [(0, x0), (1, x1), (2, x2)]) h K =
    bnd (pBox Tryz.prog 36 x0 h) fun x3 =>
    K .normal (act 54 [(1, x1), (2, x2), (3, x3.1)]) x3.2 := kq_reg
theorem r114_1  : kCode env 114 false inv k (cp c114 12) (act 54 [(1, x1), (2, x2), (3, x3)]) h K =
    bnd (pLoad Tryz.prog 36 x3 h) fun x10 =>
    bnd (inv (.func 103) #[] #[x10] h) fun x11 =>
    K .normal (act 54 [(1, x1), (2, x2), (3, x3), (7, x11.1)]) x11.2 := kq_reg
theorem r114_2  : kCode env 114 false inv k (cp c114 26) (act 54 [(1, x1), (2, x2), (3, x3), (7, x7)]) h K =
    bnd (pBin Tryz.prog .neq 30 (.tmp 12) (.const (.int .i64 0)) x7 (.int .i64 0)) fun x13 =>
    K .normal (act 54 [(1, x1), (2, x2), (3, x3), (7, x7), (13, x13)]) h := kq_reg
theorem b114_rrlr  : kCode env 114 false inv k (cp c114 27) (act 54 [(1, x1), (2, x2), (3, x3), (7, x7), (13, x13)]) h K = brV x13 (kCode env 114 false inv k (cp c114 54) (act 54 [(1, x1), (2, x2), (3, x3), (7, x7), (13, x13)]) h K) (kCode env 114 false inv k (cp c114 55) (act 54 [(1, x1), (2, x2), (3, x3), (7, x7), (13, x13)]) h K) := kq_cond
theorem r114_3  : kCode env 114 false inv k (cp c114 108) (act 54 [(1, x1), (2, x2), (3, x3), (7, x7), (13, x13)]) h K =
    K .normal (act 54 [(6, x7)]) h := kq_reg
theorem res114_0 : resOfFn env.P 114 .ret (act 54 [(6, x6)]) h = some (x6, h) := kq_res
noncomputable abbrev G114_4 {β : Type} (inv : Inv) (x1 x2 x3 : Value) (h : AH) (K : Value → AH → Option β) : Option β :=
    bnd (pLen Tryz.prog #[38] x2 h) fun x16 =>
    bnd (pBin Tryz.prog .lss 3 (.tmp 16) (.const (.int .i64 1)) x16 (.int .i64 1)) fun x17 =>
    bnd (gd (some x17) false h (some (x2, h))) fun x19 =>
    bnd (gd (some x17) false x19.2 (lt (pLen Tryz.prog #[38] x19.1 x19.2) x19.2)) fun x20 =>
    bnd (gd (some x17) false x20.2 (lt (pBin Tryz.prog .gtr 3 (.tmp 20) (.const (.int .i64 8)) x20.1 (.int .i64 8)) x20.2)) fun x21 =>
    bnd (pickV x17 (.bool true) x21.1) fun x22 =>
    bnd (gd (some x22) false x21.2 (some (x1, x21.2))) fun x24 =>
    bnd (gd (some x22) false x24.2 (lt (pLen Tryz.prog #[24] x24.1 x24.2) x24.2)) fun x25 =>
    bnd (gd (some x22) false x25.2 (lt (pBin Tryz.prog .gtr 3 (.tmp 25) (.const (.int .i64 8)) x25.1 (.int .i64 8)) x25.2)) fun x26 =>
    bnd (pickV x22 (.bool true) x26.1) fun x27 =>
    K (x27) x26.2
theorem r114_4  : kCode env 114 false inv k (cp c114 28) (act 54 [(1, x1), (2, x2), (3, x3), (7, x7), (13, x13)]) h K =
    G114_4 inv x1 x2 x3 h fun y27 h => K .normal (act 54 [(1, x1), (2, x2), (3, x3), (27, y27)]) h := kq_reg
theorem b114_rlrr  : kCode env 114 false inv k (cp c114 29) (act 54 [(1, x1), (2, x2), (3, x3), (27, x27)]) h K = brV x27 (kCode env 114 false inv k (cp c114 58) (act 54 [(1, x1), (2, x2), (3, x3), (27, x27)]) h K) (kCode env 114 false inv k (cp c114 59) (act 54 [(1, x1), (2, x2), (3, x3), (27, x27)]) h K) := kq_cond
theorem r114_5  : kCode env 114 false inv k (cp c114 116) (act 54 [(1, x1), (2, x2), (3, x3), (27, x27)]) h K =
    K .normal (act 54 [(6, (.int .i64 200))]) h := kq_reg
theorem r114_6  : kCode env 114 false inv k (cp c114 60) (act 54 [(1, x1), (2, x2), (3, x3), (27, x27)]) h K =
    bnd (pLen Tryz.prog #[24] x1 h) fun x29 =>
    K .normal (act 54 [(1, x1), (2, x2), (3, x3), (28, x1), (29, x29), (30, (.int .i64 0))]) h := kq_reg
theorem r114_7  : kCode env 114 false inv k (cp c114 488) (act 54 [(1, x1), (2, x2), (3, x3), (28, x28), (29, x29), (30, x30)]) h K =
    bnd (pBin Tryz.prog .lss 3 (.tmp 30) (.tmp 29) x30 x29) fun x31 =>
    K .normal (act 54 [(1, x1), (2, x2), (3, x3), (28, x28), (29, x29), (30, x30), (31, x31)]) h := kq_reg
theorem b114_lrllrlrrr  : kCode env 114 false inv k (cp c114 978) (act 54 [(1, x1), (2, x2), (3, x3), (28, x28), (29, x29), (30, x30), (31, x31)]) h K = brV x31 (kCode env 114 false inv k (cp c114 1956) (act 54 [(1, x1), (2, x2), (3, x3), (28, x28), (29, x29), (30, x30), (31, x31)]) h K) (kCode env 114 false inv k (cp c114 1957) (act 54 [(1, x1), (2, x2), (3, x3), (28, x28), (29, x29), (30, x30), (31, x31)]) h K) := kq_cond
theorem r114_8  : kCode env 114 false inv k (cp c114 7832) (act 54 [(1, x1), (2, x2), (3, x3), (28, x28), (29, x29), (30, x30), (31, x31)]) h K =
    bnd (pIndexAddr Tryz.prog 24 x28 x30) fun x33 =>
    bnd (pLoad Tryz.prog 3 x33 h) fun x34 =>
    K .normal (act 54 [(1, x1), (2, x2), (3, x3), (8, x30), (9, x34), (28, x28), (29, x29), (30, x30)]) h := kq_reg
noncomputable abbrev G114_9 {β : Type} (inv : Inv) (x1 x2 x3 x8 x9 x28 x29 x30 : Value) (h : AH) (K : Value → AH → Option β) : Option β :=
    bnd (pBin Tryz.prog .lss 3 (.tmp 35) (.const (.int .i64 0)) x9 (.int .i64 0)) fun x36 =>
    bnd (gd (some x36) false h (some (x9, h))) fun x38 =>
    bnd (gd (some x36) false x38.2 (lt (pLoad Tryz.prog 36 x3 x38.2) x38.2)) fun x39 =>
    bnd (gd (some x36) false x39.2 (lt (pLen Tryz.prog #[36] x39.1 x39.2) x39.2)) fun x40 =>
    bnd (gd (some x36) false x40.2 (lt (pBin Tryz.prog .geq 3 (.tmp 38) (.tmp 40) x38.1 x40.1) x40.2)) fun x41 =>
    bnd (pickV x36 (.bool true) x41.1) fun x42 =>
    bnd (gd (some x42) false x41.2 (some (x1, x41.2))) fun x44 =>
    bnd (gd (some x42) false x44.2 (some (x8, x44.2))) fun x45 =>
    bnd (gd (some x42) false x45.2 (lt (pSlice Tryz.prog 24 x44.1 none (some x45.1) none x45.2) x45.2)) fun x46 =>
    bnd (gd (some x42) false x46.2 (some (x9, x46.2))) fun x47 =>
    bnd (gd (some x42) false x47.2 (inv (.func 143) #[] #[x46.1, x47.1] x47.2)) fun x48 =>
    bnd (pickV x42 (.bool true) x48.1) fun x49 =>
    K (x49) x48.2
theorem r114_9  : kCode env 114 false inv k (cp c114 15666) (act 54 [(1, x1), (2, x2), (3, x3), (8, x8), (9, x9), (28, x28), (29, x29), (30, x30)]) h K =
    G114_9 inv x1 x2 x3 x8 x9 x28 x29 x30 h fun y49 h => K .normal (act 54 [(1, x1), (2, x2), (3, x3), (28, x28), (29, x29), (30, x30), (49, y49)]) h := kq_reg
theorem b114_rrllrrllrlrrr  : kCode env 114 false inv k (cp c114 15667) (act 54 [(1, x1), (2, x2), (3, x3), (28, x28), (29, x29), (30, x30), (49, x49)]) h K = brV x49 (kCode env 114 false inv k (cp c114 31334) (act 54 [(1, x1), (2, x2), (3, x3), (28, x28), (29, x29), (30, x30), (49, x49)]) h K) (kCode env 114 false inv k (cp c114 31335) (act 54 [(1, x1), (2, x2), (3, x3), (28, x28), (29, x29), (30, x30), (49, x49)]) h K) := kq_cond
theorem r114_10  : kCode env 114 false inv k (cp c114 62668) (act 54 [(1, x1), (2, x2), (3, x3), (28, x28), (29, x29), (30, x30), (49, x49)]) h K =
    K .normal (act 54 [(6, (.int .i64 200))]) h := kq_reg
theorem r114_11  : kCode env 114 false inv k (cp c114 1959) (act 54 [(1, x1), (2, x2), (3, x3), (28, x28), (29, x29), (30, x30), (49, x49)]) h K =
    bnd (pBin Tryz.prog .add 3 (.tmp 30) (.const (.int .i64 1)) x30 (.int .i64 1)) fun x50 =>
    K .normal (act 54 [(1, x1), (2, x2), (3, x3), (28, x28), (29, x29), (30, x50)]) h := kq_reg
noncomputable def F114_lrlrrr {β : Type} (inv : Inv) (k : Nat) : Nat → Value → Value → Value → Value → Value → Value → AH → (Value → Value → Value → Value → Value → Value → Value → AH → Option β) → (Value → AH → Option β) → Option β
  | 0, _, _, _, _, _, _, _, _, _ => none
  | j + 1, x1, x2, x3, x28, x29, x30, h, ke0, kr =>
    bnd (pBin Tryz.prog .lss 3 (.tmp 30) (.tmp 29) x30 x29) fun x31 =>
    brV x31
    (bnd (pIndexAddr Tryz.prog 24 x28 x30) fun x33 =>
    bnd (pLoad Tryz.prog 3 x33 h) fun x34 =>
    G114_9 inv x1 x2 x3 x30 x34 x28 x29 x30 h fun y49 h =>
    brV y49
    (kr (.int .i64 200) h)
    (bnd (pBin Tryz.prog .add 3 (.tmp 30) (.const (.int .i64 1)) x30 (.int .i64 1)) fun x50 =>
    F114_lrlrrr inv k j x1 x2 x3 x28 x29 x50 h ke0 kr))
    (ke0 x1 x2 x3 x28 x29 x30 x31 h)
theorem F114_lrlrrr_j (j : Nat) : kLoop (kCode env 114 false inv k (cp c114 244)) j (act 54 [(1, x1), (2, x2), (3, x3), (28, x28), (29, x29), (30, x30)]) h K = F114_lrlrrr inv k j x1 x2 x3 x28 x29 x30 h (fun y1 y2 y3 y28 y29 y30 y31 h => K (.exit 0) (act 54 [(1, y1), (2, y2), (3, y3), (28, y28), (29, y29), (30, y30), (31, y31)]) h) (fun y6 h => K .ret (act 54 [(6, y6)]) h) := by
      induction j generalizing x1 x2 x3 x28 x29 x30 h with
      | zero => rfl
      | succ j ih =>
        unfold F114_lrlrrr
        simp only [kLoop, kq_seq c114 244, r114_7, kq_seq c114 489, b114_lrllrlrrr, kq_skip c114 1956, kq_seq c114 979, kq_block c114 1958 1, kq_seq c114 3916, r114_8, kq_seq c114 7833, r114_9, b114_rrllrrllrlrrr, kq_seq c114 31334, r114_10, kq_ret c114 62669, kq_skip c114 31335, r114_11, kq_exit c114 1957 0, ih, reduceIte, reduceCtorEq, XE.exit.injEq, Nat.reduceEqDiff, Nat.reduceMul, Nat.reduceAdd] <;> kernel_rfl
theorem F114_lrlrrr_eq  : kCode env 114 false inv k (cp c114 122) (act 54 [(1, x1), (2, x2), (3, x3), (28, x28), (29, x29), (30, x30)]) h K = F114_lrlrrr inv k k x1 x2 x3 x28 x29 x30 h (fun y1 y2 y3 y28 y29 y30 y31 h => K (.exit 0) (act 54 [(1, y1), (2, y2), (3, y3), (28, y28), (29, y29), (30, y30), (31, y31)]) h) (fun y6 h => K .ret (act 54 [(6, y6)]) h) := kq_loop (F114_lrlrrr_j k)
theorem r114_12  : kCode env 114 false inv k (cp c114 124) (act 54 [(1, x1), (2, x2), (3, x3), (28, x28), (29, x29), (30, x30), (31, x31)]) h K =
    bnd (pMakeFunc (.func 145) #[] #[x3]) fun x52 =>
    bnd (inv (.func 144) #[] #[x2, x52] h) fun x53 =>
    K .normal (act 54 [(53, x53.1)]) x53.2 := kq_reg
theorem b114_rlrrrr  : kCode env 114 false inv k (cp c114 125) (act 54 [(53, x53)]) h K = brV x53 (kCode env 114 false inv k (cp c114 250) (act 54 [(53, x53)]) h K) (kCode env 114 false inv k (cp c114 251) (act 54 [(53, x53)]) h K) := kq_cond
theorem r114_13  : kCode env 114 false inv k (cp c114 500) (act 54 [(53, x53)]) h K =
    K .normal (act 54 [(6, (.int .i64 200))]) h := kq_reg
theorem r114_14  : kCode env 114 false inv k (cp c114 126) (act 54 [(53, x53)]) h K =
    K .normal (act 54 [(6, (.int .i64 0))]) h := kq_reg
/-- shadowbook/agg.Check -/
noncomputable def F114 (inv : Inv) (k : Nat) (x0 x1 x2 : Value) (h : AH) : Option (Value × AH) :=
    bnd (pBox Tryz.prog 36 x0 h) fun x3 =>
    bnd (pLoad Tryz.prog 36 x3.1 x3.2) fun x10 =>
    bnd (inv (.func 103) #[] #[x10] x3.2) fun x11 =>
    bnd (pBin Tryz.prog .neq 30 (.tmp 12) (.const (.int .i64 0)) x11.1 (.int .i64 0)) fun x13 =>
    brV x13
    (some (x11.1, x11.2))
    (G114_4 inv x1 x2 x3.1 x11.2 fun y27 h =>
    brV y27
    (some ((.int .i64 200), h))
    (bnd (pLen Tryz.prog #[24] x1 h) fun x29 =>
    F114_lrlrrr inv k k x1 x2 x3.1 x1 x29 (.int .i64 0) h
    (fun y1 y2 y3 y28 y29 y30 y31 h_1 =>
    bnd (pMakeFunc (.func 145) #[] #[y3]) fun x52 =>
    bnd (inv (.func 144) #[] #[y2, x52] h_1) fun x53 =>
    brV x53.1
    (some ((.int .i64 200), x53.2))
    (some ((.int .i64 0), x53.2)))
    (fun y6 h_2 =>
    some (y6, h_2))))
theorem F114_eq : eFun env k inv 114 #[x0, x1, x2] h = F114 inv k x0 x1 x2 h := by
      refine (kq_fun (a := act 54 [(0, x0), (1, x1), (2, x2)]) (c := cp c114 1)).trans ?_
      unfold F114
      simp only [kq_seq c114 1, r114_0, kq_seq c114 3, kq_seq c114 6, r114_1, kq_seq c114 13, r114_2, b114_rrlr, kq_seq c114 54, r114_3, kq_ret c114 109, res114_0, kq_skip c114 55, kq_seq c114 7, kq_seq c114 14, r114_4, b114_rlrr, kq_seq c114 58, r114_5, kq_ret c114 117, kq_skip c114 59, kq_seq c114 15, kq_seq c114 30, r114_6, kq_block c114 61 0, F114_lrlrrr_eq, kq_seq c114 31, kq_seq c114 62, r114_12, b114_rlrrrr, kq_seq c114 250, r114_13, kq_ret c114 501, kq_skip c114 251, kq_seq c114 63, r114_14, kq_ret c114 127, reduceIte, reduceCtorEq, XE.exit.injEq, Nat.reduceEqDiff, Nat.reduceMul, Nat.reduceAdd] <;> kernel_rfl
theorem F114_call : eInv env (k + 1) (.func 114) #[] #[x0, x1, x2] h = F114 (eInv env k) k x0 x1 x2 h := kq_inv F114_eq
noncomputable def c115 : Code := codeOf Tryz.prog 115
theorem r115_0  : kCode env 115 false inv k (cp c115 2) (act 38 [(0, x0), (1, x1), (2, x2), (3, x3)]) h K =
    K .normal (act 38 [(0, x0), (1, x1), (2, x2), (3, x3)]) h := kq_reg
theorem r115_1  : kCode env 115 false inv k (cp c115 6) (act 38 [(0, x0), (1, x1), (2, x2), (3, x3)]) h K =
    bnd (inv (.func 147) #[] #[x0, x2, x3] h) fun x18 =>
    bnd (pExtract x18.1 0) fun x19 =>
    bnd (pExtract x18.1 1) fun x20 =>
    K .normal (act 38 [(1, x1), (10, x19), (11, x20)]) x18.2 := kq_reg
theorem r115_2  : kCode env 115 false inv k (cp c115 28) (act 38 [(1, x1), (10, x10), (11, x11)]) h K =
    bnd (pLen Tryz.prog #[31] x1 h) fun x22 =>
    K .normal (act 38 [(10, x10), (11, x11), (21, x1), (22, x22), (23, (.int .i64 0))]) h := kq_reg
theorem r115_3  : kCode env 115 false inv k (cp c115 232) (act 38 [(10, x10), (11, x11), (21, x21), (22, x22), (23, x23)]) h K =
    bnd (pBin Tryz.prog .lss 3 (.tmp 23) (.tmp 22) x23 x22) fun x24 =>
    K .normal (act 38 [(10, x10), (11, x11), (21, x21), (22, x22), (23, x23), (24, x24)]) h := kq_reg
theorem b115_lrllrlrr  : kCode env 115 false inv k (cp c115 466) (act 38 [(10, x10), (11, x11), (21, x21), (22, x22), (23, x23), (24, x24)]) h K = brV x24 (kCode env 115 false inv k (cp c115 932) (act 38 [(10, x10), (11, x11), (21, x21), (22, x22), (23, x23), (24, x24)]) h K) (kCode env 115 false inv k (cp c115 933) (act 38 [(10, x10), (11, x11), (21, x21), (22, x22), (23, x23), (24, x24)]) h K) := kq_cond
theorem r115_4  : kCode env 115 false inv k (cp c115 3736) (act 38 [(10, x10), (11, x11), (21, x21), (22, x22), (23, x23), (24, x24)]) h K =
    bnd (pIndexAddr Tryz.prog 31 x21 x23) fun x25 =>
    bnd (pLoad Tryz.prog 45 x25 h) fun x26 =>
    K .normal (act 38 [(10, x10), (11, x11), (13, x26), (21, x21), (22, x22), (23, x23)]) h := kq_reg
theorem r115_5  : kCode env 115 false inv k (cp c115 14948) (act 38 [(10, x10), (11, x11), (13, x13), (21, x21), (22, x22), (23, x23)]) h K =
    bnd (pBin Tryz.prog .neq 30 (.tmp 27) (.const (.int .i64 0)) x11 (.int .i64 0)) fun x28 =>
    K .normal (act 38 [(10, x10), (11, x11), (13, x13), (21, x21), (22, x22), (23, x23), (28, x28)]) h := kq_reg
theorem b115_rlrllrrllrlrr  : kCode env 115 false inv k (cp c115 14949) (act 38 [(10, x10), (11, x11), (13, x13), (21, x21), (22, x22), (23, x23), (28, x28)]) h K = brV x28 (kCode env 115 false inv k (cp c115 29898) (act 38 [(10, x10), (11, x11), (13, x13), (21, x21), (22, x22), (23, x23), (28, x28)]) h K) (kCode env 115 false inv k (cp c115 29899) (act 38 [(10, x10), (11, x11), (13, x13), (21, x21), (22, x22), (23, x23), (28, x28)]) h K) := kq_cond
theorem r115_6  : kCode env 115 false inv k (cp c115 7475) (act 38 [(10, x10), (11, x11), (13, x13), (21, x21), (22, x22), (23, x23), (28, x28)]) h K =
    bnd (inv (.func 148) #[] #[x10, x13] h) fun x31 =>
    K .normal (act 38 [(10, x10), (11, x31.1), (21, x21), (22, x22), (23, x23)]) x31.2 := kq_reg
theorem r115_7  : kCode env 115 false inv k (cp c115 935) (act 38 [(10, x10), (11, x11), (21, x21), (22, x22), (23, x23)]) h K =
    bnd (pBin Tryz.prog .add 3 (.tmp 23) (.const (.int .i64 1)) x23 (.int .i64 1)) fun x32 =>
    K .normal (act 38 [(10, x10), (11, x11), (21, x21), (22, x22), (23, x32)]) h := kq_reg
noncomputable def F115_lrlrr {β : Type} (inv : Inv) (k : Nat) : Nat → Value → Value → Value → Value → Value → AH → (Value → Value → Value → Value → Value → Value → Value → Value → AH → Option β) → Option β
  | 0, _, _, _, _, _, _, _ => none
  | j + 1, x10, x11, x21, x22, x23, h, ke0 =>
    bnd (pBin Tryz.prog .lss 3 (.tmp 23) (.tmp 22) x23 x22) fun x24 =>
    brV x24
    (bnd (pIndexAddr Tryz.prog 31 x21 x23) fun x25 =>
    bnd (pLoad Tryz.prog 45 x25 h) fun x26 =>
    bnd (pBin Tryz.prog .neq 30 (.tmp 27) (.const (.int .i64 0)) x11 (.int .i64 0)) fun x28 =>
    brV x28
    (ke0 x10 x11 x26 x21 x22 x23 unk x28 h)
    (bnd (inv (.func 148) #[] #[x10, x26] h) fun x31 =>
    bnd (pBin Tryz.prog .add 3 (.tmp 23) (.const (.int .i64 1)) x23 (.int .i64 1)) fun x32 =>
    F115_lrlrr inv k j x10 x31.1 x21 x22 x32 x31.2 ke0))
    (ke0 x10 x11 unk x21 x22 x23 x24 unk h)
theorem F115_lrlrr_j (j : Nat) : kLoop (kCode env 115 false inv k (cp c115 116)) j (act 38 [(10, x10), (11, x11), (21, x21), (22, x22), (23, x23)]) h K = F115_lrlrr inv k j x10 x11 x21 x22 x23 h (fun y10 y11 y13 y21 y22 y23 y24 y28 h => K (.exit 0) (act 38 [(10, y10), (11, y11), (13, y13), (21, y21), (22, y22), (23, y23), (24, y24), (28, y28)]) h) := by
      induction j generalizing x10 x11 x21 x22 x23 h with
      | zero => rfl
      | succ j ih =>
        unfold F115_lrlrr
        simp only [kLoop, kq_seq c115 116, r115_3, kq_seq c115 233, b115_lrllrlrr, kq_skip c115 932, kq_seq c115 467, kq_block c115 934 1, kq_seq c115 1868, r115_4, kq_seq c115 3737, kq_seq c115 7474, r115_5, b115_rlrllrrllrlrr, kq_exit c115 29898 0, kq_skip c115 29899, r115_6, r115_7, kq_exit c115 933 0, ih, reduceIte, reduceCtorEq, XE.exit.injEq, Nat.reduceEqDiff, Nat.reduceMul, Nat.reduceAdd] <;> kernel_rfl
theorem F115_lrlrr_eq  : kCode env 115 false inv k (cp c115 58) (act 38 [(10, x10), (11, x11), (21, x21), (22, x22), (23, x23)]) h K = F115_lrlrr inv k k x10 x11 x21 x22 x23 h (fun y10 y11 y13 y21 y22 y23 y24 y28 h => K (.exit 0) (act 38 [(10, y10), (11, y11), (13, y13), (21, y21), (22, y22), (23, y23), (24, y24), (28, y28)]) h) := kq_loop (F115_lrlrr_j k)
noncomputable def F115_rlrr {β : Type} (inv : Inv) (k : Nat) (x10 x11 x21 x22 x23 : Value) (h : AH) (kn : (Value → Value → Value → Value → Value → Value → Value → Value → AH → Option β)) : Option β :=
    F115_lrlrr inv k k x10 x11 x21 x22 x23 h
    (fun y10 y11 y13 y21 y22 y23 y24 y28 h =>
    kn y10 y11 y13 y21 y22 y23 y24 y28 h)
theorem F115_rlrr_eq  : kCode env 115 false inv k (cp c115 29) (act 38 [(10, x10), (11, x11), (21, x21), (22, x22), (23, x23)]) h K = F115_rlrr inv k x10 x11 x21 x22 x23 h (fun y10 y11 y13 y21 y22 y23 y24 y28 h => K .normal (act 38 [(10, y10), (11, y11), (13, y13), (21, y21), (22, y22), (23, y23), (24, y24), (28, y28)]) h) := by
      unfold F115_rlrr
      simp only [kq_block c115 29 0, F115_lrlrr_eq, reduceIte, reduceCtorEq, XE.exit.injEq, Nat.reduceEqDiff, Nat.reduceMul, Nat.reduceAdd] <;> kernel_rfl
theorem r115_8  : kCode env 115 false inv k (cp c115 60) (act 38 [(10, x10), (11, x11), (13, x13), (21, x21), (22, x22), (23, x23), (24, x24), (28, x28)]) h K =
    bnd (pBin Tryz.prog .neq 30 (.tmp 33) (.const (.int .i64 0)) x11 (.int .i64 0)) fun x34 =>
    K .normal (act 38 [(10, x10), (11, x11), (34, x34)]) h := kq_reg
theorem b115_rlrrr  : kCode env 115 false inv k (cp c115 61) (act 38 [(10, x10), (11, x11), (34, x34)]) h K = brV x34 (kCode env 115 false inv k (cp c115 122) (act 38 [(10, x10), (11, x11), (34, x34)]) h K) (kCode env 115 false inv k (cp c115 123) (act 38 [(10, x10), (11, x11), (34, x34)]) h K) := kq_cond
theorem r115_9  : kCode env 115 false inv k (cp c115 244) (act 38 [(10, x10), (11, x11), (34, x34)]) h K =
    K .normal (act 38 [(8, (.slice none 0 0)), (9, x11)]) h := kq_reg
theorem res115_0 : resOfFn env.P 115 .ret (act 38 [(8, x8), (9, x9)]) h = some (.tuple #[x8, x9], h) := kq_res
theorem r115_10  : kCode env 115 false inv k (cp c115 62) (act 38 [(10, x10), (11, x11), (34, x34)]) h K =
    bnd (inv (.func 149) #[] #[x10] h) fun x37 =>
    K .normal (act 38 [(8, x37.1), (9, (.int .i64 0))]) x37.2 := kq_reg
/-- shadowbook/agg.Of -/
noncomputable def F115 (inv : Inv) (k : Nat) (x0 x1 x2 x3 : Value) (h : AH) : Option (Value × AH) :=
    bnd (inv (.func 147) #[] #[x0, x2, x3] h) fun x18 =>
    bnd (pExtract x18.1 0) fun x19 =>
    bnd (pExtract x18.1 1) fun x20 =>
    bnd (pLen Tryz.prog #[31] x1 x18.2) fun x22 =>
    F115_rlrr inv k x19 x20 x1 x22 (.int .i64 0) x18.2
    (fun y10 y11 y13 y21 y22 y23 y24 y28 h =>
    bnd (pBin Tryz.prog .neq 30 (.tmp 33) (.const (.int .i64 0)) y11 (.int .i64 0)) fun x34 =>
    brV x34
    (some (.tuple #[(.slice none 0 0), y11], h))
    (bnd (inv (.func 149) #[] #[y10] h) fun x37 =>
    some (.tuple #[x37.1, (.int .i64 0)], x37.2)))
theorem F115_eq : eFun env k inv 115 #[x0, x1, x2, x3] h = F115 inv k x0 x1 x2 x3 h := by
      refine (kq_fun (a := act 38 [(0, x0), (1, x1), (2, x2), (3, x3)]) (c := cp c115 1)).trans ?_
      unfold F115
      simp only [kq_seq c115 1, r115_0, kq_seq c115 3, r115_1, kq_seq c115 7, kq_seq c115 14, r115_2, F115_rlrr_eq, kq_seq c115 15, kq_seq c115 30, r115_8, b115_rlrrr, kq_seq c115 122, r115_9, kq_ret c115 245, res115_0, kq_skip c115 123, kq_seq c115 31, r115_10, kq_ret c115 63, reduceIte, reduceCtorEq, XE.exit.injEq, Nat.reduceEqDiff, Nat.reduceMul, Nat.reduceAdd] <;> kernel_rfl
theorem F115_call : eInv env (k + 1) (.func 115) #[] #[x0, x1, x2, x3] h = F115 (eInv env k) k x0 x1 x2 x3 h := kq_inv F115_eq
noncomputable def c116 : Code := codeOf Tryz.prog 116
theorem r116_0  : kCode env 116 false inv k (cp c116 2) (act 49 [(0, x0), (1, x1), (2, x2)]) h K =
    K .normal (act 49 [(0, x0), (1, x1), (2, x2)]) h := kq_reg
theorem r116_1  : kCode env 116 false inv k (cp c116 6) (act 49 [(0, x0), (1, x1), (2, x2)]) h K =
    bnd (pLen Tryz.prog #[56] x0 h) fun x13 =>
    K .normal (act 49 [(0, x0), (1, x1), (2, x2), (8, x13)]) h := kq_reg
theorem r116_2  : kCode env 116 false inv k (cp c116 14) (act 49 [(0, x0), (1, x1), (2, x2), (8, x8)]) h K =
    K .normal (act 49 [(0, x0), (1, x1), (2, x2), (8, x8), (9, (.int .i64 0)), (10, x8)]) h := kq_reg
theorem r116_3  : kCode env 116 false inv k (cp c116 480) (act 49 [(0, x0), (1, x1), (2, x2), (8, x8), (9, x9), (10, x10)]) h K =
    bnd (pBin Tryz.prog .lss 3 (.tmp 15) (.tmp 16) x9 x10) fun x17 =>
    K .normal (act 49 [(0, x0), (1, x1), (2, x2), (8, x8), (9, x9), (10, x10), (17, x17)]) h := kq_reg
theorem b116_rllllrrr  : kCode env 116 false inv k (cp c116 481) (act 49 [(0, x0), (1, x1), (2, x2), (8, x8), (9, x9), (10, x10), (17, x17)]) h K = brV x17 (kCode env 116 false inv k (cp c116 962) (act 49 [(0, x0), (1, x1), (2, x2), (8, x8), (9, x9), (10, x10), (17, x17)]) h K) (kCode env 116 false inv k (cp c116 963) (act 49 [(0, x0), (1, x1), (2, x2), (8, x8), (9, x9), (10, x10), (17, x17)]) h K) := kq_cond
theorem r116_4  : kCode env 116 false inv k (cp c116 964) (act 49 [(0, x0), (1, x1), (2, x2), (8, x8), (9, x9), (10, x10), (17, x17)]) h K =
    bnd (pBin Tryz.prog .add 3 (.tmp 18) (.tmp 19) x9 x10) fun x20 =>
    bnd (pConv Tryz.prog 3 160 x20 h) fun x21 =>
    bnd (pBin Tryz.prog .shr 160 (.tmp 21) (.const (.int .u64 1)) x21 (.int .u64 1)) fun x22 =>
    bnd (pConv Tryz.prog 160 3 x22 h) fun x23 =>
    K .normal (act 49 [(0, x0), (1, x1), (2, x2), (8, x8), (9, x9), (10, x10), (11, x23)]) h := kq_reg
theorem r116_5  : kCode env 116 false inv k (cp c116 1930) (act 49 [(0, x0), (1, x1), (2, x2), (8, x8), (9, x9), (10, x10), (11, x11)]) h K =
    bnd (pIndexAddr Tryz.prog 56 x0 x11) fun x27 =>
    bnd (pLoad Tryz.prog 81 x27 h) fun x28 =>
    bnd (callV inv x2 #[x28, x1] h) fun x30 =>
    bnd (pBin Tryz.prog .lss 3 (.tmp 30) (.const (.int .i64 0)) x30.1 (.int .i64 0)) fun x31 =>
    K .normal (act 49 [(0, x0), (1, x1), (2, x2), (8, x8), (9, x9), (10, x10), (11, x11), (31, x31)]) x30.2 := kq_reg
theorem b116_rrlrlllrrr  : kCode env 116 false inv k (cp c116 1931) (act 49 [(0, x0), (1, x1), (2, x2), (8, x8), (9, x9), (10, x10), (11, x11), (31, x31)]) h K = brV x31 (kCode env 116 false inv k (cp c116 3862) (act 49 [(0, x0), (1, x1), (2, x2), (8, x8), (9, x9), (10, x10), (11, x11), (31, x31)]) h K) (kCode env 116 false inv k (cp c116 3863) (act 49 [(0, x0), (1, x1), (2, x2), (8, x8), (9, x9), (10, x10), (11, x11), (31, x31)]) h K) := kq_cond
theorem r116_6  : kCode env 116 false inv k (cp c116 3862) (act 49 [(0, x0), (1, x1), (2, x2), (8, x8), (9, x9), (10, x10), (11, x11), (31, x31)]) h K =
    bnd (pBin Tryz.prog .add 3 (.tmp 32) (.const (.int .i64 1)) x11 (.int .i64 1)) fun x33 =>
    K .normal (act 49 [(0, x0), (1, x1), (2, x2), (8, x8), (9, x33), (10, x10)]) h := kq_reg
theorem r116_7  : kCode env 116 false inv k (cp c116 3863) (act 49 [(0, x0), (1, x1), (2, x2), (8, x8), (9, x9), (10, x10), (11, x11), (31, x31)]) h K =
    K .normal (act 49 [(0, x0), (1, x1), (2, x2), (8, x8), (9, x9), (10, x11)]) h := kq_reg
noncomputable def F116_llrrr {β : Type} (inv : Inv) (k : Nat) : Nat → Value → Value → Value → Value → Value → Value → AH → (Value → Value → Value → Value → Value → Value → Value → AH → Option β) → Option β
  | 0, _, _, _, _, _, _, _, _ => none
  | j + 1, x0, x1, x2, x8, x9, x10, h, ke0 =>
    bnd (pBin Tryz.prog .lss 3 (.tmp 15) (.tmp 16) x9 x10) fun x17 =>
    brV x17
    (bnd (pBin Tryz.prog .add 3 (.tmp 18) (.tmp 19) x9 x10) fun x20 =>
    bnd (pConv Tryz.prog 3 160 x20 h) fun x21 =>
    bnd (pBin Tryz.prog .shr 160 (.tmp 21) (.const (.int .u64 1)) x21 (.int .u64 1)) fun x22 =>
    bnd (pConv Tryz.prog 160 3 x22 h) fun x23 =>
    bnd (pIndexAddr Tryz.prog 56 x0 x23) fun x27 =>
    bnd (pLoad Tryz.prog 81 x27 h) fun x28 =>
    bnd (callV inv x2 #[x28, x1] h) fun x30 =>
    bnd (pBin Tryz.prog .lss 3 (.tmp 30) (.const (.int .i64 0)) x30.1 (.int .i64 0)) fun x31 =>
    brV x31
    (bnd (pBin Tryz.prog .add 3 (.tmp 32) (.const (.int .i64 1)) x23 (.int .i64 1)) fun x33 =>
    F116_llrrr inv k j x0 x1 x2 x8 x33 x10 x30.2 ke0)
    (F116_llrrr inv k j x0 x1 x2 x8 x9 x23 x30.2 ke0))
    (ke0 x0 x1 x2 x8 x9 x10 x17 h)
theorem F116_llrrr_j (j : Nat) : kLoop (kCode env 116 false inv k (cp c116 120)) j (act 49 [(0, x0), (1, x1), (2, x2), (8, x8), (9, x9), (10, x10)]) h K = F116_llrrr inv k j x0 x1 x2 x8 x9 x10 h (fun y0 y1 y2 y8 y9 y10 y17 h => K (.exit 0) (act 49 [(0, y0), (1, y1), (2, y2), (8, y8), (9, y9), (10, y10), (17, y17)]) h) := by
      induction j generalizing x0 x1 x2 x8 x9 x10 h with
      | zero => rfl
      | succ j ih =>
        unfold F116_llrrr
        simp only [kLoop, kq_seq c116 120, kq_seq c116 240, r116_3, b116_rllllrrr, kq_skip c116 962, kq_block c116 241 1, kq_seq c116 482, r116_4, kq_seq c116 965, r116_5, b116_rrlrlllrrr, r116_6, r116_7, kq_exit c116 963 0, ih, reduceIte, reduceCtorEq, XE.exit.injEq, Nat.reduceEqDiff, Nat.reduceMul, Nat.reduceAdd] <;> kernel_rfl
theorem F116_llrrr_eq  : kCode env 116 false inv k (cp c116 60) (act 49 [(0, x0), (1, x1), (2, x2), (8, x8), (9, x9), (10, x10)]) h K = F116_llrrr inv k k x0 x1 x2 x8 x9 x10 h (fun y0 y1 y2 y8 y9 y10 y17 h => K (.exit 0) (act 49 [(0, y0), (1, y1), (2, y2), (8, y8), (9, y9), (10, y10), (17, y17)]) h) := kq_loop (F116_llrrr_j k)
noncomputable abbrev G116_8 {β : Type} (inv : Inv) (x0 x1 x2 x8 x9 : Value) (h : AH) (K : Value → Value → AH → Option β) : Option β :=
    bnd (pBin Tryz.prog .lss 3 (.tmp 36) (.tmp 37) x9 x8) fun x38 =>
    bnd (gd (some x38) true h (some (x2, h))) fun x40 =>
    bnd (gd (some x38) true x40.2 (some (x0, x40.2))) fun x41 =>
    bnd (gd (some x38) true x41.2 (some (x9, x41.2))) fun x42 =>
    bnd (gd (some x38) true x42.2 (lt (pIndexAddr Tryz.prog 56 x41.1 x42.1) x42.2)) fun x43 =>
    bnd (gd (some x38) true x43.2 (lt (pLoad Tryz.prog 81 x43.1 x43.2) x43.2)) fun x44 =>
    bnd (gd (some x38) true x44.2 (some (x1, x44.2))) fun x45 =>
    bnd (gd (some x38) true x45.2 (callV inv x40.1 #[x44.1, x45.1] x45.2)) fun x46 =>
    bnd (gd (some x38) true x46.2 (lt (pBin Tryz.prog .eql 3 (.tmp 46) (.const (.int .i64 0)) x46.1 (.int .i64 0)) x46.2)) fun x47 =>
    bnd (pickV x38 x47.1 (.bool false)) fun x48 =>
    K (x9) (x48) x47.2
theorem r116_8  : kCode env 116 false inv k (cp c116 62) (act 49 [(0, x0), (1, x1), (2, x2), (8, x8), (9, x9), (10, x10), (17, x17)]) h K =
    G116_8 inv x0 x1 x2 x8 x9 h fun y6 y7 h => K .normal (act 49 [(6, y6), (7, y7)]) h := kq_reg
theorem res116_0 : resOfFn env.P 116 .ret (act 49 [(6, x6), (7, x7)]) h = some (.tuple #[x6, x7], h) := kq_res
/-- slices.BinarySearchFunc[[]shadowbook/api.Frozen,shadowbook/api.Frozen,string] -/
noncomputable def F116 (inv : Inv) (k : Nat) (x0 x1 x2 : Value) (h : AH) : Option (Value × AH) :=
    bnd (pLen Tryz.prog #[56] x0 h) fun x13 =>
    F116_llrrr inv k k x0 x1 x2 x13 (.int .i64 0) x13 h
    (fun y0 y1 y2 y8 y9 y10 y17 h =>
    G116_8 inv y0 y1 y2 y8 y9 h fun y6 y7 h_1 =>
    some (.tuple #[y6, y7], h_1))
theorem F116_eq : eFun env k inv 116 #[x0, x1, x2] h = F116 inv k x0 x1 x2 h := by
      refine (kq_fun (a := act 49 [(0, x0), (1, x1), (2, x2)]) (c := cp c116 1)).trans ?_
      unfold F116
      simp only [kq_seq c116 1, r116_0, kq_seq c116 3, r116_1, kq_seq c116 7, r116_2, kq_seq c116 15, kq_block c116 30 0, F116_llrrr_eq, kq_seq c116 31, r116_8, kq_ret c116 63, res116_0, reduceIte, reduceCtorEq, XE.exit.injEq, Nat.reduceEqDiff, Nat.reduceMul, Nat.reduceAdd] <;> kernel_rfl
theorem F116_call : eInv env (k + 1) (.func 116) #[] #[x0, x1, x2] h = F116 (eInv env k) k x0 x1 x2 h := kq_inv F116_eq
noncomputable def c117 : Code := codeOf Tryz.prog 117
theorem r117_0  : kCode env 117 false inv k (cp c117 2) (act 9 [(0, x0), (1, x1)]) h K =
    bnd (pBox Tryz.prog 81 x0 h) fun x2 =>
    K .normal (act 9 [(1, x1), (2, x2.1)]) x2.2 := kq_reg
theorem r117_1  : kCode env 117 false inv k (cp c117 6) (act 9 [(1, x1), (2, x2)]) h K =
    bnd (pFieldAddr Tryz.prog 81 x2 0) fun x5 =>
    bnd (pLoad Tryz.prog 9 x5 h) fun x6 =>
    bnd (inv (.func 124) #[] #[x6, x1] h) fun x8 =>
    K .normal (act 9 [(4, x8.1)]) x8.2 := kq_reg
theorem res117_0 : resOfFn env.P 117 .ret (act 9 [(4, x4)]) h = some (x4, h) := kq_res
/-- shadowbook/model.bySnap -/
noncomputable def F117 (inv : Inv) (k : Nat) (x0 x1 : Value) (h : AH) : Option (Value × AH) :=
    bnd (pBox Tryz.prog 81 x0 h) fun x2 =>
    bnd (pFieldAddr Tryz.prog 81 x2.1 0) fun x5 =>
    bnd (pLoad Tryz.prog 9 x5 x2.2) fun x6 =>
    bnd (inv (.func 124) #[] #[x6, x1] x2.2) fun x8 =>
    some (x8.1, x8.2)
theorem F117_eq : eFun env k inv 117 #[x0, x1] h = F117 inv k x0 x1 h := by
      refine (kq_fun (a := act 9 [(0, x0), (1, x1)]) (c := cp c117 1)).trans ?_
      unfold F117
      simp only [kq_seq c117 1, r117_0, kq_seq c117 3, r117_1, kq_ret c117 7, res117_0, reduceIte, reduceCtorEq, XE.exit.injEq, Nat.reduceEqDiff, Nat.reduceMul, Nat.reduceAdd] <;> kernel_rfl
theorem F117_call : eInv env (k + 1) (.func 117) #[] #[x0, x1] h = F117 (eInv env k) k x0 x1 h := kq_inv F117_eq
noncomputable def c118 : Code := codeOf Tryz.prog 118
theorem r118_0  : kCode env 118 false inv k (cp c118 2) (act 18 [(0, x0), (1, x1), (2, x2), (3, x3)]) h K =
    K .normal (act 18 [(0, x0), (1, x1), (2, x2), (3, x3)]) h := kq_reg
theorem r118_1  : kCode env 118 false inv k (cp c118 6) (act 18 [(0, x0), (1, x1), (2, x2), (3, x3)]) h K =
    bnd (pSlice Tryz.prog 56 x0 none (some x1) none h) fun x11 =>
    bnd (pSlice Tryz.prog 56 x0 (some x2) none none h) fun x15 =>
    bnd (pBuildSlice Tryz.prog 213 3 #[(0, x11), (1, x3), (2, x15)] h) fun x16 =>
    bnd (inv (.func 150) #[] #[x16.1] x16.2) fun x17 =>
    K .normal (act 18 [(8, x17.1)]) x17.2 := kq_draw
theorem res118_0 : resOfFn env.P 118 .ret (act 18 [(8, x8)]) h = some (x8, h) := kq_res
/-- shadowbook/model.put[shadowbook/api.Frozen] -/
noncomputable def F118 (inv : Inv) (k : Nat) (x0 x1 x2 x3 : Value) (h : AH) : Option (Value × AH) :=
    bnd (pSlice Tryz.prog 56 x0 none (some x1) none h) fun x11 =>
    bnd (pSlice Tryz.prog 56 x0 (some x2) none none h) fun x15 =>
    bnd (pBuildSlice Tryz.prog 213 3 #[(0, x11), (1, x3), (2, x15)] h) fun x16 =>
    bnd (inv (.func 150) #[] #[x16.1] x16.2) fun x17 =>
    some (x17.1, x17.2)
theorem F118_eq : eFun env k inv 118 #[x0, x1, x2, x3] h = F118 inv k x0 x1 x2 x3 h := by
      refine (kq_fun (a := act 18 [(0, x0), (1, x1), (2, x2), (3, x3)]) (c := cp c118 1)).trans ?_
      unfold F118
      simp only [kq_seq c118 1, r118_0, kq_seq c118 3, r118_1, kq_ret c118 7, res118_0, reduceIte, reduceCtorEq, XE.exit.injEq, Nat.reduceEqDiff, Nat.reduceMul, Nat.reduceAdd] <;> kernel_rfl
theorem F118_call : eInv env (k + 1) (.func 118) #[] #[x0, x1, x2, x3] h = F118 (eInv env k) k x0 x1 x2 x3 h := kq_inv F118_eq
noncomputable def c119 : Code := codeOf Tryz.prog 119
theorem r119_0  : kCode env 119 false inv k (cp c119 2) (act 36 [(0, x0), (1, x1)]) h K =
    K .normal (act 36 [(0, x0), (1, x1)]) h := kq_reg
theorem r119_1  : kCode env 119 false inv k (cp c119 12) (act 36 [(0, x0), (1, x1)]) h K =
    bnd (pBin Tryz.prog .eql 9 (.tmp 8) (.const (.string { data := #[] })) x1 (.string { data := #[] })) fun x9 =>
    K .normal (act 36 [(0, x0), (1, x1), (9, x9)]) h := kq_reg
theorem b119_rlr  : kCode env 119 false inv k (cp c119 13) (act 36 [(0, x0), (1, x1), (9, x9)]) h K = brV x9 (kCode env 119 false inv k (cp c119 26) (act 36 [(0, x0), (1, x1), (9, x9)]) h K) (kCode env 119 false inv k (cp c119 27) (act 36 [(0, x0), (1, x1), (9, x9)]) h K) := kq_cond
theorem r119_2  : kCode env 119 false inv k (cp c119 52) (act 36 [(0, x0), (1, x1), (9, x9)]) h K =
    bnd (pNilCheck Tryz.prog x0) fun x11 =>
    bnd (pFieldAddr Tryz.prog 85 x11 0) fun x12 =>
    bnd (pFieldAddr Tryz.prog 58 x12 0) fun x13 =>
    bnd (pLoad Tryz.prog 55 x13 h) fun x14 =>
    K .normal (act 36 [(4, x14), (5, (.int .i64 0))]) h := kq_reg
theorem res119_0 : resOfFn env.P 119 .ret (act 36 [(4, x4), (5, x5)]) h = some (.tuple #[x4, x5], h) := kq_res
theorem r119_3  : kCode env 119 false inv k (cp c119 14) (act 36 [(0, x0), (1, x1), (9, x9)]) h K =
    bnd (pNilCheck Tryz.prog x0) fun x17 =>
    bnd (pFieldAddr Tryz.prog 85 x17 0) fun x18 =>
    bnd (pFieldAddr Tryz.prog 58 x18 1) fun x19 =>
    bnd (pLoad Tryz.prog 56 x19 h) fun x20 =>
    bnd (inv (.func 116) #[] #[x20, x1, (.func (.func 117) #[] #[])] h) fun x22 =>
    bnd (pExtract x22.1 0) fun x23 =>
    bnd (pExtract x22.1 1) fun x24 =>
    K .normal (act 36 [(0, x0), (6, x23), (7, x24)]) x22.2 := kq_reg
theorem r119_4  : kCode env 119 false inv k (cp c119 60) (act 36 [(0, x0), (6, x6), (7, x7)]) h K =
    bnd (pUn Tryz.prog .not x7) fun x26 =>
    K .normal (act 36 [(0, x0), (6, x6), (26, x26)]) h := kq_reg
theorem b119_rlrrr  : kCode env 119 false inv k (cp c119 61) (act 36 [(0, x0), (6, x6), (26, x26)]) h K = brV x26 (kCode env 119 false inv k (cp c119 122) (act 36 [(0, x0), (6, x6), (26, x26)]) h K) (kCode env 119 false inv k (cp c119 123) (act 36 [(0, x0), (6, x6), (26, x26)]) h K) := kq_cond
theorem r119_5  : kCode env 119 false inv k (cp c119 244) (act 36 [(0, x0), (6, x6), (26, x26)]) h K =
    K .normal (act 36 [(4, (.slice none 0 0)), (5, (.int .i64 211))]) h := kq_reg
theorem r119_6  : kCode env 119 false inv k (cp c119 62) (act 36 [(0, x0), (6, x6), (26, x26)]) h K =
    bnd (pNilCheck Tryz.prog x0) fun x28 =>
    bnd (pFieldAddr Tryz.prog 85 x28 0) fun x29 =>
    bnd (pFieldAddr Tryz.prog 58 x29 1) fun x30 =>
    bnd (pLoad Tryz.prog 56 x30 h) fun x31 =>
    bnd (pIndexAddr Tryz.prog 56 x31 x6) fun x33 =>
    bnd (pFieldAddr Tryz.prog 81 x33 1) fun x34 =>
    bnd (pLoad Tryz.prog 55 x34 h) fun x35 =>
    K .normal (act 36 [(4, x35), (5, (.int .i64 0))]) h := kq_reg
/-- (*shadowbook/model.Model).tables -/
noncomputable def F119 (inv : Inv) (k : Nat) (x0 x1 : Value) (h : AH) : Option (Value × AH) :=
    bnd (pBin Tryz.prog .eql 9 (.tmp 8) (.const (.string { data := #[] })) x1 (.string { data := #[] })) fun x9 =>
    brV x9
    (bnd (pNilCheck Tryz.prog x0) fun x11 =>
    bnd (pFieldAddr Tryz.prog 85 x11 0) fun x12 =>
    bnd (pFieldAddr Tryz.prog 58 x12 0) fun x13 =>
    bnd (pLoad Tryz.prog 55 x13 h) fun x14 =>
    some (.tuple #[x14, (.int .i64 0)], h))
    (bnd (pNilCheck Tryz.prog x0) fun x17 =>
    bnd (pFieldAddr Tryz.prog 85 x17 0) fun x18 =>
    bnd (pFieldAddr Tryz.prog 58 x18 1) fun x19 =>
    bnd (pLoad Tryz.prog 56 x19 h) fun x20 =>
    bnd (inv (.func 116) #[] #[x20, x1, (.func (.func 117) #[] #[])] h) fun x22 =>
    bnd (pExtract x22.1 0) fun x23 =>
    bnd (pExtract x22.1 1) fun x24 =>
    bnd (pUn Tryz.prog .not x24) fun x26 =>
    brV x26
    (some (.tuple #[(.slice none 0 0), (.int .i64 211)], x22.2))
    (bnd (pNilCheck Tryz.prog x0) fun x28 =>
    bnd (pFieldAddr Tryz.prog 85 x28 0) fun x29 =>
    bnd (pFieldAddr Tryz.prog 58 x29 1) fun x30 =>
    bnd (pLoad Tryz.prog 56 x30 x22.2) fun x31 =>
    bnd (pIndexAddr Tryz.prog 56 x31 x23) fun x33 =>
    bnd (pFieldAddr Tryz.prog 81 x33 1) fun x34 =>
    bnd (pLoad Tryz.prog 55 x34 x22.2) fun x35 =>
    some (.tuple #[x35, (.int .i64 0)], x22.2)))
theorem F119_eq : eFun env k inv 119 #[x0, x1] h = F119 inv k x0 x1 h := by
      refine (kq_fun (a := act 36 [(0, x0), (1, x1)]) (c := cp c119 1)).trans ?_
      unfold F119
      simp only [kq_seq c119 1, r119_0, kq_seq c119 3, kq_seq c119 6, r119_1, b119_rlr, kq_seq c119 26, r119_2, kq_ret c119 53, res119_0, kq_skip c119 27, kq_seq c119 7, r119_3, kq_seq c119 15, kq_seq c119 30, r119_4, b119_rlrrr, kq_seq c119 122, r119_5, kq_ret c119 245, kq_skip c119 123, kq_seq c119 31, r119_6, kq_ret c119 63, reduceIte, reduceCtorEq, XE.exit.injEq, Nat.reduceEqDiff, Nat.reduceMul, Nat.reduceAdd] <;> kernel_rfl
theorem F119_call : eInv env (k + 1) (.func 119) #[] #[x0, x1] h = F119 (eInv env k) k x0 x1 h := kq_inv F119_eq
noncomputable def c121 : Code := codeOf Tryz.prog 121
theorem r121_0  : kCode env 121 false inv k (cp c121 2) (act 18 [(0, x0)]) h K =
    K .normal (act 18 [(0, x0)]) h := kq_reg
theorem r121_1  : kCode env 121 false inv k (cp c121 6) (act 18 [(0, x0)]) h K =
    K .normal (act 18 [(0, x0), (3, (.int .i64 0))]) h := kq_reg
theorem r121_2  : kCode env 121 false inv k (cp c121 28) (act 18 [(0, x0), (3, x3)]) h K =
    bnd (pLen Tryz.prog #[24] x0 h) fun x7 =>
    K .normal (act 18 [(3, x3), (6, x0), (7, x7), (8, (.int .i64 0))]) h := kq_reg
theorem r121_3  : kCode env 121 false inv k (cp c121 232) (act 18 [(3, x3), (6, x6), (7, x7), (8, x8)]) h K =
    bnd (pBin Tryz.prog .lss 3 (.tmp 8) (.tmp 7) x8 x7) fun x9 =>
    K .normal (act 18 [(3, x3), (6, x6), (7, x7), (8, x8), (9, x9)]) h := kq_reg
theorem b121_lrllrlrr  : kCode env 121 false inv k (cp c121 466) (act 18 [(3, x3), (6, x6), (7, x7), (8, x8), (9, x9)]) h K = brV x9 (kCode env 121 false inv k (cp c121 932) (act 18 [(3, x3), (6, x6), (7, x7), (8, x8), (9, x9)]) h K) (kCode env 121 false inv k (cp c121 933) (act 18 [(3, x3), (6, x6), (7, x7), (8, x8), (9, x9)]) h K) := kq_cond
theorem r121_4  : kCode env 121 false inv k (cp c121 3736) (act 18 [(3, x3), (6, x6), (7, x7), (8, x8), (9, x9)]) h K =
    bnd (pIndexAddr Tryz.prog 24 x6 x8) fun x10 =>
    bnd (pLoad Tryz.prog 3 x10 h) fun x11 =>
    K .normal (act 18 [(3, x3), (5, x11), (6, x6), (7, x7), (8, x8)]) h := kq_reg
theorem r121_5  : kCode env 121 false inv k (cp c121 7474) (act 18 [(3, x3), (5, x5), (6, x6), (7, x7), (8, x8)]) h K =
    bnd (pBin Tryz.prog .neq 3 (.tmp 12) (.tmp 13) x5 x3) fun x14 =>
    K .normal (act 18 [(3, x3), (5, x5), (6, x6), (7, x7), (8, x8), (14, x14)]) h := kq_reg
theorem b121_rrllrrllrlrr  : kCode env 121 false inv k (cp c121 7475) (act 18 [(3, x3), (5, x5), (6, x6), (7, x7), (8, x8), (14, x14)]) h K = brV x14 (kCode env 121 false inv k (cp c121 14950) (act 18 [(3, x3), (5, x5), (6, x6), (7, x7), (8, x8), (14, x14)]) h K) (kCode env 121 false inv k (cp c121 14951) (act 18 [(3, x3), (5, x5), (6, x6), (7, x7), (8, x8), (14, x14)]) h K) := kq_cond
theorem r121_6  : kCode env 121 false inv k (cp c121 29900) (act 18 [(3, x3), (5, x5), (6, x6), (7, x7), (8, x8), (14, x14)]) h K =
    K .normal (act 18 [(2, x5)]) h := kq_reg
theorem r121_7  : kCode env 121 false inv k (cp c121 935) (act 18 [(3, x3), (5, x5), (6, x6), (7, x7), (8, x8), (14, x14)]) h K =
    bnd (pBin Tryz.prog .add 3 (.tmp 8) (.const (.int .i64 1)) x8 (.int .i64 1)) fun x16 =>
    K .normal (act 18 [(3, x3), (6, x6), (7, x7), (8, x16)]) h := kq_reg
noncomputable def F121_lrlrr {β : Type} (inv : Inv) (k : Nat) : Nat → Value → Value → Value → Value → AH → (Value → Value → Value → Value → Value → AH → Option β) → (Value → AH → Option β) → Option β
  | 0, _, _, _, _, _, _, _ => none
  | j + 1, x3, x6, x7, x8, h, ke0, kr =>
    bnd (pBin Tryz.prog .lss 3 (.tmp 8) (.tmp 7) x8 x7) fun x9 =>
    brV x9
    (bnd (pIndexAddr Tryz.prog 24 x6 x8) fun x10 =>
    bnd (pLoad Tryz.prog 3 x10 h) fun x11 =>
    bnd (pBin Tryz.prog .neq 3 (.tmp 12) (.tmp 13) x11 x3) fun x14 =>
    brV x14
    (kr x11 h)
    (bnd (pBin Tryz.prog .add 3 (.tmp 8) (.const (.int .i64 1)) x8 (.int .i64 1)) fun x16 =>
    F121_lrlrr inv k j x3 x6 x7 x16 h ke0 kr))
    (ke0 x3 x6 x7 x8 x9 h)
theorem F121_lrlrr_j (j : Nat) : kLoop (kCode env 121 false inv k (cp c121 116)) j (act 18 [(3, x3), (6, x6), (7, x7), (8, x8)]) h K = F121_lrlrr inv k j x3 x6 x7 x8 h (fun y3 y6 y7 y8 y9 h => K (.exit 0) (act 18 [(3, y3), (6, y6), (7, y7), (8, y8), (9, y9)]) h) (fun y2 h => K .ret (act 18 [(2, y2)]) h) := by
      induction j generalizing x3 x6 x7 x8 h with
      | zero => rfl
      | succ j ih =>
        unfold F121_lrlrr
        simp only [kLoop, kq_seq c121 116, r121_3, kq_seq c121 233, b121_lrllrlrr, kq_skip c121 932, kq_seq c121 467, kq_block c121 934 1, kq_seq c121 1868, r121_4, kq_seq c121 3737, r121_5, b121_rrllrrllrlrr, kq_seq c121 14950, r121_6, kq_ret c121 29901, kq_skip c121 14951, r121_7, kq_exit c121 933 0, ih, reduceIte, reduceCtorEq, XE.exit.injEq, Nat.reduceEqDiff, Nat.reduceMul, Nat.reduceAdd] <;> kernel_rfl
theorem F121_lrlrr_eq  : kCode env 121 false inv k (cp c121 58) (act 18 [(3, x3), (6, x6), (7, x7), (8, x8)]) h K = F121_lrlrr inv k k x3 x6 x7 x8 h (fun y3 y6 y7 y8 y9 h => K (.exit 0) (act 18 [(3, y3), (6, y6), (7, y7), (8, y8), (9, y9)]) h) (fun y2 h => K .ret (act 18 [(2, y2)]) h) := kq_loop (F121_lrlrr_j k)
theorem r121_8  : kCode env 121 false inv k (cp c121 30) (act 18 [(3, x3), (6, x6), (7, x7), (8, x8), (9, x9)]) h K =
    K .normal (act 18 [(2, x3)]) h := kq_reg
theorem res121_0 : resOfFn env.P 121 .ret (act 18 [(2, x2)]) h = some (x2, h) := kq_res
/-- cmp.Or[int] -/
noncomputable def F121 (inv : Inv) (k : Nat) (x0 : Value) (h : AH) : Option (Value × AH) :=
    bnd (pLen Tryz.prog #[24] x0 h) fun x7 =>
    F121_lrlrr inv k k (.int .i64 0) x0 x7 (.int .i64 0) h
    (fun y3 y6 y7 y8 y9 h =>
    some (y3, h))
    (fun y2 h_1 =>
    some (y2, h_1))
theorem F121_eq : eFun env k inv 121 #[x0] h = F121 inv k x0 h := by
      refine (kq_fun (a := act 18 [(0, x0)]) (c := cp c121 1)).trans ?_
      unfold F121
      simp only [kq_seq c121 1, r121_0, kq_seq c121 3, r121_1, kq_seq c121 7, kq_seq c121 14, r121_2, kq_block c121 29 0, F121_lrlrr_eq, kq_seq c121 15, r121_8, kq_ret c121 31, res121_0, reduceIte, reduceCtorEq, XE.exit.injEq, Nat.reduceEqDiff, Nat.reduceMul, Nat.reduceAdd] <;> kernel_rfl
theorem F121_call : eInv env (k + 1) (.func 121) #[] #[x0] h = F121 (eInv env k) k x0 h := kq_inv F121_eq
noncomputable def c122 : Code := codeOf Tryz.prog 122
theorem r122_0  : kCode env 122 false inv k (cp c122 2) (act 20 [(0, x0), (1, x1)]) h K =
    K .normal (act 20 [(0, x0), (1, x1)]) h := kq_reg
theorem r122_1  : kCode env 122 false inv k (cp c122 6) (act 20 [(0, x0), (1, x1)]) h K =
    bnd (inv (.func 151) #[] #[x0] h) fun x8 =>
    K .normal (act 20 [(0, x0), (1, x1), (5, x8.1)]) x8.2 := kq_reg
theorem r122_2  : kCode env 122 false inv k (cp c122 14) (act 20 [(0, x0), (1, x1), (5, x5)]) h K =
    bnd (inv (.func 151) #[] #[x1] h) fun x10 =>
    K .normal (act 20 [(0, x0), (1, x1), (5, x5), (6, x10.1)]) x10.2 := kq_reg
theorem r122_3  : kCode env 122 false inv k (cp c122 60) (act 20 [(0, x0), (1, x1), (5, x5), (6, x6)]) h K =
    K .normal (act 20 [(0, x0), (1, x1), (6, x6), (11, x5)]) h := kq_reg
theorem b122_rlrrr  : kCode env 122 false inv k (cp c122 61) (act 20 [(0, x0), (1, x1), (6, x6), (11, x11)]) h K = brV x11 (kCode env 122 false inv k (cp c122 122) (act 20 [(0, x0), (1, x1), (6, x6), (11, x11)]) h K) (kCode env 122 false inv k (cp c122 123) (act 20 [(0, x0), (1, x1), (6, x6), (11, x11)]) h K) := kq_cond
theorem r122_4  : kCode env 122 false inv k (cp c122 488) (act 20 [(0, x0), (1, x1), (6, x6), (11, x11)]) h K =
    K .normal (act 20 [(12, x6)]) h := kq_reg
theorem b122_rllrlrrr  : kCode env 122 false inv k (cp c122 489) (act 20 [(12, x12)]) h K = brV x12 (kCode env 122 false inv k (cp c122 978) (act 20 [(12, x12)]) h K) (kCode env 122 false inv k (cp c122 979) (act 20 [(12, x12)]) h K) := kq_cond
theorem r122_5  : kCode env 122 false inv k (cp c122 1956) (act 20 [(12, x12)]) h K =
    K .normal (act 20 [(4, (.int .i64 0))]) h := kq_reg
theorem res122_0 : resOfFn env.P 122 .ret (act 20 [(4, x4)]) h = some (x4, h) := kq_res
theorem r122_6  : kCode env 122 false inv k (cp c122 490) (act 20 [(12, x12)]) h K =
    K .normal (act 20 [(4, (.int .i64 (-1)))]) h := kq_reg
theorem r122_7  : kCode env 122 false inv k (cp c122 124) (act 20 [(0, x0), (1, x1), (6, x6), (11, x11)]) h K =
    K .normal (act 20 [(0, x0), (1, x1), (13, x6)]) h := kq_reg
theorem b122_rlrrrr  : kCode env 122 false inv k (cp c122 125) (act 20 [(0, x0), (1, x1), (13, x13)]) h K = brV x13 (kCode env 122 false inv k (cp c122 250) (act 20 [(0, x0), (1, x1), (13, x13)]) h K) (kCode env 122 false inv k (cp c122 251) (act 20 [(0, x0), (1, x1), (13, x13)]) h K) := kq_cond
theorem r122_8  : kCode env 122 false inv k (cp c122 500) (act 20 [(0, x0), (1, x1), (13, x13)]) h K =
    K .normal (act 20 [(4, (.int .i64 1))]) h := kq_reg
theorem r122_9  : kCode env 122 false inv k (cp c122 252) (act 20 [(0, x0), (1, x1), (13, x13)]) h K =
    bnd (pBin Tryz.prog .lss 3 (.tmp 14) (.tmp 15) x0 x1) fun x16 =>
    K .normal (act 20 [(0, x0), (1, x1), (16, x16)]) h := kq_reg
theorem b122_rlrrrrr  : kCode env 122 false inv k (cp c122 253) (act 20 [(0, x0), (1, x1), (16, x16)]) h K = brV x16 (kCode env 122 false inv k (cp c122 506) (act 20 [(0, x0), (1, x1), (16, x16)]) h K) (kCode env 122 false inv k (cp c122 507) (act 20 [(0, x0), (1, x1), (16, x16)]) h K) := kq_cond
theorem r122_10  : kCode env 122 false inv k (cp c122 1012) (act 20 [(0, x0), (1, x1), (16, x16)]) h K =
    K .normal (act 20 [(4, (.int .i64 (-1)))]) h := kq_reg
theorem r122_11  : kCode env 122 false inv k (cp c122 508) (act 20 [(0, x0), (1, x1), (16, x16)]) h K =
    bnd (pBin Tryz.prog .gtr 3 (.tmp 17) (.tmp 18) x0 x1) fun x19 =>
    K .normal (act 20 [(19, x19)]) h := kq_reg
theorem b122_rlrrrrrr  : kCode env 122 false inv k (cp c122 509) (act 20 [(19, x19)]) h K = brV x19 (kCode env 122 false inv k (cp c122 1018) (act 20 [(19, x19)]) h K) (kCode env 122 false inv k (cp c122 1019) (act 20 [(19, x19)]) h K) := kq_cond
theorem r122_12  : kCode env 122 false inv k (cp c122 2036) (act 20 [(19, x19)]) h K =
    K .normal (act 20 [(4, (.int .i64 1))]) h := kq_reg
theorem r122_13  : kCode env 122 false inv k (cp c122 510) (act 20 [(19, x19)]) h K =
    K .normal (act 20 [(4, (.int .i64 0))]) h := kq_reg
/-- cmp.Compare[int] -/
noncomputable def F122 (inv : Inv) (k : Nat) (x0 x1 : Value) (h : AH) : Option (Value × AH) :=
    bnd (inv (.func 151) #[] #[x0] h) fun x8 =>
    bnd (inv (.func 151) #[] #[x1] x8.2) fun x10 =>
    brV x8.1
    (brV x10.1
    (some ((.int .i64 0), x10.2))
    (some ((.int .i64 (-1)), x10.2)))
    (brV x10.1
    (some ((.int .i64 1), x10.2))
    (bnd (pBin Tryz.prog .lss 3 (.tmp 14) (.tmp 15) x0 x1) fun x16 =>
    brV x16
    (some ((.int .i64 (-1)), x10.2))
    (bnd (pBin Tryz.prog .gtr 3 (.tmp 17) (.tmp 18) x0 x1) fun x19 =>
    brV x19
    (some ((.int .i64 1), x10.2))
    (some ((.int .i64 0), x10.2)))))
theorem F122_eq : eFun env k inv 122 #[x0, x1] h = F122 inv k x0 x1 h := by
      refine (kq_fun (a := act 20 [(0, x0), (1, x1)]) (c := cp c122 1)).trans ?_
      unfold F122
      simp only [kq_seq c122 1, r122_0, kq_seq c122 3, r122_1, kq_seq c122 7, r122_2, kq_seq c122 15, kq_seq c122 30, r122_3, b122_rlrrr, kq_seq c122 122, kq_seq c122 244, r122_4, b122_rllrlrrr, kq_seq c122 978, r122_5, kq_ret c122 1957, res122_0, kq_skip c122 979, kq_seq c122 245, r122_6, kq_ret c122 491, kq_skip c122 123, kq_seq c122 31, kq_seq c122 62, r122_7, b122_rlrrrr, kq_seq c122 250, r122_8, kq_ret c122 501, kq_skip c122 251, kq_seq c122 63, kq_seq c122 126, r122_9, b122_rlrrrrr, kq_seq c122 506, r122_10, kq_ret c122 1013, kq_skip c122 507, kq_seq c122 127, kq_seq c122 254, r122_11, b122_rlrrrrrr, kq_seq c122 1018, r122_12, kq_ret c122 2037, kq_skip c122 1019, kq_seq c122 255, r122_13, kq_ret c122 511, reduceIte, reduceCtorEq, XE.exit.injEq, Nat.reduceEqDiff, Nat.reduceMul, Nat.reduceAdd] <;> kernel_rfl
theorem F122_call : eInv env (k + 1) (.func 122) #[] #[x0, x1] h = F122 (eInv env k) k x0 x1 h := kq_inv F122_eq
noncomputable def c123 : Code := codeOf Tryz.prog 123
theorem r123_0  : kCode env 123 false inv k (cp c123 2) (act 20 [(0, x0), (1, x1)]) h K =
    K .normal (act 20 [(0, x0), (1, x1)]) h := kq_reg
theorem r123_1  : kCode env 123 false inv k (cp c123 6) (act 20 [(0, x0), (1, x1)]) h K =
    bnd (inv (.func 152) #[] #[x0] h) fun x8 =>
    K .normal (act 20 [(0, x0), (1, x1), (5, x8.1)]) x8.2 := kq_reg
theorem r123_2  : kCode env 123 false inv k (cp c123 14) (act 20 [(0, x0), (1, x1), (5, x5)]) h K =
    bnd (inv (.func 152) #[] #[x1] h) fun x10 =>
    K .normal (act 20 [(0, x0), (1, x1), (5, x5), (6, x10.1)]) x10.2 := kq_reg
theorem r123_3  : kCode env 123 false inv k (cp c123 60) (act 20 [(0, x0), (1, x1), (5, x5), (6, x6)]) h K =
    K .normal (act 20 [(0, x0), (1, x1), (6, x6), (11, x5)]) h := kq_reg
theorem b123_rlrrr  : kCode env 123 false inv k (cp c123 61) (act 20 [(0, x0), (1, x1), (6, x6), (11, x11)]) h K = brV x11 (kCode env 123 false inv k (cp c123 122) (act 20 [(0, x0), (1, x1), (6, x6), (11, x11)]) h K) (kCode env 123 false inv k (cp c123 123) (act 20 [(0, x0), (1, x1), (6, x6), (11, x11)]) h K) := kq_cond
theorem r123_4  : kCode env 123 false inv k (cp c123 488) (act 20 [(0, x0), (1, x1), (6, x6), (11, x11)]) h K =
    K .normal (act 20 [(12, x6)]) h := kq_reg
theorem b123_rllrlrrr  : kCode env 123 false inv k (cp c123 489) (act 20 [(12, x12)]) h K = brV x12 (kCode env 123 false inv k (cp c123 978) (act 20 [(12, x12)]) h K) (kCode env 123 false inv k (cp c123 979) (act 20 [(12, x12)]) h K) := kq_cond
theorem r123_5  : kCode env 123 false inv k (cp c123 1956) (act 20 [(12, x12)]) h K =
    K .normal (act 20 [(4, (.int .i64 0))]) h := kq_reg
theorem res123_0 : resOfFn env.P 123 .ret (act 20 [(4, x4)]) h = some (x4, h) := kq_res
theorem r123_6  : kCode env 123 false inv k (cp c123 490) (act 20 [(12, x12)]) h K =
    K .normal (act 20 [(4, (.int .i64 (-1)))]) h := kq_reg
theorem r123_7  : kCode env 123 false inv k (cp c123 124) (act 20 [(0, x0), (1, x1), (6, x6), (11, x11)]) h K =
    K .normal (act 20 [(0, x0), (1, x1), (13, x6)]) h := kq_reg
theorem b123_rlrrrr  : kCode env 123 false inv k (cp c123 125) (act 20 [(0, x0), (1, x1), (13, x13)]) h K = brV x13 (kCode env 123 false inv k (cp c123 250) (act 20 [(0, x0), (1, x1), (13, x13)]) h K) (kCode env 123 false inv k (cp c123 251) (act 20 [(0, x0), (1, x1), (13, x13)]) h K) := kq_cond
theorem r123_8  : kCode env 123 false inv k (cp c123 500) (act 20 [(0, x0), (1, x1), (13, x13)]) h K =
    K .normal (act 20 [(4, (.int .i64 1))]) h := kq_reg
theorem r123_9  : kCode env 123 false inv k (cp c123 252) (act 20 [(0, x0), (1, x1), (13, x13)]) h K =
    bnd (pBin Tryz.prog .lss 2 (.tmp 14) (.tmp 15) x0 x1) fun x16 =>
    K .normal (act 20 [(0, x0), (1, x1), (16, x16)]) h := kq_reg
theorem b123_rlrrrrr  : kCode env 123 false inv k (cp c123 253) (act 20 [(0, x0), (1, x1), (16, x16)]) h K = brV x16 (kCode env 123 false inv k (cp c123 506) (act 20 [(0, x0), (1, x1), (16, x16)]) h K) (kCode env 123 false inv k (cp c123 507) (act 20 [(0, x0), (1, x1), (16, x16)]) h K) := kq_cond
theorem r123_10  : kCode env 123 false inv k (cp c123 1012) (act 20 [(0, x0), (1, x1), (16, x16)]) h K =
    K .normal (act 20 [(4, (.int .i64 (-1)))]) h := kq_reg
theorem r123_11  : kCode env 123 false inv k (cp c123 508) (act 20 [(0, x0), (1, x1), (16, x16)]) h K =
    bnd (pBin Tryz.prog .gtr 2 (.tmp 17) (.tmp 18) x0 x1) fun x19 =>
    K .normal (act 20 [(19, x19)]) h := kq_reg
theorem b123_rlrrrrrr  : kCode env 123 false inv k (cp c123 509) (act 20 [(19, x19)]) h K = brV x19 (kCode env 123 false inv k (cp c123 1018) (act 20 [(19, x19)]) h K) (kCode env 123 false inv k (cp c123 1019) (act 20 [(19, x19)]) h K) := kq_cond
theorem r123_12  : kCode env 123 false inv k (cp c123 2036) (act 20 [(19, x19)]) h K =
    K .normal (act 20 [(4, (.int .i64 1))]) h := kq_reg
theorem r123_13  : kCode env 123 false inv k (cp c123 510) (act 20 [(19, x19)]) h K =
    K .normal (act 20 [(4, (.int .i64 0))]) h := kq_reg
/-- cmp.Compare[int64] -/
noncomputable def F123 (inv : Inv) (k : Nat) (x0 x1 : Value) (h : AH) : Option (Value × AH) :=
    bnd (inv (.func 152) #[] #[x0] h) fun x8 =>
    bnd (inv (.func 152) #[] #[x1] x8.2) fun x10 =>
    brV x8.1
    (brV x10.1
    (some ((.int .i64 0), x10.2))
    (some ((.int .i64 (-1)), x10.2)))
    (brV x10.1
    (some ((.int .i64 1), x10.2))
    (bnd (pBin Tryz.prog .lss 2 (.tmp 14) (.tmp 15) x0 x1) fun x16 =>
    brV x16
    (some ((.int .i64 (-1)), x10.2))
    (bnd (pBin Tryz.prog .gtr 2 (.tmp 17) (.tmp 18) x0 x1) fun x19 =>
    brV x19
    (some ((.int .i64 1), x10.2))
    (some ((.int .i64 0), x10.2)))))
theorem F123_eq : eFun env k inv 123 #[x0, x1] h = F123 inv k x0 x1 h := by
      refine (kq_fun (a := act 20 [(0, x0), (1, x1)]) (c := cp c123 1)).trans ?_
      unfold F123
      simp only [kq_seq c123 1, r123_0, kq_seq c123 3, r123_1, kq_seq c123 7, r123_2, kq_seq c123 15, kq_seq c123 30, r123_3, b123_rlrrr, kq_seq c123 122, kq_seq c123 244, r123_4, b123_rllrlrrr, kq_seq c123 978, r123_5, kq_ret c123 1957, res123_0, kq_skip c123 979, kq_seq c123 245, r123_6, kq_ret c123 491, kq_skip c123 123, kq_seq c123 31, kq_seq c123 62, r123_7, b123_rlrrrr, kq_seq c123 250, r123_8, kq_ret c123 501, kq_skip c123 251, kq_seq c123 63, kq_seq c123 126, r123_9, b123_rlrrrrr, kq_seq c123 506, r123_10, kq_ret c123 1013, kq_skip c123 507, kq_seq c123 127, kq_seq c123 254, r123_11, b123_rlrrrrrr, kq_seq c123 1018, r123_12, kq_ret c123 2037, kq_skip c123 1019, kq_seq c123 255, r123_13, kq_ret c123 511, reduceIte, reduceCtorEq, XE.exit.injEq, Nat.reduceEqDiff, Nat.reduceMul, Nat.reduceAdd] <;> kernel_rfl
theorem F123_call : eInv env (k + 1) (.func 123) #[] #[x0, x1] h = F123 (eInv env k) k x0 x1 h := kq_inv F123_eq
noncomputable def c124 : Code := codeOf Tryz.prog 124
theorem r124_0  : kCode env 124 false inv k (cp c124 2) (act 8 [(0, x0), (1, x1)]) h K =
    K .normal (act 8 [(0, x0), (1, x1)]) h := kq_reg
theorem r124_1  : kCode env 124 false inv k (cp c124 6) (act 8 [(0, x0), (1, x1)]) h K =
    bnd (inv (.func 153) #[] #[x0, x1] h) fun x7 =>
    K .normal (act 8 [(4, x7.1)]) x7.2 := kq_reg
theorem res124_0 : resOfFn env.P 124 .ret (act 8 [(4, x4)]) h = some (x4, h) := kq_res
/-- strings.Compare -/
noncomputable def F124 (inv : Inv) (k : Nat) (x0 x1 : Value) (h : AH) : Option (Value × AH) :=
    bnd (inv (.func 153) #[] #[x0, x1] h) fun x7 =>
    some (x7.1, x7.2)
theorem F124_eq : eFun env k inv 124 #[x0, x1] h = F124 inv k x0 x1 h := by
      refine (kq_fun (a := act 8 [(0, x0), (1, x1)]) (c := cp c124 1)).trans ?_
      unfold F124
      simp only [kq_seq c124 1, r124_0, kq_seq c124 3, r124_1, kq_ret c124 7, res124_0, reduceIte, reduceCtorEq, XE.exit.injEq, Nat.reduceEqDiff, Nat.reduceMul, Nat.reduceAdd] <;> kernel_rfl
theorem F124_call : eInv env (k + 1) (.func 124) #[] #[x0, x1] h = F124 (eInv env k) k x0 x1 h := kq_inv F124_eq
noncomputable def c125 : Code := codeOf Tryz.prog 125
theorem r125_0  : kCode env 125 false inv k (cp c125 2) (act 8 [(0, x0)]) h K =
    K .normal (act 8 [(0, x0)]) h := kq_reg
theorem r125_1  : kCode env 125 false inv k (cp c125 12) (act 8 [(0, x0)]) h K =
    bnd (pBin Tryz.prog .eql 55 (.tmp 3) (.const (.slice none 0 0)) x0 (.slice none 0 0)) fun x4 =>
    K .normal (act 8 [(0, x0), (4, x4)]) h := kq_reg
theorem b125_rlr  : kCode env 125 false inv k (cp c125 13) (act 8 [(0, x0), (4, x4)]) h K = brV x4 (kCode env 125 false inv k (cp c125 26) (act 8 [(0, x0), (4, x4)]) h K) (kCode env 125 false inv k (cp c125 27) (act 8 [(0, x0), (4, x4)]) h K) := kq_cond
theorem r125_2  : kCode env 125 false inv k (cp c125 52) (act 8 [(0, x0), (4, x4)]) h K =
    K .normal (act 8 [(2, (.slice none 0 0))]) h := kq_reg
theorem res125_0 : resOfFn env.P 125 .ret (act 8 [(2, x2)]) h = some (x2, h) := kq_res
theorem r125_3  : kCode env 125 false inv k (cp c125 14) (act 8 [(0, x0), (4, x4)]) h K =
    bnd (pBuildSlice Tryz.prog 55 0 #[] h) fun x5 =>
    bnd (pAppend Tryz.prog #[55, 55] x5.1 x0 x5.2) fun x7 =>
    K .normal (act 8 [(2, x7.1)]) x7.2 := kq_reg
/-- slices.Clone[[]shadowbook/api.Table,shadowbook/api.Table] -/
noncomputable def F125 (inv : Inv) (k : Nat) (x0 : Value) (h : AH) : Option (Value × AH) :=
    bnd (pBin Tryz.prog .eql 55 (.tmp 3) (.const (.slice none 0 0)) x0 (.slice none 0 0)) fun x4 =>
    brV x4
    (some ((.slice none 0 0), h))
    (bnd (pBuildSlice Tryz.prog 55 0 #[] h) fun x5 =>
    bnd (pAppend Tryz.prog #[55, 55] x5.1 x0 x5.2) fun x7 =>
    some (x7.1, x7.2))
theorem F125_eq : eFun env k inv 125 #[x0] h = F125 inv k x0 h := by
      refine (kq_fun (a := act 8 [(0, x0)]) (c := cp c125 1)).trans ?_
      unfold F125
      simp only [kq_seq c125 1, r125_0, kq_seq c125 3, kq_seq c125 6, r125_1, b125_rlr, kq_seq c125 26, r125_2, kq_ret c125 53, res125_0, kq_skip c125 27, kq_seq c125 7, r125_3, kq_ret c125 15, reduceIte, reduceCtorEq, XE.exit.injEq, Nat.reduceEqDiff, Nat.reduceMul, Nat.reduceAdd] <;> kernel_rfl
theorem F125_call : eInv env (k + 1) (.func 125) #[] #[x0] h = F125 (eInv env k) k x0 h := kq_inv F125_eq
noncomputable def c126 : Code := codeOf Tryz.prog 126
theorem r126_0  : kCode env 126 false inv k (cp c126 2) (act 19 [(0, x0)]) h K =
    K .normal (act 19 [(0, x0)]) h := kq_reg
theorem r126_1  : kCode env 126 false inv k (cp c126 6) (act 19 [(0, x0)]) h K =
    K .normal (act 19 [(0, x0), (3, (.slice none 0 0))]) h := kq_reg
theorem r126_2  : kCode env 126 false inv k (cp c126 28) (act 19 [(0, x0), (3, x3)]) h K =
    bnd (pLen Tryz.prog #[31] x0 h) fun x7 =>
    K .normal (act 19 [(3, x3), (6, x0), (7, x7), (8, (.int .i64 0))]) h := kq_reg
theorem r126_3  : kCode env 126 false inv k (cp c126 232) (act 19 [(3, x3), (6, x6), (7, x7), (8, x8)]) h K =
    bnd (pBin Tryz.prog .lss 3 (.tmp 8) (.tmp 7) x8 x7) fun x9 =>
    K .normal (act 19 [(3, x3), (6, x6), (7, x7), (8, x8), (9, x9)]) h := kq_reg
theorem b126_lrllrlrr  : kCode env 126 false inv k (cp c126 466) (act 19 [(3, x3), (6, x6), (7, x7), (8, x8), (9, x9)]) h K = brV x9 (kCode env 126 false inv k (cp c126 932) (act 19 [(3, x3), (6, x6), (7, x7), (8, x8), (9, x9)]) h K) (kCode env 126 false inv k (cp c126 933) (act 19 [(3, x3), (6, x6), (7, x7), (8, x8), (9, x9)]) h K) := kq_cond
theorem r126_4  : kCode env 126 false inv k (cp c126 3736) (act 19 [(3, x3), (6, x6), (7, x7), (8, x8), (9, x9)]) h K =
    bnd (pIndexAddr Tryz.prog 31 x6 x8) fun x10 =>
    bnd (pLoad Tryz.prog 45 x10 h) fun x11 =>
    K .normal (act 19 [(3, x3), (5, x11), (6, x6), (7, x7), (8, x8)]) h := kq_reg
theorem r126_5  : kCode env 126 false inv k (cp c126 3737) (act 19 [(3, x3), (5, x5), (6, x6), (7, x7), (8, x8)]) h K =
    bnd (inv (.func 154) #[] #[x5] h) fun x14 =>
    bnd (pBuildSlice Tryz.prog 31 1 #[(0, x14.1)] x14.2) fun x15 =>
    bnd (pAppend Tryz.prog #[31, 31] x3 x15.1 x15.2) fun x16 =>
    K .normal (act 19 [(3, x16.1), (6, x6), (7, x7), (8, x8)]) x16.2 := kq_reg
theorem r126_6  : kCode env 126 false inv k (cp c126 935) (act 19 [(3, x3), (6, x6), (7, x7), (8, x8)]) h K =
    bnd (pBin Tryz.prog .add 3 (.tmp 8) (.const (.int .i64 1)) x8 (.int .i64 1)) fun x17 =>
    K .normal (act 19 [(3, x3), (6, x6), (7, x7), (8, x17)]) h := kq_reg
noncomputable def F126_lrlrr {β : Type} (inv : Inv) (k : Nat) : Nat → Value → Value → Value → Value → AH → (Value → Value → Value → Value → Value → AH → Option β) → Option β
  | 0, _, _, _, _, _, _ => none
  | j + 1, x3, x6, x7, x8, h, ke0 =>
    bnd (pBin Tryz.prog .lss 3 (.tmp 8) (.tmp 7) x8 x7) fun x9 =>
    brV x9
    (bnd (pIndexAddr Tryz.prog 31 x6 x8) fun x10 =>
    bnd (pLoad Tryz.prog 45 x10 h) fun x11 =>
    bnd (inv (.func 154) #[] #[x11] h) fun x14 =>
    bnd (pBuildSlice Tryz.prog 31 1 #[(0, x14.1)] x14.2) fun x15 =>
    bnd (pAppend Tryz.prog #[31, 31] x3 x15.1 x15.2) fun x16 =>
    bnd (pBin Tryz.prog .add 3 (.tmp 8) (.const (.int .i64 1)) x8 (.int .i64 1)) fun x17 =>
    F126_lrlrr inv k j x16.1 x6 x7 x17 x16.2 ke0)
    (ke0 x3 x6 x7 x8 x9 h)
theorem F126_lrlrr_j (j : Nat) : kLoop (kCode env 126 false inv k (cp c126 116)) j (act 19 [(3, x3), (6, x6), (7, x7), (8, x8)]) h K = F126_lrlrr inv k j x3 x6 x7 x8 h (fun y3 y6 y7 y8 y9 h => K (.exit 0) (act 19 [(3, y3), (6, y6), (7, y7), (8, y8), (9, y9)]) h) := by
      induction j generalizing x3 x6 x7 x8 h with
      | zero => rfl
      | succ j ih =>
        unfold F126_lrlrr
        simp only [kLoop, kq_seq c126 116, r126_3, kq_seq c126 233, b126_lrllrlrr, kq_skip c126 932, kq_seq c126 467, kq_block c126 934 1, kq_seq c126 1868, r126_4, r126_5, r126_6, kq_exit c126 933 0, ih, reduceIte, reduceCtorEq, XE.exit.injEq, Nat.reduceEqDiff, Nat.reduceMul, Nat.reduceAdd] <;> kernel_rfl
theorem F126_lrlrr_eq  : kCode env 126 false inv k (cp c126 58) (act 19 [(3, x3), (6, x6), (7, x7), (8, x8)]) h K = F126_lrlrr inv k k x3 x6 x7 x8 h (fun y3 y6 y7 y8 y9 h => K (.exit 0) (act 19 [(3, y3), (6, y6), (7, y7), (8, y8), (9, y9)]) h) := kq_loop (F126_lrlrr_j k)
theorem r126_7  : kCode env 126 false inv k (cp c126 30) (act 19 [(3, x3), (6, x6), (7, x7), (8, x8), (9, x9)]) h K =
    K .normal (act 19 [(2, x3)]) h := kq_reg
theorem res126_0 : resOfFn env.P 126 .ret (act 19 [(2, x2)]) h = some (x2, h) := kq_res
/-- shadowbook/batch.Copy -/
noncomputable def F126 (inv : Inv) (k : Nat) (x0 : Value) (h : AH) : Option (Value × AH) :=
    bnd (pLen Tryz.prog #[31] x0 h) fun x7 =>
    F126_lrlrr inv k k (.slice none 0 0) x0 x7 (.int .i64 0) h
    (fun y3 y6 y7 y8 y9 h =>
    some (y3, h))
theorem F126_eq : eFun env k inv 126 #[x0] h = F126 inv k x0 h := by
      refine (kq_fun (a := act 19 [(0, x0)]) (c := cp c126 1)).trans ?_
      unfold F126
      simp only [kq_seq c126 1, r126_0, kq_seq c126 3, r126_1, kq_seq c126 7, kq_seq c126 14, r126_2, kq_block c126 29 0, F126_lrlrr_eq, kq_seq c126 15, r126_7, kq_ret c126 31, res126_0, reduceIte, reduceCtorEq, XE.exit.injEq, Nat.reduceEqDiff, Nat.reduceMul, Nat.reduceAdd] <;> kernel_rfl
theorem F126_call : eInv env (k + 1) (.func 126) #[] #[x0] h = F126 (eInv env k) k x0 h := kq_inv F126_eq
noncomputable def c127 : Code := codeOf Tryz.prog 127
theorem r127_0  : kCode env 127 false inv k (cp c127 2) (act 9 [(0, x0), (1, x1)]) h K =
    K .normal (act 9 [(0, x0), (1, x1)]) h := kq_reg
theorem r127_1  : kCode env 127 false inv k (cp c127 6) (act 9 [(0, x0), (1, x1)]) h K =
    bnd (inv (.func 43) #[] #[x0, x1] h) fun x7 =>
    bnd (pBin Tryz.prog .eql 3 (.tmp 7) (.const (.int .i64 0)) x7.1 (.int .i64 0)) fun x8 =>
    K .normal (act 9 [(4, x8)]) x7.2 := kq_reg
theorem res127_0 : resOfFn env.P 127 .ret (act 9 [(4, x4)]) h = some (x4, h) := kq_res
/-- shadowbook/batch.Same$1 -/
noncomputable def F127 (inv : Inv) (k : Nat) (x0 x1 : Value) (h : AH) : Option (Value × AH) :=
    bnd (inv (.func 43) #[] #[x0, x1] h) fun x7 =>
    bnd (pBin Tryz.prog .eql 3 (.tmp 7) (.const (.int .i64 0)) x7.1 (.int .i64 0)) fun x8 =>
    some (x8, x7.2)
theorem F127_eq : eFun env k inv 127 #[x0, x1] h = F127 inv k x0 x1 h := by
      refine (kq_fun (a := act 9 [(0, x0), (1, x1)]) (c := cp c127 1)).trans ?_
      unfold F127
      simp only [kq_seq c127 1, r127_0, kq_seq c127 3, r127_1, kq_ret c127 7, res127_0, reduceIte, reduceCtorEq, XE.exit.injEq, Nat.reduceEqDiff, Nat.reduceMul, Nat.reduceAdd] <;> kernel_rfl
theorem F127_call : eInv env (k + 1) (.func 127) #[] #[x0, x1] h = F127 (eInv env k) k x0 x1 h := kq_inv F127_eq
noncomputable def c134 : Code := codeOf Tryz.prog 134
theorem r134_0  : kCode env 134 false inv k (cp c134 2) (act 9 [(0, x0), (1, x1)]) h K =
    K .normal (act 9 [(0, x0), (1, x1)]) h := kq_reg
theorem r134_1  : kCode env 134 false inv k (cp c134 6) (act 9 [(0, x0), (1, x1)]) h K =
    bnd (inv (.func 159) #[] #[x0, x1] h) fun x7 =>
    bnd (pBin Tryz.prog .geq 3 (.tmp 7) (.const (.int .i64 0)) x7.1 (.int .i64 0)) fun x8 =>
    K .normal (act 9 [(4, x8)]) x7.2 := kq_reg
theorem res134_0 : resOfFn env.P 134 .ret (act 9 [(4, x4)]) h = some (x4, h) := kq_res
/-- slices.ContainsFunc[[]shadowbook/api.Col,shadowbook/api.Col] -/
noncomputable def F134 (inv : Inv) (k : Nat) (x0 x1 : Value) (h : AH) : Option (Value × AH) :=
    bnd (inv (.func 159) #[] #[x0, x1] h) fun x7 =>
    bnd (pBin Tryz.prog .geq 3 (.tmp 7) (.const (.int .i64 0)) x7.1 (.int .i64 0)) fun x8 =>
    some (x8, x7.2)
theorem F134_eq : eFun env k inv 134 #[x0, x1] h = F134 inv k x0 x1 h := by
      refine (kq_fun (a := act 9 [(0, x0), (1, x1)]) (c := cp c134 1)).trans ?_
      unfold F134
      simp only [kq_seq c134 1, r134_0, kq_seq c134 3, r134_1, kq_ret c134 7, res134_0, reduceIte, reduceCtorEq, XE.exit.injEq, Nat.reduceEqDiff, Nat.reduceMul, Nat.reduceAdd] <;> kernel_rfl
theorem F134_call : eInv env (k + 1) (.func 134) #[] #[x0, x1] h = F134 (eInv env k) k x0 x1 h := kq_inv F134_eq
noncomputable def c135 : Code := codeOf Tryz.prog 135
theorem r135_0  : kCode env 135 false inv k (cp c135 2) (act 9 [(0, x0), (1, x1)]) h K =
    bnd (pBox Tryz.prog 118 x0 h) fun x2 =>
    K .normal (act 9 [(1, x1), (2, x2.1)]) x2.2 := kq_reg
theorem r135_1  : kCode env 135 false inv k (cp c135 6) (act 9 [(1, x1), (2, x2)]) h K =
    bnd (pFieldAddr Tryz.prog 118 x2 0) fun x4 =>
    bnd (pLoad Tryz.prog 9 x4 h) fun x5 =>
    bnd (pFieldAddr Tryz.prog 118 x1 0) fun x6 =>
    bnd (pLoad Tryz.prog 9 x6 h) fun x7 =>
    bnd (pBin Tryz.prog .eql 9 (.tmp 5) (.tmp 7) x5 x7) fun x8 =>
    K .normal (act 9 [(3, x8)]) h := kq_reg
theorem res135_0 : resOfFn env.P 135 .ret (act 9 [(3, x3)]) h = some (x3, h) := kq_res
/-- shadowbook/schema.Check$1 -/
noncomputable def F135 (inv : Inv) (k : Nat) (x0 x1 : Value) (h : AH) : Option (Value × AH) :=
    bnd (pBox Tryz.prog 118 x0 h) fun x2 =>
    bnd (pFieldAddr Tryz.prog 118 x2.1 0) fun x4 =>
    bnd (pLoad Tryz.prog 9 x4 x2.2) fun x5 =>
    bnd (pFieldAddr Tryz.prog 118 x1 0) fun x6 =>
    bnd (pLoad Tryz.prog 9 x6 x2.2) fun x7 =>
    bnd (pBin Tryz.prog .eql 9 (.tmp 5) (.tmp 7) x5 x7) fun x8 =>
    some (x8, x2.2)
theorem F135_eq : eFun env k inv 135 #[x0, x1] h = F135 inv k x0 x1 h := by
      refine (kq_fun (a := act 9 [(0, x0), (1, x1)]) (c := cp c135 1)).trans ?_
      unfold F135
      simp only [kq_seq c135 1, r135_0, kq_seq c135 3, r135_1, kq_ret c135 7, res135_0, reduceIte, reduceCtorEq, XE.exit.injEq, Nat.reduceEqDiff, Nat.reduceMul, Nat.reduceAdd] <;> kernel_rfl
theorem F135_call : eInv env (k + 1) (.func 135) #[] #[x0, x1] h = F135 (eInv env k) k x0 x1 h := kq_inv F135_eq
noncomputable def c136 : Code := codeOf Tryz.prog 136
theorem r136_0  : kCode env 136 false inv k (cp c136 2) (act 36 [(0, x0)]) h K =
    K .normal (act 36 [(0, x0)]) h := kq_reg
theorem r136_1  : kCode env 136 false inv k (cp c136 6) (act 36 [(0, x0)]) h K =
    K .normal (act 36 [(0, x0), (3, (.int .i64 0))]) h := kq_reg
theorem r136_2  : kCode env 136 false inv k (cp c136 28) (act 36 [(0, x0), (3, x3)]) h K =
    bnd (pLen Tryz.prog #[180] x0 h) fun x10 =>
    K .normal (act 36 [(0, x0), (3, x3), (9, x0), (10, x10), (11, (.int .i64 0))]) h := kq_reg
theorem r136_3  : kCode env 136 false inv k (cp c136 232) (act 36 [(0, x0), (3, x3), (9, x9), (10, x10), (11, x11)]) h K =
    bnd (pBin Tryz.prog .lss 3 (.tmp 11) (.tmp 10) x11 x10) fun x12 =>
    K .normal (act 36 [(0, x0), (3, x3), (9, x9), (10, x10), (11, x11), (12, x12)]) h := kq_reg
theorem b136_lrllrlrr  : kCode env 136 false inv k (cp c136 466) (act 36 [(0, x0), (3, x3), (9, x9), (10, x10), (11, x11), (12, x12)]) h K = brV x12 (kCode env 136 false inv k (cp c136 932) (act 36 [(0, x0), (3, x3), (9, x9), (10, x10), (11, x11), (12, x12)]) h K) (kCode env 136 false inv k (cp c136 933) (act 36 [(0, x0), (3, x3), (9, x9), (10, x10), (11, x11), (12, x12)]) h K) := kq_cond
theorem r136_4  : kCode env 136 false inv k (cp c136 3736) (act 36 [(0, x0), (3, x3), (9, x9), (10, x10), (11, x11), (12, x12)]) h K =
    bnd (pIndexAddr Tryz.prog 180 x9 x11) fun x13 =>
    bnd (pLoad Tryz.prog 55 x13 h) fun x14 =>
    K .normal (act 36 [(0, x0), (3, x3), (5, x14), (9, x9), (10, x10), (11, x11)]) h := kq_reg
theorem r136_5  : kCode env 136 false inv k (cp c136 7474) (act 36 [(0, x0), (3, x3), (5, x5), (9, x9), (10, x10), (11, x11)]) h K =
    bnd (pLen Tryz.prog #[55] x5 h) fun x17 =>
    bnd (pBin Tryz.prog .add 3 (.tmp 15) (.tmp 17) x3 x17) fun x18 =>
    K .normal (act 36 [(0, x0), (3, x18), (9, x9), (10, x10), (11, x11)]) h := kq_reg
theorem r136_6  : kCode env 136 false inv k (cp c136 14950) (act 36 [(0, x0), (3, x3), (9, x9), (10, x10), (11, x11)]) h K =
    bnd (pBin Tryz.prog .lss 3 (.tmp 19) (.const (.int .i64 0)) x3 (.int .i64 0)) fun x20 =>
    K .normal (act 36 [(0, x0), (3, x3), (9, x9), (10, x10), (11, x11), (20, x20)]) h := kq_reg
theorem b136_rrrllrrllrlrr  : kCode env 136 false inv k (cp c136 14951) (act 36 [(0, x0), (3, x3), (9, x9), (10, x10), (11, x11), (20, x20)]) h K = brV x20 (kCode env 136 false inv k (cp c136 29902) (act 36 [(0, x0), (3, x3), (9, x9), (10, x10), (11, x11), (20, x20)]) h K) (kCode env 136 false inv k (cp c136 29903) (act 36 [(0, x0), (3, x3), (9, x9), (10, x10), (11, x11), (20, x20)]) h K) := kq_cond
theorem r136_7  : kCode env 136 false inv k (cp c136 29902) (act 36 [(0, x0), (3, x3), (9, x9), (10, x10), (11, x11), (20, x20)]) h K =
    bnd (pMakeIface Tryz.prog 9 (.string { data := #[108, 101, 110, 32, 111, 117, 116, 32, 111, 102, 32, 114, 97, 110, 103, 101] })) fun x21 =>
    bnd ((none : Option (Value × AH))) fun u =>
    K .normal (act 36 [(0, x0), (3, x3), (9, x9), (10, x10), (11, x11)]) u.2 := kq_reg
noncomputable def F136_lrrllrlrr {β : Type} (inv : Inv) (k : Nat) (x0 x3 x9 x10 x11 x12 : Value) (h : AH) (kn : (Value → Value → Value → Value → Value → Value → AH → Option β)) : Option β :=
    bnd (pIndexAddr Tryz.prog 180 x9 x11) fun x13 =>
    bnd (pLoad Tryz.prog 55 x13 h) fun x14 =>
    bnd (pLen Tryz.prog #[55] x14 h) fun x17 =>
    bnd (pBin Tryz.prog .add 3 (.tmp 15) (.tmp 17) x3 x17) fun x18 =>
    bnd (pBin Tryz.prog .lss 3 (.tmp 19) (.const (.int .i64 0)) x18 (.int .i64 0)) fun x20 =>
    brV x20
    (bnd (pMakeIface Tryz.prog 9 (.string { data := #[108, 101, 110, 32, 111, 117, 116, 32, 111, 102, 32, 114, 97, 110, 103, 101] })) fun x21 =>
    bnd ((none : Option (Value × AH))) fun u =>
    kn x0 x18 x9 x10 x11 unk u.2)
    (kn x0 x18 x9 x10 x11 x20 h)
theorem F136_lrrllrlrr_eq  : kCode env 136 false inv k (cp c136 934) (act 36 [(0, x0), (3, x3), (9, x9), (10, x10), (11, x11), (12, x12)]) h K = F136_lrrllrlrr inv k x0 x3 x9 x10 x11 x12 h (fun y0 y3 y9 y10 y11 y20 h => K .normal (act 36 [(0, y0), (3, y3), (9, y9), (10, y10), (11, y11), (20, y20)]) h) := by
      unfold F136_lrrllrlrr
      simp only [kq_block c136 934 1, kq_seq c136 1868, r136_4, kq_seq c136 3737, r136_5, kq_seq c136 7475, r136_6, b136_rrrllrrllrlrr, r136_7, kq_skip c136 29903, reduceIte, reduceCtorEq, XE.exit.injEq, Nat.reduceEqDiff, Nat.reduceMul, Nat.reduceAdd] <;> kernel_rfl
theorem r136_8  : kCode env 136 false inv k (cp c136 935) (act 36 [(0, x0), (3, x3), (9, x9), (10, x10), (11, x11), (20, x20)]) h K =
    bnd (pBin Tryz.prog .add 3 (.tmp 11) (.const (.int .i64 1)) x11 (.int .i64 1)) fun x22 =>
    K .normal (act 36 [(0, x0), (3, x3), (9, x9), (10, x10), (11, x22)]) h := kq_reg
noncomputable def F136_lrlrr {β : Type} (inv : Inv) (k : Nat) : Nat → Value → Value → Value → Value → Value → AH → (Value → Value → Value → Value → Value → Value → AH → Option β) → Option β
  | 0, _, _, _, _, _, _, _ => none
  | j + 1, x0, x3, x9, x10, x11, h, ke0 =>
    bnd (pBin Tryz.prog .lss 3 (.tmp 11) (.tmp 10) x11 x10) fun x12 =>
    brV x12
    (F136_lrrllrlrr inv k x0 x3 x9 x10 x11 x12 h
    (fun y0 y3 y9 y10 y11 y20 h =>
    bnd (pBin Tryz.prog .add 3 (.tmp 11) (.const (.int .i64 1)) y11 (.int .i64 1)) fun x22 =>
    F136_lrlrr inv k j y0 y3 y9 y10 x22 h ke0))
    (ke0 x0 x3 x9 x10 x11 x12 h)
theorem F136_lrlrr_j (j : Nat) : kLoop (kCode env 136 false inv k (cp c136 116)) j (act 36 [(0, x0), (3, x3), (9, x9), (10, x10), (11, x11)]) h K = F136_lrlrr inv k j x0 x3 x9 x10 x11 h (fun y0 y3 y9 y10 y11 y12 h => K (.exit 0) (act 36 [(0, y0), (3, y3), (9, y9), (10, y10), (11, y11), (12, y12)]) h) := by
      induction j generalizing x0 x3 x9 x10 x11 h with
      | zero => rfl
      | succ j ih =>
        unfold F136_lrlrr
        simp only [kLoop, kq_seq c136 116, r136_3, kq_seq c136 233, b136_lrllrlrr, kq_skip c136 932, kq_seq c136 467, F136_lrrllrlrr_eq, r136_8, kq_exit c136 933 0, ih, reduceIte, reduceCtorEq, XE.exit.injEq, Nat.reduceEqDiff, Nat.reduceMul, Nat.reduceAdd] <;> kernel_rfl
theorem F136_lrlrr_eq  : kCode env 136 false inv k (cp c136 58) (act 36 [(0, x0), (3, x3), (9, x9), (10, x10), (11, x11)]) h K = F136_lrlrr inv k k x0 x3 x9 x10 x11 h (fun y0 y3 y9 y10 y11 y12 h => K (.exit 0) (act 36 [(0, y0), (3, y3), (9, y9), (10, y10), (11, y11), (12, y12)]) h) := kq_loop (F136_lrlrr_j k)
theorem r136_9  : kCode env 136 false inv k (cp c136 30) (act 36 [(0, x0), (3, x3), (9, x9), (10, x10), (11, x11), (12, x12)]) h K =
    bnd (inv (.func 160) #[] #[(.slice none 0 0), x3] h) fun x24 =>
    K .normal (act 36 [(0, x0), (6, x24.1)]) x24.2 := kq_reg
theorem r136_10  : kCode env 136 false inv k (cp c136 124) (act 36 [(0, x0), (6, x6)]) h K =
    bnd (pLen Tryz.prog #[180] x0 h) fun x26 =>
    K .normal (act 36 [(6, x6), (25, x0), (26, x26), (27, (.int .i64 0))]) h := kq_reg
theorem r136_11  : kCode env 136 false inv k (cp c136 1000) (act 36 [(6, x6), (25, x25), (26, x26), (27, x27)]) h K =
    bnd (pBin Tryz.prog .lss 3 (.tmp 27) (.tmp 26) x27 x26) fun x28 =>
    K .normal (act 36 [(6, x6), (25, x25), (26, x26), (27, x27), (28, x28)]) h := kq_reg
theorem b136_lrllrlrrrr  : kCode env 136 false inv k (cp c136 2002) (act 36 [(6, x6), (25, x25), (26, x26), (27, x27), (28, x28)]) h K = brV x28 (kCode env 136 false inv k (cp c136 4004) (act 36 [(6, x6), (25, x25), (26, x26), (27, x27), (28, x28)]) h K) (kCode env 136 false inv k (cp c136 4005) (act 36 [(6, x6), (25, x25), (26, x26), (27, x27), (28, x28)]) h K) := kq_cond
theorem r136_12  : kCode env 136 false inv k (cp c136 16024) (act 36 [(6, x6), (25, x25), (26, x26), (27, x27), (28, x28)]) h K =
    bnd (pIndexAddr Tryz.prog 180 x25 x27) fun x29 =>
    bnd (pLoad Tryz.prog 55 x29 h) fun x30 =>
    K .normal (act 36 [(6, x6), (8, x30), (25, x25), (26, x26), (27, x27)]) h := kq_reg
theorem r136_13  : kCode env 136 false inv k (cp c136 16025) (act 36 [(6, x6), (8, x8), (25, x25), (26, x26), (27, x27)]) h K =
    bnd (pAppend Tryz.prog #[55, 55] x6 x8 h) fun x33 =>
    K .normal (act 36 [(6, x33.1), (25, x25), (26, x26), (27, x27)]) x33.2 := kq_reg
theorem r136_14  : kCode env 136 false inv k (cp c136 4007) (act 36 [(6, x6), (25, x25), (26, x26), (27, x27)]) h K =
    bnd (pBin Tryz.prog .add 3 (.tmp 27) (.const (.int .i64 1)) x27 (.int .i64 1)) fun x34 =>
    K .normal (act 36 [(6, x6), (25, x25), (26, x26), (27, x34)]) h := kq_reg
noncomputable def F136_lrlrrrr {β : Type} (inv : Inv) (k : Nat) : Nat → Value → Value → Value → Value → AH → (Value → Value → Value → Value → Value → AH → Option β) → Option β
  | 0, _, _, _, _, _, _ => none
  | j + 1, x6, x25, x26, x27, h, ke2 =>
    bnd (pBin Tryz.prog .lss 3 (.tmp 27) (.tmp 26) x27 x26) fun x28 =>
    brV x28
    (bnd (pIndexAddr Tryz.prog 180 x25 x27) fun x29 =>
    bnd (pLoad Tryz.prog 55 x29 h) fun x30 =>
    bnd (pAppend Tryz.prog #[55, 55] x6 x30 h) fun x33 =>
    bnd (pBin Tryz.prog .add 3 (.tmp 27) (.const (.int .i64 1)) x27 (.int .i64 1)) fun x34 =>
    F136_lrlrrrr inv k j x33.1 x25 x26 x34 x33.2 ke2)
    (ke2 x6 x25 x26 x27 x28 h)
theorem F136_lrlrrrr_j (j : Nat) : kLoop (kCode env 136 false inv k (cp c136 500)) j (act 36 [(6, x6), (25, x25), (26, x26), (27, x27)]) h K = F136_lrlrrrr inv k j x6 x25 x26 x27 h (fun y6 y25 y26 y27 y28 h => K (.exit 2) (act 36 [(6, y6), (25, y25), (26, y26), (27, y27), (28, y28)]) h) := by
      induction j generalizing x6 x25 x26 x27 h with
      | zero => rfl
      | succ j ih =>
        unfold F136_lrlrrrr
        simp only [kLoop, kq_seq c136 500, r136_11, kq_seq c136 1001, b136_lrllrlrrrr, kq_skip c136 4004, kq_seq c136 2003, kq_block c136 4006 3, kq_seq c136 8012, r136_12, r136_13, r136_14, kq_exit c136 4005 2, ih, reduceIte, reduceCtorEq, XE.exit.injEq, Nat.reduceEqDiff, Nat.reduceMul, Nat.reduceAdd] <;> kernel_rfl
theorem F136_lrlrrrr_eq  : kCode env 136 false inv k (cp c136 250) (act 36 [(6, x6), (25, x25), (26, x26), (27, x27)]) h K = F136_lrlrrrr inv k k x6 x25 x26 x27 h (fun y6 y25 y26 y27 y28 h => K (.exit 2) (act 36 [(6, y6), (25, y25), (26, y26), (27, y27), (28, y28)]) h) := kq_loop (F136_lrlrrrr_j k)
theorem r136_15  : kCode env 136 false inv k (cp c136 126) (act 36 [(6, x6), (25, x25), (26, x26), (27, x27), (28, x28)]) h K =
    K .normal (act 36 [(2, x6)]) h := kq_reg
theorem res136_0 : resOfFn env.P 136 .ret (act 36 [(2, x2)]) h = some (x2, h) := kq_res
/-- slices.Concat[[]shadowbook/api.Table,shadowbook/api.Table] -/
noncomputable def F136 (inv : Inv) (k : Nat) (x0 : Value) (h : AH) : Option (Value × AH) :=
    bnd (pLen Tryz.prog #[180] x0 h) fun x10 =>
    F136_lrlrr inv k k x0 (.int .i64 0) x0 x10 (.int .i64 0) h
    (fun y0 y3 y9 y10 y11 y12 h =>
    bnd (inv (.func 160) #[] #[(.slice none 0 0), y3] h) fun x24 =>
    bnd (pLen Tryz.prog #[180] y0 x24.2) fun x26 =>
    F136_lrlrrrr inv k k x24.1 y0 x26 (.int .i64 0) x24.2
    (fun y6 y25 y26 y27 y28 h_1 =>
    some (y6, h_1)))
theorem F136_eq : eFun env k inv 136 #[x0] h = F136 inv k x0 h := by
      refine (kq_fun (a := act 36 [(0, x0)]) (c := cp c136 1)).trans ?_
      unfold F136
      simp only [kq_seq c136 1, r136_0, kq_seq c136 3, r136_1, kq_seq c136 7, kq_seq c136 14, r136_2, kq_block c136 29 0, F136_lrlrr_eq, kq_seq c136 15, r136_9, kq_seq c136 31, kq_seq c136 62, r136_10, kq_block c136 125 2, F136_lrlrrrr_eq, kq_seq c136 63, r136_15, kq_ret c136 127, res136_0, reduceIte, reduceCtorEq, XE.exit.injEq, Nat.reduceEqDiff, Nat.reduceMul, Nat.reduceAdd] <;> kernel_rfl
theorem F136_call : eInv env (k + 1) (.func 136) #[] #[x0] h = F136 (eInv env k) k x0 h := kq_inv F136_eq
noncomputable def c137 : Code := codeOf Tryz.prog 137
theorem r137_0  : kCode env 137 false inv k (cp c137 2) (act 36 [(0, x0), (1, x1)]) h K =
    K .normal (act 36 [(0, x0), (1, x1)]) h := kq_reg
theorem r137_1  : kCode env 137 false inv k (cp c137 12) (act 36 [(0, x0), (1, x1)]) h K =
    bnd (inv (.func 103) #[] #[x0] h) fun x11 =>
    K .normal (act 36 [(0, x0), (1, x1), (5, x11.1)]) x11.2 := kq_reg
theorem r137_2  : kCode env 137 false inv k (cp c137 26) (act 36 [(0, x0), (1, x1), (5, x5)]) h K =
    bnd (pBin Tryz.prog .neq 30 (.tmp 12) (.const (.int .i64 0)) x5 (.int .i64 0)) fun x13 =>
    K .normal (act 36 [(0, x0), (1, x1), (5, x5), (13, x13)]) h := kq_reg
theorem b137_rrlr  : kCode env 137 false inv k (cp c137 27) (act 36 [(0, x0), (1, x1), (5, x5), (13, x13)]) h K = brV x13 (kCode env 137 false inv k (cp c137 54) (act 36 [(0, x0), (1, x1), (5, x5), (13, x13)]) h K) (kCode env 137 false inv k (cp c137 55) (act 36 [(0, x0), (1, x1), (5, x5), (13, x13)]) h K) := kq_cond
theorem r137_3  : kCode env 137 false inv k (cp c137 108) (act 36 [(0, x0), (1, x1), (5, x5), (13, x13)]) h K =
    K .normal (act 36 [(4, x5)]) h := kq_reg
theorem res137_0 : resOfFn env.P 137 .ret (act 36 [(4, x4)]) h = some (x4, h) := kq_res
noncomputable abbrev G137_4 {β : Type} (inv : Inv) (x0 x1 : Value) (h : AH) (K : Value → AH → Option β) : Option β :=
    bnd (pLen Tryz.prog #[37] x1 h) fun x16 =>
    bnd (pBin Tryz.prog .lss 3 (.tmp 16) (.const (.int .i64 1)) x16 (.int .i64 1)) fun x17 =>
    bnd (gd (some x17) false h (some (x1, h))) fun x19 =>
    bnd (gd (some x17) false x19.2 (lt (pLen Tryz.prog #[37] x19.1 x19.2) x19.2)) fun x20 =>
    bnd (gd (some x17) false x20.2 (lt (pBin Tryz.prog .gtr 3 (.tmp 20) (.const (.int .i64 16)) x20.1 (.int .i64 16)) x20.2)) fun x21 =>
    bnd (pickV x17 (.bool true) x21.1) fun x22 =>
    K (x22) x21.2
theorem r137_4  : kCode env 137 false inv k (cp c137 28) (act 36 [(0, x0), (1, x1), (5, x5), (13, x13)]) h K =
    G137_4 inv x0 x1 h fun y22 h => K .normal (act 36 [(0, x0), (1, x1), (22, y22)]) h := kq_reg
theorem b137_rlrr  : kCode env 137 false inv k (cp c137 29) (act 36 [(0, x0), (1, x1), (22, x22)]) h K = brV x22 (kCode env 137 false inv k (cp c137 58) (act 36 [(0, x0), (1, x1), (22, x22)]) h K) (kCode env 137 false inv k (cp c137 59) (act 36 [(0, x0), (1, x1), (22, x22)]) h K) := kq_cond
theorem r137_5  : kCode env 137 false inv k (cp c137 116) (act 36 [(0, x0), (1, x1), (22, x22)]) h K =
    K .normal (act 36 [(4, (.int .i64 190))]) h := kq_reg
theorem r137_6  : kCode env 137 false inv k (cp c137 30) (act 36 [(0, x0), (1, x1), (22, x22)]) h K =
    bnd (pAlloc Tryz.prog 3 h) fun x6 =>
    bnd (kSt (pStore Tryz.prog 3 x6.1 (.int .i64 0) x6.2)) fun u =>
    K .normal (act 36 [(0, x0), (1, x1), (6, x6.1)]) u.2 := kq_reg
theorem r137_7  : kCode env 137 false inv k (cp c137 124) (act 36 [(0, x0), (1, x1), (6, x6)]) h K =
    bnd (pLen Tryz.prog #[37] x1 h) fun x24 =>
    K .normal (act 36 [(0, x0), (6, x6), (23, x1), (24, x24), (25, (.int .i64 0))]) h := kq_reg
theorem r137_8  : kCode env 137 false inv k (cp c137 1000) (act 36 [(0, x0), (6, x6), (23, x23), (24, x24), (25, x25)]) h K =
    bnd (pBin Tryz.prog .lss 3 (.tmp 25) (.tmp 24) x25 x24) fun x26 =>
    K .normal (act 36 [(0, x0), (6, x6), (23, x23), (24, x24), (25, x25), (26, x26)]) h := kq_reg
theorem b137_lrllrlrrrr  : kCode env 137 false inv k (cp c137 2002) (act 36 [(0, x0), (6, x6), (23, x23), (24, x24), (25, x25), (26, x26)]) h K = brV x26 (kCode env 137 false inv k (cp c137 4004) (act 36 [(0, x0), (6, x6), (23, x23), (24, x24), (25, x25), (26, x26)]) h K) (kCode env 137 false inv k (cp c137 4005) (act 36 [(0, x0), (6, x6), (23, x23), (24, x24), (25, x25), (26, x26)]) h K) := kq_cond
theorem r137_9  : kCode env 137 false inv k (cp c137 16024) (act 36 [(0, x0), (6, x6), (23, x23), (24, x24), (25, x25), (26, x26)]) h K =
    bnd (pIndexAddr Tryz.prog 37 x23 x25) fun x27 =>
    bnd (pLoad Tryz.prog 134 x27 h) fun x28 =>
    bnd (pAlloc Tryz.prog 134 h) fun x8 =>
    bnd (kSt (pStore Tryz.prog 134 x8.1 x28 x8.2)) fun u =>
    K .normal (act 36 [(0, x0), (6, x6), (8, x8.1), (23, x23), (24, x24), (25, x25)]) u.2 := kq_reg
theorem r137_10  : kCode env 137 false inv k (cp c137 32050) (act 36 [(0, x0), (6, x6), (8, x8), (23, x23), (24, x24), (25, x25)]) h K =
    bnd (pLoad Tryz.prog 134 x8 h) fun x30 =>
    bnd (inv (.func 161) #[] #[x0, x30, x6] h) fun x31 =>
    K .normal (act 36 [(0, x0), (6, x6), (9, x31.1), (23, x23), (24, x24), (25, x25)]) x31.2 := kq_reg
theorem r137_11  : kCode env 137 false inv k (cp c137 64102) (act 36 [(0, x0), (6, x6), (9, x9), (23, x23), (24, x24), (25, x25)]) h K =
    bnd (pBin Tryz.prog .neq 30 (.tmp 32) (.const (.int .i64 0)) x9 (.int .i64 0)) fun x33 =>
    K .normal (act 36 [(0, x0), (6, x6), (9, x9), (23, x23), (24, x24), (25, x25), (33, x33)]) h := kq_reg
theorem b137_rrrllrrllrlrrrr  : kCode env 137 false inv k (cp c137 64103) (act 36 [(0, x0), (6, x6), (9, x9), (23, x23), (24, x24), (25, x25), (33, x33)]) h K = brV x33 (kCode env 137 false inv k (cp c137 128206) (act 36 [(0, x0), (6, x6), (9, x9), (23, x23), (24, x24), (25, x25), (33, x33)]) h K) (kCode env 137 false inv k (cp c137 128207) (act 36 [(0, x0), (6, x6), (9, x9), (23, x23), (24, x24), (25, x25), (33, x33)]) h K) := kq_cond
theorem r137_12  : kCode env 137 false inv k (cp c137 256412) (act 36 [(0, x0), (6, x6), (9, x9), (23, x23), (24, x24), (25, x25), (33, x33)]) h K =
    K .normal (act 36 [(4, x9)]) h := kq_reg
theorem r137_13  : kCode env 137 false inv k (cp c137 4007) (act 36 [(0, x0), (6, x6), (9, x9), (23, x23), (24, x24), (25, x25), (33, x33)]) h K =
    bnd (pBin Tryz.prog .add 3 (.tmp 25) (.const (.int .i64 1)) x25 (.int .i64 1)) fun x35 =>
    K .normal (act 36 [(0, x0), (6, x6), (23, x23), (24, x24), (25, x35)]) h := kq_reg
noncomputable def F137_lrlrrrr {β : Type} (inv : Inv) (k : Nat) : Nat → Value → Value → Value → Value → Value → AH → (Value → Value → Value → Value → Value → Value → AH → Option β) → (Value → AH → Option β) → Option β
  | 0, _, _, _, _, _, _, _, _ => none
  | j + 1, x0, x6, x23, x24, x25, h, ke0, kr =>
    bnd (pBin Tryz.prog .lss 3 (.tmp 25) (.tmp 24) x25 x24) fun x26 =>
    brV x26
    (bnd (pIndexAddr Tryz.prog 37 x23 x25) fun x27 =>
    bnd (pLoad Tryz.prog 134 x27 h) fun x28 =>
    bnd (pAlloc Tryz.prog 134 h) fun x8 =>
    bnd (kSt (pStore Tryz.prog 134 x8.1 x28 x8.2)) fun u =>
    bnd (pLoad Tryz.prog 134 x8.1 u.2) fun x30 =>
    bnd (inv (.func 161) #[] #[x0, x30, x6] u.2) fun x31 =>
    bnd (pBin Tryz.prog .neq 30 (.tmp 32) (.const (.int .i64 0)) x31.1 (.int .i64 0)) fun x33 =>
    brV x33
    (kr x31.1 x31.2)
    (bnd (pBin Tryz.prog .add 3 (.tmp 25) (.const (.int .i64 1)) x25 (.int .i64 1)) fun x35 =>
    F137_lrlrrrr inv k j x0 x6 x23 x24 x35 x31.2 ke0 kr))
    (ke0 x0 x6 x23 x24 x25 x26 h)
theorem F137_lrlrrrr_j (j : Nat) : kLoop (kCode env 137 false inv k (cp c137 500)) j (act 36 [(0, x0), (6, x6), (23, x23), (24, x24), (25, x25)]) h K = F137_lrlrrrr inv k j x0 x6 x23 x24 x25 h (fun y0 y6 y23 y24 y25 y26 h => K (.exit 0) (act 36 [(0, y0), (6, y6), (23, y23), (24, y24), (25, y25), (26, y26)]) h) (fun y4 h => K .ret (act 36 [(4, y4)]) h) := by
      induction j generalizing x0 x6 x23 x24 x25 h with
      | zero => rfl
      | succ j ih =>
        unfold F137_lrlrrrr
        simp only [kLoop, kq_seq c137 500, r137_8, kq_seq c137 1001, b137_lrllrlrrrr, kq_skip c137 4004, kq_seq c137 2003, kq_block c137 4006 1, kq_seq c137 8012, r137_9, kq_seq c137 16025, r137_10, kq_seq c137 32051, r137_11, b137_rrrllrrllrlrrrr, kq_seq c137 128206, r137_12, kq_ret c137 256413, kq_skip c137 128207, r137_13, kq_exit c137 4005 0, ih, reduceIte, reduceCtorEq, XE.exit.injEq, Nat.reduceEqDiff, Nat.reduceMul, Nat.reduceAdd] <;> kernel_rfl
theorem F137_lrlrrrr_eq  : kCode env 137 false inv k (cp c137 250) (act 36 [(0, x0), (6, x6), (23, x23), (24, x24), (25, x25)]) h K = F137_lrlrrrr inv k k x0 x6 x23 x24 x25 h (fun y0 y6 y23 y24 y25 y26 h => K (.exit 0) (act 36 [(0, y0), (6, y6), (23, y23), (24, y24), (25, y25), (26, y26)]) h) (fun y4 h => K .ret (act 36 [(4, y4)]) h) := kq_loop (F137_lrlrrrr_j k)
theorem r137_14  : kCode env 137 false inv k (cp c137 126) (act 36 [(0, x0), (6, x6), (23, x23), (24, x24), (25, x25), (26, x26)]) h K =
    K .normal (act 36 [(4, (.int .i64 0))]) h := kq_reg
/-- shadowbook/batch.Check -/
noncomputable def F137 (inv : Inv) (k : Nat) (x0 x1 : Value) (h : AH) : Option (Value × AH) :=
    bnd (inv (.func 103) #[] #[x0] h) fun x11 =>
    bnd (pBin Tryz.prog .neq 30 (.tmp 12) (.const (.int .i64 0)) x11.1 (.int .i64 0)) fun x13 =>
    brV x13
    (some (x11.1, x11.2))
    (G137_4 inv x0 x1 x11.2 fun y22 h =>
    brV y22
    (some ((.int .i64 190), h))
    (bnd (pAlloc Tryz.prog 3 h) fun x6 =>
    bnd (kSt (pStore Tryz.prog 3 x6.1 (.int .i64 0) x6.2)) fun u =>
    bnd (pLen Tryz.prog #[37] x1 u.2) fun x24 =>
    F137_lrlrrrr inv k k x0 x6.1 x1 x24 (.int .i64 0) u.2
    (fun y0 y6 y23 y24 y25 y26 h_1 =>
    some ((.int .i64 0), h_1))
    (fun y4 h_2 =>
    some (y4, h_2))))
theorem F137_eq : eFun env k inv 137 #[x0, x1] h = F137 inv k x0 x1 h := by
      refine (kq_fun (a := act 36 [(0, x0), (1, x1)]) (c := cp c137 1)).trans ?_
      unfold F137
      simp only [kq_seq c137 1, r137_0, kq_seq c137 3, kq_seq c137 6, r137_1, kq_seq c137 13, r137_2, b137_rrlr, kq_seq c137 54, r137_3, kq_ret c137 109, res137_0, kq_skip c137 55, kq_seq c137 7, kq_seq c137 14, r137_4, b137_rlrr, kq_seq c137 58, r137_5, kq_ret c137 117, kq_skip c137 59, kq_seq c137 15, r137_6, kq_seq c137 31, kq_seq c137 62, r137_7, kq_block c137 125 0, F137_lrlrrrr_eq, kq_seq c137 63, r137_14, kq_ret c137 127, reduceIte, reduceCtorEq, XE.exit.injEq, Nat.reduceEqDiff, Nat.reduceMul, Nat.reduceAdd] <;> kernel_rfl
theorem F137_call : eInv env (k + 1) (.func 137) #[] #[x0, x1] h = F137 (eInv env k) k x0 x1 h := kq_inv F137_eq
noncomputable def c138 : Code := codeOf Tryz.prog 138
theorem r138_0  : kCode env 138 false inv k (cp c138 2) (act 59 [(0, x0), (1, x1)]) h K =
    bnd (pBox Tryz.prog 134 x1 h) fun x3 =>
    K .normal (act 59 [(0, x0), (3, x3.1), (5, (.int .i64 0))]) x3.2 := kq_reg
theorem r138_1  : kCode env 138 false inv k (cp c138 6) (act 59 [(0, x0), (3, x3), (5, x5)]) h K =
    bnd (inv (.func 126) #[] #[x0] h) fun x9 =>
    K .normal (act 59 [(3, x3), (4, x9.1), (5, x5)]) x9.2 := kq_reg
theorem r138_2  : kCode env 138 false inv k (cp c138 28) (act 59 [(3, x3), (4, x4), (5, x5)]) h K =
    bnd (pFieldAddr Tryz.prog 134 x3 0) fun x10 =>
    bnd (pLoad Tryz.prog 3 x10 h) fun x11 =>
    K .normal (act 59 [(3, x3), (4, x4), (5, x5), (11, x11)]) h := kq_reg
theorem r138_3  : kCode env 138 false inv k (cp c138 116) (act 59 [(3, x3), (4, x4), (5, x5), (11, x11)]) h K =
    bnd (pBin Tryz.prog .eql 3 (.tmp 11) (.const (.int .i64 1)) x11 (.int .i64 1)) fun x13 =>
    K .normal (act 59 [(3, x3), (4, x4), (5, x5), (11, x11), (12, x13)]) h := kq_reg
theorem b138_rlrlrr  : kCode env 138 false inv k (cp c138 117) (act 59 [(3, x3), (4, x4), (5, x5), (11, x11), (12, x12)]) h K = brV x12 (kCode env 138 false inv k (cp c138 234) (act 59 [(3, x3), (4, x4), (5, x5), (11, x11), (12, x12)]) h K) (kCode env 138 false inv k (cp c138 235) (act 59 [(3, x3), (4, x4), (5, x5), (11, x11), (12, x12)]) h K) := kq_cond
noncomputable abbrev G138_4 {β : Type} (inv : Inv) (x3 x4 : Value) (h : AH) (K : Value → Value → AH → Option β) : Option β :=
    bnd (pFieldAddr Tryz.prog 134 x3 1) fun x15 =>
    bnd (pLoad Tryz.prog 31 x15 h) fun x16 =>
    bnd (inv (.func 126) #[] #[x16] h) fun x17 =>
    bnd (pAppend Tryz.prog #[31, 31] x4 x17.1 x17.2) fun x18 =>
    bnd (pFieldAddr Tryz.prog 134 x3 1) fun x19 =>
    bnd (pLoad Tryz.prog 31 x19 x18.2) fun x20 =>
    bnd (pLen Tryz.prog #[31] x20 x18.2) fun x21 =>
    chkK ((!true || !true || (sameO (pLoad Tryz.prog 31 x19 h) x20 && sameO (pLoad Tryz.prog 31 x19 x17.2) x20)) && ((!true || !true || (sameO (pLoad Tryz.prog 31 x19 x17.2) x20 && sameO (pLoad Tryz.prog 31 x19 x18.2) x20)) && ((!true || !true || (sameO (pLen Tryz.prog #[31] x20 h) x21 && sameO (pLen Tryz.prog #[31] x20 x17.2) x21)) && ((!true || !true || (sameO (pLen Tryz.prog #[31] x20 x17.2) x21 && sameO (pLen Tryz.prog #[31] x20 x18.2) x21)) && true)))) <|
    K (x18.1) (x21) x18.2
theorem r138_4  : kCode env 138 false inv k (cp c138 468) (act 59 [(3, x3), (4, x4), (5, x5), (11, x11), (12, x12)]) h K =
    G138_4 inv x3 x4 h fun y4 y5 h => K .normal (act 59 [(4, y4), (5, y5)]) h := kq_draw
theorem r138_5  : kCode env 138 false inv k (cp c138 470) (act 59 [(3, x3), (4, x4), (5, x5), (11, x11), (12, x12)]) h K =
    bnd (pBin Tryz.prog .eql 3 (.tmp 11) (.const (.int .i64 2)) x11 (.int .i64 2)) fun x23 =>
    K .normal (act 59 [(3, x3), (4, x4), (5, x5), (11, x11), (22, x23)]) h := kq_reg
theorem b138_rrrlrlrr  : kCode env 138 false inv k (cp c138 471) (act 59 [(3, x3), (4, x4), (5, x5), (11, x11), (22, x22)]) h K = brV x22 (kCode env 138 false inv k (cp c138 942) (act 59 [(3, x3), (4, x4), (5, x5), (11, x11), (22, x22)]) h K) (kCode env 138 false inv k (cp c138 943) (act 59 [(3, x3), (4, x4), (5, x5), (11, x11), (22, x22)]) h K) := kq_cond
theorem r138_6  : kCode env 138 false inv k (cp c138 1884) (act 59 [(3, x3), (4, x4), (5, x5), (11, x11), (22, x22)]) h K =
    bnd (pLen Tryz.prog #[31] x4 h) fun x25 =>
    K .normal (act 59 [(3, x3), (4, x4), (6, x25)]) h := kq_reg
theorem r138_7  : kCode env 138 false inv k (cp c138 3770) (act 59 [(3, x3), (4, x4), (6, x6)]) h K =
    bnd (pMakeFunc (.func 163) #[] #[x3]) fun x27 =>
    bnd (inv (.func 162) #[] #[x4, x27] h) fun x28 =>
    K .normal (act 59 [(4, x28.1), (6, x6)]) x28.2 := kq_reg
theorem r138_8  : kCode env 138 false inv k (cp c138 7542) (act 59 [(4, x4), (6, x6)]) h K =
    bnd (pLen Tryz.prog #[31] x4 h) fun x32 =>
    bnd (pBin Tryz.prog .sub 3 (.tmp 30) (.tmp 32) x6 x32) fun x33 =>
    K .normal (act 59 [(4, x4), (5, x33)]) h := kq_reg
theorem r138_9  : kCode env 138 false inv k (cp c138 1886) (act 59 [(3, x3), (4, x4), (5, x5), (11, x11), (22, x22)]) h K =
    bnd (pBin Tryz.prog .eql 3 (.tmp 11) (.const (.int .i64 3)) x11 (.int .i64 3)) fun x35 =>
    K .normal (act 59 [(3, x3), (4, x4), (5, x5), (34, x35)]) h := kq_reg
theorem b138_rrrrrlrlrr  : kCode env 138 false inv k (cp c138 1887) (act 59 [(3, x3), (4, x4), (5, x5), (34, x34)]) h K = brV x34 (kCode env 138 false inv k (cp c138 3774) (act 59 [(3, x3), (4, x4), (5, x5), (34, x34)]) h K) (kCode env 138 false inv k (cp c138 3775) (act 59 [(3, x3), (4, x4), (5, x5), (34, x34)]) h K) := kq_cond
theorem r138_10  : kCode env 138 false inv k (cp c138 7548) (act 59 [(3, x3), (4, x4), (5, x5), (34, x34)]) h K =
    bnd (pLen Tryz.prog #[31] x4 h) fun x37 =>
    K .normal (act 59 [(3, x3), (4, x4), (5, x5), (37, x37), (38, (.int .i64 0))]) h := kq_reg
theorem r138_11  : kCode env 138 false inv k (cp c138 60392) (act 59 [(3, x3), (4, x4), (5, x5), (37, x37), (38, x38)]) h K =
    bnd (pBin Tryz.prog .lss 3 (.tmp 38) (.tmp 37) x38 x37) fun x39 =>
    K .normal (act 59 [(3, x3), (4, x4), (5, x5), (37, x37), (38, x38), (39, x39)]) h := kq_reg
theorem b138_lrllrlrrrrrlrlrr  : kCode env 138 false inv k (cp c138 120786) (act 59 [(3, x3), (4, x4), (5, x5), (37, x37), (38, x38), (39, x39)]) h K = brV x39 (kCode env 138 false inv k (cp c138 241572) (act 59 [(3, x3), (4, x4), (5, x5), (37, x37), (38, x38), (39, x39)]) h K) (kCode env 138 false inv k (cp c138 241573) (act 59 [(3, x3), (4, x4), (5, x5), (37, x37), (38, x38), (39, x39)]) h K) := kq_cond
theorem r138_12  : kCode env 138 false inv k (cp c138 966296) (act 59 [(3, x3), (4, x4), (5, x5), (37, x37), (38, x38), (39, x39)]) h K =
    K .normal (act 59 [(3, x3), (4, x4), (5, x5), (7, x38), (37, x37), (38, x38)]) h := kq_reg
theorem r138_13  : kCode env 138 false inv k (cp c138 1932594) (act 59 [(3, x3), (4, x4), (5, x5), (7, x7), (37, x37), (38, x38)]) h K =
    bnd (pFieldAddr Tryz.prog 134 x3 2) fun x41 =>
    bnd (pLoad Tryz.prog 23 x41 h) fun x42 =>
    bnd (pIndexAddr Tryz.prog 31 x4 x7) fun x45 =>
    bnd (pLoad Tryz.prog 45 x45 h) fun x46 =>
    bnd (inv (.func 142) #[] #[x42, x46] h) fun x47 =>
    K .normal (act 59 [(3, x3), (4, x4), (5, x5), (7, x7), (37, x37), (38, x38), (47, x47.1)]) x47.2 := kq_draw
theorem b138_rrllrrllrlrrrrrlrlrr  : kCode env 138 false inv k (cp c138 1932595) (act 59 [(3, x3), (4, x4), (5, x5), (7, x7), (37, x37), (38, x38), (47, x47)]) h K = brV x47 (kCode env 138 false inv k (cp c138 3865190) (act 59 [(3, x3), (4, x4), (5, x5), (7, x7), (37, x37), (38, x38), (47, x47)]) h K) (kCode env 138 false inv k (cp c138 3865191) (act 59 [(3, x3), (4, x4), (5, x5), (7, x7), (37, x37), (38, x38), (47, x47)]) h K) := kq_cond
theorem r138_14  : kCode env 138 false inv k (cp c138 7730380) (act 59 [(3, x3), (4, x4), (5, x5), (7, x7), (37, x37), (38, x38), (47, x47)]) h K =
    bnd (pIndexAddr Tryz.prog 31 x4 x7) fun x50 =>
    bnd (pLoad Tryz.prog 45 x50 h) fun x51 =>
    bnd (pLoad Tryz.prog 134 x3 h) fun x52 =>
    bnd (inv (.func 164) #[] #[x51, x52] h) fun x53 =>
    K .normal (act 59 [(3, x3), (4, x4), (5, x5), (37, x37), (38, x38)]) x53.2 := kq_draw
theorem r138_15  : kCode env 138 false inv k (cp c138 7730381) (act 59 [(3, x3), (4, x4), (5, x5), (37, x37), (38, x38)]) h K =
    bnd (pBin Tryz.prog .add 3 (.tmp 54) (.const (.int .i64 1)) x5 (.int .i64 1)) fun x55 =>
    K .normal (act 59 [(3, x3), (4, x4), (5, x55), (37, x37), (38, x38)]) h := kq_reg
noncomputable def F138_lrrllrlrrrrrlrlrr {β : Type} (inv : Inv) (k : Nat) (x3 x4 x5 x37 x38 x39 : Value) (h : AH) (kn : (Value → Value → Value → Value → Value → Value → Value → AH → Option β)) : Option β :=
    bnd (pFieldAddr Tryz.prog 134 x3 2) fun x41 =>
    bnd (pLoad Tryz.prog 23 x41 h) fun x42 =>
    bnd (pIndexAddr Tryz.prog 31 x4 x38) fun x45 =>
    bnd (pLoad Tryz.prog 45 x45 h) fun x46 =>
    bnd (inv (.func 142) #[] #[x42, x46] h) fun x47 =>
    brV x47.1
    (bnd (pIndexAddr Tryz.prog 31 x4 x38) fun x50 =>
    bnd (pLoad Tryz.prog 45 x50 x47.2) fun x51 =>
    bnd (pLoad Tryz.prog 134 x3 x47.2) fun x52 =>
    bnd (inv (.func 164) #[] #[x51, x52] x47.2) fun x53 =>
    bnd (pBin Tryz.prog .add 3 (.tmp 54) (.const (.int .i64 1)) x5 (.int .i64 1)) fun x55 =>
    kn x3 x4 x55 unk x37 x38 unk x53.2)
    (kn x3 x4 x5 x38 x37 x38 x47.1 x47.2)
theorem F138_lrrllrlrrrrrlrlrr_eq  : kCode env 138 false inv k (cp c138 241574) (act 59 [(3, x3), (4, x4), (5, x5), (37, x37), (38, x38), (39, x39)]) h K = F138_lrrllrlrrrrrlrlrr inv k x3 x4 x5 x37 x38 x39 h (fun y3 y4 y5 y7 y37 y38 y47 h => K .normal (act 59 [(3, y3), (4, y4), (5, y5), (7, y7), (37, y37), (38, y38), (47, y47)]) h) := by
      unfold F138_lrrllrlrrrrrlrlrr
      simp only [kq_block c138 241574 2, kq_seq c138 483148, r138_12, kq_seq c138 966297, r138_13, b138_rrllrrllrlrrrrrlrlrr, kq_seq c138 3865190, r138_14, r138_15, kq_skip c138 3865191, reduceIte, reduceCtorEq, XE.exit.injEq, Nat.reduceEqDiff, Nat.reduceMul, Nat.reduceAdd] <;> kernel_rfl
theorem r138_16  : kCode env 138 false inv k (cp c138 241575) (act 59 [(3, x3), (4, x4), (5, x5), (7, x7), (37, x37), (38, x38), (47, x47)]) h K =
    bnd (pBin Tryz.prog .add 3 (.tmp 38) (.const (.int .i64 1)) x38 (.int .i64 1)) fun x56 =>
    K .normal (act 59 [(3, x3), (4, x4), (5, x5), (37, x37), (38, x56)]) h := kq_reg
noncomputable def F138_lrlrrrrrlrlrr {β : Type} (inv : Inv) (k : Nat) : Nat → Value → Value → Value → Value → Value → AH → (Value → Value → Value → Value → Value → Value → AH → Option β) → Option β
  | 0, _, _, _, _, _, _, _ => none
  | j + 1, x3, x4, x5, x37, x38, h, ke1 =>
    bnd (pBin Tryz.prog .lss 3 (.tmp 38) (.tmp 37) x38 x37) fun x39 =>
    brV x39
    (F138_lrrllrlrrrrrlrlrr inv k x3 x4 x5 x37 x38 x39 h
    (fun y3 y4 y5 y7 y37 y38 y47 h =>
    bnd (pBin Tryz.prog .add 3 (.tmp 38) (.const (.int .i64 1)) y38 (.int .i64 1)) fun x56 =>
    F138_lrlrrrrrlrlrr inv k j y3 y4 y5 y37 x56 h ke1))
    (ke1 x3 x4 x5 x37 x38 x39 h)
theorem F138_lrlrrrrrlrlrr_j (j : Nat) : kLoop (kCode env 138 false inv k (cp c138 30196)) j (act 59 [(3, x3), (4, x4), (5, x5), (37, x37), (38, x38)]) h K = F138_lrlrrrrrlrlrr inv k j x3 x4 x5 x37 x38 h (fun y3 y4 y5 y37 y38 y39 h => K (.exit 1) (act 59 [(3, y3), (4, y4), (5, y5), (37, y37), (38, y38), (39, y39)]) h) := by
      induction j generalizing x3 x4 x5 x37 x38 h with
      | zero => rfl
      | succ j ih =>
        unfold F138_lrlrrrrrlrlrr
        simp only [kLoop, kq_seq c138 30196, r138_11, kq_seq c138 60393, b138_lrllrlrrrrrlrlrr, kq_skip c138 241572, kq_seq c138 120787, F138_lrrllrlrrrrrlrlrr_eq, r138_16, kq_exit c138 241573 1, ih, reduceIte, reduceCtorEq, XE.exit.injEq, Nat.reduceEqDiff, Nat.reduceMul, Nat.reduceAdd] <;> kernel_rfl
theorem F138_lrlrrrrrlrlrr_eq  : kCode env 138 false inv k (cp c138 15098) (act 59 [(3, x3), (4, x4), (5, x5), (37, x37), (38, x38)]) h K = F138_lrlrrrrrlrlrr inv k k x3 x4 x5 x37 x38 h (fun y3 y4 y5 y37 y38 y39 h => K (.exit 1) (act 59 [(3, y3), (4, y4), (5, y5), (37, y37), (38, y38), (39, y39)]) h) := kq_loop (F138_lrlrrrrrlrlrr_j k)
noncomputable def F138_rlrr {β : Type} (inv : Inv) (k : Nat) (x3 x4 x5 x11 : Value) (h : AH) (kn : (Value → Value → Value → Value → Value → Value → Value → AH → Option β)) (kr : (Value → Value → AH → Option β)) : Option β :=
    bnd (pBin Tryz.prog .eql 3 (.tmp 11) (.const (.int .i64 1)) x11 (.int .i64 1)) fun x13 =>
    brV x13
    (G138_4 inv x3 x4 h fun y4 y5 h =>
    kr y4 y5 h)
    (bnd (pBin Tryz.prog .eql 3 (.tmp 11) (.const (.int .i64 2)) x11 (.int .i64 2)) fun x23 =>
    brV x23
    (bnd (pLen Tryz.prog #[31] x4 h) fun x25 =>
    bnd (pMakeFunc (.func 163) #[] #[x3]) fun x27 =>
    bnd (inv (.func 162) #[] #[x4, x27] h) fun x28 =>
    bnd (pLen Tryz.prog #[31] x28.1 x28.2) fun x32 =>
    bnd (pBin Tryz.prog .sub 3 (.tmp 30) (.tmp 32) x25 x32) fun x33 =>
    kr x28.1 x33 x28.2)
    (bnd (pBin Tryz.prog .eql 3 (.tmp 11) (.const (.int .i64 3)) x11 (.int .i64 3)) fun x35 =>
    brV x35
    (bnd (pLen Tryz.prog #[31] x4 h) fun x37 =>
    F138_lrlrrrrrlrlrr inv k k x3 x4 x5 x37 (.int .i64 0) h
    (fun y3 y4_1 y5_2 y37 y38 y39 h_3 =>
    kn y3 y4_1 y5_2 unk y37 y38 y39 h_3))
    (kn x3 x4 x5 x35 unk unk unk h)))
theorem F138_rlrr_eq  : kCode env 138 false inv k (cp c138 29) (act 59 [(3, x3), (4, x4), (5, x5), (11, x11)]) h K = F138_rlrr inv k x3 x4 x5 x11 h (fun y3 y4 y5 y34 y37 y38 y39 h => K .normal (act 59 [(3, y3), (4, y4), (5, y5), (34, y34), (37, y37), (38, y38), (39, y39)]) h) (fun y4 y5 h => K .ret (act 59 [(4, y4), (5, y5)]) h) := by
      unfold F138_rlrr
      simp only [kq_block c138 29 0, kq_seq c138 58, r138_3, b138_rlrlrr, kq_seq c138 234, r138_4, kq_ret c138 469, kq_seq c138 235, r138_5, b138_rrrlrlrr, kq_seq c138 942, r138_6, kq_seq c138 1885, r138_7, kq_seq c138 3771, r138_8, kq_ret c138 7543, kq_seq c138 943, r138_9, b138_rrrrrlrlrr, kq_seq c138 3774, r138_10, kq_block c138 7549 1, F138_lrlrrrrrlrlrr_eq, kq_skip c138 3775, reduceIte, reduceCtorEq, XE.exit.injEq, Nat.reduceEqDiff, Nat.reduceMul, Nat.reduceAdd] <;> kernel_rfl
theorem r138_17  : kCode env 138 false inv k (cp c138 30) (act 59 [(3, x3), (4, x4), (5, x5), (34, x34), (37, x37), (38, x38), (39, x39)]) h K =
    K .normal (act 59 [(4, x4), (5, x5)]) h := kq_reg
theorem res138_0 : resOfFn env.P 138 .ret (act 59 [(4, x4), (5, x5)]) h = some (.tuple #[x4, x5], h) := kq_res
/-- shadowbook/batch.One -/
noncomputable def F138 (inv : Inv) (k : Nat) (x0 x1 : Value) (h : AH) : Option (Value × AH) :=
    bnd (pBox Tryz.prog 134 x1 h) fun x3 =>
    bnd (inv (.func 126) #[] #[x0] x3.2) fun x9 =>
    bnd (pFieldAddr Tryz.prog 134 x3.1 0) fun x10 =>
    bnd (pLoad Tryz.prog 3 x10 x9.2) fun x11 =>
    F138_rlrr inv k x3.1 x9.1 (.int .i64 0) x11 x9.2
    (fun y3 y4 y5 y34 y37 y38 y39 h =>
    some (.tuple #[y4, y5], h))
    (fun y4_4 y5_5 h_6 =>
    some (.tuple #[y4_4, y5_5], h_6))
theorem F138_eq : eFun env k inv 138 #[x0, x1] h = F138 inv k x0 x1 h := by
      refine (kq_fun (a := act 59 [(0, x0), (1, x1)]) (c := cp c138 1)).trans ?_
      unfold F138
      simp only [kq_seq c138 1, r138_0, kq_seq c138 3, r138_1, kq_seq c138 7, kq_seq c138 14, r138_2, F138_rlrr_eq, kq_seq c138 15, r138_17, kq_ret c138 31, res138_0, reduceIte, reduceCtorEq, XE.exit.injEq, Nat.reduceEqDiff, Nat.reduceMul, Nat.reduceAdd] <;> kernel_rfl
theorem F138_call : eInv env (k + 1) (.func 138) #[] #[x0, x1] h = F138 (eInv env k) k x0 x1 h := kq_inv F138_eq
end Go.Proofs.YtkdjlihldeafoaaGreat.Sh
