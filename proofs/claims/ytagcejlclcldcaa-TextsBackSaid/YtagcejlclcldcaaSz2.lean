/- Shallow functions, part 2. Printed by a program of the prover's own from the loaded program; Lean checks it. -/
import Derived.Test.YtagcejlclcldcaaSz1
set_option linter.unusedVariables false
set_option linter.unusedSimpArgs false
set_option maxRecDepth 100000
namespace Go.Proofs.Ytagcejlclcldcaa.Sh
open Go Go.RowKit Go.Proofs.Ev
variable {β : Type} {inv : Inv} {k : Nat} {h : AH} {K : XE → Act → AH → Option β} {x0 x1 x2 x3 x4 x5 x6 x7 x8 x9 x10 x11 x12 x13 x14 x15 x16 x17 x18 x19 x20 x21 x22 x23 x24 x25 x30 : Value}
noncomputable def c78 : Code := codeOf Try.prog 78
theorem r78_0  : kCode env 78 false inv k (cp c78 2) (act 19 [(0, x0), (1, x1)]) h K =
    K .normal (act 19 [(0, x0), (1, x1)]) h := kq_reg
theorem r78_1  : kCode env 78 false inv k (cp c78 12) (act 19 [(0, x0), (1, x1)]) h K =
    bnd (pLen Try.prog #[22] x0 h) fun x7 =>
    K .normal (act 19 [(0, x0), (1, x1), (7, x7), (8, (.int .i64 0))]) h := kq_reg
theorem r78_2  : kCode env 78 false inv k (cp c78 104) (act 19 [(0, x0), (1, x1), (7, x7), (8, x8)]) h K =
    bnd (pBin Try.prog .lss 3 (.tmp 8) (.tmp 7) x8 x7) fun x9 =>
    K .normal (act 19 [(0, x0), (1, x1), (7, x7), (8, x8), (9, x9)]) h := kq_reg
theorem b78_lrllrlr  : kCode env 78 false inv k (cp c78 210) (act 19 [(0, x0), (1, x1), (7, x7), (8, x8), (9, x9)]) h K = brV x9 (kCode env 78 false inv k (cp c78 420) (act 19 [(0, x0), (1, x1), (7, x7), (8, x8), (9, x9)]) h K) (kCode env 78 false inv k (cp c78 421) (act 19 [(0, x0), (1, x1), (7, x7), (8, x8), (9, x9)]) h K) := kq_cond
theorem r78_3  : kCode env 78 false inv k (cp c78 1688) (act 19 [(0, x0), (1, x1), (7, x7), (8, x8), (9, x9)]) h K =
    K .normal (act 19 [(0, x0), (1, x1), (5, x8), (7, x7), (8, x8)]) h := kq_reg
theorem r78_4  : kCode env 78 false inv k (cp c78 3378) (act 19 [(0, x0), (1, x1), (5, x5), (7, x7), (8, x8)]) h K =
    bnd (pIndexAddr Try.prog 22 x0 x5) fun x14 =>
    bnd (pLoad Try.prog 9 x14 h) fun x15 =>
    bnd (callV inv x1 #[x15] h) fun x16 =>
    K .normal (act 19 [(0, x0), (1, x1), (5, x5), (7, x7), (8, x8), (16, x16.1)]) x16.2 := kq_reg
theorem b78_rrllrrllrlr  : kCode env 78 false inv k (cp c78 3379) (act 19 [(0, x0), (1, x1), (5, x5), (7, x7), (8, x8), (16, x16)]) h K = brV x16 (kCode env 78 false inv k (cp c78 6758) (act 19 [(0, x0), (1, x1), (5, x5), (7, x7), (8, x8), (16, x16)]) h K) (kCode env 78 false inv k (cp c78 6759) (act 19 [(0, x0), (1, x1), (5, x5), (7, x7), (8, x8), (16, x16)]) h K) := kq_cond
theorem r78_5  : kCode env 78 false inv k (cp c78 13516) (act 19 [(0, x0), (1, x1), (5, x5), (7, x7), (8, x8), (16, x16)]) h K =
    K .normal (act 19 [(4, x5)]) h := kq_reg
theorem r78_6  : kCode env 78 false inv k (cp c78 423) (act 19 [(0, x0), (1, x1), (5, x5), (7, x7), (8, x8), (16, x16)]) h K =
    bnd (pBin Try.prog .add 3 (.tmp 8) (.const (.int .i64 1)) x8 (.int .i64 1)) fun x18 =>
    K .normal (act 19 [(0, x0), (1, x1), (7, x7), (8, x18)]) h := kq_reg
noncomputable def F78_lrlr {β : Type} (inv : Inv) (k : Nat) : Nat → Value → Value → Value → Value → AH → (Value → Value → Value → Value → Value → AH → Option β) → (Value → AH → Option β) → Option β
  | 0, _, _, _, _, _, _, _ => none
  | j + 1, x0, x1, x7, x8, h, ke0, kr =>
    bnd (pBin Try.prog .lss 3 (.tmp 8) (.tmp 7) x8 x7) fun x9 =>
    brV x9
    (bnd (pIndexAddr Try.prog 22 x0 x8) fun x14 =>
    bnd (pLoad Try.prog 9 x14 h) fun x15 =>
    bnd (callV inv x1 #[x15] h) fun x16 =>
    brV x16.1
    (kr x8 x16.2)
    (bnd (pBin Try.prog .add 3 (.tmp 8) (.const (.int .i64 1)) x8 (.int .i64 1)) fun x18 =>
    F78_lrlr inv k j x0 x1 x7 x18 x16.2 ke0 kr))
    (ke0 x0 x1 x7 x8 x9 h)
theorem F78_lrlr_j (j : Nat) : kLoop (kCode env 78 false inv k (cp c78 52)) j (act 19 [(0, x0), (1, x1), (7, x7), (8, x8)]) h K = F78_lrlr inv k j x0 x1 x7 x8 h (fun y0 y1 y7 y8 y9 h => K (.exit 0) (act 19 [(0, y0), (1, y1), (7, y7), (8, y8), (9, y9)]) h) (fun y4 h => K .ret (act 19 [(4, y4)]) h) := by
      induction j generalizing x0 x1 x7 x8 h with
      | zero => rfl
      | succ j ih =>
        unfold F78_lrlr
        simp only [kLoop, kq_seq c78 52, r78_2, kq_seq c78 105, b78_lrllrlr, kq_skip c78 420, kq_seq c78 211, kq_block c78 422 1, kq_seq c78 844, r78_3, kq_seq c78 1689, r78_4, b78_rrllrrllrlr, kq_seq c78 6758, r78_5, kq_ret c78 13517, kq_skip c78 6759, r78_6, kq_exit c78 421 0, ih, reduceIte, reduceCtorEq, XE.exit.injEq, Nat.reduceEqDiff, Nat.reduceMul, Nat.reduceAdd] <;> kernel_rfl
theorem F78_lrlr_eq  : kCode env 78 false inv k (cp c78 26) (act 19 [(0, x0), (1, x1), (7, x7), (8, x8)]) h K = F78_lrlr inv k k x0 x1 x7 x8 h (fun y0 y1 y7 y8 y9 h => K (.exit 0) (act 19 [(0, y0), (1, y1), (7, y7), (8, y8), (9, y9)]) h) (fun y4 h => K .ret (act 19 [(4, y4)]) h) := kq_loop (F78_lrlr_j k)
theorem r78_7  : kCode env 78 false inv k (cp c78 14) (act 19 [(0, x0), (1, x1), (7, x7), (8, x8), (9, x9)]) h K =
    K .normal (act 19 [(4, (.int .i64 (-1)))]) h := kq_reg
theorem res78_0 : resOfFn env.P 78 .ret (act 19 [(4, x4)]) h = some (x4, h) := kq_res
/-- slices.IndexFunc[[]string,string] -/
noncomputable def F78 (inv : Inv) (k : Nat) (x0 x1 : Value) (h : AH) : Option (Value × AH) :=
    bnd (pLen Try.prog #[22] x0 h) fun x7 =>
    F78_lrlr inv k k x0 x1 x7 (.int .i64 0) h
    (fun y0 y1 y7 y8 y9 h =>
    some ((.int .i64 (-1)), h))
    (fun y4 h_1 =>
    some (y4, h_1))
theorem F78_eq : eFun env k inv 78 #[x0, x1] h = F78 inv k x0 x1 h := by
      refine (kq_fun (a := act 19 [(0, x0), (1, x1)]) (c := cp c78 1)).trans ?_
      unfold F78
      simp only [kq_seq c78 1, r78_0, kq_seq c78 3, kq_seq c78 6, r78_1, kq_block c78 13 0, F78_lrlr_eq, kq_seq c78 7, r78_7, kq_ret c78 15, res78_0, reduceIte, reduceCtorEq, XE.exit.injEq, Nat.reduceEqDiff, Nat.reduceMul, Nat.reduceAdd] <;> kernel_rfl
theorem F78_call : eInv env (k + 1) (.func 78) #[] #[x0, x1] h = F78 (eInv env k) k x0 x1 h := kq_inv F78_eq
noncomputable def c79 : Code := codeOf Try.prog 79
theorem r79_0  : kCode env 79 false inv k (cp c79 2) (act 6 [(0, x0)]) h K =
    K .normal (act 6 [(0, x0)]) h := kq_reg
theorem r79_1  : kCode env 79 false inv k (cp c79 6) (act 6 [(0, x0)]) h K =
    bnd (pBin Try.prog .neq 9 (.tmp 3) (.tmp 4) x0 x0) fun x5 =>
    K .normal (act 6 [(2, x5)]) h := kq_reg
theorem res79_0 : resOfFn env.P 79 .ret (act 6 [(2, x2)]) h = some (x2, h) := kq_res
/-- cmp.isNaN[string] -/
noncomputable def F79 (inv : Inv) (k : Nat) (x0 : Value) (h : AH) : Option (Value × AH) :=
    bnd (pBin Try.prog .neq 9 (.tmp 3) (.tmp 4) x0 x0) fun x5 =>
    some (x5, h)
theorem F79_eq : eFun env k inv 79 #[x0] h = F79 inv k x0 h := by
      refine (kq_fun (a := act 6 [(0, x0)]) (c := cp c79 1)).trans ?_
      unfold F79
      simp only [kq_seq c79 1, r79_0, kq_seq c79 3, r79_1, kq_ret c79 7, res79_0, reduceIte, reduceCtorEq, XE.exit.injEq, Nat.reduceEqDiff, Nat.reduceMul, Nat.reduceAdd] <;> kernel_rfl
theorem F79_call : eInv env (k + 1) (.func 79) #[] #[x0] h = F79 (eInv env k) k x0 h := kq_inv F79_eq
noncomputable def c80 : Code := codeOf Try.prog 80
theorem r80_0  : kCode env 80 false inv k (cp c80 2) (act 4 [(0, x0)]) h K =
    bnd (pBox Try.prog 30 x0 h) fun x1 =>
    K .normal (act 4 [(1, x1.1)]) x1.2 := kq_reg
theorem r80_1  : kCode env 80 false inv k (cp c80 6) (act 4 [(1, x1)]) h K =
    bnd (pMakeFunc (.func 95) #[] #[x1]) fun x3 =>
    K .normal (act 4 [(2, x3)]) h := kq_reg
theorem res80_0 : resOfFn env.P 80 .ret (act 4 [(2, x2)]) h = some (x2, h) := kq_res
/-- slices.Backward[[]byte,byte] -/
noncomputable def F80 (inv : Inv) (k : Nat) (x0 : Value) (h : AH) : Option (Value × AH) :=
    bnd (pBox Try.prog 30 x0 h) fun x1 =>
    bnd (pMakeFunc (.func 95) #[] #[x1.1]) fun x3 =>
    some (x3, x1.2)
theorem F80_eq : eFun env k inv 80 #[x0] h = F80 inv k x0 h := by
      refine (kq_fun (a := act 4 [(0, x0)]) (c := cp c80 1)).trans ?_
      unfold F80
      simp only [kq_seq c80 1, r80_0, kq_seq c80 3, r80_1, kq_ret c80 7, res80_0, reduceIte, reduceCtorEq, XE.exit.injEq, Nat.reduceEqDiff, Nat.reduceMul, Nat.reduceAdd] <;> kernel_rfl
theorem F80_call : eInv env (k + 1) (.func 80) #[] #[x0] h = F80 (eInv env k) k x0 h := kq_inv F80_eq
noncomputable def c81 : Code := codeOf Try.prog 81
theorem r81_0  : kCode env 81 false inv k (cp c81 2) (act 9 [(0, x0), (1, x1)]) h K =
    K .normal (act 9 [(0, x0), (1, x1)]) h := kq_reg
theorem r81_1  : kCode env 81 false inv k (cp c81 6) (act 9 [(0, x0), (1, x1)]) h K =
    bnd (inv (.func 96) #[] #[x0, x1] h) fun x7 =>
    bnd (pBin Try.prog .geq 3 (.tmp 7) (.const (.int .i64 0)) x7.1 (.int .i64 0)) fun x8 =>
    K .normal (act 9 [(4, x8)]) x7.2 := kq_reg
theorem res81_0 : resOfFn env.P 81 .ret (act 9 [(4, x4)]) h = some (x4, h) := kq_res
/-- slices.ContainsFunc[[]byte,byte] -/
noncomputable def F81 (inv : Inv) (k : Nat) (x0 x1 : Value) (h : AH) : Option (Value × AH) :=
    bnd (inv (.func 96) #[] #[x0, x1] h) fun x7 =>
    bnd (pBin Try.prog .geq 3 (.tmp 7) (.const (.int .i64 0)) x7.1 (.int .i64 0)) fun x8 =>
    some (x8, x7.2)
theorem F81_eq : eFun env k inv 81 #[x0, x1] h = F81 inv k x0 x1 h := by
      refine (kq_fun (a := act 9 [(0, x0), (1, x1)]) (c := cp c81 1)).trans ?_
      unfold F81
      simp only [kq_seq c81 1, r81_0, kq_seq c81 3, r81_1, kq_ret c81 7, res81_0, reduceIte, reduceCtorEq, XE.exit.injEq, Nat.reduceEqDiff, Nat.reduceMul, Nat.reduceAdd] <;> kernel_rfl
theorem F81_call : eInv env (k + 1) (.func 81) #[] #[x0, x1] h = F81 (eInv env k) k x0 x1 h := kq_inv F81_eq
noncomputable def c82 : Code := codeOf Try.prog 82
theorem r82_0  : kCode env 82 false inv k (cp c82 2) (act 5 [(0, x0)]) h K =
    K .normal (act 5 [(0, x0)]) h := kq_reg
theorem r82_1  : kCode env 82 false inv k (cp c82 6) (act 5 [(0, x0)]) h K =
    bnd (pBin Try.prog .lss 5 (.tmp 3) (.const (.int .u8 128)) x0 (.int .u8 128)) fun x4 =>
    K .normal (act 5 [(2, x4)]) h := kq_reg
theorem res82_0 : resOfFn env.P 82 .ret (act 5 [(2, x2)]) h = some (x2, h) := kq_res
/-- (*shadowbook/octet.Reader).ends$1 -/
noncomputable def F82 (inv : Inv) (k : Nat) (x0 : Value) (h : AH) : Option (Value × AH) :=
    bnd (pBin Try.prog .lss 5 (.tmp 3) (.const (.int .u8 128)) x0 (.int .u8 128)) fun x4 =>
    some (x4, h)
theorem F82_eq : eFun env k inv 82 #[x0] h = F82 inv k x0 h := by
      refine (kq_fun (a := act 5 [(0, x0)]) (c := cp c82 1)).trans ?_
      unfold F82
      simp only [kq_seq c82 1, r82_0, kq_seq c82 3, r82_1, kq_ret c82 7, res82_0, reduceIte, reduceCtorEq, XE.exit.injEq, Nat.reduceEqDiff, Nat.reduceMul, Nat.reduceAdd] <;> kernel_rfl
theorem F82_call : eInv env (k + 1) (.func 82) #[] #[x0] h = F82 (eInv env k) k x0 h := kq_inv F82_eq
noncomputable def c83 : Code := codeOf Try.prog 83
theorem r83_0  : kCode env 83 false inv k (cp c83 2) (act 33 [(0, x0), (1, x1), (2, x2)]) h K =
    K .normal (act 33 [(0, x0), (1, x1), (2, x2)]) h := kq_reg
theorem r83_1  : kCode env 83 false inv k (cp c83 24) (act 33 [(0, x0), (1, x1), (2, x2)]) h K =
    bnd (inv (.func 59) #[] #[x1, x2] h) fun x10 =>
    bnd (pUn Try.prog .not x10.1) fun x11 =>
    K .normal (act 33 [(0, x0), (1, x1), (2, x2), (7, x11)]) x10.2 := kq_reg
theorem b83_rllr  : kCode env 83 false inv k (cp c83 25) (act 33 [(0, x0), (1, x1), (2, x2), (7, x7)]) h K = brV x7 (kCode env 83 false inv k (cp c83 50) (act 33 [(0, x0), (1, x1), (2, x2), (7, x7)]) h K) (kCode env 83 false inv k (cp c83 51) (act 33 [(0, x0), (1, x1), (2, x2), (7, x7)]) h K) := kq_cond
theorem r83_2  : kCode env 83 false inv k (cp c83 100) (act 33 [(0, x0), (1, x1), (2, x2), (7, x7)]) h K =
    K .normal (act 33 [(6, (.int .i64 2))]) h := kq_reg
theorem res83_0 : resOfFn env.P 83 .ret (act 33 [(6, x6)]) h = some (x6, h) := kq_res
theorem r83_3  : kCode env 83 false inv k (cp c83 102) (act 33 [(0, x0), (1, x1), (2, x2), (7, x7)]) h K =
    bnd (pLen Try.prog #[30] x0 h) fun x14 =>
    bnd (inv (.func 60) #[] #[x1, x2] h) fun x17 =>
    bnd (pBin Try.prog .neq 3 (.tmp 14) (.tmp 17) x14 x17.1) fun x18 =>
    K .normal (act 33 [(0, x0), (1, x1), (2, x2), (12, x18)]) x17.2 := kq_reg
theorem b83_rrrllr  : kCode env 83 false inv k (cp c83 103) (act 33 [(0, x0), (1, x1), (2, x2), (12, x12)]) h K = brV x12 (kCode env 83 false inv k (cp c83 206) (act 33 [(0, x0), (1, x1), (2, x2), (12, x12)]) h K) (kCode env 83 false inv k (cp c83 207) (act 33 [(0, x0), (1, x1), (2, x2), (12, x12)]) h K) := kq_cond
theorem r83_4  : kCode env 83 false inv k (cp c83 412) (act 33 [(0, x0), (1, x1), (2, x2), (12, x12)]) h K =
    K .normal (act 33 [(6, (.int .i64 4))]) h := kq_reg
noncomputable abbrev G83_5 {β : Type} (inv : Inv) (x0 x1 x2 : Value) (h : AH) (K : Value → AH → Option β) : Option β :=
    bnd (pBin Try.prog .mul 3 (.tmp 21) (.tmp 22) x1 x2) fun x23 =>
    bnd (pLen Try.prog #[30] x0 h) fun x25 =>
    bnd (pBin Try.prog .mul 3 (.const (.int .i64 8)) (.tmp 25) (.int .i64 8) x25) fun x26 =>
    bnd (pBin Try.prog .mul 3 (.tmp 27) (.tmp 28) x1 x2) fun x29 =>
    bnd (pBin Try.prog .sub 3 (.tmp 26) (.tmp 29) x26 x29) fun x30 =>
    bnd (inv (.func 97) #[] #[x0, x23, x30] h) fun x31 =>
    bnd (pBin Try.prog .neq 48 (.tmp 31) (.const (.int .u64 0)) x31.1 (.int .u64 0)) fun x32 =>
    K (x32) x31.2
theorem r83_5  : kCode env 83 false inv k (cp c83 414) (act 33 [(0, x0), (1, x1), (2, x2), (12, x12)]) h K =
    G83_5 inv x0 x1 x2 h fun y19 h => K .normal (act 33 [(19, y19)]) h := kq_reg
theorem b83_rrrrrllr  : kCode env 83 false inv k (cp c83 415) (act 33 [(19, x19)]) h K = brV x19 (kCode env 83 false inv k (cp c83 830) (act 33 [(19, x19)]) h K) (kCode env 83 false inv k (cp c83 831) (act 33 [(19, x19)]) h K) := kq_cond
theorem r83_6  : kCode env 83 false inv k (cp c83 1660) (act 33 [(19, x19)]) h K =
    K .normal (act 33 [(6, (.int .i64 4))]) h := kq_reg
theorem r83_7  : kCode env 83 false inv k (cp c83 14) (act 33 [(19, x19)]) h K =
    K .normal (act 33 [(6, (.int .i64 0))]) h := kq_reg
/-- shadowbook/packs.check -/
noncomputable def F83 (inv : Inv) (k : Nat) (x0 x1 x2 : Value) (h : AH) : Option (Value × AH) :=
    bnd (inv (.func 59) #[] #[x1, x2] h) fun x10 =>
    bnd (pUn Try.prog .not x10.1) fun x11 =>
    brV x11
    (some ((.int .i64 2), x10.2))
    (bnd (pLen Try.prog #[30] x0 x10.2) fun x14 =>
    bnd (inv (.func 60) #[] #[x1, x2] x10.2) fun x17 =>
    bnd (pBin Try.prog .neq 3 (.tmp 14) (.tmp 17) x14 x17.1) fun x18 =>
    brV x18
    (some ((.int .i64 4), x17.2))
    (G83_5 inv x0 x1 x2 x17.2 fun y19 h =>
    brV y19
    (some ((.int .i64 4), h))
    (some ((.int .i64 0), h))))
theorem F83_eq : eFun env k inv 83 #[x0, x1, x2] h = F83 inv k x0 x1 x2 h := by
      refine (kq_fun (a := act 33 [(0, x0), (1, x1), (2, x2)]) (c := cp c83 1)).trans ?_
      unfold F83
      simp only [kq_seq c83 1, r83_0, kq_seq c83 3, kq_block c83 6 0, kq_seq c83 12, r83_1, b83_rllr, kq_seq c83 50, r83_2, kq_ret c83 101, res83_0, kq_seq c83 51, r83_3, b83_rrrllr, kq_seq c83 206, r83_4, kq_ret c83 413, kq_seq c83 207, r83_5, b83_rrrrrllr, kq_seq c83 830, r83_6, kq_ret c83 1661, kq_skip c83 831, kq_seq c83 7, r83_7, kq_ret c83 15, reduceIte, reduceCtorEq, XE.exit.injEq, Nat.reduceEqDiff, Nat.reduceMul, Nat.reduceAdd] <;> kernel_rfl
theorem F83_call : eInv env (k + 1) (.func 83) #[] #[x0, x1, x2] h = F83 (eInv env k) k x0 x1 x2 h := kq_inv F83_eq
noncomputable def c84 : Code := codeOf Try.prog 84
theorem r84_0  : kCode env 84 false inv k (cp c84 2) (act 8 [(0, x0), (1, x1), (2, x2)]) h K =
    bnd (pBox Try.prog 30 x0 h) fun x3 =>
    bnd (pBox Try.prog 3 x1 x3.2) fun x4 =>
    bnd (pBox Try.prog 3 x2 x4.2) fun x5 =>
    K .normal (act 8 [(3, x3.1), (4, x4.1), (5, x5.1)]) x5.2 := kq_reg
theorem r84_1  : kCode env 84 false inv k (cp c84 6) (act 8 [(3, x3), (4, x4), (5, x5)]) h K =
    bnd (pMakeFunc (.func 98) #[] #[x3, x4, x5]) fun x7 =>
    K .normal (act 8 [(6, x7)]) h := kq_reg
theorem res84_0 : resOfFn env.P 84 .ret (act 8 [(6, x6)]) h = some (x6, h) := kq_res
/-- shadowbook/packs.Each -/
noncomputable def F84 (inv : Inv) (k : Nat) (x0 x1 x2 : Value) (h : AH) : Option (Value × AH) :=
    bnd (pBox Try.prog 30 x0 h) fun x3 =>
    bnd (pBox Try.prog 3 x1 x3.2) fun x4 =>
    bnd (pBox Try.prog 3 x2 x4.2) fun x5 =>
    bnd (pMakeFunc (.func 98) #[] #[x3.1, x4.1, x5.1]) fun x7 =>
    some (x7, x5.2)
theorem F84_eq : eFun env k inv 84 #[x0, x1, x2] h = F84 inv k x0 x1 x2 h := by
      refine (kq_fun (a := act 8 [(0, x0), (1, x1), (2, x2)]) (c := cp c84 1)).trans ?_
      unfold F84
      simp only [kq_seq c84 1, r84_0, kq_seq c84 3, r84_1, kq_ret c84 7, res84_0, reduceIte, reduceCtorEq, XE.exit.injEq, Nat.reduceEqDiff, Nat.reduceMul, Nat.reduceAdd] <;> kernel_rfl
theorem F84_call : eInv env (k + 1) (.func 84) #[] #[x0, x1, x2] h = F84 (eInv env k) k x0 x1 x2 h := kq_inv F84_eq
noncomputable def c95 : Code := codeOf Try.prog 95
theorem r95_0  : kCode env 95 false inv k (cp c95 2) (act 19 [(0, x0), (1, x1)]) h K =
    bnd (pLoad Try.prog 30 x1 h) fun x4 =>
    bnd (pLen Try.prog #[30] x4 h) fun x5 =>
    bnd (pBin Try.prog .sub 3 (.tmp 5) (.const (.int .i64 1)) x5 (.int .i64 1)) fun x6 =>
    K .normal (act 19 [(0, x0), (1, x1), (3, x6)]) h := kq_reg
theorem r95_1  : kCode env 95 false inv k (cp c95 48) (act 19 [(0, x0), (1, x1), (3, x3)]) h K =
    bnd (pBin Try.prog .geq 3 (.tmp 7) (.const (.int .i64 0)) x3 (.int .i64 0)) fun x8 =>
    K .normal (act 19 [(0, x0), (1, x1), (3, x3), (8, x8)]) h := kq_reg
theorem b95_rlllr  : kCode env 95 false inv k (cp c95 49) (act 19 [(0, x0), (1, x1), (3, x3), (8, x8)]) h K = brV x8 (kCode env 95 false inv k (cp c95 98) (act 19 [(0, x0), (1, x1), (3, x3), (8, x8)]) h K) (kCode env 95 false inv k (cp c95 99) (act 19 [(0, x0), (1, x1), (3, x3), (8, x8)]) h K) := kq_cond
theorem r95_3  : kCode env 95 false inv k (cp c95 200) (act 19 [(0, x0), (1, x1), (3, x3), (8, x8)]) h K =
    bnd (pLoad Try.prog 30 x1 h) fun x13 =>
    bnd (pIndexAddr Try.prog 30 x13 x3) fun x15 =>
    bnd (pLoad Try.prog 5 x15 h) fun x16 =>
    bnd (callV inv x0 #[x3, x16] h) fun x17 =>
    bnd (pUn Try.prog .not x17.1) fun x18 =>
    K .normal (act 19 [(0, x0), (1, x1), (3, x3), (18, x18)]) x17.2 := kq_reg
theorem b95_rllrllr  : kCode env 95 false inv k (cp c95 201) (act 19 [(0, x0), (1, x1), (3, x3), (18, x18)]) h K = brV x18 (kCode env 95 false inv k (cp c95 402) (act 19 [(0, x0), (1, x1), (3, x3), (18, x18)]) h K) (kCode env 95 false inv k (cp c95 403) (act 19 [(0, x0), (1, x1), (3, x3), (18, x18)]) h K) := kq_cond
theorem r95_2  : kCode env 95 false inv k (cp c95 51) (act 19 [(0, x0), (1, x1), (3, x3), (18, x18)]) h K =
    bnd (pBin Try.prog .sub 3 (.tmp 9) (.const (.int .i64 1)) x3 (.int .i64 1)) fun x10 =>
    K .normal (act 19 [(0, x0), (1, x1), (3, x10)]) h := kq_reg
noncomputable def F95_lr {β : Type} (inv : Inv) (k : Nat) : Nat → Value → Value → Value → AH → (Value → Value → Value → Value → AH → Option β) → (Value → Value → Value → Value → AH → Option β) → Option β
  | 0, _, _, _, _, _, _ => none
  | j + 1, x0, x1, x3, h, ke0, kr =>
    bnd (pBin Try.prog .geq 3 (.tmp 7) (.const (.int .i64 0)) x3 (.int .i64 0)) fun x8 =>
    brV x8
    (bnd (pLoad Try.prog 30 x1 h) fun x13 =>
    bnd (pIndexAddr Try.prog 30 x13 x3) fun x15 =>
    bnd (pLoad Try.prog 5 x15 h) fun x16 =>
    bnd (callV inv x0 #[x3, x16] h) fun x17 =>
    bnd (pUn Try.prog .not x17.1) fun x18 =>
    brV x18
    (kr x0 x1 x3 x18 x17.2)
    (bnd (pBin Try.prog .sub 3 (.tmp 9) (.const (.int .i64 1)) x3 (.int .i64 1)) fun x10 =>
    F95_lr inv k j x0 x1 x10 x17.2 ke0 kr))
    (ke0 x0 x1 x3 x8 h)
theorem F95_lr_j (j : Nat) : kLoop (kCode env 95 false inv k (cp c95 12)) j (act 19 [(0, x0), (1, x1), (3, x3)]) h K = F95_lr inv k j x0 x1 x3 h (fun y0 y1 y3 y8 h => K (.exit 0) (act 19 [(0, y0), (1, y1), (3, y3), (8, y8)]) h) (fun y0 y1 y3 y18 h => K .ret (act 19 [(0, y0), (1, y1), (3, y3), (18, y18)]) h) := by
      induction j generalizing x0 x1 x3 h with
      | zero => rfl
      | succ j ih =>
        unfold F95_lr
        simp only [kLoop, kq_seq c95 12, kq_seq c95 24, r95_1, b95_rlllr, kq_skip c95 98, kq_seq c95 25, kq_block c95 50 1, kq_seq c95 100, r95_3, b95_rllrllr, kq_ret c95 402, kq_skip c95 403, r95_2, kq_exit c95 99 0, ih, reduceIte, reduceCtorEq, XE.exit.injEq, Nat.reduceEqDiff, Nat.reduceMul, Nat.reduceAdd] <;> kernel_rfl
theorem F95_lr_eq  : kCode env 95 false inv k (cp c95 6) (act 19 [(0, x0), (1, x1), (3, x3)]) h K = F95_lr inv k k x0 x1 x3 h (fun y0 y1 y3 y8 h => K (.exit 0) (act 19 [(0, y0), (1, y1), (3, y3), (8, y8)]) h) (fun y0 y1 y3 y18 h => K .ret (act 19 [(0, y0), (1, y1), (3, y3), (18, y18)]) h) := kq_loop (F95_lr_j k)
theorem res95_0 : resOfFn env.P 95 .normal (act 19 [(0, x0), (1, x1), (3, x3), (8, x8)]) h = some (.tuple #[], h) := kq_res
theorem res95_1 : resOfFn env.P 95 .ret (act 19 [(0, x0), (1, x1), (3, x3), (18, x18)]) h = some (.tuple #[], h) := kq_res
/-- slices.Backward[[]byte,byte]$1 -/
noncomputable def F95 (inv : Inv) (k : Nat) (x0 x1 : Value) (h : AH) : Option (Value × AH) :=
    bnd (pLoad Try.prog 30 x1 h) fun x4 =>
    bnd (pLen Try.prog #[30] x4 h) fun x5 =>
    bnd (pBin Try.prog .sub 3 (.tmp 5) (.const (.int .i64 1)) x5 (.int .i64 1)) fun x6 =>
    F95_lr inv k k x0 x1 x6 h
    (fun y0 y1 y3 y8 h =>
    some (.tuple #[], h))
    (fun y0_1 y1_2 y3_3 y18 h_4 =>
    some (.tuple #[], h_4))
theorem F95_eq : eFun env k inv 95 #[x0, x1] h = F95 inv k x0 x1 h := by
      refine (kq_fun (a := act 19 [(0, x0), (1, x1)]) (c := cp c95 1)).trans ?_
      unfold F95
      simp only [kq_seq c95 1, r95_0, kq_block c95 3 0, F95_lr_eq, res95_0, res95_1, reduceIte, reduceCtorEq, XE.exit.injEq, Nat.reduceEqDiff, Nat.reduceMul, Nat.reduceAdd] <;> kernel_rfl
theorem F95_call : eInv env (k + 1) (.func 95) #[] #[x0, x1] h = F95 (eInv env k) k x0 x1 h := kq_inv F95_eq
noncomputable def c96 : Code := codeOf Try.prog 96
theorem r96_0  : kCode env 96 false inv k (cp c96 2) (act 19 [(0, x0), (1, x1)]) h K =
    K .normal (act 19 [(0, x0), (1, x1)]) h := kq_reg
theorem r96_1  : kCode env 96 false inv k (cp c96 12) (act 19 [(0, x0), (1, x1)]) h K =
    bnd (pLen Try.prog #[30] x0 h) fun x7 =>
    K .normal (act 19 [(0, x0), (1, x1), (7, x7), (8, (.int .i64 0))]) h := kq_reg
theorem r96_2  : kCode env 96 false inv k (cp c96 104) (act 19 [(0, x0), (1, x1), (7, x7), (8, x8)]) h K =
    bnd (pBin Try.prog .lss 3 (.tmp 8) (.tmp 7) x8 x7) fun x9 =>
    K .normal (act 19 [(0, x0), (1, x1), (7, x7), (8, x8), (9, x9)]) h := kq_reg
theorem b96_lrllrlr  : kCode env 96 false inv k (cp c96 210) (act 19 [(0, x0), (1, x1), (7, x7), (8, x8), (9, x9)]) h K = brV x9 (kCode env 96 false inv k (cp c96 420) (act 19 [(0, x0), (1, x1), (7, x7), (8, x8), (9, x9)]) h K) (kCode env 96 false inv k (cp c96 421) (act 19 [(0, x0), (1, x1), (7, x7), (8, x8), (9, x9)]) h K) := kq_cond
theorem r96_3  : kCode env 96 false inv k (cp c96 1688) (act 19 [(0, x0), (1, x1), (7, x7), (8, x8), (9, x9)]) h K =
    K .normal (act 19 [(0, x0), (1, x1), (5, x8), (7, x7), (8, x8)]) h := kq_reg
theorem r96_4  : kCode env 96 false inv k (cp c96 3378) (act 19 [(0, x0), (1, x1), (5, x5), (7, x7), (8, x8)]) h K =
    bnd (pIndexAddr Try.prog 30 x0 x5) fun x14 =>
    bnd (pLoad Try.prog 5 x14 h) fun x15 =>
    bnd (callV inv x1 #[x15] h) fun x16 =>
    K .normal (act 19 [(0, x0), (1, x1), (5, x5), (7, x7), (8, x8), (16, x16.1)]) x16.2 := kq_reg
theorem b96_rrllrrllrlr  : kCode env 96 false inv k (cp c96 3379) (act 19 [(0, x0), (1, x1), (5, x5), (7, x7), (8, x8), (16, x16)]) h K = brV x16 (kCode env 96 false inv k (cp c96 6758) (act 19 [(0, x0), (1, x1), (5, x5), (7, x7), (8, x8), (16, x16)]) h K) (kCode env 96 false inv k (cp c96 6759) (act 19 [(0, x0), (1, x1), (5, x5), (7, x7), (8, x8), (16, x16)]) h K) := kq_cond
theorem r96_5  : kCode env 96 false inv k (cp c96 13516) (act 19 [(0, x0), (1, x1), (5, x5), (7, x7), (8, x8), (16, x16)]) h K =
    K .normal (act 19 [(4, x5)]) h := kq_reg
theorem r96_6  : kCode env 96 false inv k (cp c96 423) (act 19 [(0, x0), (1, x1), (5, x5), (7, x7), (8, x8), (16, x16)]) h K =
    bnd (pBin Try.prog .add 3 (.tmp 8) (.const (.int .i64 1)) x8 (.int .i64 1)) fun x18 =>
    K .normal (act 19 [(0, x0), (1, x1), (7, x7), (8, x18)]) h := kq_reg
noncomputable def F96_lrlr {β : Type} (inv : Inv) (k : Nat) : Nat → Value → Value → Value → Value → AH → (Value → Value → Value → Value → Value → AH → Option β) → (Value → AH → Option β) → Option β
  | 0, _, _, _, _, _, _, _ => none
  | j + 1, x0, x1, x7, x8, h, ke0, kr =>
    bnd (pBin Try.prog .lss 3 (.tmp 8) (.tmp 7) x8 x7) fun x9 =>
    brV x9
    (bnd (pIndexAddr Try.prog 30 x0 x8) fun x14 =>
    bnd (pLoad Try.prog 5 x14 h) fun x15 =>
    bnd (callV inv x1 #[x15] h) fun x16 =>
    brV x16.1
    (kr x8 x16.2)
    (bnd (pBin Try.prog .add 3 (.tmp 8) (.const (.int .i64 1)) x8 (.int .i64 1)) fun x18 =>
    F96_lrlr inv k j x0 x1 x7 x18 x16.2 ke0 kr))
    (ke0 x0 x1 x7 x8 x9 h)
theorem F96_lrlr_j (j : Nat) : kLoop (kCode env 96 false inv k (cp c96 52)) j (act 19 [(0, x0), (1, x1), (7, x7), (8, x8)]) h K = F96_lrlr inv k j x0 x1 x7 x8 h (fun y0 y1 y7 y8 y9 h => K (.exit 0) (act 19 [(0, y0), (1, y1), (7, y7), (8, y8), (9, y9)]) h) (fun y4 h => K .ret (act 19 [(4, y4)]) h) := by
      induction j generalizing x0 x1 x7 x8 h with
      | zero => rfl
      | succ j ih =>
        unfold F96_lrlr
        simp only [kLoop, kq_seq c96 52, r96_2, kq_seq c96 105, b96_lrllrlr, kq_skip c96 420, kq_seq c96 211, kq_block c96 422 1, kq_seq c96 844, r96_3, kq_seq c96 1689, r96_4, b96_rrllrrllrlr, kq_seq c96 6758, r96_5, kq_ret c96 13517, kq_skip c96 6759, r96_6, kq_exit c96 421 0, ih, reduceIte, reduceCtorEq, XE.exit.injEq, Nat.reduceEqDiff, Nat.reduceMul, Nat.reduceAdd] <;> kernel_rfl
theorem F96_lrlr_eq  : kCode env 96 false inv k (cp c96 26) (act 19 [(0, x0), (1, x1), (7, x7), (8, x8)]) h K = F96_lrlr inv k k x0 x1 x7 x8 h (fun y0 y1 y7 y8 y9 h => K (.exit 0) (act 19 [(0, y0), (1, y1), (7, y7), (8, y8), (9, y9)]) h) (fun y4 h => K .ret (act 19 [(4, y4)]) h) := kq_loop (F96_lrlr_j k)
theorem r96_7  : kCode env 96 false inv k (cp c96 14) (act 19 [(0, x0), (1, x1), (7, x7), (8, x8), (9, x9)]) h K =
    K .normal (act 19 [(4, (.int .i64 (-1)))]) h := kq_reg
theorem res96_0 : resOfFn env.P 96 .ret (act 19 [(4, x4)]) h = some (x4, h) := kq_res
/-- slices.IndexFunc[[]byte,byte] -/
noncomputable def F96 (inv : Inv) (k : Nat) (x0 x1 : Value) (h : AH) : Option (Value × AH) :=
    bnd (pLen Try.prog #[30] x0 h) fun x7 =>
    F96_lrlr inv k k x0 x1 x7 (.int .i64 0) h
    (fun y0 y1 y7 y8 y9 h =>
    some ((.int .i64 (-1)), h))
    (fun y4 h_1 =>
    some (y4, h_1))
theorem F96_eq : eFun env k inv 96 #[x0, x1] h = F96 inv k x0 x1 h := by
      refine (kq_fun (a := act 19 [(0, x0), (1, x1)]) (c := cp c96 1)).trans ?_
      unfold F96
      simp only [kq_seq c96 1, r96_0, kq_seq c96 3, kq_seq c96 6, r96_1, kq_block c96 13 0, F96_lrlr_eq, kq_seq c96 7, r96_7, kq_ret c96 15, res96_0, reduceIte, reduceCtorEq, XE.exit.injEq, Nat.reduceEqDiff, Nat.reduceMul, Nat.reduceAdd] <;> kernel_rfl
theorem F96_call : eInv env (k + 1) (.func 96) #[] #[x0, x1] h = F96 (eInv env k) k x0 x1 h := kq_inv F96_eq
noncomputable def c97 : Code := codeOf Try.prog 97
theorem r97_0  : kCode env 97 false inv k (cp c97 2) (act 32 [(0, x0), (1, x1), (2, x2)]) h K =
    K .normal (act 32 [(0, x0), (1, x1), (2, x2), (6, (.int .u64 0))]) h := kq_reg
theorem r97_1  : kCode env 97 false inv k (cp c97 12) (act 32 [(0, x0), (1, x1), (2, x2), (6, x6)]) h K =
    K .normal (act 32 [(0, x0), (1, x1), (6, x6), (9, x2), (10, (.int .i64 0))]) h := kq_reg
theorem r97_2  : kCode env 97 false inv k (cp c97 104) (act 32 [(0, x0), (1, x1), (6, x6), (9, x9), (10, x10)]) h K =
    bnd (pBin Try.prog .lss 3 (.tmp 10) (.tmp 9) x10 x9) fun x11 =>
    K .normal (act 32 [(0, x0), (1, x1), (6, x6), (9, x9), (10, x10), (11, x11)]) h := kq_reg
theorem b97_lrllrlr  : kCode env 97 false inv k (cp c97 210) (act 32 [(0, x0), (1, x1), (6, x6), (9, x9), (10, x10), (11, x11)]) h K = brV x11 (kCode env 97 false inv k (cp c97 420) (act 32 [(0, x0), (1, x1), (6, x6), (9, x9), (10, x10), (11, x11)]) h K) (kCode env 97 false inv k (cp c97 421) (act 32 [(0, x0), (1, x1), (6, x6), (9, x9), (10, x10), (11, x11)]) h K) := kq_cond
theorem r97_3  : kCode env 97 false inv k (cp c97 1688) (act 32 [(0, x0), (1, x1), (6, x6), (9, x9), (10, x10), (11, x11)]) h K =
    K .normal (act 32 [(0, x0), (1, x1), (6, x6), (7, x10), (9, x9), (10, x10)]) h := kq_reg
theorem r97_4  : kCode env 97 false inv k (cp c97 3378) (act 32 [(0, x0), (1, x1), (6, x6), (7, x7), (9, x9), (10, x10)]) h K =
    bnd (pBin Try.prog .add 3 (.tmp 13) (.tmp 14) x1 x7) fun x15 =>
    K .normal (act 32 [(0, x0), (1, x1), (6, x6), (7, x7), (8, x15), (9, x9), (10, x10)]) h := kq_reg
noncomputable abbrev G97_5 {β : Type} (inv : Inv) (x0 x1 x6 x7 x8 x9 x10 : Value) (h : AH) (K : Value → AH → Option β) : Option β :=
    bnd (pBin Try.prog .quo 3 (.tmp 18) (.const (.int .i64 8)) x8 (.int .i64 8)) fun x19 =>
    bnd (pIndexAddr Try.prog 30 x0 x19) fun x20 =>
    bnd (pLoad Try.prog 5 x20 h) fun x21 =>
    bnd (pBin Try.prog .rem 3 (.tmp 22) (.const (.int .i64 8)) x8 (.int .i64 8)) fun x23 =>
    bnd (pBin Try.prog .shr 5 (.tmp 21) (.tmp 23) x21 x23) fun x24 =>
    bnd (pBin Try.prog .and 5 (.tmp 24) (.const (.int .u8 1)) x24 (.int .u8 1)) fun x25 =>
    bnd (pConv Try.prog 5 48 x25 h) fun x26 =>
    bnd (pBin Try.prog .shl 48 (.tmp 26) (.tmp 27) x26 x7) fun x28 =>
    bnd (pBin Try.prog .or 48 (.tmp 16) (.tmp 28) x6 x28) fun x29 =>
    K (x29) h
theorem r97_5  : kCode env 97 false inv k (cp c97 3379) (act 32 [(0, x0), (1, x1), (6, x6), (7, x7), (8, x8), (9, x9), (10, x10)]) h K =
    G97_5 inv x0 x1 x6 x7 x8 x9 x10 h fun y6 h => K .normal (act 32 [(0, x0), (1, x1), (6, y6), (9, x9), (10, x10)]) h := kq_reg
theorem r97_6  : kCode env 97 false inv k (cp c97 423) (act 32 [(0, x0), (1, x1), (6, x6), (9, x9), (10, x10)]) h K =
    bnd (pBin Try.prog .add 3 (.tmp 10) (.const (.int .i64 1)) x10 (.int .i64 1)) fun x30 =>
    K .normal (act 32 [(0, x0), (1, x1), (6, x6), (9, x9), (10, x30)]) h := kq_reg
noncomputable def F97_lrlr {β : Type} (inv : Inv) (k : Nat) : Nat → Value → Value → Value → Value → Value → AH → (Value → Value → Value → Value → Value → Value → AH → Option β) → Option β
  | 0, _, _, _, _, _, _, _ => none
  | j + 1, x0, x1, x6, x9, x10, h, ke0 =>
    bnd (pBin Try.prog .lss 3 (.tmp 10) (.tmp 9) x10 x9) fun x11 =>
    brV x11
    (bnd (pBin Try.prog .add 3 (.tmp 13) (.tmp 14) x1 x10) fun x15 =>
    G97_5 inv x0 x1 x6 x10 x15 x9 x10 h fun y6 h =>
    bnd (pBin Try.prog .add 3 (.tmp 10) (.const (.int .i64 1)) x10 (.int .i64 1)) fun x30 =>
    F97_lrlr inv k j x0 x1 y6 x9 x30 h ke0)
    (ke0 x0 x1 x6 x9 x10 x11 h)
theorem F97_lrlr_j (j : Nat) : kLoop (kCode env 97 false inv k (cp c97 52)) j (act 32 [(0, x0), (1, x1), (6, x6), (9, x9), (10, x10)]) h K = F97_lrlr inv k j x0 x1 x6 x9 x10 h (fun y0 y1 y6 y9 y10 y11 h => K (.exit 0) (act 32 [(0, y0), (1, y1), (6, y6), (9, y9), (10, y10), (11, y11)]) h) := by
      induction j generalizing x0 x1 x6 x9 x10 h with
      | zero => rfl
      | succ j ih =>
        unfold F97_lrlr
        simp only [kLoop, kq_seq c97 52, r97_2, kq_seq c97 105, b97_lrllrlr, kq_skip c97 420, kq_seq c97 211, kq_block c97 422 1, kq_seq c97 844, r97_3, kq_seq c97 1689, r97_4, r97_5, r97_6, kq_exit c97 421 0, ih, reduceIte, reduceCtorEq, XE.exit.injEq, Nat.reduceEqDiff, Nat.reduceMul, Nat.reduceAdd] <;> kernel_rfl
theorem F97_lrlr_eq  : kCode env 97 false inv k (cp c97 26) (act 32 [(0, x0), (1, x1), (6, x6), (9, x9), (10, x10)]) h K = F97_lrlr inv k k x0 x1 x6 x9 x10 h (fun y0 y1 y6 y9 y10 y11 h => K (.exit 0) (act 32 [(0, y0), (1, y1), (6, y6), (9, y9), (10, y10), (11, y11)]) h) := kq_loop (F97_lrlr_j k)
theorem r97_7  : kCode env 97 false inv k (cp c97 14) (act 32 [(0, x0), (1, x1), (6, x6), (9, x9), (10, x10), (11, x11)]) h K =
    K .normal (act 32 [(6, x6)]) h := kq_reg
theorem res97_0 : resOfFn env.P 97 .ret (act 32 [(6, x6)]) h = some (x6, h) := kq_res
/-- shadowbook/packs.at -/
noncomputable def F97 (inv : Inv) (k : Nat) (x0 x1 x2 : Value) (h : AH) : Option (Value × AH) :=
    F97_lrlr inv k k x0 x1 (.int .u64 0) x2 (.int .i64 0) h
    (fun y0 y1 y6 y9 y10 y11 h =>
    some (y6, h))
theorem F97_eq : eFun env k inv 97 #[x0, x1, x2] h = F97 inv k x0 x1 x2 h := by
      refine (kq_fun (a := act 32 [(0, x0), (1, x1), (2, x2)]) (c := cp c97 1)).trans ?_
      unfold F97
      simp only [kq_seq c97 1, r97_0, kq_seq c97 3, kq_seq c97 6, r97_1, kq_block c97 13 0, F97_lrlr_eq, kq_seq c97 7, r97_7, kq_ret c97 15, res97_0, reduceIte, reduceCtorEq, XE.exit.injEq, Nat.reduceEqDiff, Nat.reduceMul, Nat.reduceAdd] <;> kernel_rfl
theorem F97_call : eInv env (k + 1) (.func 97) #[] #[x0, x1, x2] h = F97 (eInv env k) k x0 x1 x2 h := kq_inv F97_eq
noncomputable def c98 : Code := codeOf Try.prog 98
theorem r98_0  : kCode env 98 false inv k (cp c98 4) (act 26 [(0, x0), (1, x1), (2, x2), (3, x3)]) h K =
    bnd (pLoad Try.prog 30 x1 h) fun x6 =>
    bnd (pLoad Try.prog 3 x2 h) fun x7 =>
    bnd (pLoad Try.prog 3 x3 h) fun x8 =>
    bnd (inv (.func 83) #[] #[x6, x7, x8] h) fun x9 =>
    bnd (pBin Try.prog .neq 31 (.tmp 9) (.const (.int .i64 0)) x9.1 (.int .i64 0)) fun x10 =>
    K .normal (act 26 [(0, x0), (1, x1), (2, x2), (3, x3), (10, x10)]) x9.2 := kq_reg
theorem b98_rl  : kCode env 98 false inv k (cp c98 5) (act 26 [(0, x0), (1, x1), (2, x2), (3, x3), (10, x10)]) h K = brV x10 (kCode env 98 false inv k (cp c98 10) (act 26 [(0, x0), (1, x1), (2, x2), (3, x3), (10, x10)]) h K) (kCode env 98 false inv k (cp c98 11) (act 26 [(0, x0), (1, x1), (2, x2), (3, x3), (10, x10)]) h K) := kq_cond
theorem res98_0 : resOfFn env.P 98 .ret (act 26 [(0, x0), (1, x1), (2, x2), (3, x3), (10, x10)]) h = some (.tuple #[], h) := kq_res
theorem r98_1  : kCode env 98 false inv k (cp c98 6) (act 26 [(0, x0), (1, x1), (2, x2), (3, x3), (10, x10)]) h K =
    bnd (pLoad Try.prog 3 x2 h) fun x11 =>
    K .normal (act 26 [(0, x0), (1, x1), (3, x3), (11, x11), (12, (.int .i64 0))]) h := kq_reg
theorem r98_2  : kCode env 98 false inv k (cp c98 56) (act 26 [(0, x0), (1, x1), (3, x3), (11, x11), (12, x12)]) h K =
    bnd (pBin Try.prog .lss 3 (.tmp 12) (.tmp 11) x12 x11) fun x13 =>
    K .normal (act 26 [(0, x0), (1, x1), (3, x3), (11, x11), (12, x12), (13, x13)]) h := kq_reg
theorem b98_lrllrr  : kCode env 98 false inv k (cp c98 114) (act 26 [(0, x0), (1, x1), (3, x3), (11, x11), (12, x12), (13, x13)]) h K = brV x13 (kCode env 98 false inv k (cp c98 228) (act 26 [(0, x0), (1, x1), (3, x3), (11, x11), (12, x12), (13, x13)]) h K) (kCode env 98 false inv k (cp c98 229) (act 26 [(0, x0), (1, x1), (3, x3), (11, x11), (12, x12), (13, x13)]) h K) := kq_cond
theorem r98_3  : kCode env 98 false inv k (cp c98 920) (act 26 [(0, x0), (1, x1), (3, x3), (11, x11), (12, x12), (13, x13)]) h K =
    K .normal (act 26 [(0, x0), (1, x1), (3, x3), (5, x12), (11, x11), (12, x12)]) h := kq_reg
theorem r98_4  : kCode env 98 false inv k (cp c98 1842) (act 26 [(0, x0), (1, x1), (3, x3), (5, x5), (11, x11), (12, x12)]) h K =
    bnd (pLoad Try.prog 30 x1 h) fun x17 =>
    bnd (pLoad Try.prog 3 x3 h) fun x19 =>
    bnd (pBin Try.prog .mul 3 (.tmp 18) (.tmp 19) x5 x19) fun x20 =>
    bnd (pLoad Try.prog 3 x3 h) fun x21 =>
    bnd (inv (.func 97) #[] #[x17, x20, x21] h) fun x22 =>
    bnd (callV inv x0 #[x5, x22.1] x22.2) fun x23 =>
    bnd (pUn Try.prog .not x23.1) fun x24 =>
    K .normal (act 26 [(0, x0), (1, x1), (3, x3), (11, x11), (12, x12), (24, x24)]) x23.2 := kq_reg
theorem b98_rrllrrllrr  : kCode env 98 false inv k (cp c98 1843) (act 26 [(0, x0), (1, x1), (3, x3), (11, x11), (12, x12), (24, x24)]) h K = brV x24 (kCode env 98 false inv k (cp c98 3686) (act 26 [(0, x0), (1, x1), (3, x3), (11, x11), (12, x12), (24, x24)]) h K) (kCode env 98 false inv k (cp c98 3687) (act 26 [(0, x0), (1, x1), (3, x3), (11, x11), (12, x12), (24, x24)]) h K) := kq_cond
theorem r98_5  : kCode env 98 false inv k (cp c98 231) (act 26 [(0, x0), (1, x1), (3, x3), (11, x11), (12, x12), (24, x24)]) h K =
    bnd (pBin Try.prog .add 3 (.tmp 12) (.const (.int .i64 1)) x12 (.int .i64 1)) fun x25 =>
    K .normal (act 26 [(0, x0), (1, x1), (3, x3), (11, x11), (12, x25)]) h := kq_reg
noncomputable def F98_lrr {β : Type} (inv : Inv) (k : Nat) : Nat → Value → Value → Value → Value → Value → AH → (Value → Value → Value → Value → Value → Value → AH → Option β) → (Value → Value → Value → Value → Value → Value → AH → Option β) → Option β
  | 0, _, _, _, _, _, _, _, _ => none
  | j + 1, x0, x1, x3, x11, x12, h, ke0, kr =>
    bnd (pBin Try.prog .lss 3 (.tmp 12) (.tmp 11) x12 x11) fun x13 =>
    brV x13
    (bnd (pLoad Try.prog 30 x1 h) fun x17 =>
    bnd (pLoad Try.prog 3 x3 h) fun x19 =>
    bnd (pBin Try.prog .mul 3 (.tmp 18) (.tmp 19) x12 x19) fun x20 =>
    bnd (pLoad Try.prog 3 x3 h) fun x21 =>
    bnd (inv (.func 97) #[] #[x17, x20, x21] h) fun x22 =>
    bnd (callV inv x0 #[x12, x22.1] x22.2) fun x23 =>
    bnd (pUn Try.prog .not x23.1) fun x24 =>
    brV x24
    (kr x0 x1 x3 x11 x12 x24 x23.2)
    (bnd (pBin Try.prog .add 3 (.tmp 12) (.const (.int .i64 1)) x12 (.int .i64 1)) fun x25 =>
    F98_lrr inv k j x0 x1 x3 x11 x25 x23.2 ke0 kr))
    (ke0 x0 x1 x3 x11 x12 x13 h)
theorem F98_lrr_j (j : Nat) : kLoop (kCode env 98 false inv k (cp c98 28)) j (act 26 [(0, x0), (1, x1), (3, x3), (11, x11), (12, x12)]) h K = F98_lrr inv k j x0 x1 x3 x11 x12 h (fun y0 y1 y3 y11 y12 y13 h => K (.exit 0) (act 26 [(0, y0), (1, y1), (3, y3), (11, y11), (12, y12), (13, y13)]) h) (fun y0 y1 y3 y11 y12 y24 h => K .ret (act 26 [(0, y0), (1, y1), (3, y3), (11, y11), (12, y12), (24, y24)]) h) := by
      induction j generalizing x0 x1 x3 x11 x12 h with
      | zero => rfl
      | succ j ih =>
        unfold F98_lrr
        simp only [kLoop, kq_seq c98 28, r98_2, kq_seq c98 57, b98_lrllrr, kq_skip c98 228, kq_seq c98 115, kq_block c98 230 1, kq_seq c98 460, r98_3, kq_seq c98 921, r98_4, b98_rrllrrllrr, kq_ret c98 3686, kq_skip c98 3687, r98_5, kq_exit c98 229 0, ih, reduceIte, reduceCtorEq, XE.exit.injEq, Nat.reduceEqDiff, Nat.reduceMul, Nat.reduceAdd] <;> kernel_rfl
theorem F98_lrr_eq  : kCode env 98 false inv k (cp c98 14) (act 26 [(0, x0), (1, x1), (3, x3), (11, x11), (12, x12)]) h K = F98_lrr inv k k x0 x1 x3 x11 x12 h (fun y0 y1 y3 y11 y12 y13 h => K (.exit 0) (act 26 [(0, y0), (1, y1), (3, y3), (11, y11), (12, y12), (13, y13)]) h) (fun y0 y1 y3 y11 y12 y24 h => K .ret (act 26 [(0, y0), (1, y1), (3, y3), (11, y11), (12, y12), (24, y24)]) h) := kq_loop (F98_lrr_j k)
theorem res98_1 : resOfFn env.P 98 .normal (act 26 [(0, x0), (1, x1), (3, x3), (11, x11), (12, x12), (13, x13)]) h = some (.tuple #[], h) := kq_res
theorem res98_2 : resOfFn env.P 98 .ret (act 26 [(0, x0), (1, x1), (3, x3), (11, x11), (12, x12), (24, x24)]) h = some (.tuple #[], h) := kq_res
/-- shadowbook/packs.Each$1 -/
noncomputable def F98 (inv : Inv) (k : Nat) (x0 x1 x2 x3 : Value) (h : AH) : Option (Value × AH) :=
    bnd (pLoad Try.prog 30 x1 h) fun x6 =>
    bnd (pLoad Try.prog 3 x2 h) fun x7 =>
    bnd (pLoad Try.prog 3 x3 h) fun x8 =>
    bnd (inv (.func 83) #[] #[x6, x7, x8] h) fun x9 =>
    bnd (pBin Try.prog .neq 31 (.tmp 9) (.const (.int .i64 0)) x9.1 (.int .i64 0)) fun x10 =>
    brV x10
    (some (.tuple #[], x9.2))
    (bnd (pLoad Try.prog 3 x2 x9.2) fun x11 =>
    F98_lrr inv k k x0 x1 x3 x11 (.int .i64 0) x9.2
    (fun y0 y1 y3 y11 y12 y13 h =>
    some (.tuple #[], h))
    (fun y0_1 y1_2 y3_3 y11_4 y12_5 y24 h_6 =>
    some (.tuple #[], h_6)))
theorem F98_eq : eFun env k inv 98 #[x0, x1, x2, x3] h = F98 inv k x0 x1 x2 x3 h := by
      refine (kq_fun (a := act 26 [(0, x0), (1, x1), (2, x2), (3, x3)]) (c := cp c98 1)).trans ?_
      unfold F98
      simp only [kq_seq c98 1, kq_seq c98 2, r98_0, b98_rl, kq_ret c98 10, res98_0, kq_skip c98 11, kq_seq c98 3, r98_1, kq_block c98 7 0, F98_lrr_eq, res98_1, res98_2, reduceIte, reduceCtorEq, XE.exit.injEq, Nat.reduceEqDiff, Nat.reduceMul, Nat.reduceAdd] <;> kernel_rfl
theorem F98_call : eInv env (k + 1) (.func 98) #[] #[x0, x1, x2, x3] h = F98 (eInv env k) k x0 x1 x2 x3 h := kq_inv F98_eq
end Go.Proofs.Ytagcejlclcldcaa.Sh
