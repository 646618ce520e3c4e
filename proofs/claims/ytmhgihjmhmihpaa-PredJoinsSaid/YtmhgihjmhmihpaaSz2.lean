/- Shallow functions, part 2. Printed by a program of the prover's own from the loaded program; Lean checks it. -/
import Derived.Test.YtmhgihjmhmihpaaSz1
set_option linter.unusedVariables false
set_option linter.unusedSimpArgs false
set_option maxRecDepth 100000
namespace Go.Proofs.Ytmhgihjmhmihpaa.Sh
open Go Go.RowKit Go.Proofs.Ev
variable {β : Type} {inv : Inv} {k : Nat} {h : AH} {K : XE → Act → AH → Option β} {x0 x1 x2 x3 x4 x5 x6 x7 x8 x9 x10 x11 x12 x13 x14 x15 x16 x17 x18 x19 x22 x27 x28 x39 x54 : Value}
noncomputable def c51 : Code := codeOf Try.prog 51
theorem r51_0  : kCode env 51 false inv k (cp c51 2) (act 40 [(0, x0)]) h K =
    bnd (pBox Try.prog 42 x0 h) fun x1 =>
    K .normal (act 40 [(1, x1.1)]) x1.2 := kq_reg
theorem r51_1  : kCode env 51 false inv k (cp c51 6) (act 40 [(1, x1)]) h K =
    K .normal (act 40 [(1, x1), (3, (.bool false))]) h := kq_reg
theorem r51_2  : kCode env 51 false inv k (cp c51 28) (act 40 [(1, x1), (3, x3)]) h K =
    bnd (pFieldAddr Try.prog 42 x1 0) fun x4 =>
    bnd (pLoad Try.prog 3 x4 h) fun x5 =>
    K .normal (act 40 [(1, x1), (3, x3), (5, x5)]) h := kq_reg
theorem r51_3  : kCode env 51 false inv k (cp c51 116) (act 40 [(1, x1), (3, x3), (5, x5)]) h K =
    bnd (pBin Try.prog .eql 3 (.tmp 5) (.const (.int .i64 0)) x5 (.int .i64 0)) fun x7 =>
    K .normal (act 40 [(1, x1), (3, x3), (5, x5), (6, x7)]) h := kq_reg
theorem b51_rlrlrr  : kCode env 51 false inv k (cp c51 117) (act 40 [(1, x1), (3, x3), (5, x5), (6, x6)]) h K = brV x6 (kCode env 51 false inv k (cp c51 234) (act 40 [(1, x1), (3, x3), (5, x5), (6, x6)]) h K) (kCode env 51 false inv k (cp c51 235) (act 40 [(1, x1), (3, x3), (5, x5), (6, x6)]) h K) := kq_cond
theorem r51_4  : kCode env 51 false inv k (cp c51 234) (act 40 [(1, x1), (3, x3), (5, x5), (6, x6)]) h K =
    bnd (pLoad Try.prog 42 x1 h) fun x8 =>
    bnd (pBuild Try.prog 42 #[]) fun x9 =>
    bnd (pBin Try.prog .eql 42 (.tmp 8) (.tmp 9) x8 x9) fun x10 =>
    K .normal (act 40 [(3, x10)]) h := kq_reg
theorem r51_5  : kCode env 51 false inv k (cp c51 470) (act 40 [(1, x1), (3, x3), (5, x5), (6, x6)]) h K =
    bnd (pBin Try.prog .eql 3 (.tmp 5) (.const (.int .i64 1)) x5 (.int .i64 1)) fun x12 =>
    K .normal (act 40 [(1, x1), (3, x3), (5, x5), (11, x12)]) h := kq_reg
theorem b51_rrrlrlrr  : kCode env 51 false inv k (cp c51 471) (act 40 [(1, x1), (3, x3), (5, x5), (11, x11)]) h K = brV x11 (kCode env 51 false inv k (cp c51 942) (act 40 [(1, x1), (3, x3), (5, x5), (11, x11)]) h K) (kCode env 51 false inv k (cp c51 943) (act 40 [(1, x1), (3, x3), (5, x5), (11, x11)]) h K) := kq_cond
theorem r51_6  : kCode env 51 false inv k (cp c51 942) (act 40 [(1, x1), (3, x3), (5, x5), (11, x11)]) h K =
    bnd (pFieldAddr Try.prog 42 x1 2) fun x13 =>
    bnd (pLoad Try.prog 9 x13 h) fun x14 =>
    bnd (pBin Try.prog .eql 9 (.tmp 14) (.const (.string { data := #[] })) x14 (.string { data := #[] })) fun x15 =>
    K .normal (act 40 [(3, x15)]) h := kq_reg
theorem r51_7  : kCode env 51 false inv k (cp c51 1886) (act 40 [(1, x1), (3, x3), (5, x5), (11, x11)]) h K =
    bnd (pBin Try.prog .eql 3 (.tmp 5) (.const (.int .i64 2)) x5 (.int .i64 2)) fun x17 =>
    K .normal (act 40 [(1, x1), (3, x3), (5, x5), (16, x17)]) h := kq_reg
theorem b51_rrrrrlrlrr  : kCode env 51 false inv k (cp c51 1887) (act 40 [(1, x1), (3, x3), (5, x5), (16, x16)]) h K = brV x16 (kCode env 51 false inv k (cp c51 3774) (act 40 [(1, x1), (3, x3), (5, x5), (16, x16)]) h K) (kCode env 51 false inv k (cp c51 3775) (act 40 [(1, x1), (3, x3), (5, x5), (16, x16)]) h K) := kq_cond
noncomputable abbrev G51_8 {β : Type} (inv : Inv) (x1 : Value) (h : AH) (K : Value → AH → Option β) : Option β :=
    bnd (pFieldAddr Try.prog 42 x1 2) fun x18 =>
    bnd (pLoad Try.prog 9 x18 h) fun x19 =>
    bnd (pBin Try.prog .eql 9 (.tmp 19) (.const (.string { data := #[] })) x19 (.string { data := #[] })) fun x20 =>
    bnd (gd (some x20) true h (lt (pFieldAddr Try.prog 42 x1 1) h)) fun x22 =>
    bnd (gd (some x20) true x22.2 (lt (pLoad Try.prog 2 x22.1 x22.2) x22.2)) fun x23 =>
    bnd (gd (some x20) true x23.2 (lt (pBin Try.prog .andNot 2 (.tmp 23) (.const (.int .i64 1)) x23.1 (.int .i64 1)) x23.2)) fun x24 =>
    bnd (gd (some x20) true x24.2 (lt (pBin Try.prog .eql 2 (.tmp 24) (.const (.int .i64 0)) x24.1 (.int .i64 0)) x24.2)) fun x25 =>
    bnd (pickV x20 x25.1 (.bool false)) fun x26 =>
    K (x26) x25.2
theorem r51_8  : kCode env 51 false inv k (cp c51 3774) (act 40 [(1, x1), (3, x3), (5, x5), (16, x16)]) h K =
    G51_8 inv x1 h fun y3 h => K .normal (act 40 [(3, y3)]) h := kq_reg
theorem r51_9  : kCode env 51 false inv k (cp c51 7550) (act 40 [(1, x1), (3, x3), (5, x5), (16, x16)]) h K =
    bnd (pBin Try.prog .eql 3 (.tmp 5) (.const (.int .i64 3)) x5 (.int .i64 3)) fun x28 =>
    K .normal (act 40 [(1, x1), (3, x3), (27, x28)]) h := kq_reg
theorem b51_rrrrrrrlrlrr  : kCode env 51 false inv k (cp c51 7551) (act 40 [(1, x1), (3, x3), (27, x27)]) h K = brV x27 (kCode env 51 false inv k (cp c51 15102) (act 40 [(1, x1), (3, x3), (27, x27)]) h K) (kCode env 51 false inv k (cp c51 15103) (act 40 [(1, x1), (3, x3), (27, x27)]) h K) := kq_cond
noncomputable abbrev G51_10 {β : Type} (inv : Inv) (x1 : Value) (h : AH) (K : Value → AH → Option β) : Option β :=
    bnd (pFieldAddr Try.prog 42 x1 1) fun x29 =>
    bnd (pLoad Try.prog 2 x29 h) fun x30 =>
    bnd (pBin Try.prog .eql 2 (.tmp 30) (.const (.int .i64 0)) x30 (.int .i64 0)) fun x31 =>
    bnd (gd (some x31) true h (lt (pFieldAddr Try.prog 42 x1 2) h)) fun x33 =>
    bnd (gd (some x31) true x33.2 (lt (pLoad Try.prog 9 x33.1 x33.2) x33.2)) fun x34 =>
    bnd (gd (some x31) true x34.2 (lt (pLen Try.prog #[9] x34.1 x34.2) x34.2)) fun x35 =>
    bnd (gd (some x31) true x35.2 (lt (pBin Try.prog .leq 3 (.tmp 35) (.const (.int .i64 256)) x35.1 (.int .i64 256)) x35.2)) fun x36 =>
    bnd (pickV x31 x36.1 (.bool false)) fun x37 =>
    K (x37) x36.2
theorem r51_10  : kCode env 51 false inv k (cp c51 15102) (act 40 [(1, x1), (3, x3), (27, x27)]) h K =
    G51_10 inv x1 h fun y3 h => K .normal (act 40 [(3, y3)]) h := kq_reg
noncomputable def F51_rlrr {β : Type} (inv : Inv) (k : Nat) (x1 x3 x5 : Value) (h : AH) (kn : (Value → Value → Value → AH → Option β)) : Option β :=
    bnd (pBin Try.prog .eql 3 (.tmp 5) (.const (.int .i64 0)) x5 (.int .i64 0)) fun x7 =>
    brV x7
    (bnd (pLoad Try.prog 42 x1 h) fun x8 =>
    bnd (pBuild Try.prog 42 #[]) fun x9 =>
    bnd (pBin Try.prog .eql 42 (.tmp 8) (.tmp 9) x8 x9) fun x10 =>
    kn unk x10 unk h)
    (bnd (pBin Try.prog .eql 3 (.tmp 5) (.const (.int .i64 1)) x5 (.int .i64 1)) fun x12 =>
    brV x12
    (bnd (pFieldAddr Try.prog 42 x1 2) fun x13 =>
    bnd (pLoad Try.prog 9 x13 h) fun x14 =>
    bnd (pBin Try.prog .eql 9 (.tmp 14) (.const (.string { data := #[] })) x14 (.string { data := #[] })) fun x15 =>
    kn unk x15 unk h)
    (bnd (pBin Try.prog .eql 3 (.tmp 5) (.const (.int .i64 2)) x5 (.int .i64 2)) fun x17 =>
    brV x17
    (G51_8 inv x1 h fun y3 h =>
    kn unk y3 unk h)
    (bnd (pBin Try.prog .eql 3 (.tmp 5) (.const (.int .i64 3)) x5 (.int .i64 3)) fun x28 =>
    brV x28
    (G51_10 inv x1 h fun y3_1 h_2 =>
    kn unk y3_1 unk h_2)
    (kn x1 x3 x28 h))))
theorem F51_rlrr_eq  : kCode env 51 false inv k (cp c51 29) (act 40 [(1, x1), (3, x3), (5, x5)]) h K = F51_rlrr inv k x1 x3 x5 h (fun y1 y3 y27 h => K .normal (act 40 [(1, y1), (3, y3), (27, y27)]) h) := by
      unfold F51_rlrr
      simp only [kq_block c51 29 0, kq_seq c51 58, r51_3, b51_rlrlrr, r51_4, kq_seq c51 235, r51_5, b51_rrrlrlrr, r51_6, kq_seq c51 943, r51_7, b51_rrrrrlrlrr, r51_8, kq_seq c51 3775, r51_9, b51_rrrrrrrlrlrr, r51_10, kq_skip c51 15103, reduceIte, reduceCtorEq, XE.exit.injEq, Nat.reduceEqDiff, Nat.reduceMul, Nat.reduceAdd] <;> kernel_rfl
theorem r51_11  : kCode env 51 false inv k (cp c51 60) (act 40 [(1, x1), (3, x3), (27, x27)]) h K =
    bnd (pUn Try.prog .not x3) fun x39 =>
    K .normal (act 40 [(39, x39)]) h := kq_reg
theorem b51_rlrrr  : kCode env 51 false inv k (cp c51 61) (act 40 [(39, x39)]) h K = brV x39 (kCode env 51 false inv k (cp c51 122) (act 40 [(39, x39)]) h K) (kCode env 51 false inv k (cp c51 123) (act 40 [(39, x39)]) h K) := kq_cond
theorem r51_12  : kCode env 51 false inv k (cp c51 244) (act 40 [(39, x39)]) h K =
    K .normal (act 40 [(2, (.int .i64 160))]) h := kq_reg
theorem res51_0 : resOfFn env.P 51 .ret (act 40 [(2, x2)]) h = some (x2, h) := kq_res
theorem r51_13  : kCode env 51 false inv k (cp c51 62) (act 40 [(39, x39)]) h K =
    K .normal (act 40 [(2, (.int .i64 0))]) h := kq_reg
/-- shadowbook/value.Check -/
noncomputable def F51 (inv : Inv) (k : Nat) (x0 : Value) (h : AH) : Option (Value × AH) :=
    bnd (pBox Try.prog 42 x0 h) fun x1 =>
    bnd (pFieldAddr Try.prog 42 x1.1 0) fun x4 =>
    bnd (pLoad Try.prog 3 x4 x1.2) fun x5 =>
    F51_rlrr inv k x1.1 (.bool false) x5 x1.2
    (fun y1 y3 y27 h =>
    bnd (pUn Try.prog .not y3) fun x39 =>
    brV x39
    (some ((.int .i64 160), h))
    (some ((.int .i64 0), h)))
theorem F51_eq : eFun env k inv 51 #[x0] h = F51 inv k x0 h := by
      refine (kq_fun (a := act 40 [(0, x0)]) (c := cp c51 1)).trans ?_
      unfold F51
      simp only [kq_seq c51 1, r51_0, kq_seq c51 3, r51_1, kq_seq c51 7, kq_seq c51 14, r51_2, F51_rlrr_eq, kq_seq c51 15, kq_seq c51 30, r51_11, b51_rlrrr, kq_seq c51 122, r51_12, kq_ret c51 245, res51_0, kq_skip c51 123, kq_seq c51 31, r51_13, kq_ret c51 63, reduceIte, reduceCtorEq, XE.exit.injEq, Nat.reduceEqDiff, Nat.reduceMul, Nat.reduceAdd] <;> kernel_rfl
theorem F51_call : eInv env (k + 1) (.func 51) #[] #[x0] h = F51 (eInv env k) k x0 h := kq_inv F51_eq
noncomputable def c52 : Code := codeOf Try.prog 52
theorem r52_0  : kCode env 52 false inv k (cp c52 2) (act 19 [(0, x0), (1, x1)]) h K =
    K .normal (act 19 [(0, x0), (1, x1)]) h := kq_reg
theorem r52_1  : kCode env 52 false inv k (cp c52 12) (act 19 [(0, x0), (1, x1)]) h K =
    bnd (pLen Try.prog #[46] x0 h) fun x7 =>
    K .normal (act 19 [(0, x0), (1, x1), (7, x7), (8, (.int .i64 0))]) h := kq_reg
theorem r52_2  : kCode env 52 false inv k (cp c52 104) (act 19 [(0, x0), (1, x1), (7, x7), (8, x8)]) h K =
    bnd (pBin Try.prog .lss 3 (.tmp 8) (.tmp 7) x8 x7) fun x9 =>
    K .normal (act 19 [(0, x0), (1, x1), (7, x7), (8, x8), (9, x9)]) h := kq_reg
theorem b52_lrllrlr  : kCode env 52 false inv k (cp c52 210) (act 19 [(0, x0), (1, x1), (7, x7), (8, x8), (9, x9)]) h K = brV x9 (kCode env 52 false inv k (cp c52 420) (act 19 [(0, x0), (1, x1), (7, x7), (8, x8), (9, x9)]) h K) (kCode env 52 false inv k (cp c52 421) (act 19 [(0, x0), (1, x1), (7, x7), (8, x8), (9, x9)]) h K) := kq_cond
theorem r52_3  : kCode env 52 false inv k (cp c52 1688) (act 19 [(0, x0), (1, x1), (7, x7), (8, x8), (9, x9)]) h K =
    K .normal (act 19 [(0, x0), (1, x1), (5, x8), (7, x7), (8, x8)]) h := kq_reg
theorem r52_4  : kCode env 52 false inv k (cp c52 3378) (act 19 [(0, x0), (1, x1), (5, x5), (7, x7), (8, x8)]) h K =
    bnd (pIndexAddr Try.prog 46 x0 x5) fun x14 =>
    bnd (pLoad Try.prog 3 x14 h) fun x15 =>
    bnd (callV inv x1 #[x15] h) fun x16 =>
    K .normal (act 19 [(0, x0), (1, x1), (5, x5), (7, x7), (8, x8), (16, x16.1)]) x16.2 := kq_reg
theorem b52_rrllrrllrlr  : kCode env 52 false inv k (cp c52 3379) (act 19 [(0, x0), (1, x1), (5, x5), (7, x7), (8, x8), (16, x16)]) h K = brV x16 (kCode env 52 false inv k (cp c52 6758) (act 19 [(0, x0), (1, x1), (5, x5), (7, x7), (8, x8), (16, x16)]) h K) (kCode env 52 false inv k (cp c52 6759) (act 19 [(0, x0), (1, x1), (5, x5), (7, x7), (8, x8), (16, x16)]) h K) := kq_cond
theorem r52_5  : kCode env 52 false inv k (cp c52 13516) (act 19 [(0, x0), (1, x1), (5, x5), (7, x7), (8, x8), (16, x16)]) h K =
    K .normal (act 19 [(4, x5)]) h := kq_reg
theorem r52_6  : kCode env 52 false inv k (cp c52 423) (act 19 [(0, x0), (1, x1), (5, x5), (7, x7), (8, x8), (16, x16)]) h K =
    bnd (pBin Try.prog .add 3 (.tmp 8) (.const (.int .i64 1)) x8 (.int .i64 1)) fun x18 =>
    K .normal (act 19 [(0, x0), (1, x1), (7, x7), (8, x18)]) h := kq_reg
noncomputable def F52_lrlr {β : Type} (inv : Inv) (k : Nat) : Nat → Value → Value → Value → Value → AH → (Value → Value → Value → Value → Value → AH → Option β) → (Value → AH → Option β) → Option β
  | 0, _, _, _, _, _, _, _ => none
  | j + 1, x0, x1, x7, x8, h, ke0, kr =>
    bnd (pBin Try.prog .lss 3 (.tmp 8) (.tmp 7) x8 x7) fun x9 =>
    brV x9
    (bnd (pIndexAddr Try.prog 46 x0 x8) fun x14 =>
    bnd (pLoad Try.prog 3 x14 h) fun x15 =>
    bnd (callV inv x1 #[x15] h) fun x16 =>
    brV x16.1
    (kr x8 x16.2)
    (bnd (pBin Try.prog .add 3 (.tmp 8) (.const (.int .i64 1)) x8 (.int .i64 1)) fun x18 =>
    F52_lrlr inv k j x0 x1 x7 x18 x16.2 ke0 kr))
    (ke0 x0 x1 x7 x8 x9 h)
theorem F52_lrlr_j (j : Nat) : kLoop (kCode env 52 false inv k (cp c52 52)) j (act 19 [(0, x0), (1, x1), (7, x7), (8, x8)]) h K = F52_lrlr inv k j x0 x1 x7 x8 h (fun y0 y1 y7 y8 y9 h => K (.exit 0) (act 19 [(0, y0), (1, y1), (7, y7), (8, y8), (9, y9)]) h) (fun y4 h => K .ret (act 19 [(4, y4)]) h) := by
      induction j generalizing x0 x1 x7 x8 h with
      | zero => rfl
      | succ j ih =>
        unfold F52_lrlr
        simp only [kLoop, kq_seq c52 52, r52_2, kq_seq c52 105, b52_lrllrlr, kq_skip c52 420, kq_seq c52 211, kq_block c52 422 1, kq_seq c52 844, r52_3, kq_seq c52 1689, r52_4, b52_rrllrrllrlr, kq_seq c52 6758, r52_5, kq_ret c52 13517, kq_skip c52 6759, r52_6, kq_exit c52 421 0, ih, reduceIte, reduceCtorEq, XE.exit.injEq, Nat.reduceEqDiff, Nat.reduceMul, Nat.reduceAdd] <;> kernel_rfl
theorem F52_lrlr_eq  : kCode env 52 false inv k (cp c52 26) (act 19 [(0, x0), (1, x1), (7, x7), (8, x8)]) h K = F52_lrlr inv k k x0 x1 x7 x8 h (fun y0 y1 y7 y8 y9 h => K (.exit 0) (act 19 [(0, y0), (1, y1), (7, y7), (8, y8), (9, y9)]) h) (fun y4 h => K .ret (act 19 [(4, y4)]) h) := kq_loop (F52_lrlr_j k)
theorem r52_7  : kCode env 52 false inv k (cp c52 14) (act 19 [(0, x0), (1, x1), (7, x7), (8, x8), (9, x9)]) h K =
    K .normal (act 19 [(4, (.int .i64 (-1)))]) h := kq_reg
theorem res52_0 : resOfFn env.P 52 .ret (act 19 [(4, x4)]) h = some (x4, h) := kq_res
/-- slices.IndexFunc[[]int,int] -/
noncomputable def F52 (inv : Inv) (k : Nat) (x0 x1 : Value) (h : AH) : Option (Value × AH) :=
    bnd (pLen Try.prog #[46] x0 h) fun x7 =>
    F52_lrlr inv k k x0 x1 x7 (.int .i64 0) h
    (fun y0 y1 y7 y8 y9 h =>
    some ((.int .i64 (-1)), h))
    (fun y4 h_1 =>
    some (y4, h_1))
theorem F52_eq : eFun env k inv 52 #[x0, x1] h = F52 inv k x0 x1 h := by
      refine (kq_fun (a := act 19 [(0, x0), (1, x1)]) (c := cp c52 1)).trans ?_
      unfold F52
      simp only [kq_seq c52 1, r52_0, kq_seq c52 3, kq_seq c52 6, r52_1, kq_block c52 13 0, F52_lrlr_eq, kq_seq c52 7, r52_7, kq_ret c52 15, res52_0, reduceIte, reduceCtorEq, XE.exit.injEq, Nat.reduceEqDiff, Nat.reduceMul, Nat.reduceAdd] <;> kernel_rfl
theorem F52_call : eInv env (k + 1) (.func 52) #[] #[x0, x1] h = F52 (eInv env k) k x0 x1 h := kq_inv F52_eq
noncomputable def c53 : Code := codeOf Try.prog 53
theorem r53_0  : kCode env 53 false inv k (cp c53 2) (act 55 [(0, x0)]) h K =
    K .normal (act 55 [(0, x0)]) h := kq_reg
noncomputable abbrev G53_1 {β : Type} (inv : Inv) (x0 : Value) (h : AH) (K : Value → AH → Option β) : Option β :=
    bnd (pLen Try.prog #[9] x0 h) fun x7 =>
    bnd (pBin Try.prog .lss 3 (.tmp 7) (.const (.int .i64 1)) x7 (.int .i64 1)) fun x8 =>
    bnd (gd (some x8) false h (some (x0, h))) fun x10 =>
    bnd (gd (some x8) false x10.2 (lt (pLen Try.prog #[9] x10.1 x10.2) x10.2)) fun x11 =>
    bnd (gd (some x8) false x11.2 (lt (pBin Try.prog .gtr 3 (.tmp 11) (.const (.int .i64 32)) x11.1 (.int .i64 32)) x11.2)) fun x12 =>
    bnd (pickV x8 (.bool true) x12.1) fun x13 =>
    K (x13) x12.2
theorem r53_1  : kCode env 53 false inv k (cp c53 12) (act 55 [(0, x0)]) h K =
    G53_1 inv x0 h fun y13 h => K .normal (act 55 [(0, x0), (13, y13)]) h := kq_reg
theorem b53_rlr  : kCode env 53 false inv k (cp c53 13) (act 55 [(0, x0), (13, x13)]) h K = brV x13 (kCode env 53 false inv k (cp c53 26) (act 55 [(0, x0), (13, x13)]) h K) (kCode env 53 false inv k (cp c53 27) (act 55 [(0, x0), (13, x13)]) h K) := kq_cond
theorem r53_2  : kCode env 53 false inv k (cp c53 52) (act 55 [(0, x0), (13, x13)]) h K =
    K .normal (act 55 [(2, (.int .i64 170))]) h := kq_reg
theorem res53_0 : resOfFn env.P 53 .ret (act 55 [(2, x2)]) h = some (x2, h) := kq_res
theorem r53_3  : kCode env 53 false inv k (cp c53 28) (act 55 [(0, x0), (13, x13)]) h K =
    K .normal (act 55 [(0, x0), (3, (.int .i64 0))]) h := kq_reg
theorem r53_4  : kCode env 53 false inv k (cp c53 464) (act 55 [(0, x0), (3, x3)]) h K =
    bnd (pLen Try.prog #[9] x0 h) fun x16 =>
    bnd (pBin Try.prog .lss 3 (.tmp 14) (.tmp 16) x3 x16) fun x17 =>
    K .normal (act 55 [(0, x0), (3, x3), (17, x17)]) h := kq_reg
theorem b53_rlllrlrr  : kCode env 53 false inv k (cp c53 465) (act 55 [(0, x0), (3, x3), (17, x17)]) h K = brV x17 (kCode env 53 false inv k (cp c53 930) (act 55 [(0, x0), (3, x3), (17, x17)]) h K) (kCode env 53 false inv k (cp c53 931) (act 55 [(0, x0), (3, x3), (17, x17)]) h K) := kq_cond
theorem r53_6  : kCode env 53 false inv k (cp c53 1864) (act 55 [(0, x0), (3, x3), (17, x17)]) h K =
    bnd (pIndex Try.prog 9 x0 x3) fun x22 =>
    K .normal (act 55 [(0, x0), (3, x3), (4, x22)]) h := kq_reg
noncomputable abbrev G53_7 {β : Type} (inv : Inv) (x0 x3 x4 : Value) (h : AH) (K : Value → AH → Option β) : Option β :=
    bnd (pBin Try.prog .geq 5 (.tmp 23) (.const (.int .u8 48)) x4 (.int .u8 48)) fun x24 =>
    bnd (gd (some x24) true h (some (x4, h))) fun x26 =>
    bnd (gd (some x24) true x26.2 (lt (pBin Try.prog .leq 5 (.tmp 26) (.const (.int .u8 57)) x26.1 (.int .u8 57)) x26.2)) fun x27 =>
    bnd (pickV x24 x27.1 (.bool false)) fun x28 =>
    K (x28) x27.2
theorem r53_7  : kCode env 53 false inv k (cp c53 3730) (act 55 [(0, x0), (3, x3), (4, x4)]) h K =
    G53_7 inv x0 x3 x4 h fun y5 h => K .normal (act 55 [(0, x0), (3, x3), (4, x4), (5, y5)]) h := kq_reg
noncomputable abbrev G53_8 {β : Type} (inv : Inv) (x0 x3 x4 x5 : Value) (h : AH) (K : Value → AH → Option β) : Option β :=
    bnd (pBin Try.prog .geq 5 (.tmp 29) (.const (.int .u8 97)) x4 (.int .u8 97)) fun x30 =>
    bnd (gd (some x30) true h (some (x4, h))) fun x32 =>
    bnd (gd (some x30) true x32.2 (lt (pBin Try.prog .leq 5 (.tmp 32) (.const (.int .u8 122)) x32.1 (.int .u8 122)) x32.2)) fun x33 =>
    bnd (pickV x30 x33.1 (.bool false)) fun x34 =>
    bnd (gd (some x34) false x33.2 (some (x4, x33.2))) fun x36 =>
    bnd (gd (some x34) false x36.2 (lt (pBin Try.prog .geq 5 (.tmp 36) (.const (.int .u8 65)) x36.1 (.int .u8 65)) x36.2)) fun x37 =>
    bnd (gd (some x34) false x37.2 (some (x37.1, x37.2))) fun x38 =>
    bnd (gd (some x38.1) true x38.2 (some (x4, x38.2))) fun x39 =>
    bnd (gd (some x38.1) true x39.2 (lt (pBin Try.prog .leq 5 (.tmp 39) (.const (.int .u8 90)) x39.1 (.int .u8 90)) x39.2)) fun x40 =>
    bnd (gd (some x34) false x40.2 (lt (pickV x38.1 x40.1 (.bool false)) x40.2)) fun x41 =>
    bnd (pickV x34 (.bool true) x41.1) fun x42 =>
    bnd (gd (some x42) false x41.2 (some (x4, x41.2))) fun x44 =>
    bnd (gd (some x42) false x44.2 (lt (pBin Try.prog .eql 5 (.tmp 44) (.const (.int .u8 95)) x44.1 (.int .u8 95)) x44.2)) fun x45 =>
    bnd (pickV x42 (.bool true) x45.1) fun x46 =>
    bnd (gd (some x46) false x45.2 (some (x5, x45.2))) fun x48 =>
    bnd (gd (some x46) false x48.2 (some (x48.1, x48.2))) fun x49 =>
    bnd (gd (some x49.1) true x49.2 (some (x3, x49.2))) fun x50 =>
    bnd (gd (some x49.1) true x50.2 (lt (pBin Try.prog .gtr 3 (.tmp 50) (.const (.int .i64 0)) x50.1 (.int .i64 0)) x50.2)) fun x51 =>
    bnd (gd (some x46) false x51.2 (lt (pickV x49.1 x51.1 (.bool false)) x51.2)) fun x52 =>
    bnd (pickV x46 (.bool true) x52.1) fun x53 =>
    bnd (pUn Try.prog .not x53) fun x54 =>
    K (x54) x52.2
theorem r53_8  : kCode env 53 false inv k (cp c53 7462) (act 55 [(0, x0), (3, x3), (4, x4), (5, x5)]) h K =
    G53_8 inv x0 x3 x4 x5 h fun y54 h => K .normal (act 55 [(0, x0), (3, x3), (54, y54)]) h := kq_reg
theorem b53_rrrllrllrlrr  : kCode env 53 false inv k (cp c53 7463) (act 55 [(0, x0), (3, x3), (54, x54)]) h K = brV x54 (kCode env 53 false inv k (cp c53 14926) (act 55 [(0, x0), (3, x3), (54, x54)]) h K) (kCode env 53 false inv k (cp c53 14927) (act 55 [(0, x0), (3, x3), (54, x54)]) h K) := kq_cond
theorem r53_9  : kCode env 53 false inv k (cp c53 29852) (act 55 [(0, x0), (3, x3), (54, x54)]) h K =
    K .normal (act 55 [(2, (.int .i64 170))]) h := kq_reg
theorem r53_5  : kCode env 53 false inv k (cp c53 467) (act 55 [(0, x0), (3, x3), (54, x54)]) h K =
    bnd (pBin Try.prog .add 3 (.tmp 18) (.const (.int .i64 1)) x3 (.int .i64 1)) fun x19 =>
    K .normal (act 55 [(0, x0), (3, x19)]) h := kq_reg
noncomputable def F53_lrlrr {β : Type} (inv : Inv) (k : Nat) : Nat → Value → Value → AH → (Value → Value → Value → AH → Option β) → (Value → AH → Option β) → Option β
  | 0, _, _, _, _, _ => none
  | j + 1, x0, x3, h, ke0, kr =>
    bnd (pLen Try.prog #[9] x0 h) fun x16 =>
    bnd (pBin Try.prog .lss 3 (.tmp 14) (.tmp 16) x3 x16) fun x17 =>
    brV x17
    (bnd (pIndex Try.prog 9 x0 x3) fun x22 =>
    G53_7 inv x0 x3 x22 h fun y5 h =>
    G53_8 inv x0 x3 x22 y5 h fun y54 h_1 =>
    brV y54
    (kr (.int .i64 170) h_1)
    (bnd (pBin Try.prog .add 3 (.tmp 18) (.const (.int .i64 1)) x3 (.int .i64 1)) fun x19 =>
    F53_lrlrr inv k j x0 x19 h_1 ke0 kr))
    (ke0 x0 x3 x17 h)
theorem F53_lrlrr_j (j : Nat) : kLoop (kCode env 53 false inv k (cp c53 116)) j (act 55 [(0, x0), (3, x3)]) h K = F53_lrlrr inv k j x0 x3 h (fun y0 y3 y17 h => K (.exit 0) (act 55 [(0, y0), (3, y3), (17, y17)]) h) (fun y2 h => K .ret (act 55 [(2, y2)]) h) := by
      induction j generalizing x0 x3 h with
      | zero => rfl
      | succ j ih =>
        unfold F53_lrlrr
        simp only [kLoop, kq_seq c53 116, kq_seq c53 232, r53_4, b53_rlllrlrr, kq_skip c53 930, kq_seq c53 233, kq_block c53 466 1, kq_seq c53 932, r53_6, kq_seq c53 1865, r53_7, kq_seq c53 3731, r53_8, b53_rrrllrllrlrr, kq_seq c53 14926, r53_9, kq_ret c53 29853, kq_skip c53 14927, r53_5, kq_exit c53 931 0, ih, reduceIte, reduceCtorEq, XE.exit.injEq, Nat.reduceEqDiff, Nat.reduceMul, Nat.reduceAdd] <;> kernel_rfl
theorem F53_lrlrr_eq  : kCode env 53 false inv k (cp c53 58) (act 55 [(0, x0), (3, x3)]) h K = F53_lrlrr inv k k x0 x3 h (fun y0 y3 y17 h => K (.exit 0) (act 55 [(0, y0), (3, y3), (17, y17)]) h) (fun y2 h => K .ret (act 55 [(2, y2)]) h) := kq_loop (F53_lrlrr_j k)
theorem r53_10  : kCode env 53 false inv k (cp c53 30) (act 55 [(0, x0), (3, x3), (17, x17)]) h K =
    K .normal (act 55 [(2, (.int .i64 0))]) h := kq_reg
/-- shadowbook/shadowbookref17.Name -/
noncomputable def F53 (inv : Inv) (k : Nat) (x0 : Value) (h : AH) : Option (Value × AH) :=
    G53_1 inv x0 h fun y13 h =>
    brV y13
    (some ((.int .i64 170), h))
    (F53_lrlrr inv k k x0 (.int .i64 0) h
    (fun y0 y3 y17 h_2 =>
    some ((.int .i64 0), h_2))
    (fun y2 h_3 =>
    some (y2, h_3)))
theorem F53_eq : eFun env k inv 53 #[x0] h = F53 inv k x0 h := by
      refine (kq_fun (a := act 55 [(0, x0)]) (c := cp c53 1)).trans ?_
      unfold F53
      simp only [kq_seq c53 1, r53_0, kq_seq c53 3, kq_seq c53 6, r53_1, b53_rlr, kq_seq c53 26, r53_2, kq_ret c53 53, res53_0, kq_skip c53 27, kq_seq c53 7, kq_seq c53 14, r53_3, kq_block c53 29 0, F53_lrlrr_eq, kq_seq c53 15, r53_10, kq_ret c53 31, reduceIte, reduceCtorEq, XE.exit.injEq, Nat.reduceEqDiff, Nat.reduceMul, Nat.reduceAdd] <;> kernel_rfl
theorem F53_call : eInv env (k + 1) (.func 53) #[] #[x0] h = F53 (eInv env k) k x0 h := kq_inv F53_eq
noncomputable def c59 : Code := codeOf Try.prog 59
theorem r59_0  : kCode env 59 false inv k (cp c59 2) (act 5 [(0, x0)]) h K =
    K .normal (act 5 [(0, x0)]) h := kq_reg
theorem r59_1  : kCode env 59 false inv k (cp c59 6) (act 5 [(0, x0)]) h K =
    bnd (pBin Try.prog .eql 3 (.tmp 3) (.const (.int .i64 0)) x0 (.int .i64 0)) fun x4 =>
    K .normal (act 5 [(2, x4)]) h := kq_reg
theorem res59_0 : resOfFn env.P 59 .ret (act 5 [(2, x2)]) h = some (x2, h) := kq_res
/-- shadowbook/pred.orders$1 -/
noncomputable def F59 (inv : Inv) (k : Nat) (x0 : Value) (h : AH) : Option (Value × AH) :=
    bnd (pBin Try.prog .eql 3 (.tmp 3) (.const (.int .i64 0)) x0 (.int .i64 0)) fun x4 =>
    some (x4, h)
theorem F59_eq : eFun env k inv 59 #[x0] h = F59 inv k x0 h := by
      refine (kq_fun (a := act 5 [(0, x0)]) (c := cp c59 1)).trans ?_
      unfold F59
      simp only [kq_seq c59 1, r59_0, kq_seq c59 3, r59_1, kq_ret c59 7, res59_0, reduceIte, reduceCtorEq, XE.exit.injEq, Nat.reduceEqDiff, Nat.reduceMul, Nat.reduceAdd] <;> kernel_rfl
theorem F59_call : eInv env (k + 1) (.func 59) #[] #[x0] h = F59 (eInv env k) k x0 h := kq_inv F59_eq
noncomputable def c60 : Code := codeOf Try.prog 60
theorem r60_0  : kCode env 60 false inv k (cp c60 2) (act 5 [(0, x0)]) h K =
    K .normal (act 5 [(0, x0)]) h := kq_reg
theorem r60_1  : kCode env 60 false inv k (cp c60 6) (act 5 [(0, x0)]) h K =
    bnd (pBin Try.prog .lss 3 (.tmp 3) (.const (.int .i64 0)) x0 (.int .i64 0)) fun x4 =>
    K .normal (act 5 [(2, x4)]) h := kq_reg
theorem res60_0 : resOfFn env.P 60 .ret (act 5 [(2, x2)]) h = some (x2, h) := kq_res
/-- shadowbook/pred.orders$2 -/
noncomputable def F60 (inv : Inv) (k : Nat) (x0 : Value) (h : AH) : Option (Value × AH) :=
    bnd (pBin Try.prog .lss 3 (.tmp 3) (.const (.int .i64 0)) x0 (.int .i64 0)) fun x4 =>
    some (x4, h)
theorem F60_eq : eFun env k inv 60 #[x0] h = F60 inv k x0 h := by
      refine (kq_fun (a := act 5 [(0, x0)]) (c := cp c60 1)).trans ?_
      unfold F60
      simp only [kq_seq c60 1, r60_0, kq_seq c60 3, r60_1, kq_ret c60 7, res60_0, reduceIte, reduceCtorEq, XE.exit.injEq, Nat.reduceEqDiff, Nat.reduceMul, Nat.reduceAdd] <;> kernel_rfl
theorem F60_call : eInv env (k + 1) (.func 60) #[] #[x0] h = F60 (eInv env k) k x0 h := kq_inv F60_eq
noncomputable def c61 : Code := codeOf Try.prog 61
theorem r61_0  : kCode env 61 false inv k (cp c61 2) (act 5 [(0, x0)]) h K =
    K .normal (act 5 [(0, x0)]) h := kq_reg
theorem r61_1  : kCode env 61 false inv k (cp c61 6) (act 5 [(0, x0)]) h K =
    bnd (pBin Try.prog .gtr 3 (.tmp 3) (.const (.int .i64 0)) x0 (.int .i64 0)) fun x4 =>
    K .normal (act 5 [(2, x4)]) h := kq_reg
theorem res61_0 : resOfFn env.P 61 .ret (act 5 [(2, x2)]) h = some (x2, h) := kq_res
/-- shadowbook/pred.orders$3 -/
noncomputable def F61 (inv : Inv) (k : Nat) (x0 : Value) (h : AH) : Option (Value × AH) :=
    bnd (pBin Try.prog .gtr 3 (.tmp 3) (.const (.int .i64 0)) x0 (.int .i64 0)) fun x4 =>
    some (x4, h)
theorem F61_eq : eFun env k inv 61 #[x0] h = F61 inv k x0 h := by
      refine (kq_fun (a := act 5 [(0, x0)]) (c := cp c61 1)).trans ?_
      unfold F61
      simp only [kq_seq c61 1, r61_0, kq_seq c61 3, r61_1, kq_ret c61 7, res61_0, reduceIte, reduceCtorEq, XE.exit.injEq, Nat.reduceEqDiff, Nat.reduceMul, Nat.reduceAdd] <;> kernel_rfl
theorem F61_call : eInv env (k + 1) (.func 61) #[] #[x0] h = F61 (eInv env k) k x0 h := kq_inv F61_eq
noncomputable def c62 : Code := codeOf Try.prog 62
theorem r62_0  : kCode env 62 false inv k (cp c62 2) (act 18 [(0, x0)]) h K =
    K .normal (act 18 [(0, x0)]) h := kq_reg
theorem r62_1  : kCode env 62 false inv k (cp c62 6) (act 18 [(0, x0)]) h K =
    K .normal (act 18 [(0, x0), (3, (.int .i64 0))]) h := kq_reg
theorem r62_2  : kCode env 62 false inv k (cp c62 28) (act 18 [(0, x0), (3, x3)]) h K =
    bnd (pLen Try.prog #[46] x0 h) fun x7 =>
    K .normal (act 18 [(3, x3), (6, x0), (7, x7), (8, (.int .i64 0))]) h := kq_reg
theorem r62_3  : kCode env 62 false inv k (cp c62 232) (act 18 [(3, x3), (6, x6), (7, x7), (8, x8)]) h K =
    bnd (pBin Try.prog .lss 3 (.tmp 8) (.tmp 7) x8 x7) fun x9 =>
    K .normal (act 18 [(3, x3), (6, x6), (7, x7), (8, x8), (9, x9)]) h := kq_reg
theorem b62_lrllrlrr  : kCode env 62 false inv k (cp c62 466) (act 18 [(3, x3), (6, x6), (7, x7), (8, x8), (9, x9)]) h K = brV x9 (kCode env 62 false inv k (cp c62 932) (act 18 [(3, x3), (6, x6), (7, x7), (8, x8), (9, x9)]) h K) (kCode env 62 false inv k (cp c62 933) (act 18 [(3, x3), (6, x6), (7, x7), (8, x8), (9, x9)]) h K) := kq_cond
theorem r62_4  : kCode env 62 false inv k (cp c62 3736) (act 18 [(3, x3), (6, x6), (7, x7), (8, x8), (9, x9)]) h K =
    bnd (pIndexAddr Try.prog 46 x6 x8) fun x10 =>
    bnd (pLoad Try.prog 3 x10 h) fun x11 =>
    K .normal (act 18 [(3, x3), (5, x11), (6, x6), (7, x7), (8, x8)]) h := kq_reg
theorem r62_5  : kCode env 62 false inv k (cp c62 7474) (act 18 [(3, x3), (5, x5), (6, x6), (7, x7), (8, x8)]) h K =
    bnd (pBin Try.prog .neq 3 (.tmp 12) (.tmp 13) x5 x3) fun x14 =>
    K .normal (act 18 [(3, x3), (5, x5), (6, x6), (7, x7), (8, x8), (14, x14)]) h := kq_reg
theorem b62_rrllrrllrlrr  : kCode env 62 false inv k (cp c62 7475) (act 18 [(3, x3), (5, x5), (6, x6), (7, x7), (8, x8), (14, x14)]) h K = brV x14 (kCode env 62 false inv k (cp c62 14950) (act 18 [(3, x3), (5, x5), (6, x6), (7, x7), (8, x8), (14, x14)]) h K) (kCode env 62 false inv k (cp c62 14951) (act 18 [(3, x3), (5, x5), (6, x6), (7, x7), (8, x8), (14, x14)]) h K) := kq_cond
theorem r62_6  : kCode env 62 false inv k (cp c62 29900) (act 18 [(3, x3), (5, x5), (6, x6), (7, x7), (8, x8), (14, x14)]) h K =
    K .normal (act 18 [(2, x5)]) h := kq_reg
theorem r62_7  : kCode env 62 false inv k (cp c62 935) (act 18 [(3, x3), (5, x5), (6, x6), (7, x7), (8, x8), (14, x14)]) h K =
    bnd (pBin Try.prog .add 3 (.tmp 8) (.const (.int .i64 1)) x8 (.int .i64 1)) fun x16 =>
    K .normal (act 18 [(3, x3), (6, x6), (7, x7), (8, x16)]) h := kq_reg
noncomputable def F62_lrlrr {β : Type} (inv : Inv) (k : Nat) : Nat → Value → Value → Value → Value → AH → (Value → Value → Value → Value → Value → AH → Option β) → (Value → AH → Option β) → Option β
  | 0, _, _, _, _, _, _, _ => none
  | j + 1, x3, x6, x7, x8, h, ke0, kr =>
    bnd (pBin Try.prog .lss 3 (.tmp 8) (.tmp 7) x8 x7) fun x9 =>
    brV x9
    (bnd (pIndexAddr Try.prog 46 x6 x8) fun x10 =>
    bnd (pLoad Try.prog 3 x10 h) fun x11 =>
    bnd (pBin Try.prog .neq 3 (.tmp 12) (.tmp 13) x11 x3) fun x14 =>
    brV x14
    (kr x11 h)
    (bnd (pBin Try.prog .add 3 (.tmp 8) (.const (.int .i64 1)) x8 (.int .i64 1)) fun x16 =>
    F62_lrlrr inv k j x3 x6 x7 x16 h ke0 kr))
    (ke0 x3 x6 x7 x8 x9 h)
theorem F62_lrlrr_j (j : Nat) : kLoop (kCode env 62 false inv k (cp c62 116)) j (act 18 [(3, x3), (6, x6), (7, x7), (8, x8)]) h K = F62_lrlrr inv k j x3 x6 x7 x8 h (fun y3 y6 y7 y8 y9 h => K (.exit 0) (act 18 [(3, y3), (6, y6), (7, y7), (8, y8), (9, y9)]) h) (fun y2 h => K .ret (act 18 [(2, y2)]) h) := by
      induction j generalizing x3 x6 x7 x8 h with
      | zero => rfl
      | succ j ih =>
        unfold F62_lrlrr
        simp only [kLoop, kq_seq c62 116, r62_3, kq_seq c62 233, b62_lrllrlrr, kq_skip c62 932, kq_seq c62 467, kq_block c62 934 1, kq_seq c62 1868, r62_4, kq_seq c62 3737, r62_5, b62_rrllrrllrlrr, kq_seq c62 14950, r62_6, kq_ret c62 29901, kq_skip c62 14951, r62_7, kq_exit c62 933 0, ih, reduceIte, reduceCtorEq, XE.exit.injEq, Nat.reduceEqDiff, Nat.reduceMul, Nat.reduceAdd] <;> kernel_rfl
theorem F62_lrlrr_eq  : kCode env 62 false inv k (cp c62 58) (act 18 [(3, x3), (6, x6), (7, x7), (8, x8)]) h K = F62_lrlrr inv k k x3 x6 x7 x8 h (fun y3 y6 y7 y8 y9 h => K (.exit 0) (act 18 [(3, y3), (6, y6), (7, y7), (8, y8), (9, y9)]) h) (fun y2 h => K .ret (act 18 [(2, y2)]) h) := kq_loop (F62_lrlrr_j k)
theorem r62_8  : kCode env 62 false inv k (cp c62 30) (act 18 [(3, x3), (6, x6), (7, x7), (8, x8), (9, x9)]) h K =
    K .normal (act 18 [(2, x3)]) h := kq_reg
theorem res62_0 : resOfFn env.P 62 .ret (act 18 [(2, x2)]) h = some (x2, h) := kq_res
/-- cmp.Or[int] -/
noncomputable def F62 (inv : Inv) (k : Nat) (x0 : Value) (h : AH) : Option (Value × AH) :=
    bnd (pLen Try.prog #[46] x0 h) fun x7 =>
    F62_lrlrr inv k k (.int .i64 0) x0 x7 (.int .i64 0) h
    (fun y3 y6 y7 y8 y9 h =>
    some (y3, h))
    (fun y2 h_1 =>
    some (y2, h_1))
theorem F62_eq : eFun env k inv 62 #[x0] h = F62 inv k x0 h := by
      refine (kq_fun (a := act 18 [(0, x0)]) (c := cp c62 1)).trans ?_
      unfold F62
      simp only [kq_seq c62 1, r62_0, kq_seq c62 3, r62_1, kq_seq c62 7, kq_seq c62 14, r62_2, kq_block c62 29 0, F62_lrlrr_eq, kq_seq c62 15, r62_8, kq_ret c62 31, res62_0, reduceIte, reduceCtorEq, XE.exit.injEq, Nat.reduceEqDiff, Nat.reduceMul, Nat.reduceAdd] <;> kernel_rfl
theorem F62_call : eInv env (k + 1) (.func 62) #[] #[x0] h = F62 (eInv env k) k x0 h := kq_inv F62_eq
noncomputable def c63 : Code := codeOf Try.prog 63
theorem r63_0  : kCode env 63 false inv k (cp c63 2) (act 20 [(0, x0), (1, x1)]) h K =
    K .normal (act 20 [(0, x0), (1, x1)]) h := kq_reg
theorem r63_1  : kCode env 63 false inv k (cp c63 6) (act 20 [(0, x0), (1, x1)]) h K =
    bnd (inv (.func 78) #[] #[x0] h) fun x8 =>
    K .normal (act 20 [(0, x0), (1, x1), (5, x8.1)]) x8.2 := kq_reg
theorem r63_2  : kCode env 63 false inv k (cp c63 14) (act 20 [(0, x0), (1, x1), (5, x5)]) h K =
    bnd (inv (.func 78) #[] #[x1] h) fun x10 =>
    K .normal (act 20 [(0, x0), (1, x1), (5, x5), (6, x10.1)]) x10.2 := kq_reg
theorem r63_3  : kCode env 63 false inv k (cp c63 60) (act 20 [(0, x0), (1, x1), (5, x5), (6, x6)]) h K =
    K .normal (act 20 [(0, x0), (1, x1), (6, x6), (11, x5)]) h := kq_reg
theorem b63_rlrrr  : kCode env 63 false inv k (cp c63 61) (act 20 [(0, x0), (1, x1), (6, x6), (11, x11)]) h K = brV x11 (kCode env 63 false inv k (cp c63 122) (act 20 [(0, x0), (1, x1), (6, x6), (11, x11)]) h K) (kCode env 63 false inv k (cp c63 123) (act 20 [(0, x0), (1, x1), (6, x6), (11, x11)]) h K) := kq_cond
theorem r63_4  : kCode env 63 false inv k (cp c63 488) (act 20 [(0, x0), (1, x1), (6, x6), (11, x11)]) h K =
    K .normal (act 20 [(12, x6)]) h := kq_reg
theorem b63_rllrlrrr  : kCode env 63 false inv k (cp c63 489) (act 20 [(12, x12)]) h K = brV x12 (kCode env 63 false inv k (cp c63 978) (act 20 [(12, x12)]) h K) (kCode env 63 false inv k (cp c63 979) (act 20 [(12, x12)]) h K) := kq_cond
theorem r63_5  : kCode env 63 false inv k (cp c63 1956) (act 20 [(12, x12)]) h K =
    K .normal (act 20 [(4, (.int .i64 0))]) h := kq_reg
theorem res63_0 : resOfFn env.P 63 .ret (act 20 [(4, x4)]) h = some (x4, h) := kq_res
theorem r63_6  : kCode env 63 false inv k (cp c63 490) (act 20 [(12, x12)]) h K =
    K .normal (act 20 [(4, (.int .i64 (-1)))]) h := kq_reg
theorem r63_7  : kCode env 63 false inv k (cp c63 124) (act 20 [(0, x0), (1, x1), (6, x6), (11, x11)]) h K =
    K .normal (act 20 [(0, x0), (1, x1), (13, x6)]) h := kq_reg
theorem b63_rlrrrr  : kCode env 63 false inv k (cp c63 125) (act 20 [(0, x0), (1, x1), (13, x13)]) h K = brV x13 (kCode env 63 false inv k (cp c63 250) (act 20 [(0, x0), (1, x1), (13, x13)]) h K) (kCode env 63 false inv k (cp c63 251) (act 20 [(0, x0), (1, x1), (13, x13)]) h K) := kq_cond
theorem r63_8  : kCode env 63 false inv k (cp c63 500) (act 20 [(0, x0), (1, x1), (13, x13)]) h K =
    K .normal (act 20 [(4, (.int .i64 1))]) h := kq_reg
theorem r63_9  : kCode env 63 false inv k (cp c63 252) (act 20 [(0, x0), (1, x1), (13, x13)]) h K =
    bnd (pBin Try.prog .lss 3 (.tmp 14) (.tmp 15) x0 x1) fun x16 =>
    K .normal (act 20 [(0, x0), (1, x1), (16, x16)]) h := kq_reg
theorem b63_rlrrrrr  : kCode env 63 false inv k (cp c63 253) (act 20 [(0, x0), (1, x1), (16, x16)]) h K = brV x16 (kCode env 63 false inv k (cp c63 506) (act 20 [(0, x0), (1, x1), (16, x16)]) h K) (kCode env 63 false inv k (cp c63 507) (act 20 [(0, x0), (1, x1), (16, x16)]) h K) := kq_cond
theorem r63_10  : kCode env 63 false inv k (cp c63 1012) (act 20 [(0, x0), (1, x1), (16, x16)]) h K =
    K .normal (act 20 [(4, (.int .i64 (-1)))]) h := kq_reg
theorem r63_11  : kCode env 63 false inv k (cp c63 508) (act 20 [(0, x0), (1, x1), (16, x16)]) h K =
    bnd (pBin Try.prog .gtr 3 (.tmp 17) (.tmp 18) x0 x1) fun x19 =>
    K .normal (act 20 [(19, x19)]) h := kq_reg
theorem b63_rlrrrrrr  : kCode env 63 false inv k (cp c63 509) (act 20 [(19, x19)]) h K = brV x19 (kCode env 63 false inv k (cp c63 1018) (act 20 [(19, x19)]) h K) (kCode env 63 false inv k (cp c63 1019) (act 20 [(19, x19)]) h K) := kq_cond
theorem r63_12  : kCode env 63 false inv k (cp c63 2036) (act 20 [(19, x19)]) h K =
    K .normal (act 20 [(4, (.int .i64 1))]) h := kq_reg
theorem r63_13  : kCode env 63 false inv k (cp c63 510) (act 20 [(19, x19)]) h K =
    K .normal (act 20 [(4, (.int .i64 0))]) h := kq_reg
/-- cmp.Compare[int] -/
noncomputable def F63 (inv : Inv) (k : Nat) (x0 x1 : Value) (h : AH) : Option (Value × AH) :=
    bnd (inv (.func 78) #[] #[x0] h) fun x8 =>
    bnd (inv (.func 78) #[] #[x1] x8.2) fun x10 =>
    brV x8.1
    (brV x10.1
    (some ((.int .i64 0), x10.2))
    (some ((.int .i64 (-1)), x10.2)))
    (brV x10.1
    (some ((.int .i64 1), x10.2))
    (bnd (pBin Try.prog .lss 3 (.tmp 14) (.tmp 15) x0 x1) fun x16 =>
    brV x16
    (some ((.int .i64 (-1)), x10.2))
    (bnd (pBin Try.prog .gtr 3 (.tmp 17) (.tmp 18) x0 x1) fun x19 =>
    brV x19
    (some ((.int .i64 1), x10.2))
    (some ((.int .i64 0), x10.2)))))
theorem F63_eq : eFun env k inv 63 #[x0, x1] h = F63 inv k x0 x1 h := by
      refine (kq_fun (a := act 20 [(0, x0), (1, x1)]) (c := cp c63 1)).trans ?_
      unfold F63
      simp only [kq_seq c63 1, r63_0, kq_seq c63 3, r63_1, kq_seq c63 7, r63_2, kq_seq c63 15, kq_seq c63 30, r63_3, b63_rlrrr, kq_seq c63 122, kq_seq c63 244, r63_4, b63_rllrlrrr, kq_seq c63 978, r63_5, kq_ret c63 1957, res63_0, kq_skip c63 979, kq_seq c63 245, r63_6, kq_ret c63 491, kq_skip c63 123, kq_seq c63 31, kq_seq c63 62, r63_7, b63_rlrrrr, kq_seq c63 250, r63_8, kq_ret c63 501, kq_skip c63 251, kq_seq c63 63, kq_seq c63 126, r63_9, b63_rlrrrrr, kq_seq c63 506, r63_10, kq_ret c63 1013, kq_skip c63 507, kq_seq c63 127, kq_seq c63 254, r63_11, b63_rlrrrrrr, kq_seq c63 1018, r63_12, kq_ret c63 2037, kq_skip c63 1019, kq_seq c63 255, r63_13, kq_ret c63 511, reduceIte, reduceCtorEq, XE.exit.injEq, Nat.reduceEqDiff, Nat.reduceMul, Nat.reduceAdd] <;> kernel_rfl
theorem F63_call : eInv env (k + 1) (.func 63) #[] #[x0, x1] h = F63 (eInv env k) k x0 x1 h := kq_inv F63_eq
noncomputable def c64 : Code := codeOf Try.prog 64
theorem r64_0  : kCode env 64 false inv k (cp c64 2) (act 20 [(0, x0), (1, x1)]) h K =
    K .normal (act 20 [(0, x0), (1, x1)]) h := kq_reg
theorem r64_1  : kCode env 64 false inv k (cp c64 6) (act 20 [(0, x0), (1, x1)]) h K =
    bnd (inv (.func 79) #[] #[x0] h) fun x8 =>
    K .normal (act 20 [(0, x0), (1, x1), (5, x8.1)]) x8.2 := kq_reg
theorem r64_2  : kCode env 64 false inv k (cp c64 14) (act 20 [(0, x0), (1, x1), (5, x5)]) h K =
    bnd (inv (.func 79) #[] #[x1] h) fun x10 =>
    K .normal (act 20 [(0, x0), (1, x1), (5, x5), (6, x10.1)]) x10.2 := kq_reg
theorem r64_3  : kCode env 64 false inv k (cp c64 60) (act 20 [(0, x0), (1, x1), (5, x5), (6, x6)]) h K =
    K .normal (act 20 [(0, x0), (1, x1), (6, x6), (11, x5)]) h := kq_reg
theorem b64_rlrrr  : kCode env 64 false inv k (cp c64 61) (act 20 [(0, x0), (1, x1), (6, x6), (11, x11)]) h K = brV x11 (kCode env 64 false inv k (cp c64 122) (act 20 [(0, x0), (1, x1), (6, x6), (11, x11)]) h K) (kCode env 64 false inv k (cp c64 123) (act 20 [(0, x0), (1, x1), (6, x6), (11, x11)]) h K) := kq_cond
theorem r64_4  : kCode env 64 false inv k (cp c64 488) (act 20 [(0, x0), (1, x1), (6, x6), (11, x11)]) h K =
    K .normal (act 20 [(12, x6)]) h := kq_reg
theorem b64_rllrlrrr  : kCode env 64 false inv k (cp c64 489) (act 20 [(12, x12)]) h K = brV x12 (kCode env 64 false inv k (cp c64 978) (act 20 [(12, x12)]) h K) (kCode env 64 false inv k (cp c64 979) (act 20 [(12, x12)]) h K) := kq_cond
theorem r64_5  : kCode env 64 false inv k (cp c64 1956) (act 20 [(12, x12)]) h K =
    K .normal (act 20 [(4, (.int .i64 0))]) h := kq_reg
theorem res64_0 : resOfFn env.P 64 .ret (act 20 [(4, x4)]) h = some (x4, h) := kq_res
theorem r64_6  : kCode env 64 false inv k (cp c64 490) (act 20 [(12, x12)]) h K =
    K .normal (act 20 [(4, (.int .i64 (-1)))]) h := kq_reg
theorem r64_7  : kCode env 64 false inv k (cp c64 124) (act 20 [(0, x0), (1, x1), (6, x6), (11, x11)]) h K =
    K .normal (act 20 [(0, x0), (1, x1), (13, x6)]) h := kq_reg
theorem b64_rlrrrr  : kCode env 64 false inv k (cp c64 125) (act 20 [(0, x0), (1, x1), (13, x13)]) h K = brV x13 (kCode env 64 false inv k (cp c64 250) (act 20 [(0, x0), (1, x1), (13, x13)]) h K) (kCode env 64 false inv k (cp c64 251) (act 20 [(0, x0), (1, x1), (13, x13)]) h K) := kq_cond
theorem r64_8  : kCode env 64 false inv k (cp c64 500) (act 20 [(0, x0), (1, x1), (13, x13)]) h K =
    K .normal (act 20 [(4, (.int .i64 1))]) h := kq_reg
theorem r64_9  : kCode env 64 false inv k (cp c64 252) (act 20 [(0, x0), (1, x1), (13, x13)]) h K =
    bnd (pBin Try.prog .lss 2 (.tmp 14) (.tmp 15) x0 x1) fun x16 =>
    K .normal (act 20 [(0, x0), (1, x1), (16, x16)]) h := kq_reg
theorem b64_rlrrrrr  : kCode env 64 false inv k (cp c64 253) (act 20 [(0, x0), (1, x1), (16, x16)]) h K = brV x16 (kCode env 64 false inv k (cp c64 506) (act 20 [(0, x0), (1, x1), (16, x16)]) h K) (kCode env 64 false inv k (cp c64 507) (act 20 [(0, x0), (1, x1), (16, x16)]) h K) := kq_cond
theorem r64_10  : kCode env 64 false inv k (cp c64 1012) (act 20 [(0, x0), (1, x1), (16, x16)]) h K =
    K .normal (act 20 [(4, (.int .i64 (-1)))]) h := kq_reg
theorem r64_11  : kCode env 64 false inv k (cp c64 508) (act 20 [(0, x0), (1, x1), (16, x16)]) h K =
    bnd (pBin Try.prog .gtr 2 (.tmp 17) (.tmp 18) x0 x1) fun x19 =>
    K .normal (act 20 [(19, x19)]) h := kq_reg
theorem b64_rlrrrrrr  : kCode env 64 false inv k (cp c64 509) (act 20 [(19, x19)]) h K = brV x19 (kCode env 64 false inv k (cp c64 1018) (act 20 [(19, x19)]) h K) (kCode env 64 false inv k (cp c64 1019) (act 20 [(19, x19)]) h K) := kq_cond
theorem r64_12  : kCode env 64 false inv k (cp c64 2036) (act 20 [(19, x19)]) h K =
    K .normal (act 20 [(4, (.int .i64 1))]) h := kq_reg
theorem r64_13  : kCode env 64 false inv k (cp c64 510) (act 20 [(19, x19)]) h K =
    K .normal (act 20 [(4, (.int .i64 0))]) h := kq_reg
/-- cmp.Compare[int64] -/
noncomputable def F64 (inv : Inv) (k : Nat) (x0 x1 : Value) (h : AH) : Option (Value × AH) :=
    bnd (inv (.func 79) #[] #[x0] h) fun x8 =>
    bnd (inv (.func 79) #[] #[x1] x8.2) fun x10 =>
    brV x8.1
    (brV x10.1
    (some ((.int .i64 0), x10.2))
    (some ((.int .i64 (-1)), x10.2)))
    (brV x10.1
    (some ((.int .i64 1), x10.2))
    (bnd (pBin Try.prog .lss 2 (.tmp 14) (.tmp 15) x0 x1) fun x16 =>
    brV x16
    (some ((.int .i64 (-1)), x10.2))
    (bnd (pBin Try.prog .gtr 2 (.tmp 17) (.tmp 18) x0 x1) fun x19 =>
    brV x19
    (some ((.int .i64 1), x10.2))
    (some ((.int .i64 0), x10.2)))))
theorem F64_eq : eFun env k inv 64 #[x0, x1] h = F64 inv k x0 x1 h := by
      refine (kq_fun (a := act 20 [(0, x0), (1, x1)]) (c := cp c64 1)).trans ?_
      unfold F64
      simp only [kq_seq c64 1, r64_0, kq_seq c64 3, r64_1, kq_seq c64 7, r64_2, kq_seq c64 15, kq_seq c64 30, r64_3, b64_rlrrr, kq_seq c64 122, kq_seq c64 244, r64_4, b64_rllrlrrr, kq_seq c64 978, r64_5, kq_ret c64 1957, res64_0, kq_skip c64 979, kq_seq c64 245, r64_6, kq_ret c64 491, kq_skip c64 123, kq_seq c64 31, kq_seq c64 62, r64_7, b64_rlrrrr, kq_seq c64 250, r64_8, kq_ret c64 501, kq_skip c64 251, kq_seq c64 63, kq_seq c64 126, r64_9, b64_rlrrrrr, kq_seq c64 506, r64_10, kq_ret c64 1013, kq_skip c64 507, kq_seq c64 127, kq_seq c64 254, r64_11, b64_rlrrrrrr, kq_seq c64 1018, r64_12, kq_ret c64 2037, kq_skip c64 1019, kq_seq c64 255, r64_13, kq_ret c64 511, reduceIte, reduceCtorEq, XE.exit.injEq, Nat.reduceEqDiff, Nat.reduceMul, Nat.reduceAdd] <;> kernel_rfl
theorem F64_call : eInv env (k + 1) (.func 64) #[] #[x0, x1] h = F64 (eInv env k) k x0 x1 h := kq_inv F64_eq
noncomputable def c65 : Code := codeOf Try.prog 65
theorem r65_0  : kCode env 65 false inv k (cp c65 2) (act 8 [(0, x0), (1, x1)]) h K =
    K .normal (act 8 [(0, x0), (1, x1)]) h := kq_reg
theorem r65_1  : kCode env 65 false inv k (cp c65 6) (act 8 [(0, x0), (1, x1)]) h K =
    bnd (inv (.func 80) #[] #[x0, x1] h) fun x7 =>
    K .normal (act 8 [(4, x7.1)]) x7.2 := kq_reg
theorem res65_0 : resOfFn env.P 65 .ret (act 8 [(4, x4)]) h = some (x4, h) := kq_res
/-- strings.Compare -/
noncomputable def F65 (inv : Inv) (k : Nat) (x0 x1 : Value) (h : AH) : Option (Value × AH) :=
    bnd (inv (.func 80) #[] #[x0, x1] h) fun x7 =>
    some (x7.1, x7.2)
theorem F65_eq : eFun env k inv 65 #[x0, x1] h = F65 inv k x0 x1 h := by
      refine (kq_fun (a := act 8 [(0, x0), (1, x1)]) (c := cp c65 1)).trans ?_
      unfold F65
      simp only [kq_seq c65 1, r65_0, kq_seq c65 3, r65_1, kq_ret c65 7, res65_0, reduceIte, reduceCtorEq, XE.exit.injEq, Nat.reduceEqDiff, Nat.reduceMul, Nat.reduceAdd] <;> kernel_rfl
theorem F65_call : eInv env (k + 1) (.func 65) #[] #[x0, x1] h = F65 (eInv env k) k x0 x1 h := kq_inv F65_eq
noncomputable def c66 : Code := codeOf Try.prog 66
theorem r66_0  : kCode env 66 false inv k (cp c66 2) (act 19 [(0, x0), (1, x1)]) h K =
    K .normal (act 19 [(0, x0), (1, x1)]) h := kq_reg
theorem r66_1  : kCode env 66 false inv k (cp c66 12) (act 19 [(0, x0), (1, x1)]) h K =
    bnd (pLen Try.prog #[30] x0 h) fun x7 =>
    K .normal (act 19 [(0, x0), (1, x1), (7, x7), (8, (.int .i64 0))]) h := kq_reg
theorem r66_2  : kCode env 66 false inv k (cp c66 104) (act 19 [(0, x0), (1, x1), (7, x7), (8, x8)]) h K =
    bnd (pBin Try.prog .lss 3 (.tmp 8) (.tmp 7) x8 x7) fun x9 =>
    K .normal (act 19 [(0, x0), (1, x1), (7, x7), (8, x8), (9, x9)]) h := kq_reg
theorem b66_lrllrlr  : kCode env 66 false inv k (cp c66 210) (act 19 [(0, x0), (1, x1), (7, x7), (8, x8), (9, x9)]) h K = brV x9 (kCode env 66 false inv k (cp c66 420) (act 19 [(0, x0), (1, x1), (7, x7), (8, x8), (9, x9)]) h K) (kCode env 66 false inv k (cp c66 421) (act 19 [(0, x0), (1, x1), (7, x7), (8, x8), (9, x9)]) h K) := kq_cond
theorem r66_3  : kCode env 66 false inv k (cp c66 1688) (act 19 [(0, x0), (1, x1), (7, x7), (8, x8), (9, x9)]) h K =
    K .normal (act 19 [(0, x0), (1, x1), (5, x8), (7, x7), (8, x8)]) h := kq_reg
theorem r66_4  : kCode env 66 false inv k (cp c66 3378) (act 19 [(0, x0), (1, x1), (5, x5), (7, x7), (8, x8)]) h K =
    bnd (pIndexAddr Try.prog 30 x0 x5) fun x14 =>
    bnd (pLoad Try.prog 50 x14 h) fun x15 =>
    bnd (callV inv x1 #[x15] h) fun x16 =>
    K .normal (act 19 [(0, x0), (1, x1), (5, x5), (7, x7), (8, x8), (16, x16.1)]) x16.2 := kq_reg
theorem b66_rrllrrllrlr  : kCode env 66 false inv k (cp c66 3379) (act 19 [(0, x0), (1, x1), (5, x5), (7, x7), (8, x8), (16, x16)]) h K = brV x16 (kCode env 66 false inv k (cp c66 6758) (act 19 [(0, x0), (1, x1), (5, x5), (7, x7), (8, x8), (16, x16)]) h K) (kCode env 66 false inv k (cp c66 6759) (act 19 [(0, x0), (1, x1), (5, x5), (7, x7), (8, x8), (16, x16)]) h K) := kq_cond
theorem r66_5  : kCode env 66 false inv k (cp c66 13516) (act 19 [(0, x0), (1, x1), (5, x5), (7, x7), (8, x8), (16, x16)]) h K =
    K .normal (act 19 [(4, x5)]) h := kq_reg
theorem r66_6  : kCode env 66 false inv k (cp c66 423) (act 19 [(0, x0), (1, x1), (5, x5), (7, x7), (8, x8), (16, x16)]) h K =
    bnd (pBin Try.prog .add 3 (.tmp 8) (.const (.int .i64 1)) x8 (.int .i64 1)) fun x18 =>
    K .normal (act 19 [(0, x0), (1, x1), (7, x7), (8, x18)]) h := kq_reg
noncomputable def F66_lrlr {β : Type} (inv : Inv) (k : Nat) : Nat → Value → Value → Value → Value → AH → (Value → Value → Value → Value → Value → AH → Option β) → (Value → AH → Option β) → Option β
  | 0, _, _, _, _, _, _, _ => none
  | j + 1, x0, x1, x7, x8, h, ke0, kr =>
    bnd (pBin Try.prog .lss 3 (.tmp 8) (.tmp 7) x8 x7) fun x9 =>
    brV x9
    (bnd (pIndexAddr Try.prog 30 x0 x8) fun x14 =>
    bnd (pLoad Try.prog 50 x14 h) fun x15 =>
    bnd (callV inv x1 #[x15] h) fun x16 =>
    brV x16.1
    (kr x8 x16.2)
    (bnd (pBin Try.prog .add 3 (.tmp 8) (.const (.int .i64 1)) x8 (.int .i64 1)) fun x18 =>
    F66_lrlr inv k j x0 x1 x7 x18 x16.2 ke0 kr))
    (ke0 x0 x1 x7 x8 x9 h)
theorem F66_lrlr_j (j : Nat) : kLoop (kCode env 66 false inv k (cp c66 52)) j (act 19 [(0, x0), (1, x1), (7, x7), (8, x8)]) h K = F66_lrlr inv k j x0 x1 x7 x8 h (fun y0 y1 y7 y8 y9 h => K (.exit 0) (act 19 [(0, y0), (1, y1), (7, y7), (8, y8), (9, y9)]) h) (fun y4 h => K .ret (act 19 [(4, y4)]) h) := by
      induction j generalizing x0 x1 x7 x8 h with
      | zero => rfl
      | succ j ih =>
        unfold F66_lrlr
        simp only [kLoop, kq_seq c66 52, r66_2, kq_seq c66 105, b66_lrllrlr, kq_skip c66 420, kq_seq c66 211, kq_block c66 422 1, kq_seq c66 844, r66_3, kq_seq c66 1689, r66_4, b66_rrllrrllrlr, kq_seq c66 6758, r66_5, kq_ret c66 13517, kq_skip c66 6759, r66_6, kq_exit c66 421 0, ih, reduceIte, reduceCtorEq, XE.exit.injEq, Nat.reduceEqDiff, Nat.reduceMul, Nat.reduceAdd] <;> kernel_rfl
theorem F66_lrlr_eq  : kCode env 66 false inv k (cp c66 26) (act 19 [(0, x0), (1, x1), (7, x7), (8, x8)]) h K = F66_lrlr inv k k x0 x1 x7 x8 h (fun y0 y1 y7 y8 y9 h => K (.exit 0) (act 19 [(0, y0), (1, y1), (7, y7), (8, y8), (9, y9)]) h) (fun y4 h => K .ret (act 19 [(4, y4)]) h) := kq_loop (F66_lrlr_j k)
theorem r66_7  : kCode env 66 false inv k (cp c66 14) (act 19 [(0, x0), (1, x1), (7, x7), (8, x8), (9, x9)]) h K =
    K .normal (act 19 [(4, (.int .i64 (-1)))]) h := kq_reg
theorem res66_0 : resOfFn env.P 66 .ret (act 19 [(4, x4)]) h = some (x4, h) := kq_res
/-- slices.IndexFunc[[]shadowbook/api.Col,shadowbook/api.Col] -/
noncomputable def F66 (inv : Inv) (k : Nat) (x0 x1 : Value) (h : AH) : Option (Value × AH) :=
    bnd (pLen Try.prog #[30] x0 h) fun x7 =>
    F66_lrlr inv k k x0 x1 x7 (.int .i64 0) h
    (fun y0 y1 y7 y8 y9 h =>
    some ((.int .i64 (-1)), h))
    (fun y4 h_1 =>
    some (y4, h_1))
theorem F66_eq : eFun env k inv 66 #[x0, x1] h = F66 inv k x0 x1 h := by
      refine (kq_fun (a := act 19 [(0, x0), (1, x1)]) (c := cp c66 1)).trans ?_
      unfold F66
      simp only [kq_seq c66 1, r66_0, kq_seq c66 3, kq_seq c66 6, r66_1, kq_block c66 13 0, F66_lrlr_eq, kq_seq c66 7, r66_7, kq_ret c66 15, res66_0, reduceIte, reduceCtorEq, XE.exit.injEq, Nat.reduceEqDiff, Nat.reduceMul, Nat.reduceAdd] <;> kernel_rfl
theorem F66_call : eInv env (k + 1) (.func 66) #[] #[x0, x1] h = F66 (eInv env k) k x0 x1 h := kq_inv F66_eq
noncomputable def c78 : Code := codeOf Try.prog 78
theorem r78_0  : kCode env 78 false inv k (cp c78 2) (act 6 [(0, x0)]) h K =
    K .normal (act 6 [(0, x0)]) h := kq_reg
theorem r78_1  : kCode env 78 false inv k (cp c78 6) (act 6 [(0, x0)]) h K =
    bnd (pBin Try.prog .neq 3 (.tmp 3) (.tmp 4) x0 x0) fun x5 =>
    K .normal (act 6 [(2, x5)]) h := kq_reg
theorem res78_0 : resOfFn env.P 78 .ret (act 6 [(2, x2)]) h = some (x2, h) := kq_res
/-- cmp.isNaN[int] -/
noncomputable def F78 (inv : Inv) (k : Nat) (x0 : Value) (h : AH) : Option (Value × AH) :=
    bnd (pBin Try.prog .neq 3 (.tmp 3) (.tmp 4) x0 x0) fun x5 =>
    some (x5, h)
theorem F78_eq : eFun env k inv 78 #[x0] h = F78 inv k x0 h := by
      refine (kq_fun (a := act 6 [(0, x0)]) (c := cp c78 1)).trans ?_
      unfold F78
      simp only [kq_seq c78 1, r78_0, kq_seq c78 3, r78_1, kq_ret c78 7, res78_0, reduceIte, reduceCtorEq, XE.exit.injEq, Nat.reduceEqDiff, Nat.reduceMul, Nat.reduceAdd] <;> kernel_rfl
theorem F78_call : eInv env (k + 1) (.func 78) #[] #[x0] h = F78 (eInv env k) k x0 h := kq_inv F78_eq
noncomputable def c79 : Code := codeOf Try.prog 79
theorem r79_0  : kCode env 79 false inv k (cp c79 2) (act 6 [(0, x0)]) h K =
    K .normal (act 6 [(0, x0)]) h := kq_reg
theorem r79_1  : kCode env 79 false inv k (cp c79 6) (act 6 [(0, x0)]) h K =
    bnd (pBin Try.prog .neq 2 (.tmp 3) (.tmp 4) x0 x0) fun x5 =>
    K .normal (act 6 [(2, x5)]) h := kq_reg
theorem res79_0 : resOfFn env.P 79 .ret (act 6 [(2, x2)]) h = some (x2, h) := kq_res
/-- cmp.isNaN[int64] -/
noncomputable def F79 (inv : Inv) (k : Nat) (x0 : Value) (h : AH) : Option (Value × AH) :=
    bnd (pBin Try.prog .neq 2 (.tmp 3) (.tmp 4) x0 x0) fun x5 =>
    some (x5, h)
theorem F79_eq : eFun env k inv 79 #[x0] h = F79 inv k x0 h := by
      refine (kq_fun (a := act 6 [(0, x0)]) (c := cp c79 1)).trans ?_
      unfold F79
      simp only [kq_seq c79 1, r79_0, kq_seq c79 3, r79_1, kq_ret c79 7, res79_0, reduceIte, reduceCtorEq, XE.exit.injEq, Nat.reduceEqDiff, Nat.reduceMul, Nat.reduceAdd] <;> kernel_rfl
theorem F79_call : eInv env (k + 1) (.func 79) #[] #[x0] h = F79 (eInv env k) k x0 h := kq_inv F79_eq
noncomputable def c80 : Code := codeOf Try.prog 80
theorem r80_0  : kCode env 80 false inv k (cp c80 2) (act 8 [(0, x0), (1, x1)]) h K =
    K .normal (act 8 [(0, x0), (1, x1)]) h := kq_reg
theorem r80_1  : kCode env 80 false inv k (cp c80 6) (act 8 [(0, x0), (1, x1)]) h K =
    bnd (inv (.func 86) #[] #[x0, x1] h) fun x7 =>
    K .normal (act 8 [(4, x7.1)]) x7.2 := kq_reg
theorem res80_0 : resOfFn env.P 80 .ret (act 8 [(4, x4)]) h = some (x4, h) := kq_res
/-- internal/bytealg.CompareString -/
noncomputable def F80 (inv : Inv) (k : Nat) (x0 x1 : Value) (h : AH) : Option (Value × AH) :=
    bnd (inv (.func 86) #[] #[x0, x1] h) fun x7 =>
    some (x7.1, x7.2)
theorem F80_eq : eFun env k inv 80 #[x0, x1] h = F80 inv k x0 x1 h := by
      refine (kq_fun (a := act 8 [(0, x0), (1, x1)]) (c := cp c80 1)).trans ?_
      unfold F80
      simp only [kq_seq c80 1, r80_0, kq_seq c80 3, r80_1, kq_ret c80 7, res80_0, reduceIte, reduceCtorEq, XE.exit.injEq, Nat.reduceEqDiff, Nat.reduceMul, Nat.reduceAdd] <;> kernel_rfl
theorem F80_call : eInv env (k + 1) (.func 80) #[] #[x0, x1] h = F80 (eInv env k) k x0 x1 h := kq_inv F80_eq
end Go.Proofs.Ytmhgihjmhmihpaa.Sh
