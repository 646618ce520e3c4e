/- Shallow functions, part 2. Printed by a program of the prover's own from the loaded program; Lean checks it. -/
import Derived.Test.YtmhgihjmhmihpaaSz1
set_option linter.unusedVariables false
set_option linter.unusedSimpArgs false
set_option maxRecDepth 100000
namespace Go.Proofs.Ytmhgihjmhmihpaa.Sh
open Go Go.RowKit Go.Proofs.Ev
variable {β : Type} {inv : Inv} {k : Nat} {h : AH} {K : XE → Act → AH → Option β} {x0 x1 x2 x3 x4 x5 x6 x7 x8 x9 x10 x11 x12 x13 x14 x15 x16 x17 x18 x19 x20 x21 x22 x23 x24 x25 x26 x27 x28 x29 x30 x31 x32 x33 x34 x36 x37 x38 x39 x40 x41 x42 x43 x44 x45 x46 x47 x48 x49 x50 x51 x52 x53 x54 x55 x56 x65 x66 x78 x79 x92 x93 x94 x95 x96 x97 : Value}
noncomputable def c34 : Code := codeOf Try.prog 34
theorem r34_0  : kCode env 34 false inv k (cp c34 2) (act 56 [(0, x0)]) h K =
    K .normal (act 56 [(0, x0)]) h := kq_reg
noncomputable abbrev G34_1 {β : Type} (inv : Inv) (x0 : Value) (h : AH) (K : Value → AH → Option β) : Option β :=
    bnd (pLen Try.prog #[30] x0 h) fun x6 =>
    bnd (pBin Try.prog .lss 3 (.tmp 6) (.const (.int .i64 1)) x6 (.int .i64 1)) fun x7 =>
    bnd (gd (some x7) false h (some (x0, h))) fun x9 =>
    bnd (gd (some x7) false x9.2 (lt (pLen Try.prog #[30] x9.1 x9.2) x9.2)) fun x10 =>
    bnd (gd (some x7) false x10.2 (lt (pBin Try.prog .gtr 3 (.tmp 10) (.const (.int .i64 16)) x10.1 (.int .i64 16)) x10.2)) fun x11 =>
    bnd (pickV x7 (.bool true) x11.1) fun x12 =>
    K (x12) x11.2
theorem r34_1  : kCode env 34 false inv k (cp c34 12) (act 56 [(0, x0)]) h K =
    G34_1 inv x0 h fun y12 h => K .normal (act 56 [(0, x0), (12, y12)]) h := kq_reg
theorem b34_rlr  : kCode env 34 false inv k (cp c34 13) (act 56 [(0, x0), (12, x12)]) h K = brV x12 (kCode env 34 false inv k (cp c34 26) (act 56 [(0, x0), (12, x12)]) h K) (kCode env 34 false inv k (cp c34 27) (act 56 [(0, x0), (12, x12)]) h K) := kq_cond
theorem r34_2  : kCode env 34 false inv k (cp c34 52) (act 56 [(0, x0), (12, x12)]) h K =
    K .normal (act 56 [(2, (.int .i64 171))]) h := kq_reg
theorem res34_0 : resOfFn env.P 34 .ret (act 56 [(2, x2)]) h = some (x2, h) := kq_res
theorem r34_3  : kCode env 34 false inv k (cp c34 28) (act 56 [(0, x0), (12, x12)]) h K =
    K .normal (act 56 [(0, x0), (3, (.int .i64 0))]) h := kq_reg
theorem r34_4  : kCode env 34 false inv k (cp c34 464) (act 56 [(0, x0), (3, x3)]) h K =
    bnd (pLen Try.prog #[30] x0 h) fun x15 =>
    bnd (pBin Try.prog .lss 3 (.tmp 13) (.tmp 15) x3 x15) fun x16 =>
    K .normal (act 56 [(0, x0), (3, x3), (16, x16)]) h := kq_reg
theorem b34_rlllrlrr  : kCode env 34 false inv k (cp c34 465) (act 56 [(0, x0), (3, x3), (16, x16)]) h K = brV x16 (kCode env 34 false inv k (cp c34 930) (act 56 [(0, x0), (3, x3), (16, x16)]) h K) (kCode env 34 false inv k (cp c34 931) (act 56 [(0, x0), (3, x3), (16, x16)]) h K) := kq_cond
theorem r34_6  : kCode env 34 false inv k (cp c34 3728) (act 56 [(0, x0), (3, x3), (16, x16)]) h K =
    bnd (pIndexAddr Try.prog 30 x0 x3) fun x21 =>
    bnd (pFieldAddr Try.prog 50 x21 0) fun x22 =>
    bnd (pLoad Try.prog 9 x22 h) fun x23 =>
    bnd (inv (.func 53) #[] #[x23] h) fun x24 =>
    bnd (pBin Try.prog .neq 34 (.tmp 24) (.const (.int .i64 0)) x24.1 (.int .i64 0)) fun x25 =>
    K .normal (act 56 [(0, x0), (3, x3), (25, x25)]) x24.2 := kq_reg
theorem b34_rlllrllrlrr  : kCode env 34 false inv k (cp c34 3729) (act 56 [(0, x0), (3, x3), (25, x25)]) h K = brV x25 (kCode env 34 false inv k (cp c34 7458) (act 56 [(0, x0), (3, x3), (25, x25)]) h K) (kCode env 34 false inv k (cp c34 7459) (act 56 [(0, x0), (3, x3), (25, x25)]) h K) := kq_cond
theorem r34_7  : kCode env 34 false inv k (cp c34 14916) (act 56 [(0, x0), (3, x3), (25, x25)]) h K =
    K .normal (act 56 [(2, (.int .i64 170))]) h := kq_reg
noncomputable abbrev G34_8 {β : Type} (inv : Inv) (x0 x3 : Value) (h : AH) (K : Value → AH → Option β) : Option β :=
    bnd (pIndexAddr Try.prog 30 x0 x3) fun x28 =>
    bnd (pFieldAddr Try.prog 50 x28 1) fun x29 =>
    bnd (pLoad Try.prog 3 x29 h) fun x30 =>
    bnd (pBin Try.prog .lss 3 (.tmp 30) (.const (.int .i64 1)) x30 (.int .i64 1)) fun x31 =>
    bnd (gd (some x31) false h (some (x0, h))) fun x33 =>
    bnd (gd (some x31) false x33.2 (some (x3, x33.2))) fun x34 =>
    bnd (gd (some x31) false x34.2 (lt (pIndexAddr Try.prog 30 x33.1 x34.1) x34.2)) fun x35 =>
    bnd (gd (some x31) false x35.2 (lt (pFieldAddr Try.prog 50 x35.1 1) x35.2)) fun x36 =>
    bnd (gd (some x31) false x36.2 (lt (pLoad Try.prog 3 x36.1 x36.2) x36.2)) fun x37 =>
    bnd (gd (some x31) false x37.2 (lt (pBin Try.prog .gtr 3 (.tmp 37) (.const (.int .i64 3)) x37.1 (.int .i64 3)) x37.2)) fun x38 =>
    bnd (pickV x31 (.bool true) x38.1) fun x39 =>
    K (x39) x38.2
theorem r34_8  : kCode env 34 false inv k (cp c34 7460) (act 56 [(0, x0), (3, x3), (25, x25)]) h K =
    G34_8 inv x0 x3 h fun y39 h => K .normal (act 56 [(0, x0), (3, x3), (39, y39)]) h := kq_reg
theorem b34_rlrllrllrlrr  : kCode env 34 false inv k (cp c34 7461) (act 56 [(0, x0), (3, x3), (39, x39)]) h K = brV x39 (kCode env 34 false inv k (cp c34 14922) (act 56 [(0, x0), (3, x3), (39, x39)]) h K) (kCode env 34 false inv k (cp c34 14923) (act 56 [(0, x0), (3, x3), (39, x39)]) h K) := kq_cond
theorem r34_9  : kCode env 34 false inv k (cp c34 29844) (act 56 [(0, x0), (3, x3), (39, x39)]) h K =
    K .normal (act 56 [(2, (.int .i64 171))]) h := kq_reg
theorem r34_10  : kCode env 34 false inv k (cp c34 7462) (act 56 [(0, x0), (3, x3), (39, x39)]) h K =
    K .normal (act 56 [(0, x0), (3, x3), (4, (.int .i64 0))]) h := kq_reg
theorem r34_11  : kCode env 34 false inv k (cp c34 119408) (act 56 [(0, x0), (3, x3), (4, x4)]) h K =
    bnd (pBin Try.prog .lss 3 (.tmp 40) (.tmp 41) x4 x3) fun x42 =>
    K .normal (act 56 [(0, x0), (3, x3), (4, x4), (42, x42)]) h := kq_reg
theorem b34_rlllrrrllrllrlrr  : kCode env 34 false inv k (cp c34 119409) (act 56 [(0, x0), (3, x3), (4, x4), (42, x42)]) h K = brV x42 (kCode env 34 false inv k (cp c34 238818) (act 56 [(0, x0), (3, x3), (4, x4), (42, x42)]) h K) (kCode env 34 false inv k (cp c34 238819) (act 56 [(0, x0), (3, x3), (4, x4), (42, x42)]) h K) := kq_cond
theorem r34_13  : kCode env 34 false inv k (cp c34 477640) (act 56 [(0, x0), (3, x3), (4, x4), (42, x42)]) h K =
    bnd (pIndexAddr Try.prog 30 x0 x4) fun x47 =>
    bnd (pFieldAddr Try.prog 50 x47 0) fun x48 =>
    bnd (pLoad Try.prog 9 x48 h) fun x49 =>
    bnd (pIndexAddr Try.prog 30 x0 x3) fun x52 =>
    bnd (pFieldAddr Try.prog 50 x52 0) fun x53 =>
    bnd (pLoad Try.prog 9 x53 h) fun x54 =>
    bnd (pBin Try.prog .eql 9 (.tmp 49) (.tmp 54) x49 x54) fun x55 =>
    K .normal (act 56 [(0, x0), (3, x3), (4, x4), (55, x55)]) h := kq_draw
theorem b34_rllrllrrrllrllrlrr  : kCode env 34 false inv k (cp c34 477641) (act 56 [(0, x0), (3, x3), (4, x4), (55, x55)]) h K = brV x55 (kCode env 34 false inv k (cp c34 955282) (act 56 [(0, x0), (3, x3), (4, x4), (55, x55)]) h K) (kCode env 34 false inv k (cp c34 955283) (act 56 [(0, x0), (3, x3), (4, x4), (55, x55)]) h K) := kq_cond
theorem r34_14  : kCode env 34 false inv k (cp c34 1910564) (act 56 [(0, x0), (3, x3), (4, x4), (55, x55)]) h K =
    K .normal (act 56 [(2, (.int .i64 171))]) h := kq_reg
theorem r34_12  : kCode env 34 false inv k (cp c34 119411) (act 56 [(0, x0), (3, x3), (4, x4), (55, x55)]) h K =
    bnd (pBin Try.prog .add 3 (.tmp 43) (.const (.int .i64 1)) x4 (.int .i64 1)) fun x44 =>
    K .normal (act 56 [(0, x0), (3, x3), (4, x44)]) h := kq_reg
noncomputable def F34_lrrrllrllrlrr {β : Type} (inv : Inv) (k : Nat) : Nat → Value → Value → Value → AH → (Value → Value → Value → Value → AH → Option β) → (Value → AH → Option β) → Option β
  | 0, _, _, _, _, _, _ => none
  | j + 1, x0, x3, x4, h, ke2, kr =>
    bnd (pBin Try.prog .lss 3 (.tmp 40) (.tmp 41) x4 x3) fun x42 =>
    brV x42
    (bnd (pIndexAddr Try.prog 30 x0 x4) fun x47 =>
    bnd (pFieldAddr Try.prog 50 x47 0) fun x48 =>
    bnd (pLoad Try.prog 9 x48 h) fun x49 =>
    bnd (pIndexAddr Try.prog 30 x0 x3) fun x52 =>
    bnd (pFieldAddr Try.prog 50 x52 0) fun x53 =>
    bnd (pLoad Try.prog 9 x53 h) fun x54 =>
    bnd (pBin Try.prog .eql 9 (.tmp 49) (.tmp 54) x49 x54) fun x55 =>
    brV x55
    (kr (.int .i64 171) h)
    (bnd (pBin Try.prog .add 3 (.tmp 43) (.const (.int .i64 1)) x4 (.int .i64 1)) fun x44 =>
    F34_lrrrllrllrlrr inv k j x0 x3 x44 h ke2 kr))
    (ke2 x0 x3 x4 x42 h)
theorem F34_lrrrllrllrlrr_j (j : Nat) : kLoop (kCode env 34 false inv k (cp c34 29852)) j (act 56 [(0, x0), (3, x3), (4, x4)]) h K = F34_lrrrllrllrlrr inv k j x0 x3 x4 h (fun y0 y3 y4 y42 h => K (.exit 2) (act 56 [(0, y0), (3, y3), (4, y4), (42, y42)]) h) (fun y2 h => K .ret (act 56 [(2, y2)]) h) := by
      induction j generalizing x0 x3 x4 h with
      | zero => rfl
      | succ j ih =>
        unfold F34_lrrrllrllrlrr
        simp only [kLoop, kq_seq c34 29852, kq_seq c34 59704, r34_11, b34_rlllrrrllrllrlrr, kq_skip c34 238818, kq_seq c34 59705, kq_block c34 119410 3, kq_seq c34 238820, r34_13, b34_rllrllrrrllrllrlrr, kq_seq c34 955282, r34_14, kq_ret c34 1910565, kq_skip c34 955283, r34_12, kq_exit c34 238819 2, ih, reduceIte, reduceCtorEq, XE.exit.injEq, Nat.reduceEqDiff, Nat.reduceMul, Nat.reduceAdd] <;> kernel_rfl
theorem F34_lrrrllrllrlrr_eq  : kCode env 34 false inv k (cp c34 14926) (act 56 [(0, x0), (3, x3), (4, x4)]) h K = F34_lrrrllrllrlrr inv k k x0 x3 x4 h (fun y0 y3 y4 y42 h => K (.exit 2) (act 56 [(0, y0), (3, y3), (4, y4), (42, y42)]) h) (fun y2 h => K .ret (act 56 [(2, y2)]) h) := kq_loop (F34_lrrrllrllrlrr_j k)
theorem r34_5  : kCode env 34 false inv k (cp c34 467) (act 56 [(0, x0), (3, x3), (4, x4), (42, x42)]) h K =
    bnd (pBin Try.prog .add 3 (.tmp 17) (.const (.int .i64 1)) x3 (.int .i64 1)) fun x18 =>
    K .normal (act 56 [(0, x0), (3, x18)]) h := kq_reg
noncomputable def F34_lrlrr {β : Type} (inv : Inv) (k : Nat) : Nat → Value → Value → AH → (Value → Value → Value → AH → Option β) → (Value → AH → Option β) → Option β
  | 0, _, _, _, _, _ => none
  | j + 1, x0, x3, h, ke0, kr =>
    bnd (pLen Try.prog #[30] x0 h) fun x15 =>
    bnd (pBin Try.prog .lss 3 (.tmp 13) (.tmp 15) x3 x15) fun x16 =>
    brV x16
    (bnd (pIndexAddr Try.prog 30 x0 x3) fun x21 =>
    bnd (pFieldAddr Try.prog 50 x21 0) fun x22 =>
    bnd (pLoad Try.prog 9 x22 h) fun x23 =>
    bnd (inv (.func 53) #[] #[x23] h) fun x24 =>
    bnd (pBin Try.prog .neq 34 (.tmp 24) (.const (.int .i64 0)) x24.1 (.int .i64 0)) fun x25 =>
    brV x25
    (kr (.int .i64 170) x24.2)
    (G34_8 inv x0 x3 x24.2 fun y39 h =>
    brV y39
    (kr (.int .i64 171) h)
    (F34_lrrrllrllrlrr inv k k x0 x3 (.int .i64 0) h
    (fun y0 y3 y4 y42 h_1 =>
    bnd (pBin Try.prog .add 3 (.tmp 17) (.const (.int .i64 1)) y3 (.int .i64 1)) fun x18 =>
    F34_lrlrr inv k j y0 x18 h_1 ke0 kr)
    (fun y2 h_2 =>
    kr y2 h_2))))
    (ke0 x0 x3 x16 h)
theorem F34_lrlrr_j (j : Nat) : kLoop (kCode env 34 false inv k (cp c34 116)) j (act 56 [(0, x0), (3, x3)]) h K = F34_lrlrr inv k j x0 x3 h (fun y0 y3 y16 h => K (.exit 0) (act 56 [(0, y0), (3, y3), (16, y16)]) h) (fun y2 h => K .ret (act 56 [(2, y2)]) h) := by
      induction j generalizing x0 x3 h with
      | zero => rfl
      | succ j ih =>
        unfold F34_lrlrr
        simp only [kLoop, kq_seq c34 116, kq_seq c34 232, r34_4, b34_rlllrlrr, kq_skip c34 930, kq_seq c34 233, kq_block c34 466 1, kq_seq c34 932, kq_seq c34 1864, r34_6, b34_rlllrllrlrr, kq_seq c34 7458, r34_7, kq_ret c34 14917, kq_skip c34 7459, kq_seq c34 1865, kq_seq c34 3730, r34_8, b34_rlrllrllrlrr, kq_seq c34 14922, r34_9, kq_ret c34 29845, kq_skip c34 14923, kq_seq c34 3731, r34_10, kq_block c34 7463 2, F34_lrrrllrllrlrr_eq, r34_5, kq_exit c34 931 0, ih, reduceIte, reduceCtorEq, XE.exit.injEq, Nat.reduceEqDiff, Nat.reduceMul, Nat.reduceAdd] <;> kernel_rfl
theorem F34_lrlrr_eq  : kCode env 34 false inv k (cp c34 58) (act 56 [(0, x0), (3, x3)]) h K = F34_lrlrr inv k k x0 x3 h (fun y0 y3 y16 h => K (.exit 0) (act 56 [(0, y0), (3, y3), (16, y16)]) h) (fun y2 h => K .ret (act 56 [(2, y2)]) h) := kq_loop (F34_lrlrr_j k)
theorem r34_15  : kCode env 34 false inv k (cp c34 30) (act 56 [(0, x0), (3, x3), (16, x16)]) h K =
    K .normal (act 56 [(2, (.int .i64 0))]) h := kq_reg
/-- shadowbook/shadowbookref17.Check -/
noncomputable def F34 (inv : Inv) (k : Nat) (x0 : Value) (h : AH) : Option (Value × AH) :=
    G34_1 inv x0 h fun y12 h =>
    brV y12
    (some ((.int .i64 171), h))
    (F34_lrlrr inv k k x0 (.int .i64 0) h
    (fun y0 y3 y16 h_3 =>
    some ((.int .i64 0), h_3))
    (fun y2 h_4 =>
    some (y2, h_4)))
theorem F34_eq : eFun env k inv 34 #[x0] h = F34 inv k x0 h := by
      refine (kq_fun (a := act 56 [(0, x0)]) (c := cp c34 1)).trans ?_
      unfold F34
      simp only [kq_seq c34 1, r34_0, kq_seq c34 3, kq_seq c34 6, r34_1, b34_rlr, kq_seq c34 26, r34_2, kq_ret c34 53, res34_0, kq_skip c34 27, kq_seq c34 7, kq_seq c34 14, r34_3, kq_block c34 29 0, F34_lrlrr_eq, kq_seq c34 15, r34_15, kq_ret c34 31, reduceIte, reduceCtorEq, XE.exit.injEq, Nat.reduceEqDiff, Nat.reduceMul, Nat.reduceAdd] <;> kernel_rfl
theorem F34_call : eInv env (k + 1) (.func 34) #[] #[x0] h = F34 (eInv env k) k x0 h := kq_inv F34_eq
noncomputable def c35 : Code := codeOf Try.prog 35
theorem r35_0  : kCode env 35 false inv k (cp c35 2) (act 26 [(0, x0), (1, x1)]) h K =
    bnd (pBox Try.prog 50 x0 h) fun x2 =>
    bnd (pBox Try.prog 42 x1 x2.2) fun x3 =>
    K .normal (act 26 [(2, x2.1), (3, x3.1)]) x3.2 := kq_reg
theorem r35_1  : kCode env 35 false inv k (cp c35 6) (act 26 [(2, x2), (3, x3)]) h K =
    bnd (pLoad Try.prog 42 x3 h) fun x6 =>
    bnd (inv (.func 19) #[] #[x6] h) fun x7 =>
    K .normal (act 26 [(2, x2), (3, x3), (5, x7.1)]) x7.2 := kq_reg
theorem r35_2  : kCode env 35 false inv k (cp c35 28) (act 26 [(2, x2), (3, x3), (5, x5)]) h K =
    bnd (pBin Try.prog .neq 34 (.tmp 8) (.const (.int .i64 0)) x5 (.int .i64 0)) fun x9 =>
    K .normal (act 26 [(2, x2), (3, x3), (5, x5), (9, x9)]) h := kq_reg
theorem b35_rlrr  : kCode env 35 false inv k (cp c35 29) (act 26 [(2, x2), (3, x3), (5, x5), (9, x9)]) h K = brV x9 (kCode env 35 false inv k (cp c35 58) (act 26 [(2, x2), (3, x3), (5, x5), (9, x9)]) h K) (kCode env 35 false inv k (cp c35 59) (act 26 [(2, x2), (3, x3), (5, x5), (9, x9)]) h K) := kq_cond
theorem r35_3  : kCode env 35 false inv k (cp c35 116) (act 26 [(2, x2), (3, x3), (5, x5), (9, x9)]) h K =
    K .normal (act 26 [(4, x5)]) h := kq_reg
theorem res35_0 : resOfFn env.P 35 .ret (act 26 [(4, x4)]) h = some (x4, h) := kq_res
noncomputable abbrev G35_4 {β : Type} (inv : Inv) (x2 x3 : Value) (h : AH) (K : Value → AH → Option β) : Option β :=
    bnd (pFieldAddr Try.prog 42 x3 0) fun x11 =>
    bnd (pLoad Try.prog 3 x11 h) fun x12 =>
    bnd (pFieldAddr Try.prog 50 x2 1) fun x13 =>
    bnd (pLoad Try.prog 3 x13 h) fun x14 =>
    bnd (pBin Try.prog .neq 3 (.tmp 12) (.tmp 14) x12 x14) fun x15 =>
    bnd (gd (some x15) true h (lt (pFieldAddr Try.prog 42 x3 0) h)) fun x17 =>
    bnd (gd (some x15) true x17.2 (lt (pLoad Try.prog 3 x17.1 x17.2) x17.2)) fun x18 =>
    bnd (gd (some x15) true x18.2 (lt (pBin Try.prog .eql 3 (.tmp 18) (.const (.int .i64 0)) x18.1 (.int .i64 0)) x18.2)) fun x19 =>
    bnd (gd (some x15) true x19.2 (some (x19.1, x19.2))) fun x20 =>
    bnd (gd (some x20.1) true x20.2 (lt (pFieldAddr Try.prog 50 x2 2) x20.2)) fun x21 =>
    bnd (gd (some x20.1) true x21.2 (lt (pLoad Try.prog 4 x21.1 x21.2) x21.2)) fun x22 =>
    bnd (gd (some x15) true x22.2 (lt (pickV x20.1 x22.1 (.bool false)) x22.2)) fun x23 =>
    bnd (gd (some x15) true x23.2 (lt (pUn Try.prog .not x23.1) x23.2)) fun x24 =>
    bnd (pickV x15 x24.1 (.bool false)) fun x25 =>
    K (x25) x24.2
theorem r35_4  : kCode env 35 false inv k (cp c35 60) (act 26 [(2, x2), (3, x3), (5, x5), (9, x9)]) h K =
    G35_4 inv x2 x3 h fun y25 h => K .normal (act 26 [(25, y25)]) h := kq_reg
theorem b35_rlrrr  : kCode env 35 false inv k (cp c35 61) (act 26 [(25, x25)]) h K = brV x25 (kCode env 35 false inv k (cp c35 122) (act 26 [(25, x25)]) h K) (kCode env 35 false inv k (cp c35 123) (act 26 [(25, x25)]) h K) := kq_cond
theorem r35_5  : kCode env 35 false inv k (cp c35 244) (act 26 [(25, x25)]) h K =
    K .normal (act 26 [(4, (.int .i64 173))]) h := kq_reg
theorem r35_6  : kCode env 35 false inv k (cp c35 62) (act 26 [(25, x25)]) h K =
    K .normal (act 26 [(4, (.int .i64 0))]) h := kq_reg
/-- shadowbook/shadowbookref17.Cell -/
noncomputable def F35 (inv : Inv) (k : Nat) (x0 x1 : Value) (h : AH) : Option (Value × AH) :=
    bnd (pBox Try.prog 50 x0 h) fun x2 =>
    bnd (pBox Try.prog 42 x1 x2.2) fun x3 =>
    bnd (pLoad Try.prog 42 x3.1 x3.2) fun x6 =>
    bnd (inv (.func 19) #[] #[x6] x3.2) fun x7 =>
    bnd (pBin Try.prog .neq 34 (.tmp 8) (.const (.int .i64 0)) x7.1 (.int .i64 0)) fun x9 =>
    brV x9
    (some (x7.1, x7.2))
    (G35_4 inv x2.1 x3.1 x7.2 fun y25 h =>
    brV y25
    (some ((.int .i64 173), h))
    (some ((.int .i64 0), h)))
theorem F35_eq : eFun env k inv 35 #[x0, x1] h = F35 inv k x0 x1 h := by
      refine (kq_fun (a := act 26 [(0, x0), (1, x1)]) (c := cp c35 1)).trans ?_
      unfold F35
      simp only [kq_seq c35 1, r35_0, kq_seq c35 3, r35_1, kq_seq c35 7, kq_seq c35 14, r35_2, b35_rlrr, kq_seq c35 58, r35_3, kq_ret c35 117, res35_0, kq_skip c35 59, kq_seq c35 15, kq_seq c35 30, r35_4, b35_rlrrr, kq_seq c35 122, r35_5, kq_ret c35 245, kq_skip c35 123, kq_seq c35 31, r35_6, kq_ret c35 63, reduceIte, reduceCtorEq, XE.exit.injEq, Nat.reduceEqDiff, Nat.reduceMul, Nat.reduceAdd] <;> kernel_rfl
theorem F35_call : eInv env (k + 1) (.func 35) #[] #[x0, x1] h = F35 (eInv env k) k x0 x1 h := kq_inv F35_eq
noncomputable def c36 : Code := codeOf Try.prog 36
theorem r36_0  : kCode env 36 false inv k (cp c36 2) (act 58 [(0, x0), (1, x1), (2, x2)]) h K =
    K .normal (act 58 [(0, x0), (1, x1), (2, x2), (6, (.int .i64 0))]) h := kq_reg
theorem r36_1  : kCode env 36 false inv k (cp c36 6) (act 58 [(0, x0), (1, x1), (2, x2), (6, x6)]) h K =
    bnd (pLen Try.prog #[22] x0 h) fun x15 =>
    bnd (pMakeSlice Try.prog 46 (.int .i64 0) x15 h) fun x16 =>
    K .normal (act 58 [(0, x0), (1, x1), (2, x2), (6, x6), (7, x16.1)]) x16.2 := kq_reg
theorem r36_2  : kCode env 36 false inv k (cp c36 28) (act 58 [(0, x0), (1, x1), (2, x2), (6, x6), (7, x7)]) h K =
    bnd (pLen Try.prog #[22] x0 h) fun x18 =>
    K .normal (act 58 [(1, x1), (2, x2), (6, x6), (7, x7), (17, x0), (18, x18), (19, (.int .i64 0))]) h := kq_reg
theorem r36_3  : kCode env 36 false inv k (cp c36 232) (act 58 [(1, x1), (2, x2), (6, x6), (7, x7), (17, x17), (18, x18), (19, x19)]) h K =
    bnd (pBin Try.prog .lss 3 (.tmp 19) (.tmp 18) x19 x18) fun x20 =>
    K .normal (act 58 [(1, x1), (2, x2), (6, x6), (7, x7), (17, x17), (18, x18), (19, x19), (20, x20)]) h := kq_reg
theorem b36_lrllrlrr  : kCode env 36 false inv k (cp c36 466) (act 58 [(1, x1), (2, x2), (6, x6), (7, x7), (17, x17), (18, x18), (19, x19), (20, x20)]) h K = brV x20 (kCode env 36 false inv k (cp c36 932) (act 58 [(1, x1), (2, x2), (6, x6), (7, x7), (17, x17), (18, x18), (19, x19), (20, x20)]) h K) (kCode env 36 false inv k (cp c36 933) (act 58 [(1, x1), (2, x2), (6, x6), (7, x7), (17, x17), (18, x18), (19, x19), (20, x20)]) h K) := kq_cond
theorem r36_4  : kCode env 36 false inv k (cp c36 3736) (act 58 [(1, x1), (2, x2), (6, x6), (7, x7), (17, x17), (18, x18), (19, x19), (20, x20)]) h K =
    bnd (pIndexAddr Try.prog 22 x17 x19) fun x22 =>
    bnd (pLoad Try.prog 48 x22 h) fun x23 =>
    bnd (pAlloc Try.prog 48 h) fun x9 =>
    bnd (kSt (pStore Try.prog 48 x9.1 x23 x9.2)) fun u =>
    K .normal (act 58 [(1, x1), (2, x2), (7, x7), (8, x19), (9, x9.1), (17, x17), (18, x18), (19, x19)]) u.2 := kq_reg
theorem r36_5  : kCode env 36 false inv k (cp c36 7474) (act 58 [(1, x1), (2, x2), (7, x7), (8, x8), (9, x9), (17, x17), (18, x18), (19, x19)]) h K =
    K .normal (act 58 [(1, x1), (2, x2), (7, x7), (8, x8), (9, x9), (10, (.slice none 0 0)), (17, x17), (18, x18), (19, x19)]) h := kq_reg
theorem r36_6  : kCode env 36 false inv k (cp c36 29900) (act 58 [(1, x1), (2, x2), (7, x7), (8, x8), (9, x9), (10, x10), (17, x17), (18, x18), (19, x19)]) h K =
    bnd (pFieldAddr Try.prog 48 x9 3) fun x24 =>
    bnd (pLoad Try.prog 46 x24 h) fun x25 =>
    bnd (pLen Try.prog #[46] x25 h) fun x26 =>
    K .normal (act 58 [(1, x1), (2, x2), (7, x7), (8, x8), (9, x9), (10, x10), (17, x17), (18, x18), (19, x19), (25, x25), (26, x26), (27, (.int .i64 0))]) h := kq_reg
theorem r36_7  : kCode env 36 false inv k (cp c36 239208) (act 58 [(1, x1), (2, x2), (7, x7), (8, x8), (9, x9), (10, x10), (17, x17), (18, x18), (19, x19), (25, x25), (26, x26), (27, x27)]) h K =
    bnd (pBin Try.prog .lss 3 (.tmp 27) (.tmp 26) x27 x26) fun x28 =>
    K .normal (act 58 [(1, x1), (2, x2), (7, x7), (8, x8), (9, x9), (10, x10), (17, x17), (18, x18), (19, x19), (25, x25), (26, x26), (27, x27), (28, x28)]) h := kq_reg
theorem b36_lrllrlrrllrrllrlrr  : kCode env 36 false inv k (cp c36 478418) (act 58 [(1, x1), (2, x2), (7, x7), (8, x8), (9, x9), (10, x10), (17, x17), (18, x18), (19, x19), (25, x25), (26, x26), (27, x27), (28, x28)]) h K = brV x28 (kCode env 36 false inv k (cp c36 956836) (act 58 [(1, x1), (2, x2), (7, x7), (8, x8), (9, x9), (10, x10), (17, x17), (18, x18), (19, x19), (25, x25), (26, x26), (27, x27), (28, x28)]) h K) (kCode env 36 false inv k (cp c36 956837) (act 58 [(1, x1), (2, x2), (7, x7), (8, x8), (9, x9), (10, x10), (17, x17), (18, x18), (19, x19), (25, x25), (26, x26), (27, x27), (28, x28)]) h K) := kq_cond
theorem r36_8  : kCode env 36 false inv k (cp c36 3827352) (act 58 [(1, x1), (2, x2), (7, x7), (8, x8), (9, x9), (10, x10), (17, x17), (18, x18), (19, x19), (25, x25), (26, x26), (27, x27), (28, x28)]) h K =
    bnd (pIndexAddr Try.prog 46 x25 x27) fun x29 =>
    bnd (pLoad Try.prog 3 x29 h) fun x30 =>
    K .normal (act 58 [(1, x1), (2, x2), (7, x7), (8, x8), (9, x9), (10, x10), (12, x30), (17, x17), (18, x18), (19, x19), (25, x25), (26, x26), (27, x27)]) h := kq_reg
theorem r36_9  : kCode env 36 false inv k (cp c36 7654706) (act 58 [(1, x1), (2, x2), (7, x7), (8, x8), (9, x9), (10, x10), (12, x12), (17, x17), (18, x18), (19, x19), (25, x25), (26, x26), (27, x27)]) h K =
    K .normal (act 58 [(1, x1), (2, x2), (7, x7), (8, x8), (9, x9), (10, x10), (12, x12), (13, x1), (17, x17), (18, x18), (19, x19), (25, x25), (26, x26), (27, x27)]) h := kq_reg
noncomputable abbrev G36_10 {β : Type} (inv : Inv) (x1 x2 x7 x8 x9 x10 x12 x13 x17 x18 x19 x25 x26 x27 : Value) (h : AH) (K : Value → AH → Option β) : Option β :=
    bnd (pBin Try.prog .geq 3 (.tmp 32) (.const (.int .i64 0)) x12 (.int .i64 0)) fun x33 =>
    bnd (gd (some x33) true h (some (x12, h))) fun x35 =>
    bnd (gd (some x33) true x35.2 (some (x8, x35.2))) fun x36 =>
    bnd (gd (some x33) true x36.2 (lt (pBin Try.prog .lss 3 (.tmp 35) (.tmp 36) x35.1 x36.1) x36.2)) fun x37 =>
    bnd (pickV x33 x37.1 (.bool false)) fun x38 =>
    K (x38) x37.2
theorem r36_10  : kCode env 36 false inv k (cp c36 30618828) (act 58 [(1, x1), (2, x2), (7, x7), (8, x8), (9, x9), (10, x10), (12, x12), (13, x13), (17, x17), (18, x18), (19, x19), (25, x25), (26, x26), (27, x27)]) h K =
    G36_10 inv x1 x2 x7 x8 x9 x10 x12 x13 x17 x18 x19 x25 x26 x27 h fun y38 h => K .normal (act 58 [(1, x1), (2, x2), (7, x7), (8, x8), (9, x9), (10, x10), (12, x12), (13, x13), (17, x17), (18, x18), (19, x19), (25, x25), (26, x26), (27, x27), (38, y38)]) h := kq_reg
theorem b36_rlrrllrrllrlrrllrrllrlrr  : kCode env 36 false inv k (cp c36 30618829) (act 58 [(1, x1), (2, x2), (7, x7), (8, x8), (9, x9), (10, x10), (12, x12), (13, x13), (17, x17), (18, x18), (19, x19), (25, x25), (26, x26), (27, x27), (38, x38)]) h K = brV x38 (kCode env 36 false inv k (cp c36 61237658) (act 58 [(1, x1), (2, x2), (7, x7), (8, x8), (9, x9), (10, x10), (12, x12), (13, x13), (17, x17), (18, x18), (19, x19), (25, x25), (26, x26), (27, x27), (38, x38)]) h K) (kCode env 36 false inv k (cp c36 61237659) (act 58 [(1, x1), (2, x2), (7, x7), (8, x8), (9, x9), (10, x10), (12, x12), (13, x13), (17, x17), (18, x18), (19, x19), (25, x25), (26, x26), (27, x27), (38, x38)]) h K) := kq_cond
theorem r36_11  : kCode env 36 false inv k (cp c36 61237658) (act 58 [(1, x1), (2, x2), (7, x7), (8, x8), (9, x9), (10, x10), (12, x12), (13, x13), (17, x17), (18, x18), (19, x19), (25, x25), (26, x26), (27, x27), (38, x38)]) h K =
    bnd (pIndexAddr Try.prog 46 x7 x12) fun x41 =>
    bnd (pLoad Try.prog 3 x41 h) fun x42 =>
    K .normal (act 58 [(1, x1), (2, x2), (7, x7), (8, x8), (9, x9), (10, x10), (13, x42), (17, x17), (18, x18), (19, x19), (25, x25), (26, x26), (27, x27)]) h := kq_reg
noncomputable def F36_rlrrllrrllrlrrllrrllrlrr {β : Type} (inv : Inv) (k : Nat) (x1 x2 x7 x8 x9 x10 x12 x13 x17 x18 x19 x25 x26 x27 x38 : Value) (h : AH) (kn : (Value → Value → Value → Value → Value → Value → Value → Value → Value → Value → Value → Value → Value → Value → Value → AH → Option β)) : Option β :=
    brV x38
    (bnd (pIndexAddr Try.prog 46 x7 x12) fun x41 =>
    bnd (pLoad Try.prog 3 x41 h) fun x42 =>
    kn x1 x2 x7 x8 x9 x10 unk x42 x17 x18 x19 x25 x26 x27 unk h)
    (kn x1 x2 x7 x8 x9 x10 x12 x13 x17 x18 x19 x25 x26 x27 x38 h)
theorem F36_rlrrllrrllrlrrllrrllrlrr_eq  : kCode env 36 false inv k (cp c36 30618829) (act 58 [(1, x1), (2, x2), (7, x7), (8, x8), (9, x9), (10, x10), (12, x12), (13, x13), (17, x17), (18, x18), (19, x19), (25, x25), (26, x26), (27, x27), (38, x38)]) h K = F36_rlrrllrrllrlrrllrrllrlrr inv k x1 x2 x7 x8 x9 x10 x12 x13 x17 x18 x19 x25 x26 x27 x38 h (fun y1 y2 y7 y8 y9 y10 y12 y13 y17 y18 y19 y25 y26 y27 y38 h => K .normal (act 58 [(1, y1), (2, y2), (7, y7), (8, y8), (9, y9), (10, y10), (12, y12), (13, y13), (17, y17), (18, y18), (19, y19), (25, y25), (26, y26), (27, y27), (38, y38)]) h) := by
      unfold F36_rlrrllrrllrlrrllrrllrlrr
      simp only [b36_rlrrllrrllrlrrllrrllrlrr, r36_11, kq_skip c36 61237659, reduceIte, reduceCtorEq, XE.exit.injEq, Nat.reduceEqDiff, Nat.reduceMul, Nat.reduceAdd] <;> kernel_rfl
theorem r36_12  : kCode env 36 false inv k (cp c36 15309415) (act 58 [(1, x1), (2, x2), (7, x7), (8, x8), (9, x9), (10, x10), (12, x12), (13, x13), (17, x17), (18, x18), (19, x19), (25, x25), (26, x26), (27, x27), (38, x38)]) h K =
    bnd (pBuildSlice Try.prog 46 1 #[(0, x13)] h) fun x45 =>
    bnd (pAppend Try.prog #[46, 46] x10 x45.1 x45.2) fun x46 =>
    K .normal (act 58 [(1, x1), (2, x2), (7, x7), (8, x8), (9, x9), (10, x46.1), (17, x17), (18, x18), (19, x19), (25, x25), (26, x26), (27, x27)]) x46.2 := kq_reg
theorem r36_13  : kCode env 36 false inv k (cp c36 956839) (act 58 [(1, x1), (2, x2), (7, x7), (8, x8), (9, x9), (10, x10), (17, x17), (18, x18), (19, x19), (25, x25), (26, x26), (27, x27)]) h K =
    bnd (pBin Try.prog .add 3 (.tmp 27) (.const (.int .i64 1)) x27 (.int .i64 1)) fun x47 =>
    K .normal (act 58 [(1, x1), (2, x2), (7, x7), (8, x8), (9, x9), (10, x10), (17, x17), (18, x18), (19, x19), (25, x25), (26, x26), (27, x47)]) h := kq_reg
noncomputable def F36_lrlrrllrrllrlrr {β : Type} (inv : Inv) (k : Nat) : Nat → Value → Value → Value → Value → Value → Value → Value → Value → Value → Value → Value → Value → AH → (Value → Value → Value → Value → Value → Value → Value → Value → Value → Value → Value → Value → Value → AH → Option β) → Option β
  | 0, _, _, _, _, _, _, _, _, _, _, _, _, _, _ => none
  | j + 1, x1, x2, x7, x8, x9, x10, x17, x18, x19, x25, x26, x27, h, ke2 =>
    bnd (pBin Try.prog .lss 3 (.tmp 27) (.tmp 26) x27 x26) fun x28 =>
    brV x28
    (bnd (pIndexAddr Try.prog 46 x25 x27) fun x29 =>
    bnd (pLoad Try.prog 3 x29 h) fun x30 =>
    G36_10 inv x1 x2 x7 x8 x9 x10 x30 x1 x17 x18 x19 x25 x26 x27 h fun y38 h =>
    F36_rlrrllrrllrlrrllrrllrlrr inv k x1 x2 x7 x8 x9 x10 x30 x1 x17 x18 x19 x25 x26 x27 y38 h
    (fun y1 y2 y7 y8 y9 y10 y12 y13 y17 y18 y19 y25 y26 y27 y38_1 h_2 =>
    bnd (pBuildSlice Try.prog 46 1 #[(0, y13)] h_2) fun x45 =>
    bnd (pAppend Try.prog #[46, 46] y10 x45.1 x45.2) fun x46 =>
    bnd (pBin Try.prog .add 3 (.tmp 27) (.const (.int .i64 1)) y27 (.int .i64 1)) fun x47 =>
    F36_lrlrrllrrllrlrr inv k j y1 y2 y7 y8 y9 x46.1 y17 y18 y19 y25 y26 x47 x46.2 ke2))
    (ke2 x1 x2 x7 x8 x9 x10 x17 x18 x19 x25 x26 x27 x28 h)
theorem F36_lrlrrllrrllrlrr_j (j : Nat) : kLoop (kCode env 36 false inv k (cp c36 119604)) j (act 58 [(1, x1), (2, x2), (7, x7), (8, x8), (9, x9), (10, x10), (17, x17), (18, x18), (19, x19), (25, x25), (26, x26), (27, x27)]) h K = F36_lrlrrllrrllrlrr inv k j x1 x2 x7 x8 x9 x10 x17 x18 x19 x25 x26 x27 h (fun y1 y2 y7 y8 y9 y10 y17 y18 y19 y25 y26 y27 y28 h => K (.exit 2) (act 58 [(1, y1), (2, y2), (7, y7), (8, y8), (9, y9), (10, y10), (17, y17), (18, y18), (19, y19), (25, y25), (26, y26), (27, y27), (28, y28)]) h) := by
      induction j generalizing x1 x2 x7 x8 x9 x10 x17 x18 x19 x25 x26 x27 h with
      | zero => rfl
      | succ j ih =>
        unfold F36_lrlrrllrrllrlrr
        simp only [kLoop, kq_seq c36 119604, r36_7, kq_seq c36 239209, b36_lrllrlrrllrrllrlrr, kq_skip c36 956836, kq_seq c36 478419, kq_block c36 956838 3, kq_seq c36 1913676, r36_8, kq_seq c36 3827353, r36_9, kq_seq c36 7654707, kq_seq c36 15309414, r36_10, F36_rlrrllrrllrlrrllrrllrlrr_eq, r36_12, r36_13, kq_exit c36 956837 2, ih, reduceIte, reduceCtorEq, XE.exit.injEq, Nat.reduceEqDiff, Nat.reduceMul, Nat.reduceAdd] <;> kernel_rfl
theorem F36_lrlrrllrrllrlrr_eq  : kCode env 36 false inv k (cp c36 59802) (act 58 [(1, x1), (2, x2), (7, x7), (8, x8), (9, x9), (10, x10), (17, x17), (18, x18), (19, x19), (25, x25), (26, x26), (27, x27)]) h K = F36_lrlrrllrrllrlrr inv k k x1 x2 x7 x8 x9 x10 x17 x18 x19 x25 x26 x27 h (fun y1 y2 y7 y8 y9 y10 y17 y18 y19 y25 y26 y27 y28 h => K (.exit 2) (act 58 [(1, y1), (2, y2), (7, y7), (8, y8), (9, y9), (10, y10), (17, y17), (18, y18), (19, y19), (25, y25), (26, y26), (27, y27), (28, y28)]) h) := kq_loop (F36_lrlrrllrrllrlrr_j k)
theorem r36_14  : kCode env 36 false inv k (cp c36 29902) (act 58 [(1, x1), (2, x2), (7, x7), (8, x8), (9, x9), (10, x10), (17, x17), (18, x18), (19, x19), (25, x25), (26, x26), (27, x27), (28, x28)]) h K =
    bnd (pLoad Try.prog 48 x9 h) fun x49 =>
    bnd (callV inv x2 #[x49, x10] h) fun x51 =>
    K .normal (act 58 [(1, x1), (2, x2), (6, x51.1), (7, x7), (17, x17), (18, x18), (19, x19)]) x51.2 := kq_reg
theorem r36_15  : kCode env 36 false inv k (cp c36 29903) (act 58 [(1, x1), (2, x2), (6, x6), (7, x7), (17, x17), (18, x18), (19, x19)]) h K =
    bnd (pBuildSlice Try.prog 46 1 #[(0, x6)] h) fun x54 =>
    bnd (pAppend Try.prog #[46, 46] x7 x54.1 x54.2) fun x55 =>
    K .normal (act 58 [(1, x1), (2, x2), (6, x6), (7, x55.1), (17, x17), (18, x18), (19, x19)]) x55.2 := kq_reg
theorem r36_16  : kCode env 36 false inv k (cp c36 935) (act 58 [(1, x1), (2, x2), (6, x6), (7, x7), (17, x17), (18, x18), (19, x19)]) h K =
    bnd (pBin Try.prog .add 3 (.tmp 19) (.const (.int .i64 1)) x19 (.int .i64 1)) fun x56 =>
    K .normal (act 58 [(1, x1), (2, x2), (6, x6), (7, x7), (17, x17), (18, x18), (19, x56)]) h := kq_reg
noncomputable def F36_lrlrr {β : Type} (inv : Inv) (k : Nat) : Nat → Value → Value → Value → Value → Value → Value → Value → AH → (Value → Value → Value → Value → Value → Value → Value → Value → AH → Option β) → Option β
  | 0, _, _, _, _, _, _, _, _, _ => none
  | j + 1, x1, x2, x6, x7, x17, x18, x19, h, ke0 =>
    bnd (pBin Try.prog .lss 3 (.tmp 19) (.tmp 18) x19 x18) fun x20 =>
    brV x20
    (bnd (pIndexAddr Try.prog 22 x17 x19) fun x22 =>
    bnd (pLoad Try.prog 48 x22 h) fun x23 =>
    bnd (pAlloc Try.prog 48 h) fun x9 =>
    bnd (kSt (pStore Try.prog 48 x9.1 x23 x9.2)) fun u =>
    bnd (pFieldAddr Try.prog 48 x9.1 3) fun x24 =>
    bnd (pLoad Try.prog 46 x24 u.2) fun x25 =>
    bnd (pLen Try.prog #[46] x25 u.2) fun x26 =>
    F36_lrlrrllrrllrlrr inv k k x1 x2 x7 x19 x9.1 (.slice none 0 0) x17 x18 x19 x25 x26 (.int .i64 0) u.2
    (fun y1 y2 y7 y8 y9 y10 y17 y18 y19 y25 y26 y27 y28 h =>
    bnd (pLoad Try.prog 48 y9 h) fun x49 =>
    bnd (callV inv y2 #[x49, y10] h) fun x51 =>
    bnd (pBuildSlice Try.prog 46 1 #[(0, x51.1)] x51.2) fun x54 =>
    bnd (pAppend Try.prog #[46, 46] y7 x54.1 x54.2) fun x55 =>
    bnd (pBin Try.prog .add 3 (.tmp 19) (.const (.int .i64 1)) y19 (.int .i64 1)) fun x56 =>
    F36_lrlrr inv k j y1 y2 x51.1 x55.1 y17 y18 x56 x55.2 ke0))
    (ke0 x1 x2 x6 x7 x17 x18 x19 x20 h)
theorem F36_lrlrr_j (j : Nat) : kLoop (kCode env 36 false inv k (cp c36 116)) j (act 58 [(1, x1), (2, x2), (6, x6), (7, x7), (17, x17), (18, x18), (19, x19)]) h K = F36_lrlrr inv k j x1 x2 x6 x7 x17 x18 x19 h (fun y1 y2 y6 y7 y17 y18 y19 y20 h => K (.exit 0) (act 58 [(1, y1), (2, y2), (6, y6), (7, y7), (17, y17), (18, y18), (19, y19), (20, y20)]) h) := by
      induction j generalizing x1 x2 x6 x7 x17 x18 x19 h with
      | zero => rfl
      | succ j ih =>
        unfold F36_lrlrr
        simp only [kLoop, kq_seq c36 116, r36_3, kq_seq c36 233, b36_lrllrlrr, kq_skip c36 932, kq_seq c36 467, kq_block c36 934 1, kq_seq c36 1868, r36_4, kq_seq c36 3737, r36_5, kq_seq c36 7475, kq_seq c36 14950, r36_6, kq_block c36 29901 2, F36_lrlrrllrrllrlrr_eq, kq_seq c36 14951, r36_14, r36_15, r36_16, kq_exit c36 933 0, ih, reduceIte, reduceCtorEq, XE.exit.injEq, Nat.reduceEqDiff, Nat.reduceMul, Nat.reduceAdd] <;> kernel_rfl
theorem F36_lrlrr_eq  : kCode env 36 false inv k (cp c36 58) (act 58 [(1, x1), (2, x2), (6, x6), (7, x7), (17, x17), (18, x18), (19, x19)]) h K = F36_lrlrr inv k k x1 x2 x6 x7 x17 x18 x19 h (fun y1 y2 y6 y7 y17 y18 y19 y20 h => K (.exit 0) (act 58 [(1, y1), (2, y2), (6, y6), (7, y7), (17, y17), (18, y18), (19, y19), (20, y20)]) h) := kq_loop (F36_lrlrr_j k)
theorem r36_17  : kCode env 36 false inv k (cp c36 30) (act 58 [(1, x1), (2, x2), (6, x6), (7, x7), (17, x17), (18, x18), (19, x19), (20, x20)]) h K =
    K .normal (act 58 [(6, x6)]) h := kq_reg
theorem res36_0 : resOfFn env.P 36 .ret (act 58 [(6, x6)]) h = some (x6, h) := kq_res
/-- shadowbook/pred.gone[int] -/
noncomputable def F36 (inv : Inv) (k : Nat) (x0 x1 x2 : Value) (h : AH) : Option (Value × AH) :=
    bnd (pLen Try.prog #[22] x0 h) fun x15 =>
    bnd (pMakeSlice Try.prog 46 (.int .i64 0) x15 h) fun x16 =>
    bnd (pLen Try.prog #[22] x0 x16.2) fun x18 =>
    F36_lrlrr inv k k x1 x2 (.int .i64 0) x16.1 x0 x18 (.int .i64 0) x16.2
    (fun y1 y2 y6 y7 y17 y18 y19 y20 h =>
    some (y6, h))
theorem F36_eq : eFun env k inv 36 #[x0, x1, x2] h = F36 inv k x0 x1 x2 h := by
      refine (kq_fun (a := act 58 [(0, x0), (1, x1), (2, x2)]) (c := cp c36 1)).trans ?_
      unfold F36
      simp only [kq_seq c36 1, r36_0, kq_seq c36 3, r36_1, kq_seq c36 7, kq_seq c36 14, r36_2, kq_block c36 29 0, F36_lrlrr_eq, kq_seq c36 15, r36_17, kq_ret c36 31, res36_0, reduceIte, reduceCtorEq, XE.exit.injEq, Nat.reduceEqDiff, Nat.reduceMul, Nat.reduceAdd] <;> kernel_rfl
theorem F36_call : eInv env (k + 1) (.func 36) #[] #[x0, x1, x2] h = F36 (eInv env k) k x0 x1 x2 h := kq_inv F36_eq
noncomputable def c37 : Code := codeOf Try.prog 37
theorem r37_0  : kCode env 37 false inv k (cp c37 2) (act 53 [(0, x0), (1, x1), (2, x2)]) h K =
    bnd (pBox Try.prog 48 x0 h) fun x3 =>
    K .normal (act 53 [(1, x1), (2, x2), (3, x3.1)]) x3.2 := kq_reg
theorem r37_1  : kCode env 37 false inv k (cp c37 6) (act 53 [(1, x1), (2, x2), (3, x3)]) h K =
    bnd (inv (.func 38) #[] #[x1, (.int .i64 1)] h) fun x9 =>
    bnd (inv (.func 38) #[] #[x1, (.int .i64 3)] x9.2) fun x11 =>
    K .normal (act 53 [(1, x1), (2, x2), (3, x3), (6, x9.1), (7, x11.1)]) x11.2 := kq_reg
theorem r37_2  : kCode env 37 false inv k (cp c37 56) (act 53 [(1, x1), (2, x2), (3, x3), (6, x6), (7, x7)]) h K =
    bnd (pFieldAddr Try.prog 48 x3 0) fun x13 =>
    bnd (pLoad Try.prog 3 x13 h) fun x14 =>
    bnd (inv (.func 26) #[] #[x14] h) fun x15 =>
    K .normal (act 53 [(1, x1), (2, x2), (3, x3), (6, x6), (7, x7), (12, x15.1)]) x15.2 := kq_reg
theorem b37_rllrr  : kCode env 37 false inv k (cp c37 57) (act 53 [(1, x1), (2, x2), (3, x3), (6, x6), (7, x7), (12, x12)]) h K = brV x12 (kCode env 37 false inv k (cp c37 114) (act 53 [(1, x1), (2, x2), (3, x3), (6, x6), (7, x7), (12, x12)]) h K) (kCode env 37 false inv k (cp c37 115) (act 53 [(1, x1), (2, x2), (3, x3), (6, x6), (7, x7), (12, x12)]) h K) := kq_cond
theorem r37_3  : kCode env 37 false inv k (cp c37 228) (act 53 [(1, x1), (2, x2), (3, x3), (6, x6), (7, x7), (12, x12)]) h K =
    bnd (pLoad Try.prog 48 x3 h) fun x16 =>
    bnd (pLoad Try.prog 38 x2 h) fun x17 =>
    bnd (inv (.func 39) #[] #[x16, x17] h) fun x18 =>
    K .normal (act 53 [(5, x18.1)]) x18.2 := kq_reg
theorem res37_0 : resOfFn env.P 37 .ret (act 53 [(5, x5)]) h = some (x5, h) := kq_res
theorem r37_4  : kCode env 37 false inv k (cp c37 230) (act 53 [(1, x1), (2, x2), (3, x3), (6, x6), (7, x7), (12, x12)]) h K =
    bnd (pFieldAddr Try.prog 48 x3 0) fun x20 =>
    bnd (pLoad Try.prog 3 x20 h) fun x21 =>
    bnd (pBin Try.prog .eql 3 (.tmp 21) (.const (.int .i64 1)) x21 (.int .i64 1)) fun x22 =>
    K .normal (act 53 [(1, x1), (3, x3), (6, x6), (7, x7), (19, x22)]) h := kq_reg
theorem b37_rrrllrr  : kCode env 37 false inv k (cp c37 231) (act 53 [(1, x1), (3, x3), (6, x6), (7, x7), (19, x19)]) h K = brV x19 (kCode env 37 false inv k (cp c37 462) (act 53 [(1, x1), (3, x3), (6, x6), (7, x7), (19, x19)]) h K) (kCode env 37 false inv k (cp c37 463) (act 53 [(1, x1), (3, x3), (6, x6), (7, x7), (19, x19)]) h K) := kq_cond
theorem r37_5  : kCode env 37 false inv k (cp c37 924) (act 53 [(1, x1), (3, x3), (6, x6), (7, x7), (19, x19)]) h K =
    K .normal (act 53 [(5, (.int .i64 3))]) h := kq_reg
theorem r37_6  : kCode env 37 false inv k (cp c37 926) (act 53 [(1, x1), (3, x3), (6, x6), (7, x7), (19, x19)]) h K =
    bnd (pFieldAddr Try.prog 48 x3 0) fun x24 =>
    bnd (pLoad Try.prog 3 x24 h) fun x25 =>
    bnd (pBin Try.prog .eql 3 (.tmp 25) (.const (.int .i64 6)) x25 (.int .i64 6)) fun x26 =>
    K .normal (act 53 [(1, x1), (3, x3), (6, x6), (7, x7), (23, x26)]) h := kq_reg
theorem b37_rrrrrllrr  : kCode env 37 false inv k (cp c37 927) (act 53 [(1, x1), (3, x3), (6, x6), (7, x7), (23, x23)]) h K = brV x23 (kCode env 37 false inv k (cp c37 1854) (act 53 [(1, x1), (3, x3), (6, x6), (7, x7), (23, x23)]) h K) (kCode env 37 false inv k (cp c37 1855) (act 53 [(1, x1), (3, x3), (6, x6), (7, x7), (23, x23)]) h K) := kq_cond
theorem r37_7  : kCode env 37 false inv k (cp c37 3708) (act 53 [(1, x1), (3, x3), (6, x6), (7, x7), (23, x23)]) h K =
    bnd (inv (.func 41) #[] #[x1, (.int .i64 3)] h) fun x29 =>
    bnd (inv (.func 40) #[] #[x6, x29.1] x29.2) fun x30 =>
    K .normal (act 53 [(5, x30.1)]) x30.2 := kq_reg
theorem r37_8  : kCode env 37 false inv k (cp c37 3710) (act 53 [(1, x1), (3, x3), (6, x6), (7, x7), (23, x23)]) h K =
    bnd (pFieldAddr Try.prog 48 x3 0) fun x32 =>
    bnd (pLoad Try.prog 3 x32 h) fun x33 =>
    bnd (pBin Try.prog .eql 3 (.tmp 33) (.const (.int .i64 7)) x33 (.int .i64 7)) fun x34 =>
    bnd (gd (some x34) true h (some (x7, h))) fun x36 =>
    bnd (pickV x34 x36.1 (.bool false)) fun x37 =>
    K .normal (act 53 [(1, x1), (3, x3), (6, x6), (31, x37)]) x36.2 := kq_reg
theorem b37_rrrrrrrllrr  : kCode env 37 false inv k (cp c37 3711) (act 53 [(1, x1), (3, x3), (6, x6), (31, x31)]) h K = brV x31 (kCode env 37 false inv k (cp c37 7422) (act 53 [(1, x1), (3, x3), (6, x6), (31, x31)]) h K) (kCode env 37 false inv k (cp c37 7423) (act 53 [(1, x1), (3, x3), (6, x6), (31, x31)]) h K) := kq_cond
theorem r37_9  : kCode env 37 false inv k (cp c37 14844) (act 53 [(1, x1), (3, x3), (6, x6), (31, x31)]) h K =
    K .normal (act 53 [(5, (.int .i64 3))]) h := kq_reg
theorem r37_10  : kCode env 37 false inv k (cp c37 14846) (act 53 [(1, x1), (3, x3), (6, x6), (31, x31)]) h K =
    bnd (pFieldAddr Try.prog 48 x3 0) fun x39 =>
    bnd (pLoad Try.prog 3 x39 h) fun x40 =>
    bnd (pBin Try.prog .eql 3 (.tmp 40) (.const (.int .i64 7)) x40 (.int .i64 7)) fun x41 =>
    K .normal (act 53 [(1, x1), (3, x3), (6, x6), (38, x41)]) h := kq_reg
theorem b37_rrrrrrrrrllrr  : kCode env 37 false inv k (cp c37 14847) (act 53 [(1, x1), (3, x3), (6, x6), (38, x38)]) h K = brV x38 (kCode env 37 false inv k (cp c37 29694) (act 53 [(1, x1), (3, x3), (6, x6), (38, x38)]) h K) (kCode env 37 false inv k (cp c37 29695) (act 53 [(1, x1), (3, x3), (6, x6), (38, x38)]) h K) := kq_cond
theorem r37_11  : kCode env 37 false inv k (cp c37 59388) (act 53 [(1, x1), (3, x3), (6, x6), (38, x38)]) h K =
    bnd (inv (.func 41) #[] #[x1, (.int .i64 1)] h) fun x43 =>
    bnd (inv (.func 40) #[] #[x43.1, (.bool false)] x43.2) fun x44 =>
    K .normal (act 53 [(5, x44.1)]) x44.2 := kq_reg
theorem r37_12  : kCode env 37 false inv k (cp c37 59390) (act 53 [(1, x1), (3, x3), (6, x6), (38, x38)]) h K =
    bnd (pFieldAddr Try.prog 48 x3 0) fun x46 =>
    bnd (pLoad Try.prog 3 x46 h) fun x47 =>
    bnd (pBin Try.prog .eql 3 (.tmp 47) (.const (.int .i64 8)) x47 (.int .i64 8)) fun x48 =>
    K .normal (act 53 [(1, x1), (6, x6), (45, x48)]) h := kq_reg
theorem b37_rrrrrrrrrrrllrr  : kCode env 37 false inv k (cp c37 59391) (act 53 [(1, x1), (6, x6), (45, x45)]) h K = brV x45 (kCode env 37 false inv k (cp c37 118782) (act 53 [(1, x1), (6, x6), (45, x45)]) h K) (kCode env 37 false inv k (cp c37 118783) (act 53 [(1, x1), (6, x6), (45, x45)]) h K) := kq_cond
theorem r37_13  : kCode env 37 false inv k (cp c37 237564) (act 53 [(1, x1), (6, x6), (45, x45)]) h K =
    bnd (inv (.func 41) #[] #[x1, (.int .i64 3)] h) fun x50 =>
    bnd (inv (.func 40) #[] #[x50.1, x6] x50.2) fun x52 =>
    K .normal (act 53 [(5, x52.1)]) x52.2 := kq_reg
theorem r37_14  : kCode env 37 false inv k (cp c37 30) (act 53 [(1, x1), (6, x6), (45, x45)]) h K =
    K .normal (act 53 [(5, (.int .i64 2))]) h := kq_reg
/-- shadowbook/pred.Zone$1 -/
noncomputable def F37 (inv : Inv) (k : Nat) (x0 x1 x2 : Value) (h : AH) : Option (Value × AH) :=
    bnd (pBox Try.prog 48 x0 h) fun x3 =>
    bnd (inv (.func 38) #[] #[x1, (.int .i64 1)] x3.2) fun x9 =>
    bnd (inv (.func 38) #[] #[x1, (.int .i64 3)] x9.2) fun x11 =>
    bnd (pFieldAddr Try.prog 48 x3.1 0) fun x13 =>
    bnd (pLoad Try.prog 3 x13 x11.2) fun x14 =>
    bnd (inv (.func 26) #[] #[x14] x11.2) fun x15 =>
    brV x15.1
    (bnd (pLoad Try.prog 48 x3.1 x15.2) fun x16 =>
    bnd (pLoad Try.prog 38 x2 x15.2) fun x17 =>
    bnd (inv (.func 39) #[] #[x16, x17] x15.2) fun x18 =>
    some (x18.1, x18.2))
    (bnd (pFieldAddr Try.prog 48 x3.1 0) fun x20 =>
    bnd (pLoad Try.prog 3 x20 x15.2) fun x21 =>
    bnd (pBin Try.prog .eql 3 (.tmp 21) (.const (.int .i64 1)) x21 (.int .i64 1)) fun x22 =>
    brV x22
    (some ((.int .i64 3), x15.2))
    (bnd (pFieldAddr Try.prog 48 x3.1 0) fun x24 =>
    bnd (pLoad Try.prog 3 x24 x15.2) fun x25 =>
    bnd (pBin Try.prog .eql 3 (.tmp 25) (.const (.int .i64 6)) x25 (.int .i64 6)) fun x26 =>
    brV x26
    (bnd (inv (.func 41) #[] #[x1, (.int .i64 3)] x15.2) fun x29 =>
    bnd (inv (.func 40) #[] #[x9.1, x29.1] x29.2) fun x30 =>
    some (x30.1, x30.2))
    (bnd (pFieldAddr Try.prog 48 x3.1 0) fun x32 =>
    bnd (pLoad Try.prog 3 x32 x15.2) fun x33 =>
    bnd (pBin Try.prog .eql 3 (.tmp 33) (.const (.int .i64 7)) x33 (.int .i64 7)) fun x34 =>
    bnd (gd (some x34) true x15.2 (some (x11.1, x15.2))) fun x36 =>
    bnd (pickV x34 x36.1 (.bool false)) fun x37 =>
    brV x37
    (some ((.int .i64 3), x36.2))
    (bnd (pFieldAddr Try.prog 48 x3.1 0) fun x39 =>
    bnd (pLoad Try.prog 3 x39 x36.2) fun x40 =>
    bnd (pBin Try.prog .eql 3 (.tmp 40) (.const (.int .i64 7)) x40 (.int .i64 7)) fun x41 =>
    brV x41
    (bnd (inv (.func 41) #[] #[x1, (.int .i64 1)] x36.2) fun x43 =>
    bnd (inv (.func 40) #[] #[x43.1, (.bool false)] x43.2) fun x44 =>
    some (x44.1, x44.2))
    (bnd (pFieldAddr Try.prog 48 x3.1 0) fun x46 =>
    bnd (pLoad Try.prog 3 x46 x36.2) fun x47 =>
    bnd (pBin Try.prog .eql 3 (.tmp 47) (.const (.int .i64 8)) x47 (.int .i64 8)) fun x48 =>
    brV x48
    (bnd (inv (.func 41) #[] #[x1, (.int .i64 3)] x36.2) fun x50 =>
    bnd (inv (.func 40) #[] #[x50.1, x9.1] x50.2) fun x52 =>
    some (x52.1, x52.2))
    (some ((.int .i64 2), x36.2)))))))
theorem F37_eq : eFun env k inv 37 #[x0, x1, x2] h = F37 inv k x0 x1 x2 h := by
      refine (kq_fun (a := act 53 [(0, x0), (1, x1), (2, x2)]) (c := cp c37 1)).trans ?_
      unfold F37
      simp only [kq_seq c37 1, r37_0, kq_seq c37 3, r37_1, kq_seq c37 7, kq_block c37 14 0, kq_seq c37 28, r37_2, b37_rllrr, kq_seq c37 114, r37_3, kq_ret c37 229, res37_0, kq_seq c37 115, r37_4, b37_rrrllrr, kq_seq c37 462, r37_5, kq_ret c37 925, kq_seq c37 463, r37_6, b37_rrrrrllrr, kq_seq c37 1854, r37_7, kq_ret c37 3709, kq_seq c37 1855, r37_8, b37_rrrrrrrllrr, kq_seq c37 7422, r37_9, kq_ret c37 14845, kq_seq c37 7423, r37_10, b37_rrrrrrrrrllrr, kq_seq c37 29694, r37_11, kq_ret c37 59389, kq_seq c37 29695, r37_12, b37_rrrrrrrrrrrllrr, kq_seq c37 118782, r37_13, kq_ret c37 237565, kq_skip c37 118783, kq_seq c37 15, r37_14, kq_ret c37 31, reduceIte, reduceCtorEq, XE.exit.injEq, Nat.reduceEqDiff, Nat.reduceMul, Nat.reduceAdd] <;> kernel_rfl
theorem F37_call : eInv env (k + 1) (.func 37) #[] #[x0, x1, x2] h = F37 (eInv env k) k x0 x1 x2 h := kq_inv F37_eq
noncomputable def c38 : Code := codeOf Try.prog 38
theorem r38_0  : kCode env 38 false inv k (cp c38 2) (act 9 [(0, x0), (1, x1)]) h K =
    K .normal (act 9 [(0, x0), (1, x1)]) h := kq_reg
theorem r38_1  : kCode env 38 false inv k (cp c38 6) (act 9 [(0, x0), (1, x1)]) h K =
    bnd (inv (.func 54) #[] #[x0, x1] h) fun x7 =>
    bnd (pBin Try.prog .geq 3 (.tmp 7) (.const (.int .i64 0)) x7.1 (.int .i64 0)) fun x8 =>
    K .normal (act 9 [(4, x8)]) x7.2 := kq_reg
theorem res38_0 : resOfFn env.P 38 .ret (act 9 [(4, x4)]) h = some (x4, h) := kq_res
/-- slices.Contains[[]int,int] -/
noncomputable def F38 (inv : Inv) (k : Nat) (x0 x1 : Value) (h : AH) : Option (Value × AH) :=
    bnd (inv (.func 54) #[] #[x0, x1] h) fun x7 =>
    bnd (pBin Try.prog .geq 3 (.tmp 7) (.const (.int .i64 0)) x7.1 (.int .i64 0)) fun x8 =>
    some (x8, x7.2)
theorem F38_eq : eFun env k inv 38 #[x0, x1] h = F38 inv k x0 x1 h := by
      refine (kq_fun (a := act 9 [(0, x0), (1, x1)]) (c := cp c38 1)).trans ?_
      unfold F38
      simp only [kq_seq c38 1, r38_0, kq_seq c38 3, r38_1, kq_ret c38 7, res38_0, reduceIte, reduceCtorEq, XE.exit.injEq, Nat.reduceEqDiff, Nat.reduceMul, Nat.reduceAdd] <;> kernel_rfl
theorem F38_call : eInv env (k + 1) (.func 38) #[] #[x0, x1] h = F38 (eInv env k) k x0 x1 h := kq_inv F38_eq
noncomputable def c39 : Code := codeOf Try.prog 39
theorem r39_0  : kCode env 39 false inv k (cp c39 2) (act 98 [(0, x0), (1, x1)]) h K =
    bnd (pBox Try.prog 48 x0 h) fun x2 =>
    K .normal (act 98 [(1, x1), (2, x2.1)]) x2.2 := kq_reg
noncomputable abbrev G39_1 {β : Type} (inv : Inv) (x1 x2 : Value) (h : AH) (K : Value → AH → Option β) : Option β :=
    bnd (pFieldAddr Try.prog 48 x2 1) fun x10 =>
    bnd (pLoad Try.prog 3 x10 h) fun x11 =>
    bnd (pBin Try.prog .lss 3 (.tmp 11) (.const (.int .i64 0)) x11 (.int .i64 0)) fun x12 =>
    bnd (gd (some x12) false h (lt (pFieldAddr Try.prog 48 x2 1) h)) fun x14 =>
    bnd (gd (some x12) false x14.2 (lt (pLoad Try.prog 3 x14.1 x14.2) x14.2)) fun x15 =>
    bnd (gd (some x12) false x15.2 (some (x1, x15.2))) fun x16 =>
    bnd (gd (some x12) false x16.2 (lt (pLen Try.prog #[38] x16.1 x16.2) x16.2)) fun x17 =>
    bnd (gd (some x12) false x17.2 (lt (pBin Try.prog .geq 3 (.tmp 15) (.tmp 17) x15.1 x17.1) x17.2)) fun x18 =>
    bnd (pickV x12 (.bool true) x18.1) fun x19 =>
    K (x19) x18.2
theorem r39_1  : kCode env 39 false inv k (cp c39 12) (act 98 [(1, x1), (2, x2)]) h K =
    G39_1 inv x1 x2 h fun y19 h => K .normal (act 98 [(1, x1), (2, x2), (19, y19)]) h := kq_reg
theorem b39_rlr  : kCode env 39 false inv k (cp c39 13) (act 98 [(1, x1), (2, x2), (19, x19)]) h K = brV x19 (kCode env 39 false inv k (cp c39 26) (act 98 [(1, x1), (2, x2), (19, x19)]) h K) (kCode env 39 false inv k (cp c39 27) (act 98 [(1, x1), (2, x2), (19, x19)]) h K) := kq_cond
theorem r39_2  : kCode env 39 false inv k (cp c39 52) (act 98 [(1, x1), (2, x2), (19, x19)]) h K =
    K .normal (act 98 [(4, (.int .i64 2))]) h := kq_reg
theorem res39_0 : resOfFn env.P 39 .ret (act 98 [(4, x4)]) h = some (x4, h) := kq_res
theorem r39_3  : kCode env 39 false inv k (cp c39 14) (act 98 [(1, x1), (2, x2), (19, x19)]) h K =
    bnd (pFieldAddr Try.prog 48 x2 1) fun x21 =>
    bnd (pLoad Try.prog 3 x21 h) fun x22 =>
    bnd (pIndexAddr Try.prog 38 x1 x22) fun x23 =>
    bnd (pLoad Try.prog 58 x23 h) fun x24 =>
    bnd (pAlloc Try.prog 58 h) fun x5 =>
    bnd (kSt (pStore Try.prog 58 x5.1 x24 x5.2)) fun u =>
    K .normal (act 98 [(2, x2), (5, x5.1)]) u.2 := kq_reg
noncomputable abbrev G39_4 {β : Type} (inv : Inv) (x2 x5 : Value) (h : AH) (K : Value → Value → AH → Option β) : Option β :=
    bnd (pFieldAddr Try.prog 58 x5 2) fun x25 =>
    bnd (pLoad Try.prog 42 x25 h) fun x26 =>
    bnd (pFieldAddr Try.prog 48 x2 2) fun x27 =>
    bnd (pLoad Try.prog 42 x27 h) fun x28 =>
    bnd (inv (.func 46) #[] #[x26, x28] h) fun x29 =>
    bnd (pFieldAddr Try.prog 58 x5 3) fun x30 =>
    bnd (pLoad Try.prog 42 x30 x29.2) fun x31 =>
    bnd (pFieldAddr Try.prog 48 x2 2) fun x32 =>
    bnd (pLoad Try.prog 42 x32 x29.2) fun x33 =>
    bnd (inv (.func 46) #[] #[x31, x33] x29.2) fun x34 =>
    chkK ((!true || !true || (sameO (pLoad Try.prog 42 x30 h) x31 && sameO (pLoad Try.prog 42 x30 x29.2) x31)) && ((!true || !true || (sameO (pLoad Try.prog 42 x32 h) x33 && sameO (pLoad Try.prog 42 x32 x29.2) x33)) && true)) <|
    K (x29.1) (x34.1) x34.2
theorem r39_4  : kCode env 39 false inv k (cp c39 30) (act 98 [(2, x2), (5, x5)]) h K =
    G39_4 inv x2 x5 h fun y6 y7 h => K .normal (act 98 [(2, x2), (5, x5), (6, y6), (7, y7)]) h := kq_draw
noncomputable abbrev G39_5 {β : Type} (inv : Inv) (x2 x5 x6 x7 : Value) (h : AH) (K : Value → Value → AH → Option β) : Option β :=
    bnd (pFieldAddr Try.prog 58 x5 2) fun x35 =>
    bnd (pFieldAddr Try.prog 42 x35 0) fun x36 =>
    bnd (pLoad Try.prog 3 x36 h) fun x37 =>
    bnd (pBin Try.prog .eql 3 (.tmp 37) (.const (.int .i64 0)) x37 (.int .i64 0)) fun x38 =>
    bnd (pFieldAddr Try.prog 58 x5 1) fun x39 =>
    bnd (pLoad Try.prog 3 x39 h) fun x40 =>
    bnd (pBin Try.prog .eql 3 (.tmp 40) (.const (.int .i64 0)) x40 (.int .i64 0)) fun x41 =>
    K (x38) (x41) h
theorem r39_5  : kCode env 39 false inv k (cp c39 62) (act 98 [(2, x2), (5, x5), (6, x6), (7, x7)]) h K =
    G39_5 inv x2 x5 x6 x7 h fun y8 y9 h => K .normal (act 98 [(2, x2), (5, x5), (6, x6), (7, x7), (8, y8), (9, y9)]) h := kq_draw
theorem r39_6  : kCode env 39 false inv k (cp c39 252) (act 98 [(2, x2), (5, x5), (6, x6), (7, x7), (8, x8), (9, x9)]) h K =
    bnd (pFieldAddr Try.prog 48 x2 0) fun x42 =>
    bnd (pLoad Try.prog 3 x42 h) fun x43 =>
    K .normal (act 98 [(5, x5), (6, x6), (7, x7), (8, x8), (9, x9), (43, x43)]) h := kq_reg
theorem r39_7  : kCode env 39 false inv k (cp c39 1012) (act 98 [(5, x5), (6, x6), (7, x7), (8, x8), (9, x9), (43, x43)]) h K =
    bnd (pBin Try.prog .eql 3 (.tmp 43) (.const (.int .i64 2)) x43 (.int .i64 2)) fun x45 =>
    K .normal (act 98 [(5, x5), (6, x6), (7, x7), (8, x8), (9, x9), (43, x43), (44, x45)]) h := kq_reg
theorem b39_rlrlrrrrr  : kCode env 39 false inv k (cp c39 1013) (act 98 [(5, x5), (6, x6), (7, x7), (8, x8), (9, x9), (43, x43), (44, x44)]) h K = brV x44 (kCode env 39 false inv k (cp c39 2026) (act 98 [(5, x5), (6, x6), (7, x7), (8, x8), (9, x9), (43, x43), (44, x44)]) h K) (kCode env 39 false inv k (cp c39 2027) (act 98 [(5, x5), (6, x6), (7, x7), (8, x8), (9, x9), (43, x43), (44, x44)]) h K) := kq_cond
noncomputable abbrev G39_8 {β : Type} (inv : Inv) (x6 x7 x8 x9 : Value) (h : AH) (K : Value → AH → Option β) : Option β :=
    bnd (gd (some x8) false h (some (x6, h))) fun x48 =>
    bnd (gd (some x8) false x48.2 (lt (pBin Try.prog .gtr 3 (.tmp 48) (.const (.int .i64 0)) x48.1 (.int .i64 0)) x48.2)) fun x49 =>
    bnd (pickV x8 (.bool true) x49.1) fun x50 =>
    bnd (gd (some x50) false x49.2 (some (x7, x49.2))) fun x52 =>
    bnd (gd (some x50) false x52.2 (lt (pBin Try.prog .lss 3 (.tmp 52) (.const (.int .i64 0)) x52.1 (.int .i64 0)) x52.2)) fun x53 =>
    bnd (pickV x50 (.bool true) x53.1) fun x54 =>
    bnd (gd (some x9) true x53.2 (some (x6, x53.2))) fun x57 =>
    bnd (gd (some x9) true x57.2 (lt (pBin Try.prog .eql 3 (.tmp 57) (.const (.int .i64 0)) x57.1 (.int .i64 0)) x57.2)) fun x58 =>
    bnd (pickV x9 x58.1 (.bool false)) fun x59 =>
    bnd (gd (some x59) true x58.2 (some (x7, x58.2))) fun x61 =>
    bnd (gd (some x59) true x61.2 (lt (pBin Try.prog .eql 3 (.tmp 61) (.const (.int .i64 0)) x61.1 (.int .i64 0)) x61.2)) fun x62 =>
    bnd (pickV x59 x62.1 (.bool false)) fun x63 =>
    bnd (inv (.func 40) #[] #[x54, x63] x62.2) fun x64 =>
    K (x64.1) x64.2
theorem r39_8  : kCode env 39 false inv k (cp c39 4052) (act 98 [(5, x5), (6, x6), (7, x7), (8, x8), (9, x9), (43, x43), (44, x44)]) h K =
    G39_8 inv x6 x7 x8 x9 h fun y4 h => K .normal (act 98 [(4, y4)]) h := kq_reg
theorem r39_9  : kCode env 39 false inv k (cp c39 4054) (act 98 [(5, x5), (6, x6), (7, x7), (8, x8), (9, x9), (43, x43), (44, x44)]) h K =
    bnd (pBin Try.prog .eql 3 (.tmp 43) (.const (.int .i64 3)) x43 (.int .i64 3)) fun x66 =>
    K .normal (act 98 [(5, x5), (6, x6), (7, x7), (8, x8), (9, x9), (43, x43), (65, x66)]) h := kq_reg
theorem b39_rrrlrlrrrrr  : kCode env 39 false inv k (cp c39 4055) (act 98 [(5, x5), (6, x6), (7, x7), (8, x8), (9, x9), (43, x43), (65, x65)]) h K = brV x65 (kCode env 39 false inv k (cp c39 8110) (act 98 [(5, x5), (6, x6), (7, x7), (8, x8), (9, x9), (43, x43), (65, x65)]) h K) (kCode env 39 false inv k (cp c39 8111) (act 98 [(5, x5), (6, x6), (7, x7), (8, x8), (9, x9), (43, x43), (65, x65)]) h K) := kq_cond
noncomputable abbrev G39_10 {β : Type} (inv : Inv) (x6 x7 x8 x9 : Value) (h : AH) (K : Value → AH → Option β) : Option β :=
    bnd (gd (some x8) false h (some (x6, h))) fun x69 =>
    bnd (gd (some x8) false x69.2 (lt (pBin Try.prog .geq 3 (.tmp 69) (.const (.int .i64 0)) x69.1 (.int .i64 0)) x69.2)) fun x70 =>
    bnd (pickV x8 (.bool true) x70.1) fun x71 =>
    bnd (gd (some x9) true x70.2 (some (x7, x70.2))) fun x74 =>
    bnd (gd (some x9) true x74.2 (lt (pBin Try.prog .lss 3 (.tmp 74) (.const (.int .i64 0)) x74.1 (.int .i64 0)) x74.2)) fun x75 =>
    bnd (pickV x9 x75.1 (.bool false)) fun x76 =>
    bnd (inv (.func 40) #[] #[x71, x76] x75.2) fun x77 =>
    K (x77.1) x77.2
theorem r39_10  : kCode env 39 false inv k (cp c39 16220) (act 98 [(5, x5), (6, x6), (7, x7), (8, x8), (9, x9), (43, x43), (65, x65)]) h K =
    G39_10 inv x6 x7 x8 x9 h fun y4 h => K .normal (act 98 [(4, y4)]) h := kq_reg
theorem r39_11  : kCode env 39 false inv k (cp c39 16222) (act 98 [(5, x5), (6, x6), (7, x7), (8, x8), (9, x9), (43, x43), (65, x65)]) h K =
    bnd (pBin Try.prog .eql 3 (.tmp 43) (.const (.int .i64 4)) x43 (.int .i64 4)) fun x79 =>
    K .normal (act 98 [(5, x5), (6, x6), (7, x7), (8, x8), (9, x9), (78, x79)]) h := kq_reg
theorem b39_rrrrrlrlrrrrr  : kCode env 39 false inv k (cp c39 16223) (act 98 [(5, x5), (6, x6), (7, x7), (8, x8), (9, x9), (78, x78)]) h K = brV x78 (kCode env 39 false inv k (cp c39 32446) (act 98 [(5, x5), (6, x6), (7, x7), (8, x8), (9, x9), (78, x78)]) h K) (kCode env 39 false inv k (cp c39 32447) (act 98 [(5, x5), (6, x6), (7, x7), (8, x8), (9, x9), (78, x78)]) h K) := kq_cond
noncomputable abbrev G39_12 {β : Type} (inv : Inv) (x6 x7 x8 x9 : Value) (h : AH) (K : Value → AH → Option β) : Option β :=
    bnd (gd (some x8) false h (some (x7, h))) fun x82 =>
    bnd (gd (some x8) false x82.2 (lt (pBin Try.prog .leq 3 (.tmp 82) (.const (.int .i64 0)) x82.1 (.int .i64 0)) x82.2)) fun x83 =>
    bnd (pickV x8 (.bool true) x83.1) fun x84 =>
    bnd (gd (some x9) true x83.2 (some (x6, x83.2))) fun x87 =>
    bnd (gd (some x9) true x87.2 (lt (pBin Try.prog .gtr 3 (.tmp 87) (.const (.int .i64 0)) x87.1 (.int .i64 0)) x87.2)) fun x88 =>
    bnd (pickV x9 x88.1 (.bool false)) fun x89 =>
    bnd (inv (.func 40) #[] #[x84, x89] x88.2) fun x90 =>
    K (x90.1) x90.2
theorem r39_12  : kCode env 39 false inv k (cp c39 64892) (act 98 [(5, x5), (6, x6), (7, x7), (8, x8), (9, x9), (78, x78)]) h K =
    G39_12 inv x6 x7 x8 x9 h fun y4 h => K .normal (act 98 [(4, y4)]) h := kq_reg
theorem r39_13  : kCode env 39 false inv k (cp c39 254) (act 98 [(5, x5), (6, x6), (7, x7), (8, x8), (9, x9), (78, x78)]) h K =
    bnd (pFieldAddr Try.prog 58 x5 1) fun x92 =>
    bnd (pLoad Try.prog 3 x92 h) fun x93 =>
    bnd (pFieldAddr Try.prog 58 x5 0) fun x94 =>
    bnd (pLoad Try.prog 3 x94 h) fun x95 =>
    bnd (pBin Try.prog .eql 3 (.tmp 93) (.tmp 95) x93 x95) fun x96 =>
    bnd (inv (.func 40) #[] #[x9, x96] h) fun x97 =>
    K .normal (act 98 [(4, x97.1)]) x97.2 := kq_reg
/-- shadowbook/pred.zone -/
noncomputable def F39 (inv : Inv) (k : Nat) (x0 x1 : Value) (h : AH) : Option (Value × AH) :=
    bnd (pBox Try.prog 48 x0 h) fun x2 =>
    G39_1 inv x1 x2.1 x2.2 fun y19 h =>
    brV y19
    (some ((.int .i64 2), h))
    (bnd (pFieldAddr Try.prog 48 x2.1 1) fun x21 =>
    bnd (pLoad Try.prog 3 x21 h) fun x22 =>
    bnd (pIndexAddr Try.prog 38 x1 x22) fun x23 =>
    bnd (pLoad Try.prog 58 x23 h) fun x24 =>
    bnd (pAlloc Try.prog 58 h) fun x5 =>
    bnd (kSt (pStore Try.prog 58 x5.1 x24 x5.2)) fun u =>
    G39_4 inv x2.1 x5.1 u.2 fun y6 y7 h_1 =>
    G39_5 inv x2.1 x5.1 y6 y7 h_1 fun y8 y9 h_2 =>
    bnd (pFieldAddr Try.prog 48 x2.1 0) fun x42 =>
    bnd (pLoad Try.prog 3 x42 h_2) fun x43 =>
    bnd (pBin Try.prog .eql 3 (.tmp 43) (.const (.int .i64 2)) x43 (.int .i64 2)) fun x45 =>
    brV x45
    (G39_8 inv y6 y7 y8 y9 h_2 fun y4 h_3 =>
    some (y4, h_3))
    (bnd (pBin Try.prog .eql 3 (.tmp 43) (.const (.int .i64 3)) x43 (.int .i64 3)) fun x66 =>
    brV x66
    (G39_10 inv y6 y7 y8 y9 h_2 fun y4_4 h_5 =>
    some (y4_4, h_5))
    (bnd (pBin Try.prog .eql 3 (.tmp 43) (.const (.int .i64 4)) x43 (.int .i64 4)) fun x79 =>
    brV x79
    (G39_12 inv y6 y7 y8 y9 h_2 fun y4_6 h_7 =>
    some (y4_6, h_7))
    (bnd (pFieldAddr Try.prog 58 x5.1 1) fun x92 =>
    bnd (pLoad Try.prog 3 x92 h_2) fun x93 =>
    bnd (pFieldAddr Try.prog 58 x5.1 0) fun x94 =>
    bnd (pLoad Try.prog 3 x94 h_2) fun x95 =>
    bnd (pBin Try.prog .eql 3 (.tmp 93) (.tmp 95) x93 x95) fun x96 =>
    bnd (inv (.func 40) #[] #[y9, x96] h_2) fun x97 =>
    some (x97.1, x97.2)))))
theorem F39_eq : eFun env k inv 39 #[x0, x1] h = F39 inv k x0 x1 h := by
      refine (kq_fun (a := act 98 [(0, x0), (1, x1)]) (c := cp c39 1)).trans ?_
      unfold F39
      simp only [kq_seq c39 1, r39_0, kq_seq c39 3, kq_seq c39 6, r39_1, b39_rlr, kq_seq c39 26, r39_2, kq_ret c39 53, res39_0, kq_skip c39 27, kq_seq c39 7, r39_3, kq_seq c39 15, r39_4, kq_seq c39 31, r39_5, kq_seq c39 63, kq_seq c39 126, r39_6, kq_block c39 253 0, kq_seq c39 506, r39_7, b39_rlrlrrrrr, kq_seq c39 2026, r39_8, kq_ret c39 4053, kq_seq c39 2027, r39_9, b39_rrrlrlrrrrr, kq_seq c39 8110, r39_10, kq_ret c39 16221, kq_seq c39 8111, r39_11, b39_rrrrrlrlrrrrr, kq_seq c39 32446, r39_12, kq_ret c39 64893, kq_skip c39 32447, kq_seq c39 127, r39_13, kq_ret c39 255, reduceIte, reduceCtorEq, XE.exit.injEq, Nat.reduceEqDiff, Nat.reduceMul, Nat.reduceAdd] <;> kernel_rfl
theorem F39_call : eInv env (k + 1) (.func 39) #[] #[x0, x1] h = F39 (eInv env k) k x0 x1 h := kq_inv F39_eq
noncomputable def c40 : Code := codeOf Try.prog 40
theorem r40_0  : kCode env 40 false inv k (cp c40 2) (act 9 [(0, x0), (1, x1)]) h K =
    K .normal (act 9 [(0, x0), (1, x1)]) h := kq_reg
theorem r40_1  : kCode env 40 false inv k (cp c40 24) (act 9 [(0, x0), (1, x1)]) h K =
    K .normal (act 9 [(1, x1), (5, x0)]) h := kq_reg
theorem b40_rllr  : kCode env 40 false inv k (cp c40 25) (act 9 [(1, x1), (5, x5)]) h K = brV x5 (kCode env 40 false inv k (cp c40 50) (act 9 [(1, x1), (5, x5)]) h K) (kCode env 40 false inv k (cp c40 51) (act 9 [(1, x1), (5, x5)]) h K) := kq_cond
theorem r40_2  : kCode env 40 false inv k (cp c40 100) (act 9 [(1, x1), (5, x5)]) h K =
    K .normal (act 9 [(4, (.int .i64 1))]) h := kq_reg
theorem res40_0 : resOfFn env.P 40 .ret (act 9 [(4, x4)]) h = some (x4, h) := kq_res
theorem r40_3  : kCode env 40 false inv k (cp c40 102) (act 9 [(1, x1), (5, x5)]) h K =
    K .normal (act 9 [(7, x1)]) h := kq_reg
theorem b40_rrrllr  : kCode env 40 false inv k (cp c40 103) (act 9 [(7, x7)]) h K = brV x7 (kCode env 40 false inv k (cp c40 206) (act 9 [(7, x7)]) h K) (kCode env 40 false inv k (cp c40 207) (act 9 [(7, x7)]) h K) := kq_cond
theorem r40_4  : kCode env 40 false inv k (cp c40 412) (act 9 [(7, x7)]) h K =
    K .normal (act 9 [(4, (.int .i64 3))]) h := kq_reg
theorem r40_5  : kCode env 40 false inv k (cp c40 14) (act 9 [(7, x7)]) h K =
    K .normal (act 9 [(4, (.int .i64 2))]) h := kq_reg
/-- shadowbook/pred.told -/
noncomputable def F40 (inv : Inv) (k : Nat) (x0 x1 : Value) (h : AH) : Option (Value × AH) :=
    brV x0
    (some ((.int .i64 1), h))
    (brV x1
    (some ((.int .i64 3), h))
    (some ((.int .i64 2), h)))
theorem F40_eq : eFun env k inv 40 #[x0, x1] h = F40 inv k x0 x1 h := by
      refine (kq_fun (a := act 9 [(0, x0), (1, x1)]) (c := cp c40 1)).trans ?_
      unfold F40
      simp only [kq_seq c40 1, r40_0, kq_seq c40 3, kq_block c40 6 0, kq_seq c40 12, r40_1, b40_rllr, kq_seq c40 50, r40_2, kq_ret c40 101, res40_0, kq_seq c40 51, r40_3, b40_rrrllr, kq_seq c40 206, r40_4, kq_ret c40 413, kq_skip c40 207, kq_seq c40 7, r40_5, kq_ret c40 15, reduceIte, reduceCtorEq, XE.exit.injEq, Nat.reduceEqDiff, Nat.reduceMul, Nat.reduceAdd] <;> kernel_rfl
theorem F40_call : eInv env (k + 1) (.func 40) #[] #[x0, x1] h = F40 (eInv env k) k x0 x1 h := kq_inv F40_eq
noncomputable def c41 : Code := codeOf Try.prog 41
theorem r41_0  : kCode env 41 false inv k (cp c41 2) (act 9 [(0, x0), (1, x1)]) h K =
    bnd (pBox Try.prog 3 x1 h) fun x3 =>
    K .normal (act 9 [(0, x0), (3, x3.1)]) x3.2 := kq_reg
theorem r41_1  : kCode env 41 false inv k (cp c41 6) (act 9 [(0, x0), (3, x3)]) h K =
    bnd (pMakeFunc (.func 55) #[] #[x3]) fun x6 =>
    bnd (inv (.func 32) #[] #[x0, x6] h) fun x7 =>
    bnd (pUn Try.prog .not x7.1) fun x8 =>
    K .normal (act 9 [(4, x8)]) x7.2 := kq_reg
theorem res41_0 : resOfFn env.P 41 .ret (act 9 [(4, x4)]) h = some (x4, h) := kq_res
/-- shadowbook/pred.every -/
noncomputable def F41 (inv : Inv) (k : Nat) (x0 x1 : Value) (h : AH) : Option (Value × AH) :=
    bnd (pBox Try.prog 3 x1 h) fun x3 =>
    bnd (pMakeFunc (.func 55) #[] #[x3.1]) fun x6 =>
    bnd (inv (.func 32) #[] #[x0, x6] x3.2) fun x7 =>
    bnd (pUn Try.prog .not x7.1) fun x8 =>
    some (x8, x7.2)
theorem F41_eq : eFun env k inv 41 #[x0, x1] h = F41 inv k x0 x1 h := by
      refine (kq_fun (a := act 9 [(0, x0), (1, x1)]) (c := cp c41 1)).trans ?_
      unfold F41
      simp only [kq_seq c41 1, r41_0, kq_seq c41 3, r41_1, kq_ret c41 7, res41_0, reduceIte, reduceCtorEq, XE.exit.injEq, Nat.reduceEqDiff, Nat.reduceMul, Nat.reduceAdd] <;> kernel_rfl
theorem F41_call : eInv env (k + 1) (.func 41) #[] #[x0, x1] h = F41 (eInv env k) k x0 x1 h := kq_inv F41_eq
noncomputable def c42 : Code := codeOf Try.prog 42
theorem r42_0  : kCode env 42 false inv k (cp c42 2) (act 40 [(0, x0), (1, x1)]) h K =
    bnd (pBox Try.prog 42 x0 h) fun x2 =>
    bnd (pBox Try.prog 42 x1 x2.2) fun x3 =>
    K .normal (act 40 [(2, x2.1), (3, x3.1)]) x3.2 := kq_reg
theorem r42_1  : kCode env 42 false inv k (cp c42 24) (act 40 [(2, x2), (3, x3)]) h K =
    bnd (pFieldAddr Try.prog 42 x2 0) fun x6 =>
    bnd (pLoad Try.prog 3 x6 h) fun x7 =>
    bnd (pFieldAddr Try.prog 42 x3 0) fun x8 =>
    bnd (pLoad Try.prog 3 x8 h) fun x9 =>
    bnd (pBin Try.prog .neq 3 (.tmp 7) (.tmp 9) x7 x9) fun x10 =>
    K .normal (act 40 [(2, x2), (3, x3), (5, x10)]) h := kq_reg
theorem b42_rllr  : kCode env 42 false inv k (cp c42 25) (act 40 [(2, x2), (3, x3), (5, x5)]) h K = brV x5 (kCode env 42 false inv k (cp c42 50) (act 40 [(2, x2), (3, x3), (5, x5)]) h K) (kCode env 42 false inv k (cp c42 51) (act 40 [(2, x2), (3, x3), (5, x5)]) h K) := kq_cond
theorem r42_2  : kCode env 42 false inv k (cp c42 100) (act 40 [(2, x2), (3, x3), (5, x5)]) h K =
    bnd (pFieldAddr Try.prog 42 x2 0) fun x11 =>
    bnd (pLoad Try.prog 3 x11 h) fun x12 =>
    bnd (pFieldAddr Try.prog 42 x3 0) fun x13 =>
    bnd (pLoad Try.prog 3 x13 h) fun x14 =>
    bnd (pBin Try.prog .lss 3 (.tmp 12) (.tmp 14) x12 x14) fun x15 =>
    bnd (inv (.func 56) #[] #[x15, (.bool true)] h) fun x16 =>
    K .normal (act 40 [(4, x16.1)]) x16.2 := kq_reg
theorem res42_0 : resOfFn env.P 42 .ret (act 40 [(4, x4)]) h = some (x4, h) := kq_res
theorem r42_3  : kCode env 42 false inv k (cp c42 102) (act 40 [(2, x2), (3, x3), (5, x5)]) h K =
    bnd (pFieldAddr Try.prog 42 x2 1) fun x18 =>
    bnd (pLoad Try.prog 2 x18 h) fun x19 =>
    bnd (pFieldAddr Try.prog 42 x3 1) fun x20 =>
    bnd (pLoad Try.prog 2 x20 h) fun x21 =>
    bnd (pBin Try.prog .neq 2 (.tmp 19) (.tmp 21) x19 x21) fun x22 =>
    K .normal (act 40 [(2, x2), (3, x3), (17, x22)]) h := kq_reg
theorem b42_rrrllr  : kCode env 42 false inv k (cp c42 103) (act 40 [(2, x2), (3, x3), (17, x17)]) h K = brV x17 (kCode env 42 false inv k (cp c42 206) (act 40 [(2, x2), (3, x3), (17, x17)]) h K) (kCode env 42 false inv k (cp c42 207) (act 40 [(2, x2), (3, x3), (17, x17)]) h K) := kq_cond
theorem r42_4  : kCode env 42 false inv k (cp c42 412) (act 40 [(2, x2), (3, x3), (17, x17)]) h K =
    bnd (pFieldAddr Try.prog 42 x2 1) fun x23 =>
    bnd (pLoad Try.prog 2 x23 h) fun x24 =>
    bnd (pFieldAddr Try.prog 42 x3 1) fun x25 =>
    bnd (pLoad Try.prog 2 x25 h) fun x26 =>
    bnd (pBin Try.prog .lss 2 (.tmp 24) (.tmp 26) x24 x26) fun x27 =>
    bnd (inv (.func 56) #[] #[x27, (.bool true)] h) fun x28 =>
    K .normal (act 40 [(4, x28.1)]) x28.2 := kq_reg
noncomputable abbrev G42_5 {β : Type} (inv : Inv) (x2 x3 : Value) (h : AH) (K : Value → AH → Option β) : Option β :=
    bnd (pFieldAddr Try.prog 42 x2 2) fun x29 =>
    bnd (pLoad Try.prog 9 x29 h) fun x30 =>
    bnd (pFieldAddr Try.prog 42 x3 2) fun x31 =>
    bnd (pLoad Try.prog 9 x31 h) fun x32 =>
    bnd (pBin Try.prog .lss 9 (.tmp 30) (.tmp 32) x30 x32) fun x33 =>
    bnd (pFieldAddr Try.prog 42 x2 2) fun x34 =>
    bnd (pLoad Try.prog 9 x34 h) fun x35 =>
    bnd (pFieldAddr Try.prog 42 x3 2) fun x36 =>
    bnd (pLoad Try.prog 9 x36 h) fun x37 =>
    bnd (pBin Try.prog .gtr 9 (.tmp 35) (.tmp 37) x35 x37) fun x38 =>
    bnd (inv (.func 56) #[] #[x33, x38] h) fun x39 =>
    K (x39.1) x39.2
theorem r42_5  : kCode env 42 false inv k (cp c42 14) (act 40 [(2, x2), (3, x3), (17, x17)]) h K =
    G42_5 inv x2 x3 h fun y4 h => K .normal (act 40 [(4, y4)]) h := kq_reg
/-- shadowbook/shadowbookref16.Compare -/
noncomputable def F42 (inv : Inv) (k : Nat) (x0 x1 : Value) (h : AH) : Option (Value × AH) :=
    bnd (pBox Try.prog 42 x0 h) fun x2 =>
    bnd (pBox Try.prog 42 x1 x2.2) fun x3 =>
    bnd (pFieldAddr Try.prog 42 x2.1 0) fun x6 =>
    bnd (pLoad Try.prog 3 x6 x3.2) fun x7 =>
    bnd (pFieldAddr Try.prog 42 x3.1 0) fun x8 =>
    bnd (pLoad Try.prog 3 x8 x3.2) fun x9 =>
    bnd (pBin Try.prog .neq 3 (.tmp 7) (.tmp 9) x7 x9) fun x10 =>
    brV x10
    (bnd (pFieldAddr Try.prog 42 x2.1 0) fun x11 =>
    bnd (pLoad Try.prog 3 x11 x3.2) fun x12 =>
    bnd (pFieldAddr Try.prog 42 x3.1 0) fun x13 =>
    bnd (pLoad Try.prog 3 x13 x3.2) fun x14 =>
    bnd (pBin Try.prog .lss 3 (.tmp 12) (.tmp 14) x12 x14) fun x15 =>
    bnd (inv (.func 56) #[] #[x15, (.bool true)] x3.2) fun x16 =>
    some (x16.1, x16.2))
    (bnd (pFieldAddr Try.prog 42 x2.1 1) fun x18 =>
    bnd (pLoad Try.prog 2 x18 x3.2) fun x19 =>
    bnd (pFieldAddr Try.prog 42 x3.1 1) fun x20 =>
    bnd (pLoad Try.prog 2 x20 x3.2) fun x21 =>
    bnd (pBin Try.prog .neq 2 (.tmp 19) (.tmp 21) x19 x21) fun x22 =>
    brV x22
    (bnd (pFieldAddr Try.prog 42 x2.1 1) fun x23 =>
    bnd (pLoad Try.prog 2 x23 x3.2) fun x24 =>
    bnd (pFieldAddr Try.prog 42 x3.1 1) fun x25 =>
    bnd (pLoad Try.prog 2 x25 x3.2) fun x26 =>
    bnd (pBin Try.prog .lss 2 (.tmp 24) (.tmp 26) x24 x26) fun x27 =>
    bnd (inv (.func 56) #[] #[x27, (.bool true)] x3.2) fun x28 =>
    some (x28.1, x28.2))
    (G42_5 inv x2.1 x3.1 x3.2 fun y4 h =>
    some (y4, h)))
theorem F42_eq : eFun env k inv 42 #[x0, x1] h = F42 inv k x0 x1 h := by
      refine (kq_fun (a := act 40 [(0, x0), (1, x1)]) (c := cp c42 1)).trans ?_
      unfold F42
      simp only [kq_seq c42 1, r42_0, kq_seq c42 3, kq_block c42 6 0, kq_seq c42 12, r42_1, b42_rllr, kq_seq c42 50, r42_2, kq_ret c42 101, res42_0, kq_seq c42 51, r42_3, b42_rrrllr, kq_seq c42 206, r42_4, kq_ret c42 413, kq_skip c42 207, kq_seq c42 7, r42_5, kq_ret c42 15, reduceIte, reduceCtorEq, XE.exit.injEq, Nat.reduceEqDiff, Nat.reduceMul, Nat.reduceAdd] <;> kernel_rfl
theorem F42_call : eInv env (k + 1) (.func 42) #[] #[x0, x1] h = F42 (eInv env k) k x0 x1 h := kq_inv F42_eq
noncomputable def c45 : Code := codeOf Try.prog 45
theorem r45_0  : kCode env 45 false inv k (cp c45 2) (act 3 []) h K =
    K .normal (act 3 []) h := kq_reg
theorem r45_1  : kCode env 45 false inv k (cp c45 6) (act 3 []) h K =
    bnd (pMakeMap Try.prog 77 none h) fun x1 =>
    bnd (kSt (pUpdate Try.prog 77 x1.1 (.int .i64 2) (.func (.func 59) #[] #[]) x1.2)) fun u =>
    bnd (kSt (pUpdate Try.prog 77 x1.1 (.int .i64 3) (.func (.func 60) #[] #[]) u.2)) fun u_1 =>
    bnd (kSt (pUpdate Try.prog 77 x1.1 (.int .i64 4) (.func (.func 61) #[] #[]) u_1.2)) fun u_2 =>
    K .normal (act 3 [(0, x1.1)]) u_2.2 := kq_reg
theorem res45_0 : resOfFn env.P 45 .ret (act 3 [(0, x0)]) h = some (x0, h) := kq_res
/-- shadowbook/pred.orders -/
noncomputable def F45 (inv : Inv) (k : Nat) (h : AH) : Option (Value × AH) :=
    bnd (pMakeMap Try.prog 77 none h) fun x1 =>
    bnd (kSt (pUpdate Try.prog 77 x1.1 (.int .i64 2) (.func (.func 59) #[] #[]) x1.2)) fun u =>
    bnd (kSt (pUpdate Try.prog 77 x1.1 (.int .i64 3) (.func (.func 60) #[] #[]) u.2)) fun u_3 =>
    bnd (kSt (pUpdate Try.prog 77 x1.1 (.int .i64 4) (.func (.func 61) #[] #[]) u_3.2)) fun u_4 =>
    some (x1.1, u_4.2)
theorem F45_eq : eFun env k inv 45 #[] h = F45 inv k  h := by
      refine (kq_fun (a := act 3 []) (c := cp c45 1)).trans ?_
      unfold F45
      simp only [kq_seq c45 1, r45_0, kq_seq c45 3, r45_1, kq_ret c45 7, res45_0, reduceIte, reduceCtorEq, XE.exit.injEq, Nat.reduceEqDiff, Nat.reduceMul, Nat.reduceAdd] <;> kernel_rfl
theorem F45_call : eInv env (k + 1) (.func 45) #[] #[] h = F45 (eInv env k) k  h := kq_inv F45_eq
noncomputable def c46 : Code := codeOf Try.prog 46
theorem r46_0  : kCode env 46 false inv k (cp c46 2) (act 22 [(0, x0), (1, x1)]) h K =
    bnd (pBox Try.prog 42 x0 h) fun x2 =>
    bnd (pBox Try.prog 42 x1 x2.2) fun x3 =>
    K .normal (act 22 [(2, x2.1), (3, x3.1)]) x3.2 := kq_reg
noncomputable abbrev G46_1 {β : Type} (inv : Inv) (x2 x3 : Value) (h : AH) (K : Value → AH → Option β) : Option β :=
    bnd (pFieldAddr Try.prog 42 x2 0) fun x5 =>
    bnd (pLoad Try.prog 3 x5 h) fun x6 =>
    bnd (pFieldAddr Try.prog 42 x3 0) fun x7 =>
    bnd (pLoad Try.prog 3 x7 h) fun x8 =>
    bnd (inv (.func 63) #[] #[x6, x8] h) fun x9 =>
    bnd (pFieldAddr Try.prog 42 x2 1) fun x10 =>
    bnd (pLoad Try.prog 2 x10 x9.2) fun x11 =>
    bnd (pFieldAddr Try.prog 42 x3 1) fun x12 =>
    bnd (pLoad Try.prog 2 x12 x9.2) fun x13 =>
    bnd (inv (.func 64) #[] #[x11, x13] x9.2) fun x14 =>
    bnd (pFieldAddr Try.prog 42 x2 2) fun x15 =>
    bnd (pLoad Try.prog 9 x15 x14.2) fun x16 =>
    bnd (pFieldAddr Try.prog 42 x3 2) fun x17 =>
    bnd (pLoad Try.prog 9 x17 x14.2) fun x18 =>
    bnd (inv (.func 65) #[] #[x16, x18] x14.2) fun x19 =>
    bnd (pBuildSlice Try.prog 46 3 #[(0, x9.1), (1, x14.1), (2, x19.1)] x19.2) fun x20 =>
    bnd (inv (.func 62) #[] #[x20.1] x20.2) fun x21 =>
    chkK ((!true || !true || (sameO (pLoad Try.prog 2 x10 h) x11 && sameO (pLoad Try.prog 2 x10 x9.2) x11)) && ((!true || !true || (sameO (pLoad Try.prog 2 x12 h) x13 && sameO (pLoad Try.prog 2 x12 x9.2) x13)) && ((!true || !true || (sameO (pLoad Try.prog 9 x15 h) x16 && sameO (pLoad Try.prog 9 x15 x9.2) x16)) && ((!true || !true || (sameO (pLoad Try.prog 9 x15 x9.2) x16 && sameO (pLoad Try.prog 9 x15 x14.2) x16)) && ((!true || !true || (sameO (pLoad Try.prog 9 x17 h) x18 && sameO (pLoad Try.prog 9 x17 x9.2) x18)) && ((!true || !true || (sameO (pLoad Try.prog 9 x17 x9.2) x18 && sameO (pLoad Try.prog 9 x17 x14.2) x18)) && true)))))) <|
    K (x21.1) x21.2
theorem r46_1  : kCode env 46 false inv k (cp c46 6) (act 22 [(2, x2), (3, x3)]) h K =
    G46_1 inv x2 x3 h fun y4 h => K .normal (act 22 [(4, y4)]) h := kq_draw
theorem res46_0 : resOfFn env.P 46 .ret (act 22 [(4, x4)]) h = some (x4, h) := kq_res
/-- shadowbook/value.Compare -/
noncomputable def F46 (inv : Inv) (k : Nat) (x0 x1 : Value) (h : AH) : Option (Value × AH) :=
    bnd (pBox Try.prog 42 x0 h) fun x2 =>
    bnd (pBox Try.prog 42 x1 x2.2) fun x3 =>
    G46_1 inv x2.1 x3.1 x3.2 fun y4 h =>
    some (y4, h)
theorem F46_eq : eFun env k inv 46 #[x0, x1] h = F46 inv k x0 x1 h := by
      refine (kq_fun (a := act 22 [(0, x0), (1, x1)]) (c := cp c46 1)).trans ?_
      unfold F46
      simp only [kq_seq c46 1, r46_0, kq_seq c46 3, r46_1, kq_ret c46 7, res46_0, reduceIte, reduceCtorEq, XE.exit.injEq, Nat.reduceEqDiff, Nat.reduceMul, Nat.reduceAdd] <;> kernel_rfl
theorem F46_call : eInv env (k + 1) (.func 46) #[] #[x0, x1] h = F46 (eInv env k) k x0 x1 h := kq_inv F46_eq
noncomputable def c47 : Code := codeOf Try.prog 47
theorem r47_0  : kCode env 47 false inv k (cp c47 2) (act 19 [(0, x0), (1, x1)]) h K =
    K .normal (act 19 [(0, x0), (1, x1)]) h := kq_reg
theorem r47_1  : kCode env 47 false inv k (cp c47 12) (act 19 [(0, x0), (1, x1)]) h K =
    bnd (pLen Try.prog #[60] x0 h) fun x7 =>
    K .normal (act 19 [(0, x0), (1, x1), (7, x7), (8, (.int .i64 0))]) h := kq_reg
theorem r47_2  : kCode env 47 false inv k (cp c47 104) (act 19 [(0, x0), (1, x1), (7, x7), (8, x8)]) h K =
    bnd (pBin Try.prog .lss 3 (.tmp 8) (.tmp 7) x8 x7) fun x9 =>
    K .normal (act 19 [(0, x0), (1, x1), (7, x7), (8, x8), (9, x9)]) h := kq_reg
theorem b47_lrllrlr  : kCode env 47 false inv k (cp c47 210) (act 19 [(0, x0), (1, x1), (7, x7), (8, x8), (9, x9)]) h K = brV x9 (kCode env 47 false inv k (cp c47 420) (act 19 [(0, x0), (1, x1), (7, x7), (8, x8), (9, x9)]) h K) (kCode env 47 false inv k (cp c47 421) (act 19 [(0, x0), (1, x1), (7, x7), (8, x8), (9, x9)]) h K) := kq_cond
theorem r47_3  : kCode env 47 false inv k (cp c47 1688) (act 19 [(0, x0), (1, x1), (7, x7), (8, x8), (9, x9)]) h K =
    K .normal (act 19 [(0, x0), (1, x1), (5, x8), (7, x7), (8, x8)]) h := kq_reg
theorem r47_4  : kCode env 47 false inv k (cp c47 3378) (act 19 [(0, x0), (1, x1), (5, x5), (7, x7), (8, x8)]) h K =
    bnd (pIndexAddr Try.prog 60 x0 x5) fun x14 =>
    bnd (pLoad Try.prog 4 x14 h) fun x15 =>
    bnd (pBin Try.prog .eql 4 (.tmp 11) (.tmp 15) x1 x15) fun x16 =>
    K .normal (act 19 [(0, x0), (1, x1), (5, x5), (7, x7), (8, x8), (16, x16)]) h := kq_reg
theorem b47_rrllrrllrlr  : kCode env 47 false inv k (cp c47 3379) (act 19 [(0, x0), (1, x1), (5, x5), (7, x7), (8, x8), (16, x16)]) h K = brV x16 (kCode env 47 false inv k (cp c47 6758) (act 19 [(0, x0), (1, x1), (5, x5), (7, x7), (8, x8), (16, x16)]) h K) (kCode env 47 false inv k (cp c47 6759) (act 19 [(0, x0), (1, x1), (5, x5), (7, x7), (8, x8), (16, x16)]) h K) := kq_cond
theorem r47_5  : kCode env 47 false inv k (cp c47 13516) (act 19 [(0, x0), (1, x1), (5, x5), (7, x7), (8, x8), (16, x16)]) h K =
    K .normal (act 19 [(4, x5)]) h := kq_reg
theorem r47_6  : kCode env 47 false inv k (cp c47 423) (act 19 [(0, x0), (1, x1), (5, x5), (7, x7), (8, x8), (16, x16)]) h K =
    bnd (pBin Try.prog .add 3 (.tmp 8) (.const (.int .i64 1)) x8 (.int .i64 1)) fun x18 =>
    K .normal (act 19 [(0, x0), (1, x1), (7, x7), (8, x18)]) h := kq_reg
noncomputable def F47_lrlr {β : Type} (inv : Inv) (k : Nat) : Nat → Value → Value → Value → Value → AH → (Value → Value → Value → Value → Value → AH → Option β) → (Value → AH → Option β) → Option β
  | 0, _, _, _, _, _, _, _ => none
  | j + 1, x0, x1, x7, x8, h, ke0, kr =>
    bnd (pBin Try.prog .lss 3 (.tmp 8) (.tmp 7) x8 x7) fun x9 =>
    brV x9
    (bnd (pIndexAddr Try.prog 60 x0 x8) fun x14 =>
    bnd (pLoad Try.prog 4 x14 h) fun x15 =>
    bnd (pBin Try.prog .eql 4 (.tmp 11) (.tmp 15) x1 x15) fun x16 =>
    brV x16
    (kr x8 h)
    (bnd (pBin Try.prog .add 3 (.tmp 8) (.const (.int .i64 1)) x8 (.int .i64 1)) fun x18 =>
    F47_lrlr inv k j x0 x1 x7 x18 h ke0 kr))
    (ke0 x0 x1 x7 x8 x9 h)
theorem F47_lrlr_j (j : Nat) : kLoop (kCode env 47 false inv k (cp c47 52)) j (act 19 [(0, x0), (1, x1), (7, x7), (8, x8)]) h K = F47_lrlr inv k j x0 x1 x7 x8 h (fun y0 y1 y7 y8 y9 h => K (.exit 0) (act 19 [(0, y0), (1, y1), (7, y7), (8, y8), (9, y9)]) h) (fun y4 h => K .ret (act 19 [(4, y4)]) h) := by
      induction j generalizing x0 x1 x7 x8 h with
      | zero => rfl
      | succ j ih =>
        unfold F47_lrlr
        simp only [kLoop, kq_seq c47 52, r47_2, kq_seq c47 105, b47_lrllrlr, kq_skip c47 420, kq_seq c47 211, kq_block c47 422 1, kq_seq c47 844, r47_3, kq_seq c47 1689, r47_4, b47_rrllrrllrlr, kq_seq c47 6758, r47_5, kq_ret c47 13517, kq_skip c47 6759, r47_6, kq_exit c47 421 0, ih, reduceIte, reduceCtorEq, XE.exit.injEq, Nat.reduceEqDiff, Nat.reduceMul, Nat.reduceAdd] <;> kernel_rfl
theorem F47_lrlr_eq  : kCode env 47 false inv k (cp c47 26) (act 19 [(0, x0), (1, x1), (7, x7), (8, x8)]) h K = F47_lrlr inv k k x0 x1 x7 x8 h (fun y0 y1 y7 y8 y9 h => K (.exit 0) (act 19 [(0, y0), (1, y1), (7, y7), (8, y8), (9, y9)]) h) (fun y4 h => K .ret (act 19 [(4, y4)]) h) := kq_loop (F47_lrlr_j k)
theorem r47_7  : kCode env 47 false inv k (cp c47 14) (act 19 [(0, x0), (1, x1), (7, x7), (8, x8), (9, x9)]) h K =
    K .normal (act 19 [(4, (.int .i64 (-1)))]) h := kq_reg
theorem res47_0 : resOfFn env.P 47 .ret (act 19 [(4, x4)]) h = some (x4, h) := kq_res
/-- slices.Index[[]bool,bool] -/
noncomputable def F47 (inv : Inv) (k : Nat) (x0 x1 : Value) (h : AH) : Option (Value × AH) :=
    bnd (pLen Try.prog #[60] x0 h) fun x7 =>
    F47_lrlr inv k k x0 x1 x7 (.int .i64 0) h
    (fun y0 y1 y7 y8 y9 h =>
    some ((.int .i64 (-1)), h))
    (fun y4 h_1 =>
    some (y4, h_1))
theorem F47_eq : eFun env k inv 47 #[x0, x1] h = F47 inv k x0 x1 h := by
      refine (kq_fun (a := act 19 [(0, x0), (1, x1)]) (c := cp c47 1)).trans ?_
      unfold F47
      simp only [kq_seq c47 1, r47_0, kq_seq c47 3, kq_seq c47 6, r47_1, kq_block c47 13 0, F47_lrlr_eq, kq_seq c47 7, r47_7, kq_ret c47 15, res47_0, reduceIte, reduceCtorEq, XE.exit.injEq, Nat.reduceEqDiff, Nat.reduceMul, Nat.reduceAdd] <;> kernel_rfl
theorem F47_call : eInv env (k + 1) (.func 47) #[] #[x0, x1] h = F47 (eInv env k) k x0 x1 h := kq_inv F47_eq
noncomputable def c48 : Code := codeOf Try.prog 48
theorem r48_0  : kCode env 48 false inv k (cp c48 2) (act 45 [(0, x0)]) h K =
    K .normal (act 45 [(0, x0)]) h := kq_reg
noncomputable abbrev G48_1 {β : Type} (inv : Inv) (x0 : Value) (h : AH) (K : Value → AH → Option β) : Option β :=
    bnd (pLen Try.prog #[9] x0 h) fun x6 =>
    bnd (pBin Try.prog .lss 3 (.tmp 6) (.const (.int .i64 1)) x6 (.int .i64 1)) fun x7 =>
    bnd (gd (some x7) false h (some (x0, h))) fun x9 =>
    bnd (gd (some x7) false x9.2 (lt (pLen Try.prog #[9] x9.1 x9.2) x9.2)) fun x10 =>
    bnd (gd (some x7) false x10.2 (lt (pBin Try.prog .gtr 3 (.tmp 10) (.const (.int .i64 32)) x10.1 (.int .i64 32)) x10.2)) fun x11 =>
    bnd (pickV x7 (.bool true) x11.1) fun x12 =>
    K (x12) x11.2
theorem r48_1  : kCode env 48 false inv k (cp c48 24) (act 45 [(0, x0)]) h K =
    G48_1 inv x0 h fun y12 h => K .normal (act 45 [(0, x0), (12, y12)]) h := kq_reg
theorem b48_rllr  : kCode env 48 false inv k (cp c48 25) (act 45 [(0, x0), (12, x12)]) h K = brV x12 (kCode env 48 false inv k (cp c48 50) (act 45 [(0, x0), (12, x12)]) h K) (kCode env 48 false inv k (cp c48 51) (act 45 [(0, x0), (12, x12)]) h K) := kq_cond
theorem r48_2  : kCode env 48 false inv k (cp c48 100) (act 45 [(0, x0), (12, x12)]) h K =
    K .normal (act 45 [(2, (.int .i64 170))]) h := kq_reg
theorem res48_0 : resOfFn env.P 48 .ret (act 45 [(2, x2)]) h = some (x2, h) := kq_res
theorem r48_3  : kCode env 48 false inv k (cp c48 108) (act 45 [(0, x0), (12, x12)]) h K =
    bnd (pRange Try.prog 9 x0 h) fun x14 =>
    K .normal (act 45 [(14, x14.1)]) x14.2 := kq_reg
theorem r48_4  : kCode env 48 false inv k (cp c48 872) (act 45 [(3, x3), (4, x4), (14, x14), (19, x19), (34, x34)]) h K =
    bnd (pNext x14 true h) fun x15 =>
    bnd (pExtract x15.1 0) fun x16 =>
    K .normal (act 45 [(14, x14), (15, x15.1), (16, x16)]) x15.2 := kq_reg
theorem b48_lrllrlrrlr  : kCode env 48 false inv k (cp c48 1746) (act 45 [(14, x14), (15, x15), (16, x16)]) h K = brV x16 (kCode env 48 false inv k (cp c48 3492) (act 45 [(14, x14), (15, x15), (16, x16)]) h K) (kCode env 48 false inv k (cp c48 3493) (act 45 [(14, x14), (15, x15), (16, x16)]) h K) := kq_cond
theorem r48_5  : kCode env 48 false inv k (cp c48 6988) (act 45 [(14, x14), (15, x15), (16, x16)]) h K =
    bnd (pExtract x15 1) fun x17 =>
    bnd (pExtract x15 2) fun x18 =>
    K .normal (act 45 [(3, x17), (4, x18), (14, x14)]) h := kq_reg
noncomputable abbrev G48_6 {β : Type} (inv : Inv) (x3 x4 x14 : Value) (h : AH) (K : Value → AH → Option β) : Option β :=
    bnd (pBin Try.prog .geq 21 (.tmp 20) (.const (.int .i32 97)) x4 (.int .i32 97)) fun x21 =>
    bnd (gd (some x21) true h (some (x4, h))) fun x23 =>
    bnd (gd (some x21) true x23.2 (lt (pBin Try.prog .leq 21 (.tmp 23) (.const (.int .i32 122)) x23.1 (.int .i32 122)) x23.2)) fun x24 =>
    bnd (pickV x21 x24.1 (.bool false)) fun x25 =>
    K (x25) x24.2
theorem r48_6  : kCode env 48 false inv k (cp c48 111824) (act 45 [(3, x3), (4, x4), (14, x14)]) h K =
    G48_6 inv x3 x4 x14 h fun y19 h => K .normal (act 45 [(3, x3), (4, x4), (14, x14), (19, y19)]) h := kq_reg
theorem b48_rlllrlrrllrlrrlr  : kCode env 48 false inv k (cp c48 111825) (act 45 [(3, x3), (4, x4), (14, x14), (19, x19)]) h K = brV x19 (kCode env 48 false inv k (cp c48 223650) (act 45 [(3, x3), (4, x4), (14, x14), (19, x19)]) h K) (kCode env 48 false inv k (cp c48 223651) (act 45 [(3, x3), (4, x4), (14, x14), (19, x19)]) h K) := kq_cond
noncomputable abbrev G48_7 {β : Type} (inv : Inv) (x3 x4 x14 : Value) (h : AH) (K : Value → AH → Option β) : Option β :=
    bnd (pBin Try.prog .geq 21 (.tmp 26) (.const (.int .i32 65)) x4 (.int .i32 65)) fun x27 =>
    bnd (gd (some x27) true h (some (x4, h))) fun x29 =>
    bnd (gd (some x27) true x29.2 (lt (pBin Try.prog .leq 21 (.tmp 29) (.const (.int .i32 90)) x29.1 (.int .i32 90)) x29.2)) fun x30 =>
    bnd (pickV x27 x30.1 (.bool false)) fun x31 =>
    K (x31) x30.2
theorem r48_7  : kCode env 48 false inv k (cp c48 447302) (act 45 [(3, x3), (4, x4), (14, x14), (19, x19)]) h K =
    G48_7 inv x3 x4 x14 h fun y19 h => K .normal (act 45 [(3, x3), (4, x4), (14, x14), (19, y19)]) h := kq_reg
theorem b48_rrrlllrlrrllrlrrlr  : kCode env 48 false inv k (cp c48 447303) (act 45 [(3, x3), (4, x4), (14, x14), (19, x19)]) h K = brV x19 (kCode env 48 false inv k (cp c48 894606) (act 45 [(3, x3), (4, x4), (14, x14), (19, x19)]) h K) (kCode env 48 false inv k (cp c48 894607) (act 45 [(3, x3), (4, x4), (14, x14), (19, x19)]) h K) := kq_cond
theorem r48_8  : kCode env 48 false inv k (cp c48 894607) (act 45 [(3, x3), (4, x4), (14, x14), (19, x19)]) h K =
    bnd (pBin Try.prog .eql 21 (.tmp 32) (.const (.int .i32 95)) x4 (.int .i32 95)) fun x33 =>
    K .normal (act 45 [(3, x3), (4, x4), (14, x14), (19, x33)]) h := kq_reg
noncomputable def F48_rlllrlrrllrlrrlr {β : Type} (inv : Inv) (k : Nat) (x3 x4 x14 x19 : Value) (h : AH) (kn : (Value → Value → Value → Value → AH → Option β)) : Option β :=
    brV x19
    (kn x3 x4 x14 x19 h)
    (G48_7 inv x3 x4 x14 h fun y19 h =>
    brV y19
    (kn x3 x4 x14 y19 h)
    (bnd (pBin Try.prog .eql 21 (.tmp 32) (.const (.int .i32 95)) x4 (.int .i32 95)) fun x33 =>
    kn x3 x4 x14 x33 h))
theorem F48_rlllrlrrllrlrrlr_eq  : kCode env 48 false inv k (cp c48 111825) (act 45 [(3, x3), (4, x4), (14, x14), (19, x19)]) h K = F48_rlllrlrrllrlrrlr inv k x3 x4 x14 x19 h (fun y3 y4 y14 y19 h => K .normal (act 45 [(3, y3), (4, y4), (14, y14), (19, y19)]) h) := by
      unfold F48_rlllrlrrllrlrrlr
      simp only [b48_rlllrlrrllrlrrlr, kq_skip c48 223650, kq_seq c48 223651, r48_7, b48_rrrlllrlrrllrlrrlr, kq_skip c48 894606, r48_8, reduceIte, reduceCtorEq, XE.exit.injEq, Nat.reduceEqDiff, Nat.reduceMul, Nat.reduceAdd] <;> kernel_rfl
theorem b48_rllrlrrllrlrrlr  : kCode env 48 false inv k (cp c48 55913) (act 45 [(3, x3), (4, x4), (14, x14), (19, x19)]) h K = brV x19 (kCode env 48 false inv k (cp c48 111826) (act 45 [(3, x3), (4, x4), (14, x14), (19, x19)]) h K) (kCode env 48 false inv k (cp c48 111827) (act 45 [(3, x3), (4, x4), (14, x14), (19, x19)]) h K) := kq_cond
noncomputable abbrev G48_9 {β : Type} (inv : Inv) (x3 x4 x14 : Value) (h : AH) (K : Value → AH → Option β) : Option β :=
    bnd (pBin Try.prog .gtr 3 (.tmp 35) (.const (.int .i64 0)) x3 (.int .i64 0)) fun x36 =>
    bnd (gd (some x36) true h (some (x4, h))) fun x38 =>
    bnd (gd (some x36) true x38.2 (lt (pBin Try.prog .geq 21 (.tmp 38) (.const (.int .i32 48)) x38.1 (.int .i32 48)) x38.2)) fun x39 =>
    bnd (pickV x36 x39.1 (.bool false)) fun x40 =>
    bnd (gd (some x40) true x39.2 (some (x4, x39.2))) fun x42 =>
    bnd (gd (some x40) true x42.2 (lt (pBin Try.prog .leq 21 (.tmp 42) (.const (.int .i32 57)) x42.1 (.int .i32 57)) x42.2)) fun x43 =>
    bnd (pickV x40 x43.1 (.bool false)) fun x44 =>
    K (x44) x43.2
theorem r48_9  : kCode env 48 false inv k (cp c48 223654) (act 45 [(3, x3), (4, x4), (14, x14), (19, x19)]) h K =
    G48_9 inv x3 x4 x14 h fun y34 h => K .normal (act 45 [(14, x14), (34, y34)]) h := kq_reg
theorem b48_rrrllrlrrllrlrrlr  : kCode env 48 false inv k (cp c48 223655) (act 45 [(14, x14), (34, x34)]) h K = brV x34 (kCode env 48 false inv k (cp c48 447310) (act 45 [(14, x14), (34, x34)]) h K) (kCode env 48 false inv k (cp c48 447311) (act 45 [(14, x14), (34, x34)]) h K) := kq_cond
theorem r48_10  : kCode env 48 false inv k (cp c48 27958) (act 45 [(14, x14), (34, x34)]) h K =
    K .normal (act 45 [(2, (.int .i64 170))]) h := kq_reg
noncomputable def F48_lrlrrlr {β : Type} (inv : Inv) (k : Nat) : Nat → Value → Value → Value → Value → Value → AH → (Value → Value → Value → AH → Option β) → (Value → AH → Option β) → Option β
  | 0, _, _, _, _, _, _, _, _ => none
  | j + 1, x3, x4, x14, x19, x34, h, ke0, kr =>
    bnd (pNext x14 true h) fun x15 =>
    bnd (pExtract x15.1 0) fun x16 =>
    brV x16
    (bnd (pExtract x15.1 1) fun x17 =>
    bnd (pExtract x15.1 2) fun x18 =>
    G48_6 inv x17 x18 x14 x15.2 fun y19 h =>
    F48_rlllrlrrllrlrrlr inv k x17 x18 x14 y19 h
    (fun y3 y4 y14 y19_1 h_2 =>
    brV y19_1
    (F48_lrlrrlr inv k j y3 y4 y14 y19_1 unk h_2 ke0 kr)
    (G48_9 inv y3 y4 y14 h_2 fun y34 h_3 =>
    brV y34
    (F48_lrlrrlr inv k j unk unk y14 unk y34 h_3 ke0 kr)
    (kr (.int .i64 170) h_3))))
    (ke0 x14 x15.1 x16 x15.2)
theorem F48_lrlrrlr_j (j : Nat) : kLoop (kCode env 48 false inv k (cp c48 436)) j (act 45 [(3, x3), (4, x4), (14, x14), (19, x19), (34, x34)]) h K = F48_lrlrrlr inv k j x3 x4 x14 x19 x34 h (fun y14 y15 y16 h => K (.exit 0) (act 45 [(14, y14), (15, y15), (16, y16)]) h) (fun y2 h => K .ret (act 45 [(2, y2)]) h) := by
      induction j generalizing x3 x4 x14 x19 x34 h with
      | zero => rfl
      | succ j ih =>
        have ih_34 : ∀ (x3 x4 x14 x19 : Value) (h : AH), kLoop (kCode env 48 false inv k (cp c48 436)) j (act 45 [(3, x3), (4, x4), (14, x14), (19, x19)]) h K = F48_lrlrrlr inv k j x3 x4 x14 x19 unk h (fun y14 y15 y16 h => K (.exit 0) (act 45 [(14, y14), (15, y15), (16, y16)]) h) (fun y2 h => K .ret (act 45 [(2, y2)]) h) := fun x3 x4 x14 x19 h => by
          rw [show act 45 [(3, x3), (4, x4), (14, x14), (19, x19)] = act 45 [(3, x3), (4, x4), (14, x14), (19, x19), (34, unk)] from by kernel_rfl]; exact ih ..
        have ih_3_4_19 : ∀ (x14 x34 : Value) (h : AH), kLoop (kCode env 48 false inv k (cp c48 436)) j (act 45 [(14, x14), (34, x34)]) h K = F48_lrlrrlr inv k j unk unk x14 unk x34 h (fun y14 y15 y16 h => K (.exit 0) (act 45 [(14, y14), (15, y15), (16, y16)]) h) (fun y2 h => K .ret (act 45 [(2, y2)]) h) := fun x14 x34 h => by
          rw [show act 45 [(14, x14), (34, x34)] = act 45 [(3, unk), (4, unk), (14, x14), (19, unk), (34, x34)] from by kernel_rfl]; exact ih ..
        unfold F48_lrlrrlr
        simp only [kLoop, kq_seq c48 436, r48_4, kq_seq c48 873, b48_lrllrlrrlr, kq_skip c48 3492, kq_block c48 1747 1, kq_seq c48 3494, r48_5, kq_seq c48 6989, kq_block c48 13978 2, kq_seq c48 27956, kq_seq c48 55912, r48_6, F48_rlllrlrrllrlrrlr_eq, b48_rllrlrrllrlrrlr, kq_exit c48 111826 1, kq_seq c48 111827, r48_9, b48_rrrllrlrrllrlrrlr, kq_exit c48 447310 1, kq_skip c48 447311, kq_seq c48 13979, r48_10, kq_ret c48 27959, kq_exit c48 3493 0, ih, ih_34, ih_3_4_19, reduceIte, reduceCtorEq, XE.exit.injEq, Nat.reduceEqDiff, Nat.reduceMul, Nat.reduceAdd] <;> kernel_rfl
theorem F48_lrlrrlr_eq  : kCode env 48 false inv k (cp c48 218) (act 45 [(3, x3), (4, x4), (14, x14), (19, x19), (34, x34)]) h K = F48_lrlrrlr inv k k x3 x4 x14 x19 x34 h (fun y14 y15 y16 h => K (.exit 0) (act 45 [(14, y14), (15, y15), (16, y16)]) h) (fun y2 h => K .ret (act 45 [(2, y2)]) h) := kq_loop (F48_lrlrrlr_j k)
theorem F48_lrlrrlr_eq_3_4_19_34  : kCode env 48 false inv k (cp c48 218) (act 45 [(14, x14)]) h K = F48_lrlrrlr inv k k unk unk x14 unk unk h (fun y14 y15 y16 h => K (.exit 0) (act 45 [(14, y14), (15, y15), (16, y16)]) h) (fun y2 h => K .ret (act 45 [(2, y2)]) h) := by
      rw [show act 45 [(14, x14)] = act 45 [(3, unk), (4, unk), (14, x14), (19, unk), (34, unk)] from by kernel_rfl]; exact F48_lrlrrlr_eq ..
theorem r48_11  : kCode env 48 false inv k (cp c48 110) (act 45 [(14, x14), (15, x15), (16, x16)]) h K =
    K .normal (act 45 [(2, (.int .i64 0))]) h := kq_reg
/-- shadowbook/schema.Name -/
noncomputable def F48 (inv : Inv) (k : Nat) (x0 : Value) (h : AH) : Option (Value × AH) :=
    G48_1 inv x0 h fun y12 h =>
    brV y12
    (some ((.int .i64 170), h))
    (bnd (pRange Try.prog 9 x0 h) fun x14 =>
    F48_lrlrrlr inv k k unk unk x14.1 unk unk x14.2
    (fun y14 y15 y16 h_4 =>
    some ((.int .i64 0), h_4))
    (fun y2 h_5 =>
    some (y2, h_5)))
theorem F48_eq : eFun env k inv 48 #[x0] h = F48 inv k x0 h := by
      refine (kq_fun (a := act 45 [(0, x0)]) (c := cp c48 1)).trans ?_
      unfold F48
      simp only [kq_seq c48 1, r48_0, kq_scope c48 3, kq_seq c48 6, kq_seq c48 12, r48_1, b48_rllr, kq_seq c48 50, r48_2, kq_ret c48 101, res48_0, kq_skip c48 51, kq_seq c48 13, kq_label c48 26, kq_seq c48 27, kq_seq c48 54, r48_3, kq_block c48 109 0, F48_lrlrrlr_eq_3_4_19_34, kq_seq c48 55, r48_11, kq_ret c48 111, reduceIte, reduceCtorEq, XE.exit.injEq, Nat.reduceEqDiff, Nat.reduceMul, Nat.reduceAdd] <;> kernel_rfl
theorem F48_call : eInv env (k + 1) (.func 48) #[] #[x0] h = F48 (eInv env k) k x0 h := kq_inv F48_eq
noncomputable def c49 : Code := codeOf Try.prog 49
theorem r49_0  : kCode env 49 false inv k (cp c49 2) (act 9 [(0, x0), (1, x1)]) h K =
    K .normal (act 9 [(0, x0), (1, x1)]) h := kq_reg
theorem r49_1  : kCode env 49 false inv k (cp c49 6) (act 9 [(0, x0), (1, x1)]) h K =
    bnd (inv (.func 66) #[] #[x0, x1] h) fun x7 =>
    bnd (pBin Try.prog .geq 3 (.tmp 7) (.const (.int .i64 0)) x7.1 (.int .i64 0)) fun x8 =>
    K .normal (act 9 [(4, x8)]) x7.2 := kq_reg
theorem res49_0 : resOfFn env.P 49 .ret (act 9 [(4, x4)]) h = some (x4, h) := kq_res
/-- slices.ContainsFunc[[]shadowbook/api.Col,shadowbook/api.Col] -/
noncomputable def F49 (inv : Inv) (k : Nat) (x0 x1 : Value) (h : AH) : Option (Value × AH) :=
    bnd (inv (.func 66) #[] #[x0, x1] h) fun x7 =>
    bnd (pBin Try.prog .geq 3 (.tmp 7) (.const (.int .i64 0)) x7.1 (.int .i64 0)) fun x8 =>
    some (x8, x7.2)
theorem F49_eq : eFun env k inv 49 #[x0, x1] h = F49 inv k x0 x1 h := by
      refine (kq_fun (a := act 9 [(0, x0), (1, x1)]) (c := cp c49 1)).trans ?_
      unfold F49
      simp only [kq_seq c49 1, r49_0, kq_seq c49 3, r49_1, kq_ret c49 7, res49_0, reduceIte, reduceCtorEq, XE.exit.injEq, Nat.reduceEqDiff, Nat.reduceMul, Nat.reduceAdd] <;> kernel_rfl
theorem F49_call : eInv env (k + 1) (.func 49) #[] #[x0, x1] h = F49 (eInv env k) k x0 x1 h := kq_inv F49_eq
noncomputable def c50 : Code := codeOf Try.prog 50
theorem r50_0  : kCode env 50 false inv k (cp c50 2) (act 9 [(0, x0), (1, x1)]) h K =
    bnd (pBox Try.prog 50 x0 h) fun x2 =>
    K .normal (act 9 [(1, x1), (2, x2.1)]) x2.2 := kq_reg
theorem r50_1  : kCode env 50 false inv k (cp c50 6) (act 9 [(1, x1), (2, x2)]) h K =
    bnd (pFieldAddr Try.prog 50 x2 0) fun x4 =>
    bnd (pLoad Try.prog 9 x4 h) fun x5 =>
    bnd (pFieldAddr Try.prog 50 x1 0) fun x6 =>
    bnd (pLoad Try.prog 9 x6 h) fun x7 =>
    bnd (pBin Try.prog .eql 9 (.tmp 5) (.tmp 7) x5 x7) fun x8 =>
    K .normal (act 9 [(3, x8)]) h := kq_reg
theorem res50_0 : resOfFn env.P 50 .ret (act 9 [(3, x3)]) h = some (x3, h) := kq_res
/-- shadowbook/schema.Check$1 -/
noncomputable def F50 (inv : Inv) (k : Nat) (x0 x1 : Value) (h : AH) : Option (Value × AH) :=
    bnd (pBox Try.prog 50 x0 h) fun x2 =>
    bnd (pFieldAddr Try.prog 50 x2.1 0) fun x4 =>
    bnd (pLoad Try.prog 9 x4 x2.2) fun x5 =>
    bnd (pFieldAddr Try.prog 50 x1 0) fun x6 =>
    bnd (pLoad Try.prog 9 x6 x2.2) fun x7 =>
    bnd (pBin Try.prog .eql 9 (.tmp 5) (.tmp 7) x5 x7) fun x8 =>
    some (x8, x2.2)
theorem F50_eq : eFun env k inv 50 #[x0, x1] h = F50 inv k x0 x1 h := by
      refine (kq_fun (a := act 9 [(0, x0), (1, x1)]) (c := cp c50 1)).trans ?_
      unfold F50
      simp only [kq_seq c50 1, r50_0, kq_seq c50 3, r50_1, kq_ret c50 7, res50_0, reduceIte, reduceCtorEq, XE.exit.injEq, Nat.reduceEqDiff, Nat.reduceMul, Nat.reduceAdd] <;> kernel_rfl
theorem F50_call : eInv env (k + 1) (.func 50) #[] #[x0, x1] h = F50 (eInv env k) k x0 x1 h := kq_inv F50_eq
noncomputable def c51 : Code := codeOf Try.prog 51
theorem r51_0  : kCode env 51 false inv k (cp c51 2) (act 40 [(0, x0)]) h K =
    bnd (pBox Try.prog 42 x0 h) fun x1 =>
    K .normal (act 40 [(1, x1.1)]) x1.2 := kq_reg
theorem r51_1  : kCode env 51 false inv k (cp c51 6) (act 40 [(1, x1)]) h K =
    K .normal (act 40 [(1, x1), (3, (.bool false))]) h := kq_reg
theorem r51_2  : kCode env 51 false inv k (cp c51 28) (act 40 [(1, x1), (3, x3)]) h K =
    bnd (pFieldAddr Try.prog 42 x1 0) fun x4 =>
    bnd (pLoad Try.prog 3 x4 h) fun x5 =>
    K .normal (act 40 [(1, x1), (3, x3), (5, x5)]) h := kq_reg
theorem r51_3  : kCode env 51 false inv k (cp c51 116) (act 40 [(1, x1), (3, x3), (5, x5)]) h K =
    bnd (pBin Try.prog .eql 3 (.tmp 5) (.const (.int .i64 0)) x5 (.int .i64 0)) fun x7 =>
    K .normal (act 40 [(1, x1), (3, x3), (5, x5), (6, x7)]) h := kq_reg
theorem b51_rlrlrr  : kCode env 51 false inv k (cp c51 117) (act 40 [(1, x1), (3, x3), (5, x5), (6, x6)]) h K = brV x6 (kCode env 51 false inv k (cp c51 234) (act 40 [(1, x1), (3, x3), (5, x5), (6, x6)]) h K) (kCode env 51 false inv k (cp c51 235) (act 40 [(1, x1), (3, x3), (5, x5), (6, x6)]) h K) := kq_cond
theorem r51_4  : kCode env 51 false inv k (cp c51 234) (act 40 [(1, x1), (3, x3), (5, x5), (6, x6)]) h K =
    bnd (pLoad Try.prog 42 x1 h) fun x8 =>
    bnd (pBuild Try.prog 42 #[]) fun x9 =>
    bnd (pBin Try.prog .eql 42 (.tmp 8) (.tmp 9) x8 x9) fun x10 =>
    K .normal (act 40 [(3, x10)]) h := kq_reg
theorem r51_5  : kCode env 51 false inv k (cp c51 470) (act 40 [(1, x1), (3, x3), (5, x5), (6, x6)]) h K =
    bnd (pBin Try.prog .eql 3 (.tmp 5) (.const (.int .i64 1)) x5 (.int .i64 1)) fun x12 =>
    K .normal (act 40 [(1, x1), (3, x3), (5, x5), (11, x12)]) h := kq_reg
theorem b51_rrrlrlrr  : kCode env 51 false inv k (cp c51 471) (act 40 [(1, x1), (3, x3), (5, x5), (11, x11)]) h K = brV x11 (kCode env 51 false inv k (cp c51 942) (act 40 [(1, x1), (3, x3), (5, x5), (11, x11)]) h K) (kCode env 51 false inv k (cp c51 943) (act 40 [(1, x1), (3, x3), (5, x5), (11, x11)]) h K) := kq_cond
theorem r51_6  : kCode env 51 false inv k (cp c51 942) (act 40 [(1, x1), (3, x3), (5, x5), (11, x11)]) h K =
    bnd (pFieldAddr Try.prog 42 x1 2) fun x13 =>
    bnd (pLoad Try.prog 9 x13 h) fun x14 =>
    bnd (pBin Try.prog .eql 9 (.tmp 14) (.const (.string { data := #[] })) x14 (.string { data := #[] })) fun x15 =>
    K .normal (act 40 [(3, x15)]) h := kq_reg
theorem r51_7  : kCode env 51 false inv k (cp c51 1886) (act 40 [(1, x1), (3, x3), (5, x5), (11, x11)]) h K =
    bnd (pBin Try.prog .eql 3 (.tmp 5) (.const (.int .i64 2)) x5 (.int .i64 2)) fun x17 =>
    K .normal (act 40 [(1, x1), (3, x3), (5, x5), (16, x17)]) h := kq_reg
theorem b51_rrrrrlrlrr  : kCode env 51 false inv k (cp c51 1887) (act 40 [(1, x1), (3, x3), (5, x5), (16, x16)]) h K = brV x16 (kCode env 51 false inv k (cp c51 3774) (act 40 [(1, x1), (3, x3), (5, x5), (16, x16)]) h K) (kCode env 51 false inv k (cp c51 3775) (act 40 [(1, x1), (3, x3), (5, x5), (16, x16)]) h K) := kq_cond
noncomputable abbrev G51_8 {β : Type} (inv : Inv) (x1 : Value) (h : AH) (K : Value → AH → Option β) : Option β :=
    bnd (pFieldAddr Try.prog 42 x1 2) fun x18 =>
    bnd (pLoad Try.prog 9 x18 h) fun x19 =>
    bnd (pBin Try.prog .eql 9 (.tmp 19) (.const (.string { data := #[] })) x19 (.string { data := #[] })) fun x20 =>
    bnd (gd (some x20) true h (lt (pFieldAddr Try.prog 42 x1 1) h)) fun x22 =>
    bnd (gd (some x20) true x22.2 (lt (pLoad Try.prog 2 x22.1 x22.2) x22.2)) fun x23 =>
    bnd (gd (some x20) true x23.2 (lt (pBin Try.prog .andNot 2 (.tmp 23) (.const (.int .i64 1)) x23.1 (.int .i64 1)) x23.2)) fun x24 =>
    bnd (gd (some x20) true x24.2 (lt (pBin Try.prog .eql 2 (.tmp 24) (.const (.int .i64 0)) x24.1 (.int .i64 0)) x24.2)) fun x25 =>
    bnd (pickV x20 x25.1 (.bool false)) fun x26 =>
    K (x26) x25.2
theorem r51_8  : kCode env 51 false inv k (cp c51 3774) (act 40 [(1, x1), (3, x3), (5, x5), (16, x16)]) h K =
    G51_8 inv x1 h fun y3 h => K .normal (act 40 [(3, y3)]) h := kq_reg
theorem r51_9  : kCode env 51 false inv k (cp c51 7550) (act 40 [(1, x1), (3, x3), (5, x5), (16, x16)]) h K =
    bnd (pBin Try.prog .eql 3 (.tmp 5) (.const (.int .i64 3)) x5 (.int .i64 3)) fun x28 =>
    K .normal (act 40 [(1, x1), (3, x3), (27, x28)]) h := kq_reg
theorem b51_rrrrrrrlrlrr  : kCode env 51 false inv k (cp c51 7551) (act 40 [(1, x1), (3, x3), (27, x27)]) h K = brV x27 (kCode env 51 false inv k (cp c51 15102) (act 40 [(1, x1), (3, x3), (27, x27)]) h K) (kCode env 51 false inv k (cp c51 15103) (act 40 [(1, x1), (3, x3), (27, x27)]) h K) := kq_cond
noncomputable abbrev G51_10 {β : Type} (inv : Inv) (x1 : Value) (h : AH) (K : Value → AH → Option β) : Option β :=
    bnd (pFieldAddr Try.prog 42 x1 1) fun x29 =>
    bnd (pLoad Try.prog 2 x29 h) fun x30 =>
    bnd (pBin Try.prog .eql 2 (.tmp 30) (.const (.int .i64 0)) x30 (.int .i64 0)) fun x31 =>
    bnd (gd (some x31) true h (lt (pFieldAddr Try.prog 42 x1 2) h)) fun x33 =>
    bnd (gd (some x31) true x33.2 (lt (pLoad Try.prog 9 x33.1 x33.2) x33.2)) fun x34 =>
    bnd (gd (some x31) true x34.2 (lt (pLen Try.prog #[9] x34.1 x34.2) x34.2)) fun x35 =>
    bnd (gd (some x31) true x35.2 (lt (pBin Try.prog .leq 3 (.tmp 35) (.const (.int .i64 256)) x35.1 (.int .i64 256)) x35.2)) fun x36 =>
    bnd (pickV x31 x36.1 (.bool false)) fun x37 =>
    K (x37) x36.2
theorem r51_10  : kCode env 51 false inv k (cp c51 15102) (act 40 [(1, x1), (3, x3), (27, x27)]) h K =
    G51_10 inv x1 h fun y3 h => K .normal (act 40 [(3, y3)]) h := kq_reg
noncomputable def F51_rlrr {β : Type} (inv : Inv) (k : Nat) (x1 x3 x5 : Value) (h : AH) (kn : (Value → Value → Value → AH → Option β)) : Option β :=
    bnd (pBin Try.prog .eql 3 (.tmp 5) (.const (.int .i64 0)) x5 (.int .i64 0)) fun x7 =>
    brV x7
    (bnd (pLoad Try.prog 42 x1 h) fun x8 =>
    bnd (pBuild Try.prog 42 #[]) fun x9 =>
    bnd (pBin Try.prog .eql 42 (.tmp 8) (.tmp 9) x8 x9) fun x10 =>
    kn unk x10 unk h)
    (bnd (pBin Try.prog .eql 3 (.tmp 5) (.const (.int .i64 1)) x5 (.int .i64 1)) fun x12 =>
    brV x12
    (bnd (pFieldAddr Try.prog 42 x1 2) fun x13 =>
    bnd (pLoad Try.prog 9 x13 h) fun x14 =>
    bnd (pBin Try.prog .eql 9 (.tmp 14) (.const (.string { data := #[] })) x14 (.string { data := #[] })) fun x15 =>
    kn unk x15 unk h)
    (bnd (pBin Try.prog .eql 3 (.tmp 5) (.const (.int .i64 2)) x5 (.int .i64 2)) fun x17 =>
    brV x17
    (G51_8 inv x1 h fun y3 h =>
    kn unk y3 unk h)
    (bnd (pBin Try.prog .eql 3 (.tmp 5) (.const (.int .i64 3)) x5 (.int .i64 3)) fun x28 =>
    brV x28
    (G51_10 inv x1 h fun y3_1 h_2 =>
    kn unk y3_1 unk h_2)
    (kn x1 x3 x28 h))))
theorem F51_rlrr_eq  : kCode env 51 false inv k (cp c51 29) (act 40 [(1, x1), (3, x3), (5, x5)]) h K = F51_rlrr inv k x1 x3 x5 h (fun y1 y3 y27 h => K .normal (act 40 [(1, y1), (3, y3), (27, y27)]) h) := by
      unfold F51_rlrr
      simp only [kq_block c51 29 0, kq_seq c51 58, r51_3, b51_rlrlrr, r51_4, kq_seq c51 235, r51_5, b51_rrrlrlrr, r51_6, kq_seq c51 943, r51_7, b51_rrrrrlrlrr, r51_8, kq_seq c51 3775, r51_9, b51_rrrrrrrlrlrr, r51_10, kq_skip c51 15103, reduceIte, reduceCtorEq, XE.exit.injEq, Nat.reduceEqDiff, Nat.reduceMul, Nat.reduceAdd] <;> kernel_rfl
theorem r51_11  : kCode env 51 false inv k (cp c51 60) (act 40 [(1, x1), (3, x3), (27, x27)]) h K =
    bnd (pUn Try.prog .not x3) fun x39 =>
    K .normal (act 40 [(39, x39)]) h := kq_reg
theorem b51_rlrrr  : kCode env 51 false inv k (cp c51 61) (act 40 [(39, x39)]) h K = brV x39 (kCode env 51 false inv k (cp c51 122) (act 40 [(39, x39)]) h K) (kCode env 51 false inv k (cp c51 123) (act 40 [(39, x39)]) h K) := kq_cond
theorem r51_12  : kCode env 51 false inv k (cp c51 244) (act 40 [(39, x39)]) h K =
    K .normal (act 40 [(2, (.int .i64 160))]) h := kq_reg
theorem res51_0 : resOfFn env.P 51 .ret (act 40 [(2, x2)]) h = some (x2, h) := kq_res
theorem r51_13  : kCode env 51 false inv k (cp c51 62) (act 40 [(39, x39)]) h K =
    K .normal (act 40 [(2, (.int .i64 0))]) h := kq_reg
/-- shadowbook/value.Check -/
noncomputable def F51 (inv : Inv) (k : Nat) (x0 : Value) (h : AH) : Option (Value × AH) :=
    bnd (pBox Try.prog 42 x0 h) fun x1 =>
    bnd (pFieldAddr Try.prog 42 x1.1 0) fun x4 =>
    bnd (pLoad Try.prog 3 x4 x1.2) fun x5 =>
    F51_rlrr inv k x1.1 (.bool false) x5 x1.2
    (fun y1 y3 y27 h =>
    bnd (pUn Try.prog .not y3) fun x39 =>
    brV x39
    (some ((.int .i64 160), h))
    (some ((.int .i64 0), h)))
theorem F51_eq : eFun env k inv 51 #[x0] h = F51 inv k x0 h := by
      refine (kq_fun (a := act 40 [(0, x0)]) (c := cp c51 1)).trans ?_
      unfold F51
      simp only [kq_seq c51 1, r51_0, kq_seq c51 3, r51_1, kq_seq c51 7, kq_seq c51 14, r51_2, F51_rlrr_eq, kq_seq c51 15, kq_seq c51 30, r51_11, b51_rlrrr, kq_seq c51 122, r51_12, kq_ret c51 245, res51_0, kq_skip c51 123, kq_seq c51 31, r51_13, kq_ret c51 63, reduceIte, reduceCtorEq, XE.exit.injEq, Nat.reduceEqDiff, Nat.reduceMul, Nat.reduceAdd] <;> kernel_rfl
theorem F51_call : eInv env (k + 1) (.func 51) #[] #[x0] h = F51 (eInv env k) k x0 h := kq_inv F51_eq
noncomputable def c52 : Code := codeOf Try.prog 52
theorem r52_0  : kCode env 52 false inv k (cp c52 2) (act 19 [(0, x0), (1, x1)]) h K =
    K .normal (act 19 [(0, x0), (1, x1)]) h := kq_reg
theorem r52_1  : kCode env 52 false inv k (cp c52 12) (act 19 [(0, x0), (1, x1)]) h K =
    bnd (pLen Try.prog #[46] x0 h) fun x7 =>
    K .normal (act 19 [(0, x0), (1, x1), (7, x7), (8, (.int .i64 0))]) h := kq_reg
theorem r52_2  : kCode env 52 false inv k (cp c52 104) (act 19 [(0, x0), (1, x1), (7, x7), (8, x8)]) h K =
    bnd (pBin Try.prog .lss 3 (.tmp 8) (.tmp 7) x8 x7) fun x9 =>
    K .normal (act 19 [(0, x0), (1, x1), (7, x7), (8, x8), (9, x9)]) h := kq_reg
theorem b52_lrllrlr  : kCode env 52 false inv k (cp c52 210) (act 19 [(0, x0), (1, x1), (7, x7), (8, x8), (9, x9)]) h K = brV x9 (kCode env 52 false inv k (cp c52 420) (act 19 [(0, x0), (1, x1), (7, x7), (8, x8), (9, x9)]) h K) (kCode env 52 false inv k (cp c52 421) (act 19 [(0, x0), (1, x1), (7, x7), (8, x8), (9, x9)]) h K) := kq_cond
theorem r52_3  : kCode env 52 false inv k (cp c52 1688) (act 19 [(0, x0), (1, x1), (7, x7), (8, x8), (9, x9)]) h K =
    K .normal (act 19 [(0, x0), (1, x1), (5, x8), (7, x7), (8, x8)]) h := kq_reg
theorem r52_4  : kCode env 52 false inv k (cp c52 3378) (act 19 [(0, x0), (1, x1), (5, x5), (7, x7), (8, x8)]) h K =
    bnd (pIndexAddr Try.prog 46 x0 x5) fun x14 =>
    bnd (pLoad Try.prog 3 x14 h) fun x15 =>
    bnd (callV inv x1 #[x15] h) fun x16 =>
    K .normal (act 19 [(0, x0), (1, x1), (5, x5), (7, x7), (8, x8), (16, x16.1)]) x16.2 := kq_reg
theorem b52_rrllrrllrlr  : kCode env 52 false inv k (cp c52 3379) (act 19 [(0, x0), (1, x1), (5, x5), (7, x7), (8, x8), (16, x16)]) h K = brV x16 (kCode env 52 false inv k (cp c52 6758) (act 19 [(0, x0), (1, x1), (5, x5), (7, x7), (8, x8), (16, x16)]) h K) (kCode env 52 false inv k (cp c52 6759) (act 19 [(0, x0), (1, x1), (5, x5), (7, x7), (8, x8), (16, x16)]) h K) := kq_cond
theorem r52_5  : kCode env 52 false inv k (cp c52 13516) (act 19 [(0, x0), (1, x1), (5, x5), (7, x7), (8, x8), (16, x16)]) h K =
    K .normal (act 19 [(4, x5)]) h := kq_reg
theorem r52_6  : kCode env 52 false inv k (cp c52 423) (act 19 [(0, x0), (1, x1), (5, x5), (7, x7), (8, x8), (16, x16)]) h K =
    bnd (pBin Try.prog .add 3 (.tmp 8) (.const (.int .i64 1)) x8 (.int .i64 1)) fun x18 =>
    K .normal (act 19 [(0, x0), (1, x1), (7, x7), (8, x18)]) h := kq_reg
noncomputable def F52_lrlr {β : Type} (inv : Inv) (k : Nat) : Nat → Value → Value → Value → Value → AH → (Value → Value → Value → Value → Value → AH → Option β) → (Value → AH → Option β) → Option β
  | 0, _, _, _, _, _, _, _ => none
  | j + 1, x0, x1, x7, x8, h, ke0, kr =>
    bnd (pBin Try.prog .lss 3 (.tmp 8) (.tmp 7) x8 x7) fun x9 =>
    brV x9
    (bnd (pIndexAddr Try.prog 46 x0 x8) fun x14 =>
    bnd (pLoad Try.prog 3 x14 h) fun x15 =>
    bnd (callV inv x1 #[x15] h) fun x16 =>
    brV x16.1
    (kr x8 x16.2)
    (bnd (pBin Try.prog .add 3 (.tmp 8) (.const (.int .i64 1)) x8 (.int .i64 1)) fun x18 =>
    F52_lrlr inv k j x0 x1 x7 x18 x16.2 ke0 kr))
    (ke0 x0 x1 x7 x8 x9 h)
theorem F52_lrlr_j (j : Nat) : kLoop (kCode env 52 false inv k (cp c52 52)) j (act 19 [(0, x0), (1, x1), (7, x7), (8, x8)]) h K = F52_lrlr inv k j x0 x1 x7 x8 h (fun y0 y1 y7 y8 y9 h => K (.exit 0) (act 19 [(0, y0), (1, y1), (7, y7), (8, y8), (9, y9)]) h) (fun y4 h => K .ret (act 19 [(4, y4)]) h) := by
      induction j generalizing x0 x1 x7 x8 h with
      | zero => rfl
      | succ j ih =>
        unfold F52_lrlr
        simp only [kLoop, kq_seq c52 52, r52_2, kq_seq c52 105, b52_lrllrlr, kq_skip c52 420, kq_seq c52 211, kq_block c52 422 1, kq_seq c52 844, r52_3, kq_seq c52 1689, r52_4, b52_rrllrrllrlr, kq_seq c52 6758, r52_5, kq_ret c52 13517, kq_skip c52 6759, r52_6, kq_exit c52 421 0, ih, reduceIte, reduceCtorEq, XE.exit.injEq, Nat.reduceEqDiff, Nat.reduceMul, Nat.reduceAdd] <;> kernel_rfl
theorem F52_lrlr_eq  : kCode env 52 false inv k (cp c52 26) (act 19 [(0, x0), (1, x1), (7, x7), (8, x8)]) h K = F52_lrlr inv k k x0 x1 x7 x8 h (fun y0 y1 y7 y8 y9 h => K (.exit 0) (act 19 [(0, y0), (1, y1), (7, y7), (8, y8), (9, y9)]) h) (fun y4 h => K .ret (act 19 [(4, y4)]) h) := kq_loop (F52_lrlr_j k)
theorem r52_7  : kCode env 52 false inv k (cp c52 14) (act 19 [(0, x0), (1, x1), (7, x7), (8, x8), (9, x9)]) h K =
    K .normal (act 19 [(4, (.int .i64 (-1)))]) h := kq_reg
theorem res52_0 : resOfFn env.P 52 .ret (act 19 [(4, x4)]) h = some (x4, h) := kq_res
/-- slices.IndexFunc[[]int,int] -/
noncomputable def F52 (inv : Inv) (k : Nat) (x0 x1 : Value) (h : AH) : Option (Value × AH) :=
    bnd (pLen Try.prog #[46] x0 h) fun x7 =>
    F52_lrlr inv k k x0 x1 x7 (.int .i64 0) h
    (fun y0 y1 y7 y8 y9 h =>
    some ((.int .i64 (-1)), h))
    (fun y4 h_1 =>
    some (y4, h_1))
theorem F52_eq : eFun env k inv 52 #[x0, x1] h = F52 inv k x0 x1 h := by
      refine (kq_fun (a := act 19 [(0, x0), (1, x1)]) (c := cp c52 1)).trans ?_
      unfold F52
      simp only [kq_seq c52 1, r52_0, kq_seq c52 3, kq_seq c52 6, r52_1, kq_block c52 13 0, F52_lrlr_eq, kq_seq c52 7, r52_7, kq_ret c52 15, res52_0, reduceIte, reduceCtorEq, XE.exit.injEq, Nat.reduceEqDiff, Nat.reduceMul, Nat.reduceAdd] <;> kernel_rfl
theorem F52_call : eInv env (k + 1) (.func 52) #[] #[x0, x1] h = F52 (eInv env k) k x0 x1 h := kq_inv F52_eq
noncomputable def c53 : Code := codeOf Try.prog 53
theorem r53_0  : kCode env 53 false inv k (cp c53 2) (act 55 [(0, x0)]) h K =
    K .normal (act 55 [(0, x0)]) h := kq_reg
noncomputable abbrev G53_1 {β : Type} (inv : Inv) (x0 : Value) (h : AH) (K : Value → AH → Option β) : Option β :=
    bnd (pLen Try.prog #[9] x0 h) fun x7 =>
    bnd (pBin Try.prog .lss 3 (.tmp 7) (.const (.int .i64 1)) x7 (.int .i64 1)) fun x8 =>
    bnd (gd (some x8) false h (some (x0, h))) fun x10 =>
    bnd (gd (some x8) false x10.2 (lt (pLen Try.prog #[9] x10.1 x10.2) x10.2)) fun x11 =>
    bnd (gd (some x8) false x11.2 (lt (pBin Try.prog .gtr 3 (.tmp 11) (.const (.int .i64 32)) x11.1 (.int .i64 32)) x11.2)) fun x12 =>
    bnd (pickV x8 (.bool true) x12.1) fun x13 =>
    K (x13) x12.2
theorem r53_1  : kCode env 53 false inv k (cp c53 12) (act 55 [(0, x0)]) h K =
    G53_1 inv x0 h fun y13 h => K .normal (act 55 [(0, x0), (13, y13)]) h := kq_reg
theorem b53_rlr  : kCode env 53 false inv k (cp c53 13) (act 55 [(0, x0), (13, x13)]) h K = brV x13 (kCode env 53 false inv k (cp c53 26) (act 55 [(0, x0), (13, x13)]) h K) (kCode env 53 false inv k (cp c53 27) (act 55 [(0, x0), (13, x13)]) h K) := kq_cond
theorem r53_2  : kCode env 53 false inv k (cp c53 52) (act 55 [(0, x0), (13, x13)]) h K =
    K .normal (act 55 [(2, (.int .i64 170))]) h := kq_reg
theorem res53_0 : resOfFn env.P 53 .ret (act 55 [(2, x2)]) h = some (x2, h) := kq_res
theorem r53_3  : kCode env 53 false inv k (cp c53 28) (act 55 [(0, x0), (13, x13)]) h K =
    K .normal (act 55 [(0, x0), (3, (.int .i64 0))]) h := kq_reg
theorem r53_4  : kCode env 53 false inv k (cp c53 464) (act 55 [(0, x0), (3, x3)]) h K =
    bnd (pLen Try.prog #[9] x0 h) fun x16 =>
    bnd (pBin Try.prog .lss 3 (.tmp 14) (.tmp 16) x3 x16) fun x17 =>
    K .normal (act 55 [(0, x0), (3, x3), (17, x17)]) h := kq_reg
theorem b53_rlllrlrr  : kCode env 53 false inv k (cp c53 465) (act 55 [(0, x0), (3, x3), (17, x17)]) h K = brV x17 (kCode env 53 false inv k (cp c53 930) (act 55 [(0, x0), (3, x3), (17, x17)]) h K) (kCode env 53 false inv k (cp c53 931) (act 55 [(0, x0), (3, x3), (17, x17)]) h K) := kq_cond
theorem r53_6  : kCode env 53 false inv k (cp c53 1864) (act 55 [(0, x0), (3, x3), (17, x17)]) h K =
    bnd (pIndex Try.prog 9 x0 x3) fun x22 =>
    K .normal (act 55 [(0, x0), (3, x3), (4, x22)]) h := kq_reg
noncomputable abbrev G53_7 {β : Type} (inv : Inv) (x0 x3 x4 : Value) (h : AH) (K : Value → AH → Option β) : Option β :=
    bnd (pBin Try.prog .geq 5 (.tmp 23) (.const (.int .u8 48)) x4 (.int .u8 48)) fun x24 =>
    bnd (gd (some x24) true h (some (x4, h))) fun x26 =>
    bnd (gd (some x24) true x26.2 (lt (pBin Try.prog .leq 5 (.tmp 26) (.const (.int .u8 57)) x26.1 (.int .u8 57)) x26.2)) fun x27 =>
    bnd (pickV x24 x27.1 (.bool false)) fun x28 =>
    K (x28) x27.2
theorem r53_7  : kCode env 53 false inv k (cp c53 3730) (act 55 [(0, x0), (3, x3), (4, x4)]) h K =
    G53_7 inv x0 x3 x4 h fun y5 h => K .normal (act 55 [(0, x0), (3, x3), (4, x4), (5, y5)]) h := kq_reg
noncomputable abbrev G53_8 {β : Type} (inv : Inv) (x0 x3 x4 x5 : Value) (h : AH) (K : Value → AH → Option β) : Option β :=
    bnd (pBin Try.prog .geq 5 (.tmp 29) (.const (.int .u8 97)) x4 (.int .u8 97)) fun x30 =>
    bnd (gd (some x30) true h (some (x4, h))) fun x32 =>
    bnd (gd (some x30) true x32.2 (lt (pBin Try.prog .leq 5 (.tmp 32) (.const (.int .u8 122)) x32.1 (.int .u8 122)) x32.2)) fun x33 =>
    bnd (pickV x30 x33.1 (.bool false)) fun x34 =>
    bnd (gd (some x34) false x33.2 (some (x4, x33.2))) fun x36 =>
    bnd (gd (some x34) false x36.2 (lt (pBin Try.prog .geq 5 (.tmp 36) (.const (.int .u8 65)) x36.1 (.int .u8 65)) x36.2)) fun x37 =>
    bnd (gd (some x34) false x37.2 (some (x37.1, x37.2))) fun x38 =>
    bnd (gd (some x38.1) true x38.2 (some (x4, x38.2))) fun x39 =>
    bnd (gd (some x38.1) true x39.2 (lt (pBin Try.prog .leq 5 (.tmp 39) (.const (.int .u8 90)) x39.1 (.int .u8 90)) x39.2)) fun x40 =>
    bnd (gd (some x34) false x40.2 (lt (pickV x38.1 x40.1 (.bool false)) x40.2)) fun x41 =>
    bnd (pickV x34 (.bool true) x41.1) fun x42 =>
    bnd (gd (some x42) false x41.2 (some (x4, x41.2))) fun x44 =>
    bnd (gd (some x42) false x44.2 (lt (pBin Try.prog .eql 5 (.tmp 44) (.const (.int .u8 95)) x44.1 (.int .u8 95)) x44.2)) fun x45 =>
    bnd (pickV x42 (.bool true) x45.1) fun x46 =>
    bnd (gd (some x46) false x45.2 (some (x5, x45.2))) fun x48 =>
    bnd (gd (some x46) false x48.2 (some (x48.1, x48.2))) fun x49 =>
    bnd (gd (some x49.1) true x49.2 (some (x3, x49.2))) fun x50 =>
    bnd (gd (some x49.1) true x50.2 (lt (pBin Try.prog .gtr 3 (.tmp 50) (.const (.int .i64 0)) x50.1 (.int .i64 0)) x50.2)) fun x51 =>
    bnd (gd (some x46) false x51.2 (lt (pickV x49.1 x51.1 (.bool false)) x51.2)) fun x52 =>
    bnd (pickV x46 (.bool true) x52.1) fun x53 =>
    bnd (pUn Try.prog .not x53) fun x54 =>
    K (x54) x52.2
theorem r53_8  : kCode env 53 false inv k (cp c53 7462) (act 55 [(0, x0), (3, x3), (4, x4), (5, x5)]) h K =
    G53_8 inv x0 x3 x4 x5 h fun y54 h => K .normal (act 55 [(0, x0), (3, x3), (54, y54)]) h := kq_reg
theorem b53_rrrllrllrlrr  : kCode env 53 false inv k (cp c53 7463) (act 55 [(0, x0), (3, x3), (54, x54)]) h K = brV x54 (kCode env 53 false inv k (cp c53 14926) (act 55 [(0, x0), (3, x3), (54, x54)]) h K) (kCode env 53 false inv k (cp c53 14927) (act 55 [(0, x0), (3, x3), (54, x54)]) h K) := kq_cond
theorem r53_9  : kCode env 53 false inv k (cp c53 29852) (act 55 [(0, x0), (3, x3), (54, x54)]) h K =
    K .normal (act 55 [(2, (.int .i64 170))]) h := kq_reg
theorem r53_5  : kCode env 53 false inv k (cp c53 467) (act 55 [(0, x0), (3, x3), (54, x54)]) h K =
    bnd (pBin Try.prog .add 3 (.tmp 18) (.const (.int .i64 1)) x3 (.int .i64 1)) fun x19 =>
    K .normal (act 55 [(0, x0), (3, x19)]) h := kq_reg
noncomputable def F53_lrlrr {β : Type} (inv : Inv) (k : Nat) : Nat → Value → Value → AH → (Value → Value → Value → AH → Option β) → (Value → AH → Option β) → Option β
  | 0, _, _, _, _, _ => none
  | j + 1, x0, x3, h, ke0, kr =>
    bnd (pLen Try.prog #[9] x0 h) fun x16 =>
    bnd (pBin Try.prog .lss 3 (.tmp 14) (.tmp 16) x3 x16) fun x17 =>
    brV x17
    (bnd (pIndex Try.prog 9 x0 x3) fun x22 =>
    G53_7 inv x0 x3 x22 h fun y5 h =>
    G53_8 inv x0 x3 x22 y5 h fun y54 h_1 =>
    brV y54
    (kr (.int .i64 170) h_1)
    (bnd (pBin Try.prog .add 3 (.tmp 18) (.const (.int .i64 1)) x3 (.int .i64 1)) fun x19 =>
    F53_lrlrr inv k j x0 x19 h_1 ke0 kr))
    (ke0 x0 x3 x17 h)
theorem F53_lrlrr_j (j : Nat) : kLoop (kCode env 53 false inv k (cp c53 116)) j (act 55 [(0, x0), (3, x3)]) h K = F53_lrlrr inv k j x0 x3 h (fun y0 y3 y17 h => K (.exit 0) (act 55 [(0, y0), (3, y3), (17, y17)]) h) (fun y2 h => K .ret (act 55 [(2, y2)]) h) := by
      induction j generalizing x0 x3 h with
      | zero => rfl
      | succ j ih =>
        unfold F53_lrlrr
        simp only [kLoop, kq_seq c53 116, kq_seq c53 232, r53_4, b53_rlllrlrr, kq_skip c53 930, kq_seq c53 233, kq_block c53 466 1, kq_seq c53 932, r53_6, kq_seq c53 1865, r53_7, kq_seq c53 3731, r53_8, b53_rrrllrllrlrr, kq_seq c53 14926, r53_9, kq_ret c53 29853, kq_skip c53 14927, r53_5, kq_exit c53 931 0, ih, reduceIte, reduceCtorEq, XE.exit.injEq, Nat.reduceEqDiff, Nat.reduceMul, Nat.reduceAdd] <;> kernel_rfl
theorem F53_lrlrr_eq  : kCode env 53 false inv k (cp c53 58) (act 55 [(0, x0), (3, x3)]) h K = F53_lrlrr inv k k x0 x3 h (fun y0 y3 y17 h => K (.exit 0) (act 55 [(0, y0), (3, y3), (17, y17)]) h) (fun y2 h => K .ret (act 55 [(2, y2)]) h) := kq_loop (F53_lrlrr_j k)
theorem r53_10  : kCode env 53 false inv k (cp c53 30) (act 55 [(0, x0), (3, x3), (17, x17)]) h K =
    K .normal (act 55 [(2, (.int .i64 0))]) h := kq_reg
/-- shadowbook/shadowbookref17.Name -/
noncomputable def F53 (inv : Inv) (k : Nat) (x0 : Value) (h : AH) : Option (Value × AH) :=
    G53_1 inv x0 h fun y13 h =>
    brV y13
    (some ((.int .i64 170), h))
    (F53_lrlrr inv k k x0 (.int .i64 0) h
    (fun y0 y3 y17 h_2 =>
    some ((.int .i64 0), h_2))
    (fun y2 h_3 =>
    some (y2, h_3)))
theorem F53_eq : eFun env k inv 53 #[x0] h = F53 inv k x0 h := by
      refine (kq_fun (a := act 55 [(0, x0)]) (c := cp c53 1)).trans ?_
      unfold F53
      simp only [kq_seq c53 1, r53_0, kq_seq c53 3, kq_seq c53 6, r53_1, b53_rlr, kq_seq c53 26, r53_2, kq_ret c53 53, res53_0, kq_skip c53 27, kq_seq c53 7, kq_seq c53 14, r53_3, kq_block c53 29 0, F53_lrlrr_eq, kq_seq c53 15, r53_10, kq_ret c53 31, reduceIte, reduceCtorEq, XE.exit.injEq, Nat.reduceEqDiff, Nat.reduceMul, Nat.reduceAdd] <;> kernel_rfl
theorem F53_call : eInv env (k + 1) (.func 53) #[] #[x0] h = F53 (eInv env k) k x0 h := kq_inv F53_eq
noncomputable def c54 : Code := codeOf Try.prog 54
theorem r54_0  : kCode env 54 false inv k (cp c54 2) (act 19 [(0, x0), (1, x1)]) h K =
    K .normal (act 19 [(0, x0), (1, x1)]) h := kq_reg
theorem r54_1  : kCode env 54 false inv k (cp c54 12) (act 19 [(0, x0), (1, x1)]) h K =
    bnd (pLen Try.prog #[46] x0 h) fun x7 =>
    K .normal (act 19 [(0, x0), (1, x1), (7, x7), (8, (.int .i64 0))]) h := kq_reg
theorem r54_2  : kCode env 54 false inv k (cp c54 104) (act 19 [(0, x0), (1, x1), (7, x7), (8, x8)]) h K =
    bnd (pBin Try.prog .lss 3 (.tmp 8) (.tmp 7) x8 x7) fun x9 =>
    K .normal (act 19 [(0, x0), (1, x1), (7, x7), (8, x8), (9, x9)]) h := kq_reg
theorem b54_lrllrlr  : kCode env 54 false inv k (cp c54 210) (act 19 [(0, x0), (1, x1), (7, x7), (8, x8), (9, x9)]) h K = brV x9 (kCode env 54 false inv k (cp c54 420) (act 19 [(0, x0), (1, x1), (7, x7), (8, x8), (9, x9)]) h K) (kCode env 54 false inv k (cp c54 421) (act 19 [(0, x0), (1, x1), (7, x7), (8, x8), (9, x9)]) h K) := kq_cond
theorem r54_3  : kCode env 54 false inv k (cp c54 1688) (act 19 [(0, x0), (1, x1), (7, x7), (8, x8), (9, x9)]) h K =
    K .normal (act 19 [(0, x0), (1, x1), (5, x8), (7, x7), (8, x8)]) h := kq_reg
theorem r54_4  : kCode env 54 false inv k (cp c54 3378) (act 19 [(0, x0), (1, x1), (5, x5), (7, x7), (8, x8)]) h K =
    bnd (pIndexAddr Try.prog 46 x0 x5) fun x14 =>
    bnd (pLoad Try.prog 3 x14 h) fun x15 =>
    bnd (pBin Try.prog .eql 3 (.tmp 11) (.tmp 15) x1 x15) fun x16 =>
    K .normal (act 19 [(0, x0), (1, x1), (5, x5), (7, x7), (8, x8), (16, x16)]) h := kq_reg
theorem b54_rrllrrllrlr  : kCode env 54 false inv k (cp c54 3379) (act 19 [(0, x0), (1, x1), (5, x5), (7, x7), (8, x8), (16, x16)]) h K = brV x16 (kCode env 54 false inv k (cp c54 6758) (act 19 [(0, x0), (1, x1), (5, x5), (7, x7), (8, x8), (16, x16)]) h K) (kCode env 54 false inv k (cp c54 6759) (act 19 [(0, x0), (1, x1), (5, x5), (7, x7), (8, x8), (16, x16)]) h K) := kq_cond
theorem r54_5  : kCode env 54 false inv k (cp c54 13516) (act 19 [(0, x0), (1, x1), (5, x5), (7, x7), (8, x8), (16, x16)]) h K =
    K .normal (act 19 [(4, x5)]) h := kq_reg
theorem r54_6  : kCode env 54 false inv k (cp c54 423) (act 19 [(0, x0), (1, x1), (5, x5), (7, x7), (8, x8), (16, x16)]) h K =
    bnd (pBin Try.prog .add 3 (.tmp 8) (.const (.int .i64 1)) x8 (.int .i64 1)) fun x18 =>
    K .normal (act 19 [(0, x0), (1, x1), (7, x7), (8, x18)]) h := kq_reg
noncomputable def F54_lrlr {β : Type} (inv : Inv) (k : Nat) : Nat → Value → Value → Value → Value → AH → (Value → Value → Value → Value → Value → AH → Option β) → (Value → AH → Option β) → Option β
  | 0, _, _, _, _, _, _, _ => none
  | j + 1, x0, x1, x7, x8, h, ke0, kr =>
    bnd (pBin Try.prog .lss 3 (.tmp 8) (.tmp 7) x8 x7) fun x9 =>
    brV x9
    (bnd (pIndexAddr Try.prog 46 x0 x8) fun x14 =>
    bnd (pLoad Try.prog 3 x14 h) fun x15 =>
    bnd (pBin Try.prog .eql 3 (.tmp 11) (.tmp 15) x1 x15) fun x16 =>
    brV x16
    (kr x8 h)
    (bnd (pBin Try.prog .add 3 (.tmp 8) (.const (.int .i64 1)) x8 (.int .i64 1)) fun x18 =>
    F54_lrlr inv k j x0 x1 x7 x18 h ke0 kr))
    (ke0 x0 x1 x7 x8 x9 h)
theorem F54_lrlr_j (j : Nat) : kLoop (kCode env 54 false inv k (cp c54 52)) j (act 19 [(0, x0), (1, x1), (7, x7), (8, x8)]) h K = F54_lrlr inv k j x0 x1 x7 x8 h (fun y0 y1 y7 y8 y9 h => K (.exit 0) (act 19 [(0, y0), (1, y1), (7, y7), (8, y8), (9, y9)]) h) (fun y4 h => K .ret (act 19 [(4, y4)]) h) := by
      induction j generalizing x0 x1 x7 x8 h with
      | zero => rfl
      | succ j ih =>
        unfold F54_lrlr
        simp only [kLoop, kq_seq c54 52, r54_2, kq_seq c54 105, b54_lrllrlr, kq_skip c54 420, kq_seq c54 211, kq_block c54 422 1, kq_seq c54 844, r54_3, kq_seq c54 1689, r54_4, b54_rrllrrllrlr, kq_seq c54 6758, r54_5, kq_ret c54 13517, kq_skip c54 6759, r54_6, kq_exit c54 421 0, ih, reduceIte, reduceCtorEq, XE.exit.injEq, Nat.reduceEqDiff, Nat.reduceMul, Nat.reduceAdd] <;> kernel_rfl
theorem F54_lrlr_eq  : kCode env 54 false inv k (cp c54 26) (act 19 [(0, x0), (1, x1), (7, x7), (8, x8)]) h K = F54_lrlr inv k k x0 x1 x7 x8 h (fun y0 y1 y7 y8 y9 h => K (.exit 0) (act 19 [(0, y0), (1, y1), (7, y7), (8, y8), (9, y9)]) h) (fun y4 h => K .ret (act 19 [(4, y4)]) h) := kq_loop (F54_lrlr_j k)
theorem r54_7  : kCode env 54 false inv k (cp c54 14) (act 19 [(0, x0), (1, x1), (7, x7), (8, x8), (9, x9)]) h K =
    K .normal (act 19 [(4, (.int .i64 (-1)))]) h := kq_reg
theorem res54_0 : resOfFn env.P 54 .ret (act 19 [(4, x4)]) h = some (x4, h) := kq_res
/-- slices.Index[[]int,int] -/
noncomputable def F54 (inv : Inv) (k : Nat) (x0 x1 : Value) (h : AH) : Option (Value × AH) :=
    bnd (pLen Try.prog #[46] x0 h) fun x7 =>
    F54_lrlr inv k k x0 x1 x7 (.int .i64 0) h
    (fun y0 y1 y7 y8 y9 h =>
    some ((.int .i64 (-1)), h))
    (fun y4 h_1 =>
    some (y4, h_1))
theorem F54_eq : eFun env k inv 54 #[x0, x1] h = F54 inv k x0 x1 h := by
      refine (kq_fun (a := act 19 [(0, x0), (1, x1)]) (c := cp c54 1)).trans ?_
      unfold F54
      simp only [kq_seq c54 1, r54_0, kq_seq c54 3, kq_seq c54 6, r54_1, kq_block c54 13 0, F54_lrlr_eq, kq_seq c54 7, r54_7, kq_ret c54 15, res54_0, reduceIte, reduceCtorEq, XE.exit.injEq, Nat.reduceEqDiff, Nat.reduceMul, Nat.reduceAdd] <;> kernel_rfl
theorem F54_call : eInv env (k + 1) (.func 54) #[] #[x0, x1] h = F54 (eInv env k) k x0 x1 h := kq_inv F54_eq
noncomputable def c55 : Code := codeOf Try.prog 55
theorem r55_0  : kCode env 55 false inv k (cp c55 2) (act 7 [(0, x0), (1, x1)]) h K =
    K .normal (act 7 [(0, x0), (1, x1)]) h := kq_reg
theorem r55_1  : kCode env 55 false inv k (cp c55 6) (act 7 [(0, x0), (1, x1)]) h K =
    bnd (pLoad Try.prog 3 x1 h) fun x5 =>
    bnd (pBin Try.prog .neq 3 (.tmp 4) (.tmp 5) x0 x5) fun x6 =>
    K .normal (act 7 [(3, x6)]) h := kq_reg
theorem res55_0 : resOfFn env.P 55 .ret (act 7 [(3, x3)]) h = some (x3, h) := kq_res
/-- shadowbook/pred.every$1 -/
noncomputable def F55 (inv : Inv) (k : Nat) (x0 x1 : Value) (h : AH) : Option (Value × AH) :=
    bnd (pLoad Try.prog 3 x1 h) fun x5 =>
    bnd (pBin Try.prog .neq 3 (.tmp 4) (.tmp 5) x0 x5) fun x6 =>
    some (x6, h)
theorem F55_eq : eFun env k inv 55 #[x0, x1] h = F55 inv k x0 x1 h := by
      refine (kq_fun (a := act 7 [(0, x0), (1, x1)]) (c := cp c55 1)).trans ?_
      unfold F55
      simp only [kq_seq c55 1, r55_0, kq_seq c55 3, r55_1, kq_ret c55 7, res55_0, reduceIte, reduceCtorEq, XE.exit.injEq, Nat.reduceEqDiff, Nat.reduceMul, Nat.reduceAdd] <;> kernel_rfl
theorem F55_call : eInv env (k + 1) (.func 55) #[] #[x0, x1] h = F55 (eInv env k) k x0 x1 h := kq_inv F55_eq
noncomputable def c56 : Code := codeOf Try.prog 56
theorem r56_0  : kCode env 56 false inv k (cp c56 2) (act 9 [(0, x0), (1, x1)]) h K =
    K .normal (act 9 [(0, x0), (1, x1)]) h := kq_reg
theorem r56_1  : kCode env 56 false inv k (cp c56 24) (act 9 [(0, x0), (1, x1)]) h K =
    K .normal (act 9 [(1, x1), (5, x0)]) h := kq_reg
theorem b56_rllr  : kCode env 56 false inv k (cp c56 25) (act 9 [(1, x1), (5, x5)]) h K = brV x5 (kCode env 56 false inv k (cp c56 50) (act 9 [(1, x1), (5, x5)]) h K) (kCode env 56 false inv k (cp c56 51) (act 9 [(1, x1), (5, x5)]) h K) := kq_cond
theorem r56_2  : kCode env 56 false inv k (cp c56 100) (act 9 [(1, x1), (5, x5)]) h K =
    K .normal (act 9 [(4, (.int .i64 (-1)))]) h := kq_reg
theorem res56_0 : resOfFn env.P 56 .ret (act 9 [(4, x4)]) h = some (x4, h) := kq_res
theorem r56_3  : kCode env 56 false inv k (cp c56 102) (act 9 [(1, x1), (5, x5)]) h K =
    K .normal (act 9 [(7, x1)]) h := kq_reg
theorem b56_rrrllr  : kCode env 56 false inv k (cp c56 103) (act 9 [(7, x7)]) h K = brV x7 (kCode env 56 false inv k (cp c56 206) (act 9 [(7, x7)]) h K) (kCode env 56 false inv k (cp c56 207) (act 9 [(7, x7)]) h K) := kq_cond
theorem r56_4  : kCode env 56 false inv k (cp c56 412) (act 9 [(7, x7)]) h K =
    K .normal (act 9 [(4, (.int .i64 1))]) h := kq_reg
theorem r56_5  : kCode env 56 false inv k (cp c56 14) (act 9 [(7, x7)]) h K =
    K .normal (act 9 [(4, (.int .i64 0))]) h := kq_reg
/-- shadowbook/shadowbookref16.sign -/
noncomputable def F56 (inv : Inv) (k : Nat) (x0 x1 : Value) (h : AH) : Option (Value × AH) :=
    brV x0
    (some ((.int .i64 (-1)), h))
    (brV x1
    (some ((.int .i64 1), h))
    (some ((.int .i64 0), h)))
theorem F56_eq : eFun env k inv 56 #[x0, x1] h = F56 inv k x0 x1 h := by
      refine (kq_fun (a := act 9 [(0, x0), (1, x1)]) (c := cp c56 1)).trans ?_
      unfold F56
      simp only [kq_seq c56 1, r56_0, kq_seq c56 3, kq_block c56 6 0, kq_seq c56 12, r56_1, b56_rllr, kq_seq c56 50, r56_2, kq_ret c56 101, res56_0, kq_seq c56 51, r56_3, b56_rrrllr, kq_seq c56 206, r56_4, kq_ret c56 413, kq_skip c56 207, kq_seq c56 7, r56_5, kq_ret c56 15, reduceIte, reduceCtorEq, XE.exit.injEq, Nat.reduceEqDiff, Nat.reduceMul, Nat.reduceAdd] <;> kernel_rfl
theorem F56_call : eInv env (k + 1) (.func 56) #[] #[x0, x1] h = F56 (eInv env k) k x0 x1 h := kq_inv F56_eq
noncomputable def c59 : Code := codeOf Try.prog 59
theorem r59_0  : kCode env 59 false inv k (cp c59 2) (act 5 [(0, x0)]) h K =
    K .normal (act 5 [(0, x0)]) h := kq_reg
theorem r59_1  : kCode env 59 false inv k (cp c59 6) (act 5 [(0, x0)]) h K =
    bnd (pBin Try.prog .eql 3 (.tmp 3) (.const (.int .i64 0)) x0 (.int .i64 0)) fun x4 =>
    K .normal (act 5 [(2, x4)]) h := kq_reg
theorem res59_0 : resOfFn env.P 59 .ret (act 5 [(2, x2)]) h = some (x2, h) := kq_res
/-- shadowbook/pred.orders$1 -/
noncomputable def F59 (inv : Inv) (k : Nat) (x0 : Value) (h : AH) : Option (Value × AH) :=
    bnd (pBin Try.prog .eql 3 (.tmp 3) (.const (.int .i64 0)) x0 (.int .i64 0)) fun x4 =>
    some (x4, h)
theorem F59_eq : eFun env k inv 59 #[x0] h = F59 inv k x0 h := by
      refine (kq_fun (a := act 5 [(0, x0)]) (c := cp c59 1)).trans ?_
      unfold F59
      simp only [kq_seq c59 1, r59_0, kq_seq c59 3, r59_1, kq_ret c59 7, res59_0, reduceIte, reduceCtorEq, XE.exit.injEq, Nat.reduceEqDiff, Nat.reduceMul, Nat.reduceAdd] <;> kernel_rfl
theorem F59_call : eInv env (k + 1) (.func 59) #[] #[x0] h = F59 (eInv env k) k x0 h := kq_inv F59_eq
noncomputable def c60 : Code := codeOf Try.prog 60
theorem r60_0  : kCode env 60 false inv k (cp c60 2) (act 5 [(0, x0)]) h K =
    K .normal (act 5 [(0, x0)]) h := kq_reg
theorem r60_1  : kCode env 60 false inv k (cp c60 6) (act 5 [(0, x0)]) h K =
    bnd (pBin Try.prog .lss 3 (.tmp 3) (.const (.int .i64 0)) x0 (.int .i64 0)) fun x4 =>
    K .normal (act 5 [(2, x4)]) h := kq_reg
theorem res60_0 : resOfFn env.P 60 .ret (act 5 [(2, x2)]) h = some (x2, h) := kq_res
/-- shadowbook/pred.orders$2 -/
noncomputable def F60 (inv : Inv) (k : Nat) (x0 : Value) (h : AH) : Option (Value × AH) :=
    bnd (pBin Try.prog .lss 3 (.tmp 3) (.const (.int .i64 0)) x0 (.int .i64 0)) fun x4 =>
    some (x4, h)
theorem F60_eq : eFun env k inv 60 #[x0] h = F60 inv k x0 h := by
      refine (kq_fun (a := act 5 [(0, x0)]) (c := cp c60 1)).trans ?_
      unfold F60
      simp only [kq_seq c60 1, r60_0, kq_seq c60 3, r60_1, kq_ret c60 7, res60_0, reduceIte, reduceCtorEq, XE.exit.injEq, Nat.reduceEqDiff, Nat.reduceMul, Nat.reduceAdd] <;> kernel_rfl
theorem F60_call : eInv env (k + 1) (.func 60) #[] #[x0] h = F60 (eInv env k) k x0 h := kq_inv F60_eq
noncomputable def c61 : Code := codeOf Try.prog 61
theorem r61_0  : kCode env 61 false inv k (cp c61 2) (act 5 [(0, x0)]) h K =
    K .normal (act 5 [(0, x0)]) h := kq_reg
theorem r61_1  : kCode env 61 false inv k (cp c61 6) (act 5 [(0, x0)]) h K =
    bnd (pBin Try.prog .gtr 3 (.tmp 3) (.const (.int .i64 0)) x0 (.int .i64 0)) fun x4 =>
    K .normal (act 5 [(2, x4)]) h := kq_reg
theorem res61_0 : resOfFn env.P 61 .ret (act 5 [(2, x2)]) h = some (x2, h) := kq_res
/-- shadowbook/pred.orders$3 -/
noncomputable def F61 (inv : Inv) (k : Nat) (x0 : Value) (h : AH) : Option (Value × AH) :=
    bnd (pBin Try.prog .gtr 3 (.tmp 3) (.const (.int .i64 0)) x0 (.int .i64 0)) fun x4 =>
    some (x4, h)
theorem F61_eq : eFun env k inv 61 #[x0] h = F61 inv k x0 h := by
      refine (kq_fun (a := act 5 [(0, x0)]) (c := cp c61 1)).trans ?_
      unfold F61
      simp only [kq_seq c61 1, r61_0, kq_seq c61 3, r61_1, kq_ret c61 7, res61_0, reduceIte, reduceCtorEq, XE.exit.injEq, Nat.reduceEqDiff, Nat.reduceMul, Nat.reduceAdd] <;> kernel_rfl
theorem F61_call : eInv env (k + 1) (.func 61) #[] #[x0] h = F61 (eInv env k) k x0 h := kq_inv F61_eq
noncomputable def c62 : Code := codeOf Try.prog 62
theorem r62_0  : kCode env 62 false inv k (cp c62 2) (act 18 [(0, x0)]) h K =
    K .normal (act 18 [(0, x0)]) h := kq_reg
theorem r62_1  : kCode env 62 false inv k (cp c62 6) (act 18 [(0, x0)]) h K =
    K .normal (act 18 [(0, x0), (3, (.int .i64 0))]) h := kq_reg
theorem r62_2  : kCode env 62 false inv k (cp c62 28) (act 18 [(0, x0), (3, x3)]) h K =
    bnd (pLen Try.prog #[46] x0 h) fun x7 =>
    K .normal (act 18 [(3, x3), (6, x0), (7, x7), (8, (.int .i64 0))]) h := kq_reg
theorem r62_3  : kCode env 62 false inv k (cp c62 232) (act 18 [(3, x3), (6, x6), (7, x7), (8, x8)]) h K =
    bnd (pBin Try.prog .lss 3 (.tmp 8) (.tmp 7) x8 x7) fun x9 =>
    K .normal (act 18 [(3, x3), (6, x6), (7, x7), (8, x8), (9, x9)]) h := kq_reg
theorem b62_lrllrlrr  : kCode env 62 false inv k (cp c62 466) (act 18 [(3, x3), (6, x6), (7, x7), (8, x8), (9, x9)]) h K = brV x9 (kCode env 62 false inv k (cp c62 932) (act 18 [(3, x3), (6, x6), (7, x7), (8, x8), (9, x9)]) h K) (kCode env 62 false inv k (cp c62 933) (act 18 [(3, x3), (6, x6), (7, x7), (8, x8), (9, x9)]) h K) := kq_cond
theorem r62_4  : kCode env 62 false inv k (cp c62 3736) (act 18 [(3, x3), (6, x6), (7, x7), (8, x8), (9, x9)]) h K =
    bnd (pIndexAddr Try.prog 46 x6 x8) fun x10 =>
    bnd (pLoad Try.prog 3 x10 h) fun x11 =>
    K .normal (act 18 [(3, x3), (5, x11), (6, x6), (7, x7), (8, x8)]) h := kq_reg
theorem r62_5  : kCode env 62 false inv k (cp c62 7474) (act 18 [(3, x3), (5, x5), (6, x6), (7, x7), (8, x8)]) h K =
    bnd (pBin Try.prog .neq 3 (.tmp 12) (.tmp 13) x5 x3) fun x14 =>
    K .normal (act 18 [(3, x3), (5, x5), (6, x6), (7, x7), (8, x8), (14, x14)]) h := kq_reg
theorem b62_rrllrrllrlrr  : kCode env 62 false inv k (cp c62 7475) (act 18 [(3, x3), (5, x5), (6, x6), (7, x7), (8, x8), (14, x14)]) h K = brV x14 (kCode env 62 false inv k (cp c62 14950) (act 18 [(3, x3), (5, x5), (6, x6), (7, x7), (8, x8), (14, x14)]) h K) (kCode env 62 false inv k (cp c62 14951) (act 18 [(3, x3), (5, x5), (6, x6), (7, x7), (8, x8), (14, x14)]) h K) := kq_cond
theorem r62_6  : kCode env 62 false inv k (cp c62 29900) (act 18 [(3, x3), (5, x5), (6, x6), (7, x7), (8, x8), (14, x14)]) h K =
    K .normal (act 18 [(2, x5)]) h := kq_reg
theorem r62_7  : kCode env 62 false inv k (cp c62 935) (act 18 [(3, x3), (5, x5), (6, x6), (7, x7), (8, x8), (14, x14)]) h K =
    bnd (pBin Try.prog .add 3 (.tmp 8) (.const (.int .i64 1)) x8 (.int .i64 1)) fun x16 =>
    K .normal (act 18 [(3, x3), (6, x6), (7, x7), (8, x16)]) h := kq_reg
noncomputable def F62_lrlrr {β : Type} (inv : Inv) (k : Nat) : Nat → Value → Value → Value → Value → AH → (Value → Value → Value → Value → Value → AH → Option β) → (Value → AH → Option β) → Option β
  | 0, _, _, _, _, _, _, _ => none
  | j + 1, x3, x6, x7, x8, h, ke0, kr =>
    bnd (pBin Try.prog .lss 3 (.tmp 8) (.tmp 7) x8 x7) fun x9 =>
    brV x9
    (bnd (pIndexAddr Try.prog 46 x6 x8) fun x10 =>
    bnd (pLoad Try.prog 3 x10 h) fun x11 =>
    bnd (pBin Try.prog .neq 3 (.tmp 12) (.tmp 13) x11 x3) fun x14 =>
    brV x14
    (kr x11 h)
    (bnd (pBin Try.prog .add 3 (.tmp 8) (.const (.int .i64 1)) x8 (.int .i64 1)) fun x16 =>
    F62_lrlrr inv k j x3 x6 x7 x16 h ke0 kr))
    (ke0 x3 x6 x7 x8 x9 h)
theorem F62_lrlrr_j (j : Nat) : kLoop (kCode env 62 false inv k (cp c62 116)) j (act 18 [(3, x3), (6, x6), (7, x7), (8, x8)]) h K = F62_lrlrr inv k j x3 x6 x7 x8 h (fun y3 y6 y7 y8 y9 h => K (.exit 0) (act 18 [(3, y3), (6, y6), (7, y7), (8, y8), (9, y9)]) h) (fun y2 h => K .ret (act 18 [(2, y2)]) h) := by
      induction j generalizing x3 x6 x7 x8 h with
      | zero => rfl
      | succ j ih =>
        unfold F62_lrlrr
        simp only [kLoop, kq_seq c62 116, r62_3, kq_seq c62 233, b62_lrllrlrr, kq_skip c62 932, kq_seq c62 467, kq_block c62 934 1, kq_seq c62 1868, r62_4, kq_seq c62 3737, r62_5, b62_rrllrrllrlrr, kq_seq c62 14950, r62_6, kq_ret c62 29901, kq_skip c62 14951, r62_7, kq_exit c62 933 0, ih, reduceIte, reduceCtorEq, XE.exit.injEq, Nat.reduceEqDiff, Nat.reduceMul, Nat.reduceAdd] <;> kernel_rfl
theorem F62_lrlrr_eq  : kCode env 62 false inv k (cp c62 58) (act 18 [(3, x3), (6, x6), (7, x7), (8, x8)]) h K = F62_lrlrr inv k k x3 x6 x7 x8 h (fun y3 y6 y7 y8 y9 h => K (.exit 0) (act 18 [(3, y3), (6, y6), (7, y7), (8, y8), (9, y9)]) h) (fun y2 h => K .ret (act 18 [(2, y2)]) h) := kq_loop (F62_lrlrr_j k)
theorem r62_8  : kCode env 62 false inv k (cp c62 30) (act 18 [(3, x3), (6, x6), (7, x7), (8, x8), (9, x9)]) h K =
    K .normal (act 18 [(2, x3)]) h := kq_reg
theorem res62_0 : resOfFn env.P 62 .ret (act 18 [(2, x2)]) h = some (x2, h) := kq_res
/-- cmp.Or[int] -/
noncomputable def F62 (inv : Inv) (k : Nat) (x0 : Value) (h : AH) : Option (Value × AH) :=
    bnd (pLen Try.prog #[46] x0 h) fun x7 =>
    F62_lrlrr inv k k (.int .i64 0) x0 x7 (.int .i64 0) h
    (fun y3 y6 y7 y8 y9 h =>
    some (y3, h))
    (fun y2 h_1 =>
    some (y2, h_1))
theorem F62_eq : eFun env k inv 62 #[x0] h = F62 inv k x0 h := by
      refine (kq_fun (a := act 18 [(0, x0)]) (c := cp c62 1)).trans ?_
      unfold F62
      simp only [kq_seq c62 1, r62_0, kq_seq c62 3, r62_1, kq_seq c62 7, kq_seq c62 14, r62_2, kq_block c62 29 0, F62_lrlrr_eq, kq_seq c62 15, r62_8, kq_ret c62 31, res62_0, reduceIte, reduceCtorEq, XE.exit.injEq, Nat.reduceEqDiff, Nat.reduceMul, Nat.reduceAdd] <;> kernel_rfl
theorem F62_call : eInv env (k + 1) (.func 62) #[] #[x0] h = F62 (eInv env k) k x0 h := kq_inv F62_eq
noncomputable def c63 : Code := codeOf Try.prog 63
theorem r63_0  : kCode env 63 false inv k (cp c63 2) (act 20 [(0, x0), (1, x1)]) h K =
    K .normal (act 20 [(0, x0), (1, x1)]) h := kq_reg
theorem r63_1  : kCode env 63 false inv k (cp c63 6) (act 20 [(0, x0), (1, x1)]) h K =
    bnd (inv (.func 78) #[] #[x0] h) fun x8 =>
    K .normal (act 20 [(0, x0), (1, x1), (5, x8.1)]) x8.2 := kq_reg
theorem r63_2  : kCode env 63 false inv k (cp c63 14) (act 20 [(0, x0), (1, x1), (5, x5)]) h K =
    bnd (inv (.func 78) #[] #[x1] h) fun x10 =>
    K .normal (act 20 [(0, x0), (1, x1), (5, x5), (6, x10.1)]) x10.2 := kq_reg
theorem r63_3  : kCode env 63 false inv k (cp c63 60) (act 20 [(0, x0), (1, x1), (5, x5), (6, x6)]) h K =
    K .normal (act 20 [(0, x0), (1, x1), (6, x6), (11, x5)]) h := kq_reg
theorem b63_rlrrr  : kCode env 63 false inv k (cp c63 61) (act 20 [(0, x0), (1, x1), (6, x6), (11, x11)]) h K = brV x11 (kCode env 63 false inv k (cp c63 122) (act 20 [(0, x0), (1, x1), (6, x6), (11, x11)]) h K) (kCode env 63 false inv k (cp c63 123) (act 20 [(0, x0), (1, x1), (6, x6), (11, x11)]) h K) := kq_cond
theorem r63_4  : kCode env 63 false inv k (cp c63 488) (act 20 [(0, x0), (1, x1), (6, x6), (11, x11)]) h K =
    K .normal (act 20 [(12, x6)]) h := kq_reg
theorem b63_rllrlrrr  : kCode env 63 false inv k (cp c63 489) (act 20 [(12, x12)]) h K = brV x12 (kCode env 63 false inv k (cp c63 978) (act 20 [(12, x12)]) h K) (kCode env 63 false inv k (cp c63 979) (act 20 [(12, x12)]) h K) := kq_cond
theorem r63_5  : kCode env 63 false inv k (cp c63 1956) (act 20 [(12, x12)]) h K =
    K .normal (act 20 [(4, (.int .i64 0))]) h := kq_reg
theorem res63_0 : resOfFn env.P 63 .ret (act 20 [(4, x4)]) h = some (x4, h) := kq_res
theorem r63_6  : kCode env 63 false inv k (cp c63 490) (act 20 [(12, x12)]) h K =
    K .normal (act 20 [(4, (.int .i64 (-1)))]) h := kq_reg
theorem r63_7  : kCode env 63 false inv k (cp c63 124) (act 20 [(0, x0), (1, x1), (6, x6), (11, x11)]) h K =
    K .normal (act 20 [(0, x0), (1, x1), (13, x6)]) h := kq_reg
theorem b63_rlrrrr  : kCode env 63 false inv k (cp c63 125) (act 20 [(0, x0), (1, x1), (13, x13)]) h K = brV x13 (kCode env 63 false inv k (cp c63 250) (act 20 [(0, x0), (1, x1), (13, x13)]) h K) (kCode env 63 false inv k (cp c63 251) (act 20 [(0, x0), (1, x1), (13, x13)]) h K) := kq_cond
theorem r63_8  : kCode env 63 false inv k (cp c63 500) (act 20 [(0, x0), (1, x1), (13, x13)]) h K =
    K .normal (act 20 [(4, (.int .i64 1))]) h := kq_reg
theorem r63_9  : kCode env 63 false inv k (cp c63 252) (act 20 [(0, x0), (1, x1), (13, x13)]) h K =
    bnd (pBin Try.prog .lss 3 (.tmp 14) (.tmp 15) x0 x1) fun x16 =>
    K .normal (act 20 [(0, x0), (1, x1), (16, x16)]) h := kq_reg
theorem b63_rlrrrrr  : kCode env 63 false inv k (cp c63 253) (act 20 [(0, x0), (1, x1), (16, x16)]) h K = brV x16 (kCode env 63 false inv k (cp c63 506) (act 20 [(0, x0), (1, x1), (16, x16)]) h K) (kCode env 63 false inv k (cp c63 507) (act 20 [(0, x0), (1, x1), (16, x16)]) h K) := kq_cond
theorem r63_10  : kCode env 63 false inv k (cp c63 1012) (act 20 [(0, x0), (1, x1), (16, x16)]) h K =
    K .normal (act 20 [(4, (.int .i64 (-1)))]) h := kq_reg
theorem r63_11  : kCode env 63 false inv k (cp c63 508) (act 20 [(0, x0), (1, x1), (16, x16)]) h K =
    bnd (pBin Try.prog .gtr 3 (.tmp 17) (.tmp 18) x0 x1) fun x19 =>
    K .normal (act 20 [(19, x19)]) h := kq_reg
theorem b63_rlrrrrrr  : kCode env 63 false inv k (cp c63 509) (act 20 [(19, x19)]) h K = brV x19 (kCode env 63 false inv k (cp c63 1018) (act 20 [(19, x19)]) h K) (kCode env 63 false inv k (cp c63 1019) (act 20 [(19, x19)]) h K) := kq_cond
theorem r63_12  : kCode env 63 false inv k (cp c63 2036) (act 20 [(19, x19)]) h K =
    K .normal (act 20 [(4, (.int .i64 1))]) h := kq_reg
theorem r63_13  : kCode env 63 false inv k (cp c63 510) (act 20 [(19, x19)]) h K =
    K .normal (act 20 [(4, (.int .i64 0))]) h := kq_reg
/-- cmp.Compare[int] -/
noncomputable def F63 (inv : Inv) (k : Nat) (x0 x1 : Value) (h : AH) : Option (Value × AH) :=
    bnd (inv (.func 78) #[] #[x0] h) fun x8 =>
    bnd (inv (.func 78) #[] #[x1] x8.2) fun x10 =>
    brV x8.1
    (brV x10.1
    (some ((.int .i64 0), x10.2))
    (some ((.int .i64 (-1)), x10.2)))
    (brV x10.1
    (some ((.int .i64 1), x10.2))
    (bnd (pBin Try.prog .lss 3 (.tmp 14) (.tmp 15) x0 x1) fun x16 =>
    brV x16
    (some ((.int .i64 (-1)), x10.2))
    (bnd (pBin Try.prog .gtr 3 (.tmp 17) (.tmp 18) x0 x1) fun x19 =>
    brV x19
    (some ((.int .i64 1), x10.2))
    (some ((.int .i64 0), x10.2)))))
theorem F63_eq : eFun env k inv 63 #[x0, x1] h = F63 inv k x0 x1 h := by
      refine (kq_fun (a := act 20 [(0, x0), (1, x1)]) (c := cp c63 1)).trans ?_
      unfold F63
      simp only [kq_seq c63 1, r63_0, kq_seq c63 3, r63_1, kq_seq c63 7, r63_2, kq_seq c63 15, kq_seq c63 30, r63_3, b63_rlrrr, kq_seq c63 122, kq_seq c63 244, r63_4, b63_rllrlrrr, kq_seq c63 978, r63_5, kq_ret c63 1957, res63_0, kq_skip c63 979, kq_seq c63 245, r63_6, kq_ret c63 491, kq_skip c63 123, kq_seq c63 31, kq_seq c63 62, r63_7, b63_rlrrrr, kq_seq c63 250, r63_8, kq_ret c63 501, kq_skip c63 251, kq_seq c63 63, kq_seq c63 126, r63_9, b63_rlrrrrr, kq_seq c63 506, r63_10, kq_ret c63 1013, kq_skip c63 507, kq_seq c63 127, kq_seq c63 254, r63_11, b63_rlrrrrrr, kq_seq c63 1018, r63_12, kq_ret c63 2037, kq_skip c63 1019, kq_seq c63 255, r63_13, kq_ret c63 511, reduceIte, reduceCtorEq, XE.exit.injEq, Nat.reduceEqDiff, Nat.reduceMul, Nat.reduceAdd] <;> kernel_rfl
theorem F63_call : eInv env (k + 1) (.func 63) #[] #[x0, x1] h = F63 (eInv env k) k x0 x1 h := kq_inv F63_eq
noncomputable def c64 : Code := codeOf Try.prog 64
theorem r64_0  : kCode env 64 false inv k (cp c64 2) (act 20 [(0, x0), (1, x1)]) h K =
    K .normal (act 20 [(0, x0), (1, x1)]) h := kq_reg
theorem r64_1  : kCode env 64 false inv k (cp c64 6) (act 20 [(0, x0), (1, x1)]) h K =
    bnd (inv (.func 79) #[] #[x0] h) fun x8 =>
    K .normal (act 20 [(0, x0), (1, x1), (5, x8.1)]) x8.2 := kq_reg
theorem r64_2  : kCode env 64 false inv k (cp c64 14) (act 20 [(0, x0), (1, x1), (5, x5)]) h K =
    bnd (inv (.func 79) #[] #[x1] h) fun x10 =>
    K .normal (act 20 [(0, x0), (1, x1), (5, x5), (6, x10.1)]) x10.2 := kq_reg
theorem r64_3  : kCode env 64 false inv k (cp c64 60) (act 20 [(0, x0), (1, x1), (5, x5), (6, x6)]) h K =
    K .normal (act 20 [(0, x0), (1, x1), (6, x6), (11, x5)]) h := kq_reg
theorem b64_rlrrr  : kCode env 64 false inv k (cp c64 61) (act 20 [(0, x0), (1, x1), (6, x6), (11, x11)]) h K = brV x11 (kCode env 64 false inv k (cp c64 122) (act 20 [(0, x0), (1, x1), (6, x6), (11, x11)]) h K) (kCode env 64 false inv k (cp c64 123) (act 20 [(0, x0), (1, x1), (6, x6), (11, x11)]) h K) := kq_cond
theorem r64_4  : kCode env 64 false inv k (cp c64 488) (act 20 [(0, x0), (1, x1), (6, x6), (11, x11)]) h K =
    K .normal (act 20 [(12, x6)]) h := kq_reg
theorem b64_rllrlrrr  : kCode env 64 false inv k (cp c64 489) (act 20 [(12, x12)]) h K = brV x12 (kCode env 64 false inv k (cp c64 978) (act 20 [(12, x12)]) h K) (kCode env 64 false inv k (cp c64 979) (act 20 [(12, x12)]) h K) := kq_cond
theorem r64_5  : kCode env 64 false inv k (cp c64 1956) (act 20 [(12, x12)]) h K =
    K .normal (act 20 [(4, (.int .i64 0))]) h := kq_reg
theorem res64_0 : resOfFn env.P 64 .ret (act 20 [(4, x4)]) h = some (x4, h) := kq_res
theorem r64_6  : kCode env 64 false inv k (cp c64 490) (act 20 [(12, x12)]) h K =
    K .normal (act 20 [(4, (.int .i64 (-1)))]) h := kq_reg
theorem r64_7  : kCode env 64 false inv k (cp c64 124) (act 20 [(0, x0), (1, x1), (6, x6), (11, x11)]) h K =
    K .normal (act 20 [(0, x0), (1, x1), (13, x6)]) h := kq_reg
theorem b64_rlrrrr  : kCode env 64 false inv k (cp c64 125) (act 20 [(0, x0), (1, x1), (13, x13)]) h K = brV x13 (kCode env 64 false inv k (cp c64 250) (act 20 [(0, x0), (1, x1), (13, x13)]) h K) (kCode env 64 false inv k (cp c64 251) (act 20 [(0, x0), (1, x1), (13, x13)]) h K) := kq_cond
theorem r64_8  : kCode env 64 false inv k (cp c64 500) (act 20 [(0, x0), (1, x1), (13, x13)]) h K =
    K .normal (act 20 [(4, (.int .i64 1))]) h := kq_reg
theorem r64_9  : kCode env 64 false inv k (cp c64 252) (act 20 [(0, x0), (1, x1), (13, x13)]) h K =
    bnd (pBin Try.prog .lss 2 (.tmp 14) (.tmp 15) x0 x1) fun x16 =>
    K .normal (act 20 [(0, x0), (1, x1), (16, x16)]) h := kq_reg
theorem b64_rlrrrrr  : kCode env 64 false inv k (cp c64 253) (act 20 [(0, x0), (1, x1), (16, x16)]) h K = brV x16 (kCode env 64 false inv k (cp c64 506) (act 20 [(0, x0), (1, x1), (16, x16)]) h K) (kCode env 64 false inv k (cp c64 507) (act 20 [(0, x0), (1, x1), (16, x16)]) h K) := kq_cond
theorem r64_10  : kCode env 64 false inv k (cp c64 1012) (act 20 [(0, x0), (1, x1), (16, x16)]) h K =
    K .normal (act 20 [(4, (.int .i64 (-1)))]) h := kq_reg
theorem r64_11  : kCode env 64 false inv k (cp c64 508) (act 20 [(0, x0), (1, x1), (16, x16)]) h K =
    bnd (pBin Try.prog .gtr 2 (.tmp 17) (.tmp 18) x0 x1) fun x19 =>
    K .normal (act 20 [(19, x19)]) h := kq_reg
theorem b64_rlrrrrrr  : kCode env 64 false inv k (cp c64 509) (act 20 [(19, x19)]) h K = brV x19 (kCode env 64 false inv k (cp c64 1018) (act 20 [(19, x19)]) h K) (kCode env 64 false inv k (cp c64 1019) (act 20 [(19, x19)]) h K) := kq_cond
theorem r64_12  : kCode env 64 false inv k (cp c64 2036) (act 20 [(19, x19)]) h K =
    K .normal (act 20 [(4, (.int .i64 1))]) h := kq_reg
theorem r64_13  : kCode env 64 false inv k (cp c64 510) (act 20 [(19, x19)]) h K =
    K .normal (act 20 [(4, (.int .i64 0))]) h := kq_reg
/-- cmp.Compare[int64] -/
noncomputable def F64 (inv : Inv) (k : Nat) (x0 x1 : Value) (h : AH) : Option (Value × AH) :=
    bnd (inv (.func 79) #[] #[x0] h) fun x8 =>
    bnd (inv (.func 79) #[] #[x1] x8.2) fun x10 =>
    brV x8.1
    (brV x10.1
    (some ((.int .i64 0), x10.2))
    (some ((.int .i64 (-1)), x10.2)))
    (brV x10.1
    (some ((.int .i64 1), x10.2))
    (bnd (pBin Try.prog .lss 2 (.tmp 14) (.tmp 15) x0 x1) fun x16 =>
    brV x16
    (some ((.int .i64 (-1)), x10.2))
    (bnd (pBin Try.prog .gtr 2 (.tmp 17) (.tmp 18) x0 x1) fun x19 =>
    brV x19
    (some ((.int .i64 1), x10.2))
    (some ((.int .i64 0), x10.2)))))
theorem F64_eq : eFun env k inv 64 #[x0, x1] h = F64 inv k x0 x1 h := by
      refine (kq_fun (a := act 20 [(0, x0), (1, x1)]) (c := cp c64 1)).trans ?_
      unfold F64
      simp only [kq_seq c64 1, r64_0, kq_seq c64 3, r64_1, kq_seq c64 7, r64_2, kq_seq c64 15, kq_seq c64 30, r64_3, b64_rlrrr, kq_seq c64 122, kq_seq c64 244, r64_4, b64_rllrlrrr, kq_seq c64 978, r64_5, kq_ret c64 1957, res64_0, kq_skip c64 979, kq_seq c64 245, r64_6, kq_ret c64 491, kq_skip c64 123, kq_seq c64 31, kq_seq c64 62, r64_7, b64_rlrrrr, kq_seq c64 250, r64_8, kq_ret c64 501, kq_skip c64 251, kq_seq c64 63, kq_seq c64 126, r64_9, b64_rlrrrrr, kq_seq c64 506, r64_10, kq_ret c64 1013, kq_skip c64 507, kq_seq c64 127, kq_seq c64 254, r64_11, b64_rlrrrrrr, kq_seq c64 1018, r64_12, kq_ret c64 2037, kq_skip c64 1019, kq_seq c64 255, r64_13, kq_ret c64 511, reduceIte, reduceCtorEq, XE.exit.injEq, Nat.reduceEqDiff, Nat.reduceMul, Nat.reduceAdd] <;> kernel_rfl
theorem F64_call : eInv env (k + 1) (.func 64) #[] #[x0, x1] h = F64 (eInv env k) k x0 x1 h := kq_inv F64_eq
noncomputable def c65 : Code := codeOf Try.prog 65
theorem r65_0  : kCode env 65 false inv k (cp c65 2) (act 8 [(0, x0), (1, x1)]) h K =
    K .normal (act 8 [(0, x0), (1, x1)]) h := kq_reg
theorem r65_1  : kCode env 65 false inv k (cp c65 6) (act 8 [(0, x0), (1, x1)]) h K =
    bnd (inv (.func 80) #[] #[x0, x1] h) fun x7 =>
    K .normal (act 8 [(4, x7.1)]) x7.2 := kq_reg
theorem res65_0 : resOfFn env.P 65 .ret (act 8 [(4, x4)]) h = some (x4, h) := kq_res
/-- strings.Compare -/
noncomputable def F65 (inv : Inv) (k : Nat) (x0 x1 : Value) (h : AH) : Option (Value × AH) :=
    bnd (inv (.func 80) #[] #[x0, x1] h) fun x7 =>
    some (x7.1, x7.2)
theorem F65_eq : eFun env k inv 65 #[x0, x1] h = F65 inv k x0 x1 h := by
      refine (kq_fun (a := act 8 [(0, x0), (1, x1)]) (c := cp c65 1)).trans ?_
      unfold F65
      simp only [kq_seq c65 1, r65_0, kq_seq c65 3, r65_1, kq_ret c65 7, res65_0, reduceIte, reduceCtorEq, XE.exit.injEq, Nat.reduceEqDiff, Nat.reduceMul, Nat.reduceAdd] <;> kernel_rfl
theorem F65_call : eInv env (k + 1) (.func 65) #[] #[x0, x1] h = F65 (eInv env k) k x0 x1 h := kq_inv F65_eq
noncomputable def c66 : Code := codeOf Try.prog 66
theorem r66_0  : kCode env 66 false inv k (cp c66 2) (act 19 [(0, x0), (1, x1)]) h K =
    K .normal (act 19 [(0, x0), (1, x1)]) h := kq_reg
theorem r66_1  : kCode env 66 false inv k (cp c66 12) (act 19 [(0, x0), (1, x1)]) h K =
    bnd (pLen Try.prog #[30] x0 h) fun x7 =>
    K .normal (act 19 [(0, x0), (1, x1), (7, x7), (8, (.int .i64 0))]) h := kq_reg
theorem r66_2  : kCode env 66 false inv k (cp c66 104) (act 19 [(0, x0), (1, x1), (7, x7), (8, x8)]) h K =
    bnd (pBin Try.prog .lss 3 (.tmp 8) (.tmp 7) x8 x7) fun x9 =>
    K .normal (act 19 [(0, x0), (1, x1), (7, x7), (8, x8), (9, x9)]) h := kq_reg
theorem b66_lrllrlr  : kCode env 66 false inv k (cp c66 210) (act 19 [(0, x0), (1, x1), (7, x7), (8, x8), (9, x9)]) h K = brV x9 (kCode env 66 false inv k (cp c66 420) (act 19 [(0, x0), (1, x1), (7, x7), (8, x8), (9, x9)]) h K) (kCode env 66 false inv k (cp c66 421) (act 19 [(0, x0), (1, x1), (7, x7), (8, x8), (9, x9)]) h K) := kq_cond
theorem r66_3  : kCode env 66 false inv k (cp c66 1688) (act 19 [(0, x0), (1, x1), (7, x7), (8, x8), (9, x9)]) h K =
    K .normal (act 19 [(0, x0), (1, x1), (5, x8), (7, x7), (8, x8)]) h := kq_reg
theorem r66_4  : kCode env 66 false inv k (cp c66 3378) (act 19 [(0, x0), (1, x1), (5, x5), (7, x7), (8, x8)]) h K =
    bnd (pIndexAddr Try.prog 30 x0 x5) fun x14 =>
    bnd (pLoad Try.prog 50 x14 h) fun x15 =>
    bnd (callV inv x1 #[x15] h) fun x16 =>
    K .normal (act 19 [(0, x0), (1, x1), (5, x5), (7, x7), (8, x8), (16, x16.1)]) x16.2 := kq_reg
theorem b66_rrllrrllrlr  : kCode env 66 false inv k (cp c66 3379) (act 19 [(0, x0), (1, x1), (5, x5), (7, x7), (8, x8), (16, x16)]) h K = brV x16 (kCode env 66 false inv k (cp c66 6758) (act 19 [(0, x0), (1, x1), (5, x5), (7, x7), (8, x8), (16, x16)]) h K) (kCode env 66 false inv k (cp c66 6759) (act 19 [(0, x0), (1, x1), (5, x5), (7, x7), (8, x8), (16, x16)]) h K) := kq_cond
theorem r66_5  : kCode env 66 false inv k (cp c66 13516) (act 19 [(0, x0), (1, x1), (5, x5), (7, x7), (8, x8), (16, x16)]) h K =
    K .normal (act 19 [(4, x5)]) h := kq_reg
theorem r66_6  : kCode env 66 false inv k (cp c66 423) (act 19 [(0, x0), (1, x1), (5, x5), (7, x7), (8, x8), (16, x16)]) h K =
    bnd (pBin Try.prog .add 3 (.tmp 8) (.const (.int .i64 1)) x8 (.int .i64 1)) fun x18 =>
    K .normal (act 19 [(0, x0), (1, x1), (7, x7), (8, x18)]) h := kq_reg
noncomputable def F66_lrlr {β : Type} (inv : Inv) (k : Nat) : Nat → Value → Value → Value → Value → AH → (Value → Value → Value → Value → Value → AH → Option β) → (Value → AH → Option β) → Option β
  | 0, _, _, _, _, _, _, _ => none
  | j + 1, x0, x1, x7, x8, h, ke0, kr =>
    bnd (pBin Try.prog .lss 3 (.tmp 8) (.tmp 7) x8 x7) fun x9 =>
    brV x9
    (bnd (pIndexAddr Try.prog 30 x0 x8) fun x14 =>
    bnd (pLoad Try.prog 50 x14 h) fun x15 =>
    bnd (callV inv x1 #[x15] h) fun x16 =>
    brV x16.1
    (kr x8 x16.2)
    (bnd (pBin Try.prog .add 3 (.tmp 8) (.const (.int .i64 1)) x8 (.int .i64 1)) fun x18 =>
    F66_lrlr inv k j x0 x1 x7 x18 x16.2 ke0 kr))
    (ke0 x0 x1 x7 x8 x9 h)
theorem F66_lrlr_j (j : Nat) : kLoop (kCode env 66 false inv k (cp c66 52)) j (act 19 [(0, x0), (1, x1), (7, x7), (8, x8)]) h K = F66_lrlr inv k j x0 x1 x7 x8 h (fun y0 y1 y7 y8 y9 h => K (.exit 0) (act 19 [(0, y0), (1, y1), (7, y7), (8, y8), (9, y9)]) h) (fun y4 h => K .ret (act 19 [(4, y4)]) h) := by
      induction j generalizing x0 x1 x7 x8 h with
      | zero => rfl
      | succ j ih =>
        unfold F66_lrlr
        simp only [kLoop, kq_seq c66 52, r66_2, kq_seq c66 105, b66_lrllrlr, kq_skip c66 420, kq_seq c66 211, kq_block c66 422 1, kq_seq c66 844, r66_3, kq_seq c66 1689, r66_4, b66_rrllrrllrlr, kq_seq c66 6758, r66_5, kq_ret c66 13517, kq_skip c66 6759, r66_6, kq_exit c66 421 0, ih, reduceIte, reduceCtorEq, XE.exit.injEq, Nat.reduceEqDiff, Nat.reduceMul, Nat.reduceAdd] <;> kernel_rfl
theorem F66_lrlr_eq  : kCode env 66 false inv k (cp c66 26) (act 19 [(0, x0), (1, x1), (7, x7), (8, x8)]) h K = F66_lrlr inv k k x0 x1 x7 x8 h (fun y0 y1 y7 y8 y9 h => K (.exit 0) (act 19 [(0, y0), (1, y1), (7, y7), (8, y8), (9, y9)]) h) (fun y4 h => K .ret (act 19 [(4, y4)]) h) := kq_loop (F66_lrlr_j k)
theorem r66_7  : kCode env 66 false inv k (cp c66 14) (act 19 [(0, x0), (1, x1), (7, x7), (8, x8), (9, x9)]) h K =
    K .normal (act 19 [(4, (.int .i64 (-1)))]) h := kq_reg
theorem res66_0 : resOfFn env.P 66 .ret (act 19 [(4, x4)]) h = some (x4, h) := kq_res
/-- slices.IndexFunc[[]shadowbook/api.Col,shadowbook/api.Col] -/
noncomputable def F66 (inv : Inv) (k : Nat) (x0 x1 : Value) (h : AH) : Option (Value × AH) :=
    bnd (pLen Try.prog #[30] x0 h) fun x7 =>
    F66_lrlr inv k k x0 x1 x7 (.int .i64 0) h
    (fun y0 y1 y7 y8 y9 h =>
    some ((.int .i64 (-1)), h))
    (fun y4 h_1 =>
    some (y4, h_1))
theorem F66_eq : eFun env k inv 66 #[x0, x1] h = F66 inv k x0 x1 h := by
      refine (kq_fun (a := act 19 [(0, x0), (1, x1)]) (c := cp c66 1)).trans ?_
      unfold F66
      simp only [kq_seq c66 1, r66_0, kq_seq c66 3, kq_seq c66 6, r66_1, kq_block c66 13 0, F66_lrlr_eq, kq_seq c66 7, r66_7, kq_ret c66 15, res66_0, reduceIte, reduceCtorEq, XE.exit.injEq, Nat.reduceEqDiff, Nat.reduceMul, Nat.reduceAdd] <;> kernel_rfl
theorem F66_call : eInv env (k + 1) (.func 66) #[] #[x0, x1] h = F66 (eInv env k) k x0 x1 h := kq_inv F66_eq
noncomputable def c78 : Code := codeOf Try.prog 78
theorem r78_0  : kCode env 78 false inv k (cp c78 2) (act 6 [(0, x0)]) h K =
    K .normal (act 6 [(0, x0)]) h := kq_reg
theorem r78_1  : kCode env 78 false inv k (cp c78 6) (act 6 [(0, x0)]) h K =
    bnd (pBin Try.prog .neq 3 (.tmp 3) (.tmp 4) x0 x0) fun x5 =>
    K .normal (act 6 [(2, x5)]) h := kq_reg
theorem res78_0 : resOfFn env.P 78 .ret (act 6 [(2, x2)]) h = some (x2, h) := kq_res
/-- cmp.isNaN[int] -/
noncomputable def F78 (inv : Inv) (k : Nat) (x0 : Value) (h : AH) : Option (Value × AH) :=
    bnd (pBin Try.prog .neq 3 (.tmp 3) (.tmp 4) x0 x0) fun x5 =>
    some (x5, h)
theorem F78_eq : eFun env k inv 78 #[x0] h = F78 inv k x0 h := by
      refine (kq_fun (a := act 6 [(0, x0)]) (c := cp c78 1)).trans ?_
      unfold F78
      simp only [kq_seq c78 1, r78_0, kq_seq c78 3, r78_1, kq_ret c78 7, res78_0, reduceIte, reduceCtorEq, XE.exit.injEq, Nat.reduceEqDiff, Nat.reduceMul, Nat.reduceAdd] <;> kernel_rfl
theorem F78_call : eInv env (k + 1) (.func 78) #[] #[x0] h = F78 (eInv env k) k x0 h := kq_inv F78_eq
noncomputable def c79 : Code := codeOf Try.prog 79
theorem r79_0  : kCode env 79 false inv k (cp c79 2) (act 6 [(0, x0)]) h K =
    K .normal (act 6 [(0, x0)]) h := kq_reg
theorem r79_1  : kCode env 79 false inv k (cp c79 6) (act 6 [(0, x0)]) h K =
    bnd (pBin Try.prog .neq 2 (.tmp 3) (.tmp 4) x0 x0) fun x5 =>
    K .normal (act 6 [(2, x5)]) h := kq_reg
theorem res79_0 : resOfFn env.P 79 .ret (act 6 [(2, x2)]) h = some (x2, h) := kq_res
/-- cmp.isNaN[int64] -/
noncomputable def F79 (inv : Inv) (k : Nat) (x0 : Value) (h : AH) : Option (Value × AH) :=
    bnd (pBin Try.prog .neq 2 (.tmp 3) (.tmp 4) x0 x0) fun x5 =>
    some (x5, h)
theorem F79_eq : eFun env k inv 79 #[x0] h = F79 inv k x0 h := by
      refine (kq_fun (a := act 6 [(0, x0)]) (c := cp c79 1)).trans ?_
      unfold F79
      simp only [kq_seq c79 1, r79_0, kq_seq c79 3, r79_1, kq_ret c79 7, res79_0, reduceIte, reduceCtorEq, XE.exit.injEq, Nat.reduceEqDiff, Nat.reduceMul, Nat.reduceAdd] <;> kernel_rfl
theorem F79_call : eInv env (k + 1) (.func 79) #[] #[x0] h = F79 (eInv env k) k x0 h := kq_inv F79_eq
noncomputable def c80 : Code := codeOf Try.prog 80
theorem r80_0  : kCode env 80 false inv k (cp c80 2) (act 8 [(0, x0), (1, x1)]) h K =
    K .normal (act 8 [(0, x0), (1, x1)]) h := kq_reg
theorem r80_1  : kCode env 80 false inv k (cp c80 6) (act 8 [(0, x0), (1, x1)]) h K =
    bnd (inv (.func 86) #[] #[x0, x1] h) fun x7 =>
    K .normal (act 8 [(4, x7.1)]) x7.2 := kq_reg
theorem res80_0 : resOfFn env.P 80 .ret (act 8 [(4, x4)]) h = some (x4, h) := kq_res
/-- internal/bytealg.CompareString -/
noncomputable def F80 (inv : Inv) (k : Nat) (x0 x1 : Value) (h : AH) : Option (Value × AH) :=
    bnd (inv (.func 86) #[] #[x0, x1] h) fun x7 =>
    some (x7.1, x7.2)
theorem F80_eq : eFun env k inv 80 #[x0, x1] h = F80 inv k x0 x1 h := by
      refine (kq_fun (a := act 8 [(0, x0), (1, x1)]) (c := cp c80 1)).trans ?_
      unfold F80
      simp only [kq_seq c80 1, r80_0, kq_seq c80 3, r80_1, kq_ret c80 7, res80_0, reduceIte, reduceCtorEq, XE.exit.injEq, Nat.reduceEqDiff, Nat.reduceMul, Nat.reduceAdd] <;> kernel_rfl
theorem F80_call : eInv env (k + 1) (.func 80) #[] #[x0, x1] h = F80 (eInv env k) k x0 x1 h := kq_inv F80_eq
end Go.Proofs.Ytmhgihjmhmihpaa.Sh
