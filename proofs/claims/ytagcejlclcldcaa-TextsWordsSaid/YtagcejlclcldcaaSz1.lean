/- Shallow functions, part 1. Printed by a program of the prover's own from the loaded program; Lean checks it. -/
import Derived.Test.YtagcejlclcldcaaSz0
set_option linter.unusedVariables false
set_option linter.unusedSimpArgs false
set_option maxRecDepth 100000
namespace Go.Proofs.Ytagcejlclcldcaa.Sh
open Go Go.RowKit Go.Proofs.Ev
variable {β : Type} {inv : Inv} {k : Nat} {h : AH} {K : XE → Act → AH → Option β} {x0 x1 x2 x3 x4 x5 x6 x7 x8 x9 x10 x11 x12 x13 x14 x15 x16 x17 x18 x19 x20 x21 x22 x23 x24 x25 x26 x27 x28 x29 x52 x55 x56 x58 x62 x63 x64 x65 x67 x71 x72 x73 x74 x75 x76 x79 x80 : Value}
noncomputable def c3 : Code := codeOf Try.prog 3
theorem r3_0  : kCode env 3 false inv k (cp c3 2) (act 107 [(0, x0), (1, x1), (2, x2)]) h K =
    K .normal (act 107 [(0, x0), (1, x1), (2, x2)]) h := kq_reg
theorem r3_1  : kCode env 3 false inv k (cp c3 12) (act 107 [(0, x0), (1, x1), (2, x2)]) h K =
    bnd (inv (.func 8) #[] #[] h) fun x12 =>
    bnd (pUn Try.prog .not x12.1) fun x13 =>
    K .normal (act 107 [(0, x0), (1, x1), (2, x2), (13, x13)]) x12.2 := kq_reg
theorem b3_rlr  : kCode env 3 false inv k (cp c3 13) (act 107 [(0, x0), (1, x1), (2, x2), (13, x13)]) h K = brV x13 (kCode env 3 false inv k (cp c3 26) (act 107 [(0, x0), (1, x1), (2, x2), (13, x13)]) h K) (kCode env 3 false inv k (cp c3 27) (act 107 [(0, x0), (1, x1), (2, x2), (13, x13)]) h K) := kq_cond
theorem r3_2  : kCode env 3 false inv k (cp c3 52) (act 107 [(0, x0), (1, x1), (2, x2), (13, x13)]) h K =
    K .normal (act 107 [(6, (.bool false))]) h := kq_reg
theorem res3_0 : resOfFn env.P 3 .ret (act 107 [(6, x6)]) h = some (x6, h) := kq_res
noncomputable abbrev G3_3 {β : Type} (inv : Inv) (x0 x1 x2 : Value) (h : AH) (K : Value → AH → Option β) : Option β :=
    bnd (inv (.func 9) #[] #[x0] h) fun x15 =>
    bnd (pUn Try.prog .not x15.1) fun x16 =>
    bnd (gd (some x16) false x15.2 (some (x0, x15.2))) fun x18 =>
    bnd (gd (some x16) false x18.2 (lt (pLen Try.prog #[22] x18.1 x18.2) x18.2)) fun x19 =>
    bnd (gd (some x16) false x19.2 (lt (pBin Try.prog .eql 3 (.tmp 19) (.const (.int .i64 0)) x19.1 (.int .i64 0)) x19.2)) fun x20 =>
    bnd (pickV x16 (.bool true) x20.1) fun x21 =>
    K (x21) x20.2
theorem r3_3  : kCode env 3 false inv k (cp c3 28) (act 107 [(0, x0), (1, x1), (2, x2), (13, x13)]) h K =
    G3_3 inv x0 x1 x2 h fun y21 h => K .normal (act 107 [(0, x0), (1, x1), (2, x2), (21, y21)]) h := kq_reg
theorem b3_rlrr  : kCode env 3 false inv k (cp c3 29) (act 107 [(0, x0), (1, x1), (2, x2), (21, x21)]) h K = brV x21 (kCode env 3 false inv k (cp c3 58) (act 107 [(0, x0), (1, x1), (2, x2), (21, x21)]) h K) (kCode env 3 false inv k (cp c3 59) (act 107 [(0, x0), (1, x1), (2, x2), (21, x21)]) h K) := kq_cond
theorem r3_4  : kCode env 3 false inv k (cp c3 116) (act 107 [(0, x0), (1, x1), (2, x2), (21, x21)]) h K =
    K .normal (act 107 [(6, (.bool true))]) h := kq_reg
theorem r3_5  : kCode env 3 false inv k (cp c3 30) (act 107 [(0, x0), (1, x1), (2, x2), (21, x21)]) h K =
    bnd (inv (.func 10) #[] #[x0] h) fun x23 =>
    K .normal (act 107 [(0, x0), (1, x1), (2, x2), (7, x23.1)]) x23.2 := kq_reg
theorem r3_6  : kCode env 3 false inv k (cp c3 124) (act 107 [(0, x0), (1, x1), (2, x2), (7, x7)]) h K =
    K .normal (act 107 [(0, x0), (1, x1), (2, x2), (7, x7), (8, (.int .i64 0))]) h := kq_reg
theorem r3_7  : kCode env 3 false inv k (cp c3 2000) (act 107 [(0, x0), (1, x1), (2, x2), (7, x7), (8, x8)]) h K =
    bnd (pLen Try.prog #[22] x7 h) fun x26 =>
    bnd (pBin Try.prog .lss 3 (.tmp 24) (.tmp 26) x8 x26) fun x27 =>
    K .normal (act 107 [(0, x0), (1, x1), (2, x2), (7, x7), (8, x8), (27, x27)]) h := kq_reg
theorem b3_rlllrlrrrr  : kCode env 3 false inv k (cp c3 2001) (act 107 [(0, x0), (1, x1), (2, x2), (7, x7), (8, x8), (27, x27)]) h K = brV x27 (kCode env 3 false inv k (cp c3 4002) (act 107 [(0, x0), (1, x1), (2, x2), (7, x7), (8, x8), (27, x27)]) h K) (kCode env 3 false inv k (cp c3 4003) (act 107 [(0, x0), (1, x1), (2, x2), (7, x7), (8, x8), (27, x27)]) h K) := kq_cond
noncomputable abbrev G3_9 {β : Type} (inv : Inv) (x0 x1 x2 x7 x8 : Value) (h : AH) (K : Value → AH → Option β) : Option β :=
    bnd (pBin Try.prog .gtr 3 (.tmp 30) (.const (.int .i64 0)) x8 (.int .i64 0)) fun x31 =>
    bnd (gd3 (some x31) true h (some (x7, h))) fun x33 =>
    bnd (gd3 (some x31) true x33.2.1 (some (x8, x33.2.1))) fun x34 =>
    bnd (gd3 (some x31) true x34.2.1 (lt (pIndexAddr Try.prog 22 x33.1 x34.1) x34.2.1)) fun x35 =>
    bnd (gd3 (some x31) true x35.2.1 (lt (pLoad Try.prog 9 x35.1 x35.2.1) x35.2.1)) fun x36 =>
    bnd (gd3 (some x31) true x36.2.1 (some (x7, x36.2.1))) fun x37 =>
    bnd (gd3 (some x31) true x37.2.1 (some (x8, x37.2.1))) fun x38 =>
    bnd (gd3 (some x31) true x38.2.1 (lt (pBin Try.prog .sub 3 (.tmp 38) (.const (.int .i64 1)) x38.1 (.int .i64 1)) x38.2.1)) fun x39 =>
    bnd (gd3 (some x31) true x39.2.1 (lt (pIndexAddr Try.prog 22 x37.1 x39.1) x39.2.1)) fun x40 =>
    bnd (gd3 (some x31) true x40.2.1 (lt (pLoad Try.prog 9 x40.1 x40.2.1) x40.2.1)) fun x41 =>
    bnd (gd3 (some x31) true x41.2.1 (lt (pBin Try.prog .leq 9 (.tmp 36) (.tmp 41) x36.1 x41.1) x41.2.1)) fun x42 =>
    bnd (pickV x31 x42.1 (.bool false)) fun x43 =>
    bnd (gd3 (some x43) false x42.2.1 (some (x0, x42.2.1))) fun x45 =>
    bnd (gd3 (some x43) false x45.2.1 (some (x7, x45.2.1))) fun x46 =>
    bnd (gd3 (some x43) false x46.2.1 (some (x8, x46.2.1))) fun x47 =>
    bnd (gd3 (some x43) false x47.2.1 (lt (pIndexAddr Try.prog 22 x46.1 x47.1) x47.2.1)) fun x48 =>
    bnd (gd3 (some x43) false x48.2.1 (lt (pLoad Try.prog 9 x48.1 x48.2.1) x48.2.1)) fun x49 =>
    bnd (gd3 (some x43) false x49.2.1 (inv (.func 11) #[] #[x45.1, x49.1] x49.2.1)) fun x50 =>
    bnd (gd3 (some x43) false x50.2.1 (lt (pUn Try.prog .not x50.1) x50.2.1)) fun x51 =>
    bnd (pickV x43 (.bool true) x51.1) fun x52 =>
    K (x52) x51.2.1
theorem r3_9  : kCode env 3 false inv k (cp c3 8008) (act 107 [(0, x0), (1, x1), (2, x2), (7, x7), (8, x8), (27, x27)]) h K =
    G3_9 inv x0 x1 x2 x7 x8 h fun y52 h => K .normal (act 107 [(0, x0), (1, x1), (2, x2), (7, x7), (8, x8), (52, y52)]) h := kq_draw
theorem b3_rllrllrlrrrr  : kCode env 3 false inv k (cp c3 8009) (act 107 [(0, x0), (1, x1), (2, x2), (7, x7), (8, x8), (52, x52)]) h K = brV x52 (kCode env 3 false inv k (cp c3 16018) (act 107 [(0, x0), (1, x1), (2, x2), (7, x7), (8, x8), (52, x52)]) h K) (kCode env 3 false inv k (cp c3 16019) (act 107 [(0, x0), (1, x1), (2, x2), (7, x7), (8, x8), (52, x52)]) h K) := kq_cond
theorem r3_10  : kCode env 3 false inv k (cp c3 32036) (act 107 [(0, x0), (1, x1), (2, x2), (7, x7), (8, x8), (52, x52)]) h K =
    K .normal (act 107 [(6, (.bool false))]) h := kq_reg
theorem r3_8  : kCode env 3 false inv k (cp c3 2003) (act 107 [(0, x0), (1, x1), (2, x2), (7, x7), (8, x8), (52, x52)]) h K =
    bnd (pBin Try.prog .add 3 (.tmp 28) (.const (.int .i64 1)) x8 (.int .i64 1)) fun x29 =>
    K .normal (act 107 [(0, x0), (1, x1), (2, x2), (7, x7), (8, x29)]) h := kq_reg
noncomputable def F3_lrlrrrr {β : Type} (inv : Inv) (k : Nat) : Nat → Value → Value → Value → Value → Value → AH → (Value → Value → Value → Value → Value → Value → AH → Option β) → (Value → AH → Option β) → Option β
  | 0, _, _, _, _, _, _, _, _ => none
  | j + 1, x0, x1, x2, x7, x8, h, ke0, kr =>
    bnd (pLen Try.prog #[22] x7 h) fun x26 =>
    bnd (pBin Try.prog .lss 3 (.tmp 24) (.tmp 26) x8 x26) fun x27 =>
    brV x27
    (G3_9 inv x0 x1 x2 x7 x8 h fun y52 h =>
    brV y52
    (kr (.bool false) h)
    (bnd (pBin Try.prog .add 3 (.tmp 28) (.const (.int .i64 1)) x8 (.int .i64 1)) fun x29 =>
    F3_lrlrrrr inv k j x0 x1 x2 x7 x29 h ke0 kr))
    (ke0 x0 x1 x2 x7 x8 x27 h)
theorem F3_lrlrrrr_j (j : Nat) : kLoop (kCode env 3 false inv k (cp c3 500)) j (act 107 [(0, x0), (1, x1), (2, x2), (7, x7), (8, x8)]) h K = F3_lrlrrrr inv k j x0 x1 x2 x7 x8 h (fun y0 y1 y2 y7 y8 y27 h => K (.exit 0) (act 107 [(0, y0), (1, y1), (2, y2), (7, y7), (8, y8), (27, y27)]) h) (fun y6 h => K .ret (act 107 [(6, y6)]) h) := by
      induction j generalizing x0 x1 x2 x7 x8 h with
      | zero => rfl
      | succ j ih =>
        unfold F3_lrlrrrr
        simp only [kLoop, kq_seq c3 500, kq_seq c3 1000, r3_7, b3_rlllrlrrrr, kq_skip c3 4002, kq_seq c3 1001, kq_block c3 2002 1, kq_seq c3 4004, r3_9, b3_rllrllrlrrrr, kq_seq c3 16018, r3_10, kq_ret c3 32037, kq_skip c3 16019, r3_8, kq_exit c3 4003 0, ih, reduceIte, reduceCtorEq, XE.exit.injEq, Nat.reduceEqDiff, Nat.reduceMul, Nat.reduceAdd] <;> kernel_rfl
theorem F3_lrlrrrr_eq  : kCode env 3 false inv k (cp c3 250) (act 107 [(0, x0), (1, x1), (2, x2), (7, x7), (8, x8)]) h K = F3_lrlrrrr inv k k x0 x1 x2 x7 x8 h (fun y0 y1 y2 y7 y8 y27 h => K (.exit 0) (act 107 [(0, y0), (1, y1), (2, y2), (7, y7), (8, y8), (27, y27)]) h) (fun y6 h => K .ret (act 107 [(6, y6)]) h) := kq_loop (F3_lrlrrrr_j k)
theorem r3_11  : kCode env 3 false inv k (cp c3 252) (act 107 [(0, x0), (1, x1), (2, x2), (7, x7), (8, x8), (27, x27)]) h K =
    K .normal (act 107 [(0, x0), (1, x1), (2, x2), (7, x7), (9, (.int .i64 0))]) h := kq_reg
theorem r3_12  : kCode env 3 false inv k (cp c3 4048) (act 107 [(0, x0), (1, x1), (2, x2), (7, x7), (9, x9)]) h K =
    bnd (pLen Try.prog #[22] x0 h) fun x55 =>
    bnd (pBin Try.prog .lss 3 (.tmp 53) (.tmp 55) x9 x55) fun x56 =>
    K .normal (act 107 [(0, x0), (1, x1), (2, x2), (7, x7), (9, x9), (56, x56)]) h := kq_reg
theorem b3_rlllrlrrrrr  : kCode env 3 false inv k (cp c3 4049) (act 107 [(0, x0), (1, x1), (2, x2), (7, x7), (9, x9), (56, x56)]) h K = brV x56 (kCode env 3 false inv k (cp c3 8098) (act 107 [(0, x0), (1, x1), (2, x2), (7, x7), (9, x9), (56, x56)]) h K) (kCode env 3 false inv k (cp c3 8099) (act 107 [(0, x0), (1, x1), (2, x2), (7, x7), (9, x9), (56, x56)]) h K) := kq_cond
theorem r3_14  : kCode env 3 false inv k (cp c3 16200) (act 107 [(0, x0), (1, x1), (2, x2), (7, x7), (9, x9), (56, x56)]) h K =
    bnd (pIndexAddr Try.prog 22 x0 x9) fun x62 =>
    bnd (pLoad Try.prog 9 x62 h) fun x63 =>
    bnd (inv (.func 11) #[] #[x7, x63] h) fun x64 =>
    bnd (pUn Try.prog .not x64.1) fun x65 =>
    K .normal (act 107 [(0, x0), (1, x1), (2, x2), (7, x7), (9, x9), (65, x65)]) x64.2 := kq_reg
theorem b3_rllrllrlrrrrr  : kCode env 3 false inv k (cp c3 16201) (act 107 [(0, x0), (1, x1), (2, x2), (7, x7), (9, x9), (65, x65)]) h K = brV x65 (kCode env 3 false inv k (cp c3 32402) (act 107 [(0, x0), (1, x1), (2, x2), (7, x7), (9, x9), (65, x65)]) h K) (kCode env 3 false inv k (cp c3 32403) (act 107 [(0, x0), (1, x1), (2, x2), (7, x7), (9, x9), (65, x65)]) h K) := kq_cond
theorem r3_15  : kCode env 3 false inv k (cp c3 64804) (act 107 [(0, x0), (1, x1), (2, x2), (7, x7), (9, x9), (65, x65)]) h K =
    K .normal (act 107 [(6, (.bool false))]) h := kq_reg
theorem r3_13  : kCode env 3 false inv k (cp c3 4051) (act 107 [(0, x0), (1, x1), (2, x2), (7, x7), (9, x9), (65, x65)]) h K =
    bnd (pBin Try.prog .add 3 (.tmp 57) (.const (.int .i64 1)) x9 (.int .i64 1)) fun x58 =>
    K .normal (act 107 [(0, x0), (1, x1), (2, x2), (7, x7), (9, x58)]) h := kq_reg
noncomputable def F3_lrlrrrrr {β : Type} (inv : Inv) (k : Nat) : Nat → Value → Value → Value → Value → Value → AH → (Value → Value → Value → Value → Value → Value → AH → Option β) → (Value → AH → Option β) → Option β
  | 0, _, _, _, _, _, _, _, _ => none
  | j + 1, x0, x1, x2, x7, x9, h, ke2, kr =>
    bnd (pLen Try.prog #[22] x0 h) fun x55 =>
    bnd (pBin Try.prog .lss 3 (.tmp 53) (.tmp 55) x9 x55) fun x56 =>
    brV x56
    (bnd (pIndexAddr Try.prog 22 x0 x9) fun x62 =>
    bnd (pLoad Try.prog 9 x62 h) fun x63 =>
    bnd (inv (.func 11) #[] #[x7, x63] h) fun x64 =>
    bnd (pUn Try.prog .not x64.1) fun x65 =>
    brV x65
    (kr (.bool false) x64.2)
    (bnd (pBin Try.prog .add 3 (.tmp 57) (.const (.int .i64 1)) x9 (.int .i64 1)) fun x58 =>
    F3_lrlrrrrr inv k j x0 x1 x2 x7 x58 x64.2 ke2 kr))
    (ke2 x0 x1 x2 x7 x9 x56 h)
theorem F3_lrlrrrrr_j (j : Nat) : kLoop (kCode env 3 false inv k (cp c3 1012)) j (act 107 [(0, x0), (1, x1), (2, x2), (7, x7), (9, x9)]) h K = F3_lrlrrrrr inv k j x0 x1 x2 x7 x9 h (fun y0 y1 y2 y7 y9 y56 h => K (.exit 2) (act 107 [(0, y0), (1, y1), (2, y2), (7, y7), (9, y9), (56, y56)]) h) (fun y6 h => K .ret (act 107 [(6, y6)]) h) := by
      induction j generalizing x0 x1 x2 x7 x9 h with
      | zero => rfl
      | succ j ih =>
        unfold F3_lrlrrrrr
        simp only [kLoop, kq_seq c3 1012, kq_seq c3 2024, r3_12, b3_rlllrlrrrrr, kq_skip c3 8098, kq_seq c3 2025, kq_block c3 4050 3, kq_seq c3 8100, r3_14, b3_rllrllrlrrrrr, kq_seq c3 32402, r3_15, kq_ret c3 64805, kq_skip c3 32403, r3_13, kq_exit c3 8099 2, ih, reduceIte, reduceCtorEq, XE.exit.injEq, Nat.reduceEqDiff, Nat.reduceMul, Nat.reduceAdd] <;> kernel_rfl
theorem F3_lrlrrrrr_eq  : kCode env 3 false inv k (cp c3 506) (act 107 [(0, x0), (1, x1), (2, x2), (7, x7), (9, x9)]) h K = F3_lrlrrrrr inv k k x0 x1 x2 x7 x9 h (fun y0 y1 y2 y7 y9 y56 h => K (.exit 2) (act 107 [(0, y0), (1, y1), (2, y2), (7, y7), (9, y9), (56, y56)]) h) (fun y6 h => K .ret (act 107 [(6, y6)]) h) := kq_loop (F3_lrlrrrrr_j k)
theorem r3_16  : kCode env 3 false inv k (cp c3 254) (act 107 [(0, x0), (1, x1), (2, x2), (7, x7), (9, x9), (56, x56)]) h K =
    bnd (inv (.func 12) #[] #[x0] h) fun x67 =>
    bnd (pLen Try.prog #[22] x0 x67.2) fun x71 =>
    bnd (inv (.func 13) #[] #[x1, x71] x67.2) fun x72 =>
    bnd (pIndexAddr Try.prog 22 x0 x72.1) fun x73 =>
    bnd (pLoad Try.prog 9 x73 x72.2) fun x74 =>
    bnd (pBuildSlice Try.prog 22 1 #[(0, x74)] x72.2) fun x75 =>
    bnd (pAppend Try.prog #[22, 22] x67.1 x75.1 x75.2) fun x76 =>
    K .normal (act 107 [(0, x0), (2, x2), (7, x7), (10, x76.1)]) x76.2 := kq_reg
theorem r3_17  : kCode env 3 false inv k (cp c3 510) (act 107 [(0, x0), (2, x2), (7, x7), (10, x10)]) h K =
    bnd (pLen Try.prog #[22] x0 h) fun x79 =>
    bnd (inv (.func 13) #[] #[x2, x79] h) fun x80 =>
    K .normal (act 107 [(0, x0), (7, x7), (10, x10), (11, x80.1)]) x80.2 := kq_reg
noncomputable abbrev G3_18 {β : Type} (inv : Inv) (x0 x7 x10 x11 : Value) (h : AH) (K : AH → Option β) : Option β :=
    bnd (pLen Try.prog #[22] x0 h) fun x85 =>
    bnd (pLen Try.prog #[22] x0 h) fun x88 =>
    bnd (pIndexAddr Try.prog 22 x10 x88) fun x89 =>
    bnd (pLoad Try.prog 9 x89 h) fun x90 =>
    bnd (pIndexAddr Try.prog 22 x10 x11) fun x93 =>
    bnd (pLoad Try.prog 9 x93 h) fun x94 =>
    bnd (pIndexAddr Try.prog 22 x10 x11) fun x95 =>
    bnd (kSt (pStore Try.prog 9 x95 x90 h)) fun u =>
    bnd (pIndexAddr Try.prog 22 x10 x85) fun x96 =>
    bnd (kSt (pStore Try.prog 9 x96 x94 u.2)) fun u_7 =>
    chkK ((!true || !true || (sameO (pLen Try.prog #[22] x0 h) x85 && sameO (pLen Try.prog #[22] x0 u.2) x85)) && true) <|
    K u_7.2
theorem r3_18  : kCode env 3 false inv k (cp c3 1022) (act 107 [(0, x0), (7, x7), (10, x10), (11, x11)]) h K =
    G3_18 inv x0 x7 x10 x11 h fun  h => K .normal (act 107 [(7, x7), (10, x10)]) h := kq_draw
noncomputable abbrev G3_19 {β : Type} (inv : Inv) (x7 x10 : Value) (h : AH) (K : Value → AH → Option β) : Option β :=
    bnd (inv (.func 10) #[] #[x10] h) fun x98 =>
    bnd (inv (.func 14) #[] #[x98.1, x7] x98.2) fun x100 =>
    bnd (gd (some x100.1) true x100.2 (some (x7, x100.2))) fun x102 =>
    bnd (gd (some x100.1) true x102.2 (inv (.func 10) #[] #[x102.1] x102.2)) fun x103 =>
    bnd (gd (some x100.1) true x103.2 (some (x7, x103.2))) fun x104 =>
    bnd (gd (some x100.1) true x104.2 (inv (.func 14) #[] #[x103.1, x104.1] x104.2)) fun x105 =>
    bnd (pickV x100.1 x105.1 (.bool false)) fun x106 =>
    K (x106) x105.2
theorem r3_19  : kCode env 3 false inv k (cp c3 2046) (act 107 [(7, x7), (10, x10)]) h K =
    G3_19 inv x7 x10 h fun y6 h => K .normal (act 107 [(6, y6)]) h := kq_reg
/-- shadowbook/shadowbooklaw07.TextsWords -/
noncomputable def F3 (inv : Inv) (k : Nat) (x0 x1 x2 : Value) (h : AH) : Option (Value × AH) :=
    bnd (inv (.func 8) #[] #[] h) fun x12 =>
    bnd (pUn Try.prog .not x12.1) fun x13 =>
    brV x13
    (some ((.bool false), x12.2))
    (G3_3 inv x0 x1 x2 x12.2 fun y21 h =>
    brV y21
    (some ((.bool true), h))
    (bnd (inv (.func 10) #[] #[x0] h) fun x23 =>
    F3_lrlrrrr inv k k x0 x1 x2 x23.1 (.int .i64 0) x23.2
    (fun y0 y1 y2 y7 y8 y27 h_1 =>
    F3_lrlrrrrr inv k k y0 y1 y2 y7 (.int .i64 0) h_1
    (fun y0_2 y1_3 y2_4 y7_5 y9 y56 h_6 =>
    bnd (inv (.func 12) #[] #[y0_2] h_6) fun x67 =>
    bnd (pLen Try.prog #[22] y0_2 x67.2) fun x71 =>
    bnd (inv (.func 13) #[] #[y1_3, x71] x67.2) fun x72 =>
    bnd (pIndexAddr Try.prog 22 y0_2 x72.1) fun x73 =>
    bnd (pLoad Try.prog 9 x73 x72.2) fun x74 =>
    bnd (pBuildSlice Try.prog 22 1 #[(0, x74)] x72.2) fun x75 =>
    bnd (pAppend Try.prog #[22, 22] x67.1 x75.1 x75.2) fun x76 =>
    bnd (pLen Try.prog #[22] y0_2 x76.2) fun x79 =>
    bnd (inv (.func 13) #[] #[y2_4, x79] x76.2) fun x80 =>
    G3_18 inv y0_2 y7_5 x76.1 x80.1 x80.2 fun  h_8 =>
    G3_19 inv y7_5 x76.1 h_8 fun y6 h_9 =>
    some (y6, h_9))
    (fun y6_10 h_11 =>
    some (y6_10, h_11)))
    (fun y6_12 h_13 =>
    some (y6_12, h_13))))
theorem F3_eq : eFun env k inv 3 #[x0, x1, x2] h = F3 inv k x0 x1 x2 h := by
      refine (kq_fun (a := act 107 [(0, x0), (1, x1), (2, x2)]) (c := cp c3 1)).trans ?_
      unfold F3
      simp only [kq_seq c3 1, r3_0, kq_seq c3 3, kq_seq c3 6, r3_1, b3_rlr, kq_seq c3 26, r3_2, kq_ret c3 53, res3_0, kq_skip c3 27, kq_seq c3 7, kq_seq c3 14, r3_3, b3_rlrr, kq_seq c3 58, r3_4, kq_ret c3 117, kq_skip c3 59, kq_seq c3 15, r3_5, kq_seq c3 31, kq_seq c3 62, r3_6, kq_block c3 125 0, F3_lrlrrrr_eq, kq_seq c3 63, kq_seq c3 126, r3_11, kq_block c3 253 2, F3_lrlrrrrr_eq, kq_seq c3 127, r3_16, kq_seq c3 255, r3_17, kq_seq c3 511, r3_18, kq_seq c3 1023, r3_19, kq_ret c3 2047, reduceIte, reduceCtorEq, XE.exit.injEq, Nat.reduceEqDiff, Nat.reduceMul, Nat.reduceAdd] <;> kernel_rfl
theorem F3_call : eInv env (k + 1) (.func 3) #[] #[x0, x1, x2] h = F3 (eInv env k) k x0 x1 x2 h := kq_inv F3_eq
noncomputable def c9 : Code := codeOf Try.prog 9
theorem r9_0  : kCode env 9 false inv k (cp c9 2) (act 5 [(0, x0)]) h K =
    K .normal (act 5 [(0, x0)]) h := kq_reg
theorem r9_1  : kCode env 9 false inv k (cp c9 6) (act 5 [(0, x0)]) h K =
    bnd (inv (.func 26) #[] #[x0, (.int .i64 60), (.int .i64 600)] h) fun x4 =>
    K .normal (act 5 [(2, x4.1)]) x4.2 := kq_reg
theorem res9_0 : resOfFn env.P 9 .ret (act 5 [(2, x2)]) h = some (x2, h) := kq_res
/-- shadowbook/shadowbooklaw07.light -/
noncomputable def F9 (inv : Inv) (k : Nat) (x0 : Value) (h : AH) : Option (Value × AH) :=
    bnd (inv (.func 26) #[] #[x0, (.int .i64 60), (.int .i64 600)] h) fun x4 =>
    some (x4.1, x4.2)
theorem F9_eq : eFun env k inv 9 #[x0] h = F9 inv k x0 h := by
      refine (kq_fun (a := act 5 [(0, x0)]) (c := cp c9 1)).trans ?_
      unfold F9
      simp only [kq_seq c9 1, r9_0, kq_seq c9 3, r9_1, kq_ret c9 7, res9_0, reduceIte, reduceCtorEq, XE.exit.injEq, Nat.reduceEqDiff, Nat.reduceMul, Nat.reduceAdd] <;> kernel_rfl
theorem F9_call : eInv env (k + 1) (.func 9) #[] #[x0] h = F9 (eInv env k) k x0 h := kq_inv F9_eq
noncomputable def c10 : Code := codeOf Try.prog 10
theorem r10_0  : kCode env 10 false inv k (cp c10 2) (act 20 [(0, x0)]) h K =
    K .normal (act 20 [(0, x0)]) h := kq_reg
theorem r10_1  : kCode env 10 false inv k (cp c10 6) (act 20 [(0, x0)]) h K =
    bnd (pMakeMap Try.prog 40 none h) fun x6 =>
    K .normal (act 20 [(0, x0), (3, x6.1)]) x6.2 := kq_reg
theorem r10_2  : kCode env 10 false inv k (cp c10 28) (act 20 [(0, x0), (3, x3)]) h K =
    bnd (pLen Try.prog #[22] x0 h) fun x8 =>
    K .normal (act 20 [(3, x3), (7, x0), (8, x8), (9, (.int .i64 0))]) h := kq_reg
theorem r10_3  : kCode env 10 false inv k (cp c10 232) (act 20 [(3, x3), (7, x7), (8, x8), (9, x9)]) h K =
    bnd (pBin Try.prog .lss 3 (.tmp 9) (.tmp 8) x9 x8) fun x10 =>
    K .normal (act 20 [(3, x3), (7, x7), (8, x8), (9, x9), (10, x10)]) h := kq_reg
theorem b10_lrllrlrr  : kCode env 10 false inv k (cp c10 466) (act 20 [(3, x3), (7, x7), (8, x8), (9, x9), (10, x10)]) h K = brV x10 (kCode env 10 false inv k (cp c10 932) (act 20 [(3, x3), (7, x7), (8, x8), (9, x9), (10, x10)]) h K) (kCode env 10 false inv k (cp c10 933) (act 20 [(3, x3), (7, x7), (8, x8), (9, x9), (10, x10)]) h K) := kq_cond
theorem r10_4  : kCode env 10 false inv k (cp c10 3736) (act 20 [(3, x3), (7, x7), (8, x8), (9, x9), (10, x10)]) h K =
    bnd (pIndexAddr Try.prog 22 x7 x9) fun x11 =>
    bnd (pLoad Try.prog 9 x11 h) fun x12 =>
    K .normal (act 20 [(3, x3), (5, x12), (7, x7), (8, x8), (9, x9)]) h := kq_reg
theorem r10_5  : kCode env 10 false inv k (cp c10 3737) (act 20 [(3, x3), (5, x5), (7, x7), (8, x8), (9, x9)]) h K =
    bnd (pBuild Try.prog 41 #[]) fun x15 =>
    bnd (kSt (pUpdate Try.prog 40 x3 x5 x15 h)) fun u =>
    K .normal (act 20 [(3, x3), (7, x7), (8, x8), (9, x9)]) u.2 := kq_reg
theorem r10_6  : kCode env 10 false inv k (cp c10 935) (act 20 [(3, x3), (7, x7), (8, x8), (9, x9)]) h K =
    bnd (pBin Try.prog .add 3 (.tmp 9) (.const (.int .i64 1)) x9 (.int .i64 1)) fun x16 =>
    K .normal (act 20 [(3, x3), (7, x7), (8, x8), (9, x16)]) h := kq_reg
noncomputable def F10_lrlrr {β : Type} (inv : Inv) (k : Nat) : Nat → Value → Value → Value → Value → AH → (Value → Value → Value → Value → Value → AH → Option β) → Option β
  | 0, _, _, _, _, _, _ => none
  | j + 1, x3, x7, x8, x9, h, ke0 =>
    bnd (pBin Try.prog .lss 3 (.tmp 9) (.tmp 8) x9 x8) fun x10 =>
    brV x10
    (bnd (pIndexAddr Try.prog 22 x7 x9) fun x11 =>
    bnd (pLoad Try.prog 9 x11 h) fun x12 =>
    bnd (pBuild Try.prog 41 #[]) fun x15 =>
    bnd (kSt (pUpdate Try.prog 40 x3 x12 x15 h)) fun u =>
    bnd (pBin Try.prog .add 3 (.tmp 9) (.const (.int .i64 1)) x9 (.int .i64 1)) fun x16 =>
    F10_lrlrr inv k j x3 x7 x8 x16 u.2 ke0)
    (ke0 x3 x7 x8 x9 x10 h)
theorem F10_lrlrr_j (j : Nat) : kLoop (kCode env 10 false inv k (cp c10 116)) j (act 20 [(3, x3), (7, x7), (8, x8), (9, x9)]) h K = F10_lrlrr inv k j x3 x7 x8 x9 h (fun y3 y7 y8 y9 y10 h => K (.exit 0) (act 20 [(3, y3), (7, y7), (8, y8), (9, y9), (10, y10)]) h) := by
      induction j generalizing x3 x7 x8 x9 h with
      | zero => rfl
      | succ j ih =>
        unfold F10_lrlrr
        simp only [kLoop, kq_seq c10 116, r10_3, kq_seq c10 233, b10_lrllrlrr, kq_skip c10 932, kq_seq c10 467, kq_block c10 934 1, kq_seq c10 1868, r10_4, r10_5, r10_6, kq_exit c10 933 0, ih, reduceIte, reduceCtorEq, XE.exit.injEq, Nat.reduceEqDiff, Nat.reduceMul, Nat.reduceAdd] <;> kernel_rfl
theorem F10_lrlrr_eq  : kCode env 10 false inv k (cp c10 58) (act 20 [(3, x3), (7, x7), (8, x8), (9, x9)]) h K = F10_lrlrr inv k k x3 x7 x8 x9 h (fun y3 y7 y8 y9 y10 h => K (.exit 0) (act 20 [(3, y3), (7, y7), (8, y8), (9, y9), (10, y10)]) h) := kq_loop (F10_lrlrr_j k)
theorem r10_7  : kCode env 10 false inv k (cp c10 30) (act 20 [(3, x3), (7, x7), (8, x8), (9, x9), (10, x10)]) h K =
    bnd (inv (.func 28) #[] #[x3] h) fun x18 =>
    bnd (inv (.func 27) #[] #[x18.1] x18.2) fun x19 =>
    K .normal (act 20 [(2, x19.1)]) x19.2 := kq_reg
theorem res10_0 : resOfFn env.P 10 .ret (act 20 [(2, x2)]) h = some (x2, h) := kq_res
/-- shadowbook/texts.Words -/
noncomputable def F10 (inv : Inv) (k : Nat) (x0 : Value) (h : AH) : Option (Value × AH) :=
    bnd (pMakeMap Try.prog 40 none h) fun x6 =>
    bnd (pLen Try.prog #[22] x0 x6.2) fun x8 =>
    F10_lrlrr inv k k x6.1 x0 x8 (.int .i64 0) x6.2
    (fun y3 y7 y8 y9 y10 h =>
    bnd (inv (.func 28) #[] #[y3] h) fun x18 =>
    bnd (inv (.func 27) #[] #[x18.1] x18.2) fun x19 =>
    some (x19.1, x19.2))
theorem F10_eq : eFun env k inv 10 #[x0] h = F10 inv k x0 h := by
      refine (kq_fun (a := act 20 [(0, x0)]) (c := cp c10 1)).trans ?_
      unfold F10
      simp only [kq_seq c10 1, r10_0, kq_seq c10 3, r10_1, kq_seq c10 7, kq_seq c10 14, r10_2, kq_block c10 29 0, F10_lrlrr_eq, kq_seq c10 15, r10_7, kq_ret c10 31, res10_0, reduceIte, reduceCtorEq, XE.exit.injEq, Nat.reduceEqDiff, Nat.reduceMul, Nat.reduceAdd] <;> kernel_rfl
theorem F10_call : eInv env (k + 1) (.func 10) #[] #[x0] h = F10 (eInv env k) k x0 h := kq_inv F10_eq
noncomputable def c11 : Code := codeOf Try.prog 11
theorem r11_0  : kCode env 11 false inv k (cp c11 2) (act 18 [(0, x0), (1, x1)]) h K =
    K .normal (act 18 [(0, x0), (1, x1)]) h := kq_reg
theorem r11_1  : kCode env 11 false inv k (cp c11 12) (act 18 [(0, x0), (1, x1)]) h K =
    K .normal (act 18 [(0, x0), (1, x1), (5, (.int .i64 0))]) h := kq_reg
theorem r11_2  : kCode env 11 false inv k (cp c11 208) (act 18 [(0, x0), (1, x1), (5, x5)]) h K =
    bnd (pLen Try.prog #[22] x0 h) fun x8 =>
    bnd (pBin Try.prog .lss 3 (.tmp 6) (.tmp 8) x5 x8) fun x9 =>
    K .normal (act 18 [(0, x0), (1, x1), (5, x5), (9, x9)]) h := kq_reg
theorem b11_rlllrlr  : kCode env 11 false inv k (cp c11 209) (act 18 [(0, x0), (1, x1), (5, x5), (9, x9)]) h K = brV x9 (kCode env 11 false inv k (cp c11 418) (act 18 [(0, x0), (1, x1), (5, x5), (9, x9)]) h K) (kCode env 11 false inv k (cp c11 419) (act 18 [(0, x0), (1, x1), (5, x5), (9, x9)]) h K) := kq_cond
theorem r11_4  : kCode env 11 false inv k (cp c11 840) (act 18 [(0, x0), (1, x1), (5, x5), (9, x9)]) h K =
    bnd (pIndexAddr Try.prog 22 x0 x5) fun x14 =>
    bnd (pLoad Try.prog 9 x14 h) fun x15 =>
    bnd (pBin Try.prog .eql 9 (.tmp 15) (.tmp 16) x15 x1) fun x17 =>
    K .normal (act 18 [(0, x0), (1, x1), (5, x5), (17, x17)]) h := kq_reg
theorem b11_rllrllrlr  : kCode env 11 false inv k (cp c11 841) (act 18 [(0, x0), (1, x1), (5, x5), (17, x17)]) h K = brV x17 (kCode env 11 false inv k (cp c11 1682) (act 18 [(0, x0), (1, x1), (5, x5), (17, x17)]) h K) (kCode env 11 false inv k (cp c11 1683) (act 18 [(0, x0), (1, x1), (5, x5), (17, x17)]) h K) := kq_cond
theorem r11_5  : kCode env 11 false inv k (cp c11 3364) (act 18 [(0, x0), (1, x1), (5, x5), (17, x17)]) h K =
    K .normal (act 18 [(4, (.bool true))]) h := kq_reg
theorem r11_3  : kCode env 11 false inv k (cp c11 211) (act 18 [(0, x0), (1, x1), (5, x5), (17, x17)]) h K =
    bnd (pBin Try.prog .add 3 (.tmp 10) (.const (.int .i64 1)) x5 (.int .i64 1)) fun x11 =>
    K .normal (act 18 [(0, x0), (1, x1), (5, x11)]) h := kq_reg
noncomputable def F11_lrlr {β : Type} (inv : Inv) (k : Nat) : Nat → Value → Value → Value → AH → (Value → Value → Value → Value → AH → Option β) → (Value → AH → Option β) → Option β
  | 0, _, _, _, _, _, _ => none
  | j + 1, x0, x1, x5, h, ke0, kr =>
    bnd (pLen Try.prog #[22] x0 h) fun x8 =>
    bnd (pBin Try.prog .lss 3 (.tmp 6) (.tmp 8) x5 x8) fun x9 =>
    brV x9
    (bnd (pIndexAddr Try.prog 22 x0 x5) fun x14 =>
    bnd (pLoad Try.prog 9 x14 h) fun x15 =>
    bnd (pBin Try.prog .eql 9 (.tmp 15) (.tmp 16) x15 x1) fun x17 =>
    brV x17
    (kr (.bool true) h)
    (bnd (pBin Try.prog .add 3 (.tmp 10) (.const (.int .i64 1)) x5 (.int .i64 1)) fun x11 =>
    F11_lrlr inv k j x0 x1 x11 h ke0 kr))
    (ke0 x0 x1 x5 x9 h)
theorem F11_lrlr_j (j : Nat) : kLoop (kCode env 11 false inv k (cp c11 52)) j (act 18 [(0, x0), (1, x1), (5, x5)]) h K = F11_lrlr inv k j x0 x1 x5 h (fun y0 y1 y5 y9 h => K (.exit 0) (act 18 [(0, y0), (1, y1), (5, y5), (9, y9)]) h) (fun y4 h => K .ret (act 18 [(4, y4)]) h) := by
      induction j generalizing x0 x1 x5 h with
      | zero => rfl
      | succ j ih =>
        unfold F11_lrlr
        simp only [kLoop, kq_seq c11 52, kq_seq c11 104, r11_2, b11_rlllrlr, kq_skip c11 418, kq_seq c11 105, kq_block c11 210 1, kq_seq c11 420, r11_4, b11_rllrllrlr, kq_seq c11 1682, r11_5, kq_ret c11 3365, kq_skip c11 1683, r11_3, kq_exit c11 419 0, ih, reduceIte, reduceCtorEq, XE.exit.injEq, Nat.reduceEqDiff, Nat.reduceMul, Nat.reduceAdd] <;> kernel_rfl
theorem F11_lrlr_eq  : kCode env 11 false inv k (cp c11 26) (act 18 [(0, x0), (1, x1), (5, x5)]) h K = F11_lrlr inv k k x0 x1 x5 h (fun y0 y1 y5 y9 h => K (.exit 0) (act 18 [(0, y0), (1, y1), (5, y5), (9, y9)]) h) (fun y4 h => K .ret (act 18 [(4, y4)]) h) := kq_loop (F11_lrlr_j k)
theorem r11_6  : kCode env 11 false inv k (cp c11 14) (act 18 [(0, x0), (1, x1), (5, x5), (9, x9)]) h K =
    K .normal (act 18 [(4, (.bool false))]) h := kq_reg
theorem res11_0 : resOfFn env.P 11 .ret (act 18 [(4, x4)]) h = some (x4, h) := kq_res
/-- shadowbook/shadowbooklaw07.has -/
noncomputable def F11 (inv : Inv) (k : Nat) (x0 x1 : Value) (h : AH) : Option (Value × AH) :=
    F11_lrlr inv k k x0 x1 (.int .i64 0) h
    (fun y0 y1 y5 y9 h =>
    some ((.bool false), h))
    (fun y4 h_1 =>
    some (y4, h_1))
theorem F11_eq : eFun env k inv 11 #[x0, x1] h = F11 inv k x0 x1 h := by
      refine (kq_fun (a := act 18 [(0, x0), (1, x1)]) (c := cp c11 1)).trans ?_
      unfold F11
      simp only [kq_seq c11 1, r11_0, kq_seq c11 3, kq_seq c11 6, r11_1, kq_block c11 13 0, F11_lrlr_eq, kq_seq c11 7, r11_6, kq_ret c11 15, res11_0, reduceIte, reduceCtorEq, XE.exit.injEq, Nat.reduceEqDiff, Nat.reduceMul, Nat.reduceAdd] <;> kernel_rfl
theorem F11_call : eInv env (k + 1) (.func 11) #[] #[x0, x1] h = F11 (eInv env k) k x0 x1 h := kq_inv F11_eq
noncomputable def c12 : Code := codeOf Try.prog 12
theorem r12_0  : kCode env 12 false inv k (cp c12 2) (act 6 [(0, x0)]) h K =
    K .normal (act 6 [(0, x0)]) h := kq_reg
theorem r12_1  : kCode env 12 false inv k (cp c12 6) (act 6 [(0, x0)]) h K =
    bnd (pBuildSlice Try.prog 22 0 #[] h) fun x3 =>
    bnd (pAppend Try.prog #[22, 22] x3.1 x0 x3.2) fun x5 =>
    K .normal (act 6 [(2, x5.1)]) x5.2 := kq_reg
theorem res12_0 : resOfFn env.P 12 .ret (act 6 [(2, x2)]) h = some (x2, h) := kq_res
/-- shadowbook/shadowbookkit.Own[string] -/
noncomputable def F12 (inv : Inv) (k : Nat) (x0 : Value) (h : AH) : Option (Value × AH) :=
    bnd (pBuildSlice Try.prog 22 0 #[] h) fun x3 =>
    bnd (pAppend Try.prog #[22, 22] x3.1 x0 x3.2) fun x5 =>
    some (x5.1, x5.2)
theorem F12_eq : eFun env k inv 12 #[x0] h = F12 inv k x0 h := by
      refine (kq_fun (a := act 6 [(0, x0)]) (c := cp c12 1)).trans ?_
      unfold F12
      simp only [kq_seq c12 1, r12_0, kq_seq c12 3, r12_1, kq_ret c12 7, res12_0, reduceIte, reduceCtorEq, XE.exit.injEq, Nat.reduceEqDiff, Nat.reduceMul, Nat.reduceAdd] <;> kernel_rfl
theorem F12_call : eInv env (k + 1) (.func 12) #[] #[x0] h = F12 (eInv env k) k x0 h := kq_inv F12_eq
noncomputable def c13 : Code := codeOf Try.prog 13
theorem r13_0  : kCode env 13 false inv k (cp c13 2) (act 17 [(0, x0), (1, x1)]) h K =
    K .normal (act 17 [(0, x0), (1, x1)]) h := kq_reg
theorem r13_1  : kCode env 13 false inv k (cp c13 12) (act 17 [(0, x0), (1, x1)]) h K =
    bnd (pBin Try.prog .lss 3 (.tmp 6) (.const (.int .i64 1)) x1 (.int .i64 1)) fun x7 =>
    K .normal (act 17 [(0, x0), (1, x1), (7, x7)]) h := kq_reg
theorem b13_rlr  : kCode env 13 false inv k (cp c13 13) (act 17 [(0, x0), (1, x1), (7, x7)]) h K = brV x7 (kCode env 13 false inv k (cp c13 26) (act 17 [(0, x0), (1, x1), (7, x7)]) h K) (kCode env 13 false inv k (cp c13 27) (act 17 [(0, x0), (1, x1), (7, x7)]) h K) := kq_cond
theorem r13_2  : kCode env 13 false inv k (cp c13 52) (act 17 [(0, x0), (1, x1), (7, x7)]) h K =
    K .normal (act 17 [(4, (.int .i64 0))]) h := kq_reg
theorem res13_0 : resOfFn env.P 13 .ret (act 17 [(4, x4)]) h = some (x4, h) := kq_res
theorem r13_3  : kCode env 13 false inv k (cp c13 14) (act 17 [(0, x0), (1, x1), (7, x7)]) h K =
    bnd (pBin Try.prog .rem 3 (.tmp 8) (.tmp 9) x0 x1) fun x10 =>
    K .normal (act 17 [(1, x1), (5, x10)]) h := kq_reg
theorem r13_4  : kCode env 13 false inv k (cp c13 60) (act 17 [(1, x1), (5, x5)]) h K =
    bnd (pBin Try.prog .lss 3 (.tmp 11) (.const (.int .i64 0)) x5 (.int .i64 0)) fun x12 =>
    K .normal (act 17 [(1, x1), (5, x5), (12, x12)]) h := kq_reg
theorem b13_rlrrr  : kCode env 13 false inv k (cp c13 61) (act 17 [(1, x1), (5, x5), (12, x12)]) h K = brV x12 (kCode env 13 false inv k (cp c13 122) (act 17 [(1, x1), (5, x5), (12, x12)]) h K) (kCode env 13 false inv k (cp c13 123) (act 17 [(1, x1), (5, x5), (12, x12)]) h K) := kq_cond
theorem r13_5  : kCode env 13 false inv k (cp c13 122) (act 17 [(1, x1), (5, x5), (12, x12)]) h K =
    bnd (pBin Try.prog .add 3 (.tmp 13) (.tmp 14) x5 x1) fun x15 =>
    K .normal (act 17 [(5, x15)]) h := kq_reg
noncomputable def F13_rlrrr {β : Type} (inv : Inv) (k : Nat) (x1 x5 x12 : Value) (h : AH) (kn : (Value → Value → Value → AH → Option β)) : Option β :=
    brV x12
    (bnd (pBin Try.prog .add 3 (.tmp 13) (.tmp 14) x5 x1) fun x15 =>
    kn unk x15 unk h)
    (kn x1 x5 x12 h)
theorem F13_rlrrr_eq  : kCode env 13 false inv k (cp c13 61) (act 17 [(1, x1), (5, x5), (12, x12)]) h K = F13_rlrrr inv k x1 x5 x12 h (fun y1 y5 y12 h => K .normal (act 17 [(1, y1), (5, y5), (12, y12)]) h) := by
      unfold F13_rlrrr
      simp only [b13_rlrrr, r13_5, kq_skip c13 123, reduceIte, reduceCtorEq, XE.exit.injEq, Nat.reduceEqDiff, Nat.reduceMul, Nat.reduceAdd] <;> kernel_rfl
theorem r13_6  : kCode env 13 false inv k (cp c13 62) (act 17 [(1, x1), (5, x5), (12, x12)]) h K =
    K .normal (act 17 [(4, x5)]) h := kq_reg
/-- shadowbook/shadowbookkit.Pick -/
noncomputable def F13 (inv : Inv) (k : Nat) (x0 x1 : Value) (h : AH) : Option (Value × AH) :=
    bnd (pBin Try.prog .lss 3 (.tmp 6) (.const (.int .i64 1)) x1 (.int .i64 1)) fun x7 =>
    brV x7
    (some ((.int .i64 0), h))
    (bnd (pBin Try.prog .rem 3 (.tmp 8) (.tmp 9) x0 x1) fun x10 =>
    bnd (pBin Try.prog .lss 3 (.tmp 11) (.const (.int .i64 0)) x10 (.int .i64 0)) fun x12 =>
    F13_rlrrr inv k x1 x10 x12 h
    (fun y1 y5 y12 h =>
    some (y5, h)))
theorem F13_eq : eFun env k inv 13 #[x0, x1] h = F13 inv k x0 x1 h := by
      refine (kq_fun (a := act 17 [(0, x0), (1, x1)]) (c := cp c13 1)).trans ?_
      unfold F13
      simp only [kq_seq c13 1, r13_0, kq_seq c13 3, kq_seq c13 6, r13_1, b13_rlr, kq_seq c13 26, r13_2, kq_ret c13 53, res13_0, kq_skip c13 27, kq_seq c13 7, r13_3, kq_seq c13 15, kq_seq c13 30, r13_4, F13_rlrrr_eq, kq_seq c13 31, r13_6, kq_ret c13 63, reduceIte, reduceCtorEq, XE.exit.injEq, Nat.reduceEqDiff, Nat.reduceMul, Nat.reduceAdd] <;> kernel_rfl
theorem F13_call : eInv env (k + 1) (.func 13) #[] #[x0, x1] h = F13 (eInv env k) k x0 x1 h := kq_inv F13_eq
noncomputable def c14 : Code := codeOf Try.prog 14
theorem r14_0  : kCode env 14 false inv k (cp c14 2) (act 26 [(0, x0), (1, x1)]) h K =
    K .normal (act 26 [(0, x0), (1, x1)]) h := kq_reg
theorem r14_1  : kCode env 14 false inv k (cp c14 12) (act 26 [(0, x0), (1, x1)]) h K =
    bnd (pLen Try.prog #[22] x0 h) fun x7 =>
    bnd (pLen Try.prog #[22] x1 h) fun x9 =>
    bnd (pBin Try.prog .neq 3 (.tmp 7) (.tmp 9) x7 x9) fun x10 =>
    K .normal (act 26 [(0, x0), (1, x1), (10, x10)]) h := kq_reg
theorem b14_rlr  : kCode env 14 false inv k (cp c14 13) (act 26 [(0, x0), (1, x1), (10, x10)]) h K = brV x10 (kCode env 14 false inv k (cp c14 26) (act 26 [(0, x0), (1, x1), (10, x10)]) h K) (kCode env 14 false inv k (cp c14 27) (act 26 [(0, x0), (1, x1), (10, x10)]) h K) := kq_cond
theorem r14_2  : kCode env 14 false inv k (cp c14 52) (act 26 [(0, x0), (1, x1), (10, x10)]) h K =
    K .normal (act 26 [(4, (.bool false))]) h := kq_reg
theorem res14_0 : resOfFn env.P 14 .ret (act 26 [(4, x4)]) h = some (x4, h) := kq_res
theorem r14_3  : kCode env 14 false inv k (cp c14 28) (act 26 [(0, x0), (1, x1), (10, x10)]) h K =
    K .normal (act 26 [(0, x0), (1, x1), (5, (.int .i64 0))]) h := kq_reg
theorem r14_4  : kCode env 14 false inv k (cp c14 464) (act 26 [(0, x0), (1, x1), (5, x5)]) h K =
    bnd (pLen Try.prog #[22] x0 h) fun x13 =>
    bnd (pBin Try.prog .lss 3 (.tmp 11) (.tmp 13) x5 x13) fun x14 =>
    K .normal (act 26 [(0, x0), (1, x1), (5, x5), (14, x14)]) h := kq_reg
theorem b14_rlllrlrr  : kCode env 14 false inv k (cp c14 465) (act 26 [(0, x0), (1, x1), (5, x5), (14, x14)]) h K = brV x14 (kCode env 14 false inv k (cp c14 930) (act 26 [(0, x0), (1, x1), (5, x5), (14, x14)]) h K) (kCode env 14 false inv k (cp c14 931) (act 26 [(0, x0), (1, x1), (5, x5), (14, x14)]) h K) := kq_cond
theorem r14_6  : kCode env 14 false inv k (cp c14 1864) (act 26 [(0, x0), (1, x1), (5, x5), (14, x14)]) h K =
    bnd (pIndexAddr Try.prog 22 x0 x5) fun x19 =>
    bnd (pLoad Try.prog 9 x19 h) fun x20 =>
    bnd (pIndexAddr Try.prog 22 x1 x5) fun x23 =>
    bnd (pLoad Try.prog 9 x23 h) fun x24 =>
    bnd (pBin Try.prog .neq 9 (.tmp 20) (.tmp 24) x20 x24) fun x25 =>
    K .normal (act 26 [(0, x0), (1, x1), (5, x5), (25, x25)]) h := kq_draw
theorem b14_rllrllrlrr  : kCode env 14 false inv k (cp c14 1865) (act 26 [(0, x0), (1, x1), (5, x5), (25, x25)]) h K = brV x25 (kCode env 14 false inv k (cp c14 3730) (act 26 [(0, x0), (1, x1), (5, x5), (25, x25)]) h K) (kCode env 14 false inv k (cp c14 3731) (act 26 [(0, x0), (1, x1), (5, x5), (25, x25)]) h K) := kq_cond
theorem r14_7  : kCode env 14 false inv k (cp c14 7460) (act 26 [(0, x0), (1, x1), (5, x5), (25, x25)]) h K =
    K .normal (act 26 [(4, (.bool false))]) h := kq_reg
theorem r14_5  : kCode env 14 false inv k (cp c14 467) (act 26 [(0, x0), (1, x1), (5, x5), (25, x25)]) h K =
    bnd (pBin Try.prog .add 3 (.tmp 15) (.const (.int .i64 1)) x5 (.int .i64 1)) fun x16 =>
    K .normal (act 26 [(0, x0), (1, x1), (5, x16)]) h := kq_reg
noncomputable def F14_lrlrr {β : Type} (inv : Inv) (k : Nat) : Nat → Value → Value → Value → AH → (Value → Value → Value → Value → AH → Option β) → (Value → AH → Option β) → Option β
  | 0, _, _, _, _, _, _ => none
  | j + 1, x0, x1, x5, h, ke0, kr =>
    bnd (pLen Try.prog #[22] x0 h) fun x13 =>
    bnd (pBin Try.prog .lss 3 (.tmp 11) (.tmp 13) x5 x13) fun x14 =>
    brV x14
    (bnd (pIndexAddr Try.prog 22 x0 x5) fun x19 =>
    bnd (pLoad Try.prog 9 x19 h) fun x20 =>
    bnd (pIndexAddr Try.prog 22 x1 x5) fun x23 =>
    bnd (pLoad Try.prog 9 x23 h) fun x24 =>
    bnd (pBin Try.prog .neq 9 (.tmp 20) (.tmp 24) x20 x24) fun x25 =>
    brV x25
    (kr (.bool false) h)
    (bnd (pBin Try.prog .add 3 (.tmp 15) (.const (.int .i64 1)) x5 (.int .i64 1)) fun x16 =>
    F14_lrlrr inv k j x0 x1 x16 h ke0 kr))
    (ke0 x0 x1 x5 x14 h)
theorem F14_lrlrr_j (j : Nat) : kLoop (kCode env 14 false inv k (cp c14 116)) j (act 26 [(0, x0), (1, x1), (5, x5)]) h K = F14_lrlrr inv k j x0 x1 x5 h (fun y0 y1 y5 y14 h => K (.exit 0) (act 26 [(0, y0), (1, y1), (5, y5), (14, y14)]) h) (fun y4 h => K .ret (act 26 [(4, y4)]) h) := by
      induction j generalizing x0 x1 x5 h with
      | zero => rfl
      | succ j ih =>
        unfold F14_lrlrr
        simp only [kLoop, kq_seq c14 116, kq_seq c14 232, r14_4, b14_rlllrlrr, kq_skip c14 930, kq_seq c14 233, kq_block c14 466 1, kq_seq c14 932, r14_6, b14_rllrllrlrr, kq_seq c14 3730, r14_7, kq_ret c14 7461, kq_skip c14 3731, r14_5, kq_exit c14 931 0, ih, reduceIte, reduceCtorEq, XE.exit.injEq, Nat.reduceEqDiff, Nat.reduceMul, Nat.reduceAdd] <;> kernel_rfl
theorem F14_lrlrr_eq  : kCode env 14 false inv k (cp c14 58) (act 26 [(0, x0), (1, x1), (5, x5)]) h K = F14_lrlrr inv k k x0 x1 x5 h (fun y0 y1 y5 y14 h => K (.exit 0) (act 26 [(0, y0), (1, y1), (5, y5), (14, y14)]) h) (fun y4 h => K .ret (act 26 [(4, y4)]) h) := kq_loop (F14_lrlrr_j k)
theorem r14_8  : kCode env 14 false inv k (cp c14 30) (act 26 [(0, x0), (1, x1), (5, x5), (14, x14)]) h K =
    K .normal (act 26 [(4, (.bool true))]) h := kq_reg
/-- shadowbook/shadowbookkit.Same[string] -/
noncomputable def F14 (inv : Inv) (k : Nat) (x0 x1 : Value) (h : AH) : Option (Value × AH) :=
    bnd (pLen Try.prog #[22] x0 h) fun x7 =>
    bnd (pLen Try.prog #[22] x1 h) fun x9 =>
    bnd (pBin Try.prog .neq 3 (.tmp 7) (.tmp 9) x7 x9) fun x10 =>
    brV x10
    (some ((.bool false), h))
    (F14_lrlrr inv k k x0 x1 (.int .i64 0) h
    (fun y0 y1 y5 y14 h =>
    some ((.bool true), h))
    (fun y4 h_1 =>
    some (y4, h_1)))
theorem F14_eq : eFun env k inv 14 #[x0, x1] h = F14 inv k x0 x1 h := by
      refine (kq_fun (a := act 26 [(0, x0), (1, x1)]) (c := cp c14 1)).trans ?_
      unfold F14
      simp only [kq_seq c14 1, r14_0, kq_seq c14 3, kq_seq c14 6, r14_1, b14_rlr, kq_seq c14 26, r14_2, kq_ret c14 53, res14_0, kq_skip c14 27, kq_seq c14 7, kq_seq c14 14, r14_3, kq_block c14 29 0, F14_lrlrr_eq, kq_seq c14 15, r14_8, kq_ret c14 31, reduceIte, reduceCtorEq, XE.exit.injEq, Nat.reduceEqDiff, Nat.reduceMul, Nat.reduceAdd] <;> kernel_rfl
theorem F14_call : eInv env (k + 1) (.func 14) #[] #[x0, x1] h = F14 (eInv env k) k x0 x1 h := kq_inv F14_eq
noncomputable def c26 : Code := codeOf Try.prog 26
theorem r26_0  : kCode env 26 false inv k (cp c26 2) (act 29 [(0, x0), (1, x1), (2, x2)]) h K =
    K .normal (act 29 [(0, x0), (1, x1), (2, x2)]) h := kq_reg
theorem r26_1  : kCode env 26 false inv k (cp c26 12) (act 29 [(0, x0), (1, x1), (2, x2)]) h K =
    bnd (pLen Try.prog #[22] x0 h) fun x10 =>
    bnd (pBin Try.prog .gtr 3 (.tmp 10) (.tmp 11) x10 x1) fun x12 =>
    K .normal (act 29 [(0, x0), (2, x2), (12, x12)]) h := kq_reg
theorem b26_rlr  : kCode env 26 false inv k (cp c26 13) (act 29 [(0, x0), (2, x2), (12, x12)]) h K = brV x12 (kCode env 26 false inv k (cp c26 26) (act 29 [(0, x0), (2, x2), (12, x12)]) h K) (kCode env 26 false inv k (cp c26 27) (act 29 [(0, x0), (2, x2), (12, x12)]) h K) := kq_cond
theorem r26_2  : kCode env 26 false inv k (cp c26 52) (act 29 [(0, x0), (2, x2), (12, x12)]) h K =
    K .normal (act 29 [(6, (.bool false))]) h := kq_reg
theorem res26_0 : resOfFn env.P 26 .ret (act 29 [(6, x6)]) h = some (x6, h) := kq_res
theorem r26_3  : kCode env 26 false inv k (cp c26 14) (act 29 [(0, x0), (2, x2), (12, x12)]) h K =
    K .normal (act 29 [(0, x0), (2, x2), (7, (.int .i64 0))]) h := kq_reg
theorem r26_4  : kCode env 26 false inv k (cp c26 60) (act 29 [(0, x0), (2, x2), (7, x7)]) h K =
    K .normal (act 29 [(0, x0), (2, x2), (7, x7), (8, (.int .i64 0))]) h := kq_reg
theorem r26_5  : kCode env 26 false inv k (cp c26 976) (act 29 [(0, x0), (2, x2), (7, x7), (8, x8)]) h K =
    bnd (pLen Try.prog #[22] x0 h) fun x15 =>
    bnd (pBin Try.prog .lss 3 (.tmp 13) (.tmp 15) x8 x15) fun x16 =>
    K .normal (act 29 [(0, x0), (2, x2), (7, x7), (8, x8), (16, x16)]) h := kq_reg
theorem b26_rlllrlrrr  : kCode env 26 false inv k (cp c26 977) (act 29 [(0, x0), (2, x2), (7, x7), (8, x8), (16, x16)]) h K = brV x16 (kCode env 26 false inv k (cp c26 1954) (act 29 [(0, x0), (2, x2), (7, x7), (8, x8), (16, x16)]) h K) (kCode env 26 false inv k (cp c26 1955) (act 29 [(0, x0), (2, x2), (7, x7), (8, x8), (16, x16)]) h K) := kq_cond
theorem r26_7  : kCode env 26 false inv k (cp c26 3912) (act 29 [(0, x0), (2, x2), (7, x7), (8, x8), (16, x16)]) h K =
    bnd (pIndexAddr Try.prog 22 x0 x8) fun x22 =>
    bnd (pLoad Try.prog 9 x22 h) fun x23 =>
    bnd (pLen Try.prog #[9] x23 h) fun x24 =>
    bnd (pBin Try.prog .add 3 (.tmp 19) (.tmp 24) x7 x24) fun x25 =>
    K .normal (act 29 [(0, x0), (2, x2), (7, x25), (8, x8)]) h := kq_reg
theorem r26_8  : kCode env 26 false inv k (cp c26 7826) (act 29 [(0, x0), (2, x2), (7, x7), (8, x8)]) h K =
    bnd (pBin Try.prog .gtr 3 (.tmp 26) (.tmp 27) x7 x2) fun x28 =>
    K .normal (act 29 [(0, x0), (2, x2), (7, x7), (8, x8), (28, x28)]) h := kq_reg
theorem b26_rrllrllrlrrr  : kCode env 26 false inv k (cp c26 7827) (act 29 [(0, x0), (2, x2), (7, x7), (8, x8), (28, x28)]) h K = brV x28 (kCode env 26 false inv k (cp c26 15654) (act 29 [(0, x0), (2, x2), (7, x7), (8, x8), (28, x28)]) h K) (kCode env 26 false inv k (cp c26 15655) (act 29 [(0, x0), (2, x2), (7, x7), (8, x8), (28, x28)]) h K) := kq_cond
theorem r26_9  : kCode env 26 false inv k (cp c26 31308) (act 29 [(0, x0), (2, x2), (7, x7), (8, x8), (28, x28)]) h K =
    K .normal (act 29 [(6, (.bool false))]) h := kq_reg
theorem r26_6  : kCode env 26 false inv k (cp c26 979) (act 29 [(0, x0), (2, x2), (7, x7), (8, x8), (28, x28)]) h K =
    bnd (pBin Try.prog .add 3 (.tmp 17) (.const (.int .i64 1)) x8 (.int .i64 1)) fun x18 =>
    K .normal (act 29 [(0, x0), (2, x2), (7, x7), (8, x18)]) h := kq_reg
noncomputable def F26_lrlrrr {β : Type} (inv : Inv) (k : Nat) : Nat → Value → Value → Value → Value → AH → (Value → Value → Value → Value → Value → AH → Option β) → (Value → AH → Option β) → Option β
  | 0, _, _, _, _, _, _, _ => none
  | j + 1, x0, x2, x7, x8, h, ke0, kr =>
    bnd (pLen Try.prog #[22] x0 h) fun x15 =>
    bnd (pBin Try.prog .lss 3 (.tmp 13) (.tmp 15) x8 x15) fun x16 =>
    brV x16
    (bnd (pIndexAddr Try.prog 22 x0 x8) fun x22 =>
    bnd (pLoad Try.prog 9 x22 h) fun x23 =>
    bnd (pLen Try.prog #[9] x23 h) fun x24 =>
    bnd (pBin Try.prog .add 3 (.tmp 19) (.tmp 24) x7 x24) fun x25 =>
    bnd (pBin Try.prog .gtr 3 (.tmp 26) (.tmp 27) x25 x2) fun x28 =>
    brV x28
    (kr (.bool false) h)
    (bnd (pBin Try.prog .add 3 (.tmp 17) (.const (.int .i64 1)) x8 (.int .i64 1)) fun x18 =>
    F26_lrlrrr inv k j x0 x2 x25 x18 h ke0 kr))
    (ke0 x0 x2 x7 x8 x16 h)
theorem F26_lrlrrr_j (j : Nat) : kLoop (kCode env 26 false inv k (cp c26 244)) j (act 29 [(0, x0), (2, x2), (7, x7), (8, x8)]) h K = F26_lrlrrr inv k j x0 x2 x7 x8 h (fun y0 y2 y7 y8 y16 h => K (.exit 0) (act 29 [(0, y0), (2, y2), (7, y7), (8, y8), (16, y16)]) h) (fun y6 h => K .ret (act 29 [(6, y6)]) h) := by
      induction j generalizing x0 x2 x7 x8 h with
      | zero => rfl
      | succ j ih =>
        unfold F26_lrlrrr
        simp only [kLoop, kq_seq c26 244, kq_seq c26 488, r26_5, b26_rlllrlrrr, kq_skip c26 1954, kq_seq c26 489, kq_block c26 978 1, kq_seq c26 1956, r26_7, kq_seq c26 3913, r26_8, b26_rrllrllrlrrr, kq_seq c26 15654, r26_9, kq_ret c26 31309, kq_skip c26 15655, r26_6, kq_exit c26 1955 0, ih, reduceIte, reduceCtorEq, XE.exit.injEq, Nat.reduceEqDiff, Nat.reduceMul, Nat.reduceAdd] <;> kernel_rfl
theorem F26_lrlrrr_eq  : kCode env 26 false inv k (cp c26 122) (act 29 [(0, x0), (2, x2), (7, x7), (8, x8)]) h K = F26_lrlrrr inv k k x0 x2 x7 x8 h (fun y0 y2 y7 y8 y16 h => K (.exit 0) (act 29 [(0, y0), (2, y2), (7, y7), (8, y8), (16, y16)]) h) (fun y6 h => K .ret (act 29 [(6, y6)]) h) := kq_loop (F26_lrlrrr_j k)
theorem r26_10  : kCode env 26 false inv k (cp c26 62) (act 29 [(0, x0), (2, x2), (7, x7), (8, x8), (16, x16)]) h K =
    K .normal (act 29 [(6, (.bool true))]) h := kq_reg
/-- shadowbook/shadowbookkit.LightTexts -/
noncomputable def F26 (inv : Inv) (k : Nat) (x0 x1 x2 : Value) (h : AH) : Option (Value × AH) :=
    bnd (pLen Try.prog #[22] x0 h) fun x10 =>
    bnd (pBin Try.prog .gtr 3 (.tmp 10) (.tmp 11) x10 x1) fun x12 =>
    brV x12
    (some ((.bool false), h))
    (F26_lrlrrr inv k k x0 x2 (.int .i64 0) (.int .i64 0) h
    (fun y0 y2 y7 y8 y16 h =>
    some ((.bool true), h))
    (fun y6 h_1 =>
    some (y6, h_1)))
theorem F26_eq : eFun env k inv 26 #[x0, x1, x2] h = F26 inv k x0 x1 x2 h := by
      refine (kq_fun (a := act 29 [(0, x0), (1, x1), (2, x2)]) (c := cp c26 1)).trans ?_
      unfold F26
      simp only [kq_seq c26 1, r26_0, kq_seq c26 3, kq_seq c26 6, r26_1, b26_rlr, kq_seq c26 26, r26_2, kq_ret c26 53, res26_0, kq_skip c26 27, kq_seq c26 7, r26_3, kq_seq c26 15, kq_seq c26 30, r26_4, kq_block c26 61 0, F26_lrlrrr_eq, kq_seq c26 31, r26_10, kq_ret c26 63, reduceIte, reduceCtorEq, XE.exit.injEq, Nat.reduceEqDiff, Nat.reduceMul, Nat.reduceAdd] <;> kernel_rfl
theorem F26_call : eInv env (k + 1) (.func 26) #[] #[x0, x1, x2] h = F26 (eInv env k) k x0 x1 x2 h := kq_inv F26_eq
noncomputable def c28 : Code := codeOf Try.prog 28
theorem r28_0  : kCode env 28 false inv k (cp c28 2) (act 4 [(0, x0)]) h K =
    bnd (pBox Try.prog 40 x0 h) fun x1 =>
    K .normal (act 4 [(1, x1.1)]) x1.2 := kq_reg
theorem r28_1  : kCode env 28 false inv k (cp c28 6) (act 4 [(1, x1)]) h K =
    bnd (pMakeFunc (.func 53) #[] #[x1]) fun x3 =>
    K .normal (act 4 [(2, x3)]) h := kq_reg
theorem res28_0 : resOfFn env.P 28 .ret (act 4 [(2, x2)]) h = some (x2, h) := kq_res
/-- maps.Keys[map[string]struct{},string,struct{}] -/
noncomputable def F28 (inv : Inv) (k : Nat) (x0 : Value) (h : AH) : Option (Value × AH) :=
    bnd (pBox Try.prog 40 x0 h) fun x1 =>
    bnd (pMakeFunc (.func 53) #[] #[x1.1]) fun x3 =>
    some (x3, x1.2)
theorem F28_eq : eFun env k inv 28 #[x0] h = F28 inv k x0 h := by
      refine (kq_fun (a := act 4 [(0, x0)]) (c := cp c28 1)).trans ?_
      unfold F28
      simp only [kq_seq c28 1, r28_0, kq_seq c28 3, r28_1, kq_ret c28 7, res28_0, reduceIte, reduceCtorEq, XE.exit.injEq, Nat.reduceEqDiff, Nat.reduceMul, Nat.reduceAdd] <;> kernel_rfl
theorem F28_call : eInv env (k + 1) (.func 28) #[] #[x0] h = F28 (eInv env k) k x0 h := kq_inv F28_eq
noncomputable def c53 : Code := codeOf Try.prog 53
theorem r53_0  : kCode env 53 false inv k (cp c53 2) (act 14 [(0, x0), (1, x1)]) h K =
    bnd (pLoad Try.prog 40 x1 h) fun x4 =>
    bnd (pRange Try.prog 40 x4 h) fun x5 =>
    K .normal (act 14 [(0, x0), (5, x5.1)]) x5.2 := kq_reg
theorem r53_1  : kCode env 53 false inv k (cp c53 24) (act 14 [(0, x0), (5, x5), (13, x13)]) h K =
    bnd (pNext x5 false h) fun x6 =>
    bnd (pExtract x6.1 0) fun x7 =>
    K .normal (act 14 [(0, x0), (5, x5), (7, x7)]) x6.2 := kq_reg
theorem b53_lrllr  : kCode env 53 false inv k (cp c53 50) (act 14 [(0, x0), (5, x5), (7, x7)]) h K = brV x7 (kCode env 53 false inv k (cp c53 100) (act 14 [(0, x0), (5, x5), (7, x7)]) h K) (kCode env 53 false inv k (cp c53 101) (act 14 [(0, x0), (5, x5), (7, x7)]) h K) := kq_cond
theorem r53_2  : kCode env 53 false inv k (cp c53 204) (act 14 [(0, x0), (5, x5), (7, x7)]) h K =
    bnd ((none : Option (Value × AH))) fun x8 =>
    bnd (pExtract x8.1 0) fun x9 =>
    K .normal (act 14 [(0, x0), (3, x9), (5, x5)]) x8.2 := kq_reg
theorem r53_3  : kCode env 53 false inv k (cp c53 410) (act 14 [(0, x0), (3, x3), (5, x5)]) h K =
    bnd (callV inv x0 #[x3] h) fun x12 =>
    bnd (pUn Try.prog .not x12.1) fun x13 =>
    K .normal (act 14 [(0, x0), (5, x5), (13, x13)]) x12.2 := kq_reg
theorem b53_rrlrrllr  : kCode env 53 false inv k (cp c53 411) (act 14 [(0, x0), (5, x5), (13, x13)]) h K = brV x13 (kCode env 53 false inv k (cp c53 822) (act 14 [(0, x0), (5, x5), (13, x13)]) h K) (kCode env 53 false inv k (cp c53 823) (act 14 [(0, x0), (5, x5), (13, x13)]) h K) := kq_cond
noncomputable def F53_lr {β : Type} (inv : Inv) (k : Nat) : Nat → Value → Value → Value → AH → (Value → Value → Value → AH → Option β) → (Value → Value → Value → AH → Option β) → Option β
  | 0, _, _, _, _, _, _ => none
  | j + 1, x0, x5, x13, h, ke0, kr =>
    bnd (pNext x5 false h) fun x6 =>
    bnd (pExtract x6.1 0) fun x7 =>
    brV x7
    (bnd ((none : Option (Value × AH))) fun x8 =>
    bnd (pExtract x8.1 0) fun x9 =>
    bnd (callV inv x0 #[x9] x8.2) fun x12 =>
    bnd (pUn Try.prog .not x12.1) fun x13_1 =>
    brV x13_1
    (kr x0 x5 x13_1 x12.2)
    (F53_lr inv k j x0 x5 x13_1 x12.2 ke0 kr))
    (ke0 x0 x5 x7 x6.2)
theorem F53_lr_j (j : Nat) : kLoop (kCode env 53 false inv k (cp c53 12)) j (act 14 [(0, x0), (5, x5), (13, x13)]) h K = F53_lr inv k j x0 x5 x13 h (fun y0 y5 y7 h => K (.exit 0) (act 14 [(0, y0), (5, y5), (7, y7)]) h) (fun y0 y5 y13 h => K .ret (act 14 [(0, y0), (5, y5), (13, y13)]) h) := by
      induction j generalizing x0 x5 x13 h with
      | zero => rfl
      | succ j ih =>
        unfold F53_lr
        simp only [kLoop, kq_seq c53 12, r53_1, kq_seq c53 25, b53_lrllr, kq_skip c53 100, kq_block c53 51 1, kq_seq c53 102, r53_2, kq_seq c53 205, r53_3, b53_rrlrrllr, kq_ret c53 822, kq_skip c53 823, kq_exit c53 101 0, ih, reduceIte, reduceCtorEq, XE.exit.injEq, Nat.reduceEqDiff, Nat.reduceMul, Nat.reduceAdd] <;> kernel_rfl
theorem F53_lr_eq  : kCode env 53 false inv k (cp c53 6) (act 14 [(0, x0), (5, x5), (13, x13)]) h K = F53_lr inv k k x0 x5 x13 h (fun y0 y5 y7 h => K (.exit 0) (act 14 [(0, y0), (5, y5), (7, y7)]) h) (fun y0 y5 y13 h => K .ret (act 14 [(0, y0), (5, y5), (13, y13)]) h) := kq_loop (F53_lr_j k)
theorem F53_lr_eq_13  : kCode env 53 false inv k (cp c53 6) (act 14 [(0, x0), (5, x5)]) h K = F53_lr inv k k x0 x5 unk h (fun y0 y5 y7 h => K (.exit 0) (act 14 [(0, y0), (5, y5), (7, y7)]) h) (fun y0 y5 y13 h => K .ret (act 14 [(0, y0), (5, y5), (13, y13)]) h) := by
      rw [show act 14 [(0, x0), (5, x5)] = act 14 [(0, x0), (5, x5), (13, unk)] from by kernel_rfl]; exact F53_lr_eq ..
theorem res53_0 : resOfFn env.P 53 .normal (act 14 [(0, x0), (5, x5), (7, x7)]) h = some (.tuple #[], h) := kq_res
theorem res53_1 : resOfFn env.P 53 .ret (act 14 [(0, x0), (5, x5), (13, x13)]) h = some (.tuple #[], h) := kq_res
/-- maps.Keys[map[string]struct{},string,struct{}]$1 -/
noncomputable def F53 (inv : Inv) (k : Nat) (x0 x1 : Value) (h : AH) : Option (Value × AH) :=
    bnd (pLoad Try.prog 40 x1 h) fun x4 =>
    bnd (pRange Try.prog 40 x4 h) fun x5 =>
    F53_lr inv k k x0 x5.1 unk x5.2
    (fun y0 y5 y7 h =>
    some (.tuple #[], h))
    (fun y0_2 y5_3 y13 h_4 =>
    some (.tuple #[], h_4))
theorem F53_eq : eFun env k inv 53 #[x0, x1] h = F53 inv k x0 x1 h := by
      refine (kq_fun (a := act 14 [(0, x0), (1, x1)]) (c := cp c53 1)).trans ?_
      unfold F53
      simp only [kq_seq c53 1, r53_0, kq_block c53 3 0, F53_lr_eq_13, res53_0, res53_1, reduceIte, reduceCtorEq, XE.exit.injEq, Nat.reduceEqDiff, Nat.reduceMul, Nat.reduceAdd] <;> kernel_rfl
theorem F53_call : eInv env (k + 1) (.func 53) #[] #[x0, x1] h = F53 (eInv env k) k x0 x1 h := kq_inv F53_eq
end Go.Proofs.Ytagcejlclcldcaa.Sh
