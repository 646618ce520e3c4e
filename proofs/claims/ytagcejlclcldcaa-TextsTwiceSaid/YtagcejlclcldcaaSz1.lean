/- Shallow functions, part 1. Printed by a program of the prover's own from the loaded program; Lean checks it. -/
import Derived.Test.YtagcejlclcldcaaSz0
set_option linter.unusedVariables false
set_option linter.unusedSimpArgs false
set_option maxRecDepth 100000
namespace Go.Proofs.Ytagcejlclcldcaa.Sh
open Go Go.RowKit Go.Proofs.Ev
variable {β : Type} {inv : Inv} {k : Nat} {h : AH} {K : XE → Act → AH → Option β} {x0 x1 x2 x3 x4 x5 x6 x7 x8 x9 x10 x11 x12 x13 x14 x15 x16 x17 x18 x19 x20 x21 x22 x23 x24 x25 x26 x27 x28 x29 x30 x31 x34 x35 x37 x41 x42 x43 x44 x45 x48 x49 x50 x51 x52 x53 x55 x56 x58 x62 x63 x64 x65 x67 x71 x72 x73 x74 x75 x76 x79 x80 : Value}
noncomputable def c3 : Code := codeOf Try.prog 3
theorem r3_0  : kCode env 3 false inv k (cp c3 2) (act 107 [(0, x0), (1, x1), (2, x2)]) h K =
    K .normal (act 107 [(0, x0), (1, x1), (2, x2)]) h := kq_reg
theorem r3_1  : kCode env 3 false inv k (cp c3 12) (act 107 [(0, x0), (1, x1), (2, x2)]) h K =
    bnd (inv (.func 8) #[] #[] h) fun x12 =>
    bnd (pUn Try.prog .not x12.1) fun x13 =>
    K .normal (act 107 [(0, x0), (1, x1), (2, x2), (13, x13)]) x12.2 := kq_reg
theorem b3_rlr  : kCode env 3 false inv k (cp c3 13) (act 107 [(0, x0), (1, x1), (2, x2), (13, x13)]) h K = brV x13 (kCode env 3 false inv k (cp c3 26) (act 107 [(0, x0), (1, x1), (2, x2), (13, x13)]) h K) (kCode env 3 false inv k (cp c3 27) (act 107 [(0, x0), (1, x1), (2, x2), (13, x13)]) h K) := kq_cond
theorem r3_2  : kCode env 3 false inv k (cp c3 52) (act 107 [(0, x0), (1, x1), (2, x2), (13, x13)]) h K =
    K .normal (act 107 [(6, (.bool false))]) h := kq_reg
theorem res3_0 : resOfFn env.P 3 .ret (act 107 [(6, x6)]) h = some (x6, h) := kq_res
noncomputable abbrev G3_3 {β : Type} (inv : Inv) (x0 x1 x2 : Value) (h : AH) (K : Value → AH → Option β) : Option β :=
    bnd (inv (.func 9) #[] #[x0] h) fun x15 =>
    bnd (pUn Try.prog .not x15.1) fun x16 =>
    bnd (gd (some x16) false x15.2 (some (x0, x15.2))) fun x18 =>
    bnd (gd (some x16) false x18.2 (lt (pLen Try.prog #[22] x18.1 x18.2) x18.2)) fun x19 =>
    bnd (gd (some x16) false x19.2 (lt (pBin Try.prog .eql 3 (.tmp 19) (.const (.int .i64 0)) x19.1 (.int .i64 0)) x19.2)) fun x20 =>
    bnd (pickV x16 (.bool true) x20.1) fun x21 =>
    K (x21) x20.2
theorem r3_3  : kCode env 3 false inv k (cp c3 28) (act 107 [(0, x0), (1, x1), (2, x2), (13, x13)]) h K =
    G3_3 inv x0 x1 x2 h fun y21 h => K .normal (act 107 [(0, x0), (1, x1), (2, x2), (21, y21)]) h := kq_reg
theorem b3_rlrr  : kCode env 3 false inv k (cp c3 29) (act 107 [(0, x0), (1, x1), (2, x2), (21, x21)]) h K = brV x21 (kCode env 3 false inv k (cp c3 58) (act 107 [(0, x0), (1, x1), (2, x2), (21, x21)]) h K) (kCode env 3 false inv k (cp c3 59) (act 107 [(0, x0), (1, x1), (2, x2), (21, x21)]) h K) := kq_cond
theorem r3_4  : kCode env 3 false inv k (cp c3 116) (act 107 [(0, x0), (1, x1), (2, x2), (21, x21)]) h K =
    K .normal (act 107 [(6, (.bool true))]) h := kq_reg
theorem r3_5  : kCode env 3 false inv k (cp c3 30) (act 107 [(0, x0), (1, x1), (2, x2), (21, x21)]) h K =
    bnd (inv (.func 10) #[] #[x0] h) fun x23 =>
    K .normal (act 107 [(0, x0), (1, x1), (2, x2), (7, x23.1)]) x23.2 := kq_reg
theorem r3_6  : kCode env 3 false inv k (cp c3 124) (act 107 [(0, x0), (1, x1), (2, x2), (7, x7)]) h K =
    K .normal (act 107 [(0, x0), (1, x1), (2, x2), (7, x7), (8, (.int .i64 0))]) h := kq_reg
theorem r3_7  : kCode env 3 false inv k (cp c3 2000) (act 107 [(0, x0), (1, x1), (2, x2), (7, x7), (8, x8)]) h K =
    bnd (pLen Try.prog #[22] x7 h) fun x26 =>
    bnd (pBin Try.prog .lss 3 (.tmp 24) (.tmp 26) x8 x26) fun x27 =>
    K .normal (act 107 [(0, x0), (1, x1), (2, x2), (7, x7), (8, x8), (27, x27)]) h := kq_reg
theorem b3_rlllrlrrrr  : kCode env 3 false inv k (cp c3 2001) (act 107 [(0, x0), (1, x1), (2, x2), (7, x7), (8, x8), (27, x27)]) h K = brV x27 (kCode env 3 false inv k (cp c3 4002) (act 107 [(0, x0), (1, x1), (2, x2), (7, x7), (8, x8), (27, x27)]) h K) (kCode env 3 false inv k (cp c3 4003) (act 107 [(0, x0), (1, x1), (2, x2), (7, x7), (8, x8), (27, x27)]) h K) := kq_cond
noncomputable abbrev G3_9 {β : Type} (inv : Inv) (x0 x1 x2 x7 x8 : Value) (h : AH) (K : Value → AH → Option β) : Option β :=
    bnd (pBin Try.prog .gtr 3 (.tmp 30) (.const (.int .i64 0)) x8 (.int .i64 0)) fun x31 =>
    bnd (gd3 (some x31) true h (some (x7, h))) fun x33 =>
    bnd (gd3 (some x31) true x33.2.1 (some (x8, x33.2.1))) fun x34 =>
    bnd (gd3 (some x31) true x34.2.1 (lt (pIndexAddr Try.prog 22 x33.1 x34.1) x34.2.1)) fun x35 =>
    bnd (gd3 (some x31) true x35.2.1 (lt (pLoad Try.prog 9 x35.1 x35.2.1) x35.2.1)) fun x36 =>
    bnd (gd3 (some x31) true x36.2.1 (some (x7, x36.2.1))) fun x37 =>
    bnd (gd3 (some x31) true x37.2.1 (some (x8, x37.2.1))) fun x38 =>
    bnd (gd3 (some x31) true x38.2.1 (lt (pBin Try.prog .sub 3 (.tmp 38) (.const (.int .i64 1)) x38.1 (.int .i64 1)) x38.2.1)) fun x39 =>
    bnd (gd3 (some x31) true x39.2.1 (lt (pIndexAddr Try.prog 22 x37.1 x39.1) x39.2.1)) fun x40 =>
    bnd (gd3 (some x31) true x40.2.1 (lt (pLoad Try.prog 9 x40.1 x40.2.1) x40.2.1)) fun x41 =>
    bnd (gd3 (some x31) true x41.2.1 (lt (pBin Try.prog .leq 9 (.tmp 36) (.tmp 41) x36.1 x41.1) x41.2.1)) fun x42 =>
    bnd (pickV x31 x42.1 (.bool false)) fun x43 =>
    bnd (gd3 (some x43) false x42.2.1 (some (x0, x42.2.1))) fun x45 =>
    bnd (gd3 (some x43) false x45.2.1 (some (x7, x45.2.1))) fun x46 =>
    bnd (gd3 (some x43) false x46.2.1 (some (x8, x46.2.1))) fun x47 =>
    bnd (gd3 (some x43) false x47.2.1 (lt (pIndexAddr Try.prog 22 x46.1 x47.1) x47.2.1)) fun x48 =>
    bnd (gd3 (some x43) false x48.2.1 (lt (pLoad Try.prog 9 x48.1 x48.2.1) x48.2.1)) fun x49 =>
    bnd (gd3 (some x43) false x49.2.1 (inv (.func 11) #[] #[x45.1, x49.1] x49.2.1)) fun x50 =>
    bnd (gd3 (some x43) false x50.2.1 (lt (pUn Try.prog .not x50.1) x50.2.1)) fun x51 =>
    bnd (pickV x43 (.bool true) x51.1) fun x52 =>
    K (x52) x51.2.1
theorem r3_9  : kCode env 3 false inv k (cp c3 8008) (act 107 [(0, x0), (1, x1), (2, x2), (7, x7), (8, x8), (27, x27)]) h K =
    G3_9 inv x0 x1 x2 x7 x8 h fun y52 h => K .normal (act 107 [(0, x0), (1, x1), (2, x2), (7, x7), (8, x8), (52, y52)]) h := kq_draw
theorem b3_rllrllrlrrrr  : kCode env 3 false inv k (cp c3 8009) (act 107 [(0, x0), (1, x1), (2, x2), (7, x7), (8, x8), (52, x52)]) h K = brV x52 (kCode env 3 false inv k (cp c3 16018) (act 107 [(0, x0), (1, x1), (2, x2), (7, x7), (8, x8), (52, x52)]) h K) (kCode env 3 false inv k (cp c3 16019) (act 107 [(0, x0), (1, x1), (2, x2), (7, x7), (8, x8), (52, x52)]) h K) := kq_cond
theorem r3_10  : kCode env 3 false inv k (cp c3 32036) (act 107 [(0, x0), (1, x1), (2, x2), (7, x7), (8, x8), (52, x52)]) h K =
    K .normal (act 107 [(6, (.bool false))]) h := kq_reg
theorem r3_8  : kCode env 3 false inv k (cp c3 2003) (act 107 [(0, x0), (1, x1), (2, x2), (7, x7), (8, x8), (52, x52)]) h K =
    bnd (pBin Try.prog .add 3 (.tmp 28) (.const (.int .i64 1)) x8 (.int .i64 1)) fun x29 =>
    K .normal (act 107 [(0, x0), (1, x1), (2, x2), (7, x7), (8, x29)]) h := kq_reg
noncomputable def F3_lrlrrrr {β : Type} (inv : Inv) (k : Nat) : Nat → Value → Value → Value → Value → Value → AH → (Value → Value → Value → Value → Value → Value → AH → Option β) → (Value → AH → Option β) → Option β
  | 0, _, _, _, _, _, _, _, _ => none
  | j + 1, x0, x1, x2, x7, x8, h, ke0, kr =>
    bnd (pLen Try.prog #[22] x7 h) fun x26 =>
    bnd (pBin Try.prog .lss 3 (.tmp 24) (.tmp 26) x8 x26) fun x27 =>
    brV x27
    (G3_9 inv x0 x1 x2 x7 x8 h fun y52 h =>
    brV y52
    (kr (.bool false) h)
    (bnd (pBin Try.prog .add 3 (.tmp 28) (.const (.int .i64 1)) x8 (.int .i64 1)) fun x29 =>
    F3_lrlrrrr inv k j x0 x1 x2 x7 x29 h ke0 kr))
    (ke0 x0 x1 x2 x7 x8 x27 h)
theorem F3_lrlrrrr_j (j : Nat) : kLoop (kCode env 3 false inv k (cp c3 500)) j (act 107 [(0, x0), (1, x1), (2, x2), (7, x7), (8, x8)]) h K = F3_lrlrrrr inv k j x0 x1 x2 x7 x8 h (fun y0 y1 y2 y7 y8 y27 h => K (.exit 0) (act 107 [(0, y0), (1, y1), (2, y2), (7, y7), (8, y8), (27, y27)]) h) (fun y6 h => K .ret (act 107 [(6, y6)]) h) := by
      induction j generalizing x0 x1 x2 x7 x8 h with
      | zero => rfl
      | succ j ih =>
        unfold F3_lrlrrrr
        simp only [kLoop, kq_seq c3 500, kq_seq c3 1000, r3_7, b3_rlllrlrrrr, kq_skip c3 4002, kq_seq c3 1001, kq_block c3 2002 1, kq_seq c3 4004, r3_9, b3_rllrllrlrrrr, kq_seq c3 16018, r3_10, kq_ret c3 32037, kq_skip c3 16019, r3_8, kq_exit c3 4003 0, ih, reduceIte, reduceCtorEq, XE.exit.injEq, Nat.reduceEqDiff, Nat.reduceMul, Nat.reduceAdd] <;> kernel_rfl
theorem F3_lrlrrrr_eq  : kCode env 3 false inv k (cp c3 250) (act 107 [(0, x0), (1, x1), (2, x2), (7, x7), (8, x8)]) h K = F3_lrlrrrr inv k k x0 x1 x2 x7 x8 h (fun y0 y1 y2 y7 y8 y27 h => K (.exit 0) (act 107 [(0, y0), (1, y1), (2, y2), (7, y7), (8, y8), (27, y27)]) h) (fun y6 h => K .ret (act 107 [(6, y6)]) h) := kq_loop (F3_lrlrrrr_j k)
theorem r3_11  : kCode env 3 false inv k (cp c3 252) (act 107 [(0, x0), (1, x1), (2, x2), (7, x7), (8, x8), (27, x27)]) h K =
    K .normal (act 107 [(0, x0), (1, x1), (2, x2), (7, x7), (9, (.int .i64 0))]) h := kq_reg
theorem r3_12  : kCode env 3 false inv k (cp c3 4048) (act 107 [(0, x0), (1, x1), (2, x2), (7, x7), (9, x9)]) h K =
    bnd (pLen Try.prog #[22] x0 h) fun x55 =>
    bnd (pBin Try.prog .lss 3 (.tmp 53) (.tmp 55) x9 x55) fun x56 =>
    K .normal (act 107 [(0, x0), (1, x1), (2, x2), (7, x7), (9, x9), (56, x56)]) h := kq_reg
theorem b3_rlllrlrrrrr  : kCode env 3 false inv k (cp c3 4049) (act 107 [(0, x0), (1, x1), (2, x2), (7, x7), (9, x9), (56, x56)]) h K = brV x56 (kCode env 3 false inv k (cp c3 8098) (act 107 [(0, x0), (1, x1), (2, x2), (7, x7), (9, x9), (56, x56)]) h K) (kCode env 3 false inv k (cp c3 8099) (act 107 [(0, x0), (1, x1), (2, x2), (7, x7), (9, x9), (56, x56)]) h K) := kq_cond
theorem r3_14  : kCode env 3 false inv k (cp c3 16200) (act 107 [(0, x0), (1, x1), (2, x2), (7, x7), (9, x9), (56, x56)]) h K =
    bnd (pIndexAddr Try.prog 22 x0 x9) fun x62 =>
    bnd (pLoad Try.prog 9 x62 h) fun x63 =>
    bnd (inv (.func 11) #[] #[x7, x63] h) fun x64 =>
    bnd (pUn Try.prog .not x64.1) fun x65 =>
    K .normal (act 107 [(0, x0), (1, x1), (2, x2), (7, x7), (9, x9), (65, x65)]) x64.2 := kq_reg
theorem b3_rllrllrlrrrrr  : kCode env 3 false inv k (cp c3 16201) (act 107 [(0, x0), (1, x1), (2, x2), (7, x7), (9, x9), (65, x65)]) h K = brV x65 (kCode env 3 false inv k (cp c3 32402) (act 107 [(0, x0), (1, x1), (2, x2), (7, x7), (9, x9), (65, x65)]) h K) (kCode env 3 false inv k (cp c3 32403) (act 107 [(0, x0), (1, x1), (2, x2), (7, x7), (9, x9), (65, x65)]) h K) := kq_cond
theorem r3_15  : kCode env 3 false inv k (cp c3 64804) (act 107 [(0, x0), (1, x1), (2, x2), (7, x7), (9, x9), (65, x65)]) h K =
    K .normal (act 107 [(6, (.bool false))]) h := kq_reg
theorem r3_13  : kCode env 3 false inv k (cp c3 4051) (act 107 [(0, x0), (1, x1), (2, x2), (7, x7), (9, x9), (65, x65)]) h K =
    bnd (pBin Try.prog .add 3 (.tmp 57) (.const (.int .i64 1)) x9 (.int .i64 1)) fun x58 =>
    K .normal (act 107 [(0, x0), (1, x1), (2, x2), (7, x7), (9, x58)]) h := kq_reg
noncomputable def F3_lrlrrrrr {β : Type} (inv : Inv) (k : Nat) : Nat → Value → Value → Value → Value → Value → AH → (Value → Value → Value → Value → Value → Value → AH → Option β) → (Value → AH → Option β) → Option β
  | 0, _, _, _, _, _, _, _, _ => none
  | j + 1, x0, x1, x2, x7, x9, h, ke2, kr =>
    bnd (pLen Try.prog #[22] x0 h) fun x55 =>
    bnd (pBin Try.prog .lss 3 (.tmp 53) (.tmp 55) x9 x55) fun x56 =>
    brV x56
    (bnd (pIndexAddr Try.prog 22 x0 x9) fun x62 =>
    bnd (pLoad Try.prog 9 x62 h) fun x63 =>
    bnd (inv (.func 11) #[] #[x7, x63] h) fun x64 =>
    bnd (pUn Try.prog .not x64.1) fun x65 =>
    brV x65
    (kr (.bool false) x64.2)
    (bnd (pBin Try.prog .add 3 (.tmp 57) (.const (.int .i64 1)) x9 (.int .i64 1)) fun x58 =>
    F3_lrlrrrrr inv k j x0 x1 x2 x7 x58 x64.2 ke2 kr))
    (ke2 x0 x1 x2 x7 x9 x56 h)
theorem F3_lrlrrrrr_j (j : Nat) : kLoop (kCode env 3 false inv k (cp c3 1012)) j (act 107 [(0, x0), (1, x1), (2, x2), (7, x7), (9, x9)]) h K = F3_lrlrrrrr inv k j x0 x1 x2 x7 x9 h (fun y0 y1 y2 y7 y9 y56 h => K (.exit 2) (act 107 [(0, y0), (1, y1), (2, y2), (7, y7), (9, y9), (56, y56)]) h) (fun y6 h => K .ret (act 107 [(6, y6)]) h) := by
      induction j generalizing x0 x1 x2 x7 x9 h with
      | zero => rfl
      | succ j ih =>
        unfold F3_lrlrrrrr
        simp only [kLoop, kq_seq c3 1012, kq_seq c3 2024, r3_12, b3_rlllrlrrrrr, kq_skip c3 8098, kq_seq c3 2025, kq_block c3 4050 3, kq_seq c3 8100, r3_14, b3_rllrllrlrrrrr, kq_seq c3 32402, r3_15, kq_ret c3 64805, kq_skip c3 32403, r3_13, kq_exit c3 8099 2, ih, reduceIte, reduceCtorEq, XE.exit.injEq, Nat.reduceEqDiff, Nat.reduceMul, Nat.reduceAdd] <;> kernel_rfl
theorem F3_lrlrrrrr_eq  : kCode env 3 false inv k (cp c3 506) (act 107 [(0, x0), (1, x1), (2, x2), (7, x7), (9, x9)]) h K = F3_lrlrrrrr inv k k x0 x1 x2 x7 x9 h (fun y0 y1 y2 y7 y9 y56 h => K (.exit 2) (act 107 [(0, y0), (1, y1), (2, y2), (7, y7), (9, y9), (56, y56)]) h) (fun y6 h => K .ret (act 107 [(6, y6)]) h) := kq_loop (F3_lrlrrrrr_j k)
theorem r3_16  : kCode env 3 false inv k (cp c3 254) (act 107 [(0, x0), (1, x1), (2, x2), (7, x7), (9, x9), (56, x56)]) h K =
    bnd (inv (.func 12) #[] #[x0] h) fun x67 =>
    bnd (pLen Try.prog #[22] x0 x67.2) fun x71 =>
    bnd (inv (.func 13) #[] #[x1, x71] x67.2) fun x72 =>
    bnd (pIndexAddr Try.prog 22 x0 x72.1) fun x73 =>
    bnd (pLoad Try.prog 9 x73 x72.2) fun x74 =>
    bnd (pBuildSlice Try.prog 22 1 #[(0, x74)] x72.2) fun x75 =>
    bnd (pAppend Try.prog #[22, 22] x67.1 x75.1 x75.2) fun x76 =>
    K .normal (act 107 [(0, x0), (2, x2), (7, x7), (10, x76.1)]) x76.2 := kq_reg
theorem r3_17  : kCode env 3 false inv k (cp c3 510) (act 107 [(0, x0), (2, x2), (7, x7), (10, x10)]) h K =
    bnd (pLen Try.prog #[22] x0 h) fun x79 =>
    bnd (inv (.func 13) #[] #[x2, x79] h) fun x80 =>
    K .normal (act 107 [(0, x0), (7, x7), (10, x10), (11, x80.1)]) x80.2 := kq_reg
noncomputable abbrev G3_18 {β : Type} (inv : Inv) (x0 x7 x10 x11 : Value) (h : AH) (K : AH → Option β) : Option β :=
    bnd (pLen Try.prog #[22] x0 h) fun x85 =>
    bnd (pLen Try.prog #[22] x0 h) fun x88 =>
    bnd (pIndexAddr Try.prog 22 x10 x88) fun x89 =>
    bnd (pLoad Try.prog 9 x89 h) fun x90 =>
    bnd (pIndexAddr Try.prog 22 x10 x11) fun x93 =>
    bnd (pLoad Try.prog 9 x93 h) fun x94 =>
    bnd (pIndexAddr Try.prog 22 x10 x11) fun x95 =>
    bnd (kSt (pStore Try.prog 9 x95 x90 h)) fun u =>
    bnd (pIndexAddr Try.prog 22 x10 x85) fun x96 =>
    bnd (kSt (pStore Try.prog 9 x96 x94 u.2)) fun u_7 =>
    chkK ((!true || !true || (sameO (pLen Try.prog #[22] x0 h) x85 && sameO (pLen Try.prog #[22] x0 u.2) x85)) && true) <|
    K u_7.2
theorem r3_18  : kCode env 3 false inv k (cp c3 1022) (act 107 [(0, x0), (7, x7), (10, x10), (11, x11)]) h K =
    G3_18 inv x0 x7 x10 x11 h fun  h => K .normal (act 107 [(7, x7), (10, x10)]) h := kq_draw
noncomputable abbrev G3_19 {β : Type} (inv : Inv) (x7 x10 : Value) (h : AH) (K : Value → AH → Option β) : Option β :=
    bnd (inv (.func 10) #[] #[x10] h) fun x98 =>
    bnd (inv (.func 14) #[] #[x98.1, x7] x98.2) fun x100 =>
    bnd (gd (some x100.1) true x100.2 (some (x7, x100.2))) fun x102 =>
    bnd (gd (some x100.1) true x102.2 (inv (.func 10) #[] #[x102.1] x102.2)) fun x103 =>
    bnd (gd (some x100.1) true x103.2 (some (x7, x103.2))) fun x104 =>
    bnd (gd (some x100.1) true x104.2 (inv (.func 14) #[] #[x103.1, x104.1] x104.2)) fun x105 =>
    bnd (pickV x100.1 x105.1 (.bool false)) fun x106 =>
    K (x106) x105.2
theorem r3_19  : kCode env 3 false inv k (cp c3 2046) (act 107 [(7, x7), (10, x10)]) h K =
    G3_19 inv x7 x10 h fun y6 h => K .normal (act 107 [(6, y6)]) h := kq_reg
/-- shadowbook/shadowbooklaw07.TextsWords -/
noncomputable def F3 (inv : Inv) (k : Nat) (x0 x1 x2 : Value) (h : AH) : Option (Value × AH) :=
    bnd (inv (.func 8) #[] #[] h) fun x12 =>
    bnd (pUn Try.prog .not x12.1) fun x13 =>
    brV x13
    (some ((.bool false), x12.2))
    (G3_3 inv x0 x1 x2 x12.2 fun y21 h =>
    brV y21
    (some ((.bool true), h))
    (bnd (inv (.func 10) #[] #[x0] h) fun x23 =>
    F3_lrlrrrr inv k k x0 x1 x2 x23.1 (.int .i64 0) x23.2
    (fun y0 y1 y2 y7 y8 y27 h_1 =>
    F3_lrlrrrrr inv k k y0 y1 y2 y7 (.int .i64 0) h_1
    (fun y0_2 y1_3 y2_4 y7_5 y9 y56 h_6 =>
    bnd (inv (.func 12) #[] #[y0_2] h_6) fun x67 =>
    bnd (pLen Try.prog #[22] y0_2 x67.2) fun x71 =>
    bnd (inv (.func 13) #[] #[y1_3, x71] x67.2) fun x72 =>
    bnd (pIndexAddr Try.prog 22 y0_2 x72.1) fun x73 =>
    bnd (pLoad Try.prog 9 x73 x72.2) fun x74 =>
    bnd (pBuildSlice Try.prog 22 1 #[(0, x74)] x72.2) fun x75 =>
    bnd (pAppend Try.prog #[22, 22] x67.1 x75.1 x75.2) fun x76 =>
    bnd (pLen Try.prog #[22] y0_2 x76.2) fun x79 =>
    bnd (inv (.func 13) #[] #[y2_4, x79] x76.2) fun x80 =>
    G3_18 inv y0_2 y7_5 x76.1 x80.1 x80.2 fun  h_8 =>
    G3_19 inv y7_5 x76.1 h_8 fun y6 h_9 =>
    some (y6, h_9))
    (fun y6_10 h_11 =>
    some (y6_10, h_11)))
    (fun y6_12 h_13 =>
    some (y6_12, h_13))))
theorem F3_eq : eFun env k inv 3 #[x0, x1, x2] h = F3 inv k x0 x1 x2 h := by
      refine (kq_fun (a := act 107 [(0, x0), (1, x1), (2, x2)]) (c := cp c3 1)).trans ?_
      unfold F3
      simp only [kq_seq c3 1, r3_0, kq_seq c3 3, kq_seq c3 6, r3_1, b3_rlr, kq_seq c3 26, r3_2, kq_ret c3 53, res3_0, kq_skip c3 27, kq_seq c3 7, kq_seq c3 14, r3_3, b3_rlrr, kq_seq c3 58, r3_4, kq_ret c3 117, kq_skip c3 59, kq_seq c3 15, r3_5, kq_seq c3 31, kq_seq c3 62, r3_6, kq_block c3 125 0, F3_lrlrrrr_eq, kq_seq c3 63, kq_seq c3 126, r3_11, kq_block c3 253 2, F3_lrlrrrrr_eq, kq_seq c3 127, r3_16, kq_seq c3 255, r3_17, kq_seq c3 511, r3_18, kq_seq c3 1023, r3_19, kq_ret c3 2047, reduceIte, reduceCtorEq, XE.exit.injEq, Nat.reduceEqDiff, Nat.reduceMul, Nat.reduceAdd] <;> kernel_rfl
theorem F3_call : eInv env (k + 1) (.func 3) #[] #[x0, x1, x2] h = F3 (eInv env k) k x0 x1 x2 h := kq_inv F3_eq
noncomputable def c4 : Code := codeOf Try.prog 4
theorem r4_0  : kCode env 4 false inv k (cp c4 2) (act 87 [(0, x0)]) h K =
    K .normal (act 87 [(0, x0)]) h := kq_reg
theorem r4_1  : kCode env 4 false inv k (cp c4 12) (act 87 [(0, x0)]) h K =
    bnd (inv (.func 8) #[] #[] h) fun x11 =>
    bnd (pUn Try.prog .not x11.1) fun x12 =>
    K .normal (act 87 [(0, x0), (12, x12)]) x11.2 := kq_reg
theorem b4_rlr  : kCode env 4 false inv k (cp c4 13) (act 87 [(0, x0), (12, x12)]) h K = brV x12 (kCode env 4 false inv k (cp c4 26) (act 87 [(0, x0), (12, x12)]) h K) (kCode env 4 false inv k (cp c4 27) (act 87 [(0, x0), (12, x12)]) h K) := kq_cond
theorem r4_2  : kCode env 4 false inv k (cp c4 52) (act 87 [(0, x0), (12, x12)]) h K =
    K .normal (act 87 [(2, (.bool false))]) h := kq_reg
theorem res4_0 : resOfFn env.P 4 .ret (act 87 [(2, x2)]) h = some (x2, h) := kq_res
theorem r4_3  : kCode env 4 false inv k (cp c4 28) (act 87 [(0, x0), (12, x12)]) h K =
    bnd (inv (.func 9) #[] #[x0] h) fun x14 =>
    bnd (pUn Try.prog .not x14.1) fun x15 =>
    K .normal (act 87 [(0, x0), (15, x15)]) x14.2 := kq_reg
theorem b4_rlrr  : kCode env 4 false inv k (cp c4 29) (act 87 [(0, x0), (15, x15)]) h K = brV x15 (kCode env 4 false inv k (cp c4 58) (act 87 [(0, x0), (15, x15)]) h K) (kCode env 4 false inv k (cp c4 59) (act 87 [(0, x0), (15, x15)]) h K) := kq_cond
theorem r4_4  : kCode env 4 false inv k (cp c4 116) (act 87 [(0, x0), (15, x15)]) h K =
    K .normal (act 87 [(2, (.bool true))]) h := kq_reg
theorem r4_5  : kCode env 4 false inv k (cp c4 30) (act 87 [(0, x0), (15, x15)]) h K =
    bnd (inv (.func 12) #[] #[x0] h) fun x17 =>
    bnd (pAppend Try.prog #[22, 22] x17.1 x0 x17.2) fun x19 =>
    K .normal (act 87 [(0, x0), (3, x19.1)]) x19.2 := kq_reg
theorem r4_6  : kCode env 4 false inv k (cp c4 62) (act 87 [(0, x0), (3, x3)]) h K =
    bnd (inv (.func 10) #[] #[x0] h) fun x21 =>
    K .normal (act 87 [(0, x0), (3, x3), (4, x21.1)]) x21.2 := kq_reg
theorem r4_7  : kCode env 4 false inv k (cp c4 126) (act 87 [(0, x0), (3, x3), (4, x4)]) h K =
    bnd (inv (.func 15) #[] #[x0] h) fun x24 =>
    bnd (pExtract x24.1 0) fun x25 =>
    bnd (pExtract x24.1 1) fun x26 =>
    K .normal (act 87 [(0, x0), (3, x3), (4, x4), (5, x25), (6, x26)]) x24.2 := kq_reg
theorem r4_8  : kCode env 4 false inv k (cp c4 254) (act 87 [(0, x0), (3, x3), (4, x4), (5, x5), (6, x6)]) h K =
    bnd (inv (.func 15) #[] #[x3] h) fun x29 =>
    bnd (pExtract x29.1 0) fun x30 =>
    bnd (pExtract x29.1 1) fun x31 =>
    K .normal (act 87 [(0, x0), (3, x3), (4, x4), (5, x5), (6, x6), (7, x30), (8, x31)]) x29.2 := kq_reg
theorem r4_9  : kCode env 4 false inv k (cp c4 510) (act 87 [(0, x0), (3, x3), (4, x4), (5, x5), (6, x6), (7, x7), (8, x8)]) h K =
    K .normal (act 87 [(0, x0), (3, x3), (4, x4), (5, x5), (6, x6), (7, x7), (8, x8), (9, (.int .i64 0))]) h := kq_reg
theorem r4_10  : kCode env 4 false inv k (cp c4 2044) (act 87 [(0, x0), (3, x3), (4, x4), (5, x5), (6, x6), (7, x7), (8, x8), (9, x9)]) h K =
    K .normal (act 87 [(0, x0), (3, x3), (4, x4), (5, x5), (6, x6), (7, x7), (8, x8), (9, x9), (10, (.int .i64 0))]) h := kq_reg
theorem r4_11  : kCode env 4 false inv k (cp c4 32720) (act 87 [(0, x0), (3, x3), (4, x4), (5, x5), (6, x6), (7, x7), (8, x8), (9, x9), (10, x10)]) h K =
    bnd (pLen Try.prog #[22] x0 h) fun x34 =>
    bnd (pBin Try.prog .lss 3 (.tmp 32) (.tmp 34) x10 x34) fun x35 =>
    K .normal (act 87 [(0, x0), (3, x3), (4, x4), (5, x5), (6, x6), (7, x7), (8, x8), (9, x9), (10, x10), (35, x35)]) h := kq_reg
theorem b4_rlllrlrrrrrrrr  : kCode env 4 false inv k (cp c4 32721) (act 87 [(0, x0), (3, x3), (4, x4), (5, x5), (6, x6), (7, x7), (8, x8), (9, x9), (10, x10), (35, x35)]) h K = brV x35 (kCode env 4 false inv k (cp c4 65442) (act 87 [(0, x0), (3, x3), (4, x4), (5, x5), (6, x6), (7, x7), (8, x8), (9, x9), (10, x10), (35, x35)]) h K) (kCode env 4 false inv k (cp c4 65443) (act 87 [(0, x0), (3, x3), (4, x4), (5, x5), (6, x6), (7, x7), (8, x8), (9, x9), (10, x10), (35, x35)]) h K) := kq_cond
theorem r4_13  : kCode env 4 false inv k (cp c4 130888) (act 87 [(0, x0), (3, x3), (4, x4), (5, x5), (6, x6), (7, x7), (8, x8), (9, x9), (10, x10), (35, x35)]) h K =
    bnd (pIndexAddr Try.prog 22 x0 x10) fun x41 =>
    bnd (pLoad Try.prog 9 x41 h) fun x42 =>
    bnd (pLen Try.prog #[9] x42 h) fun x43 =>
    bnd (pBin Try.prog .add 3 (.tmp 38) (.tmp 43) x9 x43) fun x44 =>
    bnd (pBin Try.prog .add 3 (.tmp 44) (.const (.int .i64 1)) x44 (.int .i64 1)) fun x45 =>
    K .normal (act 87 [(0, x0), (3, x3), (4, x4), (5, x5), (6, x6), (7, x7), (8, x8), (9, x45), (10, x10)]) h := kq_reg
theorem r4_14  : kCode env 4 false inv k (cp c4 261778) (act 87 [(0, x0), (3, x3), (4, x4), (5, x5), (6, x6), (7, x7), (8, x8), (9, x9), (10, x10)]) h K =
    bnd (pIndexAddr Try.prog 22 x0 x10) fun x48 =>
    bnd (pLoad Try.prog 9 x48 h) fun x49 =>
    bnd (pLen Try.prog #[9] x49 h) fun x50 =>
    bnd (pBin Try.prog .geq 3 (.tmp 50) (.const (.int .i64 128)) x50 (.int .i64 128)) fun x51 =>
    K .normal (act 87 [(0, x0), (3, x3), (4, x4), (5, x5), (6, x6), (7, x7), (8, x8), (9, x9), (10, x10), (51, x51)]) h := kq_reg
theorem b4_rrllrllrlrrrrrrrr  : kCode env 4 false inv k (cp c4 261779) (act 87 [(0, x0), (3, x3), (4, x4), (5, x5), (6, x6), (7, x7), (8, x8), (9, x9), (10, x10), (51, x51)]) h K = brV x51 (kCode env 4 false inv k (cp c4 523558) (act 87 [(0, x0), (3, x3), (4, x4), (5, x5), (6, x6), (7, x7), (8, x8), (9, x9), (10, x10), (51, x51)]) h K) (kCode env 4 false inv k (cp c4 523559) (act 87 [(0, x0), (3, x3), (4, x4), (5, x5), (6, x6), (7, x7), (8, x8), (9, x9), (10, x10), (51, x51)]) h K) := kq_cond
theorem r4_15  : kCode env 4 false inv k (cp c4 523558) (act 87 [(0, x0), (3, x3), (4, x4), (5, x5), (6, x6), (7, x7), (8, x8), (9, x9), (10, x10), (51, x51)]) h K =
    bnd (pBin Try.prog .add 3 (.tmp 52) (.const (.int .i64 1)) x9 (.int .i64 1)) fun x53 =>
    K .normal (act 87 [(0, x0), (3, x3), (4, x4), (5, x5), (6, x6), (7, x7), (8, x8), (9, x53), (10, x10)]) h := kq_reg
noncomputable def F4_lrllrlrrrrrrrr {β : Type} (inv : Inv) (k : Nat) (x0 x3 x4 x5 x6 x7 x8 x9 x10 x35 : Value) (h : AH) (kn : (Value → Value → Value → Value → Value → Value → Value → Value → Value → Value → AH → Option β)) : Option β :=
    bnd (pIndexAddr Try.prog 22 x0 x10) fun x41 =>
    bnd (pLoad Try.prog 9 x41 h) fun x42 =>
    bnd (pLen Try.prog #[9] x42 h) fun x43 =>
    bnd (pBin Try.prog .add 3 (.tmp 38) (.tmp 43) x9 x43) fun x44 =>
    bnd (pBin Try.prog .add 3 (.tmp 44) (.const (.int .i64 1)) x44 (.int .i64 1)) fun x45 =>
    bnd (pIndexAddr Try.prog 22 x0 x10) fun x48 =>
    bnd (pLoad Try.prog 9 x48 h) fun x49 =>
    bnd (pLen Try.prog #[9] x49 h) fun x50 =>
    bnd (pBin Try.prog .geq 3 (.tmp 50) (.const (.int .i64 128)) x50 (.int .i64 128)) fun x51 =>
    brV x51
    (bnd (pBin Try.prog .add 3 (.tmp 52) (.const (.int .i64 1)) x45 (.int .i64 1)) fun x53 =>
    kn x0 x3 x4 x5 x6 x7 x8 x53 x10 unk h)
    (kn x0 x3 x4 x5 x6 x7 x8 x45 x10 x51 h)
theorem F4_lrllrlrrrrrrrr_eq  : kCode env 4 false inv k (cp c4 32722) (act 87 [(0, x0), (3, x3), (4, x4), (5, x5), (6, x6), (7, x7), (8, x8), (9, x9), (10, x10), (35, x35)]) h K = F4_lrllrlrrrrrrrr inv k x0 x3 x4 x5 x6 x7 x8 x9 x10 x35 h (fun y0 y3 y4 y5 y6 y7 y8 y9 y10 y51 h => K .normal (act 87 [(0, y0), (3, y3), (4, y4), (5, y5), (6, y6), (7, y7), (8, y8), (9, y9), (10, y10), (51, y51)]) h) := by
      unfold F4_lrllrlrrrrrrrr
      simp only [kq_block c4 32722 1, kq_seq c4 65444, r4_13, kq_seq c4 130889, r4_14, b4_rrllrllrlrrrrrrrr, r4_15, kq_skip c4 523559, reduceIte, reduceCtorEq, XE.exit.injEq, Nat.reduceEqDiff, Nat.reduceMul, Nat.reduceAdd] <;> kernel_rfl
theorem r4_12  : kCode env 4 false inv k (cp c4 32723) (act 87 [(0, x0), (3, x3), (4, x4), (5, x5), (6, x6), (7, x7), (8, x8), (9, x9), (10, x10), (51, x51)]) h K =
    bnd (pBin Try.prog .add 3 (.tmp 36) (.const (.int .i64 1)) x10 (.int .i64 1)) fun x37 =>
    K .normal (act 87 [(0, x0), (3, x3), (4, x4), (5, x5), (6, x6), (7, x7), (8, x8), (9, x9), (10, x37)]) h := kq_reg
noncomputable def F4_lrlrrrrrrrr {β : Type} (inv : Inv) (k : Nat) : Nat → Value → Value → Value → Value → Value → Value → Value → Value → Value → AH → (Value → Value → Value → Value → Value → Value → Value → Value → Value → Value → AH → Option β) → Option β
  | 0, _, _, _, _, _, _, _, _, _, _, _ => none
  | j + 1, x0, x3, x4, x5, x6, x7, x8, x9, x10, h, ke0 =>
    bnd (pLen Try.prog #[22] x0 h) fun x34 =>
    bnd (pBin Try.prog .lss 3 (.tmp 32) (.tmp 34) x10 x34) fun x35 =>
    brV x35
    (F4_lrllrlrrrrrrrr inv k x0 x3 x4 x5 x6 x7 x8 x9 x10 x35 h
    (fun y0 y3 y4 y5 y6 y7 y8 y9 y10 y51 h =>
    bnd (pBin Try.prog .add 3 (.tmp 36) (.const (.int .i64 1)) y10 (.int .i64 1)) fun x37 =>
    F4_lrlrrrrrrrr inv k j y0 y3 y4 y5 y6 y7 y8 y9 x37 h ke0))
    (ke0 x0 x3 x4 x5 x6 x7 x8 x9 x10 x35 h)
theorem F4_lrlrrrrrrrr_j (j : Nat) : kLoop (kCode env 4 false inv k (cp c4 8180)) j (act 87 [(0, x0), (3, x3), (4, x4), (5, x5), (6, x6), (7, x7), (8, x8), (9, x9), (10, x10)]) h K = F4_lrlrrrrrrrr inv k j x0 x3 x4 x5 x6 x7 x8 x9 x10 h (fun y0 y3 y4 y5 y6 y7 y8 y9 y10 y35 h => K (.exit 0) (act 87 [(0, y0), (3, y3), (4, y4), (5, y5), (6, y6), (7, y7), (8, y8), (9, y9), (10, y10), (35, y35)]) h) := by
      induction j generalizing x0 x3 x4 x5 x6 x7 x8 x9 x10 h with
      | zero => rfl
      | succ j ih =>
        unfold F4_lrlrrrrrrrr
        simp only [kLoop, kq_seq c4 8180, kq_seq c4 16360, r4_11, b4_rlllrlrrrrrrrr, kq_skip c4 65442, kq_seq c4 16361, F4_lrllrlrrrrrrrr_eq, r4_12, kq_exit c4 65443 0, ih, reduceIte, reduceCtorEq, XE.exit.injEq, Nat.reduceEqDiff, Nat.reduceMul, Nat.reduceAdd] <;> kernel_rfl
theorem F4_lrlrrrrrrrr_eq  : kCode env 4 false inv k (cp c4 4090) (act 87 [(0, x0), (3, x3), (4, x4), (5, x5), (6, x6), (7, x7), (8, x8), (9, x9), (10, x10)]) h K = F4_lrlrrrrrrrr inv k k x0 x3 x4 x5 x6 x7 x8 x9 x10 h (fun y0 y3 y4 y5 y6 y7 y8 y9 y10 y35 h => K (.exit 0) (act 87 [(0, y0), (3, y3), (4, y4), (5, y5), (6, y6), (7, y7), (8, y8), (9, y9), (10, y10), (35, y35)]) h) := kq_loop (F4_lrlrrrrrrrr_j k)
noncomputable abbrev G4_16 {β : Type} (inv : Inv) (x3 x4 x5 x6 x7 x8 x9 : Value) (h : AH) (K : Value → AH → Option β) : Option β :=
    bnd (pBin Try.prog .eql 31 (.tmp 54) (.const (.int .i64 0)) x6 (.int .i64 0)) fun x55 =>
    bnd (gd (some x55) true h (some (x8, h))) fun x57 =>
    bnd (gd (some x55) true x57.2 (lt (pBin Try.prog .eql 31 (.tmp 57) (.const (.int .i64 0)) x57.1 (.int .i64 0)) x57.2)) fun x58 =>
    bnd (pickV x55 x58.1 (.bool false)) fun x59 =>
    bnd (gd (some x59) true x58.2 (some (x3, x58.2))) fun x61 =>
    bnd (gd (some x59) true x61.2 (inv (.func 10) #[] #[x61.1] x61.2)) fun x62 =>
    bnd (gd (some x59) true x62.2 (some (x4, x62.2))) fun x63 =>
    bnd (gd (some x59) true x63.2 (inv (.func 14) #[] #[x62.1, x63.1] x63.2)) fun x64 =>
    bnd (pickV x59 x64.1 (.bool false)) fun x65 =>
    bnd (gd (some x65) true x64.2 (some (x4, x64.2))) fun x67 =>
    bnd (gd (some x65) true x67.2 (inv (.func 10) #[] #[x67.1] x67.2)) fun x68 =>
    bnd (gd (some x65) true x68.2 (some (x4, x68.2))) fun x69 =>
    bnd (gd (some x65) true x69.2 (inv (.func 14) #[] #[x68.1, x69.1] x69.2)) fun x70 =>
    bnd (pickV x65 x70.1 (.bool false)) fun x71 =>
    bnd (gd (some x71) true x70.2 (some (x5, x70.2))) fun x73 =>
    bnd (gd (some x71) true x73.2 (lt (pLen Try.prog #[30] x73.1 x73.2) x73.2)) fun x74 =>
    bnd (gd (some x71) true x74.2 (some (x9, x74.2))) fun x75 =>
    bnd (gd (some x71) true x75.2 (lt (pBin Try.prog .add 3 (.const (.int .i64 2)) (.tmp 75) (.int .i64 2) x75.1) x75.2)) fun x76 =>
    bnd (gd (some x71) true x76.2 (lt (pBin Try.prog .eql 3 (.tmp 74) (.tmp 76) x74.1 x76.1) x76.2)) fun x77 =>
    bnd (pickV x71 x77.1 (.bool false)) fun x78 =>
    bnd (gd (some x78) true x77.2 (some (x7, x77.2))) fun x80 =>
    bnd (gd (some x78) true x80.2 (lt (pLen Try.prog #[30] x80.1 x80.2) x80.2)) fun x81 =>
    bnd (gd (some x78) true x81.2 (some (x9, x81.2))) fun x82 =>
    bnd (gd (some x78) true x82.2 (lt (pBin Try.prog .mul 3 (.const (.int .i64 2)) (.tmp 82) (.int .i64 2) x82.1) x82.2)) fun x83 =>
    bnd (gd (some x78) true x83.2 (lt (pBin Try.prog .add 3 (.const (.int .i64 2)) (.tmp 83) (.int .i64 2) x83.1) x83.2)) fun x84 =>
    bnd (gd (some x78) true x84.2 (lt (pBin Try.prog .eql 3 (.tmp 81) (.tmp 84) x81.1 x84.1) x84.2)) fun x85 =>
    bnd (pickV x78 x85.1 (.bool false)) fun x86 =>
    K (x86) x85.2
theorem r4_16  : kCode env 4 false inv k (cp c4 2046) (act 87 [(0, x0), (3, x3), (4, x4), (5, x5), (6, x6), (7, x7), (8, x8), (9, x9), (10, x10), (35, x35)]) h K =
    G4_16 inv x3 x4 x5 x6 x7 x8 x9 h fun y2 h => K .normal (act 87 [(2, y2)]) h := kq_reg
/-- shadowbook/shadowbooklaw07.TextsTwice -/
noncomputable def F4 (inv : Inv) (k : Nat) (x0 : Value) (h : AH) : Option (Value × AH) :=
    bnd (inv (.func 8) #[] #[] h) fun x11 =>
    bnd (pUn Try.prog .not x11.1) fun x12 =>
    brV x12
    (some ((.bool false), x11.2))
    (bnd (inv (.func 9) #[] #[x0] x11.2) fun x14 =>
    bnd (pUn Try.prog .not x14.1) fun x15 =>
    brV x15
    (some ((.bool true), x14.2))
    (bnd (inv (.func 12) #[] #[x0] x14.2) fun x17 =>
    bnd (pAppend Try.prog #[22, 22] x17.1 x0 x17.2) fun x19 =>
    bnd (inv (.func 10) #[] #[x0] x19.2) fun x21 =>
    bnd (inv (.func 15) #[] #[x0] x21.2) fun x24 =>
    bnd (pExtract x24.1 0) fun x25 =>
    bnd (pExtract x24.1 1) fun x26 =>
    bnd (inv (.func 15) #[] #[x19.1] x24.2) fun x29 =>
    bnd (pExtract x29.1 0) fun x30 =>
    bnd (pExtract x29.1 1) fun x31 =>
    F4_lrlrrrrrrrr inv k k x0 x19.1 x21.1 x25 x26 x30 x31 (.int .i64 0) (.int .i64 0) x29.2
    (fun y0 y3 y4 y5 y6 y7 y8 y9 y10 y35 h =>
    G4_16 inv y3 y4 y5 y6 y7 y8 y9 h fun y2 h_1 =>
    some (y2, h_1))))
theorem F4_eq : eFun env k inv 4 #[x0] h = F4 inv k x0 h := by
      refine (kq_fun (a := act 87 [(0, x0)]) (c := cp c4 1)).trans ?_
      unfold F4
      simp only [kq_seq c4 1, r4_0, kq_seq c4 3, kq_seq c4 6, r4_1, b4_rlr, kq_seq c4 26, r4_2, kq_ret c4 53, res4_0, kq_skip c4 27, kq_seq c4 7, kq_seq c4 14, r4_3, b4_rlrr, kq_seq c4 58, r4_4, kq_ret c4 117, kq_skip c4 59, kq_seq c4 15, r4_5, kq_seq c4 31, r4_6, kq_seq c4 63, r4_7, kq_seq c4 127, r4_8, kq_seq c4 255, r4_9, kq_seq c4 511, kq_seq c4 1022, r4_10, kq_block c4 2045 0, F4_lrlrrrrrrrr_eq, kq_seq c4 1023, r4_16, kq_ret c4 2047, reduceIte, reduceCtorEq, XE.exit.injEq, Nat.reduceEqDiff, Nat.reduceMul, Nat.reduceAdd] <;> kernel_rfl
theorem F4_call : eInv env (k + 1) (.func 4) #[] #[x0] h = F4 (eInv env k) k x0 h := kq_inv F4_eq
noncomputable def c9 : Code := codeOf Try.prog 9
theorem r9_0  : kCode env 9 false inv k (cp c9 2) (act 5 [(0, x0)]) h K =
    K .normal (act 5 [(0, x0)]) h := kq_reg
theorem r9_1  : kCode env 9 false inv k (cp c9 6) (act 5 [(0, x0)]) h K =
    bnd (inv (.func 26) #[] #[x0, (.int .i64 60), (.int .i64 600)] h) fun x4 =>
    K .normal (act 5 [(2, x4.1)]) x4.2 := kq_reg
theorem res9_0 : resOfFn env.P 9 .ret (act 5 [(2, x2)]) h = some (x2, h) := kq_res
/-- shadowbook/shadowbooklaw07.light -/
noncomputable def F9 (inv : Inv) (k : Nat) (x0 : Value) (h : AH) : Option (Value × AH) :=
    bnd (inv (.func 26) #[] #[x0, (.int .i64 60), (.int .i64 600)] h) fun x4 =>
    some (x4.1, x4.2)
theorem F9_eq : eFun env k inv 9 #[x0] h = F9 inv k x0 h := by
      refine (kq_fun (a := act 5 [(0, x0)]) (c := cp c9 1)).trans ?_
      unfold F9
      simp only [kq_seq c9 1, r9_0, kq_seq c9 3, r9_1, kq_ret c9 7, res9_0, reduceIte, reduceCtorEq, XE.exit.injEq, Nat.reduceEqDiff, Nat.reduceMul, Nat.reduceAdd] <;> kernel_rfl
theorem F9_call : eInv env (k + 1) (.func 9) #[] #[x0] h = F9 (eInv env k) k x0 h := kq_inv F9_eq
noncomputable def c10 : Code := codeOf Try.prog 10
theorem r10_0  : kCode env 10 false inv k (cp c10 2) (act 20 [(0, x0)]) h K =
    K .normal (act 20 [(0, x0)]) h := kq_reg
theorem r10_1  : kCode env 10 false inv k (cp c10 6) (act 20 [(0, x0)]) h K =
    bnd (pMakeMap Try.prog 40 none h) fun x6 =>
    K .normal (act 20 [(0, x0), (3, x6.1)]) x6.2 := kq_reg
theorem r10_2  : kCode env 10 false inv k (cp c10 28) (act 20 [(0, x0), (3, x3)]) h K =
    bnd (pLen Try.prog #[22] x0 h) fun x8 =>
    K .normal (act 20 [(3, x3), (7, x0), (8, x8), (9, (.int .i64 0))]) h := kq_reg
theorem r10_3  : kCode env 10 false inv k (cp c10 232) (act 20 [(3, x3), (7, x7), (8, x8), (9, x9)]) h K =
    bnd (pBin Try.prog .lss 3 (.tmp 9) (.tmp 8) x9 x8) fun x10 =>
    K .normal (act 20 [(3, x3), (7, x7), (8, x8), (9, x9), (10, x10)]) h := kq_reg
theorem b10_lrllrlrr  : kCode env 10 false inv k (cp c10 466) (act 20 [(3, x3), (7, x7), (8, x8), (9, x9), (10, x10)]) h K = brV x10 (kCode env 10 false inv k (cp c10 932) (act 20 [(3, x3), (7, x7), (8, x8), (9, x9), (10, x10)]) h K) (kCode env 10 false inv k (cp c10 933) (act 20 [(3, x3), (7, x7), (8, x8), (9, x9), (10, x10)]) h K) := kq_cond
theorem r10_4  : kCode env 10 false inv k (cp c10 3736) (act 20 [(3, x3), (7, x7), (8, x8), (9, x9), (10, x10)]) h K =
    bnd (pIndexAddr Try.prog 22 x7 x9) fun x11 =>
    bnd (pLoad Try.prog 9 x11 h) fun x12 =>
    K .normal (act 20 [(3, x3), (5, x12), (7, x7), (8, x8), (9, x9)]) h := kq_reg
theorem r10_5  : kCode env 10 false inv k (cp c10 3737) (act 20 [(3, x3), (5, x5), (7, x7), (8, x8), (9, x9)]) h K =
    bnd (pBuild Try.prog 41 #[]) fun x15 =>
    bnd (kSt (pUpdate Try.prog 40 x3 x5 x15 h)) fun u =>
    K .normal (act 20 [(3, x3), (7, x7), (8, x8), (9, x9)]) u.2 := kq_reg
theorem r10_6  : kCode env 10 false inv k (cp c10 935) (act 20 [(3, x3), (7, x7), (8, x8), (9, x9)]) h K =
    bnd (pBin Try.prog .add 3 (.tmp 9) (.const (.int .i64 1)) x9 (.int .i64 1)) fun x16 =>
    K .normal (act 20 [(3, x3), (7, x7), (8, x8), (9, x16)]) h := kq_reg
noncomputable def F10_lrlrr {β : Type} (inv : Inv) (k : Nat) : Nat → Value → Value → Value → Value → AH → (Value → Value → Value → Value → Value → AH → Option β) → Option β
  | 0, _, _, _, _, _, _ => none
  | j + 1, x3, x7, x8, x9, h, ke0 =>
    bnd (pBin Try.prog .lss 3 (.tmp 9) (.tmp 8) x9 x8) fun x10 =>
    brV x10
    (bnd (pIndexAddr Try.prog 22 x7 x9) fun x11 =>
    bnd (pLoad Try.prog 9 x11 h) fun x12 =>
    bnd (pBuild Try.prog 41 #[]) fun x15 =>
    bnd (kSt (pUpdate Try.prog 40 x3 x12 x15 h)) fun u =>
    bnd (pBin Try.prog .add 3 (.tmp 9) (.const (.int .i64 1)) x9 (.int .i64 1)) fun x16 =>
    F10_lrlrr inv k j x3 x7 x8 x16 u.2 ke0)
    (ke0 x3 x7 x8 x9 x10 h)
theorem F10_lrlrr_j (j : Nat) : kLoop (kCode env 10 false inv k (cp c10 116)) j (act 20 [(3, x3), (7, x7), (8, x8), (9, x9)]) h K = F10_lrlrr inv k j x3 x7 x8 x9 h (fun y3 y7 y8 y9 y10 h => K (.exit 0) (act 20 [(3, y3), (7, y7), (8, y8), (9, y9), (10, y10)]) h) := by
      induction j generalizing x3 x7 x8 x9 h with
      | zero => rfl
      | succ j ih =>
        unfold F10_lrlrr
        simp only [kLoop, kq_seq c10 116, r10_3, kq_seq c10 233, b10_lrllrlrr, kq_skip c10 932, kq_seq c10 467, kq_block c10 934 1, kq_seq c10 1868, r10_4, r10_5, r10_6, kq_exit c10 933 0, ih, reduceIte, reduceCtorEq, XE.exit.injEq, Nat.reduceEqDiff, Nat.reduceMul, Nat.reduceAdd] <;> kernel_rfl
theorem F10_lrlrr_eq  : kCode env 10 false inv k (cp c10 58) (act 20 [(3, x3), (7, x7), (8, x8), (9, x9)]) h K = F10_lrlrr inv k k x3 x7 x8 x9 h (fun y3 y7 y8 y9 y10 h => K (.exit 0) (act 20 [(3, y3), (7, y7), (8, y8), (9, y9), (10, y10)]) h) := kq_loop (F10_lrlrr_j k)
theorem r10_7  : kCode env 10 false inv k (cp c10 30) (act 20 [(3, x3), (7, x7), (8, x8), (9, x9), (10, x10)]) h K =
    bnd (inv (.func 28) #[] #[x3] h) fun x18 =>
    bnd (inv (.func 27) #[] #[x18.1] x18.2) fun x19 =>
    K .normal (act 20 [(2, x19.1)]) x19.2 := kq_reg
theorem res10_0 : resOfFn env.P 10 .ret (act 20 [(2, x2)]) h = some (x2, h) := kq_res
/-- shadowbook/texts.Words -/
noncomputable def F10 (inv : Inv) (k : Nat) (x0 : Value) (h : AH) : Option (Value × AH) :=
    bnd (pMakeMap Try.prog 40 none h) fun x6 =>
    bnd (pLen Try.prog #[22] x0 x6.2) fun x8 =>
    F10_lrlrr inv k k x6.1 x0 x8 (.int .i64 0) x6.2
    (fun y3 y7 y8 y9 y10 h =>
    bnd (inv (.func 28) #[] #[y3] h) fun x18 =>
    bnd (inv (.func 27) #[] #[x18.1] x18.2) fun x19 =>
    some (x19.1, x19.2))
theorem F10_eq : eFun env k inv 10 #[x0] h = F10 inv k x0 h := by
      refine (kq_fun (a := act 20 [(0, x0)]) (c := cp c10 1)).trans ?_
      unfold F10
      simp only [kq_seq c10 1, r10_0, kq_seq c10 3, r10_1, kq_seq c10 7, kq_seq c10 14, r10_2, kq_block c10 29 0, F10_lrlrr_eq, kq_seq c10 15, r10_7, kq_ret c10 31, res10_0, reduceIte, reduceCtorEq, XE.exit.injEq, Nat.reduceEqDiff, Nat.reduceMul, Nat.reduceAdd] <;> kernel_rfl
theorem F10_call : eInv env (k + 1) (.func 10) #[] #[x0] h = F10 (eInv env k) k x0 h := kq_inv F10_eq
noncomputable def c11 : Code := codeOf Try.prog 11
theorem r11_0  : kCode env 11 false inv k (cp c11 2) (act 18 [(0, x0), (1, x1)]) h K =
    K .normal (act 18 [(0, x0), (1, x1)]) h := kq_reg
theorem r11_1  : kCode env 11 false inv k (cp c11 12) (act 18 [(0, x0), (1, x1)]) h K =
    K .normal (act 18 [(0, x0), (1, x1), (5, (.int .i64 0))]) h := kq_reg
theorem r11_2  : kCode env 11 false inv k (cp c11 208) (act 18 [(0, x0), (1, x1), (5, x5)]) h K =
    bnd (pLen Try.prog #[22] x0 h) fun x8 =>
    bnd (pBin Try.prog .lss 3 (.tmp 6) (.tmp 8) x5 x8) fun x9 =>
    K .normal (act 18 [(0, x0), (1, x1), (5, x5), (9, x9)]) h := kq_reg
theorem b11_rlllrlr  : kCode env 11 false inv k (cp c11 209) (act 18 [(0, x0), (1, x1), (5, x5), (9, x9)]) h K = brV x9 (kCode env 11 false inv k (cp c11 418) (act 18 [(0, x0), (1, x1), (5, x5), (9, x9)]) h K) (kCode env 11 false inv k (cp c11 419) (act 18 [(0, x0), (1, x1), (5, x5), (9, x9)]) h K) := kq_cond
theorem r11_4  : kCode env 11 false inv k (cp c11 840) (act 18 [(0, x0), (1, x1), (5, x5), (9, x9)]) h K =
    bnd (pIndexAddr Try.prog 22 x0 x5) fun x14 =>
    bnd (pLoad Try.prog 9 x14 h) fun x15 =>
    bnd (pBin Try.prog .eql 9 (.tmp 15) (.tmp 16) x15 x1) fun x17 =>
    K .normal (act 18 [(0, x0), (1, x1), (5, x5), (17, x17)]) h := kq_reg
theorem b11_rllrllrlr  : kCode env 11 false inv k (cp c11 841) (act 18 [(0, x0), (1, x1), (5, x5), (17, x17)]) h K = brV x17 (kCode env 11 false inv k (cp c11 1682) (act 18 [(0, x0), (1, x1), (5, x5), (17, x17)]) h K) (kCode env 11 false inv k (cp c11 1683) (act 18 [(0, x0), (1, x1), (5, x5), (17, x17)]) h K) := kq_cond
theorem r11_5  : kCode env 11 false inv k (cp c11 3364) (act 18 [(0, x0), (1, x1), (5, x5), (17, x17)]) h K =
    K .normal (act 18 [(4, (.bool true))]) h := kq_reg
theorem r11_3  : kCode env 11 false inv k (cp c11 211) (act 18 [(0, x0), (1, x1), (5, x5), (17, x17)]) h K =
    bnd (pBin Try.prog .add 3 (.tmp 10) (.const (.int .i64 1)) x5 (.int .i64 1)) fun x11 =>
    K .normal (act 18 [(0, x0), (1, x1), (5, x11)]) h := kq_reg
noncomputable def F11_lrlr {β : Type} (inv : Inv) (k : Nat) : Nat → Value → Value → Value → AH → (Value → Value → Value → Value → AH → Option β) → (Value → AH → Option β) → Option β
  | 0, _, _, _, _, _, _ => none
  | j + 1, x0, x1, x5, h, ke0, kr =>
    bnd (pLen Try.prog #[22] x0 h) fun x8 =>
    bnd (pBin Try.prog .lss 3 (.tmp 6) (.tmp 8) x5 x8) fun x9 =>
    brV x9
    (bnd (pIndexAddr Try.prog 22 x0 x5) fun x14 =>
    bnd (pLoad Try.prog 9 x14 h) fun x15 =>
    bnd (pBin Try.prog .eql 9 (.tmp 15) (.tmp 16) x15 x1) fun x17 =>
    brV x17
    (kr (.bool true) h)
    (bnd (pBin Try.prog .add 3 (.tmp 10) (.const (.int .i64 1)) x5 (.int .i64 1)) fun x11 =>
    F11_lrlr inv k j x0 x1 x11 h ke0 kr))
    (ke0 x0 x1 x5 x9 h)
theorem F11_lrlr_j (j : Nat) : kLoop (kCode env 11 false inv k (cp c11 52)) j (act 18 [(0, x0), (1, x1), (5, x5)]) h K = F11_lrlr inv k j x0 x1 x5 h (fun y0 y1 y5 y9 h => K (.exit 0) (act 18 [(0, y0), (1, y1), (5, y5), (9, y9)]) h) (fun y4 h => K .ret (act 18 [(4, y4)]) h) := by
      induction j generalizing x0 x1 x5 h with
      | zero => rfl
      | succ j ih =>
        unfold F11_lrlr
        simp only [kLoop, kq_seq c11 52, kq_seq c11 104, r11_2, b11_rlllrlr, kq_skip c11 418, kq_seq c11 105, kq_block c11 210 1, kq_seq c11 420, r11_4, b11_rllrllrlr, kq_seq c11 1682, r11_5, kq_ret c11 3365, kq_skip c11 1683, r11_3, kq_exit c11 419 0, ih, reduceIte, reduceCtorEq, XE.exit.injEq, Nat.reduceEqDiff, Nat.reduceMul, Nat.reduceAdd] <;> kernel_rfl
theorem F11_lrlr_eq  : kCode env 11 false inv k (cp c11 26) (act 18 [(0, x0), (1, x1), (5, x5)]) h K = F11_lrlr inv k k x0 x1 x5 h (fun y0 y1 y5 y9 h => K (.exit 0) (act 18 [(0, y0), (1, y1), (5, y5), (9, y9)]) h) (fun y4 h => K .ret (act 18 [(4, y4)]) h) := kq_loop (F11_lrlr_j k)
theorem r11_6  : kCode env 11 false inv k (cp c11 14) (act 18 [(0, x0), (1, x1), (5, x5), (9, x9)]) h K =
    K .normal (act 18 [(4, (.bool false))]) h := kq_reg
theorem res11_0 : resOfFn env.P 11 .ret (act 18 [(4, x4)]) h = some (x4, h) := kq_res
/-- shadowbook/shadowbooklaw07.has -/
noncomputable def F11 (inv : Inv) (k : Nat) (x0 x1 : Value) (h : AH) : Option (Value × AH) :=
    F11_lrlr inv k k x0 x1 (.int .i64 0) h
    (fun y0 y1 y5 y9 h =>
    some ((.bool false), h))
    (fun y4 h_1 =>
    some (y4, h_1))
theorem F11_eq : eFun env k inv 11 #[x0, x1] h = F11 inv k x0 x1 h := by
      refine (kq_fun (a := act 18 [(0, x0), (1, x1)]) (c := cp c11 1)).trans ?_
      unfold F11
      simp only [kq_seq c11 1, r11_0, kq_seq c11 3, kq_seq c11 6, r11_1, kq_block c11 13 0, F11_lrlr_eq, kq_seq c11 7, r11_6, kq_ret c11 15, res11_0, reduceIte, reduceCtorEq, XE.exit.injEq, Nat.reduceEqDiff, Nat.reduceMul, Nat.reduceAdd] <;> kernel_rfl
theorem F11_call : eInv env (k + 1) (.func 11) #[] #[x0, x1] h = F11 (eInv env k) k x0 x1 h := kq_inv F11_eq
noncomputable def c12 : Code := codeOf Try.prog 12
theorem r12_0  : kCode env 12 false inv k (cp c12 2) (act 6 [(0, x0)]) h K =
    K .normal (act 6 [(0, x0)]) h := kq_reg
theorem r12_1  : kCode env 12 false inv k (cp c12 6) (act 6 [(0, x0)]) h K =
    bnd (pBuildSlice Try.prog 22 0 #[] h) fun x3 =>
    bnd (pAppend Try.prog #[22, 22] x3.1 x0 x3.2) fun x5 =>
    K .normal (act 6 [(2, x5.1)]) x5.2 := kq_reg
theorem res12_0 : resOfFn env.P 12 .ret (act 6 [(2, x2)]) h = some (x2, h) := kq_res
/-- shadowbook/shadowbookkit.Own[string] -/
noncomputable def F12 (inv : Inv) (k : Nat) (x0 : Value) (h : AH) : Option (Value × AH) :=
    bnd (pBuildSlice Try.prog 22 0 #[] h) fun x3 =>
    bnd (pAppend Try.prog #[22, 22] x3.1 x0 x3.2) fun x5 =>
    some (x5.1, x5.2)
theorem F12_eq : eFun env k inv 12 #[x0] h = F12 inv k x0 h := by
      refine (kq_fun (a := act 6 [(0, x0)]) (c := cp c12 1)).trans ?_
      unfold F12
      simp only [kq_seq c12 1, r12_0, kq_seq c12 3, r12_1, kq_ret c12 7, res12_0, reduceIte, reduceCtorEq, XE.exit.injEq, Nat.reduceEqDiff, Nat.reduceMul, Nat.reduceAdd] <;> kernel_rfl
theorem F12_call : eInv env (k + 1) (.func 12) #[] #[x0] h = F12 (eInv env k) k x0 h := kq_inv F12_eq
noncomputable def c13 : Code := codeOf Try.prog 13
theorem r13_0  : kCode env 13 false inv k (cp c13 2) (act 17 [(0, x0), (1, x1)]) h K =
    K .normal (act 17 [(0, x0), (1, x1)]) h := kq_reg
theorem r13_1  : kCode env 13 false inv k (cp c13 12) (act 17 [(0, x0), (1, x1)]) h K =
    bnd (pBin Try.prog .lss 3 (.tmp 6) (.const (.int .i64 1)) x1 (.int .i64 1)) fun x7 =>
    K .normal (act 17 [(0, x0), (1, x1), (7, x7)]) h := kq_reg
theorem b13_rlr  : kCode env 13 false inv k (cp c13 13) (act 17 [(0, x0), (1, x1), (7, x7)]) h K = brV x7 (kCode env 13 false inv k (cp c13 26) (act 17 [(0, x0), (1, x1), (7, x7)]) h K) (kCode env 13 false inv k (cp c13 27) (act 17 [(0, x0), (1, x1), (7, x7)]) h K) := kq_cond
theorem r13_2  : kCode env 13 false inv k (cp c13 52) (act 17 [(0, x0), (1, x1), (7, x7)]) h K =
    K .normal (act 17 [(4, (.int .i64 0))]) h := kq_reg
theorem res13_0 : resOfFn env.P 13 .ret (act 17 [(4, x4)]) h = some (x4, h) := kq_res
theorem r13_3  : kCode env 13 false inv k (cp c13 14) (act 17 [(0, x0), (1, x1), (7, x7)]) h K =
    bnd (pBin Try.prog .rem 3 (.tmp 8) (.tmp 9) x0 x1) fun x10 =>
    K .normal (act 17 [(1, x1), (5, x10)]) h := kq_reg
theorem r13_4  : kCode env 13 false inv k (cp c13 60) (act 17 [(1, x1), (5, x5)]) h K =
    bnd (pBin Try.prog .lss 3 (.tmp 11) (.const (.int .i64 0)) x5 (.int .i64 0)) fun x12 =>
    K .normal (act 17 [(1, x1), (5, x5), (12, x12)]) h := kq_reg
theorem b13_rlrrr  : kCode env 13 false inv k (cp c13 61) (act 17 [(1, x1), (5, x5), (12, x12)]) h K = brV x12 (kCode env 13 false inv k (cp c13 122) (act 17 [(1, x1), (5, x5), (12, x12)]) h K) (kCode env 13 false inv k (cp c13 123) (act 17 [(1, x1), (5, x5), (12, x12)]) h K) := kq_cond
theorem r13_5  : kCode env 13 false inv k (cp c13 122) (act 17 [(1, x1), (5, x5), (12, x12)]) h K =
    bnd (pBin Try.prog .add 3 (.tmp 13) (.tmp 14) x5 x1) fun x15 =>
    K .normal (act 17 [(5, x15)]) h := kq_reg
noncomputable def F13_rlrrr {β : Type} (inv : Inv) (k : Nat) (x1 x5 x12 : Value) (h : AH) (kn : (Value → Value → Value → AH → Option β)) : Option β :=
    brV x12
    (bnd (pBin Try.prog .add 3 (.tmp 13) (.tmp 14) x5 x1) fun x15 =>
    kn unk x15 unk h)
    (kn x1 x5 x12 h)
theorem F13_rlrrr_eq  : kCode env 13 false inv k (cp c13 61) (act 17 [(1, x1), (5, x5), (12, x12)]) h K = F13_rlrrr inv k x1 x5 x12 h (fun y1 y5 y12 h => K .normal (act 17 [(1, y1), (5, y5), (12, y12)]) h) := by
      unfold F13_rlrrr
      simp only [b13_rlrrr, r13_5, kq_skip c13 123, reduceIte, reduceCtorEq, XE.exit.injEq, Nat.reduceEqDiff, Nat.reduceMul, Nat.reduceAdd] <;> kernel_rfl
theorem r13_6  : kCode env 13 false inv k (cp c13 62) (act 17 [(1, x1), (5, x5), (12, x12)]) h K =
    K .normal (act 17 [(4, x5)]) h := kq_reg
/-- shadowbook/shadowbookkit.Pick -/
noncomputable def F13 (inv : Inv) (k : Nat) (x0 x1 : Value) (h : AH) : Option (Value × AH) :=
    bnd (pBin Try.prog .lss 3 (.tmp 6) (.const (.int .i64 1)) x1 (.int .i64 1)) fun x7 =>
    brV x7
    (some ((.int .i64 0), h))
    (bnd (pBin Try.prog .rem 3 (.tmp 8) (.tmp 9) x0 x1) fun x10 =>
    bnd (pBin Try.prog .lss 3 (.tmp 11) (.const (.int .i64 0)) x10 (.int .i64 0)) fun x12 =>
    F13_rlrrr inv k x1 x10 x12 h
    (fun y1 y5 y12 h =>
    some (y5, h)))
theorem F13_eq : eFun env k inv 13 #[x0, x1] h = F13 inv k x0 x1 h := by
      refine (kq_fun (a := act 17 [(0, x0), (1, x1)]) (c := cp c13 1)).trans ?_
      unfold F13
      simp only [kq_seq c13 1, r13_0, kq_seq c13 3, kq_seq c13 6, r13_1, b13_rlr, kq_seq c13 26, r13_2, kq_ret c13 53, res13_0, kq_skip c13 27, kq_seq c13 7, r13_3, kq_seq c13 15, kq_seq c13 30, r13_4, F13_rlrrr_eq, kq_seq c13 31, r13_6, kq_ret c13 63, reduceIte, reduceCtorEq, XE.exit.injEq, Nat.reduceEqDiff, Nat.reduceMul, Nat.reduceAdd] <;> kernel_rfl
theorem F13_call : eInv env (k + 1) (.func 13) #[] #[x0, x1] h = F13 (eInv env k) k x0 x1 h := kq_inv F13_eq
noncomputable def c14 : Code := codeOf Try.prog 14
theorem r14_0  : kCode env 14 false inv k (cp c14 2) (act 26 [(0, x0), (1, x1)]) h K =
    K .normal (act 26 [(0, x0), (1, x1)]) h := kq_reg
theorem r14_1  : kCode env 14 false inv k (cp c14 12) (act 26 [(0, x0), (1, x1)]) h K =
    bnd (pLen Try.prog #[22] x0 h) fun x7 =>
    bnd (pLen Try.prog #[22] x1 h) fun x9 =>
    bnd (pBin Try.prog .neq 3 (.tmp 7) (.tmp 9) x7 x9) fun x10 =>
    K .normal (act 26 [(0, x0), (1, x1), (10, x10)]) h := kq_reg
theorem b14_rlr  : kCode env 14 false inv k (cp c14 13) (act 26 [(0, x0), (1, x1), (10, x10)]) h K = brV x10 (kCode env 14 false inv k (cp c14 26) (act 26 [(0, x0), (1, x1), (10, x10)]) h K) (kCode env 14 false inv k (cp c14 27) (act 26 [(0, x0), (1, x1), (10, x10)]) h K) := kq_cond
theorem r14_2  : kCode env 14 false inv k (cp c14 52) (act 26 [(0, x0), (1, x1), (10, x10)]) h K =
    K .normal (act 26 [(4, (.bool false))]) h := kq_reg
theorem res14_0 : resOfFn env.P 14 .ret (act 26 [(4, x4)]) h = some (x4, h) := kq_res
theorem r14_3  : kCode env 14 false inv k (cp c14 28) (act 26 [(0, x0), (1, x1), (10, x10)]) h K =
    K .normal (act 26 [(0, x0), (1, x1), (5, (.int .i64 0))]) h := kq_reg
theorem r14_4  : kCode env 14 false inv k (cp c14 464) (act 26 [(0, x0), (1, x1), (5, x5)]) h K =
    bnd (pLen Try.prog #[22] x0 h) fun x13 =>
    bnd (pBin Try.prog .lss 3 (.tmp 11) (.tmp 13) x5 x13) fun x14 =>
    K .normal (act 26 [(0, x0), (1, x1), (5, x5), (14, x14)]) h := kq_reg
theorem b14_rlllrlrr  : kCode env 14 false inv k (cp c14 465) (act 26 [(0, x0), (1, x1), (5, x5), (14, x14)]) h K = brV x14 (kCode env 14 false inv k (cp c14 930) (act 26 [(0, x0), (1, x1), (5, x5), (14, x14)]) h K) (kCode env 14 false inv k (cp c14 931) (act 26 [(0, x0), (1, x1), (5, x5), (14, x14)]) h K) := kq_cond
theorem r14_6  : kCode env 14 false inv k (cp c14 1864) (act 26 [(0, x0), (1, x1), (5, x5), (14, x14)]) h K =
    bnd (pIndexAddr Try.prog 22 x0 x5) fun x19 =>
    bnd (pLoad Try.prog 9 x19 h) fun x20 =>
    bnd (pIndexAddr Try.prog 22 x1 x5) fun x23 =>
    bnd (pLoad Try.prog 9 x23 h) fun x24 =>
    bnd (pBin Try.prog .neq 9 (.tmp 20) (.tmp 24) x20 x24) fun x25 =>
    K .normal (act 26 [(0, x0), (1, x1), (5, x5), (25, x25)]) h := kq_draw
theorem b14_rllrllrlrr  : kCode env 14 false inv k (cp c14 1865) (act 26 [(0, x0), (1, x1), (5, x5), (25, x25)]) h K = brV x25 (kCode env 14 false inv k (cp c14 3730) (act 26 [(0, x0), (1, x1), (5, x5), (25, x25)]) h K) (kCode env 14 false inv k (cp c14 3731) (act 26 [(0, x0), (1, x1), (5, x5), (25, x25)]) h K) := kq_cond
theorem r14_7  : kCode env 14 false inv k (cp c14 7460) (act 26 [(0, x0), (1, x1), (5, x5), (25, x25)]) h K =
    K .normal (act 26 [(4, (.bool false))]) h := kq_reg
theorem r14_5  : kCode env 14 false inv k (cp c14 467) (act 26 [(0, x0), (1, x1), (5, x5), (25, x25)]) h K =
    bnd (pBin Try.prog .add 3 (.tmp 15) (.const (.int .i64 1)) x5 (.int .i64 1)) fun x16 =>
    K .normal (act 26 [(0, x0), (1, x1), (5, x16)]) h := kq_reg
noncomputable def F14_lrlrr {β : Type} (inv : Inv) (k : Nat) : Nat → Value → Value → Value → AH → (Value → Value → Value → Value → AH → Option β) → (Value → AH → Option β) → Option β
  | 0, _, _, _, _, _, _ => none
  | j + 1, x0, x1, x5, h, ke0, kr =>
    bnd (pLen Try.prog #[22] x0 h) fun x13 =>
    bnd (pBin Try.prog .lss 3 (.tmp 11) (.tmp 13) x5 x13) fun x14 =>
    brV x14
    (bnd (pIndexAddr Try.prog 22 x0 x5) fun x19 =>
    bnd (pLoad Try.prog 9 x19 h) fun x20 =>
    bnd (pIndexAddr Try.prog 22 x1 x5) fun x23 =>
    bnd (pLoad Try.prog 9 x23 h) fun x24 =>
    bnd (pBin Try.prog .neq 9 (.tmp 20) (.tmp 24) x20 x24) fun x25 =>
    brV x25
    (kr (.bool false) h)
    (bnd (pBin Try.prog .add 3 (.tmp 15) (.const (.int .i64 1)) x5 (.int .i64 1)) fun x16 =>
    F14_lrlrr inv k j x0 x1 x16 h ke0 kr))
    (ke0 x0 x1 x5 x14 h)
theorem F14_lrlrr_j (j : Nat) : kLoop (kCode env 14 false inv k (cp c14 116)) j (act 26 [(0, x0), (1, x1), (5, x5)]) h K = F14_lrlrr inv k j x0 x1 x5 h (fun y0 y1 y5 y14 h => K (.exit 0) (act 26 [(0, y0), (1, y1), (5, y5), (14, y14)]) h) (fun y4 h => K .ret (act 26 [(4, y4)]) h) := by
      induction j generalizing x0 x1 x5 h with
      | zero => rfl
      | succ j ih =>
        unfold F14_lrlrr
        simp only [kLoop, kq_seq c14 116, kq_seq c14 232, r14_4, b14_rlllrlrr, kq_skip c14 930, kq_seq c14 233, kq_block c14 466 1, kq_seq c14 932, r14_6, b14_rllrllrlrr, kq_seq c14 3730, r14_7, kq_ret c14 7461, kq_skip c14 3731, r14_5, kq_exit c14 931 0, ih, reduceIte, reduceCtorEq, XE.exit.injEq, Nat.reduceEqDiff, Nat.reduceMul, Nat.reduceAdd] <;> kernel_rfl
theorem F14_lrlrr_eq  : kCode env 14 false inv k (cp c14 58) (act 26 [(0, x0), (1, x1), (5, x5)]) h K = F14_lrlrr inv k k x0 x1 x5 h (fun y0 y1 y5 y14 h => K (.exit 0) (act 26 [(0, y0), (1, y1), (5, y5), (14, y14)]) h) (fun y4 h => K .ret (act 26 [(4, y4)]) h) := kq_loop (F14_lrlrr_j k)
theorem r14_8  : kCode env 14 false inv k (cp c14 30) (act 26 [(0, x0), (1, x1), (5, x5), (14, x14)]) h K =
    K .normal (act 26 [(4, (.bool true))]) h := kq_reg
/-- shadowbook/shadowbookkit.Same[string] -/
noncomputable def F14 (inv : Inv) (k : Nat) (x0 x1 : Value) (h : AH) : Option (Value × AH) :=
    bnd (pLen Try.prog #[22] x0 h) fun x7 =>
    bnd (pLen Try.prog #[22] x1 h) fun x9 =>
    bnd (pBin Try.prog .neq 3 (.tmp 7) (.tmp 9) x7 x9) fun x10 =>
    brV x10
    (some ((.bool false), h))
    (F14_lrlrr inv k k x0 x1 (.int .i64 0) h
    (fun y0 y1 y5 y14 h =>
    some ((.bool true), h))
    (fun y4 h_1 =>
    some (y4, h_1)))
theorem F14_eq : eFun env k inv 14 #[x0, x1] h = F14 inv k x0 x1 h := by
      refine (kq_fun (a := act 26 [(0, x0), (1, x1)]) (c := cp c14 1)).trans ?_
      unfold F14
      simp only [kq_seq c14 1, r14_0, kq_seq c14 3, kq_seq c14 6, r14_1, b14_rlr, kq_seq c14 26, r14_2, kq_ret c14 53, res14_0, kq_skip c14 27, kq_seq c14 7, kq_seq c14 14, r14_3, kq_block c14 29 0, F14_lrlrr_eq, kq_seq c14 15, r14_8, kq_ret c14 31, reduceIte, reduceCtorEq, XE.exit.injEq, Nat.reduceEqDiff, Nat.reduceMul, Nat.reduceAdd] <;> kernel_rfl
theorem F14_call : eInv env (k + 1) (.func 14) #[] #[x0, x1] h = F14 (eInv env k) k x0 x1 h := kq_inv F14_eq
noncomputable def c15 : Code := codeOf Try.prog 15
theorem r15_0  : kCode env 15 false inv k (cp c15 2) (act 29 [(0, x0)]) h K =
    K .normal (act 29 [(0, x0)]) h := kq_reg
theorem r15_1  : kCode env 15 false inv k (cp c15 12) (act 29 [(0, x0)]) h K =
    bnd (inv (.func 29) #[] #[x0] h) fun x9 =>
    K .normal (act 29 [(0, x0), (4, x9.1)]) x9.2 := kq_reg
theorem r15_2  : kCode env 15 false inv k (cp c15 26) (act 29 [(0, x0), (4, x4)]) h K =
    bnd (pBin Try.prog .neq 31 (.tmp 10) (.const (.int .i64 0)) x4 (.int .i64 0)) fun x11 =>
    K .normal (act 29 [(0, x0), (4, x4), (11, x11)]) h := kq_reg
theorem b15_rrlr  : kCode env 15 false inv k (cp c15 27) (act 29 [(0, x0), (4, x4), (11, x11)]) h K = brV x11 (kCode env 15 false inv k (cp c15 54) (act 29 [(0, x0), (4, x4), (11, x11)]) h K) (kCode env 15 false inv k (cp c15 55) (act 29 [(0, x0), (4, x4), (11, x11)]) h K) := kq_cond
theorem r15_3  : kCode env 15 false inv k (cp c15 108) (act 29 [(0, x0), (4, x4), (11, x11)]) h K =
    K .normal (act 29 [(2, (.slice none 0 0)), (3, x4)]) h := kq_reg
theorem res15_0 : resOfFn env.P 15 .ret (act 29 [(2, x2), (3, x3)]) h = some (.tuple #[x2, x3], h) := kq_res
theorem r15_4  : kCode env 15 false inv k (cp c15 14) (act 29 [(0, x0), (4, x4), (11, x11)]) h K =
    bnd (pBuildSlice Try.prog 30 1 #[(0, (.int .u8 1))] h) fun x13 =>
    bnd (pLen Try.prog #[22] x0 x13.2) fun x15 =>
    bnd (pConv Try.prog 3 48 x15 x13.2) fun x16 =>
    bnd (inv (.func 30) #[] #[x13.1, x16] x13.2) fun x17 =>
    K .normal (act 29 [(0, x0), (5, x17.1)]) x17.2 := kq_reg
theorem r15_5  : kCode env 15 false inv k (cp c15 60) (act 29 [(0, x0), (5, x5)]) h K =
    bnd (pLen Try.prog #[22] x0 h) fun x19 =>
    K .normal (act 29 [(5, x5), (18, x0), (19, x19), (20, (.int .i64 0))]) h := kq_reg
theorem r15_6  : kCode env 15 false inv k (cp c15 488) (act 29 [(5, x5), (18, x18), (19, x19), (20, x20)]) h K =
    bnd (pBin Try.prog .lss 3 (.tmp 20) (.tmp 19) x20 x19) fun x21 =>
    K .normal (act 29 [(5, x5), (18, x18), (19, x19), (20, x20), (21, x21)]) h := kq_reg
theorem b15_lrllrlrrr  : kCode env 15 false inv k (cp c15 978) (act 29 [(5, x5), (18, x18), (19, x19), (20, x20), (21, x21)]) h K = brV x21 (kCode env 15 false inv k (cp c15 1956) (act 29 [(5, x5), (18, x18), (19, x19), (20, x20), (21, x21)]) h K) (kCode env 15 false inv k (cp c15 1957) (act 29 [(5, x5), (18, x18), (19, x19), (20, x20), (21, x21)]) h K) := kq_cond
theorem r15_7  : kCode env 15 false inv k (cp c15 7832) (act 29 [(5, x5), (18, x18), (19, x19), (20, x20), (21, x21)]) h K =
    bnd (pIndexAddr Try.prog 22 x18 x20) fun x22 =>
    bnd (pLoad Try.prog 9 x22 h) fun x23 =>
    K .normal (act 29 [(5, x5), (7, x23), (18, x18), (19, x19), (20, x20)]) h := kq_reg
theorem r15_8  : kCode env 15 false inv k (cp c15 7833) (act 29 [(5, x5), (7, x7), (18, x18), (19, x19), (20, x20)]) h K =
    bnd (inv (.func 31) #[] #[x5, x7] h) fun x26 =>
    K .normal (act 29 [(5, x26.1), (18, x18), (19, x19), (20, x20)]) x26.2 := kq_reg
theorem r15_9  : kCode env 15 false inv k (cp c15 1959) (act 29 [(5, x5), (18, x18), (19, x19), (20, x20)]) h K =
    bnd (pBin Try.prog .add 3 (.tmp 20) (.const (.int .i64 1)) x20 (.int .i64 1)) fun x27 =>
    K .normal (act 29 [(5, x5), (18, x18), (19, x19), (20, x27)]) h := kq_reg
noncomputable def F15_lrlrrr {β : Type} (inv : Inv) (k : Nat) : Nat → Value → Value → Value → Value → AH → (Value → Value → Value → Value → Value → AH → Option β) → Option β
  | 0, _, _, _, _, _, _ => none
  | j + 1, x5, x18, x19, x20, h, ke0 =>
    bnd (pBin Try.prog .lss 3 (.tmp 20) (.tmp 19) x20 x19) fun x21 =>
    brV x21
    (bnd (pIndexAddr Try.prog 22 x18 x20) fun x22 =>
    bnd (pLoad Try.prog 9 x22 h) fun x23 =>
    bnd (inv (.func 31) #[] #[x5, x23] h) fun x26 =>
    bnd (pBin Try.prog .add 3 (.tmp 20) (.const (.int .i64 1)) x20 (.int .i64 1)) fun x27 =>
    F15_lrlrrr inv k j x26.1 x18 x19 x27 x26.2 ke0)
    (ke0 x5 x18 x19 x20 x21 h)
theorem F15_lrlrrr_j (j : Nat) : kLoop (kCode env 15 false inv k (cp c15 244)) j (act 29 [(5, x5), (18, x18), (19, x19), (20, x20)]) h K = F15_lrlrrr inv k j x5 x18 x19 x20 h (fun y5 y18 y19 y20 y21 h => K (.exit 0) (act 29 [(5, y5), (18, y18), (19, y19), (20, y20), (21, y21)]) h) := by
      induction j generalizing x5 x18 x19 x20 h with
      | zero => rfl
      | succ j ih =>
        unfold F15_lrlrrr
        simp only [kLoop, kq_seq c15 244, r15_6, kq_seq c15 489, b15_lrllrlrrr, kq_skip c15 1956, kq_seq c15 979, kq_block c15 1958 1, kq_seq c15 3916, r15_7, r15_8, r15_9, kq_exit c15 1957 0, ih, reduceIte, reduceCtorEq, XE.exit.injEq, Nat.reduceEqDiff, Nat.reduceMul, Nat.reduceAdd] <;> kernel_rfl
theorem F15_lrlrrr_eq  : kCode env 15 false inv k (cp c15 122) (act 29 [(5, x5), (18, x18), (19, x19), (20, x20)]) h K = F15_lrlrrr inv k k x5 x18 x19 x20 h (fun y5 y18 y19 y20 y21 h => K (.exit 0) (act 29 [(5, y5), (18, y18), (19, y19), (20, y20), (21, y21)]) h) := kq_loop (F15_lrlrrr_j k)
theorem r15_10  : kCode env 15 false inv k (cp c15 62) (act 29 [(5, x5), (18, x18), (19, x19), (20, x20), (21, x21)]) h K =
    K .normal (act 29 [(2, x5), (3, (.int .i64 0))]) h := kq_reg
/-- shadowbook/texts.Plain -/
noncomputable def F15 (inv : Inv) (k : Nat) (x0 : Value) (h : AH) : Option (Value × AH) :=
    bnd (inv (.func 29) #[] #[x0] h) fun x9 =>
    bnd (pBin Try.prog .neq 31 (.tmp 10) (.const (.int .i64 0)) x9.1 (.int .i64 0)) fun x11 =>
    brV x11
    (some (.tuple #[(.slice none 0 0), x9.1], x9.2))
    (bnd (pBuildSlice Try.prog 30 1 #[(0, (.int .u8 1))] x9.2) fun x13 =>
    bnd (pLen Try.prog #[22] x0 x13.2) fun x15 =>
    bnd (pConv Try.prog 3 48 x15 x13.2) fun x16 =>
    bnd (inv (.func 30) #[] #[x13.1, x16] x13.2) fun x17 =>
    bnd (pLen Try.prog #[22] x0 x17.2) fun x19 =>
    F15_lrlrrr inv k k x17.1 x0 x19 (.int .i64 0) x17.2
    (fun y5 y18 y19 y20 y21 h =>
    some (.tuple #[y5, (.int .i64 0)], h)))
theorem F15_eq : eFun env k inv 15 #[x0] h = F15 inv k x0 h := by
      refine (kq_fun (a := act 29 [(0, x0)]) (c := cp c15 1)).trans ?_
      unfold F15
      simp only [kq_seq c15 1, r15_0, kq_seq c15 3, kq_seq c15 6, r15_1, kq_seq c15 13, r15_2, b15_rrlr, kq_seq c15 54, r15_3, kq_ret c15 109, res15_0, kq_skip c15 55, kq_seq c15 7, r15_4, kq_seq c15 15, kq_seq c15 30, r15_5, kq_block c15 61 0, F15_lrlrrr_eq, kq_seq c15 31, r15_10, kq_ret c15 63, reduceIte, reduceCtorEq, XE.exit.injEq, Nat.reduceEqDiff, Nat.reduceMul, Nat.reduceAdd] <;> kernel_rfl
theorem F15_call : eInv env (k + 1) (.func 15) #[] #[x0] h = F15 (eInv env k) k x0 h := kq_inv F15_eq
noncomputable def c26 : Code := codeOf Try.prog 26
theorem r26_0  : kCode env 26 false inv k (cp c26 2) (act 29 [(0, x0), (1, x1), (2, x2)]) h K =
    K .normal (act 29 [(0, x0), (1, x1), (2, x2)]) h := kq_reg
theorem r26_1  : kCode env 26 false inv k (cp c26 12) (act 29 [(0, x0), (1, x1), (2, x2)]) h K =
    bnd (pLen Try.prog #[22] x0 h) fun x10 =>
    bnd (pBin Try.prog .gtr 3 (.tmp 10) (.tmp 11) x10 x1) fun x12 =>
    K .normal (act 29 [(0, x0), (2, x2), (12, x12)]) h := kq_reg
theorem b26_rlr  : kCode env 26 false inv k (cp c26 13) (act 29 [(0, x0), (2, x2), (12, x12)]) h K = brV x12 (kCode env 26 false inv k (cp c26 26) (act 29 [(0, x0), (2, x2), (12, x12)]) h K) (kCode env 26 false inv k (cp c26 27) (act 29 [(0, x0), (2, x2), (12, x12)]) h K) := kq_cond
theorem r26_2  : kCode env 26 false inv k (cp c26 52) (act 29 [(0, x0), (2, x2), (12, x12)]) h K =
    K .normal (act 29 [(6, (.bool false))]) h := kq_reg
theorem res26_0 : resOfFn env.P 26 .ret (act 29 [(6, x6)]) h = some (x6, h) := kq_res
theorem r26_3  : kCode env 26 false inv k (cp c26 14) (act 29 [(0, x0), (2, x2), (12, x12)]) h K =
    K .normal (act 29 [(0, x0), (2, x2), (7, (.int .i64 0))]) h := kq_reg
theorem r26_4  : kCode env 26 false inv k (cp c26 60) (act 29 [(0, x0), (2, x2), (7, x7)]) h K =
    K .normal (act 29 [(0, x0), (2, x2), (7, x7), (8, (.int .i64 0))]) h := kq_reg
theorem r26_5  : kCode env 26 false inv k (cp c26 976) (act 29 [(0, x0), (2, x2), (7, x7), (8, x8)]) h K =
    bnd (pLen Try.prog #[22] x0 h) fun x15 =>
    bnd (pBin Try.prog .lss 3 (.tmp 13) (.tmp 15) x8 x15) fun x16 =>
    K .normal (act 29 [(0, x0), (2, x2), (7, x7), (8, x8), (16, x16)]) h := kq_reg
theorem b26_rlllrlrrr  : kCode env 26 false inv k (cp c26 977) (act 29 [(0, x0), (2, x2), (7, x7), (8, x8), (16, x16)]) h K = brV x16 (kCode env 26 false inv k (cp c26 1954) (act 29 [(0, x0), (2, x2), (7, x7), (8, x8), (16, x16)]) h K) (kCode env 26 false inv k (cp c26 1955) (act 29 [(0, x0), (2, x2), (7, x7), (8, x8), (16, x16)]) h K) := kq_cond
theorem r26_7  : kCode env 26 false inv k (cp c26 3912) (act 29 [(0, x0), (2, x2), (7, x7), (8, x8), (16, x16)]) h K =
    bnd (pIndexAddr Try.prog 22 x0 x8) fun x22 =>
    bnd (pLoad Try.prog 9 x22 h) fun x23 =>
    bnd (pLen Try.prog #[9] x23 h) fun x24 =>
    bnd (pBin Try.prog .add 3 (.tmp 19) (.tmp 24) x7 x24) fun x25 =>
    K .normal (act 29 [(0, x0), (2, x2), (7, x25), (8, x8)]) h := kq_reg
theorem r26_8  : kCode env 26 false inv k (cp c26 7826) (act 29 [(0, x0), (2, x2), (7, x7), (8, x8)]) h K =
    bnd (pBin Try.prog .gtr 3 (.tmp 26) (.tmp 27) x7 x2) fun x28 =>
    K .normal (act 29 [(0, x0), (2, x2), (7, x7), (8, x8), (28, x28)]) h := kq_reg
theorem b26_rrllrllrlrrr  : kCode env 26 false inv k (cp c26 7827) (act 29 [(0, x0), (2, x2), (7, x7), (8, x8), (28, x28)]) h K = brV x28 (kCode env 26 false inv k (cp c26 15654) (act 29 [(0, x0), (2, x2), (7, x7), (8, x8), (28, x28)]) h K) (kCode env 26 false inv k (cp c26 15655) (act 29 [(0, x0), (2, x2), (7, x7), (8, x8), (28, x28)]) h K) := kq_cond
theorem r26_9  : kCode env 26 false inv k (cp c26 31308) (act 29 [(0, x0), (2, x2), (7, x7), (8, x8), (28, x28)]) h K =
    K .normal (act 29 [(6, (.bool false))]) h := kq_reg
theorem r26_6  : kCode env 26 false inv k (cp c26 979) (act 29 [(0, x0), (2, x2), (7, x7), (8, x8), (28, x28)]) h K =
    bnd (pBin Try.prog .add 3 (.tmp 17) (.const (.int .i64 1)) x8 (.int .i64 1)) fun x18 =>
    K .normal (act 29 [(0, x0), (2, x2), (7, x7), (8, x18)]) h := kq_reg
noncomputable def F26_lrlrrr {β : Type} (inv : Inv) (k : Nat) : Nat → Value → Value → Value → Value → AH → (Value → Value → Value → Value → Value → AH → Option β) → (Value → AH → Option β) → Option β
  | 0, _, _, _, _, _, _, _ => none
  | j + 1, x0, x2, x7, x8, h, ke0, kr =>
    bnd (pLen Try.prog #[22] x0 h) fun x15 =>
    bnd (pBin Try.prog .lss 3 (.tmp 13) (.tmp 15) x8 x15) fun x16 =>
    brV x16
    (bnd (pIndexAddr Try.prog 22 x0 x8) fun x22 =>
    bnd (pLoad Try.prog 9 x22 h) fun x23 =>
    bnd (pLen Try.prog #[9] x23 h) fun x24 =>
    bnd (pBin Try.prog .add 3 (.tmp 19) (.tmp 24) x7 x24) fun x25 =>
    bnd (pBin Try.prog .gtr 3 (.tmp 26) (.tmp 27) x25 x2) fun x28 =>
    brV x28
    (kr (.bool false) h)
    (bnd (pBin Try.prog .add 3 (.tmp 17) (.const (.int .i64 1)) x8 (.int .i64 1)) fun x18 =>
    F26_lrlrrr inv k j x0 x2 x25 x18 h ke0 kr))
    (ke0 x0 x2 x7 x8 x16 h)
theorem F26_lrlrrr_j (j : Nat) : kLoop (kCode env 26 false inv k (cp c26 244)) j (act 29 [(0, x0), (2, x2), (7, x7), (8, x8)]) h K = F26_lrlrrr inv k j x0 x2 x7 x8 h (fun y0 y2 y7 y8 y16 h => K (.exit 0) (act 29 [(0, y0), (2, y2), (7, y7), (8, y8), (16, y16)]) h) (fun y6 h => K .ret (act 29 [(6, y6)]) h) := by
      induction j generalizing x0 x2 x7 x8 h with
      | zero => rfl
      | succ j ih =>
        unfold F26_lrlrrr
        simp only [kLoop, kq_seq c26 244, kq_seq c26 488, r26_5, b26_rlllrlrrr, kq_skip c26 1954, kq_seq c26 489, kq_block c26 978 1, kq_seq c26 1956, r26_7, kq_seq c26 3913, r26_8, b26_rrllrllrlrrr, kq_seq c26 15654, r26_9, kq_ret c26 31309, kq_skip c26 15655, r26_6, kq_exit c26 1955 0, ih, reduceIte, reduceCtorEq, XE.exit.injEq, Nat.reduceEqDiff, Nat.reduceMul, Nat.reduceAdd] <;> kernel_rfl
theorem F26_lrlrrr_eq  : kCode env 26 false inv k (cp c26 122) (act 29 [(0, x0), (2, x2), (7, x7), (8, x8)]) h K = F26_lrlrrr inv k k x0 x2 x7 x8 h (fun y0 y2 y7 y8 y16 h => K (.exit 0) (act 29 [(0, y0), (2, y2), (7, y7), (8, y8), (16, y16)]) h) (fun y6 h => K .ret (act 29 [(6, y6)]) h) := kq_loop (F26_lrlrrr_j k)
theorem r26_10  : kCode env 26 false inv k (cp c26 62) (act 29 [(0, x0), (2, x2), (7, x7), (8, x8), (16, x16)]) h K =
    K .normal (act 29 [(6, (.bool true))]) h := kq_reg
/-- shadowbook/shadowbookkit.LightTexts -/
noncomputable def F26 (inv : Inv) (k : Nat) (x0 x1 x2 : Value) (h : AH) : Option (Value × AH) :=
    bnd (pLen Try.prog #[22] x0 h) fun x10 =>
    bnd (pBin Try.prog .gtr 3 (.tmp 10) (.tmp 11) x10 x1) fun x12 =>
    brV x12
    (some ((.bool false), h))
    (F26_lrlrrr inv k k x0 x2 (.int .i64 0) (.int .i64 0) h
    (fun y0 y2 y7 y8 y16 h =>
    some ((.bool true), h))
    (fun y6 h_1 =>
    some (y6, h_1)))
theorem F26_eq : eFun env k inv 26 #[x0, x1, x2] h = F26 inv k x0 x1 x2 h := by
      refine (kq_fun (a := act 29 [(0, x0), (1, x1), (2, x2)]) (c := cp c26 1)).trans ?_
      unfold F26
      simp only [kq_seq c26 1, r26_0, kq_seq c26 3, kq_seq c26 6, r26_1, b26_rlr, kq_seq c26 26, r26_2, kq_ret c26 53, res26_0, kq_skip c26 27, kq_seq c26 7, r26_3, kq_seq c26 15, kq_seq c26 30, r26_4, kq_block c26 61 0, F26_lrlrrr_eq, kq_seq c26 31, r26_10, kq_ret c26 63, reduceIte, reduceCtorEq, XE.exit.injEq, Nat.reduceEqDiff, Nat.reduceMul, Nat.reduceAdd] <;> kernel_rfl
theorem F26_call : eInv env (k + 1) (.func 26) #[] #[x0, x1, x2] h = F26 (eInv env k) k x0 x1 x2 h := kq_inv F26_eq
noncomputable def c28 : Code := codeOf Try.prog 28
theorem r28_0  : kCode env 28 false inv k (cp c28 2) (act 4 [(0, x0)]) h K =
    bnd (pBox Try.prog 40 x0 h) fun x1 =>
    K .normal (act 4 [(1, x1.1)]) x1.2 := kq_reg
theorem r28_1  : kCode env 28 false inv k (cp c28 6) (act 4 [(1, x1)]) h K =
    bnd (pMakeFunc (.func 53) #[] #[x1]) fun x3 =>
    K .normal (act 4 [(2, x3)]) h := kq_reg
theorem res28_0 : resOfFn env.P 28 .ret (act 4 [(2, x2)]) h = some (x2, h) := kq_res
/-- maps.Keys[map[string]struct{},string,struct{}] -/
noncomputable def F28 (inv : Inv) (k : Nat) (x0 : Value) (h : AH) : Option (Value × AH) :=
    bnd (pBox Try.prog 40 x0 h) fun x1 =>
    bnd (pMakeFunc (.func 53) #[] #[x1.1]) fun x3 =>
    some (x3, x1.2)
theorem F28_eq : eFun env k inv 28 #[x0] h = F28 inv k x0 h := by
      refine (kq_fun (a := act 4 [(0, x0)]) (c := cp c28 1)).trans ?_
      unfold F28
      simp only [kq_seq c28 1, r28_0, kq_seq c28 3, r28_1, kq_ret c28 7, res28_0, reduceIte, reduceCtorEq, XE.exit.injEq, Nat.reduceEqDiff, Nat.reduceMul, Nat.reduceAdd] <;> kernel_rfl
theorem F28_call : eInv env (k + 1) (.func 28) #[] #[x0] h = F28 (eInv env k) k x0 h := kq_inv F28_eq
noncomputable def c29 : Code := codeOf Try.prog 29
theorem r29_0  : kCode env 29 false inv k (cp c29 2) (act 10 [(0, x0)]) h K =
    K .normal (act 10 [(0, x0)]) h := kq_reg
theorem r29_1  : kCode env 29 false inv k (cp c29 12) (act 10 [(0, x0)]) h K =
    bnd (pLen Try.prog #[22] x0 h) fun x4 =>
    bnd (pBin Try.prog .gtr 3 (.tmp 4) (.const (.int .i64 4096)) x4 (.int .i64 4096)) fun x5 =>
    bnd (gd (some x5) false h (some (x0, h))) fun x7 =>
    bnd (gd (some x5) false x7.2 (inv (.func 54) #[] #[x7.1, (.func (.func 55) #[] #[])] x7.2)) fun x8 =>
    bnd (pickV x5 (.bool true) x8.1) fun x9 =>
    K .normal (act 10 [(9, x9)]) x8.2 := kq_reg
theorem b29_rlr  : kCode env 29 false inv k (cp c29 13) (act 10 [(9, x9)]) h K = brV x9 (kCode env 29 false inv k (cp c29 26) (act 10 [(9, x9)]) h K) (kCode env 29 false inv k (cp c29 27) (act 10 [(9, x9)]) h K) := kq_cond
theorem r29_2  : kCode env 29 false inv k (cp c29 52) (act 10 [(9, x9)]) h K =
    K .normal (act 10 [(2, (.int .i64 3))]) h := kq_reg
theorem res29_0 : resOfFn env.P 29 .ret (act 10 [(2, x2)]) h = some (x2, h) := kq_res
theorem r29_3  : kCode env 29 false inv k (cp c29 14) (act 10 [(9, x9)]) h K =
    K .normal (act 10 [(2, (.int .i64 0))]) h := kq_reg
/-- shadowbook/texts.check -/
noncomputable def F29 (inv : Inv) (k : Nat) (x0 : Value) (h : AH) : Option (Value × AH) :=
    bnd (pLen Try.prog #[22] x0 h) fun x4 =>
    bnd (pBin Try.prog .gtr 3 (.tmp 4) (.const (.int .i64 4096)) x4 (.int .i64 4096)) fun x5 =>
    bnd (gd (some x5) false h (some (x0, h))) fun x7 =>
    bnd (gd (some x5) false x7.2 (inv (.func 54) #[] #[x7.1, (.func (.func 55) #[] #[])] x7.2)) fun x8 =>
    bnd (pickV x5 (.bool true) x8.1) fun x9 =>
    brV x9
    (some ((.int .i64 3), x8.2))
    (some ((.int .i64 0), x8.2))
theorem F29_eq : eFun env k inv 29 #[x0] h = F29 inv k x0 h := by
      refine (kq_fun (a := act 10 [(0, x0)]) (c := cp c29 1)).trans ?_
      unfold F29
      simp only [kq_seq c29 1, r29_0, kq_seq c29 3, kq_seq c29 6, r29_1, b29_rlr, kq_seq c29 26, r29_2, kq_ret c29 53, res29_0, kq_skip c29 27, kq_seq c29 7, r29_3, kq_ret c29 15, reduceIte, reduceCtorEq, XE.exit.injEq, Nat.reduceEqDiff, Nat.reduceMul, Nat.reduceAdd] <;> kernel_rfl
theorem F29_call : eInv env (k + 1) (.func 29) #[] #[x0] h = F29 (eInv env k) k x0 h := kq_inv F29_eq
noncomputable def c30 : Code := codeOf Try.prog 30
theorem r30_0  : kCode env 30 false inv k (cp c30 2) (act 20 [(0, x0), (1, x1)]) h K =
    K .normal (act 20 [(0, x0), (1, x1)]) h := kq_reg
theorem r30_1  : kCode env 30 false inv k (cp c30 96) (act 20 [(0, x0), (1, x1)]) h K =
    bnd (pBin Try.prog .geq 48 (.tmp 5) (.const (.int .u64 128)) x1 (.int .u64 128)) fun x6 =>
    K .normal (act 20 [(0, x0), (1, x1), (6, x6)]) h := kq_reg
theorem b30_rllllr  : kCode env 30 false inv k (cp c30 97) (act 20 [(0, x0), (1, x1), (6, x6)]) h K = brV x6 (kCode env 30 false inv k (cp c30 194) (act 20 [(0, x0), (1, x1), (6, x6)]) h K) (kCode env 30 false inv k (cp c30 195) (act 20 [(0, x0), (1, x1), (6, x6)]) h K) := kq_cond
theorem r30_3  : kCode env 30 false inv k (cp c30 196) (act 20 [(0, x0), (1, x1), (6, x6)]) h K =
    bnd (pConv Try.prog 48 5 x1 h) fun x11 =>
    bnd (pBin Try.prog .or 5 (.tmp 11) (.const (.int .u8 128)) x11 (.int .u8 128)) fun x12 =>
    bnd (pBuildSlice Try.prog 30 1 #[(0, x12)] h) fun x13 =>
    bnd (pAppend Try.prog #[30, 30] x0 x13.1 x13.2) fun x14 =>
    K .normal (act 20 [(0, x14.1), (1, x1)]) x14.2 := kq_reg
theorem r30_2  : kCode env 30 false inv k (cp c30 99) (act 20 [(0, x0), (1, x1)]) h K =
    bnd (pBin Try.prog .shr 48 (.tmp 7) (.const (.int .u64 7)) x1 (.int .u64 7)) fun x8 =>
    K .normal (act 20 [(0, x0), (1, x8)]) h := kq_reg
noncomputable def F30_llr {β : Type} (inv : Inv) (k : Nat) : Nat → Value → Value → AH → (Value → Value → Value → AH → Option β) → Option β
  | 0, _, _, _, _ => none
  | j + 1, x0, x1, h, ke0 =>
    bnd (pBin Try.prog .geq 48 (.tmp 5) (.const (.int .u64 128)) x1 (.int .u64 128)) fun x6 =>
    brV x6
    (bnd (pConv Try.prog 48 5 x1 h) fun x11 =>
    bnd (pBin Try.prog .or 5 (.tmp 11) (.const (.int .u8 128)) x11 (.int .u8 128)) fun x12 =>
    bnd (pBuildSlice Try.prog 30 1 #[(0, x12)] h) fun x13 =>
    bnd (pAppend Try.prog #[30, 30] x0 x13.1 x13.2) fun x14 =>
    bnd (pBin Try.prog .shr 48 (.tmp 7) (.const (.int .u64 7)) x1 (.int .u64 7)) fun x8 =>
    F30_llr inv k j x14.1 x8 x14.2 ke0)
    (ke0 x0 x1 x6 h)
theorem F30_llr_j (j : Nat) : kLoop (kCode env 30 false inv k (cp c30 24)) j (act 20 [(0, x0), (1, x1)]) h K = F30_llr inv k j x0 x1 h (fun y0 y1 y6 h => K (.exit 0) (act 20 [(0, y0), (1, y1), (6, y6)]) h) := by
      induction j generalizing x0 x1 h with
      | zero => rfl
      | succ j ih =>
        unfold F30_llr
        simp only [kLoop, kq_seq c30 24, kq_seq c30 48, r30_1, b30_rllllr, kq_skip c30 194, kq_seq c30 49, kq_block c30 98 1, r30_3, r30_2, kq_exit c30 195 0, ih, reduceIte, reduceCtorEq, XE.exit.injEq, Nat.reduceEqDiff, Nat.reduceMul, Nat.reduceAdd] <;> kernel_rfl
theorem F30_llr_eq  : kCode env 30 false inv k (cp c30 12) (act 20 [(0, x0), (1, x1)]) h K = F30_llr inv k k x0 x1 h (fun y0 y1 y6 h => K (.exit 0) (act 20 [(0, y0), (1, y1), (6, y6)]) h) := kq_loop (F30_llr_j k)
theorem r30_4  : kCode env 30 false inv k (cp c30 14) (act 20 [(0, x0), (1, x1), (6, x6)]) h K =
    bnd (pConv Try.prog 48 5 x1 h) fun x17 =>
    bnd (pBuildSlice Try.prog 30 1 #[(0, x17)] h) fun x18 =>
    bnd (pAppend Try.prog #[30, 30] x0 x18.1 x18.2) fun x19 =>
    K .normal (act 20 [(4, x19.1)]) x19.2 := kq_reg
theorem res30_0 : resOfFn env.P 30 .ret (act 20 [(4, x4)]) h = some (x4, h) := kq_res
/-- shadowbook/octet.PutVar -/
noncomputable def F30 (inv : Inv) (k : Nat) (x0 x1 : Value) (h : AH) : Option (Value × AH) :=
    F30_llr inv k k x0 x1 h
    (fun y0 y1 y6 h =>
    bnd (pConv Try.prog 48 5 y1 h) fun x17 =>
    bnd (pBuildSlice Try.prog 30 1 #[(0, x17)] h) fun x18 =>
    bnd (pAppend Try.prog #[30, 30] y0 x18.1 x18.2) fun x19 =>
    some (x19.1, x19.2))
theorem F30_eq : eFun env k inv 30 #[x0, x1] h = F30 inv k x0 x1 h := by
      refine (kq_fun (a := act 20 [(0, x0), (1, x1)]) (c := cp c30 1)).trans ?_
      unfold F30
      simp only [kq_seq c30 1, r30_0, kq_seq c30 3, kq_block c30 6 0, F30_llr_eq, kq_seq c30 7, r30_4, kq_ret c30 15, res30_0, reduceIte, reduceCtorEq, XE.exit.injEq, Nat.reduceEqDiff, Nat.reduceMul, Nat.reduceAdd] <;> kernel_rfl
theorem F30_call : eInv env (k + 1) (.func 30) #[] #[x0, x1] h = F30 (eInv env k) k x0 x1 h := kq_inv F30_eq
noncomputable def c31 : Code := codeOf Try.prog 31
theorem r31_0  : kCode env 31 false inv k (cp c31 2) (act 12 [(0, x0), (1, x1)]) h K =
    K .normal (act 12 [(0, x0), (1, x1)]) h := kq_reg
theorem r31_1  : kCode env 31 false inv k (cp c31 6) (act 12 [(0, x0), (1, x1)]) h K =
    bnd (pLen Try.prog #[9] x1 h) fun x7 =>
    bnd (pConv Try.prog 3 48 x7 h) fun x8 =>
    bnd (inv (.func 30) #[] #[x0, x8] h) fun x9 =>
    bnd (pAppend Try.prog #[30, 9] x9.1 x1 x9.2) fun x11 =>
    K .normal (act 12 [(4, x11.1)]) x11.2 := kq_reg
theorem res31_0 : resOfFn env.P 31 .ret (act 12 [(4, x4)]) h = some (x4, h) := kq_res
/-- shadowbook/texts.text -/
noncomputable def F31 (inv : Inv) (k : Nat) (x0 x1 : Value) (h : AH) : Option (Value × AH) :=
    bnd (pLen Try.prog #[9] x1 h) fun x7 =>
    bnd (pConv Try.prog 3 48 x7 h) fun x8 =>
    bnd (inv (.func 30) #[] #[x0, x8] h) fun x9 =>
    bnd (pAppend Try.prog #[30, 9] x9.1 x1 x9.2) fun x11 =>
    some (x11.1, x11.2)
theorem F31_eq : eFun env k inv 31 #[x0, x1] h = F31 inv k x0 x1 h := by
      refine (kq_fun (a := act 12 [(0, x0), (1, x1)]) (c := cp c31 1)).trans ?_
      unfold F31
      simp only [kq_seq c31 1, r31_0, kq_seq c31 3, r31_1, kq_ret c31 7, res31_0, reduceIte, reduceCtorEq, XE.exit.injEq, Nat.reduceEqDiff, Nat.reduceMul, Nat.reduceAdd] <;> kernel_rfl
theorem F31_call : eInv env (k + 1) (.func 31) #[] #[x0, x1] h = F31 (eInv env k) k x0 x1 h := kq_inv F31_eq
noncomputable def c53 : Code := codeOf Try.prog 53
theorem r53_0  : kCode env 53 false inv k (cp c53 2) (act 14 [(0, x0), (1, x1)]) h K =
    bnd (pLoad Try.prog 40 x1 h) fun x4 =>
    bnd (pRange Try.prog 40 x4 h) fun x5 =>
    K .normal (act 14 [(0, x0), (5, x5.1)]) x5.2 := kq_reg
theorem r53_1  : kCode env 53 false inv k (cp c53 24) (act 14 [(0, x0), (5, x5), (13, x13)]) h K =
    bnd (pNext x5 false h) fun x6 =>
    bnd (pExtract x6.1 0) fun x7 =>
    K .normal (act 14 [(0, x0), (5, x5), (7, x7)]) x6.2 := kq_reg
theorem b53_lrllr  : kCode env 53 false inv k (cp c53 50) (act 14 [(0, x0), (5, x5), (7, x7)]) h K = brV x7 (kCode env 53 false inv k (cp c53 100) (act 14 [(0, x0), (5, x5), (7, x7)]) h K) (kCode env 53 false inv k (cp c53 101) (act 14 [(0, x0), (5, x5), (7, x7)]) h K) := kq_cond
theorem r53_2  : kCode env 53 false inv k (cp c53 204) (act 14 [(0, x0), (5, x5), (7, x7)]) h K =
    bnd ((none : Option (Value × AH))) fun x8 =>
    bnd (pExtract x8.1 0) fun x9 =>
    K .normal (act 14 [(0, x0), (3, x9), (5, x5)]) x8.2 := kq_reg
theorem r53_3  : kCode env 53 false inv k (cp c53 410) (act 14 [(0, x0), (3, x3), (5, x5)]) h K =
    bnd (callV inv x0 #[x3] h) fun x12 =>
    bnd (pUn Try.prog .not x12.1) fun x13 =>
    K .normal (act 14 [(0, x0), (5, x5), (13, x13)]) x12.2 := kq_reg
theorem b53_rrlrrllr  : kCode env 53 false inv k (cp c53 411) (act 14 [(0, x0), (5, x5), (13, x13)]) h K = brV x13 (kCode env 53 false inv k (cp c53 822) (act 14 [(0, x0), (5, x5), (13, x13)]) h K) (kCode env 53 false inv k (cp c53 823) (act 14 [(0, x0), (5, x5), (13, x13)]) h K) := kq_cond
noncomputable def F53_lr {β : Type} (inv : Inv) (k : Nat) : Nat → Value → Value → Value → AH → (Value → Value → Value → AH → Option β) → (Value → Value → Value → AH → Option β) → Option β
  | 0, _, _, _, _, _, _ => none
  | j + 1, x0, x5, x13, h, ke0, kr =>
    bnd (pNext x5 false h) fun x6 =>
    bnd (pExtract x6.1 0) fun x7 =>
    brV x7
    (bnd ((none : Option (Value × AH))) fun x8 =>
    bnd (pExtract x8.1 0) fun x9 =>
    bnd (callV inv x0 #[x9] x8.2) fun x12 =>
    bnd (pUn Try.prog .not x12.1) fun x13_1 =>
    brV x13_1
    (kr x0 x5 x13_1 x12.2)
    (F53_lr inv k j x0 x5 x13_1 x12.2 ke0 kr))
    (ke0 x0 x5 x7 x6.2)
theorem F53_lr_j (j : Nat) : kLoop (kCode env 53 false inv k (cp c53 12)) j (act 14 [(0, x0), (5, x5), (13, x13)]) h K = F53_lr inv k j x0 x5 x13 h (fun y0 y5 y7 h => K (.exit 0) (act 14 [(0, y0), (5, y5), (7, y7)]) h) (fun y0 y5 y13 h => K .ret (act 14 [(0, y0), (5, y5), (13, y13)]) h) := by
      induction j generalizing x0 x5 x13 h with
      | zero => rfl
      | succ j ih =>
        unfold F53_lr
        simp only [kLoop, kq_seq c53 12, r53_1, kq_seq c53 25, b53_lrllr, kq_skip c53 100, kq_block c53 51 1, kq_seq c53 102, r53_2, kq_seq c53 205, r53_3, b53_rrlrrllr, kq_ret c53 822, kq_skip c53 823, kq_exit c53 101 0, ih, reduceIte, reduceCtorEq, XE.exit.injEq, Nat.reduceEqDiff, Nat.reduceMul, Nat.reduceAdd] <;> kernel_rfl
theorem F53_lr_eq  : kCode env 53 false inv k (cp c53 6) (act 14 [(0, x0), (5, x5), (13, x13)]) h K = F53_lr inv k k x0 x5 x13 h (fun y0 y5 y7 h => K (.exit 0) (act 14 [(0, y0), (5, y5), (7, y7)]) h) (fun y0 y5 y13 h => K .ret (act 14 [(0, y0), (5, y5), (13, y13)]) h) := kq_loop (F53_lr_j k)
theorem F53_lr_eq_13  : kCode env 53 false inv k (cp c53 6) (act 14 [(0, x0), (5, x5)]) h K = F53_lr inv k k x0 x5 unk h (fun y0 y5 y7 h => K (.exit 0) (act 14 [(0, y0), (5, y5), (7, y7)]) h) (fun y0 y5 y13 h => K .ret (act 14 [(0, y0), (5, y5), (13, y13)]) h) := by
      rw [show act 14 [(0, x0), (5, x5)] = act 14 [(0, x0), (5, x5), (13, unk)] from by kernel_rfl]; exact F53_lr_eq ..
theorem res53_0 : resOfFn env.P 53 .normal (act 14 [(0, x0), (5, x5), (7, x7)]) h = some (.tuple #[], h) := kq_res
theorem res53_1 : resOfFn env.P 53 .ret (act 14 [(0, x0), (5, x5), (13, x13)]) h = some (.tuple #[], h) := kq_res
/-- maps.Keys[map[string]struct{},string,struct{}]$1 -/
noncomputable def F53 (inv : Inv) (k : Nat) (x0 x1 : Value) (h : AH) : Option (Value × AH) :=
    bnd (pLoad Try.prog 40 x1 h) fun x4 =>
    bnd (pRange Try.prog 40 x4 h) fun x5 =>
    F53_lr inv k k x0 x5.1 unk x5.2
    (fun y0 y5 y7 h =>
    some (.tuple #[], h))
    (fun y0_2 y5_3 y13 h_4 =>
    some (.tuple #[], h_4))
theorem F53_eq : eFun env k inv 53 #[x0, x1] h = F53 inv k x0 x1 h := by
      refine (kq_fun (a := act 14 [(0, x0), (1, x1)]) (c := cp c53 1)).trans ?_
      unfold F53
      simp only [kq_seq c53 1, r53_0, kq_block c53 3 0, F53_lr_eq_13, res53_0, res53_1, reduceIte, reduceCtorEq, XE.exit.injEq, Nat.reduceEqDiff, Nat.reduceMul, Nat.reduceAdd] <;> kernel_rfl
theorem F53_call : eInv env (k + 1) (.func 53) #[] #[x0, x1] h = F53 (eInv env k) k x0 x1 h := kq_inv F53_eq
noncomputable def c54 : Code := codeOf Try.prog 54
theorem r54_0  : kCode env 54 false inv k (cp c54 2) (act 9 [(0, x0), (1, x1)]) h K =
    K .normal (act 9 [(0, x0), (1, x1)]) h := kq_reg
theorem r54_1  : kCode env 54 false inv k (cp c54 6) (act 9 [(0, x0), (1, x1)]) h K =
    bnd (inv (.func 78) #[] #[x0, x1] h) fun x7 =>
    bnd (pBin Try.prog .geq 3 (.tmp 7) (.const (.int .i64 0)) x7.1 (.int .i64 0)) fun x8 =>
    K .normal (act 9 [(4, x8)]) x7.2 := kq_reg
theorem res54_0 : resOfFn env.P 54 .ret (act 9 [(4, x4)]) h = some (x4, h) := kq_res
/-- slices.ContainsFunc[[]string,string] -/
noncomputable def F54 (inv : Inv) (k : Nat) (x0 x1 : Value) (h : AH) : Option (Value × AH) :=
    bnd (inv (.func 78) #[] #[x0, x1] h) fun x7 =>
    bnd (pBin Try.prog .geq 3 (.tmp 7) (.const (.int .i64 0)) x7.1 (.int .i64 0)) fun x8 =>
    some (x8, x7.2)
theorem F54_eq : eFun env k inv 54 #[x0, x1] h = F54 inv k x0 x1 h := by
      refine (kq_fun (a := act 9 [(0, x0), (1, x1)]) (c := cp c54 1)).trans ?_
      unfold F54
      simp only [kq_seq c54 1, r54_0, kq_seq c54 3, r54_1, kq_ret c54 7, res54_0, reduceIte, reduceCtorEq, XE.exit.injEq, Nat.reduceEqDiff, Nat.reduceMul, Nat.reduceAdd] <;> kernel_rfl
theorem F54_call : eInv env (k + 1) (.func 54) #[] #[x0, x1] h = F54 (eInv env k) k x0 x1 h := kq_inv F54_eq
noncomputable def c55 : Code := codeOf Try.prog 55
theorem r55_0  : kCode env 55 false inv k (cp c55 2) (act 6 [(0, x0)]) h K =
    K .normal (act 6 [(0, x0)]) h := kq_reg
theorem r55_1  : kCode env 55 false inv k (cp c55 6) (act 6 [(0, x0)]) h K =
    bnd (pLen Try.prog #[9] x0 h) fun x4 =>
    bnd (pBin Try.prog .gtr 3 (.tmp 4) (.const (.int .i64 65536)) x4 (.int .i64 65536)) fun x5 =>
    K .normal (act 6 [(2, x5)]) h := kq_reg
theorem res55_0 : resOfFn env.P 55 .ret (act 6 [(2, x2)]) h = some (x2, h) := kq_res
/-- shadowbook/texts.check$1 -/
noncomputable def F55 (inv : Inv) (k : Nat) (x0 : Value) (h : AH) : Option (Value × AH) :=
    bnd (pLen Try.prog #[9] x0 h) fun x4 =>
    bnd (pBin Try.prog .gtr 3 (.tmp 4) (.const (.int .i64 65536)) x4 (.int .i64 65536)) fun x5 =>
    some (x5, h)
theorem F55_eq : eFun env k inv 55 #[x0] h = F55 inv k x0 h := by
      refine (kq_fun (a := act 6 [(0, x0)]) (c := cp c55 1)).trans ?_
      unfold F55
      simp only [kq_seq c55 1, r55_0, kq_seq c55 3, r55_1, kq_ret c55 7, res55_0, reduceIte, reduceCtorEq, XE.exit.injEq, Nat.reduceEqDiff, Nat.reduceMul, Nat.reduceAdd] <;> kernel_rfl
theorem F55_call : eInv env (k + 1) (.func 55) #[] #[x0] h = F55 (eInv env k) k x0 h := kq_inv F55_eq
noncomputable def c78 : Code := codeOf Try.prog 78
theorem r78_0  : kCode env 78 false inv k (cp c78 2) (act 19 [(0, x0), (1, x1)]) h K =
    K .normal (act 19 [(0, x0), (1, x1)]) h := kq_reg
theorem r78_1  : kCode env 78 false inv k (cp c78 12) (act 19 [(0, x0), (1, x1)]) h K =
    bnd (pLen Try.prog #[22] x0 h) fun x7 =>
    K .normal (act 19 [(0, x0), (1, x1), (7, x7), (8, (.int .i64 0))]) h := kq_reg
theorem r78_2  : kCode env 78 false inv k (cp c78 104) (act 19 [(0, x0), (1, x1), (7, x7), (8, x8)]) h K =
    bnd (pBin Try.prog .lss 3 (.tmp 8) (.tmp 7) x8 x7) fun x9 =>
    K .normal (act 19 [(0, x0), (1, x1), (7, x7), (8, x8), (9, x9)]) h := kq_reg
theorem b78_lrllrlr  : kCode env 78 false inv k (cp c78 210) (act 19 [(0, x0), (1, x1), (7, x7), (8, x8), (9, x9)]) h K = brV x9 (kCode env 78 false inv k (cp c78 420) (act 19 [(0, x0), (1, x1), (7, x7), (8, x8), (9, x9)]) h K) (kCode env 78 false inv k (cp c78 421) (act 19 [(0, x0), (1, x1), (7, x7), (8, x8), (9, x9)]) h K) := kq_cond
theorem r78_3  : kCode env 78 false inv k (cp c78 1688) (act 19 [(0, x0), (1, x1), (7, x7), (8, x8), (9, x9)]) h K =
    K .normal (act 19 [(0, x0), (1, x1), (5, x8), (7, x7), (8, x8)]) h := kq_reg
theorem r78_4  : kCode env 78 false inv k (cp c78 3378) (act 19 [(0, x0), (1, x1), (5, x5), (7, x7), (8, x8)]) h K =
    bnd (pIndexAddr Try.prog 22 x0 x5) fun x14 =>
    bnd (pLoad Try.prog 9 x14 h) fun x15 =>
    bnd (callV inv x1 #[x15] h) fun x16 =>
    K .normal (act 19 [(0, x0), (1, x1), (5, x5), (7, x7), (8, x8), (16, x16.1)]) x16.2 := kq_reg
theorem b78_rrllrrllrlr  : kCode env 78 false inv k (cp c78 3379) (act 19 [(0, x0), (1, x1), (5, x5), (7, x7), (8, x8), (16, x16)]) h K = brV x16 (kCode env 78 false inv k (cp c78 6758) (act 19 [(0, x0), (1, x1), (5, x5), (7, x7), (8, x8), (16, x16)]) h K) (kCode env 78 false inv k (cp c78 6759) (act 19 [(0, x0), (1, x1), (5, x5), (7, x7), (8, x8), (16, x16)]) h K) := kq_cond
theorem r78_5  : kCode env 78 false inv k (cp c78 13516) (act 19 [(0, x0), (1, x1), (5, x5), (7, x7), (8, x8), (16, x16)]) h K =
    K .normal (act 19 [(4, x5)]) h := kq_reg
theorem r78_6  : kCode env 78 false inv k (cp c78 423) (act 19 [(0, x0), (1, x1), (5, x5), (7, x7), (8, x8), (16, x16)]) h K =
    bnd (pBin Try.prog .add 3 (.tmp 8) (.const (.int .i64 1)) x8 (.int .i64 1)) fun x18 =>
    K .normal (act 19 [(0, x0), (1, x1), (7, x7), (8, x18)]) h := kq_reg
noncomputable def F78_lrlr {β : Type} (inv : Inv) (k : Nat) : Nat → Value → Value → Value → Value → AH → (Value → Value → Value → Value → Value → AH → Option β) → (Value → AH → Option β) → Option β
  | 0, _, _, _, _, _, _, _ => none
  | j + 1, x0, x1, x7, x8, h, ke0, kr =>
    bnd (pBin Try.prog .lss 3 (.tmp 8) (.tmp 7) x8 x7) fun x9 =>
    brV x9
    (bnd (pIndexAddr Try.prog 22 x0 x8) fun x14 =>
    bnd (pLoad Try.prog 9 x14 h) fun x15 =>
    bnd (callV inv x1 #[x15] h) fun x16 =>
    brV x16.1
    (kr x8 x16.2)
    (bnd (pBin Try.prog .add 3 (.tmp 8) (.const (.int .i64 1)) x8 (.int .i64 1)) fun x18 =>
    F78_lrlr inv k j x0 x1 x7 x18 x16.2 ke0 kr))
    (ke0 x0 x1 x7 x8 x9 h)
theorem F78_lrlr_j (j : Nat) : kLoop (kCode env 78 false inv k (cp c78 52)) j (act 19 [(0, x0), (1, x1), (7, x7), (8, x8)]) h K = F78_lrlr inv k j x0 x1 x7 x8 h (fun y0 y1 y7 y8 y9 h => K (.exit 0) (act 19 [(0, y0), (1, y1), (7, y7), (8, y8), (9, y9)]) h) (fun y4 h => K .ret (act 19 [(4, y4)]) h) := by
      induction j generalizing x0 x1 x7 x8 h with
      | zero => rfl
      | succ j ih =>
        unfold F78_lrlr
        simp only [kLoop, kq_seq c78 52, r78_2, kq_seq c78 105, b78_lrllrlr, kq_skip c78 420, kq_seq c78 211, kq_block c78 422 1, kq_seq c78 844, r78_3, kq_seq c78 1689, r78_4, b78_rrllrrllrlr, kq_seq c78 6758, r78_5, kq_ret c78 13517, kq_skip c78 6759, r78_6, kq_exit c78 421 0, ih, reduceIte, reduceCtorEq, XE.exit.injEq, Nat.reduceEqDiff, Nat.reduceMul, Nat.reduceAdd] <;> kernel_rfl
theorem F78_lrlr_eq  : kCode env 78 false inv k (cp c78 26) (act 19 [(0, x0), (1, x1), (7, x7), (8, x8)]) h K = F78_lrlr inv k k x0 x1 x7 x8 h (fun y0 y1 y7 y8 y9 h => K (.exit 0) (act 19 [(0, y0), (1, y1), (7, y7), (8, y8), (9, y9)]) h) (fun y4 h => K .ret (act 19 [(4, y4)]) h) := kq_loop (F78_lrlr_j k)
theorem r78_7  : kCode env 78 false inv k (cp c78 14) (act 19 [(0, x0), (1, x1), (7, x7), (8, x8), (9, x9)]) h K =
    K .normal (act 19 [(4, (.int .i64 (-1)))]) h := kq_reg
theorem res78_0 : resOfFn env.P 78 .ret (act 19 [(4, x4)]) h = some (x4, h) := kq_res
/-- slices.IndexFunc[[]string,string] -/
noncomputable def F78 (inv : Inv) (k : Nat) (x0 x1 : Value) (h : AH) : Option (Value × AH) :=
    bnd (pLen Try.prog #[22] x0 h) fun x7 =>
    F78_lrlr inv k k x0 x1 x7 (.int .i64 0) h
    (fun y0 y1 y7 y8 y9 h =>
    some ((.int .i64 (-1)), h))
    (fun y4 h_1 =>
    some (y4, h_1))
theorem F78_eq : eFun env k inv 78 #[x0, x1] h = F78 inv k x0 x1 h := by
      refine (kq_fun (a := act 19 [(0, x0), (1, x1)]) (c := cp c78 1)).trans ?_
      unfold F78
      simp only [kq_seq c78 1, r78_0, kq_seq c78 3, kq_seq c78 6, r78_1, kq_block c78 13 0, F78_lrlr_eq, kq_seq c78 7, r78_7, kq_ret c78 15, res78_0, reduceIte, reduceCtorEq, XE.exit.injEq, Nat.reduceEqDiff, Nat.reduceMul, Nat.reduceAdd] <;> kernel_rfl
theorem F78_call : eInv env (k + 1) (.func 78) #[] #[x0, x1] h = F78 (eInv env k) k x0 x1 h := kq_inv F78_eq
end Go.Proofs.Ytagcejlclcldcaa.Sh
