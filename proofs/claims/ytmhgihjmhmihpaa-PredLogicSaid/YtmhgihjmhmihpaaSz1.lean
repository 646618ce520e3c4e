/- Shallow functions, part 1. Printed by a program of the prover's own from the loaded program; Lean checks it. -/
import Derived.Test.YtmhgihjmhmihpaaSz0
set_option linter.unusedVariables false
set_option linter.unusedSimpArgs false
set_option maxRecDepth 100000
namespace Go.Proofs.Ytmhgihjmhmihpaa.Sh
open Go Go.RowKit Go.Proofs.Ev
variable {β : Type} {inv : Inv} {k : Nat} {h : AH} {K : XE → Act → AH → Option β} {x0 x1 x2 x3 x4 x5 x6 x7 x8 x9 x10 x11 x12 x13 x14 x15 x16 x17 x18 x19 x20 x21 x22 x23 x24 x25 x26 x27 x28 x29 x30 x31 x32 x33 x34 x35 x36 x37 x38 x39 x40 x41 x42 x43 x44 x45 x46 x47 x48 x49 x50 x51 x52 x53 x54 x55 x56 x57 x58 x59 x68 x70 x71 x72 : Value}
noncomputable def c3 : Code := codeOf Try.prog 3
theorem r3_0  : kCode env 3 false inv k (cp c3 2) (act 108 [(0, x0), (1, x1), (2, x2)]) h K =
    K .normal (act 108 [(0, x0), (1, x1), (2, x2)]) h := kq_reg
theorem r3_1  : kCode env 3 false inv k (cp c3 12) (act 108 [(0, x0), (1, x1), (2, x2)]) h K =
    bnd (inv (.func 7) #[] #[] h) fun x12 =>
    bnd (pUn Try.prog .not x12.1) fun x13 =>
    K .normal (act 108 [(0, x0), (1, x1), (2, x2), (13, x13)]) x12.2 := kq_reg
theorem b3_rlr  : kCode env 3 false inv k (cp c3 13) (act 108 [(0, x0), (1, x1), (2, x2), (13, x13)]) h K = brV x13 (kCode env 3 false inv k (cp c3 26) (act 108 [(0, x0), (1, x1), (2, x2), (13, x13)]) h K) (kCode env 3 false inv k (cp c3 27) (act 108 [(0, x0), (1, x1), (2, x2), (13, x13)]) h K) := kq_cond
theorem r3_2  : kCode env 3 false inv k (cp c3 52) (act 108 [(0, x0), (1, x1), (2, x2), (13, x13)]) h K =
    K .normal (act 108 [(6, (.bool false))]) h := kq_reg
theorem res3_0 : resOfFn env.P 3 .ret (act 108 [(6, x6)]) h = some (x6, h) := kq_res
noncomputable abbrev G3_3 {β : Type} (inv : Inv) (x0 x1 x2 : Value) (h : AH) (K : Value → AH → Option β) : Option β :=
    bnd (inv (.func 8) #[] #[x0] h) fun x15 =>
    bnd (pUn Try.prog .not x15.1) fun x16 =>
    bnd (gd (some x16) false x15.2 (some (x1, x15.2))) fun x18 =>
    bnd (gd (some x16) false x18.2 (inv (.func 8) #[] #[x18.1] x18.2)) fun x19 =>
    bnd (gd (some x16) false x19.2 (lt (pUn Try.prog .not x19.1) x19.2)) fun x20 =>
    bnd (pickV x16 (.bool true) x20.1) fun x21 =>
    bnd (gd (some x21) false x20.2 (some (x2, x20.2))) fun x23 =>
    bnd (gd (some x21) false x23.2 (inv (.func 9) #[] #[x23.1] x23.2)) fun x24 =>
    bnd (gd (some x21) false x24.2 (lt (pUn Try.prog .not x24.1) x24.2)) fun x25 =>
    bnd (pickV x21 (.bool true) x25.1) fun x26 =>
    bnd (gd (some x26) false x25.2 (some (x0, x25.2))) fun x28 =>
    bnd (gd (some x26) false x28.2 (inv (.func 10) #[] #[x28.1] x28.2)) fun x29 =>
    bnd (gd (some x26) false x29.2 (lt (pUn Try.prog .not x29.1) x29.2)) fun x30 =>
    bnd (pickV x26 (.bool true) x30.1) fun x31 =>
    bnd (gd (some x31) false x30.2 (some (x1, x30.2))) fun x33 =>
    bnd (gd (some x31) false x33.2 (inv (.func 10) #[] #[x33.1] x33.2)) fun x34 =>
    bnd (gd (some x31) false x34.2 (lt (pUn Try.prog .not x34.1) x34.2)) fun x35 =>
    bnd (pickV x31 (.bool true) x35.1) fun x36 =>
    K (x36) x35.2
theorem r3_3  : kCode env 3 false inv k (cp c3 28) (act 108 [(0, x0), (1, x1), (2, x2), (13, x13)]) h K =
    G3_3 inv x0 x1 x2 h fun y36 h => K .normal (act 108 [(0, x0), (1, x1), (2, x2), (36, y36)]) h := kq_reg
theorem b3_rlrr  : kCode env 3 false inv k (cp c3 29) (act 108 [(0, x0), (1, x1), (2, x2), (36, x36)]) h K = brV x36 (kCode env 3 false inv k (cp c3 58) (act 108 [(0, x0), (1, x1), (2, x2), (36, x36)]) h K) (kCode env 3 false inv k (cp c3 59) (act 108 [(0, x0), (1, x1), (2, x2), (36, x36)]) h K) := kq_cond
theorem r3_4  : kCode env 3 false inv k (cp c3 116) (act 108 [(0, x0), (1, x1), (2, x2), (36, x36)]) h K =
    K .normal (act 108 [(6, (.bool true))]) h := kq_reg
theorem r3_5  : kCode env 3 false inv k (cp c3 30) (act 108 [(0, x0), (1, x1), (2, x2), (36, x36)]) h K =
    bnd (inv (.func 11) #[] #[x0, x2] h) fun x39 =>
    bnd (inv (.func 11) #[] #[x1, x2] x39.2) fun x42 =>
    K .normal (act 108 [(0, x0), (1, x1), (2, x2), (7, x39.1), (8, x42.1)]) x42.2 := kq_reg
theorem r3_6  : kCode env 3 false inv k (cp c3 62) (act 108 [(0, x0), (1, x1), (2, x2), (7, x7), (8, x8)]) h K =
    bnd (pBuildSlice Try.prog 45 1 #[(0, x0)] h) fun x44 =>
    bnd (inv (.func 12) #[] #[(.int .i64 8), x44.1] x44.2) fun x45 =>
    K .normal (act 108 [(0, x0), (1, x1), (2, x2), (7, x7), (8, x8), (9, x45.1)]) x45.2 := kq_reg
theorem r3_7  : kCode env 3 false inv k (cp c3 126) (act 108 [(0, x0), (1, x1), (2, x2), (7, x7), (8, x8), (9, x9)]) h K =
    bnd (pBuildSlice Try.prog 45 2 #[(0, x0), (1, x1)] h) fun x48 =>
    bnd (inv (.func 12) #[] #[(.int .i64 6), x48.1] x48.2) fun x49 =>
    bnd (pBuildSlice Try.prog 45 1 #[(0, x49.1)] x49.2) fun x50 =>
    bnd (inv (.func 12) #[] #[(.int .i64 8), x50.1] x50.2) fun x51 =>
    K .normal (act 108 [(0, x0), (1, x1), (2, x2), (7, x7), (8, x8), (9, x9), (10, x51.1)]) x51.2 := kq_reg
theorem r3_8  : kCode env 3 false inv k (cp c3 254) (act 108 [(0, x0), (1, x1), (2, x2), (7, x7), (8, x8), (9, x9), (10, x10)]) h K =
    bnd (pBuildSlice Try.prog 45 1 #[(0, x1)] h) fun x54 =>
    bnd (inv (.func 12) #[] #[(.int .i64 8), x54.1] x54.2) fun x55 =>
    bnd (pBuildSlice Try.prog 45 2 #[(0, x9), (1, x55.1)] x55.2) fun x56 =>
    bnd (inv (.func 12) #[] #[(.int .i64 7), x56.1] x56.2) fun x57 =>
    K .normal (act 108 [(0, x0), (1, x1), (2, x2), (7, x7), (8, x8), (9, x9), (10, x10), (11, x57.1)]) x57.2 := kq_reg
noncomputable abbrev G3_9 {β : Type} (inv : Inv) (x0 x1 x2 x7 x8 x9 x10 x11 : Value) (h : AH) (K : Value → AH → Option β) : Option β :=
    bnd (pBuildSlice Try.prog 45 2 #[(0, x0), (1, x1)] h) fun x60 =>
    bnd (inv (.func 12) #[] #[(.int .i64 6), x60.1] x60.2) fun x61 =>
    bnd (inv (.func 11) #[] #[x61.1, x2] x61.2) fun x63 =>
    bnd (gd (some x7) true x63.2 (some (x8, x63.2))) fun x66 =>
    bnd (pickV x7 x66.1 (.bool false)) fun x67 =>
    bnd (pBin Try.prog .eql 4 (.tmp 63) (.tmp 67) x63.1 x67) fun x68 =>
    bnd (gd (some x68) true x66.2 (some (x0, x66.2))) fun x70 =>
    bnd (gd (some x68) true x70.2 (some (x1, x70.2))) fun x71 =>
    bnd (gd (some x68) true x71.2 (pBuildSlice Try.prog 45 2 #[(0, x70.1), (1, x71.1)] x71.2)) fun x72 =>
    bnd (gd (some x68) true x72.2 (inv (.func 12) #[] #[(.int .i64 7), x72.1] x72.2)) fun x73 =>
    bnd (gd (some x68) true x73.2 (some (x2, x73.2))) fun x74 =>
    bnd (gd (some x68) true x74.2 (inv (.func 11) #[] #[x73.1, x74.1] x74.2)) fun x75 =>
    bnd (gd (some x68) true x75.2 (some (x7, x75.2))) fun x76 =>
    bnd (gd (some x68) true x76.2 (some (x76.1, x76.2))) fun x77 =>
    bnd (gd (some x77.1) false x77.2 (some (x8, x77.2))) fun x78 =>
    bnd (gd (some x68) true x78.2 (lt (pickV x77.1 (.bool true) x78.1) x78.2)) fun x79 =>
    bnd (gd (some x68) true x79.2 (lt (pBin Try.prog .eql 4 (.tmp 75) (.tmp 79) x75.1 x79.1) x79.2)) fun x80 =>
    bnd (pickV x68 x80.1 (.bool false)) fun x81 =>
    bnd (gd (some x81) true x80.2 (some (x9, x80.2))) fun x83 =>
    bnd (gd (some x81) true x83.2 (some (x2, x83.2))) fun x84 =>
    bnd (gd (some x81) true x84.2 (inv (.func 11) #[] #[x83.1, x84.1] x84.2)) fun x85 =>
    bnd (gd (some x81) true x85.2 (some (x7, x85.2))) fun x86 =>
    bnd (gd (some x81) true x86.2 (lt (pUn Try.prog .not x86.1) x86.2)) fun x87 =>
    bnd (gd (some x81) true x87.2 (lt (pBin Try.prog .eql 4 (.tmp 85) (.tmp 87) x85.1 x87.1) x87.2)) fun x88 =>
    bnd (pickV x81 x88.1 (.bool false)) fun x89 =>
    bnd (gd (some x89) true x88.2 (some (x10, x88.2))) fun x91 =>
    bnd (gd (some x89) true x91.2 (some (x2, x91.2))) fun x92 =>
    bnd (gd (some x89) true x92.2 (inv (.func 11) #[] #[x91.1, x92.1] x92.2)) fun x93 =>
    bnd (gd (some x89) true x93.2 (some (x11, x93.2))) fun x94 =>
    bnd (gd (some x89) true x94.2 (some (x2, x94.2))) fun x95 =>
    bnd (gd (some x89) true x95.2 (inv (.func 11) #[] #[x94.1, x95.1] x95.2)) fun x96 =>
    bnd (gd (some x89) true x96.2 (lt (pBin Try.prog .eql 4 (.tmp 93) (.tmp 96) x93.1 x96.1) x96.2)) fun x97 =>
    bnd (pickV x89 x97.1 (.bool false)) fun x98 =>
    bnd (gd (some x98) true x97.2 (some (x9, x97.2))) fun x100 =>
    bnd (gd (some x98) true x100.2 (pBuildSlice Try.prog 45 1 #[(0, x100.1)] x100.2)) fun x101 =>
    bnd (gd (some x98) true x101.2 (inv (.func 12) #[] #[(.int .i64 8), x101.1] x101.2)) fun x102 =>
    bnd (gd (some x98) true x102.2 (some (x2, x102.2))) fun x103 =>
    bnd (gd (some x98) true x103.2 (inv (.func 11) #[] #[x102.1, x103.1] x103.2)) fun x104 =>
    bnd (gd (some x98) true x104.2 (some (x7, x104.2))) fun x105 =>
    bnd (gd (some x98) true x105.2 (lt (pBin Try.prog .eql 4 (.tmp 104) (.tmp 105) x104.1 x105.1) x105.2)) fun x106 =>
    bnd (pickV x98 x106.1 (.bool false)) fun x107 =>
    K (x107) x106.2
theorem r3_9  : kCode env 3 false inv k (cp c3 510) (act 108 [(0, x0), (1, x1), (2, x2), (7, x7), (8, x8), (9, x9), (10, x10), (11, x11)]) h K =
    G3_9 inv x0 x1 x2 x7 x8 x9 x10 x11 h fun y6 h => K .normal (act 108 [(6, y6)]) h := kq_reg
/-- shadowbook/shadowbooklaw18.PredLogic -/
noncomputable def F3 (inv : Inv) (k : Nat) (x0 x1 x2 : Value) (h : AH) : Option (Value × AH) :=
    bnd (inv (.func 7) #[] #[] h) fun x12 =>
    bnd (pUn Try.prog .not x12.1) fun x13 =>
    brV x13
    (some ((.bool false), x12.2))
    (G3_3 inv x0 x1 x2 x12.2 fun y36 h =>
    brV y36
    (some ((.bool true), h))
    (bnd (inv (.func 11) #[] #[x0, x2] h) fun x39 =>
    bnd (inv (.func 11) #[] #[x1, x2] x39.2) fun x42 =>
    bnd (pBuildSlice Try.prog 45 1 #[(0, x0)] x42.2) fun x44 =>
    bnd (inv (.func 12) #[] #[(.int .i64 8), x44.1] x44.2) fun x45 =>
    bnd (pBuildSlice Try.prog 45 2 #[(0, x0), (1, x1)] x45.2) fun x48 =>
    bnd (inv (.func 12) #[] #[(.int .i64 6), x48.1] x48.2) fun x49 =>
    bnd (pBuildSlice Try.prog 45 1 #[(0, x49.1)] x49.2) fun x50 =>
    bnd (inv (.func 12) #[] #[(.int .i64 8), x50.1] x50.2) fun x51 =>
    bnd (pBuildSlice Try.prog 45 1 #[(0, x1)] x51.2) fun x54 =>
    bnd (inv (.func 12) #[] #[(.int .i64 8), x54.1] x54.2) fun x55 =>
    bnd (pBuildSlice Try.prog 45 2 #[(0, x45.1), (1, x55.1)] x55.2) fun x56 =>
    bnd (inv (.func 12) #[] #[(.int .i64 7), x56.1] x56.2) fun x57 =>
    G3_9 inv x0 x1 x2 x39.1 x42.1 x45.1 x51.1 x57.1 x57.2 fun y6 h_1 =>
    some (y6, h_1)))
theorem F3_eq : eFun env k inv 3 #[x0, x1, x2] h = F3 inv k x0 x1 x2 h := by
      refine (kq_fun (a := act 108 [(0, x0), (1, x1), (2, x2)]) (c := cp c3 1)).trans ?_
      unfold F3
      simp only [kq_seq c3 1, r3_0, kq_seq c3 3, kq_seq c3 6, r3_1, b3_rlr, kq_seq c3 26, r3_2, kq_ret c3 53, res3_0, kq_skip c3 27, kq_seq c3 7, kq_seq c3 14, r3_3, b3_rlrr, kq_seq c3 58, r3_4, kq_ret c3 117, kq_skip c3 59, kq_seq c3 15, r3_5, kq_seq c3 31, r3_6, kq_seq c3 63, r3_7, kq_seq c3 127, r3_8, kq_seq c3 255, r3_9, kq_ret c3 511, reduceIte, reduceCtorEq, XE.exit.injEq, Nat.reduceEqDiff, Nat.reduceMul, Nat.reduceAdd] <;> kernel_rfl
theorem F3_call : eInv env (k + 1) (.func 3) #[] #[x0, x1, x2] h = F3 (eInv env k) k x0 x1 x2 h := kq_inv F3_eq
noncomputable def c8 : Code := codeOf Try.prog 8
theorem r8_0  : kCode env 8 false inv k (cp c8 2) (act 30 [(0, x0)]) h K =
    K .normal (act 30 [(0, x0)]) h := kq_reg
theorem r8_1  : kCode env 8 false inv k (cp c8 12) (act 30 [(0, x0)]) h K =
    K .normal (act 30 [(0, x0), (3, (.int .i64 0))]) h := kq_reg
theorem r8_2  : kCode env 8 false inv k (cp c8 208) (act 30 [(0, x0), (3, x3)]) h K =
    bnd (pLen Try.prog #[22] x0 h) fun x6 =>
    bnd (pBin Try.prog .lss 3 (.tmp 4) (.tmp 6) x3 x6) fun x7 =>
    K .normal (act 30 [(0, x0), (3, x3), (7, x7)]) h := kq_reg
theorem b8_rlllrlr  : kCode env 8 false inv k (cp c8 209) (act 30 [(0, x0), (3, x3), (7, x7)]) h K = brV x7 (kCode env 8 false inv k (cp c8 418) (act 30 [(0, x0), (3, x3), (7, x7)]) h K) (kCode env 8 false inv k (cp c8 419) (act 30 [(0, x0), (3, x3), (7, x7)]) h K) := kq_cond
noncomputable abbrev G8_4 {β : Type} (inv : Inv) (x0 x3 : Value) (h : AH) (K : Value → AH → Option β) : Option β :=
    bnd (pIndexAddr Try.prog 22 x0 x3) fun x12 =>
    bnd (pFieldAddr Try.prog 48 x12 3) fun x13 =>
    bnd (pLoad Try.prog 46 x13 h) fun x14 =>
    bnd (pLen Try.prog #[46] x14 h) fun x15 =>
    bnd (pBin Try.prog .gtr 3 (.tmp 15) (.const (.int .i64 20)) x15 (.int .i64 20)) fun x16 =>
    bnd (gd (some x16) false h (some (x0, h))) fun x18 =>
    bnd (gd (some x16) false x18.2 (some (x3, x18.2))) fun x19 =>
    bnd (gd (some x16) false x19.2 (lt (pIndexAddr Try.prog 22 x18.1 x19.1) x19.2)) fun x20 =>
    bnd (gd (some x16) false x20.2 (lt (pFieldAddr Try.prog 48 x20.1 2) x20.2)) fun x21 =>
    bnd (gd (some x16) false x21.2 (lt (pFieldAddr Try.prog 42 x21.1 2) x21.2)) fun x22 =>
    bnd (gd (some x16) false x22.2 (lt (pLoad Try.prog 9 x22.1 x22.2) x22.2)) fun x23 =>
    bnd (gd (some x16) false x23.2 (lt (pLen Try.prog #[9] x23.1 x23.2) x23.2)) fun x24 =>
    bnd (gd (some x16) false x24.2 (lt (pBin Try.prog .gtr 3 (.tmp 24) (.const (.int .i64 300)) x24.1 (.int .i64 300)) x24.2)) fun x25 =>
    bnd (pickV x16 (.bool true) x25.1) fun x26 =>
    K (x26) x25.2
theorem r8_4  : kCode env 8 false inv k (cp c8 840) (act 30 [(0, x0), (3, x3), (7, x7)]) h K =
    G8_4 inv x0 x3 h fun y26 h => K .normal (act 30 [(0, x0), (3, x3), (26, y26)]) h := kq_reg
theorem b8_rllrllrlr  : kCode env 8 false inv k (cp c8 841) (act 30 [(0, x0), (3, x3), (26, x26)]) h K = brV x26 (kCode env 8 false inv k (cp c8 1682) (act 30 [(0, x0), (3, x3), (26, x26)]) h K) (kCode env 8 false inv k (cp c8 1683) (act 30 [(0, x0), (3, x3), (26, x26)]) h K) := kq_cond
theorem r8_5  : kCode env 8 false inv k (cp c8 3364) (act 30 [(0, x0), (3, x3), (26, x26)]) h K =
    K .normal (act 30 [(2, (.bool false))]) h := kq_reg
theorem r8_3  : kCode env 8 false inv k (cp c8 211) (act 30 [(0, x0), (3, x3), (26, x26)]) h K =
    bnd (pBin Try.prog .add 3 (.tmp 8) (.const (.int .i64 1)) x3 (.int .i64 1)) fun x9 =>
    K .normal (act 30 [(0, x0), (3, x9)]) h := kq_reg
noncomputable def F8_lrlr {β : Type} (inv : Inv) (k : Nat) : Nat → Value → Value → AH → (Value → Value → Value → AH → Option β) → (Value → AH → Option β) → Option β
  | 0, _, _, _, _, _ => none
  | j + 1, x0, x3, h, ke0, kr =>
    bnd (pLen Try.prog #[22] x0 h) fun x6 =>
    bnd (pBin Try.prog .lss 3 (.tmp 4) (.tmp 6) x3 x6) fun x7 =>
    brV x7
    (G8_4 inv x0 x3 h fun y26 h =>
    brV y26
    (kr (.bool false) h)
    (bnd (pBin Try.prog .add 3 (.tmp 8) (.const (.int .i64 1)) x3 (.int .i64 1)) fun x9 =>
    F8_lrlr inv k j x0 x9 h ke0 kr))
    (ke0 x0 x3 x7 h)
theorem F8_lrlr_j (j : Nat) : kLoop (kCode env 8 false inv k (cp c8 52)) j (act 30 [(0, x0), (3, x3)]) h K = F8_lrlr inv k j x0 x3 h (fun y0 y3 y7 h => K (.exit 0) (act 30 [(0, y0), (3, y3), (7, y7)]) h) (fun y2 h => K .ret (act 30 [(2, y2)]) h) := by
      induction j generalizing x0 x3 h with
      | zero => rfl
      | succ j ih =>
        unfold F8_lrlr
        simp only [kLoop, kq_seq c8 52, kq_seq c8 104, r8_2, b8_rlllrlr, kq_skip c8 418, kq_seq c8 105, kq_block c8 210 1, kq_seq c8 420, r8_4, b8_rllrllrlr, kq_seq c8 1682, r8_5, kq_ret c8 3365, kq_skip c8 1683, r8_3, kq_exit c8 419 0, ih, reduceIte, reduceCtorEq, XE.exit.injEq, Nat.reduceEqDiff, Nat.reduceMul, Nat.reduceAdd] <;> kernel_rfl
theorem F8_lrlr_eq  : kCode env 8 false inv k (cp c8 26) (act 30 [(0, x0), (3, x3)]) h K = F8_lrlr inv k k x0 x3 h (fun y0 y3 y7 h => K (.exit 0) (act 30 [(0, y0), (3, y3), (7, y7)]) h) (fun y2 h => K .ret (act 30 [(2, y2)]) h) := kq_loop (F8_lrlr_j k)
theorem r8_6  : kCode env 8 false inv k (cp c8 14) (act 30 [(0, x0), (3, x3), (7, x7)]) h K =
    bnd (pLen Try.prog #[22] x0 h) fun x28 =>
    bnd (pBin Try.prog .leq 3 (.tmp 28) (.const (.int .i64 20)) x28 (.int .i64 20)) fun x29 =>
    K .normal (act 30 [(2, x29)]) h := kq_reg
theorem res8_0 : resOfFn env.P 8 .ret (act 30 [(2, x2)]) h = some (x2, h) := kq_res
/-- shadowbook/shadowbookkit.LightPred -/
noncomputable def F8 (inv : Inv) (k : Nat) (x0 : Value) (h : AH) : Option (Value × AH) :=
    F8_lrlr inv k k x0 (.int .i64 0) h
    (fun y0 y3 y7 h =>
    bnd (pLen Try.prog #[22] y0 h) fun x28 =>
    bnd (pBin Try.prog .leq 3 (.tmp 28) (.const (.int .i64 20)) x28 (.int .i64 20)) fun x29 =>
    some (x29, h))
    (fun y2 h_1 =>
    some (y2, h_1))
theorem F8_eq : eFun env k inv 8 #[x0] h = F8 inv k x0 h := by
      refine (kq_fun (a := act 30 [(0, x0)]) (c := cp c8 1)).trans ?_
      unfold F8
      simp only [kq_seq c8 1, r8_0, kq_seq c8 3, kq_seq c8 6, r8_1, kq_block c8 13 0, F8_lrlr_eq, kq_seq c8 7, r8_6, kq_ret c8 15, res8_0, reduceIte, reduceCtorEq, XE.exit.injEq, Nat.reduceEqDiff, Nat.reduceMul, Nat.reduceAdd] <;> kernel_rfl
theorem F8_call : eInv env (k + 1) (.func 8) #[] #[x0] h = F8 (eInv env k) k x0 h := kq_inv F8_eq
noncomputable def c9 : Code := codeOf Try.prog 9
theorem r9_0  : kCode env 9 false inv k (cp c9 2) (act 20 [(0, x0)]) h K =
    K .normal (act 20 [(0, x0)]) h := kq_reg
theorem r9_1  : kCode env 9 false inv k (cp c9 12) (act 20 [(0, x0)]) h K =
    K .normal (act 20 [(0, x0), (3, (.int .i64 0))]) h := kq_reg
theorem r9_2  : kCode env 9 false inv k (cp c9 208) (act 20 [(0, x0), (3, x3)]) h K =
    bnd (pLen Try.prog #[23] x0 h) fun x6 =>
    bnd (pBin Try.prog .lss 3 (.tmp 4) (.tmp 6) x3 x6) fun x7 =>
    K .normal (act 20 [(0, x0), (3, x3), (7, x7)]) h := kq_reg
theorem b9_rlllrlr  : kCode env 9 false inv k (cp c9 209) (act 20 [(0, x0), (3, x3), (7, x7)]) h K = brV x7 (kCode env 9 false inv k (cp c9 418) (act 20 [(0, x0), (3, x3), (7, x7)]) h K) (kCode env 9 false inv k (cp c9 419) (act 20 [(0, x0), (3, x3), (7, x7)]) h K) := kq_cond
theorem r9_4  : kCode env 9 false inv k (cp c9 840) (act 20 [(0, x0), (3, x3), (7, x7)]) h K =
    bnd (pIndexAddr Try.prog 23 x0 x3) fun x12 =>
    bnd (pFieldAddr Try.prog 42 x12 2) fun x13 =>
    bnd (pLoad Try.prog 9 x13 h) fun x14 =>
    bnd (pLen Try.prog #[9] x14 h) fun x15 =>
    bnd (pBin Try.prog .gtr 3 (.tmp 15) (.const (.int .i64 300)) x15 (.int .i64 300)) fun x16 =>
    K .normal (act 20 [(0, x0), (3, x3), (16, x16)]) h := kq_reg
theorem b9_rllrllrlr  : kCode env 9 false inv k (cp c9 841) (act 20 [(0, x0), (3, x3), (16, x16)]) h K = brV x16 (kCode env 9 false inv k (cp c9 1682) (act 20 [(0, x0), (3, x3), (16, x16)]) h K) (kCode env 9 false inv k (cp c9 1683) (act 20 [(0, x0), (3, x3), (16, x16)]) h K) := kq_cond
theorem r9_5  : kCode env 9 false inv k (cp c9 3364) (act 20 [(0, x0), (3, x3), (16, x16)]) h K =
    K .normal (act 20 [(2, (.bool false))]) h := kq_reg
theorem r9_3  : kCode env 9 false inv k (cp c9 211) (act 20 [(0, x0), (3, x3), (16, x16)]) h K =
    bnd (pBin Try.prog .add 3 (.tmp 8) (.const (.int .i64 1)) x3 (.int .i64 1)) fun x9 =>
    K .normal (act 20 [(0, x0), (3, x9)]) h := kq_reg
noncomputable def F9_lrlr {β : Type} (inv : Inv) (k : Nat) : Nat → Value → Value → AH → (Value → Value → Value → AH → Option β) → (Value → AH → Option β) → Option β
  | 0, _, _, _, _, _ => none
  | j + 1, x0, x3, h, ke0, kr =>
    bnd (pLen Try.prog #[23] x0 h) fun x6 =>
    bnd (pBin Try.prog .lss 3 (.tmp 4) (.tmp 6) x3 x6) fun x7 =>
    brV x7
    (bnd (pIndexAddr Try.prog 23 x0 x3) fun x12 =>
    bnd (pFieldAddr Try.prog 42 x12 2) fun x13 =>
    bnd (pLoad Try.prog 9 x13 h) fun x14 =>
    bnd (pLen Try.prog #[9] x14 h) fun x15 =>
    bnd (pBin Try.prog .gtr 3 (.tmp 15) (.const (.int .i64 300)) x15 (.int .i64 300)) fun x16 =>
    brV x16
    (kr (.bool false) h)
    (bnd (pBin Try.prog .add 3 (.tmp 8) (.const (.int .i64 1)) x3 (.int .i64 1)) fun x9 =>
    F9_lrlr inv k j x0 x9 h ke0 kr))
    (ke0 x0 x3 x7 h)
theorem F9_lrlr_j (j : Nat) : kLoop (kCode env 9 false inv k (cp c9 52)) j (act 20 [(0, x0), (3, x3)]) h K = F9_lrlr inv k j x0 x3 h (fun y0 y3 y7 h => K (.exit 0) (act 20 [(0, y0), (3, y3), (7, y7)]) h) (fun y2 h => K .ret (act 20 [(2, y2)]) h) := by
      induction j generalizing x0 x3 h with
      | zero => rfl
      | succ j ih =>
        unfold F9_lrlr
        simp only [kLoop, kq_seq c9 52, kq_seq c9 104, r9_2, b9_rlllrlr, kq_skip c9 418, kq_seq c9 105, kq_block c9 210 1, kq_seq c9 420, r9_4, b9_rllrllrlr, kq_seq c9 1682, r9_5, kq_ret c9 3365, kq_skip c9 1683, r9_3, kq_exit c9 419 0, ih, reduceIte, reduceCtorEq, XE.exit.injEq, Nat.reduceEqDiff, Nat.reduceMul, Nat.reduceAdd] <;> kernel_rfl
theorem F9_lrlr_eq  : kCode env 9 false inv k (cp c9 26) (act 20 [(0, x0), (3, x3)]) h K = F9_lrlr inv k k x0 x3 h (fun y0 y3 y7 h => K (.exit 0) (act 20 [(0, y0), (3, y3), (7, y7)]) h) (fun y2 h => K .ret (act 20 [(2, y2)]) h) := kq_loop (F9_lrlr_j k)
theorem r9_6  : kCode env 9 false inv k (cp c9 14) (act 20 [(0, x0), (3, x3), (7, x7)]) h K =
    bnd (pLen Try.prog #[23] x0 h) fun x18 =>
    bnd (pBin Try.prog .leq 3 (.tmp 18) (.const (.int .i64 20)) x18 (.int .i64 20)) fun x19 =>
    K .normal (act 20 [(2, x19)]) h := kq_reg
theorem res9_0 : resOfFn env.P 9 .ret (act 20 [(2, x2)]) h = some (x2, h) := kq_res
/-- shadowbook/shadowbookkit.LightRow -/
noncomputable def F9 (inv : Inv) (k : Nat) (x0 : Value) (h : AH) : Option (Value × AH) :=
    F9_lrlr inv k k x0 (.int .i64 0) h
    (fun y0 y3 y7 h =>
    bnd (pLen Try.prog #[23] y0 h) fun x18 =>
    bnd (pBin Try.prog .leq 3 (.tmp 18) (.const (.int .i64 20)) x18 (.int .i64 20)) fun x19 =>
    some (x19, h))
    (fun y2 h_1 =>
    some (y2, h_1))
theorem F9_eq : eFun env k inv 9 #[x0] h = F9 inv k x0 h := by
      refine (kq_fun (a := act 20 [(0, x0)]) (c := cp c9 1)).trans ?_
      unfold F9
      simp only [kq_seq c9 1, r9_0, kq_seq c9 3, kq_seq c9 6, r9_1, kq_block c9 13 0, F9_lrlr_eq, kq_seq c9 7, r9_6, kq_ret c9 15, res9_0, reduceIte, reduceCtorEq, XE.exit.injEq, Nat.reduceEqDiff, Nat.reduceMul, Nat.reduceAdd] <;> kernel_rfl
theorem F9_call : eInv env (k + 1) (.func 9) #[] #[x0] h = F9 (eInv env k) k x0 h := kq_inv F9_eq
noncomputable def c10 : Code := codeOf Try.prog 10
theorem r10_0  : kCode env 10 false inv k (cp c10 2) (act 42 [(0, x0)]) h K =
    K .normal (act 42 [(0, x0)]) h := kq_reg
theorem r10_1  : kCode env 10 false inv k (cp c10 12) (act 42 [(0, x0)]) h K =
    K .normal (act 42 [(0, x0), (3, (.int .i64 0))]) h := kq_reg
theorem r10_2  : kCode env 10 false inv k (cp c10 208) (act 42 [(0, x0), (3, x3)]) h K =
    bnd (pLen Try.prog #[22] x0 h) fun x7 =>
    bnd (pBin Try.prog .lss 3 (.tmp 5) (.tmp 7) x3 x7) fun x8 =>
    K .normal (act 42 [(0, x0), (3, x3), (8, x8)]) h := kq_reg
theorem b10_rlllrlr  : kCode env 10 false inv k (cp c10 209) (act 42 [(0, x0), (3, x3), (8, x8)]) h K = brV x8 (kCode env 10 false inv k (cp c10 418) (act 42 [(0, x0), (3, x3), (8, x8)]) h K) (kCode env 10 false inv k (cp c10 419) (act 42 [(0, x0), (3, x3), (8, x8)]) h K) := kq_cond
theorem r10_4  : kCode env 10 false inv k (cp c10 840) (act 42 [(0, x0), (3, x3), (8, x8)]) h K =
    K .normal (act 42 [(0, x0), (3, x3), (4, (.int .i64 0))]) h := kq_reg
theorem r10_5  : kCode env 10 false inv k (cp c10 13456) (act 42 [(0, x0), (3, x3), (4, x4)]) h K =
    bnd (pIndexAddr Try.prog 22 x0 x3) fun x14 =>
    bnd (pFieldAddr Try.prog 48 x14 3) fun x15 =>
    bnd (pLoad Try.prog 46 x15 h) fun x16 =>
    bnd (pLen Try.prog #[46] x16 h) fun x17 =>
    bnd (pBin Try.prog .lss 3 (.tmp 11) (.tmp 17) x4 x17) fun x18 =>
    K .normal (act 42 [(0, x0), (3, x3), (4, x4), (18, x18)]) h := kq_reg
theorem b10_rlllrllrllrlr  : kCode env 10 false inv k (cp c10 13457) (act 42 [(0, x0), (3, x3), (4, x4), (18, x18)]) h K = brV x18 (kCode env 10 false inv k (cp c10 26914) (act 42 [(0, x0), (3, x3), (4, x4), (18, x18)]) h K) (kCode env 10 false inv k (cp c10 26915) (act 42 [(0, x0), (3, x3), (4, x4), (18, x18)]) h K) := kq_cond
noncomputable abbrev G10_7 {β : Type} (inv : Inv) (x0 x3 x4 : Value) (h : AH) (K : Value → AH → Option β) : Option β :=
    bnd (pIndexAddr Try.prog 22 x0 x3) fun x23 =>
    bnd (pFieldAddr Try.prog 48 x23 3) fun x24 =>
    bnd (pLoad Try.prog 46 x24 h) fun x25 =>
    bnd (pIndexAddr Try.prog 46 x25 x4) fun x27 =>
    bnd (pLoad Try.prog 3 x27 h) fun x28 =>
    bnd (pBin Try.prog .lss 3 (.tmp 28) (.const (.int .i64 0)) x28 (.int .i64 0)) fun x29 =>
    bnd (gd (some x29) false h (some (x0, h))) fun x31 =>
    bnd (gd (some x29) false x31.2 (some (x3, x31.2))) fun x32 =>
    bnd (gd (some x29) false x32.2 (lt (pIndexAddr Try.prog 22 x31.1 x32.1) x32.2)) fun x33 =>
    bnd (gd (some x29) false x33.2 (lt (pFieldAddr Try.prog 48 x33.1 3) x33.2)) fun x34 =>
    bnd (gd (some x29) false x34.2 (lt (pLoad Try.prog 46 x34.1 x34.2) x34.2)) fun x35 =>
    bnd (gd (some x29) false x35.2 (some (x4, x35.2))) fun x36 =>
    bnd (gd (some x29) false x36.2 (lt (pIndexAddr Try.prog 46 x35.1 x36.1) x36.2)) fun x37 =>
    bnd (gd (some x29) false x37.2 (lt (pLoad Try.prog 3 x37.1 x37.2) x37.2)) fun x38 =>
    bnd (gd (some x29) false x38.2 (some (x3, x38.2))) fun x39 =>
    bnd (gd (some x29) false x39.2 (lt (pBin Try.prog .geq 3 (.tmp 38) (.tmp 39) x38.1 x39.1) x39.2)) fun x40 =>
    bnd (pickV x29 (.bool true) x40.1) fun x41 =>
    K (x41) x40.2
theorem r10_7  : kCode env 10 false inv k (cp c10 53832) (act 42 [(0, x0), (3, x3), (4, x4), (18, x18)]) h K =
    G10_7 inv x0 x3 x4 h fun y41 h => K .normal (act 42 [(0, x0), (3, x3), (4, x4), (41, y41)]) h := kq_reg
theorem b10_rllrllrllrllrlr  : kCode env 10 false inv k (cp c10 53833) (act 42 [(0, x0), (3, x3), (4, x4), (41, x41)]) h K = brV x41 (kCode env 10 false inv k (cp c10 107666) (act 42 [(0, x0), (3, x3), (4, x4), (41, x41)]) h K) (kCode env 10 false inv k (cp c10 107667) (act 42 [(0, x0), (3, x3), (4, x4), (41, x41)]) h K) := kq_cond
theorem r10_8  : kCode env 10 false inv k (cp c10 215332) (act 42 [(0, x0), (3, x3), (4, x4), (41, x41)]) h K =
    K .normal (act 42 [(2, (.bool false))]) h := kq_reg
theorem r10_6  : kCode env 10 false inv k (cp c10 13459) (act 42 [(0, x0), (3, x3), (4, x4), (41, x41)]) h K =
    bnd (pBin Try.prog .add 3 (.tmp 19) (.const (.int .i64 1)) x4 (.int .i64 1)) fun x20 =>
    K .normal (act 42 [(0, x0), (3, x3), (4, x20)]) h := kq_reg
noncomputable def F10_lrllrllrlr {β : Type} (inv : Inv) (k : Nat) : Nat → Value → Value → Value → AH → (Value → Value → Value → Value → AH → Option β) → (Value → AH → Option β) → Option β
  | 0, _, _, _, _, _, _ => none
  | j + 1, x0, x3, x4, h, ke2, kr =>
    bnd (pIndexAddr Try.prog 22 x0 x3) fun x14 =>
    bnd (pFieldAddr Try.prog 48 x14 3) fun x15 =>
    bnd (pLoad Try.prog 46 x15 h) fun x16 =>
    bnd (pLen Try.prog #[46] x16 h) fun x17 =>
    bnd (pBin Try.prog .lss 3 (.tmp 11) (.tmp 17) x4 x17) fun x18 =>
    brV x18
    (G10_7 inv x0 x3 x4 h fun y41 h =>
    brV y41
    (kr (.bool false) h)
    (bnd (pBin Try.prog .add 3 (.tmp 19) (.const (.int .i64 1)) x4 (.int .i64 1)) fun x20 =>
    F10_lrllrllrlr inv k j x0 x3 x20 h ke2 kr))
    (ke2 x0 x3 x4 x18 h)
theorem F10_lrllrllrlr_j (j : Nat) : kLoop (kCode env 10 false inv k (cp c10 3364)) j (act 42 [(0, x0), (3, x3), (4, x4)]) h K = F10_lrllrllrlr inv k j x0 x3 x4 h (fun y0 y3 y4 y18 h => K (.exit 2) (act 42 [(0, y0), (3, y3), (4, y4), (18, y18)]) h) (fun y2 h => K .ret (act 42 [(2, y2)]) h) := by
      induction j generalizing x0 x3 x4 h with
      | zero => rfl
      | succ j ih =>
        unfold F10_lrllrllrlr
        simp only [kLoop, kq_seq c10 3364, kq_seq c10 6728, r10_5, b10_rlllrllrllrlr, kq_skip c10 26914, kq_seq c10 6729, kq_block c10 13458 3, kq_seq c10 26916, r10_7, b10_rllrllrllrllrlr, kq_seq c10 107666, r10_8, kq_ret c10 215333, kq_skip c10 107667, r10_6, kq_exit c10 26915 2, ih, reduceIte, reduceCtorEq, XE.exit.injEq, Nat.reduceEqDiff, Nat.reduceMul, Nat.reduceAdd] <;> kernel_rfl
theorem F10_lrllrllrlr_eq  : kCode env 10 false inv k (cp c10 1682) (act 42 [(0, x0), (3, x3), (4, x4)]) h K = F10_lrllrllrlr inv k k x0 x3 x4 h (fun y0 y3 y4 y18 h => K (.exit 2) (act 42 [(0, y0), (3, y3), (4, y4), (18, y18)]) h) (fun y2 h => K .ret (act 42 [(2, y2)]) h) := kq_loop (F10_lrllrllrlr_j k)
theorem r10_3  : kCode env 10 false inv k (cp c10 211) (act 42 [(0, x0), (3, x3), (4, x4), (18, x18)]) h K =
    bnd (pBin Try.prog .add 3 (.tmp 9) (.const (.int .i64 1)) x3 (.int .i64 1)) fun x10 =>
    K .normal (act 42 [(0, x0), (3, x10)]) h := kq_reg
noncomputable def F10_lrlr {β : Type} (inv : Inv) (k : Nat) : Nat → Value → Value → AH → (Value → Value → Value → AH → Option β) → (Value → AH → Option β) → Option β
  | 0, _, _, _, _, _ => none
  | j + 1, x0, x3, h, ke0, kr =>
    bnd (pLen Try.prog #[22] x0 h) fun x7 =>
    bnd (pBin Try.prog .lss 3 (.tmp 5) (.tmp 7) x3 x7) fun x8 =>
    brV x8
    (F10_lrllrllrlr inv k k x0 x3 (.int .i64 0) h
    (fun y0 y3 y4 y18 h =>
    bnd (pBin Try.prog .add 3 (.tmp 9) (.const (.int .i64 1)) y3 (.int .i64 1)) fun x10 =>
    F10_lrlr inv k j y0 x10 h ke0 kr)
    (fun y2 h_1 =>
    kr y2 h_1))
    (ke0 x0 x3 x8 h)
theorem F10_lrlr_j (j : Nat) : kLoop (kCode env 10 false inv k (cp c10 52)) j (act 42 [(0, x0), (3, x3)]) h K = F10_lrlr inv k j x0 x3 h (fun y0 y3 y8 h => K (.exit 0) (act 42 [(0, y0), (3, y3), (8, y8)]) h) (fun y2 h => K .ret (act 42 [(2, y2)]) h) := by
      induction j generalizing x0 x3 h with
      | zero => rfl
      | succ j ih =>
        unfold F10_lrlr
        simp only [kLoop, kq_seq c10 52, kq_seq c10 104, r10_2, b10_rlllrlr, kq_skip c10 418, kq_seq c10 105, kq_block c10 210 1, kq_seq c10 420, r10_4, kq_block c10 841 2, F10_lrllrllrlr_eq, r10_3, kq_exit c10 419 0, ih, reduceIte, reduceCtorEq, XE.exit.injEq, Nat.reduceEqDiff, Nat.reduceMul, Nat.reduceAdd] <;> kernel_rfl
theorem F10_lrlr_eq  : kCode env 10 false inv k (cp c10 26) (act 42 [(0, x0), (3, x3)]) h K = F10_lrlr inv k k x0 x3 h (fun y0 y3 y8 h => K (.exit 0) (act 42 [(0, y0), (3, y3), (8, y8)]) h) (fun y2 h => K .ret (act 42 [(2, y2)]) h) := kq_loop (F10_lrlr_j k)
theorem r10_9  : kCode env 10 false inv k (cp c10 14) (act 42 [(0, x0), (3, x3), (8, x8)]) h K =
    K .normal (act 42 [(2, (.bool true))]) h := kq_reg
theorem res10_0 : resOfFn env.P 10 .ret (act 42 [(2, x2)]) h = some (x2, h) := kq_res
/-- shadowbook/shadowbooklaw18.ahead -/
noncomputable def F10 (inv : Inv) (k : Nat) (x0 : Value) (h : AH) : Option (Value × AH) :=
    F10_lrlr inv k k x0 (.int .i64 0) h
    (fun y0 y3 y8 h =>
    some ((.bool true), h))
    (fun y2 h_2 =>
    some (y2, h_2))
theorem F10_eq : eFun env k inv 10 #[x0] h = F10 inv k x0 h := by
      refine (kq_fun (a := act 42 [(0, x0)]) (c := cp c10 1)).trans ?_
      unfold F10
      simp only [kq_seq c10 1, r10_0, kq_seq c10 3, kq_seq c10 6, r10_1, kq_block c10 13 0, F10_lrlr_eq, kq_seq c10 7, r10_9, kq_ret c10 15, res10_0, reduceIte, reduceCtorEq, XE.exit.injEq, Nat.reduceEqDiff, Nat.reduceMul, Nat.reduceAdd] <;> kernel_rfl
theorem F10_call : eInv env (k + 1) (.func 10) #[] #[x0] h = F10 (eInv env k) k x0 h := kq_inv F10_eq
noncomputable def c11 : Code := codeOf Try.prog 11
theorem r11_0  : kCode env 11 false inv k (cp c11 2) (act 11 [(0, x0), (1, x1)]) h K =
    bnd (pBox Try.prog 23 x1 h) fun x3 =>
    K .normal (act 11 [(0, x0), (3, x3.1)]) x3.2 := kq_reg
theorem r11_1  : kCode env 11 false inv k (cp c11 12) (act 11 [(0, x0), (3, x3)]) h K =
    bnd (pLen Try.prog #[22] x0 h) fun x6 =>
    bnd (pBin Try.prog .eql 3 (.tmp 6) (.const (.int .i64 0)) x6 (.int .i64 0)) fun x7 =>
    K .normal (act 11 [(0, x0), (3, x3), (7, x7)]) h := kq_reg
theorem b11_rlr  : kCode env 11 false inv k (cp c11 13) (act 11 [(0, x0), (3, x3), (7, x7)]) h K = brV x7 (kCode env 11 false inv k (cp c11 26) (act 11 [(0, x0), (3, x3), (7, x7)]) h K) (kCode env 11 false inv k (cp c11 27) (act 11 [(0, x0), (3, x3), (7, x7)]) h K) := kq_cond
theorem r11_2  : kCode env 11 false inv k (cp c11 52) (act 11 [(0, x0), (3, x3), (7, x7)]) h K =
    K .normal (act 11 [(4, (.bool true))]) h := kq_reg
theorem res11_0 : resOfFn env.P 11 .ret (act 11 [(4, x4)]) h = some (x4, h) := kq_res
theorem r11_3  : kCode env 11 false inv k (cp c11 14) (act 11 [(0, x0), (3, x3), (7, x7)]) h K =
    bnd (pMakeFunc (.func 25) #[] #[x3]) fun x9 =>
    bnd (inv (.func 24) #[] #[x0, (.bool false), x9] h) fun x10 =>
    K .normal (act 11 [(4, x10.1)]) x10.2 := kq_reg
/-- shadowbook/pred.Holds -/
noncomputable def F11 (inv : Inv) (k : Nat) (x0 x1 : Value) (h : AH) : Option (Value × AH) :=
    bnd (pBox Try.prog 23 x1 h) fun x3 =>
    bnd (pLen Try.prog #[22] x0 x3.2) fun x6 =>
    bnd (pBin Try.prog .eql 3 (.tmp 6) (.const (.int .i64 0)) x6 (.int .i64 0)) fun x7 =>
    brV x7
    (some ((.bool true), x3.2))
    (bnd (pMakeFunc (.func 25) #[] #[x3.1]) fun x9 =>
    bnd (inv (.func 24) #[] #[x0, (.bool false), x9] x3.2) fun x10 =>
    some (x10.1, x10.2))
theorem F11_eq : eFun env k inv 11 #[x0, x1] h = F11 inv k x0 x1 h := by
      refine (kq_fun (a := act 11 [(0, x0), (1, x1)]) (c := cp c11 1)).trans ?_
      unfold F11
      simp only [kq_seq c11 1, r11_0, kq_seq c11 3, kq_seq c11 6, r11_1, b11_rlr, kq_seq c11 26, r11_2, kq_ret c11 53, res11_0, kq_skip c11 27, kq_seq c11 7, r11_3, kq_ret c11 15, reduceIte, reduceCtorEq, XE.exit.injEq, Nat.reduceEqDiff, Nat.reduceMul, Nat.reduceAdd] <;> kernel_rfl
theorem F11_call : eInv env (k + 1) (.func 11) #[] #[x0, x1] h = F11 (eInv env k) k x0 x1 h := kq_inv F11_eq
noncomputable def c12 : Code := codeOf Try.prog 12
theorem r12_0  : kCode env 12 false inv k (cp c12 2) (act 73 [(0, x0), (1, x1)]) h K =
    K .normal (act 73 [(0, x0), (1, x1)]) h := kq_reg
theorem r12_1  : kCode env 12 false inv k (cp c12 6) (act 73 [(0, x0), (1, x1)]) h K =
    K .normal (act 73 [(0, x0), (1, x1), (5, (.slice none 0 0))]) h := kq_reg
theorem r12_2  : kCode env 12 false inv k (cp c12 14) (act 73 [(0, x0), (1, x1), (5, x5)]) h K =
    bnd (pBuild Try.prog 48 #[(0, x0)]) fun x14 =>
    bnd (pAlloc Try.prog 48 h) fun x6 =>
    bnd (kSt (pStore Try.prog 48 x6.1 x14 x6.2)) fun u =>
    K .normal (act 73 [(1, x1), (5, x5), (6, x6.1)]) u.2 := kq_reg
theorem r12_3  : kCode env 12 false inv k (cp c12 60) (act 73 [(1, x1), (5, x5), (6, x6)]) h K =
    bnd (pLen Try.prog #[45] x1 h) fun x16 =>
    K .normal (act 73 [(5, x5), (6, x6), (15, x1), (16, x16), (17, (.int .i64 0))]) h := kq_reg
theorem r12_4  : kCode env 12 false inv k (cp c12 488) (act 73 [(5, x5), (6, x6), (15, x15), (16, x16), (17, x17)]) h K =
    bnd (pBin Try.prog .lss 3 (.tmp 17) (.tmp 16) x17 x16) fun x18 =>
    K .normal (act 73 [(5, x5), (6, x6), (15, x15), (16, x16), (17, x17), (18, x18)]) h := kq_reg
theorem b12_lrllrlrrr  : kCode env 12 false inv k (cp c12 978) (act 73 [(5, x5), (6, x6), (15, x15), (16, x16), (17, x17), (18, x18)]) h K = brV x18 (kCode env 12 false inv k (cp c12 1956) (act 73 [(5, x5), (6, x6), (15, x15), (16, x16), (17, x17), (18, x18)]) h K) (kCode env 12 false inv k (cp c12 1957) (act 73 [(5, x5), (6, x6), (15, x15), (16, x16), (17, x17), (18, x18)]) h K) := kq_cond
theorem r12_5  : kCode env 12 false inv k (cp c12 7832) (act 73 [(5, x5), (6, x6), (15, x15), (16, x16), (17, x17), (18, x18)]) h K =
    bnd (pIndexAddr Try.prog 45 x15 x17) fun x19 =>
    bnd (pLoad Try.prog 22 x19 h) fun x20 =>
    K .normal (act 73 [(5, x5), (6, x6), (8, x20), (15, x15), (16, x16), (17, x17)]) h := kq_reg
theorem r12_6  : kCode env 12 false inv k (cp c12 15666) (act 73 [(5, x5), (6, x6), (8, x8), (15, x15), (16, x16), (17, x17)]) h K =
    bnd (pLen Try.prog #[22] x5 h) fun x22 =>
    K .normal (act 73 [(5, x5), (6, x6), (8, x8), (9, x22), (15, x15), (16, x16), (17, x17)]) h := kq_reg
theorem r12_7  : kCode env 12 false inv k (cp c12 62668) (act 73 [(5, x5), (6, x6), (8, x8), (9, x9), (15, x15), (16, x16), (17, x17)]) h K =
    bnd (pLen Try.prog #[22] x8 h) fun x24 =>
    bnd (pBin Try.prog .eql 3 (.tmp 24) (.const (.int .i64 0)) x24 (.int .i64 0)) fun x25 =>
    K .normal (act 73 [(5, x5), (6, x6), (8, x8), (9, x9), (15, x15), (16, x16), (17, x17), (25, x25)]) h := kq_reg
theorem b12_rlrrllrrllrlrrr  : kCode env 12 false inv k (cp c12 62669) (act 73 [(5, x5), (6, x6), (8, x8), (9, x9), (15, x15), (16, x16), (17, x17), (25, x25)]) h K = brV x25 (kCode env 12 false inv k (cp c12 125338) (act 73 [(5, x5), (6, x6), (8, x8), (9, x9), (15, x15), (16, x16), (17, x17), (25, x25)]) h K) (kCode env 12 false inv k (cp c12 125339) (act 73 [(5, x5), (6, x6), (8, x8), (9, x9), (15, x15), (16, x16), (17, x17), (25, x25)]) h K) := kq_cond
theorem r12_8  : kCode env 12 false inv k (cp c12 125338) (act 73 [(5, x5), (6, x6), (8, x8), (9, x9), (15, x15), (16, x16), (17, x17), (25, x25)]) h K =
    bnd (pBuild Try.prog 48 #[(0, (.int .i64 1))]) fun x27 =>
    bnd (pBuildSlice Try.prog 22 1 #[(0, x27)] h) fun x28 =>
    bnd (pAppend Try.prog #[22, 22] x5 x28.1 x28.2) fun x29 =>
    K .normal (act 73 [(5, x29.1), (6, x6), (8, x8), (9, x9), (15, x15), (16, x16), (17, x17)]) x29.2 := kq_reg
noncomputable def F12_rlrrllrrllrlrrr {β : Type} (inv : Inv) (k : Nat) (x5 x6 x8 x9 x15 x16 x17 x25 : Value) (h : AH) (kn : (Value → Value → Value → Value → Value → Value → Value → Value → AH → Option β)) : Option β :=
    brV x25
    (bnd (pBuild Try.prog 48 #[(0, (.int .i64 1))]) fun x27 =>
    bnd (pBuildSlice Try.prog 22 1 #[(0, x27)] h) fun x28 =>
    bnd (pAppend Try.prog #[22, 22] x5 x28.1 x28.2) fun x29 =>
    kn x29.1 x6 x8 x9 x15 x16 x17 unk x29.2)
    (kn x5 x6 x8 x9 x15 x16 x17 x25 h)
theorem F12_rlrrllrrllrlrrr_eq  : kCode env 12 false inv k (cp c12 62669) (act 73 [(5, x5), (6, x6), (8, x8), (9, x9), (15, x15), (16, x16), (17, x17), (25, x25)]) h K = F12_rlrrllrrllrlrrr inv k x5 x6 x8 x9 x15 x16 x17 x25 h (fun y5 y6 y8 y9 y15 y16 y17 y25 h => K .normal (act 73 [(5, y5), (6, y6), (8, y8), (9, y9), (15, y15), (16, y16), (17, y17), (25, y25)]) h) := by
      unfold F12_rlrrllrrllrlrrr
      simp only [b12_rlrrllrrllrlrrr, r12_8, kq_skip c12 125339, reduceIte, reduceCtorEq, XE.exit.injEq, Nat.reduceEqDiff, Nat.reduceMul, Nat.reduceAdd] <;> kernel_rfl
theorem r12_9  : kCode env 12 false inv k (cp c12 125340) (act 73 [(5, x5), (6, x6), (8, x8), (9, x9), (15, x15), (16, x16), (17, x17), (25, x25)]) h K =
    bnd (pLen Try.prog #[22] x8 h) fun x31 =>
    K .normal (act 73 [(5, x5), (6, x6), (9, x9), (15, x15), (16, x16), (17, x17), (30, x8), (31, x31), (32, (.int .i64 0))]) h := kq_reg
theorem r12_10  : kCode env 12 false inv k (cp c12 1002728) (act 73 [(5, x5), (6, x6), (9, x9), (15, x15), (16, x16), (17, x17), (30, x30), (31, x31), (32, x32)]) h K =
    bnd (pBin Try.prog .lss 3 (.tmp 32) (.tmp 31) x32 x31) fun x33 =>
    K .normal (act 73 [(5, x5), (6, x6), (9, x9), (15, x15), (16, x16), (17, x17), (30, x30), (31, x31), (32, x32), (33, x33)]) h := kq_reg
theorem b12_lrllrlrrrllrrllrlrrr  : kCode env 12 false inv k (cp c12 2005458) (act 73 [(5, x5), (6, x6), (9, x9), (15, x15), (16, x16), (17, x17), (30, x30), (31, x31), (32, x32), (33, x33)]) h K = brV x33 (kCode env 12 false inv k (cp c12 4010916) (act 73 [(5, x5), (6, x6), (9, x9), (15, x15), (16, x16), (17, x17), (30, x30), (31, x31), (32, x32), (33, x33)]) h K) (kCode env 12 false inv k (cp c12 4010917) (act 73 [(5, x5), (6, x6), (9, x9), (15, x15), (16, x16), (17, x17), (30, x30), (31, x31), (32, x32), (33, x33)]) h K) := kq_cond
theorem r12_11  : kCode env 12 false inv k (cp c12 16043672) (act 73 [(5, x5), (6, x6), (9, x9), (15, x15), (16, x16), (17, x17), (30, x30), (31, x31), (32, x32), (33, x33)]) h K =
    bnd (pIndexAddr Try.prog 22 x30 x32) fun x34 =>
    bnd (pLoad Try.prog 48 x34 h) fun x35 =>
    bnd (pAlloc Try.prog 48 h) fun x11 =>
    bnd (kSt (pStore Try.prog 48 x11.1 x35 x11.2)) fun u =>
    K .normal (act 73 [(5, x5), (6, x6), (9, x9), (11, x11.1), (15, x15), (16, x16), (17, x17), (30, x30), (31, x31), (32, x32)]) u.2 := kq_reg
theorem r12_12  : kCode env 12 false inv k (cp c12 32087346) (act 73 [(5, x5), (6, x6), (9, x9), (11, x11), (15, x15), (16, x16), (17, x17), (30, x30), (31, x31), (32, x32)]) h K =
    bnd (pFieldAddr Try.prog 48 x11 3) fun x36 =>
    bnd (pLoad Try.prog 46 x36 h) fun x37 =>
    bnd (inv (.func 29) #[] #[x37] h) fun x38 =>
    bnd (pFieldAddr Try.prog 48 x11 3) fun x39 =>
    bnd (kSt (pStore Try.prog 46 x39 x38.1 x38.2)) fun u =>
    K .normal (act 73 [(5, x5), (6, x6), (9, x9), (11, x11), (15, x15), (16, x16), (17, x17), (30, x30), (31, x31), (32, x32)]) u.2 := kq_reg
theorem r12_13  : kCode env 12 false inv k (cp c12 128349388) (act 73 [(5, x5), (6, x6), (9, x9), (11, x11), (15, x15), (16, x16), (17, x17), (30, x30), (31, x31), (32, x32)]) h K =
    bnd (pFieldAddr Try.prog 48 x11 3) fun x40 =>
    bnd (pLoad Try.prog 46 x40 h) fun x41 =>
    bnd (pLen Try.prog #[46] x41 h) fun x42 =>
    K .normal (act 73 [(5, x5), (6, x6), (9, x9), (11, x11), (15, x15), (16, x16), (17, x17), (30, x30), (31, x31), (32, x32), (42, x42), (43, (.int .i64 0))]) h := kq_reg
theorem r12_14  : kCode env 12 false inv k (cp c12 1026795112) (act 73 [(5, x5), (6, x6), (9, x9), (11, x11), (15, x15), (16, x16), (17, x17), (30, x30), (31, x31), (32, x32), (42, x42), (43, x43)]) h K =
    bnd (pBin Try.prog .lss 3 (.tmp 43) (.tmp 42) x43 x42) fun x44 =>
    K .normal (act 73 [(5, x5), (6, x6), (9, x9), (11, x11), (15, x15), (16, x16), (17, x17), (30, x30), (31, x31), (32, x32), (42, x42), (43, x43), (44, x44)]) h := kq_reg
theorem b12_lrllrlrrllrrllrlrrrllrrllrlrrr  : kCode env 12 false inv k (cp c12 2053590226) (act 73 [(5, x5), (6, x6), (9, x9), (11, x11), (15, x15), (16, x16), (17, x17), (30, x30), (31, x31), (32, x32), (42, x42), (43, x43), (44, x44)]) h K = brV x44 (kCode env 12 false inv k (cp c12 4107180452) (act 73 [(5, x5), (6, x6), (9, x9), (11, x11), (15, x15), (16, x16), (17, x17), (30, x30), (31, x31), (32, x32), (42, x42), (43, x43), (44, x44)]) h K) (kCode env 12 false inv k (cp c12 4107180453) (act 73 [(5, x5), (6, x6), (9, x9), (11, x11), (15, x15), (16, x16), (17, x17), (30, x30), (31, x31), (32, x32), (42, x42), (43, x43), (44, x44)]) h K) := kq_cond
theorem r12_15  : kCode env 12 false inv k (cp c12 16428721816) (act 73 [(5, x5), (6, x6), (9, x9), (11, x11), (15, x15), (16, x16), (17, x17), (30, x30), (31, x31), (32, x32), (42, x42), (43, x43), (44, x44)]) h K =
    K .normal (act 73 [(5, x5), (6, x6), (9, x9), (11, x11), (12, x43), (15, x15), (16, x16), (17, x17), (30, x30), (31, x31), (32, x32), (42, x42), (43, x43)]) h := kq_reg
theorem r12_16  : kCode env 12 false inv k (cp c12 16428721817) (act 73 [(5, x5), (6, x6), (9, x9), (11, x11), (12, x12), (15, x15), (16, x16), (17, x17), (30, x30), (31, x31), (32, x32), (42, x42), (43, x43)]) h K =
    bnd (pFieldAddr Try.prog 48 x11 3) fun x46 =>
    bnd (pLoad Try.prog 46 x46 h) fun x47 =>
    bnd (pIndexAddr Try.prog 46 x47 x12) fun x49 =>
    bnd (pLoad Try.prog 3 x49 h) fun x50 =>
    bnd (pBin Try.prog .add 3 (.tmp 50) (.tmp 51) x50 x9) fun x52 =>
    bnd (pIndexAddr Try.prog 46 x47 x12) fun x53 =>
    bnd (kSt (pStore Try.prog 3 x53 x52 h)) fun u =>
    K .normal (act 73 [(5, x5), (6, x6), (9, x9), (11, x11), (15, x15), (16, x16), (17, x17), (30, x30), (31, x31), (32, x32), (42, x42), (43, x43)]) u.2 := kq_reg
theorem r12_17  : kCode env 12 false inv k (cp c12 4107180455) (act 73 [(5, x5), (6, x6), (9, x9), (11, x11), (15, x15), (16, x16), (17, x17), (30, x30), (31, x31), (32, x32), (42, x42), (43, x43)]) h K =
    bnd (pBin Try.prog .add 3 (.tmp 43) (.const (.int .i64 1)) x43 (.int .i64 1)) fun x54 =>
    K .normal (act 73 [(5, x5), (6, x6), (9, x9), (11, x11), (15, x15), (16, x16), (17, x17), (30, x30), (31, x31), (32, x32), (42, x42), (43, x54)]) h := kq_reg
noncomputable def F12_lrlrrllrrllrlrrrllrrllrlrrr {β : Type} (inv : Inv) (k : Nat) : Nat → Value → Value → Value → Value → Value → Value → Value → Value → Value → Value → Value → Value → AH → (Value → Value → Value → Value → Value → Value → Value → Value → Value → Value → Value → Value → Value → AH → Option β) → Option β
  | 0, _, _, _, _, _, _, _, _, _, _, _, _, _, _ => none
  | j + 1, x5, x6, x9, x11, x15, x16, x17, x30, x31, x32, x42, x43, h, ke4 =>
    bnd (pBin Try.prog .lss 3 (.tmp 43) (.tmp 42) x43 x42) fun x44 =>
    brV x44
    (bnd (pFieldAddr Try.prog 48 x11 3) fun x46 =>
    bnd (pLoad Try.prog 46 x46 h) fun x47 =>
    bnd (pIndexAddr Try.prog 46 x47 x43) fun x49 =>
    bnd (pLoad Try.prog 3 x49 h) fun x50 =>
    bnd (pBin Try.prog .add 3 (.tmp 50) (.tmp 51) x50 x9) fun x52 =>
    bnd (pIndexAddr Try.prog 46 x47 x43) fun x53 =>
    bnd (kSt (pStore Try.prog 3 x53 x52 h)) fun u =>
    bnd (pBin Try.prog .add 3 (.tmp 43) (.const (.int .i64 1)) x43 (.int .i64 1)) fun x54 =>
    F12_lrlrrllrrllrlrrrllrrllrlrrr inv k j x5 x6 x9 x11 x15 x16 x17 x30 x31 x32 x42 x54 u.2 ke4)
    (ke4 x5 x6 x9 x11 x15 x16 x17 x30 x31 x32 x42 x43 x44 h)
theorem F12_lrlrrllrrllrlrrrllrrllrlrrr_j (j : Nat) : kLoop (kCode env 12 false inv k (cp c12 513397556)) j (act 73 [(5, x5), (6, x6), (9, x9), (11, x11), (15, x15), (16, x16), (17, x17), (30, x30), (31, x31), (32, x32), (42, x42), (43, x43)]) h K = F12_lrlrrllrrllrlrrrllrrllrlrrr inv k j x5 x6 x9 x11 x15 x16 x17 x30 x31 x32 x42 x43 h (fun y5 y6 y9 y11 y15 y16 y17 y30 y31 y32 y42 y43 y44 h => K (.exit 4) (act 73 [(5, y5), (6, y6), (9, y9), (11, y11), (15, y15), (16, y16), (17, y17), (30, y30), (31, y31), (32, y32), (42, y42), (43, y43), (44, y44)]) h) := by
      induction j generalizing x5 x6 x9 x11 x15 x16 x17 x30 x31 x32 x42 x43 h with
      | zero => rfl
      | succ j ih =>
        unfold F12_lrlrrllrrllrlrrrllrrllrlrrr
        simp only [kLoop, kq_seq c12 513397556, r12_14, kq_seq c12 1026795113, b12_lrllrlrrllrrllrlrrrllrrllrlrrr, kq_skip c12 4107180452, kq_seq c12 2053590227, kq_block c12 4107180454 5, kq_seq c12 8214360908, r12_15, r12_16, r12_17, kq_exit c12 4107180453 4, ih, reduceIte, reduceCtorEq, XE.exit.injEq, Nat.reduceEqDiff, Nat.reduceMul, Nat.reduceAdd] <;> kernel_rfl
theorem F12_lrlrrllrrllrlrrrllrrllrlrrr_eq  : kCode env 12 false inv k (cp c12 256698778) (act 73 [(5, x5), (6, x6), (9, x9), (11, x11), (15, x15), (16, x16), (17, x17), (30, x30), (31, x31), (32, x32), (42, x42), (43, x43)]) h K = F12_lrlrrllrrllrlrrrllrrllrlrrr inv k k x5 x6 x9 x11 x15 x16 x17 x30 x31 x32 x42 x43 h (fun y5 y6 y9 y11 y15 y16 y17 y30 y31 y32 y42 y43 y44 h => K (.exit 4) (act 73 [(5, y5), (6, y6), (9, y9), (11, y11), (15, y15), (16, y16), (17, y17), (30, y30), (31, y31), (32, y32), (42, y42), (43, y43), (44, y44)]) h) := kq_loop (F12_lrlrrllrrllrlrrrllrrllrlrrr_j k)
theorem r12_18  : kCode env 12 false inv k (cp c12 64174695) (act 73 [(5, x5), (6, x6), (9, x9), (11, x11), (15, x15), (16, x16), (17, x17), (30, x30), (31, x31), (32, x32), (42, x42), (43, x43), (44, x44)]) h K =
    bnd (pLoad Try.prog 48 x11 h) fun x56 =>
    bnd (pBuildSlice Try.prog 22 1 #[(0, x56)] h) fun x57 =>
    bnd (pAppend Try.prog #[22, 22] x5 x57.1 x57.2) fun x58 =>
    K .normal (act 73 [(5, x58.1), (6, x6), (9, x9), (15, x15), (16, x16), (17, x17), (30, x30), (31, x31), (32, x32)]) x58.2 := kq_reg
theorem r12_19  : kCode env 12 false inv k (cp c12 4010919) (act 73 [(5, x5), (6, x6), (9, x9), (15, x15), (16, x16), (17, x17), (30, x30), (31, x31), (32, x32)]) h K =
    bnd (pBin Try.prog .add 3 (.tmp 32) (.const (.int .i64 1)) x32 (.int .i64 1)) fun x59 =>
    K .normal (act 73 [(5, x5), (6, x6), (9, x9), (15, x15), (16, x16), (17, x17), (30, x30), (31, x31), (32, x59)]) h := kq_reg
noncomputable def F12_lrlrrrllrrllrlrrr {β : Type} (inv : Inv) (k : Nat) : Nat → Value → Value → Value → Value → Value → Value → Value → Value → Value → AH → (Value → Value → Value → Value → Value → Value → Value → Value → Value → Value → AH → Option β) → Option β
  | 0, _, _, _, _, _, _, _, _, _, _, _ => none
  | j + 1, x5, x6, x9, x15, x16, x17, x30, x31, x32, h, ke2 =>
    bnd (pBin Try.prog .lss 3 (.tmp 32) (.tmp 31) x32 x31) fun x33 =>
    brV x33
    (bnd (pIndexAddr Try.prog 22 x30 x32) fun x34 =>
    bnd (pLoad Try.prog 48 x34 h) fun x35 =>
    bnd (pAlloc Try.prog 48 h) fun x11 =>
    bnd (kSt (pStore Try.prog 48 x11.1 x35 x11.2)) fun u =>
    bnd (pFieldAddr Try.prog 48 x11.1 3) fun x36 =>
    bnd (pLoad Try.prog 46 x36 u.2) fun x37 =>
    bnd (inv (.func 29) #[] #[x37] u.2) fun x38 =>
    bnd (pFieldAddr Try.prog 48 x11.1 3) fun x39 =>
    bnd (kSt (pStore Try.prog 46 x39 x38.1 x38.2)) fun u_1 =>
    bnd (pFieldAddr Try.prog 48 x11.1 3) fun x40 =>
    bnd (pLoad Try.prog 46 x40 u_1.2) fun x41 =>
    bnd (pLen Try.prog #[46] x41 u_1.2) fun x42 =>
    F12_lrlrrllrrllrlrrrllrrllrlrrr inv k k x5 x6 x9 x11.1 x15 x16 x17 x30 x31 x32 x42 (.int .i64 0) u_1.2
    (fun y5 y6 y9 y11 y15 y16 y17 y30 y31 y32 y42 y43 y44 h =>
    bnd (pLoad Try.prog 48 y11 h) fun x56 =>
    bnd (pBuildSlice Try.prog 22 1 #[(0, x56)] h) fun x57 =>
    bnd (pAppend Try.prog #[22, 22] y5 x57.1 x57.2) fun x58 =>
    bnd (pBin Try.prog .add 3 (.tmp 32) (.const (.int .i64 1)) y32 (.int .i64 1)) fun x59 =>
    F12_lrlrrrllrrllrlrrr inv k j x58.1 y6 y9 y15 y16 y17 y30 y31 x59 x58.2 ke2))
    (ke2 x5 x6 x9 x15 x16 x17 x30 x31 x32 x33 h)
theorem F12_lrlrrrllrrllrlrrr_j (j : Nat) : kLoop (kCode env 12 false inv k (cp c12 501364)) j (act 73 [(5, x5), (6, x6), (9, x9), (15, x15), (16, x16), (17, x17), (30, x30), (31, x31), (32, x32)]) h K = F12_lrlrrrllrrllrlrrr inv k j x5 x6 x9 x15 x16 x17 x30 x31 x32 h (fun y5 y6 y9 y15 y16 y17 y30 y31 y32 y33 h => K (.exit 2) (act 73 [(5, y5), (6, y6), (9, y9), (15, y15), (16, y16), (17, y17), (30, y30), (31, y31), (32, y32), (33, y33)]) h) := by
      induction j generalizing x5 x6 x9 x15 x16 x17 x30 x31 x32 h with
      | zero => rfl
      | succ j ih =>
        unfold F12_lrlrrrllrrllrlrrr
        simp only [kLoop, kq_seq c12 501364, r12_10, kq_seq c12 1002729, b12_lrllrlrrrllrrllrlrrr, kq_skip c12 4010916, kq_seq c12 2005459, kq_block c12 4010918 3, kq_seq c12 8021836, r12_11, kq_seq c12 16043673, r12_12, kq_seq c12 32087347, kq_seq c12 64174694, r12_13, kq_block c12 128349389 4, F12_lrlrrllrrllrlrrrllrrllrlrrr_eq, r12_18, r12_19, kq_exit c12 4010917 2, ih, reduceIte, reduceCtorEq, XE.exit.injEq, Nat.reduceEqDiff, Nat.reduceMul, Nat.reduceAdd] <;> kernel_rfl
theorem F12_lrlrrrllrrllrlrrr_eq  : kCode env 12 false inv k (cp c12 250682) (act 73 [(5, x5), (6, x6), (9, x9), (15, x15), (16, x16), (17, x17), (30, x30), (31, x31), (32, x32)]) h K = F12_lrlrrrllrrllrlrrr inv k k x5 x6 x9 x15 x16 x17 x30 x31 x32 h (fun y5 y6 y9 y15 y16 y17 y30 y31 y32 y33 h => K (.exit 2) (act 73 [(5, y5), (6, y6), (9, y9), (15, y15), (16, y16), (17, y17), (30, y30), (31, y31), (32, y32), (33, y33)]) h) := kq_loop (F12_lrlrrrllrrllrlrrr_j k)
noncomputable abbrev G12_20 {β : Type} (inv : Inv) (x5 x6 x15 x16 x17 : Value) (h : AH) (K : AH → Option β) : Option β :=
    bnd (pFieldAddr Try.prog 48 x6 3) fun x60 =>
    bnd (pLoad Try.prog 46 x60 h) fun x61 =>
    bnd (pLen Try.prog #[22] x5 h) fun x63 =>
    bnd (pBin Try.prog .sub 3 (.tmp 63) (.const (.int .i64 1)) x63 (.int .i64 1)) fun x64 =>
    bnd (pBuildSlice Try.prog 46 1 #[(0, x64)] h) fun x65 =>
    bnd (pAppend Try.prog #[46, 46] x61 x65.1 x65.2) fun x66 =>
    bnd (pFieldAddr Try.prog 48 x6 3) fun x67 =>
    bnd (kSt (pStore Try.prog 46 x67 x66.1 x66.2)) fun u =>
    K u.2
theorem r12_20  : kCode env 12 false inv k (cp c12 62671) (act 73 [(5, x5), (6, x6), (9, x9), (15, x15), (16, x16), (17, x17), (30, x30), (31, x31), (32, x32), (33, x33)]) h K =
    G12_20 inv x5 x6 x15 x16 x17 h fun  h => K .normal (act 73 [(5, x5), (6, x6), (15, x15), (16, x16), (17, x17)]) h := kq_reg
theorem r12_21  : kCode env 12 false inv k (cp c12 1959) (act 73 [(5, x5), (6, x6), (15, x15), (16, x16), (17, x17)]) h K =
    bnd (pBin Try.prog .add 3 (.tmp 17) (.const (.int .i64 1)) x17 (.int .i64 1)) fun x68 =>
    K .normal (act 73 [(5, x5), (6, x6), (15, x15), (16, x16), (17, x68)]) h := kq_reg
noncomputable def F12_lrlrrr {β : Type} (inv : Inv) (k : Nat) : Nat → Value → Value → Value → Value → Value → AH → (Value → Value → Value → Value → Value → Value → AH → Option β) → Option β
  | 0, _, _, _, _, _, _, _ => none
  | j + 1, x5, x6, x15, x16, x17, h, ke0 =>
    bnd (pBin Try.prog .lss 3 (.tmp 17) (.tmp 16) x17 x16) fun x18 =>
    brV x18
    (bnd (pIndexAddr Try.prog 45 x15 x17) fun x19 =>
    bnd (pLoad Try.prog 22 x19 h) fun x20 =>
    bnd (pLen Try.prog #[22] x5 h) fun x22 =>
    bnd (pLen Try.prog #[22] x20 h) fun x24 =>
    bnd (pBin Try.prog .eql 3 (.tmp 24) (.const (.int .i64 0)) x24 (.int .i64 0)) fun x25 =>
    F12_rlrrllrrllrlrrr inv k x5 x6 x20 x22 x15 x16 x17 x25 h
    (fun y5 y6 y8 y9 y15 y16 y17 y25 h =>
    bnd (pLen Try.prog #[22] y8 h) fun x31 =>
    F12_lrlrrrllrrllrlrrr inv k k y5 y6 y9 y15 y16 y17 y8 x31 (.int .i64 0) h
    (fun y5_2 y6_3 y9_4 y15_5 y16_6 y17_7 y30 y31 y32 y33 h_8 =>
    G12_20 inv y5_2 y6_3 y15_5 y16_6 y17_7 h_8 fun  h_9 =>
    bnd (pBin Try.prog .add 3 (.tmp 17) (.const (.int .i64 1)) y17_7 (.int .i64 1)) fun x68 =>
    F12_lrlrrr inv k j y5_2 y6_3 y15_5 y16_6 x68 h_9 ke0)))
    (ke0 x5 x6 x15 x16 x17 x18 h)
theorem F12_lrlrrr_j (j : Nat) : kLoop (kCode env 12 false inv k (cp c12 244)) j (act 73 [(5, x5), (6, x6), (15, x15), (16, x16), (17, x17)]) h K = F12_lrlrrr inv k j x5 x6 x15 x16 x17 h (fun y5 y6 y15 y16 y17 y18 h => K (.exit 0) (act 73 [(5, y5), (6, y6), (15, y15), (16, y16), (17, y17), (18, y18)]) h) := by
      induction j generalizing x5 x6 x15 x16 x17 h with
      | zero => rfl
      | succ j ih =>
        unfold F12_lrlrrr
        simp only [kLoop, kq_seq c12 244, r12_4, kq_seq c12 489, b12_lrllrlrrr, kq_skip c12 1956, kq_seq c12 979, kq_block c12 1958 1, kq_seq c12 3916, r12_5, kq_seq c12 7833, r12_6, kq_seq c12 15667, kq_seq c12 31334, r12_7, F12_rlrrllrrllrlrrr_eq, kq_seq c12 31335, kq_seq c12 62670, r12_9, kq_block c12 125341 2, F12_lrlrrrllrrllrlrrr_eq, r12_20, r12_21, kq_exit c12 1957 0, ih, reduceIte, reduceCtorEq, XE.exit.injEq, Nat.reduceEqDiff, Nat.reduceMul, Nat.reduceAdd] <;> kernel_rfl
theorem F12_lrlrrr_eq  : kCode env 12 false inv k (cp c12 122) (act 73 [(5, x5), (6, x6), (15, x15), (16, x16), (17, x17)]) h K = F12_lrlrrr inv k k x5 x6 x15 x16 x17 h (fun y5 y6 y15 y16 y17 y18 h => K (.exit 0) (act 73 [(5, y5), (6, y6), (15, y15), (16, y16), (17, y17), (18, y18)]) h) := kq_loop (F12_lrlrrr_j k)
theorem r12_22  : kCode env 12 false inv k (cp c12 62) (act 73 [(5, x5), (6, x6), (15, x15), (16, x16), (17, x17), (18, x18)]) h K =
    bnd (pLoad Try.prog 48 x6 h) fun x70 =>
    bnd (pBuildSlice Try.prog 22 1 #[(0, x70)] h) fun x71 =>
    bnd (pAppend Try.prog #[22, 22] x5 x71.1 x71.2) fun x72 =>
    K .normal (act 73 [(4, x72.1)]) x72.2 := kq_reg
theorem res12_0 : resOfFn env.P 12 .ret (act 73 [(4, x4)]) h = some (x4, h) := kq_res
/-- shadowbook/pred.Join -/
noncomputable def F12 (inv : Inv) (k : Nat) (x0 x1 : Value) (h : AH) : Option (Value × AH) :=
    bnd (pBuild Try.prog 48 #[(0, x0)]) fun x14 =>
    bnd (pAlloc Try.prog 48 h) fun x6 =>
    bnd (kSt (pStore Try.prog 48 x6.1 x14 x6.2)) fun u =>
    bnd (pLen Try.prog #[45] x1 u.2) fun x16 =>
    F12_lrlrrr inv k k (.slice none 0 0) x6.1 x1 x16 (.int .i64 0) u.2
    (fun y5 y6 y15 y16 y17 y18 h =>
    bnd (pLoad Try.prog 48 y6 h) fun x70 =>
    bnd (pBuildSlice Try.prog 22 1 #[(0, x70)] h) fun x71 =>
    bnd (pAppend Try.prog #[22, 22] y5 x71.1 x71.2) fun x72 =>
    some (x72.1, x72.2))
theorem F12_eq : eFun env k inv 12 #[x0, x1] h = F12 inv k x0 x1 h := by
      refine (kq_fun (a := act 73 [(0, x0), (1, x1)]) (c := cp c12 1)).trans ?_
      unfold F12
      simp only [kq_seq c12 1, r12_0, kq_seq c12 3, r12_1, kq_seq c12 7, r12_2, kq_seq c12 15, kq_seq c12 30, r12_3, kq_block c12 61 0, F12_lrlrrr_eq, kq_seq c12 31, r12_22, kq_ret c12 63, res12_0, reduceIte, reduceCtorEq, XE.exit.injEq, Nat.reduceEqDiff, Nat.reduceMul, Nat.reduceAdd] <;> kernel_rfl
theorem F12_call : eInv env (k + 1) (.func 12) #[] #[x0, x1] h = F12 (eInv env k) k x0 x1 h := kq_inv F12_eq
noncomputable def c24 : Code := codeOf Try.prog 24
theorem r24_0  : kCode env 24 false inv k (cp c24 2) (act 58 [(0, x0), (1, x1), (2, x2)]) h K =
    K .normal (act 58 [(0, x0), (1, x1), (2, x2), (6, (.bool false))]) h := kq_reg
theorem r24_1  : kCode env 24 false inv k (cp c24 6) (act 58 [(0, x0), (1, x1), (2, x2), (6, x6)]) h K =
    bnd (pLen Try.prog #[22] x0 h) fun x15 =>
    bnd (pMakeSlice Try.prog 60 (.int .i64 0) x15 h) fun x16 =>
    K .normal (act 58 [(0, x0), (1, x1), (2, x2), (6, x6), (7, x16.1)]) x16.2 := kq_reg
theorem r24_2  : kCode env 24 false inv k (cp c24 28) (act 58 [(0, x0), (1, x1), (2, x2), (6, x6), (7, x7)]) h K =
    bnd (pLen Try.prog #[22] x0 h) fun x18 =>
    K .normal (act 58 [(1, x1), (2, x2), (6, x6), (7, x7), (17, x0), (18, x18), (19, (.int .i64 0))]) h := kq_reg
theorem r24_3  : kCode env 24 false inv k (cp c24 232) (act 58 [(1, x1), (2, x2), (6, x6), (7, x7), (17, x17), (18, x18), (19, x19)]) h K =
    bnd (pBin Try.prog .lss 3 (.tmp 19) (.tmp 18) x19 x18) fun x20 =>
    K .normal (act 58 [(1, x1), (2, x2), (6, x6), (7, x7), (17, x17), (18, x18), (19, x19), (20, x20)]) h := kq_reg
theorem b24_lrllrlrr  : kCode env 24 false inv k (cp c24 466) (act 58 [(1, x1), (2, x2), (6, x6), (7, x7), (17, x17), (18, x18), (19, x19), (20, x20)]) h K = brV x20 (kCode env 24 false inv k (cp c24 932) (act 58 [(1, x1), (2, x2), (6, x6), (7, x7), (17, x17), (18, x18), (19, x19), (20, x20)]) h K) (kCode env 24 false inv k (cp c24 933) (act 58 [(1, x1), (2, x2), (6, x6), (7, x7), (17, x17), (18, x18), (19, x19), (20, x20)]) h K) := kq_cond
theorem r24_4  : kCode env 24 false inv k (cp c24 3736) (act 58 [(1, x1), (2, x2), (6, x6), (7, x7), (17, x17), (18, x18), (19, x19), (20, x20)]) h K =
    bnd (pIndexAddr Try.prog 22 x17 x19) fun x22 =>
    bnd (pLoad Try.prog 48 x22 h) fun x23 =>
    bnd (pAlloc Try.prog 48 h) fun x9 =>
    bnd (kSt (pStore Try.prog 48 x9.1 x23 x9.2)) fun u =>
    K .normal (act 58 [(1, x1), (2, x2), (7, x7), (8, x19), (9, x9.1), (17, x17), (18, x18), (19, x19)]) u.2 := kq_reg
theorem r24_5  : kCode env 24 false inv k (cp c24 7474) (act 58 [(1, x1), (2, x2), (7, x7), (8, x8), (9, x9), (17, x17), (18, x18), (19, x19)]) h K =
    K .normal (act 58 [(1, x1), (2, x2), (7, x7), (8, x8), (9, x9), (10, (.slice none 0 0)), (17, x17), (18, x18), (19, x19)]) h := kq_reg
theorem r24_6  : kCode env 24 false inv k (cp c24 29900) (act 58 [(1, x1), (2, x2), (7, x7), (8, x8), (9, x9), (10, x10), (17, x17), (18, x18), (19, x19)]) h K =
    bnd (pFieldAddr Try.prog 48 x9 3) fun x24 =>
    bnd (pLoad Try.prog 46 x24 h) fun x25 =>
    bnd (pLen Try.prog #[46] x25 h) fun x26 =>
    K .normal (act 58 [(1, x1), (2, x2), (7, x7), (8, x8), (9, x9), (10, x10), (17, x17), (18, x18), (19, x19), (25, x25), (26, x26), (27, (.int .i64 0))]) h := kq_reg
theorem r24_7  : kCode env 24 false inv k (cp c24 239208) (act 58 [(1, x1), (2, x2), (7, x7), (8, x8), (9, x9), (10, x10), (17, x17), (18, x18), (19, x19), (25, x25), (26, x26), (27, x27)]) h K =
    bnd (pBin Try.prog .lss 3 (.tmp 27) (.tmp 26) x27 x26) fun x28 =>
    K .normal (act 58 [(1, x1), (2, x2), (7, x7), (8, x8), (9, x9), (10, x10), (17, x17), (18, x18), (19, x19), (25, x25), (26, x26), (27, x27), (28, x28)]) h := kq_reg
theorem b24_lrllrlrrllrrllrlrr  : kCode env 24 false inv k (cp c24 478418) (act 58 [(1, x1), (2, x2), (7, x7), (8, x8), (9, x9), (10, x10), (17, x17), (18, x18), (19, x19), (25, x25), (26, x26), (27, x27), (28, x28)]) h K = brV x28 (kCode env 24 false inv k (cp c24 956836) (act 58 [(1, x1), (2, x2), (7, x7), (8, x8), (9, x9), (10, x10), (17, x17), (18, x18), (19, x19), (25, x25), (26, x26), (27, x27), (28, x28)]) h K) (kCode env 24 false inv k (cp c24 956837) (act 58 [(1, x1), (2, x2), (7, x7), (8, x8), (9, x9), (10, x10), (17, x17), (18, x18), (19, x19), (25, x25), (26, x26), (27, x27), (28, x28)]) h K) := kq_cond
theorem r24_8  : kCode env 24 false inv k (cp c24 3827352) (act 58 [(1, x1), (2, x2), (7, x7), (8, x8), (9, x9), (10, x10), (17, x17), (18, x18), (19, x19), (25, x25), (26, x26), (27, x27), (28, x28)]) h K =
    bnd (pIndexAddr Try.prog 46 x25 x27) fun x29 =>
    bnd (pLoad Try.prog 3 x29 h) fun x30 =>
    K .normal (act 58 [(1, x1), (2, x2), (7, x7), (8, x8), (9, x9), (10, x10), (12, x30), (17, x17), (18, x18), (19, x19), (25, x25), (26, x26), (27, x27)]) h := kq_reg
theorem r24_9  : kCode env 24 false inv k (cp c24 7654706) (act 58 [(1, x1), (2, x2), (7, x7), (8, x8), (9, x9), (10, x10), (12, x12), (17, x17), (18, x18), (19, x19), (25, x25), (26, x26), (27, x27)]) h K =
    K .normal (act 58 [(1, x1), (2, x2), (7, x7), (8, x8), (9, x9), (10, x10), (12, x12), (13, x1), (17, x17), (18, x18), (19, x19), (25, x25), (26, x26), (27, x27)]) h := kq_reg
noncomputable abbrev G24_10 {β : Type} (inv : Inv) (x1 x2 x7 x8 x9 x10 x12 x13 x17 x18 x19 x25 x26 x27 : Value) (h : AH) (K : Value → AH → Option β) : Option β :=
    bnd (pBin Try.prog .geq 3 (.tmp 32) (.const (.int .i64 0)) x12 (.int .i64 0)) fun x33 =>
    bnd (gd (some x33) true h (some (x12, h))) fun x35 =>
    bnd (gd (some x33) true x35.2 (some (x8, x35.2))) fun x36 =>
    bnd (gd (some x33) true x36.2 (lt (pBin Try.prog .lss 3 (.tmp 35) (.tmp 36) x35.1 x36.1) x36.2)) fun x37 =>
    bnd (pickV x33 x37.1 (.bool false)) fun x38 =>
    K (x38) x37.2
theorem r24_10  : kCode env 24 false inv k (cp c24 30618828) (act 58 [(1, x1), (2, x2), (7, x7), (8, x8), (9, x9), (10, x10), (12, x12), (13, x13), (17, x17), (18, x18), (19, x19), (25, x25), (26, x26), (27, x27)]) h K =
    G24_10 inv x1 x2 x7 x8 x9 x10 x12 x13 x17 x18 x19 x25 x26 x27 h fun y38 h => K .normal (act 58 [(1, x1), (2, x2), (7, x7), (8, x8), (9, x9), (10, x10), (12, x12), (13, x13), (17, x17), (18, x18), (19, x19), (25, x25), (26, x26), (27, x27), (38, y38)]) h := kq_reg
theorem b24_rlrrllrrllrlrrllrrllrlrr  : kCode env 24 false inv k (cp c24 30618829) (act 58 [(1, x1), (2, x2), (7, x7), (8, x8), (9, x9), (10, x10), (12, x12), (13, x13), (17, x17), (18, x18), (19, x19), (25, x25), (26, x26), (27, x27), (38, x38)]) h K = brV x38 (kCode env 24 false inv k (cp c24 61237658) (act 58 [(1, x1), (2, x2), (7, x7), (8, x8), (9, x9), (10, x10), (12, x12), (13, x13), (17, x17), (18, x18), (19, x19), (25, x25), (26, x26), (27, x27), (38, x38)]) h K) (kCode env 24 false inv k (cp c24 61237659) (act 58 [(1, x1), (2, x2), (7, x7), (8, x8), (9, x9), (10, x10), (12, x12), (13, x13), (17, x17), (18, x18), (19, x19), (25, x25), (26, x26), (27, x27), (38, x38)]) h K) := kq_cond
theorem r24_11  : kCode env 24 false inv k (cp c24 61237658) (act 58 [(1, x1), (2, x2), (7, x7), (8, x8), (9, x9), (10, x10), (12, x12), (13, x13), (17, x17), (18, x18), (19, x19), (25, x25), (26, x26), (27, x27), (38, x38)]) h K =
    bnd (pIndexAddr Try.prog 60 x7 x12) fun x41 =>
    bnd (pLoad Try.prog 4 x41 h) fun x42 =>
    K .normal (act 58 [(1, x1), (2, x2), (7, x7), (8, x8), (9, x9), (10, x10), (13, x42), (17, x17), (18, x18), (19, x19), (25, x25), (26, x26), (27, x27)]) h := kq_reg
noncomputable def F24_rlrrllrrllrlrrllrrllrlrr {β : Type} (inv : Inv) (k : Nat) (x1 x2 x7 x8 x9 x10 x12 x13 x17 x18 x19 x25 x26 x27 x38 : Value) (h : AH) (kn : (Value → Value → Value → Value → Value → Value → Value → Value → Value → Value → Value → Value → Value → Value → Value → AH → Option β)) : Option β :=
    brV x38
    (bnd (pIndexAddr Try.prog 60 x7 x12) fun x41 =>
    bnd (pLoad Try.prog 4 x41 h) fun x42 =>
    kn x1 x2 x7 x8 x9 x10 unk x42 x17 x18 x19 x25 x26 x27 unk h)
    (kn x1 x2 x7 x8 x9 x10 x12 x13 x17 x18 x19 x25 x26 x27 x38 h)
theorem F24_rlrrllrrllrlrrllrrllrlrr_eq  : kCode env 24 false inv k (cp c24 30618829) (act 58 [(1, x1), (2, x2), (7, x7), (8, x8), (9, x9), (10, x10), (12, x12), (13, x13), (17, x17), (18, x18), (19, x19), (25, x25), (26, x26), (27, x27), (38, x38)]) h K = F24_rlrrllrrllrlrrllrrllrlrr inv k x1 x2 x7 x8 x9 x10 x12 x13 x17 x18 x19 x25 x26 x27 x38 h (fun y1 y2 y7 y8 y9 y10 y12 y13 y17 y18 y19 y25 y26 y27 y38 h => K .normal (act 58 [(1, y1), (2, y2), (7, y7), (8, y8), (9, y9), (10, y10), (12, y12), (13, y13), (17, y17), (18, y18), (19, y19), (25, y25), (26, y26), (27, y27), (38, y38)]) h) := by
      unfold F24_rlrrllrrllrlrrllrrllrlrr
      simp only [b24_rlrrllrrllrlrrllrrllrlrr, r24_11, kq_skip c24 61237659, reduceIte, reduceCtorEq, XE.exit.injEq, Nat.reduceEqDiff, Nat.reduceMul, Nat.reduceAdd] <;> kernel_rfl
theorem r24_12  : kCode env 24 false inv k (cp c24 15309415) (act 58 [(1, x1), (2, x2), (7, x7), (8, x8), (9, x9), (10, x10), (12, x12), (13, x13), (17, x17), (18, x18), (19, x19), (25, x25), (26, x26), (27, x27), (38, x38)]) h K =
    bnd (pBuildSlice Try.prog 60 1 #[(0, x13)] h) fun x45 =>
    bnd (pAppend Try.prog #[60, 60] x10 x45.1 x45.2) fun x46 =>
    K .normal (act 58 [(1, x1), (2, x2), (7, x7), (8, x8), (9, x9), (10, x46.1), (17, x17), (18, x18), (19, x19), (25, x25), (26, x26), (27, x27)]) x46.2 := kq_reg
theorem r24_13  : kCode env 24 false inv k (cp c24 956839) (act 58 [(1, x1), (2, x2), (7, x7), (8, x8), (9, x9), (10, x10), (17, x17), (18, x18), (19, x19), (25, x25), (26, x26), (27, x27)]) h K =
    bnd (pBin Try.prog .add 3 (.tmp 27) (.const (.int .i64 1)) x27 (.int .i64 1)) fun x47 =>
    K .normal (act 58 [(1, x1), (2, x2), (7, x7), (8, x8), (9, x9), (10, x10), (17, x17), (18, x18), (19, x19), (25, x25), (26, x26), (27, x47)]) h := kq_reg
noncomputable def F24_lrlrrllrrllrlrr {β : Type} (inv : Inv) (k : Nat) : Nat → Value → Value → Value → Value → Value → Value → Value → Value → Value → Value → Value → Value → AH → (Value → Value → Value → Value → Value → Value → Value → Value → Value → Value → Value → Value → Value → AH → Option β) → Option β
  | 0, _, _, _, _, _, _, _, _, _, _, _, _, _, _ => none
  | j + 1, x1, x2, x7, x8, x9, x10, x17, x18, x19, x25, x26, x27, h, ke2 =>
    bnd (pBin Try.prog .lss 3 (.tmp 27) (.tmp 26) x27 x26) fun x28 =>
    brV x28
    (bnd (pIndexAddr Try.prog 46 x25 x27) fun x29 =>
    bnd (pLoad Try.prog 3 x29 h) fun x30 =>
    G24_10 inv x1 x2 x7 x8 x9 x10 x30 x1 x17 x18 x19 x25 x26 x27 h fun y38 h =>
    F24_rlrrllrrllrlrrllrrllrlrr inv k x1 x2 x7 x8 x9 x10 x30 x1 x17 x18 x19 x25 x26 x27 y38 h
    (fun y1 y2 y7 y8 y9 y10 y12 y13 y17 y18 y19 y25 y26 y27 y38_1 h_2 =>
    bnd (pBuildSlice Try.prog 60 1 #[(0, y13)] h_2) fun x45 =>
    bnd (pAppend Try.prog #[60, 60] y10 x45.1 x45.2) fun x46 =>
    bnd (pBin Try.prog .add 3 (.tmp 27) (.const (.int .i64 1)) y27 (.int .i64 1)) fun x47 =>
    F24_lrlrrllrrllrlrr inv k j y1 y2 y7 y8 y9 x46.1 y17 y18 y19 y25 y26 x47 x46.2 ke2))
    (ke2 x1 x2 x7 x8 x9 x10 x17 x18 x19 x25 x26 x27 x28 h)
theorem F24_lrlrrllrrllrlrr_j (j : Nat) : kLoop (kCode env 24 false inv k (cp c24 119604)) j (act 58 [(1, x1), (2, x2), (7, x7), (8, x8), (9, x9), (10, x10), (17, x17), (18, x18), (19, x19), (25, x25), (26, x26), (27, x27)]) h K = F24_lrlrrllrrllrlrr inv k j x1 x2 x7 x8 x9 x10 x17 x18 x19 x25 x26 x27 h (fun y1 y2 y7 y8 y9 y10 y17 y18 y19 y25 y26 y27 y28 h => K (.exit 2) (act 58 [(1, y1), (2, y2), (7, y7), (8, y8), (9, y9), (10, y10), (17, y17), (18, y18), (19, y19), (25, y25), (26, y26), (27, y27), (28, y28)]) h) := by
      induction j generalizing x1 x2 x7 x8 x9 x10 x17 x18 x19 x25 x26 x27 h with
      | zero => rfl
      | succ j ih =>
        unfold F24_lrlrrllrrllrlrr
        simp only [kLoop, kq_seq c24 119604, r24_7, kq_seq c24 239209, b24_lrllrlrrllrrllrlrr, kq_skip c24 956836, kq_seq c24 478419, kq_block c24 956838 3, kq_seq c24 1913676, r24_8, kq_seq c24 3827353, r24_9, kq_seq c24 7654707, kq_seq c24 15309414, r24_10, F24_rlrrllrrllrlrrllrrllrlrr_eq, r24_12, r24_13, kq_exit c24 956837 2, ih, reduceIte, reduceCtorEq, XE.exit.injEq, Nat.reduceEqDiff, Nat.reduceMul, Nat.reduceAdd] <;> kernel_rfl
theorem F24_lrlrrllrrllrlrr_eq  : kCode env 24 false inv k (cp c24 59802) (act 58 [(1, x1), (2, x2), (7, x7), (8, x8), (9, x9), (10, x10), (17, x17), (18, x18), (19, x19), (25, x25), (26, x26), (27, x27)]) h K = F24_lrlrrllrrllrlrr inv k k x1 x2 x7 x8 x9 x10 x17 x18 x19 x25 x26 x27 h (fun y1 y2 y7 y8 y9 y10 y17 y18 y19 y25 y26 y27 y28 h => K (.exit 2) (act 58 [(1, y1), (2, y2), (7, y7), (8, y8), (9, y9), (10, y10), (17, y17), (18, y18), (19, y19), (25, y25), (26, y26), (27, y27), (28, y28)]) h) := kq_loop (F24_lrlrrllrrllrlrr_j k)
theorem r24_14  : kCode env 24 false inv k (cp c24 29902) (act 58 [(1, x1), (2, x2), (7, x7), (8, x8), (9, x9), (10, x10), (17, x17), (18, x18), (19, x19), (25, x25), (26, x26), (27, x27), (28, x28)]) h K =
    bnd (pLoad Try.prog 48 x9 h) fun x49 =>
    bnd (callV inv x2 #[x49, x10] h) fun x51 =>
    K .normal (act 58 [(1, x1), (2, x2), (6, x51.1), (7, x7), (17, x17), (18, x18), (19, x19)]) x51.2 := kq_reg
theorem r24_15  : kCode env 24 false inv k (cp c24 29903) (act 58 [(1, x1), (2, x2), (6, x6), (7, x7), (17, x17), (18, x18), (19, x19)]) h K =
    bnd (pBuildSlice Try.prog 60 1 #[(0, x6)] h) fun x54 =>
    bnd (pAppend Try.prog #[60, 60] x7 x54.1 x54.2) fun x55 =>
    K .normal (act 58 [(1, x1), (2, x2), (6, x6), (7, x55.1), (17, x17), (18, x18), (19, x19)]) x55.2 := kq_reg
theorem r24_16  : kCode env 24 false inv k (cp c24 935) (act 58 [(1, x1), (2, x2), (6, x6), (7, x7), (17, x17), (18, x18), (19, x19)]) h K =
    bnd (pBin Try.prog .add 3 (.tmp 19) (.const (.int .i64 1)) x19 (.int .i64 1)) fun x56 =>
    K .normal (act 58 [(1, x1), (2, x2), (6, x6), (7, x7), (17, x17), (18, x18), (19, x56)]) h := kq_reg
noncomputable def F24_lrlrr {β : Type} (inv : Inv) (k : Nat) : Nat → Value → Value → Value → Value → Value → Value → Value → AH → (Value → Value → Value → Value → Value → Value → Value → Value → AH → Option β) → Option β
  | 0, _, _, _, _, _, _, _, _, _ => none
  | j + 1, x1, x2, x6, x7, x17, x18, x19, h, ke0 =>
    bnd (pBin Try.prog .lss 3 (.tmp 19) (.tmp 18) x19 x18) fun x20 =>
    brV x20
    (bnd (pIndexAddr Try.prog 22 x17 x19) fun x22 =>
    bnd (pLoad Try.prog 48 x22 h) fun x23 =>
    bnd (pAlloc Try.prog 48 h) fun x9 =>
    bnd (kSt (pStore Try.prog 48 x9.1 x23 x9.2)) fun u =>
    bnd (pFieldAddr Try.prog 48 x9.1 3) fun x24 =>
    bnd (pLoad Try.prog 46 x24 u.2) fun x25 =>
    bnd (pLen Try.prog #[46] x25 u.2) fun x26 =>
    F24_lrlrrllrrllrlrr inv k k x1 x2 x7 x19 x9.1 (.slice none 0 0) x17 x18 x19 x25 x26 (.int .i64 0) u.2
    (fun y1 y2 y7 y8 y9 y10 y17 y18 y19 y25 y26 y27 y28 h =>
    bnd (pLoad Try.prog 48 y9 h) fun x49 =>
    bnd (callV inv y2 #[x49, y10] h) fun x51 =>
    bnd (pBuildSlice Try.prog 60 1 #[(0, x51.1)] x51.2) fun x54 =>
    bnd (pAppend Try.prog #[60, 60] y7 x54.1 x54.2) fun x55 =>
    bnd (pBin Try.prog .add 3 (.tmp 19) (.const (.int .i64 1)) y19 (.int .i64 1)) fun x56 =>
    F24_lrlrr inv k j y1 y2 x51.1 x55.1 y17 y18 x56 x55.2 ke0))
    (ke0 x1 x2 x6 x7 x17 x18 x19 x20 h)
theorem F24_lrlrr_j (j : Nat) : kLoop (kCode env 24 false inv k (cp c24 116)) j (act 58 [(1, x1), (2, x2), (6, x6), (7, x7), (17, x17), (18, x18), (19, x19)]) h K = F24_lrlrr inv k j x1 x2 x6 x7 x17 x18 x19 h (fun y1 y2 y6 y7 y17 y18 y19 y20 h => K (.exit 0) (act 58 [(1, y1), (2, y2), (6, y6), (7, y7), (17, y17), (18, y18), (19, y19), (20, y20)]) h) := by
      induction j generalizing x1 x2 x6 x7 x17 x18 x19 h with
      | zero => rfl
      | succ j ih =>
        unfold F24_lrlrr
        simp only [kLoop, kq_seq c24 116, r24_3, kq_seq c24 233, b24_lrllrlrr, kq_skip c24 932, kq_seq c24 467, kq_block c24 934 1, kq_seq c24 1868, r24_4, kq_seq c24 3737, r24_5, kq_seq c24 7475, kq_seq c24 14950, r24_6, kq_block c24 29901 2, F24_lrlrrllrrllrlrr_eq, kq_seq c24 14951, r24_14, r24_15, r24_16, kq_exit c24 933 0, ih, reduceIte, reduceCtorEq, XE.exit.injEq, Nat.reduceEqDiff, Nat.reduceMul, Nat.reduceAdd] <;> kernel_rfl
theorem F24_lrlrr_eq  : kCode env 24 false inv k (cp c24 58) (act 58 [(1, x1), (2, x2), (6, x6), (7, x7), (17, x17), (18, x18), (19, x19)]) h K = F24_lrlrr inv k k x1 x2 x6 x7 x17 x18 x19 h (fun y1 y2 y6 y7 y17 y18 y19 y20 h => K (.exit 0) (act 58 [(1, y1), (2, y2), (6, y6), (7, y7), (17, y17), (18, y18), (19, y19), (20, y20)]) h) := kq_loop (F24_lrlrr_j k)
theorem r24_17  : kCode env 24 false inv k (cp c24 30) (act 58 [(1, x1), (2, x2), (6, x6), (7, x7), (17, x17), (18, x18), (19, x19), (20, x20)]) h K =
    K .normal (act 58 [(6, x6)]) h := kq_reg
theorem res24_0 : resOfFn env.P 24 .ret (act 58 [(6, x6)]) h = some (x6, h) := kq_res
/-- shadowbook/pred.gone[bool] -/
noncomputable def F24 (inv : Inv) (k : Nat) (x0 x1 x2 : Value) (h : AH) : Option (Value × AH) :=
    bnd (pLen Try.prog #[22] x0 h) fun x15 =>
    bnd (pMakeSlice Try.prog 60 (.int .i64 0) x15 h) fun x16 =>
    bnd (pLen Try.prog #[22] x0 x16.2) fun x18 =>
    F24_lrlrr inv k k x1 x2 (.bool false) x16.1 x0 x18 (.int .i64 0) x16.2
    (fun y1 y2 y6 y7 y17 y18 y19 y20 h =>
    some (y6, h))
theorem F24_eq : eFun env k inv 24 #[x0, x1, x2] h = F24 inv k x0 x1 x2 h := by
      refine (kq_fun (a := act 58 [(0, x0), (1, x1), (2, x2)]) (c := cp c24 1)).trans ?_
      unfold F24
      simp only [kq_seq c24 1, r24_0, kq_seq c24 3, r24_1, kq_seq c24 7, kq_seq c24 14, r24_2, kq_block c24 29 0, F24_lrlrr_eq, kq_seq c24 15, r24_17, kq_ret c24 31, res24_0, reduceIte, reduceCtorEq, XE.exit.injEq, Nat.reduceEqDiff, Nat.reduceMul, Nat.reduceAdd] <;> kernel_rfl
theorem F24_call : eInv env (k + 1) (.func 24) #[] #[x0, x1, x2] h = F24 (eInv env k) k x0 x1 x2 h := kq_inv F24_eq
noncomputable def c25 : Code := codeOf Try.prog 25
theorem r25_0  : kCode env 25 false inv k (cp c25 2) (act 36 [(0, x0), (1, x1), (2, x2)]) h K =
    bnd (pBox Try.prog 48 x0 h) fun x3 =>
    K .normal (act 36 [(1, x1), (2, x2), (3, x3.1)]) x3.2 := kq_reg
theorem r25_1  : kCode env 25 false inv k (cp c25 24) (act 36 [(1, x1), (2, x2), (3, x3)]) h K =
    bnd (pFieldAddr Try.prog 48 x3 0) fun x7 =>
    bnd (pLoad Try.prog 3 x7 h) fun x8 =>
    bnd (inv (.func 26) #[] #[x8] h) fun x9 =>
    K .normal (act 36 [(1, x1), (2, x2), (3, x3), (6, x9.1)]) x9.2 := kq_reg
theorem b25_rllr  : kCode env 25 false inv k (cp c25 25) (act 36 [(1, x1), (2, x2), (3, x3), (6, x6)]) h K = brV x6 (kCode env 25 false inv k (cp c25 50) (act 36 [(1, x1), (2, x2), (3, x3), (6, x6)]) h K) (kCode env 25 false inv k (cp c25 51) (act 36 [(1, x1), (2, x2), (3, x3), (6, x6)]) h K) := kq_cond
theorem r25_2  : kCode env 25 false inv k (cp c25 100) (act 36 [(1, x1), (2, x2), (3, x3), (6, x6)]) h K =
    bnd (pLoad Try.prog 48 x3 h) fun x10 =>
    bnd (pLoad Try.prog 23 x2 h) fun x11 =>
    bnd (inv (.func 27) #[] #[x10, x11] h) fun x12 =>
    K .normal (act 36 [(5, x12.1)]) x12.2 := kq_reg
theorem res25_0 : resOfFn env.P 25 .ret (act 36 [(5, x5)]) h = some (x5, h) := kq_res
theorem r25_3  : kCode env 25 false inv k (cp c25 102) (act 36 [(1, x1), (2, x2), (3, x3), (6, x6)]) h K =
    bnd (pFieldAddr Try.prog 48 x3 0) fun x14 =>
    bnd (pLoad Try.prog 3 x14 h) fun x15 =>
    bnd (pBin Try.prog .eql 3 (.tmp 15) (.const (.int .i64 1)) x15 (.int .i64 1)) fun x16 =>
    K .normal (act 36 [(1, x1), (3, x3), (13, x16)]) h := kq_reg
theorem b25_rrrllr  : kCode env 25 false inv k (cp c25 103) (act 36 [(1, x1), (3, x3), (13, x13)]) h K = brV x13 (kCode env 25 false inv k (cp c25 206) (act 36 [(1, x1), (3, x3), (13, x13)]) h K) (kCode env 25 false inv k (cp c25 207) (act 36 [(1, x1), (3, x3), (13, x13)]) h K) := kq_cond
theorem r25_4  : kCode env 25 false inv k (cp c25 412) (act 36 [(1, x1), (3, x3), (13, x13)]) h K =
    K .normal (act 36 [(5, (.bool true))]) h := kq_reg
theorem r25_5  : kCode env 25 false inv k (cp c25 414) (act 36 [(1, x1), (3, x3), (13, x13)]) h K =
    bnd (pFieldAddr Try.prog 48 x3 0) fun x18 =>
    bnd (pLoad Try.prog 3 x18 h) fun x19 =>
    bnd (pBin Try.prog .eql 3 (.tmp 19) (.const (.int .i64 6)) x19 (.int .i64 6)) fun x20 =>
    K .normal (act 36 [(1, x1), (3, x3), (17, x20)]) h := kq_reg
theorem b25_rrrrrllr  : kCode env 25 false inv k (cp c25 415) (act 36 [(1, x1), (3, x3), (17, x17)]) h K = brV x17 (kCode env 25 false inv k (cp c25 830) (act 36 [(1, x1), (3, x3), (17, x17)]) h K) (kCode env 25 false inv k (cp c25 831) (act 36 [(1, x1), (3, x3), (17, x17)]) h K) := kq_cond
theorem r25_6  : kCode env 25 false inv k (cp c25 1660) (act 36 [(1, x1), (3, x3), (17, x17)]) h K =
    bnd (inv (.func 28) #[] #[x1, (.bool false)] h) fun x22 =>
    bnd (pUn Try.prog .not x22.1) fun x23 =>
    K .normal (act 36 [(5, x23)]) x22.2 := kq_reg
theorem r25_7  : kCode env 25 false inv k (cp c25 1662) (act 36 [(1, x1), (3, x3), (17, x17)]) h K =
    bnd (pFieldAddr Try.prog 48 x3 0) fun x25 =>
    bnd (pLoad Try.prog 3 x25 h) fun x26 =>
    bnd (pBin Try.prog .eql 3 (.tmp 26) (.const (.int .i64 7)) x26 (.int .i64 7)) fun x27 =>
    K .normal (act 36 [(1, x1), (3, x3), (24, x27)]) h := kq_reg
theorem b25_rrrrrrrllr  : kCode env 25 false inv k (cp c25 1663) (act 36 [(1, x1), (3, x3), (24, x24)]) h K = brV x24 (kCode env 25 false inv k (cp c25 3326) (act 36 [(1, x1), (3, x3), (24, x24)]) h K) (kCode env 25 false inv k (cp c25 3327) (act 36 [(1, x1), (3, x3), (24, x24)]) h K) := kq_cond
theorem r25_8  : kCode env 25 false inv k (cp c25 6652) (act 36 [(1, x1), (3, x3), (24, x24)]) h K =
    bnd (inv (.func 28) #[] #[x1, (.bool true)] h) fun x29 =>
    K .normal (act 36 [(5, x29.1)]) x29.2 := kq_reg
theorem r25_9  : kCode env 25 false inv k (cp c25 6654) (act 36 [(1, x1), (3, x3), (24, x24)]) h K =
    bnd (pFieldAddr Try.prog 48 x3 0) fun x31 =>
    bnd (pLoad Try.prog 3 x31 h) fun x32 =>
    bnd (pBin Try.prog .eql 3 (.tmp 32) (.const (.int .i64 8)) x32 (.int .i64 8)) fun x33 =>
    K .normal (act 36 [(1, x1), (30, x33)]) h := kq_reg
theorem b25_rrrrrrrrrllr  : kCode env 25 false inv k (cp c25 6655) (act 36 [(1, x1), (30, x30)]) h K = brV x30 (kCode env 25 false inv k (cp c25 13310) (act 36 [(1, x1), (30, x30)]) h K) (kCode env 25 false inv k (cp c25 13311) (act 36 [(1, x1), (30, x30)]) h K) := kq_cond
theorem r25_10  : kCode env 25 false inv k (cp c25 26620) (act 36 [(1, x1), (30, x30)]) h K =
    bnd (inv (.func 28) #[] #[x1, (.bool false)] h) fun x35 =>
    K .normal (act 36 [(5, x35.1)]) x35.2 := kq_reg
theorem r25_11  : kCode env 25 false inv k (cp c25 14) (act 36 [(1, x1), (30, x30)]) h K =
    K .normal (act 36 [(5, (.bool false))]) h := kq_reg
/-- shadowbook/pred.Holds$1 -/
noncomputable def F25 (inv : Inv) (k : Nat) (x0 x1 x2 : Value) (h : AH) : Option (Value × AH) :=
    bnd (pBox Try.prog 48 x0 h) fun x3 =>
    bnd (pFieldAddr Try.prog 48 x3.1 0) fun x7 =>
    bnd (pLoad Try.prog 3 x7 x3.2) fun x8 =>
    bnd (inv (.func 26) #[] #[x8] x3.2) fun x9 =>
    brV x9.1
    (bnd (pLoad Try.prog 48 x3.1 x9.2) fun x10 =>
    bnd (pLoad Try.prog 23 x2 x9.2) fun x11 =>
    bnd (inv (.func 27) #[] #[x10, x11] x9.2) fun x12 =>
    some (x12.1, x12.2))
    (bnd (pFieldAddr Try.prog 48 x3.1 0) fun x14 =>
    bnd (pLoad Try.prog 3 x14 x9.2) fun x15 =>
    bnd (pBin Try.prog .eql 3 (.tmp 15) (.const (.int .i64 1)) x15 (.int .i64 1)) fun x16 =>
    brV x16
    (some ((.bool true), x9.2))
    (bnd (pFieldAddr Try.prog 48 x3.1 0) fun x18 =>
    bnd (pLoad Try.prog 3 x18 x9.2) fun x19 =>
    bnd (pBin Try.prog .eql 3 (.tmp 19) (.const (.int .i64 6)) x19 (.int .i64 6)) fun x20 =>
    brV x20
    (bnd (inv (.func 28) #[] #[x1, (.bool false)] x9.2) fun x22 =>
    bnd (pUn Try.prog .not x22.1) fun x23 =>
    some (x23, x22.2))
    (bnd (pFieldAddr Try.prog 48 x3.1 0) fun x25 =>
    bnd (pLoad Try.prog 3 x25 x9.2) fun x26 =>
    bnd (pBin Try.prog .eql 3 (.tmp 26) (.const (.int .i64 7)) x26 (.int .i64 7)) fun x27 =>
    brV x27
    (bnd (inv (.func 28) #[] #[x1, (.bool true)] x9.2) fun x29 =>
    some (x29.1, x29.2))
    (bnd (pFieldAddr Try.prog 48 x3.1 0) fun x31 =>
    bnd (pLoad Try.prog 3 x31 x9.2) fun x32 =>
    bnd (pBin Try.prog .eql 3 (.tmp 32) (.const (.int .i64 8)) x32 (.int .i64 8)) fun x33 =>
    brV x33
    (bnd (inv (.func 28) #[] #[x1, (.bool false)] x9.2) fun x35 =>
    some (x35.1, x35.2))
    (some ((.bool false), x9.2))))))
theorem F25_eq : eFun env k inv 25 #[x0, x1, x2] h = F25 inv k x0 x1 x2 h := by
      refine (kq_fun (a := act 36 [(0, x0), (1, x1), (2, x2)]) (c := cp c25 1)).trans ?_
      unfold F25
      simp only [kq_seq c25 1, r25_0, kq_seq c25 3, kq_block c25 6 0, kq_seq c25 12, r25_1, b25_rllr, kq_seq c25 50, r25_2, kq_ret c25 101, res25_0, kq_seq c25 51, r25_3, b25_rrrllr, kq_seq c25 206, r25_4, kq_ret c25 413, kq_seq c25 207, r25_5, b25_rrrrrllr, kq_seq c25 830, r25_6, kq_ret c25 1661, kq_seq c25 831, r25_7, b25_rrrrrrrllr, kq_seq c25 3326, r25_8, kq_ret c25 6653, kq_seq c25 3327, r25_9, b25_rrrrrrrrrllr, kq_seq c25 13310, r25_10, kq_ret c25 26621, kq_skip c25 13311, kq_seq c25 7, r25_11, kq_ret c25 15, reduceIte, reduceCtorEq, XE.exit.injEq, Nat.reduceEqDiff, Nat.reduceMul, Nat.reduceAdd] <;> kernel_rfl
theorem F25_call : eInv env (k + 1) (.func 25) #[] #[x0, x1, x2] h = F25 (eInv env k) k x0 x1 x2 h := kq_inv F25_eq
noncomputable def c26 : Code := codeOf Try.prog 26
theorem r26_0  : kCode env 26 false inv k (cp c26 2) (act 9 [(0, x0)]) h K =
    K .normal (act 9 [(0, x0)]) h := kq_reg
noncomputable abbrev G26_1 {β : Type} (inv : Inv) (x0 : Value) (h : AH) (K : Value → AH → Option β) : Option β :=
    bnd (pBin Try.prog .geq 3 (.tmp 3) (.const (.int .i64 2)) x0 (.int .i64 2)) fun x4 =>
    bnd (gd (some x4) true h (some (x0, h))) fun x6 =>
    bnd (gd (some x4) true x6.2 (lt (pBin Try.prog .leq 3 (.tmp 6) (.const (.int .i64 5)) x6.1 (.int .i64 5)) x6.2)) fun x7 =>
    bnd (pickV x4 x7.1 (.bool false)) fun x8 =>
    K (x8) x7.2
theorem r26_1  : kCode env 26 false inv k (cp c26 6) (act 9 [(0, x0)]) h K =
    G26_1 inv x0 h fun y2 h => K .normal (act 9 [(2, y2)]) h := kq_reg
theorem res26_0 : resOfFn env.P 26 .ret (act 9 [(2, x2)]) h = some (x2, h) := kq_res
/-- shadowbook/pred.compares -/
noncomputable def F26 (inv : Inv) (k : Nat) (x0 : Value) (h : AH) : Option (Value × AH) :=
    G26_1 inv x0 h fun y2 h =>
    some (y2, h)
theorem F26_eq : eFun env k inv 26 #[x0] h = F26 inv k x0 h := by
      refine (kq_fun (a := act 9 [(0, x0)]) (c := cp c26 1)).trans ?_
      unfold F26
      simp only [kq_seq c26 1, r26_0, kq_seq c26 3, r26_1, kq_ret c26 7, res26_0, reduceIte, reduceCtorEq, XE.exit.injEq, Nat.reduceEqDiff, Nat.reduceMul, Nat.reduceAdd] <;> kernel_rfl
theorem F26_call : eInv env (k + 1) (.func 26) #[] #[x0] h = F26 (eInv env k) k x0 h := kq_inv F26_eq
noncomputable def c27 : Code := codeOf Try.prog 27
theorem r27_0  : kCode env 27 false inv k (cp c27 2) (act 42 [(0, x0), (1, x1)]) h K =
    bnd (pBox Try.prog 48 x0 h) fun x2 =>
    K .normal (act 42 [(1, x1), (2, x2.1)]) x2.2 := kq_reg
noncomputable abbrev G27_1 {β : Type} (inv : Inv) (x1 x2 : Value) (h : AH) (K : Value → AH → Option β) : Option β :=
    bnd (pFieldAddr Try.prog 48 x2 1) fun x7 =>
    bnd (pLoad Try.prog 3 x7 h) fun x8 =>
    bnd (pBin Try.prog .lss 3 (.tmp 8) (.const (.int .i64 0)) x8 (.int .i64 0)) fun x9 =>
    bnd (gd (some x9) false h (lt (pFieldAddr Try.prog 48 x2 1) h)) fun x11 =>
    bnd (gd (some x9) false x11.2 (lt (pLoad Try.prog 3 x11.1 x11.2) x11.2)) fun x12 =>
    bnd (gd (some x9) false x12.2 (some (x1, x12.2))) fun x13 =>
    bnd (gd (some x9) false x13.2 (lt (pLen Try.prog #[23] x13.1 x13.2) x13.2)) fun x14 =>
    bnd (gd (some x9) false x14.2 (lt (pBin Try.prog .geq 3 (.tmp 12) (.tmp 14) x12.1 x14.1) x14.2)) fun x15 =>
    bnd (pickV x9 (.bool true) x15.1) fun x16 =>
    K (x16) x15.2
theorem r27_1  : kCode env 27 false inv k (cp c27 12) (act 42 [(1, x1), (2, x2)]) h K =
    G27_1 inv x1 x2 h fun y16 h => K .normal (act 42 [(1, x1), (2, x2), (16, y16)]) h := kq_reg
theorem b27_rlr  : kCode env 27 false inv k (cp c27 13) (act 42 [(1, x1), (2, x2), (16, x16)]) h K = brV x16 (kCode env 27 false inv k (cp c27 26) (act 42 [(1, x1), (2, x2), (16, x16)]) h K) (kCode env 27 false inv k (cp c27 27) (act 42 [(1, x1), (2, x2), (16, x16)]) h K) := kq_cond
theorem r27_2  : kCode env 27 false inv k (cp c27 52) (act 42 [(1, x1), (2, x2), (16, x16)]) h K =
    K .normal (act 42 [(4, (.bool false))]) h := kq_reg
theorem res27_0 : resOfFn env.P 27 .ret (act 42 [(4, x4)]) h = some (x4, h) := kq_res
theorem r27_3  : kCode env 27 false inv k (cp c27 14) (act 42 [(1, x1), (2, x2), (16, x16)]) h K =
    bnd (pFieldAddr Try.prog 48 x2 1) fun x18 =>
    bnd (pLoad Try.prog 3 x18 h) fun x19 =>
    bnd (pIndexAddr Try.prog 23 x1 x19) fun x20 =>
    bnd (pLoad Try.prog 42 x20 h) fun x21 =>
    bnd (pAlloc Try.prog 42 h) fun x5 =>
    bnd (kSt (pStore Try.prog 42 x5.1 x21 x5.2)) fun u =>
    K .normal (act 42 [(2, x2), (5, x5.1)]) u.2 := kq_reg
theorem r27_4  : kCode env 27 false inv k (cp c27 30) (act 42 [(2, x2), (5, x5)]) h K =
    bnd (pFieldAddr Try.prog 42 x5 0) fun x22 =>
    bnd (pLoad Try.prog 3 x22 h) fun x23 =>
    bnd (pBin Try.prog .eql 3 (.tmp 23) (.const (.int .i64 0)) x23 (.int .i64 0)) fun x24 =>
    K .normal (act 42 [(2, x2), (5, x5), (6, x24)]) h := kq_reg
theorem r27_5  : kCode env 27 false inv k (cp c27 124) (act 42 [(2, x2), (5, x5), (6, x6)]) h K =
    bnd (pFieldAddr Try.prog 48 x2 0) fun x25 =>
    bnd (pLoad Try.prog 3 x25 h) fun x26 =>
    bnd (pBin Try.prog .eql 3 (.tmp 26) (.const (.int .i64 5)) x26 (.int .i64 5)) fun x27 =>
    K .normal (act 42 [(2, x2), (5, x5), (6, x6), (27, x27)]) h := kq_reg
theorem b27_rlrrrr  : kCode env 27 false inv k (cp c27 125) (act 42 [(2, x2), (5, x5), (6, x6), (27, x27)]) h K = brV x27 (kCode env 27 false inv k (cp c27 250) (act 42 [(2, x2), (5, x5), (6, x6), (27, x27)]) h K) (kCode env 27 false inv k (cp c27 251) (act 42 [(2, x2), (5, x5), (6, x6), (27, x27)]) h K) := kq_cond
theorem r27_6  : kCode env 27 false inv k (cp c27 500) (act 42 [(2, x2), (5, x5), (6, x6), (27, x27)]) h K =
    K .normal (act 42 [(4, x6)]) h := kq_reg
noncomputable abbrev G27_7 {β : Type} (inv : Inv) (x2 x5 x6 : Value) (h : AH) (K : Value → AH → Option β) : Option β :=
    bnd (pUn Try.prog .not x6) fun x30 =>
    bnd (gd3 (some x30) true h (inv (.func 45) #[] #[] h)) fun x32 =>
    bnd (gd3 (some x30) true x32.2.1 (lt (pFieldAddr Try.prog 48 x2 0) x32.2.1)) fun x33 =>
    bnd (gd3 (some x30) true x33.2.1 (lt (pLoad Try.prog 3 x33.1 x33.2.1) x33.2.1)) fun x34 =>
    bnd (gd3 (some x30) true x34.2.1 (lt (pLookup Try.prog 77 x32.1 x34.1 false x34.2.1) x34.2.1)) fun x35 =>
    bnd (gd3 (some x30) true x35.2.1 (lt (pLoad Try.prog 42 x5 x35.2.1) x35.2.1)) fun x36 =>
    bnd (gd3 (some x30) true x36.2.1 (lt (pFieldAddr Try.prog 48 x2 2) x36.2.1)) fun x37 =>
    bnd (gd3 (some x30) true x37.2.1 (lt (pLoad Try.prog 42 x37.1 x37.2.1) x37.2.1)) fun x38 =>
    bnd (gd3 (some x30) true x38.2.1 (inv (.func 46) #[] #[x36.1, x38.1] x38.2.1)) fun x39 =>
    bnd (gd3 (some x30) true x39.2.1 (callV inv x35.1 #[x39.1] x39.2.1)) fun x40 =>
    bnd (pickV x30 x40.1 (.bool false)) fun x41 =>
    chkK ((!x34.2.2 || !x32.2.2 || (sameO (pLoad Try.prog 3 x33.1 h) x34.1 && sameO (pLoad Try.prog 3 x33.1 x32.2.1) x34.1)) && ((!x34.2.2 || !x39.2.2 || (sameO (pLoad Try.prog 3 x33.1 x38.2.1) x34.1 && sameO (pLoad Try.prog 3 x33.1 x39.2.1) x34.1)) && ((!x35.2.2 || !x39.2.2 || (sameO (pLookup Try.prog 77 x32.1 x34.1 false x38.2.1) x35.1 && sameO (pLookup Try.prog 77 x32.1 x34.1 false x39.2.1) x35.1)) && ((!x36.2.2 || !x32.2.2 || (sameO (pLoad Try.prog 42 x5 h) x36.1 && sameO (pLoad Try.prog 42 x5 x32.2.1) x36.1)) && ((!x38.2.2 || !x32.2.2 || (sameO (pLoad Try.prog 42 x37.1 h) x38.1 && sameO (pLoad Try.prog 42 x37.1 x32.2.1) x38.1)) && true))))) <|
    K (x41) x40.2.1
theorem r27_7  : kCode env 27 false inv k (cp c27 126) (act 42 [(2, x2), (5, x5), (6, x6), (27, x27)]) h K =
    G27_7 inv x2 x5 x6 h fun y4 h => K .normal (act 42 [(4, y4)]) h := kq_draw
/-- shadowbook/pred.leaf -/
noncomputable def F27 (inv : Inv) (k : Nat) (x0 x1 : Value) (h : AH) : Option (Value × AH) :=
    bnd (pBox Try.prog 48 x0 h) fun x2 =>
    G27_1 inv x1 x2.1 x2.2 fun y16 h =>
    brV y16
    (some ((.bool false), h))
    (bnd (pFieldAddr Try.prog 48 x2.1 1) fun x18 =>
    bnd (pLoad Try.prog 3 x18 h) fun x19 =>
    bnd (pIndexAddr Try.prog 23 x1 x19) fun x20 =>
    bnd (pLoad Try.prog 42 x20 h) fun x21 =>
    bnd (pAlloc Try.prog 42 h) fun x5 =>
    bnd (kSt (pStore Try.prog 42 x5.1 x21 x5.2)) fun u =>
    bnd (pFieldAddr Try.prog 42 x5.1 0) fun x22 =>
    bnd (pLoad Try.prog 3 x22 u.2) fun x23 =>
    bnd (pBin Try.prog .eql 3 (.tmp 23) (.const (.int .i64 0)) x23 (.int .i64 0)) fun x24 =>
    bnd (pFieldAddr Try.prog 48 x2.1 0) fun x25 =>
    bnd (pLoad Try.prog 3 x25 u.2) fun x26 =>
    bnd (pBin Try.prog .eql 3 (.tmp 26) (.const (.int .i64 5)) x26 (.int .i64 5)) fun x27 =>
    brV x27
    (some (x24, u.2))
    (G27_7 inv x2.1 x5.1 x24 u.2 fun y4 h_1 =>
    some (y4, h_1)))
theorem F27_eq : eFun env k inv 27 #[x0, x1] h = F27 inv k x0 x1 h := by
      refine (kq_fun (a := act 42 [(0, x0), (1, x1)]) (c := cp c27 1)).trans ?_
      unfold F27
      simp only [kq_seq c27 1, r27_0, kq_seq c27 3, kq_seq c27 6, r27_1, b27_rlr, kq_seq c27 26, r27_2, kq_ret c27 53, res27_0, kq_skip c27 27, kq_seq c27 7, r27_3, kq_seq c27 15, r27_4, kq_seq c27 31, kq_seq c27 62, r27_5, b27_rlrrrr, kq_seq c27 250, r27_6, kq_ret c27 501, kq_skip c27 251, kq_seq c27 63, r27_7, kq_ret c27 127, reduceIte, reduceCtorEq, XE.exit.injEq, Nat.reduceEqDiff, Nat.reduceMul, Nat.reduceAdd] <;> kernel_rfl
theorem F27_call : eInv env (k + 1) (.func 27) #[] #[x0, x1] h = F27 (eInv env k) k x0 x1 h := kq_inv F27_eq
noncomputable def c28 : Code := codeOf Try.prog 28
theorem r28_0  : kCode env 28 false inv k (cp c28 2) (act 9 [(0, x0), (1, x1)]) h K =
    K .normal (act 9 [(0, x0), (1, x1)]) h := kq_reg
theorem r28_1  : kCode env 28 false inv k (cp c28 6) (act 9 [(0, x0), (1, x1)]) h K =
    bnd (inv (.func 47) #[] #[x0, x1] h) fun x7 =>
    bnd (pBin Try.prog .geq 3 (.tmp 7) (.const (.int .i64 0)) x7.1 (.int .i64 0)) fun x8 =>
    K .normal (act 9 [(4, x8)]) x7.2 := kq_reg
theorem res28_0 : resOfFn env.P 28 .ret (act 9 [(4, x4)]) h = some (x4, h) := kq_res
/-- slices.Contains[[]bool,bool] -/
noncomputable def F28 (inv : Inv) (k : Nat) (x0 x1 : Value) (h : AH) : Option (Value × AH) :=
    bnd (inv (.func 47) #[] #[x0, x1] h) fun x7 =>
    bnd (pBin Try.prog .geq 3 (.tmp 7) (.const (.int .i64 0)) x7.1 (.int .i64 0)) fun x8 =>
    some (x8, x7.2)
theorem F28_eq : eFun env k inv 28 #[x0, x1] h = F28 inv k x0 x1 h := by
      refine (kq_fun (a := act 9 [(0, x0), (1, x1)]) (c := cp c28 1)).trans ?_
      unfold F28
      simp only [kq_seq c28 1, r28_0, kq_seq c28 3, r28_1, kq_ret c28 7, res28_0, reduceIte, reduceCtorEq, XE.exit.injEq, Nat.reduceEqDiff, Nat.reduceMul, Nat.reduceAdd] <;> kernel_rfl
theorem F28_call : eInv env (k + 1) (.func 28) #[] #[x0, x1] h = F28 (eInv env k) k x0 x1 h := kq_inv F28_eq
noncomputable def c29 : Code := codeOf Try.prog 29
theorem r29_0  : kCode env 29 false inv k (cp c29 2) (act 8 [(0, x0)]) h K =
    K .normal (act 8 [(0, x0)]) h := kq_reg
theorem r29_1  : kCode env 29 false inv k (cp c29 12) (act 8 [(0, x0)]) h K =
    bnd (pBin Try.prog .eql 46 (.tmp 3) (.const (.slice none 0 0)) x0 (.slice none 0 0)) fun x4 =>
    K .normal (act 8 [(0, x0), (4, x4)]) h := kq_reg
theorem b29_rlr  : kCode env 29 false inv k (cp c29 13) (act 8 [(0, x0), (4, x4)]) h K = brV x4 (kCode env 29 false inv k (cp c29 26) (act 8 [(0, x0), (4, x4)]) h K) (kCode env 29 false inv k (cp c29 27) (act 8 [(0, x0), (4, x4)]) h K) := kq_cond
theorem r29_2  : kCode env 29 false inv k (cp c29 52) (act 8 [(0, x0), (4, x4)]) h K =
    K .normal (act 8 [(2, (.slice none 0 0))]) h := kq_reg
theorem res29_0 : resOfFn env.P 29 .ret (act 8 [(2, x2)]) h = some (x2, h) := kq_res
theorem r29_3  : kCode env 29 false inv k (cp c29 14) (act 8 [(0, x0), (4, x4)]) h K =
    bnd (pBuildSlice Try.prog 46 0 #[] h) fun x5 =>
    bnd (pAppend Try.prog #[46, 46] x5.1 x0 x5.2) fun x7 =>
    K .normal (act 8 [(2, x7.1)]) x7.2 := kq_reg
/-- slices.Clone[[]int,int] -/
noncomputable def F29 (inv : Inv) (k : Nat) (x0 : Value) (h : AH) : Option (Value × AH) :=
    bnd (pBin Try.prog .eql 46 (.tmp 3) (.const (.slice none 0 0)) x0 (.slice none 0 0)) fun x4 =>
    brV x4
    (some ((.slice none 0 0), h))
    (bnd (pBuildSlice Try.prog 46 0 #[] h) fun x5 =>
    bnd (pAppend Try.prog #[46, 46] x5.1 x0 x5.2) fun x7 =>
    some (x7.1, x7.2))
theorem F29_eq : eFun env k inv 29 #[x0] h = F29 inv k x0 h := by
      refine (kq_fun (a := act 8 [(0, x0)]) (c := cp c29 1)).trans ?_
      unfold F29
      simp only [kq_seq c29 1, r29_0, kq_seq c29 3, kq_seq c29 6, r29_1, b29_rlr, kq_seq c29 26, r29_2, kq_ret c29 53, res29_0, kq_skip c29 27, kq_seq c29 7, r29_3, kq_ret c29 15, reduceIte, reduceCtorEq, XE.exit.injEq, Nat.reduceEqDiff, Nat.reduceMul, Nat.reduceAdd] <;> kernel_rfl
theorem F29_call : eInv env (k + 1) (.func 29) #[] #[x0] h = F29 (eInv env k) k x0 h := kq_inv F29_eq
noncomputable def c45 : Code := codeOf Try.prog 45
theorem r45_0  : kCode env 45 false inv k (cp c45 2) (act 3 []) h K =
    K .normal (act 3 []) h := kq_reg
theorem r45_1  : kCode env 45 false inv k (cp c45 6) (act 3 []) h K =
    bnd (pMakeMap Try.prog 77 none h) fun x1 =>
    bnd (kSt (pUpdate Try.prog 77 x1.1 (.int .i64 2) (.func (.func 59) #[] #[]) x1.2)) fun u =>
    bnd (kSt (pUpdate Try.prog 77 x1.1 (.int .i64 3) (.func (.func 60) #[] #[]) u.2)) fun u_1 =>
    bnd (kSt (pUpdate Try.prog 77 x1.1 (.int .i64 4) (.func (.func 61) #[] #[]) u_1.2)) fun u_2 =>
    K .normal (act 3 [(0, x1.1)]) u_2.2 := kq_reg
theorem res45_0 : resOfFn env.P 45 .ret (act 3 [(0, x0)]) h = some (x0, h) := kq_res
/-- shadowbook/pred.orders -/
noncomputable def F45 (inv : Inv) (k : Nat) (h : AH) : Option (Value × AH) :=
    bnd (pMakeMap Try.prog 77 none h) fun x1 =>
    bnd (kSt (pUpdate Try.prog 77 x1.1 (.int .i64 2) (.func (.func 59) #[] #[]) x1.2)) fun u =>
    bnd (kSt (pUpdate Try.prog 77 x1.1 (.int .i64 3) (.func (.func 60) #[] #[]) u.2)) fun u_3 =>
    bnd (kSt (pUpdate Try.prog 77 x1.1 (.int .i64 4) (.func (.func 61) #[] #[]) u_3.2)) fun u_4 =>
    some (x1.1, u_4.2)
theorem F45_eq : eFun env k inv 45 #[] h = F45 inv k  h := by
      refine (kq_fun (a := act 3 []) (c := cp c45 1)).trans ?_
      unfold F45
      simp only [kq_seq c45 1, r45_0, kq_seq c45 3, r45_1, kq_ret c45 7, res45_0, reduceIte, reduceCtorEq, XE.exit.injEq, Nat.reduceEqDiff, Nat.reduceMul, Nat.reduceAdd] <;> kernel_rfl
theorem F45_call : eInv env (k + 1) (.func 45) #[] #[] h = F45 (eInv env k) k  h := kq_inv F45_eq
noncomputable def c46 : Code := codeOf Try.prog 46
theorem r46_0  : kCode env 46 false inv k (cp c46 2) (act 22 [(0, x0), (1, x1)]) h K =
    bnd (pBox Try.prog 42 x0 h) fun x2 =>
    bnd (pBox Try.prog 42 x1 x2.2) fun x3 =>
    K .normal (act 22 [(2, x2.1), (3, x3.1)]) x3.2 := kq_reg
noncomputable abbrev G46_1 {β : Type} (inv : Inv) (x2 x3 : Value) (h : AH) (K : Value → AH → Option β) : Option β :=
    bnd (pFieldAddr Try.prog 42 x2 0) fun x5 =>
    bnd (pLoad Try.prog 3 x5 h) fun x6 =>
    bnd (pFieldAddr Try.prog 42 x3 0) fun x7 =>
    bnd (pLoad Try.prog 3 x7 h) fun x8 =>
    bnd (inv (.func 63) #[] #[x6, x8] h) fun x9 =>
    bnd (pFieldAddr Try.prog 42 x2 1) fun x10 =>
    bnd (pLoad Try.prog 2 x10 x9.2) fun x11 =>
    bnd (pFieldAddr Try.prog 42 x3 1) fun x12 =>
    bnd (pLoad Try.prog 2 x12 x9.2) fun x13 =>
    bnd (inv (.func 64) #[] #[x11, x13] x9.2) fun x14 =>
    bnd (pFieldAddr Try.prog 42 x2 2) fun x15 =>
    bnd (pLoad Try.prog 9 x15 x14.2) fun x16 =>
    bnd (pFieldAddr Try.prog 42 x3 2) fun x17 =>
    bnd (pLoad Try.prog 9 x17 x14.2) fun x18 =>
    bnd (inv (.func 65) #[] #[x16, x18] x14.2) fun x19 =>
    bnd (pBuildSlice Try.prog 46 3 #[(0, x9.1), (1, x14.1), (2, x19.1)] x19.2) fun x20 =>
    bnd (inv (.func 62) #[] #[x20.1] x20.2) fun x21 =>
    chkK ((!true || !true || (sameO (pLoad Try.prog 2 x10 h) x11 && sameO (pLoad Try.prog 2 x10 x9.2) x11)) && ((!true || !true || (sameO (pLoad Try.prog 2 x12 h) x13 && sameO (pLoad Try.prog 2 x12 x9.2) x13)) && ((!true || !true || (sameO (pLoad Try.prog 9 x15 h) x16 && sameO (pLoad Try.prog 9 x15 x9.2) x16)) && ((!true || !true || (sameO (pLoad Try.prog 9 x15 x9.2) x16 && sameO (pLoad Try.prog 9 x15 x14.2) x16)) && ((!true || !true || (sameO (pLoad Try.prog 9 x17 h) x18 && sameO (pLoad Try.prog 9 x17 x9.2) x18)) && ((!true || !true || (sameO (pLoad Try.prog 9 x17 x9.2) x18 && sameO (pLoad Try.prog 9 x17 x14.2) x18)) && true)))))) <|
    K (x21.1) x21.2
theorem r46_1  : kCode env 46 false inv k (cp c46 6) (act 22 [(2, x2), (3, x3)]) h K =
    G46_1 inv x2 x3 h fun y4 h => K .normal (act 22 [(4, y4)]) h := kq_draw
theorem res46_0 : resOfFn env.P 46 .ret (act 22 [(4, x4)]) h = some (x4, h) := kq_res
/-- shadowbook/value.Compare -/
noncomputable def F46 (inv : Inv) (k : Nat) (x0 x1 : Value) (h : AH) : Option (Value × AH) :=
    bnd (pBox Try.prog 42 x0 h) fun x2 =>
    bnd (pBox Try.prog 42 x1 x2.2) fun x3 =>
    G46_1 inv x2.1 x3.1 x3.2 fun y4 h =>
    some (y4, h)
theorem F46_eq : eFun env k inv 46 #[x0, x1] h = F46 inv k x0 x1 h := by
      refine (kq_fun (a := act 22 [(0, x0), (1, x1)]) (c := cp c46 1)).trans ?_
      unfold F46
      simp only [kq_seq c46 1, r46_0, kq_seq c46 3, r46_1, kq_ret c46 7, res46_0, reduceIte, reduceCtorEq, XE.exit.injEq, Nat.reduceEqDiff, Nat.reduceMul, Nat.reduceAdd] <;> kernel_rfl
theorem F46_call : eInv env (k + 1) (.func 46) #[] #[x0, x1] h = F46 (eInv env k) k x0 x1 h := kq_inv F46_eq
noncomputable def c47 : Code := codeOf Try.prog 47
theorem r47_0  : kCode env 47 false inv k (cp c47 2) (act 19 [(0, x0), (1, x1)]) h K =
    K .normal (act 19 [(0, x0), (1, x1)]) h := kq_reg
theorem r47_1  : kCode env 47 false inv k (cp c47 12) (act 19 [(0, x0), (1, x1)]) h K =
    bnd (pLen Try.prog #[60] x0 h) fun x7 =>
    K .normal (act 19 [(0, x0), (1, x1), (7, x7), (8, (.int .i64 0))]) h := kq_reg
theorem r47_2  : kCode env 47 false inv k (cp c47 104) (act 19 [(0, x0), (1, x1), (7, x7), (8, x8)]) h K =
    bnd (pBin Try.prog .lss 3 (.tmp 8) (.tmp 7) x8 x7) fun x9 =>
    K .normal (act 19 [(0, x0), (1, x1), (7, x7), (8, x8), (9, x9)]) h := kq_reg
theorem b47_lrllrlr  : kCode env 47 false inv k (cp c47 210) (act 19 [(0, x0), (1, x1), (7, x7), (8, x8), (9, x9)]) h K = brV x9 (kCode env 47 false inv k (cp c47 420) (act 19 [(0, x0), (1, x1), (7, x7), (8, x8), (9, x9)]) h K) (kCode env 47 false inv k (cp c47 421) (act 19 [(0, x0), (1, x1), (7, x7), (8, x8), (9, x9)]) h K) := kq_cond
theorem r47_3  : kCode env 47 false inv k (cp c47 1688) (act 19 [(0, x0), (1, x1), (7, x7), (8, x8), (9, x9)]) h K =
    K .normal (act 19 [(0, x0), (1, x1), (5, x8), (7, x7), (8, x8)]) h := kq_reg
theorem r47_4  : kCode env 47 false inv k (cp c47 3378) (act 19 [(0, x0), (1, x1), (5, x5), (7, x7), (8, x8)]) h K =
    bnd (pIndexAddr Try.prog 60 x0 x5) fun x14 =>
    bnd (pLoad Try.prog 4 x14 h) fun x15 =>
    bnd (pBin Try.prog .eql 4 (.tmp 11) (.tmp 15) x1 x15) fun x16 =>
    K .normal (act 19 [(0, x0), (1, x1), (5, x5), (7, x7), (8, x8), (16, x16)]) h := kq_reg
theorem b47_rrllrrllrlr  : kCode env 47 false inv k (cp c47 3379) (act 19 [(0, x0), (1, x1), (5, x5), (7, x7), (8, x8), (16, x16)]) h K = brV x16 (kCode env 47 false inv k (cp c47 6758) (act 19 [(0, x0), (1, x1), (5, x5), (7, x7), (8, x8), (16, x16)]) h K) (kCode env 47 false inv k (cp c47 6759) (act 19 [(0, x0), (1, x1), (5, x5), (7, x7), (8, x8), (16, x16)]) h K) := kq_cond
theorem r47_5  : kCode env 47 false inv k (cp c47 13516) (act 19 [(0, x0), (1, x1), (5, x5), (7, x7), (8, x8), (16, x16)]) h K =
    K .normal (act 19 [(4, x5)]) h := kq_reg
theorem r47_6  : kCode env 47 false inv k (cp c47 423) (act 19 [(0, x0), (1, x1), (5, x5), (7, x7), (8, x8), (16, x16)]) h K =
    bnd (pBin Try.prog .add 3 (.tmp 8) (.const (.int .i64 1)) x8 (.int .i64 1)) fun x18 =>
    K .normal (act 19 [(0, x0), (1, x1), (7, x7), (8, x18)]) h := kq_reg
noncomputable def F47_lrlr {β : Type} (inv : Inv) (k : Nat) : Nat → Value → Value → Value → Value → AH → (Value → Value → Value → Value → Value → AH → Option β) → (Value → AH → Option β) → Option β
  | 0, _, _, _, _, _, _, _ => none
  | j + 1, x0, x1, x7, x8, h, ke0, kr =>
    bnd (pBin Try.prog .lss 3 (.tmp 8) (.tmp 7) x8 x7) fun x9 =>
    brV x9
    (bnd (pIndexAddr Try.prog 60 x0 x8) fun x14 =>
    bnd (pLoad Try.prog 4 x14 h) fun x15 =>
    bnd (pBin Try.prog .eql 4 (.tmp 11) (.tmp 15) x1 x15) fun x16 =>
    brV x16
    (kr x8 h)
    (bnd (pBin Try.prog .add 3 (.tmp 8) (.const (.int .i64 1)) x8 (.int .i64 1)) fun x18 =>
    F47_lrlr inv k j x0 x1 x7 x18 h ke0 kr))
    (ke0 x0 x1 x7 x8 x9 h)
theorem F47_lrlr_j (j : Nat) : kLoop (kCode env 47 false inv k (cp c47 52)) j (act 19 [(0, x0), (1, x1), (7, x7), (8, x8)]) h K = F47_lrlr inv k j x0 x1 x7 x8 h (fun y0 y1 y7 y8 y9 h => K (.exit 0) (act 19 [(0, y0), (1, y1), (7, y7), (8, y8), (9, y9)]) h) (fun y4 h => K .ret (act 19 [(4, y4)]) h) := by
      induction j generalizing x0 x1 x7 x8 h with
      | zero => rfl
      | succ j ih =>
        unfold F47_lrlr
        simp only [kLoop, kq_seq c47 52, r47_2, kq_seq c47 105, b47_lrllrlr, kq_skip c47 420, kq_seq c47 211, kq_block c47 422 1, kq_seq c47 844, r47_3, kq_seq c47 1689, r47_4, b47_rrllrrllrlr, kq_seq c47 6758, r47_5, kq_ret c47 13517, kq_skip c47 6759, r47_6, kq_exit c47 421 0, ih, reduceIte, reduceCtorEq, XE.exit.injEq, Nat.reduceEqDiff, Nat.reduceMul, Nat.reduceAdd] <;> kernel_rfl
theorem F47_lrlr_eq  : kCode env 47 false inv k (cp c47 26) (act 19 [(0, x0), (1, x1), (7, x7), (8, x8)]) h K = F47_lrlr inv k k x0 x1 x7 x8 h (fun y0 y1 y7 y8 y9 h => K (.exit 0) (act 19 [(0, y0), (1, y1), (7, y7), (8, y8), (9, y9)]) h) (fun y4 h => K .ret (act 19 [(4, y4)]) h) := kq_loop (F47_lrlr_j k)
theorem r47_7  : kCode env 47 false inv k (cp c47 14) (act 19 [(0, x0), (1, x1), (7, x7), (8, x8), (9, x9)]) h K =
    K .normal (act 19 [(4, (.int .i64 (-1)))]) h := kq_reg
theorem res47_0 : resOfFn env.P 47 .ret (act 19 [(4, x4)]) h = some (x4, h) := kq_res
/-- slices.Index[[]bool,bool] -/
noncomputable def F47 (inv : Inv) (k : Nat) (x0 x1 : Value) (h : AH) : Option (Value × AH) :=
    bnd (pLen Try.prog #[60] x0 h) fun x7 =>
    F47_lrlr inv k k x0 x1 x7 (.int .i64 0) h
    (fun y0 y1 y7 y8 y9 h =>
    some ((.int .i64 (-1)), h))
    (fun y4 h_1 =>
    some (y4, h_1))
theorem F47_eq : eFun env k inv 47 #[x0, x1] h = F47 inv k x0 x1 h := by
      refine (kq_fun (a := act 19 [(0, x0), (1, x1)]) (c := cp c47 1)).trans ?_
      unfold F47
      simp only [kq_seq c47 1, r47_0, kq_seq c47 3, kq_seq c47 6, r47_1, kq_block c47 13 0, F47_lrlr_eq, kq_seq c47 7, r47_7, kq_ret c47 15, res47_0, reduceIte, reduceCtorEq, XE.exit.injEq, Nat.reduceEqDiff, Nat.reduceMul, Nat.reduceAdd] <;> kernel_rfl
theorem F47_call : eInv env (k + 1) (.func 47) #[] #[x0, x1] h = F47 (eInv env k) k x0 x1 h := kq_inv F47_eq
noncomputable def c59 : Code := codeOf Try.prog 59
theorem r59_0  : kCode env 59 false inv k (cp c59 2) (act 5 [(0, x0)]) h K =
    K .normal (act 5 [(0, x0)]) h := kq_reg
theorem r59_1  : kCode env 59 false inv k (cp c59 6) (act 5 [(0, x0)]) h K =
    bnd (pBin Try.prog .eql 3 (.tmp 3) (.const (.int .i64 0)) x0 (.int .i64 0)) fun x4 =>
    K .normal (act 5 [(2, x4)]) h := kq_reg
theorem res59_0 : resOfFn env.P 59 .ret (act 5 [(2, x2)]) h = some (x2, h) := kq_res
/-- shadowbook/pred.orders$1 -/
noncomputable def F59 (inv : Inv) (k : Nat) (x0 : Value) (h : AH) : Option (Value × AH) :=
    bnd (pBin Try.prog .eql 3 (.tmp 3) (.const (.int .i64 0)) x0 (.int .i64 0)) fun x4 =>
    some (x4, h)
theorem F59_eq : eFun env k inv 59 #[x0] h = F59 inv k x0 h := by
      refine (kq_fun (a := act 5 [(0, x0)]) (c := cp c59 1)).trans ?_
      unfold F59
      simp only [kq_seq c59 1, r59_0, kq_seq c59 3, r59_1, kq_ret c59 7, res59_0, reduceIte, reduceCtorEq, XE.exit.injEq, Nat.reduceEqDiff, Nat.reduceMul, Nat.reduceAdd] <;> kernel_rfl
theorem F59_call : eInv env (k + 1) (.func 59) #[] #[x0] h = F59 (eInv env k) k x0 h := kq_inv F59_eq
noncomputable def c60 : Code := codeOf Try.prog 60
theorem r60_0  : kCode env 60 false inv k (cp c60 2) (act 5 [(0, x0)]) h K =
    K .normal (act 5 [(0, x0)]) h := kq_reg
theorem r60_1  : kCode env 60 false inv k (cp c60 6) (act 5 [(0, x0)]) h K =
    bnd (pBin Try.prog .lss 3 (.tmp 3) (.const (.int .i64 0)) x0 (.int .i64 0)) fun x4 =>
    K .normal (act 5 [(2, x4)]) h := kq_reg
theorem res60_0 : resOfFn env.P 60 .ret (act 5 [(2, x2)]) h = some (x2, h) := kq_res
/-- shadowbook/pred.orders$2 -/
noncomputable def F60 (inv : Inv) (k : Nat) (x0 : Value) (h : AH) : Option (Value × AH) :=
    bnd (pBin Try.prog .lss 3 (.tmp 3) (.const (.int .i64 0)) x0 (.int .i64 0)) fun x4 =>
    some (x4, h)
theorem F60_eq : eFun env k inv 60 #[x0] h = F60 inv k x0 h := by
      refine (kq_fun (a := act 5 [(0, x0)]) (c := cp c60 1)).trans ?_
      unfold F60
      simp only [kq_seq c60 1, r60_0, kq_seq c60 3, r60_1, kq_ret c60 7, res60_0, reduceIte, reduceCtorEq, XE.exit.injEq, Nat.reduceEqDiff, Nat.reduceMul, Nat.reduceAdd] <;> kernel_rfl
theorem F60_call : eInv env (k + 1) (.func 60) #[] #[x0] h = F60 (eInv env k) k x0 h := kq_inv F60_eq
noncomputable def c61 : Code := codeOf Try.prog 61
theorem r61_0  : kCode env 61 false inv k (cp c61 2) (act 5 [(0, x0)]) h K =
    K .normal (act 5 [(0, x0)]) h := kq_reg
theorem r61_1  : kCode env 61 false inv k (cp c61 6) (act 5 [(0, x0)]) h K =
    bnd (pBin Try.prog .gtr 3 (.tmp 3) (.const (.int .i64 0)) x0 (.int .i64 0)) fun x4 =>
    K .normal (act 5 [(2, x4)]) h := kq_reg
theorem res61_0 : resOfFn env.P 61 .ret (act 5 [(2, x2)]) h = some (x2, h) := kq_res
/-- shadowbook/pred.orders$3 -/
noncomputable def F61 (inv : Inv) (k : Nat) (x0 : Value) (h : AH) : Option (Value × AH) :=
    bnd (pBin Try.prog .gtr 3 (.tmp 3) (.const (.int .i64 0)) x0 (.int .i64 0)) fun x4 =>
    some (x4, h)
theorem F61_eq : eFun env k inv 61 #[x0] h = F61 inv k x0 h := by
      refine (kq_fun (a := act 5 [(0, x0)]) (c := cp c61 1)).trans ?_
      unfold F61
      simp only [kq_seq c61 1, r61_0, kq_seq c61 3, r61_1, kq_ret c61 7, res61_0, reduceIte, reduceCtorEq, XE.exit.injEq, Nat.reduceEqDiff, Nat.reduceMul, Nat.reduceAdd] <;> kernel_rfl
theorem F61_call : eInv env (k + 1) (.func 61) #[] #[x0] h = F61 (eInv env k) k x0 h := kq_inv F61_eq
noncomputable def c62 : Code := codeOf Try.prog 62
theorem r62_0  : kCode env 62 false inv k (cp c62 2) (act 18 [(0, x0)]) h K =
    K .normal (act 18 [(0, x0)]) h := kq_reg
theorem r62_1  : kCode env 62 false inv k (cp c62 6) (act 18 [(0, x0)]) h K =
    K .normal (act 18 [(0, x0), (3, (.int .i64 0))]) h := kq_reg
theorem r62_2  : kCode env 62 false inv k (cp c62 28) (act 18 [(0, x0), (3, x3)]) h K =
    bnd (pLen Try.prog #[46] x0 h) fun x7 =>
    K .normal (act 18 [(3, x3), (6, x0), (7, x7), (8, (.int .i64 0))]) h := kq_reg
theorem r62_3  : kCode env 62 false inv k (cp c62 232) (act 18 [(3, x3), (6, x6), (7, x7), (8, x8)]) h K =
    bnd (pBin Try.prog .lss 3 (.tmp 8) (.tmp 7) x8 x7) fun x9 =>
    K .normal (act 18 [(3, x3), (6, x6), (7, x7), (8, x8), (9, x9)]) h := kq_reg
theorem b62_lrllrlrr  : kCode env 62 false inv k (cp c62 466) (act 18 [(3, x3), (6, x6), (7, x7), (8, x8), (9, x9)]) h K = brV x9 (kCode env 62 false inv k (cp c62 932) (act 18 [(3, x3), (6, x6), (7, x7), (8, x8), (9, x9)]) h K) (kCode env 62 false inv k (cp c62 933) (act 18 [(3, x3), (6, x6), (7, x7), (8, x8), (9, x9)]) h K) := kq_cond
theorem r62_4  : kCode env 62 false inv k (cp c62 3736) (act 18 [(3, x3), (6, x6), (7, x7), (8, x8), (9, x9)]) h K =
    bnd (pIndexAddr Try.prog 46 x6 x8) fun x10 =>
    bnd (pLoad Try.prog 3 x10 h) fun x11 =>
    K .normal (act 18 [(3, x3), (5, x11), (6, x6), (7, x7), (8, x8)]) h := kq_reg
theorem r62_5  : kCode env 62 false inv k (cp c62 7474) (act 18 [(3, x3), (5, x5), (6, x6), (7, x7), (8, x8)]) h K =
    bnd (pBin Try.prog .neq 3 (.tmp 12) (.tmp 13) x5 x3) fun x14 =>
    K .normal (act 18 [(3, x3), (5, x5), (6, x6), (7, x7), (8, x8), (14, x14)]) h := kq_reg
theorem b62_rrllrrllrlrr  : kCode env 62 false inv k (cp c62 7475) (act 18 [(3, x3), (5, x5), (6, x6), (7, x7), (8, x8), (14, x14)]) h K = brV x14 (kCode env 62 false inv k (cp c62 14950) (act 18 [(3, x3), (5, x5), (6, x6), (7, x7), (8, x8), (14, x14)]) h K) (kCode env 62 false inv k (cp c62 14951) (act 18 [(3, x3), (5, x5), (6, x6), (7, x7), (8, x8), (14, x14)]) h K) := kq_cond
theorem r62_6  : kCode env 62 false inv k (cp c62 29900) (act 18 [(3, x3), (5, x5), (6, x6), (7, x7), (8, x8), (14, x14)]) h K =
    K .normal (act 18 [(2, x5)]) h := kq_reg
theorem r62_7  : kCode env 62 false inv k (cp c62 935) (act 18 [(3, x3), (5, x5), (6, x6), (7, x7), (8, x8), (14, x14)]) h K =
    bnd (pBin Try.prog .add 3 (.tmp 8) (.const (.int .i64 1)) x8 (.int .i64 1)) fun x16 =>
    K .normal (act 18 [(3, x3), (6, x6), (7, x7), (8, x16)]) h := kq_reg
noncomputable def F62_lrlrr {β : Type} (inv : Inv) (k : Nat) : Nat → Value → Value → Value → Value → AH → (Value → Value → Value → Value → Value → AH → Option β) → (Value → AH → Option β) → Option β
  | 0, _, _, _, _, _, _, _ => none
  | j + 1, x3, x6, x7, x8, h, ke0, kr =>
    bnd (pBin Try.prog .lss 3 (.tmp 8) (.tmp 7) x8 x7) fun x9 =>
    brV x9
    (bnd (pIndexAddr Try.prog 46 x6 x8) fun x10 =>
    bnd (pLoad Try.prog 3 x10 h) fun x11 =>
    bnd (pBin Try.prog .neq 3 (.tmp 12) (.tmp 13) x11 x3) fun x14 =>
    brV x14
    (kr x11 h)
    (bnd (pBin Try.prog .add 3 (.tmp 8) (.const (.int .i64 1)) x8 (.int .i64 1)) fun x16 =>
    F62_lrlrr inv k j x3 x6 x7 x16 h ke0 kr))
    (ke0 x3 x6 x7 x8 x9 h)
theorem F62_lrlrr_j (j : Nat) : kLoop (kCode env 62 false inv k (cp c62 116)) j (act 18 [(3, x3), (6, x6), (7, x7), (8, x8)]) h K = F62_lrlrr inv k j x3 x6 x7 x8 h (fun y3 y6 y7 y8 y9 h => K (.exit 0) (act 18 [(3, y3), (6, y6), (7, y7), (8, y8), (9, y9)]) h) (fun y2 h => K .ret (act 18 [(2, y2)]) h) := by
      induction j generalizing x3 x6 x7 x8 h with
      | zero => rfl
      | succ j ih =>
        unfold F62_lrlrr
        simp only [kLoop, kq_seq c62 116, r62_3, kq_seq c62 233, b62_lrllrlrr, kq_skip c62 932, kq_seq c62 467, kq_block c62 934 1, kq_seq c62 1868, r62_4, kq_seq c62 3737, r62_5, b62_rrllrrllrlrr, kq_seq c62 14950, r62_6, kq_ret c62 29901, kq_skip c62 14951, r62_7, kq_exit c62 933 0, ih, reduceIte, reduceCtorEq, XE.exit.injEq, Nat.reduceEqDiff, Nat.reduceMul, Nat.reduceAdd] <;> kernel_rfl
theorem F62_lrlrr_eq  : kCode env 62 false inv k (cp c62 58) (act 18 [(3, x3), (6, x6), (7, x7), (8, x8)]) h K = F62_lrlrr inv k k x3 x6 x7 x8 h (fun y3 y6 y7 y8 y9 h => K (.exit 0) (act 18 [(3, y3), (6, y6), (7, y7), (8, y8), (9, y9)]) h) (fun y2 h => K .ret (act 18 [(2, y2)]) h) := kq_loop (F62_lrlrr_j k)
theorem r62_8  : kCode env 62 false inv k (cp c62 30) (act 18 [(3, x3), (6, x6), (7, x7), (8, x8), (9, x9)]) h K =
    K .normal (act 18 [(2, x3)]) h := kq_reg
theorem res62_0 : resOfFn env.P 62 .ret (act 18 [(2, x2)]) h = some (x2, h) := kq_res
/-- cmp.Or[int] -/
noncomputable def F62 (inv : Inv) (k : Nat) (x0 : Value) (h : AH) : Option (Value × AH) :=
    bnd (pLen Try.prog #[46] x0 h) fun x7 =>
    F62_lrlrr inv k k (.int .i64 0) x0 x7 (.int .i64 0) h
    (fun y3 y6 y7 y8 y9 h =>
    some (y3, h))
    (fun y2 h_1 =>
    some (y2, h_1))
theorem F62_eq : eFun env k inv 62 #[x0] h = F62 inv k x0 h := by
      refine (kq_fun (a := act 18 [(0, x0)]) (c := cp c62 1)).trans ?_
      unfold F62
      simp only [kq_seq c62 1, r62_0, kq_seq c62 3, r62_1, kq_seq c62 7, kq_seq c62 14, r62_2, kq_block c62 29 0, F62_lrlrr_eq, kq_seq c62 15, r62_8, kq_ret c62 31, res62_0, reduceIte, reduceCtorEq, XE.exit.injEq, Nat.reduceEqDiff, Nat.reduceMul, Nat.reduceAdd] <;> kernel_rfl
theorem F62_call : eInv env (k + 1) (.func 62) #[] #[x0] h = F62 (eInv env k) k x0 h := kq_inv F62_eq
noncomputable def c63 : Code := codeOf Try.prog 63
theorem r63_0  : kCode env 63 false inv k (cp c63 2) (act 20 [(0, x0), (1, x1)]) h K =
    K .normal (act 20 [(0, x0), (1, x1)]) h := kq_reg
theorem r63_1  : kCode env 63 false inv k (cp c63 6) (act 20 [(0, x0), (1, x1)]) h K =
    bnd (inv (.func 78) #[] #[x0] h) fun x8 =>
    K .normal (act 20 [(0, x0), (1, x1), (5, x8.1)]) x8.2 := kq_reg
theorem r63_2  : kCode env 63 false inv k (cp c63 14) (act 20 [(0, x0), (1, x1), (5, x5)]) h K =
    bnd (inv (.func 78) #[] #[x1] h) fun x10 =>
    K .normal (act 20 [(0, x0), (1, x1), (5, x5), (6, x10.1)]) x10.2 := kq_reg
theorem r63_3  : kCode env 63 false inv k (cp c63 60) (act 20 [(0, x0), (1, x1), (5, x5), (6, x6)]) h K =
    K .normal (act 20 [(0, x0), (1, x1), (6, x6), (11, x5)]) h := kq_reg
theorem b63_rlrrr  : kCode env 63 false inv k (cp c63 61) (act 20 [(0, x0), (1, x1), (6, x6), (11, x11)]) h K = brV x11 (kCode env 63 false inv k (cp c63 122) (act 20 [(0, x0), (1, x1), (6, x6), (11, x11)]) h K) (kCode env 63 false inv k (cp c63 123) (act 20 [(0, x0), (1, x1), (6, x6), (11, x11)]) h K) := kq_cond
theorem r63_4  : kCode env 63 false inv k (cp c63 488) (act 20 [(0, x0), (1, x1), (6, x6), (11, x11)]) h K =
    K .normal (act 20 [(12, x6)]) h := kq_reg
theorem b63_rllrlrrr  : kCode env 63 false inv k (cp c63 489) (act 20 [(12, x12)]) h K = brV x12 (kCode env 63 false inv k (cp c63 978) (act 20 [(12, x12)]) h K) (kCode env 63 false inv k (cp c63 979) (act 20 [(12, x12)]) h K) := kq_cond
theorem r63_5  : kCode env 63 false inv k (cp c63 1956) (act 20 [(12, x12)]) h K =
    K .normal (act 20 [(4, (.int .i64 0))]) h := kq_reg
theorem res63_0 : resOfFn env.P 63 .ret (act 20 [(4, x4)]) h = some (x4, h) := kq_res
theorem r63_6  : kCode env 63 false inv k (cp c63 490) (act 20 [(12, x12)]) h K =
    K .normal (act 20 [(4, (.int .i64 (-1)))]) h := kq_reg
theorem r63_7  : kCode env 63 false inv k (cp c63 124) (act 20 [(0, x0), (1, x1), (6, x6), (11, x11)]) h K =
    K .normal (act 20 [(0, x0), (1, x1), (13, x6)]) h := kq_reg
theorem b63_rlrrrr  : kCode env 63 false inv k (cp c63 125) (act 20 [(0, x0), (1, x1), (13, x13)]) h K = brV x13 (kCode env 63 false inv k (cp c63 250) (act 20 [(0, x0), (1, x1), (13, x13)]) h K) (kCode env 63 false inv k (cp c63 251) (act 20 [(0, x0), (1, x1), (13, x13)]) h K) := kq_cond
theorem r63_8  : kCode env 63 false inv k (cp c63 500) (act 20 [(0, x0), (1, x1), (13, x13)]) h K =
    K .normal (act 20 [(4, (.int .i64 1))]) h := kq_reg
theorem r63_9  : kCode env 63 false inv k (cp c63 252) (act 20 [(0, x0), (1, x1), (13, x13)]) h K =
    bnd (pBin Try.prog .lss 3 (.tmp 14) (.tmp 15) x0 x1) fun x16 =>
    K .normal (act 20 [(0, x0), (1, x1), (16, x16)]) h := kq_reg
theorem b63_rlrrrrr  : kCode env 63 false inv k (cp c63 253) (act 20 [(0, x0), (1, x1), (16, x16)]) h K = brV x16 (kCode env 63 false inv k (cp c63 506) (act 20 [(0, x0), (1, x1), (16, x16)]) h K) (kCode env 63 false inv k (cp c63 507) (act 20 [(0, x0), (1, x1), (16, x16)]) h K) := kq_cond
theorem r63_10  : kCode env 63 false inv k (cp c63 1012) (act 20 [(0, x0), (1, x1), (16, x16)]) h K =
    K .normal (act 20 [(4, (.int .i64 (-1)))]) h := kq_reg
theorem r63_11  : kCode env 63 false inv k (cp c63 508) (act 20 [(0, x0), (1, x1), (16, x16)]) h K =
    bnd (pBin Try.prog .gtr 3 (.tmp 17) (.tmp 18) x0 x1) fun x19 =>
    K .normal (act 20 [(19, x19)]) h := kq_reg
theorem b63_rlrrrrrr  : kCode env 63 false inv k (cp c63 509) (act 20 [(19, x19)]) h K = brV x19 (kCode env 63 false inv k (cp c63 1018) (act 20 [(19, x19)]) h K) (kCode env 63 false inv k (cp c63 1019) (act 20 [(19, x19)]) h K) := kq_cond
theorem r63_12  : kCode env 63 false inv k (cp c63 2036) (act 20 [(19, x19)]) h K =
    K .normal (act 20 [(4, (.int .i64 1))]) h := kq_reg
theorem r63_13  : kCode env 63 false inv k (cp c63 510) (act 20 [(19, x19)]) h K =
    K .normal (act 20 [(4, (.int .i64 0))]) h := kq_reg
/-- cmp.Compare[int] -/
noncomputable def F63 (inv : Inv) (k : Nat) (x0 x1 : Value) (h : AH) : Option (Value × AH) :=
    bnd (inv (.func 78) #[] #[x0] h) fun x8 =>
    bnd (inv (.func 78) #[] #[x1] x8.2) fun x10 =>
    brV x8.1
    (brV x10.1
    (some ((.int .i64 0), x10.2))
    (some ((.int .i64 (-1)), x10.2)))
    (brV x10.1
    (some ((.int .i64 1), x10.2))
    (bnd (pBin Try.prog .lss 3 (.tmp 14) (.tmp 15) x0 x1) fun x16 =>
    brV x16
    (some ((.int .i64 (-1)), x10.2))
    (bnd (pBin Try.prog .gtr 3 (.tmp 17) (.tmp 18) x0 x1) fun x19 =>
    brV x19
    (some ((.int .i64 1), x10.2))
    (some ((.int .i64 0), x10.2)))))
theorem F63_eq : eFun env k inv 63 #[x0, x1] h = F63 inv k x0 x1 h := by
      refine (kq_fun (a := act 20 [(0, x0), (1, x1)]) (c := cp c63 1)).trans ?_
      unfold F63
      simp only [kq_seq c63 1, r63_0, kq_seq c63 3, r63_1, kq_seq c63 7, r63_2, kq_seq c63 15, kq_seq c63 30, r63_3, b63_rlrrr, kq_seq c63 122, kq_seq c63 244, r63_4, b63_rllrlrrr, kq_seq c63 978, r63_5, kq_ret c63 1957, res63_0, kq_skip c63 979, kq_seq c63 245, r63_6, kq_ret c63 491, kq_skip c63 123, kq_seq c63 31, kq_seq c63 62, r63_7, b63_rlrrrr, kq_seq c63 250, r63_8, kq_ret c63 501, kq_skip c63 251, kq_seq c63 63, kq_seq c63 126, r63_9, b63_rlrrrrr, kq_seq c63 506, r63_10, kq_ret c63 1013, kq_skip c63 507, kq_seq c63 127, kq_seq c63 254, r63_11, b63_rlrrrrrr, kq_seq c63 1018, r63_12, kq_ret c63 2037, kq_skip c63 1019, kq_seq c63 255, r63_13, kq_ret c63 511, reduceIte, reduceCtorEq, XE.exit.injEq, Nat.reduceEqDiff, Nat.reduceMul, Nat.reduceAdd] <;> kernel_rfl
theorem F63_call : eInv env (k + 1) (.func 63) #[] #[x0, x1] h = F63 (eInv env k) k x0 x1 h := kq_inv F63_eq
noncomputable def c64 : Code := codeOf Try.prog 64
theorem r64_0  : kCode env 64 false inv k (cp c64 2) (act 20 [(0, x0), (1, x1)]) h K =
    K .normal (act 20 [(0, x0), (1, x1)]) h := kq_reg
theorem r64_1  : kCode env 64 false inv k (cp c64 6) (act 20 [(0, x0), (1, x1)]) h K =
    bnd (inv (.func 79) #[] #[x0] h) fun x8 =>
    K .normal (act 20 [(0, x0), (1, x1), (5, x8.1)]) x8.2 := kq_reg
theorem r64_2  : kCode env 64 false inv k (cp c64 14) (act 20 [(0, x0), (1, x1), (5, x5)]) h K =
    bnd (inv (.func 79) #[] #[x1] h) fun x10 =>
    K .normal (act 20 [(0, x0), (1, x1), (5, x5), (6, x10.1)]) x10.2 := kq_reg
theorem r64_3  : kCode env 64 false inv k (cp c64 60) (act 20 [(0, x0), (1, x1), (5, x5), (6, x6)]) h K =
    K .normal (act 20 [(0, x0), (1, x1), (6, x6), (11, x5)]) h := kq_reg
theorem b64_rlrrr  : kCode env 64 false inv k (cp c64 61) (act 20 [(0, x0), (1, x1), (6, x6), (11, x11)]) h K = brV x11 (kCode env 64 false inv k (cp c64 122) (act 20 [(0, x0), (1, x1), (6, x6), (11, x11)]) h K) (kCode env 64 false inv k (cp c64 123) (act 20 [(0, x0), (1, x1), (6, x6), (11, x11)]) h K) := kq_cond
theorem r64_4  : kCode env 64 false inv k (cp c64 488) (act 20 [(0, x0), (1, x1), (6, x6), (11, x11)]) h K =
    K .normal (act 20 [(12, x6)]) h := kq_reg
theorem b64_rllrlrrr  : kCode env 64 false inv k (cp c64 489) (act 20 [(12, x12)]) h K = brV x12 (kCode env 64 false inv k (cp c64 978) (act 20 [(12, x12)]) h K) (kCode env 64 false inv k (cp c64 979) (act 20 [(12, x12)]) h K) := kq_cond
theorem r64_5  : kCode env 64 false inv k (cp c64 1956) (act 20 [(12, x12)]) h K =
    K .normal (act 20 [(4, (.int .i64 0))]) h := kq_reg
theorem res64_0 : resOfFn env.P 64 .ret (act 20 [(4, x4)]) h = some (x4, h) := kq_res
theorem r64_6  : kCode env 64 false inv k (cp c64 490) (act 20 [(12, x12)]) h K =
    K .normal (act 20 [(4, (.int .i64 (-1)))]) h := kq_reg
theorem r64_7  : kCode env 64 false inv k (cp c64 124) (act 20 [(0, x0), (1, x1), (6, x6), (11, x11)]) h K =
    K .normal (act 20 [(0, x0), (1, x1), (13, x6)]) h := kq_reg
theorem b64_rlrrrr  : kCode env 64 false inv k (cp c64 125) (act 20 [(0, x0), (1, x1), (13, x13)]) h K = brV x13 (kCode env 64 false inv k (cp c64 250) (act 20 [(0, x0), (1, x1), (13, x13)]) h K) (kCode env 64 false inv k (cp c64 251) (act 20 [(0, x0), (1, x1), (13, x13)]) h K) := kq_cond
theorem r64_8  : kCode env 64 false inv k (cp c64 500) (act 20 [(0, x0), (1, x1), (13, x13)]) h K =
    K .normal (act 20 [(4, (.int .i64 1))]) h := kq_reg
theorem r64_9  : kCode env 64 false inv k (cp c64 252) (act 20 [(0, x0), (1, x1), (13, x13)]) h K =
    bnd (pBin Try.prog .lss 2 (.tmp 14) (.tmp 15) x0 x1) fun x16 =>
    K .normal (act 20 [(0, x0), (1, x1), (16, x16)]) h := kq_reg
theorem b64_rlrrrrr  : kCode env 64 false inv k (cp c64 253) (act 20 [(0, x0), (1, x1), (16, x16)]) h K = brV x16 (kCode env 64 false inv k (cp c64 506) (act 20 [(0, x0), (1, x1), (16, x16)]) h K) (kCode env 64 false inv k (cp c64 507) (act 20 [(0, x0), (1, x1), (16, x16)]) h K) := kq_cond
theorem r64_10  : kCode env 64 false inv k (cp c64 1012) (act 20 [(0, x0), (1, x1), (16, x16)]) h K =
    K .normal (act 20 [(4, (.int .i64 (-1)))]) h := kq_reg
theorem r64_11  : kCode env 64 false inv k (cp c64 508) (act 20 [(0, x0), (1, x1), (16, x16)]) h K =
    bnd (pBin Try.prog .gtr 2 (.tmp 17) (.tmp 18) x0 x1) fun x19 =>
    K .normal (act 20 [(19, x19)]) h := kq_reg
theorem b64_rlrrrrrr  : kCode env 64 false inv k (cp c64 509) (act 20 [(19, x19)]) h K = brV x19 (kCode env 64 false inv k (cp c64 1018) (act 20 [(19, x19)]) h K) (kCode env 64 false inv k (cp c64 1019) (act 20 [(19, x19)]) h K) := kq_cond
theorem r64_12  : kCode env 64 false inv k (cp c64 2036) (act 20 [(19, x19)]) h K =
    K .normal (act 20 [(4, (.int .i64 1))]) h := kq_reg
theorem r64_13  : kCode env 64 false inv k (cp c64 510) (act 20 [(19, x19)]) h K =
    K .normal (act 20 [(4, (.int .i64 0))]) h := kq_reg
/-- cmp.Compare[int64] -/
noncomputable def F64 (inv : Inv) (k : Nat) (x0 x1 : Value) (h : AH) : Option (Value × AH) :=
    bnd (inv (.func 79) #[] #[x0] h) fun x8 =>
    bnd (inv (.func 79) #[] #[x1] x8.2) fun x10 =>
    brV x8.1
    (brV x10.1
    (some ((.int .i64 0), x10.2))
    (some ((.int .i64 (-1)), x10.2)))
    (brV x10.1
    (some ((.int .i64 1), x10.2))
    (bnd (pBin Try.prog .lss 2 (.tmp 14) (.tmp 15) x0 x1) fun x16 =>
    brV x16
    (some ((.int .i64 (-1)), x10.2))
    (bnd (pBin Try.prog .gtr 2 (.tmp 17) (.tmp 18) x0 x1) fun x19 =>
    brV x19
    (some ((.int .i64 1), x10.2))
    (some ((.int .i64 0), x10.2)))))
theorem F64_eq : eFun env k inv 64 #[x0, x1] h = F64 inv k x0 x1 h := by
      refine (kq_fun (a := act 20 [(0, x0), (1, x1)]) (c := cp c64 1)).trans ?_
      unfold F64
      simp only [kq_seq c64 1, r64_0, kq_seq c64 3, r64_1, kq_seq c64 7, r64_2, kq_seq c64 15, kq_seq c64 30, r64_3, b64_rlrrr, kq_seq c64 122, kq_seq c64 244, r64_4, b64_rllrlrrr, kq_seq c64 978, r64_5, kq_ret c64 1957, res64_0, kq_skip c64 979, kq_seq c64 245, r64_6, kq_ret c64 491, kq_skip c64 123, kq_seq c64 31, kq_seq c64 62, r64_7, b64_rlrrrr, kq_seq c64 250, r64_8, kq_ret c64 501, kq_skip c64 251, kq_seq c64 63, kq_seq c64 126, r64_9, b64_rlrrrrr, kq_seq c64 506, r64_10, kq_ret c64 1013, kq_skip c64 507, kq_seq c64 127, kq_seq c64 254, r64_11, b64_rlrrrrrr, kq_seq c64 1018, r64_12, kq_ret c64 2037, kq_skip c64 1019, kq_seq c64 255, r64_13, kq_ret c64 511, reduceIte, reduceCtorEq, XE.exit.injEq, Nat.reduceEqDiff, Nat.reduceMul, Nat.reduceAdd] <;> kernel_rfl
theorem F64_call : eInv env (k + 1) (.func 64) #[] #[x0, x1] h = F64 (eInv env k) k x0 x1 h := kq_inv F64_eq
noncomputable def c65 : Code := codeOf Try.prog 65
theorem r65_0  : kCode env 65 false inv k (cp c65 2) (act 8 [(0, x0), (1, x1)]) h K =
    K .normal (act 8 [(0, x0), (1, x1)]) h := kq_reg
theorem r65_1  : kCode env 65 false inv k (cp c65 6) (act 8 [(0, x0), (1, x1)]) h K =
    bnd (inv (.func 80) #[] #[x0, x1] h) fun x7 =>
    K .normal (act 8 [(4, x7.1)]) x7.2 := kq_reg
theorem res65_0 : resOfFn env.P 65 .ret (act 8 [(4, x4)]) h = some (x4, h) := kq_res
/-- strings.Compare -/
noncomputable def F65 (inv : Inv) (k : Nat) (x0 x1 : Value) (h : AH) : Option (Value × AH) :=
    bnd (inv (.func 80) #[] #[x0, x1] h) fun x7 =>
    some (x7.1, x7.2)
theorem F65_eq : eFun env k inv 65 #[x0, x1] h = F65 inv k x0 x1 h := by
      refine (kq_fun (a := act 8 [(0, x0), (1, x1)]) (c := cp c65 1)).trans ?_
      unfold F65
      simp only [kq_seq c65 1, r65_0, kq_seq c65 3, r65_1, kq_ret c65 7, res65_0, reduceIte, reduceCtorEq, XE.exit.injEq, Nat.reduceEqDiff, Nat.reduceMul, Nat.reduceAdd] <;> kernel_rfl
theorem F65_call : eInv env (k + 1) (.func 65) #[] #[x0, x1] h = F65 (eInv env k) k x0 x1 h := kq_inv F65_eq
noncomputable def c78 : Code := codeOf Try.prog 78
theorem r78_0  : kCode env 78 false inv k (cp c78 2) (act 6 [(0, x0)]) h K =
    K .normal (act 6 [(0, x0)]) h := kq_reg
theorem r78_1  : kCode env 78 false inv k (cp c78 6) (act 6 [(0, x0)]) h K =
    bnd (pBin Try.prog .neq 3 (.tmp 3) (.tmp 4) x0 x0) fun x5 =>
    K .normal (act 6 [(2, x5)]) h := kq_reg
theorem res78_0 : resOfFn env.P 78 .ret (act 6 [(2, x2)]) h = some (x2, h) := kq_res
/-- cmp.isNaN[int] -/
noncomputable def F78 (inv : Inv) (k : Nat) (x0 : Value) (h : AH) : Option (Value × AH) :=
    bnd (pBin Try.prog .neq 3 (.tmp 3) (.tmp 4) x0 x0) fun x5 =>
    some (x5, h)
theorem F78_eq : eFun env k inv 78 #[x0] h = F78 inv k x0 h := by
      refine (kq_fun (a := act 6 [(0, x0)]) (c := cp c78 1)).trans ?_
      unfold F78
      simp only [kq_seq c78 1, r78_0, kq_seq c78 3, r78_1, kq_ret c78 7, res78_0, reduceIte, reduceCtorEq, XE.exit.injEq, Nat.reduceEqDiff, Nat.reduceMul, Nat.reduceAdd] <;> kernel_rfl
theorem F78_call : eInv env (k + 1) (.func 78) #[] #[x0] h = F78 (eInv env k) k x0 h := kq_inv F78_eq
noncomputable def c79 : Code := codeOf Try.prog 79
theorem r79_0  : kCode env 79 false inv k (cp c79 2) (act 6 [(0, x0)]) h K =
    K .normal (act 6 [(0, x0)]) h := kq_reg
theorem r79_1  : kCode env 79 false inv k (cp c79 6) (act 6 [(0, x0)]) h K =
    bnd (pBin Try.prog .neq 2 (.tmp 3) (.tmp 4) x0 x0) fun x5 =>
    K .normal (act 6 [(2, x5)]) h := kq_reg
theorem res79_0 : resOfFn env.P 79 .ret (act 6 [(2, x2)]) h = some (x2, h) := kq_res
/-- cmp.isNaN[int64] -/
noncomputable def F79 (inv : Inv) (k : Nat) (x0 : Value) (h : AH) : Option (Value × AH) :=
    bnd (pBin Try.prog .neq 2 (.tmp 3) (.tmp 4) x0 x0) fun x5 =>
    some (x5, h)
theorem F79_eq : eFun env k inv 79 #[x0] h = F79 inv k x0 h := by
      refine (kq_fun (a := act 6 [(0, x0)]) (c := cp c79 1)).trans ?_
      unfold F79
      simp only [kq_seq c79 1, r79_0, kq_seq c79 3, r79_1, kq_ret c79 7, res79_0, reduceIte, reduceCtorEq, XE.exit.injEq, Nat.reduceEqDiff, Nat.reduceMul, Nat.reduceAdd] <;> kernel_rfl
theorem F79_call : eInv env (k + 1) (.func 79) #[] #[x0] h = F79 (eInv env k) k x0 h := kq_inv F79_eq
noncomputable def c80 : Code := codeOf Try.prog 80
theorem r80_0  : kCode env 80 false inv k (cp c80 2) (act 8 [(0, x0), (1, x1)]) h K =
    K .normal (act 8 [(0, x0), (1, x1)]) h := kq_reg
theorem r80_1  : kCode env 80 false inv k (cp c80 6) (act 8 [(0, x0), (1, x1)]) h K =
    bnd (inv (.func 86) #[] #[x0, x1] h) fun x7 =>
    K .normal (act 8 [(4, x7.1)]) x7.2 := kq_reg
theorem res80_0 : resOfFn env.P 80 .ret (act 8 [(4, x4)]) h = some (x4, h) := kq_res
/-- internal/bytealg.CompareString -/
noncomputable def F80 (inv : Inv) (k : Nat) (x0 x1 : Value) (h : AH) : Option (Value × AH) :=
    bnd (inv (.func 86) #[] #[x0, x1] h) fun x7 =>
    some (x7.1, x7.2)
theorem F80_eq : eFun env k inv 80 #[x0, x1] h = F80 inv k x0 x1 h := by
      refine (kq_fun (a := act 8 [(0, x0), (1, x1)]) (c := cp c80 1)).trans ?_
      unfold F80
      simp only [kq_seq c80 1, r80_0, kq_seq c80 3, r80_1, kq_ret c80 7, res80_0, reduceIte, reduceCtorEq, XE.exit.injEq, Nat.reduceEqDiff, Nat.reduceMul, Nat.reduceAdd] <;> kernel_rfl
theorem F80_call : eInv env (k + 1) (.func 80) #[] #[x0, x1] h = F80 (eInv env k) k x0 x1 h := kq_inv F80_eq
end Go.Proofs.Ytmhgihjmhmihpaa.Sh
