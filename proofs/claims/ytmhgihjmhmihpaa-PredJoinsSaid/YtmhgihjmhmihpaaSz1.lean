/- Shallow functions, part 1. Printed by a program of the prover's own from the loaded program; Lean checks it. -/
import Derived.Test.YtmhgihjmhmihpaaSz0
set_option linter.unusedVariables false
set_option linter.unusedSimpArgs false
set_option maxRecDepth 100000
namespace Go.Proofs.Ytmhgihjmhmihpaa.Sh
open Go Go.RowKit Go.Proofs.Ev
variable {β : Type} {inv : Inv} {k : Nat} {h : AH} {K : XE → Act → AH → Option β} {x0 x1 x2 x3 x4 x5 x6 x7 x8 x9 x10 x11 x12 x13 x14 x15 x16 x17 x18 x19 x20 x21 x22 x23 x24 x25 x26 x27 x28 x29 x30 x31 x32 x33 x34 x35 x36 x37 x38 x39 x40 x41 x42 x43 x44 x45 x46 x47 x48 x49 x50 x51 x52 x53 x54 x55 x56 x57 x58 x59 x60 x61 x62 x63 x64 x65 x66 x67 x68 x69 x70 x71 x72 x74 x75 x76 x77 x79 x80 x81 x83 x111 : Value}
noncomputable def c6 : Code := codeOf Try.prog 6
theorem r6_0  : kCode env 6 false inv k (cp c6 2) (act 136 [(0, x0), (1, x1), (2, x2), (3, x3)]) h K =
    K .normal (act 136 [(0, x0), (1, x1), (2, x2), (3, x3)]) h := kq_reg
theorem r6_1  : kCode env 6 false inv k (cp c6 12) (act 136 [(0, x0), (1, x1), (2, x2), (3, x3)]) h K =
    bnd (inv (.func 7) #[] #[] h) fun x16 =>
    bnd (pUn Try.prog .not x16.1) fun x17 =>
    K .normal (act 136 [(0, x0), (1, x1), (2, x2), (3, x3), (17, x17)]) x16.2 := kq_reg
theorem b6_rlr  : kCode env 6 false inv k (cp c6 13) (act 136 [(0, x0), (1, x1), (2, x2), (3, x3), (17, x17)]) h K = brV x17 (kCode env 6 false inv k (cp c6 26) (act 136 [(0, x0), (1, x1), (2, x2), (3, x3), (17, x17)]) h K) (kCode env 6 false inv k (cp c6 27) (act 136 [(0, x0), (1, x1), (2, x2), (3, x3), (17, x17)]) h K) := kq_cond
theorem r6_2  : kCode env 6 false inv k (cp c6 52) (act 136 [(0, x0), (1, x1), (2, x2), (3, x3), (17, x17)]) h K =
    K .normal (act 136 [(8, (.bool false))]) h := kq_reg
theorem res6_0 : resOfFn env.P 6 .ret (act 136 [(8, x8)]) h = some (x8, h) := kq_res
noncomputable abbrev G6_3 {β : Type} (inv : Inv) (x0 x1 x2 x3 : Value) (h : AH) (K : Value → AH → Option β) : Option β :=
    bnd (inv (.func 13) #[] #[x0] h) fun x19 =>
    bnd (pUn Try.prog .not x19.1) fun x20 =>
    bnd (gd (some x20) false x19.2 (some (x1, x19.2))) fun x22 =>
    bnd (gd (some x20) false x22.2 (inv (.func 8) #[] #[x22.1] x22.2)) fun x23 =>
    bnd (gd (some x20) false x23.2 (lt (pUn Try.prog .not x23.1) x23.2)) fun x24 =>
    bnd (pickV x20 (.bool true) x24.1) fun x25 =>
    bnd (gd (some x25) false x24.2 (some (x2, x24.2))) fun x27 =>
    bnd (gd (some x25) false x27.2 (inv (.func 8) #[] #[x27.1] x27.2)) fun x28 =>
    bnd (gd (some x25) false x28.2 (lt (pUn Try.prog .not x28.1) x28.2)) fun x29 =>
    bnd (pickV x25 (.bool true) x29.1) fun x30 =>
    bnd (gd (some x30) false x29.2 (some (x0, x29.2))) fun x32 =>
    bnd (gd (some x30) false x32.2 (some (x1, x32.2))) fun x33 =>
    bnd (gd (some x30) false x33.2 (inv (.func 15) #[] #[x32.1, x33.1] x33.2)) fun x34 =>
    bnd (gd (some x30) false x34.2 (lt (pBin Try.prog .neq 34 (.tmp 34) (.const (.int .i64 0)) x34.1 (.int .i64 0)) x34.2)) fun x35 =>
    bnd (pickV x30 (.bool true) x35.1) fun x36 =>
    bnd (gd (some x36) false x35.2 (some (x0, x35.2))) fun x38 =>
    bnd (gd (some x36) false x38.2 (some (x2, x38.2))) fun x39 =>
    bnd (gd (some x36) false x39.2 (inv (.func 15) #[] #[x38.1, x39.1] x39.2)) fun x40 =>
    bnd (gd (some x36) false x40.2 (lt (pBin Try.prog .neq 34 (.tmp 40) (.const (.int .i64 0)) x40.1 (.int .i64 0)) x40.2)) fun x41 =>
    bnd (pickV x36 (.bool true) x41.1) fun x42 =>
    K (x42) x41.2
theorem r6_3  : kCode env 6 false inv k (cp c6 28) (act 136 [(0, x0), (1, x1), (2, x2), (3, x3), (17, x17)]) h K =
    G6_3 inv x0 x1 x2 x3 h fun y42 h => K .normal (act 136 [(0, x0), (1, x1), (2, x2), (3, x3), (42, y42)]) h := kq_reg
theorem b6_rlrr  : kCode env 6 false inv k (cp c6 29) (act 136 [(0, x0), (1, x1), (2, x2), (3, x3), (42, x42)]) h K = brV x42 (kCode env 6 false inv k (cp c6 58) (act 136 [(0, x0), (1, x1), (2, x2), (3, x3), (42, x42)]) h K) (kCode env 6 false inv k (cp c6 59) (act 136 [(0, x0), (1, x1), (2, x2), (3, x3), (42, x42)]) h K) := kq_cond
theorem r6_4  : kCode env 6 false inv k (cp c6 116) (act 136 [(0, x0), (1, x1), (2, x2), (3, x3), (42, x42)]) h K =
    K .normal (act 136 [(8, (.bool true))]) h := kq_reg
theorem r6_5  : kCode env 6 false inv k (cp c6 30) (act 136 [(0, x0), (1, x1), (2, x2), (3, x3), (42, x42)]) h K =
    K .normal (act 136 [(0, x0), (1, x1), (2, x2), (3, x3), (9, (.int .i64 6))]) h := kq_reg
theorem r6_6  : kCode env 6 false inv k (cp c6 124) (act 136 [(0, x0), (1, x1), (2, x2), (3, x3), (9, x9)]) h K =
    K .normal (act 136 [(0, x0), (1, x1), (2, x2), (9, x9), (43, x3)]) h := kq_reg
theorem b6_rlrrrr  : kCode env 6 false inv k (cp c6 125) (act 136 [(0, x0), (1, x1), (2, x2), (9, x9), (43, x43)]) h K = brV x43 (kCode env 6 false inv k (cp c6 250) (act 136 [(0, x0), (1, x1), (2, x2), (9, x9), (43, x43)]) h K) (kCode env 6 false inv k (cp c6 251) (act 136 [(0, x0), (1, x1), (2, x2), (9, x9), (43, x43)]) h K) := kq_cond
theorem r6_7  : kCode env 6 false inv k (cp c6 250) (act 136 [(0, x0), (1, x1), (2, x2), (9, x9), (43, x43)]) h K =
    K .normal (act 136 [(0, x0), (1, x1), (2, x2), (9, (.int .i64 7))]) h := kq_reg
noncomputable def F6_rlrrrr {β : Type} (inv : Inv) (k : Nat) (x0 x1 x2 x9 x43 : Value) (h : AH) (kn : (Value → Value → Value → Value → Value → AH → Option β)) : Option β :=
    brV x43
    (kn x0 x1 x2 (.int .i64 7) unk h)
    (kn x0 x1 x2 x9 x43 h)
theorem F6_rlrrrr_eq  : kCode env 6 false inv k (cp c6 125) (act 136 [(0, x0), (1, x1), (2, x2), (9, x9), (43, x43)]) h K = F6_rlrrrr inv k x0 x1 x2 x9 x43 h (fun y0 y1 y2 y9 y43 h => K .normal (act 136 [(0, y0), (1, y1), (2, y2), (9, y9), (43, y43)]) h) := by
      unfold F6_rlrrrr
      simp only [b6_rlrrrr, r6_7, kq_skip c6 251, reduceIte, reduceCtorEq, XE.exit.injEq, Nat.reduceEqDiff, Nat.reduceMul, Nat.reduceAdd] <;> kernel_rfl
theorem r6_8  : kCode env 6 false inv k (cp c6 126) (act 136 [(0, x0), (1, x1), (2, x2), (9, x9), (43, x43)]) h K =
    bnd (pBuildSlice Try.prog 45 2 #[(0, x1), (1, x2)] h) fun x47 =>
    bnd (inv (.func 12) #[] #[x9, x47.1] x47.2) fun x48 =>
    K .normal (act 136 [(0, x0), (1, x1), (2, x2), (10, x48.1)]) x48.2 := kq_reg
theorem r6_9  : kCode env 6 false inv k (cp c6 254) (act 136 [(0, x0), (1, x1), (2, x2), (10, x10)]) h K =
    bnd (pMakeMap Try.prog 52 none h) fun x49 =>
    K .normal (act 136 [(0, x0), (1, x1), (2, x2), (10, x10), (11, x49.1)]) x49.2 := kq_reg
theorem r6_10  : kCode env 6 false inv k (cp c6 1020) (act 136 [(0, x0), (1, x1), (2, x2), (10, x10), (11, x11)]) h K =
    bnd (pBuildSlice Try.prog 46 0 #[] h) fun x50 =>
    bnd (inv (.func 21) #[] #[x1] x50.2) fun x52 =>
    bnd (pAppend Try.prog #[46, 46] x50.1 x52.1 x52.2) fun x53 =>
    bnd (inv (.func 21) #[] #[x2] x53.2) fun x55 =>
    bnd (pAppend Try.prog #[46, 46] x53.1 x55.1 x55.2) fun x56 =>
    bnd (pLen Try.prog #[46] x56.1 x56.2) fun x57 =>
    K .normal (act 136 [(0, x0), (1, x1), (2, x2), (10, x10), (11, x11), (56, x56.1), (57, x57), (58, (.int .i64 0))]) x56.2 := kq_reg
theorem r6_11  : kCode env 6 false inv k (cp c6 8168) (act 136 [(0, x0), (1, x1), (2, x2), (10, x10), (11, x11), (56, x56), (57, x57), (58, x58)]) h K =
    bnd (pBin Try.prog .lss 3 (.tmp 58) (.tmp 57) x58 x57) fun x59 =>
    K .normal (act 136 [(0, x0), (1, x1), (2, x2), (10, x10), (11, x11), (56, x56), (57, x57), (58, x58), (59, x59)]) h := kq_reg
theorem b6_lrllrlrrrrrrr  : kCode env 6 false inv k (cp c6 16338) (act 136 [(0, x0), (1, x1), (2, x2), (10, x10), (11, x11), (56, x56), (57, x57), (58, x58), (59, x59)]) h K = brV x59 (kCode env 6 false inv k (cp c6 32676) (act 136 [(0, x0), (1, x1), (2, x2), (10, x10), (11, x11), (56, x56), (57, x57), (58, x58), (59, x59)]) h K) (kCode env 6 false inv k (cp c6 32677) (act 136 [(0, x0), (1, x1), (2, x2), (10, x10), (11, x11), (56, x56), (57, x57), (58, x58), (59, x59)]) h K) := kq_cond
theorem r6_12  : kCode env 6 false inv k (cp c6 130712) (act 136 [(0, x0), (1, x1), (2, x2), (10, x10), (11, x11), (56, x56), (57, x57), (58, x58), (59, x59)]) h K =
    bnd (pIndexAddr Try.prog 46 x56 x58) fun x60 =>
    bnd (pLoad Try.prog 3 x60 h) fun x61 =>
    K .normal (act 136 [(0, x0), (1, x1), (2, x2), (10, x10), (11, x11), (13, x61), (56, x56), (57, x57), (58, x58)]) h := kq_reg
theorem r6_13  : kCode env 6 false inv k (cp c6 130713) (act 136 [(0, x0), (1, x1), (2, x2), (10, x10), (11, x11), (13, x13), (56, x56), (57, x57), (58, x58)]) h K =
    bnd (kSt (pUpdate Try.prog 52 x11 x13 (.int .i64 1) h)) fun u =>
    K .normal (act 136 [(0, x0), (1, x1), (2, x2), (10, x10), (11, x11), (56, x56), (57, x57), (58, x58)]) u.2 := kq_reg
theorem r6_14  : kCode env 6 false inv k (cp c6 32679) (act 136 [(0, x0), (1, x1), (2, x2), (10, x10), (11, x11), (56, x56), (57, x57), (58, x58)]) h K =
    bnd (pBin Try.prog .add 3 (.tmp 58) (.const (.int .i64 1)) x58 (.int .i64 1)) fun x64 =>
    K .normal (act 136 [(0, x0), (1, x1), (2, x2), (10, x10), (11, x11), (56, x56), (57, x57), (58, x64)]) h := kq_reg
noncomputable def F6_lrlrrrrrrr {β : Type} (inv : Inv) (k : Nat) : Nat → Value → Value → Value → Value → Value → Value → Value → Value → AH → (Value → Value → Value → Value → Value → Value → Value → Value → Value → AH → Option β) → Option β
  | 0, _, _, _, _, _, _, _, _, _, _ => none
  | j + 1, x0, x1, x2, x10, x11, x56, x57, x58, h, ke0 =>
    bnd (pBin Try.prog .lss 3 (.tmp 58) (.tmp 57) x58 x57) fun x59 =>
    brV x59
    (bnd (pIndexAddr Try.prog 46 x56 x58) fun x60 =>
    bnd (pLoad Try.prog 3 x60 h) fun x61 =>
    bnd (kSt (pUpdate Try.prog 52 x11 x61 (.int .i64 1) h)) fun u =>
    bnd (pBin Try.prog .add 3 (.tmp 58) (.const (.int .i64 1)) x58 (.int .i64 1)) fun x64 =>
    F6_lrlrrrrrrr inv k j x0 x1 x2 x10 x11 x56 x57 x64 u.2 ke0)
    (ke0 x0 x1 x2 x10 x11 x56 x57 x58 x59 h)
theorem F6_lrlrrrrrrr_j (j : Nat) : kLoop (kCode env 6 false inv k (cp c6 4084)) j (act 136 [(0, x0), (1, x1), (2, x2), (10, x10), (11, x11), (56, x56), (57, x57), (58, x58)]) h K = F6_lrlrrrrrrr inv k j x0 x1 x2 x10 x11 x56 x57 x58 h (fun y0 y1 y2 y10 y11 y56 y57 y58 y59 h => K (.exit 0) (act 136 [(0, y0), (1, y1), (2, y2), (10, y10), (11, y11), (56, y56), (57, y57), (58, y58), (59, y59)]) h) := by
      induction j generalizing x0 x1 x2 x10 x11 x56 x57 x58 h with
      | zero => rfl
      | succ j ih =>
        unfold F6_lrlrrrrrrr
        simp only [kLoop, kq_seq c6 4084, r6_11, kq_seq c6 8169, b6_lrllrlrrrrrrr, kq_skip c6 32676, kq_seq c6 16339, kq_block c6 32678 1, kq_seq c6 65356, r6_12, r6_13, r6_14, kq_exit c6 32677 0, ih, reduceIte, reduceCtorEq, XE.exit.injEq, Nat.reduceEqDiff, Nat.reduceMul, Nat.reduceAdd] <;> kernel_rfl
theorem F6_lrlrrrrrrr_eq  : kCode env 6 false inv k (cp c6 2042) (act 136 [(0, x0), (1, x1), (2, x2), (10, x10), (11, x11), (56, x56), (57, x57), (58, x58)]) h K = F6_lrlrrrrrrr inv k k x0 x1 x2 x10 x11 x56 x57 x58 h (fun y0 y1 y2 y10 y11 y56 y57 y58 y59 h => K (.exit 0) (act 136 [(0, y0), (1, y1), (2, y2), (10, y10), (11, y11), (56, y56), (57, y57), (58, y58), (59, y59)]) h) := kq_loop (F6_lrlrrrrrrr_j k)
theorem r6_15  : kCode env 6 false inv k (cp c6 1022) (act 136 [(0, x0), (1, x1), (2, x2), (10, x10), (11, x11), (56, x56), (57, x57), (58, x58), (59, x59)]) h K =
    bnd (inv (.func 21) #[] #[x10] h) fun x66 =>
    K .normal (act 136 [(0, x0), (1, x1), (2, x2), (10, x10), (11, x11), (14, x66.1)]) x66.2 := kq_reg
theorem r6_16  : kCode env 6 false inv k (cp c6 4092) (act 136 [(0, x0), (1, x1), (2, x2), (10, x10), (11, x11), (14, x14)]) h K =
    K .normal (act 136 [(0, x0), (1, x1), (2, x2), (10, x10), (11, x11), (14, x14), (15, (.int .i64 0))]) h := kq_reg
theorem r6_17  : kCode env 6 false inv k (cp c6 65488) (act 136 [(0, x0), (1, x1), (2, x2), (10, x10), (11, x11), (14, x14), (15, x15)]) h K =
    bnd (pLen Try.prog #[46] x14 h) fun x69 =>
    bnd (pBin Try.prog .lss 3 (.tmp 67) (.tmp 69) x15 x69) fun x70 =>
    K .normal (act 136 [(0, x0), (1, x1), (2, x2), (10, x10), (11, x11), (14, x14), (15, x15), (70, x70)]) h := kq_reg
theorem b6_rlllrlrrrrrrrrr  : kCode env 6 false inv k (cp c6 65489) (act 136 [(0, x0), (1, x1), (2, x2), (10, x10), (11, x11), (14, x14), (15, x15), (70, x70)]) h K = brV x70 (kCode env 6 false inv k (cp c6 130978) (act 136 [(0, x0), (1, x1), (2, x2), (10, x10), (11, x11), (14, x14), (15, x15), (70, x70)]) h K) (kCode env 6 false inv k (cp c6 130979) (act 136 [(0, x0), (1, x1), (2, x2), (10, x10), (11, x11), (14, x14), (15, x15), (70, x70)]) h K) := kq_cond
noncomputable abbrev G6_19 {β : Type} (inv : Inv) (x0 x1 x2 x10 x11 x14 x15 : Value) (h : AH) (K : Value → AH → Option β) : Option β :=
    bnd (pIndexAddr Try.prog 46 x14 x15) fun x76 =>
    bnd (pLoad Try.prog 3 x76 h) fun x77 =>
    bnd (pLookup Try.prog 52 x11 x77 false h) fun x78 =>
    bnd (pBin Try.prog .eql 3 (.tmp 78) (.const (.int .i64 0)) x78 (.int .i64 0)) fun x79 =>
    bnd (gd3 (some x79) false h (some (x15, h))) fun x81 =>
    bnd (gd3 (some x79) false x81.2.1 (lt (pBin Try.prog .gtr 3 (.tmp 81) (.const (.int .i64 0)) x81.1 (.int .i64 0)) x81.2.1)) fun x82 =>
    bnd (gd3 (some x79) false x82.2.1 (some (x82.1, x82.2.1))) fun x83 =>
    bnd (gd3 (some x83.1) true x83.2.1 (some (x14, x83.2.1))) fun x84 =>
    bnd (gd3 (some x83.1) true x84.2.1 (some (x15, x84.2.1))) fun x85 =>
    bnd (gd3 (some x83.1) true x85.2.1 (lt (pBin Try.prog .sub 3 (.tmp 85) (.const (.int .i64 1)) x85.1 (.int .i64 1)) x85.2.1)) fun x86 =>
    bnd (gd3 (some x83.1) true x86.2.1 (lt (pIndexAddr Try.prog 46 x84.1 x86.1) x86.2.1)) fun x87 =>
    bnd (gd3 (some x83.1) true x87.2.1 (lt (pLoad Try.prog 3 x87.1 x87.2.1) x87.2.1)) fun x88 =>
    bnd (gd3 (some x83.1) true x88.2.1 (some (x14, x88.2.1))) fun x89 =>
    bnd (gd3 (some x83.1) true x89.2.1 (some (x15, x89.2.1))) fun x90 =>
    bnd (gd3 (some x83.1) true x90.2.1 (lt (pIndexAddr Try.prog 46 x89.1 x90.1) x90.2.1)) fun x91 =>
    bnd (gd3 (some x83.1) true x91.2.1 (lt (pLoad Try.prog 3 x91.1 x91.2.1) x91.2.1)) fun x92 =>
    bnd (gd3 (some x83.1) true x92.2.1 (lt (pBin Try.prog .geq 3 (.tmp 88) (.tmp 92) x88.1 x92.1) x92.2.1)) fun x93 =>
    bnd (gd3 (some x79) false x93.2.1 (lt (pickV x83.1 x93.1 (.bool false)) x93.2.1)) fun x94 =>
    bnd (pickV x79 (.bool true) x94.1) fun x95 =>
    bnd (gd3 (some x95) false x94.2.1 (some (x14, x94.2.1))) fun x97 =>
    bnd (gd3 (some x95) false x97.2.1 (some (x15, x97.2.1))) fun x98 =>
    bnd (gd3 (some x95) false x98.2.1 (lt (pIndexAddr Try.prog 46 x97.1 x98.1) x98.2.1)) fun x99 =>
    bnd (gd3 (some x95) false x99.2.1 (lt (pLoad Try.prog 3 x99.1 x99.2.1) x99.2.1)) fun x100 =>
    bnd (gd3 (some x95) false x100.2.1 (lt (pBin Try.prog .lss 3 (.tmp 100) (.const (.int .i64 0)) x100.1 (.int .i64 0)) x100.2.1)) fun x101 =>
    bnd (pickV x95 (.bool true) x101.1) fun x102 =>
    bnd (gd3 (some x102) false x101.2.1 (some (x14, x101.2.1))) fun x104 =>
    bnd (gd3 (some x102) false x104.2.1 (some (x15, x104.2.1))) fun x105 =>
    bnd (gd3 (some x102) false x105.2.1 (lt (pIndexAddr Try.prog 46 x104.1 x105.1) x105.2.1)) fun x106 =>
    bnd (gd3 (some x102) false x106.2.1 (lt (pLoad Try.prog 3 x106.1 x106.2.1) x106.2.1)) fun x107 =>
    bnd (gd3 (some x102) false x107.2.1 (some (x0, x107.2.1))) fun x108 =>
    bnd (gd3 (some x102) false x108.2.1 (lt (pLen Try.prog #[30] x108.1 x108.2.1) x108.2.1)) fun x109 =>
    bnd (gd3 (some x102) false x109.2.1 (lt (pBin Try.prog .geq 3 (.tmp 107) (.tmp 109) x107.1 x109.1) x109.2.1)) fun x110 =>
    bnd (pickV x102 (.bool true) x110.1) fun x111 =>
    K (x111) x110.2.1
theorem r6_19  : kCode env 6 false inv k (cp c6 261960) (act 136 [(0, x0), (1, x1), (2, x2), (10, x10), (11, x11), (14, x14), (15, x15), (70, x70)]) h K =
    G6_19 inv x0 x1 x2 x10 x11 x14 x15 h fun y111 h => K .normal (act 136 [(0, x0), (1, x1), (2, x2), (10, x10), (11, x11), (14, x14), (15, x15), (111, y111)]) h := kq_draw
theorem b6_rllrllrlrrrrrrrrr  : kCode env 6 false inv k (cp c6 261961) (act 136 [(0, x0), (1, x1), (2, x2), (10, x10), (11, x11), (14, x14), (15, x15), (111, x111)]) h K = brV x111 (kCode env 6 false inv k (cp c6 523922) (act 136 [(0, x0), (1, x1), (2, x2), (10, x10), (11, x11), (14, x14), (15, x15), (111, x111)]) h K) (kCode env 6 false inv k (cp c6 523923) (act 136 [(0, x0), (1, x1), (2, x2), (10, x10), (11, x11), (14, x14), (15, x15), (111, x111)]) h K) := kq_cond
theorem r6_20  : kCode env 6 false inv k (cp c6 1047844) (act 136 [(0, x0), (1, x1), (2, x2), (10, x10), (11, x11), (14, x14), (15, x15), (111, x111)]) h K =
    K .normal (act 136 [(8, (.bool false))]) h := kq_reg
theorem r6_18  : kCode env 6 false inv k (cp c6 65491) (act 136 [(0, x0), (1, x1), (2, x2), (10, x10), (11, x11), (14, x14), (15, x15), (111, x111)]) h K =
    bnd (pBin Try.prog .add 3 (.tmp 71) (.const (.int .i64 1)) x15 (.int .i64 1)) fun x72 =>
    K .normal (act 136 [(0, x0), (1, x1), (2, x2), (10, x10), (11, x11), (14, x14), (15, x72)]) h := kq_reg
noncomputable def F6_lrlrrrrrrrrr {β : Type} (inv : Inv) (k : Nat) : Nat → Value → Value → Value → Value → Value → Value → Value → AH → (Value → Value → Value → Value → Value → Value → Value → Value → AH → Option β) → (Value → AH → Option β) → Option β
  | 0, _, _, _, _, _, _, _, _, _, _ => none
  | j + 1, x0, x1, x2, x10, x11, x14, x15, h, ke2, kr =>
    bnd (pLen Try.prog #[46] x14 h) fun x69 =>
    bnd (pBin Try.prog .lss 3 (.tmp 67) (.tmp 69) x15 x69) fun x70 =>
    brV x70
    (G6_19 inv x0 x1 x2 x10 x11 x14 x15 h fun y111 h =>
    brV y111
    (kr (.bool false) h)
    (bnd (pBin Try.prog .add 3 (.tmp 71) (.const (.int .i64 1)) x15 (.int .i64 1)) fun x72 =>
    F6_lrlrrrrrrrrr inv k j x0 x1 x2 x10 x11 x14 x72 h ke2 kr))
    (ke2 x0 x1 x2 x10 x11 x14 x15 x70 h)
theorem F6_lrlrrrrrrrrr_j (j : Nat) : kLoop (kCode env 6 false inv k (cp c6 16372)) j (act 136 [(0, x0), (1, x1), (2, x2), (10, x10), (11, x11), (14, x14), (15, x15)]) h K = F6_lrlrrrrrrrrr inv k j x0 x1 x2 x10 x11 x14 x15 h (fun y0 y1 y2 y10 y11 y14 y15 y70 h => K (.exit 2) (act 136 [(0, y0), (1, y1), (2, y2), (10, y10), (11, y11), (14, y14), (15, y15), (70, y70)]) h) (fun y8 h => K .ret (act 136 [(8, y8)]) h) := by
      induction j generalizing x0 x1 x2 x10 x11 x14 x15 h with
      | zero => rfl
      | succ j ih =>
        unfold F6_lrlrrrrrrrrr
        simp only [kLoop, kq_seq c6 16372, kq_seq c6 32744, r6_17, b6_rlllrlrrrrrrrrr, kq_skip c6 130978, kq_seq c6 32745, kq_block c6 65490 3, kq_seq c6 130980, r6_19, b6_rllrllrlrrrrrrrrr, kq_seq c6 523922, r6_20, kq_ret c6 1047845, kq_skip c6 523923, r6_18, kq_exit c6 130979 2, ih, reduceIte, reduceCtorEq, XE.exit.injEq, Nat.reduceEqDiff, Nat.reduceMul, Nat.reduceAdd] <;> kernel_rfl
theorem F6_lrlrrrrrrrrr_eq  : kCode env 6 false inv k (cp c6 8186) (act 136 [(0, x0), (1, x1), (2, x2), (10, x10), (11, x11), (14, x14), (15, x15)]) h K = F6_lrlrrrrrrrrr inv k k x0 x1 x2 x10 x11 x14 x15 h (fun y0 y1 y2 y10 y11 y14 y15 y70 h => K (.exit 2) (act 136 [(0, y0), (1, y1), (2, y2), (10, y10), (11, y11), (14, y14), (15, y15), (70, y70)]) h) (fun y8 h => K .ret (act 136 [(8, y8)]) h) := kq_loop (F6_lrlrrrrrrrrr_j k)
noncomputable abbrev G6_21 {β : Type} (inv : Inv) (x0 x1 x2 x10 x11 x14 : Value) (h : AH) (K : Value → AH → Option β) : Option β :=
    bnd (pLen Try.prog #[46] x14 h) fun x113 =>
    bnd (pLen Try.prog #[52] x11 h) fun x115 =>
    bnd (pBin Try.prog .eql 3 (.tmp 113) (.tmp 115) x113 x115) fun x116 =>
    bnd (gd (some x116) true h (some (x10, h))) fun x118 =>
    bnd (gd (some x116) true x118.2 (lt (pLen Try.prog #[22] x118.1 x118.2) x118.2)) fun x119 =>
    bnd (gd (some x116) true x119.2 (some (x1, x119.2))) fun x120 =>
    bnd (gd (some x116) true x120.2 (lt (pLen Try.prog #[22] x120.1 x120.2) x120.2)) fun x121 =>
    bnd (gd (some x116) true x121.2 (lt (pMinMax Try.prog true #[(.int .i64 1), x121.1]) x121.2)) fun x122 =>
    bnd (gd (some x116) true x122.2 (some (x2, x122.2))) fun x123 =>
    bnd (gd (some x116) true x123.2 (lt (pLen Try.prog #[22] x123.1 x123.2) x123.2)) fun x124 =>
    bnd (gd (some x116) true x124.2 (lt (pMinMax Try.prog true #[(.int .i64 1), x124.1]) x124.2)) fun x125 =>
    bnd (gd (some x116) true x125.2 (lt (pBin Try.prog .add 3 (.tmp 122) (.tmp 125) x122.1 x125.1) x125.2)) fun x126 =>
    bnd (gd (some x116) true x126.2 (lt (pBin Try.prog .add 3 (.tmp 126) (.const (.int .i64 1)) x126.1 (.int .i64 1)) x126.2)) fun x127 =>
    bnd (gd (some x116) true x127.2 (lt (pBin Try.prog .eql 3 (.tmp 119) (.tmp 127) x119.1 x127.1) x127.2)) fun x128 =>
    bnd (pickV x116 x128.1 (.bool false)) fun x129 =>
    bnd (gd (some x129) true x128.2 (some (x0, x128.2))) fun x131 =>
    bnd (gd (some x129) true x131.2 (some (x10, x131.2))) fun x132 =>
    bnd (gd (some x129) true x132.2 (inv (.func 15) #[] #[x131.1, x132.1] x132.2)) fun x133 =>
    bnd (gd (some x129) true x133.2 (lt (pBin Try.prog .eql 34 (.tmp 133) (.const (.int .i64 0)) x133.1 (.int .i64 0)) x133.2)) fun x134 =>
    bnd (pickV x129 x134.1 (.bool false)) fun x135 =>
    K (x135) x134.2
theorem r6_21  : kCode env 6 false inv k (cp c6 4094) (act 136 [(0, x0), (1, x1), (2, x2), (10, x10), (11, x11), (14, x14), (15, x15), (70, x70)]) h K =
    G6_21 inv x0 x1 x2 x10 x11 x14 h fun y8 h => K .normal (act 136 [(8, y8)]) h := kq_reg
/-- shadowbook/shadowbooklaw18.PredJoins -/
noncomputable def F6 (inv : Inv) (k : Nat) (x0 x1 x2 x3 : Value) (h : AH) : Option (Value × AH) :=
    bnd (inv (.func 7) #[] #[] h) fun x16 =>
    bnd (pUn Try.prog .not x16.1) fun x17 =>
    brV x17
    (some ((.bool false), x16.2))
    (G6_3 inv x0 x1 x2 x3 x16.2 fun y42 h =>
    brV y42
    (some ((.bool true), h))
    (F6_rlrrrr inv k x0 x1 x2 (.int .i64 6) x3 h
    (fun y0 y1 y2 y9 y43 h_1 =>
    bnd (pBuildSlice Try.prog 45 2 #[(0, y1), (1, y2)] h_1) fun x47 =>
    bnd (inv (.func 12) #[] #[y9, x47.1] x47.2) fun x48 =>
    bnd (pMakeMap Try.prog 52 none x48.2) fun x49 =>
    bnd (pBuildSlice Try.prog 46 0 #[] x49.2) fun x50 =>
    bnd (inv (.func 21) #[] #[y1] x50.2) fun x52 =>
    bnd (pAppend Try.prog #[46, 46] x50.1 x52.1 x52.2) fun x53 =>
    bnd (inv (.func 21) #[] #[y2] x53.2) fun x55 =>
    bnd (pAppend Try.prog #[46, 46] x53.1 x55.1 x55.2) fun x56 =>
    bnd (pLen Try.prog #[46] x56.1 x56.2) fun x57 =>
    F6_lrlrrrrrrr inv k k y0 y1 y2 x48.1 x49.1 x56.1 x57 (.int .i64 0) x56.2
    (fun y0_2 y1_3 y2_4 y10 y11 y56 y57 y58 y59 h_5 =>
    bnd (inv (.func 21) #[] #[y10] h_5) fun x66 =>
    F6_lrlrrrrrrrrr inv k k y0_2 y1_3 y2_4 y10 y11 x66.1 (.int .i64 0) x66.2
    (fun y0_6 y1_7 y2_8 y10_9 y11_10 y14 y15 y70 h_11 =>
    G6_21 inv y0_6 y1_7 y2_8 y10_9 y11_10 y14 h_11 fun y8 h_12 =>
    some (y8, h_12))
    (fun y8_13 h_14 =>
    some (y8_13, h_14))))))
theorem F6_eq : eFun env k inv 6 #[x0, x1, x2, x3] h = F6 inv k x0 x1 x2 x3 h := by
      refine (kq_fun (a := act 136 [(0, x0), (1, x1), (2, x2), (3, x3)]) (c := cp c6 1)).trans ?_
      unfold F6
      simp only [kq_seq c6 1, r6_0, kq_seq c6 3, kq_seq c6 6, r6_1, b6_rlr, kq_seq c6 26, r6_2, kq_ret c6 53, res6_0, kq_skip c6 27, kq_seq c6 7, kq_seq c6 14, r6_3, b6_rlrr, kq_seq c6 58, r6_4, kq_ret c6 117, kq_skip c6 59, kq_seq c6 15, r6_5, kq_seq c6 31, kq_seq c6 62, r6_6, F6_rlrrrr_eq, kq_seq c6 63, r6_8, kq_seq c6 127, r6_9, kq_seq c6 255, kq_seq c6 510, r6_10, kq_block c6 1021 0, F6_lrlrrrrrrr_eq, kq_seq c6 511, r6_15, kq_seq c6 1023, kq_seq c6 2046, r6_16, kq_block c6 4093 2, F6_lrlrrrrrrrrr_eq, kq_seq c6 2047, r6_21, kq_ret c6 4095, reduceIte, reduceCtorEq, XE.exit.injEq, Nat.reduceEqDiff, Nat.reduceMul, Nat.reduceAdd] <;> kernel_rfl
theorem F6_call : eInv env (k + 1) (.func 6) #[] #[x0, x1, x2, x3] h = F6 (eInv env k) k x0 x1 x2 x3 h := kq_inv F6_eq
noncomputable def c8 : Code := codeOf Try.prog 8
theorem r8_0  : kCode env 8 false inv k (cp c8 2) (act 30 [(0, x0)]) h K =
    K .normal (act 30 [(0, x0)]) h := kq_reg
theorem r8_1  : kCode env 8 false inv k (cp c8 12) (act 30 [(0, x0)]) h K =
    K .normal (act 30 [(0, x0), (3, (.int .i64 0))]) h := kq_reg
theorem r8_2  : kCode env 8 false inv k (cp c8 208) (act 30 [(0, x0), (3, x3)]) h K =
    bnd (pLen Try.prog #[22] x0 h) fun x6 =>
    bnd (pBin Try.prog .lss 3 (.tmp 4) (.tmp 6) x3 x6) fun x7 =>
    K .normal (act 30 [(0, x0), (3, x3), (7, x7)]) h := kq_reg
theorem b8_rlllrlr  : kCode env 8 false inv k (cp c8 209) (act 30 [(0, x0), (3, x3), (7, x7)]) h K = brV x7 (kCode env 8 false inv k (cp c8 418) (act 30 [(0, x0), (3, x3), (7, x7)]) h K) (kCode env 8 false inv k (cp c8 419) (act 30 [(0, x0), (3, x3), (7, x7)]) h K) := kq_cond
noncomputable abbrev G8_4 {β : Type} (inv : Inv) (x0 x3 : Value) (h : AH) (K : Value → AH → Option β) : Option β :=
    bnd (pIndexAddr Try.prog 22 x0 x3) fun x12 =>
    bnd (pFieldAddr Try.prog 48 x12 3) fun x13 =>
    bnd (pLoad Try.prog 46 x13 h) fun x14 =>
    bnd (pLen Try.prog #[46] x14 h) fun x15 =>
    bnd (pBin Try.prog .gtr 3 (.tmp 15) (.const (.int .i64 20)) x15 (.int .i64 20)) fun x16 =>
    bnd (gd (some x16) false h (some (x0, h))) fun x18 =>
    bnd (gd (some x16) false x18.2 (some (x3, x18.2))) fun x19 =>
    bnd (gd (some x16) false x19.2 (lt (pIndexAddr Try.prog 22 x18.1 x19.1) x19.2)) fun x20 =>
    bnd (gd (some x16) false x20.2 (lt (pFieldAddr Try.prog 48 x20.1 2) x20.2)) fun x21 =>
    bnd (gd (some x16) false x21.2 (lt (pFieldAddr Try.prog 42 x21.1 2) x21.2)) fun x22 =>
    bnd (gd (some x16) false x22.2 (lt (pLoad Try.prog 9 x22.1 x22.2) x22.2)) fun x23 =>
    bnd (gd (some x16) false x23.2 (lt (pLen Try.prog #[9] x23.1 x23.2) x23.2)) fun x24 =>
    bnd (gd (some x16) false x24.2 (lt (pBin Try.prog .gtr 3 (.tmp 24) (.const (.int .i64 300)) x24.1 (.int .i64 300)) x24.2)) fun x25 =>
    bnd (pickV x16 (.bool true) x25.1) fun x26 =>
    K (x26) x25.2
theorem r8_4  : kCode env 8 false inv k (cp c8 840) (act 30 [(0, x0), (3, x3), (7, x7)]) h K =
    G8_4 inv x0 x3 h fun y26 h => K .normal (act 30 [(0, x0), (3, x3), (26, y26)]) h := kq_reg
theorem b8_rllrllrlr  : kCode env 8 false inv k (cp c8 841) (act 30 [(0, x0), (3, x3), (26, x26)]) h K = brV x26 (kCode env 8 false inv k (cp c8 1682) (act 30 [(0, x0), (3, x3), (26, x26)]) h K) (kCode env 8 false inv k (cp c8 1683) (act 30 [(0, x0), (3, x3), (26, x26)]) h K) := kq_cond
theorem r8_5  : kCode env 8 false inv k (cp c8 3364) (act 30 [(0, x0), (3, x3), (26, x26)]) h K =
    K .normal (act 30 [(2, (.bool false))]) h := kq_reg
theorem r8_3  : kCode env 8 false inv k (cp c8 211) (act 30 [(0, x0), (3, x3), (26, x26)]) h K =
    bnd (pBin Try.prog .add 3 (.tmp 8) (.const (.int .i64 1)) x3 (.int .i64 1)) fun x9 =>
    K .normal (act 30 [(0, x0), (3, x9)]) h := kq_reg
noncomputable def F8_lrlr {β : Type} (inv : Inv) (k : Nat) : Nat → Value → Value → AH → (Value → Value → Value → AH → Option β) → (Value → AH → Option β) → Option β
  | 0, _, _, _, _, _ => none
  | j + 1, x0, x3, h, ke0, kr =>
    bnd (pLen Try.prog #[22] x0 h) fun x6 =>
    bnd (pBin Try.prog .lss 3 (.tmp 4) (.tmp 6) x3 x6) fun x7 =>
    brV x7
    (G8_4 inv x0 x3 h fun y26 h =>
    brV y26
    (kr (.bool false) h)
    (bnd (pBin Try.prog .add 3 (.tmp 8) (.const (.int .i64 1)) x3 (.int .i64 1)) fun x9 =>
    F8_lrlr inv k j x0 x9 h ke0 kr))
    (ke0 x0 x3 x7 h)
theorem F8_lrlr_j (j : Nat) : kLoop (kCode env 8 false inv k (cp c8 52)) j (act 30 [(0, x0), (3, x3)]) h K = F8_lrlr inv k j x0 x3 h (fun y0 y3 y7 h => K (.exit 0) (act 30 [(0, y0), (3, y3), (7, y7)]) h) (fun y2 h => K .ret (act 30 [(2, y2)]) h) := by
      induction j generalizing x0 x3 h with
      | zero => rfl
      | succ j ih =>
        unfold F8_lrlr
        simp only [kLoop, kq_seq c8 52, kq_seq c8 104, r8_2, b8_rlllrlr, kq_skip c8 418, kq_seq c8 105, kq_block c8 210 1, kq_seq c8 420, r8_4, b8_rllrllrlr, kq_seq c8 1682, r8_5, kq_ret c8 3365, kq_skip c8 1683, r8_3, kq_exit c8 419 0, ih, reduceIte, reduceCtorEq, XE.exit.injEq, Nat.reduceEqDiff, Nat.reduceMul, Nat.reduceAdd] <;> kernel_rfl
theorem F8_lrlr_eq  : kCode env 8 false inv k (cp c8 26) (act 30 [(0, x0), (3, x3)]) h K = F8_lrlr inv k k x0 x3 h (fun y0 y3 y7 h => K (.exit 0) (act 30 [(0, y0), (3, y3), (7, y7)]) h) (fun y2 h => K .ret (act 30 [(2, y2)]) h) := kq_loop (F8_lrlr_j k)
theorem r8_6  : kCode env 8 false inv k (cp c8 14) (act 30 [(0, x0), (3, x3), (7, x7)]) h K =
    bnd (pLen Try.prog #[22] x0 h) fun x28 =>
    bnd (pBin Try.prog .leq 3 (.tmp 28) (.const (.int .i64 20)) x28 (.int .i64 20)) fun x29 =>
    K .normal (act 30 [(2, x29)]) h := kq_reg
theorem res8_0 : resOfFn env.P 8 .ret (act 30 [(2, x2)]) h = some (x2, h) := kq_res
/-- shadowbook/shadowbookkit.LightPred -/
noncomputable def F8 (inv : Inv) (k : Nat) (x0 : Value) (h : AH) : Option (Value × AH) :=
    F8_lrlr inv k k x0 (.int .i64 0) h
    (fun y0 y3 y7 h =>
    bnd (pLen Try.prog #[22] y0 h) fun x28 =>
    bnd (pBin Try.prog .leq 3 (.tmp 28) (.const (.int .i64 20)) x28 (.int .i64 20)) fun x29 =>
    some (x29, h))
    (fun y2 h_1 =>
    some (y2, h_1))
theorem F8_eq : eFun env k inv 8 #[x0] h = F8 inv k x0 h := by
      refine (kq_fun (a := act 30 [(0, x0)]) (c := cp c8 1)).trans ?_
      unfold F8
      simp only [kq_seq c8 1, r8_0, kq_seq c8 3, kq_seq c8 6, r8_1, kq_block c8 13 0, F8_lrlr_eq, kq_seq c8 7, r8_6, kq_ret c8 15, res8_0, reduceIte, reduceCtorEq, XE.exit.injEq, Nat.reduceEqDiff, Nat.reduceMul, Nat.reduceAdd] <;> kernel_rfl
theorem F8_call : eInv env (k + 1) (.func 8) #[] #[x0] h = F8 (eInv env k) k x0 h := kq_inv F8_eq
noncomputable def c9 : Code := codeOf Try.prog 9
theorem r9_0  : kCode env 9 false inv k (cp c9 2) (act 20 [(0, x0)]) h K =
    K .normal (act 20 [(0, x0)]) h := kq_reg
theorem r9_1  : kCode env 9 false inv k (cp c9 12) (act 20 [(0, x0)]) h K =
    K .normal (act 20 [(0, x0), (3, (.int .i64 0))]) h := kq_reg
theorem r9_2  : kCode env 9 false inv k (cp c9 208) (act 20 [(0, x0), (3, x3)]) h K =
    bnd (pLen Try.prog #[23] x0 h) fun x6 =>
    bnd (pBin Try.prog .lss 3 (.tmp 4) (.tmp 6) x3 x6) fun x7 =>
    K .normal (act 20 [(0, x0), (3, x3), (7, x7)]) h := kq_reg
theorem b9_rlllrlr  : kCode env 9 false inv k (cp c9 209) (act 20 [(0, x0), (3, x3), (7, x7)]) h K = brV x7 (kCode env 9 false inv k (cp c9 418) (act 20 [(0, x0), (3, x3), (7, x7)]) h K) (kCode env 9 false inv k (cp c9 419) (act 20 [(0, x0), (3, x3), (7, x7)]) h K) := kq_cond
theorem r9_4  : kCode env 9 false inv k (cp c9 840) (act 20 [(0, x0), (3, x3), (7, x7)]) h K =
    bnd (pIndexAddr Try.prog 23 x0 x3) fun x12 =>
    bnd (pFieldAddr Try.prog 42 x12 2) fun x13 =>
    bnd (pLoad Try.prog 9 x13 h) fun x14 =>
    bnd (pLen Try.prog #[9] x14 h) fun x15 =>
    bnd (pBin Try.prog .gtr 3 (.tmp 15) (.const (.int .i64 300)) x15 (.int .i64 300)) fun x16 =>
    K .normal (act 20 [(0, x0), (3, x3), (16, x16)]) h := kq_reg
theorem b9_rllrllrlr  : kCode env 9 false inv k (cp c9 841) (act 20 [(0, x0), (3, x3), (16, x16)]) h K = brV x16 (kCode env 9 false inv k (cp c9 1682) (act 20 [(0, x0), (3, x3), (16, x16)]) h K) (kCode env 9 false inv k (cp c9 1683) (act 20 [(0, x0), (3, x3), (16, x16)]) h K) := kq_cond
theorem r9_5  : kCode env 9 false inv k (cp c9 3364) (act 20 [(0, x0), (3, x3), (16, x16)]) h K =
    K .normal (act 20 [(2, (.bool false))]) h := kq_reg
theorem r9_3  : kCode env 9 false inv k (cp c9 211) (act 20 [(0, x0), (3, x3), (16, x16)]) h K =
    bnd (pBin Try.prog .add 3 (.tmp 8) (.const (.int .i64 1)) x3 (.int .i64 1)) fun x9 =>
    K .normal (act 20 [(0, x0), (3, x9)]) h := kq_reg
noncomputable def F9_lrlr {β : Type} (inv : Inv) (k : Nat) : Nat → Value → Value → AH → (Value → Value → Value → AH → Option β) → (Value → AH → Option β) → Option β
  | 0, _, _, _, _, _ => none
  | j + 1, x0, x3, h, ke0, kr =>
    bnd (pLen Try.prog #[23] x0 h) fun x6 =>
    bnd (pBin Try.prog .lss 3 (.tmp 4) (.tmp 6) x3 x6) fun x7 =>
    brV x7
    (bnd (pIndexAddr Try.prog 23 x0 x3) fun x12 =>
    bnd (pFieldAddr Try.prog 42 x12 2) fun x13 =>
    bnd (pLoad Try.prog 9 x13 h) fun x14 =>
    bnd (pLen Try.prog #[9] x14 h) fun x15 =>
    bnd (pBin Try.prog .gtr 3 (.tmp 15) (.const (.int .i64 300)) x15 (.int .i64 300)) fun x16 =>
    brV x16
    (kr (.bool false) h)
    (bnd (pBin Try.prog .add 3 (.tmp 8) (.const (.int .i64 1)) x3 (.int .i64 1)) fun x9 =>
    F9_lrlr inv k j x0 x9 h ke0 kr))
    (ke0 x0 x3 x7 h)
theorem F9_lrlr_j (j : Nat) : kLoop (kCode env 9 false inv k (cp c9 52)) j (act 20 [(0, x0), (3, x3)]) h K = F9_lrlr inv k j x0 x3 h (fun y0 y3 y7 h => K (.exit 0) (act 20 [(0, y0), (3, y3), (7, y7)]) h) (fun y2 h => K .ret (act 20 [(2, y2)]) h) := by
      induction j generalizing x0 x3 h with
      | zero => rfl
      | succ j ih =>
        unfold F9_lrlr
        simp only [kLoop, kq_seq c9 52, kq_seq c9 104, r9_2, b9_rlllrlr, kq_skip c9 418, kq_seq c9 105, kq_block c9 210 1, kq_seq c9 420, r9_4, b9_rllrllrlr, kq_seq c9 1682, r9_5, kq_ret c9 3365, kq_skip c9 1683, r9_3, kq_exit c9 419 0, ih, reduceIte, reduceCtorEq, XE.exit.injEq, Nat.reduceEqDiff, Nat.reduceMul, Nat.reduceAdd] <;> kernel_rfl
theorem F9_lrlr_eq  : kCode env 9 false inv k (cp c9 26) (act 20 [(0, x0), (3, x3)]) h K = F9_lrlr inv k k x0 x3 h (fun y0 y3 y7 h => K (.exit 0) (act 20 [(0, y0), (3, y3), (7, y7)]) h) (fun y2 h => K .ret (act 20 [(2, y2)]) h) := kq_loop (F9_lrlr_j k)
theorem r9_6  : kCode env 9 false inv k (cp c9 14) (act 20 [(0, x0), (3, x3), (7, x7)]) h K =
    bnd (pLen Try.prog #[23] x0 h) fun x18 =>
    bnd (pBin Try.prog .leq 3 (.tmp 18) (.const (.int .i64 20)) x18 (.int .i64 20)) fun x19 =>
    K .normal (act 20 [(2, x19)]) h := kq_reg
theorem res9_0 : resOfFn env.P 9 .ret (act 20 [(2, x2)]) h = some (x2, h) := kq_res
/-- shadowbook/shadowbookkit.LightRow -/
noncomputable def F9 (inv : Inv) (k : Nat) (x0 : Value) (h : AH) : Option (Value × AH) :=
    F9_lrlr inv k k x0 (.int .i64 0) h
    (fun y0 y3 y7 h =>
    bnd (pLen Try.prog #[23] y0 h) fun x18 =>
    bnd (pBin Try.prog .leq 3 (.tmp 18) (.const (.int .i64 20)) x18 (.int .i64 20)) fun x19 =>
    some (x19, h))
    (fun y2 h_1 =>
    some (y2, h_1))
theorem F9_eq : eFun env k inv 9 #[x0] h = F9 inv k x0 h := by
      refine (kq_fun (a := act 20 [(0, x0)]) (c := cp c9 1)).trans ?_
      unfold F9
      simp only [kq_seq c9 1, r9_0, kq_seq c9 3, kq_seq c9 6, r9_1, kq_block c9 13 0, F9_lrlr_eq, kq_seq c9 7, r9_6, kq_ret c9 15, res9_0, reduceIte, reduceCtorEq, XE.exit.injEq, Nat.reduceEqDiff, Nat.reduceMul, Nat.reduceAdd] <;> kernel_rfl
theorem F9_call : eInv env (k + 1) (.func 9) #[] #[x0] h = F9 (eInv env k) k x0 h := kq_inv F9_eq
noncomputable def c11 : Code := codeOf Try.prog 11
theorem r11_0  : kCode env 11 false inv k (cp c11 2) (act 11 [(0, x0), (1, x1)]) h K =
    bnd (pBox Try.prog 23 x1 h) fun x3 =>
    K .normal (act 11 [(0, x0), (3, x3.1)]) x3.2 := kq_reg
theorem r11_1  : kCode env 11 false inv k (cp c11 12) (act 11 [(0, x0), (3, x3)]) h K =
    bnd (pLen Try.prog #[22] x0 h) fun x6 =>
    bnd (pBin Try.prog .eql 3 (.tmp 6) (.const (.int .i64 0)) x6 (.int .i64 0)) fun x7 =>
    K .normal (act 11 [(0, x0), (3, x3), (7, x7)]) h := kq_reg
theorem b11_rlr  : kCode env 11 false inv k (cp c11 13) (act 11 [(0, x0), (3, x3), (7, x7)]) h K = brV x7 (kCode env 11 false inv k (cp c11 26) (act 11 [(0, x0), (3, x3), (7, x7)]) h K) (kCode env 11 false inv k (cp c11 27) (act 11 [(0, x0), (3, x3), (7, x7)]) h K) := kq_cond
theorem r11_2  : kCode env 11 false inv k (cp c11 52) (act 11 [(0, x0), (3, x3), (7, x7)]) h K =
    K .normal (act 11 [(4, (.bool true))]) h := kq_reg
theorem res11_0 : resOfFn env.P 11 .ret (act 11 [(4, x4)]) h = some (x4, h) := kq_res
theorem r11_3  : kCode env 11 false inv k (cp c11 14) (act 11 [(0, x0), (3, x3), (7, x7)]) h K =
    bnd (pMakeFunc (.func 25) #[] #[x3]) fun x9 =>
    bnd (inv (.func 24) #[] #[x0, (.bool false), x9] h) fun x10 =>
    K .normal (act 11 [(4, x10.1)]) x10.2 := kq_reg
/-- shadowbook/pred.Holds -/
noncomputable def F11 (inv : Inv) (k : Nat) (x0 x1 : Value) (h : AH) : Option (Value × AH) :=
    bnd (pBox Try.prog 23 x1 h) fun x3 =>
    bnd (pLen Try.prog #[22] x0 x3.2) fun x6 =>
    bnd (pBin Try.prog .eql 3 (.tmp 6) (.const (.int .i64 0)) x6 (.int .i64 0)) fun x7 =>
    brV x7
    (some ((.bool true), x3.2))
    (bnd (pMakeFunc (.func 25) #[] #[x3.1]) fun x9 =>
    bnd (inv (.func 24) #[] #[x0, (.bool false), x9] x3.2) fun x10 =>
    some (x10.1, x10.2))
theorem F11_eq : eFun env k inv 11 #[x0, x1] h = F11 inv k x0 x1 h := by
      refine (kq_fun (a := act 11 [(0, x0), (1, x1)]) (c := cp c11 1)).trans ?_
      unfold F11
      simp only [kq_seq c11 1, r11_0, kq_seq c11 3, kq_seq c11 6, r11_1, b11_rlr, kq_seq c11 26, r11_2, kq_ret c11 53, res11_0, kq_skip c11 27, kq_seq c11 7, r11_3, kq_ret c11 15, reduceIte, reduceCtorEq, XE.exit.injEq, Nat.reduceEqDiff, Nat.reduceMul, Nat.reduceAdd] <;> kernel_rfl
theorem F11_call : eInv env (k + 1) (.func 11) #[] #[x0, x1] h = F11 (eInv env k) k x0 x1 h := kq_inv F11_eq
noncomputable def c12 : Code := codeOf Try.prog 12
theorem r12_0  : kCode env 12 false inv k (cp c12 2) (act 73 [(0, x0), (1, x1)]) h K =
    K .normal (act 73 [(0, x0), (1, x1)]) h := kq_reg
theorem r12_1  : kCode env 12 false inv k (cp c12 6) (act 73 [(0, x0), (1, x1)]) h K =
    K .normal (act 73 [(0, x0), (1, x1), (5, (.slice none 0 0))]) h := kq_reg
theorem r12_2  : kCode env 12 false inv k (cp c12 14) (act 73 [(0, x0), (1, x1), (5, x5)]) h K =
    bnd (pBuild Try.prog 48 #[(0, x0)]) fun x14 =>
    bnd (pAlloc Try.prog 48 h) fun x6 =>
    bnd (kSt (pStore Try.prog 48 x6.1 x14 x6.2)) fun u =>
    K .normal (act 73 [(1, x1), (5, x5), (6, x6.1)]) u.2 := kq_reg
theorem r12_3  : kCode env 12 false inv k (cp c12 60) (act 73 [(1, x1), (5, x5), (6, x6)]) h K =
    bnd (pLen Try.prog #[45] x1 h) fun x16 =>
    K .normal (act 73 [(5, x5), (6, x6), (15, x1), (16, x16), (17, (.int .i64 0))]) h := kq_reg
theorem r12_4  : kCode env 12 false inv k (cp c12 488) (act 73 [(5, x5), (6, x6), (15, x15), (16, x16), (17, x17)]) h K =
    bnd (pBin Try.prog .lss 3 (.tmp 17) (.tmp 16) x17 x16) fun x18 =>
    K .normal (act 73 [(5, x5), (6, x6), (15, x15), (16, x16), (17, x17), (18, x18)]) h := kq_reg
theorem b12_lrllrlrrr  : kCode env 12 false inv k (cp c12 978) (act 73 [(5, x5), (6, x6), (15, x15), (16, x16), (17, x17), (18, x18)]) h K = brV x18 (kCode env 12 false inv k (cp c12 1956) (act 73 [(5, x5), (6, x6), (15, x15), (16, x16), (17, x17), (18, x18)]) h K) (kCode env 12 false inv k (cp c12 1957) (act 73 [(5, x5), (6, x6), (15, x15), (16, x16), (17, x17), (18, x18)]) h K) := kq_cond
theorem r12_5  : kCode env 12 false inv k (cp c12 7832) (act 73 [(5, x5), (6, x6), (15, x15), (16, x16), (17, x17), (18, x18)]) h K =
    bnd (pIndexAddr Try.prog 45 x15 x17) fun x19 =>
    bnd (pLoad Try.prog 22 x19 h) fun x20 =>
    K .normal (act 73 [(5, x5), (6, x6), (8, x20), (15, x15), (16, x16), (17, x17)]) h := kq_reg
theorem r12_6  : kCode env 12 false inv k (cp c12 15666) (act 73 [(5, x5), (6, x6), (8, x8), (15, x15), (16, x16), (17, x17)]) h K =
    bnd (pLen Try.prog #[22] x5 h) fun x22 =>
    K .normal (act 73 [(5, x5), (6, x6), (8, x8), (9, x22), (15, x15), (16, x16), (17, x17)]) h := kq_reg
theorem r12_7  : kCode env 12 false inv k (cp c12 62668) (act 73 [(5, x5), (6, x6), (8, x8), (9, x9), (15, x15), (16, x16), (17, x17)]) h K =
    bnd (pLen Try.prog #[22] x8 h) fun x24 =>
    bnd (pBin Try.prog .eql 3 (.tmp 24) (.const (.int .i64 0)) x24 (.int .i64 0)) fun x25 =>
    K .normal (act 73 [(5, x5), (6, x6), (8, x8), (9, x9), (15, x15), (16, x16), (17, x17), (25, x25)]) h := kq_reg
theorem b12_rlrrllrrllrlrrr  : kCode env 12 false inv k (cp c12 62669) (act 73 [(5, x5), (6, x6), (8, x8), (9, x9), (15, x15), (16, x16), (17, x17), (25, x25)]) h K = brV x25 (kCode env 12 false inv k (cp c12 125338) (act 73 [(5, x5), (6, x6), (8, x8), (9, x9), (15, x15), (16, x16), (17, x17), (25, x25)]) h K) (kCode env 12 false inv k (cp c12 125339) (act 73 [(5, x5), (6, x6), (8, x8), (9, x9), (15, x15), (16, x16), (17, x17), (25, x25)]) h K) := kq_cond
theorem r12_8  : kCode env 12 false inv k (cp c12 125338) (act 73 [(5, x5), (6, x6), (8, x8), (9, x9), (15, x15), (16, x16), (17, x17), (25, x25)]) h K =
    bnd (pBuild Try.prog 48 #[(0, (.int .i64 1))]) fun x27 =>
    bnd (pBuildSlice Try.prog 22 1 #[(0, x27)] h) fun x28 =>
    bnd (pAppend Try.prog #[22, 22] x5 x28.1 x28.2) fun x29 =>
    K .normal (act 73 [(5, x29.1), (6, x6), (8, x8), (9, x9), (15, x15), (16, x16), (17, x17)]) x29.2 := kq_reg
noncomputable def F12_rlrrllrrllrlrrr {β : Type} (inv : Inv) (k : Nat) (x5 x6 x8 x9 x15 x16 x17 x25 : Value) (h : AH) (kn : (Value → Value → Value → Value → Value → Value → Value → Value → AH → Option β)) : Option β :=
    brV x25
    (bnd (pBuild Try.prog 48 #[(0, (.int .i64 1))]) fun x27 =>
    bnd (pBuildSlice Try.prog 22 1 #[(0, x27)] h) fun x28 =>
    bnd (pAppend Try.prog #[22, 22] x5 x28.1 x28.2) fun x29 =>
    kn x29.1 x6 x8 x9 x15 x16 x17 unk x29.2)
    (kn x5 x6 x8 x9 x15 x16 x17 x25 h)
theorem F12_rlrrllrrllrlrrr_eq  : kCode env 12 false inv k (cp c12 62669) (act 73 [(5, x5), (6, x6), (8, x8), (9, x9), (15, x15), (16, x16), (17, x17), (25, x25)]) h K = F12_rlrrllrrllrlrrr inv k x5 x6 x8 x9 x15 x16 x17 x25 h (fun y5 y6 y8 y9 y15 y16 y17 y25 h => K .normal (act 73 [(5, y5), (6, y6), (8, y8), (9, y9), (15, y15), (16, y16), (17, y17), (25, y25)]) h) := by
      unfold F12_rlrrllrrllrlrrr
      simp only [b12_rlrrllrrllrlrrr, r12_8, kq_skip c12 125339, reduceIte, reduceCtorEq, XE.exit.injEq, Nat.reduceEqDiff, Nat.reduceMul, Nat.reduceAdd] <;> kernel_rfl
theorem r12_9  : kCode env 12 false inv k (cp c12 125340) (act 73 [(5, x5), (6, x6), (8, x8), (9, x9), (15, x15), (16, x16), (17, x17), (25, x25)]) h K =
    bnd (pLen Try.prog #[22] x8 h) fun x31 =>
    K .normal (act 73 [(5, x5), (6, x6), (9, x9), (15, x15), (16, x16), (17, x17), (30, x8), (31, x31), (32, (.int .i64 0))]) h := kq_reg
theorem r12_10  : kCode env 12 false inv k (cp c12 1002728) (act 73 [(5, x5), (6, x6), (9, x9), (15, x15), (16, x16), (17, x17), (30, x30), (31, x31), (32, x32)]) h K =
    bnd (pBin Try.prog .lss 3 (.tmp 32) (.tmp 31) x32 x31) fun x33 =>
    K .normal (act 73 [(5, x5), (6, x6), (9, x9), (15, x15), (16, x16), (17, x17), (30, x30), (31, x31), (32, x32), (33, x33)]) h := kq_reg
theorem b12_lrllrlrrrllrrllrlrrr  : kCode env 12 false inv k (cp c12 2005458) (act 73 [(5, x5), (6, x6), (9, x9), (15, x15), (16, x16), (17, x17), (30, x30), (31, x31), (32, x32), (33, x33)]) h K = brV x33 (kCode env 12 false inv k (cp c12 4010916) (act 73 [(5, x5), (6, x6), (9, x9), (15, x15), (16, x16), (17, x17), (30, x30), (31, x31), (32, x32), (33, x33)]) h K) (kCode env 12 false inv k (cp c12 4010917) (act 73 [(5, x5), (6, x6), (9, x9), (15, x15), (16, x16), (17, x17), (30, x30), (31, x31), (32, x32), (33, x33)]) h K) := kq_cond
theorem r12_11  : kCode env 12 false inv k (cp c12 16043672) (act 73 [(5, x5), (6, x6), (9, x9), (15, x15), (16, x16), (17, x17), (30, x30), (31, x31), (32, x32), (33, x33)]) h K =
    bnd (pIndexAddr Try.prog 22 x30 x32) fun x34 =>
    bnd (pLoad Try.prog 48 x34 h) fun x35 =>
    bnd (pAlloc Try.prog 48 h) fun x11 =>
    bnd (kSt (pStore Try.prog 48 x11.1 x35 x11.2)) fun u =>
    K .normal (act 73 [(5, x5), (6, x6), (9, x9), (11, x11.1), (15, x15), (16, x16), (17, x17), (30, x30), (31, x31), (32, x32)]) u.2 := kq_reg
theorem r12_12  : kCode env 12 false inv k (cp c12 32087346) (act 73 [(5, x5), (6, x6), (9, x9), (11, x11), (15, x15), (16, x16), (17, x17), (30, x30), (31, x31), (32, x32)]) h K =
    bnd (pFieldAddr Try.prog 48 x11 3) fun x36 =>
    bnd (pLoad Try.prog 46 x36 h) fun x37 =>
    bnd (inv (.func 29) #[] #[x37] h) fun x38 =>
    bnd (pFieldAddr Try.prog 48 x11 3) fun x39 =>
    bnd (kSt (pStore Try.prog 46 x39 x38.1 x38.2)) fun u =>
    K .normal (act 73 [(5, x5), (6, x6), (9, x9), (11, x11), (15, x15), (16, x16), (17, x17), (30, x30), (31, x31), (32, x32)]) u.2 := kq_reg
theorem r12_13  : kCode env 12 false inv k (cp c12 128349388) (act 73 [(5, x5), (6, x6), (9, x9), (11, x11), (15, x15), (16, x16), (17, x17), (30, x30), (31, x31), (32, x32)]) h K =
    bnd (pFieldAddr Try.prog 48 x11 3) fun x40 =>
    bnd (pLoad Try.prog 46 x40 h) fun x41 =>
    bnd (pLen Try.prog #[46] x41 h) fun x42 =>
    K .normal (act 73 [(5, x5), (6, x6), (9, x9), (11, x11), (15, x15), (16, x16), (17, x17), (30, x30), (31, x31), (32, x32), (42, x42), (43, (.int .i64 0))]) h := kq_reg
theorem r12_14  : kCode env 12 false inv k (cp c12 1026795112) (act 73 [(5, x5), (6, x6), (9, x9), (11, x11), (15, x15), (16, x16), (17, x17), (30, x30), (31, x31), (32, x32), (42, x42), (43, x43)]) h K =
    bnd (pBin Try.prog .lss 3 (.tmp 43) (.tmp 42) x43 x42) fun x44 =>
    K .normal (act 73 [(5, x5), (6, x6), (9, x9), (11, x11), (15, x15), (16, x16), (17, x17), (30, x30), (31, x31), (32, x32), (42, x42), (43, x43), (44, x44)]) h := kq_reg
theorem b12_lrllrlrrllrrllrlrrrllrrllrlrrr  : kCode env 12 false inv k (cp c12 2053590226) (act 73 [(5, x5), (6, x6), (9, x9), (11, x11), (15, x15), (16, x16), (17, x17), (30, x30), (31, x31), (32, x32), (42, x42), (43, x43), (44, x44)]) h K = brV x44 (kCode env 12 false inv k (cp c12 4107180452) (act 73 [(5, x5), (6, x6), (9, x9), (11, x11), (15, x15), (16, x16), (17, x17), (30, x30), (31, x31), (32, x32), (42, x42), (43, x43), (44, x44)]) h K) (kCode env 12 false inv k (cp c12 4107180453) (act 73 [(5, x5), (6, x6), (9, x9), (11, x11), (15, x15), (16, x16), (17, x17), (30, x30), (31, x31), (32, x32), (42, x42), (43, x43), (44, x44)]) h K) := kq_cond
theorem r12_15  : kCode env 12 false inv k (cp c12 16428721816) (act 73 [(5, x5), (6, x6), (9, x9), (11, x11), (15, x15), (16, x16), (17, x17), (30, x30), (31, x31), (32, x32), (42, x42), (43, x43), (44, x44)]) h K =
    K .normal (act 73 [(5, x5), (6, x6), (9, x9), (11, x11), (12, x43), (15, x15), (16, x16), (17, x17), (30, x30), (31, x31), (32, x32), (42, x42), (43, x43)]) h := kq_reg
theorem r12_16  : kCode env 12 false inv k (cp c12 16428721817) (act 73 [(5, x5), (6, x6), (9, x9), (11, x11), (12, x12), (15, x15), (16, x16), (17, x17), (30, x30), (31, x31), (32, x32), (42, x42), (43, x43)]) h K =
    bnd (pFieldAddr Try.prog 48 x11 3) fun x46 =>
    bnd (pLoad Try.prog 46 x46 h) fun x47 =>
    bnd (pIndexAddr Try.prog 46 x47 x12) fun x49 =>
    bnd (pLoad Try.prog 3 x49 h) fun x50 =>
    bnd (pBin Try.prog .add 3 (.tmp 50) (.tmp 51) x50 x9) fun x52 =>
    bnd (pIndexAddr Try.prog 46 x47 x12) fun x53 =>
    bnd (kSt (pStore Try.prog 3 x53 x52 h)) fun u =>
    K .normal (act 73 [(5, x5), (6, x6), (9, x9), (11, x11), (15, x15), (16, x16), (17, x17), (30, x30), (31, x31), (32, x32), (42, x42), (43, x43)]) u.2 := kq_reg
theorem r12_17  : kCode env 12 false inv k (cp c12 4107180455) (act 73 [(5, x5), (6, x6), (9, x9), (11, x11), (15, x15), (16, x16), (17, x17), (30, x30), (31, x31), (32, x32), (42, x42), (43, x43)]) h K =
    bnd (pBin Try.prog .add 3 (.tmp 43) (.const (.int .i64 1)) x43 (.int .i64 1)) fun x54 =>
    K .normal (act 73 [(5, x5), (6, x6), (9, x9), (11, x11), (15, x15), (16, x16), (17, x17), (30, x30), (31, x31), (32, x32), (42, x42), (43, x54)]) h := kq_reg
noncomputable def F12_lrlrrllrrllrlrrrllrrllrlrrr {β : Type} (inv : Inv) (k : Nat) : Nat → Value → Value → Value → Value → Value → Value → Value → Value → Value → Value → Value → Value → AH → (Value → Value → Value → Value → Value → Value → Value → Value → Value → Value → Value → Value → Value → AH → Option β) → Option β
  | 0, _, _, _, _, _, _, _, _, _, _, _, _, _, _ => none
  | j + 1, x5, x6, x9, x11, x15, x16, x17, x30, x31, x32, x42, x43, h, ke4 =>
    bnd (pBin Try.prog .lss 3 (.tmp 43) (.tmp 42) x43 x42) fun x44 =>
    brV x44
    (bnd (pFieldAddr Try.prog 48 x11 3) fun x46 =>
    bnd (pLoad Try.prog 46 x46 h) fun x47 =>
    bnd (pIndexAddr Try.prog 46 x47 x43) fun x49 =>
    bnd (pLoad Try.prog 3 x49 h) fun x50 =>
    bnd (pBin Try.prog .add 3 (.tmp 50) (.tmp 51) x50 x9) fun x52 =>
    bnd (pIndexAddr Try.prog 46 x47 x43) fun x53 =>
    bnd (kSt (pStore Try.prog 3 x53 x52 h)) fun u =>
    bnd (pBin Try.prog .add 3 (.tmp 43) (.const (.int .i64 1)) x43 (.int .i64 1)) fun x54 =>
    F12_lrlrrllrrllrlrrrllrrllrlrrr inv k j x5 x6 x9 x11 x15 x16 x17 x30 x31 x32 x42 x54 u.2 ke4)
    (ke4 x5 x6 x9 x11 x15 x16 x17 x30 x31 x32 x42 x43 x44 h)
theorem F12_lrlrrllrrllrlrrrllrrllrlrrr_j (j : Nat) : kLoop (kCode env 12 false inv k (cp c12 513397556)) j (act 73 [(5, x5), (6, x6), (9, x9), (11, x11), (15, x15), (16, x16), (17, x17), (30, x30), (31, x31), (32, x32), (42, x42), (43, x43)]) h K = F12_lrlrrllrrllrlrrrllrrllrlrrr inv k j x5 x6 x9 x11 x15 x16 x17 x30 x31 x32 x42 x43 h (fun y5 y6 y9 y11 y15 y16 y17 y30 y31 y32 y42 y43 y44 h => K (.exit 4) (act 73 [(5, y5), (6, y6), (9, y9), (11, y11), (15, y15), (16, y16), (17, y17), (30, y30), (31, y31), (32, y32), (42, y42), (43, y43), (44, y44)]) h) := by
      induction j generalizing x5 x6 x9 x11 x15 x16 x17 x30 x31 x32 x42 x43 h with
      | zero => rfl
      | succ j ih =>
        unfold F12_lrlrrllrrllrlrrrllrrllrlrrr
        simp only [kLoop, kq_seq c12 513397556, r12_14, kq_seq c12 1026795113, b12_lrllrlrrllrrllrlrrrllrrllrlrrr, kq_skip c12 4107180452, kq_seq c12 2053590227, kq_block c12 4107180454 5, kq_seq c12 8214360908, r12_15, r12_16, r12_17, kq_exit c12 4107180453 4, ih, reduceIte, reduceCtorEq, XE.exit.injEq, Nat.reduceEqDiff, Nat.reduceMul, Nat.reduceAdd] <;> kernel_rfl
theorem F12_lrlrrllrrllrlrrrllrrllrlrrr_eq  : kCode env 12 false inv k (cp c12 256698778) (act 73 [(5, x5), (6, x6), (9, x9), (11, x11), (15, x15), (16, x16), (17, x17), (30, x30), (31, x31), (32, x32), (42, x42), (43, x43)]) h K = F12_lrlrrllrrllrlrrrllrrllrlrrr inv k k x5 x6 x9 x11 x15 x16 x17 x30 x31 x32 x42 x43 h (fun y5 y6 y9 y11 y15 y16 y17 y30 y31 y32 y42 y43 y44 h => K (.exit 4) (act 73 [(5, y5), (6, y6), (9, y9), (11, y11), (15, y15), (16, y16), (17, y17), (30, y30), (31, y31), (32, y32), (42, y42), (43, y43), (44, y44)]) h) := kq_loop (F12_lrlrrllrrllrlrrrllrrllrlrrr_j k)
theorem r12_18  : kCode env 12 false inv k (cp c12 64174695) (act 73 [(5, x5), (6, x6), (9, x9), (11, x11), (15, x15), (16, x16), (17, x17), (30, x30), (31, x31), (32, x32), (42, x42), (43, x43), (44, x44)]) h K =
    bnd (pLoad Try.prog 48 x11 h) fun x56 =>
    bnd (pBuildSlice Try.prog 22 1 #[(0, x56)] h) fun x57 =>
    bnd (pAppend Try.prog #[22, 22] x5 x57.1 x57.2) fun x58 =>
    K .normal (act 73 [(5, x58.1), (6, x6), (9, x9), (15, x15), (16, x16), (17, x17), (30, x30), (31, x31), (32, x32)]) x58.2 := kq_reg
theorem r12_19  : kCode env 12 false inv k (cp c12 4010919) (act 73 [(5, x5), (6, x6), (9, x9), (15, x15), (16, x16), (17, x17), (30, x30), (31, x31), (32, x32)]) h K =
    bnd (pBin Try.prog .add 3 (.tmp 32) (.const (.int .i64 1)) x32 (.int .i64 1)) fun x59 =>
    K .normal (act 73 [(5, x5), (6, x6), (9, x9), (15, x15), (16, x16), (17, x17), (30, x30), (31, x31), (32, x59)]) h := kq_reg
noncomputable def F12_lrlrrrllrrllrlrrr {β : Type} (inv : Inv) (k : Nat) : Nat → Value → Value → Value → Value → Value → Value → Value → Value → Value → AH → (Value → Value → Value → Value → Value → Value → Value → Value → Value → Value → AH → Option β) → Option β
  | 0, _, _, _, _, _, _, _, _, _, _, _ => none
  | j + 1, x5, x6, x9, x15, x16, x17, x30, x31, x32, h, ke2 =>
    bnd (pBin Try.prog .lss 3 (.tmp 32) (.tmp 31) x32 x31) fun x33 =>
    brV x33
    (bnd (pIndexAddr Try.prog 22 x30 x32) fun x34 =>
    bnd (pLoad Try.prog 48 x34 h) fun x35 =>
    bnd (pAlloc Try.prog 48 h) fun x11 =>
    bnd (kSt (pStore Try.prog 48 x11.1 x35 x11.2)) fun u =>
    bnd (pFieldAddr Try.prog 48 x11.1 3) fun x36 =>
    bnd (pLoad Try.prog 46 x36 u.2) fun x37 =>
    bnd (inv (.func 29) #[] #[x37] u.2) fun x38 =>
    bnd (pFieldAddr Try.prog 48 x11.1 3) fun x39 =>
    bnd (kSt (pStore Try.prog 46 x39 x38.1 x38.2)) fun u_1 =>
    bnd (pFieldAddr Try.prog 48 x11.1 3) fun x40 =>
    bnd (pLoad Try.prog 46 x40 u_1.2) fun x41 =>
    bnd (pLen Try.prog #[46] x41 u_1.2) fun x42 =>
    F12_lrlrrllrrllrlrrrllrrllrlrrr inv k k x5 x6 x9 x11.1 x15 x16 x17 x30 x31 x32 x42 (.int .i64 0) u_1.2
    (fun y5 y6 y9 y11 y15 y16 y17 y30 y31 y32 y42 y43 y44 h =>
    bnd (pLoad Try.prog 48 y11 h) fun x56 =>
    bnd (pBuildSlice Try.prog 22 1 #[(0, x56)] h) fun x57 =>
    bnd (pAppend Try.prog #[22, 22] y5 x57.1 x57.2) fun x58 =>
    bnd (pBin Try.prog .add 3 (.tmp 32) (.const (.int .i64 1)) y32 (.int .i64 1)) fun x59 =>
    F12_lrlrrrllrrllrlrrr inv k j x58.1 y6 y9 y15 y16 y17 y30 y31 x59 x58.2 ke2))
    (ke2 x5 x6 x9 x15 x16 x17 x30 x31 x32 x33 h)
theorem F12_lrlrrrllrrllrlrrr_j (j : Nat) : kLoop (kCode env 12 false inv k (cp c12 501364)) j (act 73 [(5, x5), (6, x6), (9, x9), (15, x15), (16, x16), (17, x17), (30, x30), (31, x31), (32, x32)]) h K = F12_lrlrrrllrrllrlrrr inv k j x5 x6 x9 x15 x16 x17 x30 x31 x32 h (fun y5 y6 y9 y15 y16 y17 y30 y31 y32 y33 h => K (.exit 2) (act 73 [(5, y5), (6, y6), (9, y9), (15, y15), (16, y16), (17, y17), (30, y30), (31, y31), (32, y32), (33, y33)]) h) := by
      induction j generalizing x5 x6 x9 x15 x16 x17 x30 x31 x32 h with
      | zero => rfl
      | succ j ih =>
        unfold F12_lrlrrrllrrllrlrrr
        simp only [kLoop, kq_seq c12 501364, r12_10, kq_seq c12 1002729, b12_lrllrlrrrllrrllrlrrr, kq_skip c12 4010916, kq_seq c12 2005459, kq_block c12 4010918 3, kq_seq c12 8021836, r12_11, kq_seq c12 16043673, r12_12, kq_seq c12 32087347, kq_seq c12 64174694, r12_13, kq_block c12 128349389 4, F12_lrlrrllrrllrlrrrllrrllrlrrr_eq, r12_18, r12_19, kq_exit c12 4010917 2, ih, reduceIte, reduceCtorEq, XE.exit.injEq, Nat.reduceEqDiff, Nat.reduceMul, Nat.reduceAdd] <;> kernel_rfl
theorem F12_lrlrrrllrrllrlrrr_eq  : kCode env 12 false inv k (cp c12 250682) (act 73 [(5, x5), (6, x6), (9, x9), (15, x15), (16, x16), (17, x17), (30, x30), (31, x31), (32, x32)]) h K = F12_lrlrrrllrrllrlrrr inv k k x5 x6 x9 x15 x16 x17 x30 x31 x32 h (fun y5 y6 y9 y15 y16 y17 y30 y31 y32 y33 h => K (.exit 2) (act 73 [(5, y5), (6, y6), (9, y9), (15, y15), (16, y16), (17, y17), (30, y30), (31, y31), (32, y32), (33, y33)]) h) := kq_loop (F12_lrlrrrllrrllrlrrr_j k)
noncomputable abbrev G12_20 {β : Type} (inv : Inv) (x5 x6 x15 x16 x17 : Value) (h : AH) (K : AH → Option β) : Option β :=
    bnd (pFieldAddr Try.prog 48 x6 3) fun x60 =>
    bnd (pLoad Try.prog 46 x60 h) fun x61 =>
    bnd (pLen Try.prog #[22] x5 h) fun x63 =>
    bnd (pBin Try.prog .sub 3 (.tmp 63) (.const (.int .i64 1)) x63 (.int .i64 1)) fun x64 =>
    bnd (pBuildSlice Try.prog 46 1 #[(0, x64)] h) fun x65 =>
    bnd (pAppend Try.prog #[46, 46] x61 x65.1 x65.2) fun x66 =>
    bnd (pFieldAddr Try.prog 48 x6 3) fun x67 =>
    bnd (kSt (pStore Try.prog 46 x67 x66.1 x66.2)) fun u =>
    K u.2
theorem r12_20  : kCode env 12 false inv k (cp c12 62671) (act 73 [(5, x5), (6, x6), (9, x9), (15, x15), (16, x16), (17, x17), (30, x30), (31, x31), (32, x32), (33, x33)]) h K =
    G12_20 inv x5 x6 x15 x16 x17 h fun  h => K .normal (act 73 [(5, x5), (6, x6), (15, x15), (16, x16), (17, x17)]) h := kq_reg
theorem r12_21  : kCode env 12 false inv k (cp c12 1959) (act 73 [(5, x5), (6, x6), (15, x15), (16, x16), (17, x17)]) h K =
    bnd (pBin Try.prog .add 3 (.tmp 17) (.const (.int .i64 1)) x17 (.int .i64 1)) fun x68 =>
    K .normal (act 73 [(5, x5), (6, x6), (15, x15), (16, x16), (17, x68)]) h := kq_reg
noncomputable def F12_lrlrrr {β : Type} (inv : Inv) (k : Nat) : Nat → Value → Value → Value → Value → Value → AH → (Value → Value → Value → Value → Value → Value → AH → Option β) → Option β
  | 0, _, _, _, _, _, _, _ => none
  | j + 1, x5, x6, x15, x16, x17, h, ke0 =>
    bnd (pBin Try.prog .lss 3 (.tmp 17) (.tmp 16) x17 x16) fun x18 =>
    brV x18
    (bnd (pIndexAddr Try.prog 45 x15 x17) fun x19 =>
    bnd (pLoad Try.prog 22 x19 h) fun x20 =>
    bnd (pLen Try.prog #[22] x5 h) fun x22 =>
    bnd (pLen Try.prog #[22] x20 h) fun x24 =>
    bnd (pBin Try.prog .eql 3 (.tmp 24) (.const (.int .i64 0)) x24 (.int .i64 0)) fun x25 =>
    F12_rlrrllrrllrlrrr inv k x5 x6 x20 x22 x15 x16 x17 x25 h
    (fun y5 y6 y8 y9 y15 y16 y17 y25 h =>
    bnd (pLen Try.prog #[22] y8 h) fun x31 =>
    F12_lrlrrrllrrllrlrrr inv k k y5 y6 y9 y15 y16 y17 y8 x31 (.int .i64 0) h
    (fun y5_2 y6_3 y9_4 y15_5 y16_6 y17_7 y30 y31 y32 y33 h_8 =>
    G12_20 inv y5_2 y6_3 y15_5 y16_6 y17_7 h_8 fun  h_9 =>
    bnd (pBin Try.prog .add 3 (.tmp 17) (.const (.int .i64 1)) y17_7 (.int .i64 1)) fun x68 =>
    F12_lrlrrr inv k j y5_2 y6_3 y15_5 y16_6 x68 h_9 ke0)))
    (ke0 x5 x6 x15 x16 x17 x18 h)
theorem F12_lrlrrr_j (j : Nat) : kLoop (kCode env 12 false inv k (cp c12 244)) j (act 73 [(5, x5), (6, x6), (15, x15), (16, x16), (17, x17)]) h K = F12_lrlrrr inv k j x5 x6 x15 x16 x17 h (fun y5 y6 y15 y16 y17 y18 h => K (.exit 0) (act 73 [(5, y5), (6, y6), (15, y15), (16, y16), (17, y17), (18, y18)]) h) := by
      induction j generalizing x5 x6 x15 x16 x17 h with
      | zero => rfl
      | succ j ih =>
        unfold F12_lrlrrr
        simp only [kLoop, kq_seq c12 244, r12_4, kq_seq c12 489, b12_lrllrlrrr, kq_skip c12 1956, kq_seq c12 979, kq_block c12 1958 1, kq_seq c12 3916, r12_5, kq_seq c12 7833, r12_6, kq_seq c12 15667, kq_seq c12 31334, r12_7, F12_rlrrllrrllrlrrr_eq, kq_seq c12 31335, kq_seq c12 62670, r12_9, kq_block c12 125341 2, F12_lrlrrrllrrllrlrrr_eq, r12_20, r12_21, kq_exit c12 1957 0, ih, reduceIte, reduceCtorEq, XE.exit.injEq, Nat.reduceEqDiff, Nat.reduceMul, Nat.reduceAdd] <;> kernel_rfl
theorem F12_lrlrrr_eq  : kCode env 12 false inv k (cp c12 122) (act 73 [(5, x5), (6, x6), (15, x15), (16, x16), (17, x17)]) h K = F12_lrlrrr inv k k x5 x6 x15 x16 x17 h (fun y5 y6 y15 y16 y17 y18 h => K (.exit 0) (act 73 [(5, y5), (6, y6), (15, y15), (16, y16), (17, y17), (18, y18)]) h) := kq_loop (F12_lrlrrr_j k)
theorem r12_22  : kCode env 12 false inv k (cp c12 62) (act 73 [(5, x5), (6, x6), (15, x15), (16, x16), (17, x17), (18, x18)]) h K =
    bnd (pLoad Try.prog 48 x6 h) fun x70 =>
    bnd (pBuildSlice Try.prog 22 1 #[(0, x70)] h) fun x71 =>
    bnd (pAppend Try.prog #[22, 22] x5 x71.1 x71.2) fun x72 =>
    K .normal (act 73 [(4, x72.1)]) x72.2 := kq_reg
theorem res12_0 : resOfFn env.P 12 .ret (act 73 [(4, x4)]) h = some (x4, h) := kq_res
/-- shadowbook/pred.Join -/
noncomputable def F12 (inv : Inv) (k : Nat) (x0 x1 : Value) (h : AH) : Option (Value × AH) :=
    bnd (pBuild Try.prog 48 #[(0, x0)]) fun x14 =>
    bnd (pAlloc Try.prog 48 h) fun x6 =>
    bnd (kSt (pStore Try.prog 48 x6.1 x14 x6.2)) fun u =>
    bnd (pLen Try.prog #[45] x1 u.2) fun x16 =>
    F12_lrlrrr inv k k (.slice none 0 0) x6.1 x1 x16 (.int .i64 0) u.2
    (fun y5 y6 y15 y16 y17 y18 h =>
    bnd (pLoad Try.prog 48 y6 h) fun x70 =>
    bnd (pBuildSlice Try.prog 22 1 #[(0, x70)] h) fun x71 =>
    bnd (pAppend Try.prog #[22, 22] y5 x71.1 x71.2) fun x72 =>
    some (x72.1, x72.2))
theorem F12_eq : eFun env k inv 12 #[x0, x1] h = F12 inv k x0 x1 h := by
      refine (kq_fun (a := act 73 [(0, x0), (1, x1)]) (c := cp c12 1)).trans ?_
      unfold F12
      simp only [kq_seq c12 1, r12_0, kq_seq c12 3, r12_1, kq_seq c12 7, r12_2, kq_seq c12 15, kq_seq c12 30, r12_3, kq_block c12 61 0, F12_lrlrrr_eq, kq_seq c12 31, r12_22, kq_ret c12 63, res12_0, reduceIte, reduceCtorEq, XE.exit.injEq, Nat.reduceEqDiff, Nat.reduceMul, Nat.reduceAdd] <;> kernel_rfl
theorem F12_call : eInv env (k + 1) (.func 12) #[] #[x0, x1] h = F12 (eInv env k) k x0 x1 h := kq_inv F12_eq
noncomputable def c13 : Code := codeOf Try.prog 13
theorem r13_0  : kCode env 13 false inv k (cp c13 2) (act 20 [(0, x0)]) h K =
    K .normal (act 20 [(0, x0)]) h := kq_reg
theorem r13_1  : kCode env 13 false inv k (cp c13 12) (act 20 [(0, x0)]) h K =
    K .normal (act 20 [(0, x0), (3, (.int .i64 0))]) h := kq_reg
theorem r13_2  : kCode env 13 false inv k (cp c13 208) (act 20 [(0, x0), (3, x3)]) h K =
    bnd (pLen Try.prog #[30] x0 h) fun x6 =>
    bnd (pBin Try.prog .lss 3 (.tmp 4) (.tmp 6) x3 x6) fun x7 =>
    K .normal (act 20 [(0, x0), (3, x3), (7, x7)]) h := kq_reg
theorem b13_rlllrlr  : kCode env 13 false inv k (cp c13 209) (act 20 [(0, x0), (3, x3), (7, x7)]) h K = brV x7 (kCode env 13 false inv k (cp c13 418) (act 20 [(0, x0), (3, x3), (7, x7)]) h K) (kCode env 13 false inv k (cp c13 419) (act 20 [(0, x0), (3, x3), (7, x7)]) h K) := kq_cond
theorem r13_4  : kCode env 13 false inv k (cp c13 840) (act 20 [(0, x0), (3, x3), (7, x7)]) h K =
    bnd (pIndexAddr Try.prog 30 x0 x3) fun x12 =>
    bnd (pFieldAddr Try.prog 50 x12 0) fun x13 =>
    bnd (pLoad Try.prog 9 x13 h) fun x14 =>
    bnd (pLen Try.prog #[9] x14 h) fun x15 =>
    bnd (pBin Try.prog .gtr 3 (.tmp 15) (.const (.int .i64 60)) x15 (.int .i64 60)) fun x16 =>
    K .normal (act 20 [(0, x0), (3, x3), (16, x16)]) h := kq_reg
theorem b13_rllrllrlr  : kCode env 13 false inv k (cp c13 841) (act 20 [(0, x0), (3, x3), (16, x16)]) h K = brV x16 (kCode env 13 false inv k (cp c13 1682) (act 20 [(0, x0), (3, x3), (16, x16)]) h K) (kCode env 13 false inv k (cp c13 1683) (act 20 [(0, x0), (3, x3), (16, x16)]) h K) := kq_cond
theorem r13_5  : kCode env 13 false inv k (cp c13 3364) (act 20 [(0, x0), (3, x3), (16, x16)]) h K =
    K .normal (act 20 [(2, (.bool false))]) h := kq_reg
theorem r13_3  : kCode env 13 false inv k (cp c13 211) (act 20 [(0, x0), (3, x3), (16, x16)]) h K =
    bnd (pBin Try.prog .add 3 (.tmp 8) (.const (.int .i64 1)) x3 (.int .i64 1)) fun x9 =>
    K .normal (act 20 [(0, x0), (3, x9)]) h := kq_reg
noncomputable def F13_lrlr {β : Type} (inv : Inv) (k : Nat) : Nat → Value → Value → AH → (Value → Value → Value → AH → Option β) → (Value → AH → Option β) → Option β
  | 0, _, _, _, _, _ => none
  | j + 1, x0, x3, h, ke0, kr =>
    bnd (pLen Try.prog #[30] x0 h) fun x6 =>
    bnd (pBin Try.prog .lss 3 (.tmp 4) (.tmp 6) x3 x6) fun x7 =>
    brV x7
    (bnd (pIndexAddr Try.prog 30 x0 x3) fun x12 =>
    bnd (pFieldAddr Try.prog 50 x12 0) fun x13 =>
    bnd (pLoad Try.prog 9 x13 h) fun x14 =>
    bnd (pLen Try.prog #[9] x14 h) fun x15 =>
    bnd (pBin Try.prog .gtr 3 (.tmp 15) (.const (.int .i64 60)) x15 (.int .i64 60)) fun x16 =>
    brV x16
    (kr (.bool false) h)
    (bnd (pBin Try.prog .add 3 (.tmp 8) (.const (.int .i64 1)) x3 (.int .i64 1)) fun x9 =>
    F13_lrlr inv k j x0 x9 h ke0 kr))
    (ke0 x0 x3 x7 h)
theorem F13_lrlr_j (j : Nat) : kLoop (kCode env 13 false inv k (cp c13 52)) j (act 20 [(0, x0), (3, x3)]) h K = F13_lrlr inv k j x0 x3 h (fun y0 y3 y7 h => K (.exit 0) (act 20 [(0, y0), (3, y3), (7, y7)]) h) (fun y2 h => K .ret (act 20 [(2, y2)]) h) := by
      induction j generalizing x0 x3 h with
      | zero => rfl
      | succ j ih =>
        unfold F13_lrlr
        simp only [kLoop, kq_seq c13 52, kq_seq c13 104, r13_2, b13_rlllrlr, kq_skip c13 418, kq_seq c13 105, kq_block c13 210 1, kq_seq c13 420, r13_4, b13_rllrllrlr, kq_seq c13 1682, r13_5, kq_ret c13 3365, kq_skip c13 1683, r13_3, kq_exit c13 419 0, ih, reduceIte, reduceCtorEq, XE.exit.injEq, Nat.reduceEqDiff, Nat.reduceMul, Nat.reduceAdd] <;> kernel_rfl
theorem F13_lrlr_eq  : kCode env 13 false inv k (cp c13 26) (act 20 [(0, x0), (3, x3)]) h K = F13_lrlr inv k k x0 x3 h (fun y0 y3 y7 h => K (.exit 0) (act 20 [(0, y0), (3, y3), (7, y7)]) h) (fun y2 h => K .ret (act 20 [(2, y2)]) h) := kq_loop (F13_lrlr_j k)
theorem r13_6  : kCode env 13 false inv k (cp c13 14) (act 20 [(0, x0), (3, x3), (7, x7)]) h K =
    bnd (pLen Try.prog #[30] x0 h) fun x18 =>
    bnd (pBin Try.prog .leq 3 (.tmp 18) (.const (.int .i64 20)) x18 (.int .i64 20)) fun x19 =>
    K .normal (act 20 [(2, x19)]) h := kq_reg
theorem res13_0 : resOfFn env.P 13 .ret (act 20 [(2, x2)]) h = some (x2, h) := kq_res
/-- shadowbook/shadowbookkit.LightCols -/
noncomputable def F13 (inv : Inv) (k : Nat) (x0 : Value) (h : AH) : Option (Value × AH) :=
    F13_lrlr inv k k x0 (.int .i64 0) h
    (fun y0 y3 y7 h =>
    bnd (pLen Try.prog #[30] y0 h) fun x18 =>
    bnd (pBin Try.prog .leq 3 (.tmp 18) (.const (.int .i64 20)) x18 (.int .i64 20)) fun x19 =>
    some (x19, h))
    (fun y2 h_1 =>
    some (y2, h_1))
theorem F13_eq : eFun env k inv 13 #[x0] h = F13 inv k x0 h := by
      refine (kq_fun (a := act 20 [(0, x0)]) (c := cp c13 1)).trans ?_
      unfold F13
      simp only [kq_seq c13 1, r13_0, kq_seq c13 3, kq_seq c13 6, r13_1, kq_block c13 13 0, F13_lrlr_eq, kq_seq c13 7, r13_6, kq_ret c13 15, res13_0, reduceIte, reduceCtorEq, XE.exit.injEq, Nat.reduceEqDiff, Nat.reduceMul, Nat.reduceAdd] <;> kernel_rfl
theorem F13_call : eInv env (k + 1) (.func 13) #[] #[x0] h = F13 (eInv env k) k x0 h := kq_inv F13_eq
noncomputable def c15 : Code := codeOf Try.prog 15
theorem r15_0  : kCode env 15 false inv k (cp c15 2) (act 66 [(0, x0), (1, x1)]) h K =
    K .normal (act 66 [(0, x0), (1, x1)]) h := kq_reg
theorem r15_1  : kCode env 15 false inv k (cp c15 12) (act 66 [(0, x0), (1, x1)]) h K =
    bnd (inv (.func 30) #[] #[x0] h) fun x12 =>
    K .normal (act 66 [(0, x0), (1, x1), (5, x12.1)]) x12.2 := kq_reg
theorem r15_2  : kCode env 15 false inv k (cp c15 26) (act 66 [(0, x0), (1, x1), (5, x5)]) h K =
    bnd (pBin Try.prog .neq 34 (.tmp 13) (.const (.int .i64 0)) x5 (.int .i64 0)) fun x14 =>
    K .normal (act 66 [(0, x0), (1, x1), (5, x5), (14, x14)]) h := kq_reg
theorem b15_rrlr  : kCode env 15 false inv k (cp c15 27) (act 66 [(0, x0), (1, x1), (5, x5), (14, x14)]) h K = brV x14 (kCode env 15 false inv k (cp c15 54) (act 66 [(0, x0), (1, x1), (5, x5), (14, x14)]) h K) (kCode env 15 false inv k (cp c15 55) (act 66 [(0, x0), (1, x1), (5, x5), (14, x14)]) h K) := kq_cond
theorem r15_3  : kCode env 15 false inv k (cp c15 108) (act 66 [(0, x0), (1, x1), (5, x5), (14, x14)]) h K =
    K .normal (act 66 [(4, x5)]) h := kq_reg
theorem res15_0 : resOfFn env.P 15 .ret (act 66 [(4, x4)]) h = some (x4, h) := kq_res
theorem r15_4  : kCode env 15 false inv k (cp c15 28) (act 66 [(0, x0), (1, x1), (5, x5), (14, x14)]) h K =
    bnd (pLen Try.prog #[22] x1 h) fun x17 =>
    bnd (pBin Try.prog .gtr 3 (.tmp 17) (.const (.int .i64 64)) x17 (.int .i64 64)) fun x18 =>
    K .normal (act 66 [(0, x0), (1, x1), (18, x18)]) h := kq_reg
theorem b15_rlrr  : kCode env 15 false inv k (cp c15 29) (act 66 [(0, x0), (1, x1), (18, x18)]) h K = brV x18 (kCode env 15 false inv k (cp c15 58) (act 66 [(0, x0), (1, x1), (18, x18)]) h K) (kCode env 15 false inv k (cp c15 59) (act 66 [(0, x0), (1, x1), (18, x18)]) h K) := kq_cond
theorem r15_5  : kCode env 15 false inv k (cp c15 116) (act 66 [(0, x0), (1, x1), (18, x18)]) h K =
    K .normal (act 66 [(4, (.int .i64 180))]) h := kq_reg
theorem r15_6  : kCode env 15 false inv k (cp c15 30) (act 66 [(0, x0), (1, x1), (18, x18)]) h K =
    bnd (pLen Try.prog #[22] x1 h) fun x20 =>
    bnd (pMakeSlice Try.prog 46 x20 x20 h) fun x21 =>
    K .normal (act 66 [(0, x0), (1, x1), (6, x21.1)]) x21.2 := kq_reg
theorem r15_7  : kCode env 15 false inv k (cp c15 124) (act 66 [(0, x0), (1, x1), (6, x6)]) h K =
    bnd (pLen Try.prog #[22] x1 h) fun x23 =>
    K .normal (act 66 [(0, x0), (1, x1), (6, x6), (22, x1), (23, x23), (24, (.int .i64 0))]) h := kq_reg
theorem r15_8  : kCode env 15 false inv k (cp c15 1000) (act 66 [(0, x0), (1, x1), (6, x6), (22, x22), (23, x23), (24, x24)]) h K =
    bnd (pBin Try.prog .lss 3 (.tmp 24) (.tmp 23) x24 x23) fun x25 =>
    K .normal (act 66 [(0, x0), (1, x1), (6, x6), (22, x22), (23, x23), (24, x24), (25, x25)]) h := kq_reg
theorem b15_lrllrlrrrr  : kCode env 15 false inv k (cp c15 2002) (act 66 [(0, x0), (1, x1), (6, x6), (22, x22), (23, x23), (24, x24), (25, x25)]) h K = brV x25 (kCode env 15 false inv k (cp c15 4004) (act 66 [(0, x0), (1, x1), (6, x6), (22, x22), (23, x23), (24, x24), (25, x25)]) h K) (kCode env 15 false inv k (cp c15 4005) (act 66 [(0, x0), (1, x1), (6, x6), (22, x22), (23, x23), (24, x24), (25, x25)]) h K) := kq_cond
theorem r15_9  : kCode env 15 false inv k (cp c15 16024) (act 66 [(0, x0), (1, x1), (6, x6), (22, x22), (23, x23), (24, x24), (25, x25)]) h K =
    bnd (pIndexAddr Try.prog 22 x22 x24) fun x27 =>
    bnd (pLoad Try.prog 48 x27 h) fun x28 =>
    bnd (pAlloc Try.prog 48 h) fun x8 =>
    bnd (kSt (pStore Try.prog 48 x8.1 x28 x8.2)) fun u =>
    K .normal (act 66 [(0, x0), (1, x1), (6, x6), (7, x24), (8, x8.1), (22, x22), (23, x23), (24, x24)]) u.2 := kq_reg
theorem r15_10  : kCode env 15 false inv k (cp c15 64100) (act 66 [(0, x0), (1, x1), (6, x6), (7, x7), (8, x8), (22, x22), (23, x23), (24, x24)]) h K =
    bnd (pLoad Try.prog 48 x8 h) fun x30 =>
    bnd (inv (.func 31) #[] #[x0, x30] h) fun x31 =>
    bnd (pUn Try.prog .not x31.1) fun x32 =>
    K .normal (act 66 [(0, x0), (1, x1), (6, x6), (7, x7), (8, x8), (22, x22), (23, x23), (24, x24), (32, x32)]) x31.2 := kq_reg
theorem b15_rlrllrrllrlrrrr  : kCode env 15 false inv k (cp c15 64101) (act 66 [(0, x0), (1, x1), (6, x6), (7, x7), (8, x8), (22, x22), (23, x23), (24, x24), (32, x32)]) h K = brV x32 (kCode env 15 false inv k (cp c15 128202) (act 66 [(0, x0), (1, x1), (6, x6), (7, x7), (8, x8), (22, x22), (23, x23), (24, x24), (32, x32)]) h K) (kCode env 15 false inv k (cp c15 128203) (act 66 [(0, x0), (1, x1), (6, x6), (7, x7), (8, x8), (22, x22), (23, x23), (24, x24), (32, x32)]) h K) := kq_cond
theorem r15_11  : kCode env 15 false inv k (cp c15 256404) (act 66 [(0, x0), (1, x1), (6, x6), (7, x7), (8, x8), (22, x22), (23, x23), (24, x24), (32, x32)]) h K =
    K .normal (act 66 [(4, (.int .i64 180))]) h := kq_reg
theorem r15_12  : kCode env 15 false inv k (cp c15 64102) (act 66 [(0, x0), (1, x1), (6, x6), (7, x7), (8, x8), (22, x22), (23, x23), (24, x24), (32, x32)]) h K =
    bnd (pFieldAddr Try.prog 48 x8 3) fun x33 =>
    bnd (pLoad Try.prog 46 x33 h) fun x34 =>
    bnd (pLen Try.prog #[46] x34 h) fun x35 =>
    K .normal (act 66 [(0, x0), (1, x1), (6, x6), (7, x7), (22, x22), (23, x23), (24, x24), (34, x34), (35, x35), (36, (.int .i64 0))]) h := kq_reg
theorem r15_13  : kCode env 15 false inv k (cp c15 512824) (act 66 [(0, x0), (1, x1), (6, x6), (7, x7), (22, x22), (23, x23), (24, x24), (34, x34), (35, x35), (36, x36)]) h K =
    bnd (pBin Try.prog .lss 3 (.tmp 36) (.tmp 35) x36 x35) fun x37 =>
    K .normal (act 66 [(0, x0), (1, x1), (6, x6), (7, x7), (22, x22), (23, x23), (24, x24), (34, x34), (35, x35), (36, x36), (37, x37)]) h := kq_reg
theorem b15_lrllrrrllrrllrlrrrr  : kCode env 15 false inv k (cp c15 1025650) (act 66 [(0, x0), (1, x1), (6, x6), (7, x7), (22, x22), (23, x23), (24, x24), (34, x34), (35, x35), (36, x36), (37, x37)]) h K = brV x37 (kCode env 15 false inv k (cp c15 2051300) (act 66 [(0, x0), (1, x1), (6, x6), (7, x7), (22, x22), (23, x23), (24, x24), (34, x34), (35, x35), (36, x36), (37, x37)]) h K) (kCode env 15 false inv k (cp c15 2051301) (act 66 [(0, x0), (1, x1), (6, x6), (7, x7), (22, x22), (23, x23), (24, x24), (34, x34), (35, x35), (36, x36), (37, x37)]) h K) := kq_cond
theorem r15_14  : kCode env 15 false inv k (cp c15 8205208) (act 66 [(0, x0), (1, x1), (6, x6), (7, x7), (22, x22), (23, x23), (24, x24), (34, x34), (35, x35), (36, x36), (37, x37)]) h K =
    bnd (pIndexAddr Try.prog 46 x34 x36) fun x38 =>
    bnd (pLoad Try.prog 3 x38 h) fun x39 =>
    K .normal (act 66 [(0, x0), (1, x1), (6, x6), (7, x7), (10, x39), (22, x22), (23, x23), (24, x24), (34, x34), (35, x35), (36, x36)]) h := kq_reg
noncomputable abbrev G15_15 {β : Type} (inv : Inv) (x0 x1 x6 x7 x10 x22 x23 x24 x34 x35 x36 : Value) (h : AH) (K : Value → AH → Option β) : Option β :=
    bnd (pBin Try.prog .lss 3 (.tmp 40) (.const (.int .i64 0)) x10 (.int .i64 0)) fun x41 =>
    bnd (gd (some x41) false h (some (x10, h))) fun x43 =>
    bnd (gd (some x41) false x43.2 (some (x7, x43.2))) fun x44 =>
    bnd (gd (some x41) false x44.2 (lt (pBin Try.prog .geq 3 (.tmp 43) (.tmp 44) x43.1 x44.1) x44.2)) fun x45 =>
    bnd (pickV x41 (.bool true) x45.1) fun x46 =>
    K (x46) x45.2
theorem r15_15  : kCode env 15 false inv k (cp c15 32820836) (act 66 [(0, x0), (1, x1), (6, x6), (7, x7), (10, x10), (22, x22), (23, x23), (24, x24), (34, x34), (35, x35), (36, x36)]) h K =
    G15_15 inv x0 x1 x6 x7 x10 x22 x23 x24 x34 x35 x36 h fun y46 h => K .normal (act 66 [(0, x0), (1, x1), (6, x6), (7, x7), (10, x10), (22, x22), (23, x23), (24, x24), (34, x34), (35, x35), (36, x36), (46, y46)]) h := kq_reg
theorem b15_rlrllrrllrrrllrrllrlrrrr  : kCode env 15 false inv k (cp c15 32820837) (act 66 [(0, x0), (1, x1), (6, x6), (7, x7), (10, x10), (22, x22), (23, x23), (24, x24), (34, x34), (35, x35), (36, x36), (46, x46)]) h K = brV x46 (kCode env 15 false inv k (cp c15 65641674) (act 66 [(0, x0), (1, x1), (6, x6), (7, x7), (10, x10), (22, x22), (23, x23), (24, x24), (34, x34), (35, x35), (36, x36), (46, x46)]) h K) (kCode env 15 false inv k (cp c15 65641675) (act 66 [(0, x0), (1, x1), (6, x6), (7, x7), (10, x10), (22, x22), (23, x23), (24, x24), (34, x34), (35, x35), (36, x36), (46, x46)]) h K) := kq_cond
theorem r15_16  : kCode env 15 false inv k (cp c15 131283348) (act 66 [(0, x0), (1, x1), (6, x6), (7, x7), (10, x10), (22, x22), (23, x23), (24, x24), (34, x34), (35, x35), (36, x36), (46, x46)]) h K =
    K .normal (act 66 [(4, (.int .i64 180))]) h := kq_reg
theorem r15_17  : kCode env 15 false inv k (cp c15 16410419) (act 66 [(0, x0), (1, x1), (6, x6), (7, x7), (10, x10), (22, x22), (23, x23), (24, x24), (34, x34), (35, x35), (36, x36), (46, x46)]) h K =
    bnd (pIndexAddr Try.prog 46 x6 x10) fun x49 =>
    bnd (pLoad Try.prog 3 x49 h) fun x50 =>
    bnd (pBin Try.prog .add 3 (.tmp 50) (.const (.int .i64 1)) x50 (.int .i64 1)) fun x51 =>
    bnd (pIndexAddr Try.prog 46 x6 x10) fun x52 =>
    bnd (kSt (pStore Try.prog 3 x52 x51 h)) fun u =>
    K .normal (act 66 [(0, x0), (1, x1), (6, x6), (7, x7), (22, x22), (23, x23), (24, x24), (34, x34), (35, x35), (36, x36)]) u.2 := kq_reg
theorem r15_18  : kCode env 15 false inv k (cp c15 2051303) (act 66 [(0, x0), (1, x1), (6, x6), (7, x7), (22, x22), (23, x23), (24, x24), (34, x34), (35, x35), (36, x36)]) h K =
    bnd (pBin Try.prog .add 3 (.tmp 36) (.const (.int .i64 1)) x36 (.int .i64 1)) fun x53 =>
    K .normal (act 66 [(0, x0), (1, x1), (6, x6), (7, x7), (22, x22), (23, x23), (24, x24), (34, x34), (35, x35), (36, x53)]) h := kq_reg
noncomputable def F15_lrrrllrrllrlrrrr {β : Type} (inv : Inv) (k : Nat) : Nat → Value → Value → Value → Value → Value → Value → Value → Value → Value → Value → AH → (Value → Value → Value → Value → Value → Value → Value → Value → Value → Value → Value → AH → Option β) → (Value → AH → Option β) → Option β
  | 0, _, _, _, _, _, _, _, _, _, _, _, _, _ => none
  | j + 1, x0, x1, x6, x7, x22, x23, x24, x34, x35, x36, h, ke2, kr =>
    bnd (pBin Try.prog .lss 3 (.tmp 36) (.tmp 35) x36 x35) fun x37 =>
    brV x37
    (bnd (pIndexAddr Try.prog 46 x34 x36) fun x38 =>
    bnd (pLoad Try.prog 3 x38 h) fun x39 =>
    G15_15 inv x0 x1 x6 x7 x39 x22 x23 x24 x34 x35 x36 h fun y46 h =>
    brV y46
    (kr (.int .i64 180) h)
    (bnd (pIndexAddr Try.prog 46 x6 x39) fun x49 =>
    bnd (pLoad Try.prog 3 x49 h) fun x50 =>
    bnd (pBin Try.prog .add 3 (.tmp 50) (.const (.int .i64 1)) x50 (.int .i64 1)) fun x51 =>
    bnd (pIndexAddr Try.prog 46 x6 x39) fun x52 =>
    bnd (kSt (pStore Try.prog 3 x52 x51 h)) fun u =>
    bnd (pBin Try.prog .add 3 (.tmp 36) (.const (.int .i64 1)) x36 (.int .i64 1)) fun x53 =>
    F15_lrrrllrrllrlrrrr inv k j x0 x1 x6 x7 x22 x23 x24 x34 x35 x53 u.2 ke2 kr))
    (ke2 x0 x1 x6 x7 x22 x23 x24 x34 x35 x36 x37 h)
theorem F15_lrrrllrrllrlrrrr_j (j : Nat) : kLoop (kCode env 15 false inv k (cp c15 256412)) j (act 66 [(0, x0), (1, x1), (6, x6), (7, x7), (22, x22), (23, x23), (24, x24), (34, x34), (35, x35), (36, x36)]) h K = F15_lrrrllrrllrlrrrr inv k j x0 x1 x6 x7 x22 x23 x24 x34 x35 x36 h (fun y0 y1 y6 y7 y22 y23 y24 y34 y35 y36 y37 h => K (.exit 2) (act 66 [(0, y0), (1, y1), (6, y6), (7, y7), (22, y22), (23, y23), (24, y24), (34, y34), (35, y35), (36, y36), (37, y37)]) h) (fun y4 h => K .ret (act 66 [(4, y4)]) h) := by
      induction j generalizing x0 x1 x6 x7 x22 x23 x24 x34 x35 x36 h with
      | zero => rfl
      | succ j ih =>
        unfold F15_lrrrllrrllrlrrrr
        simp only [kLoop, kq_seq c15 256412, r15_13, kq_seq c15 512825, b15_lrllrrrllrrllrlrrrr, kq_skip c15 2051300, kq_seq c15 1025651, kq_block c15 2051302 3, kq_seq c15 4102604, r15_14, kq_seq c15 8205209, kq_seq c15 16410418, r15_15, b15_rlrllrrllrrrllrrllrlrrrr, kq_seq c15 65641674, r15_16, kq_ret c15 131283349, kq_skip c15 65641675, r15_17, r15_18, kq_exit c15 2051301 2, ih, reduceIte, reduceCtorEq, XE.exit.injEq, Nat.reduceEqDiff, Nat.reduceMul, Nat.reduceAdd] <;> kernel_rfl
theorem F15_lrrrllrrllrlrrrr_eq  : kCode env 15 false inv k (cp c15 128206) (act 66 [(0, x0), (1, x1), (6, x6), (7, x7), (22, x22), (23, x23), (24, x24), (34, x34), (35, x35), (36, x36)]) h K = F15_lrrrllrrllrlrrrr inv k k x0 x1 x6 x7 x22 x23 x24 x34 x35 x36 h (fun y0 y1 y6 y7 y22 y23 y24 y34 y35 y36 y37 h => K (.exit 2) (act 66 [(0, y0), (1, y1), (6, y6), (7, y7), (22, y22), (23, y23), (24, y24), (34, y34), (35, y35), (36, y36), (37, y37)]) h) (fun y4 h => K .ret (act 66 [(4, y4)]) h) := kq_loop (F15_lrrrllrrllrlrrrr_j k)
theorem r15_19  : kCode env 15 false inv k (cp c15 4007) (act 66 [(0, x0), (1, x1), (6, x6), (7, x7), (22, x22), (23, x23), (24, x24), (34, x34), (35, x35), (36, x36), (37, x37)]) h K =
    bnd (pBin Try.prog .add 3 (.tmp 24) (.const (.int .i64 1)) x24 (.int .i64 1)) fun x54 =>
    K .normal (act 66 [(0, x0), (1, x1), (6, x6), (22, x22), (23, x23), (24, x54)]) h := kq_reg
noncomputable def F15_lrlrrrr {β : Type} (inv : Inv) (k : Nat) : Nat → Value → Value → Value → Value → Value → Value → AH → (Value → Value → Value → Value → Value → Value → Value → AH → Option β) → (Value → AH → Option β) → Option β
  | 0, _, _, _, _, _, _, _, _, _ => none
  | j + 1, x0, x1, x6, x22, x23, x24, h, ke0, kr =>
    bnd (pBin Try.prog .lss 3 (.tmp 24) (.tmp 23) x24 x23) fun x25 =>
    brV x25
    (bnd (pIndexAddr Try.prog 22 x22 x24) fun x27 =>
    bnd (pLoad Try.prog 48 x27 h) fun x28 =>
    bnd (pAlloc Try.prog 48 h) fun x8 =>
    bnd (kSt (pStore Try.prog 48 x8.1 x28 x8.2)) fun u =>
    bnd (pLoad Try.prog 48 x8.1 u.2) fun x30 =>
    bnd (inv (.func 31) #[] #[x0, x30] u.2) fun x31 =>
    bnd (pUn Try.prog .not x31.1) fun x32 =>
    brV x32
    (kr (.int .i64 180) x31.2)
    (bnd (pFieldAddr Try.prog 48 x8.1 3) fun x33 =>
    bnd (pLoad Try.prog 46 x33 x31.2) fun x34 =>
    bnd (pLen Try.prog #[46] x34 x31.2) fun x35 =>
    F15_lrrrllrrllrlrrrr inv k k x0 x1 x6 x24 x22 x23 x24 x34 x35 (.int .i64 0) x31.2
    (fun y0 y1 y6 y7 y22 y23 y24 y34 y35 y36 y37 h =>
    bnd (pBin Try.prog .add 3 (.tmp 24) (.const (.int .i64 1)) y24 (.int .i64 1)) fun x54 =>
    F15_lrlrrrr inv k j y0 y1 y6 y22 y23 x54 h ke0 kr)
    (fun y4 h_1 =>
    kr y4 h_1)))
    (ke0 x0 x1 x6 x22 x23 x24 x25 h)
theorem F15_lrlrrrr_j (j : Nat) : kLoop (kCode env 15 false inv k (cp c15 500)) j (act 66 [(0, x0), (1, x1), (6, x6), (22, x22), (23, x23), (24, x24)]) h K = F15_lrlrrrr inv k j x0 x1 x6 x22 x23 x24 h (fun y0 y1 y6 y22 y23 y24 y25 h => K (.exit 0) (act 66 [(0, y0), (1, y1), (6, y6), (22, y22), (23, y23), (24, y24), (25, y25)]) h) (fun y4 h => K .ret (act 66 [(4, y4)]) h) := by
      induction j generalizing x0 x1 x6 x22 x23 x24 h with
      | zero => rfl
      | succ j ih =>
        unfold F15_lrlrrrr
        simp only [kLoop, kq_seq c15 500, r15_8, kq_seq c15 1001, b15_lrllrlrrrr, kq_skip c15 4004, kq_seq c15 2003, kq_block c15 4006 1, kq_seq c15 8012, r15_9, kq_seq c15 16025, kq_seq c15 32050, r15_10, b15_rlrllrrllrlrrrr, kq_seq c15 128202, r15_11, kq_ret c15 256405, kq_skip c15 128203, kq_seq c15 32051, r15_12, kq_block c15 64103 2, F15_lrrrllrrllrlrrrr_eq, r15_19, kq_exit c15 4005 0, ih, reduceIte, reduceCtorEq, XE.exit.injEq, Nat.reduceEqDiff, Nat.reduceMul, Nat.reduceAdd] <;> kernel_rfl
theorem F15_lrlrrrr_eq  : kCode env 15 false inv k (cp c15 250) (act 66 [(0, x0), (1, x1), (6, x6), (22, x22), (23, x23), (24, x24)]) h K = F15_lrlrrrr inv k k x0 x1 x6 x22 x23 x24 h (fun y0 y1 y6 y22 y23 y24 y25 h => K (.exit 0) (act 66 [(0, y0), (1, y1), (6, y6), (22, y22), (23, y23), (24, y24), (25, y25)]) h) (fun y4 h => K .ret (act 66 [(4, y4)]) h) := kq_loop (F15_lrlrrrr_j k)
noncomputable abbrev G15_20 {β : Type} (inv : Inv) (x1 x6 : Value) (h : AH) (K : Value → AH → Option β) : Option β :=
    bnd (pLen Try.prog #[22] x1 h) fun x56 =>
    bnd (pBin Try.prog .gtr 3 (.tmp 56) (.const (.int .i64 0)) x56 (.int .i64 0)) fun x57 =>
    bnd (gd (some x57) true h (some (x6, h))) fun x59 =>
    bnd (gd (some x57) true x59.2 (some (x1, x59.2))) fun x60 =>
    bnd (gd (some x57) true x60.2 (lt (pLen Try.prog #[22] x60.1 x60.2) x60.2)) fun x61 =>
    bnd (gd (some x57) true x61.2 (lt (pBin Try.prog .sub 3 (.tmp 61) (.const (.int .i64 1)) x61.1 (.int .i64 1)) x61.2)) fun x62 =>
    bnd (gd (some x57) true x62.2 (lt (pSlice Try.prog 46 x59.1 none (some x62.1) none x62.2) x62.2)) fun x63 =>
    bnd (gd (some x57) true x63.2 (inv (.func 32) #[] #[x63.1, (.func (.func 33) #[] #[])] x63.2)) fun x64 =>
    bnd (pickV x57 x64.1 (.bool false)) fun x65 =>
    K (x65) x64.2
theorem r15_20  : kCode env 15 false inv k (cp c15 252) (act 66 [(0, x0), (1, x1), (6, x6), (22, x22), (23, x23), (24, x24), (25, x25)]) h K =
    G15_20 inv x1 x6 h fun y65 h => K .normal (act 66 [(65, y65)]) h := kq_reg
theorem b15_rlrrrrr  : kCode env 15 false inv k (cp c15 253) (act 66 [(65, x65)]) h K = brV x65 (kCode env 15 false inv k (cp c15 506) (act 66 [(65, x65)]) h K) (kCode env 15 false inv k (cp c15 507) (act 66 [(65, x65)]) h K) := kq_cond
theorem r15_21  : kCode env 15 false inv k (cp c15 1012) (act 66 [(65, x65)]) h K =
    K .normal (act 66 [(4, (.int .i64 180))]) h := kq_reg
theorem r15_22  : kCode env 15 false inv k (cp c15 254) (act 66 [(65, x65)]) h K =
    K .normal (act 66 [(4, (.int .i64 0))]) h := kq_reg
/-- shadowbook/pred.Check -/
noncomputable def F15 (inv : Inv) (k : Nat) (x0 x1 : Value) (h : AH) : Option (Value × AH) :=
    bnd (inv (.func 30) #[] #[x0] h) fun x12 =>
    bnd (pBin Try.prog .neq 34 (.tmp 13) (.const (.int .i64 0)) x12.1 (.int .i64 0)) fun x14 =>
    brV x14
    (some (x12.1, x12.2))
    (bnd (pLen Try.prog #[22] x1 x12.2) fun x17 =>
    bnd (pBin Try.prog .gtr 3 (.tmp 17) (.const (.int .i64 64)) x17 (.int .i64 64)) fun x18 =>
    brV x18
    (some ((.int .i64 180), x12.2))
    (bnd (pLen Try.prog #[22] x1 x12.2) fun x20 =>
    bnd (pMakeSlice Try.prog 46 x20 x20 x12.2) fun x21 =>
    bnd (pLen Try.prog #[22] x1 x21.2) fun x23 =>
    F15_lrlrrrr inv k k x0 x1 x21.1 x1 x23 (.int .i64 0) x21.2
    (fun y0 y1 y6 y22 y23 y24 y25 h =>
    G15_20 inv y1 y6 h fun y65 h_2 =>
    brV y65
    (some ((.int .i64 180), h_2))
    (some ((.int .i64 0), h_2)))
    (fun y4 h_3 =>
    some (y4, h_3))))
theorem F15_eq : eFun env k inv 15 #[x0, x1] h = F15 inv k x0 x1 h := by
      refine (kq_fun (a := act 66 [(0, x0), (1, x1)]) (c := cp c15 1)).trans ?_
      unfold F15
      simp only [kq_seq c15 1, r15_0, kq_seq c15 3, kq_seq c15 6, r15_1, kq_seq c15 13, r15_2, b15_rrlr, kq_seq c15 54, r15_3, kq_ret c15 109, res15_0, kq_skip c15 55, kq_seq c15 7, kq_seq c15 14, r15_4, b15_rlrr, kq_seq c15 58, r15_5, kq_ret c15 117, kq_skip c15 59, kq_seq c15 15, r15_6, kq_seq c15 31, kq_seq c15 62, r15_7, kq_block c15 125 0, F15_lrlrrrr_eq, kq_seq c15 63, kq_seq c15 126, r15_20, b15_rlrrrrr, kq_seq c15 506, r15_21, kq_ret c15 1013, kq_skip c15 507, kq_seq c15 127, r15_22, kq_ret c15 255, reduceIte, reduceCtorEq, XE.exit.injEq, Nat.reduceEqDiff, Nat.reduceMul, Nat.reduceAdd] <;> kernel_rfl
theorem F15_call : eInv env (k + 1) (.func 15) #[] #[x0, x1] h = F15 (eInv env k) k x0 x1 h := kq_inv F15_eq
noncomputable def c16 : Code := codeOf Try.prog 16
theorem r16_0  : kCode env 16 false inv k (cp c16 2) (act 35 [(0, x0), (1, x1)]) h K =
    K .normal (act 35 [(0, x0), (1, x1)]) h := kq_reg
theorem r16_1  : kCode env 16 false inv k (cp c16 6) (act 35 [(0, x0), (1, x1)]) h K =
    bnd (inv (.func 34) #[] #[x0] h) fun x8 =>
    K .normal (act 35 [(0, x0), (1, x1), (5, x8.1)]) x8.2 := kq_reg
theorem r16_2  : kCode env 16 false inv k (cp c16 28) (act 35 [(0, x0), (1, x1), (5, x5)]) h K =
    bnd (pBin Try.prog .neq 34 (.tmp 9) (.const (.int .i64 0)) x5 (.int .i64 0)) fun x10 =>
    K .normal (act 35 [(0, x0), (1, x1), (5, x5), (10, x10)]) h := kq_reg
theorem b16_rlrr  : kCode env 16 false inv k (cp c16 29) (act 35 [(0, x0), (1, x1), (5, x5), (10, x10)]) h K = brV x10 (kCode env 16 false inv k (cp c16 58) (act 35 [(0, x0), (1, x1), (5, x5), (10, x10)]) h K) (kCode env 16 false inv k (cp c16 59) (act 35 [(0, x0), (1, x1), (5, x5), (10, x10)]) h K) := kq_cond
theorem r16_3  : kCode env 16 false inv k (cp c16 116) (act 35 [(0, x0), (1, x1), (5, x5), (10, x10)]) h K =
    K .normal (act 35 [(4, x5)]) h := kq_reg
theorem res16_0 : resOfFn env.P 16 .ret (act 35 [(4, x4)]) h = some (x4, h) := kq_res
theorem r16_4  : kCode env 16 false inv k (cp c16 60) (act 35 [(0, x0), (1, x1), (5, x5), (10, x10)]) h K =
    bnd (pLen Try.prog #[23] x1 h) fun x13 =>
    bnd (pLen Try.prog #[30] x0 h) fun x15 =>
    bnd (pBin Try.prog .neq 3 (.tmp 13) (.tmp 15) x13 x15) fun x16 =>
    K .normal (act 35 [(0, x0), (1, x1), (16, x16)]) h := kq_reg
theorem b16_rlrrr  : kCode env 16 false inv k (cp c16 61) (act 35 [(0, x0), (1, x1), (16, x16)]) h K = brV x16 (kCode env 16 false inv k (cp c16 122) (act 35 [(0, x0), (1, x1), (16, x16)]) h K) (kCode env 16 false inv k (cp c16 123) (act 35 [(0, x0), (1, x1), (16, x16)]) h K) := kq_cond
theorem r16_5  : kCode env 16 false inv k (cp c16 244) (act 35 [(0, x0), (1, x1), (16, x16)]) h K =
    K .normal (act 35 [(4, (.int .i64 173))]) h := kq_reg
theorem r16_6  : kCode env 16 false inv k (cp c16 124) (act 35 [(0, x0), (1, x1), (16, x16)]) h K =
    K .normal (act 35 [(0, x0), (1, x1), (6, (.int .i64 0))]) h := kq_reg
theorem r16_7  : kCode env 16 false inv k (cp c16 2000) (act 35 [(0, x0), (1, x1), (6, x6)]) h K =
    bnd (pLen Try.prog #[23] x1 h) fun x19 =>
    bnd (pBin Try.prog .lss 3 (.tmp 17) (.tmp 19) x6 x19) fun x20 =>
    K .normal (act 35 [(0, x0), (1, x1), (6, x6), (20, x20)]) h := kq_reg
theorem b16_rlllrlrrrr  : kCode env 16 false inv k (cp c16 2001) (act 35 [(0, x0), (1, x1), (6, x6), (20, x20)]) h K = brV x20 (kCode env 16 false inv k (cp c16 4002) (act 35 [(0, x0), (1, x1), (6, x6), (20, x20)]) h K) (kCode env 16 false inv k (cp c16 4003) (act 35 [(0, x0), (1, x1), (6, x6), (20, x20)]) h K) := kq_cond
theorem r16_9  : kCode env 16 false inv k (cp c16 8008) (act 35 [(0, x0), (1, x1), (6, x6), (20, x20)]) h K =
    bnd (pIndexAddr Try.prog 30 x0 x6) fun x25 =>
    bnd (pLoad Try.prog 50 x25 h) fun x26 =>
    bnd (pIndexAddr Try.prog 23 x1 x6) fun x29 =>
    bnd (pLoad Try.prog 42 x29 h) fun x30 =>
    bnd (inv (.func 35) #[] #[x26, x30] h) fun x31 =>
    K .normal (act 35 [(0, x0), (1, x1), (5, x31.1), (6, x6)]) x31.2 := kq_draw
theorem r16_10  : kCode env 16 false inv k (cp c16 16018) (act 35 [(0, x0), (1, x1), (5, x5), (6, x6)]) h K =
    bnd (pBin Try.prog .neq 34 (.tmp 32) (.const (.int .i64 0)) x5 (.int .i64 0)) fun x33 =>
    K .normal (act 35 [(0, x0), (1, x1), (5, x5), (6, x6), (33, x33)]) h := kq_reg
theorem b16_rrllrllrlrrrr  : kCode env 16 false inv k (cp c16 16019) (act 35 [(0, x0), (1, x1), (5, x5), (6, x6), (33, x33)]) h K = brV x33 (kCode env 16 false inv k (cp c16 32038) (act 35 [(0, x0), (1, x1), (5, x5), (6, x6), (33, x33)]) h K) (kCode env 16 false inv k (cp c16 32039) (act 35 [(0, x0), (1, x1), (5, x5), (6, x6), (33, x33)]) h K) := kq_cond
theorem r16_11  : kCode env 16 false inv k (cp c16 64076) (act 35 [(0, x0), (1, x1), (5, x5), (6, x6), (33, x33)]) h K =
    K .normal (act 35 [(4, x5)]) h := kq_reg
theorem r16_8  : kCode env 16 false inv k (cp c16 2003) (act 35 [(0, x0), (1, x1), (5, x5), (6, x6), (33, x33)]) h K =
    bnd (pBin Try.prog .add 3 (.tmp 21) (.const (.int .i64 1)) x6 (.int .i64 1)) fun x22 =>
    K .normal (act 35 [(0, x0), (1, x1), (6, x22)]) h := kq_reg
noncomputable def F16_lrlrrrr {β : Type} (inv : Inv) (k : Nat) : Nat → Value → Value → Value → AH → (Value → Value → Value → Value → AH → Option β) → (Value → AH → Option β) → Option β
  | 0, _, _, _, _, _, _ => none
  | j + 1, x0, x1, x6, h, ke0, kr =>
    bnd (pLen Try.prog #[23] x1 h) fun x19 =>
    bnd (pBin Try.prog .lss 3 (.tmp 17) (.tmp 19) x6 x19) fun x20 =>
    brV x20
    (bnd (pIndexAddr Try.prog 30 x0 x6) fun x25 =>
    bnd (pLoad Try.prog 50 x25 h) fun x26 =>
    bnd (pIndexAddr Try.prog 23 x1 x6) fun x29 =>
    bnd (pLoad Try.prog 42 x29 h) fun x30 =>
    bnd (inv (.func 35) #[] #[x26, x30] h) fun x31 =>
    bnd (pBin Try.prog .neq 34 (.tmp 32) (.const (.int .i64 0)) x31.1 (.int .i64 0)) fun x33 =>
    brV x33
    (kr x31.1 x31.2)
    (bnd (pBin Try.prog .add 3 (.tmp 21) (.const (.int .i64 1)) x6 (.int .i64 1)) fun x22 =>
    F16_lrlrrrr inv k j x0 x1 x22 x31.2 ke0 kr))
    (ke0 x0 x1 x6 x20 h)
theorem F16_lrlrrrr_j (j : Nat) : kLoop (kCode env 16 false inv k (cp c16 500)) j (act 35 [(0, x0), (1, x1), (6, x6)]) h K = F16_lrlrrrr inv k j x0 x1 x6 h (fun y0 y1 y6 y20 h => K (.exit 0) (act 35 [(0, y0), (1, y1), (6, y6), (20, y20)]) h) (fun y4 h => K .ret (act 35 [(4, y4)]) h) := by
      induction j generalizing x0 x1 x6 h with
      | zero => rfl
      | succ j ih =>
        unfold F16_lrlrrrr
        simp only [kLoop, kq_seq c16 500, kq_seq c16 1000, r16_7, b16_rlllrlrrrr, kq_skip c16 4002, kq_seq c16 1001, kq_block c16 2002 1, kq_seq c16 4004, r16_9, kq_seq c16 8009, r16_10, b16_rrllrllrlrrrr, kq_seq c16 32038, r16_11, kq_ret c16 64077, kq_skip c16 32039, r16_8, kq_exit c16 4003 0, ih, reduceIte, reduceCtorEq, XE.exit.injEq, Nat.reduceEqDiff, Nat.reduceMul, Nat.reduceAdd] <;> kernel_rfl
theorem F16_lrlrrrr_eq  : kCode env 16 false inv k (cp c16 250) (act 35 [(0, x0), (1, x1), (6, x6)]) h K = F16_lrlrrrr inv k k x0 x1 x6 h (fun y0 y1 y6 y20 h => K (.exit 0) (act 35 [(0, y0), (1, y1), (6, y6), (20, y20)]) h) (fun y4 h => K .ret (act 35 [(4, y4)]) h) := kq_loop (F16_lrlrrrr_j k)
theorem r16_12  : kCode env 16 false inv k (cp c16 126) (act 35 [(0, x0), (1, x1), (6, x6), (20, x20)]) h K =
    K .normal (act 35 [(4, (.int .i64 0))]) h := kq_reg
/-- shadowbook/shadowbookref17.Row -/
noncomputable def F16 (inv : Inv) (k : Nat) (x0 x1 : Value) (h : AH) : Option (Value × AH) :=
    bnd (inv (.func 34) #[] #[x0] h) fun x8 =>
    bnd (pBin Try.prog .neq 34 (.tmp 9) (.const (.int .i64 0)) x8.1 (.int .i64 0)) fun x10 =>
    brV x10
    (some (x8.1, x8.2))
    (bnd (pLen Try.prog #[23] x1 x8.2) fun x13 =>
    bnd (pLen Try.prog #[30] x0 x8.2) fun x15 =>
    bnd (pBin Try.prog .neq 3 (.tmp 13) (.tmp 15) x13 x15) fun x16 =>
    brV x16
    (some ((.int .i64 173), x8.2))
    (F16_lrlrrrr inv k k x0 x1 (.int .i64 0) x8.2
    (fun y0 y1 y6 y20 h =>
    some ((.int .i64 0), h))
    (fun y4 h_1 =>
    some (y4, h_1))))
theorem F16_eq : eFun env k inv 16 #[x0, x1] h = F16 inv k x0 x1 h := by
      refine (kq_fun (a := act 35 [(0, x0), (1, x1)]) (c := cp c16 1)).trans ?_
      unfold F16
      simp only [kq_seq c16 1, r16_0, kq_seq c16 3, r16_1, kq_seq c16 7, kq_seq c16 14, r16_2, b16_rlrr, kq_seq c16 58, r16_3, kq_ret c16 117, res16_0, kq_skip c16 59, kq_seq c16 15, kq_seq c16 30, r16_4, b16_rlrrr, kq_seq c16 122, r16_5, kq_ret c16 245, kq_skip c16 123, kq_seq c16 31, kq_seq c16 62, r16_6, kq_block c16 125 0, F16_lrlrrrr_eq, kq_seq c16 63, r16_12, kq_ret c16 127, reduceIte, reduceCtorEq, XE.exit.injEq, Nat.reduceEqDiff, Nat.reduceMul, Nat.reduceAdd] <;> kernel_rfl
theorem F16_call : eInv env (k + 1) (.func 16) #[] #[x0, x1] h = F16 (eInv env k) k x0 x1 h := kq_inv F16_eq
noncomputable def c19 : Code := codeOf Try.prog 19
theorem r19_0  : kCode env 19 false inv k (cp c19 2) (act 49 [(0, x0)]) h K =
    bnd (pBox Try.prog 42 x0 h) fun x1 =>
    K .normal (act 49 [(1, x1.1)]) x1.2 := kq_reg
theorem r19_1  : kCode env 19 false inv k (cp c19 6) (act 49 [(1, x1)]) h K =
    K .normal (act 49 [(1, x1), (3, (.bool false))]) h := kq_reg
theorem r19_2  : kCode env 19 false inv k (cp c19 28) (act 49 [(1, x1), (3, x3)]) h K =
    bnd (pFieldAddr Try.prog 42 x1 0) fun x4 =>
    bnd (pLoad Try.prog 3 x4 h) fun x5 =>
    K .normal (act 49 [(1, x1), (3, x3), (5, x5)]) h := kq_reg
theorem r19_3  : kCode env 19 false inv k (cp c19 116) (act 49 [(1, x1), (3, x3), (5, x5)]) h K =
    bnd (pBin Try.prog .eql 3 (.tmp 5) (.const (.int .i64 0)) x5 (.int .i64 0)) fun x7 =>
    K .normal (act 49 [(1, x1), (3, x3), (5, x5), (6, x7)]) h := kq_reg
theorem b19_rlrlrr  : kCode env 19 false inv k (cp c19 117) (act 49 [(1, x1), (3, x3), (5, x5), (6, x6)]) h K = brV x6 (kCode env 19 false inv k (cp c19 234) (act 49 [(1, x1), (3, x3), (5, x5), (6, x6)]) h K) (kCode env 19 false inv k (cp c19 235) (act 49 [(1, x1), (3, x3), (5, x5), (6, x6)]) h K) := kq_cond
noncomputable abbrev G19_4 {β : Type} (inv : Inv) (x1 : Value) (h : AH) (K : Value → AH → Option β) : Option β :=
    bnd (pFieldAddr Try.prog 42 x1 1) fun x8 =>
    bnd (pLoad Try.prog 2 x8 h) fun x9 =>
    bnd (pBin Try.prog .eql 2 (.tmp 9) (.const (.int .i64 0)) x9 (.int .i64 0)) fun x10 =>
    bnd (gd (some x10) true h (lt (pFieldAddr Try.prog 42 x1 2) h)) fun x12 =>
    bnd (gd (some x10) true x12.2 (lt (pLoad Try.prog 9 x12.1 x12.2) x12.2)) fun x13 =>
    bnd (gd (some x10) true x13.2 (lt (pBin Try.prog .eql 9 (.tmp 13) (.const (.string { data := #[] })) x13.1 (.string { data := #[] })) x13.2)) fun x14 =>
    bnd (pickV x10 x14.1 (.bool false)) fun x15 =>
    K (x15) x14.2
theorem r19_4  : kCode env 19 false inv k (cp c19 234) (act 49 [(1, x1), (3, x3), (5, x5), (6, x6)]) h K =
    G19_4 inv x1 h fun y3 h => K .normal (act 49 [(3, y3)]) h := kq_reg
theorem r19_5  : kCode env 19 false inv k (cp c19 470) (act 49 [(1, x1), (3, x3), (5, x5), (6, x6)]) h K =
    bnd (pBin Try.prog .eql 3 (.tmp 5) (.const (.int .i64 1)) x5 (.int .i64 1)) fun x17 =>
    K .normal (act 49 [(1, x1), (3, x3), (5, x5), (16, x17)]) h := kq_reg
theorem b19_rrrlrlrr  : kCode env 19 false inv k (cp c19 471) (act 49 [(1, x1), (3, x3), (5, x5), (16, x16)]) h K = brV x16 (kCode env 19 false inv k (cp c19 942) (act 49 [(1, x1), (3, x3), (5, x5), (16, x16)]) h K) (kCode env 19 false inv k (cp c19 943) (act 49 [(1, x1), (3, x3), (5, x5), (16, x16)]) h K) := kq_cond
theorem r19_6  : kCode env 19 false inv k (cp c19 942) (act 49 [(1, x1), (3, x3), (5, x5), (16, x16)]) h K =
    bnd (pFieldAddr Try.prog 42 x1 2) fun x18 =>
    bnd (pLoad Try.prog 9 x18 h) fun x19 =>
    bnd (pBin Try.prog .eql 9 (.tmp 19) (.const (.string { data := #[] })) x19 (.string { data := #[] })) fun x20 =>
    K .normal (act 49 [(3, x20)]) h := kq_reg
theorem r19_7  : kCode env 19 false inv k (cp c19 1886) (act 49 [(1, x1), (3, x3), (5, x5), (16, x16)]) h K =
    bnd (pBin Try.prog .eql 3 (.tmp 5) (.const (.int .i64 2)) x5 (.int .i64 2)) fun x22 =>
    K .normal (act 49 [(1, x1), (3, x3), (5, x5), (21, x22)]) h := kq_reg
theorem b19_rrrrrlrlrr  : kCode env 19 false inv k (cp c19 1887) (act 49 [(1, x1), (3, x3), (5, x5), (21, x21)]) h K = brV x21 (kCode env 19 false inv k (cp c19 3774) (act 49 [(1, x1), (3, x3), (5, x5), (21, x21)]) h K) (kCode env 19 false inv k (cp c19 3775) (act 49 [(1, x1), (3, x3), (5, x5), (21, x21)]) h K) := kq_cond
noncomputable abbrev G19_8 {β : Type} (inv : Inv) (x1 : Value) (h : AH) (K : Value → AH → Option β) : Option β :=
    bnd (pFieldAddr Try.prog 42 x1 2) fun x23 =>
    bnd (pLoad Try.prog 9 x23 h) fun x24 =>
    bnd (pBin Try.prog .eql 9 (.tmp 24) (.const (.string { data := #[] })) x24 (.string { data := #[] })) fun x25 =>
    bnd (gd (some x25) true h (lt (pFieldAddr Try.prog 42 x1 1) h)) fun x27 =>
    bnd (gd (some x25) true x27.2 (lt (pLoad Try.prog 2 x27.1 x27.2) x27.2)) fun x28 =>
    bnd (gd (some x25) true x28.2 (lt (pBin Try.prog .eql 2 (.tmp 28) (.const (.int .i64 0)) x28.1 (.int .i64 0)) x28.2)) fun x29 =>
    bnd (gd (some x25) true x29.2 (some (x29.1, x29.2))) fun x30 =>
    bnd (gd (some x30.1) false x30.2 (lt (pFieldAddr Try.prog 42 x1 1) x30.2)) fun x31 =>
    bnd (gd (some x30.1) false x31.2 (lt (pLoad Try.prog 2 x31.1 x31.2) x31.2)) fun x32 =>
    bnd (gd (some x30.1) false x32.2 (lt (pBin Try.prog .eql 2 (.tmp 32) (.const (.int .i64 1)) x32.1 (.int .i64 1)) x32.2)) fun x33 =>
    bnd (gd (some x25) true x33.2 (lt (pickV x30.1 (.bool true) x33.1) x33.2)) fun x34 =>
    bnd (pickV x25 x34.1 (.bool false)) fun x35 =>
    K (x35) x34.2
theorem r19_8  : kCode env 19 false inv k (cp c19 3774) (act 49 [(1, x1), (3, x3), (5, x5), (21, x21)]) h K =
    G19_8 inv x1 h fun y3 h => K .normal (act 49 [(3, y3)]) h := kq_reg
theorem r19_9  : kCode env 19 false inv k (cp c19 7550) (act 49 [(1, x1), (3, x3), (5, x5), (21, x21)]) h K =
    bnd (pBin Try.prog .eql 3 (.tmp 5) (.const (.int .i64 3)) x5 (.int .i64 3)) fun x37 =>
    K .normal (act 49 [(1, x1), (3, x3), (36, x37)]) h := kq_reg
theorem b19_rrrrrrrlrlrr  : kCode env 19 false inv k (cp c19 7551) (act 49 [(1, x1), (3, x3), (36, x36)]) h K = brV x36 (kCode env 19 false inv k (cp c19 15102) (act 49 [(1, x1), (3, x3), (36, x36)]) h K) (kCode env 19 false inv k (cp c19 15103) (act 49 [(1, x1), (3, x3), (36, x36)]) h K) := kq_cond
noncomputable abbrev G19_10 {β : Type} (inv : Inv) (x1 : Value) (h : AH) (K : Value → AH → Option β) : Option β :=
    bnd (pFieldAddr Try.prog 42 x1 1) fun x38 =>
    bnd (pLoad Try.prog 2 x38 h) fun x39 =>
    bnd (pBin Try.prog .eql 2 (.tmp 39) (.const (.int .i64 0)) x39 (.int .i64 0)) fun x40 =>
    bnd (gd (some x40) true h (lt (pFieldAddr Try.prog 42 x1 2) h)) fun x42 =>
    bnd (gd (some x40) true x42.2 (lt (pLoad Try.prog 9 x42.1 x42.2) x42.2)) fun x43 =>
    bnd (gd (some x40) true x43.2 (lt (pLen Try.prog #[9] x43.1 x43.2) x43.2)) fun x44 =>
    bnd (gd (some x40) true x44.2 (lt (pBin Try.prog .leq 3 (.tmp 44) (.const (.int .i64 256)) x44.1 (.int .i64 256)) x44.2)) fun x45 =>
    bnd (pickV x40 x45.1 (.bool false)) fun x46 =>
    K (x46) x45.2
theorem r19_10  : kCode env 19 false inv k (cp c19 15102) (act 49 [(1, x1), (3, x3), (36, x36)]) h K =
    G19_10 inv x1 h fun y3 h => K .normal (act 49 [(3, y3)]) h := kq_reg
noncomputable def F19_rlrr {β : Type} (inv : Inv) (k : Nat) (x1 x3 x5 : Value) (h : AH) (kn : (Value → Value → Value → AH → Option β)) : Option β :=
    bnd (pBin Try.prog .eql 3 (.tmp 5) (.const (.int .i64 0)) x5 (.int .i64 0)) fun x7 =>
    brV x7
    (G19_4 inv x1 h fun y3 h =>
    kn unk y3 unk h)
    (bnd (pBin Try.prog .eql 3 (.tmp 5) (.const (.int .i64 1)) x5 (.int .i64 1)) fun x17 =>
    brV x17
    (bnd (pFieldAddr Try.prog 42 x1 2) fun x18 =>
    bnd (pLoad Try.prog 9 x18 h) fun x19 =>
    bnd (pBin Try.prog .eql 9 (.tmp 19) (.const (.string { data := #[] })) x19 (.string { data := #[] })) fun x20 =>
    kn unk x20 unk h)
    (bnd (pBin Try.prog .eql 3 (.tmp 5) (.const (.int .i64 2)) x5 (.int .i64 2)) fun x22 =>
    brV x22
    (G19_8 inv x1 h fun y3_1 h_2 =>
    kn unk y3_1 unk h_2)
    (bnd (pBin Try.prog .eql 3 (.tmp 5) (.const (.int .i64 3)) x5 (.int .i64 3)) fun x37 =>
    brV x37
    (G19_10 inv x1 h fun y3_3 h_4 =>
    kn unk y3_3 unk h_4)
    (kn x1 x3 x37 h))))
theorem F19_rlrr_eq  : kCode env 19 false inv k (cp c19 29) (act 49 [(1, x1), (3, x3), (5, x5)]) h K = F19_rlrr inv k x1 x3 x5 h (fun y1 y3 y36 h => K .normal (act 49 [(1, y1), (3, y3), (36, y36)]) h) := by
      unfold F19_rlrr
      simp only [kq_block c19 29 0, kq_seq c19 58, r19_3, b19_rlrlrr, r19_4, kq_seq c19 235, r19_5, b19_rrrlrlrr, r19_6, kq_seq c19 943, r19_7, b19_rrrrrlrlrr, r19_8, kq_seq c19 3775, r19_9, b19_rrrrrrrlrlrr, r19_10, kq_skip c19 15103, reduceIte, reduceCtorEq, XE.exit.injEq, Nat.reduceEqDiff, Nat.reduceMul, Nat.reduceAdd] <;> kernel_rfl
theorem r19_11  : kCode env 19 false inv k (cp c19 60) (act 49 [(1, x1), (3, x3), (36, x36)]) h K =
    bnd (pUn Try.prog .not x3) fun x48 =>
    K .normal (act 49 [(48, x48)]) h := kq_reg
theorem b19_rlrrr  : kCode env 19 false inv k (cp c19 61) (act 49 [(48, x48)]) h K = brV x48 (kCode env 19 false inv k (cp c19 122) (act 49 [(48, x48)]) h K) (kCode env 19 false inv k (cp c19 123) (act 49 [(48, x48)]) h K) := kq_cond
theorem r19_12  : kCode env 19 false inv k (cp c19 244) (act 49 [(48, x48)]) h K =
    K .normal (act 49 [(2, (.int .i64 160))]) h := kq_reg
theorem res19_0 : resOfFn env.P 19 .ret (act 49 [(2, x2)]) h = some (x2, h) := kq_res
theorem r19_13  : kCode env 19 false inv k (cp c19 62) (act 49 [(48, x48)]) h K =
    K .normal (act 49 [(2, (.int .i64 0))]) h := kq_reg
/-- shadowbook/shadowbookref16.Check -/
noncomputable def F19 (inv : Inv) (k : Nat) (x0 : Value) (h : AH) : Option (Value × AH) :=
    bnd (pBox Try.prog 42 x0 h) fun x1 =>
    bnd (pFieldAddr Try.prog 42 x1.1 0) fun x4 =>
    bnd (pLoad Try.prog 3 x4 x1.2) fun x5 =>
    F19_rlrr inv k x1.1 (.bool false) x5 x1.2
    (fun y1 y3 y36 h =>
    bnd (pUn Try.prog .not y3) fun x48 =>
    brV x48
    (some ((.int .i64 160), h))
    (some ((.int .i64 0), h)))
theorem F19_eq : eFun env k inv 19 #[x0] h = F19 inv k x0 h := by
      refine (kq_fun (a := act 49 [(0, x0)]) (c := cp c19 1)).trans ?_
      unfold F19
      simp only [kq_seq c19 1, r19_0, kq_seq c19 3, r19_1, kq_seq c19 7, kq_seq c19 14, r19_2, F19_rlrr_eq, kq_seq c19 15, kq_seq c19 30, r19_11, b19_rlrrr, kq_seq c19 122, r19_12, kq_ret c19 245, res19_0, kq_skip c19 123, kq_seq c19 31, r19_13, kq_ret c19 63, reduceIte, reduceCtorEq, XE.exit.injEq, Nat.reduceEqDiff, Nat.reduceMul, Nat.reduceAdd] <;> kernel_rfl
theorem F19_call : eInv env (k + 1) (.func 19) #[] #[x0] h = F19 (eInv env k) k x0 h := kq_inv F19_eq
noncomputable def c21 : Code := codeOf Try.prog 21
theorem r21_0  : kCode env 21 false inv k (cp c21 2) (act 25 [(0, x0)]) h K =
    K .normal (act 25 [(0, x0)]) h := kq_reg
theorem r21_1  : kCode env 21 false inv k (cp c21 6) (act 25 [(0, x0)]) h K =
    K .normal (act 25 [(0, x0), (3, (.slice none 0 0))]) h := kq_reg
theorem r21_2  : kCode env 21 false inv k (cp c21 28) (act 25 [(0, x0), (3, x3)]) h K =
    bnd (pLen Try.prog #[22] x0 h) fun x7 =>
    K .normal (act 25 [(3, x3), (6, x0), (7, x7), (8, (.int .i64 0))]) h := kq_reg
theorem r21_3  : kCode env 21 false inv k (cp c21 232) (act 25 [(3, x3), (6, x6), (7, x7), (8, x8)]) h K =
    bnd (pBin Try.prog .lss 3 (.tmp 8) (.tmp 7) x8 x7) fun x9 =>
    K .normal (act 25 [(3, x3), (6, x6), (7, x7), (8, x8), (9, x9)]) h := kq_reg
theorem b21_lrllrlrr  : kCode env 21 false inv k (cp c21 466) (act 25 [(3, x3), (6, x6), (7, x7), (8, x8), (9, x9)]) h K = brV x9 (kCode env 21 false inv k (cp c21 932) (act 25 [(3, x3), (6, x6), (7, x7), (8, x8), (9, x9)]) h K) (kCode env 21 false inv k (cp c21 933) (act 25 [(3, x3), (6, x6), (7, x7), (8, x8), (9, x9)]) h K) := kq_cond
theorem r21_4  : kCode env 21 false inv k (cp c21 3736) (act 25 [(3, x3), (6, x6), (7, x7), (8, x8), (9, x9)]) h K =
    bnd (pIndexAddr Try.prog 22 x6 x8) fun x10 =>
    bnd (pLoad Try.prog 48 x10 h) fun x11 =>
    bnd (pAlloc Try.prog 48 h) fun x5 =>
    bnd (kSt (pStore Try.prog 48 x5.1 x11 x5.2)) fun u =>
    K .normal (act 25 [(3, x3), (5, x5.1), (6, x6), (7, x7), (8, x8)]) u.2 := kq_reg
theorem r21_5  : kCode env 21 false inv k (cp c21 7474) (act 25 [(3, x3), (5, x5), (6, x6), (7, x7), (8, x8)]) h K =
    bnd (pFieldAddr Try.prog 48 x5 0) fun x12 =>
    bnd (pLoad Try.prog 3 x12 h) fun x13 =>
    bnd (inv (.func 26) #[] #[x13] h) fun x14 =>
    K .normal (act 25 [(3, x3), (5, x5), (6, x6), (7, x7), (8, x8), (14, x14.1)]) x14.2 := kq_reg
theorem b21_rrllrrllrlrr  : kCode env 21 false inv k (cp c21 7475) (act 25 [(3, x3), (5, x5), (6, x6), (7, x7), (8, x8), (14, x14)]) h K = brV x14 (kCode env 21 false inv k (cp c21 14950) (act 25 [(3, x3), (5, x5), (6, x6), (7, x7), (8, x8), (14, x14)]) h K) (kCode env 21 false inv k (cp c21 14951) (act 25 [(3, x3), (5, x5), (6, x6), (7, x7), (8, x8), (14, x14)]) h K) := kq_cond
theorem r21_6  : kCode env 21 false inv k (cp c21 14950) (act 25 [(3, x3), (5, x5), (6, x6), (7, x7), (8, x8), (14, x14)]) h K =
    bnd (pFieldAddr Try.prog 48 x5 1) fun x16 =>
    bnd (pLoad Try.prog 3 x16 h) fun x17 =>
    bnd (pBuildSlice Try.prog 46 1 #[(0, x17)] h) fun x18 =>
    bnd (pAppend Try.prog #[46, 46] x3 x18.1 x18.2) fun x19 =>
    K .normal (act 25 [(3, x19.1), (6, x6), (7, x7), (8, x8)]) x19.2 := kq_reg
noncomputable def F21_lrrllrlrr {β : Type} (inv : Inv) (k : Nat) (x3 x6 x7 x8 x9 : Value) (h : AH) (kn : (Value → Value → Value → Value → Value → Value → AH → Option β)) : Option β :=
    bnd (pIndexAddr Try.prog 22 x6 x8) fun x10 =>
    bnd (pLoad Try.prog 48 x10 h) fun x11 =>
    bnd (pAlloc Try.prog 48 h) fun x5 =>
    bnd (kSt (pStore Try.prog 48 x5.1 x11 x5.2)) fun u =>
    bnd (pFieldAddr Try.prog 48 x5.1 0) fun x12 =>
    bnd (pLoad Try.prog 3 x12 u.2) fun x13 =>
    bnd (inv (.func 26) #[] #[x13] u.2) fun x14 =>
    brV x14.1
    (bnd (pFieldAddr Try.prog 48 x5.1 1) fun x16 =>
    bnd (pLoad Try.prog 3 x16 x14.2) fun x17 =>
    bnd (pBuildSlice Try.prog 46 1 #[(0, x17)] x14.2) fun x18 =>
    bnd (pAppend Try.prog #[46, 46] x3 x18.1 x18.2) fun x19 =>
    kn x19.1 unk x6 x7 x8 unk x19.2)
    (kn x3 x5.1 x6 x7 x8 x14.1 x14.2)
theorem F21_lrrllrlrr_eq  : kCode env 21 false inv k (cp c21 934) (act 25 [(3, x3), (6, x6), (7, x7), (8, x8), (9, x9)]) h K = F21_lrrllrlrr inv k x3 x6 x7 x8 x9 h (fun y3 y5 y6 y7 y8 y14 h => K .normal (act 25 [(3, y3), (5, y5), (6, y6), (7, y7), (8, y8), (14, y14)]) h) := by
      unfold F21_lrrllrlrr
      simp only [kq_block c21 934 1, kq_seq c21 1868, r21_4, kq_seq c21 3737, r21_5, b21_rrllrrllrlrr, r21_6, kq_skip c21 14951, reduceIte, reduceCtorEq, XE.exit.injEq, Nat.reduceEqDiff, Nat.reduceMul, Nat.reduceAdd] <;> kernel_rfl
theorem r21_7  : kCode env 21 false inv k (cp c21 935) (act 25 [(3, x3), (5, x5), (6, x6), (7, x7), (8, x8), (14, x14)]) h K =
    bnd (pBin Try.prog .add 3 (.tmp 8) (.const (.int .i64 1)) x8 (.int .i64 1)) fun x20 =>
    K .normal (act 25 [(3, x3), (6, x6), (7, x7), (8, x20)]) h := kq_reg
noncomputable def F21_lrlrr {β : Type} (inv : Inv) (k : Nat) : Nat → Value → Value → Value → Value → AH → (Value → Value → Value → Value → Value → AH → Option β) → Option β
  | 0, _, _, _, _, _, _ => none
  | j + 1, x3, x6, x7, x8, h, ke0 =>
    bnd (pBin Try.prog .lss 3 (.tmp 8) (.tmp 7) x8 x7) fun x9 =>
    brV x9
    (F21_lrrllrlrr inv k x3 x6 x7 x8 x9 h
    (fun y3 y5 y6 y7 y8 y14 h =>
    bnd (pBin Try.prog .add 3 (.tmp 8) (.const (.int .i64 1)) y8 (.int .i64 1)) fun x20 =>
    F21_lrlrr inv k j y3 y6 y7 x20 h ke0))
    (ke0 x3 x6 x7 x8 x9 h)
theorem F21_lrlrr_j (j : Nat) : kLoop (kCode env 21 false inv k (cp c21 116)) j (act 25 [(3, x3), (6, x6), (7, x7), (8, x8)]) h K = F21_lrlrr inv k j x3 x6 x7 x8 h (fun y3 y6 y7 y8 y9 h => K (.exit 0) (act 25 [(3, y3), (6, y6), (7, y7), (8, y8), (9, y9)]) h) := by
      induction j generalizing x3 x6 x7 x8 h with
      | zero => rfl
      | succ j ih =>
        unfold F21_lrlrr
        simp only [kLoop, kq_seq c21 116, r21_3, kq_seq c21 233, b21_lrllrlrr, kq_skip c21 932, kq_seq c21 467, F21_lrrllrlrr_eq, r21_7, kq_exit c21 933 0, ih, reduceIte, reduceCtorEq, XE.exit.injEq, Nat.reduceEqDiff, Nat.reduceMul, Nat.reduceAdd] <;> kernel_rfl
theorem F21_lrlrr_eq  : kCode env 21 false inv k (cp c21 58) (act 25 [(3, x3), (6, x6), (7, x7), (8, x8)]) h K = F21_lrlrr inv k k x3 x6 x7 x8 h (fun y3 y6 y7 y8 y9 h => K (.exit 0) (act 25 [(3, y3), (6, y6), (7, y7), (8, y8), (9, y9)]) h) := kq_loop (F21_lrlrr_j k)
theorem r21_8  : kCode env 21 false inv k (cp c21 30) (act 25 [(3, x3), (6, x6), (7, x7), (8, x8), (9, x9)]) h K =
    bnd (inv (.func 43) #[] #[x3] h) fun x22 =>
    K .normal (act 25 [(3, x3)]) x22.2 := kq_reg
theorem r21_9  : kCode env 21 false inv k (cp c21 62) (act 25 [(3, x3)]) h K =
    bnd (inv (.func 44) #[] #[x3] h) fun x24 =>
    K .normal (act 25 [(2, x24.1)]) x24.2 := kq_reg
theorem res21_0 : resOfFn env.P 21 .ret (act 25 [(2, x2)]) h = some (x2, h) := kq_res
/-- shadowbook/pred.Cols -/
noncomputable def F21 (inv : Inv) (k : Nat) (x0 : Value) (h : AH) : Option (Value × AH) :=
    bnd (pLen Try.prog #[22] x0 h) fun x7 =>
    F21_lrlrr inv k k (.slice none 0 0) x0 x7 (.int .i64 0) h
    (fun y3 y6 y7 y8 y9 h =>
    bnd (inv (.func 43) #[] #[y3] h) fun x22 =>
    bnd (inv (.func 44) #[] #[y3] x22.2) fun x24 =>
    some (x24.1, x24.2))
theorem F21_eq : eFun env k inv 21 #[x0] h = F21 inv k x0 h := by
      refine (kq_fun (a := act 25 [(0, x0)]) (c := cp c21 1)).trans ?_
      unfold F21
      simp only [kq_seq c21 1, r21_0, kq_seq c21 3, r21_1, kq_seq c21 7, kq_seq c21 14, r21_2, kq_block c21 29 0, F21_lrlrr_eq, kq_seq c21 15, r21_8, kq_seq c21 31, r21_9, kq_ret c21 63, res21_0, reduceIte, reduceCtorEq, XE.exit.injEq, Nat.reduceEqDiff, Nat.reduceMul, Nat.reduceAdd] <;> kernel_rfl
theorem F21_call : eInv env (k + 1) (.func 21) #[] #[x0] h = F21 (eInv env k) k x0 h := kq_inv F21_eq
noncomputable def c24 : Code := codeOf Try.prog 24
theorem r24_0  : kCode env 24 false inv k (cp c24 2) (act 58 [(0, x0), (1, x1), (2, x2)]) h K =
    K .normal (act 58 [(0, x0), (1, x1), (2, x2), (6, (.bool false))]) h := kq_reg
theorem r24_1  : kCode env 24 false inv k (cp c24 6) (act 58 [(0, x0), (1, x1), (2, x2), (6, x6)]) h K =
    bnd (pLen Try.prog #[22] x0 h) fun x15 =>
    bnd (pMakeSlice Try.prog 60 (.int .i64 0) x15 h) fun x16 =>
    K .normal (act 58 [(0, x0), (1, x1), (2, x2), (6, x6), (7, x16.1)]) x16.2 := kq_reg
theorem r24_2  : kCode env 24 false inv k (cp c24 28) (act 58 [(0, x0), (1, x1), (2, x2), (6, x6), (7, x7)]) h K =
    bnd (pLen Try.prog #[22] x0 h) fun x18 =>
    K .normal (act 58 [(1, x1), (2, x2), (6, x6), (7, x7), (17, x0), (18, x18), (19, (.int .i64 0))]) h := kq_reg
theorem r24_3  : kCode env 24 false inv k (cp c24 232) (act 58 [(1, x1), (2, x2), (6, x6), (7, x7), (17, x17), (18, x18), (19, x19)]) h K =
    bnd (pBin Try.prog .lss 3 (.tmp 19) (.tmp 18) x19 x18) fun x20 =>
    K .normal (act 58 [(1, x1), (2, x2), (6, x6), (7, x7), (17, x17), (18, x18), (19, x19), (20, x20)]) h := kq_reg
theorem b24_lrllrlrr  : kCode env 24 false inv k (cp c24 466) (act 58 [(1, x1), (2, x2), (6, x6), (7, x7), (17, x17), (18, x18), (19, x19), (20, x20)]) h K = brV x20 (kCode env 24 false inv k (cp c24 932) (act 58 [(1, x1), (2, x2), (6, x6), (7, x7), (17, x17), (18, x18), (19, x19), (20, x20)]) h K) (kCode env 24 false inv k (cp c24 933) (act 58 [(1, x1), (2, x2), (6, x6), (7, x7), (17, x17), (18, x18), (19, x19), (20, x20)]) h K) := kq_cond
theorem r24_4  : kCode env 24 false inv k (cp c24 3736) (act 58 [(1, x1), (2, x2), (6, x6), (7, x7), (17, x17), (18, x18), (19, x19), (20, x20)]) h K =
    bnd (pIndexAddr Try.prog 22 x17 x19) fun x22 =>
    bnd (pLoad Try.prog 48 x22 h) fun x23 =>
    bnd (pAlloc Try.prog 48 h) fun x9 =>
    bnd (kSt (pStore Try.prog 48 x9.1 x23 x9.2)) fun u =>
    K .normal (act 58 [(1, x1), (2, x2), (7, x7), (8, x19), (9, x9.1), (17, x17), (18, x18), (19, x19)]) u.2 := kq_reg
theorem r24_5  : kCode env 24 false inv k (cp c24 7474) (act 58 [(1, x1), (2, x2), (7, x7), (8, x8), (9, x9), (17, x17), (18, x18), (19, x19)]) h K =
    K .normal (act 58 [(1, x1), (2, x2), (7, x7), (8, x8), (9, x9), (10, (.slice none 0 0)), (17, x17), (18, x18), (19, x19)]) h := kq_reg
theorem r24_6  : kCode env 24 false inv k (cp c24 29900) (act 58 [(1, x1), (2, x2), (7, x7), (8, x8), (9, x9), (10, x10), (17, x17), (18, x18), (19, x19)]) h K =
    bnd (pFieldAddr Try.prog 48 x9 3) fun x24 =>
    bnd (pLoad Try.prog 46 x24 h) fun x25 =>
    bnd (pLen Try.prog #[46] x25 h) fun x26 =>
    K .normal (act 58 [(1, x1), (2, x2), (7, x7), (8, x8), (9, x9), (10, x10), (17, x17), (18, x18), (19, x19), (25, x25), (26, x26), (27, (.int .i64 0))]) h := kq_reg
theorem r24_7  : kCode env 24 false inv k (cp c24 239208) (act 58 [(1, x1), (2, x2), (7, x7), (8, x8), (9, x9), (10, x10), (17, x17), (18, x18), (19, x19), (25, x25), (26, x26), (27, x27)]) h K =
    bnd (pBin Try.prog .lss 3 (.tmp 27) (.tmp 26) x27 x26) fun x28 =>
    K .normal (act 58 [(1, x1), (2, x2), (7, x7), (8, x8), (9, x9), (10, x10), (17, x17), (18, x18), (19, x19), (25, x25), (26, x26), (27, x27), (28, x28)]) h := kq_reg
theorem b24_lrllrlrrllrrllrlrr  : kCode env 24 false inv k (cp c24 478418) (act 58 [(1, x1), (2, x2), (7, x7), (8, x8), (9, x9), (10, x10), (17, x17), (18, x18), (19, x19), (25, x25), (26, x26), (27, x27), (28, x28)]) h K = brV x28 (kCode env 24 false inv k (cp c24 956836) (act 58 [(1, x1), (2, x2), (7, x7), (8, x8), (9, x9), (10, x10), (17, x17), (18, x18), (19, x19), (25, x25), (26, x26), (27, x27), (28, x28)]) h K) (kCode env 24 false inv k (cp c24 956837) (act 58 [(1, x1), (2, x2), (7, x7), (8, x8), (9, x9), (10, x10), (17, x17), (18, x18), (19, x19), (25, x25), (26, x26), (27, x27), (28, x28)]) h K) := kq_cond
theorem r24_8  : kCode env 24 false inv k (cp c24 3827352) (act 58 [(1, x1), (2, x2), (7, x7), (8, x8), (9, x9), (10, x10), (17, x17), (18, x18), (19, x19), (25, x25), (26, x26), (27, x27), (28, x28)]) h K =
    bnd (pIndexAddr Try.prog 46 x25 x27) fun x29 =>
    bnd (pLoad Try.prog 3 x29 h) fun x30 =>
    K .normal (act 58 [(1, x1), (2, x2), (7, x7), (8, x8), (9, x9), (10, x10), (12, x30), (17, x17), (18, x18), (19, x19), (25, x25), (26, x26), (27, x27)]) h := kq_reg
theorem r24_9  : kCode env 24 false inv k (cp c24 7654706) (act 58 [(1, x1), (2, x2), (7, x7), (8, x8), (9, x9), (10, x10), (12, x12), (17, x17), (18, x18), (19, x19), (25, x25), (26, x26), (27, x27)]) h K =
    K .normal (act 58 [(1, x1), (2, x2), (7, x7), (8, x8), (9, x9), (10, x10), (12, x12), (13, x1), (17, x17), (18, x18), (19, x19), (25, x25), (26, x26), (27, x27)]) h := kq_reg
noncomputable abbrev G24_10 {β : Type} (inv : Inv) (x1 x2 x7 x8 x9 x10 x12 x13 x17 x18 x19 x25 x26 x27 : Value) (h : AH) (K : Value → AH → Option β) : Option β :=
    bnd (pBin Try.prog .geq 3 (.tmp 32) (.const (.int .i64 0)) x12 (.int .i64 0)) fun x33 =>
    bnd (gd (some x33) true h (some (x12, h))) fun x35 =>
    bnd (gd (some x33) true x35.2 (some (x8, x35.2))) fun x36 =>
    bnd (gd (some x33) true x36.2 (lt (pBin Try.prog .lss 3 (.tmp 35) (.tmp 36) x35.1 x36.1) x36.2)) fun x37 =>
    bnd (pickV x33 x37.1 (.bool false)) fun x38 =>
    K (x38) x37.2
theorem r24_10  : kCode env 24 false inv k (cp c24 30618828) (act 58 [(1, x1), (2, x2), (7, x7), (8, x8), (9, x9), (10, x10), (12, x12), (13, x13), (17, x17), (18, x18), (19, x19), (25, x25), (26, x26), (27, x27)]) h K =
    G24_10 inv x1 x2 x7 x8 x9 x10 x12 x13 x17 x18 x19 x25 x26 x27 h fun y38 h => K .normal (act 58 [(1, x1), (2, x2), (7, x7), (8, x8), (9, x9), (10, x10), (12, x12), (13, x13), (17, x17), (18, x18), (19, x19), (25, x25), (26, x26), (27, x27), (38, y38)]) h := kq_reg
theorem b24_rlrrllrrllrlrrllrrllrlrr  : kCode env 24 false inv k (cp c24 30618829) (act 58 [(1, x1), (2, x2), (7, x7), (8, x8), (9, x9), (10, x10), (12, x12), (13, x13), (17, x17), (18, x18), (19, x19), (25, x25), (26, x26), (27, x27), (38, x38)]) h K = brV x38 (kCode env 24 false inv k (cp c24 61237658) (act 58 [(1, x1), (2, x2), (7, x7), (8, x8), (9, x9), (10, x10), (12, x12), (13, x13), (17, x17), (18, x18), (19, x19), (25, x25), (26, x26), (27, x27), (38, x38)]) h K) (kCode env 24 false inv k (cp c24 61237659) (act 58 [(1, x1), (2, x2), (7, x7), (8, x8), (9, x9), (10, x10), (12, x12), (13, x13), (17, x17), (18, x18), (19, x19), (25, x25), (26, x26), (27, x27), (38, x38)]) h K) := kq_cond
theorem r24_11  : kCode env 24 false inv k (cp c24 61237658) (act 58 [(1, x1), (2, x2), (7, x7), (8, x8), (9, x9), (10, x10), (12, x12), (13, x13), (17, x17), (18, x18), (19, x19), (25, x25), (26, x26), (27, x27), (38, x38)]) h K =
    bnd (pIndexAddr Try.prog 60 x7 x12) fun x41 =>
    bnd (pLoad Try.prog 4 x41 h) fun x42 =>
    K .normal (act 58 [(1, x1), (2, x2), (7, x7), (8, x8), (9, x9), (10, x10), (13, x42), (17, x17), (18, x18), (19, x19), (25, x25), (26, x26), (27, x27)]) h := kq_reg
noncomputable def F24_rlrrllrrllrlrrllrrllrlrr {β : Type} (inv : Inv) (k : Nat) (x1 x2 x7 x8 x9 x10 x12 x13 x17 x18 x19 x25 x26 x27 x38 : Value) (h : AH) (kn : (Value → Value → Value → Value → Value → Value → Value → Value → Value → Value → Value → Value → Value → Value → Value → AH → Option β)) : Option β :=
    brV x38
    (bnd (pIndexAddr Try.prog 60 x7 x12) fun x41 =>
    bnd (pLoad Try.prog 4 x41 h) fun x42 =>
    kn x1 x2 x7 x8 x9 x10 unk x42 x17 x18 x19 x25 x26 x27 unk h)
    (kn x1 x2 x7 x8 x9 x10 x12 x13 x17 x18 x19 x25 x26 x27 x38 h)
theorem F24_rlrrllrrllrlrrllrrllrlrr_eq  : kCode env 24 false inv k (cp c24 30618829) (act 58 [(1, x1), (2, x2), (7, x7), (8, x8), (9, x9), (10, x10), (12, x12), (13, x13), (17, x17), (18, x18), (19, x19), (25, x25), (26, x26), (27, x27), (38, x38)]) h K = F24_rlrrllrrllrlrrllrrllrlrr inv k x1 x2 x7 x8 x9 x10 x12 x13 x17 x18 x19 x25 x26 x27 x38 h (fun y1 y2 y7 y8 y9 y10 y12 y13 y17 y18 y19 y25 y26 y27 y38 h => K .normal (act 58 [(1, y1), (2, y2), (7, y7), (8, y8), (9, y9), (10, y10), (12, y12), (13, y13), (17, y17), (18, y18), (19, y19), (25, y25), (26, y26), (27, y27), (38, y38)]) h) := by
      unfold F24_rlrrllrrllrlrrllrrllrlrr
      simp only [b24_rlrrllrrllrlrrllrrllrlrr, r24_11, kq_skip c24 61237659, reduceIte, reduceCtorEq, XE.exit.injEq, Nat.reduceEqDiff, Nat.reduceMul, Nat.reduceAdd] <;> kernel_rfl
theorem r24_12  : kCode env 24 false inv k (cp c24 15309415) (act 58 [(1, x1), (2, x2), (7, x7), (8, x8), (9, x9), (10, x10), (12, x12), (13, x13), (17, x17), (18, x18), (19, x19), (25, x25), (26, x26), (27, x27), (38, x38)]) h K =
    bnd (pBuildSlice Try.prog 60 1 #[(0, x13)] h) fun x45 =>
    bnd (pAppend Try.prog #[60, 60] x10 x45.1 x45.2) fun x46 =>
    K .normal (act 58 [(1, x1), (2, x2), (7, x7), (8, x8), (9, x9), (10, x46.1), (17, x17), (18, x18), (19, x19), (25, x25), (26, x26), (27, x27)]) x46.2 := kq_reg
theorem r24_13  : kCode env 24 false inv k (cp c24 956839) (act 58 [(1, x1), (2, x2), (7, x7), (8, x8), (9, x9), (10, x10), (17, x17), (18, x18), (19, x19), (25, x25), (26, x26), (27, x27)]) h K =
    bnd (pBin Try.prog .add 3 (.tmp 27) (.const (.int .i64 1)) x27 (.int .i64 1)) fun x47 =>
    K .normal (act 58 [(1, x1), (2, x2), (7, x7), (8, x8), (9, x9), (10, x10), (17, x17), (18, x18), (19, x19), (25, x25), (26, x26), (27, x47)]) h := kq_reg
noncomputable def F24_lrlrrllrrllrlrr {β : Type} (inv : Inv) (k : Nat) : Nat → Value → Value → Value → Value → Value → Value → Value → Value → Value → Value → Value → Value → AH → (Value → Value → Value → Value → Value → Value → Value → Value → Value → Value → Value → Value → Value → AH → Option β) → Option β
  | 0, _, _, _, _, _, _, _, _, _, _, _, _, _, _ => none
  | j + 1, x1, x2, x7, x8, x9, x10, x17, x18, x19, x25, x26, x27, h, ke2 =>
    bnd (pBin Try.prog .lss 3 (.tmp 27) (.tmp 26) x27 x26) fun x28 =>
    brV x28
    (bnd (pIndexAddr Try.prog 46 x25 x27) fun x29 =>
    bnd (pLoad Try.prog 3 x29 h) fun x30 =>
    G24_10 inv x1 x2 x7 x8 x9 x10 x30 x1 x17 x18 x19 x25 x26 x27 h fun y38 h =>
    F24_rlrrllrrllrlrrllrrllrlrr inv k x1 x2 x7 x8 x9 x10 x30 x1 x17 x18 x19 x25 x26 x27 y38 h
    (fun y1 y2 y7 y8 y9 y10 y12 y13 y17 y18 y19 y25 y26 y27 y38_1 h_2 =>
    bnd (pBuildSlice Try.prog 60 1 #[(0, y13)] h_2) fun x45 =>
    bnd (pAppend Try.prog #[60, 60] y10 x45.1 x45.2) fun x46 =>
    bnd (pBin Try.prog .add 3 (.tmp 27) (.const (.int .i64 1)) y27 (.int .i64 1)) fun x47 =>
    F24_lrlrrllrrllrlrr inv k j y1 y2 y7 y8 y9 x46.1 y17 y18 y19 y25 y26 x47 x46.2 ke2))
    (ke2 x1 x2 x7 x8 x9 x10 x17 x18 x19 x25 x26 x27 x28 h)
theorem F24_lrlrrllrrllrlrr_j (j : Nat) : kLoop (kCode env 24 false inv k (cp c24 119604)) j (act 58 [(1, x1), (2, x2), (7, x7), (8, x8), (9, x9), (10, x10), (17, x17), (18, x18), (19, x19), (25, x25), (26, x26), (27, x27)]) h K = F24_lrlrrllrrllrlrr inv k j x1 x2 x7 x8 x9 x10 x17 x18 x19 x25 x26 x27 h (fun y1 y2 y7 y8 y9 y10 y17 y18 y19 y25 y26 y27 y28 h => K (.exit 2) (act 58 [(1, y1), (2, y2), (7, y7), (8, y8), (9, y9), (10, y10), (17, y17), (18, y18), (19, y19), (25, y25), (26, y26), (27, y27), (28, y28)]) h) := by
      induction j generalizing x1 x2 x7 x8 x9 x10 x17 x18 x19 x25 x26 x27 h with
      | zero => rfl
      | succ j ih =>
        unfold F24_lrlrrllrrllrlrr
        simp only [kLoop, kq_seq c24 119604, r24_7, kq_seq c24 239209, b24_lrllrlrrllrrllrlrr, kq_skip c24 956836, kq_seq c24 478419, kq_block c24 956838 3, kq_seq c24 1913676, r24_8, kq_seq c24 3827353, r24_9, kq_seq c24 7654707, kq_seq c24 15309414, r24_10, F24_rlrrllrrllrlrrllrrllrlrr_eq, r24_12, r24_13, kq_exit c24 956837 2, ih, reduceIte, reduceCtorEq, XE.exit.injEq, Nat.reduceEqDiff, Nat.reduceMul, Nat.reduceAdd] <;> kernel_rfl
theorem F24_lrlrrllrrllrlrr_eq  : kCode env 24 false inv k (cp c24 59802) (act 58 [(1, x1), (2, x2), (7, x7), (8, x8), (9, x9), (10, x10), (17, x17), (18, x18), (19, x19), (25, x25), (26, x26), (27, x27)]) h K = F24_lrlrrllrrllrlrr inv k k x1 x2 x7 x8 x9 x10 x17 x18 x19 x25 x26 x27 h (fun y1 y2 y7 y8 y9 y10 y17 y18 y19 y25 y26 y27 y28 h => K (.exit 2) (act 58 [(1, y1), (2, y2), (7, y7), (8, y8), (9, y9), (10, y10), (17, y17), (18, y18), (19, y19), (25, y25), (26, y26), (27, y27), (28, y28)]) h) := kq_loop (F24_lrlrrllrrllrlrr_j k)
theorem r24_14  : kCode env 24 false inv k (cp c24 29902) (act 58 [(1, x1), (2, x2), (7, x7), (8, x8), (9, x9), (10, x10), (17, x17), (18, x18), (19, x19), (25, x25), (26, x26), (27, x27), (28, x28)]) h K =
    bnd (pLoad Try.prog 48 x9 h) fun x49 =>
    bnd (callV inv x2 #[x49, x10] h) fun x51 =>
    K .normal (act 58 [(1, x1), (2, x2), (6, x51.1), (7, x7), (17, x17), (18, x18), (19, x19)]) x51.2 := kq_reg
theorem r24_15  : kCode env 24 false inv k (cp c24 29903) (act 58 [(1, x1), (2, x2), (6, x6), (7, x7), (17, x17), (18, x18), (19, x19)]) h K =
    bnd (pBuildSlice Try.prog 60 1 #[(0, x6)] h) fun x54 =>
    bnd (pAppend Try.prog #[60, 60] x7 x54.1 x54.2) fun x55 =>
    K .normal (act 58 [(1, x1), (2, x2), (6, x6), (7, x55.1), (17, x17), (18, x18), (19, x19)]) x55.2 := kq_reg
theorem r24_16  : kCode env 24 false inv k (cp c24 935) (act 58 [(1, x1), (2, x2), (6, x6), (7, x7), (17, x17), (18, x18), (19, x19)]) h K =
    bnd (pBin Try.prog .add 3 (.tmp 19) (.const (.int .i64 1)) x19 (.int .i64 1)) fun x56 =>
    K .normal (act 58 [(1, x1), (2, x2), (6, x6), (7, x7), (17, x17), (18, x18), (19, x56)]) h := kq_reg
noncomputable def F24_lrlrr {β : Type} (inv : Inv) (k : Nat) : Nat → Value → Value → Value → Value → Value → Value → Value → AH → (Value → Value → Value → Value → Value → Value → Value → Value → AH → Option β) → Option β
  | 0, _, _, _, _, _, _, _, _, _ => none
  | j + 1, x1, x2, x6, x7, x17, x18, x19, h, ke0 =>
    bnd (pBin Try.prog .lss 3 (.tmp 19) (.tmp 18) x19 x18) fun x20 =>
    brV x20
    (bnd (pIndexAddr Try.prog 22 x17 x19) fun x22 =>
    bnd (pLoad Try.prog 48 x22 h) fun x23 =>
    bnd (pAlloc Try.prog 48 h) fun x9 =>
    bnd (kSt (pStore Try.prog 48 x9.1 x23 x9.2)) fun u =>
    bnd (pFieldAddr Try.prog 48 x9.1 3) fun x24 =>
    bnd (pLoad Try.prog 46 x24 u.2) fun x25 =>
    bnd (pLen Try.prog #[46] x25 u.2) fun x26 =>
    F24_lrlrrllrrllrlrr inv k k x1 x2 x7 x19 x9.1 (.slice none 0 0) x17 x18 x19 x25 x26 (.int .i64 0) u.2
    (fun y1 y2 y7 y8 y9 y10 y17 y18 y19 y25 y26 y27 y28 h =>
    bnd (pLoad Try.prog 48 y9 h) fun x49 =>
    bnd (callV inv y2 #[x49, y10] h) fun x51 =>
    bnd (pBuildSlice Try.prog 60 1 #[(0, x51.1)] x51.2) fun x54 =>
    bnd (pAppend Try.prog #[60, 60] y7 x54.1 x54.2) fun x55 =>
    bnd (pBin Try.prog .add 3 (.tmp 19) (.const (.int .i64 1)) y19 (.int .i64 1)) fun x56 =>
    F24_lrlrr inv k j y1 y2 x51.1 x55.1 y17 y18 x56 x55.2 ke0))
    (ke0 x1 x2 x6 x7 x17 x18 x19 x20 h)
theorem F24_lrlrr_j (j : Nat) : kLoop (kCode env 24 false inv k (cp c24 116)) j (act 58 [(1, x1), (2, x2), (6, x6), (7, x7), (17, x17), (18, x18), (19, x19)]) h K = F24_lrlrr inv k j x1 x2 x6 x7 x17 x18 x19 h (fun y1 y2 y6 y7 y17 y18 y19 y20 h => K (.exit 0) (act 58 [(1, y1), (2, y2), (6, y6), (7, y7), (17, y17), (18, y18), (19, y19), (20, y20)]) h) := by
      induction j generalizing x1 x2 x6 x7 x17 x18 x19 h with
      | zero => rfl
      | succ j ih =>
        unfold F24_lrlrr
        simp only [kLoop, kq_seq c24 116, r24_3, kq_seq c24 233, b24_lrllrlrr, kq_skip c24 932, kq_seq c24 467, kq_block c24 934 1, kq_seq c24 1868, r24_4, kq_seq c24 3737, r24_5, kq_seq c24 7475, kq_seq c24 14950, r24_6, kq_block c24 29901 2, F24_lrlrrllrrllrlrr_eq, kq_seq c24 14951, r24_14, r24_15, r24_16, kq_exit c24 933 0, ih, reduceIte, reduceCtorEq, XE.exit.injEq, Nat.reduceEqDiff, Nat.reduceMul, Nat.reduceAdd] <;> kernel_rfl
theorem F24_lrlrr_eq  : kCode env 24 false inv k (cp c24 58) (act 58 [(1, x1), (2, x2), (6, x6), (7, x7), (17, x17), (18, x18), (19, x19)]) h K = F24_lrlrr inv k k x1 x2 x6 x7 x17 x18 x19 h (fun y1 y2 y6 y7 y17 y18 y19 y20 h => K (.exit 0) (act 58 [(1, y1), (2, y2), (6, y6), (7, y7), (17, y17), (18, y18), (19, y19), (20, y20)]) h) := kq_loop (F24_lrlrr_j k)
theorem r24_17  : kCode env 24 false inv k (cp c24 30) (act 58 [(1, x1), (2, x2), (6, x6), (7, x7), (17, x17), (18, x18), (19, x19), (20, x20)]) h K =
    K .normal (act 58 [(6, x6)]) h := kq_reg
theorem res24_0 : resOfFn env.P 24 .ret (act 58 [(6, x6)]) h = some (x6, h) := kq_res
/-- shadowbook/pred.gone[bool] -/
noncomputable def F24 (inv : Inv) (k : Nat) (x0 x1 x2 : Value) (h : AH) : Option (Value × AH) :=
    bnd (pLen Try.prog #[22] x0 h) fun x15 =>
    bnd (pMakeSlice Try.prog 60 (.int .i64 0) x15 h) fun x16 =>
    bnd (pLen Try.prog #[22] x0 x16.2) fun x18 =>
    F24_lrlrr inv k k x1 x2 (.bool false) x16.1 x0 x18 (.int .i64 0) x16.2
    (fun y1 y2 y6 y7 y17 y18 y19 y20 h =>
    some (y6, h))
theorem F24_eq : eFun env k inv 24 #[x0, x1, x2] h = F24 inv k x0 x1 x2 h := by
      refine (kq_fun (a := act 58 [(0, x0), (1, x1), (2, x2)]) (c := cp c24 1)).trans ?_
      unfold F24
      simp only [kq_seq c24 1, r24_0, kq_seq c24 3, r24_1, kq_seq c24 7, kq_seq c24 14, r24_2, kq_block c24 29 0, F24_lrlrr_eq, kq_seq c24 15, r24_17, kq_ret c24 31, res24_0, reduceIte, reduceCtorEq, XE.exit.injEq, Nat.reduceEqDiff, Nat.reduceMul, Nat.reduceAdd] <;> kernel_rfl
theorem F24_call : eInv env (k + 1) (.func 24) #[] #[x0, x1, x2] h = F24 (eInv env k) k x0 x1 x2 h := kq_inv F24_eq
noncomputable def c25 : Code := codeOf Try.prog 25
theorem r25_0  : kCode env 25 false inv k (cp c25 2) (act 36 [(0, x0), (1, x1), (2, x2)]) h K =
    bnd (pBox Try.prog 48 x0 h) fun x3 =>
    K .normal (act 36 [(1, x1), (2, x2), (3, x3.1)]) x3.2 := kq_reg
theorem r25_1  : kCode env 25 false inv k (cp c25 24) (act 36 [(1, x1), (2, x2), (3, x3)]) h K =
    bnd (pFieldAddr Try.prog 48 x3 0) fun x7 =>
    bnd (pLoad Try.prog 3 x7 h) fun x8 =>
    bnd (inv (.func 26) #[] #[x8] h) fun x9 =>
    K .normal (act 36 [(1, x1), (2, x2), (3, x3), (6, x9.1)]) x9.2 := kq_reg
theorem b25_rllr  : kCode env 25 false inv k (cp c25 25) (act 36 [(1, x1), (2, x2), (3, x3), (6, x6)]) h K = brV x6 (kCode env 25 false inv k (cp c25 50) (act 36 [(1, x1), (2, x2), (3, x3), (6, x6)]) h K) (kCode env 25 false inv k (cp c25 51) (act 36 [(1, x1), (2, x2), (3, x3), (6, x6)]) h K) := kq_cond
theorem r25_2  : kCode env 25 false inv k (cp c25 100) (act 36 [(1, x1), (2, x2), (3, x3), (6, x6)]) h K =
    bnd (pLoad Try.prog 48 x3 h) fun x10 =>
    bnd (pLoad Try.prog 23 x2 h) fun x11 =>
    bnd (inv (.func 27) #[] #[x10, x11] h) fun x12 =>
    K .normal (act 36 [(5, x12.1)]) x12.2 := kq_reg
theorem res25_0 : resOfFn env.P 25 .ret (act 36 [(5, x5)]) h = some (x5, h) := kq_res
theorem r25_3  : kCode env 25 false inv k (cp c25 102) (act 36 [(1, x1), (2, x2), (3, x3), (6, x6)]) h K =
    bnd (pFieldAddr Try.prog 48 x3 0) fun x14 =>
    bnd (pLoad Try.prog 3 x14 h) fun x15 =>
    bnd (pBin Try.prog .eql 3 (.tmp 15) (.const (.int .i64 1)) x15 (.int .i64 1)) fun x16 =>
    K .normal (act 36 [(1, x1), (3, x3), (13, x16)]) h := kq_reg
theorem b25_rrrllr  : kCode env 25 false inv k (cp c25 103) (act 36 [(1, x1), (3, x3), (13, x13)]) h K = brV x13 (kCode env 25 false inv k (cp c25 206) (act 36 [(1, x1), (3, x3), (13, x13)]) h K) (kCode env 25 false inv k (cp c25 207) (act 36 [(1, x1), (3, x3), (13, x13)]) h K) := kq_cond
theorem r25_4  : kCode env 25 false inv k (cp c25 412) (act 36 [(1, x1), (3, x3), (13, x13)]) h K =
    K .normal (act 36 [(5, (.bool true))]) h := kq_reg
theorem r25_5  : kCode env 25 false inv k (cp c25 414) (act 36 [(1, x1), (3, x3), (13, x13)]) h K =
    bnd (pFieldAddr Try.prog 48 x3 0) fun x18 =>
    bnd (pLoad Try.prog 3 x18 h) fun x19 =>
    bnd (pBin Try.prog .eql 3 (.tmp 19) (.const (.int .i64 6)) x19 (.int .i64 6)) fun x20 =>
    K .normal (act 36 [(1, x1), (3, x3), (17, x20)]) h := kq_reg
theorem b25_rrrrrllr  : kCode env 25 false inv k (cp c25 415) (act 36 [(1, x1), (3, x3), (17, x17)]) h K = brV x17 (kCode env 25 false inv k (cp c25 830) (act 36 [(1, x1), (3, x3), (17, x17)]) h K) (kCode env 25 false inv k (cp c25 831) (act 36 [(1, x1), (3, x3), (17, x17)]) h K) := kq_cond
theorem r25_6  : kCode env 25 false inv k (cp c25 1660) (act 36 [(1, x1), (3, x3), (17, x17)]) h K =
    bnd (inv (.func 28) #[] #[x1, (.bool false)] h) fun x22 =>
    bnd (pUn Try.prog .not x22.1) fun x23 =>
    K .normal (act 36 [(5, x23)]) x22.2 := kq_reg
theorem r25_7  : kCode env 25 false inv k (cp c25 1662) (act 36 [(1, x1), (3, x3), (17, x17)]) h K =
    bnd (pFieldAddr Try.prog 48 x3 0) fun x25 =>
    bnd (pLoad Try.prog 3 x25 h) fun x26 =>
    bnd (pBin Try.prog .eql 3 (.tmp 26) (.const (.int .i64 7)) x26 (.int .i64 7)) fun x27 =>
    K .normal (act 36 [(1, x1), (3, x3), (24, x27)]) h := kq_reg
theorem b25_rrrrrrrllr  : kCode env 25 false inv k (cp c25 1663) (act 36 [(1, x1), (3, x3), (24, x24)]) h K = brV x24 (kCode env 25 false inv k (cp c25 3326) (act 36 [(1, x1), (3, x3), (24, x24)]) h K) (kCode env 25 false inv k (cp c25 3327) (act 36 [(1, x1), (3, x3), (24, x24)]) h K) := kq_cond
theorem r25_8  : kCode env 25 false inv k (cp c25 6652) (act 36 [(1, x1), (3, x3), (24, x24)]) h K =
    bnd (inv (.func 28) #[] #[x1, (.bool true)] h) fun x29 =>
    K .normal (act 36 [(5, x29.1)]) x29.2 := kq_reg
theorem r25_9  : kCode env 25 false inv k (cp c25 6654) (act 36 [(1, x1), (3, x3), (24, x24)]) h K =
    bnd (pFieldAddr Try.prog 48 x3 0) fun x31 =>
    bnd (pLoad Try.prog 3 x31 h) fun x32 =>
    bnd (pBin Try.prog .eql 3 (.tmp 32) (.const (.int .i64 8)) x32 (.int .i64 8)) fun x33 =>
    K .normal (act 36 [(1, x1), (30, x33)]) h := kq_reg
theorem b25_rrrrrrrrrllr  : kCode env 25 false inv k (cp c25 6655) (act 36 [(1, x1), (30, x30)]) h K = brV x30 (kCode env 25 false inv k (cp c25 13310) (act 36 [(1, x1), (30, x30)]) h K) (kCode env 25 false inv k (cp c25 13311) (act 36 [(1, x1), (30, x30)]) h K) := kq_cond
theorem r25_10  : kCode env 25 false inv k (cp c25 26620) (act 36 [(1, x1), (30, x30)]) h K =
    bnd (inv (.func 28) #[] #[x1, (.bool false)] h) fun x35 =>
    K .normal (act 36 [(5, x35.1)]) x35.2 := kq_reg
theorem r25_11  : kCode env 25 false inv k (cp c25 14) (act 36 [(1, x1), (30, x30)]) h K =
    K .normal (act 36 [(5, (.bool false))]) h := kq_reg
/-- shadowbook/pred.Holds$1 -/
noncomputable def F25 (inv : Inv) (k : Nat) (x0 x1 x2 : Value) (h : AH) : Option (Value × AH) :=
    bnd (pBox Try.prog 48 x0 h) fun x3 =>
    bnd (pFieldAddr Try.prog 48 x3.1 0) fun x7 =>
    bnd (pLoad Try.prog 3 x7 x3.2) fun x8 =>
    bnd (inv (.func 26) #[] #[x8] x3.2) fun x9 =>
    brV x9.1
    (bnd (pLoad Try.prog 48 x3.1 x9.2) fun x10 =>
    bnd (pLoad Try.prog 23 x2 x9.2) fun x11 =>
    bnd (inv (.func 27) #[] #[x10, x11] x9.2) fun x12 =>
    some (x12.1, x12.2))
    (bnd (pFieldAddr Try.prog 48 x3.1 0) fun x14 =>
    bnd (pLoad Try.prog 3 x14 x9.2) fun x15 =>
    bnd (pBin Try.prog .eql 3 (.tmp 15) (.const (.int .i64 1)) x15 (.int .i64 1)) fun x16 =>
    brV x16
    (some ((.bool true), x9.2))
    (bnd (pFieldAddr Try.prog 48 x3.1 0) fun x18 =>
    bnd (pLoad Try.prog 3 x18 x9.2) fun x19 =>
    bnd (pBin Try.prog .eql 3 (.tmp 19) (.const (.int .i64 6)) x19 (.int .i64 6)) fun x20 =>
    brV x20
    (bnd (inv (.func 28) #[] #[x1, (.bool false)] x9.2) fun x22 =>
    bnd (pUn Try.prog .not x22.1) fun x23 =>
    some (x23, x22.2))
    (bnd (pFieldAddr Try.prog 48 x3.1 0) fun x25 =>
    bnd (pLoad Try.prog 3 x25 x9.2) fun x26 =>
    bnd (pBin Try.prog .eql 3 (.tmp 26) (.const (.int .i64 7)) x26 (.int .i64 7)) fun x27 =>
    brV x27
    (bnd (inv (.func 28) #[] #[x1, (.bool true)] x9.2) fun x29 =>
    some (x29.1, x29.2))
    (bnd (pFieldAddr Try.prog 48 x3.1 0) fun x31 =>
    bnd (pLoad Try.prog 3 x31 x9.2) fun x32 =>
    bnd (pBin Try.prog .eql 3 (.tmp 32) (.const (.int .i64 8)) x32 (.int .i64 8)) fun x33 =>
    brV x33
    (bnd (inv (.func 28) #[] #[x1, (.bool false)] x9.2) fun x35 =>
    some (x35.1, x35.2))
    (some ((.bool false), x9.2))))))
theorem F25_eq : eFun env k inv 25 #[x0, x1, x2] h = F25 inv k x0 x1 x2 h := by
      refine (kq_fun (a := act 36 [(0, x0), (1, x1), (2, x2)]) (c := cp c25 1)).trans ?_
      unfold F25
      simp only [kq_seq c25 1, r25_0, kq_seq c25 3, kq_block c25 6 0, kq_seq c25 12, r25_1, b25_rllr, kq_seq c25 50, r25_2, kq_ret c25 101, res25_0, kq_seq c25 51, r25_3, b25_rrrllr, kq_seq c25 206, r25_4, kq_ret c25 413, kq_seq c25 207, r25_5, b25_rrrrrllr, kq_seq c25 830, r25_6, kq_ret c25 1661, kq_seq c25 831, r25_7, b25_rrrrrrrllr, kq_seq c25 3326, r25_8, kq_ret c25 6653, kq_seq c25 3327, r25_9, b25_rrrrrrrrrllr, kq_seq c25 13310, r25_10, kq_ret c25 26621, kq_skip c25 13311, kq_seq c25 7, r25_11, kq_ret c25 15, reduceIte, reduceCtorEq, XE.exit.injEq, Nat.reduceEqDiff, Nat.reduceMul, Nat.reduceAdd] <;> kernel_rfl
theorem F25_call : eInv env (k + 1) (.func 25) #[] #[x0, x1, x2] h = F25 (eInv env k) k x0 x1 x2 h := kq_inv F25_eq
noncomputable def c26 : Code := codeOf Try.prog 26
theorem r26_0  : kCode env 26 false inv k (cp c26 2) (act 9 [(0, x0)]) h K =
    K .normal (act 9 [(0, x0)]) h := kq_reg
noncomputable abbrev G26_1 {β : Type} (inv : Inv) (x0 : Value) (h : AH) (K : Value → AH → Option β) : Option β :=
    bnd (pBin Try.prog .geq 3 (.tmp 3) (.const (.int .i64 2)) x0 (.int .i64 2)) fun x4 =>
    bnd (gd (some x4) true h (some (x0, h))) fun x6 =>
    bnd (gd (some x4) true x6.2 (lt (pBin Try.prog .leq 3 (.tmp 6) (.const (.int .i64 5)) x6.1 (.int .i64 5)) x6.2)) fun x7 =>
    bnd (pickV x4 x7.1 (.bool false)) fun x8 =>
    K (x8) x7.2
theorem r26_1  : kCode env 26 false inv k (cp c26 6) (act 9 [(0, x0)]) h K =
    G26_1 inv x0 h fun y2 h => K .normal (act 9 [(2, y2)]) h := kq_reg
theorem res26_0 : resOfFn env.P 26 .ret (act 9 [(2, x2)]) h = some (x2, h) := kq_res
/-- shadowbook/pred.compares -/
noncomputable def F26 (inv : Inv) (k : Nat) (x0 : Value) (h : AH) : Option (Value × AH) :=
    G26_1 inv x0 h fun y2 h =>
    some (y2, h)
theorem F26_eq : eFun env k inv 26 #[x0] h = F26 inv k x0 h := by
      refine (kq_fun (a := act 9 [(0, x0)]) (c := cp c26 1)).trans ?_
      unfold F26
      simp only [kq_seq c26 1, r26_0, kq_seq c26 3, r26_1, kq_ret c26 7, res26_0, reduceIte, reduceCtorEq, XE.exit.injEq, Nat.reduceEqDiff, Nat.reduceMul, Nat.reduceAdd] <;> kernel_rfl
theorem F26_call : eInv env (k + 1) (.func 26) #[] #[x0] h = F26 (eInv env k) k x0 h := kq_inv F26_eq
noncomputable def c27 : Code := codeOf Try.prog 27
theorem r27_0  : kCode env 27 false inv k (cp c27 2) (act 42 [(0, x0), (1, x1)]) h K =
    bnd (pBox Try.prog 48 x0 h) fun x2 =>
    K .normal (act 42 [(1, x1), (2, x2.1)]) x2.2 := kq_reg
noncomputable abbrev G27_1 {β : Type} (inv : Inv) (x1 x2 : Value) (h : AH) (K : Value → AH → Option β) : Option β :=
    bnd (pFieldAddr Try.prog 48 x2 1) fun x7 =>
    bnd (pLoad Try.prog 3 x7 h) fun x8 =>
    bnd (pBin Try.prog .lss 3 (.tmp 8) (.const (.int .i64 0)) x8 (.int .i64 0)) fun x9 =>
    bnd (gd (some x9) false h (lt (pFieldAddr Try.prog 48 x2 1) h)) fun x11 =>
    bnd (gd (some x9) false x11.2 (lt (pLoad Try.prog 3 x11.1 x11.2) x11.2)) fun x12 =>
    bnd (gd (some x9) false x12.2 (some (x1, x12.2))) fun x13 =>
    bnd (gd (some x9) false x13.2 (lt (pLen Try.prog #[23] x13.1 x13.2) x13.2)) fun x14 =>
    bnd (gd (some x9) false x14.2 (lt (pBin Try.prog .geq 3 (.tmp 12) (.tmp 14) x12.1 x14.1) x14.2)) fun x15 =>
    bnd (pickV x9 (.bool true) x15.1) fun x16 =>
    K (x16) x15.2
theorem r27_1  : kCode env 27 false inv k (cp c27 12) (act 42 [(1, x1), (2, x2)]) h K =
    G27_1 inv x1 x2 h fun y16 h => K .normal (act 42 [(1, x1), (2, x2), (16, y16)]) h := kq_reg
theorem b27_rlr  : kCode env 27 false inv k (cp c27 13) (act 42 [(1, x1), (2, x2), (16, x16)]) h K = brV x16 (kCode env 27 false inv k (cp c27 26) (act 42 [(1, x1), (2, x2), (16, x16)]) h K) (kCode env 27 false inv k (cp c27 27) (act 42 [(1, x1), (2, x2), (16, x16)]) h K) := kq_cond
theorem r27_2  : kCode env 27 false inv k (cp c27 52) (act 42 [(1, x1), (2, x2), (16, x16)]) h K =
    K .normal (act 42 [(4, (.bool false))]) h := kq_reg
theorem res27_0 : resOfFn env.P 27 .ret (act 42 [(4, x4)]) h = some (x4, h) := kq_res
theorem r27_3  : kCode env 27 false inv k (cp c27 14) (act 42 [(1, x1), (2, x2), (16, x16)]) h K =
    bnd (pFieldAddr Try.prog 48 x2 1) fun x18 =>
    bnd (pLoad Try.prog 3 x18 h) fun x19 =>
    bnd (pIndexAddr Try.prog 23 x1 x19) fun x20 =>
    bnd (pLoad Try.prog 42 x20 h) fun x21 =>
    bnd (pAlloc Try.prog 42 h) fun x5 =>
    bnd (kSt (pStore Try.prog 42 x5.1 x21 x5.2)) fun u =>
    K .normal (act 42 [(2, x2), (5, x5.1)]) u.2 := kq_reg
theorem r27_4  : kCode env 27 false inv k (cp c27 30) (act 42 [(2, x2), (5, x5)]) h K =
    bnd (pFieldAddr Try.prog 42 x5 0) fun x22 =>
    bnd (pLoad Try.prog 3 x22 h) fun x23 =>
    bnd (pBin Try.prog .eql 3 (.tmp 23) (.const (.int .i64 0)) x23 (.int .i64 0)) fun x24 =>
    K .normal (act 42 [(2, x2), (5, x5), (6, x24)]) h := kq_reg
theorem r27_5  : kCode env 27 false inv k (cp c27 124) (act 42 [(2, x2), (5, x5), (6, x6)]) h K =
    bnd (pFieldAddr Try.prog 48 x2 0) fun x25 =>
    bnd (pLoad Try.prog 3 x25 h) fun x26 =>
    bnd (pBin Try.prog .eql 3 (.tmp 26) (.const (.int .i64 5)) x26 (.int .i64 5)) fun x27 =>
    K .normal (act 42 [(2, x2), (5, x5), (6, x6), (27, x27)]) h := kq_reg
theorem b27_rlrrrr  : kCode env 27 false inv k (cp c27 125) (act 42 [(2, x2), (5, x5), (6, x6), (27, x27)]) h K = brV x27 (kCode env 27 false inv k (cp c27 250) (act 42 [(2, x2), (5, x5), (6, x6), (27, x27)]) h K) (kCode env 27 false inv k (cp c27 251) (act 42 [(2, x2), (5, x5), (6, x6), (27, x27)]) h K) := kq_cond
theorem r27_6  : kCode env 27 false inv k (cp c27 500) (act 42 [(2, x2), (5, x5), (6, x6), (27, x27)]) h K =
    K .normal (act 42 [(4, x6)]) h := kq_reg
noncomputable abbrev G27_7 {β : Type} (inv : Inv) (x2 x5 x6 : Value) (h : AH) (K : Value → AH → Option β) : Option β :=
    bnd (pUn Try.prog .not x6) fun x30 =>
    bnd (gd3 (some x30) true h (inv (.func 45) #[] #[] h)) fun x32 =>
    bnd (gd3 (some x30) true x32.2.1 (lt (pFieldAddr Try.prog 48 x2 0) x32.2.1)) fun x33 =>
    bnd (gd3 (some x30) true x33.2.1 (lt (pLoad Try.prog 3 x33.1 x33.2.1) x33.2.1)) fun x34 =>
    bnd (gd3 (some x30) true x34.2.1 (lt (pLookup Try.prog 77 x32.1 x34.1 false x34.2.1) x34.2.1)) fun x35 =>
    bnd (gd3 (some x30) true x35.2.1 (lt (pLoad Try.prog 42 x5 x35.2.1) x35.2.1)) fun x36 =>
    bnd (gd3 (some x30) true x36.2.1 (lt (pFieldAddr Try.prog 48 x2 2) x36.2.1)) fun x37 =>
    bnd (gd3 (some x30) true x37.2.1 (lt (pLoad Try.prog 42 x37.1 x37.2.1) x37.2.1)) fun x38 =>
    bnd (gd3 (some x30) true x38.2.1 (inv (.func 46) #[] #[x36.1, x38.1] x38.2.1)) fun x39 =>
    bnd (gd3 (some x30) true x39.2.1 (callV inv x35.1 #[x39.1] x39.2.1)) fun x40 =>
    bnd (pickV x30 x40.1 (.bool false)) fun x41 =>
    chkK ((!x34.2.2 || !x32.2.2 || (sameO (pLoad Try.prog 3 x33.1 h) x34.1 && sameO (pLoad Try.prog 3 x33.1 x32.2.1) x34.1)) && ((!x34.2.2 || !x39.2.2 || (sameO (pLoad Try.prog 3 x33.1 x38.2.1) x34.1 && sameO (pLoad Try.prog 3 x33.1 x39.2.1) x34.1)) && ((!x35.2.2 || !x39.2.2 || (sameO (pLookup Try.prog 77 x32.1 x34.1 false x38.2.1) x35.1 && sameO (pLookup Try.prog 77 x32.1 x34.1 false x39.2.1) x35.1)) && ((!x36.2.2 || !x32.2.2 || (sameO (pLoad Try.prog 42 x5 h) x36.1 && sameO (pLoad Try.prog 42 x5 x32.2.1) x36.1)) && ((!x38.2.2 || !x32.2.2 || (sameO (pLoad Try.prog 42 x37.1 h) x38.1 && sameO (pLoad Try.prog 42 x37.1 x32.2.1) x38.1)) && true))))) <|
    K (x41) x40.2.1
theorem r27_7  : kCode env 27 false inv k (cp c27 126) (act 42 [(2, x2), (5, x5), (6, x6), (27, x27)]) h K =
    G27_7 inv x2 x5 x6 h fun y4 h => K .normal (act 42 [(4, y4)]) h := kq_draw
/-- shadowbook/pred.leaf -/
noncomputable def F27 (inv : Inv) (k : Nat) (x0 x1 : Value) (h : AH) : Option (Value × AH) :=
    bnd (pBox Try.prog 48 x0 h) fun x2 =>
    G27_1 inv x1 x2.1 x2.2 fun y16 h =>
    brV y16
    (some ((.bool false), h))
    (bnd (pFieldAddr Try.prog 48 x2.1 1) fun x18 =>
    bnd (pLoad Try.prog 3 x18 h) fun x19 =>
    bnd (pIndexAddr Try.prog 23 x1 x19) fun x20 =>
    bnd (pLoad Try.prog 42 x20 h) fun x21 =>
    bnd (pAlloc Try.prog 42 h) fun x5 =>
    bnd (kSt (pStore Try.prog 42 x5.1 x21 x5.2)) fun u =>
    bnd (pFieldAddr Try.prog 42 x5.1 0) fun x22 =>
    bnd (pLoad Try.prog 3 x22 u.2) fun x23 =>
    bnd (pBin Try.prog .eql 3 (.tmp 23) (.const (.int .i64 0)) x23 (.int .i64 0)) fun x24 =>
    bnd (pFieldAddr Try.prog 48 x2.1 0) fun x25 =>
    bnd (pLoad Try.prog 3 x25 u.2) fun x26 =>
    bnd (pBin Try.prog .eql 3 (.tmp 26) (.const (.int .i64 5)) x26 (.int .i64 5)) fun x27 =>
    brV x27
    (some (x24, u.2))
    (G27_7 inv x2.1 x5.1 x24 u.2 fun y4 h_1 =>
    some (y4, h_1)))
theorem F27_eq : eFun env k inv 27 #[x0, x1] h = F27 inv k x0 x1 h := by
      refine (kq_fun (a := act 42 [(0, x0), (1, x1)]) (c := cp c27 1)).trans ?_
      unfold F27
      simp only [kq_seq c27 1, r27_0, kq_seq c27 3, kq_seq c27 6, r27_1, b27_rlr, kq_seq c27 26, r27_2, kq_ret c27 53, res27_0, kq_skip c27 27, kq_seq c27 7, r27_3, kq_seq c27 15, r27_4, kq_seq c27 31, kq_seq c27 62, r27_5, b27_rlrrrr, kq_seq c27 250, r27_6, kq_ret c27 501, kq_skip c27 251, kq_seq c27 63, r27_7, kq_ret c27 127, reduceIte, reduceCtorEq, XE.exit.injEq, Nat.reduceEqDiff, Nat.reduceMul, Nat.reduceAdd] <;> kernel_rfl
theorem F27_call : eInv env (k + 1) (.func 27) #[] #[x0, x1] h = F27 (eInv env k) k x0 x1 h := kq_inv F27_eq
noncomputable def c28 : Code := codeOf Try.prog 28
theorem r28_0  : kCode env 28 false inv k (cp c28 2) (act 9 [(0, x0), (1, x1)]) h K =
    K .normal (act 9 [(0, x0), (1, x1)]) h := kq_reg
theorem r28_1  : kCode env 28 false inv k (cp c28 6) (act 9 [(0, x0), (1, x1)]) h K =
    bnd (inv (.func 47) #[] #[x0, x1] h) fun x7 =>
    bnd (pBin Try.prog .geq 3 (.tmp 7) (.const (.int .i64 0)) x7.1 (.int .i64 0)) fun x8 =>
    K .normal (act 9 [(4, x8)]) x7.2 := kq_reg
theorem res28_0 : resOfFn env.P 28 .ret (act 9 [(4, x4)]) h = some (x4, h) := kq_res
/-- slices.Contains[[]bool,bool] -/
noncomputable def F28 (inv : Inv) (k : Nat) (x0 x1 : Value) (h : AH) : Option (Value × AH) :=
    bnd (inv (.func 47) #[] #[x0, x1] h) fun x7 =>
    bnd (pBin Try.prog .geq 3 (.tmp 7) (.const (.int .i64 0)) x7.1 (.int .i64 0)) fun x8 =>
    some (x8, x7.2)
theorem F28_eq : eFun env k inv 28 #[x0, x1] h = F28 inv k x0 x1 h := by
      refine (kq_fun (a := act 9 [(0, x0), (1, x1)]) (c := cp c28 1)).trans ?_
      unfold F28
      simp only [kq_seq c28 1, r28_0, kq_seq c28 3, r28_1, kq_ret c28 7, res28_0, reduceIte, reduceCtorEq, XE.exit.injEq, Nat.reduceEqDiff, Nat.reduceMul, Nat.reduceAdd] <;> kernel_rfl
theorem F28_call : eInv env (k + 1) (.func 28) #[] #[x0, x1] h = F28 (eInv env k) k x0 x1 h := kq_inv F28_eq
noncomputable def c29 : Code := codeOf Try.prog 29
theorem r29_0  : kCode env 29 false inv k (cp c29 2) (act 8 [(0, x0)]) h K =
    K .normal (act 8 [(0, x0)]) h := kq_reg
theorem r29_1  : kCode env 29 false inv k (cp c29 12) (act 8 [(0, x0)]) h K =
    bnd (pBin Try.prog .eql 46 (.tmp 3) (.const (.slice none 0 0)) x0 (.slice none 0 0)) fun x4 =>
    K .normal (act 8 [(0, x0), (4, x4)]) h := kq_reg
theorem b29_rlr  : kCode env 29 false inv k (cp c29 13) (act 8 [(0, x0), (4, x4)]) h K = brV x4 (kCode env 29 false inv k (cp c29 26) (act 8 [(0, x0), (4, x4)]) h K) (kCode env 29 false inv k (cp c29 27) (act 8 [(0, x0), (4, x4)]) h K) := kq_cond
theorem r29_2  : kCode env 29 false inv k (cp c29 52) (act 8 [(0, x0), (4, x4)]) h K =
    K .normal (act 8 [(2, (.slice none 0 0))]) h := kq_reg
theorem res29_0 : resOfFn env.P 29 .ret (act 8 [(2, x2)]) h = some (x2, h) := kq_res
theorem r29_3  : kCode env 29 false inv k (cp c29 14) (act 8 [(0, x0), (4, x4)]) h K =
    bnd (pBuildSlice Try.prog 46 0 #[] h) fun x5 =>
    bnd (pAppend Try.prog #[46, 46] x5.1 x0 x5.2) fun x7 =>
    K .normal (act 8 [(2, x7.1)]) x7.2 := kq_reg
/-- slices.Clone[[]int,int] -/
noncomputable def F29 (inv : Inv) (k : Nat) (x0 : Value) (h : AH) : Option (Value × AH) :=
    bnd (pBin Try.prog .eql 46 (.tmp 3) (.const (.slice none 0 0)) x0 (.slice none 0 0)) fun x4 =>
    brV x4
    (some ((.slice none 0 0), h))
    (bnd (pBuildSlice Try.prog 46 0 #[] h) fun x5 =>
    bnd (pAppend Try.prog #[46, 46] x5.1 x0 x5.2) fun x7 =>
    some (x7.1, x7.2))
theorem F29_eq : eFun env k inv 29 #[x0] h = F29 inv k x0 h := by
      refine (kq_fun (a := act 8 [(0, x0)]) (c := cp c29 1)).trans ?_
      unfold F29
      simp only [kq_seq c29 1, r29_0, kq_seq c29 3, kq_seq c29 6, r29_1, b29_rlr, kq_seq c29 26, r29_2, kq_ret c29 53, res29_0, kq_skip c29 27, kq_seq c29 7, r29_3, kq_ret c29 15, reduceIte, reduceCtorEq, XE.exit.injEq, Nat.reduceEqDiff, Nat.reduceMul, Nat.reduceAdd] <;> kernel_rfl
theorem F29_call : eInv env (k + 1) (.func 29) #[] #[x0] h = F29 (eInv env k) k x0 h := kq_inv F29_eq
noncomputable def c30 : Code := codeOf Try.prog 30
theorem r30_0  : kCode env 30 false inv k (cp c30 2) (act 43 [(0, x0)]) h K =
    K .normal (act 43 [(0, x0)]) h := kq_reg
noncomputable abbrev G30_1 {β : Type} (inv : Inv) (x0 : Value) (h : AH) (K : Value → AH → Option β) : Option β :=
    bnd (pLen Try.prog #[30] x0 h) fun x7 =>
    bnd (pBin Try.prog .lss 3 (.tmp 7) (.const (.int .i64 1)) x7 (.int .i64 1)) fun x8 =>
    bnd (gd (some x8) false h (some (x0, h))) fun x10 =>
    bnd (gd (some x8) false x10.2 (lt (pLen Try.prog #[30] x10.1 x10.2) x10.2)) fun x11 =>
    bnd (gd (some x8) false x11.2 (lt (pBin Try.prog .gtr 3 (.tmp 11) (.const (.int .i64 16)) x11.1 (.int .i64 16)) x11.2)) fun x12 =>
    bnd (pickV x8 (.bool true) x12.1) fun x13 =>
    K (x13) x12.2
theorem r30_1  : kCode env 30 false inv k (cp c30 12) (act 43 [(0, x0)]) h K =
    G30_1 inv x0 h fun y13 h => K .normal (act 43 [(0, x0), (13, y13)]) h := kq_reg
theorem b30_rlr  : kCode env 30 false inv k (cp c30 13) (act 43 [(0, x0), (13, x13)]) h K = brV x13 (kCode env 30 false inv k (cp c30 26) (act 43 [(0, x0), (13, x13)]) h K) (kCode env 30 false inv k (cp c30 27) (act 43 [(0, x0), (13, x13)]) h K) := kq_cond
theorem r30_2  : kCode env 30 false inv k (cp c30 52) (act 43 [(0, x0), (13, x13)]) h K =
    K .normal (act 43 [(2, (.int .i64 171))]) h := kq_reg
theorem res30_0 : resOfFn env.P 30 .ret (act 43 [(2, x2)]) h = some (x2, h) := kq_res
theorem r30_3  : kCode env 30 false inv k (cp c30 28) (act 43 [(0, x0), (13, x13)]) h K =
    bnd (pLen Try.prog #[30] x0 h) fun x15 =>
    K .normal (act 43 [(0, x0), (14, x0), (15, x15), (16, (.int .i64 0))]) h := kq_reg
theorem r30_4  : kCode env 30 false inv k (cp c30 232) (act 43 [(0, x0), (14, x14), (15, x15), (16, x16)]) h K =
    bnd (pBin Try.prog .lss 3 (.tmp 16) (.tmp 15) x16 x15) fun x17 =>
    K .normal (act 43 [(0, x0), (14, x14), (15, x15), (16, x16), (17, x17)]) h := kq_reg
theorem b30_lrllrlrr  : kCode env 30 false inv k (cp c30 466) (act 43 [(0, x0), (14, x14), (15, x15), (16, x16), (17, x17)]) h K = brV x17 (kCode env 30 false inv k (cp c30 932) (act 43 [(0, x0), (14, x14), (15, x15), (16, x16), (17, x17)]) h K) (kCode env 30 false inv k (cp c30 933) (act 43 [(0, x0), (14, x14), (15, x15), (16, x16), (17, x17)]) h K) := kq_cond
theorem r30_5  : kCode env 30 false inv k (cp c30 3736) (act 43 [(0, x0), (14, x14), (15, x15), (16, x16), (17, x17)]) h K =
    bnd (pIndexAddr Try.prog 30 x14 x16) fun x19 =>
    bnd (pLoad Try.prog 50 x19 h) fun x20 =>
    bnd (pAlloc Try.prog 50 h) fun x4 =>
    bnd (kSt (pStore Try.prog 50 x4.1 x20 x4.2)) fun u =>
    K .normal (act 43 [(0, x0), (3, x16), (4, x4.1), (14, x14), (15, x15), (16, x16)]) u.2 := kq_reg
theorem r30_6  : kCode env 30 false inv k (cp c30 14948) (act 43 [(0, x0), (3, x3), (4, x4), (14, x14), (15, x15), (16, x16)]) h K =
    bnd (pFieldAddr Try.prog 50 x4 0) fun x21 =>
    bnd (pLoad Try.prog 9 x21 h) fun x22 =>
    bnd (inv (.func 48) #[] #[x22] h) fun x23 =>
    K .normal (act 43 [(0, x0), (3, x3), (4, x4), (5, x23.1), (14, x14), (15, x15), (16, x16)]) x23.2 := kq_reg
theorem r30_7  : kCode env 30 false inv k (cp c30 29898) (act 43 [(0, x0), (3, x3), (4, x4), (5, x5), (14, x14), (15, x15), (16, x16)]) h K =
    bnd (pBin Try.prog .neq 34 (.tmp 24) (.const (.int .i64 0)) x5 (.int .i64 0)) fun x25 =>
    K .normal (act 43 [(0, x0), (3, x3), (4, x4), (5, x5), (14, x14), (15, x15), (16, x16), (25, x25)]) h := kq_reg
theorem b30_rrlrllrrllrlrr  : kCode env 30 false inv k (cp c30 29899) (act 43 [(0, x0), (3, x3), (4, x4), (5, x5), (14, x14), (15, x15), (16, x16), (25, x25)]) h K = brV x25 (kCode env 30 false inv k (cp c30 59798) (act 43 [(0, x0), (3, x3), (4, x4), (5, x5), (14, x14), (15, x15), (16, x16), (25, x25)]) h K) (kCode env 30 false inv k (cp c30 59799) (act 43 [(0, x0), (3, x3), (4, x4), (5, x5), (14, x14), (15, x15), (16, x16), (25, x25)]) h K) := kq_cond
theorem r30_8  : kCode env 30 false inv k (cp c30 119596) (act 43 [(0, x0), (3, x3), (4, x4), (5, x5), (14, x14), (15, x15), (16, x16), (25, x25)]) h K =
    K .normal (act 43 [(2, x5)]) h := kq_reg
noncomputable abbrev G30_9 {β : Type} (inv : Inv) (x0 x3 x4 x14 x15 x16 : Value) (h : AH) (K : Value → AH → Option β) : Option β :=
    bnd (pFieldAddr Try.prog 50 x4 1) fun x27 =>
    bnd (pLoad Try.prog 3 x27 h) fun x28 =>
    bnd (pBin Try.prog .lss 3 (.tmp 28) (.const (.int .i64 1)) x28 (.int .i64 1)) fun x29 =>
    bnd (gd (some x29) false h (lt (pFieldAddr Try.prog 50 x4 1) h)) fun x31 =>
    bnd (gd (some x29) false x31.2 (lt (pLoad Try.prog 3 x31.1 x31.2) x31.2)) fun x32 =>
    bnd (gd (some x29) false x32.2 (lt (pBin Try.prog .gtr 3 (.tmp 32) (.const (.int .i64 3)) x32.1 (.int .i64 3)) x32.2)) fun x33 =>
    bnd (pickV x29 (.bool true) x33.1) fun x34 =>
    bnd (gd (some x34) false x33.2 (some (x0, x33.2))) fun x36 =>
    bnd (gd (some x34) false x36.2 (some (x3, x36.2))) fun x37 =>
    bnd (gd (some x34) false x37.2 (lt (pSlice Try.prog 30 x36.1 none (some x37.1) none x37.2) x37.2)) fun x38 =>
    bnd (gd (some x34) false x38.2 (lt (pMakeFunc (.func 50) #[] #[x4]) x38.2)) fun x39 =>
    bnd (gd (some x34) false x39.2 (inv (.func 49) #[] #[x38.1, x39.1] x39.2)) fun x40 =>
    bnd (pickV x34 (.bool true) x40.1) fun x41 =>
    K (x41) x40.2
theorem r30_9  : kCode env 30 false inv k (cp c30 14950) (act 43 [(0, x0), (3, x3), (4, x4), (5, x5), (14, x14), (15, x15), (16, x16), (25, x25)]) h K =
    G30_9 inv x0 x3 x4 x14 x15 x16 h fun y41 h => K .normal (act 43 [(0, x0), (14, x14), (15, x15), (16, x16), (41, y41)]) h := kq_reg
theorem b30_rrrllrrllrlrr  : kCode env 30 false inv k (cp c30 14951) (act 43 [(0, x0), (14, x14), (15, x15), (16, x16), (41, x41)]) h K = brV x41 (kCode env 30 false inv k (cp c30 29902) (act 43 [(0, x0), (14, x14), (15, x15), (16, x16), (41, x41)]) h K) (kCode env 30 false inv k (cp c30 29903) (act 43 [(0, x0), (14, x14), (15, x15), (16, x16), (41, x41)]) h K) := kq_cond
theorem r30_10  : kCode env 30 false inv k (cp c30 59804) (act 43 [(0, x0), (14, x14), (15, x15), (16, x16), (41, x41)]) h K =
    K .normal (act 43 [(2, (.int .i64 171))]) h := kq_reg
theorem r30_11  : kCode env 30 false inv k (cp c30 935) (act 43 [(0, x0), (14, x14), (15, x15), (16, x16), (41, x41)]) h K =
    bnd (pBin Try.prog .add 3 (.tmp 16) (.const (.int .i64 1)) x16 (.int .i64 1)) fun x42 =>
    K .normal (act 43 [(0, x0), (14, x14), (15, x15), (16, x42)]) h := kq_reg
noncomputable def F30_lrlrr {β : Type} (inv : Inv) (k : Nat) : Nat → Value → Value → Value → Value → AH → (Value → Value → Value → Value → Value → AH → Option β) → (Value → AH → Option β) → Option β
  | 0, _, _, _, _, _, _, _ => none
  | j + 1, x0, x14, x15, x16, h, ke0, kr =>
    bnd (pBin Try.prog .lss 3 (.tmp 16) (.tmp 15) x16 x15) fun x17 =>
    brV x17
    (bnd (pIndexAddr Try.prog 30 x14 x16) fun x19 =>
    bnd (pLoad Try.prog 50 x19 h) fun x20 =>
    bnd (pAlloc Try.prog 50 h) fun x4 =>
    bnd (kSt (pStore Try.prog 50 x4.1 x20 x4.2)) fun u =>
    bnd (pFieldAddr Try.prog 50 x4.1 0) fun x21 =>
    bnd (pLoad Try.prog 9 x21 u.2) fun x22 =>
    bnd (inv (.func 48) #[] #[x22] u.2) fun x23 =>
    bnd (pBin Try.prog .neq 34 (.tmp 24) (.const (.int .i64 0)) x23.1 (.int .i64 0)) fun x25 =>
    brV x25
    (kr x23.1 x23.2)
    (G30_9 inv x0 x16 x4.1 x14 x15 x16 x23.2 fun y41 h =>
    brV y41
    (kr (.int .i64 171) h)
    (bnd (pBin Try.prog .add 3 (.tmp 16) (.const (.int .i64 1)) x16 (.int .i64 1)) fun x42 =>
    F30_lrlrr inv k j x0 x14 x15 x42 h ke0 kr)))
    (ke0 x0 x14 x15 x16 x17 h)
theorem F30_lrlrr_j (j : Nat) : kLoop (kCode env 30 false inv k (cp c30 116)) j (act 43 [(0, x0), (14, x14), (15, x15), (16, x16)]) h K = F30_lrlrr inv k j x0 x14 x15 x16 h (fun y0 y14 y15 y16 y17 h => K (.exit 0) (act 43 [(0, y0), (14, y14), (15, y15), (16, y16), (17, y17)]) h) (fun y2 h => K .ret (act 43 [(2, y2)]) h) := by
      induction j generalizing x0 x14 x15 x16 h with
      | zero => rfl
      | succ j ih =>
        unfold F30_lrlrr
        simp only [kLoop, kq_seq c30 116, r30_4, kq_seq c30 233, b30_lrllrlrr, kq_skip c30 932, kq_seq c30 467, kq_block c30 934 1, kq_seq c30 1868, r30_5, kq_seq c30 3737, kq_seq c30 7474, r30_6, kq_seq c30 14949, r30_7, b30_rrlrllrrllrlrr, kq_seq c30 59798, r30_8, kq_ret c30 119597, kq_skip c30 59799, kq_seq c30 7475, r30_9, b30_rrrllrrllrlrr, kq_seq c30 29902, r30_10, kq_ret c30 59805, kq_skip c30 29903, r30_11, kq_exit c30 933 0, ih, reduceIte, reduceCtorEq, XE.exit.injEq, Nat.reduceEqDiff, Nat.reduceMul, Nat.reduceAdd] <;> kernel_rfl
theorem F30_lrlrr_eq  : kCode env 30 false inv k (cp c30 58) (act 43 [(0, x0), (14, x14), (15, x15), (16, x16)]) h K = F30_lrlrr inv k k x0 x14 x15 x16 h (fun y0 y14 y15 y16 y17 h => K (.exit 0) (act 43 [(0, y0), (14, y14), (15, y15), (16, y16), (17, y17)]) h) (fun y2 h => K .ret (act 43 [(2, y2)]) h) := kq_loop (F30_lrlrr_j k)
theorem r30_12  : kCode env 30 false inv k (cp c30 30) (act 43 [(0, x0), (14, x14), (15, x15), (16, x16), (17, x17)]) h K =
    K .normal (act 43 [(2, (.int .i64 0))]) h := kq_reg
/-- shadowbook/schema.Check -/
noncomputable def F30 (inv : Inv) (k : Nat) (x0 : Value) (h : AH) : Option (Value × AH) :=
    G30_1 inv x0 h fun y13 h =>
    brV y13
    (some ((.int .i64 171), h))
    (bnd (pLen Try.prog #[30] x0 h) fun x15 =>
    F30_lrlrr inv k k x0 x0 x15 (.int .i64 0) h
    (fun y0 y14 y15 y16 y17 h_1 =>
    some ((.int .i64 0), h_1))
    (fun y2 h_2 =>
    some (y2, h_2)))
theorem F30_eq : eFun env k inv 30 #[x0] h = F30 inv k x0 h := by
      refine (kq_fun (a := act 43 [(0, x0)]) (c := cp c30 1)).trans ?_
      unfold F30
      simp only [kq_seq c30 1, r30_0, kq_seq c30 3, kq_seq c30 6, r30_1, b30_rlr, kq_seq c30 26, r30_2, kq_ret c30 53, res30_0, kq_skip c30 27, kq_seq c30 7, kq_seq c30 14, r30_3, kq_block c30 29 0, F30_lrlrr_eq, kq_seq c30 15, r30_12, kq_ret c30 31, reduceIte, reduceCtorEq, XE.exit.injEq, Nat.reduceEqDiff, Nat.reduceMul, Nat.reduceAdd] <;> kernel_rfl
theorem F30_call : eInv env (k + 1) (.func 30) #[] #[x0] h = F30 (eInv env k) k x0 h := kq_inv F30_eq
noncomputable def c31 : Code := codeOf Try.prog 31
theorem r31_0  : kCode env 31 false inv k (cp c31 2) (act 84 [(0, x0), (1, x1)]) h K =
    bnd (pBox Try.prog 48 x1 h) fun x3 =>
    K .normal (act 84 [(0, x0), (3, x3.1)]) x3.2 := kq_reg
noncomputable abbrev G31_1 {β : Type} (inv : Inv) (x0 x3 : Value) (h : AH) (K : Value → AH → Option β) : Option β :=
    bnd (pFieldAddr Try.prog 48 x3 0) fun x8 =>
    bnd (pLoad Try.prog 3 x8 h) fun x9 =>
    bnd (inv (.func 26) #[] #[x9] h) fun x10 =>
    bnd (gd (some x10.1) true x10.2 (lt (pFieldAddr Try.prog 48 x3 1) x10.2)) fun x12 =>
    bnd (gd (some x10.1) true x12.2 (lt (pLoad Try.prog 3 x12.1 x12.2) x12.2)) fun x13 =>
    bnd (gd (some x10.1) true x13.2 (lt (pBin Try.prog .lss 3 (.tmp 13) (.const (.int .i64 0)) x13.1 (.int .i64 0)) x13.2)) fun x14 =>
    bnd (gd (some x10.1) true x14.2 (some (x14.1, x14.2))) fun x15 =>
    bnd (gd (some x15.1) false x15.2 (lt (pFieldAddr Try.prog 48 x3 1) x15.2)) fun x16 =>
    bnd (gd (some x15.1) false x16.2 (lt (pLoad Try.prog 3 x16.1 x16.2) x16.2)) fun x17 =>
    bnd (gd (some x15.1) false x17.2 (some (x0, x17.2))) fun x18 =>
    bnd (gd (some x15.1) false x18.2 (lt (pLen Try.prog #[30] x18.1 x18.2) x18.2)) fun x19 =>
    bnd (gd (some x15.1) false x19.2 (lt (pBin Try.prog .geq 3 (.tmp 17) (.tmp 19) x17.1 x19.1) x19.2)) fun x20 =>
    bnd (gd (some x10.1) true x20.2 (lt (pickV x15.1 (.bool true) x20.1) x20.2)) fun x21 =>
    bnd (pickV x10.1 x21.1 (.bool false)) fun x22 =>
    bnd (gd (some x22) false x21.2 (lt (pFieldAddr Try.prog 48 x3 0) x21.2)) fun x24 =>
    bnd (gd (some x22) false x24.2 (lt (pLoad Try.prog 3 x24.1 x24.2) x24.2)) fun x25 =>
    bnd (gd (some x22) false x25.2 (inv (.func 26) #[] #[x25.1] x25.2)) fun x26 =>
    bnd (gd (some x22) false x26.2 (lt (pUn Try.prog .not x26.1) x26.2)) fun x27 =>
    bnd (gd (some x22) false x27.2 (some (x27.1, x27.2))) fun x28 =>
    bnd (gd (some x28.1) true x28.2 (lt (pFieldAddr Try.prog 48 x3 1) x28.2)) fun x29 =>
    bnd (gd (some x28.1) true x29.2 (lt (pLoad Try.prog 3 x29.1 x29.2) x29.2)) fun x30 =>
    bnd (gd (some x28.1) true x30.2 (lt (pBin Try.prog .neq 3 (.tmp 30) (.const (.int .i64 0)) x30.1 (.int .i64 0)) x30.2)) fun x31 =>
    bnd (gd (some x22) false x31.2 (lt (pickV x28.1 x31.1 (.bool false)) x31.2)) fun x32 =>
    bnd (pickV x22 (.bool true) x32.1) fun x33 =>
    K (x33) x32.2
theorem r31_1  : kCode env 31 false inv k (cp c31 12) (act 84 [(0, x0), (3, x3)]) h K =
    G31_1 inv x0 x3 h fun y33 h => K .normal (act 84 [(0, x0), (3, x3), (33, y33)]) h := kq_reg
theorem b31_rlr  : kCode env 31 false inv k (cp c31 13) (act 84 [(0, x0), (3, x3), (33, x33)]) h K = brV x33 (kCode env 31 false inv k (cp c31 26) (act 84 [(0, x0), (3, x3), (33, x33)]) h K) (kCode env 31 false inv k (cp c31 27) (act 84 [(0, x0), (3, x3), (33, x33)]) h K) := kq_cond
theorem r31_2  : kCode env 31 false inv k (cp c31 52) (act 84 [(0, x0), (3, x3), (33, x33)]) h K =
    K .normal (act 84 [(4, (.bool false))]) h := kq_reg
theorem res31_0 : resOfFn env.P 31 .ret (act 84 [(4, x4)]) h = some (x4, h) := kq_res
theorem r31_3  : kCode env 31 false inv k (cp c31 28) (act 84 [(0, x0), (3, x3), (33, x33)]) h K =
    bnd (inv (.func 45) #[] #[] h) fun x35 =>
    bnd (pFieldAddr Try.prog 48 x3 0) fun x36 =>
    bnd (pLoad Try.prog 3 x36 x35.2) fun x37 =>
    bnd (pLookup Try.prog 77 x35.1 x37 true x35.2) fun x38 =>
    bnd (pExtract x38 0) fun x39 =>
    bnd (pExtract x38 1) fun x40 =>
    chkK ((!true || !true || (sameO (pLoad Try.prog 3 x36 h) x37 && sameO (pLoad Try.prog 3 x36 x35.2) x37)) && true) <|
    K .normal (act 84 [(0, x0), (3, x3), (6, x40)]) x35.2 := kq_draw
theorem r31_4  : kCode env 31 false inv k (cp c31 58) (act 84 [(0, x0), (3, x3), (6, x6)]) h K =
    K .normal (act 84 [(0, x0), (3, x3), (41, x6)]) h := kq_reg
theorem b31_rrlrr  : kCode env 31 false inv k (cp c31 59) (act 84 [(0, x0), (3, x3), (41, x41)]) h K = brV x41 (kCode env 31 false inv k (cp c31 118) (act 84 [(0, x0), (3, x3), (41, x41)]) h K) (kCode env 31 false inv k (cp c31 119) (act 84 [(0, x0), (3, x3), (41, x41)]) h K) := kq_cond
noncomputable abbrev G31_5 {β : Type} (inv : Inv) (x0 x3 : Value) (h : AH) (K : Value → AH → Option β) : Option β :=
    bnd (pFieldAddr Try.prog 48 x3 2) fun x42 =>
    bnd (pLoad Try.prog 42 x42 h) fun x43 =>
    bnd (inv (.func 51) #[] #[x43] h) fun x44 =>
    bnd (pBin Try.prog .neq 34 (.tmp 44) (.const (.int .i64 0)) x44.1 (.int .i64 0)) fun x45 =>
    bnd (gd3 (some x45) false x44.2 (lt (pFieldAddr Try.prog 48 x3 2) x44.2)) fun x47 =>
    bnd (gd3 (some x45) false x47.2.1 (lt (pFieldAddr Try.prog 42 x47.1 0) x47.2.1)) fun x48 =>
    bnd (gd3 (some x45) false x48.2.1 (lt (pLoad Try.prog 3 x48.1 x48.2.1) x48.2.1)) fun x49 =>
    bnd (gd3 (some x45) false x49.2.1 (some (x0, x49.2.1))) fun x50 =>
    bnd (gd3 (some x45) false x50.2.1 (lt (pFieldAddr Try.prog 48 x3 1) x50.2.1)) fun x51 =>
    bnd (gd3 (some x45) false x51.2.1 (lt (pLoad Try.prog 3 x51.1 x51.2.1) x51.2.1)) fun x52 =>
    bnd (gd3 (some x45) false x52.2.1 (lt (pIndexAddr Try.prog 30 x50.1 x52.1) x52.2.1)) fun x53 =>
    bnd (gd3 (some x45) false x53.2.1 (lt (pFieldAddr Try.prog 50 x53.1 1) x53.2.1)) fun x54 =>
    bnd (gd3 (some x45) false x54.2.1 (lt (pLoad Try.prog 3 x54.1 x54.2.1) x54.2.1)) fun x55 =>
    bnd (gd3 (some x45) false x55.2.1 (lt (pBin Try.prog .neq 3 (.tmp 49) (.tmp 55) x49.1 x55.1) x55.2.1)) fun x56 =>
    bnd (pickV x45 (.bool true) x56.1) fun x57 =>
    K (x57) x56.2.1
theorem r31_5  : kCode env 31 false inv k (cp c31 236) (act 84 [(0, x0), (3, x3), (41, x41)]) h K =
    G31_5 inv x0 x3 h fun y57 h => K .normal (act 84 [(3, x3), (57, y57)]) h := kq_draw
theorem b31_rlrrlrr  : kCode env 31 false inv k (cp c31 237) (act 84 [(3, x3), (57, x57)]) h K = brV x57 (kCode env 31 false inv k (cp c31 474) (act 84 [(3, x3), (57, x57)]) h K) (kCode env 31 false inv k (cp c31 475) (act 84 [(3, x3), (57, x57)]) h K) := kq_cond
theorem r31_6  : kCode env 31 false inv k (cp c31 948) (act 84 [(3, x3), (57, x57)]) h K =
    K .normal (act 84 [(4, (.bool false))]) h := kq_reg
theorem r31_7  : kCode env 31 false inv k (cp c31 238) (act 84 [(0, x0), (3, x3), (41, x41)]) h K =
    bnd (pFieldAddr Try.prog 48 x3 2) fun x58 =>
    bnd (pLoad Try.prog 42 x58 h) fun x59 =>
    bnd (pBuild Try.prog 42 #[]) fun x60 =>
    bnd (pBin Try.prog .neq 42 (.tmp 59) (.tmp 60) x59 x60) fun x61 =>
    K .normal (act 84 [(3, x3), (61, x61)]) h := kq_reg
theorem b31_rrrrlrr  : kCode env 31 false inv k (cp c31 239) (act 84 [(3, x3), (61, x61)]) h K = brV x61 (kCode env 31 false inv k (cp c31 478) (act 84 [(3, x3), (61, x61)]) h K) (kCode env 31 false inv k (cp c31 479) (act 84 [(3, x3), (61, x61)]) h K) := kq_cond
theorem r31_8  : kCode env 31 false inv k (cp c31 956) (act 84 [(3, x3), (61, x61)]) h K =
    K .normal (act 84 [(4, (.bool false))]) h := kq_reg
noncomputable def F31_rrlrr {β : Type} (inv : Inv) (k : Nat) (x0 x3 x41 : Value) (h : AH) (kn : (Value → Value → Value → AH → Option β)) (kr : (Value → AH → Option β)) : Option β :=
    brV x41
    (G31_5 inv x0 x3 h fun y57 h =>
    brV y57
    (kr (.bool false) h)
    (kn x3 y57 unk h))
    (bnd (pFieldAddr Try.prog 48 x3 2) fun x58 =>
    bnd (pLoad Try.prog 42 x58 h) fun x59 =>
    bnd (pBuild Try.prog 42 #[]) fun x60 =>
    bnd (pBin Try.prog .neq 42 (.tmp 59) (.tmp 60) x59 x60) fun x61 =>
    brV x61
    (kr (.bool false) h)
    (kn x3 unk x61 h))
theorem F31_rrlrr_eq  : kCode env 31 false inv k (cp c31 59) (act 84 [(0, x0), (3, x3), (41, x41)]) h K = F31_rrlrr inv k x0 x3 x41 h (fun y3 y57 y61 h => K .normal (act 84 [(3, y3), (57, y57), (61, y61)]) h) (fun y4 h => K .ret (act 84 [(4, y4)]) h) := by
      unfold F31_rrlrr
      simp only [b31_rrlrr, kq_seq c31 118, r31_5, b31_rlrrlrr, kq_seq c31 474, r31_6, kq_ret c31 949, kq_skip c31 475, kq_seq c31 119, r31_7, b31_rrrrlrr, kq_seq c31 478, r31_8, kq_ret c31 957, kq_skip c31 479, reduceIte, reduceCtorEq, XE.exit.injEq, Nat.reduceEqDiff, Nat.reduceMul, Nat.reduceAdd] <;> kernel_rfl
theorem r31_9  : kCode env 31 false inv k (cp c31 60) (act 84 [(3, x3), (57, x57), (61, x61)]) h K =
    bnd (pFieldAddr Try.prog 48 x3 3) fun x62 =>
    bnd (pLoad Try.prog 46 x62 h) fun x63 =>
    bnd (pLen Try.prog #[46] x63 h) fun x64 =>
    K .normal (act 84 [(3, x3), (7, x64)]) h := kq_reg
theorem r31_10  : kCode env 31 false inv k (cp c31 122) (act 84 [(3, x3), (7, x7)]) h K =
    bnd (pFieldAddr Try.prog 48 x3 0) fun x65 =>
    bnd (pLoad Try.prog 3 x65 h) fun x66 =>
    K .normal (act 84 [(7, x7), (66, x66)]) h := kq_reg
theorem r31_11  : kCode env 31 false inv k (cp c31 984) (act 84 [(7, x7), (66, x66)]) h K =
    bnd (pBin Try.prog .eql 3 (.tmp 66) (.const (.int .i64 1)) x66 (.int .i64 1)) fun x68 =>
    K .normal (act 84 [(7, x7), (66, x66), (67, x68)]) h := kq_reg
theorem b31_rllrrlrrr  : kCode env 31 false inv k (cp c31 985) (act 84 [(7, x7), (66, x66), (67, x67)]) h K = brV x67 (kCode env 31 false inv k (cp c31 1970) (act 84 [(7, x7), (66, x66), (67, x67)]) h K) (kCode env 31 false inv k (cp c31 1971) (act 84 [(7, x7), (66, x66), (67, x67)]) h K) := kq_cond
theorem r31_12  : kCode env 31 false inv k (cp c31 3942) (act 84 [(7, x7), (66, x66), (67, x67)]) h K =
    bnd (pBin Try.prog .eql 3 (.tmp 66) (.const (.int .i64 2)) x66 (.int .i64 2)) fun x69 =>
    K .normal (act 84 [(7, x7), (66, x66), (67, x69)]) h := kq_reg
theorem b31_rrrllrrlrrr  : kCode env 31 false inv k (cp c31 3943) (act 84 [(7, x7), (66, x66), (67, x67)]) h K = brV x67 (kCode env 31 false inv k (cp c31 7886) (act 84 [(7, x7), (66, x66), (67, x67)]) h K) (kCode env 31 false inv k (cp c31 7887) (act 84 [(7, x7), (66, x66), (67, x67)]) h K) := kq_cond
theorem r31_13  : kCode env 31 false inv k (cp c31 15774) (act 84 [(7, x7), (66, x66), (67, x67)]) h K =
    bnd (pBin Try.prog .eql 3 (.tmp 66) (.const (.int .i64 3)) x66 (.int .i64 3)) fun x70 =>
    K .normal (act 84 [(7, x7), (66, x66), (67, x70)]) h := kq_reg
theorem b31_rrrrrllrrlrrr  : kCode env 31 false inv k (cp c31 15775) (act 84 [(7, x7), (66, x66), (67, x67)]) h K = brV x67 (kCode env 31 false inv k (cp c31 31550) (act 84 [(7, x7), (66, x66), (67, x67)]) h K) (kCode env 31 false inv k (cp c31 31551) (act 84 [(7, x7), (66, x66), (67, x67)]) h K) := kq_cond
theorem r31_14  : kCode env 31 false inv k (cp c31 63102) (act 84 [(7, x7), (66, x66), (67, x67)]) h K =
    bnd (pBin Try.prog .eql 3 (.tmp 66) (.const (.int .i64 4)) x66 (.int .i64 4)) fun x71 =>
    K .normal (act 84 [(7, x7), (66, x66), (67, x71)]) h := kq_reg
theorem b31_rrrrrrrllrrlrrr  : kCode env 31 false inv k (cp c31 63103) (act 84 [(7, x7), (66, x66), (67, x67)]) h K = brV x67 (kCode env 31 false inv k (cp c31 126206) (act 84 [(7, x7), (66, x66), (67, x67)]) h K) (kCode env 31 false inv k (cp c31 126207) (act 84 [(7, x7), (66, x66), (67, x67)]) h K) := kq_cond
theorem r31_15  : kCode env 31 false inv k (cp c31 126207) (act 84 [(7, x7), (66, x66), (67, x67)]) h K =
    bnd (pBin Try.prog .eql 3 (.tmp 66) (.const (.int .i64 5)) x66 (.int .i64 5)) fun x72 =>
    K .normal (act 84 [(7, x7), (66, x66), (67, x72)]) h := kq_reg
noncomputable def F31_rllrrlrrr {β : Type} (inv : Inv) (k : Nat) (x7 x66 x67 : Value) (h : AH) (kn : (Value → Value → Value → AH → Option β)) : Option β :=
    brV x67
    (kn x7 x66 x67 h)
    (bnd (pBin Try.prog .eql 3 (.tmp 66) (.const (.int .i64 2)) x66 (.int .i64 2)) fun x69 =>
    brV x69
    (kn x7 x66 x69 h)
    (bnd (pBin Try.prog .eql 3 (.tmp 66) (.const (.int .i64 3)) x66 (.int .i64 3)) fun x70 =>
    brV x70
    (kn x7 x66 x70 h)
    (bnd (pBin Try.prog .eql 3 (.tmp 66) (.const (.int .i64 4)) x66 (.int .i64 4)) fun x71 =>
    brV x71
    (kn x7 x66 x71 h)
    (bnd (pBin Try.prog .eql 3 (.tmp 66) (.const (.int .i64 5)) x66 (.int .i64 5)) fun x72 =>
    kn x7 x66 x72 h))))
theorem F31_rllrrlrrr_eq  : kCode env 31 false inv k (cp c31 985) (act 84 [(7, x7), (66, x66), (67, x67)]) h K = F31_rllrrlrrr inv k x7 x66 x67 h (fun y7 y66 y67 h => K .normal (act 84 [(7, y7), (66, y66), (67, y67)]) h) := by
      unfold F31_rllrrlrrr
      simp only [b31_rllrrlrrr, kq_skip c31 1970, kq_seq c31 1971, r31_12, b31_rrrllrrlrrr, kq_skip c31 7886, kq_seq c31 7887, r31_13, b31_rrrrrllrrlrrr, kq_skip c31 31550, kq_seq c31 31551, r31_14, b31_rrrrrrrllrrlrrr, kq_skip c31 126206, r31_15, reduceIte, reduceCtorEq, XE.exit.injEq, Nat.reduceEqDiff, Nat.reduceMul, Nat.reduceAdd] <;> kernel_rfl
theorem b31_rlrrlrrr  : kCode env 31 false inv k (cp c31 493) (act 84 [(7, x7), (66, x66), (67, x67)]) h K = brV x67 (kCode env 31 false inv k (cp c31 986) (act 84 [(7, x7), (66, x66), (67, x67)]) h K) (kCode env 31 false inv k (cp c31 987) (act 84 [(7, x7), (66, x66), (67, x67)]) h K) := kq_cond
theorem r31_16  : kCode env 31 false inv k (cp c31 1972) (act 84 [(7, x7), (66, x66), (67, x67)]) h K =
    bnd (pBin Try.prog .eql 3 (.tmp 73) (.const (.int .i64 0)) x7 (.int .i64 0)) fun x74 =>
    K .normal (act 84 [(4, x74)]) h := kq_reg
theorem r31_17  : kCode env 31 false inv k (cp c31 3948) (act 84 [(7, x7), (66, x66), (67, x67)]) h K =
    bnd (pBin Try.prog .eql 3 (.tmp 66) (.const (.int .i64 6)) x66 (.int .i64 6)) fun x76 =>
    K .normal (act 84 [(7, x7), (66, x66), (75, x76)]) h := kq_reg
theorem b31_rlrrlrrlrrr  : kCode env 31 false inv k (cp c31 3949) (act 84 [(7, x7), (66, x66), (75, x75)]) h K = brV x75 (kCode env 31 false inv k (cp c31 7898) (act 84 [(7, x7), (66, x66), (75, x75)]) h K) (kCode env 31 false inv k (cp c31 7899) (act 84 [(7, x7), (66, x66), (75, x75)]) h K) := kq_cond
theorem r31_18  : kCode env 31 false inv k (cp c31 7899) (act 84 [(7, x7), (66, x66), (75, x75)]) h K =
    bnd (pBin Try.prog .eql 3 (.tmp 66) (.const (.int .i64 7)) x66 (.int .i64 7)) fun x77 =>
    K .normal (act 84 [(7, x7), (66, x66), (75, x77)]) h := kq_reg
noncomputable def F31_rlrrlrrlrrr {β : Type} (inv : Inv) (k : Nat) (x7 x66 x75 : Value) (h : AH) (kn : (Value → Value → Value → AH → Option β)) : Option β :=
    brV x75
    (kn x7 x66 x75 h)
    (bnd (pBin Try.prog .eql 3 (.tmp 66) (.const (.int .i64 7)) x66 (.int .i64 7)) fun x77 =>
    kn x7 x66 x77 h)
theorem F31_rlrrlrrlrrr_eq  : kCode env 31 false inv k (cp c31 3949) (act 84 [(7, x7), (66, x66), (75, x75)]) h K = F31_rlrrlrrlrrr inv k x7 x66 x75 h (fun y7 y66 y75 h => K .normal (act 84 [(7, y7), (66, y66), (75, y75)]) h) := by
      unfold F31_rlrrlrrlrrr
      simp only [b31_rlrrlrrlrrr, kq_skip c31 7898, r31_18, reduceIte, reduceCtorEq, XE.exit.injEq, Nat.reduceEqDiff, Nat.reduceMul, Nat.reduceAdd] <;> kernel_rfl
theorem b31_rrrlrrlrrr  : kCode env 31 false inv k (cp c31 1975) (act 84 [(7, x7), (66, x66), (75, x75)]) h K = brV x75 (kCode env 31 false inv k (cp c31 3950) (act 84 [(7, x7), (66, x66), (75, x75)]) h K) (kCode env 31 false inv k (cp c31 3951) (act 84 [(7, x7), (66, x66), (75, x75)]) h K) := kq_cond
theorem r31_19  : kCode env 31 false inv k (cp c31 7900) (act 84 [(7, x7), (66, x66), (75, x75)]) h K =
    bnd (pBin Try.prog .gtr 3 (.tmp 78) (.const (.int .i64 0)) x7 (.int .i64 0)) fun x79 =>
    K .normal (act 84 [(4, x79)]) h := kq_reg
theorem r31_20  : kCode env 31 false inv k (cp c31 7902) (act 84 [(7, x7), (66, x66), (75, x75)]) h K =
    bnd (pBin Try.prog .eql 3 (.tmp 66) (.const (.int .i64 8)) x66 (.int .i64 8)) fun x81 =>
    K .normal (act 84 [(7, x7), (80, x81)]) h := kq_reg
theorem b31_rrrrrlrrlrrr  : kCode env 31 false inv k (cp c31 7903) (act 84 [(7, x7), (80, x80)]) h K = brV x80 (kCode env 31 false inv k (cp c31 15806) (act 84 [(7, x7), (80, x80)]) h K) (kCode env 31 false inv k (cp c31 15807) (act 84 [(7, x7), (80, x80)]) h K) := kq_cond
theorem r31_21  : kCode env 31 false inv k (cp c31 31612) (act 84 [(7, x7), (80, x80)]) h K =
    bnd (pBin Try.prog .eql 3 (.tmp 82) (.const (.int .i64 1)) x7 (.int .i64 1)) fun x83 =>
    K .normal (act 84 [(4, x83)]) h := kq_reg
theorem r31_22  : kCode env 31 false inv k (cp c31 62) (act 84 [(7, x7), (80, x80)]) h K =
    K .normal (act 84 [(4, (.bool false))]) h := kq_reg
/-- shadowbook/pred.node -/
noncomputable def F31 (inv : Inv) (k : Nat) (x0 x1 : Value) (h : AH) : Option (Value × AH) :=
    bnd (pBox Try.prog 48 x1 h) fun x3 =>
    G31_1 inv x0 x3.1 x3.2 fun y33 h =>
    brV y33
    (some ((.bool false), h))
    (bnd (inv (.func 45) #[] #[] h) fun x35 =>
    bnd (pFieldAddr Try.prog 48 x3.1 0) fun x36 =>
    bnd (pLoad Try.prog 3 x36 x35.2) fun x37 =>
    bnd (pLookup Try.prog 77 x35.1 x37 true x35.2) fun x38 =>
    bnd (pExtract x38 0) fun x39 =>
    bnd (pExtract x38 1) fun x40 =>
    chkK ((!true || !true || (sameO (pLoad Try.prog 3 x36 h) x37 && sameO (pLoad Try.prog 3 x36 x35.2) x37)) && true) <|
    F31_rrlrr inv k x0 x3.1 x40 x35.2
    (fun y3 y57 y61 h_1 =>
    bnd (pFieldAddr Try.prog 48 y3 3) fun x62 =>
    bnd (pLoad Try.prog 46 x62 h_1) fun x63 =>
    bnd (pLen Try.prog #[46] x63 h_1) fun x64 =>
    bnd (pFieldAddr Try.prog 48 y3 0) fun x65 =>
    bnd (pLoad Try.prog 3 x65 h_1) fun x66 =>
    bnd (pBin Try.prog .eql 3 (.tmp 66) (.const (.int .i64 1)) x66 (.int .i64 1)) fun x68 =>
    F31_rllrrlrrr inv k x64 x66 x68 h_1
    (fun y7 y66 y67 h_2 =>
    brV y67
    (bnd (pBin Try.prog .eql 3 (.tmp 73) (.const (.int .i64 0)) y7 (.int .i64 0)) fun x74 =>
    some (x74, h_2))
    (bnd (pBin Try.prog .eql 3 (.tmp 66) (.const (.int .i64 6)) y66 (.int .i64 6)) fun x76 =>
    F31_rlrrlrrlrrr inv k y7 y66 x76 h_2
    (fun y7_3 y66_4 y75 h_5 =>
    brV y75
    (bnd (pBin Try.prog .gtr 3 (.tmp 78) (.const (.int .i64 0)) y7_3 (.int .i64 0)) fun x79 =>
    some (x79, h_5))
    (bnd (pBin Try.prog .eql 3 (.tmp 66) (.const (.int .i64 8)) y66_4 (.int .i64 8)) fun x81 =>
    brV x81
    (bnd (pBin Try.prog .eql 3 (.tmp 82) (.const (.int .i64 1)) y7_3 (.int .i64 1)) fun x83 =>
    some (x83, h_5))
    (some ((.bool false), h_5)))))))
    (fun y4 h_6 =>
    some (y4, h_6)))
theorem F31_eq : eFun env k inv 31 #[x0, x1] h = F31 inv k x0 x1 h := by
      refine (kq_fun (a := act 84 [(0, x0), (1, x1)]) (c := cp c31 1)).trans ?_
      unfold F31
      simp only [kq_seq c31 1, r31_0, kq_seq c31 3, kq_seq c31 6, r31_1, b31_rlr, kq_seq c31 26, r31_2, kq_ret c31 53, res31_0, kq_skip c31 27, kq_seq c31 7, kq_seq c31 14, r31_3, kq_seq c31 29, r31_4, F31_rrlrr_eq, kq_seq c31 15, kq_seq c31 30, r31_9, kq_seq c31 61, r31_10, kq_block c31 123 0, kq_seq c31 246, kq_seq c31 492, r31_11, F31_rllrrlrrr_eq, b31_rlrrlrrr, kq_seq c31 986, r31_16, kq_ret c31 1973, kq_seq c31 987, kq_seq c31 1974, r31_17, F31_rlrrlrrlrrr_eq, b31_rrrlrrlrrr, kq_seq c31 3950, r31_19, kq_ret c31 7901, kq_seq c31 3951, r31_20, b31_rrrrrlrrlrrr, kq_seq c31 15806, r31_21, kq_ret c31 31613, kq_skip c31 15807, kq_seq c31 31, r31_22, kq_ret c31 63, reduceIte, reduceCtorEq, XE.exit.injEq, Nat.reduceEqDiff, Nat.reduceMul, Nat.reduceAdd] <;> kernel_rfl
theorem F31_call : eInv env (k + 1) (.func 31) #[] #[x0, x1] h = F31 (eInv env k) k x0 x1 h := kq_inv F31_eq
noncomputable def c32 : Code := codeOf Try.prog 32
theorem r32_0  : kCode env 32 false inv k (cp c32 2) (act 9 [(0, x0), (1, x1)]) h K =
    K .normal (act 9 [(0, x0), (1, x1)]) h := kq_reg
theorem r32_1  : kCode env 32 false inv k (cp c32 6) (act 9 [(0, x0), (1, x1)]) h K =
    bnd (inv (.func 52) #[] #[x0, x1] h) fun x7 =>
    bnd (pBin Try.prog .geq 3 (.tmp 7) (.const (.int .i64 0)) x7.1 (.int .i64 0)) fun x8 =>
    K .normal (act 9 [(4, x8)]) x7.2 := kq_reg
theorem res32_0 : resOfFn env.P 32 .ret (act 9 [(4, x4)]) h = some (x4, h) := kq_res
/-- slices.ContainsFunc[[]int,int] -/
noncomputable def F32 (inv : Inv) (k : Nat) (x0 x1 : Value) (h : AH) : Option (Value × AH) :=
    bnd (inv (.func 52) #[] #[x0, x1] h) fun x7 =>
    bnd (pBin Try.prog .geq 3 (.tmp 7) (.const (.int .i64 0)) x7.1 (.int .i64 0)) fun x8 =>
    some (x8, x7.2)
theorem F32_eq : eFun env k inv 32 #[x0, x1] h = F32 inv k x0 x1 h := by
      refine (kq_fun (a := act 9 [(0, x0), (1, x1)]) (c := cp c32 1)).trans ?_
      unfold F32
      simp only [kq_seq c32 1, r32_0, kq_seq c32 3, r32_1, kq_ret c32 7, res32_0, reduceIte, reduceCtorEq, XE.exit.injEq, Nat.reduceEqDiff, Nat.reduceMul, Nat.reduceAdd] <;> kernel_rfl
theorem F32_call : eInv env (k + 1) (.func 32) #[] #[x0, x1] h = F32 (eInv env k) k x0 x1 h := kq_inv F32_eq
noncomputable def c33 : Code := codeOf Try.prog 33
theorem r33_0  : kCode env 33 false inv k (cp c33 2) (act 5 [(0, x0)]) h K =
    K .normal (act 5 [(0, x0)]) h := kq_reg
theorem r33_1  : kCode env 33 false inv k (cp c33 6) (act 5 [(0, x0)]) h K =
    bnd (pBin Try.prog .neq 3 (.tmp 3) (.const (.int .i64 1)) x0 (.int .i64 1)) fun x4 =>
    K .normal (act 5 [(2, x4)]) h := kq_reg
theorem res33_0 : resOfFn env.P 33 .ret (act 5 [(2, x2)]) h = some (x2, h) := kq_res
/-- shadowbook/pred.Check$1 -/
noncomputable def F33 (inv : Inv) (k : Nat) (x0 : Value) (h : AH) : Option (Value × AH) :=
    bnd (pBin Try.prog .neq 3 (.tmp 3) (.const (.int .i64 1)) x0 (.int .i64 1)) fun x4 =>
    some (x4, h)
theorem F33_eq : eFun env k inv 33 #[x0] h = F33 inv k x0 h := by
      refine (kq_fun (a := act 5 [(0, x0)]) (c := cp c33 1)).trans ?_
      unfold F33
      simp only [kq_seq c33 1, r33_0, kq_seq c33 3, r33_1, kq_ret c33 7, res33_0, reduceIte, reduceCtorEq, XE.exit.injEq, Nat.reduceEqDiff, Nat.reduceMul, Nat.reduceAdd] <;> kernel_rfl
theorem F33_call : eInv env (k + 1) (.func 33) #[] #[x0] h = F33 (eInv env k) k x0 h := kq_inv F33_eq
noncomputable def c34 : Code := codeOf Try.prog 34
theorem r34_0  : kCode env 34 false inv k (cp c34 2) (act 56 [(0, x0)]) h K =
    K .normal (act 56 [(0, x0)]) h := kq_reg
noncomputable abbrev G34_1 {β : Type} (inv : Inv) (x0 : Value) (h : AH) (K : Value → AH → Option β) : Option β :=
    bnd (pLen Try.prog #[30] x0 h) fun x6 =>
    bnd (pBin Try.prog .lss 3 (.tmp 6) (.const (.int .i64 1)) x6 (.int .i64 1)) fun x7 =>
    bnd (gd (some x7) false h (some (x0, h))) fun x9 =>
    bnd (gd (some x7) false x9.2 (lt (pLen Try.prog #[30] x9.1 x9.2) x9.2)) fun x10 =>
    bnd (gd (some x7) false x10.2 (lt (pBin Try.prog .gtr 3 (.tmp 10) (.const (.int .i64 16)) x10.1 (.int .i64 16)) x10.2)) fun x11 =>
    bnd (pickV x7 (.bool true) x11.1) fun x12 =>
    K (x12) x11.2
theorem r34_1  : kCode env 34 false inv k (cp c34 12) (act 56 [(0, x0)]) h K =
    G34_1 inv x0 h fun y12 h => K .normal (act 56 [(0, x0), (12, y12)]) h := kq_reg
theorem b34_rlr  : kCode env 34 false inv k (cp c34 13) (act 56 [(0, x0), (12, x12)]) h K = brV x12 (kCode env 34 false inv k (cp c34 26) (act 56 [(0, x0), (12, x12)]) h K) (kCode env 34 false inv k (cp c34 27) (act 56 [(0, x0), (12, x12)]) h K) := kq_cond
theorem r34_2  : kCode env 34 false inv k (cp c34 52) (act 56 [(0, x0), (12, x12)]) h K =
    K .normal (act 56 [(2, (.int .i64 171))]) h := kq_reg
theorem res34_0 : resOfFn env.P 34 .ret (act 56 [(2, x2)]) h = some (x2, h) := kq_res
theorem r34_3  : kCode env 34 false inv k (cp c34 28) (act 56 [(0, x0), (12, x12)]) h K =
    K .normal (act 56 [(0, x0), (3, (.int .i64 0))]) h := kq_reg
theorem r34_4  : kCode env 34 false inv k (cp c34 464) (act 56 [(0, x0), (3, x3)]) h K =
    bnd (pLen Try.prog #[30] x0 h) fun x15 =>
    bnd (pBin Try.prog .lss 3 (.tmp 13) (.tmp 15) x3 x15) fun x16 =>
    K .normal (act 56 [(0, x0), (3, x3), (16, x16)]) h := kq_reg
theorem b34_rlllrlrr  : kCode env 34 false inv k (cp c34 465) (act 56 [(0, x0), (3, x3), (16, x16)]) h K = brV x16 (kCode env 34 false inv k (cp c34 930) (act 56 [(0, x0), (3, x3), (16, x16)]) h K) (kCode env 34 false inv k (cp c34 931) (act 56 [(0, x0), (3, x3), (16, x16)]) h K) := kq_cond
theorem r34_6  : kCode env 34 false inv k (cp c34 3728) (act 56 [(0, x0), (3, x3), (16, x16)]) h K =
    bnd (pIndexAddr Try.prog 30 x0 x3) fun x21 =>
    bnd (pFieldAddr Try.prog 50 x21 0) fun x22 =>
    bnd (pLoad Try.prog 9 x22 h) fun x23 =>
    bnd (inv (.func 53) #[] #[x23] h) fun x24 =>
    bnd (pBin Try.prog .neq 34 (.tmp 24) (.const (.int .i64 0)) x24.1 (.int .i64 0)) fun x25 =>
    K .normal (act 56 [(0, x0), (3, x3), (25, x25)]) x24.2 := kq_reg
theorem b34_rlllrllrlrr  : kCode env 34 false inv k (cp c34 3729) (act 56 [(0, x0), (3, x3), (25, x25)]) h K = brV x25 (kCode env 34 false inv k (cp c34 7458) (act 56 [(0, x0), (3, x3), (25, x25)]) h K) (kCode env 34 false inv k (cp c34 7459) (act 56 [(0, x0), (3, x3), (25, x25)]) h K) := kq_cond
theorem r34_7  : kCode env 34 false inv k (cp c34 14916) (act 56 [(0, x0), (3, x3), (25, x25)]) h K =
    K .normal (act 56 [(2, (.int .i64 170))]) h := kq_reg
noncomputable abbrev G34_8 {β : Type} (inv : Inv) (x0 x3 : Value) (h : AH) (K : Value → AH → Option β) : Option β :=
    bnd (pIndexAddr Try.prog 30 x0 x3) fun x28 =>
    bnd (pFieldAddr Try.prog 50 x28 1) fun x29 =>
    bnd (pLoad Try.prog 3 x29 h) fun x30 =>
    bnd (pBin Try.prog .lss 3 (.tmp 30) (.const (.int .i64 1)) x30 (.int .i64 1)) fun x31 =>
    bnd (gd (some x31) false h (some (x0, h))) fun x33 =>
    bnd (gd (some x31) false x33.2 (some (x3, x33.2))) fun x34 =>
    bnd (gd (some x31) false x34.2 (lt (pIndexAddr Try.prog 30 x33.1 x34.1) x34.2)) fun x35 =>
    bnd (gd (some x31) false x35.2 (lt (pFieldAddr Try.prog 50 x35.1 1) x35.2)) fun x36 =>
    bnd (gd (some x31) false x36.2 (lt (pLoad Try.prog 3 x36.1 x36.2) x36.2)) fun x37 =>
    bnd (gd (some x31) false x37.2 (lt (pBin Try.prog .gtr 3 (.tmp 37) (.const (.int .i64 3)) x37.1 (.int .i64 3)) x37.2)) fun x38 =>
    bnd (pickV x31 (.bool true) x38.1) fun x39 =>
    K (x39) x38.2
theorem r34_8  : kCode env 34 false inv k (cp c34 7460) (act 56 [(0, x0), (3, x3), (25, x25)]) h K =
    G34_8 inv x0 x3 h fun y39 h => K .normal (act 56 [(0, x0), (3, x3), (39, y39)]) h := kq_reg
theorem b34_rlrllrllrlrr  : kCode env 34 false inv k (cp c34 7461) (act 56 [(0, x0), (3, x3), (39, x39)]) h K = brV x39 (kCode env 34 false inv k (cp c34 14922) (act 56 [(0, x0), (3, x3), (39, x39)]) h K) (kCode env 34 false inv k (cp c34 14923) (act 56 [(0, x0), (3, x3), (39, x39)]) h K) := kq_cond
theorem r34_9  : kCode env 34 false inv k (cp c34 29844) (act 56 [(0, x0), (3, x3), (39, x39)]) h K =
    K .normal (act 56 [(2, (.int .i64 171))]) h := kq_reg
theorem r34_10  : kCode env 34 false inv k (cp c34 7462) (act 56 [(0, x0), (3, x3), (39, x39)]) h K =
    K .normal (act 56 [(0, x0), (3, x3), (4, (.int .i64 0))]) h := kq_reg
theorem r34_11  : kCode env 34 false inv k (cp c34 119408) (act 56 [(0, x0), (3, x3), (4, x4)]) h K =
    bnd (pBin Try.prog .lss 3 (.tmp 40) (.tmp 41) x4 x3) fun x42 =>
    K .normal (act 56 [(0, x0), (3, x3), (4, x4), (42, x42)]) h := kq_reg
theorem b34_rlllrrrllrllrlrr  : kCode env 34 false inv k (cp c34 119409) (act 56 [(0, x0), (3, x3), (4, x4), (42, x42)]) h K = brV x42 (kCode env 34 false inv k (cp c34 238818) (act 56 [(0, x0), (3, x3), (4, x4), (42, x42)]) h K) (kCode env 34 false inv k (cp c34 238819) (act 56 [(0, x0), (3, x3), (4, x4), (42, x42)]) h K) := kq_cond
theorem r34_13  : kCode env 34 false inv k (cp c34 477640) (act 56 [(0, x0), (3, x3), (4, x4), (42, x42)]) h K =
    bnd (pIndexAddr Try.prog 30 x0 x4) fun x47 =>
    bnd (pFieldAddr Try.prog 50 x47 0) fun x48 =>
    bnd (pLoad Try.prog 9 x48 h) fun x49 =>
    bnd (pIndexAddr Try.prog 30 x0 x3) fun x52 =>
    bnd (pFieldAddr Try.prog 50 x52 0) fun x53 =>
    bnd (pLoad Try.prog 9 x53 h) fun x54 =>
    bnd (pBin Try.prog .eql 9 (.tmp 49) (.tmp 54) x49 x54) fun x55 =>
    K .normal (act 56 [(0, x0), (3, x3), (4, x4), (55, x55)]) h := kq_draw
theorem b34_rllrllrrrllrllrlrr  : kCode env 34 false inv k (cp c34 477641) (act 56 [(0, x0), (3, x3), (4, x4), (55, x55)]) h K = brV x55 (kCode env 34 false inv k (cp c34 955282) (act 56 [(0, x0), (3, x3), (4, x4), (55, x55)]) h K) (kCode env 34 false inv k (cp c34 955283) (act 56 [(0, x0), (3, x3), (4, x4), (55, x55)]) h K) := kq_cond
theorem r34_14  : kCode env 34 false inv k (cp c34 1910564) (act 56 [(0, x0), (3, x3), (4, x4), (55, x55)]) h K =
    K .normal (act 56 [(2, (.int .i64 171))]) h := kq_reg
theorem r34_12  : kCode env 34 false inv k (cp c34 119411) (act 56 [(0, x0), (3, x3), (4, x4), (55, x55)]) h K =
    bnd (pBin Try.prog .add 3 (.tmp 43) (.const (.int .i64 1)) x4 (.int .i64 1)) fun x44 =>
    K .normal (act 56 [(0, x0), (3, x3), (4, x44)]) h := kq_reg
noncomputable def F34_lrrrllrllrlrr {β : Type} (inv : Inv) (k : Nat) : Nat → Value → Value → Value → AH → (Value → Value → Value → Value → AH → Option β) → (Value → AH → Option β) → Option β
  | 0, _, _, _, _, _, _ => none
  | j + 1, x0, x3, x4, h, ke2, kr =>
    bnd (pBin Try.prog .lss 3 (.tmp 40) (.tmp 41) x4 x3) fun x42 =>
    brV x42
    (bnd (pIndexAddr Try.prog 30 x0 x4) fun x47 =>
    bnd (pFieldAddr Try.prog 50 x47 0) fun x48 =>
    bnd (pLoad Try.prog 9 x48 h) fun x49 =>
    bnd (pIndexAddr Try.prog 30 x0 x3) fun x52 =>
    bnd (pFieldAddr Try.prog 50 x52 0) fun x53 =>
    bnd (pLoad Try.prog 9 x53 h) fun x54 =>
    bnd (pBin Try.prog .eql 9 (.tmp 49) (.tmp 54) x49 x54) fun x55 =>
    brV x55
    (kr (.int .i64 171) h)
    (bnd (pBin Try.prog .add 3 (.tmp 43) (.const (.int .i64 1)) x4 (.int .i64 1)) fun x44 =>
    F34_lrrrllrllrlrr inv k j x0 x3 x44 h ke2 kr))
    (ke2 x0 x3 x4 x42 h)
theorem F34_lrrrllrllrlrr_j (j : Nat) : kLoop (kCode env 34 false inv k (cp c34 29852)) j (act 56 [(0, x0), (3, x3), (4, x4)]) h K = F34_lrrrllrllrlrr inv k j x0 x3 x4 h (fun y0 y3 y4 y42 h => K (.exit 2) (act 56 [(0, y0), (3, y3), (4, y4), (42, y42)]) h) (fun y2 h => K .ret (act 56 [(2, y2)]) h) := by
      induction j generalizing x0 x3 x4 h with
      | zero => rfl
      | succ j ih =>
        unfold F34_lrrrllrllrlrr
        simp only [kLoop, kq_seq c34 29852, kq_seq c34 59704, r34_11, b34_rlllrrrllrllrlrr, kq_skip c34 238818, kq_seq c34 59705, kq_block c34 119410 3, kq_seq c34 238820, r34_13, b34_rllrllrrrllrllrlrr, kq_seq c34 955282, r34_14, kq_ret c34 1910565, kq_skip c34 955283, r34_12, kq_exit c34 238819 2, ih, reduceIte, reduceCtorEq, XE.exit.injEq, Nat.reduceEqDiff, Nat.reduceMul, Nat.reduceAdd] <;> kernel_rfl
theorem F34_lrrrllrllrlrr_eq  : kCode env 34 false inv k (cp c34 14926) (act 56 [(0, x0), (3, x3), (4, x4)]) h K = F34_lrrrllrllrlrr inv k k x0 x3 x4 h (fun y0 y3 y4 y42 h => K (.exit 2) (act 56 [(0, y0), (3, y3), (4, y4), (42, y42)]) h) (fun y2 h => K .ret (act 56 [(2, y2)]) h) := kq_loop (F34_lrrrllrllrlrr_j k)
theorem r34_5  : kCode env 34 false inv k (cp c34 467) (act 56 [(0, x0), (3, x3), (4, x4), (42, x42)]) h K =
    bnd (pBin Try.prog .add 3 (.tmp 17) (.const (.int .i64 1)) x3 (.int .i64 1)) fun x18 =>
    K .normal (act 56 [(0, x0), (3, x18)]) h := kq_reg
noncomputable def F34_lrlrr {β : Type} (inv : Inv) (k : Nat) : Nat → Value → Value → AH → (Value → Value → Value → AH → Option β) → (Value → AH → Option β) → Option β
  | 0, _, _, _, _, _ => none
  | j + 1, x0, x3, h, ke0, kr =>
    bnd (pLen Try.prog #[30] x0 h) fun x15 =>
    bnd (pBin Try.prog .lss 3 (.tmp 13) (.tmp 15) x3 x15) fun x16 =>
    brV x16
    (bnd (pIndexAddr Try.prog 30 x0 x3) fun x21 =>
    bnd (pFieldAddr Try.prog 50 x21 0) fun x22 =>
    bnd (pLoad Try.prog 9 x22 h) fun x23 =>
    bnd (inv (.func 53) #[] #[x23] h) fun x24 =>
    bnd (pBin Try.prog .neq 34 (.tmp 24) (.const (.int .i64 0)) x24.1 (.int .i64 0)) fun x25 =>
    brV x25
    (kr (.int .i64 170) x24.2)
    (G34_8 inv x0 x3 x24.2 fun y39 h =>
    brV y39
    (kr (.int .i64 171) h)
    (F34_lrrrllrllrlrr inv k k x0 x3 (.int .i64 0) h
    (fun y0 y3 y4 y42 h_1 =>
    bnd (pBin Try.prog .add 3 (.tmp 17) (.const (.int .i64 1)) y3 (.int .i64 1)) fun x18 =>
    F34_lrlrr inv k j y0 x18 h_1 ke0 kr)
    (fun y2 h_2 =>
    kr y2 h_2))))
    (ke0 x0 x3 x16 h)
theorem F34_lrlrr_j (j : Nat) : kLoop (kCode env 34 false inv k (cp c34 116)) j (act 56 [(0, x0), (3, x3)]) h K = F34_lrlrr inv k j x0 x3 h (fun y0 y3 y16 h => K (.exit 0) (act 56 [(0, y0), (3, y3), (16, y16)]) h) (fun y2 h => K .ret (act 56 [(2, y2)]) h) := by
      induction j generalizing x0 x3 h with
      | zero => rfl
      | succ j ih =>
        unfold F34_lrlrr
        simp only [kLoop, kq_seq c34 116, kq_seq c34 232, r34_4, b34_rlllrlrr, kq_skip c34 930, kq_seq c34 233, kq_block c34 466 1, kq_seq c34 932, kq_seq c34 1864, r34_6, b34_rlllrllrlrr, kq_seq c34 7458, r34_7, kq_ret c34 14917, kq_skip c34 7459, kq_seq c34 1865, kq_seq c34 3730, r34_8, b34_rlrllrllrlrr, kq_seq c34 14922, r34_9, kq_ret c34 29845, kq_skip c34 14923, kq_seq c34 3731, r34_10, kq_block c34 7463 2, F34_lrrrllrllrlrr_eq, r34_5, kq_exit c34 931 0, ih, reduceIte, reduceCtorEq, XE.exit.injEq, Nat.reduceEqDiff, Nat.reduceMul, Nat.reduceAdd] <;> kernel_rfl
theorem F34_lrlrr_eq  : kCode env 34 false inv k (cp c34 58) (act 56 [(0, x0), (3, x3)]) h K = F34_lrlrr inv k k x0 x3 h (fun y0 y3 y16 h => K (.exit 0) (act 56 [(0, y0), (3, y3), (16, y16)]) h) (fun y2 h => K .ret (act 56 [(2, y2)]) h) := kq_loop (F34_lrlrr_j k)
theorem r34_15  : kCode env 34 false inv k (cp c34 30) (act 56 [(0, x0), (3, x3), (16, x16)]) h K =
    K .normal (act 56 [(2, (.int .i64 0))]) h := kq_reg
/-- shadowbook/shadowbookref17.Check -/
noncomputable def F34 (inv : Inv) (k : Nat) (x0 : Value) (h : AH) : Option (Value × AH) :=
    G34_1 inv x0 h fun y12 h =>
    brV y12
    (some ((.int .i64 171), h))
    (F34_lrlrr inv k k x0 (.int .i64 0) h
    (fun y0 y3 y16 h_3 =>
    some ((.int .i64 0), h_3))
    (fun y2 h_4 =>
    some (y2, h_4)))
theorem F34_eq : eFun env k inv 34 #[x0] h = F34 inv k x0 h := by
      refine (kq_fun (a := act 56 [(0, x0)]) (c := cp c34 1)).trans ?_
      unfold F34
      simp only [kq_seq c34 1, r34_0, kq_seq c34 3, kq_seq c34 6, r34_1, b34_rlr, kq_seq c34 26, r34_2, kq_ret c34 53, res34_0, kq_skip c34 27, kq_seq c34 7, kq_seq c34 14, r34_3, kq_block c34 29 0, F34_lrlrr_eq, kq_seq c34 15, r34_15, kq_ret c34 31, reduceIte, reduceCtorEq, XE.exit.injEq, Nat.reduceEqDiff, Nat.reduceMul, Nat.reduceAdd] <;> kernel_rfl
theorem F34_call : eInv env (k + 1) (.func 34) #[] #[x0] h = F34 (eInv env k) k x0 h := kq_inv F34_eq
noncomputable def c35 : Code := codeOf Try.prog 35
theorem r35_0  : kCode env 35 false inv k (cp c35 2) (act 26 [(0, x0), (1, x1)]) h K =
    bnd (pBox Try.prog 50 x0 h) fun x2 =>
    bnd (pBox Try.prog 42 x1 x2.2) fun x3 =>
    K .normal (act 26 [(2, x2.1), (3, x3.1)]) x3.2 := kq_reg
theorem r35_1  : kCode env 35 false inv k (cp c35 6) (act 26 [(2, x2), (3, x3)]) h K =
    bnd (pLoad Try.prog 42 x3 h) fun x6 =>
    bnd (inv (.func 19) #[] #[x6] h) fun x7 =>
    K .normal (act 26 [(2, x2), (3, x3), (5, x7.1)]) x7.2 := kq_reg
theorem r35_2  : kCode env 35 false inv k (cp c35 28) (act 26 [(2, x2), (3, x3), (5, x5)]) h K =
    bnd (pBin Try.prog .neq 34 (.tmp 8) (.const (.int .i64 0)) x5 (.int .i64 0)) fun x9 =>
    K .normal (act 26 [(2, x2), (3, x3), (5, x5), (9, x9)]) h := kq_reg
theorem b35_rlrr  : kCode env 35 false inv k (cp c35 29) (act 26 [(2, x2), (3, x3), (5, x5), (9, x9)]) h K = brV x9 (kCode env 35 false inv k (cp c35 58) (act 26 [(2, x2), (3, x3), (5, x5), (9, x9)]) h K) (kCode env 35 false inv k (cp c35 59) (act 26 [(2, x2), (3, x3), (5, x5), (9, x9)]) h K) := kq_cond
theorem r35_3  : kCode env 35 false inv k (cp c35 116) (act 26 [(2, x2), (3, x3), (5, x5), (9, x9)]) h K =
    K .normal (act 26 [(4, x5)]) h := kq_reg
theorem res35_0 : resOfFn env.P 35 .ret (act 26 [(4, x4)]) h = some (x4, h) := kq_res
noncomputable abbrev G35_4 {β : Type} (inv : Inv) (x2 x3 : Value) (h : AH) (K : Value → AH → Option β) : Option β :=
    bnd (pFieldAddr Try.prog 42 x3 0) fun x11 =>
    bnd (pLoad Try.prog 3 x11 h) fun x12 =>
    bnd (pFieldAddr Try.prog 50 x2 1) fun x13 =>
    bnd (pLoad Try.prog 3 x13 h) fun x14 =>
    bnd (pBin Try.prog .neq 3 (.tmp 12) (.tmp 14) x12 x14) fun x15 =>
    bnd (gd (some x15) true h (lt (pFieldAddr Try.prog 42 x3 0) h)) fun x17 =>
    bnd (gd (some x15) true x17.2 (lt (pLoad Try.prog 3 x17.1 x17.2) x17.2)) fun x18 =>
    bnd (gd (some x15) true x18.2 (lt (pBin Try.prog .eql 3 (.tmp 18) (.const (.int .i64 0)) x18.1 (.int .i64 0)) x18.2)) fun x19 =>
    bnd (gd (some x15) true x19.2 (some (x19.1, x19.2))) fun x20 =>
    bnd (gd (some x20.1) true x20.2 (lt (pFieldAddr Try.prog 50 x2 2) x20.2)) fun x21 =>
    bnd (gd (some x20.1) true x21.2 (lt (pLoad Try.prog 4 x21.1 x21.2) x21.2)) fun x22 =>
    bnd (gd (some x15) true x22.2 (lt (pickV x20.1 x22.1 (.bool false)) x22.2)) fun x23 =>
    bnd (gd (some x15) true x23.2 (lt (pUn Try.prog .not x23.1) x23.2)) fun x24 =>
    bnd (pickV x15 x24.1 (.bool false)) fun x25 =>
    K (x25) x24.2
theorem r35_4  : kCode env 35 false inv k (cp c35 60) (act 26 [(2, x2), (3, x3), (5, x5), (9, x9)]) h K =
    G35_4 inv x2 x3 h fun y25 h => K .normal (act 26 [(25, y25)]) h := kq_reg
theorem b35_rlrrr  : kCode env 35 false inv k (cp c35 61) (act 26 [(25, x25)]) h K = brV x25 (kCode env 35 false inv k (cp c35 122) (act 26 [(25, x25)]) h K) (kCode env 35 false inv k (cp c35 123) (act 26 [(25, x25)]) h K) := kq_cond
theorem r35_5  : kCode env 35 false inv k (cp c35 244) (act 26 [(25, x25)]) h K =
    K .normal (act 26 [(4, (.int .i64 173))]) h := kq_reg
theorem r35_6  : kCode env 35 false inv k (cp c35 62) (act 26 [(25, x25)]) h K =
    K .normal (act 26 [(4, (.int .i64 0))]) h := kq_reg
/-- shadowbook/shadowbookref17.Cell -/
noncomputable def F35 (inv : Inv) (k : Nat) (x0 x1 : Value) (h : AH) : Option (Value × AH) :=
    bnd (pBox Try.prog 50 x0 h) fun x2 =>
    bnd (pBox Try.prog 42 x1 x2.2) fun x3 =>
    bnd (pLoad Try.prog 42 x3.1 x3.2) fun x6 =>
    bnd (inv (.func 19) #[] #[x6] x3.2) fun x7 =>
    bnd (pBin Try.prog .neq 34 (.tmp 8) (.const (.int .i64 0)) x7.1 (.int .i64 0)) fun x9 =>
    brV x9
    (some (x7.1, x7.2))
    (G35_4 inv x2.1 x3.1 x7.2 fun y25 h =>
    brV y25
    (some ((.int .i64 173), h))
    (some ((.int .i64 0), h)))
theorem F35_eq : eFun env k inv 35 #[x0, x1] h = F35 inv k x0 x1 h := by
      refine (kq_fun (a := act 26 [(0, x0), (1, x1)]) (c := cp c35 1)).trans ?_
      unfold F35
      simp only [kq_seq c35 1, r35_0, kq_seq c35 3, r35_1, kq_seq c35 7, kq_seq c35 14, r35_2, b35_rlrr, kq_seq c35 58, r35_3, kq_ret c35 117, res35_0, kq_skip c35 59, kq_seq c35 15, kq_seq c35 30, r35_4, b35_rlrrr, kq_seq c35 122, r35_5, kq_ret c35 245, kq_skip c35 123, kq_seq c35 31, r35_6, kq_ret c35 63, reduceIte, reduceCtorEq, XE.exit.injEq, Nat.reduceEqDiff, Nat.reduceMul, Nat.reduceAdd] <;> kernel_rfl
theorem F35_call : eInv env (k + 1) (.func 35) #[] #[x0, x1] h = F35 (eInv env k) k x0 x1 h := kq_inv F35_eq
noncomputable def c44 : Code := codeOf Try.prog 44
theorem r44_0  : kCode env 44 false inv k (cp c44 2) (act 61 [(0, x0)]) h K =
    K .normal (act 61 [(0, x0)]) h := kq_reg
theorem r44_1  : kCode env 44 false inv k (cp c44 12) (act 61 [(0, x0)]) h K =
    bnd (pLen Try.prog #[46] x0 h) fun x7 =>
    bnd (pBin Try.prog .lss 3 (.tmp 7) (.const (.int .i64 2)) x7 (.int .i64 2)) fun x8 =>
    K .normal (act 61 [(0, x0), (8, x8)]) h := kq_reg
theorem b44_rlr  : kCode env 44 false inv k (cp c44 13) (act 61 [(0, x0), (8, x8)]) h K = brV x8 (kCode env 44 false inv k (cp c44 26) (act 61 [(0, x0), (8, x8)]) h K) (kCode env 44 false inv k (cp c44 27) (act 61 [(0, x0), (8, x8)]) h K) := kq_cond
theorem r44_2  : kCode env 44 false inv k (cp c44 52) (act 61 [(0, x0), (8, x8)]) h K =
    K .normal (act 61 [(2, x0)]) h := kq_reg
theorem res44_0 : resOfFn env.P 44 .ret (act 61 [(2, x2)]) h = some (x2, h) := kq_res
theorem r44_3  : kCode env 44 false inv k (cp c44 28) (act 61 [(0, x0), (8, x8)]) h K =
    K .normal (act 61 [(0, x0), (3, (.int .i64 1))]) h := kq_reg
theorem r44_4  : kCode env 44 false inv k (cp c44 464) (act 61 [(0, x0), (3, x3)]) h K =
    bnd (pLen Try.prog #[46] x0 h) fun x12 =>
    bnd (pBin Try.prog .lss 3 (.tmp 10) (.tmp 12) x3 x12) fun x13 =>
    K .normal (act 61 [(0, x0), (3, x3), (13, x13)]) h := kq_reg
theorem b44_rlllrlrr  : kCode env 44 false inv k (cp c44 465) (act 61 [(0, x0), (3, x3), (13, x13)]) h K = brV x13 (kCode env 44 false inv k (cp c44 930) (act 61 [(0, x0), (3, x3), (13, x13)]) h K) (kCode env 44 false inv k (cp c44 931) (act 61 [(0, x0), (3, x3), (13, x13)]) h K) := kq_cond
theorem r44_6  : kCode env 44 false inv k (cp c44 1864) (act 61 [(0, x0), (3, x3), (13, x13)]) h K =
    bnd (pIndexAddr Try.prog 46 x0 x3) fun x18 =>
    bnd (pLoad Try.prog 3 x18 h) fun x19 =>
    bnd (pBin Try.prog .sub 3 (.tmp 21) (.const (.int .i64 1)) x3 (.int .i64 1)) fun x22 =>
    bnd (pIndexAddr Try.prog 46 x0 x22) fun x23 =>
    bnd (pLoad Try.prog 3 x23 h) fun x24 =>
    bnd (pBin Try.prog .eql 3 (.tmp 19) (.tmp 24) x19 x24) fun x25 =>
    K .normal (act 61 [(0, x0), (3, x3), (25, x25)]) h := kq_draw
theorem b44_rllrllrlrr  : kCode env 44 false inv k (cp c44 1865) (act 61 [(0, x0), (3, x3), (25, x25)]) h K = brV x25 (kCode env 44 false inv k (cp c44 3730) (act 61 [(0, x0), (3, x3), (25, x25)]) h K) (kCode env 44 false inv k (cp c44 3731) (act 61 [(0, x0), (3, x3), (25, x25)]) h K) := kq_cond
theorem r44_7  : kCode env 44 false inv k (cp c44 7460) (act 61 [(0, x0), (3, x3), (25, x25)]) h K =
    bnd (pSlice Try.prog 46 x0 (some x3) none none h) fun x28 =>
    K .normal (act 61 [(0, x0), (3, x3), (4, x28)]) h := kq_reg
theorem r44_8  : kCode env 44 false inv k (cp c44 29844) (act 61 [(0, x0), (3, x3), (4, x4)]) h K =
    K .normal (act 61 [(0, x0), (3, x3), (4, x4), (5, (.int .i64 1))]) h := kq_reg
theorem r44_9  : kCode env 44 false inv k (cp c44 477520) (act 61 [(0, x0), (3, x3), (4, x4), (5, x5)]) h K =
    bnd (pLen Try.prog #[46] x4 h) fun x31 =>
    bnd (pBin Try.prog .lss 3 (.tmp 29) (.tmp 31) x5 x31) fun x32 =>
    K .normal (act 61 [(0, x0), (3, x3), (4, x4), (5, x5), (32, x32)]) h := kq_reg
theorem b44_rlllrlrlrllrllrlrr  : kCode env 44 false inv k (cp c44 477521) (act 61 [(0, x0), (3, x3), (4, x4), (5, x5), (32, x32)]) h K = brV x32 (kCode env 44 false inv k (cp c44 955042) (act 61 [(0, x0), (3, x3), (4, x4), (5, x5), (32, x32)]) h K) (kCode env 44 false inv k (cp c44 955043) (act 61 [(0, x0), (3, x3), (4, x4), (5, x5), (32, x32)]) h K) := kq_cond
theorem r44_11  : kCode env 44 false inv k (cp c44 1910088) (act 61 [(0, x0), (3, x3), (4, x4), (5, x5), (32, x32)]) h K =
    bnd (pIndexAddr Try.prog 46 x4 x5) fun x37 =>
    bnd (pLoad Try.prog 3 x37 h) fun x38 =>
    bnd (pBin Try.prog .sub 3 (.tmp 40) (.const (.int .i64 1)) x5 (.int .i64 1)) fun x41 =>
    bnd (pIndexAddr Try.prog 46 x4 x41) fun x42 =>
    bnd (pLoad Try.prog 3 x42 h) fun x43 =>
    bnd (pBin Try.prog .neq 3 (.tmp 38) (.tmp 43) x38 x43) fun x44 =>
    K .normal (act 61 [(0, x0), (3, x3), (4, x4), (5, x5), (44, x44)]) h := kq_draw
theorem b44_rllrllrlrlrllrllrlrr  : kCode env 44 false inv k (cp c44 1910089) (act 61 [(0, x0), (3, x3), (4, x4), (5, x5), (44, x44)]) h K = brV x44 (kCode env 44 false inv k (cp c44 3820178) (act 61 [(0, x0), (3, x3), (4, x4), (5, x5), (44, x44)]) h K) (kCode env 44 false inv k (cp c44 3820179) (act 61 [(0, x0), (3, x3), (4, x4), (5, x5), (44, x44)]) h K) := kq_cond
theorem r44_12  : kCode env 44 false inv k (cp c44 7640356) (act 61 [(0, x0), (3, x3), (4, x4), (5, x5), (44, x44)]) h K =
    bnd (pIndexAddr Try.prog 46 x4 x5) fun x49 =>
    bnd (pLoad Try.prog 3 x49 h) fun x50 =>
    bnd (pIndexAddr Try.prog 46 x0 x3) fun x51 =>
    bnd (kSt (pStore Try.prog 3 x51 x50 h)) fun u =>
    K .normal (act 61 [(0, x0), (3, x3), (4, x4), (5, x5)]) u.2 := kq_reg
theorem r44_13  : kCode env 44 false inv k (cp c44 7640357) (act 61 [(0, x0), (3, x3), (4, x4), (5, x5)]) h K =
    bnd (pBin Try.prog .add 3 (.tmp 52) (.const (.int .i64 1)) x3 (.int .i64 1)) fun x53 =>
    K .normal (act 61 [(0, x0), (3, x53), (4, x4), (5, x5)]) h := kq_reg
noncomputable def F44_lrllrlrlrllrllrlrr {β : Type} (inv : Inv) (k : Nat) (x0 x3 x4 x5 x32 : Value) (h : AH) (kn : (Value → Value → Value → Value → Value → AH → Option β)) : Option β :=
    bnd (pIndexAddr Try.prog 46 x4 x5) fun x37 =>
    bnd (pLoad Try.prog 3 x37 h) fun x38 =>
    bnd (pBin Try.prog .sub 3 (.tmp 40) (.const (.int .i64 1)) x5 (.int .i64 1)) fun x41 =>
    bnd (pIndexAddr Try.prog 46 x4 x41) fun x42 =>
    bnd (pLoad Try.prog 3 x42 h) fun x43 =>
    bnd (pBin Try.prog .neq 3 (.tmp 38) (.tmp 43) x38 x43) fun x44 =>
    brV x44
    (bnd (pIndexAddr Try.prog 46 x4 x5) fun x49 =>
    bnd (pLoad Try.prog 3 x49 h) fun x50 =>
    bnd (pIndexAddr Try.prog 46 x0 x3) fun x51 =>
    bnd (kSt (pStore Try.prog 3 x51 x50 h)) fun u =>
    bnd (pBin Try.prog .add 3 (.tmp 52) (.const (.int .i64 1)) x3 (.int .i64 1)) fun x53 =>
    kn x0 x53 x4 x5 unk u.2)
    (kn x0 x3 x4 x5 x44 h)
theorem F44_lrllrlrlrllrllrlrr_eq  : kCode env 44 false inv k (cp c44 477522) (act 61 [(0, x0), (3, x3), (4, x4), (5, x5), (32, x32)]) h K = F44_lrllrlrlrllrllrlrr inv k x0 x3 x4 x5 x32 h (fun y0 y3 y4 y5 y44 h => K .normal (act 61 [(0, y0), (3, y3), (4, y4), (5, y5), (44, y44)]) h) := by
      unfold F44_lrllrlrlrllrllrlrr
      simp only [kq_block c44 477522 3, kq_seq c44 955044, r44_11, b44_rllrllrlrlrllrllrlrr, kq_seq c44 3820178, r44_12, r44_13, kq_skip c44 3820179, reduceIte, reduceCtorEq, XE.exit.injEq, Nat.reduceEqDiff, Nat.reduceMul, Nat.reduceAdd] <;> kernel_rfl
theorem r44_10  : kCode env 44 false inv k (cp c44 477523) (act 61 [(0, x0), (3, x3), (4, x4), (5, x5), (44, x44)]) h K =
    bnd (pBin Try.prog .add 3 (.tmp 33) (.const (.int .i64 1)) x5 (.int .i64 1)) fun x34 =>
    K .normal (act 61 [(0, x0), (3, x3), (4, x4), (5, x34)]) h := kq_reg
noncomputable def F44_lrlrlrllrllrlrr {β : Type} (inv : Inv) (k : Nat) : Nat → Value → Value → Value → Value → AH → (Value → Value → Value → Value → Value → AH → Option β) → Option β
  | 0, _, _, _, _, _, _ => none
  | j + 1, x0, x3, x4, x5, h, ke2 =>
    bnd (pLen Try.prog #[46] x4 h) fun x31 =>
    bnd (pBin Try.prog .lss 3 (.tmp 29) (.tmp 31) x5 x31) fun x32 =>
    brV x32
    (F44_lrllrlrlrllrllrlrr inv k x0 x3 x4 x5 x32 h
    (fun y0 y3 y4 y5 y44 h =>
    bnd (pBin Try.prog .add 3 (.tmp 33) (.const (.int .i64 1)) y5 (.int .i64 1)) fun x34 =>
    F44_lrlrlrllrllrlrr inv k j y0 y3 y4 x34 h ke2))
    (ke2 x0 x3 x4 x5 x32 h)
theorem F44_lrlrlrllrllrlrr_j (j : Nat) : kLoop (kCode env 44 false inv k (cp c44 119380)) j (act 61 [(0, x0), (3, x3), (4, x4), (5, x5)]) h K = F44_lrlrlrllrllrlrr inv k j x0 x3 x4 x5 h (fun y0 y3 y4 y5 y32 h => K (.exit 2) (act 61 [(0, y0), (3, y3), (4, y4), (5, y5), (32, y32)]) h) := by
      induction j generalizing x0 x3 x4 x5 h with
      | zero => rfl
      | succ j ih =>
        unfold F44_lrlrlrllrllrlrr
        simp only [kLoop, kq_seq c44 119380, kq_seq c44 238760, r44_9, b44_rlllrlrlrllrllrlrr, kq_skip c44 955042, kq_seq c44 238761, F44_lrllrlrlrllrllrlrr_eq, r44_10, kq_exit c44 955043 2, ih, reduceIte, reduceCtorEq, XE.exit.injEq, Nat.reduceEqDiff, Nat.reduceMul, Nat.reduceAdd] <;> kernel_rfl
theorem F44_lrlrlrllrllrlrr_eq  : kCode env 44 false inv k (cp c44 59690) (act 61 [(0, x0), (3, x3), (4, x4), (5, x5)]) h K = F44_lrlrlrllrllrlrr inv k k x0 x3 x4 x5 h (fun y0 y3 y4 y5 y32 h => K (.exit 2) (act 61 [(0, y0), (3, y3), (4, y4), (5, y5), (32, y32)]) h) := kq_loop (F44_lrlrlrllrllrlrr_j k)
theorem r44_14  : kCode env 44 false inv k (cp c44 29846) (act 61 [(0, x0), (3, x3), (4, x4), (5, x5), (32, x32)]) h K =
    bnd (pSlice Try.prog 46 x0 (some x3) none none h) fun x56 =>
    bnd (kSt (pClear Try.prog #[46] x56 h)) fun u =>
    K .normal (act 61 [(0, x0), (3, x3)]) u.2 := kq_reg
theorem r44_15  : kCode env 44 false inv k (cp c44 59694) (act 61 [(0, x0), (3, x3)]) h K =
    bnd (pSlice Try.prog 46 x0 none (some x3) none h) fun x59 =>
    K .normal (act 61 [(2, x59)]) h := kq_reg
theorem r44_5  : kCode env 44 false inv k (cp c44 467) (act 61 [(0, x0), (3, x3), (25, x25)]) h K =
    bnd (pBin Try.prog .add 3 (.tmp 14) (.const (.int .i64 1)) x3 (.int .i64 1)) fun x15 =>
    K .normal (act 61 [(0, x0), (3, x15)]) h := kq_reg
noncomputable def F44_lrlrr {β : Type} (inv : Inv) (k : Nat) : Nat → Value → Value → AH → (Value → Value → Value → AH → Option β) → (Value → AH → Option β) → Option β
  | 0, _, _, _, _, _ => none
  | j + 1, x0, x3, h, ke0, kr =>
    bnd (pLen Try.prog #[46] x0 h) fun x12 =>
    bnd (pBin Try.prog .lss 3 (.tmp 10) (.tmp 12) x3 x12) fun x13 =>
    brV x13
    (bnd (pIndexAddr Try.prog 46 x0 x3) fun x18 =>
    bnd (pLoad Try.prog 3 x18 h) fun x19 =>
    bnd (pBin Try.prog .sub 3 (.tmp 21) (.const (.int .i64 1)) x3 (.int .i64 1)) fun x22 =>
    bnd (pIndexAddr Try.prog 46 x0 x22) fun x23 =>
    bnd (pLoad Try.prog 3 x23 h) fun x24 =>
    bnd (pBin Try.prog .eql 3 (.tmp 19) (.tmp 24) x19 x24) fun x25 =>
    brV x25
    (bnd (pSlice Try.prog 46 x0 (some x3) none none h) fun x28 =>
    F44_lrlrlrllrllrlrr inv k k x0 x3 x28 (.int .i64 1) h
    (fun y0 y3 y4 y5 y32 h =>
    bnd (pSlice Try.prog 46 y0 (some y3) none none h) fun x56 =>
    bnd (kSt (pClear Try.prog #[46] x56 h)) fun u =>
    bnd (pSlice Try.prog 46 y0 none (some y3) none u.2) fun x59 =>
    kr x59 u.2))
    (bnd (pBin Try.prog .add 3 (.tmp 14) (.const (.int .i64 1)) x3 (.int .i64 1)) fun x15 =>
    F44_lrlrr inv k j x0 x15 h ke0 kr))
    (ke0 x0 x3 x13 h)
theorem F44_lrlrr_j (j : Nat) : kLoop (kCode env 44 false inv k (cp c44 116)) j (act 61 [(0, x0), (3, x3)]) h K = F44_lrlrr inv k j x0 x3 h (fun y0 y3 y13 h => K (.exit 0) (act 61 [(0, y0), (3, y3), (13, y13)]) h) (fun y2 h => K .ret (act 61 [(2, y2)]) h) := by
      induction j generalizing x0 x3 h with
      | zero => rfl
      | succ j ih =>
        unfold F44_lrlrr
        simp only [kLoop, kq_seq c44 116, kq_seq c44 232, r44_4, b44_rlllrlrr, kq_skip c44 930, kq_seq c44 233, kq_block c44 466 1, kq_seq c44 932, r44_6, b44_rllrllrlrr, kq_seq c44 3730, r44_7, kq_seq c44 7461, kq_seq c44 14922, r44_8, kq_block c44 29845 2, F44_lrlrlrllrllrlrr_eq, kq_seq c44 14923, r44_14, kq_seq c44 29847, r44_15, kq_ret c44 59695, kq_skip c44 3731, r44_5, kq_exit c44 931 0, ih, reduceIte, reduceCtorEq, XE.exit.injEq, Nat.reduceEqDiff, Nat.reduceMul, Nat.reduceAdd] <;> kernel_rfl
theorem F44_lrlrr_eq  : kCode env 44 false inv k (cp c44 58) (act 61 [(0, x0), (3, x3)]) h K = F44_lrlrr inv k k x0 x3 h (fun y0 y3 y13 h => K (.exit 0) (act 61 [(0, y0), (3, y3), (13, y13)]) h) (fun y2 h => K .ret (act 61 [(2, y2)]) h) := kq_loop (F44_lrlrr_j k)
theorem r44_16  : kCode env 44 false inv k (cp c44 30) (act 61 [(0, x0), (3, x3), (13, x13)]) h K =
    K .normal (act 61 [(2, x0)]) h := kq_reg
/-- slices.Compact[[]int,int] -/
noncomputable def F44 (inv : Inv) (k : Nat) (x0 : Value) (h : AH) : Option (Value × AH) :=
    bnd (pLen Try.prog #[46] x0 h) fun x7 =>
    bnd (pBin Try.prog .lss 3 (.tmp 7) (.const (.int .i64 2)) x7 (.int .i64 2)) fun x8 =>
    brV x8
    (some (x0, h))
    (F44_lrlrr inv k k x0 (.int .i64 1) h
    (fun y0 y3 y13 h =>
    some (y0, h))
    (fun y2 h_1 =>
    some (y2, h_1)))
theorem F44_eq : eFun env k inv 44 #[x0] h = F44 inv k x0 h := by
      refine (kq_fun (a := act 61 [(0, x0)]) (c := cp c44 1)).trans ?_
      unfold F44
      simp only [kq_seq c44 1, r44_0, kq_seq c44 3, kq_seq c44 6, r44_1, b44_rlr, kq_seq c44 26, r44_2, kq_ret c44 53, res44_0, kq_skip c44 27, kq_seq c44 7, kq_seq c44 14, r44_3, kq_block c44 29 0, F44_lrlrr_eq, kq_seq c44 15, r44_16, kq_ret c44 31, reduceIte, reduceCtorEq, XE.exit.injEq, Nat.reduceEqDiff, Nat.reduceMul, Nat.reduceAdd] <;> kernel_rfl
theorem F44_call : eInv env (k + 1) (.func 44) #[] #[x0] h = F44 (eInv env k) k x0 h := kq_inv F44_eq
noncomputable def c45 : Code := codeOf Try.prog 45
theorem r45_0  : kCode env 45 false inv k (cp c45 2) (act 3 []) h K =
    K .normal (act 3 []) h := kq_reg
theorem r45_1  : kCode env 45 false inv k (cp c45 6) (act 3 []) h K =
    bnd (pMakeMap Try.prog 77 none h) fun x1 =>
    bnd (kSt (pUpdate Try.prog 77 x1.1 (.int .i64 2) (.func (.func 59) #[] #[]) x1.2)) fun u =>
    bnd (kSt (pUpdate Try.prog 77 x1.1 (.int .i64 3) (.func (.func 60) #[] #[]) u.2)) fun u_1 =>
    bnd (kSt (pUpdate Try.prog 77 x1.1 (.int .i64 4) (.func (.func 61) #[] #[]) u_1.2)) fun u_2 =>
    K .normal (act 3 [(0, x1.1)]) u_2.2 := kq_reg
theorem res45_0 : resOfFn env.P 45 .ret (act 3 [(0, x0)]) h = some (x0, h) := kq_res
/-- shadowbook/pred.orders -/
noncomputable def F45 (inv : Inv) (k : Nat) (h : AH) : Option (Value × AH) :=
    bnd (pMakeMap Try.prog 77 none h) fun x1 =>
    bnd (kSt (pUpdate Try.prog 77 x1.1 (.int .i64 2) (.func (.func 59) #[] #[]) x1.2)) fun u =>
    bnd (kSt (pUpdate Try.prog 77 x1.1 (.int .i64 3) (.func (.func 60) #[] #[]) u.2)) fun u_3 =>
    bnd (kSt (pUpdate Try.prog 77 x1.1 (.int .i64 4) (.func (.func 61) #[] #[]) u_3.2)) fun u_4 =>
    some (x1.1, u_4.2)
theorem F45_eq : eFun env k inv 45 #[] h = F45 inv k  h := by
      refine (kq_fun (a := act 3 []) (c := cp c45 1)).trans ?_
      unfold F45
      simp only [kq_seq c45 1, r45_0, kq_seq c45 3, r45_1, kq_ret c45 7, res45_0, reduceIte, reduceCtorEq, XE.exit.injEq, Nat.reduceEqDiff, Nat.reduceMul, Nat.reduceAdd] <;> kernel_rfl
theorem F45_call : eInv env (k + 1) (.func 45) #[] #[] h = F45 (eInv env k) k  h := kq_inv F45_eq
noncomputable def c46 : Code := codeOf Try.prog 46
theorem r46_0  : kCode env 46 false inv k (cp c46 2) (act 22 [(0, x0), (1, x1)]) h K =
    bnd (pBox Try.prog 42 x0 h) fun x2 =>
    bnd (pBox Try.prog 42 x1 x2.2) fun x3 =>
    K .normal (act 22 [(2, x2.1), (3, x3.1)]) x3.2 := kq_reg
noncomputable abbrev G46_1 {β : Type} (inv : Inv) (x2 x3 : Value) (h : AH) (K : Value → AH → Option β) : Option β :=
    bnd (pFieldAddr Try.prog 42 x2 0) fun x5 =>
    bnd (pLoad Try.prog 3 x5 h) fun x6 =>
    bnd (pFieldAddr Try.prog 42 x3 0) fun x7 =>
    bnd (pLoad Try.prog 3 x7 h) fun x8 =>
    bnd (inv (.func 63) #[] #[x6, x8] h) fun x9 =>
    bnd (pFieldAddr Try.prog 42 x2 1) fun x10 =>
    bnd (pLoad Try.prog 2 x10 x9.2) fun x11 =>
    bnd (pFieldAddr Try.prog 42 x3 1) fun x12 =>
    bnd (pLoad Try.prog 2 x12 x9.2) fun x13 =>
    bnd (inv (.func 64) #[] #[x11, x13] x9.2) fun x14 =>
    bnd (pFieldAddr Try.prog 42 x2 2) fun x15 =>
    bnd (pLoad Try.prog 9 x15 x14.2) fun x16 =>
    bnd (pFieldAddr Try.prog 42 x3 2) fun x17 =>
    bnd (pLoad Try.prog 9 x17 x14.2) fun x18 =>
    bnd (inv (.func 65) #[] #[x16, x18] x14.2) fun x19 =>
    bnd (pBuildSlice Try.prog 46 3 #[(0, x9.1), (1, x14.1), (2, x19.1)] x19.2) fun x20 =>
    bnd (inv (.func 62) #[] #[x20.1] x20.2) fun x21 =>
    chkK ((!true || !true || (sameO (pLoad Try.prog 2 x10 h) x11 && sameO (pLoad Try.prog 2 x10 x9.2) x11)) && ((!true || !true || (sameO (pLoad Try.prog 2 x12 h) x13 && sameO (pLoad Try.prog 2 x12 x9.2) x13)) && ((!true || !true || (sameO (pLoad Try.prog 9 x15 h) x16 && sameO (pLoad Try.prog 9 x15 x9.2) x16)) && ((!true || !true || (sameO (pLoad Try.prog 9 x15 x9.2) x16 && sameO (pLoad Try.prog 9 x15 x14.2) x16)) && ((!true || !true || (sameO (pLoad Try.prog 9 x17 h) x18 && sameO (pLoad Try.prog 9 x17 x9.2) x18)) && ((!true || !true || (sameO (pLoad Try.prog 9 x17 x9.2) x18 && sameO (pLoad Try.prog 9 x17 x14.2) x18)) && true)))))) <|
    K (x21.1) x21.2
theorem r46_1  : kCode env 46 false inv k (cp c46 6) (act 22 [(2, x2), (3, x3)]) h K =
    G46_1 inv x2 x3 h fun y4 h => K .normal (act 22 [(4, y4)]) h := kq_draw
theorem res46_0 : resOfFn env.P 46 .ret (act 22 [(4, x4)]) h = some (x4, h) := kq_res
/-- shadowbook/value.Compare -/
noncomputable def F46 (inv : Inv) (k : Nat) (x0 x1 : Value) (h : AH) : Option (Value × AH) :=
    bnd (pBox Try.prog 42 x0 h) fun x2 =>
    bnd (pBox Try.prog 42 x1 x2.2) fun x3 =>
    G46_1 inv x2.1 x3.1 x3.2 fun y4 h =>
    some (y4, h)
theorem F46_eq : eFun env k inv 46 #[x0, x1] h = F46 inv k x0 x1 h := by
      refine (kq_fun (a := act 22 [(0, x0), (1, x1)]) (c := cp c46 1)).trans ?_
      unfold F46
      simp only [kq_seq c46 1, r46_0, kq_seq c46 3, r46_1, kq_ret c46 7, res46_0, reduceIte, reduceCtorEq, XE.exit.injEq, Nat.reduceEqDiff, Nat.reduceMul, Nat.reduceAdd] <;> kernel_rfl
theorem F46_call : eInv env (k + 1) (.func 46) #[] #[x0, x1] h = F46 (eInv env k) k x0 x1 h := kq_inv F46_eq
noncomputable def c47 : Code := codeOf Try.prog 47
theorem r47_0  : kCode env 47 false inv k (cp c47 2) (act 19 [(0, x0), (1, x1)]) h K =
    K .normal (act 19 [(0, x0), (1, x1)]) h := kq_reg
theorem r47_1  : kCode env 47 false inv k (cp c47 12) (act 19 [(0, x0), (1, x1)]) h K =
    bnd (pLen Try.prog #[60] x0 h) fun x7 =>
    K .normal (act 19 [(0, x0), (1, x1), (7, x7), (8, (.int .i64 0))]) h := kq_reg
theorem r47_2  : kCode env 47 false inv k (cp c47 104) (act 19 [(0, x0), (1, x1), (7, x7), (8, x8)]) h K =
    bnd (pBin Try.prog .lss 3 (.tmp 8) (.tmp 7) x8 x7) fun x9 =>
    K .normal (act 19 [(0, x0), (1, x1), (7, x7), (8, x8), (9, x9)]) h := kq_reg
theorem b47_lrllrlr  : kCode env 47 false inv k (cp c47 210) (act 19 [(0, x0), (1, x1), (7, x7), (8, x8), (9, x9)]) h K = brV x9 (kCode env 47 false inv k (cp c47 420) (act 19 [(0, x0), (1, x1), (7, x7), (8, x8), (9, x9)]) h K) (kCode env 47 false inv k (cp c47 421) (act 19 [(0, x0), (1, x1), (7, x7), (8, x8), (9, x9)]) h K) := kq_cond
theorem r47_3  : kCode env 47 false inv k (cp c47 1688) (act 19 [(0, x0), (1, x1), (7, x7), (8, x8), (9, x9)]) h K =
    K .normal (act 19 [(0, x0), (1, x1), (5, x8), (7, x7), (8, x8)]) h := kq_reg
theorem r47_4  : kCode env 47 false inv k (cp c47 3378) (act 19 [(0, x0), (1, x1), (5, x5), (7, x7), (8, x8)]) h K =
    bnd (pIndexAddr Try.prog 60 x0 x5) fun x14 =>
    bnd (pLoad Try.prog 4 x14 h) fun x15 =>
    bnd (pBin Try.prog .eql 4 (.tmp 11) (.tmp 15) x1 x15) fun x16 =>
    K .normal (act 19 [(0, x0), (1, x1), (5, x5), (7, x7), (8, x8), (16, x16)]) h := kq_reg
theorem b47_rrllrrllrlr  : kCode env 47 false inv k (cp c47 3379) (act 19 [(0, x0), (1, x1), (5, x5), (7, x7), (8, x8), (16, x16)]) h K = brV x16 (kCode env 47 false inv k (cp c47 6758) (act 19 [(0, x0), (1, x1), (5, x5), (7, x7), (8, x8), (16, x16)]) h K) (kCode env 47 false inv k (cp c47 6759) (act 19 [(0, x0), (1, x1), (5, x5), (7, x7), (8, x8), (16, x16)]) h K) := kq_cond
theorem r47_5  : kCode env 47 false inv k (cp c47 13516) (act 19 [(0, x0), (1, x1), (5, x5), (7, x7), (8, x8), (16, x16)]) h K =
    K .normal (act 19 [(4, x5)]) h := kq_reg
theorem r47_6  : kCode env 47 false inv k (cp c47 423) (act 19 [(0, x0), (1, x1), (5, x5), (7, x7), (8, x8), (16, x16)]) h K =
    bnd (pBin Try.prog .add 3 (.tmp 8) (.const (.int .i64 1)) x8 (.int .i64 1)) fun x18 =>
    K .normal (act 19 [(0, x0), (1, x1), (7, x7), (8, x18)]) h := kq_reg
noncomputable def F47_lrlr {β : Type} (inv : Inv) (k : Nat) : Nat → Value → Value → Value → Value → AH → (Value → Value → Value → Value → Value → AH → Option β) → (Value → AH → Option β) → Option β
  | 0, _, _, _, _, _, _, _ => none
  | j + 1, x0, x1, x7, x8, h, ke0, kr =>
    bnd (pBin Try.prog .lss 3 (.tmp 8) (.tmp 7) x8 x7) fun x9 =>
    brV x9
    (bnd (pIndexAddr Try.prog 60 x0 x8) fun x14 =>
    bnd (pLoad Try.prog 4 x14 h) fun x15 =>
    bnd (pBin Try.prog .eql 4 (.tmp 11) (.tmp 15) x1 x15) fun x16 =>
    brV x16
    (kr x8 h)
    (bnd (pBin Try.prog .add 3 (.tmp 8) (.const (.int .i64 1)) x8 (.int .i64 1)) fun x18 =>
    F47_lrlr inv k j x0 x1 x7 x18 h ke0 kr))
    (ke0 x0 x1 x7 x8 x9 h)
theorem F47_lrlr_j (j : Nat) : kLoop (kCode env 47 false inv k (cp c47 52)) j (act 19 [(0, x0), (1, x1), (7, x7), (8, x8)]) h K = F47_lrlr inv k j x0 x1 x7 x8 h (fun y0 y1 y7 y8 y9 h => K (.exit 0) (act 19 [(0, y0), (1, y1), (7, y7), (8, y8), (9, y9)]) h) (fun y4 h => K .ret (act 19 [(4, y4)]) h) := by
      induction j generalizing x0 x1 x7 x8 h with
      | zero => rfl
      | succ j ih =>
        unfold F47_lrlr
        simp only [kLoop, kq_seq c47 52, r47_2, kq_seq c47 105, b47_lrllrlr, kq_skip c47 420, kq_seq c47 211, kq_block c47 422 1, kq_seq c47 844, r47_3, kq_seq c47 1689, r47_4, b47_rrllrrllrlr, kq_seq c47 6758, r47_5, kq_ret c47 13517, kq_skip c47 6759, r47_6, kq_exit c47 421 0, ih, reduceIte, reduceCtorEq, XE.exit.injEq, Nat.reduceEqDiff, Nat.reduceMul, Nat.reduceAdd] <;> kernel_rfl
theorem F47_lrlr_eq  : kCode env 47 false inv k (cp c47 26) (act 19 [(0, x0), (1, x1), (7, x7), (8, x8)]) h K = F47_lrlr inv k k x0 x1 x7 x8 h (fun y0 y1 y7 y8 y9 h => K (.exit 0) (act 19 [(0, y0), (1, y1), (7, y7), (8, y8), (9, y9)]) h) (fun y4 h => K .ret (act 19 [(4, y4)]) h) := kq_loop (F47_lrlr_j k)
theorem r47_7  : kCode env 47 false inv k (cp c47 14) (act 19 [(0, x0), (1, x1), (7, x7), (8, x8), (9, x9)]) h K =
    K .normal (act 19 [(4, (.int .i64 (-1)))]) h := kq_reg
theorem res47_0 : resOfFn env.P 47 .ret (act 19 [(4, x4)]) h = some (x4, h) := kq_res
/-- slices.Index[[]bool,bool] -/
noncomputable def F47 (inv : Inv) (k : Nat) (x0 x1 : Value) (h : AH) : Option (Value × AH) :=
    bnd (pLen Try.prog #[60] x0 h) fun x7 =>
    F47_lrlr inv k k x0 x1 x7 (.int .i64 0) h
    (fun y0 y1 y7 y8 y9 h =>
    some ((.int .i64 (-1)), h))
    (fun y4 h_1 =>
    some (y4, h_1))
theorem F47_eq : eFun env k inv 47 #[x0, x1] h = F47 inv k x0 x1 h := by
      refine (kq_fun (a := act 19 [(0, x0), (1, x1)]) (c := cp c47 1)).trans ?_
      unfold F47
      simp only [kq_seq c47 1, r47_0, kq_seq c47 3, kq_seq c47 6, r47_1, kq_block c47 13 0, F47_lrlr_eq, kq_seq c47 7, r47_7, kq_ret c47 15, res47_0, reduceIte, reduceCtorEq, XE.exit.injEq, Nat.reduceEqDiff, Nat.reduceMul, Nat.reduceAdd] <;> kernel_rfl
theorem F47_call : eInv env (k + 1) (.func 47) #[] #[x0, x1] h = F47 (eInv env k) k x0 x1 h := kq_inv F47_eq
noncomputable def c48 : Code := codeOf Try.prog 48
theorem r48_0  : kCode env 48 false inv k (cp c48 2) (act 45 [(0, x0)]) h K =
    K .normal (act 45 [(0, x0)]) h := kq_reg
noncomputable abbrev G48_1 {β : Type} (inv : Inv) (x0 : Value) (h : AH) (K : Value → AH → Option β) : Option β :=
    bnd (pLen Try.prog #[9] x0 h) fun x6 =>
    bnd (pBin Try.prog .lss 3 (.tmp 6) (.const (.int .i64 1)) x6 (.int .i64 1)) fun x7 =>
    bnd (gd (some x7) false h (some (x0, h))) fun x9 =>
    bnd (gd (some x7) false x9.2 (lt (pLen Try.prog #[9] x9.1 x9.2) x9.2)) fun x10 =>
    bnd (gd (some x7) false x10.2 (lt (pBin Try.prog .gtr 3 (.tmp 10) (.const (.int .i64 32)) x10.1 (.int .i64 32)) x10.2)) fun x11 =>
    bnd (pickV x7 (.bool true) x11.1) fun x12 =>
    K (x12) x11.2
theorem r48_1  : kCode env 48 false inv k (cp c48 24) (act 45 [(0, x0)]) h K =
    G48_1 inv x0 h fun y12 h => K .normal (act 45 [(0, x0), (12, y12)]) h := kq_reg
theorem b48_rllr  : kCode env 48 false inv k (cp c48 25) (act 45 [(0, x0), (12, x12)]) h K = brV x12 (kCode env 48 false inv k (cp c48 50) (act 45 [(0, x0), (12, x12)]) h K) (kCode env 48 false inv k (cp c48 51) (act 45 [(0, x0), (12, x12)]) h K) := kq_cond
theorem r48_2  : kCode env 48 false inv k (cp c48 100) (act 45 [(0, x0), (12, x12)]) h K =
    K .normal (act 45 [(2, (.int .i64 170))]) h := kq_reg
theorem res48_0 : resOfFn env.P 48 .ret (act 45 [(2, x2)]) h = some (x2, h) := kq_res
theorem r48_3  : kCode env 48 false inv k (cp c48 108) (act 45 [(0, x0), (12, x12)]) h K =
    bnd (pRange Try.prog 9 x0 h) fun x14 =>
    K .normal (act 45 [(14, x14.1)]) x14.2 := kq_reg
theorem r48_4  : kCode env 48 false inv k (cp c48 872) (act 45 [(3, x3), (4, x4), (14, x14), (19, x19), (34, x34)]) h K =
    bnd (pNext x14 true h) fun x15 =>
    bnd (pExtract x15.1 0) fun x16 =>
    K .normal (act 45 [(14, x14), (15, x15.1), (16, x16)]) x15.2 := kq_reg
theorem b48_lrllrlrrlr  : kCode env 48 false inv k (cp c48 1746) (act 45 [(14, x14), (15, x15), (16, x16)]) h K = brV x16 (kCode env 48 false inv k (cp c48 3492) (act 45 [(14, x14), (15, x15), (16, x16)]) h K) (kCode env 48 false inv k (cp c48 3493) (act 45 [(14, x14), (15, x15), (16, x16)]) h K) := kq_cond
theorem r48_5  : kCode env 48 false inv k (cp c48 6988) (act 45 [(14, x14), (15, x15), (16, x16)]) h K =
    bnd (pExtract x15 1) fun x17 =>
    bnd (pExtract x15 2) fun x18 =>
    K .normal (act 45 [(3, x17), (4, x18), (14, x14)]) h := kq_reg
noncomputable abbrev G48_6 {β : Type} (inv : Inv) (x3 x4 x14 : Value) (h : AH) (K : Value → AH → Option β) : Option β :=
    bnd (pBin Try.prog .geq 21 (.tmp 20) (.const (.int .i32 97)) x4 (.int .i32 97)) fun x21 =>
    bnd (gd (some x21) true h (some (x4, h))) fun x23 =>
    bnd (gd (some x21) true x23.2 (lt (pBin Try.prog .leq 21 (.tmp 23) (.const (.int .i32 122)) x23.1 (.int .i32 122)) x23.2)) fun x24 =>
    bnd (pickV x21 x24.1 (.bool false)) fun x25 =>
    K (x25) x24.2
theorem r48_6  : kCode env 48 false inv k (cp c48 111824) (act 45 [(3, x3), (4, x4), (14, x14)]) h K =
    G48_6 inv x3 x4 x14 h fun y19 h => K .normal (act 45 [(3, x3), (4, x4), (14, x14), (19, y19)]) h := kq_reg
theorem b48_rlllrlrrllrlrrlr  : kCode env 48 false inv k (cp c48 111825) (act 45 [(3, x3), (4, x4), (14, x14), (19, x19)]) h K = brV x19 (kCode env 48 false inv k (cp c48 223650) (act 45 [(3, x3), (4, x4), (14, x14), (19, x19)]) h K) (kCode env 48 false inv k (cp c48 223651) (act 45 [(3, x3), (4, x4), (14, x14), (19, x19)]) h K) := kq_cond
noncomputable abbrev G48_7 {β : Type} (inv : Inv) (x3 x4 x14 : Value) (h : AH) (K : Value → AH → Option β) : Option β :=
    bnd (pBin Try.prog .geq 21 (.tmp 26) (.const (.int .i32 65)) x4 (.int .i32 65)) fun x27 =>
    bnd (gd (some x27) true h (some (x4, h))) fun x29 =>
    bnd (gd (some x27) true x29.2 (lt (pBin Try.prog .leq 21 (.tmp 29) (.const (.int .i32 90)) x29.1 (.int .i32 90)) x29.2)) fun x30 =>
    bnd (pickV x27 x30.1 (.bool false)) fun x31 =>
    K (x31) x30.2
theorem r48_7  : kCode env 48 false inv k (cp c48 447302) (act 45 [(3, x3), (4, x4), (14, x14), (19, x19)]) h K =
    G48_7 inv x3 x4 x14 h fun y19 h => K .normal (act 45 [(3, x3), (4, x4), (14, x14), (19, y19)]) h := kq_reg
theorem b48_rrrlllrlrrllrlrrlr  : kCode env 48 false inv k (cp c48 447303) (act 45 [(3, x3), (4, x4), (14, x14), (19, x19)]) h K = brV x19 (kCode env 48 false inv k (cp c48 894606) (act 45 [(3, x3), (4, x4), (14, x14), (19, x19)]) h K) (kCode env 48 false inv k (cp c48 894607) (act 45 [(3, x3), (4, x4), (14, x14), (19, x19)]) h K) := kq_cond
theorem r48_8  : kCode env 48 false inv k (cp c48 894607) (act 45 [(3, x3), (4, x4), (14, x14), (19, x19)]) h K =
    bnd (pBin Try.prog .eql 21 (.tmp 32) (.const (.int .i32 95)) x4 (.int .i32 95)) fun x33 =>
    K .normal (act 45 [(3, x3), (4, x4), (14, x14), (19, x33)]) h := kq_reg
noncomputable def F48_rlllrlrrllrlrrlr {β : Type} (inv : Inv) (k : Nat) (x3 x4 x14 x19 : Value) (h : AH) (kn : (Value → Value → Value → Value → AH → Option β)) : Option β :=
    brV x19
    (kn x3 x4 x14 x19 h)
    (G48_7 inv x3 x4 x14 h fun y19 h =>
    brV y19
    (kn x3 x4 x14 y19 h)
    (bnd (pBin Try.prog .eql 21 (.tmp 32) (.const (.int .i32 95)) x4 (.int .i32 95)) fun x33 =>
    kn x3 x4 x14 x33 h))
theorem F48_rlllrlrrllrlrrlr_eq  : kCode env 48 false inv k (cp c48 111825) (act 45 [(3, x3), (4, x4), (14, x14), (19, x19)]) h K = F48_rlllrlrrllrlrrlr inv k x3 x4 x14 x19 h (fun y3 y4 y14 y19 h => K .normal (act 45 [(3, y3), (4, y4), (14, y14), (19, y19)]) h) := by
      unfold F48_rlllrlrrllrlrrlr
      simp only [b48_rlllrlrrllrlrrlr, kq_skip c48 223650, kq_seq c48 223651, r48_7, b48_rrrlllrlrrllrlrrlr, kq_skip c48 894606, r48_8, reduceIte, reduceCtorEq, XE.exit.injEq, Nat.reduceEqDiff, Nat.reduceMul, Nat.reduceAdd] <;> kernel_rfl
theorem b48_rllrlrrllrlrrlr  : kCode env 48 false inv k (cp c48 55913) (act 45 [(3, x3), (4, x4), (14, x14), (19, x19)]) h K = brV x19 (kCode env 48 false inv k (cp c48 111826) (act 45 [(3, x3), (4, x4), (14, x14), (19, x19)]) h K) (kCode env 48 false inv k (cp c48 111827) (act 45 [(3, x3), (4, x4), (14, x14), (19, x19)]) h K) := kq_cond
noncomputable abbrev G48_9 {β : Type} (inv : Inv) (x3 x4 x14 : Value) (h : AH) (K : Value → AH → Option β) : Option β :=
    bnd (pBin Try.prog .gtr 3 (.tmp 35) (.const (.int .i64 0)) x3 (.int .i64 0)) fun x36 =>
    bnd (gd (some x36) true h (some (x4, h))) fun x38 =>
    bnd (gd (some x36) true x38.2 (lt (pBin Try.prog .geq 21 (.tmp 38) (.const (.int .i32 48)) x38.1 (.int .i32 48)) x38.2)) fun x39 =>
    bnd (pickV x36 x39.1 (.bool false)) fun x40 =>
    bnd (gd (some x40) true x39.2 (some (x4, x39.2))) fun x42 =>
    bnd (gd (some x40) true x42.2 (lt (pBin Try.prog .leq 21 (.tmp 42) (.const (.int .i32 57)) x42.1 (.int .i32 57)) x42.2)) fun x43 =>
    bnd (pickV x40 x43.1 (.bool false)) fun x44 =>
    K (x44) x43.2
theorem r48_9  : kCode env 48 false inv k (cp c48 223654) (act 45 [(3, x3), (4, x4), (14, x14), (19, x19)]) h K =
    G48_9 inv x3 x4 x14 h fun y34 h => K .normal (act 45 [(14, x14), (34, y34)]) h := kq_reg
theorem b48_rrrllrlrrllrlrrlr  : kCode env 48 false inv k (cp c48 223655) (act 45 [(14, x14), (34, x34)]) h K = brV x34 (kCode env 48 false inv k (cp c48 447310) (act 45 [(14, x14), (34, x34)]) h K) (kCode env 48 false inv k (cp c48 447311) (act 45 [(14, x14), (34, x34)]) h K) := kq_cond
theorem r48_10  : kCode env 48 false inv k (cp c48 27958) (act 45 [(14, x14), (34, x34)]) h K =
    K .normal (act 45 [(2, (.int .i64 170))]) h := kq_reg
noncomputable def F48_lrlrrlr {β : Type} (inv : Inv) (k : Nat) : Nat → Value → Value → Value → Value → Value → AH → (Value → Value → Value → AH → Option β) → (Value → AH → Option β) → Option β
  | 0, _, _, _, _, _, _, _, _ => none
  | j + 1, x3, x4, x14, x19, x34, h, ke0, kr =>
    bnd (pNext x14 true h) fun x15 =>
    bnd (pExtract x15.1 0) fun x16 =>
    brV x16
    (bnd (pExtract x15.1 1) fun x17 =>
    bnd (pExtract x15.1 2) fun x18 =>
    G48_6 inv x17 x18 x14 x15.2 fun y19 h =>
    F48_rlllrlrrllrlrrlr inv k x17 x18 x14 y19 h
    (fun y3 y4 y14 y19_1 h_2 =>
    brV y19_1
    (F48_lrlrrlr inv k j y3 y4 y14 y19_1 unk h_2 ke0 kr)
    (G48_9 inv y3 y4 y14 h_2 fun y34 h_3 =>
    brV y34
    (F48_lrlrrlr inv k j unk unk y14 unk y34 h_3 ke0 kr)
    (kr (.int .i64 170) h_3))))
    (ke0 x14 x15.1 x16 x15.2)
theorem F48_lrlrrlr_j (j : Nat) : kLoop (kCode env 48 false inv k (cp c48 436)) j (act 45 [(3, x3), (4, x4), (14, x14), (19, x19), (34, x34)]) h K = F48_lrlrrlr inv k j x3 x4 x14 x19 x34 h (fun y14 y15 y16 h => K (.exit 0) (act 45 [(14, y14), (15, y15), (16, y16)]) h) (fun y2 h => K .ret (act 45 [(2, y2)]) h) := by
      induction j generalizing x3 x4 x14 x19 x34 h with
      | zero => rfl
      | succ j ih =>
        have ih_34 : ∀ (x3 x4 x14 x19 : Value) (h : AH), kLoop (kCode env 48 false inv k (cp c48 436)) j (act 45 [(3, x3), (4, x4), (14, x14), (19, x19)]) h K = F48_lrlrrlr inv k j x3 x4 x14 x19 unk h (fun y14 y15 y16 h => K (.exit 0) (act 45 [(14, y14), (15, y15), (16, y16)]) h) (fun y2 h => K .ret (act 45 [(2, y2)]) h) := fun x3 x4 x14 x19 h => by
          rw [show act 45 [(3, x3), (4, x4), (14, x14), (19, x19)] = act 45 [(3, x3), (4, x4), (14, x14), (19, x19), (34, unk)] from by kernel_rfl]; exact ih ..
        have ih_3_4_19 : ∀ (x14 x34 : Value) (h : AH), kLoop (kCode env 48 false inv k (cp c48 436)) j (act 45 [(14, x14), (34, x34)]) h K = F48_lrlrrlr inv k j unk unk x14 unk x34 h (fun y14 y15 y16 h => K (.exit 0) (act 45 [(14, y14), (15, y15), (16, y16)]) h) (fun y2 h => K .ret (act 45 [(2, y2)]) h) := fun x14 x34 h => by
          rw [show act 45 [(14, x14), (34, x34)] = act 45 [(3, unk), (4, unk), (14, x14), (19, unk), (34, x34)] from by kernel_rfl]; exact ih ..
        unfold F48_lrlrrlr
        simp only [kLoop, kq_seq c48 436, r48_4, kq_seq c48 873, b48_lrllrlrrlr, kq_skip c48 3492, kq_block c48 1747 1, kq_seq c48 3494, r48_5, kq_seq c48 6989, kq_block c48 13978 2, kq_seq c48 27956, kq_seq c48 55912, r48_6, F48_rlllrlrrllrlrrlr_eq, b48_rllrlrrllrlrrlr, kq_exit c48 111826 1, kq_seq c48 111827, r48_9, b48_rrrllrlrrllrlrrlr, kq_exit c48 447310 1, kq_skip c48 447311, kq_seq c48 13979, r48_10, kq_ret c48 27959, kq_exit c48 3493 0, ih, ih_34, ih_3_4_19, reduceIte, reduceCtorEq, XE.exit.injEq, Nat.reduceEqDiff, Nat.reduceMul, Nat.reduceAdd] <;> kernel_rfl
theorem F48_lrlrrlr_eq  : kCode env 48 false inv k (cp c48 218) (act 45 [(3, x3), (4, x4), (14, x14), (19, x19), (34, x34)]) h K = F48_lrlrrlr inv k k x3 x4 x14 x19 x34 h (fun y14 y15 y16 h => K (.exit 0) (act 45 [(14, y14), (15, y15), (16, y16)]) h) (fun y2 h => K .ret (act 45 [(2, y2)]) h) := kq_loop (F48_lrlrrlr_j k)
theorem F48_lrlrrlr_eq_3_4_19_34  : kCode env 48 false inv k (cp c48 218) (act 45 [(14, x14)]) h K = F48_lrlrrlr inv k k unk unk x14 unk unk h (fun y14 y15 y16 h => K (.exit 0) (act 45 [(14, y14), (15, y15), (16, y16)]) h) (fun y2 h => K .ret (act 45 [(2, y2)]) h) := by
      rw [show act 45 [(14, x14)] = act 45 [(3, unk), (4, unk), (14, x14), (19, unk), (34, unk)] from by kernel_rfl]; exact F48_lrlrrlr_eq ..
theorem r48_11  : kCode env 48 false inv k (cp c48 110) (act 45 [(14, x14), (15, x15), (16, x16)]) h K =
    K .normal (act 45 [(2, (.int .i64 0))]) h := kq_reg
/-- shadowbook/schema.Name -/
noncomputable def F48 (inv : Inv) (k : Nat) (x0 : Value) (h : AH) : Option (Value × AH) :=
    G48_1 inv x0 h fun y12 h =>
    brV y12
    (some ((.int .i64 170), h))
    (bnd (pRange Try.prog 9 x0 h) fun x14 =>
    F48_lrlrrlr inv k k unk unk x14.1 unk unk x14.2
    (fun y14 y15 y16 h_4 =>
    some ((.int .i64 0), h_4))
    (fun y2 h_5 =>
    some (y2, h_5)))
theorem F48_eq : eFun env k inv 48 #[x0] h = F48 inv k x0 h := by
      refine (kq_fun (a := act 45 [(0, x0)]) (c := cp c48 1)).trans ?_
      unfold F48
      simp only [kq_seq c48 1, r48_0, kq_scope c48 3, kq_seq c48 6, kq_seq c48 12, r48_1, b48_rllr, kq_seq c48 50, r48_2, kq_ret c48 101, res48_0, kq_skip c48 51, kq_seq c48 13, kq_label c48 26, kq_seq c48 27, kq_seq c48 54, r48_3, kq_block c48 109 0, F48_lrlrrlr_eq_3_4_19_34, kq_seq c48 55, r48_11, kq_ret c48 111, reduceIte, reduceCtorEq, XE.exit.injEq, Nat.reduceEqDiff, Nat.reduceMul, Nat.reduceAdd] <;> kernel_rfl
theorem F48_call : eInv env (k + 1) (.func 48) #[] #[x0] h = F48 (eInv env k) k x0 h := kq_inv F48_eq
noncomputable def c49 : Code := codeOf Try.prog 49
theorem r49_0  : kCode env 49 false inv k (cp c49 2) (act 9 [(0, x0), (1, x1)]) h K =
    K .normal (act 9 [(0, x0), (1, x1)]) h := kq_reg
theorem r49_1  : kCode env 49 false inv k (cp c49 6) (act 9 [(0, x0), (1, x1)]) h K =
    bnd (inv (.func 66) #[] #[x0, x1] h) fun x7 =>
    bnd (pBin Try.prog .geq 3 (.tmp 7) (.const (.int .i64 0)) x7.1 (.int .i64 0)) fun x8 =>
    K .normal (act 9 [(4, x8)]) x7.2 := kq_reg
theorem res49_0 : resOfFn env.P 49 .ret (act 9 [(4, x4)]) h = some (x4, h) := kq_res
/-- slices.ContainsFunc[[]shadowbook/api.Col,shadowbook/api.Col] -/
noncomputable def F49 (inv : Inv) (k : Nat) (x0 x1 : Value) (h : AH) : Option (Value × AH) :=
    bnd (inv (.func 66) #[] #[x0, x1] h) fun x7 =>
    bnd (pBin Try.prog .geq 3 (.tmp 7) (.const (.int .i64 0)) x7.1 (.int .i64 0)) fun x8 =>
    some (x8, x7.2)
theorem F49_eq : eFun env k inv 49 #[x0, x1] h = F49 inv k x0 x1 h := by
      refine (kq_fun (a := act 9 [(0, x0), (1, x1)]) (c := cp c49 1)).trans ?_
      unfold F49
      simp only [kq_seq c49 1, r49_0, kq_seq c49 3, r49_1, kq_ret c49 7, res49_0, reduceIte, reduceCtorEq, XE.exit.injEq, Nat.reduceEqDiff, Nat.reduceMul, Nat.reduceAdd] <;> kernel_rfl
theorem F49_call : eInv env (k + 1) (.func 49) #[] #[x0, x1] h = F49 (eInv env k) k x0 x1 h := kq_inv F49_eq
noncomputable def c50 : Code := codeOf Try.prog 50
theorem r50_0  : kCode env 50 false inv k (cp c50 2) (act 9 [(0, x0), (1, x1)]) h K =
    bnd (pBox Try.prog 50 x0 h) fun x2 =>
    K .normal (act 9 [(1, x1), (2, x2.1)]) x2.2 := kq_reg
theorem r50_1  : kCode env 50 false inv k (cp c50 6) (act 9 [(1, x1), (2, x2)]) h K =
    bnd (pFieldAddr Try.prog 50 x2 0) fun x4 =>
    bnd (pLoad Try.prog 9 x4 h) fun x5 =>
    bnd (pFieldAddr Try.prog 50 x1 0) fun x6 =>
    bnd (pLoad Try.prog 9 x6 h) fun x7 =>
    bnd (pBin Try.prog .eql 9 (.tmp 5) (.tmp 7) x5 x7) fun x8 =>
    K .normal (act 9 [(3, x8)]) h := kq_reg
theorem res50_0 : resOfFn env.P 50 .ret (act 9 [(3, x3)]) h = some (x3, h) := kq_res
/-- shadowbook/schema.Check$1 -/
noncomputable def F50 (inv : Inv) (k : Nat) (x0 x1 : Value) (h : AH) : Option (Value × AH) :=
    bnd (pBox Try.prog 50 x0 h) fun x2 =>
    bnd (pFieldAddr Try.prog 50 x2.1 0) fun x4 =>
    bnd (pLoad Try.prog 9 x4 x2.2) fun x5 =>
    bnd (pFieldAddr Try.prog 50 x1 0) fun x6 =>
    bnd (pLoad Try.prog 9 x6 x2.2) fun x7 =>
    bnd (pBin Try.prog .eql 9 (.tmp 5) (.tmp 7) x5 x7) fun x8 =>
    some (x8, x2.2)
theorem F50_eq : eFun env k inv 50 #[x0, x1] h = F50 inv k x0 x1 h := by
      refine (kq_fun (a := act 9 [(0, x0), (1, x1)]) (c := cp c50 1)).trans ?_
      unfold F50
      simp only [kq_seq c50 1, r50_0, kq_seq c50 3, r50_1, kq_ret c50 7, res50_0, reduceIte, reduceCtorEq, XE.exit.injEq, Nat.reduceEqDiff, Nat.reduceMul, Nat.reduceAdd] <;> kernel_rfl
theorem F50_call : eInv env (k + 1) (.func 50) #[] #[x0, x1] h = F50 (eInv env k) k x0 x1 h := kq_inv F50_eq
end Go.Proofs.Ytmhgihjmhmihpaa.Sh
