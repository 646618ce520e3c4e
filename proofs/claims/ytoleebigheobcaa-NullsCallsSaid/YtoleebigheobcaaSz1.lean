/- Shallow functions, part 1. Printed by a program of the prover's own from the loaded program; Lean checks it. -/
import Derived.Test.YtoleebigheobcaaSz0
set_option linter.unusedVariables false
set_option linter.unusedSimpArgs false
set_option maxRecDepth 100000
namespace Go.Proofs.Ytoleebigheobcaa.Sh
open Go Go.RowKit Go.Proofs.Ev
variable {β : Type} {inv : Inv} {k : Nat} {h : AH} {K : XE → Act → AH → Option β} {x0 x1 x2 x3 x4 x5 x6 x7 x8 x9 x10 x11 x12 x13 x14 x15 x16 x17 x18 x19 x20 x21 x22 x23 x24 x25 x26 x27 x28 x29 x30 x31 x32 x33 x34 x35 x36 x37 x38 x39 x40 x41 x42 x43 x44 x45 x46 x47 x48 x49 x50 x51 x52 x53 x54 x55 x56 x57 x59 x60 x61 x62 x63 x64 x66 x67 x68 x70 x71 x72 x73 x74 x75 x76 x77 x78 x79 x80 x81 x82 x83 x84 x85 x86 x87 x88 x89 x90 x91 x92 x94 x95 x96 x97 x98 x99 x100 x101 x102 x103 x104 x105 x106 x107 x109 x112 x113 x114 x121 x125 x126 x127 x129 x133 x134 x135 x136 x139 x140 x141 x142 z0 z1 : Value}
noncomputable def c3 : Code := codeOf Try.prog 3
theorem r3_0  : kCode env 3 false inv k (cp c3 2) (act 143 [(0, x0)]) h K =
    K .normal (act 143 [(0, x0)]) h := kq_reg
theorem r3_1  : kCode env 3 false inv k (cp c3 12) (act 143 [(0, x0)]) h K =
    bnd (inv (.func 8) #[] #[] h) fun x13 =>
    bnd (pUn Try.prog .not x13.1) fun x14 =>
    K .normal (act 143 [(0, x0), (14, x14)]) x13.2 := kq_reg
theorem b3_rlr  : kCode env 3 false inv k (cp c3 13) (act 143 [(0, x0), (14, x14)]) h K = brV x14 (kCode env 3 false inv k (cp c3 26) (act 143 [(0, x0), (14, x14)]) h K) (kCode env 3 false inv k (cp c3 27) (act 143 [(0, x0), (14, x14)]) h K) := kq_cond
theorem r3_2  : kCode env 3 false inv k (cp c3 52) (act 143 [(0, x0), (14, x14)]) h K =
    K .normal (act 143 [(2, (.bool false))]) h := kq_reg
theorem res3_0 : resOfFn env.P 3 .ret (act 143 [(2, x2)]) h = some (x2, h) := kq_res
theorem r3_3  : kCode env 3 false inv k (cp c3 28) (act 143 [(0, x0), (14, x14)]) h K =
    bnd (pLen Try.prog #[22] x0 h) fun x16 =>
    bnd (pBin Try.prog .gtr 3 (.tmp 16) (.const (.int .i64 300)) x16 (.int .i64 300)) fun x17 =>
    K .normal (act 143 [(0, x0), (17, x17)]) h := kq_reg
theorem b3_rlrr  : kCode env 3 false inv k (cp c3 29) (act 143 [(0, x0), (17, x17)]) h K = brV x17 (kCode env 3 false inv k (cp c3 58) (act 143 [(0, x0), (17, x17)]) h K) (kCode env 3 false inv k (cp c3 59) (act 143 [(0, x0), (17, x17)]) h K) := kq_cond
theorem r3_4  : kCode env 3 false inv k (cp c3 116) (act 143 [(0, x0), (17, x17)]) h K =
    K .normal (act 143 [(2, (.bool true))]) h := kq_reg
theorem r3_5  : kCode env 3 false inv k (cp c3 30) (act 143 [(0, x0), (17, x17)]) h K =
    bnd (inv (.func 9) #[] #[x0] h) fun x19 =>
    K .normal (act 143 [(0, x0), (3, x19.1)]) x19.2 := kq_reg
theorem r3_6  : kCode env 3 false inv k (cp c3 62) (act 143 [(0, x0), (3, x3)]) h K =
    bnd (pLen Try.prog #[22] x0 h) fun x22 =>
    bnd (pBin Try.prog .sub 3 (.tmp 22) (.tmp 23) x22 x3) fun x24 =>
    bnd (inv (.func 10) #[] #[x0, x24] h) fun x25 =>
    K .normal (act 143 [(0, x0), (3, x3), (4, x25.1)]) x25.2 := kq_reg
noncomputable abbrev G3_7 {β : Type} (inv : Inv) (x0 x3 x4 : Value) (h : AH) (K : Value → AH → Option β) : Option β :=
    bnd (pLen Try.prog #[25] x4 h) fun x27 =>
    bnd (pLen Try.prog #[22] x0 h) fun x29 =>
    bnd (pBin Try.prog .neq 3 (.tmp 27) (.tmp 29) x27 x29) fun x30 =>
    bnd (gd (some x30) false h (some (x3, h))) fun x32 =>
    bnd (gd (some x30) false x32.2 (lt (pBin Try.prog .lss 3 (.tmp 32) (.const (.int .i64 0)) x32.1 (.int .i64 0)) x32.2)) fun x33 =>
    bnd (pickV x30 (.bool true) x33.1) fun x34 =>
    bnd (gd (some x34) false x33.2 (some (x3, x33.2))) fun x36 =>
    bnd (gd (some x34) false x36.2 (some (x0, x36.2))) fun x37 =>
    bnd (gd (some x34) false x37.2 (lt (pLen Try.prog #[22] x37.1 x37.2) x37.2)) fun x38 =>
    bnd (gd (some x34) false x38.2 (lt (pBin Try.prog .gtr 3 (.tmp 36) (.tmp 38) x36.1 x38.1) x38.2)) fun x39 =>
    bnd (pickV x34 (.bool true) x39.1) fun x40 =>
    K (x40) x39.2
theorem r3_7  : kCode env 3 false inv k (cp c3 252) (act 143 [(0, x0), (3, x3), (4, x4)]) h K =
    G3_7 inv x0 x3 x4 h fun y40 h => K .normal (act 143 [(0, x0), (4, x4), (40, y40)]) h := kq_reg
theorem b3_rlrrrrr  : kCode env 3 false inv k (cp c3 253) (act 143 [(0, x0), (4, x4), (40, x40)]) h K = brV x40 (kCode env 3 false inv k (cp c3 506) (act 143 [(0, x0), (4, x4), (40, x40)]) h K) (kCode env 3 false inv k (cp c3 507) (act 143 [(0, x0), (4, x4), (40, x40)]) h K) := kq_cond
theorem r3_8  : kCode env 3 false inv k (cp c3 1012) (act 143 [(0, x0), (4, x4), (40, x40)]) h K =
    K .normal (act 143 [(2, (.bool false))]) h := kq_reg
theorem r3_9  : kCode env 3 false inv k (cp c3 254) (act 143 [(0, x0), (4, x4), (40, x40)]) h K =
    K .normal (act 143 [(0, x0), (4, x4), (5, (.int .i64 0))]) h := kq_reg
theorem r3_10  : kCode env 3 false inv k (cp c3 1020) (act 143 [(0, x0), (4, x4), (5, x5)]) h K =
    K .normal (act 143 [(0, x0), (4, x4), (5, x5), (6, (.int .i64 0))]) h := kq_reg
theorem r3_11  : kCode env 3 false inv k (cp c3 16336) (act 143 [(0, x0), (4, x4), (5, x5), (6, x6)]) h K =
    bnd (pLen Try.prog #[22] x0 h) fun x43 =>
    bnd (pBin Try.prog .lss 3 (.tmp 41) (.tmp 43) x6 x43) fun x44 =>
    K .normal (act 143 [(0, x0), (4, x4), (5, x5), (6, x6), (44, x44)]) h := kq_reg
theorem b3_rlllrlrrrrrrr  : kCode env 3 false inv k (cp c3 16337) (act 143 [(0, x0), (4, x4), (5, x5), (6, x6), (44, x44)]) h K = brV x44 (kCode env 3 false inv k (cp c3 32674) (act 143 [(0, x0), (4, x4), (5, x5), (6, x6), (44, x44)]) h K) (kCode env 3 false inv k (cp c3 32675) (act 143 [(0, x0), (4, x4), (5, x5), (6, x6), (44, x44)]) h K) := kq_cond
noncomputable abbrev G3_13 {β : Type} (inv : Inv) (x0 x4 x5 x6 : Value) (h : AH) (K : Value → AH → Option β) : Option β :=
    bnd (pIndexAddr Try.prog 22 x0 x6) fun x49 =>
    bnd (pLoad Try.prog 4 x49 h) fun x50 =>
    bnd (gd (some x50) true h (some (x4, h))) fun x52 =>
    bnd (gd (some x50) true x52.2 (some (x6, x52.2))) fun x53 =>
    bnd (gd (some x50) true x53.2 (lt (pIndexAddr Try.prog 25 x52.1 x53.1) x53.2)) fun x54 =>
    bnd (gd (some x50) true x54.2 (lt (pLoad Try.prog 3 x54.1 x54.2) x54.2)) fun x55 =>
    bnd (gd (some x50) true x55.2 (lt (pBin Try.prog .neq 3 (.tmp 55) (.const (.int .i64 (-1))) x55.1 (.int .i64 (-1))) x55.2)) fun x56 =>
    bnd (pickV x50 x56.1 (.bool false)) fun x57 =>
    bnd (gd (some x57) false x56.2 (some (x0, x56.2))) fun x59 =>
    bnd (gd (some x57) false x59.2 (some (x6, x59.2))) fun x60 =>
    bnd (gd (some x57) false x60.2 (lt (pIndexAddr Try.prog 22 x59.1 x60.1) x60.2)) fun x61 =>
    bnd (gd (some x57) false x61.2 (lt (pLoad Try.prog 4 x61.1 x61.2) x61.2)) fun x62 =>
    bnd (gd (some x57) false x62.2 (lt (pUn Try.prog .not x62.1) x62.2)) fun x63 =>
    bnd (gd (some x57) false x63.2 (some (x63.1, x63.2))) fun x64 =>
    bnd (gd (some x64.1) true x64.2 (some (x4, x64.2))) fun x65 =>
    bnd (gd (some x64.1) true x65.2 (some (x6, x65.2))) fun x66 =>
    bnd (gd (some x64.1) true x66.2 (lt (pIndexAddr Try.prog 25 x65.1 x66.1) x66.2)) fun x67 =>
    bnd (gd (some x64.1) true x67.2 (lt (pLoad Try.prog 3 x67.1 x67.2) x67.2)) fun x68 =>
    bnd (gd (some x64.1) true x68.2 (some (x5, x68.2))) fun x69 =>
    bnd (gd (some x64.1) true x69.2 (lt (pBin Try.prog .neq 3 (.tmp 68) (.tmp 69) x68.1 x69.1) x69.2)) fun x70 =>
    bnd (gd (some x57) false x70.2 (lt (pickV x64.1 x70.1 (.bool false)) x70.2)) fun x71 =>
    bnd (pickV x57 (.bool true) x71.1) fun x72 =>
    K (x72) x71.2
theorem r3_13  : kCode env 3 false inv k (cp c3 130704) (act 143 [(0, x0), (4, x4), (5, x5), (6, x6), (44, x44)]) h K =
    G3_13 inv x0 x4 x5 x6 h fun y72 h => K .normal (act 143 [(0, x0), (4, x4), (5, x5), (6, x6), (72, y72)]) h := kq_reg
theorem b3_rlllrllrlrrrrrrr  : kCode env 3 false inv k (cp c3 130705) (act 143 [(0, x0), (4, x4), (5, x5), (6, x6), (72, x72)]) h K = brV x72 (kCode env 3 false inv k (cp c3 261410) (act 143 [(0, x0), (4, x4), (5, x5), (6, x6), (72, x72)]) h K) (kCode env 3 false inv k (cp c3 261411) (act 143 [(0, x0), (4, x4), (5, x5), (6, x6), (72, x72)]) h K) := kq_cond
theorem r3_14  : kCode env 3 false inv k (cp c3 522820) (act 143 [(0, x0), (4, x4), (5, x5), (6, x6), (72, x72)]) h K =
    K .normal (act 143 [(2, (.bool false))]) h := kq_reg
theorem r3_15  : kCode env 3 false inv k (cp c3 130706) (act 143 [(0, x0), (4, x4), (5, x5), (6, x6), (72, x72)]) h K =
    bnd (pIndexAddr Try.prog 22 x0 x6) fun x75 =>
    bnd (pLoad Try.prog 4 x75 h) fun x76 =>
    bnd (pUn Try.prog .not x76) fun x77 =>
    K .normal (act 143 [(0, x0), (4, x4), (5, x5), (6, x6), (77, x77)]) h := kq_reg
theorem b3_rrllrllrlrrrrrrr  : kCode env 3 false inv k (cp c3 130707) (act 143 [(0, x0), (4, x4), (5, x5), (6, x6), (77, x77)]) h K = brV x77 (kCode env 3 false inv k (cp c3 261414) (act 143 [(0, x0), (4, x4), (5, x5), (6, x6), (77, x77)]) h K) (kCode env 3 false inv k (cp c3 261415) (act 143 [(0, x0), (4, x4), (5, x5), (6, x6), (77, x77)]) h K) := kq_cond
theorem r3_16  : kCode env 3 false inv k (cp c3 261414) (act 143 [(0, x0), (4, x4), (5, x5), (6, x6), (77, x77)]) h K =
    bnd (pBin Try.prog .add 3 (.tmp 78) (.const (.int .i64 1)) x5 (.int .i64 1)) fun x79 =>
    K .normal (act 143 [(0, x0), (4, x4), (5, x79), (6, x6)]) h := kq_reg
noncomputable def F3_lrllrlrrrrrrr {β : Type} (inv : Inv) (k : Nat) (x0 x4 x5 x6 x44 : Value) (h : AH) (kn : (Value → Value → Value → Value → Value → AH → Option β)) (kr : (Value → AH → Option β)) : Option β :=
    G3_13 inv x0 x4 x5 x6 h fun y72 h =>
    brV y72
    (kr (.bool false) h)
    (bnd (pIndexAddr Try.prog 22 x0 x6) fun x75 =>
    bnd (pLoad Try.prog 4 x75 h) fun x76 =>
    bnd (pUn Try.prog .not x76) fun x77 =>
    brV x77
    (bnd (pBin Try.prog .add 3 (.tmp 78) (.const (.int .i64 1)) x5 (.int .i64 1)) fun x79 =>
    kn x0 x4 x79 x6 unk h)
    (kn x0 x4 x5 x6 x77 h))
theorem F3_lrllrlrrrrrrr_eq  : kCode env 3 false inv k (cp c3 16338) (act 143 [(0, x0), (4, x4), (5, x5), (6, x6), (44, x44)]) h K = F3_lrllrlrrrrrrr inv k x0 x4 x5 x6 x44 h (fun y0 y4 y5 y6 y77 h => K .normal (act 143 [(0, y0), (4, y4), (5, y5), (6, y6), (77, y77)]) h) (fun y2 h => K .ret (act 143 [(2, y2)]) h) := by
      unfold F3_lrllrlrrrrrrr
      simp only [kq_block c3 16338 1, kq_seq c3 32676, kq_seq c3 65352, r3_13, b3_rlllrllrlrrrrrrr, kq_seq c3 261410, r3_14, kq_ret c3 522821, kq_skip c3 261411, kq_seq c3 65353, r3_15, b3_rrllrllrlrrrrrrr, r3_16, kq_skip c3 261415, reduceIte, reduceCtorEq, XE.exit.injEq, Nat.reduceEqDiff, Nat.reduceMul, Nat.reduceAdd] <;> kernel_rfl
theorem r3_12  : kCode env 3 false inv k (cp c3 16339) (act 143 [(0, x0), (4, x4), (5, x5), (6, x6), (77, x77)]) h K =
    bnd (pBin Try.prog .add 3 (.tmp 45) (.const (.int .i64 1)) x6 (.int .i64 1)) fun x46 =>
    K .normal (act 143 [(0, x0), (4, x4), (5, x5), (6, x46)]) h := kq_reg
noncomputable def F3_lrlrrrrrrr {β : Type} (inv : Inv) (k : Nat) : Nat → Value → Value → Value → Value → AH → (Value → Value → Value → Value → Value → AH → Option β) → (Value → AH → Option β) → Option β
  | 0, _, _, _, _, _, _, _ => none
  | j + 1, x0, x4, x5, x6, h, ke0, kr =>
    bnd (pLen Try.prog #[22] x0 h) fun x43 =>
    bnd (pBin Try.prog .lss 3 (.tmp 41) (.tmp 43) x6 x43) fun x44 =>
    brV x44
    (F3_lrllrlrrrrrrr inv k x0 x4 x5 x6 x44 h
    (fun y0 y4 y5 y6 y77 h =>
    bnd (pBin Try.prog .add 3 (.tmp 45) (.const (.int .i64 1)) y6 (.int .i64 1)) fun x46 =>
    F3_lrlrrrrrrr inv k j y0 y4 y5 x46 h ke0 kr)
    (fun y2 h_1 =>
    kr y2 h_1))
    (ke0 x0 x4 x5 x6 x44 h)
theorem F3_lrlrrrrrrr_j (j : Nat) : kLoop (kCode env 3 false inv k (cp c3 4084)) j (act 143 [(0, x0), (4, x4), (5, x5), (6, x6)]) h K = F3_lrlrrrrrrr inv k j x0 x4 x5 x6 h (fun y0 y4 y5 y6 y44 h => K (.exit 0) (act 143 [(0, y0), (4, y4), (5, y5), (6, y6), (44, y44)]) h) (fun y2 h => K .ret (act 143 [(2, y2)]) h) := by
      induction j generalizing x0 x4 x5 x6 h with
      | zero => rfl
      | succ j ih =>
        unfold F3_lrlrrrrrrr
        simp only [kLoop, kq_seq c3 4084, kq_seq c3 8168, r3_11, b3_rlllrlrrrrrrr, kq_skip c3 32674, kq_seq c3 8169, F3_lrllrlrrrrrrr_eq, r3_12, kq_exit c3 32675 0, ih, reduceIte, reduceCtorEq, XE.exit.injEq, Nat.reduceEqDiff, Nat.reduceMul, Nat.reduceAdd] <;> kernel_rfl
theorem F3_lrlrrrrrrr_eq  : kCode env 3 false inv k (cp c3 2042) (act 143 [(0, x0), (4, x4), (5, x5), (6, x6)]) h K = F3_lrlrrrrrrr inv k k x0 x4 x5 x6 h (fun y0 y4 y5 y6 y44 h => K (.exit 0) (act 143 [(0, y0), (4, y4), (5, y5), (6, y6), (44, y44)]) h) (fun y2 h => K .ret (act 143 [(2, y2)]) h) := kq_loop (F3_lrlrrrrrrr_j k)
theorem r3_17  : kCode env 3 false inv k (cp c3 1022) (act 143 [(0, x0), (4, x4), (5, x5), (6, x6), (44, x44)]) h K =
    bnd (inv (.func 11) #[] #[x0] h) fun x82 =>
    bnd (pExtract x82.1 0) fun x83 =>
    bnd (pExtract x82.1 1) fun x84 =>
    bnd (pExtract x82.1 2) fun x85 =>
    K .normal (act 143 [(0, x0), (7, x83), (8, x84), (9, x85)]) x82.2 := kq_reg
theorem r3_18  : kCode env 3 false inv k (cp c3 2046) (act 143 [(0, x0), (7, x7), (8, x8), (9, x9)]) h K =
    K .normal (act 143 [(0, x0), (7, x7), (8, x8), (9, x9), (10, (.slice none 0 0))]) h := kq_reg
theorem r3_19  : kCode env 3 false inv k (cp c3 8188) (act 143 [(0, x0), (7, x7), (8, x8), (9, x9), (10, x10)]) h K =
    K .normal (act 143 [(0, x0), (7, x7), (8, x8), (9, x9), (10, x10), (11, (.int .i64 0))]) h := kq_reg
theorem r3_20  : kCode env 3 false inv k (cp c3 131024) (act 143 [(0, x0), (7, x7), (8, x8), (9, x9), (10, x10), (11, x11)]) h K =
    bnd (pLen Try.prog #[25] x7 h) fun x88 =>
    bnd (pBin Try.prog .lss 3 (.tmp 86) (.tmp 88) x11 x88) fun x89 =>
    K .normal (act 143 [(0, x0), (7, x7), (8, x8), (9, x9), (10, x10), (11, x11), (89, x89)]) h := kq_reg
theorem b3_rlllrlrrrrrrrrrr  : kCode env 3 false inv k (cp c3 131025) (act 143 [(0, x0), (7, x7), (8, x8), (9, x9), (10, x10), (11, x11), (89, x89)]) h K = brV x89 (kCode env 3 false inv k (cp c3 262050) (act 143 [(0, x0), (7, x7), (8, x8), (9, x9), (10, x10), (11, x11), (89, x89)]) h K) (kCode env 3 false inv k (cp c3 262051) (act 143 [(0, x0), (7, x7), (8, x8), (9, x9), (10, x10), (11, x11), (89, x89)]) h K) := kq_cond
noncomputable abbrev G3_22 {β : Type} (inv : Inv) (x0 x7 x8 x9 x10 x11 : Value) (h : AH) (K : Value → AH → Option β) : Option β :=
    bnd (pIndexAddr Try.prog 25 x7 x11) fun x94 =>
    bnd (pLoad Try.prog 3 x94 h) fun x95 =>
    bnd (pBin Try.prog .lss 3 (.tmp 95) (.const (.int .i64 1)) x95 (.int .i64 1)) fun x96 =>
    bnd (gd3 (some x96) false h (some (x7, h))) fun x98 =>
    bnd (gd3 (some x96) false x98.2.1 (some (x11, x98.2.1))) fun x99 =>
    bnd (gd3 (some x96) false x99.2.1 (lt (pIndexAddr Try.prog 25 x98.1 x99.1) x99.2.1)) fun x100 =>
    bnd (gd3 (some x96) false x100.2.1 (lt (pLoad Try.prog 3 x100.1 x100.2.1) x100.2.1)) fun x101 =>
    bnd (gd3 (some x96) false x101.2.1 (some (x0, x101.2.1))) fun x102 =>
    bnd (gd3 (some x96) false x102.2.1 (lt (pLen Try.prog #[22] x102.1 x102.2.1) x102.2.1)) fun x103 =>
    bnd (gd3 (some x96) false x103.2.1 (lt (pBin Try.prog .gtr 3 (.tmp 101) (.tmp 103) x101.1 x103.1) x103.2.1)) fun x104 =>
    bnd (pickV x96 (.bool true) x104.1) fun x105 =>
    bnd (gd3 (some x105) false x104.2.1 (some (x11, x104.2.1))) fun x107 =>
    bnd (gd3 (some x105) false x107.2.1 (lt (pBin Try.prog .gtr 3 (.tmp 107) (.const (.int .i64 0)) x107.1 (.int .i64 0)) x107.2.1)) fun x108 =>
    bnd (gd3 (some x105) false x108.2.1 (some (x108.1, x108.2.1))) fun x109 =>
    bnd (gd3 (some x109.1) true x109.2.1 (some (x8, x109.2.1))) fun x110 =>
    bnd (gd3 (some x109.1) true x110.2.1 (some (x11, x110.2.1))) fun x111 =>
    bnd (gd3 (some x109.1) true x111.2.1 (lt (pIndexAddr Try.prog 22 x110.1 x111.1) x111.2.1)) fun x112 =>
    bnd (gd3 (some x109.1) true x112.2.1 (lt (pLoad Try.prog 4 x112.1 x112.2.1) x112.2.1)) fun x113 =>
    bnd (gd3 (some x109.1) true x113.2.1 (some (x8, x113.2.1))) fun x114 =>
    bnd (gd3 (some x109.1) true x114.2.1 (some (x11, x114.2.1))) fun x115 =>
    bnd (gd3 (some x109.1) true x115.2.1 (lt (pBin Try.prog .sub 3 (.tmp 115) (.const (.int .i64 1)) x115.1 (.int .i64 1)) x115.2.1)) fun x116 =>
    bnd (gd3 (some x109.1) true x116.2.1 (lt (pIndexAddr Try.prog 22 x114.1 x116.1) x116.2.1)) fun x117 =>
    bnd (gd3 (some x109.1) true x117.2.1 (lt (pLoad Try.prog 4 x117.1 x117.2.1) x117.2.1)) fun x118 =>
    bnd (gd3 (some x109.1) true x118.2.1 (lt (pBin Try.prog .eql 4 (.tmp 113) (.tmp 118) x113.1 x118.1) x118.2.1)) fun x119 =>
    bnd (gd3 (some x105) false x119.2.1 (lt (pickV x109.1 x119.1 (.bool false)) x119.2.1)) fun x120 =>
    bnd (pickV x105 (.bool true) x120.1) fun x121 =>
    K (x121) x120.2.1
theorem r3_22  : kCode env 3 false inv k (cp c3 1048208) (act 143 [(0, x0), (7, x7), (8, x8), (9, x9), (10, x10), (11, x11), (89, x89)]) h K =
    G3_22 inv x0 x7 x8 x9 x10 x11 h fun y121 h => K .normal (act 143 [(0, x0), (7, x7), (8, x8), (9, x9), (10, x10), (11, x11), (121, y121)]) h := kq_draw
theorem b3_rlllrllrlrrrrrrrrrr  : kCode env 3 false inv k (cp c3 1048209) (act 143 [(0, x0), (7, x7), (8, x8), (9, x9), (10, x10), (11, x11), (121, x121)]) h K = brV x121 (kCode env 3 false inv k (cp c3 2096418) (act 143 [(0, x0), (7, x7), (8, x8), (9, x9), (10, x10), (11, x11), (121, x121)]) h K) (kCode env 3 false inv k (cp c3 2096419) (act 143 [(0, x0), (7, x7), (8, x8), (9, x9), (10, x10), (11, x11), (121, x121)]) h K) := kq_cond
theorem r3_23  : kCode env 3 false inv k (cp c3 4192836) (act 143 [(0, x0), (7, x7), (8, x8), (9, x9), (10, x10), (11, x11), (121, x121)]) h K =
    K .normal (act 143 [(2, (.bool false))]) h := kq_reg
theorem r3_24  : kCode env 3 false inv k (cp c3 1048210) (act 143 [(0, x0), (7, x7), (8, x8), (9, x9), (10, x10), (11, x11), (121, x121)]) h K =
    K .normal (act 143 [(0, x0), (7, x7), (8, x8), (9, x9), (10, x10), (11, x11), (12, (.int .i64 0))]) h := kq_reg
theorem r3_25  : kCode env 3 false inv k (cp c3 16771376) (act 143 [(0, x0), (7, x7), (8, x8), (9, x9), (10, x10), (11, x11), (12, x12)]) h K =
    bnd (pIndexAddr Try.prog 25 x7 x11) fun x125 =>
    bnd (pLoad Try.prog 3 x125 h) fun x126 =>
    bnd (pBin Try.prog .lss 3 (.tmp 122) (.tmp 126) x12 x126) fun x127 =>
    K .normal (act 143 [(0, x0), (7, x7), (8, x8), (9, x9), (10, x10), (11, x11), (12, x12), (127, x127)]) h := kq_reg
theorem b3_rlllrrllrllrlrrrrrrrrrr  : kCode env 3 false inv k (cp c3 16771377) (act 143 [(0, x0), (7, x7), (8, x8), (9, x9), (10, x10), (11, x11), (12, x12), (127, x127)]) h K = brV x127 (kCode env 3 false inv k (cp c3 33542754) (act 143 [(0, x0), (7, x7), (8, x8), (9, x9), (10, x10), (11, x11), (12, x12), (127, x127)]) h K) (kCode env 3 false inv k (cp c3 33542755) (act 143 [(0, x0), (7, x7), (8, x8), (9, x9), (10, x10), (11, x11), (12, x12), (127, x127)]) h K) := kq_cond
theorem r3_27  : kCode env 3 false inv k (cp c3 33542756) (act 143 [(0, x0), (7, x7), (8, x8), (9, x9), (10, x10), (11, x11), (12, x12), (127, x127)]) h K =
    bnd (pIndexAddr Try.prog 22 x8 x11) fun x133 =>
    bnd (pLoad Try.prog 4 x133 h) fun x134 =>
    bnd (pBuildSlice Try.prog 22 1 #[(0, x134)] h) fun x135 =>
    bnd (pAppend Try.prog #[22, 22] x10 x135.1 x135.2) fun x136 =>
    K .normal (act 143 [(0, x0), (7, x7), (8, x8), (9, x9), (10, x136.1), (11, x11), (12, x12)]) x136.2 := kq_reg
theorem r3_26  : kCode env 3 false inv k (cp c3 16771379) (act 143 [(0, x0), (7, x7), (8, x8), (9, x9), (10, x10), (11, x11), (12, x12)]) h K =
    bnd (pBin Try.prog .add 3 (.tmp 128) (.const (.int .i64 1)) x12 (.int .i64 1)) fun x129 =>
    K .normal (act 143 [(0, x0), (7, x7), (8, x8), (9, x9), (10, x10), (11, x11), (12, x129)]) h := kq_reg
noncomputable def F3_lrrllrllrlrrrrrrrrrr {β : Type} (inv : Inv) (k : Nat) : Nat → Value → Value → Value → Value → Value → Value → Value → AH → (Value → Value → Value → Value → Value → Value → Value → Value → AH → Option β) → Option β
  | 0, _, _, _, _, _, _, _, _, _ => none
  | j + 1, x0, x7, x8, x9, x10, x11, x12, h, ke4 =>
    bnd (pIndexAddr Try.prog 25 x7 x11) fun x125 =>
    bnd (pLoad Try.prog 3 x125 h) fun x126 =>
    bnd (pBin Try.prog .lss 3 (.tmp 122) (.tmp 126) x12 x126) fun x127 =>
    brV x127
    (bnd (pIndexAddr Try.prog 22 x8 x11) fun x133 =>
    bnd (pLoad Try.prog 4 x133 h) fun x134 =>
    bnd (pBuildSlice Try.prog 22 1 #[(0, x134)] h) fun x135 =>
    bnd (pAppend Try.prog #[22, 22] x10 x135.1 x135.2) fun x136 =>
    bnd (pBin Try.prog .add 3 (.tmp 128) (.const (.int .i64 1)) x12 (.int .i64 1)) fun x129 =>
    F3_lrrllrllrlrrrrrrrrrr inv k j x0 x7 x8 x9 x136.1 x11 x129 x136.2 ke4)
    (ke4 x0 x7 x8 x9 x10 x11 x12 x127 h)
theorem F3_lrrllrllrlrrrrrrrrrr_j (j : Nat) : kLoop (kCode env 3 false inv k (cp c3 4192844)) j (act 143 [(0, x0), (7, x7), (8, x8), (9, x9), (10, x10), (11, x11), (12, x12)]) h K = F3_lrrllrllrlrrrrrrrrrr inv k j x0 x7 x8 x9 x10 x11 x12 h (fun y0 y7 y8 y9 y10 y11 y12 y127 h => K (.exit 4) (act 143 [(0, y0), (7, y7), (8, y8), (9, y9), (10, y10), (11, y11), (12, y12), (127, y127)]) h) := by
      induction j generalizing x0 x7 x8 x9 x10 x11 x12 h with
      | zero => rfl
      | succ j ih =>
        unfold F3_lrrllrllrlrrrrrrrrrr
        simp only [kLoop, kq_seq c3 4192844, kq_seq c3 8385688, r3_25, b3_rlllrrllrllrlrrrrrrrrrr, kq_skip c3 33542754, kq_seq c3 8385689, kq_block c3 16771378 5, r3_27, r3_26, kq_exit c3 33542755 4, ih, reduceIte, reduceCtorEq, XE.exit.injEq, Nat.reduceEqDiff, Nat.reduceMul, Nat.reduceAdd] <;> kernel_rfl
theorem F3_lrrllrllrlrrrrrrrrrr_eq  : kCode env 3 false inv k (cp c3 2096422) (act 143 [(0, x0), (7, x7), (8, x8), (9, x9), (10, x10), (11, x11), (12, x12)]) h K = F3_lrrllrllrlrrrrrrrrrr inv k k x0 x7 x8 x9 x10 x11 x12 h (fun y0 y7 y8 y9 y10 y11 y12 y127 h => K (.exit 4) (act 143 [(0, y0), (7, y7), (8, y8), (9, y9), (10, y10), (11, y11), (12, y12), (127, y127)]) h) := kq_loop (F3_lrrllrllrlrrrrrrrrrr_j k)
theorem r3_21  : kCode env 3 false inv k (cp c3 131027) (act 143 [(0, x0), (7, x7), (8, x8), (9, x9), (10, x10), (11, x11), (12, x12), (127, x127)]) h K =
    bnd (pBin Try.prog .add 3 (.tmp 90) (.const (.int .i64 1)) x11 (.int .i64 1)) fun x91 =>
    K .normal (act 143 [(0, x0), (7, x7), (8, x8), (9, x9), (10, x10), (11, x91)]) h := kq_reg
noncomputable def F3_lrlrrrrrrrrrr {β : Type} (inv : Inv) (k : Nat) : Nat → Value → Value → Value → Value → Value → Value → AH → (Value → Value → Value → Value → Value → Value → Value → AH → Option β) → (Value → AH → Option β) → Option β
  | 0, _, _, _, _, _, _, _, _, _ => none
  | j + 1, x0, x7, x8, x9, x10, x11, h, ke2, kr =>
    bnd (pLen Try.prog #[25] x7 h) fun x88 =>
    bnd (pBin Try.prog .lss 3 (.tmp 86) (.tmp 88) x11 x88) fun x89 =>
    brV x89
    (G3_22 inv x0 x7 x8 x9 x10 x11 h fun y121 h =>
    brV y121
    (kr (.bool false) h)
    (F3_lrrllrllrlrrrrrrrrrr inv k k x0 x7 x8 x9 x10 x11 (.int .i64 0) h
    (fun y0 y7 y8 y9 y10 y11 y12 y127 h_3 =>
    bnd (pBin Try.prog .add 3 (.tmp 90) (.const (.int .i64 1)) y11 (.int .i64 1)) fun x91 =>
    F3_lrlrrrrrrrrrr inv k j y0 y7 y8 y9 y10 x91 h_3 ke2 kr)))
    (ke2 x0 x7 x8 x9 x10 x11 x89 h)
theorem F3_lrlrrrrrrrrrr_j (j : Nat) : kLoop (kCode env 3 false inv k (cp c3 32756)) j (act 143 [(0, x0), (7, x7), (8, x8), (9, x9), (10, x10), (11, x11)]) h K = F3_lrlrrrrrrrrrr inv k j x0 x7 x8 x9 x10 x11 h (fun y0 y7 y8 y9 y10 y11 y89 h => K (.exit 2) (act 143 [(0, y0), (7, y7), (8, y8), (9, y9), (10, y10), (11, y11), (89, y89)]) h) (fun y2 h => K .ret (act 143 [(2, y2)]) h) := by
      induction j generalizing x0 x7 x8 x9 x10 x11 h with
      | zero => rfl
      | succ j ih =>
        unfold F3_lrlrrrrrrrrrr
        simp only [kLoop, kq_seq c3 32756, kq_seq c3 65512, r3_20, b3_rlllrlrrrrrrrrrr, kq_skip c3 262050, kq_seq c3 65513, kq_block c3 131026 3, kq_seq c3 262052, kq_seq c3 524104, r3_22, b3_rlllrllrlrrrrrrrrrr, kq_seq c3 2096418, r3_23, kq_ret c3 4192837, kq_skip c3 2096419, kq_seq c3 524105, r3_24, kq_block c3 1048211 4, F3_lrrllrllrlrrrrrrrrrr_eq, r3_21, kq_exit c3 262051 2, ih, reduceIte, reduceCtorEq, XE.exit.injEq, Nat.reduceEqDiff, Nat.reduceMul, Nat.reduceAdd] <;> kernel_rfl
theorem F3_lrlrrrrrrrrrr_eq  : kCode env 3 false inv k (cp c3 16378) (act 143 [(0, x0), (7, x7), (8, x8), (9, x9), (10, x10), (11, x11)]) h K = F3_lrlrrrrrrrrrr inv k k x0 x7 x8 x9 x10 x11 h (fun y0 y7 y8 y9 y10 y11 y89 h => K (.exit 2) (act 143 [(0, y0), (7, y7), (8, y8), (9, y9), (10, y10), (11, y11), (89, y89)]) h) (fun y2 h => K .ret (act 143 [(2, y2)]) h) := kq_loop (F3_lrlrrrrrrrrrr_j k)
theorem r3_28  : kCode env 3 false inv k (cp c3 8190) (act 143 [(0, x0), (7, x7), (8, x8), (9, x9), (10, x10), (11, x11), (89, x89)]) h K =
    bnd (gd (some x9) true h (some (x10, h))) fun x139 =>
    bnd (gd (some x9) true x139.2 (some (x0, x139.2))) fun x140 =>
    bnd (gd (some x9) true x140.2 (inv (.func 12) #[] #[x139.1, x140.1] x140.2)) fun x141 =>
    bnd (pickV x9 x141.1 (.bool false)) fun x142 =>
    K .normal (act 143 [(2, x142)]) x141.2 := kq_reg
/-- shadowbook/shadowbooklaw08.NullsSpread -/
noncomputable def F3 (inv : Inv) (k : Nat) (x0 : Value) (h : AH) : Option (Value × AH) :=
    bnd (inv (.func 8) #[] #[] h) fun x13 =>
    bnd (pUn Try.prog .not x13.1) fun x14 =>
    brV x14
    (some ((.bool false), x13.2))
    (bnd (pLen Try.prog #[22] x0 x13.2) fun x16 =>
    bnd (pBin Try.prog .gtr 3 (.tmp 16) (.const (.int .i64 300)) x16 (.int .i64 300)) fun x17 =>
    brV x17
    (some ((.bool true), x13.2))
    (bnd (inv (.func 9) #[] #[x0] x13.2) fun x19 =>
    bnd (pLen Try.prog #[22] x0 x19.2) fun x22 =>
    bnd (pBin Try.prog .sub 3 (.tmp 22) (.tmp 23) x22 x19.1) fun x24 =>
    bnd (inv (.func 10) #[] #[x0, x24] x19.2) fun x25 =>
    G3_7 inv x0 x19.1 x25.1 x25.2 fun y40 h =>
    brV y40
    (some ((.bool false), h))
    (F3_lrlrrrrrrr inv k k x0 x25.1 (.int .i64 0) (.int .i64 0) h
    (fun y0 y4 y5 y6 y44 h_2 =>
    bnd (inv (.func 11) #[] #[y0] h_2) fun x82 =>
    bnd (pExtract x82.1 0) fun x83 =>
    bnd (pExtract x82.1 1) fun x84 =>
    bnd (pExtract x82.1 2) fun x85 =>
    F3_lrlrrrrrrrrrr inv k k y0 x83 x84 x85 (.slice none 0 0) (.int .i64 0) x82.2
    (fun y0_4 y7 y8 y9 y10 y11 y89 h_5 =>
    bnd (gd (some y9) true h_5 (some (y10, h_5))) fun x139 =>
    bnd (gd (some y9) true x139.2 (some (y0_4, x139.2))) fun x140 =>
    bnd (gd (some y9) true x140.2 (inv (.func 12) #[] #[x139.1, x140.1] x140.2)) fun x141 =>
    bnd (pickV y9 x141.1 (.bool false)) fun x142 =>
    some (x142, x141.2))
    (fun y2 h_6 =>
    some (y2, h_6)))
    (fun y2_7 h_8 =>
    some (y2_7, h_8)))))
theorem F3_eq : eFun env k inv 3 #[x0] h = F3 inv k x0 h := by
      refine (kq_fun (a := act 143 [(0, x0)]) (c := cp c3 1)).trans ?_
      unfold F3
      simp only [kq_seq c3 1, r3_0, kq_seq c3 3, kq_seq c3 6, r3_1, b3_rlr, kq_seq c3 26, r3_2, kq_ret c3 53, res3_0, kq_skip c3 27, kq_seq c3 7, kq_seq c3 14, r3_3, b3_rlrr, kq_seq c3 58, r3_4, kq_ret c3 117, kq_skip c3 59, kq_seq c3 15, r3_5, kq_seq c3 31, r3_6, kq_seq c3 63, kq_seq c3 126, r3_7, b3_rlrrrrr, kq_seq c3 506, r3_8, kq_ret c3 1013, kq_skip c3 507, kq_seq c3 127, r3_9, kq_seq c3 255, kq_seq c3 510, r3_10, kq_block c3 1021 0, F3_lrlrrrrrrr_eq, kq_seq c3 511, r3_17, kq_seq c3 1023, r3_18, kq_seq c3 2047, kq_seq c3 4094, r3_19, kq_block c3 8189 2, F3_lrlrrrrrrrrrr_eq, kq_seq c3 4095, r3_28, kq_ret c3 8191, reduceIte, reduceCtorEq, XE.exit.injEq, Nat.reduceEqDiff, Nat.reduceMul, Nat.reduceAdd] <;> kernel_rfl
theorem F3_call : eInv env (k + 1) (.func 3) #[] #[x0] h = F3 (eInv env k) k x0 h := kq_inv F3_eq
noncomputable def c4 : Code := codeOf Try.prog 4
theorem r4_0  : kCode env 4 false inv k (cp c4 2) (act 107 [(0, x0)]) h K =
    K .normal (act 107 [(0, x0)]) h := kq_reg
theorem r4_1  : kCode env 4 false inv k (cp c4 12) (act 107 [(0, x0)]) h K =
    bnd (inv (.func 8) #[] #[] h) fun x15 =>
    bnd (pUn Try.prog .not x15.1) fun x16 =>
    K .normal (act 107 [(0, x0), (16, x16)]) x15.2 := kq_reg
theorem b4_rlr  : kCode env 4 false inv k (cp c4 13) (act 107 [(0, x0), (16, x16)]) h K = brV x16 (kCode env 4 false inv k (cp c4 26) (act 107 [(0, x0), (16, x16)]) h K) (kCode env 4 false inv k (cp c4 27) (act 107 [(0, x0), (16, x16)]) h K) := kq_cond
theorem r4_2  : kCode env 4 false inv k (cp c4 52) (act 107 [(0, x0), (16, x16)]) h K =
    K .normal (act 107 [(2, (.bool false))]) h := kq_reg
theorem res4_0 : resOfFn env.P 4 .ret (act 107 [(2, x2)]) h = some (x2, h) := kq_res
theorem r4_3  : kCode env 4 false inv k (cp c4 28) (act 107 [(0, x0), (16, x16)]) h K =
    bnd (pLen Try.prog #[22] x0 h) fun x18 =>
    bnd (pBin Try.prog .gtr 3 (.tmp 18) (.const (.int .i64 300)) x18 (.int .i64 300)) fun x19 =>
    K .normal (act 107 [(0, x0), (19, x19)]) h := kq_reg
theorem b4_rlrr  : kCode env 4 false inv k (cp c4 29) (act 107 [(0, x0), (19, x19)]) h K = brV x19 (kCode env 4 false inv k (cp c4 58) (act 107 [(0, x0), (19, x19)]) h K) (kCode env 4 false inv k (cp c4 59) (act 107 [(0, x0), (19, x19)]) h K) := kq_cond
theorem r4_4  : kCode env 4 false inv k (cp c4 116) (act 107 [(0, x0), (19, x19)]) h K =
    K .normal (act 107 [(2, (.bool true))]) h := kq_reg
theorem r4_5  : kCode env 4 false inv k (cp c4 30) (act 107 [(0, x0), (19, x19)]) h K =
    bnd (pLen Try.prog #[22] x0 h) fun x21 =>
    bnd (pMakeSlice Try.prog 22 x21 x21 h) fun x22 =>
    K .normal (act 107 [(0, x0), (3, x22.1)]) x22.2 := kq_reg
theorem r4_6  : kCode env 4 false inv k (cp c4 124) (act 107 [(0, x0), (3, x3)]) h K =
    K .normal (act 107 [(0, x0), (3, x3), (4, (.int .i64 0))]) h := kq_reg
theorem r4_7  : kCode env 4 false inv k (cp c4 2000) (act 107 [(0, x0), (3, x3), (4, x4)]) h K =
    bnd (pLen Try.prog #[22] x0 h) fun x25 =>
    bnd (pBin Try.prog .lss 3 (.tmp 23) (.tmp 25) x4 x25) fun x26 =>
    K .normal (act 107 [(0, x0), (3, x3), (4, x4), (26, x26)]) h := kq_reg
theorem b4_rlllrlrrrr  : kCode env 4 false inv k (cp c4 2001) (act 107 [(0, x0), (3, x3), (4, x4), (26, x26)]) h K = brV x26 (kCode env 4 false inv k (cp c4 4002) (act 107 [(0, x0), (3, x3), (4, x4), (26, x26)]) h K) (kCode env 4 false inv k (cp c4 4003) (act 107 [(0, x0), (3, x3), (4, x4), (26, x26)]) h K) := kq_cond
theorem r4_9  : kCode env 4 false inv k (cp c4 4004) (act 107 [(0, x0), (3, x3), (4, x4), (26, x26)]) h K =
    bnd (pIndexAddr Try.prog 22 x0 x4) fun x33 =>
    bnd (pLoad Try.prog 4 x33 h) fun x34 =>
    bnd (pUn Try.prog .not x34) fun x35 =>
    bnd (pIndexAddr Try.prog 22 x3 x4) fun x36 =>
    bnd (kSt (pStore Try.prog 4 x36 x35 h)) fun u =>
    K .normal (act 107 [(0, x0), (3, x3), (4, x4)]) u.2 := kq_reg
theorem r4_8  : kCode env 4 false inv k (cp c4 2003) (act 107 [(0, x0), (3, x3), (4, x4)]) h K =
    bnd (pBin Try.prog .add 3 (.tmp 27) (.const (.int .i64 1)) x4 (.int .i64 1)) fun x28 =>
    K .normal (act 107 [(0, x0), (3, x3), (4, x28)]) h := kq_reg
noncomputable def F4_lrlrrrr {β : Type} (inv : Inv) (k : Nat) : Nat → Value → Value → Value → AH → (Value → Value → Value → Value → AH → Option β) → Option β
  | 0, _, _, _, _, _ => none
  | j + 1, x0, x3, x4, h, ke0 =>
    bnd (pLen Try.prog #[22] x0 h) fun x25 =>
    bnd (pBin Try.prog .lss 3 (.tmp 23) (.tmp 25) x4 x25) fun x26 =>
    brV x26
    (bnd (pIndexAddr Try.prog 22 x0 x4) fun x33 =>
    bnd (pLoad Try.prog 4 x33 h) fun x34 =>
    bnd (pUn Try.prog .not x34) fun x35 =>
    bnd (pIndexAddr Try.prog 22 x3 x4) fun x36 =>
    bnd (kSt (pStore Try.prog 4 x36 x35 h)) fun u =>
    bnd (pBin Try.prog .add 3 (.tmp 27) (.const (.int .i64 1)) x4 (.int .i64 1)) fun x28 =>
    F4_lrlrrrr inv k j x0 x3 x28 u.2 ke0)
    (ke0 x0 x3 x4 x26 h)
theorem F4_lrlrrrr_j (j : Nat) : kLoop (kCode env 4 false inv k (cp c4 500)) j (act 107 [(0, x0), (3, x3), (4, x4)]) h K = F4_lrlrrrr inv k j x0 x3 x4 h (fun y0 y3 y4 y26 h => K (.exit 0) (act 107 [(0, y0), (3, y3), (4, y4), (26, y26)]) h) := by
      induction j generalizing x0 x3 x4 h with
      | zero => rfl
      | succ j ih =>
        unfold F4_lrlrrrr
        simp only [kLoop, kq_seq c4 500, kq_seq c4 1000, r4_7, b4_rlllrlrrrr, kq_skip c4 4002, kq_seq c4 1001, kq_block c4 2002 1, r4_9, r4_8, kq_exit c4 4003 0, ih, reduceIte, reduceCtorEq, XE.exit.injEq, Nat.reduceEqDiff, Nat.reduceMul, Nat.reduceAdd] <;> kernel_rfl
theorem F4_lrlrrrr_eq  : kCode env 4 false inv k (cp c4 250) (act 107 [(0, x0), (3, x3), (4, x4)]) h K = F4_lrlrrrr inv k k x0 x3 x4 h (fun y0 y3 y4 y26 h => K (.exit 0) (act 107 [(0, y0), (3, y3), (4, y4), (26, y26)]) h) := kq_loop (F4_lrlrrrr_j k)
theorem r4_10  : kCode env 4 false inv k (cp c4 126) (act 107 [(0, x0), (3, x3), (4, x4), (26, x26)]) h K =
    bnd (inv (.func 9) #[] #[x0] h) fun x38 =>
    K .normal (act 107 [(0, x0), (3, x3), (5, x38.1)]) x38.2 := kq_reg
theorem r4_11  : kCode env 4 false inv k (cp c4 254) (act 107 [(0, x0), (3, x3), (5, x5)]) h K =
    bnd (pLen Try.prog #[22] x0 h) fun x41 =>
    bnd (pBin Try.prog .sub 3 (.tmp 41) (.tmp 42) x41 x5) fun x43 =>
    bnd (inv (.func 10) #[] #[x0, x43] h) fun x44 =>
    bnd (inv (.func 10) #[] #[x3, x5] x44.2) fun x47 =>
    K .normal (act 107 [(0, x0), (3, x3), (5, x5), (6, x44.1), (7, x47.1)]) x47.2 := kq_reg
noncomputable abbrev G4_12 {β : Type} (inv : Inv) (x0 x3 x5 x6 x7 : Value) (h : AH) (K : Value → AH → Option β) : Option β :=
    bnd (inv (.func 9) #[] #[x3] h) fun x49 =>
    bnd (pLen Try.prog #[22] x0 x49.2) fun x51 =>
    bnd (pBin Try.prog .sub 3 (.tmp 51) (.tmp 52) x51 x5) fun x53 =>
    bnd (pBin Try.prog .neq 3 (.tmp 49) (.tmp 53) x49.1 x53) fun x54 =>
    bnd (gd (some x54) false x49.2 (some (x6, x49.2))) fun x56 =>
    bnd (gd (some x54) false x56.2 (lt (pLen Try.prog #[25] x56.1 x56.2) x56.2)) fun x57 =>
    bnd (gd (some x54) false x57.2 (some (x0, x57.2))) fun x58 =>
    bnd (gd (some x54) false x58.2 (lt (pLen Try.prog #[22] x58.1 x58.2) x58.2)) fun x59 =>
    bnd (gd (some x54) false x59.2 (lt (pBin Try.prog .neq 3 (.tmp 57) (.tmp 59) x57.1 x59.1) x59.2)) fun x60 =>
    bnd (pickV x54 (.bool true) x60.1) fun x61 =>
    bnd (gd (some x61) false x60.2 (some (x7, x60.2))) fun x63 =>
    bnd (gd (some x61) false x63.2 (lt (pLen Try.prog #[25] x63.1 x63.2) x63.2)) fun x64 =>
    bnd (gd (some x61) false x64.2 (some (x0, x64.2))) fun x65 =>
    bnd (gd (some x61) false x65.2 (lt (pLen Try.prog #[22] x65.1 x65.2) x65.2)) fun x66 =>
    bnd (gd (some x61) false x66.2 (lt (pBin Try.prog .neq 3 (.tmp 64) (.tmp 66) x64.1 x66.1) x66.2)) fun x67 =>
    bnd (pickV x61 (.bool true) x67.1) fun x68 =>
    K (x68) x67.2
theorem r4_12  : kCode env 4 false inv k (cp c4 1020) (act 107 [(0, x0), (3, x3), (5, x5), (6, x6), (7, x7)]) h K =
    G4_12 inv x0 x3 x5 x6 x7 h fun y68 h => K .normal (act 107 [(0, x0), (3, x3), (6, x6), (7, x7), (68, y68)]) h := kq_reg
theorem b4_rlrrrrrrr  : kCode env 4 false inv k (cp c4 1021) (act 107 [(0, x0), (3, x3), (6, x6), (7, x7), (68, x68)]) h K = brV x68 (kCode env 4 false inv k (cp c4 2042) (act 107 [(0, x0), (3, x3), (6, x6), (7, x7), (68, x68)]) h K) (kCode env 4 false inv k (cp c4 2043) (act 107 [(0, x0), (3, x3), (6, x6), (7, x7), (68, x68)]) h K) := kq_cond
theorem r4_13  : kCode env 4 false inv k (cp c4 4084) (act 107 [(0, x0), (3, x3), (6, x6), (7, x7), (68, x68)]) h K =
    K .normal (act 107 [(2, (.bool false))]) h := kq_reg
theorem r4_14  : kCode env 4 false inv k (cp c4 2044) (act 107 [(0, x0), (3, x3), (6, x6), (7, x7), (68, x68)]) h K =
    K .normal (act 107 [(0, x0), (3, x3), (6, x6), (7, x7), (8, (.int .i64 0))]) h := kq_reg
theorem r4_15  : kCode env 4 false inv k (cp c4 32720) (act 107 [(0, x0), (3, x3), (6, x6), (7, x7), (8, x8)]) h K =
    bnd (pLen Try.prog #[22] x0 h) fun x71 =>
    bnd (pBin Try.prog .lss 3 (.tmp 69) (.tmp 71) x8 x71) fun x72 =>
    K .normal (act 107 [(0, x0), (3, x3), (6, x6), (7, x7), (8, x8), (72, x72)]) h := kq_reg
theorem b4_rlllrlrrrrrrrr  : kCode env 4 false inv k (cp c4 32721) (act 107 [(0, x0), (3, x3), (6, x6), (7, x7), (8, x8), (72, x72)]) h K = brV x72 (kCode env 4 false inv k (cp c4 65442) (act 107 [(0, x0), (3, x3), (6, x6), (7, x7), (8, x8), (72, x72)]) h K) (kCode env 4 false inv k (cp c4 65443) (act 107 [(0, x0), (3, x3), (6, x6), (7, x7), (8, x8), (72, x72)]) h K) := kq_cond
noncomputable abbrev G4_17 {β : Type} (inv : Inv) (x0 x3 x6 x7 x8 : Value) (h : AH) (K : Value → AH → Option β) : Option β :=
    bnd (pIndexAddr Try.prog 25 x6 x8) fun x77 =>
    bnd (pLoad Try.prog 3 x77 h) fun x78 =>
    bnd (pBin Try.prog .lss 3 (.tmp 78) (.const (.int .i64 0)) x78 (.int .i64 0)) fun x79 =>
    bnd (pIndexAddr Try.prog 25 x7 x8) fun x82 =>
    bnd (pLoad Try.prog 3 x82 h) fun x83 =>
    bnd (pBin Try.prog .lss 3 (.tmp 83) (.const (.int .i64 0)) x83 (.int .i64 0)) fun x84 =>
    bnd (pBin Try.prog .eql 4 (.tmp 79) (.tmp 84) x79 x84) fun x85 =>
    K (x85) h
theorem r4_17  : kCode env 4 false inv k (cp c4 130888) (act 107 [(0, x0), (3, x3), (6, x6), (7, x7), (8, x8), (72, x72)]) h K =
    G4_17 inv x0 x3 x6 x7 x8 h fun y85 h => K .normal (act 107 [(0, x0), (3, x3), (6, x6), (7, x7), (8, x8), (85, y85)]) h := kq_draw
theorem b4_rllrllrlrrrrrrrr  : kCode env 4 false inv k (cp c4 130889) (act 107 [(0, x0), (3, x3), (6, x6), (7, x7), (8, x8), (85, x85)]) h K = brV x85 (kCode env 4 false inv k (cp c4 261778) (act 107 [(0, x0), (3, x3), (6, x6), (7, x7), (8, x8), (85, x85)]) h K) (kCode env 4 false inv k (cp c4 261779) (act 107 [(0, x0), (3, x3), (6, x6), (7, x7), (8, x8), (85, x85)]) h K) := kq_cond
theorem r4_18  : kCode env 4 false inv k (cp c4 523556) (act 107 [(0, x0), (3, x3), (6, x6), (7, x7), (8, x8), (85, x85)]) h K =
    K .normal (act 107 [(2, (.bool false))]) h := kq_reg
theorem r4_16  : kCode env 4 false inv k (cp c4 32723) (act 107 [(0, x0), (3, x3), (6, x6), (7, x7), (8, x8), (85, x85)]) h K =
    bnd (pBin Try.prog .add 3 (.tmp 73) (.const (.int .i64 1)) x8 (.int .i64 1)) fun x74 =>
    K .normal (act 107 [(0, x0), (3, x3), (6, x6), (7, x7), (8, x74)]) h := kq_reg
noncomputable def F4_lrlrrrrrrrr {β : Type} (inv : Inv) (k : Nat) : Nat → Value → Value → Value → Value → Value → AH → (Value → Value → Value → Value → Value → Value → AH → Option β) → (Value → AH → Option β) → Option β
  | 0, _, _, _, _, _, _, _, _ => none
  | j + 1, x0, x3, x6, x7, x8, h, ke2, kr =>
    bnd (pLen Try.prog #[22] x0 h) fun x71 =>
    bnd (pBin Try.prog .lss 3 (.tmp 69) (.tmp 71) x8 x71) fun x72 =>
    brV x72
    (G4_17 inv x0 x3 x6 x7 x8 h fun y85 h =>
    brV y85
    (kr (.bool false) h)
    (bnd (pBin Try.prog .add 3 (.tmp 73) (.const (.int .i64 1)) x8 (.int .i64 1)) fun x74 =>
    F4_lrlrrrrrrrr inv k j x0 x3 x6 x7 x74 h ke2 kr))
    (ke2 x0 x3 x6 x7 x8 x72 h)
theorem F4_lrlrrrrrrrr_j (j : Nat) : kLoop (kCode env 4 false inv k (cp c4 8180)) j (act 107 [(0, x0), (3, x3), (6, x6), (7, x7), (8, x8)]) h K = F4_lrlrrrrrrrr inv k j x0 x3 x6 x7 x8 h (fun y0 y3 y6 y7 y8 y72 h => K (.exit 2) (act 107 [(0, y0), (3, y3), (6, y6), (7, y7), (8, y8), (72, y72)]) h) (fun y2 h => K .ret (act 107 [(2, y2)]) h) := by
      induction j generalizing x0 x3 x6 x7 x8 h with
      | zero => rfl
      | succ j ih =>
        unfold F4_lrlrrrrrrrr
        simp only [kLoop, kq_seq c4 8180, kq_seq c4 16360, r4_15, b4_rlllrlrrrrrrrr, kq_skip c4 65442, kq_seq c4 16361, kq_block c4 32722 3, kq_seq c4 65444, r4_17, b4_rllrllrlrrrrrrrr, kq_seq c4 261778, r4_18, kq_ret c4 523557, kq_skip c4 261779, r4_16, kq_exit c4 65443 2, ih, reduceIte, reduceCtorEq, XE.exit.injEq, Nat.reduceEqDiff, Nat.reduceMul, Nat.reduceAdd] <;> kernel_rfl
theorem F4_lrlrrrrrrrr_eq  : kCode env 4 false inv k (cp c4 4090) (act 107 [(0, x0), (3, x3), (6, x6), (7, x7), (8, x8)]) h K = F4_lrlrrrrrrrr inv k k x0 x3 x6 x7 x8 h (fun y0 y3 y6 y7 y8 y72 h => K (.exit 2) (act 107 [(0, y0), (3, y3), (6, y6), (7, y7), (8, y8), (72, y72)]) h) (fun y2 h => K .ret (act 107 [(2, y2)]) h) := kq_loop (F4_lrlrrrrrrrr_j k)
theorem r4_19  : kCode env 4 false inv k (cp c4 2046) (act 107 [(0, x0), (3, x3), (6, x6), (7, x7), (8, x8), (72, x72)]) h K =
    bnd (inv (.func 11) #[] #[x0] h) fun x88 =>
    bnd (pExtract x88.1 0) fun x89 =>
    bnd (pExtract x88.1 1) fun x90 =>
    bnd (pExtract x88.1 2) fun x91 =>
    K .normal (act 107 [(3, x3), (9, x89), (11, x91)]) x88.2 := kq_reg
theorem r4_20  : kCode env 4 false inv k (cp c4 4094) (act 107 [(3, x3), (9, x9), (11, x11)]) h K =
    bnd (inv (.func 11) #[] #[x3] h) fun x94 =>
    bnd (pExtract x94.1 0) fun x95 =>
    bnd (pExtract x94.1 1) fun x96 =>
    bnd (pExtract x94.1 2) fun x97 =>
    K .normal (act 107 [(9, x9), (11, x11), (12, x95), (14, x97)]) x94.2 := kq_reg
theorem r4_21  : kCode env 4 false inv k (cp c4 8190) (act 107 [(9, x9), (11, x11), (12, x12), (14, x14)]) h K =
    bnd (gd (some x11) true h (some (x14, h))) fun x100 =>
    bnd (pickV x11 x100.1 (.bool false)) fun x101 =>
    bnd (gd (some x101) true x100.2 (some (x9, x100.2))) fun x103 =>
    bnd (gd (some x101) true x103.2 (some (x12, x103.2))) fun x104 =>
    bnd (gd (some x101) true x104.2 (inv (.func 13) #[] #[x103.1, x104.1] x104.2)) fun x105 =>
    bnd (pickV x101 x105.1 (.bool false)) fun x106 =>
    K .normal (act 107 [(2, x106)]) x105.2 := kq_reg
/-- shadowbook/shadowbooklaw08.NullsTurned -/
noncomputable def F4 (inv : Inv) (k : Nat) (x0 : Value) (h : AH) : Option (Value × AH) :=
    bnd (inv (.func 8) #[] #[] h) fun x15 =>
    bnd (pUn Try.prog .not x15.1) fun x16 =>
    brV x16
    (some ((.bool false), x15.2))
    (bnd (pLen Try.prog #[22] x0 x15.2) fun x18 =>
    bnd (pBin Try.prog .gtr 3 (.tmp 18) (.const (.int .i64 300)) x18 (.int .i64 300)) fun x19 =>
    brV x19
    (some ((.bool true), x15.2))
    (bnd (pLen Try.prog #[22] x0 x15.2) fun x21 =>
    bnd (pMakeSlice Try.prog 22 x21 x21 x15.2) fun x22 =>
    F4_lrlrrrr inv k k x0 x22.1 (.int .i64 0) x22.2
    (fun y0 y3 y4 y26 h =>
    bnd (inv (.func 9) #[] #[y0] h) fun x38 =>
    bnd (pLen Try.prog #[22] y0 x38.2) fun x41 =>
    bnd (pBin Try.prog .sub 3 (.tmp 41) (.tmp 42) x41 x38.1) fun x43 =>
    bnd (inv (.func 10) #[] #[y0, x43] x38.2) fun x44 =>
    bnd (inv (.func 10) #[] #[y3, x38.1] x44.2) fun x47 =>
    G4_12 inv y0 y3 x38.1 x44.1 x47.1 x47.2 fun y68 h_1 =>
    brV y68
    (some ((.bool false), h_1))
    (F4_lrlrrrrrrrr inv k k y0 y3 x44.1 x47.1 (.int .i64 0) h_1
    (fun y0_2 y3_3 y6 y7 y8 y72 h_4 =>
    bnd (inv (.func 11) #[] #[y0_2] h_4) fun x88 =>
    bnd (pExtract x88.1 0) fun x89 =>
    bnd (pExtract x88.1 1) fun x90 =>
    bnd (pExtract x88.1 2) fun x91 =>
    bnd (inv (.func 11) #[] #[y3_3] x88.2) fun x94 =>
    bnd (pExtract x94.1 0) fun x95 =>
    bnd (pExtract x94.1 1) fun x96 =>
    bnd (pExtract x94.1 2) fun x97 =>
    bnd (gd (some x91) true x94.2 (some (x97, x94.2))) fun x100 =>
    bnd (pickV x91 x100.1 (.bool false)) fun x101 =>
    bnd (gd (some x101) true x100.2 (some (x89, x100.2))) fun x103 =>
    bnd (gd (some x101) true x103.2 (some (x95, x103.2))) fun x104 =>
    bnd (gd (some x101) true x104.2 (inv (.func 13) #[] #[x103.1, x104.1] x104.2)) fun x105 =>
    bnd (pickV x101 x105.1 (.bool false)) fun x106 =>
    some (x106, x105.2))
    (fun y2 h_5 =>
    some (y2, h_5))))))
theorem F4_eq : eFun env k inv 4 #[x0] h = F4 inv k x0 h := by
      refine (kq_fun (a := act 107 [(0, x0)]) (c := cp c4 1)).trans ?_
      unfold F4
      simp only [kq_seq c4 1, r4_0, kq_seq c4 3, kq_seq c4 6, r4_1, b4_rlr, kq_seq c4 26, r4_2, kq_ret c4 53, res4_0, kq_skip c4 27, kq_seq c4 7, kq_seq c4 14, r4_3, b4_rlrr, kq_seq c4 58, r4_4, kq_ret c4 117, kq_skip c4 59, kq_seq c4 15, r4_5, kq_seq c4 31, kq_seq c4 62, r4_6, kq_block c4 125 0, F4_lrlrrrr_eq, kq_seq c4 63, r4_10, kq_seq c4 127, r4_11, kq_seq c4 255, kq_seq c4 510, r4_12, b4_rlrrrrrrr, kq_seq c4 2042, r4_13, kq_ret c4 4085, kq_skip c4 2043, kq_seq c4 511, kq_seq c4 1022, r4_14, kq_block c4 2045 2, F4_lrlrrrrrrrr_eq, kq_seq c4 1023, r4_19, kq_seq c4 2047, r4_20, kq_seq c4 4095, r4_21, kq_ret c4 8191, reduceIte, reduceCtorEq, XE.exit.injEq, Nat.reduceEqDiff, Nat.reduceMul, Nat.reduceAdd] <;> kernel_rfl
theorem F4_call : eInv env (k + 1) (.func 4) #[] #[x0] h = F4 (eInv env k) k x0 h := kq_inv F4_eq
noncomputable def c5 : Code := codeOf Try.prog 5
theorem r5_0  : kCode env 5 false inv k (cp c5 2) (act 100 [(0, x0), (1, x1)]) h K =
    K .normal (act 100 [(0, x0), (1, x1)]) h := kq_reg
theorem r5_1  : kCode env 5 false inv k (cp c5 12) (act 100 [(0, x0), (1, x1)]) h K =
    bnd (inv (.func 8) #[] #[] h) fun x15 =>
    bnd (pUn Try.prog .not x15.1) fun x16 =>
    K .normal (act 100 [(0, x0), (1, x1), (16, x16)]) x15.2 := kq_reg
theorem b5_rlr  : kCode env 5 false inv k (cp c5 13) (act 100 [(0, x0), (1, x1), (16, x16)]) h K = brV x16 (kCode env 5 false inv k (cp c5 26) (act 100 [(0, x0), (1, x1), (16, x16)]) h K) (kCode env 5 false inv k (cp c5 27) (act 100 [(0, x0), (1, x1), (16, x16)]) h K) := kq_cond
theorem r5_2  : kCode env 5 false inv k (cp c5 52) (act 100 [(0, x0), (1, x1), (16, x16)]) h K =
    K .normal (act 100 [(4, (.bool false))]) h := kq_reg
theorem res5_0 : resOfFn env.P 5 .ret (act 100 [(4, x4)]) h = some (x4, h) := kq_res
noncomputable abbrev G5_3 {β : Type} (inv : Inv) (x0 x1 : Value) (h : AH) (K : Value → AH → Option β) : Option β :=
    bnd (pLen Try.prog #[22] x0 h) fun x18 =>
    bnd (pBin Try.prog .gtr 3 (.tmp 18) (.const (.int .i64 300)) x18 (.int .i64 300)) fun x19 =>
    bnd (gd (some x19) false h (some (x1, h))) fun x21 =>
    bnd (gd (some x19) false x21.2 (lt (pLen Try.prog #[32] x21.1 x21.2) x21.2)) fun x22 =>
    bnd (gd (some x19) false x22.2 (lt (pBin Try.prog .gtr 3 (.tmp 22) (.const (.int .i64 300)) x22.1 (.int .i64 300)) x22.2)) fun x23 =>
    bnd (pickV x19 (.bool true) x23.1) fun x24 =>
    K (x24) x23.2
theorem r5_3  : kCode env 5 false inv k (cp c5 28) (act 100 [(0, x0), (1, x1), (16, x16)]) h K =
    G5_3 inv x0 x1 h fun y24 h => K .normal (act 100 [(0, x0), (1, x1), (24, y24)]) h := kq_reg
theorem b5_rlrr  : kCode env 5 false inv k (cp c5 29) (act 100 [(0, x0), (1, x1), (24, x24)]) h K = brV x24 (kCode env 5 false inv k (cp c5 58) (act 100 [(0, x0), (1, x1), (24, x24)]) h K) (kCode env 5 false inv k (cp c5 59) (act 100 [(0, x0), (1, x1), (24, x24)]) h K) := kq_cond
theorem r5_4  : kCode env 5 false inv k (cp c5 116) (act 100 [(0, x0), (1, x1), (24, x24)]) h K =
    K .normal (act 100 [(4, (.bool true))]) h := kq_reg
theorem r5_5  : kCode env 5 false inv k (cp c5 30) (act 100 [(0, x0), (1, x1), (24, x24)]) h K =
    bnd (inv (.func 14) #[] #[x0] h) fun x27 =>
    bnd (pExtract x27.1 0) fun x28 =>
    bnd (pExtract x27.1 1) fun x29 =>
    K .normal (act 100 [(0, x0), (1, x1), (5, x28), (6, x29)]) x27.2 := kq_reg
theorem r5_6  : kCode env 5 false inv k (cp c5 62) (act 100 [(0, x0), (1, x1), (5, x5), (6, x6)]) h K =
    bnd (inv (.func 16) #[] #[x5] h) fun x32 =>
    bnd (pAppend Try.prog #[32, 32] x32.1 x1 x32.2) fun x34 =>
    bnd (inv (.func 15) #[] #[x34.1] x34.2) fun x35 =>
    bnd (pExtract x35.1 0) fun x36 =>
    bnd (pExtract x35.1 1) fun x37 =>
    bnd (pExtract x35.1 2) fun x38 =>
    K .normal (act 100 [(0, x0), (1, x1), (5, x5), (6, x6), (7, x36), (8, x37), (9, x38)]) x35.2 := kq_reg
noncomputable abbrev G5_7 {β : Type} (inv : Inv) (x0 x1 x5 x6 x7 x8 x9 : Value) (h : AH) (K : Value → AH → Option β) : Option β :=
    bnd (pBin Try.prog .neq 33 (.tmp 39) (.const (.int .i64 0)) x6 (.int .i64 0)) fun x40 =>
    bnd (gd (some x40) false h (some (x9, h))) fun x42 =>
    bnd (gd (some x40) false x42.2 (lt (pBin Try.prog .neq 33 (.tmp 42) (.const (.int .i64 0)) x42.1 (.int .i64 0)) x42.2)) fun x43 =>
    bnd (pickV x40 (.bool true) x43.1) fun x44 =>
    bnd (gd (some x44) false x43.2 (some (x8, x43.2))) fun x46 =>
    bnd (gd (some x44) false x46.2 (some (x5, x46.2))) fun x47 =>
    bnd (gd (some x44) false x47.2 (lt (pLen Try.prog #[32] x47.1 x47.2) x47.2)) fun x48 =>
    bnd (gd (some x44) false x48.2 (lt (pBin Try.prog .neq 3 (.tmp 46) (.tmp 48) x46.1 x48.1) x48.2)) fun x49 =>
    bnd (pickV x44 (.bool true) x49.1) fun x50 =>
    bnd (gd (some x50) false x49.2 (some (x7, x49.2))) fun x52 =>
    bnd (gd (some x50) false x52.2 (some (x0, x52.2))) fun x53 =>
    bnd (gd (some x50) false x53.2 (inv (.func 12) #[] #[x52.1, x53.1] x53.2)) fun x54 =>
    bnd (gd (some x50) false x54.2 (lt (pUn Try.prog .not x54.1) x54.2)) fun x55 =>
    bnd (pickV x50 (.bool true) x55.1) fun x56 =>
    K (x56) x55.2
theorem r5_7  : kCode env 5 false inv k (cp c5 252) (act 100 [(0, x0), (1, x1), (5, x5), (6, x6), (7, x7), (8, x8), (9, x9)]) h K =
    G5_7 inv x0 x1 x5 x6 x7 x8 x9 h fun y56 h => K .normal (act 100 [(1, x1), (56, y56)]) h := kq_reg
theorem b5_rlrrrrr  : kCode env 5 false inv k (cp c5 253) (act 100 [(1, x1), (56, x56)]) h K = brV x56 (kCode env 5 false inv k (cp c5 506) (act 100 [(1, x1), (56, x56)]) h K) (kCode env 5 false inv k (cp c5 507) (act 100 [(1, x1), (56, x56)]) h K) := kq_cond
theorem r5_8  : kCode env 5 false inv k (cp c5 1012) (act 100 [(1, x1), (56, x56)]) h K =
    K .normal (act 100 [(4, (.bool false))]) h := kq_reg
theorem r5_9  : kCode env 5 false inv k (cp c5 254) (act 100 [(1, x1), (56, x56)]) h K =
    bnd (inv (.func 15) #[] #[x1] h) fun x59 =>
    bnd (pExtract x59.1 0) fun x60 =>
    bnd (pExtract x59.1 1) fun x61 =>
    bnd (pExtract x59.1 2) fun x62 =>
    K .normal (act 100 [(1, x1), (10, x60), (11, x61), (12, x62)]) x59.2 := kq_reg
theorem r5_10  : kCode env 5 false inv k (cp c5 1020) (act 100 [(1, x1), (10, x10), (11, x11), (12, x12)]) h K =
    bnd (pBin Try.prog .neq 33 (.tmp 63) (.const (.int .i64 0)) x12 (.int .i64 0)) fun x64 =>
    K .normal (act 100 [(1, x1), (10, x10), (11, x11), (12, x12), (64, x64)]) h := kq_reg
theorem b5_rlrrrrrrr  : kCode env 5 false inv k (cp c5 1021) (act 100 [(1, x1), (10, x10), (11, x11), (12, x12), (64, x64)]) h K = brV x64 (kCode env 5 false inv k (cp c5 2042) (act 100 [(1, x1), (10, x10), (11, x11), (12, x12), (64, x64)]) h K) (kCode env 5 false inv k (cp c5 2043) (act 100 [(1, x1), (10, x10), (11, x11), (12, x12), (64, x64)]) h K) := kq_cond
noncomputable abbrev G5_11 {β : Type} (inv : Inv) (x10 x11 x12 : Value) (h : AH) (K : Value → AH → Option β) : Option β :=
    bnd (pBin Try.prog .eql 33 (.tmp 65) (.const (.int .i64 4)) x12 (.int .i64 4)) fun x66 =>
    bnd (gd (some x66) true h (some (x10, h))) fun x68 =>
    bnd (gd (some x66) true x68.2 (lt (pLen Try.prog #[22] x68.1 x68.2) x68.2)) fun x69 =>
    bnd (gd (some x66) true x69.2 (lt (pBin Try.prog .eql 3 (.tmp 69) (.const (.int .i64 0)) x69.1 (.int .i64 0)) x69.2)) fun x70 =>
    bnd (pickV x66 x70.1 (.bool false)) fun x71 =>
    bnd (gd (some x71) true x70.2 (some (x11, x70.2))) fun x73 =>
    bnd (gd (some x71) true x73.2 (lt (pBin Try.prog .eql 3 (.tmp 73) (.const (.int .i64 0)) x73.1 (.int .i64 0)) x73.2)) fun x74 =>
    bnd (pickV x71 x74.1 (.bool false)) fun x75 =>
    K (x75) x74.2
theorem r5_11  : kCode env 5 false inv k (cp c5 4084) (act 100 [(1, x1), (10, x10), (11, x11), (12, x12), (64, x64)]) h K =
    G5_11 inv x10 x11 x12 h fun y4 h => K .normal (act 100 [(4, y4)]) h := kq_reg
theorem r5_12  : kCode env 5 false inv k (cp c5 1022) (act 100 [(1, x1), (10, x10), (11, x11), (12, x12), (64, x64)]) h K =
    bnd (inv (.func 14) #[] #[x10] h) fun x78 =>
    bnd (pExtract x78.1 0) fun x79 =>
    bnd (pExtract x78.1 1) fun x80 =>
    K .normal (act 100 [(1, x1), (11, x11), (13, x79), (14, x80)]) x78.2 := kq_reg
noncomputable abbrev G5_13 {β : Type} (inv : Inv) (x1 x11 x13 x14 : Value) (h : AH) (K : Value → AH → Option β) : Option β :=
    bnd (pBin Try.prog .eql 33 (.tmp 81) (.const (.int .i64 0)) x14 (.int .i64 0)) fun x82 =>
    bnd (gd (some x82) true h (some (x11, h))) fun x84 =>
    bnd (gd (some x82) true x84.2 (lt (pBin Try.prog .geq 3 (.tmp 84) (.const (.int .i64 0)) x84.1 (.int .i64 0)) x84.2)) fun x85 =>
    bnd (pickV x82 x85.1 (.bool false)) fun x86 =>
    bnd (gd (some x86) true x85.2 (some (x11, x85.2))) fun x88 =>
    bnd (gd (some x86) true x88.2 (some (x1, x88.2))) fun x89 =>
    bnd (gd (some x86) true x89.2 (lt (pLen Try.prog #[32] x89.1 x89.2) x89.2)) fun x90 =>
    bnd (gd (some x86) true x90.2 (lt (pBin Try.prog .leq 3 (.tmp 88) (.tmp 90) x88.1 x90.1) x90.2)) fun x91 =>
    bnd (pickV x86 x91.1 (.bool false)) fun x92 =>
    bnd (gd (some x92) true x91.2 (some (x13, x91.2))) fun x94 =>
    bnd (gd (some x92) true x94.2 (some (x1, x94.2))) fun x95 =>
    bnd (gd (some x92) true x95.2 (some (x11, x95.2))) fun x96 =>
    bnd (gd (some x92) true x96.2 (lt (pSlice Try.prog 32 x95.1 none (some x96.1) none x96.2) x96.2)) fun x97 =>
    bnd (gd (some x92) true x97.2 (inv (.func 17) #[] #[x94.1, x97.1] x97.2)) fun x98 =>
    bnd (pickV x92 x98.1 (.bool false)) fun x99 =>
    K (x99) x98.2
theorem r5_13  : kCode env 5 false inv k (cp c5 2046) (act 100 [(1, x1), (11, x11), (13, x13), (14, x14)]) h K =
    G5_13 inv x1 x11 x13 x14 h fun y4 h => K .normal (act 100 [(4, y4)]) h := kq_reg
/-- shadowbook/shadowbooklaw08.NullsBack -/
noncomputable def F5 (inv : Inv) (k : Nat) (x0 x1 : Value) (h : AH) : Option (Value × AH) :=
    bnd (inv (.func 8) #[] #[] h) fun x15 =>
    bnd (pUn Try.prog .not x15.1) fun x16 =>
    brV x16
    (some ((.bool false), x15.2))
    (G5_3 inv x0 x1 x15.2 fun y24 h =>
    brV y24
    (some ((.bool true), h))
    (bnd (inv (.func 14) #[] #[x0] h) fun x27 =>
    bnd (pExtract x27.1 0) fun x28 =>
    bnd (pExtract x27.1 1) fun x29 =>
    bnd (inv (.func 16) #[] #[x28] x27.2) fun x32 =>
    bnd (pAppend Try.prog #[32, 32] x32.1 x1 x32.2) fun x34 =>
    bnd (inv (.func 15) #[] #[x34.1] x34.2) fun x35 =>
    bnd (pExtract x35.1 0) fun x36 =>
    bnd (pExtract x35.1 1) fun x37 =>
    bnd (pExtract x35.1 2) fun x38 =>
    G5_7 inv x0 x1 x28 x29 x36 x37 x38 x35.2 fun y56 h_1 =>
    brV y56
    (some ((.bool false), h_1))
    (bnd (inv (.func 15) #[] #[x1] h_1) fun x59 =>
    bnd (pExtract x59.1 0) fun x60 =>
    bnd (pExtract x59.1 1) fun x61 =>
    bnd (pExtract x59.1 2) fun x62 =>
    bnd (pBin Try.prog .neq 33 (.tmp 63) (.const (.int .i64 0)) x62 (.int .i64 0)) fun x64 =>
    brV x64
    (G5_11 inv x60 x61 x62 x59.2 fun y4 h_2 =>
    some (y4, h_2))
    (bnd (inv (.func 14) #[] #[x60] x59.2) fun x78 =>
    bnd (pExtract x78.1 0) fun x79 =>
    bnd (pExtract x78.1 1) fun x80 =>
    G5_13 inv x1 x61 x79 x80 x78.2 fun y4_3 h_4 =>
    some (y4_3, h_4)))))
theorem F5_eq : eFun env k inv 5 #[x0, x1] h = F5 inv k x0 x1 h := by
      refine (kq_fun (a := act 100 [(0, x0), (1, x1)]) (c := cp c5 1)).trans ?_
      unfold F5
      simp only [kq_seq c5 1, r5_0, kq_seq c5 3, kq_seq c5 6, r5_1, b5_rlr, kq_seq c5 26, r5_2, kq_ret c5 53, res5_0, kq_skip c5 27, kq_seq c5 7, kq_seq c5 14, r5_3, b5_rlrr, kq_seq c5 58, r5_4, kq_ret c5 117, kq_skip c5 59, kq_seq c5 15, r5_5, kq_seq c5 31, r5_6, kq_seq c5 63, kq_seq c5 126, r5_7, b5_rlrrrrr, kq_seq c5 506, r5_8, kq_ret c5 1013, kq_skip c5 507, kq_seq c5 127, r5_9, kq_seq c5 255, kq_seq c5 510, r5_10, b5_rlrrrrrrr, kq_seq c5 2042, r5_11, kq_ret c5 4085, kq_skip c5 2043, kq_seq c5 511, r5_12, kq_seq c5 1023, r5_13, kq_ret c5 2047, reduceIte, reduceCtorEq, XE.exit.injEq, Nat.reduceEqDiff, Nat.reduceMul, Nat.reduceAdd] <;> kernel_rfl
theorem F5_call : eInv env (k + 1) (.func 5) #[] #[x0, x1] h = F5 (eInv env k) k x0 x1 h := kq_inv F5_eq
noncomputable def c7 : Code := codeOf Try.prog 7
theorem r7_0  : kCode env 7 false inv k (cp c7 2) (act 106 [(0, x0), (1, x1), (2, x2)]) h K =
    K .normal (act 106 [(0, x0), (1, x1), (2, x2)]) h := kq_reg
theorem r7_1  : kCode env 7 false inv k (cp c7 12) (act 106 [(0, x0), (1, x1), (2, x2)]) h K =
    bnd (inv (.func 8) #[] #[] h) fun x20 =>
    bnd (pUn Try.prog .not x20.1) fun x21 =>
    K .normal (act 106 [(0, x0), (1, x1), (2, x2), (21, x21)]) x20.2 := kq_reg
theorem b7_rlr  : kCode env 7 false inv k (cp c7 13) (act 106 [(0, x0), (1, x1), (2, x2), (21, x21)]) h K = brV x21 (kCode env 7 false inv k (cp c7 26) (act 106 [(0, x0), (1, x1), (2, x2), (21, x21)]) h K) (kCode env 7 false inv k (cp c7 27) (act 106 [(0, x0), (1, x1), (2, x2), (21, x21)]) h K) := kq_cond
theorem r7_2  : kCode env 7 false inv k (cp c7 52) (act 106 [(0, x0), (1, x1), (2, x2), (21, x21)]) h K =
    K .normal (act 106 [(6, (.bool false))]) h := kq_reg
theorem res7_0 : resOfFn env.P 7 .ret (act 106 [(6, x6)]) h = some (x6, h) := kq_res
noncomputable abbrev G7_3 {β : Type} (inv : Inv) (x0 x1 x2 : Value) (h : AH) (K : Value → AH → Option β) : Option β :=
    bnd (pLen Try.prog #[22] x0 h) fun x23 =>
    bnd (pBin Try.prog .gtr 3 (.tmp 23) (.const (.int .i64 300)) x23 (.int .i64 300)) fun x24 =>
    bnd (gd (some x24) false h (some (x1, h))) fun x26 =>
    bnd (gd (some x24) false x26.2 (lt (pLen Try.prog #[32] x26.1 x26.2) x26.2)) fun x27 =>
    bnd (gd (some x24) false x27.2 (lt (pBin Try.prog .gtr 3 (.tmp 27) (.const (.int .i64 300)) x27.1 (.int .i64 300)) x27.2)) fun x28 =>
    bnd (pickV x24 (.bool true) x28.1) fun x29 =>
    K (x29) x28.2
theorem r7_3  : kCode env 7 false inv k (cp c7 28) (act 106 [(0, x0), (1, x1), (2, x2), (21, x21)]) h K =
    G7_3 inv x0 x1 x2 h fun y29 h => K .normal (act 106 [(0, x0), (1, x1), (2, x2), (29, y29)]) h := kq_reg
theorem b7_rlrr  : kCode env 7 false inv k (cp c7 29) (act 106 [(0, x0), (1, x1), (2, x2), (29, x29)]) h K = brV x29 (kCode env 7 false inv k (cp c7 58) (act 106 [(0, x0), (1, x1), (2, x2), (29, x29)]) h K) (kCode env 7 false inv k (cp c7 59) (act 106 [(0, x0), (1, x1), (2, x2), (29, x29)]) h K) := kq_cond
theorem r7_4  : kCode env 7 false inv k (cp c7 116) (act 106 [(0, x0), (1, x1), (2, x2), (29, x29)]) h K =
    K .normal (act 106 [(6, (.bool true))]) h := kq_reg
theorem r7_5  : kCode env 7 false inv k (cp c7 30) (act 106 [(0, x0), (1, x1), (2, x2), (29, x29)]) h K =
    bnd (inv (.func 14) #[] #[x0] h) fun x32 =>
    bnd (pExtract x32.1 0) fun x33 =>
    bnd (pExtract x32.1 1) fun x34 =>
    K .normal (act 106 [(0, x0), (1, x1), (2, x2), (7, x33), (8, x34)]) x32.2 := kq_reg
theorem r7_6  : kCode env 7 false inv k (cp c7 62) (act 106 [(0, x0), (1, x1), (2, x2), (7, x7), (8, x8)]) h K =
    bnd (inv (.func 18) #[] #[x0] h) fun x37 =>
    bnd (pExtract x37.1 0) fun x38 =>
    bnd (pExtract x37.1 1) fun x39 =>
    K .normal (act 106 [(0, x0), (1, x1), (2, x2), (7, x7), (8, x8), (9, x38), (10, x39)]) x37.2 := kq_reg
theorem r7_7  : kCode env 7 false inv k (cp c7 126) (act 106 [(0, x0), (1, x1), (2, x2), (7, x7), (8, x8), (9, x9), (10, x10)]) h K =
    bnd (inv (.func 15) #[] #[x1] h) fun x42 =>
    bnd (pExtract x42.1 0) fun x43 =>
    bnd (pExtract x42.1 1) fun x44 =>
    bnd (pExtract x42.1 2) fun x45 =>
    K .normal (act 106 [(0, x0), (1, x1), (2, x2), (7, x7), (8, x8), (9, x9), (10, x10), (11, x43), (12, x44), (13, x45)]) x42.2 := kq_reg
theorem r7_8  : kCode env 7 false inv k (cp c7 254) (act 106 [(0, x0), (1, x1), (2, x2), (7, x7), (8, x8), (9, x9), (10, x10), (11, x11), (12, x12), (13, x13)]) h K =
    bnd (inv (.func 19) #[] #[x1] h) fun x48 =>
    bnd (pExtract x48.1 0) fun x49 =>
    bnd (pExtract x48.1 1) fun x50 =>
    bnd (pExtract x48.1 2) fun x51 =>
    K .normal (act 106 [(0, x0), (2, x2), (7, x7), (8, x8), (9, x9), (10, x10), (11, x11), (12, x12), (13, x13), (14, x49), (15, x50), (16, x51)]) x48.2 := kq_reg
theorem r7_9  : kCode env 7 false inv k (cp c7 510) (act 106 [(0, x0), (2, x2), (7, x7), (8, x8), (9, x9), (10, x10), (11, x11), (12, x12), (13, x13), (14, x14), (15, x15), (16, x16)]) h K =
    bnd (inv (.func 11) #[] #[x0] h) fun x54 =>
    bnd (pExtract x54.1 0) fun x55 =>
    bnd (pExtract x54.1 1) fun x56 =>
    bnd (pExtract x54.1 2) fun x57 =>
    K .normal (act 106 [(0, x0), (2, x2), (7, x7), (8, x8), (9, x9), (10, x10), (11, x11), (12, x12), (13, x13), (14, x14), (15, x15), (16, x16), (17, x55), (19, x57)]) x54.2 := kq_reg
noncomputable abbrev G7_10 {β : Type} (inv : Inv) (x0 x2 x7 x8 x9 x10 x11 x12 x13 x14 x15 x16 x17 x19 : Value) (h : AH) (K : Value → AH → Option β) : Option β :=
    bnd (inv (.func 17) #[] #[x7, x9] h) fun x60 =>
    bnd (gd (some x60.1) true x60.2 (some (x8, x60.2))) fun x62 =>
    bnd (gd (some x60.1) true x62.2 (some (x10, x62.2))) fun x63 =>
    bnd (gd (some x60.1) true x63.2 (lt (pBin Try.prog .eql 33 (.tmp 62) (.tmp 63) x62.1 x63.1) x63.2)) fun x64 =>
    bnd (pickV x60.1 x64.1 (.bool false)) fun x65 =>
    bnd (gd (some x65) true x64.2 (some (x11, x64.2))) fun x67 =>
    bnd (gd (some x65) true x67.2 (some (x14, x67.2))) fun x68 =>
    bnd (gd (some x65) true x68.2 (inv (.func 12) #[] #[x67.1, x68.1] x68.2)) fun x69 =>
    bnd (pickV x65 x69.1 (.bool false)) fun x70 =>
    bnd (gd (some x70) true x69.2 (some (x12, x69.2))) fun x72 =>
    bnd (gd (some x70) true x72.2 (some (x15, x72.2))) fun x73 =>
    bnd (gd (some x70) true x73.2 (lt (pBin Try.prog .eql 3 (.tmp 72) (.tmp 73) x72.1 x73.1) x73.2)) fun x74 =>
    bnd (pickV x70 x74.1 (.bool false)) fun x75 =>
    bnd (gd (some x75) true x74.2 (some (x13, x74.2))) fun x77 =>
    bnd (gd (some x75) true x77.2 (some (x16, x77.2))) fun x78 =>
    bnd (gd (some x75) true x78.2 (lt (pBin Try.prog .eql 33 (.tmp 77) (.tmp 78) x77.1 x78.1) x78.2)) fun x79 =>
    bnd (pickV x75 x79.1 (.bool false)) fun x80 =>
    bnd (gd (some x80) true x79.2 (some (x0, x79.2))) fun x82 =>
    bnd (gd (some x80) true x82.2 (inv (.func 9) #[] #[x82.1] x82.2)) fun x83 =>
    bnd (gd (some x80) true x83.2 (some (x0, x83.2))) fun x84 =>
    bnd (gd (some x80) true x84.2 (inv (.func 20) #[] #[x84.1] x84.2)) fun x85 =>
    bnd (gd (some x80) true x85.2 (lt (pBin Try.prog .eql 3 (.tmp 83) (.tmp 85) x83.1 x85.1) x85.2)) fun x86 =>
    bnd (pickV x80 x86.1 (.bool false)) fun x87 =>
    bnd (gd (some x87) true x86.2 (some (x0, x86.2))) fun x89 =>
    bnd (gd (some x87) true x89.2 (some (x2, x89.2))) fun x90 =>
    bnd (gd (some x87) true x90.2 (inv (.func 10) #[] #[x89.1, x90.1] x90.2)) fun x91 =>
    bnd (gd (some x87) true x91.2 (some (x0, x91.2))) fun x92 =>
    bnd (gd (some x87) true x92.2 (some (x2, x92.2))) fun x93 =>
    bnd (gd (some x87) true x93.2 (inv (.func 21) #[] #[x92.1, x93.1] x93.2)) fun x94 =>
    bnd (gd (some x87) true x94.2 (inv (.func 13) #[] #[x91.1, x94.1] x94.2)) fun x95 =>
    bnd (pickV x87 x95.1 (.bool false)) fun x96 =>
    bnd (gd (some x96) true x95.2 (some (x19, x95.2))) fun x98 =>
    bnd (pickV x96 x98.1 (.bool false)) fun x99 =>
    bnd (gd (some x99) true x98.2 (some (x17, x98.2))) fun x101 =>
    bnd (gd (some x99) true x101.2 (some (x0, x101.2))) fun x102 =>
    bnd (gd (some x99) true x102.2 (inv (.func 22) #[] #[x102.1] x102.2)) fun x103 =>
    bnd (gd (some x99) true x103.2 (inv (.func 13) #[] #[x101.1, x103.1] x103.2)) fun x104 =>
    bnd (pickV x99 x104.1 (.bool false)) fun x105 =>
    K (x105) x104.2
theorem r7_10  : kCode env 7 false inv k (cp c7 1022) (act 106 [(0, x0), (2, x2), (7, x7), (8, x8), (9, x9), (10, x10), (11, x11), (12, x12), (13, x13), (14, x14), (15, x15), (16, x16), (17, x17), (19, x19)]) h K =
    G7_10 inv x0 x2 x7 x8 x9 x10 x11 x12 x13 x14 x15 x16 x17 x19 h fun y6 h => K .normal (act 106 [(6, y6)]) h := kq_reg
/-- shadowbook/shadowbooklaw08.NullsCalls -/
noncomputable def F7 (inv : Inv) (k : Nat) (x0 x1 x2 : Value) (h : AH) : Option (Value × AH) :=
    bnd (inv (.func 8) #[] #[] h) fun x20 =>
    bnd (pUn Try.prog .not x20.1) fun x21 =>
    brV x21
    (some ((.bool false), x20.2))
    (G7_3 inv x0 x1 x2 x20.2 fun y29 h =>
    brV y29
    (some ((.bool true), h))
    (bnd (inv (.func 14) #[] #[x0] h) fun x32 =>
    bnd (pExtract x32.1 0) fun x33 =>
    bnd (pExtract x32.1 1) fun x34 =>
    bnd (inv (.func 18) #[] #[x0] x32.2) fun x37 =>
    bnd (pExtract x37.1 0) fun x38 =>
    bnd (pExtract x37.1 1) fun x39 =>
    bnd (inv (.func 15) #[] #[x1] x37.2) fun x42 =>
    bnd (pExtract x42.1 0) fun x43 =>
    bnd (pExtract x42.1 1) fun x44 =>
    bnd (pExtract x42.1 2) fun x45 =>
    bnd (inv (.func 19) #[] #[x1] x42.2) fun x48 =>
    bnd (pExtract x48.1 0) fun x49 =>
    bnd (pExtract x48.1 1) fun x50 =>
    bnd (pExtract x48.1 2) fun x51 =>
    bnd (inv (.func 11) #[] #[x0] x48.2) fun x54 =>
    bnd (pExtract x54.1 0) fun x55 =>
    bnd (pExtract x54.1 1) fun x56 =>
    bnd (pExtract x54.1 2) fun x57 =>
    G7_10 inv x0 x2 x33 x34 x38 x39 x43 x44 x45 x49 x50 x51 x55 x57 x54.2 fun y6 h_1 =>
    some (y6, h_1)))
theorem F7_eq : eFun env k inv 7 #[x0, x1, x2] h = F7 inv k x0 x1 x2 h := by
      refine (kq_fun (a := act 106 [(0, x0), (1, x1), (2, x2)]) (c := cp c7 1)).trans ?_
      unfold F7
      simp only [kq_seq c7 1, r7_0, kq_seq c7 3, kq_seq c7 6, r7_1, b7_rlr, kq_seq c7 26, r7_2, kq_ret c7 53, res7_0, kq_skip c7 27, kq_seq c7 7, kq_seq c7 14, r7_3, b7_rlrr, kq_seq c7 58, r7_4, kq_ret c7 117, kq_skip c7 59, kq_seq c7 15, r7_5, kq_seq c7 31, r7_6, kq_seq c7 63, r7_7, kq_seq c7 127, r7_8, kq_seq c7 255, r7_9, kq_seq c7 511, r7_10, kq_ret c7 1023, reduceIte, reduceCtorEq, XE.exit.injEq, Nat.reduceEqDiff, Nat.reduceMul, Nat.reduceAdd] <;> kernel_rfl
theorem F7_call : eInv env (k + 1) (.func 7) #[] #[x0, x1, x2] h = F7 (eInv env k) k x0 x1 x2 h := kq_inv F7_eq
noncomputable def c9 : Code := codeOf Try.prog 9
theorem r9_0  : kCode env 9 false inv k (cp c9 2) (act 5 [(0, x0)]) h K =
    K .normal (act 5 [(0, x0)]) h := kq_reg
theorem r9_1  : kCode env 9 false inv k (cp c9 6) (act 5 [(0, x0)]) h K =
    bnd (inv (.func 23) #[] #[x0] h) fun x4 =>
    K .normal (act 5 [(2, x4.1)]) x4.2 := kq_reg
theorem res9_0 : resOfFn env.P 9 .ret (act 5 [(2, x2)]) h = some (x2, h) := kq_res
/-- shadowbook/nulls.Count -/
noncomputable def F9 (inv : Inv) (k : Nat) (x0 : Value) (h : AH) : Option (Value × AH) :=
    bnd (inv (.func 23) #[] #[x0] h) fun x4 =>
    some (x4.1, x4.2)
theorem F9_eq : eFun env k inv 9 #[x0] h = F9 inv k x0 h := by
      refine (kq_fun (a := act 5 [(0, x0)]) (c := cp c9 1)).trans ?_
      unfold F9
      simp only [kq_seq c9 1, r9_0, kq_seq c9 3, r9_1, kq_ret c9 7, res9_0, reduceIte, reduceCtorEq, XE.exit.injEq, Nat.reduceEqDiff, Nat.reduceMul, Nat.reduceAdd] <;> kernel_rfl
theorem F9_call : eInv env (k + 1) (.func 9) #[] #[x0] h = F9 (eInv env k) k x0 h := kq_inv F9_eq
noncomputable def c10 : Code := codeOf Try.prog 10
theorem r10_0  : kCode env 10 false inv k (cp c10 2) (act 34 [(0, x0), (1, x1)]) h K =
    K .normal (act 34 [(0, x0), (1, x1)]) h := kq_reg
theorem r10_1  : kCode env 10 false inv k (cp c10 12) (act 34 [(0, x0), (1, x1)]) h K =
    bnd (pLen Try.prog #[22] x0 h) fun x10 =>
    bnd (inv (.func 9) #[] #[x0] h) fun x12 =>
    bnd (pBin Try.prog .sub 3 (.tmp 10) (.tmp 12) x10 x12.1) fun x13 =>
    bnd (pBin Try.prog .neq 3 (.tmp 13) (.tmp 14) x13 x1) fun x15 =>
    K .normal (act 34 [(0, x0), (15, x15)]) x12.2 := kq_reg
theorem b10_rlr  : kCode env 10 false inv k (cp c10 13) (act 34 [(0, x0), (15, x15)]) h K = brV x15 (kCode env 10 false inv k (cp c10 26) (act 34 [(0, x0), (15, x15)]) h K) (kCode env 10 false inv k (cp c10 27) (act 34 [(0, x0), (15, x15)]) h K) := kq_cond
theorem r10_2  : kCode env 10 false inv k (cp c10 52) (act 34 [(0, x0), (15, x15)]) h K =
    K .normal (act 34 [(4, (.slice none 0 0))]) h := kq_reg
theorem res10_0 : resOfFn env.P 10 .ret (act 34 [(4, x4)]) h = some (x4, h) := kq_res
theorem r10_3  : kCode env 10 false inv k (cp c10 14) (act 34 [(0, x0), (15, x15)]) h K =
    K .normal (act 34 [(0, x0), (5, (.slice none 0 0))]) h := kq_reg
theorem r10_4  : kCode env 10 false inv k (cp c10 30) (act 34 [(0, x0), (5, x5)]) h K =
    K .normal (act 34 [(0, x0), (5, x5), (6, (.int .i64 0))]) h := kq_reg
theorem r10_5  : kCode env 10 false inv k (cp c10 124) (act 34 [(0, x0), (5, x5), (6, x6)]) h K =
    bnd (pLen Try.prog #[22] x0 h) fun x17 =>
    K .normal (act 34 [(5, x5), (6, x6), (16, x0), (17, x17), (18, (.int .i64 0))]) h := kq_reg
theorem r10_6  : kCode env 10 false inv k (cp c10 1000) (act 34 [(5, x5), (6, x6), (16, x16), (17, x17), (18, x18)]) h K =
    bnd (pBin Try.prog .lss 3 (.tmp 18) (.tmp 17) x18 x17) fun x19 =>
    K .normal (act 34 [(5, x5), (6, x6), (16, x16), (17, x17), (18, x18), (19, x19)]) h := kq_reg
theorem b10_lrllrlrrrr  : kCode env 10 false inv k (cp c10 2002) (act 34 [(5, x5), (6, x6), (16, x16), (17, x17), (18, x18), (19, x19)]) h K = brV x19 (kCode env 10 false inv k (cp c10 4004) (act 34 [(5, x5), (6, x6), (16, x16), (17, x17), (18, x18), (19, x19)]) h K) (kCode env 10 false inv k (cp c10 4005) (act 34 [(5, x5), (6, x6), (16, x16), (17, x17), (18, x18), (19, x19)]) h K) := kq_cond
theorem r10_7  : kCode env 10 false inv k (cp c10 16024) (act 34 [(5, x5), (6, x6), (16, x16), (17, x17), (18, x18), (19, x19)]) h K =
    bnd (pIndexAddr Try.prog 22 x16 x18) fun x20 =>
    bnd (pLoad Try.prog 4 x20 h) fun x21 =>
    K .normal (act 34 [(5, x5), (6, x6), (8, x21), (16, x16), (17, x17), (18, x18)]) h := kq_reg
theorem r10_8  : kCode env 10 false inv k (cp c10 64100) (act 34 [(5, x5), (6, x6), (8, x8), (16, x16), (17, x17), (18, x18)]) h K =
    K .normal (act 34 [(5, x5), (6, x6), (16, x16), (17, x17), (18, x18), (22, x8)]) h := kq_reg
theorem b10_rlrllrrllrlrrrr  : kCode env 10 false inv k (cp c10 64101) (act 34 [(5, x5), (6, x6), (16, x16), (17, x17), (18, x18), (22, x22)]) h K = brV x22 (kCode env 10 false inv k (cp c10 128202) (act 34 [(5, x5), (6, x6), (16, x16), (17, x17), (18, x18), (22, x22)]) h K) (kCode env 10 false inv k (cp c10 128203) (act 34 [(5, x5), (6, x6), (16, x16), (17, x17), (18, x18), (22, x22)]) h K) := kq_cond
theorem r10_9  : kCode env 10 false inv k (cp c10 256404) (act 34 [(5, x5), (6, x6), (16, x16), (17, x17), (18, x18), (22, x22)]) h K =
    bnd (pBuildSlice Try.prog 25 1 #[(0, (.int .i64 (-1)))] h) fun x24 =>
    bnd (pAppend Try.prog #[25, 25] x5 x24.1 x24.2) fun x25 =>
    K .normal (act 34 [(5, x25.1), (6, x6), (16, x16), (17, x17), (18, x18)]) x25.2 := kq_reg
theorem r10_10  : kCode env 10 false inv k (cp c10 64102) (act 34 [(5, x5), (6, x6), (16, x16), (17, x17), (18, x18), (22, x22)]) h K =
    bnd (pBuildSlice Try.prog 25 1 #[(0, x6)] h) fun x28 =>
    bnd (pAppend Try.prog #[25, 25] x5 x28.1 x28.2) fun x29 =>
    K .normal (act 34 [(5, x29.1), (6, x6), (16, x16), (17, x17), (18, x18)]) x29.2 := kq_reg
theorem r10_11  : kCode env 10 false inv k (cp c10 64103) (act 34 [(5, x5), (6, x6), (16, x16), (17, x17), (18, x18)]) h K =
    bnd (pBin Try.prog .add 3 (.tmp 30) (.const (.int .i64 1)) x6 (.int .i64 1)) fun x31 =>
    K .normal (act 34 [(5, x5), (6, x31), (16, x16), (17, x17), (18, x18)]) h := kq_reg
noncomputable def F10_lrrllrlrrrr {β : Type} (inv : Inv) (k : Nat) (x5 x6 x16 x17 x18 x19 : Value) (h : AH) (kn : (Value → Value → Value → Value → Value → AH → Option β)) : Option β :=
    bnd (pIndexAddr Try.prog 22 x16 x18) fun x20 =>
    bnd (pLoad Try.prog 4 x20 h) fun x21 =>
    brV x21
    (bnd (pBuildSlice Try.prog 25 1 #[(0, (.int .i64 (-1)))] h) fun x24 =>
    bnd (pAppend Try.prog #[25, 25] x5 x24.1 x24.2) fun x25 =>
    kn x25.1 x6 x16 x17 x18 x25.2)
    (bnd (pBuildSlice Try.prog 25 1 #[(0, x6)] h) fun x28 =>
    bnd (pAppend Try.prog #[25, 25] x5 x28.1 x28.2) fun x29 =>
    bnd (pBin Try.prog .add 3 (.tmp 30) (.const (.int .i64 1)) x6 (.int .i64 1)) fun x31 =>
    kn x29.1 x31 x16 x17 x18 x29.2)
theorem F10_lrrllrlrrrr_eq  : kCode env 10 false inv k (cp c10 4006) (act 34 [(5, x5), (6, x6), (16, x16), (17, x17), (18, x18), (19, x19)]) h K = F10_lrrllrlrrrr inv k x5 x6 x16 x17 x18 x19 h (fun y5 y6 y16 y17 y18 h => K .normal (act 34 [(5, y5), (6, y6), (16, y16), (17, y17), (18, y18)]) h) := by
      unfold F10_lrrllrlrrrr
      simp only [kq_block c10 4006 1, kq_seq c10 8012, r10_7, kq_seq c10 16025, kq_seq c10 32050, r10_8, b10_rlrllrrllrlrrrr, kq_seq c10 128202, r10_9, kq_exit c10 256405 1, kq_skip c10 128203, kq_seq c10 32051, r10_10, r10_11, reduceIte, reduceCtorEq, XE.exit.injEq, Nat.reduceEqDiff, Nat.reduceMul, Nat.reduceAdd] <;> kernel_rfl
theorem r10_12  : kCode env 10 false inv k (cp c10 4007) (act 34 [(5, x5), (6, x6), (16, x16), (17, x17), (18, x18)]) h K =
    bnd (pBin Try.prog .add 3 (.tmp 18) (.const (.int .i64 1)) x18 (.int .i64 1)) fun x32 =>
    K .normal (act 34 [(5, x5), (6, x6), (16, x16), (17, x17), (18, x32)]) h := kq_reg
noncomputable def F10_lrlrrrr {β : Type} (inv : Inv) (k : Nat) : Nat → Value → Value → Value → Value → Value → AH → (Value → Value → Value → Value → Value → Value → AH → Option β) → Option β
  | 0, _, _, _, _, _, _, _ => none
  | j + 1, x5, x6, x16, x17, x18, h, ke0 =>
    bnd (pBin Try.prog .lss 3 (.tmp 18) (.tmp 17) x18 x17) fun x19 =>
    brV x19
    (F10_lrrllrlrrrr inv k x5 x6 x16 x17 x18 x19 h
    (fun y5 y6 y16 y17 y18 h =>
    bnd (pBin Try.prog .add 3 (.tmp 18) (.const (.int .i64 1)) y18 (.int .i64 1)) fun x32 =>
    F10_lrlrrrr inv k j y5 y6 y16 y17 x32 h ke0))
    (ke0 x5 x6 x16 x17 x18 x19 h)
theorem F10_lrlrrrr_j (j : Nat) : kLoop (kCode env 10 false inv k (cp c10 500)) j (act 34 [(5, x5), (6, x6), (16, x16), (17, x17), (18, x18)]) h K = F10_lrlrrrr inv k j x5 x6 x16 x17 x18 h (fun y5 y6 y16 y17 y18 y19 h => K (.exit 0) (act 34 [(5, y5), (6, y6), (16, y16), (17, y17), (18, y18), (19, y19)]) h) := by
      induction j generalizing x5 x6 x16 x17 x18 h with
      | zero => rfl
      | succ j ih =>
        unfold F10_lrlrrrr
        simp only [kLoop, kq_seq c10 500, r10_6, kq_seq c10 1001, b10_lrllrlrrrr, kq_skip c10 4004, kq_seq c10 2003, F10_lrrllrlrrrr_eq, r10_12, kq_exit c10 4005 0, ih, reduceIte, reduceCtorEq, XE.exit.injEq, Nat.reduceEqDiff, Nat.reduceMul, Nat.reduceAdd] <;> kernel_rfl
theorem F10_lrlrrrr_eq  : kCode env 10 false inv k (cp c10 250) (act 34 [(5, x5), (6, x6), (16, x16), (17, x17), (18, x18)]) h K = F10_lrlrrrr inv k k x5 x6 x16 x17 x18 h (fun y5 y6 y16 y17 y18 y19 h => K (.exit 0) (act 34 [(5, y5), (6, y6), (16, y16), (17, y17), (18, y18), (19, y19)]) h) := kq_loop (F10_lrlrrrr_j k)
theorem r10_13  : kCode env 10 false inv k (cp c10 126) (act 34 [(5, x5), (6, x6), (16, x16), (17, x17), (18, x18), (19, x19)]) h K =
    K .normal (act 34 [(4, x5)]) h := kq_reg
/-- shadowbook/nulls.Spread -/
noncomputable def F10 (inv : Inv) (k : Nat) (x0 x1 : Value) (h : AH) : Option (Value × AH) :=
    bnd (pLen Try.prog #[22] x0 h) fun x10 =>
    bnd (inv (.func 9) #[] #[x0] h) fun x12 =>
    bnd (pBin Try.prog .sub 3 (.tmp 10) (.tmp 12) x10 x12.1) fun x13 =>
    bnd (pBin Try.prog .neq 3 (.tmp 13) (.tmp 14) x13 x1) fun x15 =>
    brV x15
    (some ((.slice none 0 0), x12.2))
    (bnd (pLen Try.prog #[22] x0 x12.2) fun x17 =>
    F10_lrlrrrr inv k k (.slice none 0 0) (.int .i64 0) x0 x17 (.int .i64 0) x12.2
    (fun y5 y6 y16 y17 y18 y19 h =>
    some (y5, h)))
theorem F10_eq : eFun env k inv 10 #[x0, x1] h = F10 inv k x0 x1 h := by
      refine (kq_fun (a := act 34 [(0, x0), (1, x1)]) (c := cp c10 1)).trans ?_
      unfold F10
      simp only [kq_seq c10 1, r10_0, kq_seq c10 3, kq_seq c10 6, r10_1, b10_rlr, kq_seq c10 26, r10_2, kq_ret c10 53, res10_0, kq_skip c10 27, kq_seq c10 7, r10_3, kq_seq c10 15, r10_4, kq_seq c10 31, kq_seq c10 62, r10_5, kq_block c10 125 0, F10_lrlrrrr_eq, kq_seq c10 63, r10_13, kq_ret c10 127, reduceIte, reduceCtorEq, XE.exit.injEq, Nat.reduceEqDiff, Nat.reduceMul, Nat.reduceAdd] <;> kernel_rfl
theorem F10_call : eInv env (k + 1) (.func 10) #[] #[x0, x1] h = F10 (eInv env k) k x0 x1 h := kq_inv F10_eq
noncomputable def c11 : Code := codeOf Try.prog 11
theorem r11_0  : kCode env 11 false inv k (cp c11 2) (act 32 [(0, x0)]) h K =
    bnd (pBox Try.prog 22 x0 h) fun x1 =>
    bnd (pAlloc Try.prog 25 x1.2) fun x2 =>
    bnd (pAlloc Try.prog 22 x2.2) fun x3 =>
    bnd (pAlloc Try.prog 4 x3.2) fun x4 =>
    K .normal (act 32 [(1, x1.1), (2, x2.1), (3, x3.1), (4, x4.1)]) x4.2 := kq_reg
theorem r11_1  : kCode env 11 false inv k (cp c11 6) (act 32 [(1, x1), (2, x2), (3, x3), (4, x4)]) h K =
    bnd (pLoad Try.prog 22 x1 h) fun x10 =>
    bnd (inv (.func 24) #[] #[x10] h) fun x11 =>
    K .normal (act 32 [(1, x1), (2, x2), (3, x3), (4, x4), (5, x11.1)]) x11.2 := kq_reg
theorem r11_2  : kCode env 11 false inv k (cp c11 28) (act 32 [(1, x1), (2, x2), (3, x3), (4, x4), (5, x5)]) h K =
    bnd (pBin Try.prog .eql 46 (.tmp 12) (.const .nilFunc) x5 .nilFunc) fun x13 =>
    K .normal (act 32 [(1, x1), (2, x2), (3, x3), (4, x4), (5, x5), (13, x13)]) h := kq_reg
theorem b11_rlrr  : kCode env 11 false inv k (cp c11 29) (act 32 [(1, x1), (2, x2), (3, x3), (4, x4), (5, x5), (13, x13)]) h K = brV x13 (kCode env 11 false inv k (cp c11 58) (act 32 [(1, x1), (2, x2), (3, x3), (4, x4), (5, x5), (13, x13)]) h K) (kCode env 11 false inv k (cp c11 59) (act 32 [(1, x1), (2, x2), (3, x3), (4, x4), (5, x5), (13, x13)]) h K) := kq_cond
theorem r11_3  : kCode env 11 false inv k (cp c11 116) (act 32 [(1, x1), (2, x2), (3, x3), (4, x4), (5, x5), (13, x13)]) h K =
    bnd (kSt (pStore Try.prog 25 x2 (.slice none 0 0) h)) fun u =>
    bnd (kSt (pStore Try.prog 22 x3 (.slice none 0 0) u.2)) fun u_1 =>
    bnd (kSt (pStore Try.prog 4 x4 (.bool false) u_1.2)) fun u_2 =>
    K .normal (act 32 [(2, x2), (3, x3), (4, x4)]) u_2.2 := kq_reg
theorem res11_0 : resOfFn env.P 11 .ret (act 32 [(2, x2), (3, x3), (4, x4)]) h = bnd (pLoad Try.prog 25 x2 h) fun q0 =>
    bnd (pLoad Try.prog 22 x3 h) fun q1 =>
    bnd (pLoad Try.prog 4 x4 h) fun q2 =>
    some (.tuple #[q0, q1, q2], h) := kq_res
theorem r11_4  : kCode env 11 false inv k (cp c11 30) (act 32 [(1, x1), (2, x2), (3, x3), (4, x4), (5, x5), (13, x13)]) h K =
    bnd (pAlloc Try.prog 25 h) fun x6 =>
    K .normal (act 32 [(1, x1), (2, x2), (3, x3), (4, x4), (5, x5), (6, x6.1)]) x6.2 := kq_reg
theorem r11_5  : kCode env 11 false inv k (cp c11 62) (act 32 [(1, x1), (2, x2), (3, x3), (4, x4), (5, x5), (6, x6)]) h K =
    bnd (pAlloc Try.prog 22 h) fun x7 =>
    K .normal (act 32 [(1, x1), (2, x2), (3, x3), (4, x4), (5, x5), (6, x6), (7, x7.1)]) x7.2 := kq_reg
theorem r11_6  : kCode env 11 false inv k (cp c11 252) (act 32 [(1, x1), (2, x2), (3, x3), (4, x4), (5, x5), (6, x6), (7, x7)]) h K =
    K .normal (act 32 [(1, x1), (2, x2), (3, x3), (4, x4), (6, x6), (7, x7), (14, x5)]) h := kq_reg
theorem g11_lrlrrrrr  : kCode env 11 false inv k (cp c11 506) (act 32 [(1, x1), (2, x2), (3, x3), (4, x4), (6, x6), (7, x7), (14, x14)]) h K = kRange env 11 inv x14 (psOf (cp c11 506)) (cp c11 1012) (cp c11 1013) (act 32 [(1, x1), (2, x2), (3, x3), (4, x4), (6, x6), (7, x7), (14, x14)]) h fun e h => sw e (K .normal (act 32 [(1, x1), (2, x2), (3, x3), (4, x4), (6, x6), (7, x7), (14, x14)]) h) (K .ret (act 32 [(1, x1), (2, x2), (3, x3), (4, x4), (6, x6), (7, x7), (14, x14)]) h) [] := kq_range (g := x14) (ids := [])
noncomputable def F11_rlrrrrr {β : Type} (inv : Inv) (k : Nat) (x1 x2 x3 x4 x6 x7 x14 : Value) (h : AH) (kn : (Value → Value → Value → Value → Value → Value → Value → AH → Option β)) (kr : (Value → Value → Value → Value → Value → Value → Value → AH → Option β)) : Option β :=
    kRange env 11 inv x14 (psOf (cp c11 506)) (cp c11 1012) (cp c11 1013) (act 32 [(1, x1), (2, x2), (3, x3), (4, x4), (6, x6), (7, x7), (14, x14)]) h fun e h => sw e
    (kn x1 x2 x3 x4 x6 x7 x14 h)
    (kr x1 x2 x3 x4 x6 x7 x14 h) []
theorem F11_rlrrrrr_eq  : kCode env 11 false inv k (cp c11 253) (act 32 [(1, x1), (2, x2), (3, x3), (4, x4), (6, x6), (7, x7), (14, x14)]) h K = F11_rlrrrrr inv k x1 x2 x3 x4 x6 x7 x14 h (fun y1 y2 y3 y4 y6 y7 y14 h => K .normal (act 32 [(1, y1), (2, y2), (3, y3), (4, y4), (6, y6), (7, y7), (14, y14)]) h) (fun y1 y2 y3 y4 y6 y7 y14 h => K .ret (act 32 [(1, y1), (2, y2), (3, y3), (4, y4), (6, y6), (7, y7), (14, y14)]) h) := by
      unfold F11_rlrrrrr
      simp only [kq_block c11 253 0, g11_lrlrrrrr, reduceIte, reduceCtorEq, XE.exit.injEq, Nat.reduceEqDiff, Nat.reduceMul, Nat.reduceAdd] <;> kernel_rfl
theorem r11_12  : kCode env 11 false inv k (cp c11 254) (act 32 [(1, x1), (2, x2), (3, x3), (4, x4), (6, x6), (7, x7), (14, x14)]) h K =
    bnd (pLoad Try.prog 25 x6 h) fun x30 =>
    bnd (pLoad Try.prog 22 x7 h) fun x31 =>
    bnd (kSt (pStore Try.prog 25 x2 x30 h)) fun u =>
    bnd (kSt (pStore Try.prog 22 x3 x31 u.2)) fun u_5 =>
    bnd (kSt (pStore Try.prog 4 x4 (.bool true) u_5.2)) fun u_6 =>
    chkK ((!true || !true || (sameO (pLoad Try.prog 22 x7 h) x31 && sameO (pLoad Try.prog 22 x7 u.2) x31)) && true) <|
    K .normal (act 32 [(2, x2), (3, x3), (4, x4)]) u_6.2 := kq_draw
theorem res11_1 : resOfFn env.P 11 .ret (act 32 [(1, x1), (2, x2), (3, x3), (4, x4), (6, x6), (7, x7), (14, x14)]) h = bnd (pLoad Try.prog 25 x2 h) fun q0 =>
    bnd (pLoad Try.prog 22 x3 h) fun q1 =>
    bnd (pLoad Try.prog 4 x4 h) fun q2 =>
    some (.tuple #[q0, q1, q2], h) := kq_res
/-- shadowbook/shadowbooklaw08.runs -/
noncomputable def F11 (inv : Inv) (k : Nat) (x0 : Value) (h : AH) : Option (Value × AH) :=
    bnd (pBox Try.prog 22 x0 h) fun x1 =>
    bnd (pAlloc Try.prog 25 x1.2) fun x2 =>
    bnd (pAlloc Try.prog 22 x2.2) fun x3 =>
    bnd (pAlloc Try.prog 4 x3.2) fun x4 =>
    bnd (pLoad Try.prog 22 x1.1 x4.2) fun x10 =>
    bnd (inv (.func 24) #[] #[x10] x4.2) fun x11 =>
    bnd (pBin Try.prog .eql 46 (.tmp 12) (.const .nilFunc) x11.1 .nilFunc) fun x13 =>
    brV x13
    (bnd (kSt (pStore Try.prog 25 x2.1 (.slice none 0 0) x11.2)) fun u =>
    bnd (kSt (pStore Try.prog 22 x3.1 (.slice none 0 0) u.2)) fun u_3 =>
    bnd (kSt (pStore Try.prog 4 x4.1 (.bool false) u_3.2)) fun u_4 =>
    bnd (pLoad Try.prog 25 x2.1 u_4.2) fun q0 =>
    bnd (pLoad Try.prog 22 x3.1 u_4.2) fun q1 =>
    bnd (pLoad Try.prog 4 x4.1 u_4.2) fun q2 =>
    some (.tuple #[q0, q1, q2], u_4.2))
    (bnd (pAlloc Try.prog 25 x11.2) fun x6 =>
    bnd (pAlloc Try.prog 22 x6.2) fun x7 =>
    F11_rlrrrrr inv k x1.1 x2.1 x3.1 x4.1 x6.1 x7.1 x11.1 x7.2
    (fun y1 y2 y3 y4 y6 y7 y14 h =>
    bnd (pLoad Try.prog 25 y6 h) fun x30 =>
    bnd (pLoad Try.prog 22 y7 h) fun x31 =>
    bnd (kSt (pStore Try.prog 25 y2 x30 h)) fun u_7 =>
    bnd (kSt (pStore Try.prog 22 y3 x31 u_7.2)) fun u_8 =>
    bnd (kSt (pStore Try.prog 4 y4 (.bool true) u_8.2)) fun u_9 =>
    chkK ((!true || !true || (sameO (pLoad Try.prog 22 y7 h) x31 && sameO (pLoad Try.prog 22 y7 u_7.2) x31)) && true) <|
    bnd (pLoad Try.prog 25 y2 u_9.2) fun q0 =>
    bnd (pLoad Try.prog 22 y3 u_9.2) fun q1 =>
    bnd (pLoad Try.prog 4 y4 u_9.2) fun q2 =>
    some (.tuple #[q0, q1, q2], u_9.2))
    (fun y1_10 y2_11 y3_12 y4_13 y6_14 y7_15 y14_16 h_17 =>
    bnd (pLoad Try.prog 25 y2_11 h_17) fun q0 =>
    bnd (pLoad Try.prog 22 y3_12 h_17) fun q1 =>
    bnd (pLoad Try.prog 4 y4_13 h_17) fun q2 =>
    some (.tuple #[q0, q1, q2], h_17)))
theorem F11_eq : eFun env k inv 11 #[x0] h = F11 inv k x0 h := by
      refine (kq_fun (a := act 32 [(0, x0)]) (c := cp c11 1)).trans ?_
      unfold F11
      simp only [kq_seq c11 1, r11_0, kq_seq c11 3, r11_1, kq_seq c11 7, kq_seq c11 14, r11_2, b11_rlrr, kq_seq c11 58, r11_3, kq_ret c11 117, res11_0, kq_skip c11 59, kq_seq c11 15, r11_4, kq_seq c11 31, r11_5, kq_seq c11 63, kq_seq c11 126, r11_6, F11_rlrrrrr_eq, kq_seq c11 127, r11_12, kq_ret c11 255, res11_1, reduceIte, reduceCtorEq, XE.exit.injEq, Nat.reduceEqDiff, Nat.reduceMul, Nat.reduceAdd] <;> kernel_rfl
theorem F11_call : eInv env (k + 1) (.func 11) #[] #[x0] h = F11 (eInv env k) k x0 h := kq_inv F11_eq
theorem r11_7  : kCode env 11 true inv k (cp c11 2024) (act 32 [(1, x1), (2, x2), (3, x3), (4, x4), (6, x6), (7, x7), (14, x14), (15, x15), (16, x16)]) h K =
    K .normal (act 32 [(1, x1), (2, x2), (3, x3), (4, x4), (6, x6), (7, x7), (8, x15), (16, x16)]) h := kq_reg
theorem r11_8  : kCode env 11 true inv k (cp c11 2025) (act 32 [(1, x1), (2, x2), (3, x3), (4, x4), (6, x6), (7, x7), (8, x8), (16, x16)]) h K =
    K .normal (act 32 [(1, x1), (2, x2), (3, x3), (4, x4), (6, x6), (7, x7), (8, x8), (9, x16)]) h := kq_reg
theorem r11_9  : kCode env 11 true inv k (cp c11 8104) (act 32 [(1, x1), (2, x2), (3, x3), (4, x4), (6, x6), (7, x7), (8, x8), (9, x9)]) h K =
    bnd (pLoad Try.prog 25 x6 h) fun x17 =>
    bnd (pLen Try.prog #[25] x17 h) fun x18 =>
    bnd (pLoad Try.prog 22 x1 h) fun x19 =>
    bnd (pLen Try.prog #[22] x19 h) fun x20 =>
    bnd (pBin Try.prog .gtr 3 (.tmp 18) (.tmp 20) x18 x20) fun x21 =>
    K .normal (act 32 [(2, x2), (3, x3), (4, x4), (6, x6), (7, x7), (8, x8), (9, x9), (21, x21)]) h := kq_reg
theorem b11_rllrlrlrrrrr  : kCode env 11 true inv k (cp c11 8105) (act 32 [(2, x2), (3, x3), (4, x4), (6, x6), (7, x7), (8, x8), (9, x9), (21, x21)]) h K = brV x21 (kCode env 11 true inv k (cp c11 16210) (act 32 [(2, x2), (3, x3), (4, x4), (6, x6), (7, x7), (8, x8), (9, x9), (21, x21)]) h K) (kCode env 11 true inv k (cp c11 16211) (act 32 [(2, x2), (3, x3), (4, x4), (6, x6), (7, x7), (8, x8), (9, x9), (21, x21)]) h K) := kq_cond
theorem r11_10  : kCode env 11 true inv k (cp c11 32420) (act 32 [(2, x2), (3, x3), (4, x4), (6, x6), (7, x7), (8, x8), (9, x9), (21, x21)]) h K =
    bnd (kSt (pStore Try.prog 25 x2 (.slice none 0 0) h)) fun u =>
    bnd (kSt (pStore Try.prog 22 x3 (.slice none 0 0) u.2)) fun u_18 =>
    bnd (kSt (pStore Try.prog 4 x4 (.bool false) u_18.2)) fun u_19 =>
    K .normal (act 32 [(2, x2), (3, x3), (4, x4)]) u_19.2 := kq_reg
noncomputable abbrev G11_11 {β : Type} (inv : Inv) (x6 x7 x8 x9 : Value) (h : AH) (K : AH → Option β) : Option β :=
    bnd (pBuildSlice Try.prog 25 1 #[(0, x8)] h) fun x24 =>
    bnd (pBuildSlice Try.prog 22 1 #[(0, x9)] x24.2) fun x28 =>
    bnd (pLoad Try.prog 25 x6 x28.2) fun x22 =>
    bnd (pAppend Try.prog #[25, 25] x22 x24.1 x28.2) fun x25 =>
    bnd (pLoad Try.prog 22 x7 x25.2) fun x26 =>
    bnd (pAppend Try.prog #[22, 22] x26 x28.1 x25.2) fun x29 =>
    bnd (kSt (pStore Try.prog 25 x6 x25.1 x29.2)) fun u =>
    bnd (kSt (pStore Try.prog 22 x7 x29.1 u.2)) fun u_22 =>
    chkK ((!true || !true || (sameO (pLoad Try.prog 25 x6 h) x22 && sameO (pLoad Try.prog 25 x6 x24.2) x22)) && ((!true || !true || (sameO (pLoad Try.prog 25 x6 x24.2) x22 && sameO (pLoad Try.prog 25 x6 x28.2) x22)) && ((!true || !true || (sameO (pLoad Try.prog 22 x7 h) x26 && sameO (pLoad Try.prog 22 x7 x24.2) x26)) && ((!true || !true || (sameO (pLoad Try.prog 22 x7 x24.2) x26 && sameO (pLoad Try.prog 22 x7 x28.2) x26)) && ((!true || !true || (sameO (pLoad Try.prog 22 x7 x28.2) x26 && sameO (pLoad Try.prog 22 x7 x25.2) x26)) && true))))) <|
    K u_22.2
theorem r11_11  : kCode env 11 true inv k (cp c11 4053) (act 32 [(2, x2), (3, x3), (4, x4), (6, x6), (7, x7), (8, x8), (9, x9), (21, x21)]) h K =
    G11_11 inv x6 x7 x8 x9 h fun  h => K .normal (act 32 []) h := kq_draw
noncomputable def R11_lrlrrrrr (inv : Inv) (k l : Nat) (x1 x2 x3 x4 x6 x7 x14 z0 z1 : Value) (h : AH) : Option (Value × AH) :=
    rdBegin l h fun h =>
    bnd (pLoad Try.prog 25 x6 h) fun x17 =>
    bnd (pLen Try.prog #[25] x17 h) fun x18 =>
    bnd (pLoad Try.prog 22 x1 h) fun x19 =>
    bnd (pLen Try.prog #[22] x19 h) fun x20 =>
    bnd (pBin Try.prog .gtr 3 (.tmp 18) (.tmp 20) x18 x20) fun x21 =>
    brV x21
    (bnd (kSt (pStore Try.prog 25 x2 (.slice none 0 0) h)) fun u =>
    bnd (kSt (pStore Try.prog 22 x3 (.slice none 0 0) u.2)) fun u_20 =>
    bnd (kSt (pStore Try.prog 4 x4 (.bool false) u_20.2)) fun u_21 =>
    rdEnd l .ret u_21.2)
    (G11_11 inv x6 x7 z0 z1 h fun  h_23 =>
    rdEnd l .normal h_23)
theorem R11_lrlrrrrr_eq {l : Nat} {pd : Option Code} (hl : h.get l = some (.loop .ready pd 11 (act 32 [(1, x1), (2, x2), (3, x3), (4, x4), (6, x6), (7, x7), (14, x14)]).tmps (psOf (cp c11 506)) (cp c11 1012) (cp c11 1013))) : eRound env k inv l #[z0, z1] h = R11_lrlrrrrr inv k l x1 x2 x3 x4 x6 x7 x14 z0 z1 h := by
      refine (eRound_k (a := act 32 [(1, x1), (2, x2), (3, x3), (4, x4), (6, x6), (7, x7), (14, x14), (15, z0), (16, z1)]) hl (by kernel_rfl) (by kernel_rfl)).trans ?_
      unfold R11_lrlrrrrr
      simp only [kq_seq c11 1012, r11_7, r11_8, kq_block c11 1013 1, kq_seq c11 2026, kq_seq c11 4052, r11_9, b11_rllrlrlrrrrr, kq_seq c11 16210, r11_10, kq_ret c11 32421, kq_skip c11 16211, r11_11, reduceIte, reduceCtorEq, XE.exit.injEq, Nat.reduceEqDiff, Nat.reduceMul, Nat.reduceAdd] <;> kernel_rfl
noncomputable def c12 : Code := codeOf Try.prog 12
theorem r12_0  : kCode env 12 false inv k (cp c12 2) (act 26 [(0, x0), (1, x1)]) h K =
    K .normal (act 26 [(0, x0), (1, x1)]) h := kq_reg
theorem r12_1  : kCode env 12 false inv k (cp c12 12) (act 26 [(0, x0), (1, x1)]) h K =
    bnd (pLen Try.prog #[22] x0 h) fun x7 =>
    bnd (pLen Try.prog #[22] x1 h) fun x9 =>
    bnd (pBin Try.prog .neq 3 (.tmp 7) (.tmp 9) x7 x9) fun x10 =>
    K .normal (act 26 [(0, x0), (1, x1), (10, x10)]) h := kq_reg
theorem b12_rlr  : kCode env 12 false inv k (cp c12 13) (act 26 [(0, x0), (1, x1), (10, x10)]) h K = brV x10 (kCode env 12 false inv k (cp c12 26) (act 26 [(0, x0), (1, x1), (10, x10)]) h K) (kCode env 12 false inv k (cp c12 27) (act 26 [(0, x0), (1, x1), (10, x10)]) h K) := kq_cond
theorem r12_2  : kCode env 12 false inv k (cp c12 52) (act 26 [(0, x0), (1, x1), (10, x10)]) h K =
    K .normal (act 26 [(4, (.bool false))]) h := kq_reg
theorem res12_0 : resOfFn env.P 12 .ret (act 26 [(4, x4)]) h = some (x4, h) := kq_res
theorem r12_3  : kCode env 12 false inv k (cp c12 28) (act 26 [(0, x0), (1, x1), (10, x10)]) h K =
    K .normal (act 26 [(0, x0), (1, x1), (5, (.int .i64 0))]) h := kq_reg
theorem r12_4  : kCode env 12 false inv k (cp c12 464) (act 26 [(0, x0), (1, x1), (5, x5)]) h K =
    bnd (pLen Try.prog #[22] x0 h) fun x13 =>
    bnd (pBin Try.prog .lss 3 (.tmp 11) (.tmp 13) x5 x13) fun x14 =>
    K .normal (act 26 [(0, x0), (1, x1), (5, x5), (14, x14)]) h := kq_reg
theorem b12_rlllrlrr  : kCode env 12 false inv k (cp c12 465) (act 26 [(0, x0), (1, x1), (5, x5), (14, x14)]) h K = brV x14 (kCode env 12 false inv k (cp c12 930) (act 26 [(0, x0), (1, x1), (5, x5), (14, x14)]) h K) (kCode env 12 false inv k (cp c12 931) (act 26 [(0, x0), (1, x1), (5, x5), (14, x14)]) h K) := kq_cond
theorem r12_6  : kCode env 12 false inv k (cp c12 1864) (act 26 [(0, x0), (1, x1), (5, x5), (14, x14)]) h K =
    bnd (pIndexAddr Try.prog 22 x0 x5) fun x19 =>
    bnd (pLoad Try.prog 4 x19 h) fun x20 =>
    bnd (pIndexAddr Try.prog 22 x1 x5) fun x23 =>
    bnd (pLoad Try.prog 4 x23 h) fun x24 =>
    bnd (pBin Try.prog .neq 4 (.tmp 20) (.tmp 24) x20 x24) fun x25 =>
    K .normal (act 26 [(0, x0), (1, x1), (5, x5), (25, x25)]) h := kq_draw
theorem b12_rllrllrlrr  : kCode env 12 false inv k (cp c12 1865) (act 26 [(0, x0), (1, x1), (5, x5), (25, x25)]) h K = brV x25 (kCode env 12 false inv k (cp c12 3730) (act 26 [(0, x0), (1, x1), (5, x5), (25, x25)]) h K) (kCode env 12 false inv k (cp c12 3731) (act 26 [(0, x0), (1, x1), (5, x5), (25, x25)]) h K) := kq_cond
theorem r12_7  : kCode env 12 false inv k (cp c12 7460) (act 26 [(0, x0), (1, x1), (5, x5), (25, x25)]) h K =
    K .normal (act 26 [(4, (.bool false))]) h := kq_reg
theorem r12_5  : kCode env 12 false inv k (cp c12 467) (act 26 [(0, x0), (1, x1), (5, x5), (25, x25)]) h K =
    bnd (pBin Try.prog .add 3 (.tmp 15) (.const (.int .i64 1)) x5 (.int .i64 1)) fun x16 =>
    K .normal (act 26 [(0, x0), (1, x1), (5, x16)]) h := kq_reg
noncomputable def F12_lrlrr {β : Type} (inv : Inv) (k : Nat) : Nat → Value → Value → Value → AH → (Value → Value → Value → Value → AH → Option β) → (Value → AH → Option β) → Option β
  | 0, _, _, _, _, _, _ => none
  | j + 1, x0, x1, x5, h, ke0, kr =>
    bnd (pLen Try.prog #[22] x0 h) fun x13 =>
    bnd (pBin Try.prog .lss 3 (.tmp 11) (.tmp 13) x5 x13) fun x14 =>
    brV x14
    (bnd (pIndexAddr Try.prog 22 x0 x5) fun x19 =>
    bnd (pLoad Try.prog 4 x19 h) fun x20 =>
    bnd (pIndexAddr Try.prog 22 x1 x5) fun x23 =>
    bnd (pLoad Try.prog 4 x23 h) fun x24 =>
    bnd (pBin Try.prog .neq 4 (.tmp 20) (.tmp 24) x20 x24) fun x25 =>
    brV x25
    (kr (.bool false) h)
    (bnd (pBin Try.prog .add 3 (.tmp 15) (.const (.int .i64 1)) x5 (.int .i64 1)) fun x16 =>
    F12_lrlrr inv k j x0 x1 x16 h ke0 kr))
    (ke0 x0 x1 x5 x14 h)
theorem F12_lrlrr_j (j : Nat) : kLoop (kCode env 12 false inv k (cp c12 116)) j (act 26 [(0, x0), (1, x1), (5, x5)]) h K = F12_lrlrr inv k j x0 x1 x5 h (fun y0 y1 y5 y14 h => K (.exit 0) (act 26 [(0, y0), (1, y1), (5, y5), (14, y14)]) h) (fun y4 h => K .ret (act 26 [(4, y4)]) h) := by
      induction j generalizing x0 x1 x5 h with
      | zero => rfl
      | succ j ih =>
        unfold F12_lrlrr
        simp only [kLoop, kq_seq c12 116, kq_seq c12 232, r12_4, b12_rlllrlrr, kq_skip c12 930, kq_seq c12 233, kq_block c12 466 1, kq_seq c12 932, r12_6, b12_rllrllrlrr, kq_seq c12 3730, r12_7, kq_ret c12 7461, kq_skip c12 3731, r12_5, kq_exit c12 931 0, ih, reduceIte, reduceCtorEq, XE.exit.injEq, Nat.reduceEqDiff, Nat.reduceMul, Nat.reduceAdd] <;> kernel_rfl
theorem F12_lrlrr_eq  : kCode env 12 false inv k (cp c12 58) (act 26 [(0, x0), (1, x1), (5, x5)]) h K = F12_lrlrr inv k k x0 x1 x5 h (fun y0 y1 y5 y14 h => K (.exit 0) (act 26 [(0, y0), (1, y1), (5, y5), (14, y14)]) h) (fun y4 h => K .ret (act 26 [(4, y4)]) h) := kq_loop (F12_lrlrr_j k)
theorem r12_8  : kCode env 12 false inv k (cp c12 30) (act 26 [(0, x0), (1, x1), (5, x5), (14, x14)]) h K =
    K .normal (act 26 [(4, (.bool true))]) h := kq_reg
/-- shadowbook/shadowbookkit.Same[bool] -/
noncomputable def F12 (inv : Inv) (k : Nat) (x0 x1 : Value) (h : AH) : Option (Value × AH) :=
    bnd (pLen Try.prog #[22] x0 h) fun x7 =>
    bnd (pLen Try.prog #[22] x1 h) fun x9 =>
    bnd (pBin Try.prog .neq 3 (.tmp 7) (.tmp 9) x7 x9) fun x10 =>
    brV x10
    (some ((.bool false), h))
    (F12_lrlrr inv k k x0 x1 (.int .i64 0) h
    (fun y0 y1 y5 y14 h =>
    some ((.bool true), h))
    (fun y4 h_1 =>
    some (y4, h_1)))
theorem F12_eq : eFun env k inv 12 #[x0, x1] h = F12 inv k x0 x1 h := by
      refine (kq_fun (a := act 26 [(0, x0), (1, x1)]) (c := cp c12 1)).trans ?_
      unfold F12
      simp only [kq_seq c12 1, r12_0, kq_seq c12 3, kq_seq c12 6, r12_1, b12_rlr, kq_seq c12 26, r12_2, kq_ret c12 53, res12_0, kq_skip c12 27, kq_seq c12 7, kq_seq c12 14, r12_3, kq_block c12 29 0, F12_lrlrr_eq, kq_seq c12 15, r12_8, kq_ret c12 31, reduceIte, reduceCtorEq, XE.exit.injEq, Nat.reduceEqDiff, Nat.reduceMul, Nat.reduceAdd] <;> kernel_rfl
theorem F12_call : eInv env (k + 1) (.func 12) #[] #[x0, x1] h = F12 (eInv env k) k x0 x1 h := kq_inv F12_eq
noncomputable def c13 : Code := codeOf Try.prog 13
theorem r13_0  : kCode env 13 false inv k (cp c13 2) (act 26 [(0, x0), (1, x1)]) h K =
    K .normal (act 26 [(0, x0), (1, x1)]) h := kq_reg
theorem r13_1  : kCode env 13 false inv k (cp c13 12) (act 26 [(0, x0), (1, x1)]) h K =
    bnd (pLen Try.prog #[25] x0 h) fun x7 =>
    bnd (pLen Try.prog #[25] x1 h) fun x9 =>
    bnd (pBin Try.prog .neq 3 (.tmp 7) (.tmp 9) x7 x9) fun x10 =>
    K .normal (act 26 [(0, x0), (1, x1), (10, x10)]) h := kq_reg
theorem b13_rlr  : kCode env 13 false inv k (cp c13 13) (act 26 [(0, x0), (1, x1), (10, x10)]) h K = brV x10 (kCode env 13 false inv k (cp c13 26) (act 26 [(0, x0), (1, x1), (10, x10)]) h K) (kCode env 13 false inv k (cp c13 27) (act 26 [(0, x0), (1, x1), (10, x10)]) h K) := kq_cond
theorem r13_2  : kCode env 13 false inv k (cp c13 52) (act 26 [(0, x0), (1, x1), (10, x10)]) h K =
    K .normal (act 26 [(4, (.bool false))]) h := kq_reg
theorem res13_0 : resOfFn env.P 13 .ret (act 26 [(4, x4)]) h = some (x4, h) := kq_res
theorem r13_3  : kCode env 13 false inv k (cp c13 28) (act 26 [(0, x0), (1, x1), (10, x10)]) h K =
    K .normal (act 26 [(0, x0), (1, x1), (5, (.int .i64 0))]) h := kq_reg
theorem r13_4  : kCode env 13 false inv k (cp c13 464) (act 26 [(0, x0), (1, x1), (5, x5)]) h K =
    bnd (pLen Try.prog #[25] x0 h) fun x13 =>
    bnd (pBin Try.prog .lss 3 (.tmp 11) (.tmp 13) x5 x13) fun x14 =>
    K .normal (act 26 [(0, x0), (1, x1), (5, x5), (14, x14)]) h := kq_reg
theorem b13_rlllrlrr  : kCode env 13 false inv k (cp c13 465) (act 26 [(0, x0), (1, x1), (5, x5), (14, x14)]) h K = brV x14 (kCode env 13 false inv k (cp c13 930) (act 26 [(0, x0), (1, x1), (5, x5), (14, x14)]) h K) (kCode env 13 false inv k (cp c13 931) (act 26 [(0, x0), (1, x1), (5, x5), (14, x14)]) h K) := kq_cond
theorem r13_6  : kCode env 13 false inv k (cp c13 1864) (act 26 [(0, x0), (1, x1), (5, x5), (14, x14)]) h K =
    bnd (pIndexAddr Try.prog 25 x0 x5) fun x19 =>
    bnd (pLoad Try.prog 3 x19 h) fun x20 =>
    bnd (pIndexAddr Try.prog 25 x1 x5) fun x23 =>
    bnd (pLoad Try.prog 3 x23 h) fun x24 =>
    bnd (pBin Try.prog .neq 3 (.tmp 20) (.tmp 24) x20 x24) fun x25 =>
    K .normal (act 26 [(0, x0), (1, x1), (5, x5), (25, x25)]) h := kq_draw
theorem b13_rllrllrlrr  : kCode env 13 false inv k (cp c13 1865) (act 26 [(0, x0), (1, x1), (5, x5), (25, x25)]) h K = brV x25 (kCode env 13 false inv k (cp c13 3730) (act 26 [(0, x0), (1, x1), (5, x5), (25, x25)]) h K) (kCode env 13 false inv k (cp c13 3731) (act 26 [(0, x0), (1, x1), (5, x5), (25, x25)]) h K) := kq_cond
theorem r13_7  : kCode env 13 false inv k (cp c13 7460) (act 26 [(0, x0), (1, x1), (5, x5), (25, x25)]) h K =
    K .normal (act 26 [(4, (.bool false))]) h := kq_reg
theorem r13_5  : kCode env 13 false inv k (cp c13 467) (act 26 [(0, x0), (1, x1), (5, x5), (25, x25)]) h K =
    bnd (pBin Try.prog .add 3 (.tmp 15) (.const (.int .i64 1)) x5 (.int .i64 1)) fun x16 =>
    K .normal (act 26 [(0, x0), (1, x1), (5, x16)]) h := kq_reg
noncomputable def F13_lrlrr {β : Type} (inv : Inv) (k : Nat) : Nat → Value → Value → Value → AH → (Value → Value → Value → Value → AH → Option β) → (Value → AH → Option β) → Option β
  | 0, _, _, _, _, _, _ => none
  | j + 1, x0, x1, x5, h, ke0, kr =>
    bnd (pLen Try.prog #[25] x0 h) fun x13 =>
    bnd (pBin Try.prog .lss 3 (.tmp 11) (.tmp 13) x5 x13) fun x14 =>
    brV x14
    (bnd (pIndexAddr Try.prog 25 x0 x5) fun x19 =>
    bnd (pLoad Try.prog 3 x19 h) fun x20 =>
    bnd (pIndexAddr Try.prog 25 x1 x5) fun x23 =>
    bnd (pLoad Try.prog 3 x23 h) fun x24 =>
    bnd (pBin Try.prog .neq 3 (.tmp 20) (.tmp 24) x20 x24) fun x25 =>
    brV x25
    (kr (.bool false) h)
    (bnd (pBin Try.prog .add 3 (.tmp 15) (.const (.int .i64 1)) x5 (.int .i64 1)) fun x16 =>
    F13_lrlrr inv k j x0 x1 x16 h ke0 kr))
    (ke0 x0 x1 x5 x14 h)
theorem F13_lrlrr_j (j : Nat) : kLoop (kCode env 13 false inv k (cp c13 116)) j (act 26 [(0, x0), (1, x1), (5, x5)]) h K = F13_lrlrr inv k j x0 x1 x5 h (fun y0 y1 y5 y14 h => K (.exit 0) (act 26 [(0, y0), (1, y1), (5, y5), (14, y14)]) h) (fun y4 h => K .ret (act 26 [(4, y4)]) h) := by
      induction j generalizing x0 x1 x5 h with
      | zero => rfl
      | succ j ih =>
        unfold F13_lrlrr
        simp only [kLoop, kq_seq c13 116, kq_seq c13 232, r13_4, b13_rlllrlrr, kq_skip c13 930, kq_seq c13 233, kq_block c13 466 1, kq_seq c13 932, r13_6, b13_rllrllrlrr, kq_seq c13 3730, r13_7, kq_ret c13 7461, kq_skip c13 3731, r13_5, kq_exit c13 931 0, ih, reduceIte, reduceCtorEq, XE.exit.injEq, Nat.reduceEqDiff, Nat.reduceMul, Nat.reduceAdd] <;> kernel_rfl
theorem F13_lrlrr_eq  : kCode env 13 false inv k (cp c13 58) (act 26 [(0, x0), (1, x1), (5, x5)]) h K = F13_lrlrr inv k k x0 x1 x5 h (fun y0 y1 y5 y14 h => K (.exit 0) (act 26 [(0, y0), (1, y1), (5, y5), (14, y14)]) h) (fun y4 h => K .ret (act 26 [(4, y4)]) h) := kq_loop (F13_lrlrr_j k)
theorem r13_8  : kCode env 13 false inv k (cp c13 30) (act 26 [(0, x0), (1, x1), (5, x5), (14, x14)]) h K =
    K .normal (act 26 [(4, (.bool true))]) h := kq_reg
/-- shadowbook/shadowbookkit.Same[int] -/
noncomputable def F13 (inv : Inv) (k : Nat) (x0 x1 : Value) (h : AH) : Option (Value × AH) :=
    bnd (pLen Try.prog #[25] x0 h) fun x7 =>
    bnd (pLen Try.prog #[25] x1 h) fun x9 =>
    bnd (pBin Try.prog .neq 3 (.tmp 7) (.tmp 9) x7 x9) fun x10 =>
    brV x10
    (some ((.bool false), h))
    (F13_lrlrr inv k k x0 x1 (.int .i64 0) h
    (fun y0 y1 y5 y14 h =>
    some ((.bool true), h))
    (fun y4 h_1 =>
    some (y4, h_1)))
theorem F13_eq : eFun env k inv 13 #[x0, x1] h = F13 inv k x0 x1 h := by
      refine (kq_fun (a := act 26 [(0, x0), (1, x1)]) (c := cp c13 1)).trans ?_
      unfold F13
      simp only [kq_seq c13 1, r13_0, kq_seq c13 3, kq_seq c13 6, r13_1, b13_rlr, kq_seq c13 26, r13_2, kq_ret c13 53, res13_0, kq_skip c13 27, kq_seq c13 7, kq_seq c13 14, r13_3, kq_block c13 29 0, F13_lrlrr_eq, kq_seq c13 15, r13_8, kq_ret c13 31, reduceIte, reduceCtorEq, XE.exit.injEq, Nat.reduceEqDiff, Nat.reduceMul, Nat.reduceAdd] <;> kernel_rfl
theorem F13_call : eInv env (k + 1) (.func 13) #[] #[x0, x1] h = F13 (eInv env k) k x0 x1 h := kq_inv F13_eq
noncomputable def c14 : Code := codeOf Try.prog 14
theorem r14_0  : kCode env 14 false inv k (cp c14 2) (act 34 [(0, x0)]) h K =
    K .normal (act 34 [(0, x0)]) h := kq_reg
theorem r14_1  : kCode env 14 false inv k (cp c14 12) (act 34 [(0, x0)]) h K =
    bnd (pLen Try.prog #[22] x0 h) fun x9 =>
    bnd (pBin Try.prog .gtr 3 (.tmp 9) (.const (.int .i64 4096)) x9 (.int .i64 4096)) fun x10 =>
    K .normal (act 34 [(0, x0), (10, x10)]) h := kq_reg
theorem b14_rlr  : kCode env 14 false inv k (cp c14 13) (act 34 [(0, x0), (10, x10)]) h K = brV x10 (kCode env 14 false inv k (cp c14 26) (act 34 [(0, x0), (10, x10)]) h K) (kCode env 14 false inv k (cp c14 27) (act 34 [(0, x0), (10, x10)]) h K) := kq_cond
theorem r14_2  : kCode env 14 false inv k (cp c14 52) (act 34 [(0, x0), (10, x10)]) h K =
    K .normal (act 34 [(2, (.slice none 0 0)), (3, (.int .i64 3))]) h := kq_reg
theorem res14_0 : resOfFn env.P 14 .ret (act 34 [(2, x2), (3, x3)]) h = some (.tuple #[x2, x3], h) := kq_res
theorem r14_3  : kCode env 14 false inv k (cp c14 14) (act 34 [(0, x0), (10, x10)]) h K =
    K .normal (act 34 [(0, x0), (4, x0)]) h := kq_reg
theorem r14_4  : kCode env 14 false inv k (cp c14 30) (act 34 [(0, x0), (4, x4)]) h K =
    bnd (pLen Try.prog #[22] x0 h) fun x13 =>
    bnd (pConv Try.prog 3 49 x13 h) fun x14 =>
    bnd (inv (.func 25) #[] #[(.slice none 0 0), x14] h) fun x15 =>
    bnd (inv (.func 26) #[] #[x4] x15.2) fun x17 =>
    bnd (pBuildSlice Try.prog 32 1 #[(0, x17.1)] x17.2) fun x18 =>
    bnd (pAppend Try.prog #[32, 32] x15.1 x18.1 x18.2) fun x19 =>
    K .normal (act 34 [(4, x4), (5, x19.1)]) x19.2 := kq_reg
theorem r14_5  : kCode env 14 false inv k (cp c14 124) (act 34 [(4, x4), (5, x5)]) h K =
    bnd (inv (.func 26) #[] #[x4] h) fun x21 =>
    bnd (pBin Try.prog .neq 5 (.tmp 21) (.const (.int .u8 2)) x21.1 (.int .u8 2)) fun x22 =>
    K .normal (act 34 [(4, x4), (5, x5), (22, x22)]) x21.2 := kq_reg
theorem b14_rlrrrr  : kCode env 14 false inv k (cp c14 125) (act 34 [(4, x4), (5, x5), (22, x22)]) h K = brV x22 (kCode env 14 false inv k (cp c14 250) (act 34 [(4, x4), (5, x5), (22, x22)]) h K) (kCode env 14 false inv k (cp c14 251) (act 34 [(4, x4), (5, x5), (22, x22)]) h K) := kq_cond
theorem r14_6  : kCode env 14 false inv k (cp c14 500) (act 34 [(4, x4), (5, x5), (22, x22)]) h K =
    K .normal (act 34 [(2, x5), (3, (.int .i64 0))]) h := kq_reg
theorem r14_7  : kCode env 14 false inv k (cp c14 126) (act 34 [(4, x4), (5, x5), (22, x22)]) h K =
    bnd (inv (.func 28) #[] #[x4] h) fun x26 =>
    bnd (inv (.func 27) #[] #[x26.1, (.int .i64 1)] x26.2) fun x27 =>
    bnd (pExtract x27.1 0) fun x28 =>
    bnd (pExtract x27.1 1) fun x29 =>
    K .normal (act 34 [(5, x5), (6, x28), (7, x29)]) x27.2 := kq_reg
theorem r14_8  : kCode env 14 false inv k (cp c14 254) (act 34 [(5, x5), (6, x6), (7, x7)]) h K =
    bnd (pAppend Try.prog #[32, 32] x5 x6 h) fun x32 =>
    K .normal (act 34 [(2, x32.1), (3, x7)]) x32.2 := kq_reg
/-- shadowbook/nulls.Put -/
noncomputable def F14 (inv : Inv) (k : Nat) (x0 : Value) (h : AH) : Option (Value × AH) :=
    bnd (pLen Try.prog #[22] x0 h) fun x9 =>
    bnd (pBin Try.prog .gtr 3 (.tmp 9) (.const (.int .i64 4096)) x9 (.int .i64 4096)) fun x10 =>
    brV x10
    (some (.tuple #[(.slice none 0 0), (.int .i64 3)], h))
    (bnd (pLen Try.prog #[22] x0 h) fun x13 =>
    bnd (pConv Try.prog 3 49 x13 h) fun x14 =>
    bnd (inv (.func 25) #[] #[(.slice none 0 0), x14] h) fun x15 =>
    bnd (inv (.func 26) #[] #[x0] x15.2) fun x17 =>
    bnd (pBuildSlice Try.prog 32 1 #[(0, x17.1)] x17.2) fun x18 =>
    bnd (pAppend Try.prog #[32, 32] x15.1 x18.1 x18.2) fun x19 =>
    bnd (inv (.func 26) #[] #[x0] x19.2) fun x21 =>
    bnd (pBin Try.prog .neq 5 (.tmp 21) (.const (.int .u8 2)) x21.1 (.int .u8 2)) fun x22 =>
    brV x22
    (some (.tuple #[x19.1, (.int .i64 0)], x21.2))
    (bnd (inv (.func 28) #[] #[x0] x21.2) fun x26 =>
    bnd (inv (.func 27) #[] #[x26.1, (.int .i64 1)] x26.2) fun x27 =>
    bnd (pExtract x27.1 0) fun x28 =>
    bnd (pExtract x27.1 1) fun x29 =>
    bnd (pAppend Try.prog #[32, 32] x19.1 x28 x27.2) fun x32 =>
    some (.tuple #[x32.1, x29], x32.2)))
theorem F14_eq : eFun env k inv 14 #[x0] h = F14 inv k x0 h := by
      refine (kq_fun (a := act 34 [(0, x0)]) (c := cp c14 1)).trans ?_
      unfold F14
      simp only [kq_seq c14 1, r14_0, kq_seq c14 3, kq_seq c14 6, r14_1, b14_rlr, kq_seq c14 26, r14_2, kq_ret c14 53, res14_0, kq_skip c14 27, kq_seq c14 7, r14_3, kq_seq c14 15, r14_4, kq_seq c14 31, kq_seq c14 62, r14_5, b14_rlrrrr, kq_seq c14 250, r14_6, kq_ret c14 501, kq_skip c14 251, kq_seq c14 63, r14_7, kq_seq c14 127, r14_8, kq_ret c14 255, reduceIte, reduceCtorEq, XE.exit.injEq, Nat.reduceEqDiff, Nat.reduceMul, Nat.reduceAdd] <;> kernel_rfl
theorem F14_call : eInv env (k + 1) (.func 14) #[] #[x0] h = F14 (eInv env k) k x0 h := kq_inv F14_eq
noncomputable def c15 : Code := codeOf Try.prog 15
theorem r15_0  : kCode env 15 false inv k (cp c15 2) (act 101 [(0, x0)]) h K =
    K .normal (act 101 [(0, x0)]) h := kq_reg
theorem r15_1  : kCode env 15 false inv k (cp c15 6) (act 101 [(0, x0)]) h K =
    bnd (inv (.func 29) #[] #[x0] h) fun x15 =>
    K .normal (act 101 [(0, x0), (5, x15.1)]) x15.2 := kq_reg
theorem r15_2  : kCode env 15 false inv k (cp c15 14) (act 101 [(0, x0), (5, x5)]) h K =
    bnd (inv (.func 30) #[] #[x5] h) fun x18 =>
    bnd (pExtract x18.1 0) fun x19 =>
    bnd (pExtract x18.1 1) fun x20 =>
    K .normal (act 101 [(0, x0), (4, x20), (5, x5), (6, x19)]) x18.2 := kq_reg
noncomputable abbrev G15_3 {β : Type} (inv : Inv) (x0 x4 x5 x6 : Value) (h : AH) (K : Value → AH → Option β) : Option β :=
    bnd (pBin Try.prog .neq 33 (.tmp 21) (.const (.int .i64 0)) x4 (.int .i64 0)) fun x22 =>
    bnd (gd (some x22) false h (some (x6, h))) fun x24 =>
    bnd (gd (some x22) false x24.2 (lt (pBin Try.prog .gtr 49 (.tmp 24) (.const (.int .u64 4096)) x24.1 (.int .u64 4096)) x24.2)) fun x25 =>
    bnd (pickV x22 (.bool true) x25.1) fun x26 =>
    K (x26) x25.2
theorem r15_3  : kCode env 15 false inv k (cp c15 60) (act 101 [(0, x0), (4, x4), (5, x5), (6, x6)]) h K =
    G15_3 inv x0 x4 x5 x6 h fun y26 h => K .normal (act 101 [(0, x0), (5, x5), (6, x6), (26, y26)]) h := kq_reg
theorem b15_rlrrr  : kCode env 15 false inv k (cp c15 61) (act 101 [(0, x0), (5, x5), (6, x6), (26, x26)]) h K = brV x26 (kCode env 15 false inv k (cp c15 122) (act 101 [(0, x0), (5, x5), (6, x6), (26, x26)]) h K) (kCode env 15 false inv k (cp c15 123) (act 101 [(0, x0), (5, x5), (6, x6), (26, x26)]) h K) := kq_cond
theorem r15_4  : kCode env 15 false inv k (cp c15 244) (act 101 [(0, x0), (5, x5), (6, x6), (26, x26)]) h K =
    K .normal (act 101 [(2, (.slice none 0 0)), (3, (.int .i64 0)), (4, (.int .i64 4))]) h := kq_reg
theorem res15_0 : resOfFn env.P 15 .ret (act 101 [(2, x2), (3, x3), (4, x4)]) h = some (.tuple #[x2, x3, x4], h) := kq_res
theorem r15_5  : kCode env 15 false inv k (cp c15 62) (act 101 [(0, x0), (5, x5), (6, x6), (26, x26)]) h K =
    bnd (inv (.func 31) #[] #[x5, (.int .i64 1)] h) fun x29 =>
    bnd (pExtract x29.1 0) fun x30 =>
    bnd (pExtract x29.1 1) fun x31 =>
    K .normal (act 101 [(0, x0), (4, x31), (5, x5), (6, x6), (7, x30)]) x29.2 := kq_reg
noncomputable abbrev G15_6 {β : Type} (inv : Inv) (x0 x4 x5 x6 x7 : Value) (h : AH) (K : Value → AH → Option β) : Option β :=
    bnd (pBin Try.prog .neq 33 (.tmp 32) (.const (.int .i64 0)) x4 (.int .i64 0)) fun x33 =>
    bnd (gd (some x33) false h (some (x7, h))) fun x35 =>
    bnd (gd (some x33) false x35.2 (lt (pBin Try.prog .gtr 49 (.tmp 35) (.const (.int .u64 2)) x35.1 (.int .u64 2)) x35.2)) fun x36 =>
    bnd (pickV x33 (.bool true) x36.1) fun x37 =>
    K (x37) x36.2
theorem r15_6  : kCode env 15 false inv k (cp c15 252) (act 101 [(0, x0), (4, x4), (5, x5), (6, x6), (7, x7)]) h K =
    G15_6 inv x0 x4 x5 x6 x7 h fun y37 h => K .normal (act 101 [(0, x0), (5, x5), (6, x6), (7, x7), (37, y37)]) h := kq_reg
theorem b15_rlrrrrr  : kCode env 15 false inv k (cp c15 253) (act 101 [(0, x0), (5, x5), (6, x6), (7, x7), (37, x37)]) h K = brV x37 (kCode env 15 false inv k (cp c15 506) (act 101 [(0, x0), (5, x5), (6, x6), (7, x7), (37, x37)]) h K) (kCode env 15 false inv k (cp c15 507) (act 101 [(0, x0), (5, x5), (6, x6), (7, x7), (37, x37)]) h K) := kq_cond
theorem r15_7  : kCode env 15 false inv k (cp c15 1012) (act 101 [(0, x0), (5, x5), (6, x6), (7, x7), (37, x37)]) h K =
    K .normal (act 101 [(2, (.slice none 0 0)), (3, (.int .i64 0)), (4, (.int .i64 4))]) h := kq_reg
theorem r15_8  : kCode env 15 false inv k (cp c15 254) (act 101 [(0, x0), (5, x5), (6, x6), (7, x7), (37, x37)]) h K =
    bnd (pBin Try.prog .eql 49 (.tmp 38) (.const (.int .u64 1)) x7 (.int .u64 1)) fun x39 =>
    bnd (pBuildSlice Try.prog 22 1 #[(0, x39)] h) fun x40 =>
    bnd (pConv Try.prog 49 3 x6 x40.2) fun x42 =>
    bnd (inv (.func 32) #[] #[x40.1, x42] x40.2) fun x43 =>
    K .normal (act 101 [(0, x0), (2, x43.1), (5, x5), (6, x6), (7, x7)]) x43.2 := kq_reg
theorem r15_9  : kCode env 15 false inv k (cp c15 1020) (act 101 [(0, x0), (2, x2), (5, x5), (6, x6), (7, x7)]) h K =
    bnd (pBin Try.prog .eql 49 (.tmp 44) (.const (.int .u64 2)) x7 (.int .u64 2)) fun x45 =>
    K .normal (act 101 [(0, x0), (2, x2), (5, x5), (6, x6), (45, x45)]) h := kq_reg
theorem b15_rlrrrrrrr  : kCode env 15 false inv k (cp c15 1021) (act 101 [(0, x0), (2, x2), (5, x5), (6, x6), (45, x45)]) h K = brV x45 (kCode env 15 false inv k (cp c15 2042) (act 101 [(0, x0), (2, x2), (5, x5), (6, x6), (45, x45)]) h K) (kCode env 15 false inv k (cp c15 2043) (act 101 [(0, x0), (2, x2), (5, x5), (6, x6), (45, x45)]) h K) := kq_cond
theorem r15_10  : kCode env 15 false inv k (cp c15 4084) (act 101 [(0, x0), (2, x2), (5, x5), (6, x6), (45, x45)]) h K =
    bnd (pConv Try.prog 49 3 x6 h) fun x49 =>
    bnd (inv (.func 34) #[] #[x49, (.int .i64 1)] h) fun x50 =>
    bnd (inv (.func 33) #[] #[x5, x50.1] x50.2) fun x51 =>
    bnd (pExtract x51.1 0) fun x52 =>
    bnd (pExtract x51.1 1) fun x53 =>
    K .normal (act 101 [(0, x0), (2, x2), (5, x5), (6, x6), (8, x52), (9, x53)]) x51.2 := kq_reg
theorem r15_11  : kCode env 15 false inv k (cp c15 16340) (act 101 [(0, x0), (2, x2), (5, x5), (6, x6), (8, x8), (9, x9)]) h K =
    bnd (pBin Try.prog .neq 33 (.tmp 54) (.const (.int .i64 0)) x9 (.int .i64 0)) fun x55 =>
    K .normal (act 101 [(0, x0), (2, x2), (5, x5), (6, x6), (8, x8), (55, x55)]) h := kq_reg
theorem b15_rlrlrlrrrrrrr  : kCode env 15 false inv k (cp c15 16341) (act 101 [(0, x0), (2, x2), (5, x5), (6, x6), (8, x8), (55, x55)]) h K = brV x55 (kCode env 15 false inv k (cp c15 32682) (act 101 [(0, x0), (2, x2), (5, x5), (6, x6), (8, x8), (55, x55)]) h K) (kCode env 15 false inv k (cp c15 32683) (act 101 [(0, x0), (2, x2), (5, x5), (6, x6), (8, x8), (55, x55)]) h K) := kq_cond
theorem r15_12  : kCode env 15 false inv k (cp c15 65364) (act 101 [(0, x0), (2, x2), (5, x5), (6, x6), (8, x8), (55, x55)]) h K =
    K .normal (act 101 [(2, (.slice none 0 0)), (3, (.int .i64 0)), (4, (.int .i64 4))]) h := kq_reg
theorem r15_13  : kCode env 15 false inv k (cp c15 16342) (act 101 [(0, x0), (2, x2), (5, x5), (6, x6), (8, x8), (55, x55)]) h K =
    bnd (pConv Try.prog 49 3 x6 h) fun x59 =>
    bnd (inv (.func 35) #[] #[x8, x59, (.int .i64 1)] h) fun x60 =>
    bnd (pExtract x60.1 0) fun x61 =>
    bnd (pExtract x60.1 1) fun x62 =>
    K .normal (act 101 [(0, x0), (2, x2), (5, x5), (9, x62), (10, x61)]) x60.2 := kq_reg
theorem r15_14  : kCode env 15 false inv k (cp c15 65372) (act 101 [(0, x0), (2, x2), (5, x5), (9, x9), (10, x10)]) h K =
    bnd (pBin Try.prog .neq 33 (.tmp 63) (.const (.int .i64 0)) x9 (.int .i64 0)) fun x64 =>
    K .normal (act 101 [(0, x0), (2, x2), (5, x5), (10, x10), (64, x64)]) h := kq_reg
theorem b15_rlrrrlrlrrrrrrr  : kCode env 15 false inv k (cp c15 65373) (act 101 [(0, x0), (2, x2), (5, x5), (10, x10), (64, x64)]) h K = brV x64 (kCode env 15 false inv k (cp c15 130746) (act 101 [(0, x0), (2, x2), (5, x5), (10, x10), (64, x64)]) h K) (kCode env 15 false inv k (cp c15 130747) (act 101 [(0, x0), (2, x2), (5, x5), (10, x10), (64, x64)]) h K) := kq_cond
theorem r15_15  : kCode env 15 false inv k (cp c15 261492) (act 101 [(0, x0), (2, x2), (5, x5), (10, x10), (64, x64)]) h K =
    K .normal (act 101 [(2, (.slice none 0 0)), (3, (.int .i64 0)), (4, (.int .i64 4))]) h := kq_reg
theorem r15_16  : kCode env 15 false inv k (cp c15 65374) (act 101 [(0, x0), (2, x2), (5, x5), (10, x10), (64, x64)]) h K =
    bnd (pLen Try.prog #[22] x2 h) fun x66 =>
    K .normal (act 101 [(0, x0), (2, x2), (5, x5), (10, x10), (66, x66), (67, (.int .i64 0))]) h := kq_reg
theorem r15_17  : kCode env 15 false inv k (cp c15 523000) (act 101 [(0, x0), (2, x2), (5, x5), (10, x10), (66, x66), (67, x67)]) h K =
    bnd (pBin Try.prog .lss 3 (.tmp 67) (.tmp 66) x67 x66) fun x68 =>
    K .normal (act 101 [(0, x0), (2, x2), (5, x5), (10, x10), (66, x66), (67, x67), (68, x68)]) h := kq_reg
theorem b15_lrllrrrrrlrlrrrrrrr  : kCode env 15 false inv k (cp c15 1046002) (act 101 [(0, x0), (2, x2), (5, x5), (10, x10), (66, x66), (67, x67), (68, x68)]) h K = brV x68 (kCode env 15 false inv k (cp c15 2092004) (act 101 [(0, x0), (2, x2), (5, x5), (10, x10), (66, x66), (67, x67), (68, x68)]) h K) (kCode env 15 false inv k (cp c15 2092005) (act 101 [(0, x0), (2, x2), (5, x5), (10, x10), (66, x66), (67, x67), (68, x68)]) h K) := kq_cond
theorem r15_18  : kCode env 15 false inv k (cp c15 8368024) (act 101 [(0, x0), (2, x2), (5, x5), (10, x10), (66, x66), (67, x67), (68, x68)]) h K =
    K .normal (act 101 [(0, x0), (2, x2), (5, x5), (10, x10), (11, x67), (66, x66), (67, x67)]) h := kq_reg
theorem r15_19  : kCode env 15 false inv k (cp c15 8368025) (act 101 [(0, x0), (2, x2), (5, x5), (10, x10), (11, x11), (66, x66), (67, x67)]) h K =
    bnd (pIndexAddr Try.prog 52 x10 x11) fun x74 =>
    bnd (pLoad Try.prog 49 x74 h) fun x75 =>
    bnd (pBin Try.prog .eql 49 (.tmp 75) (.const (.int .u64 1)) x75 (.int .u64 1)) fun x76 =>
    bnd (pIndexAddr Try.prog 22 x2 x11) fun x77 =>
    bnd (kSt (pStore Try.prog 4 x77 x76 h)) fun u =>
    K .normal (act 101 [(0, x0), (2, x2), (5, x5), (10, x10), (66, x66), (67, x67)]) u.2 := kq_reg
theorem r15_20  : kCode env 15 false inv k (cp c15 2092007) (act 101 [(0, x0), (2, x2), (5, x5), (10, x10), (66, x66), (67, x67)]) h K =
    bnd (pBin Try.prog .add 3 (.tmp 67) (.const (.int .i64 1)) x67 (.int .i64 1)) fun x78 =>
    K .normal (act 101 [(0, x0), (2, x2), (5, x5), (10, x10), (66, x66), (67, x78)]) h := kq_reg
noncomputable def F15_lrrrrrlrlrrrrrrr {β : Type} (inv : Inv) (k : Nat) : Nat → Value → Value → Value → Value → Value → Value → AH → (Value → Value → Value → Value → Value → Value → Value → AH → Option β) → Option β
  | 0, _, _, _, _, _, _, _, _ => none
  | j + 1, x0, x2, x5, x10, x66, x67, h, ke0 =>
    bnd (pBin Try.prog .lss 3 (.tmp 67) (.tmp 66) x67 x66) fun x68 =>
    brV x68
    (bnd (pIndexAddr Try.prog 52 x10 x67) fun x74 =>
    bnd (pLoad Try.prog 49 x74 h) fun x75 =>
    bnd (pBin Try.prog .eql 49 (.tmp 75) (.const (.int .u64 1)) x75 (.int .u64 1)) fun x76 =>
    bnd (pIndexAddr Try.prog 22 x2 x67) fun x77 =>
    bnd (kSt (pStore Try.prog 4 x77 x76 h)) fun u =>
    bnd (pBin Try.prog .add 3 (.tmp 67) (.const (.int .i64 1)) x67 (.int .i64 1)) fun x78 =>
    F15_lrrrrrlrlrrrrrrr inv k j x0 x2 x5 x10 x66 x78 u.2 ke0)
    (ke0 x0 x2 x5 x10 x66 x67 x68 h)
theorem F15_lrrrrrlrlrrrrrrr_j (j : Nat) : kLoop (kCode env 15 false inv k (cp c15 261500)) j (act 101 [(0, x0), (2, x2), (5, x5), (10, x10), (66, x66), (67, x67)]) h K = F15_lrrrrrlrlrrrrrrr inv k j x0 x2 x5 x10 x66 x67 h (fun y0 y2 y5 y10 y66 y67 y68 h => K (.exit 0) (act 101 [(0, y0), (2, y2), (5, y5), (10, y10), (66, y66), (67, y67), (68, y68)]) h) := by
      induction j generalizing x0 x2 x5 x10 x66 x67 h with
      | zero => rfl
      | succ j ih =>
        unfold F15_lrrrrrlrlrrrrrrr
        simp only [kLoop, kq_seq c15 261500, r15_17, kq_seq c15 523001, b15_lrllrrrrrlrlrrrrrrr, kq_skip c15 2092004, kq_seq c15 1046003, kq_block c15 2092006 1, kq_seq c15 4184012, r15_18, r15_19, r15_20, kq_exit c15 2092005 0, ih, reduceIte, reduceCtorEq, XE.exit.injEq, Nat.reduceEqDiff, Nat.reduceMul, Nat.reduceAdd] <;> kernel_rfl
theorem F15_lrrrrrlrlrrrrrrr_eq  : kCode env 15 false inv k (cp c15 130750) (act 101 [(0, x0), (2, x2), (5, x5), (10, x10), (66, x66), (67, x67)]) h K = F15_lrrrrrlrlrrrrrrr inv k k x0 x2 x5 x10 x66 x67 h (fun y0 y2 y5 y10 y66 y67 y68 h => K (.exit 0) (act 101 [(0, y0), (2, y2), (5, y5), (10, y10), (66, y66), (67, y67), (68, y68)]) h) := kq_loop (F15_lrrrrrlrlrrrrrrr_j k)
noncomputable def F15_rlrrrrrrr {β : Type} (inv : Inv) (k : Nat) (x0 x2 x5 x6 x45 : Value) (h : AH) (kn : (Value → Value → Value → Value → Value → Value → Value → Value → Value → AH → Option β)) (kr : (Value → Value → Value → AH → Option β)) : Option β :=
    brV x45
    (bnd (pConv Try.prog 49 3 x6 h) fun x49 =>
    bnd (inv (.func 34) #[] #[x49, (.int .i64 1)] h) fun x50 =>
    bnd (inv (.func 33) #[] #[x5, x50.1] x50.2) fun x51 =>
    bnd (pExtract x51.1 0) fun x52 =>
    bnd (pExtract x51.1 1) fun x53 =>
    bnd (pBin Try.prog .neq 33 (.tmp 54) (.const (.int .i64 0)) x53 (.int .i64 0)) fun x55 =>
    brV x55
    (kr (.slice none 0 0) (.int .i64 0) (.int .i64 4) x51.2)
    (bnd (pConv Try.prog 49 3 x6 x51.2) fun x59 =>
    bnd (inv (.func 35) #[] #[x52, x59, (.int .i64 1)] x51.2) fun x60 =>
    bnd (pExtract x60.1 0) fun x61 =>
    bnd (pExtract x60.1 1) fun x62 =>
    bnd (pBin Try.prog .neq 33 (.tmp 63) (.const (.int .i64 0)) x62 (.int .i64 0)) fun x64 =>
    brV x64
    (kr (.slice none 0 0) (.int .i64 0) (.int .i64 4) x60.2)
    (bnd (pLen Try.prog #[22] x2 x60.2) fun x66 =>
    F15_lrrrrrlrlrrrrrrr inv k k x0 x2 x5 x61 x66 (.int .i64 0) x60.2
    (fun y0 y2 y5 y10 y66 y67 y68 h =>
    kn y0 y2 y5 unk y10 unk y66 y67 y68 h))))
    (kn x0 x2 x5 x6 unk x45 unk unk unk h)
theorem F15_rlrrrrrrr_eq  : kCode env 15 false inv k (cp c15 1021) (act 101 [(0, x0), (2, x2), (5, x5), (6, x6), (45, x45)]) h K = F15_rlrrrrrrr inv k x0 x2 x5 x6 x45 h (fun y0 y2 y5 y6 y10 y45 y66 y67 y68 h => K .normal (act 101 [(0, y0), (2, y2), (5, y5), (6, y6), (10, y10), (45, y45), (66, y66), (67, y67), (68, y68)]) h) (fun y2 y3 y4 h => K .ret (act 101 [(2, y2), (3, y3), (4, y4)]) h) := by
      unfold F15_rlrrrrrrr
      simp only [b15_rlrrrrrrr, kq_seq c15 2042, r15_10, kq_seq c15 4085, kq_seq c15 8170, r15_11, b15_rlrlrlrrrrrrr, kq_seq c15 32682, r15_12, kq_ret c15 65365, kq_skip c15 32683, kq_seq c15 8171, r15_13, kq_seq c15 16343, kq_seq c15 32686, r15_14, b15_rlrrrlrlrrrrrrr, kq_seq c15 130746, r15_15, kq_ret c15 261493, kq_skip c15 130747, kq_seq c15 32687, r15_16, kq_block c15 65375 0, F15_lrrrrrlrlrrrrrrr_eq, kq_skip c15 2043, reduceIte, reduceCtorEq, XE.exit.injEq, Nat.reduceEqDiff, Nat.reduceMul, Nat.reduceAdd] <;> kernel_rfl
theorem r15_21  : kCode env 15 false inv k (cp c15 1022) (act 101 [(0, x0), (2, x2), (5, x5), (6, x6), (10, x10), (45, x45), (66, x66), (67, x67), (68, x68)]) h K =
    bnd (pLen Try.prog #[32] x0 h) fun x80 =>
    bnd (inv (.func 36) #[] #[x5] h) fun x82 =>
    bnd (pBin Try.prog .sub 3 (.tmp 80) (.tmp 82) x80 x82.1) fun x83 =>
    K .normal (act 101 [(0, x0), (2, x2), (3, x83)]) x82.2 := kq_reg
theorem r15_22  : kCode env 15 false inv k (cp c15 4092) (act 101 [(0, x0), (2, x2), (3, x3)]) h K =
    bnd (inv (.func 14) #[] #[x2] h) fun x86 =>
    bnd (pExtract x86.1 0) fun x87 =>
    bnd (pExtract x86.1 1) fun x88 =>
    K .normal (act 101 [(0, x0), (2, x2), (3, x3), (12, x87), (13, x88)]) x86.2 := kq_reg
noncomputable abbrev G15_23 {β : Type} (inv : Inv) (x0 x2 x3 x12 x13 : Value) (h : AH) (K : Value → AH → Option β) : Option β :=
    bnd (pBin Try.prog .neq 33 (.tmp 89) (.const (.int .i64 0)) x13 (.int .i64 0)) fun x90 =>
    bnd (gd (some x90) false h (some (x12, h))) fun x92 =>
    bnd (gd (some x90) false x92.2 (some (x0, x92.2))) fun x93 =>
    bnd (gd (some x90) false x93.2 (some (x3, x93.2))) fun x94 =>
    bnd (gd (some x90) false x94.2 (lt (pSlice Try.prog 32 x93.1 none (some x94.1) none x94.2) x94.2)) fun x95 =>
    bnd (gd (some x90) false x95.2 (inv (.func 37) #[] #[x92.1, x95.1] x95.2)) fun x96 =>
    bnd (gd (some x90) false x96.2 (lt (pUn Try.prog .not x96.1) x96.2)) fun x97 =>
    bnd (pickV x90 (.bool true) x97.1) fun x98 =>
    K (x98) x97.2
theorem r15_23  : kCode env 15 false inv k (cp c15 8186) (act 101 [(0, x0), (2, x2), (3, x3), (12, x12), (13, x13)]) h K =
    G15_23 inv x0 x2 x3 x12 x13 h fun y98 h => K .normal (act 101 [(2, x2), (3, x3), (98, y98)]) h := kq_reg
theorem b15_rrlrrrrrrrrr  : kCode env 15 false inv k (cp c15 8187) (act 101 [(2, x2), (3, x3), (98, x98)]) h K = brV x98 (kCode env 15 false inv k (cp c15 16374) (act 101 [(2, x2), (3, x3), (98, x98)]) h K) (kCode env 15 false inv k (cp c15 16375) (act 101 [(2, x2), (3, x3), (98, x98)]) h K) := kq_cond
theorem r15_24  : kCode env 15 false inv k (cp c15 32748) (act 101 [(2, x2), (3, x3), (98, x98)]) h K =
    K .normal (act 101 [(2, (.slice none 0 0)), (3, (.int .i64 0)), (4, (.int .i64 4))]) h := kq_reg
theorem r15_25  : kCode env 15 false inv k (cp c15 4094) (act 101 [(2, x2), (3, x3), (98, x98)]) h K =
    K .normal (act 101 [(2, x2), (3, x3), (4, (.int .i64 0))]) h := kq_reg
/-- shadowbook/nulls.Get -/
noncomputable def F15 (inv : Inv) (k : Nat) (x0 : Value) (h : AH) : Option (Value × AH) :=
    bnd (inv (.func 29) #[] #[x0] h) fun x15 =>
    bnd (inv (.func 30) #[] #[x15.1] x15.2) fun x18 =>
    bnd (pExtract x18.1 0) fun x19 =>
    bnd (pExtract x18.1 1) fun x20 =>
    G15_3 inv x0 x20 x15.1 x19 x18.2 fun y26 h =>
    brV y26
    (some (.tuple #[(.slice none 0 0), (.int .i64 0), (.int .i64 4)], h))
    (bnd (inv (.func 31) #[] #[x15.1, (.int .i64 1)] h) fun x29 =>
    bnd (pExtract x29.1 0) fun x30 =>
    bnd (pExtract x29.1 1) fun x31 =>
    G15_6 inv x0 x31 x15.1 x19 x30 x29.2 fun y37 h_1 =>
    brV y37
    (some (.tuple #[(.slice none 0 0), (.int .i64 0), (.int .i64 4)], h_1))
    (bnd (pBin Try.prog .eql 49 (.tmp 38) (.const (.int .u64 1)) x30 (.int .u64 1)) fun x39 =>
    bnd (pBuildSlice Try.prog 22 1 #[(0, x39)] h_1) fun x40 =>
    bnd (pConv Try.prog 49 3 x19 x40.2) fun x42 =>
    bnd (inv (.func 32) #[] #[x40.1, x42] x40.2) fun x43 =>
    bnd (pBin Try.prog .eql 49 (.tmp 44) (.const (.int .u64 2)) x30 (.int .u64 2)) fun x45 =>
    F15_rlrrrrrrr inv k x0 x43.1 x15.1 x19 x45 x43.2
    (fun y0 y2 y5 y6 y10 y45 y66 y67 y68 h_2 =>
    bnd (pLen Try.prog #[32] y0 h_2) fun x80 =>
    bnd (inv (.func 36) #[] #[y5] h_2) fun x82 =>
    bnd (pBin Try.prog .sub 3 (.tmp 80) (.tmp 82) x80 x82.1) fun x83 =>
    bnd (inv (.func 14) #[] #[y2] x82.2) fun x86 =>
    bnd (pExtract x86.1 0) fun x87 =>
    bnd (pExtract x86.1 1) fun x88 =>
    G15_23 inv y0 y2 x83 x87 x88 x86.2 fun y98 h_3 =>
    brV y98
    (some (.tuple #[(.slice none 0 0), (.int .i64 0), (.int .i64 4)], h_3))
    (some (.tuple #[y2, x83, (.int .i64 0)], h_3)))
    (fun y2_4 y3 y4 h_5 =>
    some (.tuple #[y2_4, y3, y4], h_5))))
theorem F15_eq : eFun env k inv 15 #[x0] h = F15 inv k x0 h := by
      refine (kq_fun (a := act 101 [(0, x0)]) (c := cp c15 1)).trans ?_
      unfold F15
      simp only [kq_seq c15 1, r15_0, kq_seq c15 3, r15_1, kq_seq c15 7, r15_2, kq_seq c15 15, kq_seq c15 30, r15_3, b15_rlrrr, kq_seq c15 122, r15_4, kq_ret c15 245, res15_0, kq_skip c15 123, kq_seq c15 31, r15_5, kq_seq c15 63, kq_seq c15 126, r15_6, b15_rlrrrrr, kq_seq c15 506, r15_7, kq_ret c15 1013, kq_skip c15 507, kq_seq c15 127, r15_8, kq_seq c15 255, kq_seq c15 510, r15_9, F15_rlrrrrrrr_eq, kq_seq c15 511, r15_21, kq_seq c15 1023, kq_seq c15 2046, r15_22, kq_seq c15 4093, r15_23, b15_rrlrrrrrrrrr, kq_seq c15 16374, r15_24, kq_ret c15 32749, kq_skip c15 16375, kq_seq c15 2047, r15_25, kq_ret c15 4095, reduceIte, reduceCtorEq, XE.exit.injEq, Nat.reduceEqDiff, Nat.reduceMul, Nat.reduceAdd] <;> kernel_rfl
theorem F15_call : eInv env (k + 1) (.func 15) #[] #[x0] h = F15 (eInv env k) k x0 h := kq_inv F15_eq
noncomputable def c16 : Code := codeOf Try.prog 16
theorem r16_0  : kCode env 16 false inv k (cp c16 2) (act 6 [(0, x0)]) h K =
    K .normal (act 6 [(0, x0)]) h := kq_reg
theorem r16_1  : kCode env 16 false inv k (cp c16 6) (act 6 [(0, x0)]) h K =
    bnd (pBuildSlice Try.prog 32 0 #[] h) fun x3 =>
    bnd (pAppend Try.prog #[32, 32] x3.1 x0 x3.2) fun x5 =>
    K .normal (act 6 [(2, x5.1)]) x5.2 := kq_reg
theorem res16_0 : resOfFn env.P 16 .ret (act 6 [(2, x2)]) h = some (x2, h) := kq_res
/-- shadowbook/shadowbookkit.Own[byte] -/
noncomputable def F16 (inv : Inv) (k : Nat) (x0 : Value) (h : AH) : Option (Value × AH) :=
    bnd (pBuildSlice Try.prog 32 0 #[] h) fun x3 =>
    bnd (pAppend Try.prog #[32, 32] x3.1 x0 x3.2) fun x5 =>
    some (x5.1, x5.2)
theorem F16_eq : eFun env k inv 16 #[x0] h = F16 inv k x0 h := by
      refine (kq_fun (a := act 6 [(0, x0)]) (c := cp c16 1)).trans ?_
      unfold F16
      simp only [kq_seq c16 1, r16_0, kq_seq c16 3, r16_1, kq_ret c16 7, res16_0, reduceIte, reduceCtorEq, XE.exit.injEq, Nat.reduceEqDiff, Nat.reduceMul, Nat.reduceAdd] <;> kernel_rfl
theorem F16_call : eInv env (k + 1) (.func 16) #[] #[x0] h = F16 (eInv env k) k x0 h := kq_inv F16_eq
noncomputable def c17 : Code := codeOf Try.prog 17
theorem r17_0  : kCode env 17 false inv k (cp c17 2) (act 26 [(0, x0), (1, x1)]) h K =
    K .normal (act 26 [(0, x0), (1, x1)]) h := kq_reg
theorem r17_1  : kCode env 17 false inv k (cp c17 12) (act 26 [(0, x0), (1, x1)]) h K =
    bnd (pLen Try.prog #[32] x0 h) fun x7 =>
    bnd (pLen Try.prog #[32] x1 h) fun x9 =>
    bnd (pBin Try.prog .neq 3 (.tmp 7) (.tmp 9) x7 x9) fun x10 =>
    K .normal (act 26 [(0, x0), (1, x1), (10, x10)]) h := kq_reg
theorem b17_rlr  : kCode env 17 false inv k (cp c17 13) (act 26 [(0, x0), (1, x1), (10, x10)]) h K = brV x10 (kCode env 17 false inv k (cp c17 26) (act 26 [(0, x0), (1, x1), (10, x10)]) h K) (kCode env 17 false inv k (cp c17 27) (act 26 [(0, x0), (1, x1), (10, x10)]) h K) := kq_cond
theorem r17_2  : kCode env 17 false inv k (cp c17 52) (act 26 [(0, x0), (1, x1), (10, x10)]) h K =
    K .normal (act 26 [(4, (.bool false))]) h := kq_reg
theorem res17_0 : resOfFn env.P 17 .ret (act 26 [(4, x4)]) h = some (x4, h) := kq_res
theorem r17_3  : kCode env 17 false inv k (cp c17 28) (act 26 [(0, x0), (1, x1), (10, x10)]) h K =
    K .normal (act 26 [(0, x0), (1, x1), (5, (.int .i64 0))]) h := kq_reg
theorem r17_4  : kCode env 17 false inv k (cp c17 464) (act 26 [(0, x0), (1, x1), (5, x5)]) h K =
    bnd (pLen Try.prog #[32] x0 h) fun x13 =>
    bnd (pBin Try.prog .lss 3 (.tmp 11) (.tmp 13) x5 x13) fun x14 =>
    K .normal (act 26 [(0, x0), (1, x1), (5, x5), (14, x14)]) h := kq_reg
theorem b17_rlllrlrr  : kCode env 17 false inv k (cp c17 465) (act 26 [(0, x0), (1, x1), (5, x5), (14, x14)]) h K = brV x14 (kCode env 17 false inv k (cp c17 930) (act 26 [(0, x0), (1, x1), (5, x5), (14, x14)]) h K) (kCode env 17 false inv k (cp c17 931) (act 26 [(0, x0), (1, x1), (5, x5), (14, x14)]) h K) := kq_cond
theorem r17_6  : kCode env 17 false inv k (cp c17 1864) (act 26 [(0, x0), (1, x1), (5, x5), (14, x14)]) h K =
    bnd (pIndexAddr Try.prog 32 x0 x5) fun x19 =>
    bnd (pLoad Try.prog 5 x19 h) fun x20 =>
    bnd (pIndexAddr Try.prog 32 x1 x5) fun x23 =>
    bnd (pLoad Try.prog 5 x23 h) fun x24 =>
    bnd (pBin Try.prog .neq 5 (.tmp 20) (.tmp 24) x20 x24) fun x25 =>
    K .normal (act 26 [(0, x0), (1, x1), (5, x5), (25, x25)]) h := kq_draw
theorem b17_rllrllrlrr  : kCode env 17 false inv k (cp c17 1865) (act 26 [(0, x0), (1, x1), (5, x5), (25, x25)]) h K = brV x25 (kCode env 17 false inv k (cp c17 3730) (act 26 [(0, x0), (1, x1), (5, x5), (25, x25)]) h K) (kCode env 17 false inv k (cp c17 3731) (act 26 [(0, x0), (1, x1), (5, x5), (25, x25)]) h K) := kq_cond
theorem r17_7  : kCode env 17 false inv k (cp c17 7460) (act 26 [(0, x0), (1, x1), (5, x5), (25, x25)]) h K =
    K .normal (act 26 [(4, (.bool false))]) h := kq_reg
theorem r17_5  : kCode env 17 false inv k (cp c17 467) (act 26 [(0, x0), (1, x1), (5, x5), (25, x25)]) h K =
    bnd (pBin Try.prog .add 3 (.tmp 15) (.const (.int .i64 1)) x5 (.int .i64 1)) fun x16 =>
    K .normal (act 26 [(0, x0), (1, x1), (5, x16)]) h := kq_reg
noncomputable def F17_lrlrr {β : Type} (inv : Inv) (k : Nat) : Nat → Value → Value → Value → AH → (Value → Value → Value → Value → AH → Option β) → (Value → AH → Option β) → Option β
  | 0, _, _, _, _, _, _ => none
  | j + 1, x0, x1, x5, h, ke0, kr =>
    bnd (pLen Try.prog #[32] x0 h) fun x13 =>
    bnd (pBin Try.prog .lss 3 (.tmp 11) (.tmp 13) x5 x13) fun x14 =>
    brV x14
    (bnd (pIndexAddr Try.prog 32 x0 x5) fun x19 =>
    bnd (pLoad Try.prog 5 x19 h) fun x20 =>
    bnd (pIndexAddr Try.prog 32 x1 x5) fun x23 =>
    bnd (pLoad Try.prog 5 x23 h) fun x24 =>
    bnd (pBin Try.prog .neq 5 (.tmp 20) (.tmp 24) x20 x24) fun x25 =>
    brV x25
    (kr (.bool false) h)
    (bnd (pBin Try.prog .add 3 (.tmp 15) (.const (.int .i64 1)) x5 (.int .i64 1)) fun x16 =>
    F17_lrlrr inv k j x0 x1 x16 h ke0 kr))
    (ke0 x0 x1 x5 x14 h)
theorem F17_lrlrr_j (j : Nat) : kLoop (kCode env 17 false inv k (cp c17 116)) j (act 26 [(0, x0), (1, x1), (5, x5)]) h K = F17_lrlrr inv k j x0 x1 x5 h (fun y0 y1 y5 y14 h => K (.exit 0) (act 26 [(0, y0), (1, y1), (5, y5), (14, y14)]) h) (fun y4 h => K .ret (act 26 [(4, y4)]) h) := by
      induction j generalizing x0 x1 x5 h with
      | zero => rfl
      | succ j ih =>
        unfold F17_lrlrr
        simp only [kLoop, kq_seq c17 116, kq_seq c17 232, r17_4, b17_rlllrlrr, kq_skip c17 930, kq_seq c17 233, kq_block c17 466 1, kq_seq c17 932, r17_6, b17_rllrllrlrr, kq_seq c17 3730, r17_7, kq_ret c17 7461, kq_skip c17 3731, r17_5, kq_exit c17 931 0, ih, reduceIte, reduceCtorEq, XE.exit.injEq, Nat.reduceEqDiff, Nat.reduceMul, Nat.reduceAdd] <;> kernel_rfl
theorem F17_lrlrr_eq  : kCode env 17 false inv k (cp c17 58) (act 26 [(0, x0), (1, x1), (5, x5)]) h K = F17_lrlrr inv k k x0 x1 x5 h (fun y0 y1 y5 y14 h => K (.exit 0) (act 26 [(0, y0), (1, y1), (5, y5), (14, y14)]) h) (fun y4 h => K .ret (act 26 [(4, y4)]) h) := kq_loop (F17_lrlrr_j k)
theorem r17_8  : kCode env 17 false inv k (cp c17 30) (act 26 [(0, x0), (1, x1), (5, x5), (14, x14)]) h K =
    K .normal (act 26 [(4, (.bool true))]) h := kq_reg
/-- shadowbook/shadowbookkit.Same[byte] -/
noncomputable def F17 (inv : Inv) (k : Nat) (x0 x1 : Value) (h : AH) : Option (Value × AH) :=
    bnd (pLen Try.prog #[32] x0 h) fun x7 =>
    bnd (pLen Try.prog #[32] x1 h) fun x9 =>
    bnd (pBin Try.prog .neq 3 (.tmp 7) (.tmp 9) x7 x9) fun x10 =>
    brV x10
    (some ((.bool false), h))
    (F17_lrlrr inv k k x0 x1 (.int .i64 0) h
    (fun y0 y1 y5 y14 h =>
    some ((.bool true), h))
    (fun y4 h_1 =>
    some (y4, h_1)))
theorem F17_eq : eFun env k inv 17 #[x0, x1] h = F17 inv k x0 x1 h := by
      refine (kq_fun (a := act 26 [(0, x0), (1, x1)]) (c := cp c17 1)).trans ?_
      unfold F17
      simp only [kq_seq c17 1, r17_0, kq_seq c17 3, kq_seq c17 6, r17_1, b17_rlr, kq_seq c17 26, r17_2, kq_ret c17 53, res17_0, kq_skip c17 27, kq_seq c17 7, kq_seq c17 14, r17_3, kq_block c17 29 0, F17_lrlrr_eq, kq_seq c17 15, r17_8, kq_ret c17 31, reduceIte, reduceCtorEq, XE.exit.injEq, Nat.reduceEqDiff, Nat.reduceMul, Nat.reduceAdd] <;> kernel_rfl
theorem F17_call : eInv env (k + 1) (.func 17) #[] #[x0, x1] h = F17 (eInv env k) k x0 x1 h := kq_inv F17_eq
noncomputable def c18 : Code := codeOf Try.prog 18
theorem r18_0  : kCode env 18 false inv k (cp c18 2) (act 39 [(0, x0)]) h K =
    K .normal (act 39 [(0, x0)]) h := kq_reg
theorem r18_1  : kCode env 18 false inv k (cp c18 12) (act 39 [(0, x0)]) h K =
    bnd (pLen Try.prog #[22] x0 h) fun x8 =>
    bnd (pBin Try.prog .gtr 3 (.tmp 8) (.const (.int .i64 4096)) x8 (.int .i64 4096)) fun x9 =>
    K .normal (act 39 [(0, x0), (9, x9)]) h := kq_reg
theorem b18_rlr  : kCode env 18 false inv k (cp c18 13) (act 39 [(0, x0), (9, x9)]) h K = brV x9 (kCode env 18 false inv k (cp c18 26) (act 39 [(0, x0), (9, x9)]) h K) (kCode env 18 false inv k (cp c18 27) (act 39 [(0, x0), (9, x9)]) h K) := kq_cond
theorem r18_2  : kCode env 18 false inv k (cp c18 52) (act 39 [(0, x0), (9, x9)]) h K =
    K .normal (act 39 [(2, (.slice none 0 0)), (3, (.int .i64 3))]) h := kq_reg
theorem res18_0 : resOfFn env.P 18 .ret (act 39 [(2, x2), (3, x3)]) h = some (.tuple #[x2, x3], h) := kq_res
theorem r18_3  : kCode env 18 false inv k (cp c18 14) (act 39 [(0, x0), (9, x9)]) h K =
    bnd (pLen Try.prog #[22] x0 h) fun x11 =>
    bnd (pConv Try.prog 3 49 x11 h) fun x12 =>
    bnd (inv (.func 38) #[] #[(.slice none 0 0), x12] h) fun x13 =>
    K .normal (act 39 [(0, x0), (4, x13.1)]) x13.2 := kq_reg
theorem r18_4  : kCode env 18 false inv k (cp c18 60) (act 39 [(0, x0), (4, x4)]) h K =
    bnd (inv (.func 20) #[] #[x0] h) fun x15 =>
    K .normal (act 39 [(0, x0), (4, x4), (15, x15.1)]) x15.2 := kq_reg
theorem r18_5  : kCode env 18 false inv k (cp c18 244) (act 39 [(0, x0), (4, x4), (15, x15)]) h K =
    bnd (pBin Try.prog .eql 3 (.tmp 15) (.const (.int .i64 0)) x15 (.int .i64 0)) fun x17 =>
    K .normal (act 39 [(0, x0), (4, x4), (15, x15), (16, x17)]) h := kq_reg
theorem b18_rlrlrrr  : kCode env 18 false inv k (cp c18 245) (act 39 [(0, x0), (4, x4), (15, x15), (16, x16)]) h K = brV x16 (kCode env 18 false inv k (cp c18 490) (act 39 [(0, x0), (4, x4), (15, x15), (16, x16)]) h K) (kCode env 18 false inv k (cp c18 491) (act 39 [(0, x0), (4, x4), (15, x15), (16, x16)]) h K) := kq_cond
theorem r18_6  : kCode env 18 false inv k (cp c18 980) (act 39 [(0, x0), (4, x4), (15, x15), (16, x16)]) h K =
    bnd (pBuildSlice Try.prog 32 1 #[(0, (.int .u8 0))] h) fun x19 =>
    bnd (pAppend Try.prog #[32, 32] x4 x19.1 x19.2) fun x20 =>
    K .normal (act 39 [(2, x20.1), (3, (.int .i64 0))]) x20.2 := kq_reg
theorem r18_7  : kCode env 18 false inv k (cp c18 982) (act 39 [(0, x0), (4, x4), (15, x15), (16, x16)]) h K =
    bnd (pLen Try.prog #[22] x0 h) fun x23 =>
    bnd (pBin Try.prog .eql 3 (.tmp 15) (.tmp 23) x15 x23) fun x24 =>
    K .normal (act 39 [(0, x0), (4, x4), (21, x24)]) h := kq_reg
theorem b18_rrrlrlrrr  : kCode env 18 false inv k (cp c18 983) (act 39 [(0, x0), (4, x4), (21, x21)]) h K = brV x21 (kCode env 18 false inv k (cp c18 1966) (act 39 [(0, x0), (4, x4), (21, x21)]) h K) (kCode env 18 false inv k (cp c18 1967) (act 39 [(0, x0), (4, x4), (21, x21)]) h K) := kq_cond
theorem r18_8  : kCode env 18 false inv k (cp c18 3932) (act 39 [(0, x0), (4, x4), (21, x21)]) h K =
    bnd (pBuildSlice Try.prog 32 1 #[(0, (.int .u8 1))] h) fun x26 =>
    bnd (pAppend Try.prog #[32, 32] x4 x26.1 x26.2) fun x27 =>
    K .normal (act 39 [(2, x27.1), (3, (.int .i64 0))]) x27.2 := kq_reg
theorem r18_9  : kCode env 18 false inv k (cp c18 62) (act 39 [(0, x0), (4, x4), (21, x21)]) h K =
    bnd (inv (.func 40) #[] #[x0] h) fun x30 =>
    bnd (inv (.func 39) #[] #[x30.1, (.int .i64 1)] x30.2) fun x31 =>
    bnd (pExtract x31.1 0) fun x32 =>
    bnd (pExtract x31.1 1) fun x33 =>
    K .normal (act 39 [(4, x4), (5, x32)]) x31.2 := kq_reg
theorem r18_10  : kCode env 18 false inv k (cp c18 126) (act 39 [(4, x4), (5, x5)]) h K =
    bnd (pBuildSlice Try.prog 32 1 #[(0, (.int .u8 2))] h) fun x35 =>
    bnd (pAppend Try.prog #[32, 32] x4 x35.1 x35.2) fun x36 =>
    bnd (pAppend Try.prog #[32, 32] x36.1 x5 x36.2) fun x38 =>
    K .normal (act 39 [(2, x38.1), (3, (.int .i64 0))]) x38.2 := kq_reg
/-- shadowbook/shadowbookref08.Put -/
noncomputable def F18 (inv : Inv) (k : Nat) (x0 : Value) (h : AH) : Option (Value × AH) :=
    bnd (pLen Try.prog #[22] x0 h) fun x8 =>
    bnd (pBin Try.prog .gtr 3 (.tmp 8) (.const (.int .i64 4096)) x8 (.int .i64 4096)) fun x9 =>
    brV x9
    (some (.tuple #[(.slice none 0 0), (.int .i64 3)], h))
    (bnd (pLen Try.prog #[22] x0 h) fun x11 =>
    bnd (pConv Try.prog 3 49 x11 h) fun x12 =>
    bnd (inv (.func 38) #[] #[(.slice none 0 0), x12] h) fun x13 =>
    bnd (inv (.func 20) #[] #[x0] x13.2) fun x15 =>
    bnd (pBin Try.prog .eql 3 (.tmp 15) (.const (.int .i64 0)) x15.1 (.int .i64 0)) fun x17 =>
    brV x17
    (bnd (pBuildSlice Try.prog 32 1 #[(0, (.int .u8 0))] x15.2) fun x19 =>
    bnd (pAppend Try.prog #[32, 32] x13.1 x19.1 x19.2) fun x20 =>
    some (.tuple #[x20.1, (.int .i64 0)], x20.2))
    (bnd (pLen Try.prog #[22] x0 x15.2) fun x23 =>
    bnd (pBin Try.prog .eql 3 (.tmp 15) (.tmp 23) x15.1 x23) fun x24 =>
    brV x24
    (bnd (pBuildSlice Try.prog 32 1 #[(0, (.int .u8 1))] x15.2) fun x26 =>
    bnd (pAppend Try.prog #[32, 32] x13.1 x26.1 x26.2) fun x27 =>
    some (.tuple #[x27.1, (.int .i64 0)], x27.2))
    (bnd (inv (.func 40) #[] #[x0] x15.2) fun x30 =>
    bnd (inv (.func 39) #[] #[x30.1, (.int .i64 1)] x30.2) fun x31 =>
    bnd (pExtract x31.1 0) fun x32 =>
    bnd (pExtract x31.1 1) fun x33 =>
    bnd (pBuildSlice Try.prog 32 1 #[(0, (.int .u8 2))] x31.2) fun x35 =>
    bnd (pAppend Try.prog #[32, 32] x13.1 x35.1 x35.2) fun x36 =>
    bnd (pAppend Try.prog #[32, 32] x36.1 x32 x36.2) fun x38 =>
    some (.tuple #[x38.1, (.int .i64 0)], x38.2))))
theorem F18_eq : eFun env k inv 18 #[x0] h = F18 inv k x0 h := by
      refine (kq_fun (a := act 39 [(0, x0)]) (c := cp c18 1)).trans ?_
      unfold F18
      simp only [kq_seq c18 1, r18_0, kq_seq c18 3, kq_seq c18 6, r18_1, b18_rlr, kq_seq c18 26, r18_2, kq_ret c18 53, res18_0, kq_skip c18 27, kq_seq c18 7, r18_3, kq_seq c18 15, kq_seq c18 30, r18_4, kq_block c18 61 0, kq_seq c18 122, r18_5, b18_rlrlrrr, kq_seq c18 490, r18_6, kq_ret c18 981, kq_seq c18 491, r18_7, b18_rrrlrlrrr, kq_seq c18 1966, r18_8, kq_ret c18 3933, kq_skip c18 1967, kq_seq c18 31, r18_9, kq_seq c18 63, r18_10, kq_ret c18 127, reduceIte, reduceCtorEq, XE.exit.injEq, Nat.reduceEqDiff, Nat.reduceMul, Nat.reduceAdd] <;> kernel_rfl
theorem F18_call : eInv env (k + 1) (.func 18) #[] #[x0] h = F18 (eInv env k) k x0 h := kq_inv F18_eq
noncomputable def c19 : Code := codeOf Try.prog 19
theorem r19_0  : kCode env 19 false inv k (cp c19 2) (act 117 [(0, x0)]) h K =
    K .normal (act 117 [(0, x0)]) h := kq_reg
theorem r19_1  : kCode env 19 false inv k (cp c19 6) (act 117 [(0, x0)]) h K =
    bnd (inv (.func 41) #[] #[x0] h) fun x21 =>
    K .normal (act 117 [(0, x0), (5, x21.1)]) x21.2 := kq_reg
theorem r19_2  : kCode env 19 false inv k (cp c19 14) (act 117 [(0, x0), (5, x5)]) h K =
    bnd (inv (.func 42) #[] #[x5] h) fun x24 =>
    bnd (pExtract x24.1 0) fun x25 =>
    bnd (pExtract x24.1 1) fun x26 =>
    K .normal (act 117 [(0, x0), (5, x5), (6, x25), (7, x26)]) x24.2 := kq_reg
theorem r19_3  : kCode env 19 false inv k (cp c19 30) (act 117 [(0, x0), (5, x5), (6, x6), (7, x7)]) h K =
    bnd (inv (.func 43) #[] #[x5, (.int .i64 1)] h) fun x29 =>
    bnd (pExtract x29.1 0) fun x30 =>
    bnd (pExtract x29.1 1) fun x31 =>
    K .normal (act 117 [(0, x0), (5, x5), (6, x6), (7, x7), (8, x30), (9, x31)]) x29.2 := kq_reg
noncomputable abbrev G19_4 {β : Type} (inv : Inv) (x0 x5 x6 x7 x8 x9 : Value) (h : AH) (K : Value → AH → Option β) : Option β :=
    bnd (pBin Try.prog .neq 33 (.tmp 32) (.const (.int .i64 0)) x7 (.int .i64 0)) fun x33 =>
    bnd (gd (some x33) false h (some (x9, h))) fun x35 =>
    bnd (gd (some x33) false x35.2 (lt (pBin Try.prog .neq 33 (.tmp 35) (.const (.int .i64 0)) x35.1 (.int .i64 0)) x35.2)) fun x36 =>
    bnd (pickV x33 (.bool true) x36.1) fun x37 =>
    bnd (gd (some x37) false x36.2 (some (x6, x36.2))) fun x39 =>
    bnd (gd (some x37) false x39.2 (lt (pBin Try.prog .gtr 49 (.tmp 39) (.const (.int .u64 4096)) x39.1 (.int .u64 4096)) x39.2)) fun x40 =>
    bnd (pickV x37 (.bool true) x40.1) fun x41 =>
    bnd (gd (some x41) false x40.2 (some (x8, x40.2))) fun x43 =>
    bnd (gd (some x41) false x43.2 (lt (pBin Try.prog .gtr 49 (.tmp 43) (.const (.int .u64 2)) x43.1 (.int .u64 2)) x43.2)) fun x44 =>
    bnd (pickV x41 (.bool true) x44.1) fun x45 =>
    K (x45) x44.2
theorem r19_4  : kCode env 19 false inv k (cp c19 124) (act 117 [(0, x0), (5, x5), (6, x6), (7, x7), (8, x8), (9, x9)]) h K =
    G19_4 inv x0 x5 x6 x7 x8 x9 h fun y45 h => K .normal (act 117 [(0, x0), (5, x5), (6, x6), (8, x8), (45, y45)]) h := kq_reg
theorem b19_rlrrrr  : kCode env 19 false inv k (cp c19 125) (act 117 [(0, x0), (5, x5), (6, x6), (8, x8), (45, x45)]) h K = brV x45 (kCode env 19 false inv k (cp c19 250) (act 117 [(0, x0), (5, x5), (6, x6), (8, x8), (45, x45)]) h K) (kCode env 19 false inv k (cp c19 251) (act 117 [(0, x0), (5, x5), (6, x6), (8, x8), (45, x45)]) h K) := kq_cond
theorem r19_5  : kCode env 19 false inv k (cp c19 500) (act 117 [(0, x0), (5, x5), (6, x6), (8, x8), (45, x45)]) h K =
    K .normal (act 117 [(2, (.slice none 0 0)), (3, (.int .i64 0)), (4, (.int .i64 4))]) h := kq_reg
theorem res19_0 : resOfFn env.P 19 .ret (act 117 [(2, x2), (3, x3), (4, x4)]) h = some (.tuple #[x2, x3, x4], h) := kq_res
theorem r19_6  : kCode env 19 false inv k (cp c19 126) (act 117 [(0, x0), (5, x5), (6, x6), (8, x8), (45, x45)]) h K =
    bnd (pMakeSlice Try.prog 22 x6 x6 h) fun x47 =>
    K .normal (act 117 [(0, x0), (5, x5), (6, x6), (8, x8), (10, x47.1)]) x47.2 := kq_reg
theorem r19_7  : kCode env 19 false inv k (cp c19 508) (act 117 [(0, x0), (5, x5), (6, x6), (8, x8), (10, x10)]) h K =
    bnd (pBin Try.prog .eql 49 (.tmp 48) (.const (.int .u64 2)) x8 (.int .u64 2)) fun x49 =>
    K .normal (act 117 [(0, x0), (5, x5), (6, x6), (8, x8), (10, x10), (49, x49)]) h := kq_reg
theorem b19_rlrrrrrr  : kCode env 19 false inv k (cp c19 509) (act 117 [(0, x0), (5, x5), (6, x6), (8, x8), (10, x10), (49, x49)]) h K = brV x49 (kCode env 19 false inv k (cp c19 1018) (act 117 [(0, x0), (5, x5), (6, x6), (8, x8), (10, x10), (49, x49)]) h K) (kCode env 19 false inv k (cp c19 1019) (act 117 [(0, x0), (5, x5), (6, x6), (8, x8), (10, x10), (49, x49)]) h K) := kq_cond
theorem r19_8  : kCode env 19 false inv k (cp c19 2036) (act 117 [(0, x0), (5, x5), (6, x6), (8, x8), (10, x10), (49, x49)]) h K =
    bnd (pConv Try.prog 49 3 x6 h) fun x53 =>
    bnd (inv (.func 45) #[] #[x53, (.int .i64 1)] h) fun x54 =>
    bnd (inv (.func 44) #[] #[x5, x54.1] x54.2) fun x55 =>
    bnd (pExtract x55.1 0) fun x56 =>
    bnd (pExtract x55.1 1) fun x57 =>
    K .normal (act 117 [(0, x0), (5, x5), (6, x6), (8, x8), (10, x10), (11, x56), (12, x57)]) x55.2 := kq_reg
theorem r19_9  : kCode env 19 false inv k (cp c19 4074) (act 117 [(0, x0), (5, x5), (6, x6), (8, x8), (10, x10), (11, x11), (12, x12)]) h K =
    bnd (pConv Try.prog 49 3 x6 h) fun x61 =>
    bnd (inv (.func 46) #[] #[x11, x61, (.int .i64 1)] h) fun x62 =>
    bnd (pExtract x62.1 0) fun x63 =>
    bnd (pExtract x62.1 1) fun x64 =>
    K .normal (act 117 [(0, x0), (5, x5), (8, x8), (10, x10), (12, x12), (13, x63), (14, x64)]) x62.2 := kq_reg
noncomputable abbrev G19_10 {β : Type} (inv : Inv) (x0 x5 x8 x10 x12 x13 x14 : Value) (h : AH) (K : Value → AH → Option β) : Option β :=
    bnd (pBin Try.prog .neq 33 (.tmp 65) (.const (.int .i64 0)) x12 (.int .i64 0)) fun x66 =>
    bnd (gd (some x66) false h (some (x14, h))) fun x68 =>
    bnd (gd (some x66) false x68.2 (lt (pBin Try.prog .neq 33 (.tmp 68) (.const (.int .i64 0)) x68.1 (.int .i64 0)) x68.2)) fun x69 =>
    bnd (pickV x66 (.bool true) x69.1) fun x70 =>
    K (x70) x69.2
theorem r19_10  : kCode env 19 false inv k (cp c19 16300) (act 117 [(0, x0), (5, x5), (8, x8), (10, x10), (12, x12), (13, x13), (14, x14)]) h K =
    G19_10 inv x0 x5 x8 x10 x12 x13 x14 h fun y70 h => K .normal (act 117 [(0, x0), (5, x5), (8, x8), (10, x10), (13, x13), (70, y70)]) h := kq_reg
theorem b19_rlrrlrlrrrrrr  : kCode env 19 false inv k (cp c19 16301) (act 117 [(0, x0), (5, x5), (8, x8), (10, x10), (13, x13), (70, x70)]) h K = brV x70 (kCode env 19 false inv k (cp c19 32602) (act 117 [(0, x0), (5, x5), (8, x8), (10, x10), (13, x13), (70, x70)]) h K) (kCode env 19 false inv k (cp c19 32603) (act 117 [(0, x0), (5, x5), (8, x8), (10, x10), (13, x13), (70, x70)]) h K) := kq_cond
theorem r19_11  : kCode env 19 false inv k (cp c19 65204) (act 117 [(0, x0), (5, x5), (8, x8), (10, x10), (13, x13), (70, x70)]) h K =
    K .normal (act 117 [(2, (.slice none 0 0)), (3, (.int .i64 0)), (4, (.int .i64 4))]) h := kq_reg
theorem r19_12  : kCode env 19 false inv k (cp c19 16302) (act 117 [(0, x0), (5, x5), (8, x8), (10, x10), (13, x13), (70, x70)]) h K =
    K .normal (act 117 [(0, x0), (5, x5), (8, x8), (10, x10), (13, x13), (15, (.int .i64 0))]) h := kq_reg
theorem r19_13  : kCode env 19 false inv k (cp c19 260848) (act 117 [(0, x0), (5, x5), (8, x8), (10, x10), (13, x13), (15, x15)]) h K =
    bnd (pLen Try.prog #[22] x10 h) fun x73 =>
    bnd (pBin Try.prog .lss 3 (.tmp 71) (.tmp 73) x15 x73) fun x74 =>
    K .normal (act 117 [(0, x0), (5, x5), (8, x8), (10, x10), (13, x13), (15, x15), (74, x74)]) h := kq_reg
theorem b19_rlllrrrrlrlrrrrrr  : kCode env 19 false inv k (cp c19 260849) (act 117 [(0, x0), (5, x5), (8, x8), (10, x10), (13, x13), (15, x15), (74, x74)]) h K = brV x74 (kCode env 19 false inv k (cp c19 521698) (act 117 [(0, x0), (5, x5), (8, x8), (10, x10), (13, x13), (15, x15), (74, x74)]) h K) (kCode env 19 false inv k (cp c19 521699) (act 117 [(0, x0), (5, x5), (8, x8), (10, x10), (13, x13), (15, x15), (74, x74)]) h K) := kq_cond
theorem r19_15  : kCode env 19 false inv k (cp c19 521700) (act 117 [(0, x0), (5, x5), (8, x8), (10, x10), (13, x13), (15, x15), (74, x74)]) h K =
    bnd (pIndexAddr Try.prog 52 x13 x15) fun x81 =>
    bnd (pLoad Try.prog 49 x81 h) fun x82 =>
    bnd (pBin Try.prog .eql 49 (.tmp 82) (.const (.int .u64 1)) x82 (.int .u64 1)) fun x83 =>
    bnd (pIndexAddr Try.prog 22 x10 x15) fun x84 =>
    bnd (kSt (pStore Try.prog 4 x84 x83 h)) fun u =>
    K .normal (act 117 [(0, x0), (5, x5), (8, x8), (10, x10), (13, x13), (15, x15)]) u.2 := kq_reg
theorem r19_14  : kCode env 19 false inv k (cp c19 260851) (act 117 [(0, x0), (5, x5), (8, x8), (10, x10), (13, x13), (15, x15)]) h K =
    bnd (pBin Try.prog .add 3 (.tmp 75) (.const (.int .i64 1)) x15 (.int .i64 1)) fun x76 =>
    K .normal (act 117 [(0, x0), (5, x5), (8, x8), (10, x10), (13, x13), (15, x76)]) h := kq_reg
noncomputable def F19_lrrrrlrlrrrrrr {β : Type} (inv : Inv) (k : Nat) : Nat → Value → Value → Value → Value → Value → Value → AH → (Value → Value → Value → Value → Value → Value → Value → AH → Option β) → Option β
  | 0, _, _, _, _, _, _, _, _ => none
  | j + 1, x0, x5, x8, x10, x13, x15, h, ke0 =>
    bnd (pLen Try.prog #[22] x10 h) fun x73 =>
    bnd (pBin Try.prog .lss 3 (.tmp 71) (.tmp 73) x15 x73) fun x74 =>
    brV x74
    (bnd (pIndexAddr Try.prog 52 x13 x15) fun x81 =>
    bnd (pLoad Try.prog 49 x81 h) fun x82 =>
    bnd (pBin Try.prog .eql 49 (.tmp 82) (.const (.int .u64 1)) x82 (.int .u64 1)) fun x83 =>
    bnd (pIndexAddr Try.prog 22 x10 x15) fun x84 =>
    bnd (kSt (pStore Try.prog 4 x84 x83 h)) fun u =>
    bnd (pBin Try.prog .add 3 (.tmp 75) (.const (.int .i64 1)) x15 (.int .i64 1)) fun x76 =>
    F19_lrrrrlrlrrrrrr inv k j x0 x5 x8 x10 x13 x76 u.2 ke0)
    (ke0 x0 x5 x8 x10 x13 x15 x74 h)
theorem F19_lrrrrlrlrrrrrr_j (j : Nat) : kLoop (kCode env 19 false inv k (cp c19 65212)) j (act 117 [(0, x0), (5, x5), (8, x8), (10, x10), (13, x13), (15, x15)]) h K = F19_lrrrrlrlrrrrrr inv k j x0 x5 x8 x10 x13 x15 h (fun y0 y5 y8 y10 y13 y15 y74 h => K (.exit 0) (act 117 [(0, y0), (5, y5), (8, y8), (10, y10), (13, y13), (15, y15), (74, y74)]) h) := by
      induction j generalizing x0 x5 x8 x10 x13 x15 h with
      | zero => rfl
      | succ j ih =>
        unfold F19_lrrrrlrlrrrrrr
        simp only [kLoop, kq_seq c19 65212, kq_seq c19 130424, r19_13, b19_rlllrrrrlrlrrrrrr, kq_skip c19 521698, kq_seq c19 130425, kq_block c19 260850 1, r19_15, r19_14, kq_exit c19 521699 0, ih, reduceIte, reduceCtorEq, XE.exit.injEq, Nat.reduceEqDiff, Nat.reduceMul, Nat.reduceAdd] <;> kernel_rfl
theorem F19_lrrrrlrlrrrrrr_eq  : kCode env 19 false inv k (cp c19 32606) (act 117 [(0, x0), (5, x5), (8, x8), (10, x10), (13, x13), (15, x15)]) h K = F19_lrrrrlrlrrrrrr inv k k x0 x5 x8 x10 x13 x15 h (fun y0 y5 y8 y10 y13 y15 y74 h => K (.exit 0) (act 117 [(0, y0), (5, y5), (8, y8), (10, y10), (13, y13), (15, y15), (74, y74)]) h) := kq_loop (F19_lrrrrlrlrrrrrr_j k)
noncomputable def F19_rlrrrrrr {β : Type} (inv : Inv) (k : Nat) (x0 x5 x6 x8 x10 x49 : Value) (h : AH) (kn : (Value → Value → Value → Value → Value → Value → Value → Value → Value → AH → Option β)) (kr : (Value → Value → Value → AH → Option β)) : Option β :=
    brV x49
    (bnd (pConv Try.prog 49 3 x6 h) fun x53 =>
    bnd (inv (.func 45) #[] #[x53, (.int .i64 1)] h) fun x54 =>
    bnd (inv (.func 44) #[] #[x5, x54.1] x54.2) fun x55 =>
    bnd (pExtract x55.1 0) fun x56 =>
    bnd (pExtract x55.1 1) fun x57 =>
    bnd (pConv Try.prog 49 3 x6 x55.2) fun x61 =>
    bnd (inv (.func 46) #[] #[x56, x61, (.int .i64 1)] x55.2) fun x62 =>
    bnd (pExtract x62.1 0) fun x63 =>
    bnd (pExtract x62.1 1) fun x64 =>
    G19_10 inv x0 x5 x8 x10 x57 x63 x64 x62.2 fun y70 h =>
    brV y70
    (kr (.slice none 0 0) (.int .i64 0) (.int .i64 4) h)
    (F19_lrrrrlrlrrrrrr inv k k x0 x5 x8 x10 x63 (.int .i64 0) h
    (fun y0 y5 y8 y10 y13 y15 y74 h_1 =>
    kn y0 y5 unk y8 y10 y13 y15 unk y74 h_1)))
    (kn x0 x5 x6 x8 x10 unk unk x49 unk h)
theorem F19_rlrrrrrr_eq  : kCode env 19 false inv k (cp c19 509) (act 117 [(0, x0), (5, x5), (6, x6), (8, x8), (10, x10), (49, x49)]) h K = F19_rlrrrrrr inv k x0 x5 x6 x8 x10 x49 h (fun y0 y5 y6 y8 y10 y13 y15 y49 y74 h => K .normal (act 117 [(0, y0), (5, y5), (6, y6), (8, y8), (10, y10), (13, y13), (15, y15), (49, y49), (74, y74)]) h) (fun y2 y3 y4 h => K .ret (act 117 [(2, y2), (3, y3), (4, y4)]) h) := by
      unfold F19_rlrrrrrr
      simp only [b19_rlrrrrrr, kq_seq c19 1018, r19_8, kq_seq c19 2037, r19_9, kq_seq c19 4075, kq_seq c19 8150, r19_10, b19_rlrrlrlrrrrrr, kq_seq c19 32602, r19_11, kq_ret c19 65205, kq_skip c19 32603, kq_seq c19 8151, r19_12, kq_block c19 16303 0, F19_lrrrrlrlrrrrrr_eq, kq_skip c19 1019, reduceIte, reduceCtorEq, XE.exit.injEq, Nat.reduceEqDiff, Nat.reduceMul, Nat.reduceAdd] <;> kernel_rfl
theorem r19_16  : kCode env 19 false inv k (cp c19 1020) (act 117 [(0, x0), (5, x5), (6, x6), (8, x8), (10, x10), (13, x13), (15, x15), (49, x49), (74, x74)]) h K =
    K .normal (act 117 [(0, x0), (5, x5), (8, x8), (10, x10), (16, (.int .i64 0))]) h := kq_reg
noncomputable abbrev G19_17 {β : Type} (inv : Inv) (x0 x5 x8 x10 x16 : Value) (h : AH) (K : Value → AH → Option β) : Option β :=
    bnd (pLen Try.prog #[22] x10 h) fun x87 =>
    bnd (pBin Try.prog .lss 3 (.tmp 85) (.tmp 87) x16 x87) fun x88 =>
    bnd (gd (some x88) true h (some (x8, h))) fun x90 =>
    bnd (gd (some x88) true x90.2 (lt (pBin Try.prog .eql 49 (.tmp 90) (.const (.int .u64 1)) x90.1 (.int .u64 1)) x90.2)) fun x91 =>
    bnd (pickV x88 x91.1 (.bool false)) fun x92 =>
    K (x92) x91.2
theorem r19_17  : kCode env 19 false inv k (cp c19 16336) (act 117 [(0, x0), (5, x5), (8, x8), (10, x10), (16, x16)]) h K =
    G19_17 inv x0 x5 x8 x10 x16 h fun y92 h => K .normal (act 117 [(0, x0), (5, x5), (8, x8), (10, x10), (16, x16), (92, y92)]) h := kq_reg
theorem b19_rlllrlrrrrrrr  : kCode env 19 false inv k (cp c19 16337) (act 117 [(0, x0), (5, x5), (8, x8), (10, x10), (16, x16), (92, x92)]) h K = brV x92 (kCode env 19 false inv k (cp c19 32674) (act 117 [(0, x0), (5, x5), (8, x8), (10, x10), (16, x16), (92, x92)]) h K) (kCode env 19 false inv k (cp c19 32675) (act 117 [(0, x0), (5, x5), (8, x8), (10, x10), (16, x16), (92, x92)]) h K) := kq_cond
theorem r19_19  : kCode env 19 false inv k (cp c19 32676) (act 117 [(0, x0), (5, x5), (8, x8), (10, x10), (16, x16), (92, x92)]) h K =
    bnd (pIndexAddr Try.prog 22 x10 x16) fun x97 =>
    bnd (kSt (pStore Try.prog 4 x97 (.bool true) h)) fun u =>
    K .normal (act 117 [(0, x0), (5, x5), (8, x8), (10, x10), (16, x16)]) u.2 := kq_reg
theorem r19_18  : kCode env 19 false inv k (cp c19 16339) (act 117 [(0, x0), (5, x5), (8, x8), (10, x10), (16, x16)]) h K =
    bnd (pBin Try.prog .add 3 (.tmp 93) (.const (.int .i64 1)) x16 (.int .i64 1)) fun x94 =>
    K .normal (act 117 [(0, x0), (5, x5), (8, x8), (10, x10), (16, x94)]) h := kq_reg
noncomputable def F19_lrlrrrrrrr {β : Type} (inv : Inv) (k : Nat) : Nat → Value → Value → Value → Value → Value → AH → (Value → Value → Value → Value → Value → Value → AH → Option β) → Option β
  | 0, _, _, _, _, _, _, _ => none
  | j + 1, x0, x5, x8, x10, x16, h, ke2 =>
    G19_17 inv x0 x5 x8 x10 x16 h fun y92 h =>
    brV y92
    (bnd (pIndexAddr Try.prog 22 x10 x16) fun x97 =>
    bnd (kSt (pStore Try.prog 4 x97 (.bool true) h)) fun u =>
    bnd (pBin Try.prog .add 3 (.tmp 93) (.const (.int .i64 1)) x16 (.int .i64 1)) fun x94 =>
    F19_lrlrrrrrrr inv k j x0 x5 x8 x10 x94 u.2 ke2)
    (ke2 x0 x5 x8 x10 x16 y92 h)
theorem F19_lrlrrrrrrr_j (j : Nat) : kLoop (kCode env 19 false inv k (cp c19 4084)) j (act 117 [(0, x0), (5, x5), (8, x8), (10, x10), (16, x16)]) h K = F19_lrlrrrrrrr inv k j x0 x5 x8 x10 x16 h (fun y0 y5 y8 y10 y16 y92 h => K (.exit 2) (act 117 [(0, y0), (5, y5), (8, y8), (10, y10), (16, y16), (92, y92)]) h) := by
      induction j generalizing x0 x5 x8 x10 x16 h with
      | zero => rfl
      | succ j ih =>
        unfold F19_lrlrrrrrrr
        simp only [kLoop, kq_seq c19 4084, kq_seq c19 8168, r19_17, b19_rlllrlrrrrrrr, kq_skip c19 32674, kq_seq c19 8169, kq_block c19 16338 3, r19_19, r19_18, kq_exit c19 32675 2, ih, reduceIte, reduceCtorEq, XE.exit.injEq, Nat.reduceEqDiff, Nat.reduceMul, Nat.reduceAdd] <;> kernel_rfl
theorem F19_lrlrrrrrrr_eq  : kCode env 19 false inv k (cp c19 2042) (act 117 [(0, x0), (5, x5), (8, x8), (10, x10), (16, x16)]) h K = F19_lrlrrrrrrr inv k k x0 x5 x8 x10 x16 h (fun y0 y5 y8 y10 y16 y92 h => K (.exit 2) (act 117 [(0, y0), (5, y5), (8, y8), (10, y10), (16, y16), (92, y92)]) h) := kq_loop (F19_lrlrrrrrrr_j k)
theorem r19_20  : kCode env 19 false inv k (cp c19 1022) (act 117 [(0, x0), (5, x5), (8, x8), (10, x10), (16, x16), (92, x92)]) h K =
    bnd (pLen Try.prog #[32] x0 h) fun x99 =>
    bnd (inv (.func 47) #[] #[x5] h) fun x101 =>
    bnd (pBin Try.prog .sub 3 (.tmp 99) (.tmp 101) x99 x101.1) fun x102 =>
    K .normal (act 117 [(0, x0), (10, x10), (17, x102)]) x101.2 := kq_reg
theorem r19_21  : kCode env 19 false inv k (cp c19 2046) (act 117 [(0, x0), (10, x10), (17, x17)]) h K =
    bnd (inv (.func 18) #[] #[x10] h) fun x105 =>
    bnd (pExtract x105.1 0) fun x106 =>
    bnd (pExtract x105.1 1) fun x107 =>
    K .normal (act 117 [(0, x0), (10, x10), (17, x17), (18, x106)]) x105.2 := kq_reg
theorem r19_22  : kCode env 19 false inv k (cp c19 8188) (act 117 [(0, x0), (10, x10), (17, x17), (18, x18)]) h K =
    bnd (pConv Try.prog 32 9 x18 h) fun x109 =>
    bnd (pSlice Try.prog 32 x0 none (some x17) none h) fun x112 =>
    bnd (pConv Try.prog 32 9 x112 h) fun x113 =>
    bnd (pBin Try.prog .neq 9 (.tmp 109) (.tmp 113) x109 x113) fun x114 =>
    K .normal (act 117 [(10, x10), (17, x17), (114, x114)]) h := kq_draw
theorem b19_rlrrrrrrrrrr  : kCode env 19 false inv k (cp c19 8189) (act 117 [(10, x10), (17, x17), (114, x114)]) h K = brV x114 (kCode env 19 false inv k (cp c19 16378) (act 117 [(10, x10), (17, x17), (114, x114)]) h K) (kCode env 19 false inv k (cp c19 16379) (act 117 [(10, x10), (17, x17), (114, x114)]) h K) := kq_cond
theorem r19_23  : kCode env 19 false inv k (cp c19 32756) (act 117 [(10, x10), (17, x17), (114, x114)]) h K =
    K .normal (act 117 [(2, (.slice none 0 0)), (3, (.int .i64 0)), (4, (.int .i64 4))]) h := kq_reg
theorem r19_24  : kCode env 19 false inv k (cp c19 8190) (act 117 [(10, x10), (17, x17), (114, x114)]) h K =
    K .normal (act 117 [(2, x10), (3, x17), (4, (.int .i64 0))]) h := kq_reg
/-- shadowbook/shadowbookref08.Get -/
noncomputable def F19 (inv : Inv) (k : Nat) (x0 : Value) (h : AH) : Option (Value × AH) :=
    bnd (inv (.func 41) #[] #[x0] h) fun x21 =>
    bnd (inv (.func 42) #[] #[x21.1] x21.2) fun x24 =>
    bnd (pExtract x24.1 0) fun x25 =>
    bnd (pExtract x24.1 1) fun x26 =>
    bnd (inv (.func 43) #[] #[x21.1, (.int .i64 1)] x24.2) fun x29 =>
    bnd (pExtract x29.1 0) fun x30 =>
    bnd (pExtract x29.1 1) fun x31 =>
    G19_4 inv x0 x21.1 x25 x26 x30 x31 x29.2 fun y45 h =>
    brV y45
    (some (.tuple #[(.slice none 0 0), (.int .i64 0), (.int .i64 4)], h))
    (bnd (pMakeSlice Try.prog 22 x25 x25 h) fun x47 =>
    bnd (pBin Try.prog .eql 49 (.tmp 48) (.const (.int .u64 2)) x30 (.int .u64 2)) fun x49 =>
    F19_rlrrrrrr inv k x0 x21.1 x25 x30 x47.1 x49 x47.2
    (fun y0 y5 y6 y8 y10 y13 y15 y49 y74 h_2 =>
    F19_lrlrrrrrrr inv k k y0 y5 y8 y10 (.int .i64 0) h_2
    (fun y0_3 y5_4 y8_5 y10_6 y16 y92 h_7 =>
    bnd (pLen Try.prog #[32] y0_3 h_7) fun x99 =>
    bnd (inv (.func 47) #[] #[y5_4] h_7) fun x101 =>
    bnd (pBin Try.prog .sub 3 (.tmp 99) (.tmp 101) x99 x101.1) fun x102 =>
    bnd (inv (.func 18) #[] #[y10_6] x101.2) fun x105 =>
    bnd (pExtract x105.1 0) fun x106 =>
    bnd (pExtract x105.1 1) fun x107 =>
    bnd (pConv Try.prog 32 9 x106 x105.2) fun x109 =>
    bnd (pSlice Try.prog 32 y0_3 none (some x102) none x105.2) fun x112 =>
    bnd (pConv Try.prog 32 9 x112 x105.2) fun x113 =>
    bnd (pBin Try.prog .neq 9 (.tmp 109) (.tmp 113) x109 x113) fun x114 =>
    brV x114
    (some (.tuple #[(.slice none 0 0), (.int .i64 0), (.int .i64 4)], x105.2))
    (some (.tuple #[y10_6, x102, (.int .i64 0)], x105.2))))
    (fun y2 y3 y4 h_8 =>
    some (.tuple #[y2, y3, y4], h_8)))
theorem F19_eq : eFun env k inv 19 #[x0] h = F19 inv k x0 h := by
      refine (kq_fun (a := act 117 [(0, x0)]) (c := cp c19 1)).trans ?_
      unfold F19
      simp only [kq_seq c19 1, r19_0, kq_seq c19 3, r19_1, kq_seq c19 7, r19_2, kq_seq c19 15, r19_3, kq_seq c19 31, kq_seq c19 62, r19_4, b19_rlrrrr, kq_seq c19 250, r19_5, kq_ret c19 501, res19_0, kq_skip c19 251, kq_seq c19 63, r19_6, kq_seq c19 127, kq_seq c19 254, r19_7, F19_rlrrrrrr_eq, kq_seq c19 255, kq_seq c19 510, r19_16, kq_block c19 1021 2, F19_lrlrrrrrrr_eq, kq_seq c19 511, r19_20, kq_seq c19 1023, r19_21, kq_seq c19 2047, kq_seq c19 4094, r19_22, b19_rlrrrrrrrrrr, kq_seq c19 16378, r19_23, kq_ret c19 32757, kq_skip c19 16379, kq_seq c19 4095, r19_24, kq_ret c19 8191, reduceIte, reduceCtorEq, XE.exit.injEq, Nat.reduceEqDiff, Nat.reduceMul, Nat.reduceAdd] <;> kernel_rfl
theorem F19_call : eInv env (k + 1) (.func 19) #[] #[x0] h = F19 (eInv env k) k x0 h := kq_inv F19_eq
noncomputable def c20 : Code := codeOf Try.prog 20
theorem r20_0  : kCode env 20 false inv k (cp c20 2) (act 18 [(0, x0)]) h K =
    K .normal (act 18 [(0, x0)]) h := kq_reg
theorem r20_1  : kCode env 20 false inv k (cp c20 6) (act 18 [(0, x0)]) h K =
    K .normal (act 18 [(0, x0), (3, (.int .i64 0))]) h := kq_reg
theorem r20_2  : kCode env 20 false inv k (cp c20 28) (act 18 [(0, x0), (3, x3)]) h K =
    K .normal (act 18 [(0, x0), (3, x3), (4, (.int .i64 0))]) h := kq_reg
theorem r20_3  : kCode env 20 false inv k (cp c20 464) (act 18 [(0, x0), (3, x3), (4, x4)]) h K =
    bnd (pLen Try.prog #[22] x0 h) fun x7 =>
    bnd (pBin Try.prog .lss 3 (.tmp 5) (.tmp 7) x4 x7) fun x8 =>
    K .normal (act 18 [(0, x0), (3, x3), (4, x4), (8, x8)]) h := kq_reg
theorem b20_rlllrlrr  : kCode env 20 false inv k (cp c20 465) (act 18 [(0, x0), (3, x3), (4, x4), (8, x8)]) h K = brV x8 (kCode env 20 false inv k (cp c20 930) (act 18 [(0, x0), (3, x3), (4, x4), (8, x8)]) h K) (kCode env 20 false inv k (cp c20 931) (act 18 [(0, x0), (3, x3), (4, x4), (8, x8)]) h K) := kq_cond
theorem r20_5  : kCode env 20 false inv k (cp c20 1864) (act 18 [(0, x0), (3, x3), (4, x4), (8, x8)]) h K =
    bnd (pIndexAddr Try.prog 22 x0 x4) fun x13 =>
    bnd (pLoad Try.prog 4 x13 h) fun x14 =>
    K .normal (act 18 [(0, x0), (3, x3), (4, x4), (14, x14)]) h := kq_reg
theorem b20_rllrllrlrr  : kCode env 20 false inv k (cp c20 1865) (act 18 [(0, x0), (3, x3), (4, x4), (14, x14)]) h K = brV x14 (kCode env 20 false inv k (cp c20 3730) (act 18 [(0, x0), (3, x3), (4, x4), (14, x14)]) h K) (kCode env 20 false inv k (cp c20 3731) (act 18 [(0, x0), (3, x3), (4, x4), (14, x14)]) h K) := kq_cond
theorem r20_6  : kCode env 20 false inv k (cp c20 3730) (act 18 [(0, x0), (3, x3), (4, x4), (14, x14)]) h K =
    bnd (pBin Try.prog .add 3 (.tmp 15) (.const (.int .i64 1)) x3 (.int .i64 1)) fun x16 =>
    K .normal (act 18 [(0, x0), (3, x16), (4, x4)]) h := kq_reg
noncomputable def F20_lrllrlrr {β : Type} (inv : Inv) (k : Nat) (x0 x3 x4 x8 : Value) (h : AH) (kn : (Value → Value → Value → Value → AH → Option β)) : Option β :=
    bnd (pIndexAddr Try.prog 22 x0 x4) fun x13 =>
    bnd (pLoad Try.prog 4 x13 h) fun x14 =>
    brV x14
    (bnd (pBin Try.prog .add 3 (.tmp 15) (.const (.int .i64 1)) x3 (.int .i64 1)) fun x16 =>
    kn x0 x16 x4 unk h)
    (kn x0 x3 x4 x14 h)
theorem F20_lrllrlrr_eq  : kCode env 20 false inv k (cp c20 466) (act 18 [(0, x0), (3, x3), (4, x4), (8, x8)]) h K = F20_lrllrlrr inv k x0 x3 x4 x8 h (fun y0 y3 y4 y14 h => K .normal (act 18 [(0, y0), (3, y3), (4, y4), (14, y14)]) h) := by
      unfold F20_lrllrlrr
      simp only [kq_block c20 466 1, kq_seq c20 932, r20_5, b20_rllrllrlrr, r20_6, kq_skip c20 3731, reduceIte, reduceCtorEq, XE.exit.injEq, Nat.reduceEqDiff, Nat.reduceMul, Nat.reduceAdd] <;> kernel_rfl
theorem r20_4  : kCode env 20 false inv k (cp c20 467) (act 18 [(0, x0), (3, x3), (4, x4), (14, x14)]) h K =
    bnd (pBin Try.prog .add 3 (.tmp 9) (.const (.int .i64 1)) x4 (.int .i64 1)) fun x10 =>
    K .normal (act 18 [(0, x0), (3, x3), (4, x10)]) h := kq_reg
noncomputable def F20_lrlrr {β : Type} (inv : Inv) (k : Nat) : Nat → Value → Value → Value → AH → (Value → Value → Value → Value → AH → Option β) → Option β
  | 0, _, _, _, _, _ => none
  | j + 1, x0, x3, x4, h, ke0 =>
    bnd (pLen Try.prog #[22] x0 h) fun x7 =>
    bnd (pBin Try.prog .lss 3 (.tmp 5) (.tmp 7) x4 x7) fun x8 =>
    brV x8
    (F20_lrllrlrr inv k x0 x3 x4 x8 h
    (fun y0 y3 y4 y14 h =>
    bnd (pBin Try.prog .add 3 (.tmp 9) (.const (.int .i64 1)) y4 (.int .i64 1)) fun x10 =>
    F20_lrlrr inv k j y0 y3 x10 h ke0))
    (ke0 x0 x3 x4 x8 h)
theorem F20_lrlrr_j (j : Nat) : kLoop (kCode env 20 false inv k (cp c20 116)) j (act 18 [(0, x0), (3, x3), (4, x4)]) h K = F20_lrlrr inv k j x0 x3 x4 h (fun y0 y3 y4 y8 h => K (.exit 0) (act 18 [(0, y0), (3, y3), (4, y4), (8, y8)]) h) := by
      induction j generalizing x0 x3 x4 h with
      | zero => rfl
      | succ j ih =>
        unfold F20_lrlrr
        simp only [kLoop, kq_seq c20 116, kq_seq c20 232, r20_3, b20_rlllrlrr, kq_skip c20 930, kq_seq c20 233, F20_lrllrlrr_eq, r20_4, kq_exit c20 931 0, ih, reduceIte, reduceCtorEq, XE.exit.injEq, Nat.reduceEqDiff, Nat.reduceMul, Nat.reduceAdd] <;> kernel_rfl
theorem F20_lrlrr_eq  : kCode env 20 false inv k (cp c20 58) (act 18 [(0, x0), (3, x3), (4, x4)]) h K = F20_lrlrr inv k k x0 x3 x4 h (fun y0 y3 y4 y8 h => K (.exit 0) (act 18 [(0, y0), (3, y3), (4, y4), (8, y8)]) h) := kq_loop (F20_lrlrr_j k)
theorem r20_7  : kCode env 20 false inv k (cp c20 30) (act 18 [(0, x0), (3, x3), (4, x4), (8, x8)]) h K =
    K .normal (act 18 [(2, x3)]) h := kq_reg
theorem res20_0 : resOfFn env.P 20 .ret (act 18 [(2, x2)]) h = some (x2, h) := kq_res
/-- shadowbook/shadowbookref08.Count -/
noncomputable def F20 (inv : Inv) (k : Nat) (x0 : Value) (h : AH) : Option (Value × AH) :=
    F20_lrlrr inv k k x0 (.int .i64 0) (.int .i64 0) h
    (fun y0 y3 y4 y8 h =>
    some (y3, h))
theorem F20_eq : eFun env k inv 20 #[x0] h = F20 inv k x0 h := by
      refine (kq_fun (a := act 18 [(0, x0)]) (c := cp c20 1)).trans ?_
      unfold F20
      simp only [kq_seq c20 1, r20_0, kq_seq c20 3, r20_1, kq_seq c20 7, kq_seq c20 14, r20_2, kq_block c20 29 0, F20_lrlrr_eq, kq_seq c20 15, r20_7, kq_ret c20 31, res20_0, reduceIte, reduceCtorEq, XE.exit.injEq, Nat.reduceEqDiff, Nat.reduceMul, Nat.reduceAdd] <;> kernel_rfl
theorem F20_call : eInv env (k + 1) (.func 20) #[] #[x0] h = F20 (eInv env k) k x0 h := kq_inv F20_eq
noncomputable def c21 : Code := codeOf Try.prog 21
theorem r21_0  : kCode env 21 false inv k (cp c21 2) (act 35 [(0, x0), (1, x1)]) h K =
    K .normal (act 35 [(0, x0), (1, x1)]) h := kq_reg
theorem r21_1  : kCode env 21 false inv k (cp c21 12) (act 35 [(0, x0), (1, x1)]) h K =
    bnd (pLen Try.prog #[22] x0 h) fun x9 =>
    bnd (inv (.func 20) #[] #[x0] h) fun x11 =>
    bnd (pBin Try.prog .sub 3 (.tmp 9) (.tmp 11) x9 x11.1) fun x12 =>
    bnd (pBin Try.prog .neq 3 (.tmp 12) (.tmp 13) x12 x1) fun x14 =>
    K .normal (act 35 [(0, x0), (14, x14)]) x11.2 := kq_reg
theorem b21_rlr  : kCode env 21 false inv k (cp c21 13) (act 35 [(0, x0), (14, x14)]) h K = brV x14 (kCode env 21 false inv k (cp c21 26) (act 35 [(0, x0), (14, x14)]) h K) (kCode env 21 false inv k (cp c21 27) (act 35 [(0, x0), (14, x14)]) h K) := kq_cond
theorem r21_2  : kCode env 21 false inv k (cp c21 52) (act 35 [(0, x0), (14, x14)]) h K =
    K .normal (act 35 [(4, (.slice none 0 0))]) h := kq_reg
theorem res21_0 : resOfFn env.P 21 .ret (act 35 [(4, x4)]) h = some (x4, h) := kq_res
theorem r21_3  : kCode env 21 false inv k (cp c21 14) (act 35 [(0, x0), (14, x14)]) h K =
    K .normal (act 35 [(0, x0), (5, (.slice none 0 0))]) h := kq_reg
theorem r21_4  : kCode env 21 false inv k (cp c21 30) (act 35 [(0, x0), (5, x5)]) h K =
    K .normal (act 35 [(0, x0), (5, x5), (6, (.int .i64 0))]) h := kq_reg
theorem r21_5  : kCode env 21 false inv k (cp c21 124) (act 35 [(0, x0), (5, x5), (6, x6)]) h K =
    K .normal (act 35 [(0, x0), (5, x5), (6, x6), (7, (.int .i64 0))]) h := kq_reg
theorem r21_6  : kCode env 21 false inv k (cp c21 2000) (act 35 [(0, x0), (5, x5), (6, x6), (7, x7)]) h K =
    bnd (pLen Try.prog #[22] x0 h) fun x17 =>
    bnd (pBin Try.prog .lss 3 (.tmp 15) (.tmp 17) x7 x17) fun x18 =>
    K .normal (act 35 [(0, x0), (5, x5), (6, x6), (7, x7), (18, x18)]) h := kq_reg
theorem b21_rlllrlrrrr  : kCode env 21 false inv k (cp c21 2001) (act 35 [(0, x0), (5, x5), (6, x6), (7, x7), (18, x18)]) h K = brV x18 (kCode env 21 false inv k (cp c21 4002) (act 35 [(0, x0), (5, x5), (6, x6), (7, x7), (18, x18)]) h K) (kCode env 21 false inv k (cp c21 4003) (act 35 [(0, x0), (5, x5), (6, x6), (7, x7), (18, x18)]) h K) := kq_cond
theorem r21_8  : kCode env 21 false inv k (cp c21 8008) (act 35 [(0, x0), (5, x5), (6, x6), (7, x7), (18, x18)]) h K =
    bnd (pIndexAddr Try.prog 22 x0 x7) fun x23 =>
    bnd (pLoad Try.prog 4 x23 h) fun x24 =>
    K .normal (act 35 [(0, x0), (5, x5), (6, x6), (7, x7), (24, x24)]) h := kq_reg
theorem b21_rllrllrlrrrr  : kCode env 21 false inv k (cp c21 8009) (act 35 [(0, x0), (5, x5), (6, x6), (7, x7), (24, x24)]) h K = brV x24 (kCode env 21 false inv k (cp c21 16018) (act 35 [(0, x0), (5, x5), (6, x6), (7, x7), (24, x24)]) h K) (kCode env 21 false inv k (cp c21 16019) (act 35 [(0, x0), (5, x5), (6, x6), (7, x7), (24, x24)]) h K) := kq_cond
theorem r21_9  : kCode env 21 false inv k (cp c21 16018) (act 35 [(0, x0), (5, x5), (6, x6), (7, x7), (24, x24)]) h K =
    bnd (pBuildSlice Try.prog 25 1 #[(0, (.int .i64 (-1)))] h) fun x26 =>
    bnd (pAppend Try.prog #[25, 25] x5 x26.1 x26.2) fun x27 =>
    K .normal (act 35 [(0, x0), (5, x27.1), (6, x6), (7, x7)]) x27.2 := kq_reg
theorem r21_10  : kCode env 21 false inv k (cp c21 32038) (act 35 [(0, x0), (5, x5), (6, x6), (7, x7), (24, x24)]) h K =
    bnd (pBuildSlice Try.prog 25 1 #[(0, x6)] h) fun x30 =>
    bnd (pAppend Try.prog #[25, 25] x5 x30.1 x30.2) fun x31 =>
    K .normal (act 35 [(0, x0), (5, x31.1), (6, x6), (7, x7)]) x31.2 := kq_reg
theorem r21_11  : kCode env 21 false inv k (cp c21 32039) (act 35 [(0, x0), (5, x5), (6, x6), (7, x7)]) h K =
    bnd (pBin Try.prog .add 3 (.tmp 32) (.const (.int .i64 1)) x6 (.int .i64 1)) fun x33 =>
    K .normal (act 35 [(0, x0), (5, x5), (6, x33), (7, x7)]) h := kq_reg
noncomputable def F21_lrllrlrrrr {β : Type} (inv : Inv) (k : Nat) (x0 x5 x6 x7 x18 : Value) (h : AH) (kn : (Value → Value → Value → Value → AH → Option β)) : Option β :=
    bnd (pIndexAddr Try.prog 22 x0 x7) fun x23 =>
    bnd (pLoad Try.prog 4 x23 h) fun x24 =>
    brV x24
    (bnd (pBuildSlice Try.prog 25 1 #[(0, (.int .i64 (-1)))] h) fun x26 =>
    bnd (pAppend Try.prog #[25, 25] x5 x26.1 x26.2) fun x27 =>
    kn x0 x27.1 x6 x7 x27.2)
    (bnd (pBuildSlice Try.prog 25 1 #[(0, x6)] h) fun x30 =>
    bnd (pAppend Try.prog #[25, 25] x5 x30.1 x30.2) fun x31 =>
    bnd (pBin Try.prog .add 3 (.tmp 32) (.const (.int .i64 1)) x6 (.int .i64 1)) fun x33 =>
    kn x0 x31.1 x33 x7 x31.2)
theorem F21_lrllrlrrrr_eq  : kCode env 21 false inv k (cp c21 2002) (act 35 [(0, x0), (5, x5), (6, x6), (7, x7), (18, x18)]) h K = F21_lrllrlrrrr inv k x0 x5 x6 x7 x18 h (fun y0 y5 y6 y7 h => K .normal (act 35 [(0, y0), (5, y5), (6, y6), (7, y7)]) h) := by
      unfold F21_lrllrlrrrr
      simp only [kq_block c21 2002 1, kq_seq c21 4004, r21_8, b21_rllrllrlrrrr, r21_9, kq_seq c21 16019, r21_10, r21_11, reduceIte, reduceCtorEq, XE.exit.injEq, Nat.reduceEqDiff, Nat.reduceMul, Nat.reduceAdd] <;> kernel_rfl
theorem r21_7  : kCode env 21 false inv k (cp c21 2003) (act 35 [(0, x0), (5, x5), (6, x6), (7, x7)]) h K =
    bnd (pBin Try.prog .add 3 (.tmp 19) (.const (.int .i64 1)) x7 (.int .i64 1)) fun x20 =>
    K .normal (act 35 [(0, x0), (5, x5), (6, x6), (7, x20)]) h := kq_reg
noncomputable def F21_lrlrrrr {β : Type} (inv : Inv) (k : Nat) : Nat → Value → Value → Value → Value → AH → (Value → Value → Value → Value → Value → AH → Option β) → Option β
  | 0, _, _, _, _, _, _ => none
  | j + 1, x0, x5, x6, x7, h, ke0 =>
    bnd (pLen Try.prog #[22] x0 h) fun x17 =>
    bnd (pBin Try.prog .lss 3 (.tmp 15) (.tmp 17) x7 x17) fun x18 =>
    brV x18
    (F21_lrllrlrrrr inv k x0 x5 x6 x7 x18 h
    (fun y0 y5 y6 y7 h =>
    bnd (pBin Try.prog .add 3 (.tmp 19) (.const (.int .i64 1)) y7 (.int .i64 1)) fun x20 =>
    F21_lrlrrrr inv k j y0 y5 y6 x20 h ke0))
    (ke0 x0 x5 x6 x7 x18 h)
theorem F21_lrlrrrr_j (j : Nat) : kLoop (kCode env 21 false inv k (cp c21 500)) j (act 35 [(0, x0), (5, x5), (6, x6), (7, x7)]) h K = F21_lrlrrrr inv k j x0 x5 x6 x7 h (fun y0 y5 y6 y7 y18 h => K (.exit 0) (act 35 [(0, y0), (5, y5), (6, y6), (7, y7), (18, y18)]) h) := by
      induction j generalizing x0 x5 x6 x7 h with
      | zero => rfl
      | succ j ih =>
        unfold F21_lrlrrrr
        simp only [kLoop, kq_seq c21 500, kq_seq c21 1000, r21_6, b21_rlllrlrrrr, kq_skip c21 4002, kq_seq c21 1001, F21_lrllrlrrrr_eq, r21_7, kq_exit c21 4003 0, ih, reduceIte, reduceCtorEq, XE.exit.injEq, Nat.reduceEqDiff, Nat.reduceMul, Nat.reduceAdd] <;> kernel_rfl
theorem F21_lrlrrrr_eq  : kCode env 21 false inv k (cp c21 250) (act 35 [(0, x0), (5, x5), (6, x6), (7, x7)]) h K = F21_lrlrrrr inv k k x0 x5 x6 x7 h (fun y0 y5 y6 y7 y18 h => K (.exit 0) (act 35 [(0, y0), (5, y5), (6, y6), (7, y7), (18, y18)]) h) := kq_loop (F21_lrlrrrr_j k)
theorem r21_12  : kCode env 21 false inv k (cp c21 126) (act 35 [(0, x0), (5, x5), (6, x6), (7, x7), (18, x18)]) h K =
    K .normal (act 35 [(4, x5)]) h := kq_reg
/-- shadowbook/shadowbookref08.Spread -/
noncomputable def F21 (inv : Inv) (k : Nat) (x0 x1 : Value) (h : AH) : Option (Value × AH) :=
    bnd (pLen Try.prog #[22] x0 h) fun x9 =>
    bnd (inv (.func 20) #[] #[x0] h) fun x11 =>
    bnd (pBin Try.prog .sub 3 (.tmp 9) (.tmp 11) x9 x11.1) fun x12 =>
    bnd (pBin Try.prog .neq 3 (.tmp 12) (.tmp 13) x12 x1) fun x14 =>
    brV x14
    (some ((.slice none 0 0), x11.2))
    (F21_lrlrrrr inv k k x0 (.slice none 0 0) (.int .i64 0) (.int .i64 0) x11.2
    (fun y0 y5 y6 y7 y18 h =>
    some (y5, h)))
theorem F21_eq : eFun env k inv 21 #[x0, x1] h = F21 inv k x0 x1 h := by
      refine (kq_fun (a := act 35 [(0, x0), (1, x1)]) (c := cp c21 1)).trans ?_
      unfold F21
      simp only [kq_seq c21 1, r21_0, kq_seq c21 3, kq_seq c21 6, r21_1, b21_rlr, kq_seq c21 26, r21_2, kq_ret c21 53, res21_0, kq_skip c21 27, kq_seq c21 7, r21_3, kq_seq c21 15, r21_4, kq_seq c21 31, kq_seq c21 62, r21_5, kq_block c21 125 0, F21_lrlrrrr_eq, kq_seq c21 63, r21_12, kq_ret c21 127, reduceIte, reduceCtorEq, XE.exit.injEq, Nat.reduceEqDiff, Nat.reduceMul, Nat.reduceAdd] <;> kernel_rfl
theorem F21_call : eInv env (k + 1) (.func 21) #[] #[x0, x1] h = F21 (eInv env k) k x0 x1 h := kq_inv F21_eq
noncomputable def c22 : Code := codeOf Try.prog 22
theorem r22_0  : kCode env 22 false inv k (cp c22 2) (act 37 [(0, x0)]) h K =
    K .normal (act 37 [(0, x0)]) h := kq_reg
theorem r22_1  : kCode env 22 false inv k (cp c22 6) (act 37 [(0, x0)]) h K =
    K .normal (act 37 [(0, x0), (3, (.slice none 0 0))]) h := kq_reg
theorem r22_2  : kCode env 22 false inv k (cp c22 28) (act 37 [(0, x0), (3, x3)]) h K =
    K .normal (act 37 [(0, x0), (3, x3), (4, (.int .i64 0))]) h := kq_reg
theorem r22_3  : kCode env 22 false inv k (cp c22 464) (act 37 [(0, x0), (3, x3), (4, x4)]) h K =
    bnd (pLen Try.prog #[22] x0 h) fun x7 =>
    bnd (pBin Try.prog .lss 3 (.tmp 5) (.tmp 7) x4 x7) fun x8 =>
    K .normal (act 37 [(0, x0), (3, x3), (4, x4), (8, x8)]) h := kq_reg
theorem b22_rlllrlrr  : kCode env 22 false inv k (cp c22 465) (act 37 [(0, x0), (3, x3), (4, x4), (8, x8)]) h K = brV x8 (kCode env 22 false inv k (cp c22 930) (act 37 [(0, x0), (3, x3), (4, x4), (8, x8)]) h K) (kCode env 22 false inv k (cp c22 931) (act 37 [(0, x0), (3, x3), (4, x4), (8, x8)]) h K) := kq_cond
noncomputable abbrev G22_5 {β : Type} (inv : Inv) (x0 x3 x4 : Value) (h : AH) (K : Value → AH → Option β) : Option β :=
    bnd (pBin Try.prog .gtr 3 (.tmp 11) (.const (.int .i64 0)) x4 (.int .i64 0)) fun x12 =>
    bnd (gd3 (some x12) true h (some (x0, h))) fun x14 =>
    bnd (gd3 (some x12) true x14.2.1 (some (x4, x14.2.1))) fun x15 =>
    bnd (gd3 (some x12) true x15.2.1 (lt (pIndexAddr Try.prog 22 x14.1 x15.1) x15.2.1)) fun x16 =>
    bnd (gd3 (some x12) true x16.2.1 (lt (pLoad Try.prog 4 x16.1 x16.2.1) x16.2.1)) fun x17 =>
    bnd (gd3 (some x12) true x17.2.1 (some (x0, x17.2.1))) fun x18 =>
    bnd (gd3 (some x12) true x18.2.1 (some (x4, x18.2.1))) fun x19 =>
    bnd (gd3 (some x12) true x19.2.1 (lt (pBin Try.prog .sub 3 (.tmp 19) (.const (.int .i64 1)) x19.1 (.int .i64 1)) x19.2.1)) fun x20 =>
    bnd (gd3 (some x12) true x20.2.1 (lt (pIndexAddr Try.prog 22 x18.1 x20.1) x20.2.1)) fun x21 =>
    bnd (gd3 (some x12) true x21.2.1 (lt (pLoad Try.prog 4 x21.1 x21.2.1) x21.2.1)) fun x22 =>
    bnd (gd3 (some x12) true x22.2.1 (lt (pBin Try.prog .eql 4 (.tmp 17) (.tmp 22) x17.1 x22.1) x22.2.1)) fun x23 =>
    bnd (pickV x12 x23.1 (.bool false)) fun x24 =>
    K (x24) x23.2.1
theorem r22_5  : kCode env 22 false inv k (cp c22 1864) (act 37 [(0, x0), (3, x3), (4, x4), (8, x8)]) h K =
    G22_5 inv x0 x3 x4 h fun y24 h => K .normal (act 37 [(0, x0), (3, x3), (4, x4), (24, y24)]) h := kq_draw
theorem b22_rllrllrlrr  : kCode env 22 false inv k (cp c22 1865) (act 37 [(0, x0), (3, x3), (4, x4), (24, x24)]) h K = brV x24 (kCode env 22 false inv k (cp c22 3730) (act 37 [(0, x0), (3, x3), (4, x4), (24, x24)]) h K) (kCode env 22 false inv k (cp c22 3731) (act 37 [(0, x0), (3, x3), (4, x4), (24, x24)]) h K) := kq_cond
noncomputable abbrev G22_6 {β : Type} (inv : Inv) (x0 x3 x4 : Value) (h : AH) (K : AH → Option β) : Option β :=
    bnd (pLen Try.prog #[25] x3 h) fun x27 =>
    bnd (pBin Try.prog .sub 3 (.tmp 27) (.const (.int .i64 1)) x27 (.int .i64 1)) fun x28 =>
    bnd (pIndexAddr Try.prog 25 x3 x28) fun x29 =>
    bnd (pLoad Try.prog 3 x29 h) fun x30 =>
    bnd (pBin Try.prog .add 3 (.tmp 30) (.const (.int .i64 1)) x30 (.int .i64 1)) fun x31 =>
    bnd (pIndexAddr Try.prog 25 x3 x28) fun x32 =>
    bnd (kSt (pStore Try.prog 3 x32 x31 h)) fun u =>
    K u.2
theorem r22_6  : kCode env 22 false inv k (cp c22 3730) (act 37 [(0, x0), (3, x3), (4, x4), (24, x24)]) h K =
    G22_6 inv x0 x3 x4 h fun  h => K .normal (act 37 [(0, x0), (3, x3), (4, x4)]) h := kq_reg
theorem r22_7  : kCode env 22 false inv k (cp c22 3731) (act 37 [(0, x0), (3, x3), (4, x4), (24, x24)]) h K =
    bnd (pBuildSlice Try.prog 25 1 #[(0, (.int .i64 1))] h) fun x34 =>
    bnd (pAppend Try.prog #[25, 25] x3 x34.1 x34.2) fun x35 =>
    K .normal (act 37 [(0, x0), (3, x35.1), (4, x4)]) x35.2 := kq_reg
noncomputable def F22_lrllrlrr {β : Type} (inv : Inv) (k : Nat) (x0 x3 x4 x8 : Value) (h : AH) (kn : (Value → Value → Value → AH → Option β)) : Option β :=
    G22_5 inv x0 x3 x4 h fun y24 h =>
    brV y24
    (G22_6 inv x0 x3 x4 h fun  h_1 =>
    kn x0 x3 x4 h_1)
    (bnd (pBuildSlice Try.prog 25 1 #[(0, (.int .i64 1))] h) fun x34 =>
    bnd (pAppend Try.prog #[25, 25] x3 x34.1 x34.2) fun x35 =>
    kn x0 x35.1 x4 x35.2)
theorem F22_lrllrlrr_eq  : kCode env 22 false inv k (cp c22 466) (act 37 [(0, x0), (3, x3), (4, x4), (8, x8)]) h K = F22_lrllrlrr inv k x0 x3 x4 x8 h (fun y0 y3 y4 h => K .normal (act 37 [(0, y0), (3, y3), (4, y4)]) h) := by
      unfold F22_lrllrlrr
      simp only [kq_block c22 466 1, kq_seq c22 932, r22_5, b22_rllrllrlrr, r22_6, r22_7, reduceIte, reduceCtorEq, XE.exit.injEq, Nat.reduceEqDiff, Nat.reduceMul, Nat.reduceAdd] <;> kernel_rfl
theorem r22_4  : kCode env 22 false inv k (cp c22 467) (act 37 [(0, x0), (3, x3), (4, x4)]) h K =
    bnd (pBin Try.prog .add 3 (.tmp 9) (.const (.int .i64 1)) x4 (.int .i64 1)) fun x10 =>
    K .normal (act 37 [(0, x0), (3, x3), (4, x10)]) h := kq_reg
noncomputable def F22_lrlrr {β : Type} (inv : Inv) (k : Nat) : Nat → Value → Value → Value → AH → (Value → Value → Value → Value → AH → Option β) → Option β
  | 0, _, _, _, _, _ => none
  | j + 1, x0, x3, x4, h, ke0 =>
    bnd (pLen Try.prog #[22] x0 h) fun x7 =>
    bnd (pBin Try.prog .lss 3 (.tmp 5) (.tmp 7) x4 x7) fun x8 =>
    brV x8
    (F22_lrllrlrr inv k x0 x3 x4 x8 h
    (fun y0 y3 y4 h =>
    bnd (pBin Try.prog .add 3 (.tmp 9) (.const (.int .i64 1)) y4 (.int .i64 1)) fun x10 =>
    F22_lrlrr inv k j y0 y3 x10 h ke0))
    (ke0 x0 x3 x4 x8 h)
theorem F22_lrlrr_j (j : Nat) : kLoop (kCode env 22 false inv k (cp c22 116)) j (act 37 [(0, x0), (3, x3), (4, x4)]) h K = F22_lrlrr inv k j x0 x3 x4 h (fun y0 y3 y4 y8 h => K (.exit 0) (act 37 [(0, y0), (3, y3), (4, y4), (8, y8)]) h) := by
      induction j generalizing x0 x3 x4 h with
      | zero => rfl
      | succ j ih =>
        unfold F22_lrlrr
        simp only [kLoop, kq_seq c22 116, kq_seq c22 232, r22_3, b22_rlllrlrr, kq_skip c22 930, kq_seq c22 233, F22_lrllrlrr_eq, r22_4, kq_exit c22 931 0, ih, reduceIte, reduceCtorEq, XE.exit.injEq, Nat.reduceEqDiff, Nat.reduceMul, Nat.reduceAdd] <;> kernel_rfl
theorem F22_lrlrr_eq  : kCode env 22 false inv k (cp c22 58) (act 37 [(0, x0), (3, x3), (4, x4)]) h K = F22_lrlrr inv k k x0 x3 x4 h (fun y0 y3 y4 y8 h => K (.exit 0) (act 37 [(0, y0), (3, y3), (4, y4), (8, y8)]) h) := kq_loop (F22_lrlrr_j k)
theorem r22_8  : kCode env 22 false inv k (cp c22 30) (act 37 [(0, x0), (3, x3), (4, x4), (8, x8)]) h K =
    K .normal (act 37 [(2, x3)]) h := kq_reg
theorem res22_0 : resOfFn env.P 22 .ret (act 37 [(2, x2)]) h = some (x2, h) := kq_res
/-- shadowbook/shadowbookref08.Lengths -/
noncomputable def F22 (inv : Inv) (k : Nat) (x0 : Value) (h : AH) : Option (Value × AH) :=
    F22_lrlrr inv k k x0 (.slice none 0 0) (.int .i64 0) h
    (fun y0 y3 y4 y8 h =>
    some (y3, h))
theorem F22_eq : eFun env k inv 22 #[x0] h = F22 inv k x0 h := by
      refine (kq_fun (a := act 37 [(0, x0)]) (c := cp c22 1)).trans ?_
      unfold F22
      simp only [kq_seq c22 1, r22_0, kq_seq c22 3, r22_1, kq_seq c22 7, kq_seq c22 14, r22_2, kq_block c22 29 0, F22_lrlrr_eq, kq_seq c22 15, r22_8, kq_ret c22 31, res22_0, reduceIte, reduceCtorEq, XE.exit.injEq, Nat.reduceEqDiff, Nat.reduceMul, Nat.reduceAdd] <;> kernel_rfl
theorem F22_call : eInv env (k + 1) (.func 22) #[] #[x0] h = F22 (eInv env k) k x0 h := kq_inv F22_eq
noncomputable def c23 : Code := codeOf Try.prog 23
theorem r23_0  : kCode env 23 false inv k (cp c23 2) (act 16 [(0, x0)]) h K =
    K .normal (act 16 [(0, x0), (2, (.int .i64 0))]) h := kq_reg
theorem r23_1  : kCode env 23 false inv k (cp c23 12) (act 16 [(0, x0), (2, x2)]) h K =
    bnd (pLen Try.prog #[43] x0 h) fun x6 =>
    K .normal (act 16 [(2, x2), (5, x0), (6, x6), (7, (.int .i64 0))]) h := kq_reg
theorem r23_2  : kCode env 23 false inv k (cp c23 104) (act 16 [(2, x2), (5, x5), (6, x6), (7, x7)]) h K =
    bnd (pBin Try.prog .lss 3 (.tmp 7) (.tmp 6) x7 x6) fun x8 =>
    K .normal (act 16 [(2, x2), (5, x5), (6, x6), (7, x7), (8, x8)]) h := kq_reg
theorem b23_lrllrlr  : kCode env 23 false inv k (cp c23 210) (act 16 [(2, x2), (5, x5), (6, x6), (7, x7), (8, x8)]) h K = brV x8 (kCode env 23 false inv k (cp c23 420) (act 16 [(2, x2), (5, x5), (6, x6), (7, x7), (8, x8)]) h K) (kCode env 23 false inv k (cp c23 421) (act 16 [(2, x2), (5, x5), (6, x6), (7, x7), (8, x8)]) h K) := kq_cond
theorem r23_3  : kCode env 23 false inv k (cp c23 1688) (act 16 [(2, x2), (5, x5), (6, x6), (7, x7), (8, x8)]) h K =
    bnd (pIndexAddr Try.prog 43 x5 x7) fun x9 =>
    bnd (pLoad Try.prog 4 x9 h) fun x10 =>
    K .normal (act 16 [(2, x2), (4, x10), (5, x5), (6, x6), (7, x7)]) h := kq_reg
theorem r23_4  : kCode env 23 false inv k (cp c23 3378) (act 16 [(2, x2), (4, x4), (5, x5), (6, x6), (7, x7)]) h K =
    K .normal (act 16 [(2, x2), (5, x5), (6, x6), (7, x7), (11, x4)]) h := kq_reg
theorem b23_rrllrrllrlr  : kCode env 23 false inv k (cp c23 3379) (act 16 [(2, x2), (5, x5), (6, x6), (7, x7), (11, x11)]) h K = brV x11 (kCode env 23 false inv k (cp c23 6758) (act 16 [(2, x2), (5, x5), (6, x6), (7, x7), (11, x11)]) h K) (kCode env 23 false inv k (cp c23 6759) (act 16 [(2, x2), (5, x5), (6, x6), (7, x7), (11, x11)]) h K) := kq_cond
theorem r23_5  : kCode env 23 false inv k (cp c23 6758) (act 16 [(2, x2), (5, x5), (6, x6), (7, x7), (11, x11)]) h K =
    bnd (pBin Try.prog .add 3 (.tmp 12) (.const (.int .i64 1)) x2 (.int .i64 1)) fun x13 =>
    K .normal (act 16 [(2, x13), (5, x5), (6, x6), (7, x7)]) h := kq_reg
noncomputable def F23_lrrllrlr {β : Type} (inv : Inv) (k : Nat) (x2 x5 x6 x7 x8 : Value) (h : AH) (kn : (Value → Value → Value → Value → Value → AH → Option β)) : Option β :=
    bnd (pIndexAddr Try.prog 43 x5 x7) fun x9 =>
    bnd (pLoad Try.prog 4 x9 h) fun x10 =>
    brV x10
    (bnd (pBin Try.prog .add 3 (.tmp 12) (.const (.int .i64 1)) x2 (.int .i64 1)) fun x13 =>
    kn x13 x5 x6 x7 unk h)
    (kn x2 x5 x6 x7 x10 h)
theorem F23_lrrllrlr_eq  : kCode env 23 false inv k (cp c23 422) (act 16 [(2, x2), (5, x5), (6, x6), (7, x7), (8, x8)]) h K = F23_lrrllrlr inv k x2 x5 x6 x7 x8 h (fun y2 y5 y6 y7 y11 h => K .normal (act 16 [(2, y2), (5, y5), (6, y6), (7, y7), (11, y11)]) h) := by
      unfold F23_lrrllrlr
      simp only [kq_block c23 422 1, kq_seq c23 844, r23_3, kq_seq c23 1689, r23_4, b23_rrllrrllrlr, r23_5, kq_skip c23 6759, reduceIte, reduceCtorEq, XE.exit.injEq, Nat.reduceEqDiff, Nat.reduceMul, Nat.reduceAdd] <;> kernel_rfl
theorem r23_6  : kCode env 23 false inv k (cp c23 423) (act 16 [(2, x2), (5, x5), (6, x6), (7, x7), (11, x11)]) h K =
    bnd (pBin Try.prog .add 3 (.tmp 7) (.const (.int .i64 1)) x7 (.int .i64 1)) fun x14 =>
    K .normal (act 16 [(2, x2), (5, x5), (6, x6), (7, x14)]) h := kq_reg
noncomputable def F23_lrlr {β : Type} (inv : Inv) (k : Nat) : Nat → Value → Value → Value → Value → AH → (Value → Value → Value → Value → Value → AH → Option β) → Option β
  | 0, _, _, _, _, _, _ => none
  | j + 1, x2, x5, x6, x7, h, ke0 =>
    bnd (pBin Try.prog .lss 3 (.tmp 7) (.tmp 6) x7 x6) fun x8 =>
    brV x8
    (F23_lrrllrlr inv k x2 x5 x6 x7 x8 h
    (fun y2 y5 y6 y7 y11 h =>
    bnd (pBin Try.prog .add 3 (.tmp 7) (.const (.int .i64 1)) y7 (.int .i64 1)) fun x14 =>
    F23_lrlr inv k j y2 y5 y6 x14 h ke0))
    (ke0 x2 x5 x6 x7 x8 h)
theorem F23_lrlr_j (j : Nat) : kLoop (kCode env 23 false inv k (cp c23 52)) j (act 16 [(2, x2), (5, x5), (6, x6), (7, x7)]) h K = F23_lrlr inv k j x2 x5 x6 x7 h (fun y2 y5 y6 y7 y8 h => K (.exit 0) (act 16 [(2, y2), (5, y5), (6, y6), (7, y7), (8, y8)]) h) := by
      induction j generalizing x2 x5 x6 x7 h with
      | zero => rfl
      | succ j ih =>
        unfold F23_lrlr
        simp only [kLoop, kq_seq c23 52, r23_2, kq_seq c23 105, b23_lrllrlr, kq_skip c23 420, kq_seq c23 211, F23_lrrllrlr_eq, r23_6, kq_exit c23 421 0, ih, reduceIte, reduceCtorEq, XE.exit.injEq, Nat.reduceEqDiff, Nat.reduceMul, Nat.reduceAdd] <;> kernel_rfl
theorem F23_lrlr_eq  : kCode env 23 false inv k (cp c23 26) (act 16 [(2, x2), (5, x5), (6, x6), (7, x7)]) h K = F23_lrlr inv k k x2 x5 x6 x7 h (fun y2 y5 y6 y7 y8 h => K (.exit 0) (act 16 [(2, y2), (5, y5), (6, y6), (7, y7), (8, y8)]) h) := kq_loop (F23_lrlr_j k)
theorem r23_7  : kCode env 23 false inv k (cp c23 14) (act 16 [(2, x2), (5, x5), (6, x6), (7, x7), (8, x8)]) h K =
    K .normal (act 16 [(2, x2)]) h := kq_reg
theorem res23_0 : resOfFn env.P 23 .ret (act 16 [(2, x2)]) h = some (x2, h) := kq_res
/-- (shadowbook/nulls.flags).count -/
noncomputable def F23 (inv : Inv) (k : Nat) (x0 : Value) (h : AH) : Option (Value × AH) :=
    bnd (pLen Try.prog #[43] x0 h) fun x6 =>
    F23_lrlr inv k k (.int .i64 0) x0 x6 (.int .i64 0) h
    (fun y2 y5 y6 y7 y8 h =>
    some (y2, h))
theorem F23_eq : eFun env k inv 23 #[x0] h = F23 inv k x0 h := by
      refine (kq_fun (a := act 16 [(0, x0)]) (c := cp c23 1)).trans ?_
      unfold F23
      simp only [kq_seq c23 1, r23_0, kq_seq c23 3, kq_seq c23 6, r23_1, kq_block c23 13 0, F23_lrlr_eq, kq_seq c23 7, r23_7, kq_ret c23 15, res23_0, reduceIte, reduceCtorEq, XE.exit.injEq, Nat.reduceEqDiff, Nat.reduceMul, Nat.reduceAdd] <;> kernel_rfl
theorem F23_call : eInv env (k + 1) (.func 23) #[] #[x0] h = F23 (eInv env k) k x0 h := kq_inv F23_eq
noncomputable def c24 : Code := codeOf Try.prog 24
theorem r24_0  : kCode env 24 false inv k (cp c24 2) (act 4 [(0, x0)]) h K =
    bnd (pBox Try.prog 22 x0 h) fun x1 =>
    K .normal (act 4 [(1, x1.1)]) x1.2 := kq_reg
theorem r24_1  : kCode env 24 false inv k (cp c24 6) (act 4 [(1, x1)]) h K =
    bnd (pMakeFunc (.func 48) #[] #[x1]) fun x3 =>
    K .normal (act 4 [(2, x3)]) h := kq_reg
theorem res24_0 : resOfFn env.P 24 .ret (act 4 [(2, x2)]) h = some (x2, h) := kq_res
/-- shadowbook/nulls.Runs -/
noncomputable def F24 (inv : Inv) (k : Nat) (x0 : Value) (h : AH) : Option (Value × AH) :=
    bnd (pBox Try.prog 22 x0 h) fun x1 =>
    bnd (pMakeFunc (.func 48) #[] #[x1.1]) fun x3 =>
    some (x3, x1.2)
theorem F24_eq : eFun env k inv 24 #[x0] h = F24 inv k x0 h := by
      refine (kq_fun (a := act 4 [(0, x0)]) (c := cp c24 1)).trans ?_
      unfold F24
      simp only [kq_seq c24 1, r24_0, kq_seq c24 3, r24_1, kq_ret c24 7, res24_0, reduceIte, reduceCtorEq, XE.exit.injEq, Nat.reduceEqDiff, Nat.reduceMul, Nat.reduceAdd] <;> kernel_rfl
theorem F24_call : eInv env (k + 1) (.func 24) #[] #[x0] h = F24 (eInv env k) k x0 h := kq_inv F24_eq
noncomputable def c25 : Code := codeOf Try.prog 25
theorem r25_0  : kCode env 25 false inv k (cp c25 2) (act 20 [(0, x0), (1, x1)]) h K =
    K .normal (act 20 [(0, x0), (1, x1)]) h := kq_reg
theorem r25_1  : kCode env 25 false inv k (cp c25 96) (act 20 [(0, x0), (1, x1)]) h K =
    bnd (pBin Try.prog .geq 49 (.tmp 5) (.const (.int .u64 128)) x1 (.int .u64 128)) fun x6 =>
    K .normal (act 20 [(0, x0), (1, x1), (6, x6)]) h := kq_reg
theorem b25_rllllr  : kCode env 25 false inv k (cp c25 97) (act 20 [(0, x0), (1, x1), (6, x6)]) h K = brV x6 (kCode env 25 false inv k (cp c25 194) (act 20 [(0, x0), (1, x1), (6, x6)]) h K) (kCode env 25 false inv k (cp c25 195) (act 20 [(0, x0), (1, x1), (6, x6)]) h K) := kq_cond
theorem r25_3  : kCode env 25 false inv k (cp c25 196) (act 20 [(0, x0), (1, x1), (6, x6)]) h K =
    bnd (pConv Try.prog 49 5 x1 h) fun x11 =>
    bnd (pBin Try.prog .or 5 (.tmp 11) (.const (.int .u8 128)) x11 (.int .u8 128)) fun x12 =>
    bnd (pBuildSlice Try.prog 32 1 #[(0, x12)] h) fun x13 =>
    bnd (pAppend Try.prog #[32, 32] x0 x13.1 x13.2) fun x14 =>
    K .normal (act 20 [(0, x14.1), (1, x1)]) x14.2 := kq_reg
theorem r25_2  : kCode env 25 false inv k (cp c25 99) (act 20 [(0, x0), (1, x1)]) h K =
    bnd (pBin Try.prog .shr 49 (.tmp 7) (.const (.int .u64 7)) x1 (.int .u64 7)) fun x8 =>
    K .normal (act 20 [(0, x0), (1, x8)]) h := kq_reg
noncomputable def F25_llr {β : Type} (inv : Inv) (k : Nat) : Nat → Value → Value → AH → (Value → Value → Value → AH → Option β) → Option β
  | 0, _, _, _, _ => none
  | j + 1, x0, x1, h, ke0 =>
    bnd (pBin Try.prog .geq 49 (.tmp 5) (.const (.int .u64 128)) x1 (.int .u64 128)) fun x6 =>
    brV x6
    (bnd (pConv Try.prog 49 5 x1 h) fun x11 =>
    bnd (pBin Try.prog .or 5 (.tmp 11) (.const (.int .u8 128)) x11 (.int .u8 128)) fun x12 =>
    bnd (pBuildSlice Try.prog 32 1 #[(0, x12)] h) fun x13 =>
    bnd (pAppend Try.prog #[32, 32] x0 x13.1 x13.2) fun x14 =>
    bnd (pBin Try.prog .shr 49 (.tmp 7) (.const (.int .u64 7)) x1 (.int .u64 7)) fun x8 =>
    F25_llr inv k j x14.1 x8 x14.2 ke0)
    (ke0 x0 x1 x6 h)
theorem F25_llr_j (j : Nat) : kLoop (kCode env 25 false inv k (cp c25 24)) j (act 20 [(0, x0), (1, x1)]) h K = F25_llr inv k j x0 x1 h (fun y0 y1 y6 h => K (.exit 0) (act 20 [(0, y0), (1, y1), (6, y6)]) h) := by
      induction j generalizing x0 x1 h with
      | zero => rfl
      | succ j ih =>
        unfold F25_llr
        simp only [kLoop, kq_seq c25 24, kq_seq c25 48, r25_1, b25_rllllr, kq_skip c25 194, kq_seq c25 49, kq_block c25 98 1, r25_3, r25_2, kq_exit c25 195 0, ih, reduceIte, reduceCtorEq, XE.exit.injEq, Nat.reduceEqDiff, Nat.reduceMul, Nat.reduceAdd] <;> kernel_rfl
theorem F25_llr_eq  : kCode env 25 false inv k (cp c25 12) (act 20 [(0, x0), (1, x1)]) h K = F25_llr inv k k x0 x1 h (fun y0 y1 y6 h => K (.exit 0) (act 20 [(0, y0), (1, y1), (6, y6)]) h) := kq_loop (F25_llr_j k)
theorem r25_4  : kCode env 25 false inv k (cp c25 14) (act 20 [(0, x0), (1, x1), (6, x6)]) h K =
    bnd (pConv Try.prog 49 5 x1 h) fun x17 =>
    bnd (pBuildSlice Try.prog 32 1 #[(0, x17)] h) fun x18 =>
    bnd (pAppend Try.prog #[32, 32] x0 x18.1 x18.2) fun x19 =>
    K .normal (act 20 [(4, x19.1)]) x19.2 := kq_reg
theorem res25_0 : resOfFn env.P 25 .ret (act 20 [(4, x4)]) h = some (x4, h) := kq_res
/-- shadowbook/octet.PutVar -/
noncomputable def F25 (inv : Inv) (k : Nat) (x0 x1 : Value) (h : AH) : Option (Value × AH) :=
    F25_llr inv k k x0 x1 h
    (fun y0 y1 y6 h =>
    bnd (pConv Try.prog 49 5 y1 h) fun x17 =>
    bnd (pBuildSlice Try.prog 32 1 #[(0, x17)] h) fun x18 =>
    bnd (pAppend Try.prog #[32, 32] y0 x18.1 x18.2) fun x19 =>
    some (x19.1, x19.2))
theorem F25_eq : eFun env k inv 25 #[x0, x1] h = F25 inv k x0 x1 h := by
      refine (kq_fun (a := act 20 [(0, x0), (1, x1)]) (c := cp c25 1)).trans ?_
      unfold F25
      simp only [kq_seq c25 1, r25_0, kq_seq c25 3, kq_block c25 6 0, F25_llr_eq, kq_seq c25 7, r25_4, kq_ret c25 15, res25_0, reduceIte, reduceCtorEq, XE.exit.injEq, Nat.reduceEqDiff, Nat.reduceMul, Nat.reduceAdd] <;> kernel_rfl
theorem F25_call : eInv env (k + 1) (.func 25) #[] #[x0, x1] h = F25 (eInv env k) k x0 x1 h := kq_inv F25_eq
noncomputable def c26 : Code := codeOf Try.prog 26
theorem r26_0  : kCode env 26 false inv k (cp c26 2) (act 11 [(0, x0)]) h K =
    K .normal (act 11 [(0, x0)]) h := kq_reg
theorem r26_1  : kCode env 26 false inv k (cp c26 12) (act 11 [(0, x0)]) h K =
    bnd (inv (.func 23) #[] #[x0] h) fun x4 =>
    K .normal (act 11 [(0, x0), (4, x4.1)]) x4.2 := kq_reg
theorem r26_2  : kCode env 26 false inv k (cp c26 52) (act 11 [(0, x0), (4, x4)]) h K =
    bnd (pBin Try.prog .eql 3 (.tmp 4) (.const (.int .i64 0)) x4 (.int .i64 0)) fun x6 =>
    K .normal (act 11 [(0, x0), (4, x4), (5, x6)]) h := kq_reg
theorem b26_rlrlr  : kCode env 26 false inv k (cp c26 53) (act 11 [(0, x0), (4, x4), (5, x5)]) h K = brV x5 (kCode env 26 false inv k (cp c26 106) (act 11 [(0, x0), (4, x4), (5, x5)]) h K) (kCode env 26 false inv k (cp c26 107) (act 11 [(0, x0), (4, x4), (5, x5)]) h K) := kq_cond
theorem r26_3  : kCode env 26 false inv k (cp c26 212) (act 11 [(0, x0), (4, x4), (5, x5)]) h K =
    K .normal (act 11 [(2, (.int .u8 0))]) h := kq_reg
theorem res26_0 : resOfFn env.P 26 .ret (act 11 [(2, x2)]) h = some (x2, h) := kq_res
theorem r26_4  : kCode env 26 false inv k (cp c26 214) (act 11 [(0, x0), (4, x4), (5, x5)]) h K =
    bnd (pLen Try.prog #[43] x0 h) fun x9 =>
    bnd (pBin Try.prog .eql 3 (.tmp 4) (.tmp 9) x4 x9) fun x10 =>
    K .normal (act 11 [(7, x10)]) h := kq_reg
theorem b26_rrrlrlr  : kCode env 26 false inv k (cp c26 215) (act 11 [(7, x7)]) h K = brV x7 (kCode env 26 false inv k (cp c26 430) (act 11 [(7, x7)]) h K) (kCode env 26 false inv k (cp c26 431) (act 11 [(7, x7)]) h K) := kq_cond
theorem r26_5  : kCode env 26 false inv k (cp c26 860) (act 11 [(7, x7)]) h K =
    K .normal (act 11 [(2, (.int .u8 1))]) h := kq_reg
theorem r26_6  : kCode env 26 false inv k (cp c26 14) (act 11 [(7, x7)]) h K =
    K .normal (act 11 [(2, (.int .u8 2))]) h := kq_reg
/-- (shadowbook/nulls.flags).form -/
noncomputable def F26 (inv : Inv) (k : Nat) (x0 : Value) (h : AH) : Option (Value × AH) :=
    bnd (inv (.func 23) #[] #[x0] h) fun x4 =>
    bnd (pBin Try.prog .eql 3 (.tmp 4) (.const (.int .i64 0)) x4.1 (.int .i64 0)) fun x6 =>
    brV x6
    (some ((.int .u8 0), x4.2))
    (bnd (pLen Try.prog #[43] x0 x4.2) fun x9 =>
    bnd (pBin Try.prog .eql 3 (.tmp 4) (.tmp 9) x4.1 x9) fun x10 =>
    brV x10
    (some ((.int .u8 1), x4.2))
    (some ((.int .u8 2), x4.2)))
theorem F26_eq : eFun env k inv 26 #[x0] h = F26 inv k x0 h := by
      refine (kq_fun (a := act 11 [(0, x0)]) (c := cp c26 1)).trans ?_
      unfold F26
      simp only [kq_seq c26 1, r26_0, kq_seq c26 3, kq_seq c26 6, r26_1, kq_block c26 13 0, kq_seq c26 26, r26_2, b26_rlrlr, kq_seq c26 106, r26_3, kq_ret c26 213, res26_0, kq_seq c26 107, r26_4, b26_rrrlrlr, kq_seq c26 430, r26_5, kq_ret c26 861, kq_skip c26 431, kq_seq c26 7, r26_6, kq_ret c26 15, reduceIte, reduceCtorEq, XE.exit.injEq, Nat.reduceEqDiff, Nat.reduceMul, Nat.reduceAdd] <;> kernel_rfl
theorem F26_call : eInv env (k + 1) (.func 26) #[] #[x0] h = F26 (eInv env k) k x0 h := kq_inv F26_eq
noncomputable def c27 : Code := codeOf Try.prog 27
theorem r27_0  : kCode env 27 false inv k (cp c27 2) (act 54 [(0, x0), (1, x1)]) h K =
    K .normal (act 54 [(0, x0), (1, x1)]) h := kq_reg
theorem r27_1  : kCode env 27 false inv k (cp c27 24) (act 54 [(0, x0), (1, x1)]) h K =
    bnd (pLen Try.prog #[52] x0 h) fun x14 =>
    bnd (inv (.func 49) #[] #[x14, x1] h) fun x16 =>
    bnd (pUn Try.prog .not x16.1) fun x17 =>
    K .normal (act 54 [(0, x0), (1, x1), (12, x17)]) x16.2 := kq_reg
theorem b27_rllr  : kCode env 27 false inv k (cp c27 25) (act 54 [(0, x0), (1, x1), (12, x12)]) h K = brV x12 (kCode env 27 false inv k (cp c27 50) (act 54 [(0, x0), (1, x1), (12, x12)]) h K) (kCode env 27 false inv k (cp c27 51) (act 54 [(0, x0), (1, x1), (12, x12)]) h K) := kq_cond
theorem r27_2  : kCode env 27 false inv k (cp c27 100) (act 54 [(0, x0), (1, x1), (12, x12)]) h K =
    K .normal (act 54 [(4, (.slice none 0 0)), (5, (.int .i64 2))]) h := kq_reg
theorem res27_0 : resOfFn env.P 27 .ret (act 54 [(4, x4), (5, x5)]) h = some (.tuple #[x4, x5], h) := kq_res
theorem r27_3  : kCode env 27 false inv k (cp c27 102) (act 54 [(0, x0), (1, x1), (12, x12)]) h K =
    bnd (inv (.func 50) #[] #[x0] h) fun x20 =>
    bnd (pBin Try.prog .gtr 3 (.tmp 20) (.tmp 21) x20.1 x1) fun x22 =>
    K .normal (act 54 [(0, x0), (1, x1), (18, x22)]) x20.2 := kq_reg
theorem b27_rrrllr  : kCode env 27 false inv k (cp c27 103) (act 54 [(0, x0), (1, x1), (18, x18)]) h K = brV x18 (kCode env 27 false inv k (cp c27 206) (act 54 [(0, x0), (1, x1), (18, x18)]) h K) (kCode env 27 false inv k (cp c27 207) (act 54 [(0, x0), (1, x1), (18, x18)]) h K) := kq_cond
theorem r27_4  : kCode env 27 false inv k (cp c27 412) (act 54 [(0, x0), (1, x1), (18, x18)]) h K =
    K .normal (act 54 [(4, (.slice none 0 0)), (5, (.int .i64 3))]) h := kq_reg
theorem r27_5  : kCode env 27 false inv k (cp c27 14) (act 54 [(0, x0), (1, x1), (18, x18)]) h K =
    bnd (pLen Try.prog #[52] x0 h) fun x24 =>
    bnd (inv (.func 34) #[] #[x24, x1] h) fun x26 =>
    bnd (pMakeSlice Try.prog 32 (.int .i64 0) x26.1 x26.2) fun x27 =>
    bnd (pAlloc Try.prog 32 x27.2) fun x6 =>
    bnd (kSt (pStore Try.prog 32 x6.1 x27.1 x6.2)) fun u =>
    K .normal (act 54 [(0, x0), (1, x1), (6, x6.1)]) u.2 := kq_reg
theorem r27_6  : kCode env 27 false inv k (cp c27 30) (act 54 [(0, x0), (1, x1), (6, x6)]) h K =
    bnd (pAlloc Try.prog 5 h) fun x7 =>
    K .normal (act 54 [(0, x0), (1, x1), (6, x6), (7, x7.1)]) x7.2 := kq_reg
theorem r27_7  : kCode env 27 false inv k (cp c27 62) (act 54 [(0, x0), (1, x1), (6, x6), (7, x7)]) h K =
    bnd (pAlloc Try.prog 3 h) fun x8 =>
    bnd (kSt (pStore Try.prog 3 x8.1 (.int .i64 0) x8.2)) fun u =>
    K .normal (act 54 [(0, x0), (1, x1), (6, x6), (7, x7), (8, x8.1)]) u.2 := kq_reg
theorem r27_8  : kCode env 27 false inv k (cp c27 126) (act 54 [(0, x0), (1, x1), (6, x6), (7, x7), (8, x8)]) h K =
    bnd (pMakeFunc (.func 51) #[] #[x7, x8, x6]) fun x28 =>
    K .normal (act 54 [(0, x0), (1, x1), (6, x6), (7, x7), (8, x8), (9, x28)]) h := kq_reg
theorem r27_9  : kCode env 27 false inv k (cp c27 508) (act 54 [(0, x0), (1, x1), (6, x6), (7, x7), (8, x8), (9, x9)]) h K =
    bnd (pLen Try.prog #[52] x0 h) fun x30 =>
    K .normal (act 54 [(1, x1), (6, x6), (7, x7), (8, x8), (9, x9), (29, x0), (30, x30), (31, (.int .i64 0))]) h := kq_reg
theorem r27_10  : kCode env 27 false inv k (cp c27 4072) (act 54 [(1, x1), (6, x6), (7, x7), (8, x8), (9, x9), (29, x29), (30, x30), (31, x31)]) h K =
    bnd (pBin Try.prog .lss 3 (.tmp 31) (.tmp 30) x31 x30) fun x32 =>
    K .normal (act 54 [(1, x1), (6, x6), (7, x7), (8, x8), (9, x9), (29, x29), (30, x30), (31, x31), (32, x32)]) h := kq_reg
theorem b27_lrllrlrrrrrr  : kCode env 27 false inv k (cp c27 8146) (act 54 [(1, x1), (6, x6), (7, x7), (8, x8), (9, x9), (29, x29), (30, x30), (31, x31), (32, x32)]) h K = brV x32 (kCode env 27 false inv k (cp c27 16292) (act 54 [(1, x1), (6, x6), (7, x7), (8, x8), (9, x9), (29, x29), (30, x30), (31, x31), (32, x32)]) h K) (kCode env 27 false inv k (cp c27 16293) (act 54 [(1, x1), (6, x6), (7, x7), (8, x8), (9, x9), (29, x29), (30, x30), (31, x31), (32, x32)]) h K) := kq_cond
theorem r27_11  : kCode env 27 false inv k (cp c27 65176) (act 54 [(1, x1), (6, x6), (7, x7), (8, x8), (9, x9), (29, x29), (30, x30), (31, x31), (32, x32)]) h K =
    bnd (pIndexAddr Try.prog 52 x29 x31) fun x33 =>
    bnd (pLoad Try.prog 49 x33 h) fun x34 =>
    K .normal (act 54 [(1, x1), (6, x6), (7, x7), (8, x8), (9, x9), (11, x34), (29, x29), (30, x30), (31, x31)]) h := kq_reg
theorem r27_12  : kCode env 27 false inv k (cp c27 130354) (act 54 [(1, x1), (6, x6), (7, x7), (8, x8), (9, x9), (11, x11), (29, x29), (30, x30), (31, x31)]) h K =
    K .normal (act 54 [(1, x1), (6, x6), (7, x7), (8, x8), (9, x9), (11, x11), (29, x29), (30, x30), (31, x31), (35, x1), (36, (.int .i64 0))]) h := kq_reg
theorem r27_13  : kCode env 27 false inv k (cp c27 1042840) (act 54 [(1, x1), (6, x6), (7, x7), (8, x8), (9, x9), (11, x11), (29, x29), (30, x30), (31, x31), (35, x35), (36, x36)]) h K =
    bnd (pBin Try.prog .lss 3 (.tmp 36) (.tmp 35) x36 x35) fun x37 =>
    K .normal (act 54 [(1, x1), (6, x6), (7, x7), (8, x8), (9, x9), (11, x11), (29, x29), (30, x30), (31, x31), (35, x35), (36, x36), (37, x37)]) h := kq_reg
theorem b27_lrllrrllrrllrlrrrrrr  : kCode env 27 false inv k (cp c27 2085682) (act 54 [(1, x1), (6, x6), (7, x7), (8, x8), (9, x9), (11, x11), (29, x29), (30, x30), (31, x31), (35, x35), (36, x36), (37, x37)]) h K = brV x37 (kCode env 27 false inv k (cp c27 4171364) (act 54 [(1, x1), (6, x6), (7, x7), (8, x8), (9, x9), (11, x11), (29, x29), (30, x30), (31, x31), (35, x35), (36, x36), (37, x37)]) h K) (kCode env 27 false inv k (cp c27 4171365) (act 54 [(1, x1), (6, x6), (7, x7), (8, x8), (9, x9), (11, x11), (29, x29), (30, x30), (31, x31), (35, x35), (36, x36), (37, x37)]) h K) := kq_cond
theorem r27_14  : kCode env 27 false inv k (cp c27 16685464) (act 54 [(1, x1), (6, x6), (7, x7), (8, x8), (9, x9), (11, x11), (29, x29), (30, x30), (31, x31), (35, x35), (36, x36), (37, x37)]) h K =
    bnd (pBin Try.prog .and 49 (.tmp 39) (.const (.int .u64 1)) x11 (.int .u64 1)) fun x40 =>
    bnd (pConv Try.prog 49 5 x40 h) fun x41 =>
    bnd (callV inv x9 #[x41] h) fun x42 =>
    K .normal (act 54 [(1, x1), (6, x6), (7, x7), (8, x8), (9, x9), (11, x11), (29, x29), (30, x30), (31, x31), (35, x35), (36, x36)]) x42.2 := kq_reg
theorem r27_15  : kCode env 27 false inv k (cp c27 16685465) (act 54 [(1, x1), (6, x6), (7, x7), (8, x8), (9, x9), (11, x11), (29, x29), (30, x30), (31, x31), (35, x35), (36, x36)]) h K =
    bnd (pBin Try.prog .shr 49 (.tmp 43) (.const (.int .u64 1)) x11 (.int .u64 1)) fun x44 =>
    K .normal (act 54 [(1, x1), (6, x6), (7, x7), (8, x8), (9, x9), (11, x44), (29, x29), (30, x30), (31, x31), (35, x35), (36, x36)]) h := kq_reg
theorem r27_16  : kCode env 27 false inv k (cp c27 4171367) (act 54 [(1, x1), (6, x6), (7, x7), (8, x8), (9, x9), (11, x11), (29, x29), (30, x30), (31, x31), (35, x35), (36, x36)]) h K =
    bnd (pBin Try.prog .add 3 (.tmp 36) (.const (.int .i64 1)) x36 (.int .i64 1)) fun x45 =>
    K .normal (act 54 [(1, x1), (6, x6), (7, x7), (8, x8), (9, x9), (11, x11), (29, x29), (30, x30), (31, x31), (35, x35), (36, x45)]) h := kq_reg
noncomputable def F27_lrrllrrllrlrrrrrr {β : Type} (inv : Inv) (k : Nat) : Nat → Value → Value → Value → Value → Value → Value → Value → Value → Value → Value → Value → AH → (Value → Value → Value → Value → Value → Value → Value → Value → Value → Value → Value → Value → AH → Option β) → Option β
  | 0, _, _, _, _, _, _, _, _, _, _, _, _, _ => none
  | j + 1, x1, x6, x7, x8, x9, x11, x29, x30, x31, x35, x36, h, ke3 =>
    bnd (pBin Try.prog .lss 3 (.tmp 36) (.tmp 35) x36 x35) fun x37 =>
    brV x37
    (bnd (pBin Try.prog .and 49 (.tmp 39) (.const (.int .u64 1)) x11 (.int .u64 1)) fun x40 =>
    bnd (pConv Try.prog 49 5 x40 h) fun x41 =>
    bnd (callV inv x9 #[x41] h) fun x42 =>
    bnd (pBin Try.prog .shr 49 (.tmp 43) (.const (.int .u64 1)) x11 (.int .u64 1)) fun x44 =>
    bnd (pBin Try.prog .add 3 (.tmp 36) (.const (.int .i64 1)) x36 (.int .i64 1)) fun x45 =>
    F27_lrrllrrllrlrrrrrr inv k j x1 x6 x7 x8 x9 x44 x29 x30 x31 x35 x45 x42.2 ke3)
    (ke3 x1 x6 x7 x8 x9 x11 x29 x30 x31 x35 x36 x37 h)
theorem F27_lrrllrrllrlrrrrrr_j (j : Nat) : kLoop (kCode env 27 false inv k (cp c27 521420)) j (act 54 [(1, x1), (6, x6), (7, x7), (8, x8), (9, x9), (11, x11), (29, x29), (30, x30), (31, x31), (35, x35), (36, x36)]) h K = F27_lrrllrrllrlrrrrrr inv k j x1 x6 x7 x8 x9 x11 x29 x30 x31 x35 x36 h (fun y1 y6 y7 y8 y9 y11 y29 y30 y31 y35 y36 y37 h => K (.exit 3) (act 54 [(1, y1), (6, y6), (7, y7), (8, y8), (9, y9), (11, y11), (29, y29), (30, y30), (31, y31), (35, y35), (36, y36), (37, y37)]) h) := by
      induction j generalizing x1 x6 x7 x8 x9 x11 x29 x30 x31 x35 x36 h with
      | zero => rfl
      | succ j ih =>
        unfold F27_lrrllrrllrlrrrrrr
        simp only [kLoop, kq_seq c27 521420, r27_13, kq_seq c27 1042841, b27_lrllrrllrrllrlrrrrrr, kq_skip c27 4171364, kq_seq c27 2085683, kq_block c27 4171366 4, kq_seq c27 8342732, r27_14, r27_15, r27_16, kq_exit c27 4171365 3, ih, reduceIte, reduceCtorEq, XE.exit.injEq, Nat.reduceEqDiff, Nat.reduceMul, Nat.reduceAdd] <;> kernel_rfl
theorem F27_lrrllrrllrlrrrrrr_eq  : kCode env 27 false inv k (cp c27 260710) (act 54 [(1, x1), (6, x6), (7, x7), (8, x8), (9, x9), (11, x11), (29, x29), (30, x30), (31, x31), (35, x35), (36, x36)]) h K = F27_lrrllrrllrlrrrrrr inv k k x1 x6 x7 x8 x9 x11 x29 x30 x31 x35 x36 h (fun y1 y6 y7 y8 y9 y11 y29 y30 y31 y35 y36 y37 h => K (.exit 3) (act 54 [(1, y1), (6, y6), (7, y7), (8, y8), (9, y9), (11, y11), (29, y29), (30, y30), (31, y31), (35, y35), (36, y36), (37, y37)]) h) := kq_loop (F27_lrrllrrllrlrrrrrr_j k)
theorem r27_17  : kCode env 27 false inv k (cp c27 16295) (act 54 [(1, x1), (6, x6), (7, x7), (8, x8), (9, x9), (11, x11), (29, x29), (30, x30), (31, x31), (35, x35), (36, x36), (37, x37)]) h K =
    bnd (pBin Try.prog .add 3 (.tmp 31) (.const (.int .i64 1)) x31 (.int .i64 1)) fun x46 =>
    K .normal (act 54 [(1, x1), (6, x6), (7, x7), (8, x8), (9, x9), (29, x29), (30, x30), (31, x46)]) h := kq_reg
noncomputable def F27_lrlrrrrrr {β : Type} (inv : Inv) (k : Nat) : Nat → Value → Value → Value → Value → Value → Value → Value → Value → AH → (Value → Value → Value → Value → Value → Value → Value → Value → Value → AH → Option β) → Option β
  | 0, _, _, _, _, _, _, _, _, _, _ => none
  | j + 1, x1, x6, x7, x8, x9, x29, x30, x31, h, ke1 =>
    bnd (pBin Try.prog .lss 3 (.tmp 31) (.tmp 30) x31 x30) fun x32 =>
    brV x32
    (bnd (pIndexAddr Try.prog 52 x29 x31) fun x33 =>
    bnd (pLoad Try.prog 49 x33 h) fun x34 =>
    F27_lrrllrrllrlrrrrrr inv k k x1 x6 x7 x8 x9 x34 x29 x30 x31 x1 (.int .i64 0) h
    (fun y1 y6 y7 y8 y9 y11 y29 y30 y31 y35 y36 y37 h =>
    bnd (pBin Try.prog .add 3 (.tmp 31) (.const (.int .i64 1)) y31 (.int .i64 1)) fun x46 =>
    F27_lrlrrrrrr inv k j y1 y6 y7 y8 y9 y29 y30 x46 h ke1))
    (ke1 x1 x6 x7 x8 x9 x29 x30 x31 x32 h)
theorem F27_lrlrrrrrr_j (j : Nat) : kLoop (kCode env 27 false inv k (cp c27 2036)) j (act 54 [(1, x1), (6, x6), (7, x7), (8, x8), (9, x9), (29, x29), (30, x30), (31, x31)]) h K = F27_lrlrrrrrr inv k j x1 x6 x7 x8 x9 x29 x30 x31 h (fun y1 y6 y7 y8 y9 y29 y30 y31 y32 h => K (.exit 1) (act 54 [(1, y1), (6, y6), (7, y7), (8, y8), (9, y9), (29, y29), (30, y30), (31, y31), (32, y32)]) h) := by
      induction j generalizing x1 x6 x7 x8 x9 x29 x30 x31 h with
      | zero => rfl
      | succ j ih =>
        unfold F27_lrlrrrrrr
        simp only [kLoop, kq_seq c27 2036, r27_10, kq_seq c27 4073, b27_lrllrlrrrrrr, kq_skip c27 16292, kq_seq c27 8147, kq_block c27 16294 2, kq_seq c27 32588, r27_11, kq_seq c27 65177, r27_12, kq_block c27 130355 3, F27_lrrllrrllrlrrrrrr_eq, r27_17, kq_exit c27 16293 1, ih, reduceIte, reduceCtorEq, XE.exit.injEq, Nat.reduceEqDiff, Nat.reduceMul, Nat.reduceAdd] <;> kernel_rfl
theorem F27_lrlrrrrrr_eq  : kCode env 27 false inv k (cp c27 1018) (act 54 [(1, x1), (6, x6), (7, x7), (8, x8), (9, x9), (29, x29), (30, x30), (31, x31)]) h K = F27_lrlrrrrrr inv k k x1 x6 x7 x8 x9 x29 x30 x31 h (fun y1 y6 y7 y8 y9 y29 y30 y31 y32 h => K (.exit 1) (act 54 [(1, y1), (6, y6), (7, y7), (8, y8), (9, y9), (29, y29), (30, y30), (31, y31), (32, y32)]) h) := kq_loop (F27_lrlrrrrrr_j k)
theorem r27_18  : kCode env 27 false inv k (cp c27 1020) (act 54 [(1, x1), (6, x6), (7, x7), (8, x8), (9, x9), (29, x29), (30, x30), (31, x31), (32, x32)]) h K =
    bnd (pLoad Try.prog 3 x8 h) fun x47 =>
    bnd (pBin Try.prog .gtr 3 (.tmp 47) (.const (.int .i64 0)) x47 (.int .i64 0)) fun x48 =>
    K .normal (act 54 [(6, x6), (7, x7), (48, x48)]) h := kq_reg
theorem b27_rlrrrrrrr  : kCode env 27 false inv k (cp c27 1021) (act 54 [(6, x6), (7, x7), (48, x48)]) h K = brV x48 (kCode env 27 false inv k (cp c27 2042) (act 54 [(6, x6), (7, x7), (48, x48)]) h K) (kCode env 27 false inv k (cp c27 2043) (act 54 [(6, x6), (7, x7), (48, x48)]) h K) := kq_cond
theorem r27_19  : kCode env 27 false inv k (cp c27 2042) (act 54 [(6, x6), (7, x7), (48, x48)]) h K =
    bnd (pLoad Try.prog 32 x6 h) fun x49 =>
    bnd (pLoad Try.prog 5 x7 h) fun x50 =>
    bnd (pBuildSlice Try.prog 32 1 #[(0, x50)] h) fun x51 =>
    bnd (pAppend Try.prog #[32, 32] x49 x51.1 x51.2) fun x52 =>
    bnd (kSt (pStore Try.prog 32 x6 x52.1 x52.2)) fun u =>
    K .normal (act 54 [(6, x6)]) u.2 := kq_reg
noncomputable def F27_rlrrrrrrr {β : Type} (inv : Inv) (k : Nat) (x6 x7 x48 : Value) (h : AH) (kn : (Value → Value → Value → AH → Option β)) : Option β :=
    brV x48
    (bnd (pLoad Try.prog 32 x6 h) fun x49 =>
    bnd (pLoad Try.prog 5 x7 h) fun x50 =>
    bnd (pBuildSlice Try.prog 32 1 #[(0, x50)] h) fun x51 =>
    bnd (pAppend Try.prog #[32, 32] x49 x51.1 x51.2) fun x52 =>
    bnd (kSt (pStore Try.prog 32 x6 x52.1 x52.2)) fun u =>
    kn x6 unk unk u.2)
    (kn x6 x7 x48 h)
theorem F27_rlrrrrrrr_eq  : kCode env 27 false inv k (cp c27 1021) (act 54 [(6, x6), (7, x7), (48, x48)]) h K = F27_rlrrrrrrr inv k x6 x7 x48 h (fun y6 y7 y48 h => K .normal (act 54 [(6, y6), (7, y7), (48, y48)]) h) := by
      unfold F27_rlrrrrrrr
      simp only [b27_rlrrrrrrr, r27_19, kq_skip c27 2043, reduceIte, reduceCtorEq, XE.exit.injEq, Nat.reduceEqDiff, Nat.reduceMul, Nat.reduceAdd] <;> kernel_rfl
theorem r27_20  : kCode env 27 false inv k (cp c27 1022) (act 54 [(6, x6), (7, x7), (48, x48)]) h K =
    bnd (pLoad Try.prog 32 x6 h) fun x53 =>
    K .normal (act 54 [(4, x53), (5, (.int .i64 0))]) h := kq_reg
/-- shadowbook/packs.Put -/
noncomputable def F27 (inv : Inv) (k : Nat) (x0 x1 : Value) (h : AH) : Option (Value × AH) :=
    bnd (pLen Try.prog #[52] x0 h) fun x14 =>
    bnd (inv (.func 49) #[] #[x14, x1] h) fun x16 =>
    bnd (pUn Try.prog .not x16.1) fun x17 =>
    brV x17
    (some (.tuple #[(.slice none 0 0), (.int .i64 2)], x16.2))
    (bnd (inv (.func 50) #[] #[x0] x16.2) fun x20 =>
    bnd (pBin Try.prog .gtr 3 (.tmp 20) (.tmp 21) x20.1 x1) fun x22 =>
    brV x22
    (some (.tuple #[(.slice none 0 0), (.int .i64 3)], x20.2))
    (bnd (pLen Try.prog #[52] x0 x20.2) fun x24 =>
    bnd (inv (.func 34) #[] #[x24, x1] x20.2) fun x26 =>
    bnd (pMakeSlice Try.prog 32 (.int .i64 0) x26.1 x26.2) fun x27 =>
    bnd (pAlloc Try.prog 32 x27.2) fun x6 =>
    bnd (kSt (pStore Try.prog 32 x6.1 x27.1 x6.2)) fun u =>
    bnd (pAlloc Try.prog 5 u.2) fun x7 =>
    bnd (pAlloc Try.prog 3 x7.2) fun x8 =>
    bnd (kSt (pStore Try.prog 3 x8.1 (.int .i64 0) x8.2)) fun u_1 =>
    bnd (pMakeFunc (.func 51) #[] #[x7.1, x8.1, x6.1]) fun x28 =>
    bnd (pLen Try.prog #[52] x0 u_1.2) fun x30 =>
    F27_lrlrrrrrr inv k k x1 x6.1 x7.1 x8.1 x28 x0 x30 (.int .i64 0) u_1.2
    (fun y1 y6 y7 y8 y9 y29 y30 y31 y32 h =>
    bnd (pLoad Try.prog 3 y8 h) fun x47 =>
    bnd (pBin Try.prog .gtr 3 (.tmp 47) (.const (.int .i64 0)) x47 (.int .i64 0)) fun x48 =>
    F27_rlrrrrrrr inv k y6 y7 x48 h
    (fun y6_2 y7_3 y48 h_4 =>
    bnd (pLoad Try.prog 32 y6_2 h_4) fun x53 =>
    some (.tuple #[x53, (.int .i64 0)], h_4)))))
theorem F27_eq : eFun env k inv 27 #[x0, x1] h = F27 inv k x0 x1 h := by
      refine (kq_fun (a := act 54 [(0, x0), (1, x1)]) (c := cp c27 1)).trans ?_
      unfold F27
      simp only [kq_seq c27 1, r27_0, kq_seq c27 3, kq_block c27 6 0, kq_seq c27 12, r27_1, b27_rllr, kq_seq c27 50, r27_2, kq_ret c27 101, res27_0, kq_seq c27 51, r27_3, b27_rrrllr, kq_seq c27 206, r27_4, kq_ret c27 413, kq_skip c27 207, kq_seq c27 7, r27_5, kq_seq c27 15, r27_6, kq_seq c27 31, r27_7, kq_seq c27 63, r27_8, kq_seq c27 127, kq_seq c27 254, r27_9, kq_block c27 509 1, F27_lrlrrrrrr_eq, kq_seq c27 255, kq_seq c27 510, r27_18, F27_rlrrrrrrr_eq, kq_seq c27 511, r27_20, kq_ret c27 1023, reduceIte, reduceCtorEq, XE.exit.injEq, Nat.reduceEqDiff, Nat.reduceMul, Nat.reduceAdd] <;> kernel_rfl
theorem F27_call : eInv env (k + 1) (.func 27) #[] #[x0, x1] h = F27 (eInv env k) k x0 x1 h := kq_inv F27_eq
noncomputable def c28 : Code := codeOf Try.prog 28
theorem r28_0  : kCode env 28 false inv k (cp c28 2) (act 22 [(0, x0)]) h K =
    K .normal (act 22 [(0, x0)]) h := kq_reg
theorem r28_1  : kCode env 28 false inv k (cp c28 6) (act 22 [(0, x0)]) h K =
    bnd (pLen Try.prog #[43] x0 h) fun x7 =>
    bnd (pMakeSlice Try.prog 52 x7 x7 h) fun x8 =>
    K .normal (act 22 [(0, x0), (3, x8.1)]) x8.2 := kq_reg
theorem r28_2  : kCode env 28 false inv k (cp c28 28) (act 22 [(0, x0), (3, x3)]) h K =
    bnd (pLen Try.prog #[43] x0 h) fun x10 =>
    K .normal (act 22 [(3, x3), (9, x0), (10, x10), (11, (.int .i64 0))]) h := kq_reg
theorem r28_3  : kCode env 28 false inv k (cp c28 232) (act 22 [(3, x3), (9, x9), (10, x10), (11, x11)]) h K =
    bnd (pBin Try.prog .lss 3 (.tmp 11) (.tmp 10) x11 x10) fun x12 =>
    K .normal (act 22 [(3, x3), (9, x9), (10, x10), (11, x11), (12, x12)]) h := kq_reg
theorem b28_lrllrlrr  : kCode env 28 false inv k (cp c28 466) (act 22 [(3, x3), (9, x9), (10, x10), (11, x11), (12, x12)]) h K = brV x12 (kCode env 28 false inv k (cp c28 932) (act 22 [(3, x3), (9, x9), (10, x10), (11, x11), (12, x12)]) h K) (kCode env 28 false inv k (cp c28 933) (act 22 [(3, x3), (9, x9), (10, x10), (11, x11), (12, x12)]) h K) := kq_cond
theorem r28_4  : kCode env 28 false inv k (cp c28 3736) (act 22 [(3, x3), (9, x9), (10, x10), (11, x11), (12, x12)]) h K =
    bnd (pIndexAddr Try.prog 43 x9 x11) fun x14 =>
    bnd (pLoad Try.prog 4 x14 h) fun x15 =>
    K .normal (act 22 [(3, x3), (4, x11), (5, x15), (9, x9), (10, x10), (11, x11)]) h := kq_reg
theorem r28_5  : kCode env 28 false inv k (cp c28 7474) (act 22 [(3, x3), (4, x4), (5, x5), (9, x9), (10, x10), (11, x11)]) h K =
    K .normal (act 22 [(3, x3), (4, x4), (9, x9), (10, x10), (11, x11), (16, x5)]) h := kq_reg
theorem b28_rrllrrllrlrr  : kCode env 28 false inv k (cp c28 7475) (act 22 [(3, x3), (4, x4), (9, x9), (10, x10), (11, x11), (16, x16)]) h K = brV x16 (kCode env 28 false inv k (cp c28 14950) (act 22 [(3, x3), (4, x4), (9, x9), (10, x10), (11, x11), (16, x16)]) h K) (kCode env 28 false inv k (cp c28 14951) (act 22 [(3, x3), (4, x4), (9, x9), (10, x10), (11, x11), (16, x16)]) h K) := kq_cond
theorem r28_6  : kCode env 28 false inv k (cp c28 14950) (act 22 [(3, x3), (4, x4), (9, x9), (10, x10), (11, x11), (16, x16)]) h K =
    bnd (pIndexAddr Try.prog 52 x3 x4) fun x19 =>
    bnd (kSt (pStore Try.prog 49 x19 (.int .u64 1) h)) fun u =>
    K .normal (act 22 [(3, x3), (9, x9), (10, x10), (11, x11)]) u.2 := kq_reg
noncomputable def F28_lrrllrlrr {β : Type} (inv : Inv) (k : Nat) (x3 x9 x10 x11 x12 : Value) (h : AH) (kn : (Value → Value → Value → Value → Value → Value → AH → Option β)) : Option β :=
    bnd (pIndexAddr Try.prog 43 x9 x11) fun x14 =>
    bnd (pLoad Try.prog 4 x14 h) fun x15 =>
    brV x15
    (bnd (pIndexAddr Try.prog 52 x3 x11) fun x19 =>
    bnd (kSt (pStore Try.prog 49 x19 (.int .u64 1) h)) fun u =>
    kn x3 unk x9 x10 x11 unk u.2)
    (kn x3 x11 x9 x10 x11 x15 h)
theorem F28_lrrllrlrr_eq  : kCode env 28 false inv k (cp c28 934) (act 22 [(3, x3), (9, x9), (10, x10), (11, x11), (12, x12)]) h K = F28_lrrllrlrr inv k x3 x9 x10 x11 x12 h (fun y3 y4 y9 y10 y11 y16 h => K .normal (act 22 [(3, y3), (4, y4), (9, y9), (10, y10), (11, y11), (16, y16)]) h) := by
      unfold F28_lrrllrlrr
      simp only [kq_block c28 934 1, kq_seq c28 1868, r28_4, kq_seq c28 3737, r28_5, b28_rrllrrllrlrr, r28_6, kq_skip c28 14951, reduceIte, reduceCtorEq, XE.exit.injEq, Nat.reduceEqDiff, Nat.reduceMul, Nat.reduceAdd] <;> kernel_rfl
theorem r28_7  : kCode env 28 false inv k (cp c28 935) (act 22 [(3, x3), (4, x4), (9, x9), (10, x10), (11, x11), (16, x16)]) h K =
    bnd (pBin Try.prog .add 3 (.tmp 11) (.const (.int .i64 1)) x11 (.int .i64 1)) fun x20 =>
    K .normal (act 22 [(3, x3), (9, x9), (10, x10), (11, x20)]) h := kq_reg
noncomputable def F28_lrlrr {β : Type} (inv : Inv) (k : Nat) : Nat → Value → Value → Value → Value → AH → (Value → Value → Value → Value → Value → AH → Option β) → Option β
  | 0, _, _, _, _, _, _ => none
  | j + 1, x3, x9, x10, x11, h, ke0 =>
    bnd (pBin Try.prog .lss 3 (.tmp 11) (.tmp 10) x11 x10) fun x12 =>
    brV x12
    (F28_lrrllrlrr inv k x3 x9 x10 x11 x12 h
    (fun y3 y4 y9 y10 y11 y16 h =>
    bnd (pBin Try.prog .add 3 (.tmp 11) (.const (.int .i64 1)) y11 (.int .i64 1)) fun x20 =>
    F28_lrlrr inv k j y3 y9 y10 x20 h ke0))
    (ke0 x3 x9 x10 x11 x12 h)
theorem F28_lrlrr_j (j : Nat) : kLoop (kCode env 28 false inv k (cp c28 116)) j (act 22 [(3, x3), (9, x9), (10, x10), (11, x11)]) h K = F28_lrlrr inv k j x3 x9 x10 x11 h (fun y3 y9 y10 y11 y12 h => K (.exit 0) (act 22 [(3, y3), (9, y9), (10, y10), (11, y11), (12, y12)]) h) := by
      induction j generalizing x3 x9 x10 x11 h with
      | zero => rfl
      | succ j ih =>
        unfold F28_lrlrr
        simp only [kLoop, kq_seq c28 116, r28_3, kq_seq c28 233, b28_lrllrlrr, kq_skip c28 932, kq_seq c28 467, F28_lrrllrlrr_eq, r28_7, kq_exit c28 933 0, ih, reduceIte, reduceCtorEq, XE.exit.injEq, Nat.reduceEqDiff, Nat.reduceMul, Nat.reduceAdd] <;> kernel_rfl
theorem F28_lrlrr_eq  : kCode env 28 false inv k (cp c28 58) (act 22 [(3, x3), (9, x9), (10, x10), (11, x11)]) h K = F28_lrlrr inv k k x3 x9 x10 x11 h (fun y3 y9 y10 y11 y12 h => K (.exit 0) (act 22 [(3, y3), (9, y9), (10, y10), (11, y11), (12, y12)]) h) := kq_loop (F28_lrlrr_j k)
theorem r28_8  : kCode env 28 false inv k (cp c28 30) (act 22 [(3, x3), (9, x9), (10, x10), (11, x11), (12, x12)]) h K =
    K .normal (act 22 [(2, x3)]) h := kq_reg
theorem res28_0 : resOfFn env.P 28 .ret (act 22 [(2, x2)]) h = some (x2, h) := kq_res
/-- (shadowbook/nulls.flags).numbers -/
noncomputable def F28 (inv : Inv) (k : Nat) (x0 : Value) (h : AH) : Option (Value × AH) :=
    bnd (pLen Try.prog #[43] x0 h) fun x7 =>
    bnd (pMakeSlice Try.prog 52 x7 x7 h) fun x8 =>
    bnd (pLen Try.prog #[43] x0 x8.2) fun x10 =>
    F28_lrlrr inv k k x8.1 x0 x10 (.int .i64 0) x8.2
    (fun y3 y9 y10 y11 y12 h =>
    some (y3, h))
theorem F28_eq : eFun env k inv 28 #[x0] h = F28 inv k x0 h := by
      refine (kq_fun (a := act 22 [(0, x0)]) (c := cp c28 1)).trans ?_
      unfold F28
      simp only [kq_seq c28 1, r28_0, kq_seq c28 3, r28_1, kq_seq c28 7, kq_seq c28 14, r28_2, kq_block c28 29 0, F28_lrlrr_eq, kq_seq c28 15, r28_8, kq_ret c28 31, res28_0, reduceIte, reduceCtorEq, XE.exit.injEq, Nat.reduceEqDiff, Nat.reduceMul, Nat.reduceAdd] <;> kernel_rfl
theorem F28_call : eInv env (k + 1) (.func 28) #[] #[x0] h = F28 (eInv env k) k x0 h := kq_inv F28_eq
noncomputable def c29 : Code := codeOf Try.prog 29
theorem r29_0  : kCode env 29 false inv k (cp c29 2) (act 7 [(0, x0)]) h K =
    K .normal (act 7 [(0, x0)]) h := kq_reg
theorem r29_1  : kCode env 29 false inv k (cp c29 6) (act 7 [(0, x0)]) h K =
    bnd (inv (.func 52) #[] #[x0] h) fun x4 =>
    bnd (pBuild Try.prog 73 #[(0, x4.1)]) fun x5 =>
    bnd (pBox Try.prog 73 x5 x4.2) fun x6 =>
    K .normal (act 7 [(2, x6.1)]) x6.2 := kq_reg
theorem res29_0 : resOfFn env.P 29 .ret (act 7 [(2, x2)]) h = some (x2, h) := kq_res
/-- shadowbook/octet.New -/
noncomputable def F29 (inv : Inv) (k : Nat) (x0 : Value) (h : AH) : Option (Value × AH) :=
    bnd (inv (.func 52) #[] #[x0] h) fun x4 =>
    bnd (pBuild Try.prog 73 #[(0, x4.1)]) fun x5 =>
    bnd (pBox Try.prog 73 x5 x4.2) fun x6 =>
    some (x6.1, x6.2)
theorem F29_eq : eFun env k inv 29 #[x0] h = F29 inv k x0 h := by
      refine (kq_fun (a := act 7 [(0, x0)]) (c := cp c29 1)).trans ?_
      unfold F29
      simp only [kq_seq c29 1, r29_0, kq_seq c29 3, r29_1, kq_ret c29 7, res29_0, reduceIte, reduceCtorEq, XE.exit.injEq, Nat.reduceEqDiff, Nat.reduceMul, Nat.reduceAdd] <;> kernel_rfl
theorem F29_call : eInv env (k + 1) (.func 29) #[] #[x0] h = F29 (eInv env k) k x0 h := kq_inv F29_eq
noncomputable def c30 : Code := codeOf Try.prog 30
theorem r30_0  : kCode env 30 false inv k (cp c30 2) (act 58 [(0, x0)]) h K =
    K .normal (act 58 [(0, x0), (2, (.int .u64 0))]) h := kq_reg
theorem r30_1  : kCode env 30 false inv k (cp c30 12) (act 58 [(0, x0), (2, x2)]) h K =
    bnd (pBin Try.prog .eql 54 (.tmp 7) (.const (.pointer none)) x0 (.pointer none)) fun x8 =>
    K .normal (act 58 [(0, x0), (2, x2), (8, x8)]) h := kq_reg
theorem b30_rlr  : kCode env 30 false inv k (cp c30 13) (act 58 [(0, x0), (2, x2), (8, x8)]) h K = brV x8 (kCode env 30 false inv k (cp c30 26) (act 58 [(0, x0), (2, x2), (8, x8)]) h K) (kCode env 30 false inv k (cp c30 27) (act 58 [(0, x0), (2, x2), (8, x8)]) h K) := kq_cond
theorem r30_2  : kCode env 30 false inv k (cp c30 52) (act 58 [(0, x0), (2, x2), (8, x8)]) h K =
    K .normal (act 58 [(2, (.int .u64 0)), (3, (.int .i64 1))]) h := kq_reg
theorem res30_0 : resOfFn env.P 30 .ret (act 58 [(2, x2), (3, x3)]) h = some (.tuple #[x2, x3], h) := kq_res
theorem r30_3  : kCode env 30 false inv k (cp c30 28) (act 58 [(0, x0), (2, x2), (8, x8)]) h K =
    bnd (pNilCheck x0) fun x10 =>
    bnd (pFieldAddr Try.prog 73 x10 0) fun x11 =>
    bnd (pLoad Try.prog 32 x11 h) fun x12 =>
    bnd (pLen Try.prog #[32] x12 h) fun x13 =>
    K .normal (act 58 [(0, x0), (2, x2), (12, x12), (13, x13), (14, (.int .i64 0))]) h := kq_reg
theorem r30_4  : kCode env 30 false inv k (cp c30 232) (act 58 [(0, x0), (2, x2), (12, x12), (13, x13), (14, x14)]) h K =
    bnd (pBin Try.prog .lss 3 (.tmp 14) (.tmp 13) x14 x13) fun x15 =>
    K .normal (act 58 [(0, x0), (2, x2), (12, x12), (13, x13), (14, x14), (15, x15)]) h := kq_reg
theorem b30_lrllrlrr  : kCode env 30 false inv k (cp c30 466) (act 58 [(0, x0), (2, x2), (12, x12), (13, x13), (14, x14), (15, x15)]) h K = brV x15 (kCode env 30 false inv k (cp c30 932) (act 58 [(0, x0), (2, x2), (12, x12), (13, x13), (14, x14), (15, x15)]) h K) (kCode env 30 false inv k (cp c30 933) (act 58 [(0, x0), (2, x2), (12, x12), (13, x13), (14, x14), (15, x15)]) h K) := kq_cond
theorem r30_5  : kCode env 30 false inv k (cp c30 3736) (act 58 [(0, x0), (2, x2), (12, x12), (13, x13), (14, x14), (15, x15)]) h K =
    bnd (pIndexAddr Try.prog 32 x12 x14) fun x17 =>
    bnd (pLoad Try.prog 5 x17 h) fun x18 =>
    K .normal (act 58 [(0, x0), (2, x2), (4, x14), (5, x18), (12, x12), (13, x13), (14, x14)]) h := kq_reg
theorem r30_6  : kCode env 30 false inv k (cp c30 14948) (act 58 [(0, x0), (2, x2), (4, x4), (5, x5), (12, x12), (13, x13), (14, x14)]) h K =
    bnd (pBin Try.prog .eql 3 (.tmp 19) (.const (.int .i64 10)) x4 (.int .i64 10)) fun x20 =>
    K .normal (act 58 [(0, x0), (2, x2), (4, x4), (5, x5), (12, x12), (13, x13), (14, x14), (20, x20)]) h := kq_reg
theorem b30_rlrllrrllrlrr  : kCode env 30 false inv k (cp c30 14949) (act 58 [(0, x0), (2, x2), (4, x4), (5, x5), (12, x12), (13, x13), (14, x14), (20, x20)]) h K = brV x20 (kCode env 30 false inv k (cp c30 29898) (act 58 [(0, x0), (2, x2), (4, x4), (5, x5), (12, x12), (13, x13), (14, x14), (20, x20)]) h K) (kCode env 30 false inv k (cp c30 29899) (act 58 [(0, x0), (2, x2), (4, x4), (5, x5), (12, x12), (13, x13), (14, x14), (20, x20)]) h K) := kq_cond
theorem r30_7  : kCode env 30 false inv k (cp c30 14950) (act 58 [(0, x0), (2, x2), (4, x4), (5, x5), (12, x12), (13, x13), (14, x14), (20, x20)]) h K =
    bnd (pBin Try.prog .andNot 5 (.tmp 21) (.const (.int .u8 128)) x5 (.int .u8 128)) fun x22 =>
    bnd (pConv Try.prog 5 49 x22 h) fun x23 =>
    K .normal (act 58 [(0, x0), (2, x2), (4, x4), (5, x5), (6, x23), (12, x12), (13, x13), (14, x14)]) h := kq_reg
noncomputable abbrev G30_8 {β : Type} (inv : Inv) (x0 x2 x4 x5 x6 x12 x13 x14 : Value) (h : AH) (K : Value → AH → Option β) : Option β :=
    bnd (pBin Try.prog .eql 3 (.tmp 24) (.const (.int .i64 9)) x4 (.int .i64 9)) fun x25 =>
    bnd (gd (some x25) true h (some (x6, h))) fun x27 =>
    bnd (gd (some x25) true x27.2 (lt (pBin Try.prog .gtr 49 (.tmp 27) (.const (.int .u64 1)) x27.1 (.int .u64 1)) x27.2)) fun x28 =>
    bnd (pickV x25 x28.1 (.bool false)) fun x29 =>
    K (x29) x28.2
theorem r30_8  : kCode env 30 false inv k (cp c30 59804) (act 58 [(0, x0), (2, x2), (4, x4), (5, x5), (6, x6), (12, x12), (13, x13), (14, x14)]) h K =
    G30_8 inv x0 x2 x4 x5 x6 x12 x13 x14 h fun y29 h => K .normal (act 58 [(0, x0), (2, x2), (4, x4), (5, x5), (6, x6), (12, x12), (13, x13), (14, x14), (29, y29)]) h := kq_reg
theorem b30_rlrrrllrrllrlrr  : kCode env 30 false inv k (cp c30 59805) (act 58 [(0, x0), (2, x2), (4, x4), (5, x5), (6, x6), (12, x12), (13, x13), (14, x14), (29, x29)]) h K = brV x29 (kCode env 30 false inv k (cp c30 119610) (act 58 [(0, x0), (2, x2), (4, x4), (5, x5), (6, x6), (12, x12), (13, x13), (14, x14), (29, x29)]) h K) (kCode env 30 false inv k (cp c30 119611) (act 58 [(0, x0), (2, x2), (4, x4), (5, x5), (6, x6), (12, x12), (13, x13), (14, x14), (29, x29)]) h K) := kq_cond
theorem r30_9  : kCode env 30 false inv k (cp c30 59806) (act 58 [(0, x0), (2, x2), (4, x4), (5, x5), (6, x6), (12, x12), (13, x13), (14, x14), (29, x29)]) h K =
    bnd (pBin Try.prog .mul 3 (.const (.int .i64 7)) (.tmp 32) (.int .i64 7) x4) fun x33 =>
    bnd (pBin Try.prog .shl 49 (.tmp 31) (.tmp 33) x6 x33) fun x34 =>
    bnd (pBin Try.prog .or 49 (.tmp 30) (.tmp 34) x2 x34) fun x35 =>
    K .normal (act 58 [(0, x0), (2, x35), (4, x4), (5, x5), (6, x6), (12, x12), (13, x13), (14, x14)]) h := kq_reg
theorem r30_10  : kCode env 30 false inv k (cp c30 239228) (act 58 [(0, x0), (2, x2), (4, x4), (5, x5), (6, x6), (12, x12), (13, x13), (14, x14)]) h K =
    bnd (pBin Try.prog .geq 5 (.tmp 36) (.const (.int .u8 128)) x5 (.int .u8 128)) fun x37 =>
    K .normal (act 58 [(0, x0), (2, x2), (4, x4), (6, x6), (12, x12), (13, x13), (14, x14), (37, x37)]) h := kq_reg
theorem b30_rlrrrrrllrrllrlrr  : kCode env 30 false inv k (cp c30 239229) (act 58 [(0, x0), (2, x2), (4, x4), (6, x6), (12, x12), (13, x13), (14, x14), (37, x37)]) h K = brV x37 (kCode env 30 false inv k (cp c30 478458) (act 58 [(0, x0), (2, x2), (4, x4), (6, x6), (12, x12), (13, x13), (14, x14), (37, x37)]) h K) (kCode env 30 false inv k (cp c30 478459) (act 58 [(0, x0), (2, x2), (4, x4), (6, x6), (12, x12), (13, x13), (14, x14), (37, x37)]) h K) := kq_cond
theorem r30_14  : kCode env 30 false inv k (cp c30 935) (act 58 [(0, x0), (2, x2), (4, x4), (6, x6), (12, x12), (13, x13), (14, x14), (37, x37)]) h K =
    bnd (pBin Try.prog .add 3 (.tmp 14) (.const (.int .i64 1)) x14 (.int .i64 1)) fun x55 =>
    K .normal (act 58 [(0, x0), (2, x2), (12, x12), (13, x13), (14, x55)]) h := kq_reg
noncomputable abbrev G30_11 {β : Type} (inv : Inv) (x0 x2 x4 x6 : Value) (h : AH) (K : Value → AH → Option β) : Option β :=
    bnd (pBin Try.prog .eql 49 (.tmp 38) (.const (.int .u64 0)) x6 (.int .u64 0)) fun x39 =>
    bnd (gd (some x39) true h (some (x4, h))) fun x41 =>
    bnd (gd (some x39) true x41.2 (lt (pBin Try.prog .gtr 3 (.tmp 41) (.const (.int .i64 0)) x41.1 (.int .i64 0)) x41.2)) fun x42 =>
    bnd (pickV x39 x42.1 (.bool false)) fun x43 =>
    K (x43) x42.2
theorem r30_11  : kCode env 30 false inv k (cp c30 478460) (act 58 [(0, x0), (2, x2), (4, x4), (6, x6), (12, x12), (13, x13), (14, x14), (37, x37)]) h K =
    G30_11 inv x0 x2 x4 x6 h fun y43 h => K .normal (act 58 [(0, x0), (2, x2), (4, x4), (43, y43)]) h := kq_reg
theorem b30_rlrrrrrrllrrllrlrr  : kCode env 30 false inv k (cp c30 478461) (act 58 [(0, x0), (2, x2), (4, x4), (43, x43)]) h K = brV x43 (kCode env 30 false inv k (cp c30 956922) (act 58 [(0, x0), (2, x2), (4, x4), (43, x43)]) h K) (kCode env 30 false inv k (cp c30 956923) (act 58 [(0, x0), (2, x2), (4, x4), (43, x43)]) h K) := kq_cond
noncomputable abbrev G30_12 {β : Type} (inv : Inv) (x0 x2 x4 : Value) (h : AH) (K : AH → Option β) : Option β :=
    bnd (pNilCheck x0) fun x46 =>
    bnd (pFieldAddr Try.prog 73 x46 0) fun x47 =>
    bnd (pLoad Try.prog 32 x47 h) fun x48 =>
    bnd (pBin Try.prog .add 3 (.tmp 49) (.const (.int .i64 1)) x4 (.int .i64 1)) fun x50 =>
    bnd (pSlice Try.prog 32 x48 (some x50) none none h) fun x51 =>
    bnd (pNilCheck x0) fun x52 =>
    bnd (pFieldAddr Try.prog 73 x52 0) fun x53 =>
    bnd (kSt (pStore Try.prog 32 x53 x51 h)) fun u =>
    K u.2
theorem r30_12  : kCode env 30 false inv k (cp c30 478462) (act 58 [(0, x0), (2, x2), (4, x4), (43, x43)]) h K =
    G30_12 inv x0 x2 x4 h fun  h => K .normal (act 58 [(2, x2)]) h := kq_reg
theorem r30_13  : kCode env 30 false inv k (cp c30 956926) (act 58 [(2, x2)]) h K =
    K .normal (act 58 [(2, x2), (3, (.int .i64 0))]) h := kq_reg
noncomputable def F30_lrlrr {β : Type} (inv : Inv) (k : Nat) : Nat → Value → Value → Value → Value → Value → AH → (Value → Value → Value → Value → Value → Value → Value → Value → Value → Value → Value → Value → AH → Option β) → (Value → Value → AH → Option β) → Option β
  | 0, _, _, _, _, _, _, _, _ => none
  | j + 1, x0, x2, x12, x13, x14, h, ke0, kr =>
    bnd (pBin Try.prog .lss 3 (.tmp 14) (.tmp 13) x14 x13) fun x15 =>
    brV x15
    (bnd (pIndexAddr Try.prog 32 x12 x14) fun x17 =>
    bnd (pLoad Try.prog 5 x17 h) fun x18 =>
    bnd (pBin Try.prog .eql 3 (.tmp 19) (.const (.int .i64 10)) x14 (.int .i64 10)) fun x20 =>
    brV x20
    (ke0 x0 x2 x14 x18 unk x12 x13 x14 unk x20 unk unk h)
    (bnd (pBin Try.prog .andNot 5 (.tmp 21) (.const (.int .u8 128)) x18 (.int .u8 128)) fun x22 =>
    bnd (pConv Try.prog 5 49 x22 h) fun x23 =>
    G30_8 inv x0 x2 x14 x18 x23 x12 x13 x14 h fun y29 h =>
    brV y29
    (ke0 x0 x2 x14 x18 x23 x12 x13 x14 unk unk y29 unk h)
    (bnd (pBin Try.prog .mul 3 (.const (.int .i64 7)) (.tmp 32) (.int .i64 7) x14) fun x33 =>
    bnd (pBin Try.prog .shl 49 (.tmp 31) (.tmp 33) x23 x33) fun x34 =>
    bnd (pBin Try.prog .or 49 (.tmp 30) (.tmp 34) x2 x34) fun x35 =>
    bnd (pBin Try.prog .geq 5 (.tmp 36) (.const (.int .u8 128)) x18 (.int .u8 128)) fun x37 =>
    brV x37
    (bnd (pBin Try.prog .add 3 (.tmp 14) (.const (.int .i64 1)) x14 (.int .i64 1)) fun x55 =>
    F30_lrlrr inv k j x0 x35 x12 x13 x55 h ke0 kr)
    (G30_11 inv x0 x35 x14 x23 h fun y43 h_1 =>
    brV y43
    (ke0 x0 x35 x14 unk unk unk unk unk unk unk unk y43 h_1)
    (G30_12 inv x0 x35 x14 h_1 fun  h_2 =>
    kr x35 (.int .i64 0) h_2)))))
    (ke0 x0 x2 unk unk unk x12 x13 x14 x15 unk unk unk h)
theorem F30_lrlrr_j (j : Nat) : kLoop (kCode env 30 false inv k (cp c30 116)) j (act 58 [(0, x0), (2, x2), (12, x12), (13, x13), (14, x14)]) h K = F30_lrlrr inv k j x0 x2 x12 x13 x14 h (fun y0 y2 y4 y5 y6 y12 y13 y14 y15 y20 y29 y43 h => K (.exit 0) (act 58 [(0, y0), (2, y2), (4, y4), (5, y5), (6, y6), (12, y12), (13, y13), (14, y14), (15, y15), (20, y20), (29, y29), (43, y43)]) h) (fun y2 y3 h => K .ret (act 58 [(2, y2), (3, y3)]) h) := by
      induction j generalizing x0 x2 x12 x13 x14 h with
      | zero => rfl
      | succ j ih =>
        unfold F30_lrlrr
        simp only [kLoop, kq_seq c30 116, r30_4, kq_seq c30 233, b30_lrllrlrr, kq_skip c30 932, kq_seq c30 467, kq_block c30 934 1, kq_seq c30 1868, r30_5, kq_seq c30 3737, kq_seq c30 7474, r30_6, b30_rlrllrrllrlrr, kq_exit c30 29898 0, kq_skip c30 29899, kq_seq c30 7475, r30_7, kq_seq c30 14951, kq_seq c30 29902, r30_8, b30_rlrrrllrrllrlrr, kq_exit c30 119610 0, kq_skip c30 119611, kq_seq c30 29903, r30_9, kq_seq c30 59807, kq_seq c30 119614, r30_10, b30_rlrrrrrllrrllrlrr, kq_exit c30 478458 1, r30_14, kq_skip c30 478459, kq_seq c30 119615, kq_seq c30 239230, r30_11, b30_rlrrrrrrllrrllrlrr, kq_exit c30 956922 0, kq_skip c30 956923, kq_seq c30 239231, r30_12, kq_seq c30 478463, r30_13, kq_ret c30 956927, kq_exit c30 933 0, ih, reduceIte, reduceCtorEq, XE.exit.injEq, Nat.reduceEqDiff, Nat.reduceMul, Nat.reduceAdd] <;> kernel_rfl
theorem F30_lrlrr_eq  : kCode env 30 false inv k (cp c30 58) (act 58 [(0, x0), (2, x2), (12, x12), (13, x13), (14, x14)]) h K = F30_lrlrr inv k k x0 x2 x12 x13 x14 h (fun y0 y2 y4 y5 y6 y12 y13 y14 y15 y20 y29 y43 h => K (.exit 0) (act 58 [(0, y0), (2, y2), (4, y4), (5, y5), (6, y6), (12, y12), (13, y13), (14, y14), (15, y15), (20, y20), (29, y29), (43, y43)]) h) (fun y2 y3 h => K .ret (act 58 [(2, y2), (3, y3)]) h) := kq_loop (F30_lrlrr_j k)
noncomputable def F30_rlrr {β : Type} (inv : Inv) (k : Nat) (x0 x2 x12 x13 x14 : Value) (h : AH) (kn : (Value → Value → Value → Value → Value → Value → Value → Value → Value → Value → Value → Value → AH → Option β)) (kr : (Value → Value → AH → Option β)) : Option β :=
    F30_lrlrr inv k k x0 x2 x12 x13 x14 h
    (fun y0 y2 y4 y5 y6 y12 y13 y14 y15 y20 y29 y43 h =>
    kn y0 y2 y4 y5 y6 y12 y13 y14 y15 y20 y29 y43 h)
    (fun y2_3 y3 h_4 =>
    kr y2_3 y3 h_4)
theorem F30_rlrr_eq  : kCode env 30 false inv k (cp c30 29) (act 58 [(0, x0), (2, x2), (12, x12), (13, x13), (14, x14)]) h K = F30_rlrr inv k x0 x2 x12 x13 x14 h (fun y0 y2 y4 y5 y6 y12 y13 y14 y15 y20 y29 y43 h => K .normal (act 58 [(0, y0), (2, y2), (4, y4), (5, y5), (6, y6), (12, y12), (13, y13), (14, y14), (15, y15), (20, y20), (29, y29), (43, y43)]) h) (fun y2 y3 h => K .ret (act 58 [(2, y2), (3, y3)]) h) := by
      unfold F30_rlrr
      simp only [kq_block c30 29 0, F30_lrlrr_eq, reduceIte, reduceCtorEq, XE.exit.injEq, Nat.reduceEqDiff, Nat.reduceMul, Nat.reduceAdd] <;> kernel_rfl
theorem r30_15  : kCode env 30 false inv k (cp c30 60) (act 58 [(0, x0), (2, x2), (4, x4), (5, x5), (6, x6), (12, x12), (13, x13), (14, x14), (15, x15), (20, x20), (29, x29), (43, x43)]) h K =
    bnd (inv (.func 53) #[] #[x0] h) fun x57 =>
    K .normal (act 58 [(57, x57.1)]) x57.2 := kq_reg
theorem b30_rlrrr  : kCode env 30 false inv k (cp c30 61) (act 58 [(57, x57)]) h K = brV x57 (kCode env 30 false inv k (cp c30 122) (act 58 [(57, x57)]) h K) (kCode env 30 false inv k (cp c30 123) (act 58 [(57, x57)]) h K) := kq_cond
theorem r30_16  : kCode env 30 false inv k (cp c30 244) (act 58 [(57, x57)]) h K =
    K .normal (act 58 [(2, (.int .u64 0)), (3, (.int .i64 7))]) h := kq_reg
theorem r30_17  : kCode env 30 false inv k (cp c30 62) (act 58 [(57, x57)]) h K =
    K .normal (act 58 [(2, (.int .u64 0)), (3, (.int .i64 4))]) h := kq_reg
/-- (*shadowbook/octet.Reader).Var -/
noncomputable def F30 (inv : Inv) (k : Nat) (x0 : Value) (h : AH) : Option (Value × AH) :=
    bnd (pBin Try.prog .eql 54 (.tmp 7) (.const (.pointer none)) x0 (.pointer none)) fun x8 =>
    brV x8
    (some (.tuple #[(.int .u64 0), (.int .i64 1)], h))
    (bnd (pNilCheck x0) fun x10 =>
    bnd (pFieldAddr Try.prog 73 x10 0) fun x11 =>
    bnd (pLoad Try.prog 32 x11 h) fun x12 =>
    bnd (pLen Try.prog #[32] x12 h) fun x13 =>
    F30_rlrr inv k x0 (.int .u64 0) x12 x13 (.int .i64 0) h
    (fun y0 y2 y4 y5 y6 y12 y13 y14 y15 y20 y29 y43 h =>
    bnd (inv (.func 53) #[] #[y0] h) fun x57 =>
    brV x57.1
    (some (.tuple #[(.int .u64 0), (.int .i64 7)], x57.2))
    (some (.tuple #[(.int .u64 0), (.int .i64 4)], x57.2)))
    (fun y2_5 y3 h_6 =>
    some (.tuple #[y2_5, y3], h_6)))
theorem F30_eq : eFun env k inv 30 #[x0] h = F30 inv k x0 h := by
      refine (kq_fun (a := act 58 [(0, x0)]) (c := cp c30 1)).trans ?_
      unfold F30
      simp only [kq_seq c30 1, r30_0, kq_seq c30 3, kq_seq c30 6, r30_1, b30_rlr, kq_seq c30 26, r30_2, kq_ret c30 53, res30_0, kq_skip c30 27, kq_seq c30 7, kq_seq c30 14, r30_3, F30_rlrr_eq, kq_seq c30 15, kq_seq c30 30, r30_15, b30_rlrrr, kq_seq c30 122, r30_16, kq_ret c30 245, kq_skip c30 123, kq_seq c30 31, r30_17, kq_ret c30 63, reduceIte, reduceCtorEq, XE.exit.injEq, Nat.reduceEqDiff, Nat.reduceMul, Nat.reduceAdd] <;> kernel_rfl
theorem F30_call : eInv env (k + 1) (.func 30) #[] #[x0] h = F30 (eInv env k) k x0 h := kq_inv F30_eq
noncomputable def c31 : Code := codeOf Try.prog 31
theorem r31_0  : kCode env 31 false inv k (cp c31 2) (act 27 [(0, x0), (1, x1)]) h K =
    K .normal (act 27 [(0, x0), (1, x1)]) h := kq_reg
theorem r31_1  : kCode env 31 false inv k (cp c31 24) (act 27 [(0, x0), (1, x1)]) h K =
    bnd (pBin Try.prog .eql 54 (.tmp 9) (.const (.pointer none)) x0 (.pointer none)) fun x10 =>
    K .normal (act 27 [(0, x0), (1, x1), (8, x10)]) h := kq_reg
theorem b31_rllr  : kCode env 31 false inv k (cp c31 25) (act 27 [(0, x0), (1, x1), (8, x8)]) h K = brV x8 (kCode env 31 false inv k (cp c31 50) (act 27 [(0, x0), (1, x1), (8, x8)]) h K) (kCode env 31 false inv k (cp c31 51) (act 27 [(0, x0), (1, x1), (8, x8)]) h K) := kq_cond
theorem r31_2  : kCode env 31 false inv k (cp c31 100) (act 27 [(0, x0), (1, x1), (8, x8)]) h K =
    K .normal (act 27 [(4, (.int .u64 0)), (5, (.int .i64 1))]) h := kq_reg
theorem res31_0 : resOfFn env.P 31 .ret (act 27 [(4, x4), (5, x5)]) h = some (.tuple #[x4, x5], h) := kq_res
noncomputable abbrev G31_3 {β : Type} (inv : Inv) (x0 x1 : Value) (h : AH) (K : Value → AH → Option β) : Option β :=
    bnd (pBin Try.prog .lss 3 (.tmp 12) (.const (.int .i64 1)) x1 (.int .i64 1)) fun x13 =>
    bnd (gd (some x13) false h (some (x1, h))) fun x15 =>
    bnd (gd (some x13) false x15.2 (lt (pBin Try.prog .gtr 3 (.tmp 15) (.const (.int .i64 8)) x15.1 (.int .i64 8)) x15.2)) fun x16 =>
    bnd (pickV x13 (.bool true) x16.1) fun x17 =>
    K (x17) x16.2
theorem r31_3  : kCode env 31 false inv k (cp c31 102) (act 27 [(0, x0), (1, x1), (8, x8)]) h K =
    G31_3 inv x0 x1 h fun y11 h => K .normal (act 27 [(0, x0), (1, x1), (11, y11)]) h := kq_reg
theorem b31_rrrllr  : kCode env 31 false inv k (cp c31 103) (act 27 [(0, x0), (1, x1), (11, x11)]) h K = brV x11 (kCode env 31 false inv k (cp c31 206) (act 27 [(0, x0), (1, x1), (11, x11)]) h K) (kCode env 31 false inv k (cp c31 207) (act 27 [(0, x0), (1, x1), (11, x11)]) h K) := kq_cond
theorem r31_4  : kCode env 31 false inv k (cp c31 412) (act 27 [(0, x0), (1, x1), (11, x11)]) h K =
    K .normal (act 27 [(4, (.int .u64 0)), (5, (.int .i64 2))]) h := kq_reg
theorem r31_5  : kCode env 31 false inv k (cp c31 14) (act 27 [(0, x0), (1, x1), (11, x11)]) h K =
    bnd (inv (.func 54) #[] #[x0, x1] h) fun x21 =>
    bnd (pExtract x21.1 0) fun x22 =>
    bnd (pExtract x21.1 1) fun x23 =>
    K .normal (act 27 [(6, x22), (7, x23)]) x21.2 := kq_reg
theorem r31_6  : kCode env 31 false inv k (cp c31 30) (act 27 [(6, x6), (7, x7)]) h K =
    bnd (inv (.func 55) #[] #[x6] h) fun x25 =>
    K .normal (act 27 [(4, x25.1), (5, x7)]) x25.2 := kq_reg
/-- (*shadowbook/octet.Reader).Number -/
noncomputable def F31 (inv : Inv) (k : Nat) (x0 x1 : Value) (h : AH) : Option (Value × AH) :=
    bnd (pBin Try.prog .eql 54 (.tmp 9) (.const (.pointer none)) x0 (.pointer none)) fun x10 =>
    brV x10
    (some (.tuple #[(.int .u64 0), (.int .i64 1)], h))
    (G31_3 inv x0 x1 h fun y11 h =>
    brV y11
    (some (.tuple #[(.int .u64 0), (.int .i64 2)], h))
    (bnd (inv (.func 54) #[] #[x0, x1] h) fun x21 =>
    bnd (pExtract x21.1 0) fun x22 =>
    bnd (pExtract x21.1 1) fun x23 =>
    bnd (inv (.func 55) #[] #[x22] x21.2) fun x25 =>
    some (.tuple #[x25.1, x23], x25.2)))
theorem F31_eq : eFun env k inv 31 #[x0, x1] h = F31 inv k x0 x1 h := by
      refine (kq_fun (a := act 27 [(0, x0), (1, x1)]) (c := cp c31 1)).trans ?_
      unfold F31
      simp only [kq_seq c31 1, r31_0, kq_seq c31 3, kq_block c31 6 0, kq_seq c31 12, r31_1, b31_rllr, kq_seq c31 50, r31_2, kq_ret c31 101, res31_0, kq_seq c31 51, r31_3, b31_rrrllr, kq_seq c31 206, r31_4, kq_ret c31 413, kq_skip c31 207, kq_seq c31 7, r31_5, kq_seq c31 15, r31_6, kq_ret c31 31, reduceIte, reduceCtorEq, XE.exit.injEq, Nat.reduceEqDiff, Nat.reduceMul, Nat.reduceAdd] <;> kernel_rfl
theorem F31_call : eInv env (k + 1) (.func 31) #[] #[x0, x1] h = F31 (eInv env k) k x0 x1 h := kq_inv F31_eq
end Go.Proofs.Ytoleebigheobcaa.Sh
