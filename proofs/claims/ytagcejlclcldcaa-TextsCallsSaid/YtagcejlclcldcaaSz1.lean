/- Shallow functions, part 1. Printed by a program of the prover's own from the loaded program; Lean checks it. -/
import Derived.Test.YtagcejlclcldcaaSz0
set_option linter.unusedVariables false
set_option linter.unusedSimpArgs false
set_option maxRecDepth 100000
namespace Go.Proofs.Ytagcejlclcldcaa.Sh
open Go Go.RowKit Go.Proofs.Ev
variable {β : Type} {inv : Inv} {k : Nat} {h : AH} {K : XE → Act → AH → Option β} {x0 x1 x2 x3 x4 x5 x6 x7 x8 x9 x10 x11 x12 x13 x14 x15 x16 x17 x18 x19 x20 x21 x22 x23 x24 x25 x26 x27 x28 x29 x30 x31 x32 x33 x34 x35 x36 x37 x38 x39 x40 x41 x42 x43 x44 x45 x46 x47 x48 x49 x50 x51 x52 x53 x54 x55 x56 x57 x58 x59 x60 x61 x62 x63 x64 x65 x66 x67 x68 x69 x70 x71 x72 x73 x74 x75 x76 x77 x78 x79 x80 x81 : Value}
noncomputable def c6 : Code := codeOf Try.prog 6
theorem r6_0  : kCode env 6 false inv k (cp c6 2) (act 116 [(0, x0), (1, x1)]) h K =
    K .normal (act 116 [(0, x0), (1, x1)]) h := kq_reg
theorem r6_1  : kCode env 6 false inv k (cp c6 12) (act 116 [(0, x0), (1, x1)]) h K =
    bnd (inv (.func 8) #[] #[] h) fun x21 =>
    bnd (pUn Try.prog .not x21.1) fun x22 =>
    K .normal (act 116 [(0, x0), (1, x1), (22, x22)]) x21.2 := kq_reg
theorem b6_rlr  : kCode env 6 false inv k (cp c6 13) (act 116 [(0, x0), (1, x1), (22, x22)]) h K = brV x22 (kCode env 6 false inv k (cp c6 26) (act 116 [(0, x0), (1, x1), (22, x22)]) h K) (kCode env 6 false inv k (cp c6 27) (act 116 [(0, x0), (1, x1), (22, x22)]) h K) := kq_cond
theorem r6_2  : kCode env 6 false inv k (cp c6 52) (act 116 [(0, x0), (1, x1), (22, x22)]) h K =
    K .normal (act 116 [(4, (.bool false))]) h := kq_reg
theorem res6_0 : resOfFn env.P 6 .ret (act 116 [(4, x4)]) h = some (x4, h) := kq_res
noncomputable abbrev G6_3 {β : Type} (inv : Inv) (x0 x1 : Value) (h : AH) (K : Value → AH → Option β) : Option β :=
    bnd (inv (.func 9) #[] #[x0] h) fun x24 =>
    bnd (pUn Try.prog .not x24.1) fun x25 =>
    bnd (gd (some x25) false x24.2 (some (x1, x24.2))) fun x27 =>
    bnd (gd (some x25) false x27.2 (lt (pLen Try.prog #[30] x27.1 x27.2) x27.2)) fun x28 =>
    bnd (gd (some x25) false x28.2 (lt (pBin Try.prog .gtr 3 (.tmp 28) (.const (.int .i64 600)) x28.1 (.int .i64 600)) x28.2)) fun x29 =>
    bnd (pickV x25 (.bool true) x29.1) fun x30 =>
    K (x30) x29.2
theorem r6_3  : kCode env 6 false inv k (cp c6 28) (act 116 [(0, x0), (1, x1), (22, x22)]) h K =
    G6_3 inv x0 x1 h fun y30 h => K .normal (act 116 [(0, x0), (1, x1), (30, y30)]) h := kq_reg
theorem b6_rlrr  : kCode env 6 false inv k (cp c6 29) (act 116 [(0, x0), (1, x1), (30, x30)]) h K = brV x30 (kCode env 6 false inv k (cp c6 58) (act 116 [(0, x0), (1, x1), (30, x30)]) h K) (kCode env 6 false inv k (cp c6 59) (act 116 [(0, x0), (1, x1), (30, x30)]) h K) := kq_cond
theorem r6_4  : kCode env 6 false inv k (cp c6 116) (act 116 [(0, x0), (1, x1), (30, x30)]) h K =
    K .normal (act 116 [(4, (.bool true))]) h := kq_reg
theorem r6_5  : kCode env 6 false inv k (cp c6 30) (act 116 [(0, x0), (1, x1), (30, x30)]) h K =
    bnd (inv (.func 15) #[] #[x0] h) fun x33 =>
    bnd (pExtract x33.1 0) fun x34 =>
    bnd (pExtract x33.1 1) fun x35 =>
    K .normal (act 116 [(0, x0), (1, x1), (5, x34), (6, x35)]) x33.2 := kq_reg
theorem r6_6  : kCode env 6 false inv k (cp c6 62) (act 116 [(0, x0), (1, x1), (5, x5), (6, x6)]) h K =
    bnd (inv (.func 20) #[] #[x0] h) fun x38 =>
    bnd (pExtract x38.1 0) fun x39 =>
    bnd (pExtract x38.1 1) fun x40 =>
    K .normal (act 116 [(0, x0), (1, x1), (5, x5), (6, x6), (7, x39), (8, x40)]) x38.2 := kq_reg
theorem r6_7  : kCode env 6 false inv k (cp c6 126) (act 116 [(0, x0), (1, x1), (5, x5), (6, x6), (7, x7), (8, x8)]) h K =
    bnd (inv (.func 17) #[] #[x0] h) fun x43 =>
    bnd (pExtract x43.1 0) fun x44 =>
    bnd (pExtract x43.1 1) fun x45 =>
    K .normal (act 116 [(0, x0), (1, x1), (5, x5), (6, x6), (7, x7), (8, x8), (9, x44), (10, x45)]) x43.2 := kq_reg
theorem r6_8  : kCode env 6 false inv k (cp c6 254) (act 116 [(0, x0), (1, x1), (5, x5), (6, x6), (7, x7), (8, x8), (9, x9), (10, x10)]) h K =
    bnd (inv (.func 21) #[] #[x0] h) fun x48 =>
    bnd (pExtract x48.1 0) fun x49 =>
    bnd (pExtract x48.1 1) fun x50 =>
    K .normal (act 116 [(0, x0), (1, x1), (5, x5), (6, x6), (7, x7), (8, x8), (9, x9), (10, x10), (11, x49), (12, x50)]) x48.2 := kq_reg
theorem r6_9  : kCode env 6 false inv k (cp c6 510) (act 116 [(0, x0), (1, x1), (5, x5), (6, x6), (7, x7), (8, x8), (9, x9), (10, x10), (11, x11), (12, x12)]) h K =
    bnd (inv (.func 16) #[] #[x0] h) fun x53 =>
    bnd (pExtract x53.1 0) fun x54 =>
    bnd (pExtract x53.1 1) fun x55 =>
    K .normal (act 116 [(0, x0), (1, x1), (5, x5), (6, x6), (7, x7), (8, x8), (9, x9), (10, x10), (11, x11), (12, x12), (13, x54), (14, x55)]) x53.2 := kq_reg
theorem r6_10  : kCode env 6 false inv k (cp c6 1022) (act 116 [(0, x0), (1, x1), (5, x5), (6, x6), (7, x7), (8, x8), (9, x9), (10, x10), (11, x11), (12, x12), (13, x13), (14, x14)]) h K =
    bnd (inv (.func 22) #[] #[x0] h) fun x58 =>
    bnd (pExtract x58.1 0) fun x59 =>
    bnd (pExtract x58.1 1) fun x60 =>
    K .normal (act 116 [(0, x0), (1, x1), (5, x5), (6, x6), (7, x7), (8, x8), (9, x9), (10, x10), (11, x11), (12, x12), (13, x13), (14, x14), (15, x59), (16, x60)]) x58.2 := kq_reg
theorem r6_11  : kCode env 6 false inv k (cp c6 2046) (act 116 [(0, x0), (1, x1), (5, x5), (6, x6), (7, x7), (8, x8), (9, x9), (10, x10), (11, x11), (12, x12), (13, x13), (14, x14), (15, x15), (16, x16)]) h K =
    bnd (inv (.func 18) #[] #[x1] h) fun x63 =>
    bnd (pExtract x63.1 0) fun x64 =>
    bnd (pExtract x63.1 1) fun x65 =>
    K .normal (act 116 [(0, x0), (1, x1), (5, x5), (6, x6), (7, x7), (8, x8), (9, x9), (10, x10), (11, x11), (12, x12), (13, x13), (14, x14), (15, x15), (16, x16), (17, x64), (18, x65)]) x63.2 := kq_reg
theorem r6_12  : kCode env 6 false inv k (cp c6 4094) (act 116 [(0, x0), (1, x1), (5, x5), (6, x6), (7, x7), (8, x8), (9, x9), (10, x10), (11, x11), (12, x12), (13, x13), (14, x14), (15, x15), (16, x16), (17, x17), (18, x18)]) h K =
    bnd (inv (.func 23) #[] #[x1] h) fun x68 =>
    bnd (pExtract x68.1 0) fun x69 =>
    bnd (pExtract x68.1 1) fun x70 =>
    K .normal (act 116 [(0, x0), (5, x5), (6, x6), (7, x7), (8, x8), (9, x9), (10, x10), (11, x11), (12, x12), (13, x13), (14, x14), (15, x15), (16, x16), (17, x17), (18, x18), (19, x69), (20, x70)]) x68.2 := kq_reg
noncomputable abbrev G6_13 {β : Type} (inv : Inv) (x0 x5 x6 x7 x8 x9 x10 x11 x12 x13 x14 x15 x16 x17 x18 x19 x20 : Value) (h : AH) (K : Value → AH → Option β) : Option β :=
    bnd (inv (.func 24) #[] #[x5, x7] h) fun x73 =>
    bnd (gd (some x73.1) true x73.2 (some (x6, x73.2))) fun x75 =>
    bnd (gd (some x73.1) true x75.2 (some (x8, x75.2))) fun x76 =>
    bnd (gd (some x73.1) true x76.2 (lt (pBin Try.prog .eql 31 (.tmp 75) (.tmp 76) x75.1 x76.1) x76.2)) fun x77 =>
    bnd (pickV x73.1 x77.1 (.bool false)) fun x78 =>
    bnd (gd (some x78) true x77.2 (some (x9, x77.2))) fun x80 =>
    bnd (gd (some x78) true x80.2 (some (x11, x80.2))) fun x81 =>
    bnd (gd (some x78) true x81.2 (inv (.func 24) #[] #[x80.1, x81.1] x81.2)) fun x82 =>
    bnd (pickV x78 x82.1 (.bool false)) fun x83 =>
    bnd (gd (some x83) true x82.2 (some (x10, x82.2))) fun x85 =>
    bnd (gd (some x83) true x85.2 (some (x12, x85.2))) fun x86 =>
    bnd (gd (some x83) true x86.2 (lt (pBin Try.prog .eql 31 (.tmp 85) (.tmp 86) x85.1 x86.1) x86.2)) fun x87 =>
    bnd (pickV x83 x87.1 (.bool false)) fun x88 =>
    bnd (gd (some x88) true x87.2 (some (x13, x87.2))) fun x90 =>
    bnd (gd (some x88) true x90.2 (some (x15, x90.2))) fun x91 =>
    bnd (gd (some x88) true x91.2 (inv (.func 24) #[] #[x90.1, x91.1] x91.2)) fun x92 =>
    bnd (pickV x88 x92.1 (.bool false)) fun x93 =>
    bnd (gd (some x93) true x92.2 (some (x14, x92.2))) fun x95 =>
    bnd (gd (some x93) true x95.2 (some (x16, x95.2))) fun x96 =>
    bnd (gd (some x93) true x96.2 (lt (pBin Try.prog .eql 31 (.tmp 95) (.tmp 96) x95.1 x96.1) x96.2)) fun x97 =>
    bnd (pickV x93 x97.1 (.bool false)) fun x98 =>
    bnd (gd (some x98) true x97.2 (some (x17, x97.2))) fun x100 =>
    bnd (gd (some x98) true x100.2 (some (x19, x100.2))) fun x101 =>
    bnd (gd (some x98) true x101.2 (inv (.func 14) #[] #[x100.1, x101.1] x101.2)) fun x102 =>
    bnd (pickV x98 x102.1 (.bool false)) fun x103 =>
    bnd (gd (some x103) true x102.2 (some (x18, x102.2))) fun x105 =>
    bnd (gd (some x103) true x105.2 (some (x20, x105.2))) fun x106 =>
    bnd (gd (some x103) true x106.2 (lt (pBin Try.prog .eql 31 (.tmp 105) (.tmp 106) x105.1 x106.1) x106.2)) fun x107 =>
    bnd (pickV x103 x107.1 (.bool false)) fun x108 =>
    bnd (gd (some x108) true x107.2 (some (x0, x107.2))) fun x110 =>
    bnd (gd (some x108) true x110.2 (inv (.func 10) #[] #[x110.1] x110.2)) fun x111 =>
    bnd (gd (some x108) true x111.2 (some (x0, x111.2))) fun x112 =>
    bnd (gd (some x108) true x112.2 (inv (.func 25) #[] #[x112.1] x112.2)) fun x113 =>
    bnd (gd (some x108) true x113.2 (inv (.func 14) #[] #[x111.1, x113.1] x113.2)) fun x114 =>
    bnd (pickV x108 x114.1 (.bool false)) fun x115 =>
    K (x115) x114.2
theorem r6_13  : kCode env 6 false inv k (cp c6 8190) (act 116 [(0, x0), (5, x5), (6, x6), (7, x7), (8, x8), (9, x9), (10, x10), (11, x11), (12, x12), (13, x13), (14, x14), (15, x15), (16, x16), (17, x17), (18, x18), (19, x19), (20, x20)]) h K =
    G6_13 inv x0 x5 x6 x7 x8 x9 x10 x11 x12 x13 x14 x15 x16 x17 x18 x19 x20 h fun y4 h => K .normal (act 116 [(4, y4)]) h := kq_reg
/-- shadowbook/shadowbooklaw07.TextsCalls -/
noncomputable def F6 (inv : Inv) (k : Nat) (x0 x1 : Value) (h : AH) : Option (Value × AH) :=
    bnd (inv (.func 8) #[] #[] h) fun x21 =>
    bnd (pUn Try.prog .not x21.1) fun x22 =>
    brV x22
    (some ((.bool false), x21.2))
    (G6_3 inv x0 x1 x21.2 fun y30 h =>
    brV y30
    (some ((.bool true), h))
    (bnd (inv (.func 15) #[] #[x0] h) fun x33 =>
    bnd (pExtract x33.1 0) fun x34 =>
    bnd (pExtract x33.1 1) fun x35 =>
    bnd (inv (.func 20) #[] #[x0] x33.2) fun x38 =>
    bnd (pExtract x38.1 0) fun x39 =>
    bnd (pExtract x38.1 1) fun x40 =>
    bnd (inv (.func 17) #[] #[x0] x38.2) fun x43 =>
    bnd (pExtract x43.1 0) fun x44 =>
    bnd (pExtract x43.1 1) fun x45 =>
    bnd (inv (.func 21) #[] #[x0] x43.2) fun x48 =>
    bnd (pExtract x48.1 0) fun x49 =>
    bnd (pExtract x48.1 1) fun x50 =>
    bnd (inv (.func 16) #[] #[x0] x48.2) fun x53 =>
    bnd (pExtract x53.1 0) fun x54 =>
    bnd (pExtract x53.1 1) fun x55 =>
    bnd (inv (.func 22) #[] #[x0] x53.2) fun x58 =>
    bnd (pExtract x58.1 0) fun x59 =>
    bnd (pExtract x58.1 1) fun x60 =>
    bnd (inv (.func 18) #[] #[x1] x58.2) fun x63 =>
    bnd (pExtract x63.1 0) fun x64 =>
    bnd (pExtract x63.1 1) fun x65 =>
    bnd (inv (.func 23) #[] #[x1] x63.2) fun x68 =>
    bnd (pExtract x68.1 0) fun x69 =>
    bnd (pExtract x68.1 1) fun x70 =>
    G6_13 inv x0 x34 x35 x39 x40 x44 x45 x49 x50 x54 x55 x59 x60 x64 x65 x69 x70 x68.2 fun y4 h_1 =>
    some (y4, h_1)))
theorem F6_eq : eFun env k inv 6 #[x0, x1] h = F6 inv k x0 x1 h := by
      refine (kq_fun (a := act 116 [(0, x0), (1, x1)]) (c := cp c6 1)).trans ?_
      unfold F6
      simp only [kq_seq c6 1, r6_0, kq_seq c6 3, kq_seq c6 6, r6_1, b6_rlr, kq_seq c6 26, r6_2, kq_ret c6 53, res6_0, kq_skip c6 27, kq_seq c6 7, kq_seq c6 14, r6_3, b6_rlrr, kq_seq c6 58, r6_4, kq_ret c6 117, kq_skip c6 59, kq_seq c6 15, r6_5, kq_seq c6 31, r6_6, kq_seq c6 63, r6_7, kq_seq c6 127, r6_8, kq_seq c6 255, r6_9, kq_seq c6 511, r6_10, kq_seq c6 1023, r6_11, kq_seq c6 2047, r6_12, kq_seq c6 4095, r6_13, kq_ret c6 8191, reduceIte, reduceCtorEq, XE.exit.injEq, Nat.reduceEqDiff, Nat.reduceMul, Nat.reduceAdd] <;> kernel_rfl
theorem F6_call : eInv env (k + 1) (.func 6) #[] #[x0, x1] h = F6 (eInv env k) k x0 x1 h := kq_inv F6_eq
noncomputable def c9 : Code := codeOf Try.prog 9
theorem r9_0  : kCode env 9 false inv k (cp c9 2) (act 5 [(0, x0)]) h K =
    K .normal (act 5 [(0, x0)]) h := kq_reg
theorem r9_1  : kCode env 9 false inv k (cp c9 6) (act 5 [(0, x0)]) h K =
    bnd (inv (.func 26) #[] #[x0, (.int .i64 60), (.int .i64 600)] h) fun x4 =>
    K .normal (act 5 [(2, x4.1)]) x4.2 := kq_reg
theorem res9_0 : resOfFn env.P 9 .ret (act 5 [(2, x2)]) h = some (x2, h) := kq_res
/-- shadowbook/shadowbooklaw07.light -/
noncomputable def F9 (inv : Inv) (k : Nat) (x0 : Value) (h : AH) : Option (Value × AH) :=
    bnd (inv (.func 26) #[] #[x0, (.int .i64 60), (.int .i64 600)] h) fun x4 =>
    some (x4.1, x4.2)
theorem F9_eq : eFun env k inv 9 #[x0] h = F9 inv k x0 h := by
      refine (kq_fun (a := act 5 [(0, x0)]) (c := cp c9 1)).trans ?_
      unfold F9
      simp only [kq_seq c9 1, r9_0, kq_seq c9 3, r9_1, kq_ret c9 7, res9_0, reduceIte, reduceCtorEq, XE.exit.injEq, Nat.reduceEqDiff, Nat.reduceMul, Nat.reduceAdd] <;> kernel_rfl
theorem F9_call : eInv env (k + 1) (.func 9) #[] #[x0] h = F9 (eInv env k) k x0 h := kq_inv F9_eq
noncomputable def c10 : Code := codeOf Try.prog 10
theorem r10_0  : kCode env 10 false inv k (cp c10 2) (act 20 [(0, x0)]) h K =
    K .normal (act 20 [(0, x0)]) h := kq_reg
theorem r10_1  : kCode env 10 false inv k (cp c10 6) (act 20 [(0, x0)]) h K =
    bnd (pMakeMap Try.prog 40 none h) fun x6 =>
    K .normal (act 20 [(0, x0), (3, x6.1)]) x6.2 := kq_reg
theorem r10_2  : kCode env 10 false inv k (cp c10 28) (act 20 [(0, x0), (3, x3)]) h K =
    bnd (pLen Try.prog #[22] x0 h) fun x8 =>
    K .normal (act 20 [(3, x3), (7, x0), (8, x8), (9, (.int .i64 0))]) h := kq_reg
theorem r10_3  : kCode env 10 false inv k (cp c10 232) (act 20 [(3, x3), (7, x7), (8, x8), (9, x9)]) h K =
    bnd (pBin Try.prog .lss 3 (.tmp 9) (.tmp 8) x9 x8) fun x10 =>
    K .normal (act 20 [(3, x3), (7, x7), (8, x8), (9, x9), (10, x10)]) h := kq_reg
theorem b10_lrllrlrr  : kCode env 10 false inv k (cp c10 466) (act 20 [(3, x3), (7, x7), (8, x8), (9, x9), (10, x10)]) h K = brV x10 (kCode env 10 false inv k (cp c10 932) (act 20 [(3, x3), (7, x7), (8, x8), (9, x9), (10, x10)]) h K) (kCode env 10 false inv k (cp c10 933) (act 20 [(3, x3), (7, x7), (8, x8), (9, x9), (10, x10)]) h K) := kq_cond
theorem r10_4  : kCode env 10 false inv k (cp c10 3736) (act 20 [(3, x3), (7, x7), (8, x8), (9, x9), (10, x10)]) h K =
    bnd (pIndexAddr Try.prog 22 x7 x9) fun x11 =>
    bnd (pLoad Try.prog 9 x11 h) fun x12 =>
    K .normal (act 20 [(3, x3), (5, x12), (7, x7), (8, x8), (9, x9)]) h := kq_reg
theorem r10_5  : kCode env 10 false inv k (cp c10 3737) (act 20 [(3, x3), (5, x5), (7, x7), (8, x8), (9, x9)]) h K =
    bnd (pBuild Try.prog 41 #[]) fun x15 =>
    bnd (kSt (pUpdate Try.prog 40 x3 x5 x15 h)) fun u =>
    K .normal (act 20 [(3, x3), (7, x7), (8, x8), (9, x9)]) u.2 := kq_reg
theorem r10_6  : kCode env 10 false inv k (cp c10 935) (act 20 [(3, x3), (7, x7), (8, x8), (9, x9)]) h K =
    bnd (pBin Try.prog .add 3 (.tmp 9) (.const (.int .i64 1)) x9 (.int .i64 1)) fun x16 =>
    K .normal (act 20 [(3, x3), (7, x7), (8, x8), (9, x16)]) h := kq_reg
noncomputable def F10_lrlrr {β : Type} (inv : Inv) (k : Nat) : Nat → Value → Value → Value → Value → AH → (Value → Value → Value → Value → Value → AH → Option β) → Option β
  | 0, _, _, _, _, _, _ => none
  | j + 1, x3, x7, x8, x9, h, ke0 =>
    bnd (pBin Try.prog .lss 3 (.tmp 9) (.tmp 8) x9 x8) fun x10 =>
    brV x10
    (bnd (pIndexAddr Try.prog 22 x7 x9) fun x11 =>
    bnd (pLoad Try.prog 9 x11 h) fun x12 =>
    bnd (pBuild Try.prog 41 #[]) fun x15 =>
    bnd (kSt (pUpdate Try.prog 40 x3 x12 x15 h)) fun u =>
    bnd (pBin Try.prog .add 3 (.tmp 9) (.const (.int .i64 1)) x9 (.int .i64 1)) fun x16 =>
    F10_lrlrr inv k j x3 x7 x8 x16 u.2 ke0)
    (ke0 x3 x7 x8 x9 x10 h)
theorem F10_lrlrr_j (j : Nat) : kLoop (kCode env 10 false inv k (cp c10 116)) j (act 20 [(3, x3), (7, x7), (8, x8), (9, x9)]) h K = F10_lrlrr inv k j x3 x7 x8 x9 h (fun y3 y7 y8 y9 y10 h => K (.exit 0) (act 20 [(3, y3), (7, y7), (8, y8), (9, y9), (10, y10)]) h) := by
      induction j generalizing x3 x7 x8 x9 h with
      | zero => rfl
      | succ j ih =>
        unfold F10_lrlrr
        simp only [kLoop, kq_seq c10 116, r10_3, kq_seq c10 233, b10_lrllrlrr, kq_skip c10 932, kq_seq c10 467, kq_block c10 934 1, kq_seq c10 1868, r10_4, r10_5, r10_6, kq_exit c10 933 0, ih, reduceIte, reduceCtorEq, XE.exit.injEq, Nat.reduceEqDiff, Nat.reduceMul, Nat.reduceAdd] <;> kernel_rfl
theorem F10_lrlrr_eq  : kCode env 10 false inv k (cp c10 58) (act 20 [(3, x3), (7, x7), (8, x8), (9, x9)]) h K = F10_lrlrr inv k k x3 x7 x8 x9 h (fun y3 y7 y8 y9 y10 h => K (.exit 0) (act 20 [(3, y3), (7, y7), (8, y8), (9, y9), (10, y10)]) h) := kq_loop (F10_lrlrr_j k)
theorem r10_7  : kCode env 10 false inv k (cp c10 30) (act 20 [(3, x3), (7, x7), (8, x8), (9, x9), (10, x10)]) h K =
    bnd (inv (.func 28) #[] #[x3] h) fun x18 =>
    bnd (inv (.func 27) #[] #[x18.1] x18.2) fun x19 =>
    K .normal (act 20 [(2, x19.1)]) x19.2 := kq_reg
theorem res10_0 : resOfFn env.P 10 .ret (act 20 [(2, x2)]) h = some (x2, h) := kq_res
/-- shadowbook/texts.Words -/
noncomputable def F10 (inv : Inv) (k : Nat) (x0 : Value) (h : AH) : Option (Value × AH) :=
    bnd (pMakeMap Try.prog 40 none h) fun x6 =>
    bnd (pLen Try.prog #[22] x0 x6.2) fun x8 =>
    F10_lrlrr inv k k x6.1 x0 x8 (.int .i64 0) x6.2
    (fun y3 y7 y8 y9 y10 h =>
    bnd (inv (.func 28) #[] #[y3] h) fun x18 =>
    bnd (inv (.func 27) #[] #[x18.1] x18.2) fun x19 =>
    some (x19.1, x19.2))
theorem F10_eq : eFun env k inv 10 #[x0] h = F10 inv k x0 h := by
      refine (kq_fun (a := act 20 [(0, x0)]) (c := cp c10 1)).trans ?_
      unfold F10
      simp only [kq_seq c10 1, r10_0, kq_seq c10 3, r10_1, kq_seq c10 7, kq_seq c10 14, r10_2, kq_block c10 29 0, F10_lrlrr_eq, kq_seq c10 15, r10_7, kq_ret c10 31, res10_0, reduceIte, reduceCtorEq, XE.exit.injEq, Nat.reduceEqDiff, Nat.reduceMul, Nat.reduceAdd] <;> kernel_rfl
theorem F10_call : eInv env (k + 1) (.func 10) #[] #[x0] h = F10 (eInv env k) k x0 h := kq_inv F10_eq
noncomputable def c14 : Code := codeOf Try.prog 14
theorem r14_0  : kCode env 14 false inv k (cp c14 2) (act 26 [(0, x0), (1, x1)]) h K =
    K .normal (act 26 [(0, x0), (1, x1)]) h := kq_reg
theorem r14_1  : kCode env 14 false inv k (cp c14 12) (act 26 [(0, x0), (1, x1)]) h K =
    bnd (pLen Try.prog #[22] x0 h) fun x7 =>
    bnd (pLen Try.prog #[22] x1 h) fun x9 =>
    bnd (pBin Try.prog .neq 3 (.tmp 7) (.tmp 9) x7 x9) fun x10 =>
    K .normal (act 26 [(0, x0), (1, x1), (10, x10)]) h := kq_reg
theorem b14_rlr  : kCode env 14 false inv k (cp c14 13) (act 26 [(0, x0), (1, x1), (10, x10)]) h K = brV x10 (kCode env 14 false inv k (cp c14 26) (act 26 [(0, x0), (1, x1), (10, x10)]) h K) (kCode env 14 false inv k (cp c14 27) (act 26 [(0, x0), (1, x1), (10, x10)]) h K) := kq_cond
theorem r14_2  : kCode env 14 false inv k (cp c14 52) (act 26 [(0, x0), (1, x1), (10, x10)]) h K =
    K .normal (act 26 [(4, (.bool false))]) h := kq_reg
theorem res14_0 : resOfFn env.P 14 .ret (act 26 [(4, x4)]) h = some (x4, h) := kq_res
theorem r14_3  : kCode env 14 false inv k (cp c14 28) (act 26 [(0, x0), (1, x1), (10, x10)]) h K =
    K .normal (act 26 [(0, x0), (1, x1), (5, (.int .i64 0))]) h := kq_reg
theorem r14_4  : kCode env 14 false inv k (cp c14 464) (act 26 [(0, x0), (1, x1), (5, x5)]) h K =
    bnd (pLen Try.prog #[22] x0 h) fun x13 =>
    bnd (pBin Try.prog .lss 3 (.tmp 11) (.tmp 13) x5 x13) fun x14 =>
    K .normal (act 26 [(0, x0), (1, x1), (5, x5), (14, x14)]) h := kq_reg
theorem b14_rlllrlrr  : kCode env 14 false inv k (cp c14 465) (act 26 [(0, x0), (1, x1), (5, x5), (14, x14)]) h K = brV x14 (kCode env 14 false inv k (cp c14 930) (act 26 [(0, x0), (1, x1), (5, x5), (14, x14)]) h K) (kCode env 14 false inv k (cp c14 931) (act 26 [(0, x0), (1, x1), (5, x5), (14, x14)]) h K) := kq_cond
theorem r14_6  : kCode env 14 false inv k (cp c14 1864) (act 26 [(0, x0), (1, x1), (5, x5), (14, x14)]) h K =
    bnd (pIndexAddr Try.prog 22 x0 x5) fun x19 =>
    bnd (pLoad Try.prog 9 x19 h) fun x20 =>
    bnd (pIndexAddr Try.prog 22 x1 x5) fun x23 =>
    bnd (pLoad Try.prog 9 x23 h) fun x24 =>
    bnd (pBin Try.prog .neq 9 (.tmp 20) (.tmp 24) x20 x24) fun x25 =>
    K .normal (act 26 [(0, x0), (1, x1), (5, x5), (25, x25)]) h := kq_draw
theorem b14_rllrllrlrr  : kCode env 14 false inv k (cp c14 1865) (act 26 [(0, x0), (1, x1), (5, x5), (25, x25)]) h K = brV x25 (kCode env 14 false inv k (cp c14 3730) (act 26 [(0, x0), (1, x1), (5, x5), (25, x25)]) h K) (kCode env 14 false inv k (cp c14 3731) (act 26 [(0, x0), (1, x1), (5, x5), (25, x25)]) h K) := kq_cond
theorem r14_7  : kCode env 14 false inv k (cp c14 7460) (act 26 [(0, x0), (1, x1), (5, x5), (25, x25)]) h K =
    K .normal (act 26 [(4, (.bool false))]) h := kq_reg
theorem r14_5  : kCode env 14 false inv k (cp c14 467) (act 26 [(0, x0), (1, x1), (5, x5), (25, x25)]) h K =
    bnd (pBin Try.prog .add 3 (.tmp 15) (.const (.int .i64 1)) x5 (.int .i64 1)) fun x16 =>
    K .normal (act 26 [(0, x0), (1, x1), (5, x16)]) h := kq_reg
noncomputable def F14_lrlrr {β : Type} (inv : Inv) (k : Nat) : Nat → Value → Value → Value → AH → (Value → Value → Value → Value → AH → Option β) → (Value → AH → Option β) → Option β
  | 0, _, _, _, _, _, _ => none
  | j + 1, x0, x1, x5, h, ke0, kr =>
    bnd (pLen Try.prog #[22] x0 h) fun x13 =>
    bnd (pBin Try.prog .lss 3 (.tmp 11) (.tmp 13) x5 x13) fun x14 =>
    brV x14
    (bnd (pIndexAddr Try.prog 22 x0 x5) fun x19 =>
    bnd (pLoad Try.prog 9 x19 h) fun x20 =>
    bnd (pIndexAddr Try.prog 22 x1 x5) fun x23 =>
    bnd (pLoad Try.prog 9 x23 h) fun x24 =>
    bnd (pBin Try.prog .neq 9 (.tmp 20) (.tmp 24) x20 x24) fun x25 =>
    brV x25
    (kr (.bool false) h)
    (bnd (pBin Try.prog .add 3 (.tmp 15) (.const (.int .i64 1)) x5 (.int .i64 1)) fun x16 =>
    F14_lrlrr inv k j x0 x1 x16 h ke0 kr))
    (ke0 x0 x1 x5 x14 h)
theorem F14_lrlrr_j (j : Nat) : kLoop (kCode env 14 false inv k (cp c14 116)) j (act 26 [(0, x0), (1, x1), (5, x5)]) h K = F14_lrlrr inv k j x0 x1 x5 h (fun y0 y1 y5 y14 h => K (.exit 0) (act 26 [(0, y0), (1, y1), (5, y5), (14, y14)]) h) (fun y4 h => K .ret (act 26 [(4, y4)]) h) := by
      induction j generalizing x0 x1 x5 h with
      | zero => rfl
      | succ j ih =>
        unfold F14_lrlrr
        simp only [kLoop, kq_seq c14 116, kq_seq c14 232, r14_4, b14_rlllrlrr, kq_skip c14 930, kq_seq c14 233, kq_block c14 466 1, kq_seq c14 932, r14_6, b14_rllrllrlrr, kq_seq c14 3730, r14_7, kq_ret c14 7461, kq_skip c14 3731, r14_5, kq_exit c14 931 0, ih, reduceIte, reduceCtorEq, XE.exit.injEq, Nat.reduceEqDiff, Nat.reduceMul, Nat.reduceAdd] <;> kernel_rfl
theorem F14_lrlrr_eq  : kCode env 14 false inv k (cp c14 58) (act 26 [(0, x0), (1, x1), (5, x5)]) h K = F14_lrlrr inv k k x0 x1 x5 h (fun y0 y1 y5 y14 h => K (.exit 0) (act 26 [(0, y0), (1, y1), (5, y5), (14, y14)]) h) (fun y4 h => K .ret (act 26 [(4, y4)]) h) := kq_loop (F14_lrlrr_j k)
theorem r14_8  : kCode env 14 false inv k (cp c14 30) (act 26 [(0, x0), (1, x1), (5, x5), (14, x14)]) h K =
    K .normal (act 26 [(4, (.bool true))]) h := kq_reg
/-- shadowbook/shadowbookkit.Same[string] -/
noncomputable def F14 (inv : Inv) (k : Nat) (x0 x1 : Value) (h : AH) : Option (Value × AH) :=
    bnd (pLen Try.prog #[22] x0 h) fun x7 =>
    bnd (pLen Try.prog #[22] x1 h) fun x9 =>
    bnd (pBin Try.prog .neq 3 (.tmp 7) (.tmp 9) x7 x9) fun x10 =>
    brV x10
    (some ((.bool false), h))
    (F14_lrlrr inv k k x0 x1 (.int .i64 0) h
    (fun y0 y1 y5 y14 h =>
    some ((.bool true), h))
    (fun y4 h_1 =>
    some (y4, h_1)))
theorem F14_eq : eFun env k inv 14 #[x0, x1] h = F14 inv k x0 x1 h := by
      refine (kq_fun (a := act 26 [(0, x0), (1, x1)]) (c := cp c14 1)).trans ?_
      unfold F14
      simp only [kq_seq c14 1, r14_0, kq_seq c14 3, kq_seq c14 6, r14_1, b14_rlr, kq_seq c14 26, r14_2, kq_ret c14 53, res14_0, kq_skip c14 27, kq_seq c14 7, kq_seq c14 14, r14_3, kq_block c14 29 0, F14_lrlrr_eq, kq_seq c14 15, r14_8, kq_ret c14 31, reduceIte, reduceCtorEq, XE.exit.injEq, Nat.reduceEqDiff, Nat.reduceMul, Nat.reduceAdd] <;> kernel_rfl
theorem F14_call : eInv env (k + 1) (.func 14) #[] #[x0, x1] h = F14 (eInv env k) k x0 x1 h := kq_inv F14_eq
noncomputable def c15 : Code := codeOf Try.prog 15
theorem r15_0  : kCode env 15 false inv k (cp c15 2) (act 29 [(0, x0)]) h K =
    K .normal (act 29 [(0, x0)]) h := kq_reg
theorem r15_1  : kCode env 15 false inv k (cp c15 12) (act 29 [(0, x0)]) h K =
    bnd (inv (.func 29) #[] #[x0] h) fun x9 =>
    K .normal (act 29 [(0, x0), (4, x9.1)]) x9.2 := kq_reg
theorem r15_2  : kCode env 15 false inv k (cp c15 26) (act 29 [(0, x0), (4, x4)]) h K =
    bnd (pBin Try.prog .neq 31 (.tmp 10) (.const (.int .i64 0)) x4 (.int .i64 0)) fun x11 =>
    K .normal (act 29 [(0, x0), (4, x4), (11, x11)]) h := kq_reg
theorem b15_rrlr  : kCode env 15 false inv k (cp c15 27) (act 29 [(0, x0), (4, x4), (11, x11)]) h K = brV x11 (kCode env 15 false inv k (cp c15 54) (act 29 [(0, x0), (4, x4), (11, x11)]) h K) (kCode env 15 false inv k (cp c15 55) (act 29 [(0, x0), (4, x4), (11, x11)]) h K) := kq_cond
theorem r15_3  : kCode env 15 false inv k (cp c15 108) (act 29 [(0, x0), (4, x4), (11, x11)]) h K =
    K .normal (act 29 [(2, (.slice none 0 0)), (3, x4)]) h := kq_reg
theorem res15_0 : resOfFn env.P 15 .ret (act 29 [(2, x2), (3, x3)]) h = some (.tuple #[x2, x3], h) := kq_res
theorem r15_4  : kCode env 15 false inv k (cp c15 14) (act 29 [(0, x0), (4, x4), (11, x11)]) h K =
    bnd (pBuildSlice Try.prog 30 1 #[(0, (.int .u8 1))] h) fun x13 =>
    bnd (pLen Try.prog #[22] x0 x13.2) fun x15 =>
    bnd (pConv Try.prog 3 48 x15 x13.2) fun x16 =>
    bnd (inv (.func 30) #[] #[x13.1, x16] x13.2) fun x17 =>
    K .normal (act 29 [(0, x0), (5, x17.1)]) x17.2 := kq_reg
theorem r15_5  : kCode env 15 false inv k (cp c15 60) (act 29 [(0, x0), (5, x5)]) h K =
    bnd (pLen Try.prog #[22] x0 h) fun x19 =>
    K .normal (act 29 [(5, x5), (18, x0), (19, x19), (20, (.int .i64 0))]) h := kq_reg
theorem r15_6  : kCode env 15 false inv k (cp c15 488) (act 29 [(5, x5), (18, x18), (19, x19), (20, x20)]) h K =
    bnd (pBin Try.prog .lss 3 (.tmp 20) (.tmp 19) x20 x19) fun x21 =>
    K .normal (act 29 [(5, x5), (18, x18), (19, x19), (20, x20), (21, x21)]) h := kq_reg
theorem b15_lrllrlrrr  : kCode env 15 false inv k (cp c15 978) (act 29 [(5, x5), (18, x18), (19, x19), (20, x20), (21, x21)]) h K = brV x21 (kCode env 15 false inv k (cp c15 1956) (act 29 [(5, x5), (18, x18), (19, x19), (20, x20), (21, x21)]) h K) (kCode env 15 false inv k (cp c15 1957) (act 29 [(5, x5), (18, x18), (19, x19), (20, x20), (21, x21)]) h K) := kq_cond
theorem r15_7  : kCode env 15 false inv k (cp c15 7832) (act 29 [(5, x5), (18, x18), (19, x19), (20, x20), (21, x21)]) h K =
    bnd (pIndexAddr Try.prog 22 x18 x20) fun x22 =>
    bnd (pLoad Try.prog 9 x22 h) fun x23 =>
    K .normal (act 29 [(5, x5), (7, x23), (18, x18), (19, x19), (20, x20)]) h := kq_reg
theorem r15_8  : kCode env 15 false inv k (cp c15 7833) (act 29 [(5, x5), (7, x7), (18, x18), (19, x19), (20, x20)]) h K =
    bnd (inv (.func 31) #[] #[x5, x7] h) fun x26 =>
    K .normal (act 29 [(5, x26.1), (18, x18), (19, x19), (20, x20)]) x26.2 := kq_reg
theorem r15_9  : kCode env 15 false inv k (cp c15 1959) (act 29 [(5, x5), (18, x18), (19, x19), (20, x20)]) h K =
    bnd (pBin Try.prog .add 3 (.tmp 20) (.const (.int .i64 1)) x20 (.int .i64 1)) fun x27 =>
    K .normal (act 29 [(5, x5), (18, x18), (19, x19), (20, x27)]) h := kq_reg
noncomputable def F15_lrlrrr {β : Type} (inv : Inv) (k : Nat) : Nat → Value → Value → Value → Value → AH → (Value → Value → Value → Value → Value → AH → Option β) → Option β
  | 0, _, _, _, _, _, _ => none
  | j + 1, x5, x18, x19, x20, h, ke0 =>
    bnd (pBin Try.prog .lss 3 (.tmp 20) (.tmp 19) x20 x19) fun x21 =>
    brV x21
    (bnd (pIndexAddr Try.prog 22 x18 x20) fun x22 =>
    bnd (pLoad Try.prog 9 x22 h) fun x23 =>
    bnd (inv (.func 31) #[] #[x5, x23] h) fun x26 =>
    bnd (pBin Try.prog .add 3 (.tmp 20) (.const (.int .i64 1)) x20 (.int .i64 1)) fun x27 =>
    F15_lrlrrr inv k j x26.1 x18 x19 x27 x26.2 ke0)
    (ke0 x5 x18 x19 x20 x21 h)
theorem F15_lrlrrr_j (j : Nat) : kLoop (kCode env 15 false inv k (cp c15 244)) j (act 29 [(5, x5), (18, x18), (19, x19), (20, x20)]) h K = F15_lrlrrr inv k j x5 x18 x19 x20 h (fun y5 y18 y19 y20 y21 h => K (.exit 0) (act 29 [(5, y5), (18, y18), (19, y19), (20, y20), (21, y21)]) h) := by
      induction j generalizing x5 x18 x19 x20 h with
      | zero => rfl
      | succ j ih =>
        unfold F15_lrlrrr
        simp only [kLoop, kq_seq c15 244, r15_6, kq_seq c15 489, b15_lrllrlrrr, kq_skip c15 1956, kq_seq c15 979, kq_block c15 1958 1, kq_seq c15 3916, r15_7, r15_8, r15_9, kq_exit c15 1957 0, ih, reduceIte, reduceCtorEq, XE.exit.injEq, Nat.reduceEqDiff, Nat.reduceMul, Nat.reduceAdd] <;> kernel_rfl
theorem F15_lrlrrr_eq  : kCode env 15 false inv k (cp c15 122) (act 29 [(5, x5), (18, x18), (19, x19), (20, x20)]) h K = F15_lrlrrr inv k k x5 x18 x19 x20 h (fun y5 y18 y19 y20 y21 h => K (.exit 0) (act 29 [(5, y5), (18, y18), (19, y19), (20, y20), (21, y21)]) h) := kq_loop (F15_lrlrrr_j k)
theorem r15_10  : kCode env 15 false inv k (cp c15 62) (act 29 [(5, x5), (18, x18), (19, x19), (20, x20), (21, x21)]) h K =
    K .normal (act 29 [(2, x5), (3, (.int .i64 0))]) h := kq_reg
/-- shadowbook/texts.Plain -/
noncomputable def F15 (inv : Inv) (k : Nat) (x0 : Value) (h : AH) : Option (Value × AH) :=
    bnd (inv (.func 29) #[] #[x0] h) fun x9 =>
    bnd (pBin Try.prog .neq 31 (.tmp 10) (.const (.int .i64 0)) x9.1 (.int .i64 0)) fun x11 =>
    brV x11
    (some (.tuple #[(.slice none 0 0), x9.1], x9.2))
    (bnd (pBuildSlice Try.prog 30 1 #[(0, (.int .u8 1))] x9.2) fun x13 =>
    bnd (pLen Try.prog #[22] x0 x13.2) fun x15 =>
    bnd (pConv Try.prog 3 48 x15 x13.2) fun x16 =>
    bnd (inv (.func 30) #[] #[x13.1, x16] x13.2) fun x17 =>
    bnd (pLen Try.prog #[22] x0 x17.2) fun x19 =>
    F15_lrlrrr inv k k x17.1 x0 x19 (.int .i64 0) x17.2
    (fun y5 y18 y19 y20 y21 h =>
    some (.tuple #[y5, (.int .i64 0)], h)))
theorem F15_eq : eFun env k inv 15 #[x0] h = F15 inv k x0 h := by
      refine (kq_fun (a := act 29 [(0, x0)]) (c := cp c15 1)).trans ?_
      unfold F15
      simp only [kq_seq c15 1, r15_0, kq_seq c15 3, kq_seq c15 6, r15_1, kq_seq c15 13, r15_2, b15_rrlr, kq_seq c15 54, r15_3, kq_ret c15 109, res15_0, kq_skip c15 55, kq_seq c15 7, r15_4, kq_seq c15 15, kq_seq c15 30, r15_5, kq_block c15 61 0, F15_lrlrrr_eq, kq_seq c15 31, r15_10, kq_ret c15 63, reduceIte, reduceCtorEq, XE.exit.injEq, Nat.reduceEqDiff, Nat.reduceMul, Nat.reduceAdd] <;> kernel_rfl
theorem F15_call : eInv env (k + 1) (.func 15) #[] #[x0] h = F15 (eInv env k) k x0 h := kq_inv F15_eq
noncomputable def c16 : Code := codeOf Try.prog 16
theorem r16_0  : kCode env 16 false inv k (cp c16 2) (act 32 [(0, x0)]) h K =
    K .normal (act 32 [(0, x0)]) h := kq_reg
theorem r16_1  : kCode env 16 false inv k (cp c16 6) (act 32 [(0, x0)]) h K =
    bnd (inv (.func 15) #[] #[x0] h) fun x10 =>
    bnd (pExtract x10.1 0) fun x11 =>
    bnd (pExtract x10.1 1) fun x12 =>
    K .normal (act 32 [(0, x0), (4, x11), (5, x12)]) x10.2 := kq_reg
theorem r16_2  : kCode env 16 false inv k (cp c16 28) (act 32 [(0, x0), (4, x4), (5, x5)]) h K =
    bnd (pBin Try.prog .neq 31 (.tmp 13) (.const (.int .i64 0)) x5 (.int .i64 0)) fun x14 =>
    K .normal (act 32 [(0, x0), (4, x4), (5, x5), (14, x14)]) h := kq_reg
theorem b16_rlrr  : kCode env 16 false inv k (cp c16 29) (act 32 [(0, x0), (4, x4), (5, x5), (14, x14)]) h K = brV x14 (kCode env 16 false inv k (cp c16 58) (act 32 [(0, x0), (4, x4), (5, x5), (14, x14)]) h K) (kCode env 16 false inv k (cp c16 59) (act 32 [(0, x0), (4, x4), (5, x5), (14, x14)]) h K) := kq_cond
theorem r16_3  : kCode env 16 false inv k (cp c16 116) (act 32 [(0, x0), (4, x4), (5, x5), (14, x14)]) h K =
    K .normal (act 32 [(2, (.slice none 0 0)), (3, x5)]) h := kq_reg
theorem res16_0 : resOfFn env.P 16 .ret (act 32 [(2, x2), (3, x3)]) h = some (.tuple #[x2, x3], h) := kq_res
theorem r16_4  : kCode env 16 false inv k (cp c16 60) (act 32 [(0, x0), (4, x4), (5, x5), (14, x14)]) h K =
    bnd (inv (.func 17) #[] #[x0] h) fun x18 =>
    bnd (pExtract x18.1 0) fun x19 =>
    bnd (pExtract x18.1 1) fun x20 =>
    K .normal (act 32 [(4, x4), (6, x19), (7, x20)]) x18.2 := kq_reg
noncomputable abbrev G16_5 {β : Type} (inv : Inv) (x4 x6 x7 : Value) (h : AH) (K : Value → AH → Option β) : Option β :=
    bnd (pBin Try.prog .eql 31 (.tmp 21) (.const (.int .i64 0)) x7 (.int .i64 0)) fun x22 =>
    bnd (gd (some x22) true h (some (x6, h))) fun x24 =>
    bnd (gd (some x22) true x24.2 (lt (pLen Try.prog #[30] x24.1 x24.2) x24.2)) fun x25 =>
    bnd (gd (some x22) true x25.2 (some (x4, x25.2))) fun x26 =>
    bnd (gd (some x22) true x26.2 (lt (pLen Try.prog #[30] x26.1 x26.2) x26.2)) fun x27 =>
    bnd (gd (some x22) true x27.2 (lt (pBin Try.prog .lss 3 (.tmp 25) (.tmp 27) x25.1 x27.1) x27.2)) fun x28 =>
    bnd (pickV x22 x28.1 (.bool false)) fun x29 =>
    K (x29) x28.2
theorem r16_5  : kCode env 16 false inv k (cp c16 122) (act 32 [(4, x4), (6, x6), (7, x7)]) h K =
    G16_5 inv x4 x6 x7 h fun y29 h => K .normal (act 32 [(4, x4), (6, x6), (29, y29)]) h := kq_reg
theorem b16_rrlrrr  : kCode env 16 false inv k (cp c16 123) (act 32 [(4, x4), (6, x6), (29, x29)]) h K = brV x29 (kCode env 16 false inv k (cp c16 246) (act 32 [(4, x4), (6, x6), (29, x29)]) h K) (kCode env 16 false inv k (cp c16 247) (act 32 [(4, x4), (6, x6), (29, x29)]) h K) := kq_cond
theorem r16_6  : kCode env 16 false inv k (cp c16 492) (act 32 [(4, x4), (6, x6), (29, x29)]) h K =
    K .normal (act 32 [(2, x6), (3, (.int .i64 0))]) h := kq_reg
theorem r16_7  : kCode env 16 false inv k (cp c16 62) (act 32 [(4, x4), (6, x6), (29, x29)]) h K =
    K .normal (act 32 [(2, x4), (3, (.int .i64 0))]) h := kq_reg
/-- shadowbook/texts.Put -/
noncomputable def F16 (inv : Inv) (k : Nat) (x0 : Value) (h : AH) : Option (Value × AH) :=
    bnd (inv (.func 15) #[] #[x0] h) fun x10 =>
    bnd (pExtract x10.1 0) fun x11 =>
    bnd (pExtract x10.1 1) fun x12 =>
    bnd (pBin Try.prog .neq 31 (.tmp 13) (.const (.int .i64 0)) x12 (.int .i64 0)) fun x14 =>
    brV x14
    (some (.tuple #[(.slice none 0 0), x12], x10.2))
    (bnd (inv (.func 17) #[] #[x0] x10.2) fun x18 =>
    bnd (pExtract x18.1 0) fun x19 =>
    bnd (pExtract x18.1 1) fun x20 =>
    G16_5 inv x11 x19 x20 x18.2 fun y29 h =>
    brV y29
    (some (.tuple #[x19, (.int .i64 0)], h))
    (some (.tuple #[x11, (.int .i64 0)], h)))
theorem F16_eq : eFun env k inv 16 #[x0] h = F16 inv k x0 h := by
      refine (kq_fun (a := act 32 [(0, x0)]) (c := cp c16 1)).trans ?_
      unfold F16
      simp only [kq_seq c16 1, r16_0, kq_seq c16 3, r16_1, kq_seq c16 7, kq_seq c16 14, r16_2, b16_rlrr, kq_seq c16 58, r16_3, kq_ret c16 117, res16_0, kq_skip c16 59, kq_seq c16 15, kq_seq c16 30, r16_4, kq_seq c16 61, r16_5, b16_rrlrrr, kq_seq c16 246, r16_6, kq_ret c16 493, kq_skip c16 247, kq_seq c16 31, r16_7, kq_ret c16 63, reduceIte, reduceCtorEq, XE.exit.injEq, Nat.reduceEqDiff, Nat.reduceMul, Nat.reduceAdd] <;> kernel_rfl
theorem F16_call : eInv env (k + 1) (.func 16) #[] #[x0] h = F16 (eInv env k) k x0 h := kq_inv F16_eq
noncomputable def c17 : Code := codeOf Try.prog 17
theorem r17_0  : kCode env 17 false inv k (cp c17 2) (act 79 [(0, x0)]) h K =
    K .normal (act 79 [(0, x0)]) h := kq_reg
theorem r17_1  : kCode env 17 false inv k (cp c17 12) (act 79 [(0, x0)]) h K =
    bnd (inv (.func 29) #[] #[x0] h) fun x18 =>
    K .normal (act 79 [(0, x0), (4, x18.1)]) x18.2 := kq_reg
theorem r17_2  : kCode env 17 false inv k (cp c17 26) (act 79 [(0, x0), (4, x4)]) h K =
    bnd (pBin Try.prog .neq 31 (.tmp 19) (.const (.int .i64 0)) x4 (.int .i64 0)) fun x20 =>
    K .normal (act 79 [(0, x0), (4, x4), (20, x20)]) h := kq_reg
theorem b17_rrlr  : kCode env 17 false inv k (cp c17 27) (act 79 [(0, x0), (4, x4), (20, x20)]) h K = brV x20 (kCode env 17 false inv k (cp c17 54) (act 79 [(0, x0), (4, x4), (20, x20)]) h K) (kCode env 17 false inv k (cp c17 55) (act 79 [(0, x0), (4, x4), (20, x20)]) h K) := kq_cond
theorem r17_3  : kCode env 17 false inv k (cp c17 108) (act 79 [(0, x0), (4, x4), (20, x20)]) h K =
    K .normal (act 79 [(2, (.slice none 0 0)), (3, x4)]) h := kq_reg
theorem res17_0 : resOfFn env.P 17 .ret (act 79 [(2, x2), (3, x3)]) h = some (.tuple #[x2, x3], h) := kq_res
theorem r17_4  : kCode env 17 false inv k (cp c17 14) (act 79 [(0, x0), (4, x4), (20, x20)]) h K =
    bnd (inv (.func 10) #[] #[x0] h) fun x23 =>
    K .normal (act 79 [(0, x0), (5, x23.1)]) x23.2 := kq_reg
theorem r17_5  : kCode env 17 false inv k (cp c17 30) (act 79 [(0, x0), (5, x5)]) h K =
    bnd (pBuildSlice Try.prog 30 1 #[(0, (.int .u8 2))] h) fun x24 =>
    bnd (pLen Try.prog #[22] x0 x24.2) fun x26 =>
    bnd (pConv Try.prog 3 48 x26 x24.2) fun x27 =>
    bnd (inv (.func 30) #[] #[x24.1, x27] x24.2) fun x28 =>
    bnd (pLen Try.prog #[22] x5 x28.2) fun x30 =>
    bnd (pConv Try.prog 3 48 x30 x28.2) fun x31 =>
    bnd (inv (.func 30) #[] #[x28.1, x31] x28.2) fun x32 =>
    K .normal (act 79 [(0, x0), (5, x5), (6, x32.1)]) x32.2 := kq_reg
theorem r17_6  : kCode env 17 false inv k (cp c17 124) (act 79 [(0, x0), (5, x5), (6, x6)]) h K =
    bnd (pLen Try.prog #[22] x5 h) fun x34 =>
    K .normal (act 79 [(0, x0), (5, x5), (6, x6), (33, x5), (34, x34), (35, (.int .i64 0))]) h := kq_reg
theorem r17_7  : kCode env 17 false inv k (cp c17 1000) (act 79 [(0, x0), (5, x5), (6, x6), (33, x33), (34, x34), (35, x35)]) h K =
    bnd (pBin Try.prog .lss 3 (.tmp 35) (.tmp 34) x35 x34) fun x36 =>
    K .normal (act 79 [(0, x0), (5, x5), (6, x6), (33, x33), (34, x34), (35, x35), (36, x36)]) h := kq_reg
theorem b17_lrllrlrrrr  : kCode env 17 false inv k (cp c17 2002) (act 79 [(0, x0), (5, x5), (6, x6), (33, x33), (34, x34), (35, x35), (36, x36)]) h K = brV x36 (kCode env 17 false inv k (cp c17 4004) (act 79 [(0, x0), (5, x5), (6, x6), (33, x33), (34, x34), (35, x35), (36, x36)]) h K) (kCode env 17 false inv k (cp c17 4005) (act 79 [(0, x0), (5, x5), (6, x6), (33, x33), (34, x34), (35, x35), (36, x36)]) h K) := kq_cond
theorem r17_8  : kCode env 17 false inv k (cp c17 16024) (act 79 [(0, x0), (5, x5), (6, x6), (33, x33), (34, x34), (35, x35), (36, x36)]) h K =
    bnd (pIndexAddr Try.prog 22 x33 x35) fun x37 =>
    bnd (pLoad Try.prog 9 x37 h) fun x38 =>
    K .normal (act 79 [(0, x0), (5, x5), (6, x6), (8, x38), (33, x33), (34, x34), (35, x35)]) h := kq_reg
theorem r17_9  : kCode env 17 false inv k (cp c17 16025) (act 79 [(0, x0), (5, x5), (6, x6), (8, x8), (33, x33), (34, x34), (35, x35)]) h K =
    bnd (inv (.func 31) #[] #[x6, x8] h) fun x41 =>
    K .normal (act 79 [(0, x0), (5, x5), (6, x41.1), (33, x33), (34, x34), (35, x35)]) x41.2 := kq_reg
theorem r17_10  : kCode env 17 false inv k (cp c17 4007) (act 79 [(0, x0), (5, x5), (6, x6), (33, x33), (34, x34), (35, x35)]) h K =
    bnd (pBin Try.prog .add 3 (.tmp 35) (.const (.int .i64 1)) x35 (.int .i64 1)) fun x42 =>
    K .normal (act 79 [(0, x0), (5, x5), (6, x6), (33, x33), (34, x34), (35, x42)]) h := kq_reg
noncomputable def F17_lrlrrrr {β : Type} (inv : Inv) (k : Nat) : Nat → Value → Value → Value → Value → Value → Value → AH → (Value → Value → Value → Value → Value → Value → Value → AH → Option β) → Option β
  | 0, _, _, _, _, _, _, _, _ => none
  | j + 1, x0, x5, x6, x33, x34, x35, h, ke0 =>
    bnd (pBin Try.prog .lss 3 (.tmp 35) (.tmp 34) x35 x34) fun x36 =>
    brV x36
    (bnd (pIndexAddr Try.prog 22 x33 x35) fun x37 =>
    bnd (pLoad Try.prog 9 x37 h) fun x38 =>
    bnd (inv (.func 31) #[] #[x6, x38] h) fun x41 =>
    bnd (pBin Try.prog .add 3 (.tmp 35) (.const (.int .i64 1)) x35 (.int .i64 1)) fun x42 =>
    F17_lrlrrrr inv k j x0 x5 x41.1 x33 x34 x42 x41.2 ke0)
    (ke0 x0 x5 x6 x33 x34 x35 x36 h)
theorem F17_lrlrrrr_j (j : Nat) : kLoop (kCode env 17 false inv k (cp c17 500)) j (act 79 [(0, x0), (5, x5), (6, x6), (33, x33), (34, x34), (35, x35)]) h K = F17_lrlrrrr inv k j x0 x5 x6 x33 x34 x35 h (fun y0 y5 y6 y33 y34 y35 y36 h => K (.exit 0) (act 79 [(0, y0), (5, y5), (6, y6), (33, y33), (34, y34), (35, y35), (36, y36)]) h) := by
      induction j generalizing x0 x5 x6 x33 x34 x35 h with
      | zero => rfl
      | succ j ih =>
        unfold F17_lrlrrrr
        simp only [kLoop, kq_seq c17 500, r17_7, kq_seq c17 1001, b17_lrllrlrrrr, kq_skip c17 4004, kq_seq c17 2003, kq_block c17 4006 1, kq_seq c17 8012, r17_8, r17_9, r17_10, kq_exit c17 4005 0, ih, reduceIte, reduceCtorEq, XE.exit.injEq, Nat.reduceEqDiff, Nat.reduceMul, Nat.reduceAdd] <;> kernel_rfl
theorem F17_lrlrrrr_eq  : kCode env 17 false inv k (cp c17 250) (act 79 [(0, x0), (5, x5), (6, x6), (33, x33), (34, x34), (35, x35)]) h K = F17_lrlrrrr inv k k x0 x5 x6 x33 x34 x35 h (fun y0 y5 y6 y33 y34 y35 y36 h => K (.exit 0) (act 79 [(0, y0), (5, y5), (6, y6), (33, y33), (34, y34), (35, y35), (36, y36)]) h) := kq_loop (F17_lrlrrrr_j k)
theorem r17_11  : kCode env 17 false inv k (cp c17 126) (act 79 [(0, x0), (5, x5), (6, x6), (33, x33), (34, x34), (35, x35), (36, x36)]) h K =
    K .normal (act 79 [(0, x0), (5, x5), (6, x6), (9, (.slice none 0 0))]) h := kq_reg
theorem r17_12  : kCode env 17 false inv k (cp c17 508) (act 79 [(0, x0), (5, x5), (6, x6), (9, x9)]) h K =
    bnd (pLen Try.prog #[22] x0 h) fun x44 =>
    K .normal (act 79 [(5, x5), (6, x6), (9, x9), (43, x0), (44, x44), (45, (.int .i64 0))]) h := kq_reg
theorem r17_13  : kCode env 17 false inv k (cp c17 4072) (act 79 [(5, x5), (6, x6), (9, x9), (43, x43), (44, x44), (45, x45)]) h K =
    bnd (pBin Try.prog .lss 3 (.tmp 45) (.tmp 44) x45 x44) fun x46 =>
    K .normal (act 79 [(5, x5), (6, x6), (9, x9), (43, x43), (44, x44), (45, x45), (46, x46)]) h := kq_reg
theorem b17_lrllrlrrrrrr  : kCode env 17 false inv k (cp c17 8146) (act 79 [(5, x5), (6, x6), (9, x9), (43, x43), (44, x44), (45, x45), (46, x46)]) h K = brV x46 (kCode env 17 false inv k (cp c17 16292) (act 79 [(5, x5), (6, x6), (9, x9), (43, x43), (44, x44), (45, x45), (46, x46)]) h K) (kCode env 17 false inv k (cp c17 16293) (act 79 [(5, x5), (6, x6), (9, x9), (43, x43), (44, x44), (45, x45), (46, x46)]) h K) := kq_cond
theorem r17_14  : kCode env 17 false inv k (cp c17 65176) (act 79 [(5, x5), (6, x6), (9, x9), (43, x43), (44, x44), (45, x45), (46, x46)]) h K =
    bnd (pIndexAddr Try.prog 22 x43 x45) fun x47 =>
    bnd (pLoad Try.prog 9 x47 h) fun x48 =>
    K .normal (act 79 [(5, x5), (6, x6), (9, x9), (11, x48), (43, x43), (44, x44), (45, x45)]) h := kq_reg
theorem r17_15  : kCode env 17 false inv k (cp c17 130354) (act 79 [(5, x5), (6, x6), (9, x9), (11, x11), (43, x43), (44, x44), (45, x45)]) h K =
    bnd (inv (.func 32) #[] #[x5, x11] h) fun x52 =>
    bnd (pExtract x52.1 0) fun x53 =>
    bnd (pExtract x52.1 1) fun x54 =>
    K .normal (act 79 [(5, x5), (6, x6), (9, x9), (12, x53), (43, x43), (44, x44), (45, x45)]) x52.2 := kq_reg
theorem r17_16  : kCode env 17 false inv k (cp c17 130355) (act 79 [(5, x5), (6, x6), (9, x9), (12, x12), (43, x43), (44, x44), (45, x45)]) h K =
    bnd (pConv Try.prog 3 48 x12 h) fun x57 =>
    bnd (pBuildSlice Try.prog 50 1 #[(0, x57)] h) fun x58 =>
    bnd (pAppend Try.prog #[50, 50] x9 x58.1 x58.2) fun x59 =>
    K .normal (act 79 [(5, x5), (6, x6), (9, x59.1), (43, x43), (44, x44), (45, x45)]) x59.2 := kq_reg
theorem r17_17  : kCode env 17 false inv k (cp c17 16295) (act 79 [(5, x5), (6, x6), (9, x9), (43, x43), (44, x44), (45, x45)]) h K =
    bnd (pBin Try.prog .add 3 (.tmp 45) (.const (.int .i64 1)) x45 (.int .i64 1)) fun x60 =>
    K .normal (act 79 [(5, x5), (6, x6), (9, x9), (43, x43), (44, x44), (45, x60)]) h := kq_reg
noncomputable def F17_lrlrrrrrr {β : Type} (inv : Inv) (k : Nat) : Nat → Value → Value → Value → Value → Value → Value → AH → (Value → Value → Value → Value → Value → Value → Value → AH → Option β) → Option β
  | 0, _, _, _, _, _, _, _, _ => none
  | j + 1, x5, x6, x9, x43, x44, x45, h, ke2 =>
    bnd (pBin Try.prog .lss 3 (.tmp 45) (.tmp 44) x45 x44) fun x46 =>
    brV x46
    (bnd (pIndexAddr Try.prog 22 x43 x45) fun x47 =>
    bnd (pLoad Try.prog 9 x47 h) fun x48 =>
    bnd (inv (.func 32) #[] #[x5, x48] h) fun x52 =>
    bnd (pExtract x52.1 0) fun x53 =>
    bnd (pExtract x52.1 1) fun x54 =>
    bnd (pConv Try.prog 3 48 x53 x52.2) fun x57 =>
    bnd (pBuildSlice Try.prog 50 1 #[(0, x57)] x52.2) fun x58 =>
    bnd (pAppend Try.prog #[50, 50] x9 x58.1 x58.2) fun x59 =>
    bnd (pBin Try.prog .add 3 (.tmp 45) (.const (.int .i64 1)) x45 (.int .i64 1)) fun x60 =>
    F17_lrlrrrrrr inv k j x5 x6 x59.1 x43 x44 x60 x59.2 ke2)
    (ke2 x5 x6 x9 x43 x44 x45 x46 h)
theorem F17_lrlrrrrrr_j (j : Nat) : kLoop (kCode env 17 false inv k (cp c17 2036)) j (act 79 [(5, x5), (6, x6), (9, x9), (43, x43), (44, x44), (45, x45)]) h K = F17_lrlrrrrrr inv k j x5 x6 x9 x43 x44 x45 h (fun y5 y6 y9 y43 y44 y45 y46 h => K (.exit 2) (act 79 [(5, y5), (6, y6), (9, y9), (43, y43), (44, y44), (45, y45), (46, y46)]) h) := by
      induction j generalizing x5 x6 x9 x43 x44 x45 h with
      | zero => rfl
      | succ j ih =>
        unfold F17_lrlrrrrrr
        simp only [kLoop, kq_seq c17 2036, r17_13, kq_seq c17 4073, b17_lrllrlrrrrrr, kq_skip c17 16292, kq_seq c17 8147, kq_block c17 16294 3, kq_seq c17 32588, r17_14, kq_seq c17 65177, r17_15, r17_16, r17_17, kq_exit c17 16293 2, ih, reduceIte, reduceCtorEq, XE.exit.injEq, Nat.reduceEqDiff, Nat.reduceMul, Nat.reduceAdd] <;> kernel_rfl
theorem F17_lrlrrrrrr_eq  : kCode env 17 false inv k (cp c17 1018) (act 79 [(5, x5), (6, x6), (9, x9), (43, x43), (44, x44), (45, x45)]) h K = F17_lrlrrrrrr inv k k x5 x6 x9 x43 x44 x45 h (fun y5 y6 y9 y43 y44 y45 y46 h => K (.exit 2) (act 79 [(5, y5), (6, y6), (9, y9), (43, y43), (44, y44), (45, y45), (46, y46)]) h) := kq_loop (F17_lrlrrrrrr_j k)
theorem r17_18  : kCode env 17 false inv k (cp c17 510) (act 79 [(5, x5), (6, x6), (9, x9), (43, x43), (44, x44), (45, x45), (46, x46)]) h K =
    bnd (inv (.func 33) #[] #[x9] h) fun x62 =>
    K .normal (act 79 [(6, x6), (9, x9), (14, x62.1)]) x62.2 := kq_reg
theorem r17_19  : kCode env 17 false inv k (cp c17 1022) (act 79 [(6, x6), (9, x9), (14, x14)]) h K =
    bnd (inv (.func 34) #[] #[x9, x14] h) fun x66 =>
    bnd (pExtract x66.1 0) fun x67 =>
    bnd (pExtract x66.1 1) fun x68 =>
    K .normal (act 79 [(6, x6), (14, x14), (15, x67), (16, x68)]) x66.2 := kq_reg
theorem r17_20  : kCode env 17 false inv k (cp c17 4092) (act 79 [(6, x6), (14, x14), (15, x15), (16, x16)]) h K =
    bnd (pBin Try.prog .neq 31 (.tmp 69) (.const (.int .i64 0)) x16 (.int .i64 0)) fun x70 =>
    K .normal (act 79 [(6, x6), (14, x14), (15, x15), (16, x16), (70, x70)]) h := kq_reg
theorem b17_rlrrrrrrrrr  : kCode env 17 false inv k (cp c17 4093) (act 79 [(6, x6), (14, x14), (15, x15), (16, x16), (70, x70)]) h K = brV x70 (kCode env 17 false inv k (cp c17 8186) (act 79 [(6, x6), (14, x14), (15, x15), (16, x16), (70, x70)]) h K) (kCode env 17 false inv k (cp c17 8187) (act 79 [(6, x6), (14, x14), (15, x15), (16, x16), (70, x70)]) h K) := kq_cond
theorem r17_21  : kCode env 17 false inv k (cp c17 16372) (act 79 [(6, x6), (14, x14), (15, x15), (16, x16), (70, x70)]) h K =
    K .normal (act 79 [(2, (.slice none 0 0)), (3, x16)]) h := kq_reg
theorem r17_22  : kCode env 17 false inv k (cp c17 4094) (act 79 [(6, x6), (14, x14), (15, x15), (16, x16), (70, x70)]) h K =
    bnd (pConv Try.prog 3 5 x14 h) fun x74 =>
    bnd (pBuildSlice Try.prog 30 1 #[(0, x74)] h) fun x75 =>
    bnd (pAppend Try.prog #[30, 30] x6 x75.1 x75.2) fun x76 =>
    bnd (pAppend Try.prog #[30, 30] x76.1 x15 x76.2) fun x78 =>
    K .normal (act 79 [(2, x78.1), (3, (.int .i64 0))]) x78.2 := kq_reg
/-- shadowbook/texts.Dict -/
noncomputable def F17 (inv : Inv) (k : Nat) (x0 : Value) (h : AH) : Option (Value × AH) :=
    bnd (inv (.func 29) #[] #[x0] h) fun x18 =>
    bnd (pBin Try.prog .neq 31 (.tmp 19) (.const (.int .i64 0)) x18.1 (.int .i64 0)) fun x20 =>
    brV x20
    (some (.tuple #[(.slice none 0 0), x18.1], x18.2))
    (bnd (inv (.func 10) #[] #[x0] x18.2) fun x23 =>
    bnd (pBuildSlice Try.prog 30 1 #[(0, (.int .u8 2))] x23.2) fun x24 =>
    bnd (pLen Try.prog #[22] x0 x24.2) fun x26 =>
    bnd (pConv Try.prog 3 48 x26 x24.2) fun x27 =>
    bnd (inv (.func 30) #[] #[x24.1, x27] x24.2) fun x28 =>
    bnd (pLen Try.prog #[22] x23.1 x28.2) fun x30 =>
    bnd (pConv Try.prog 3 48 x30 x28.2) fun x31 =>
    bnd (inv (.func 30) #[] #[x28.1, x31] x28.2) fun x32 =>
    bnd (pLen Try.prog #[22] x23.1 x32.2) fun x34 =>
    F17_lrlrrrr inv k k x0 x23.1 x32.1 x23.1 x34 (.int .i64 0) x32.2
    (fun y0 y5 y6 y33 y34 y35 y36 h =>
    bnd (pLen Try.prog #[22] y0 h) fun x44 =>
    F17_lrlrrrrrr inv k k y5 y6 (.slice none 0 0) y0 x44 (.int .i64 0) h
    (fun y5_1 y6_2 y9 y43 y44 y45 y46 h_3 =>
    bnd (inv (.func 33) #[] #[y9] h_3) fun x62 =>
    bnd (inv (.func 34) #[] #[y9, x62.1] x62.2) fun x66 =>
    bnd (pExtract x66.1 0) fun x67 =>
    bnd (pExtract x66.1 1) fun x68 =>
    bnd (pBin Try.prog .neq 31 (.tmp 69) (.const (.int .i64 0)) x68 (.int .i64 0)) fun x70 =>
    brV x70
    (some (.tuple #[(.slice none 0 0), x68], x66.2))
    (bnd (pConv Try.prog 3 5 x62.1 x66.2) fun x74 =>
    bnd (pBuildSlice Try.prog 30 1 #[(0, x74)] x66.2) fun x75 =>
    bnd (pAppend Try.prog #[30, 30] y6_2 x75.1 x75.2) fun x76 =>
    bnd (pAppend Try.prog #[30, 30] x76.1 x67 x76.2) fun x78 =>
    some (.tuple #[x78.1, (.int .i64 0)], x78.2)))))
theorem F17_eq : eFun env k inv 17 #[x0] h = F17 inv k x0 h := by
      refine (kq_fun (a := act 79 [(0, x0)]) (c := cp c17 1)).trans ?_
      unfold F17
      simp only [kq_seq c17 1, r17_0, kq_seq c17 3, kq_seq c17 6, r17_1, kq_seq c17 13, r17_2, b17_rrlr, kq_seq c17 54, r17_3, kq_ret c17 109, res17_0, kq_skip c17 55, kq_seq c17 7, r17_4, kq_seq c17 15, r17_5, kq_seq c17 31, kq_seq c17 62, r17_6, kq_block c17 125 0, F17_lrlrrrr_eq, kq_seq c17 63, r17_11, kq_seq c17 127, kq_seq c17 254, r17_12, kq_block c17 509 2, F17_lrlrrrrrr_eq, kq_seq c17 255, r17_18, kq_seq c17 511, r17_19, kq_seq c17 1023, kq_seq c17 2046, r17_20, b17_rlrrrrrrrrr, kq_seq c17 8186, r17_21, kq_ret c17 16373, kq_skip c17 8187, kq_seq c17 2047, r17_22, kq_ret c17 4095, reduceIte, reduceCtorEq, XE.exit.injEq, Nat.reduceEqDiff, Nat.reduceMul, Nat.reduceAdd] <;> kernel_rfl
theorem F17_call : eInv env (k + 1) (.func 17) #[] #[x0] h = F17 (eInv env k) k x0 h := kq_inv F17_eq
noncomputable def c18 : Code := codeOf Try.prog 18
theorem r18_0  : kCode env 18 false inv k (cp c18 2) (act 66 [(0, x0)]) h K =
    K .normal (act 66 [(0, x0), (2, (.slice none 0 0))]) h := kq_reg
theorem r18_1  : kCode env 18 false inv k (cp c18 6) (act 66 [(0, x0), (2, x2)]) h K =
    bnd (inv (.func 35) #[] #[x0] h) fun x10 =>
    K .normal (act 66 [(0, x0), (2, x2), (4, x10.1)]) x10.2 := kq_reg
theorem r18_2  : kCode env 18 false inv k (cp c18 14) (act 66 [(0, x0), (2, x2), (4, x4)]) h K =
    bnd (inv (.func 36) #[] #[x4, (.int .i64 1)] h) fun x13 =>
    bnd (pExtract x13.1 0) fun x14 =>
    bnd (pExtract x13.1 1) fun x15 =>
    K .normal (act 66 [(0, x0), (2, x2), (3, x15), (4, x4), (5, x14)]) x13.2 := kq_reg
theorem r18_3  : kCode env 18 false inv k (cp c18 60) (act 66 [(0, x0), (2, x2), (3, x3), (4, x4), (5, x5)]) h K =
    bnd (pBin Try.prog .neq 31 (.tmp 16) (.const (.int .i64 0)) x3 (.int .i64 0)) fun x17 =>
    K .normal (act 66 [(0, x0), (2, x2), (4, x4), (5, x5), (17, x17)]) h := kq_reg
theorem b18_rlrrr  : kCode env 18 false inv k (cp c18 61) (act 66 [(0, x0), (2, x2), (4, x4), (5, x5), (17, x17)]) h K = brV x17 (kCode env 18 false inv k (cp c18 122) (act 66 [(0, x0), (2, x2), (4, x4), (5, x5), (17, x17)]) h K) (kCode env 18 false inv k (cp c18 123) (act 66 [(0, x0), (2, x2), (4, x4), (5, x5), (17, x17)]) h K) := kq_cond
theorem r18_4  : kCode env 18 false inv k (cp c18 244) (act 66 [(0, x0), (2, x2), (4, x4), (5, x5), (17, x17)]) h K =
    K .normal (act 66 [(2, (.slice none 0 0)), (3, (.int .i64 4))]) h := kq_reg
theorem res18_0 : resOfFn env.P 18 .ret (act 66 [(2, x2), (3, x3)]) h = some (.tuple #[x2, x3], h) := kq_res
theorem r18_5  : kCode env 18 false inv k (cp c18 62) (act 66 [(0, x0), (2, x2), (4, x4), (5, x5), (17, x17)]) h K =
    bnd (inv (.func 37) #[] #[x4] h) fun x20 =>
    bnd (pExtract x20.1 0) fun x21 =>
    bnd (pExtract x20.1 1) fun x22 =>
    K .normal (act 66 [(0, x0), (2, x2), (3, x22), (4, x4), (5, x5), (6, x21)]) x20.2 := kq_reg
noncomputable abbrev G18_6 {β : Type} (inv : Inv) (x0 x2 x3 x4 x5 x6 : Value) (h : AH) (K : Value → AH → Option β) : Option β :=
    bnd (pBin Try.prog .neq 31 (.tmp 23) (.const (.int .i64 0)) x3 (.int .i64 0)) fun x24 =>
    bnd (gd (some x24) false h (some (x6, h))) fun x26 =>
    bnd (gd (some x24) false x26.2 (lt (pBin Try.prog .gtr 48 (.tmp 26) (.const (.int .u64 4096)) x26.1 (.int .u64 4096)) x26.2)) fun x27 =>
    bnd (pickV x24 (.bool true) x27.1) fun x28 =>
    K (x28) x27.2
theorem r18_6  : kCode env 18 false inv k (cp c18 252) (act 66 [(0, x0), (2, x2), (3, x3), (4, x4), (5, x5), (6, x6)]) h K =
    G18_6 inv x0 x2 x3 x4 x5 x6 h fun y28 h => K .normal (act 66 [(0, x0), (2, x2), (4, x4), (5, x5), (6, x6), (28, y28)]) h := kq_reg
theorem b18_rlrrrrr  : kCode env 18 false inv k (cp c18 253) (act 66 [(0, x0), (2, x2), (4, x4), (5, x5), (6, x6), (28, x28)]) h K = brV x28 (kCode env 18 false inv k (cp c18 506) (act 66 [(0, x0), (2, x2), (4, x4), (5, x5), (6, x6), (28, x28)]) h K) (kCode env 18 false inv k (cp c18 507) (act 66 [(0, x0), (2, x2), (4, x4), (5, x5), (6, x6), (28, x28)]) h K) := kq_cond
theorem r18_7  : kCode env 18 false inv k (cp c18 1012) (act 66 [(0, x0), (2, x2), (4, x4), (5, x5), (6, x6), (28, x28)]) h K =
    K .normal (act 66 [(2, (.slice none 0 0)), (3, (.int .i64 4))]) h := kq_reg
theorem r18_8  : kCode env 18 false inv k (cp c18 254) (act 66 [(0, x0), (2, x2), (4, x4), (5, x5), (6, x6), (28, x28)]) h K =
    K .normal (act 66 [(0, x0), (2, x2), (4, x4), (5, x5), (6, x6), (7, (.bool false))]) h := kq_reg
theorem r18_9  : kCode env 18 false inv k (cp c18 510) (act 66 [(0, x0), (2, x2), (4, x4), (5, x5), (6, x6), (7, x7)]) h K =
    K .normal (act 66 [(0, x0), (2, x2), (4, x4), (5, x5), (6, x6), (7, x7), (8, (.slice none 0 0))]) h := kq_reg
theorem r18_10  : kCode env 18 false inv k (cp c18 2044) (act 66 [(0, x0), (2, x2), (4, x4), (5, x5), (6, x6), (7, x7), (8, x8)]) h K =
    K .normal (act 66 [(0, x0), (2, x2), (4, x4), (6, x6), (7, x7), (8, x8), (29, x5)]) h := kq_reg
theorem r18_11  : kCode env 18 false inv k (cp c18 8180) (act 66 [(0, x0), (2, x2), (4, x4), (6, x6), (7, x7), (8, x8), (29, x29)]) h K =
    bnd (pBin Try.prog .eql 48 (.tmp 29) (.const (.int .u64 1)) x29 (.int .u64 1)) fun x31 =>
    K .normal (act 66 [(0, x0), (2, x2), (4, x4), (6, x6), (7, x7), (8, x8), (29, x29), (30, x31)]) h := kq_reg
theorem b18_rlrlrrrrrrrr  : kCode env 18 false inv k (cp c18 8181) (act 66 [(0, x0), (2, x2), (4, x4), (6, x6), (7, x7), (8, x8), (29, x29), (30, x30)]) h K = brV x30 (kCode env 18 false inv k (cp c18 16362) (act 66 [(0, x0), (2, x2), (4, x4), (6, x6), (7, x7), (8, x8), (29, x29), (30, x30)]) h K) (kCode env 18 false inv k (cp c18 16363) (act 66 [(0, x0), (2, x2), (4, x4), (6, x6), (7, x7), (8, x8), (29, x29), (30, x30)]) h K) := kq_cond
theorem r18_12  : kCode env 18 false inv k (cp c18 32724) (act 66 [(0, x0), (2, x2), (4, x4), (6, x6), (7, x7), (8, x8), (29, x29), (30, x30)]) h K =
    bnd (inv (.func 38) #[] #[x4, x6] h) fun x35 =>
    bnd (pExtract x35.1 0) fun x36 =>
    bnd (pExtract x35.1 1) fun x37 =>
    K .normal (act 66 [(0, x0), (2, x36), (7, x37)]) x35.2 := kq_reg
theorem r18_13  : kCode env 18 false inv k (cp c18 32725) (act 66 [(0, x0), (2, x2), (7, x7)]) h K =
    bnd (inv (.func 15) #[] #[x2] h) fun x40 =>
    bnd (pExtract x40.1 0) fun x41 =>
    bnd (pExtract x40.1 1) fun x42 =>
    K .normal (act 66 [(0, x0), (2, x2), (7, x7), (8, x41)]) x40.2 := kq_reg
theorem r18_14  : kCode env 18 false inv k (cp c18 32726) (act 66 [(0, x0), (2, x2), (4, x4), (6, x6), (7, x7), (8, x8), (29, x29), (30, x30)]) h K =
    bnd (pBin Try.prog .eql 48 (.tmp 29) (.const (.int .u64 2)) x29 (.int .u64 2)) fun x44 =>
    K .normal (act 66 [(0, x0), (2, x2), (4, x4), (6, x6), (7, x7), (8, x8), (43, x44)]) h := kq_reg
theorem b18_rrrlrlrrrrrrrr  : kCode env 18 false inv k (cp c18 32727) (act 66 [(0, x0), (2, x2), (4, x4), (6, x6), (7, x7), (8, x8), (43, x43)]) h K = brV x43 (kCode env 18 false inv k (cp c18 65454) (act 66 [(0, x0), (2, x2), (4, x4), (6, x6), (7, x7), (8, x8), (43, x43)]) h K) (kCode env 18 false inv k (cp c18 65455) (act 66 [(0, x0), (2, x2), (4, x4), (6, x6), (7, x7), (8, x8), (43, x43)]) h K) := kq_cond
theorem r18_15  : kCode env 18 false inv k (cp c18 130908) (act 66 [(0, x0), (2, x2), (4, x4), (6, x6), (7, x7), (8, x8), (43, x43)]) h K =
    bnd (pConv Try.prog 48 3 x6 h) fun x48 =>
    bnd (inv (.func 39) #[] #[x4, x48] h) fun x49 =>
    bnd (pExtract x49.1 0) fun x50 =>
    bnd (pExtract x49.1 1) fun x51 =>
    K .normal (act 66 [(0, x0), (2, x50), (7, x51)]) x49.2 := kq_reg
theorem r18_16  : kCode env 18 false inv k (cp c18 130909) (act 66 [(0, x0), (2, x2), (7, x7)]) h K =
    bnd (inv (.func 17) #[] #[x2] h) fun x54 =>
    bnd (pExtract x54.1 0) fun x55 =>
    bnd (pExtract x54.1 1) fun x56 =>
    K .normal (act 66 [(0, x0), (2, x2), (7, x7), (8, x55)]) x54.2 := kq_reg
noncomputable def F18_rlrrrrrrrr {β : Type} (inv : Inv) (k : Nat) (x0 x2 x4 x6 x7 x8 x29 : Value) (h : AH) (kn : (Value → Value → Value → Value → Value → Value → Value → AH → Option β)) : Option β :=
    bnd (pBin Try.prog .eql 48 (.tmp 29) (.const (.int .u64 1)) x29 (.int .u64 1)) fun x31 =>
    brV x31
    (bnd (inv (.func 38) #[] #[x4, x6] h) fun x35 =>
    bnd (pExtract x35.1 0) fun x36 =>
    bnd (pExtract x35.1 1) fun x37 =>
    bnd (inv (.func 15) #[] #[x36] x35.2) fun x40 =>
    bnd (pExtract x40.1 0) fun x41 =>
    bnd (pExtract x40.1 1) fun x42 =>
    kn x0 x36 unk unk x37 x41 unk x40.2)
    (bnd (pBin Try.prog .eql 48 (.tmp 29) (.const (.int .u64 2)) x29 (.int .u64 2)) fun x44 =>
    brV x44
    (bnd (pConv Try.prog 48 3 x6 h) fun x48 =>
    bnd (inv (.func 39) #[] #[x4, x48] h) fun x49 =>
    bnd (pExtract x49.1 0) fun x50 =>
    bnd (pExtract x49.1 1) fun x51 =>
    bnd (inv (.func 17) #[] #[x50] x49.2) fun x54 =>
    bnd (pExtract x54.1 0) fun x55 =>
    bnd (pExtract x54.1 1) fun x56 =>
    kn x0 x50 unk unk x51 x55 unk x54.2)
    (kn x0 x2 x4 x6 x7 x8 x44 h))
theorem F18_rlrrrrrrrr_eq  : kCode env 18 false inv k (cp c18 2045) (act 66 [(0, x0), (2, x2), (4, x4), (6, x6), (7, x7), (8, x8), (29, x29)]) h K = F18_rlrrrrrrrr inv k x0 x2 x4 x6 x7 x8 x29 h (fun y0 y2 y4 y6 y7 y8 y43 h => K .normal (act 66 [(0, y0), (2, y2), (4, y4), (6, y6), (7, y7), (8, y8), (43, y43)]) h) := by
      unfold F18_rlrrrrrrrr
      simp only [kq_block c18 2045 0, kq_seq c18 4090, r18_11, b18_rlrlrrrrrrrr, kq_seq c18 16362, r18_12, r18_13, kq_seq c18 16363, r18_14, b18_rrrlrlrrrrrrrr, kq_seq c18 65454, r18_15, r18_16, kq_skip c18 65455, reduceIte, reduceCtorEq, XE.exit.injEq, Nat.reduceEqDiff, Nat.reduceMul, Nat.reduceAdd] <;> kernel_rfl
theorem r18_17  : kCode env 18 false inv k (cp c18 4092) (act 66 [(0, x0), (2, x2), (4, x4), (6, x6), (7, x7), (8, x8), (43, x43)]) h K =
    bnd (pUn Try.prog .not x7) fun x58 =>
    bnd (gd (some x58) false h (some (x8, h))) fun x60 =>
    bnd (gd (some x58) false x60.2 (some (x0, x60.2))) fun x61 =>
    bnd (gd (some x58) false x61.2 (inv (.func 40) #[] #[x60.1, x61.1] x61.2)) fun x62 =>
    bnd (gd (some x58) false x62.2 (lt (pUn Try.prog .not x62.1) x62.2)) fun x63 =>
    bnd (pickV x58 (.bool true) x63.1) fun x64 =>
    K .normal (act 66 [(2, x2), (64, x64)]) x63.2 := kq_reg
theorem b18_rlrrrrrrrrr  : kCode env 18 false inv k (cp c18 4093) (act 66 [(2, x2), (64, x64)]) h K = brV x64 (kCode env 18 false inv k (cp c18 8186) (act 66 [(2, x2), (64, x64)]) h K) (kCode env 18 false inv k (cp c18 8187) (act 66 [(2, x2), (64, x64)]) h K) := kq_cond
theorem r18_18  : kCode env 18 false inv k (cp c18 16372) (act 66 [(2, x2), (64, x64)]) h K =
    K .normal (act 66 [(2, (.slice none 0 0)), (3, (.int .i64 4))]) h := kq_reg
theorem r18_19  : kCode env 18 false inv k (cp c18 4094) (act 66 [(2, x2), (64, x64)]) h K =
    K .normal (act 66 [(2, x2), (3, (.int .i64 0))]) h := kq_reg
/-- shadowbook/texts.Get -/
noncomputable def F18 (inv : Inv) (k : Nat) (x0 : Value) (h : AH) : Option (Value × AH) :=
    bnd (inv (.func 35) #[] #[x0] h) fun x10 =>
    bnd (inv (.func 36) #[] #[x10.1, (.int .i64 1)] x10.2) fun x13 =>
    bnd (pExtract x13.1 0) fun x14 =>
    bnd (pExtract x13.1 1) fun x15 =>
    bnd (pBin Try.prog .neq 31 (.tmp 16) (.const (.int .i64 0)) x15 (.int .i64 0)) fun x17 =>
    brV x17
    (some (.tuple #[(.slice none 0 0), (.int .i64 4)], x13.2))
    (bnd (inv (.func 37) #[] #[x10.1] x13.2) fun x20 =>
    bnd (pExtract x20.1 0) fun x21 =>
    bnd (pExtract x20.1 1) fun x22 =>
    G18_6 inv x0 (.slice none 0 0) x22 x10.1 x14 x21 x20.2 fun y28 h =>
    brV y28
    (some (.tuple #[(.slice none 0 0), (.int .i64 4)], h))
    (F18_rlrrrrrrrr inv k x0 (.slice none 0 0) x10.1 x21 (.bool false) (.slice none 0 0) x14 h
    (fun y0 y2 y4 y6 y7 y8 y43 h_1 =>
    bnd (pUn Try.prog .not y7) fun x58 =>
    bnd (gd (some x58) false h_1 (some (y8, h_1))) fun x60 =>
    bnd (gd (some x58) false x60.2 (some (y0, x60.2))) fun x61 =>
    bnd (gd (some x58) false x61.2 (inv (.func 40) #[] #[x60.1, x61.1] x61.2)) fun x62 =>
    bnd (gd (some x58) false x62.2 (lt (pUn Try.prog .not x62.1) x62.2)) fun x63 =>
    bnd (pickV x58 (.bool true) x63.1) fun x64 =>
    brV x64
    (some (.tuple #[(.slice none 0 0), (.int .i64 4)], x63.2))
    (some (.tuple #[y2, (.int .i64 0)], x63.2)))))
theorem F18_eq : eFun env k inv 18 #[x0] h = F18 inv k x0 h := by
      refine (kq_fun (a := act 66 [(0, x0)]) (c := cp c18 1)).trans ?_
      unfold F18
      simp only [kq_seq c18 1, r18_0, kq_seq c18 3, r18_1, kq_seq c18 7, r18_2, kq_seq c18 15, kq_seq c18 30, r18_3, b18_rlrrr, kq_seq c18 122, r18_4, kq_ret c18 245, res18_0, kq_skip c18 123, kq_seq c18 31, r18_5, kq_seq c18 63, kq_seq c18 126, r18_6, b18_rlrrrrr, kq_seq c18 506, r18_7, kq_ret c18 1013, kq_skip c18 507, kq_seq c18 127, r18_8, kq_seq c18 255, r18_9, kq_seq c18 511, kq_seq c18 1022, r18_10, F18_rlrrrrrrrr_eq, kq_seq c18 1023, kq_seq c18 2046, r18_17, b18_rlrrrrrrrrr, kq_seq c18 8186, r18_18, kq_ret c18 16373, kq_skip c18 8187, kq_seq c18 2047, r18_19, kq_ret c18 4095, reduceIte, reduceCtorEq, XE.exit.injEq, Nat.reduceEqDiff, Nat.reduceMul, Nat.reduceAdd] <;> kernel_rfl
theorem F18_call : eInv env (k + 1) (.func 18) #[] #[x0] h = F18 (eInv env k) k x0 h := kq_inv F18_eq
noncomputable def c20 : Code := codeOf Try.prog 20
theorem r20_0  : kCode env 20 false inv k (cp c20 2) (act 30 [(0, x0)]) h K =
    K .normal (act 30 [(0, x0)]) h := kq_reg
theorem r20_1  : kCode env 20 false inv k (cp c20 6) (act 30 [(0, x0)]) h K =
    bnd (inv (.func 41) #[] #[x0] h) fun x8 =>
    K .normal (act 30 [(0, x0), (4, x8.1)]) x8.2 := kq_reg
theorem r20_2  : kCode env 20 false inv k (cp c20 28) (act 30 [(0, x0), (4, x4)]) h K =
    bnd (pBin Try.prog .neq 31 (.tmp 9) (.const (.int .i64 0)) x4 (.int .i64 0)) fun x10 =>
    K .normal (act 30 [(0, x0), (4, x4), (10, x10)]) h := kq_reg
theorem b20_rlrr  : kCode env 20 false inv k (cp c20 29) (act 30 [(0, x0), (4, x4), (10, x10)]) h K = brV x10 (kCode env 20 false inv k (cp c20 58) (act 30 [(0, x0), (4, x4), (10, x10)]) h K) (kCode env 20 false inv k (cp c20 59) (act 30 [(0, x0), (4, x4), (10, x10)]) h K) := kq_cond
theorem r20_3  : kCode env 20 false inv k (cp c20 116) (act 30 [(0, x0), (4, x4), (10, x10)]) h K =
    K .normal (act 30 [(2, (.slice none 0 0)), (3, x4)]) h := kq_reg
theorem res20_0 : resOfFn env.P 20 .ret (act 30 [(2, x2), (3, x3)]) h = some (.tuple #[x2, x3], h) := kq_res
theorem r20_4  : kCode env 20 false inv k (cp c20 30) (act 30 [(0, x0), (4, x4), (10, x10)]) h K =
    bnd (pBuildSlice Try.prog 30 1 #[(0, (.int .u8 1))] h) fun x12 =>
    bnd (pLen Try.prog #[22] x0 x12.2) fun x14 =>
    bnd (pConv Try.prog 3 48 x14 x12.2) fun x15 =>
    bnd (inv (.func 42) #[] #[x12.1, x15] x12.2) fun x16 =>
    K .normal (act 30 [(0, x0), (5, x16.1)]) x16.2 := kq_reg
theorem r20_5  : kCode env 20 false inv k (cp c20 124) (act 30 [(0, x0), (5, x5)]) h K =
    K .normal (act 30 [(0, x0), (5, x5), (6, (.int .i64 0))]) h := kq_reg
theorem r20_6  : kCode env 20 false inv k (cp c20 2000) (act 30 [(0, x0), (5, x5), (6, x6)]) h K =
    bnd (pLen Try.prog #[22] x0 h) fun x19 =>
    bnd (pBin Try.prog .lss 3 (.tmp 17) (.tmp 19) x6 x19) fun x20 =>
    K .normal (act 30 [(0, x0), (5, x5), (6, x6), (20, x20)]) h := kq_reg
theorem b20_rlllrlrrrr  : kCode env 20 false inv k (cp c20 2001) (act 30 [(0, x0), (5, x5), (6, x6), (20, x20)]) h K = brV x20 (kCode env 20 false inv k (cp c20 4002) (act 30 [(0, x0), (5, x5), (6, x6), (20, x20)]) h K) (kCode env 20 false inv k (cp c20 4003) (act 30 [(0, x0), (5, x5), (6, x6), (20, x20)]) h K) := kq_cond
theorem r20_8  : kCode env 20 false inv k (cp c20 4004) (act 30 [(0, x0), (5, x5), (6, x6), (20, x20)]) h K =
    bnd (pIndexAddr Try.prog 22 x0 x6) fun x26 =>
    bnd (pLoad Try.prog 9 x26 h) fun x27 =>
    bnd (inv (.func 43) #[] #[x5, x27] h) fun x28 =>
    K .normal (act 30 [(0, x0), (5, x28.1), (6, x6)]) x28.2 := kq_reg
theorem r20_7  : kCode env 20 false inv k (cp c20 2003) (act 30 [(0, x0), (5, x5), (6, x6)]) h K =
    bnd (pBin Try.prog .add 3 (.tmp 21) (.const (.int .i64 1)) x6 (.int .i64 1)) fun x22 =>
    K .normal (act 30 [(0, x0), (5, x5), (6, x22)]) h := kq_reg
noncomputable def F20_lrlrrrr {β : Type} (inv : Inv) (k : Nat) : Nat → Value → Value → Value → AH → (Value → Value → Value → Value → AH → Option β) → Option β
  | 0, _, _, _, _, _ => none
  | j + 1, x0, x5, x6, h, ke0 =>
    bnd (pLen Try.prog #[22] x0 h) fun x19 =>
    bnd (pBin Try.prog .lss 3 (.tmp 17) (.tmp 19) x6 x19) fun x20 =>
    brV x20
    (bnd (pIndexAddr Try.prog 22 x0 x6) fun x26 =>
    bnd (pLoad Try.prog 9 x26 h) fun x27 =>
    bnd (inv (.func 43) #[] #[x5, x27] h) fun x28 =>
    bnd (pBin Try.prog .add 3 (.tmp 21) (.const (.int .i64 1)) x6 (.int .i64 1)) fun x22 =>
    F20_lrlrrrr inv k j x0 x28.1 x22 x28.2 ke0)
    (ke0 x0 x5 x6 x20 h)
theorem F20_lrlrrrr_j (j : Nat) : kLoop (kCode env 20 false inv k (cp c20 500)) j (act 30 [(0, x0), (5, x5), (6, x6)]) h K = F20_lrlrrrr inv k j x0 x5 x6 h (fun y0 y5 y6 y20 h => K (.exit 0) (act 30 [(0, y0), (5, y5), (6, y6), (20, y20)]) h) := by
      induction j generalizing x0 x5 x6 h with
      | zero => rfl
      | succ j ih =>
        unfold F20_lrlrrrr
        simp only [kLoop, kq_seq c20 500, kq_seq c20 1000, r20_6, b20_rlllrlrrrr, kq_skip c20 4002, kq_seq c20 1001, kq_block c20 2002 1, r20_8, r20_7, kq_exit c20 4003 0, ih, reduceIte, reduceCtorEq, XE.exit.injEq, Nat.reduceEqDiff, Nat.reduceMul, Nat.reduceAdd] <;> kernel_rfl
theorem F20_lrlrrrr_eq  : kCode env 20 false inv k (cp c20 250) (act 30 [(0, x0), (5, x5), (6, x6)]) h K = F20_lrlrrrr inv k k x0 x5 x6 h (fun y0 y5 y6 y20 h => K (.exit 0) (act 30 [(0, y0), (5, y5), (6, y6), (20, y20)]) h) := kq_loop (F20_lrlrrrr_j k)
theorem r20_9  : kCode env 20 false inv k (cp c20 126) (act 30 [(0, x0), (5, x5), (6, x6), (20, x20)]) h K =
    K .normal (act 30 [(2, x5), (3, (.int .i64 0))]) h := kq_reg
/-- shadowbook/shadowbookref07.Plain -/
noncomputable def F20 (inv : Inv) (k : Nat) (x0 : Value) (h : AH) : Option (Value × AH) :=
    bnd (inv (.func 41) #[] #[x0] h) fun x8 =>
    bnd (pBin Try.prog .neq 31 (.tmp 9) (.const (.int .i64 0)) x8.1 (.int .i64 0)) fun x10 =>
    brV x10
    (some (.tuple #[(.slice none 0 0), x8.1], x8.2))
    (bnd (pBuildSlice Try.prog 30 1 #[(0, (.int .u8 1))] x8.2) fun x12 =>
    bnd (pLen Try.prog #[22] x0 x12.2) fun x14 =>
    bnd (pConv Try.prog 3 48 x14 x12.2) fun x15 =>
    bnd (inv (.func 42) #[] #[x12.1, x15] x12.2) fun x16 =>
    F20_lrlrrrr inv k k x0 x16.1 (.int .i64 0) x16.2
    (fun y0 y5 y6 y20 h =>
    some (.tuple #[y5, (.int .i64 0)], h)))
theorem F20_eq : eFun env k inv 20 #[x0] h = F20 inv k x0 h := by
      refine (kq_fun (a := act 30 [(0, x0)]) (c := cp c20 1)).trans ?_
      unfold F20
      simp only [kq_seq c20 1, r20_0, kq_seq c20 3, r20_1, kq_seq c20 7, kq_seq c20 14, r20_2, b20_rlrr, kq_seq c20 58, r20_3, kq_ret c20 117, res20_0, kq_skip c20 59, kq_seq c20 15, r20_4, kq_seq c20 31, kq_seq c20 62, r20_5, kq_block c20 125 0, F20_lrlrrrr_eq, kq_seq c20 63, r20_9, kq_ret c20 127, reduceIte, reduceCtorEq, XE.exit.injEq, Nat.reduceEqDiff, Nat.reduceMul, Nat.reduceAdd] <;> kernel_rfl
theorem F20_call : eInv env (k + 1) (.func 20) #[] #[x0] h = F20 (eInv env k) k x0 h := kq_inv F20_eq
noncomputable def c21 : Code := codeOf Try.prog 21
theorem r21_0  : kCode env 21 false inv k (cp c21 2) (act 80 [(0, x0)]) h K =
    K .normal (act 80 [(0, x0)]) h := kq_reg
theorem r21_1  : kCode env 21 false inv k (cp c21 6) (act 80 [(0, x0)]) h K =
    bnd (inv (.func 41) #[] #[x0] h) fun x15 =>
    K .normal (act 80 [(0, x0), (4, x15.1)]) x15.2 := kq_reg
theorem r21_2  : kCode env 21 false inv k (cp c21 28) (act 80 [(0, x0), (4, x4)]) h K =
    bnd (pBin Try.prog .neq 31 (.tmp 16) (.const (.int .i64 0)) x4 (.int .i64 0)) fun x17 =>
    K .normal (act 80 [(0, x0), (4, x4), (17, x17)]) h := kq_reg
theorem b21_rlrr  : kCode env 21 false inv k (cp c21 29) (act 80 [(0, x0), (4, x4), (17, x17)]) h K = brV x17 (kCode env 21 false inv k (cp c21 58) (act 80 [(0, x0), (4, x4), (17, x17)]) h K) (kCode env 21 false inv k (cp c21 59) (act 80 [(0, x0), (4, x4), (17, x17)]) h K) := kq_cond
theorem r21_3  : kCode env 21 false inv k (cp c21 116) (act 80 [(0, x0), (4, x4), (17, x17)]) h K =
    K .normal (act 80 [(2, (.slice none 0 0)), (3, x4)]) h := kq_reg
theorem res21_0 : resOfFn env.P 21 .ret (act 80 [(2, x2), (3, x3)]) h = some (.tuple #[x2, x3], h) := kq_res
theorem r21_4  : kCode env 21 false inv k (cp c21 30) (act 80 [(0, x0), (4, x4), (17, x17)]) h K =
    bnd (inv (.func 25) #[] #[x0] h) fun x20 =>
    K .normal (act 80 [(0, x0), (5, x20.1)]) x20.2 := kq_reg
theorem r21_5  : kCode env 21 false inv k (cp c21 62) (act 80 [(0, x0), (5, x5)]) h K =
    bnd (pBuildSlice Try.prog 30 1 #[(0, (.int .u8 2))] h) fun x21 =>
    bnd (pLen Try.prog #[22] x0 x21.2) fun x23 =>
    bnd (pConv Try.prog 3 48 x23 x21.2) fun x24 =>
    bnd (inv (.func 42) #[] #[x21.1, x24] x21.2) fun x25 =>
    K .normal (act 80 [(0, x0), (5, x5), (6, x25.1)]) x25.2 := kq_reg
theorem r21_6  : kCode env 21 false inv k (cp c21 126) (act 80 [(0, x0), (5, x5), (6, x6)]) h K =
    bnd (pLen Try.prog #[22] x5 h) fun x28 =>
    bnd (pConv Try.prog 3 48 x28 h) fun x29 =>
    bnd (inv (.func 42) #[] #[x6, x29] h) fun x30 =>
    K .normal (act 80 [(0, x0), (5, x5), (6, x30.1)]) x30.2 := kq_reg
theorem r21_7  : kCode env 21 false inv k (cp c21 508) (act 80 [(0, x0), (5, x5), (6, x6)]) h K =
    K .normal (act 80 [(0, x0), (5, x5), (6, x6), (7, (.int .i64 0))]) h := kq_reg
theorem r21_8  : kCode env 21 false inv k (cp c21 8144) (act 80 [(0, x0), (5, x5), (6, x6), (7, x7)]) h K =
    bnd (pLen Try.prog #[22] x5 h) fun x33 =>
    bnd (pBin Try.prog .lss 3 (.tmp 31) (.tmp 33) x7 x33) fun x34 =>
    K .normal (act 80 [(0, x0), (5, x5), (6, x6), (7, x7), (34, x34)]) h := kq_reg
theorem b21_rlllrlrrrrrr  : kCode env 21 false inv k (cp c21 8145) (act 80 [(0, x0), (5, x5), (6, x6), (7, x7), (34, x34)]) h K = brV x34 (kCode env 21 false inv k (cp c21 16290) (act 80 [(0, x0), (5, x5), (6, x6), (7, x7), (34, x34)]) h K) (kCode env 21 false inv k (cp c21 16291) (act 80 [(0, x0), (5, x5), (6, x6), (7, x7), (34, x34)]) h K) := kq_cond
theorem r21_10  : kCode env 21 false inv k (cp c21 16292) (act 80 [(0, x0), (5, x5), (6, x6), (7, x7), (34, x34)]) h K =
    bnd (pIndexAddr Try.prog 22 x5 x7) fun x40 =>
    bnd (pLoad Try.prog 9 x40 h) fun x41 =>
    bnd (inv (.func 43) #[] #[x6, x41] h) fun x42 =>
    K .normal (act 80 [(0, x0), (5, x5), (6, x42.1), (7, x7)]) x42.2 := kq_reg
theorem r21_9  : kCode env 21 false inv k (cp c21 8147) (act 80 [(0, x0), (5, x5), (6, x6), (7, x7)]) h K =
    bnd (pBin Try.prog .add 3 (.tmp 35) (.const (.int .i64 1)) x7 (.int .i64 1)) fun x36 =>
    K .normal (act 80 [(0, x0), (5, x5), (6, x6), (7, x36)]) h := kq_reg
noncomputable def F21_lrlrrrrrr {β : Type} (inv : Inv) (k : Nat) : Nat → Value → Value → Value → Value → AH → (Value → Value → Value → Value → Value → AH → Option β) → Option β
  | 0, _, _, _, _, _, _ => none
  | j + 1, x0, x5, x6, x7, h, ke0 =>
    bnd (pLen Try.prog #[22] x5 h) fun x33 =>
    bnd (pBin Try.prog .lss 3 (.tmp 31) (.tmp 33) x7 x33) fun x34 =>
    brV x34
    (bnd (pIndexAddr Try.prog 22 x5 x7) fun x40 =>
    bnd (pLoad Try.prog 9 x40 h) fun x41 =>
    bnd (inv (.func 43) #[] #[x6, x41] h) fun x42 =>
    bnd (pBin Try.prog .add 3 (.tmp 35) (.const (.int .i64 1)) x7 (.int .i64 1)) fun x36 =>
    F21_lrlrrrrrr inv k j x0 x5 x42.1 x36 x42.2 ke0)
    (ke0 x0 x5 x6 x7 x34 h)
theorem F21_lrlrrrrrr_j (j : Nat) : kLoop (kCode env 21 false inv k (cp c21 2036)) j (act 80 [(0, x0), (5, x5), (6, x6), (7, x7)]) h K = F21_lrlrrrrrr inv k j x0 x5 x6 x7 h (fun y0 y5 y6 y7 y34 h => K (.exit 0) (act 80 [(0, y0), (5, y5), (6, y6), (7, y7), (34, y34)]) h) := by
      induction j generalizing x0 x5 x6 x7 h with
      | zero => rfl
      | succ j ih =>
        unfold F21_lrlrrrrrr
        simp only [kLoop, kq_seq c21 2036, kq_seq c21 4072, r21_8, b21_rlllrlrrrrrr, kq_skip c21 16290, kq_seq c21 4073, kq_block c21 8146 1, r21_10, r21_9, kq_exit c21 16291 0, ih, reduceIte, reduceCtorEq, XE.exit.injEq, Nat.reduceEqDiff, Nat.reduceMul, Nat.reduceAdd] <;> kernel_rfl
theorem F21_lrlrrrrrr_eq  : kCode env 21 false inv k (cp c21 1018) (act 80 [(0, x0), (5, x5), (6, x6), (7, x7)]) h K = F21_lrlrrrrrr inv k k x0 x5 x6 x7 h (fun y0 y5 y6 y7 y34 h => K (.exit 0) (act 80 [(0, y0), (5, y5), (6, y6), (7, y7), (34, y34)]) h) := kq_loop (F21_lrlrrrrrr_j k)
theorem r21_11  : kCode env 21 false inv k (cp c21 510) (act 80 [(0, x0), (5, x5), (6, x6), (7, x7), (34, x34)]) h K =
    K .normal (act 80 [(0, x0), (5, x5), (6, x6), (8, (.slice none 0 0))]) h := kq_reg
theorem r21_12  : kCode env 21 false inv k (cp c21 2044) (act 80 [(0, x0), (5, x5), (6, x6), (8, x8)]) h K =
    K .normal (act 80 [(0, x0), (5, x5), (6, x6), (8, x8), (9, (.int .i64 0))]) h := kq_reg
theorem r21_13  : kCode env 21 false inv k (cp c21 32720) (act 80 [(0, x0), (5, x5), (6, x6), (8, x8), (9, x9)]) h K =
    bnd (pLen Try.prog #[22] x0 h) fun x45 =>
    bnd (pBin Try.prog .lss 3 (.tmp 43) (.tmp 45) x9 x45) fun x46 =>
    K .normal (act 80 [(0, x0), (5, x5), (6, x6), (8, x8), (9, x9), (46, x46)]) h := kq_reg
theorem b21_rlllrlrrrrrrrr  : kCode env 21 false inv k (cp c21 32721) (act 80 [(0, x0), (5, x5), (6, x6), (8, x8), (9, x9), (46, x46)]) h K = brV x46 (kCode env 21 false inv k (cp c21 65442) (act 80 [(0, x0), (5, x5), (6, x6), (8, x8), (9, x9), (46, x46)]) h K) (kCode env 21 false inv k (cp c21 65443) (act 80 [(0, x0), (5, x5), (6, x6), (8, x8), (9, x9), (46, x46)]) h K) := kq_cond
theorem r21_15  : kCode env 21 false inv k (cp c21 130888) (act 80 [(0, x0), (5, x5), (6, x6), (8, x8), (9, x9), (46, x46)]) h K =
    K .normal (act 80 [(0, x0), (5, x5), (6, x6), (8, x8), (9, x9), (10, (.int .i64 0))]) h := kq_reg
theorem r21_16  : kCode env 21 false inv k (cp c21 4188448) (act 80 [(0, x0), (5, x5), (6, x6), (8, x8), (9, x9), (10, x10)]) h K =
    bnd (pIndexAddr Try.prog 22 x5 x10) fun x51 =>
    bnd (pLoad Try.prog 9 x51 h) fun x52 =>
    bnd (pIndexAddr Try.prog 22 x0 x9) fun x55 =>
    bnd (pLoad Try.prog 9 x55 h) fun x56 =>
    bnd (pBin Try.prog .neq 9 (.tmp 52) (.tmp 56) x52 x56) fun x57 =>
    K .normal (act 80 [(0, x0), (5, x5), (6, x6), (8, x8), (9, x9), (10, x10), (57, x57)]) h := kq_draw
theorem b21_rllllrllrllrlrrrrrrrr  : kCode env 21 false inv k (cp c21 4188449) (act 80 [(0, x0), (5, x5), (6, x6), (8, x8), (9, x9), (10, x10), (57, x57)]) h K = brV x57 (kCode env 21 false inv k (cp c21 8376898) (act 80 [(0, x0), (5, x5), (6, x6), (8, x8), (9, x9), (10, x10), (57, x57)]) h K) (kCode env 21 false inv k (cp c21 8376899) (act 80 [(0, x0), (5, x5), (6, x6), (8, x8), (9, x9), (10, x10), (57, x57)]) h K) := kq_cond
theorem r21_17  : kCode env 21 false inv k (cp c21 4188450) (act 80 [(0, x0), (5, x5), (6, x6), (8, x8), (9, x9), (10, x10), (57, x57)]) h K =
    bnd (pBin Try.prog .add 3 (.tmp 58) (.const (.int .i64 1)) x10 (.int .i64 1)) fun x59 =>
    K .normal (act 80 [(0, x0), (5, x5), (6, x6), (8, x8), (9, x9), (10, x59)]) h := kq_reg
noncomputable def F21_llrllrllrlrrrrrrrr {β : Type} (inv : Inv) (k : Nat) : Nat → Value → Value → Value → Value → Value → Value → AH → (Value → Value → Value → Value → Value → Value → Value → AH → Option β) → Option β
  | 0, _, _, _, _, _, _, _, _ => none
  | j + 1, x0, x5, x6, x8, x9, x10, h, ke4 =>
    bnd (pIndexAddr Try.prog 22 x5 x10) fun x51 =>
    bnd (pLoad Try.prog 9 x51 h) fun x52 =>
    bnd (pIndexAddr Try.prog 22 x0 x9) fun x55 =>
    bnd (pLoad Try.prog 9 x55 h) fun x56 =>
    bnd (pBin Try.prog .neq 9 (.tmp 52) (.tmp 56) x52 x56) fun x57 =>
    brV x57
    (bnd (pBin Try.prog .add 3 (.tmp 58) (.const (.int .i64 1)) x10 (.int .i64 1)) fun x59 =>
    F21_llrllrllrlrrrrrrrr inv k j x0 x5 x6 x8 x9 x59 h ke4)
    (ke4 x0 x5 x6 x8 x9 x10 x57 h)
theorem F21_llrllrllrlrrrrrrrr_j (j : Nat) : kLoop (kCode env 21 false inv k (cp c21 1047112)) j (act 80 [(0, x0), (5, x5), (6, x6), (8, x8), (9, x9), (10, x10)]) h K = F21_llrllrllrlrrrrrrrr inv k j x0 x5 x6 x8 x9 x10 h (fun y0 y5 y6 y8 y9 y10 y57 h => K (.exit 4) (act 80 [(0, y0), (5, y5), (6, y6), (8, y8), (9, y9), (10, y10), (57, y57)]) h) := by
      induction j generalizing x0 x5 x6 x8 x9 x10 h with
      | zero => rfl
      | succ j ih =>
        unfold F21_llrllrllrlrrrrrrrr
        simp only [kLoop, kq_seq c21 1047112, kq_seq c21 2094224, r21_16, b21_rllllrllrllrlrrrrrrrr, kq_skip c21 8376898, kq_block c21 2094225 5, r21_17, kq_exit c21 8376899 4, ih, reduceIte, reduceCtorEq, XE.exit.injEq, Nat.reduceEqDiff, Nat.reduceMul, Nat.reduceAdd] <;> kernel_rfl
theorem F21_llrllrllrlrrrrrrrr_eq  : kCode env 21 false inv k (cp c21 523556) (act 80 [(0, x0), (5, x5), (6, x6), (8, x8), (9, x9), (10, x10)]) h K = F21_llrllrllrlrrrrrrrr inv k k x0 x5 x6 x8 x9 x10 h (fun y0 y5 y6 y8 y9 y10 y57 h => K (.exit 4) (act 80 [(0, y0), (5, y5), (6, y6), (8, y8), (9, y9), (10, y10), (57, y57)]) h) := kq_loop (F21_llrllrllrlrrrrrrrr_j k)
theorem r21_18  : kCode env 21 false inv k (cp c21 261779) (act 80 [(0, x0), (5, x5), (6, x6), (8, x8), (9, x9), (10, x10), (57, x57)]) h K =
    bnd (pConv Try.prog 3 48 x10 h) fun x62 =>
    bnd (pBuildSlice Try.prog 50 1 #[(0, x62)] h) fun x63 =>
    bnd (pAppend Try.prog #[50, 50] x8 x63.1 x63.2) fun x64 =>
    K .normal (act 80 [(0, x0), (5, x5), (6, x6), (8, x64.1), (9, x9)]) x64.2 := kq_reg
theorem r21_14  : kCode env 21 false inv k (cp c21 32723) (act 80 [(0, x0), (5, x5), (6, x6), (8, x8), (9, x9)]) h K =
    bnd (pBin Try.prog .add 3 (.tmp 47) (.const (.int .i64 1)) x9 (.int .i64 1)) fun x48 =>
    K .normal (act 80 [(0, x0), (5, x5), (6, x6), (8, x8), (9, x48)]) h := kq_reg
noncomputable def F21_lrlrrrrrrrr {β : Type} (inv : Inv) (k : Nat) : Nat → Value → Value → Value → Value → Value → AH → (Value → Value → Value → Value → Value → Value → AH → Option β) → Option β
  | 0, _, _, _, _, _, _, _ => none
  | j + 1, x0, x5, x6, x8, x9, h, ke2 =>
    bnd (pLen Try.prog #[22] x0 h) fun x45 =>
    bnd (pBin Try.prog .lss 3 (.tmp 43) (.tmp 45) x9 x45) fun x46 =>
    brV x46
    (F21_llrllrllrlrrrrrrrr inv k k x0 x5 x6 x8 x9 (.int .i64 0) h
    (fun y0 y5 y6 y8 y9 y10 y57 h =>
    bnd (pConv Try.prog 3 48 y10 h) fun x62 =>
    bnd (pBuildSlice Try.prog 50 1 #[(0, x62)] h) fun x63 =>
    bnd (pAppend Try.prog #[50, 50] y8 x63.1 x63.2) fun x64 =>
    bnd (pBin Try.prog .add 3 (.tmp 47) (.const (.int .i64 1)) y9 (.int .i64 1)) fun x48 =>
    F21_lrlrrrrrrrr inv k j y0 y5 y6 x64.1 x48 x64.2 ke2))
    (ke2 x0 x5 x6 x8 x9 x46 h)
theorem F21_lrlrrrrrrrr_j (j : Nat) : kLoop (kCode env 21 false inv k (cp c21 8180)) j (act 80 [(0, x0), (5, x5), (6, x6), (8, x8), (9, x9)]) h K = F21_lrlrrrrrrrr inv k j x0 x5 x6 x8 x9 h (fun y0 y5 y6 y8 y9 y46 h => K (.exit 2) (act 80 [(0, y0), (5, y5), (6, y6), (8, y8), (9, y9), (46, y46)]) h) := by
      induction j generalizing x0 x5 x6 x8 x9 h with
      | zero => rfl
      | succ j ih =>
        unfold F21_lrlrrrrrrrr
        simp only [kLoop, kq_seq c21 8180, kq_seq c21 16360, r21_13, b21_rlllrlrrrrrrrr, kq_skip c21 65442, kq_seq c21 16361, kq_block c21 32722 3, kq_seq c21 65444, r21_15, kq_seq c21 130889, kq_block c21 261778 4, F21_llrllrllrlrrrrrrrr_eq, r21_18, r21_14, kq_exit c21 65443 2, ih, reduceIte, reduceCtorEq, XE.exit.injEq, Nat.reduceEqDiff, Nat.reduceMul, Nat.reduceAdd] <;> kernel_rfl
theorem F21_lrlrrrrrrrr_eq  : kCode env 21 false inv k (cp c21 4090) (act 80 [(0, x0), (5, x5), (6, x6), (8, x8), (9, x9)]) h K = F21_lrlrrrrrrrr inv k k x0 x5 x6 x8 x9 h (fun y0 y5 y6 y8 y9 y46 h => K (.exit 2) (act 80 [(0, y0), (5, y5), (6, y6), (8, y8), (9, y9), (46, y46)]) h) := kq_loop (F21_lrlrrrrrrrr_j k)
theorem r21_19  : kCode env 21 false inv k (cp c21 2046) (act 80 [(0, x0), (5, x5), (6, x6), (8, x8), (9, x9), (46, x46)]) h K =
    bnd (inv (.func 44) #[] #[x8] h) fun x66 =>
    K .normal (act 80 [(6, x6), (8, x8), (11, x66.1)]) x66.2 := kq_reg
theorem r21_20  : kCode env 21 false inv k (cp c21 4094) (act 80 [(6, x6), (8, x8), (11, x11)]) h K =
    bnd (inv (.func 45) #[] #[x8, x11] h) fun x70 =>
    bnd (pExtract x70.1 0) fun x71 =>
    bnd (pExtract x70.1 1) fun x72 =>
    K .normal (act 80 [(6, x6), (11, x11), (12, x71)]) x70.2 := kq_reg
theorem r21_21  : kCode env 21 false inv k (cp c21 8190) (act 80 [(6, x6), (11, x11), (12, x12)]) h K =
    bnd (pConv Try.prog 3 5 x11 h) fun x75 =>
    bnd (pBuildSlice Try.prog 30 1 #[(0, x75)] h) fun x76 =>
    bnd (pAppend Try.prog #[30, 30] x6 x76.1 x76.2) fun x77 =>
    bnd (pAppend Try.prog #[30, 30] x77.1 x12 x77.2) fun x79 =>
    K .normal (act 80 [(2, x79.1), (3, (.int .i64 0))]) x79.2 := kq_reg
/-- shadowbook/shadowbookref07.Dict -/
noncomputable def F21 (inv : Inv) (k : Nat) (x0 : Value) (h : AH) : Option (Value × AH) :=
    bnd (inv (.func 41) #[] #[x0] h) fun x15 =>
    bnd (pBin Try.prog .neq 31 (.tmp 16) (.const (.int .i64 0)) x15.1 (.int .i64 0)) fun x17 =>
    brV x17
    (some (.tuple #[(.slice none 0 0), x15.1], x15.2))
    (bnd (inv (.func 25) #[] #[x0] x15.2) fun x20 =>
    bnd (pBuildSlice Try.prog 30 1 #[(0, (.int .u8 2))] x20.2) fun x21 =>
    bnd (pLen Try.prog #[22] x0 x21.2) fun x23 =>
    bnd (pConv Try.prog 3 48 x23 x21.2) fun x24 =>
    bnd (inv (.func 42) #[] #[x21.1, x24] x21.2) fun x25 =>
    bnd (pLen Try.prog #[22] x20.1 x25.2) fun x28 =>
    bnd (pConv Try.prog 3 48 x28 x25.2) fun x29 =>
    bnd (inv (.func 42) #[] #[x25.1, x29] x25.2) fun x30 =>
    F21_lrlrrrrrr inv k k x0 x20.1 x30.1 (.int .i64 0) x30.2
    (fun y0 y5 y6 y7 y34 h =>
    F21_lrlrrrrrrrr inv k k y0 y5 y6 (.slice none 0 0) (.int .i64 0) h
    (fun y0_1 y5_2 y6_3 y8 y9 y46 h_4 =>
    bnd (inv (.func 44) #[] #[y8] h_4) fun x66 =>
    bnd (inv (.func 45) #[] #[y8, x66.1] x66.2) fun x70 =>
    bnd (pExtract x70.1 0) fun x71 =>
    bnd (pExtract x70.1 1) fun x72 =>
    bnd (pConv Try.prog 3 5 x66.1 x70.2) fun x75 =>
    bnd (pBuildSlice Try.prog 30 1 #[(0, x75)] x70.2) fun x76 =>
    bnd (pAppend Try.prog #[30, 30] y6_3 x76.1 x76.2) fun x77 =>
    bnd (pAppend Try.prog #[30, 30] x77.1 x71 x77.2) fun x79 =>
    some (.tuple #[x79.1, (.int .i64 0)], x79.2))))
theorem F21_eq : eFun env k inv 21 #[x0] h = F21 inv k x0 h := by
      refine (kq_fun (a := act 80 [(0, x0)]) (c := cp c21 1)).trans ?_
      unfold F21
      simp only [kq_seq c21 1, r21_0, kq_seq c21 3, r21_1, kq_seq c21 7, kq_seq c21 14, r21_2, b21_rlrr, kq_seq c21 58, r21_3, kq_ret c21 117, res21_0, kq_skip c21 59, kq_seq c21 15, r21_4, kq_seq c21 31, r21_5, kq_seq c21 63, r21_6, kq_seq c21 127, kq_seq c21 254, r21_7, kq_block c21 509 0, F21_lrlrrrrrr_eq, kq_seq c21 255, r21_11, kq_seq c21 511, kq_seq c21 1022, r21_12, kq_block c21 2045 2, F21_lrlrrrrrrrr_eq, kq_seq c21 1023, r21_19, kq_seq c21 2047, r21_20, kq_seq c21 4095, r21_21, kq_ret c21 8191, reduceIte, reduceCtorEq, XE.exit.injEq, Nat.reduceEqDiff, Nat.reduceMul, Nat.reduceAdd] <;> kernel_rfl
theorem F21_call : eInv env (k + 1) (.func 21) #[] #[x0] h = F21 (eInv env k) k x0 h := kq_inv F21_eq
noncomputable def c22 : Code := codeOf Try.prog 22
theorem r22_0  : kCode env 22 false inv k (cp c22 2) (act 28 [(0, x0)]) h K =
    K .normal (act 28 [(0, x0)]) h := kq_reg
theorem r22_1  : kCode env 22 false inv k (cp c22 6) (act 28 [(0, x0)]) h K =
    bnd (inv (.func 20) #[] #[x0] h) fun x10 =>
    bnd (pExtract x10.1 0) fun x11 =>
    bnd (pExtract x10.1 1) fun x12 =>
    K .normal (act 28 [(0, x0), (4, x11), (5, x12)]) x10.2 := kq_reg
theorem r22_2  : kCode env 22 false inv k (cp c22 28) (act 28 [(0, x0), (4, x4), (5, x5)]) h K =
    bnd (pBin Try.prog .neq 31 (.tmp 13) (.const (.int .i64 0)) x5 (.int .i64 0)) fun x14 =>
    K .normal (act 28 [(0, x0), (4, x4), (5, x5), (14, x14)]) h := kq_reg
theorem b22_rlrr  : kCode env 22 false inv k (cp c22 29) (act 28 [(0, x0), (4, x4), (5, x5), (14, x14)]) h K = brV x14 (kCode env 22 false inv k (cp c22 58) (act 28 [(0, x0), (4, x4), (5, x5), (14, x14)]) h K) (kCode env 22 false inv k (cp c22 59) (act 28 [(0, x0), (4, x4), (5, x5), (14, x14)]) h K) := kq_cond
theorem r22_3  : kCode env 22 false inv k (cp c22 116) (act 28 [(0, x0), (4, x4), (5, x5), (14, x14)]) h K =
    K .normal (act 28 [(2, (.slice none 0 0)), (3, x5)]) h := kq_reg
theorem res22_0 : resOfFn env.P 22 .ret (act 28 [(2, x2), (3, x3)]) h = some (.tuple #[x2, x3], h) := kq_res
theorem r22_4  : kCode env 22 false inv k (cp c22 30) (act 28 [(0, x0), (4, x4), (5, x5), (14, x14)]) h K =
    bnd (inv (.func 21) #[] #[x0] h) fun x18 =>
    bnd (pExtract x18.1 0) fun x19 =>
    bnd (pExtract x18.1 1) fun x20 =>
    K .normal (act 28 [(4, x4), (6, x19)]) x18.2 := kq_reg
theorem r22_5  : kCode env 22 false inv k (cp c22 124) (act 28 [(4, x4), (6, x6)]) h K =
    bnd (pLen Try.prog #[30] x6 h) fun x22 =>
    bnd (pLen Try.prog #[30] x4 h) fun x24 =>
    bnd (pBin Try.prog .lss 3 (.tmp 22) (.tmp 24) x22 x24) fun x25 =>
    K .normal (act 28 [(4, x4), (6, x6), (25, x25)]) h := kq_reg
theorem b22_rlrrrr  : kCode env 22 false inv k (cp c22 125) (act 28 [(4, x4), (6, x6), (25, x25)]) h K = brV x25 (kCode env 22 false inv k (cp c22 250) (act 28 [(4, x4), (6, x6), (25, x25)]) h K) (kCode env 22 false inv k (cp c22 251) (act 28 [(4, x4), (6, x6), (25, x25)]) h K) := kq_cond
theorem r22_6  : kCode env 22 false inv k (cp c22 500) (act 28 [(4, x4), (6, x6), (25, x25)]) h K =
    K .normal (act 28 [(2, x6), (3, (.int .i64 0))]) h := kq_reg
theorem r22_7  : kCode env 22 false inv k (cp c22 126) (act 28 [(4, x4), (6, x6), (25, x25)]) h K =
    K .normal (act 28 [(2, x4), (3, (.int .i64 0))]) h := kq_reg
/-- shadowbook/shadowbookref07.Put -/
noncomputable def F22 (inv : Inv) (k : Nat) (x0 : Value) (h : AH) : Option (Value × AH) :=
    bnd (inv (.func 20) #[] #[x0] h) fun x10 =>
    bnd (pExtract x10.1 0) fun x11 =>
    bnd (pExtract x10.1 1) fun x12 =>
    bnd (pBin Try.prog .neq 31 (.tmp 13) (.const (.int .i64 0)) x12 (.int .i64 0)) fun x14 =>
    brV x14
    (some (.tuple #[(.slice none 0 0), x12], x10.2))
    (bnd (inv (.func 21) #[] #[x0] x10.2) fun x18 =>
    bnd (pExtract x18.1 0) fun x19 =>
    bnd (pExtract x18.1 1) fun x20 =>
    bnd (pLen Try.prog #[30] x19 x18.2) fun x22 =>
    bnd (pLen Try.prog #[30] x11 x18.2) fun x24 =>
    bnd (pBin Try.prog .lss 3 (.tmp 22) (.tmp 24) x22 x24) fun x25 =>
    brV x25
    (some (.tuple #[x19, (.int .i64 0)], x18.2))
    (some (.tuple #[x11, (.int .i64 0)], x18.2)))
theorem F22_eq : eFun env k inv 22 #[x0] h = F22 inv k x0 h := by
      refine (kq_fun (a := act 28 [(0, x0)]) (c := cp c22 1)).trans ?_
      unfold F22
      simp only [kq_seq c22 1, r22_0, kq_seq c22 3, r22_1, kq_seq c22 7, kq_seq c22 14, r22_2, b22_rlrr, kq_seq c22 58, r22_3, kq_ret c22 117, res22_0, kq_skip c22 59, kq_seq c22 15, r22_4, kq_seq c22 31, kq_seq c22 62, r22_5, b22_rlrrrr, kq_seq c22 250, r22_6, kq_ret c22 501, kq_skip c22 251, kq_seq c22 63, r22_7, kq_ret c22 127, reduceIte, reduceCtorEq, XE.exit.injEq, Nat.reduceEqDiff, Nat.reduceMul, Nat.reduceAdd] <;> kernel_rfl
theorem F22_call : eInv env (k + 1) (.func 22) #[] #[x0] h = F22 (eInv env k) k x0 h := kq_inv F22_eq
noncomputable def c23 : Code := codeOf Try.prog 23
theorem r23_0  : kCode env 23 false inv k (cp c23 2) (act 72 [(0, x0)]) h K =
    K .normal (act 72 [(0, x0)]) h := kq_reg
theorem r23_1  : kCode env 23 false inv k (cp c23 6) (act 72 [(0, x0)]) h K =
    bnd (inv (.func 46) #[] #[x0] h) fun x13 =>
    K .normal (act 72 [(0, x0), (4, x13.1)]) x13.2 := kq_reg
theorem r23_2  : kCode env 23 false inv k (cp c23 14) (act 72 [(0, x0), (4, x4)]) h K =
    bnd (inv (.func 47) #[] #[x4, (.int .i64 1)] h) fun x16 =>
    bnd (pExtract x16.1 0) fun x17 =>
    bnd (pExtract x16.1 1) fun x18 =>
    K .normal (act 72 [(0, x0), (4, x4), (5, x17), (6, x18)]) x16.2 := kq_reg
theorem r23_3  : kCode env 23 false inv k (cp c23 30) (act 72 [(0, x0), (4, x4), (5, x5), (6, x6)]) h K =
    bnd (inv (.func 48) #[] #[x4] h) fun x21 =>
    bnd (pExtract x21.1 0) fun x22 =>
    bnd (pExtract x21.1 1) fun x23 =>
    K .normal (act 72 [(0, x0), (4, x4), (5, x5), (6, x6), (7, x22), (8, x23)]) x21.2 := kq_reg
noncomputable abbrev G23_4 {β : Type} (inv : Inv) (x0 x4 x5 x6 x7 x8 : Value) (h : AH) (K : Value → AH → Option β) : Option β :=
    bnd (pBin Try.prog .neq 31 (.tmp 24) (.const (.int .i64 0)) x6 (.int .i64 0)) fun x25 =>
    bnd (gd (some x25) false h (some (x8, h))) fun x27 =>
    bnd (gd (some x25) false x27.2 (lt (pBin Try.prog .neq 31 (.tmp 27) (.const (.int .i64 0)) x27.1 (.int .i64 0)) x27.2)) fun x28 =>
    bnd (pickV x25 (.bool true) x28.1) fun x29 =>
    bnd (gd (some x29) false x28.2 (some (x7, x28.2))) fun x31 =>
    bnd (gd (some x29) false x31.2 (lt (pBin Try.prog .gtr 48 (.tmp 31) (.const (.int .u64 4096)) x31.1 (.int .u64 4096)) x31.2)) fun x32 =>
    bnd (pickV x29 (.bool true) x32.1) fun x33 =>
    K (x33) x32.2
theorem r23_4  : kCode env 23 false inv k (cp c23 124) (act 72 [(0, x0), (4, x4), (5, x5), (6, x6), (7, x7), (8, x8)]) h K =
    G23_4 inv x0 x4 x5 x6 x7 x8 h fun y33 h => K .normal (act 72 [(0, x0), (4, x4), (5, x5), (7, x7), (33, y33)]) h := kq_reg
theorem b23_rlrrrr  : kCode env 23 false inv k (cp c23 125) (act 72 [(0, x0), (4, x4), (5, x5), (7, x7), (33, x33)]) h K = brV x33 (kCode env 23 false inv k (cp c23 250) (act 72 [(0, x0), (4, x4), (5, x5), (7, x7), (33, x33)]) h K) (kCode env 23 false inv k (cp c23 251) (act 72 [(0, x0), (4, x4), (5, x5), (7, x7), (33, x33)]) h K) := kq_cond
theorem r23_5  : kCode env 23 false inv k (cp c23 500) (act 72 [(0, x0), (4, x4), (5, x5), (7, x7), (33, x33)]) h K =
    K .normal (act 72 [(2, (.slice none 0 0)), (3, (.int .i64 4))]) h := kq_reg
theorem res23_0 : resOfFn env.P 23 .ret (act 72 [(2, x2), (3, x3)]) h = some (.tuple #[x2, x3], h) := kq_res
theorem r23_6  : kCode env 23 false inv k (cp c23 126) (act 72 [(0, x0), (4, x4), (5, x5), (7, x7), (33, x33)]) h K =
    K .normal (act 72 [(0, x0), (4, x4), (5, x5), (7, x7), (9, (.slice none 0 0))]) h := kq_reg
theorem r23_7  : kCode env 23 false inv k (cp c23 254) (act 72 [(0, x0), (4, x4), (5, x5), (7, x7), (9, x9)]) h K =
    K .normal (act 72 [(0, x0), (4, x4), (5, x5), (7, x7), (9, x9), (10, (.slice none 0 0))]) h := kq_reg
theorem r23_8  : kCode env 23 false inv k (cp c23 510) (act 72 [(0, x0), (4, x4), (5, x5), (7, x7), (9, x9), (10, x10)]) h K =
    K .normal (act 72 [(0, x0), (4, x4), (5, x5), (7, x7), (9, x9), (10, x10), (11, (.bool false))]) h := kq_reg
theorem r23_9  : kCode env 23 false inv k (cp c23 2044) (act 72 [(0, x0), (4, x4), (5, x5), (7, x7), (9, x9), (10, x10), (11, x11)]) h K =
    K .normal (act 72 [(0, x0), (4, x4), (7, x7), (9, x9), (10, x10), (11, x11), (34, x5)]) h := kq_reg
theorem r23_10  : kCode env 23 false inv k (cp c23 8180) (act 72 [(0, x0), (4, x4), (7, x7), (9, x9), (10, x10), (11, x11), (34, x34)]) h K =
    bnd (pBin Try.prog .eql 48 (.tmp 34) (.const (.int .u64 1)) x34 (.int .u64 1)) fun x36 =>
    K .normal (act 72 [(0, x0), (4, x4), (7, x7), (9, x9), (10, x10), (11, x11), (34, x34), (35, x36)]) h := kq_reg
theorem b23_rlrlrrrrrrrr  : kCode env 23 false inv k (cp c23 8181) (act 72 [(0, x0), (4, x4), (7, x7), (9, x9), (10, x10), (11, x11), (34, x34), (35, x35)]) h K = brV x35 (kCode env 23 false inv k (cp c23 16362) (act 72 [(0, x0), (4, x4), (7, x7), (9, x9), (10, x10), (11, x11), (34, x34), (35, x35)]) h K) (kCode env 23 false inv k (cp c23 16363) (act 72 [(0, x0), (4, x4), (7, x7), (9, x9), (10, x10), (11, x11), (34, x34), (35, x35)]) h K) := kq_cond
theorem r23_11  : kCode env 23 false inv k (cp c23 32724) (act 72 [(0, x0), (4, x4), (7, x7), (9, x9), (10, x10), (11, x11), (34, x34), (35, x35)]) h K =
    bnd (inv (.func 49) #[] #[x4, x7] h) fun x40 =>
    bnd (pExtract x40.1 0) fun x41 =>
    bnd (pExtract x40.1 1) fun x42 =>
    K .normal (act 72 [(0, x0), (9, x41), (11, x42)]) x40.2 := kq_reg
theorem r23_12  : kCode env 23 false inv k (cp c23 32725) (act 72 [(0, x0), (9, x9), (11, x11)]) h K =
    bnd (inv (.func 20) #[] #[x9] h) fun x45 =>
    bnd (pExtract x45.1 0) fun x46 =>
    bnd (pExtract x45.1 1) fun x47 =>
    K .normal (act 72 [(0, x0), (9, x9), (10, x46), (11, x11)]) x45.2 := kq_reg
theorem r23_13  : kCode env 23 false inv k (cp c23 32726) (act 72 [(0, x0), (4, x4), (7, x7), (9, x9), (10, x10), (11, x11), (34, x34), (35, x35)]) h K =
    bnd (pBin Try.prog .eql 48 (.tmp 34) (.const (.int .u64 2)) x34 (.int .u64 2)) fun x49 =>
    K .normal (act 72 [(0, x0), (4, x4), (7, x7), (9, x9), (10, x10), (11, x11), (48, x49)]) h := kq_reg
theorem b23_rrrlrlrrrrrrrr  : kCode env 23 false inv k (cp c23 32727) (act 72 [(0, x0), (4, x4), (7, x7), (9, x9), (10, x10), (11, x11), (48, x48)]) h K = brV x48 (kCode env 23 false inv k (cp c23 65454) (act 72 [(0, x0), (4, x4), (7, x7), (9, x9), (10, x10), (11, x11), (48, x48)]) h K) (kCode env 23 false inv k (cp c23 65455) (act 72 [(0, x0), (4, x4), (7, x7), (9, x9), (10, x10), (11, x11), (48, x48)]) h K) := kq_cond
theorem r23_14  : kCode env 23 false inv k (cp c23 130908) (act 72 [(0, x0), (4, x4), (7, x7), (9, x9), (10, x10), (11, x11), (48, x48)]) h K =
    bnd (pConv Try.prog 48 3 x7 h) fun x53 =>
    bnd (inv (.func 50) #[] #[x4, x53] h) fun x54 =>
    bnd (pExtract x54.1 0) fun x55 =>
    bnd (pExtract x54.1 1) fun x56 =>
    K .normal (act 72 [(0, x0), (9, x55), (11, x56)]) x54.2 := kq_reg
theorem r23_15  : kCode env 23 false inv k (cp c23 130909) (act 72 [(0, x0), (9, x9), (11, x11)]) h K =
    bnd (inv (.func 21) #[] #[x9] h) fun x59 =>
    bnd (pExtract x59.1 0) fun x60 =>
    bnd (pExtract x59.1 1) fun x61 =>
    K .normal (act 72 [(0, x0), (9, x9), (10, x60), (11, x11)]) x59.2 := kq_reg
noncomputable def F23_rlrrrrrrrr {β : Type} (inv : Inv) (k : Nat) (x0 x4 x7 x9 x10 x11 x34 : Value) (h : AH) (kn : (Value → Value → Value → Value → Value → Value → Value → AH → Option β)) : Option β :=
    bnd (pBin Try.prog .eql 48 (.tmp 34) (.const (.int .u64 1)) x34 (.int .u64 1)) fun x36 =>
    brV x36
    (bnd (inv (.func 49) #[] #[x4, x7] h) fun x40 =>
    bnd (pExtract x40.1 0) fun x41 =>
    bnd (pExtract x40.1 1) fun x42 =>
    bnd (inv (.func 20) #[] #[x41] x40.2) fun x45 =>
    bnd (pExtract x45.1 0) fun x46 =>
    bnd (pExtract x45.1 1) fun x47 =>
    kn x0 unk unk x41 x46 x42 unk x45.2)
    (bnd (pBin Try.prog .eql 48 (.tmp 34) (.const (.int .u64 2)) x34 (.int .u64 2)) fun x49 =>
    brV x49
    (bnd (pConv Try.prog 48 3 x7 h) fun x53 =>
    bnd (inv (.func 50) #[] #[x4, x53] h) fun x54 =>
    bnd (pExtract x54.1 0) fun x55 =>
    bnd (pExtract x54.1 1) fun x56 =>
    bnd (inv (.func 21) #[] #[x55] x54.2) fun x59 =>
    bnd (pExtract x59.1 0) fun x60 =>
    bnd (pExtract x59.1 1) fun x61 =>
    kn x0 unk unk x55 x60 x56 unk x59.2)
    (kn x0 x4 x7 x9 x10 x11 x49 h))
theorem F23_rlrrrrrrrr_eq  : kCode env 23 false inv k (cp c23 2045) (act 72 [(0, x0), (4, x4), (7, x7), (9, x9), (10, x10), (11, x11), (34, x34)]) h K = F23_rlrrrrrrrr inv k x0 x4 x7 x9 x10 x11 x34 h (fun y0 y4 y7 y9 y10 y11 y48 h => K .normal (act 72 [(0, y0), (4, y4), (7, y7), (9, y9), (10, y10), (11, y11), (48, y48)]) h) := by
      unfold F23_rlrrrrrrrr
      simp only [kq_block c23 2045 0, kq_seq c23 4090, r23_10, b23_rlrlrrrrrrrr, kq_seq c23 16362, r23_11, r23_12, kq_seq c23 16363, r23_13, b23_rrrlrlrrrrrrrr, kq_seq c23 65454, r23_14, r23_15, kq_skip c23 65455, reduceIte, reduceCtorEq, XE.exit.injEq, Nat.reduceEqDiff, Nat.reduceMul, Nat.reduceAdd] <;> kernel_rfl
noncomputable abbrev G23_16 {β : Type} (inv : Inv) (x0 x9 x10 x11 : Value) (h : AH) (K : Value → AH → Option β) : Option β :=
    bnd (pUn Try.prog .not x11) fun x63 =>
    bnd (gd (some x63) false h (some (x10, h))) fun x65 =>
    bnd (gd (some x63) false x65.2 (lt (pConv Try.prog 30 9 x65.1 x65.2) x65.2)) fun x66 =>
    bnd (gd (some x63) false x66.2 (some (x0, x66.2))) fun x67 =>
    bnd (gd (some x63) false x67.2 (lt (pConv Try.prog 30 9 x67.1 x67.2) x67.2)) fun x68 =>
    bnd (gd (some x63) false x68.2 (lt (pBin Try.prog .neq 9 (.tmp 66) (.tmp 68) x66.1 x68.1) x68.2)) fun x69 =>
    bnd (pickV x63 (.bool true) x69.1) fun x70 =>
    K (x70) x69.2
theorem r23_16  : kCode env 23 false inv k (cp c23 4092) (act 72 [(0, x0), (4, x4), (7, x7), (9, x9), (10, x10), (11, x11), (48, x48)]) h K =
    G23_16 inv x0 x9 x10 x11 h fun y70 h => K .normal (act 72 [(9, x9), (70, y70)]) h := kq_reg
theorem b23_rlrrrrrrrrr  : kCode env 23 false inv k (cp c23 4093) (act 72 [(9, x9), (70, x70)]) h K = brV x70 (kCode env 23 false inv k (cp c23 8186) (act 72 [(9, x9), (70, x70)]) h K) (kCode env 23 false inv k (cp c23 8187) (act 72 [(9, x9), (70, x70)]) h K) := kq_cond
theorem r23_17  : kCode env 23 false inv k (cp c23 16372) (act 72 [(9, x9), (70, x70)]) h K =
    K .normal (act 72 [(2, (.slice none 0 0)), (3, (.int .i64 4))]) h := kq_reg
theorem r23_18  : kCode env 23 false inv k (cp c23 4094) (act 72 [(9, x9), (70, x70)]) h K =
    K .normal (act 72 [(2, x9), (3, (.int .i64 0))]) h := kq_reg
/-- shadowbook/shadowbookref07.Get -/
noncomputable def F23 (inv : Inv) (k : Nat) (x0 : Value) (h : AH) : Option (Value × AH) :=
    bnd (inv (.func 46) #[] #[x0] h) fun x13 =>
    bnd (inv (.func 47) #[] #[x13.1, (.int .i64 1)] x13.2) fun x16 =>
    bnd (pExtract x16.1 0) fun x17 =>
    bnd (pExtract x16.1 1) fun x18 =>
    bnd (inv (.func 48) #[] #[x13.1] x16.2) fun x21 =>
    bnd (pExtract x21.1 0) fun x22 =>
    bnd (pExtract x21.1 1) fun x23 =>
    G23_4 inv x0 x13.1 x17 x18 x22 x23 x21.2 fun y33 h =>
    brV y33
    (some (.tuple #[(.slice none 0 0), (.int .i64 4)], h))
    (F23_rlrrrrrrrr inv k x0 x13.1 x22 (.slice none 0 0) (.slice none 0 0) (.bool false) x17 h
    (fun y0 y4 y7 y9 y10 y11 y48 h_1 =>
    G23_16 inv y0 y9 y10 y11 h_1 fun y70 h_2 =>
    brV y70
    (some (.tuple #[(.slice none 0 0), (.int .i64 4)], h_2))
    (some (.tuple #[y9, (.int .i64 0)], h_2))))
theorem F23_eq : eFun env k inv 23 #[x0] h = F23 inv k x0 h := by
      refine (kq_fun (a := act 72 [(0, x0)]) (c := cp c23 1)).trans ?_
      unfold F23
      simp only [kq_seq c23 1, r23_0, kq_seq c23 3, r23_1, kq_seq c23 7, r23_2, kq_seq c23 15, r23_3, kq_seq c23 31, kq_seq c23 62, r23_4, b23_rlrrrr, kq_seq c23 250, r23_5, kq_ret c23 501, res23_0, kq_skip c23 251, kq_seq c23 63, r23_6, kq_seq c23 127, r23_7, kq_seq c23 255, r23_8, kq_seq c23 511, kq_seq c23 1022, r23_9, F23_rlrrrrrrrr_eq, kq_seq c23 1023, kq_seq c23 2046, r23_16, b23_rlrrrrrrrrr, kq_seq c23 8186, r23_17, kq_ret c23 16373, kq_skip c23 8187, kq_seq c23 2047, r23_18, kq_ret c23 4095, reduceIte, reduceCtorEq, XE.exit.injEq, Nat.reduceEqDiff, Nat.reduceMul, Nat.reduceAdd] <;> kernel_rfl
theorem F23_call : eInv env (k + 1) (.func 23) #[] #[x0] h = F23 (eInv env k) k x0 h := kq_inv F23_eq
noncomputable def c24 : Code := codeOf Try.prog 24
theorem r24_0  : kCode env 24 false inv k (cp c24 2) (act 26 [(0, x0), (1, x1)]) h K =
    K .normal (act 26 [(0, x0), (1, x1)]) h := kq_reg
theorem r24_1  : kCode env 24 false inv k (cp c24 12) (act 26 [(0, x0), (1, x1)]) h K =
    bnd (pLen Try.prog #[30] x0 h) fun x7 =>
    bnd (pLen Try.prog #[30] x1 h) fun x9 =>
    bnd (pBin Try.prog .neq 3 (.tmp 7) (.tmp 9) x7 x9) fun x10 =>
    K .normal (act 26 [(0, x0), (1, x1), (10, x10)]) h := kq_reg
theorem b24_rlr  : kCode env 24 false inv k (cp c24 13) (act 26 [(0, x0), (1, x1), (10, x10)]) h K = brV x10 (kCode env 24 false inv k (cp c24 26) (act 26 [(0, x0), (1, x1), (10, x10)]) h K) (kCode env 24 false inv k (cp c24 27) (act 26 [(0, x0), (1, x1), (10, x10)]) h K) := kq_cond
theorem r24_2  : kCode env 24 false inv k (cp c24 52) (act 26 [(0, x0), (1, x1), (10, x10)]) h K =
    K .normal (act 26 [(4, (.bool false))]) h := kq_reg
theorem res24_0 : resOfFn env.P 24 .ret (act 26 [(4, x4)]) h = some (x4, h) := kq_res
theorem r24_3  : kCode env 24 false inv k (cp c24 28) (act 26 [(0, x0), (1, x1), (10, x10)]) h K =
    K .normal (act 26 [(0, x0), (1, x1), (5, (.int .i64 0))]) h := kq_reg
theorem r24_4  : kCode env 24 false inv k (cp c24 464) (act 26 [(0, x0), (1, x1), (5, x5)]) h K =
    bnd (pLen Try.prog #[30] x0 h) fun x13 =>
    bnd (pBin Try.prog .lss 3 (.tmp 11) (.tmp 13) x5 x13) fun x14 =>
    K .normal (act 26 [(0, x0), (1, x1), (5, x5), (14, x14)]) h := kq_reg
theorem b24_rlllrlrr  : kCode env 24 false inv k (cp c24 465) (act 26 [(0, x0), (1, x1), (5, x5), (14, x14)]) h K = brV x14 (kCode env 24 false inv k (cp c24 930) (act 26 [(0, x0), (1, x1), (5, x5), (14, x14)]) h K) (kCode env 24 false inv k (cp c24 931) (act 26 [(0, x0), (1, x1), (5, x5), (14, x14)]) h K) := kq_cond
theorem r24_6  : kCode env 24 false inv k (cp c24 1864) (act 26 [(0, x0), (1, x1), (5, x5), (14, x14)]) h K =
    bnd (pIndexAddr Try.prog 30 x0 x5) fun x19 =>
    bnd (pLoad Try.prog 5 x19 h) fun x20 =>
    bnd (pIndexAddr Try.prog 30 x1 x5) fun x23 =>
    bnd (pLoad Try.prog 5 x23 h) fun x24 =>
    bnd (pBin Try.prog .neq 5 (.tmp 20) (.tmp 24) x20 x24) fun x25 =>
    K .normal (act 26 [(0, x0), (1, x1), (5, x5), (25, x25)]) h := kq_draw
theorem b24_rllrllrlrr  : kCode env 24 false inv k (cp c24 1865) (act 26 [(0, x0), (1, x1), (5, x5), (25, x25)]) h K = brV x25 (kCode env 24 false inv k (cp c24 3730) (act 26 [(0, x0), (1, x1), (5, x5), (25, x25)]) h K) (kCode env 24 false inv k (cp c24 3731) (act 26 [(0, x0), (1, x1), (5, x5), (25, x25)]) h K) := kq_cond
theorem r24_7  : kCode env 24 false inv k (cp c24 7460) (act 26 [(0, x0), (1, x1), (5, x5), (25, x25)]) h K =
    K .normal (act 26 [(4, (.bool false))]) h := kq_reg
theorem r24_5  : kCode env 24 false inv k (cp c24 467) (act 26 [(0, x0), (1, x1), (5, x5), (25, x25)]) h K =
    bnd (pBin Try.prog .add 3 (.tmp 15) (.const (.int .i64 1)) x5 (.int .i64 1)) fun x16 =>
    K .normal (act 26 [(0, x0), (1, x1), (5, x16)]) h := kq_reg
noncomputable def F24_lrlrr {β : Type} (inv : Inv) (k : Nat) : Nat → Value → Value → Value → AH → (Value → Value → Value → Value → AH → Option β) → (Value → AH → Option β) → Option β
  | 0, _, _, _, _, _, _ => none
  | j + 1, x0, x1, x5, h, ke0, kr =>
    bnd (pLen Try.prog #[30] x0 h) fun x13 =>
    bnd (pBin Try.prog .lss 3 (.tmp 11) (.tmp 13) x5 x13) fun x14 =>
    brV x14
    (bnd (pIndexAddr Try.prog 30 x0 x5) fun x19 =>
    bnd (pLoad Try.prog 5 x19 h) fun x20 =>
    bnd (pIndexAddr Try.prog 30 x1 x5) fun x23 =>
    bnd (pLoad Try.prog 5 x23 h) fun x24 =>
    bnd (pBin Try.prog .neq 5 (.tmp 20) (.tmp 24) x20 x24) fun x25 =>
    brV x25
    (kr (.bool false) h)
    (bnd (pBin Try.prog .add 3 (.tmp 15) (.const (.int .i64 1)) x5 (.int .i64 1)) fun x16 =>
    F24_lrlrr inv k j x0 x1 x16 h ke0 kr))
    (ke0 x0 x1 x5 x14 h)
theorem F24_lrlrr_j (j : Nat) : kLoop (kCode env 24 false inv k (cp c24 116)) j (act 26 [(0, x0), (1, x1), (5, x5)]) h K = F24_lrlrr inv k j x0 x1 x5 h (fun y0 y1 y5 y14 h => K (.exit 0) (act 26 [(0, y0), (1, y1), (5, y5), (14, y14)]) h) (fun y4 h => K .ret (act 26 [(4, y4)]) h) := by
      induction j generalizing x0 x1 x5 h with
      | zero => rfl
      | succ j ih =>
        unfold F24_lrlrr
        simp only [kLoop, kq_seq c24 116, kq_seq c24 232, r24_4, b24_rlllrlrr, kq_skip c24 930, kq_seq c24 233, kq_block c24 466 1, kq_seq c24 932, r24_6, b24_rllrllrlrr, kq_seq c24 3730, r24_7, kq_ret c24 7461, kq_skip c24 3731, r24_5, kq_exit c24 931 0, ih, reduceIte, reduceCtorEq, XE.exit.injEq, Nat.reduceEqDiff, Nat.reduceMul, Nat.reduceAdd] <;> kernel_rfl
theorem F24_lrlrr_eq  : kCode env 24 false inv k (cp c24 58) (act 26 [(0, x0), (1, x1), (5, x5)]) h K = F24_lrlrr inv k k x0 x1 x5 h (fun y0 y1 y5 y14 h => K (.exit 0) (act 26 [(0, y0), (1, y1), (5, y5), (14, y14)]) h) (fun y4 h => K .ret (act 26 [(4, y4)]) h) := kq_loop (F24_lrlrr_j k)
theorem r24_8  : kCode env 24 false inv k (cp c24 30) (act 26 [(0, x0), (1, x1), (5, x5), (14, x14)]) h K =
    K .normal (act 26 [(4, (.bool true))]) h := kq_reg
/-- shadowbook/shadowbookkit.Same[byte] -/
noncomputable def F24 (inv : Inv) (k : Nat) (x0 x1 : Value) (h : AH) : Option (Value × AH) :=
    bnd (pLen Try.prog #[30] x0 h) fun x7 =>
    bnd (pLen Try.prog #[30] x1 h) fun x9 =>
    bnd (pBin Try.prog .neq 3 (.tmp 7) (.tmp 9) x7 x9) fun x10 =>
    brV x10
    (some ((.bool false), h))
    (F24_lrlrr inv k k x0 x1 (.int .i64 0) h
    (fun y0 y1 y5 y14 h =>
    some ((.bool true), h))
    (fun y4 h_1 =>
    some (y4, h_1)))
theorem F24_eq : eFun env k inv 24 #[x0, x1] h = F24 inv k x0 x1 h := by
      refine (kq_fun (a := act 26 [(0, x0), (1, x1)]) (c := cp c24 1)).trans ?_
      unfold F24
      simp only [kq_seq c24 1, r24_0, kq_seq c24 3, kq_seq c24 6, r24_1, b24_rlr, kq_seq c24 26, r24_2, kq_ret c24 53, res24_0, kq_skip c24 27, kq_seq c24 7, kq_seq c24 14, r24_3, kq_block c24 29 0, F24_lrlrr_eq, kq_seq c24 15, r24_8, kq_ret c24 31, reduceIte, reduceCtorEq, XE.exit.injEq, Nat.reduceEqDiff, Nat.reduceMul, Nat.reduceAdd] <;> kernel_rfl
theorem F24_call : eInv env (k + 1) (.func 24) #[] #[x0, x1] h = F24 (eInv env k) k x0 x1 h := kq_inv F24_eq
noncomputable def c25 : Code := codeOf Try.prog 25
theorem r25_0  : kCode env 25 false inv k (cp c25 2) (act 60 [(0, x0)]) h K =
    K .normal (act 60 [(0, x0)]) h := kq_reg
theorem r25_1  : kCode env 25 false inv k (cp c25 6) (act 60 [(0, x0)]) h K =
    K .normal (act 60 [(0, x0), (3, (.slice none 0 0))]) h := kq_reg
theorem r25_2  : kCode env 25 false inv k (cp c25 28) (act 60 [(0, x0), (3, x3)]) h K =
    K .normal (act 60 [(0, x0), (3, x3), (4, (.int .i64 0))]) h := kq_reg
theorem r25_3  : kCode env 25 false inv k (cp c25 464) (act 60 [(0, x0), (3, x3), (4, x4)]) h K =
    bnd (pLen Try.prog #[22] x0 h) fun x8 =>
    bnd (pBin Try.prog .lss 3 (.tmp 6) (.tmp 8) x4 x8) fun x9 =>
    K .normal (act 60 [(0, x0), (3, x3), (4, x4), (9, x9)]) h := kq_reg
theorem b25_rlllrlrr  : kCode env 25 false inv k (cp c25 465) (act 60 [(0, x0), (3, x3), (4, x4), (9, x9)]) h K = brV x9 (kCode env 25 false inv k (cp c25 930) (act 60 [(0, x0), (3, x3), (4, x4), (9, x9)]) h K) (kCode env 25 false inv k (cp c25 931) (act 60 [(0, x0), (3, x3), (4, x4), (9, x9)]) h K) := kq_cond
theorem r25_5  : kCode env 25 false inv k (cp c25 1864) (act 60 [(0, x0), (3, x3), (4, x4), (9, x9)]) h K =
    K .normal (act 60 [(0, x0), (3, x3), (4, x4), (5, (.int .i64 0))]) h := kq_reg
noncomputable abbrev G25_6 {β : Type} (inv : Inv) (x0 x3 x4 x5 : Value) (h : AH) (K : Value → AH → Option β) : Option β :=
    bnd (pLen Try.prog #[22] x3 h) fun x14 =>
    bnd (pBin Try.prog .lss 3 (.tmp 12) (.tmp 14) x5 x14) fun x15 =>
    bnd (gd3 (some x15) true h (some (x3, h))) fun x17 =>
    bnd (gd3 (some x15) true x17.2.1 (some (x5, x17.2.1))) fun x18 =>
    bnd (gd3 (some x15) true x18.2.1 (lt (pIndexAddr Try.prog 22 x17.1 x18.1) x18.2.1)) fun x19 =>
    bnd (gd3 (some x15) true x19.2.1 (lt (pLoad Try.prog 9 x19.1 x19.2.1) x19.2.1)) fun x20 =>
    bnd (gd3 (some x15) true x20.2.1 (some (x0, x20.2.1))) fun x21 =>
    bnd (gd3 (some x15) true x21.2.1 (some (x4, x21.2.1))) fun x22 =>
    bnd (gd3 (some x15) true x22.2.1 (lt (pIndexAddr Try.prog 22 x21.1 x22.1) x22.2.1)) fun x23 =>
    bnd (gd3 (some x15) true x23.2.1 (lt (pLoad Try.prog 9 x23.1 x23.2.1) x23.2.1)) fun x24 =>
    bnd (gd3 (some x15) true x24.2.1 (lt (pBin Try.prog .lss 9 (.tmp 20) (.tmp 24) x20.1 x24.1) x24.2.1)) fun x25 =>
    bnd (pickV x15 x25.1 (.bool false)) fun x26 =>
    K (x26) x25.2.1
theorem r25_6  : kCode env 25 false inv k (cp c25 59680) (act 60 [(0, x0), (3, x3), (4, x4), (5, x5)]) h K =
    G25_6 inv x0 x3 x4 x5 h fun y26 h => K .normal (act 60 [(0, x0), (3, x3), (4, x4), (5, x5), (26, y26)]) h := kq_draw
theorem b25_rllllrllrllrlrr  : kCode env 25 false inv k (cp c25 59681) (act 60 [(0, x0), (3, x3), (4, x4), (5, x5), (26, x26)]) h K = brV x26 (kCode env 25 false inv k (cp c25 119362) (act 60 [(0, x0), (3, x3), (4, x4), (5, x5), (26, x26)]) h K) (kCode env 25 false inv k (cp c25 119363) (act 60 [(0, x0), (3, x3), (4, x4), (5, x5), (26, x26)]) h K) := kq_cond
theorem r25_7  : kCode env 25 false inv k (cp c25 59682) (act 60 [(0, x0), (3, x3), (4, x4), (5, x5), (26, x26)]) h K =
    bnd (pBin Try.prog .add 3 (.tmp 27) (.const (.int .i64 1)) x5 (.int .i64 1)) fun x28 =>
    K .normal (act 60 [(0, x0), (3, x3), (4, x4), (5, x28)]) h := kq_reg
noncomputable def F25_llrllrllrlrr {β : Type} (inv : Inv) (k : Nat) : Nat → Value → Value → Value → Value → AH → (Value → Value → Value → Value → Value → AH → Option β) → Option β
  | 0, _, _, _, _, _, _ => none
  | j + 1, x0, x3, x4, x5, h, ke2 =>
    G25_6 inv x0 x3 x4 x5 h fun y26 h =>
    brV y26
    (bnd (pBin Try.prog .add 3 (.tmp 27) (.const (.int .i64 1)) x5 (.int .i64 1)) fun x28 =>
    F25_llrllrllrlrr inv k j x0 x3 x4 x28 h ke2)
    (ke2 x0 x3 x4 x5 y26 h)
theorem F25_llrllrllrlrr_j (j : Nat) : kLoop (kCode env 25 false inv k (cp c25 14920)) j (act 60 [(0, x0), (3, x3), (4, x4), (5, x5)]) h K = F25_llrllrllrlrr inv k j x0 x3 x4 x5 h (fun y0 y3 y4 y5 y26 h => K (.exit 2) (act 60 [(0, y0), (3, y3), (4, y4), (5, y5), (26, y26)]) h) := by
      induction j generalizing x0 x3 x4 x5 h with
      | zero => rfl
      | succ j ih =>
        unfold F25_llrllrllrlrr
        simp only [kLoop, kq_seq c25 14920, kq_seq c25 29840, r25_6, b25_rllllrllrllrlrr, kq_skip c25 119362, kq_block c25 29841 3, r25_7, kq_exit c25 119363 2, ih, reduceIte, reduceCtorEq, XE.exit.injEq, Nat.reduceEqDiff, Nat.reduceMul, Nat.reduceAdd] <;> kernel_rfl
theorem F25_llrllrllrlrr_eq  : kCode env 25 false inv k (cp c25 7460) (act 60 [(0, x0), (3, x3), (4, x4), (5, x5)]) h K = F25_llrllrllrlrr inv k k x0 x3 x4 x5 h (fun y0 y3 y4 y5 y26 h => K (.exit 2) (act 60 [(0, y0), (3, y3), (4, y4), (5, y5), (26, y26)]) h) := kq_loop (F25_llrllrllrlrr_j k)
noncomputable abbrev G25_8 {β : Type} (inv : Inv) (x0 x3 x4 x5 : Value) (h : AH) (K : Value → AH → Option β) : Option β :=
    bnd (pLen Try.prog #[22] x3 h) fun x31 =>
    bnd (pBin Try.prog .eql 3 (.tmp 29) (.tmp 31) x5 x31) fun x32 =>
    bnd (gd3 (some x32) false h (some (x3, h))) fun x34 =>
    bnd (gd3 (some x32) false x34.2.1 (some (x5, x34.2.1))) fun x35 =>
    bnd (gd3 (some x32) false x35.2.1 (lt (pIndexAddr Try.prog 22 x34.1 x35.1) x35.2.1)) fun x36 =>
    bnd (gd3 (some x32) false x36.2.1 (lt (pLoad Try.prog 9 x36.1 x36.2.1) x36.2.1)) fun x37 =>
    bnd (gd3 (some x32) false x37.2.1 (some (x0, x37.2.1))) fun x38 =>
    bnd (gd3 (some x32) false x38.2.1 (some (x4, x38.2.1))) fun x39 =>
    bnd (gd3 (some x32) false x39.2.1 (lt (pIndexAddr Try.prog 22 x38.1 x39.1) x39.2.1)) fun x40 =>
    bnd (gd3 (some x32) false x40.2.1 (lt (pLoad Try.prog 9 x40.1 x40.2.1) x40.2.1)) fun x41 =>
    bnd (gd3 (some x32) false x41.2.1 (lt (pBin Try.prog .neq 9 (.tmp 37) (.tmp 41) x37.1 x41.1) x41.2.1)) fun x42 =>
    bnd (pickV x32 (.bool true) x42.1) fun x43 =>
    K (x43) x42.2.1
theorem r25_8  : kCode env 25 false inv k (cp c25 7462) (act 60 [(0, x0), (3, x3), (4, x4), (5, x5), (26, x26)]) h K =
    G25_8 inv x0 x3 x4 x5 h fun y43 h => K .normal (act 60 [(0, x0), (3, x3), (4, x4), (5, x5), (43, y43)]) h := kq_draw
theorem b25_rrrllrllrlrr  : kCode env 25 false inv k (cp c25 7463) (act 60 [(0, x0), (3, x3), (4, x4), (5, x5), (43, x43)]) h K = brV x43 (kCode env 25 false inv k (cp c25 14926) (act 60 [(0, x0), (3, x3), (4, x4), (5, x5), (43, x43)]) h K) (kCode env 25 false inv k (cp c25 14927) (act 60 [(0, x0), (3, x3), (4, x4), (5, x5), (43, x43)]) h K) := kq_cond
noncomputable abbrev G25_9 {β : Type} (inv : Inv) (x0 x3 x4 x5 : Value) (h : AH) (K : Value → AH → Option β) : Option β :=
    bnd (pBuildSlice Try.prog 22 0 #[] h) fun x44 =>
    bnd (pIndexAddr Try.prog 22 x0 x4) fun x51 =>
    bnd (pLoad Try.prog 9 x51 x44.2) fun x52 =>
    bnd (pBuildSlice Try.prog 22 1 #[(0, x52)] x44.2) fun x53 =>
    bnd (pSlice Try.prog 22 x3 none (some x5) none x53.2) fun x47 =>
    bnd (pAppend Try.prog #[22, 22] x44.1 x47 x53.2) fun x48 =>
    bnd (pAppend Try.prog #[22, 22] x48.1 x53.1 x48.2) fun x54 =>
    bnd (pSlice Try.prog 22 x3 (some x5) none none x54.2) fun x57 =>
    bnd (pAppend Try.prog #[22, 22] x54.1 x57 x54.2) fun x58 =>
    chkK ((!true || !true || (sameO (pLoad Try.prog 9 x51 h) x52 && sameO (pLoad Try.prog 9 x51 x44.2) x52)) && ((!true || !true || (sameO (pLoad Try.prog 9 x51 x44.2) x52 && sameO (pLoad Try.prog 9 x51 x53.2) x52)) && ((!true || !true || (sameO (pLoad Try.prog 9 x51 x53.2) x52 && sameO (pLoad Try.prog 9 x51 x48.2) x52)) && ((!true || !true || (sameO (pSlice Try.prog 22 x3 none (some x5) none h) x47 && sameO (pSlice Try.prog 22 x3 none (some x5) none x44.2) x47)) && ((!true || !true || (sameO (pSlice Try.prog 22 x3 none (some x5) none x44.2) x47 && sameO (pSlice Try.prog 22 x3 none (some x5) none x53.2) x47)) && ((!true || !true || (sameO (pSlice Try.prog 22 x3 (some x5) none none h) x57 && sameO (pSlice Try.prog 22 x3 (some x5) none none x44.2) x57)) && ((!true || !true || (sameO (pSlice Try.prog 22 x3 (some x5) none none x44.2) x57 && sameO (pSlice Try.prog 22 x3 (some x5) none none x53.2) x57)) && ((!true || !true || (sameO (pSlice Try.prog 22 x3 (some x5) none none x53.2) x57 && sameO (pSlice Try.prog 22 x3 (some x5) none none x48.2) x57)) && ((!true || !true || (sameO (pSlice Try.prog 22 x3 (some x5) none none x48.2) x57 && sameO (pSlice Try.prog 22 x3 (some x5) none none x54.2) x57)) && true))))))))) <|
    K (x58.1) x58.2
theorem r25_9  : kCode env 25 false inv k (cp c25 14926) (act 60 [(0, x0), (3, x3), (4, x4), (5, x5), (43, x43)]) h K =
    G25_9 inv x0 x3 x4 x5 h fun y3 h => K .normal (act 60 [(0, x0), (3, y3), (4, x4)]) h := kq_draw
noncomputable def F25_lrllrlrr {β : Type} (inv : Inv) (k : Nat) (x0 x3 x4 x9 : Value) (h : AH) (kn : (Value → Value → Value → Value → Value → AH → Option β)) : Option β :=
    F25_llrllrllrlrr inv k k x0 x3 x4 (.int .i64 0) h
    (fun y0 y3 y4 y5 y26 h =>
    G25_8 inv y0 y3 y4 y5 h fun y43 h_1 =>
    brV y43
    (G25_9 inv y0 y3 y4 y5 h_1 fun y3_2 h_3 =>
    kn y0 y3_2 y4 unk unk h_3)
    (kn y0 y3 y4 y5 y43 h_1))
theorem F25_lrllrlrr_eq  : kCode env 25 false inv k (cp c25 466) (act 60 [(0, x0), (3, x3), (4, x4), (9, x9)]) h K = F25_lrllrlrr inv k x0 x3 x4 x9 h (fun y0 y3 y4 y5 y43 h => K .normal (act 60 [(0, y0), (3, y3), (4, y4), (5, y5), (43, y43)]) h) := by
      unfold F25_lrllrlrr
      simp only [kq_block c25 466 1, kq_seq c25 932, r25_5, kq_seq c25 1865, kq_block c25 3730 2, F25_llrllrllrlrr_eq, kq_seq c25 3731, r25_8, b25_rrrllrllrlrr, r25_9, kq_skip c25 14927, reduceIte, reduceCtorEq, XE.exit.injEq, Nat.reduceEqDiff, Nat.reduceMul, Nat.reduceAdd] <;> kernel_rfl
theorem r25_4  : kCode env 25 false inv k (cp c25 467) (act 60 [(0, x0), (3, x3), (4, x4), (5, x5), (43, x43)]) h K =
    bnd (pBin Try.prog .add 3 (.tmp 10) (.const (.int .i64 1)) x4 (.int .i64 1)) fun x11 =>
    K .normal (act 60 [(0, x0), (3, x3), (4, x11)]) h := kq_reg
noncomputable def F25_lrlrr {β : Type} (inv : Inv) (k : Nat) : Nat → Value → Value → Value → AH → (Value → Value → Value → Value → AH → Option β) → Option β
  | 0, _, _, _, _, _ => none
  | j + 1, x0, x3, x4, h, ke0 =>
    bnd (pLen Try.prog #[22] x0 h) fun x8 =>
    bnd (pBin Try.prog .lss 3 (.tmp 6) (.tmp 8) x4 x8) fun x9 =>
    brV x9
    (F25_lrllrlrr inv k x0 x3 x4 x9 h
    (fun y0 y3 y4 y5 y43 h =>
    bnd (pBin Try.prog .add 3 (.tmp 10) (.const (.int .i64 1)) y4 (.int .i64 1)) fun x11 =>
    F25_lrlrr inv k j y0 y3 x11 h ke0))
    (ke0 x0 x3 x4 x9 h)
theorem F25_lrlrr_j (j : Nat) : kLoop (kCode env 25 false inv k (cp c25 116)) j (act 60 [(0, x0), (3, x3), (4, x4)]) h K = F25_lrlrr inv k j x0 x3 x4 h (fun y0 y3 y4 y9 h => K (.exit 0) (act 60 [(0, y0), (3, y3), (4, y4), (9, y9)]) h) := by
      induction j generalizing x0 x3 x4 h with
      | zero => rfl
      | succ j ih =>
        unfold F25_lrlrr
        simp only [kLoop, kq_seq c25 116, kq_seq c25 232, r25_3, b25_rlllrlrr, kq_skip c25 930, kq_seq c25 233, F25_lrllrlrr_eq, r25_4, kq_exit c25 931 0, ih, reduceIte, reduceCtorEq, XE.exit.injEq, Nat.reduceEqDiff, Nat.reduceMul, Nat.reduceAdd] <;> kernel_rfl
theorem F25_lrlrr_eq  : kCode env 25 false inv k (cp c25 58) (act 60 [(0, x0), (3, x3), (4, x4)]) h K = F25_lrlrr inv k k x0 x3 x4 h (fun y0 y3 y4 y9 h => K (.exit 0) (act 60 [(0, y0), (3, y3), (4, y4), (9, y9)]) h) := kq_loop (F25_lrlrr_j k)
theorem r25_10  : kCode env 25 false inv k (cp c25 30) (act 60 [(0, x0), (3, x3), (4, x4), (9, x9)]) h K =
    K .normal (act 60 [(2, x3)]) h := kq_reg
theorem res25_0 : resOfFn env.P 25 .ret (act 60 [(2, x2)]) h = some (x2, h) := kq_res
/-- shadowbook/shadowbookref07.Words -/
noncomputable def F25 (inv : Inv) (k : Nat) (x0 : Value) (h : AH) : Option (Value × AH) :=
    F25_lrlrr inv k k x0 (.slice none 0 0) (.int .i64 0) h
    (fun y0 y3 y4 y9 h =>
    some (y3, h))
theorem F25_eq : eFun env k inv 25 #[x0] h = F25 inv k x0 h := by
      refine (kq_fun (a := act 60 [(0, x0)]) (c := cp c25 1)).trans ?_
      unfold F25
      simp only [kq_seq c25 1, r25_0, kq_seq c25 3, r25_1, kq_seq c25 7, kq_seq c25 14, r25_2, kq_block c25 29 0, F25_lrlrr_eq, kq_seq c25 15, r25_10, kq_ret c25 31, res25_0, reduceIte, reduceCtorEq, XE.exit.injEq, Nat.reduceEqDiff, Nat.reduceMul, Nat.reduceAdd] <;> kernel_rfl
theorem F25_call : eInv env (k + 1) (.func 25) #[] #[x0] h = F25 (eInv env k) k x0 h := kq_inv F25_eq
noncomputable def c26 : Code := codeOf Try.prog 26
theorem r26_0  : kCode env 26 false inv k (cp c26 2) (act 29 [(0, x0), (1, x1), (2, x2)]) h K =
    K .normal (act 29 [(0, x0), (1, x1), (2, x2)]) h := kq_reg
theorem r26_1  : kCode env 26 false inv k (cp c26 12) (act 29 [(0, x0), (1, x1), (2, x2)]) h K =
    bnd (pLen Try.prog #[22] x0 h) fun x10 =>
    bnd (pBin Try.prog .gtr 3 (.tmp 10) (.tmp 11) x10 x1) fun x12 =>
    K .normal (act 29 [(0, x0), (2, x2), (12, x12)]) h := kq_reg
theorem b26_rlr  : kCode env 26 false inv k (cp c26 13) (act 29 [(0, x0), (2, x2), (12, x12)]) h K = brV x12 (kCode env 26 false inv k (cp c26 26) (act 29 [(0, x0), (2, x2), (12, x12)]) h K) (kCode env 26 false inv k (cp c26 27) (act 29 [(0, x0), (2, x2), (12, x12)]) h K) := kq_cond
theorem r26_2  : kCode env 26 false inv k (cp c26 52) (act 29 [(0, x0), (2, x2), (12, x12)]) h K =
    K .normal (act 29 [(6, (.bool false))]) h := kq_reg
theorem res26_0 : resOfFn env.P 26 .ret (act 29 [(6, x6)]) h = some (x6, h) := kq_res
theorem r26_3  : kCode env 26 false inv k (cp c26 14) (act 29 [(0, x0), (2, x2), (12, x12)]) h K =
    K .normal (act 29 [(0, x0), (2, x2), (7, (.int .i64 0))]) h := kq_reg
theorem r26_4  : kCode env 26 false inv k (cp c26 60) (act 29 [(0, x0), (2, x2), (7, x7)]) h K =
    K .normal (act 29 [(0, x0), (2, x2), (7, x7), (8, (.int .i64 0))]) h := kq_reg
theorem r26_5  : kCode env 26 false inv k (cp c26 976) (act 29 [(0, x0), (2, x2), (7, x7), (8, x8)]) h K =
    bnd (pLen Try.prog #[22] x0 h) fun x15 =>
    bnd (pBin Try.prog .lss 3 (.tmp 13) (.tmp 15) x8 x15) fun x16 =>
    K .normal (act 29 [(0, x0), (2, x2), (7, x7), (8, x8), (16, x16)]) h := kq_reg
theorem b26_rlllrlrrr  : kCode env 26 false inv k (cp c26 977) (act 29 [(0, x0), (2, x2), (7, x7), (8, x8), (16, x16)]) h K = brV x16 (kCode env 26 false inv k (cp c26 1954) (act 29 [(0, x0), (2, x2), (7, x7), (8, x8), (16, x16)]) h K) (kCode env 26 false inv k (cp c26 1955) (act 29 [(0, x0), (2, x2), (7, x7), (8, x8), (16, x16)]) h K) := kq_cond
theorem r26_7  : kCode env 26 false inv k (cp c26 3912) (act 29 [(0, x0), (2, x2), (7, x7), (8, x8), (16, x16)]) h K =
    bnd (pIndexAddr Try.prog 22 x0 x8) fun x22 =>
    bnd (pLoad Try.prog 9 x22 h) fun x23 =>
    bnd (pLen Try.prog #[9] x23 h) fun x24 =>
    bnd (pBin Try.prog .add 3 (.tmp 19) (.tmp 24) x7 x24) fun x25 =>
    K .normal (act 29 [(0, x0), (2, x2), (7, x25), (8, x8)]) h := kq_reg
theorem r26_8  : kCode env 26 false inv k (cp c26 7826) (act 29 [(0, x0), (2, x2), (7, x7), (8, x8)]) h K =
    bnd (pBin Try.prog .gtr 3 (.tmp 26) (.tmp 27) x7 x2) fun x28 =>
    K .normal (act 29 [(0, x0), (2, x2), (7, x7), (8, x8), (28, x28)]) h := kq_reg
theorem b26_rrllrllrlrrr  : kCode env 26 false inv k (cp c26 7827) (act 29 [(0, x0), (2, x2), (7, x7), (8, x8), (28, x28)]) h K = brV x28 (kCode env 26 false inv k (cp c26 15654) (act 29 [(0, x0), (2, x2), (7, x7), (8, x8), (28, x28)]) h K) (kCode env 26 false inv k (cp c26 15655) (act 29 [(0, x0), (2, x2), (7, x7), (8, x8), (28, x28)]) h K) := kq_cond
theorem r26_9  : kCode env 26 false inv k (cp c26 31308) (act 29 [(0, x0), (2, x2), (7, x7), (8, x8), (28, x28)]) h K =
    K .normal (act 29 [(6, (.bool false))]) h := kq_reg
theorem r26_6  : kCode env 26 false inv k (cp c26 979) (act 29 [(0, x0), (2, x2), (7, x7), (8, x8), (28, x28)]) h K =
    bnd (pBin Try.prog .add 3 (.tmp 17) (.const (.int .i64 1)) x8 (.int .i64 1)) fun x18 =>
    K .normal (act 29 [(0, x0), (2, x2), (7, x7), (8, x18)]) h := kq_reg
noncomputable def F26_lrlrrr {β : Type} (inv : Inv) (k : Nat) : Nat → Value → Value → Value → Value → AH → (Value → Value → Value → Value → Value → AH → Option β) → (Value → AH → Option β) → Option β
  | 0, _, _, _, _, _, _, _ => none
  | j + 1, x0, x2, x7, x8, h, ke0, kr =>
    bnd (pLen Try.prog #[22] x0 h) fun x15 =>
    bnd (pBin Try.prog .lss 3 (.tmp 13) (.tmp 15) x8 x15) fun x16 =>
    brV x16
    (bnd (pIndexAddr Try.prog 22 x0 x8) fun x22 =>
    bnd (pLoad Try.prog 9 x22 h) fun x23 =>
    bnd (pLen Try.prog #[9] x23 h) fun x24 =>
    bnd (pBin Try.prog .add 3 (.tmp 19) (.tmp 24) x7 x24) fun x25 =>
    bnd (pBin Try.prog .gtr 3 (.tmp 26) (.tmp 27) x25 x2) fun x28 =>
    brV x28
    (kr (.bool false) h)
    (bnd (pBin Try.prog .add 3 (.tmp 17) (.const (.int .i64 1)) x8 (.int .i64 1)) fun x18 =>
    F26_lrlrrr inv k j x0 x2 x25 x18 h ke0 kr))
    (ke0 x0 x2 x7 x8 x16 h)
theorem F26_lrlrrr_j (j : Nat) : kLoop (kCode env 26 false inv k (cp c26 244)) j (act 29 [(0, x0), (2, x2), (7, x7), (8, x8)]) h K = F26_lrlrrr inv k j x0 x2 x7 x8 h (fun y0 y2 y7 y8 y16 h => K (.exit 0) (act 29 [(0, y0), (2, y2), (7, y7), (8, y8), (16, y16)]) h) (fun y6 h => K .ret (act 29 [(6, y6)]) h) := by
      induction j generalizing x0 x2 x7 x8 h with
      | zero => rfl
      | succ j ih =>
        unfold F26_lrlrrr
        simp only [kLoop, kq_seq c26 244, kq_seq c26 488, r26_5, b26_rlllrlrrr, kq_skip c26 1954, kq_seq c26 489, kq_block c26 978 1, kq_seq c26 1956, r26_7, kq_seq c26 3913, r26_8, b26_rrllrllrlrrr, kq_seq c26 15654, r26_9, kq_ret c26 31309, kq_skip c26 15655, r26_6, kq_exit c26 1955 0, ih, reduceIte, reduceCtorEq, XE.exit.injEq, Nat.reduceEqDiff, Nat.reduceMul, Nat.reduceAdd] <;> kernel_rfl
theorem F26_lrlrrr_eq  : kCode env 26 false inv k (cp c26 122) (act 29 [(0, x0), (2, x2), (7, x7), (8, x8)]) h K = F26_lrlrrr inv k k x0 x2 x7 x8 h (fun y0 y2 y7 y8 y16 h => K (.exit 0) (act 29 [(0, y0), (2, y2), (7, y7), (8, y8), (16, y16)]) h) (fun y6 h => K .ret (act 29 [(6, y6)]) h) := kq_loop (F26_lrlrrr_j k)
theorem r26_10  : kCode env 26 false inv k (cp c26 62) (act 29 [(0, x0), (2, x2), (7, x7), (8, x8), (16, x16)]) h K =
    K .normal (act 29 [(6, (.bool true))]) h := kq_reg
/-- shadowbook/shadowbookkit.LightTexts -/
noncomputable def F26 (inv : Inv) (k : Nat) (x0 x1 x2 : Value) (h : AH) : Option (Value × AH) :=
    bnd (pLen Try.prog #[22] x0 h) fun x10 =>
    bnd (pBin Try.prog .gtr 3 (.tmp 10) (.tmp 11) x10 x1) fun x12 =>
    brV x12
    (some ((.bool false), h))
    (F26_lrlrrr inv k k x0 x2 (.int .i64 0) (.int .i64 0) h
    (fun y0 y2 y7 y8 y16 h =>
    some ((.bool true), h))
    (fun y6 h_1 =>
    some (y6, h_1)))
theorem F26_eq : eFun env k inv 26 #[x0, x1, x2] h = F26 inv k x0 x1 x2 h := by
      refine (kq_fun (a := act 29 [(0, x0), (1, x1), (2, x2)]) (c := cp c26 1)).trans ?_
      unfold F26
      simp only [kq_seq c26 1, r26_0, kq_seq c26 3, kq_seq c26 6, r26_1, b26_rlr, kq_seq c26 26, r26_2, kq_ret c26 53, res26_0, kq_skip c26 27, kq_seq c26 7, r26_3, kq_seq c26 15, kq_seq c26 30, r26_4, kq_block c26 61 0, F26_lrlrrr_eq, kq_seq c26 31, r26_10, kq_ret c26 63, reduceIte, reduceCtorEq, XE.exit.injEq, Nat.reduceEqDiff, Nat.reduceMul, Nat.reduceAdd] <;> kernel_rfl
theorem F26_call : eInv env (k + 1) (.func 26) #[] #[x0, x1, x2] h = F26 (eInv env k) k x0 x1 x2 h := kq_inv F26_eq
noncomputable def c28 : Code := codeOf Try.prog 28
theorem r28_0  : kCode env 28 false inv k (cp c28 2) (act 4 [(0, x0)]) h K =
    bnd (pBox Try.prog 40 x0 h) fun x1 =>
    K .normal (act 4 [(1, x1.1)]) x1.2 := kq_reg
theorem r28_1  : kCode env 28 false inv k (cp c28 6) (act 4 [(1, x1)]) h K =
    bnd (pMakeFunc (.func 53) #[] #[x1]) fun x3 =>
    K .normal (act 4 [(2, x3)]) h := kq_reg
theorem res28_0 : resOfFn env.P 28 .ret (act 4 [(2, x2)]) h = some (x2, h) := kq_res
/-- maps.Keys[map[string]struct{},string,struct{}] -/
noncomputable def F28 (inv : Inv) (k : Nat) (x0 : Value) (h : AH) : Option (Value × AH) :=
    bnd (pBox Try.prog 40 x0 h) fun x1 =>
    bnd (pMakeFunc (.func 53) #[] #[x1.1]) fun x3 =>
    some (x3, x1.2)
theorem F28_eq : eFun env k inv 28 #[x0] h = F28 inv k x0 h := by
      refine (kq_fun (a := act 4 [(0, x0)]) (c := cp c28 1)).trans ?_
      unfold F28
      simp only [kq_seq c28 1, r28_0, kq_seq c28 3, r28_1, kq_ret c28 7, res28_0, reduceIte, reduceCtorEq, XE.exit.injEq, Nat.reduceEqDiff, Nat.reduceMul, Nat.reduceAdd] <;> kernel_rfl
theorem F28_call : eInv env (k + 1) (.func 28) #[] #[x0] h = F28 (eInv env k) k x0 h := kq_inv F28_eq
noncomputable def c29 : Code := codeOf Try.prog 29
theorem r29_0  : kCode env 29 false inv k (cp c29 2) (act 10 [(0, x0)]) h K =
    K .normal (act 10 [(0, x0)]) h := kq_reg
theorem r29_1  : kCode env 29 false inv k (cp c29 12) (act 10 [(0, x0)]) h K =
    bnd (pLen Try.prog #[22] x0 h) fun x4 =>
    bnd (pBin Try.prog .gtr 3 (.tmp 4) (.const (.int .i64 4096)) x4 (.int .i64 4096)) fun x5 =>
    bnd (gd (some x5) false h (some (x0, h))) fun x7 =>
    bnd (gd (some x5) false x7.2 (inv (.func 54) #[] #[x7.1, (.func (.func 55) #[] #[])] x7.2)) fun x8 =>
    bnd (pickV x5 (.bool true) x8.1) fun x9 =>
    K .normal (act 10 [(9, x9)]) x8.2 := kq_reg
theorem b29_rlr  : kCode env 29 false inv k (cp c29 13) (act 10 [(9, x9)]) h K = brV x9 (kCode env 29 false inv k (cp c29 26) (act 10 [(9, x9)]) h K) (kCode env 29 false inv k (cp c29 27) (act 10 [(9, x9)]) h K) := kq_cond
theorem r29_2  : kCode env 29 false inv k (cp c29 52) (act 10 [(9, x9)]) h K =
    K .normal (act 10 [(2, (.int .i64 3))]) h := kq_reg
theorem res29_0 : resOfFn env.P 29 .ret (act 10 [(2, x2)]) h = some (x2, h) := kq_res
theorem r29_3  : kCode env 29 false inv k (cp c29 14) (act 10 [(9, x9)]) h K =
    K .normal (act 10 [(2, (.int .i64 0))]) h := kq_reg
/-- shadowbook/texts.check -/
noncomputable def F29 (inv : Inv) (k : Nat) (x0 : Value) (h : AH) : Option (Value × AH) :=
    bnd (pLen Try.prog #[22] x0 h) fun x4 =>
    bnd (pBin Try.prog .gtr 3 (.tmp 4) (.const (.int .i64 4096)) x4 (.int .i64 4096)) fun x5 =>
    bnd (gd (some x5) false h (some (x0, h))) fun x7 =>
    bnd (gd (some x5) false x7.2 (inv (.func 54) #[] #[x7.1, (.func (.func 55) #[] #[])] x7.2)) fun x8 =>
    bnd (pickV x5 (.bool true) x8.1) fun x9 =>
    brV x9
    (some ((.int .i64 3), x8.2))
    (some ((.int .i64 0), x8.2))
theorem F29_eq : eFun env k inv 29 #[x0] h = F29 inv k x0 h := by
      refine (kq_fun (a := act 10 [(0, x0)]) (c := cp c29 1)).trans ?_
      unfold F29
      simp only [kq_seq c29 1, r29_0, kq_seq c29 3, kq_seq c29 6, r29_1, b29_rlr, kq_seq c29 26, r29_2, kq_ret c29 53, res29_0, kq_skip c29 27, kq_seq c29 7, r29_3, kq_ret c29 15, reduceIte, reduceCtorEq, XE.exit.injEq, Nat.reduceEqDiff, Nat.reduceMul, Nat.reduceAdd] <;> kernel_rfl
theorem F29_call : eInv env (k + 1) (.func 29) #[] #[x0] h = F29 (eInv env k) k x0 h := kq_inv F29_eq
noncomputable def c30 : Code := codeOf Try.prog 30
theorem r30_0  : kCode env 30 false inv k (cp c30 2) (act 20 [(0, x0), (1, x1)]) h K =
    K .normal (act 20 [(0, x0), (1, x1)]) h := kq_reg
theorem r30_1  : kCode env 30 false inv k (cp c30 96) (act 20 [(0, x0), (1, x1)]) h K =
    bnd (pBin Try.prog .geq 48 (.tmp 5) (.const (.int .u64 128)) x1 (.int .u64 128)) fun x6 =>
    K .normal (act 20 [(0, x0), (1, x1), (6, x6)]) h := kq_reg
theorem b30_rllllr  : kCode env 30 false inv k (cp c30 97) (act 20 [(0, x0), (1, x1), (6, x6)]) h K = brV x6 (kCode env 30 false inv k (cp c30 194) (act 20 [(0, x0), (1, x1), (6, x6)]) h K) (kCode env 30 false inv k (cp c30 195) (act 20 [(0, x0), (1, x1), (6, x6)]) h K) := kq_cond
theorem r30_3  : kCode env 30 false inv k (cp c30 196) (act 20 [(0, x0), (1, x1), (6, x6)]) h K =
    bnd (pConv Try.prog 48 5 x1 h) fun x11 =>
    bnd (pBin Try.prog .or 5 (.tmp 11) (.const (.int .u8 128)) x11 (.int .u8 128)) fun x12 =>
    bnd (pBuildSlice Try.prog 30 1 #[(0, x12)] h) fun x13 =>
    bnd (pAppend Try.prog #[30, 30] x0 x13.1 x13.2) fun x14 =>
    K .normal (act 20 [(0, x14.1), (1, x1)]) x14.2 := kq_reg
theorem r30_2  : kCode env 30 false inv k (cp c30 99) (act 20 [(0, x0), (1, x1)]) h K =
    bnd (pBin Try.prog .shr 48 (.tmp 7) (.const (.int .u64 7)) x1 (.int .u64 7)) fun x8 =>
    K .normal (act 20 [(0, x0), (1, x8)]) h := kq_reg
noncomputable def F30_llr {β : Type} (inv : Inv) (k : Nat) : Nat → Value → Value → AH → (Value → Value → Value → AH → Option β) → Option β
  | 0, _, _, _, _ => none
  | j + 1, x0, x1, h, ke0 =>
    bnd (pBin Try.prog .geq 48 (.tmp 5) (.const (.int .u64 128)) x1 (.int .u64 128)) fun x6 =>
    brV x6
    (bnd (pConv Try.prog 48 5 x1 h) fun x11 =>
    bnd (pBin Try.prog .or 5 (.tmp 11) (.const (.int .u8 128)) x11 (.int .u8 128)) fun x12 =>
    bnd (pBuildSlice Try.prog 30 1 #[(0, x12)] h) fun x13 =>
    bnd (pAppend Try.prog #[30, 30] x0 x13.1 x13.2) fun x14 =>
    bnd (pBin Try.prog .shr 48 (.tmp 7) (.const (.int .u64 7)) x1 (.int .u64 7)) fun x8 =>
    F30_llr inv k j x14.1 x8 x14.2 ke0)
    (ke0 x0 x1 x6 h)
theorem F30_llr_j (j : Nat) : kLoop (kCode env 30 false inv k (cp c30 24)) j (act 20 [(0, x0), (1, x1)]) h K = F30_llr inv k j x0 x1 h (fun y0 y1 y6 h => K (.exit 0) (act 20 [(0, y0), (1, y1), (6, y6)]) h) := by
      induction j generalizing x0 x1 h with
      | zero => rfl
      | succ j ih =>
        unfold F30_llr
        simp only [kLoop, kq_seq c30 24, kq_seq c30 48, r30_1, b30_rllllr, kq_skip c30 194, kq_seq c30 49, kq_block c30 98 1, r30_3, r30_2, kq_exit c30 195 0, ih, reduceIte, reduceCtorEq, XE.exit.injEq, Nat.reduceEqDiff, Nat.reduceMul, Nat.reduceAdd] <;> kernel_rfl
theorem F30_llr_eq  : kCode env 30 false inv k (cp c30 12) (act 20 [(0, x0), (1, x1)]) h K = F30_llr inv k k x0 x1 h (fun y0 y1 y6 h => K (.exit 0) (act 20 [(0, y0), (1, y1), (6, y6)]) h) := kq_loop (F30_llr_j k)
theorem r30_4  : kCode env 30 false inv k (cp c30 14) (act 20 [(0, x0), (1, x1), (6, x6)]) h K =
    bnd (pConv Try.prog 48 5 x1 h) fun x17 =>
    bnd (pBuildSlice Try.prog 30 1 #[(0, x17)] h) fun x18 =>
    bnd (pAppend Try.prog #[30, 30] x0 x18.1 x18.2) fun x19 =>
    K .normal (act 20 [(4, x19.1)]) x19.2 := kq_reg
theorem res30_0 : resOfFn env.P 30 .ret (act 20 [(4, x4)]) h = some (x4, h) := kq_res
/-- shadowbook/octet.PutVar -/
noncomputable def F30 (inv : Inv) (k : Nat) (x0 x1 : Value) (h : AH) : Option (Value × AH) :=
    F30_llr inv k k x0 x1 h
    (fun y0 y1 y6 h =>
    bnd (pConv Try.prog 48 5 y1 h) fun x17 =>
    bnd (pBuildSlice Try.prog 30 1 #[(0, x17)] h) fun x18 =>
    bnd (pAppend Try.prog #[30, 30] y0 x18.1 x18.2) fun x19 =>
    some (x19.1, x19.2))
theorem F30_eq : eFun env k inv 30 #[x0, x1] h = F30 inv k x0 x1 h := by
      refine (kq_fun (a := act 20 [(0, x0), (1, x1)]) (c := cp c30 1)).trans ?_
      unfold F30
      simp only [kq_seq c30 1, r30_0, kq_seq c30 3, kq_block c30 6 0, F30_llr_eq, kq_seq c30 7, r30_4, kq_ret c30 15, res30_0, reduceIte, reduceCtorEq, XE.exit.injEq, Nat.reduceEqDiff, Nat.reduceMul, Nat.reduceAdd] <;> kernel_rfl
theorem F30_call : eInv env (k + 1) (.func 30) #[] #[x0, x1] h = F30 (eInv env k) k x0 x1 h := kq_inv F30_eq
noncomputable def c31 : Code := codeOf Try.prog 31
theorem r31_0  : kCode env 31 false inv k (cp c31 2) (act 12 [(0, x0), (1, x1)]) h K =
    K .normal (act 12 [(0, x0), (1, x1)]) h := kq_reg
theorem r31_1  : kCode env 31 false inv k (cp c31 6) (act 12 [(0, x0), (1, x1)]) h K =
    bnd (pLen Try.prog #[9] x1 h) fun x7 =>
    bnd (pConv Try.prog 3 48 x7 h) fun x8 =>
    bnd (inv (.func 30) #[] #[x0, x8] h) fun x9 =>
    bnd (pAppend Try.prog #[30, 9] x9.1 x1 x9.2) fun x11 =>
    K .normal (act 12 [(4, x11.1)]) x11.2 := kq_reg
theorem res31_0 : resOfFn env.P 31 .ret (act 12 [(4, x4)]) h = some (x4, h) := kq_res
/-- shadowbook/texts.text -/
noncomputable def F31 (inv : Inv) (k : Nat) (x0 x1 : Value) (h : AH) : Option (Value × AH) :=
    bnd (pLen Try.prog #[9] x1 h) fun x7 =>
    bnd (pConv Try.prog 3 48 x7 h) fun x8 =>
    bnd (inv (.func 30) #[] #[x0, x8] h) fun x9 =>
    bnd (pAppend Try.prog #[30, 9] x9.1 x1 x9.2) fun x11 =>
    some (x11.1, x11.2)
theorem F31_eq : eFun env k inv 31 #[x0, x1] h = F31 inv k x0 x1 h := by
      refine (kq_fun (a := act 12 [(0, x0), (1, x1)]) (c := cp c31 1)).trans ?_
      unfold F31
      simp only [kq_seq c31 1, r31_0, kq_seq c31 3, r31_1, kq_ret c31 7, res31_0, reduceIte, reduceCtorEq, XE.exit.injEq, Nat.reduceEqDiff, Nat.reduceMul, Nat.reduceAdd] <;> kernel_rfl
theorem F31_call : eInv env (k + 1) (.func 31) #[] #[x0, x1] h = F31 (eInv env k) k x0 x1 h := kq_inv F31_eq
noncomputable def c32 : Code := codeOf Try.prog 32
theorem r32_0  : kCode env 32 false inv k (cp c32 2) (act 54 [(0, x0), (1, x1)]) h K =
    K .normal (act 54 [(0, x0), (1, x1)]) h := kq_reg
theorem r32_1  : kCode env 32 false inv k (cp c32 6) (act 54 [(0, x0), (1, x1)]) h K =
    bnd (pLen Try.prog #[22] x0 h) fun x11 =>
    K .normal (act 54 [(0, x0), (1, x1), (6, x11)]) h := kq_reg
theorem r32_2  : kCode env 32 false inv k (cp c32 14) (act 54 [(0, x0), (1, x1), (6, x6)]) h K =
    K .normal (act 54 [(0, x0), (1, x1), (6, x6), (7, (.int .i64 0)), (8, x6)]) h := kq_reg
theorem r32_3  : kCode env 32 false inv k (cp c32 480) (act 54 [(0, x0), (1, x1), (6, x6), (7, x7), (8, x8)]) h K =
    bnd (pBin Try.prog .lss 3 (.tmp 13) (.tmp 14) x7 x8) fun x15 =>
    K .normal (act 54 [(0, x0), (1, x1), (6, x6), (7, x7), (8, x8), (15, x15)]) h := kq_reg
theorem b32_rllllrrr  : kCode env 32 false inv k (cp c32 481) (act 54 [(0, x0), (1, x1), (6, x6), (7, x7), (8, x8), (15, x15)]) h K = brV x15 (kCode env 32 false inv k (cp c32 962) (act 54 [(0, x0), (1, x1), (6, x6), (7, x7), (8, x8), (15, x15)]) h K) (kCode env 32 false inv k (cp c32 963) (act 54 [(0, x0), (1, x1), (6, x6), (7, x7), (8, x8), (15, x15)]) h K) := kq_cond
theorem r32_4  : kCode env 32 false inv k (cp c32 964) (act 54 [(0, x0), (1, x1), (6, x6), (7, x7), (8, x8), (15, x15)]) h K =
    bnd (pBin Try.prog .add 3 (.tmp 16) (.tmp 17) x7 x8) fun x18 =>
    bnd (pConv Try.prog 3 70 x18 h) fun x19 =>
    bnd (pBin Try.prog .shr 70 (.tmp 19) (.const (.int .u64 1)) x19 (.int .u64 1)) fun x20 =>
    bnd (pConv Try.prog 70 3 x20 h) fun x21 =>
    K .normal (act 54 [(0, x0), (1, x1), (6, x6), (7, x7), (8, x8), (9, x21)]) h := kq_reg
theorem r32_5  : kCode env 32 false inv k (cp c32 1930) (act 54 [(0, x0), (1, x1), (6, x6), (7, x7), (8, x8), (9, x9)]) h K =
    bnd (pIndexAddr Try.prog 22 x0 x9) fun x24 =>
    bnd (pLoad Try.prog 9 x24 h) fun x25 =>
    bnd (inv (.func 56) #[] #[x25, x1] h) fun x27 =>
    K .normal (act 54 [(0, x0), (1, x1), (6, x6), (7, x7), (8, x8), (9, x9), (27, x27.1)]) x27.2 := kq_reg
theorem b32_rrlrlllrrr  : kCode env 32 false inv k (cp c32 1931) (act 54 [(0, x0), (1, x1), (6, x6), (7, x7), (8, x8), (9, x9), (27, x27)]) h K = brV x27 (kCode env 32 false inv k (cp c32 3862) (act 54 [(0, x0), (1, x1), (6, x6), (7, x7), (8, x8), (9, x9), (27, x27)]) h K) (kCode env 32 false inv k (cp c32 3863) (act 54 [(0, x0), (1, x1), (6, x6), (7, x7), (8, x8), (9, x9), (27, x27)]) h K) := kq_cond
theorem r32_6  : kCode env 32 false inv k (cp c32 3862) (act 54 [(0, x0), (1, x1), (6, x6), (7, x7), (8, x8), (9, x9), (27, x27)]) h K =
    bnd (pBin Try.prog .add 3 (.tmp 28) (.const (.int .i64 1)) x9 (.int .i64 1)) fun x29 =>
    K .normal (act 54 [(0, x0), (1, x1), (6, x6), (7, x29), (8, x8)]) h := kq_reg
theorem r32_7  : kCode env 32 false inv k (cp c32 3863) (act 54 [(0, x0), (1, x1), (6, x6), (7, x7), (8, x8), (9, x9), (27, x27)]) h K =
    K .normal (act 54 [(0, x0), (1, x1), (6, x6), (7, x7), (8, x9)]) h := kq_reg
noncomputable def F32_llrrr {β : Type} (inv : Inv) (k : Nat) : Nat → Value → Value → Value → Value → Value → AH → (Value → Value → Value → Value → Value → Value → AH → Option β) → Option β
  | 0, _, _, _, _, _, _, _ => none
  | j + 1, x0, x1, x6, x7, x8, h, ke0 =>
    bnd (pBin Try.prog .lss 3 (.tmp 13) (.tmp 14) x7 x8) fun x15 =>
    brV x15
    (bnd (pBin Try.prog .add 3 (.tmp 16) (.tmp 17) x7 x8) fun x18 =>
    bnd (pConv Try.prog 3 70 x18 h) fun x19 =>
    bnd (pBin Try.prog .shr 70 (.tmp 19) (.const (.int .u64 1)) x19 (.int .u64 1)) fun x20 =>
    bnd (pConv Try.prog 70 3 x20 h) fun x21 =>
    bnd (pIndexAddr Try.prog 22 x0 x21) fun x24 =>
    bnd (pLoad Try.prog 9 x24 h) fun x25 =>
    bnd (inv (.func 56) #[] #[x25, x1] h) fun x27 =>
    brV x27.1
    (bnd (pBin Try.prog .add 3 (.tmp 28) (.const (.int .i64 1)) x21 (.int .i64 1)) fun x29 =>
    F32_llrrr inv k j x0 x1 x6 x29 x8 x27.2 ke0)
    (F32_llrrr inv k j x0 x1 x6 x7 x21 x27.2 ke0))
    (ke0 x0 x1 x6 x7 x8 x15 h)
theorem F32_llrrr_j (j : Nat) : kLoop (kCode env 32 false inv k (cp c32 120)) j (act 54 [(0, x0), (1, x1), (6, x6), (7, x7), (8, x8)]) h K = F32_llrrr inv k j x0 x1 x6 x7 x8 h (fun y0 y1 y6 y7 y8 y15 h => K (.exit 0) (act 54 [(0, y0), (1, y1), (6, y6), (7, y7), (8, y8), (15, y15)]) h) := by
      induction j generalizing x0 x1 x6 x7 x8 h with
      | zero => rfl
      | succ j ih =>
        unfold F32_llrrr
        simp only [kLoop, kq_seq c32 120, kq_seq c32 240, r32_3, b32_rllllrrr, kq_skip c32 962, kq_block c32 241 1, kq_seq c32 482, r32_4, kq_seq c32 965, r32_5, b32_rrlrlllrrr, r32_6, r32_7, kq_exit c32 963 0, ih, reduceIte, reduceCtorEq, XE.exit.injEq, Nat.reduceEqDiff, Nat.reduceMul, Nat.reduceAdd] <;> kernel_rfl
theorem F32_llrrr_eq  : kCode env 32 false inv k (cp c32 60) (act 54 [(0, x0), (1, x1), (6, x6), (7, x7), (8, x8)]) h K = F32_llrrr inv k k x0 x1 x6 x7 x8 h (fun y0 y1 y6 y7 y8 y15 h => K (.exit 0) (act 54 [(0, y0), (1, y1), (6, y6), (7, y7), (8, y8), (15, y15)]) h) := kq_loop (F32_llrrr_j k)
noncomputable abbrev G32_8 {β : Type} (inv : Inv) (x0 x1 x6 x7 : Value) (h : AH) (K : Value → Value → AH → Option β) : Option β :=
    bnd (pBin Try.prog .lss 3 (.tmp 32) (.tmp 33) x7 x6) fun x34 =>
    bnd (gd (some x34) true h (some (x0, h))) fun x36 =>
    bnd (gd (some x34) true x36.2 (some (x7, x36.2))) fun x37 =>
    bnd (gd (some x34) true x37.2 (lt (pIndexAddr Try.prog 22 x36.1 x37.1) x37.2)) fun x38 =>
    bnd (gd (some x34) true x38.2 (lt (pLoad Try.prog 9 x38.1 x38.2) x38.2)) fun x39 =>
    bnd (gd (some x34) true x39.2 (some (x1, x39.2))) fun x40 =>
    bnd (gd (some x34) true x40.2 (lt (pBin Try.prog .eql 9 (.tmp 39) (.tmp 40) x39.1 x40.1) x40.2)) fun x41 =>
    bnd (gd (some x34) true x41.2 (some (x41.1, x41.2))) fun x42 =>
    bnd (gd (some x42.1) false x42.2 (some (x0, x42.2))) fun x43 =>
    bnd (gd (some x42.1) false x43.2 (some (x7, x43.2))) fun x44 =>
    bnd (gd (some x42.1) false x44.2 (lt (pIndexAddr Try.prog 22 x43.1 x44.1) x44.2)) fun x45 =>
    bnd (gd (some x42.1) false x45.2 (lt (pLoad Try.prog 9 x45.1 x45.2) x45.2)) fun x46 =>
    bnd (gd (some x42.1) false x46.2 (inv (.func 57) #[] #[x46.1] x46.2)) fun x47 =>
    bnd (gd (some x42.1) false x47.2 (some (x47.1, x47.2))) fun x48 =>
    bnd (gd (some x48.1) true x48.2 (some (x1, x48.2))) fun x49 =>
    bnd (gd (some x48.1) true x49.2 (inv (.func 57) #[] #[x49.1] x49.2)) fun x50 =>
    bnd (gd (some x42.1) false x50.2 (lt (pickV x48.1 x50.1 (.bool false)) x50.2)) fun x51 =>
    bnd (gd (some x34) true x51.2 (lt (pickV x42.1 (.bool true) x51.1) x51.2)) fun x52 =>
    bnd (pickV x34 x52.1 (.bool false)) fun x53 =>
    K (x7) (x53) x52.2
theorem r32_8  : kCode env 32 false inv k (cp c32 62) (act 54 [(0, x0), (1, x1), (6, x6), (7, x7), (8, x8), (15, x15)]) h K =
    G32_8 inv x0 x1 x6 x7 h fun y4 y5 h => K .normal (act 54 [(4, y4), (5, y5)]) h := kq_reg
theorem res32_0 : resOfFn env.P 32 .ret (act 54 [(4, x4), (5, x5)]) h = some (.tuple #[x4, x5], h) := kq_res
/-- slices.BinarySearch[[]string,string] -/
noncomputable def F32 (inv : Inv) (k : Nat) (x0 x1 : Value) (h : AH) : Option (Value × AH) :=
    bnd (pLen Try.prog #[22] x0 h) fun x11 =>
    F32_llrrr inv k k x0 x1 x11 (.int .i64 0) x11 h
    (fun y0 y1 y6 y7 y8 y15 h =>
    G32_8 inv y0 y1 y6 y7 h fun y4 y5 h_1 =>
    some (.tuple #[y4, y5], h_1))
theorem F32_eq : eFun env k inv 32 #[x0, x1] h = F32 inv k x0 x1 h := by
      refine (kq_fun (a := act 54 [(0, x0), (1, x1)]) (c := cp c32 1)).trans ?_
      unfold F32
      simp only [kq_seq c32 1, r32_0, kq_seq c32 3, r32_1, kq_seq c32 7, r32_2, kq_seq c32 15, kq_block c32 30 0, F32_llrrr_eq, kq_seq c32 31, r32_8, kq_ret c32 63, res32_0, reduceIte, reduceCtorEq, XE.exit.injEq, Nat.reduceEqDiff, Nat.reduceMul, Nat.reduceAdd] <;> kernel_rfl
theorem F32_call : eInv env (k + 1) (.func 32) #[] #[x0, x1] h = F32 (eInv env k) k x0 x1 h := kq_inv F32_eq
noncomputable def c33 : Code := codeOf Try.prog 33
theorem r33_0  : kCode env 33 false inv k (cp c33 2) (act 18 [(0, x0)]) h K =
    K .normal (act 18 [(0, x0)]) h := kq_reg
theorem r33_1  : kCode env 33 false inv k (cp c33 6) (act 18 [(0, x0)]) h K =
    K .normal (act 18 [(0, x0), (3, (.int .u64 0))]) h := kq_reg
theorem r33_2  : kCode env 33 false inv k (cp c33 28) (act 18 [(0, x0), (3, x3)]) h K =
    bnd (pLen Try.prog #[50] x0 h) fun x7 =>
    K .normal (act 18 [(3, x3), (6, x0), (7, x7), (8, (.int .i64 0))]) h := kq_reg
theorem r33_3  : kCode env 33 false inv k (cp c33 232) (act 18 [(3, x3), (6, x6), (7, x7), (8, x8)]) h K =
    bnd (pBin Try.prog .lss 3 (.tmp 8) (.tmp 7) x8 x7) fun x9 =>
    K .normal (act 18 [(3, x3), (6, x6), (7, x7), (8, x8), (9, x9)]) h := kq_reg
theorem b33_lrllrlrr  : kCode env 33 false inv k (cp c33 466) (act 18 [(3, x3), (6, x6), (7, x7), (8, x8), (9, x9)]) h K = brV x9 (kCode env 33 false inv k (cp c33 932) (act 18 [(3, x3), (6, x6), (7, x7), (8, x8), (9, x9)]) h K) (kCode env 33 false inv k (cp c33 933) (act 18 [(3, x3), (6, x6), (7, x7), (8, x8), (9, x9)]) h K) := kq_cond
theorem r33_4  : kCode env 33 false inv k (cp c33 3736) (act 18 [(3, x3), (6, x6), (7, x7), (8, x8), (9, x9)]) h K =
    bnd (pIndexAddr Try.prog 50 x6 x8) fun x10 =>
    bnd (pLoad Try.prog 48 x10 h) fun x11 =>
    K .normal (act 18 [(3, x3), (5, x11), (6, x6), (7, x7), (8, x8)]) h := kq_reg
theorem r33_5  : kCode env 33 false inv k (cp c33 3737) (act 18 [(3, x3), (5, x5), (6, x6), (7, x7), (8, x8)]) h K =
    bnd (pBin Try.prog .or 48 (.tmp 12) (.tmp 13) x3 x5) fun x14 =>
    K .normal (act 18 [(3, x14), (6, x6), (7, x7), (8, x8)]) h := kq_reg
theorem r33_6  : kCode env 33 false inv k (cp c33 935) (act 18 [(3, x3), (6, x6), (7, x7), (8, x8)]) h K =
    bnd (pBin Try.prog .add 3 (.tmp 8) (.const (.int .i64 1)) x8 (.int .i64 1)) fun x15 =>
    K .normal (act 18 [(3, x3), (6, x6), (7, x7), (8, x15)]) h := kq_reg
noncomputable def F33_lrlrr {β : Type} (inv : Inv) (k : Nat) : Nat → Value → Value → Value → Value → AH → (Value → Value → Value → Value → Value → AH → Option β) → Option β
  | 0, _, _, _, _, _, _ => none
  | j + 1, x3, x6, x7, x8, h, ke0 =>
    bnd (pBin Try.prog .lss 3 (.tmp 8) (.tmp 7) x8 x7) fun x9 =>
    brV x9
    (bnd (pIndexAddr Try.prog 50 x6 x8) fun x10 =>
    bnd (pLoad Try.prog 48 x10 h) fun x11 =>
    bnd (pBin Try.prog .or 48 (.tmp 12) (.tmp 13) x3 x11) fun x14 =>
    bnd (pBin Try.prog .add 3 (.tmp 8) (.const (.int .i64 1)) x8 (.int .i64 1)) fun x15 =>
    F33_lrlrr inv k j x14 x6 x7 x15 h ke0)
    (ke0 x3 x6 x7 x8 x9 h)
theorem F33_lrlrr_j (j : Nat) : kLoop (kCode env 33 false inv k (cp c33 116)) j (act 18 [(3, x3), (6, x6), (7, x7), (8, x8)]) h K = F33_lrlrr inv k j x3 x6 x7 x8 h (fun y3 y6 y7 y8 y9 h => K (.exit 0) (act 18 [(3, y3), (6, y6), (7, y7), (8, y8), (9, y9)]) h) := by
      induction j generalizing x3 x6 x7 x8 h with
      | zero => rfl
      | succ j ih =>
        unfold F33_lrlrr
        simp only [kLoop, kq_seq c33 116, r33_3, kq_seq c33 233, b33_lrllrlrr, kq_skip c33 932, kq_seq c33 467, kq_block c33 934 1, kq_seq c33 1868, r33_4, r33_5, r33_6, kq_exit c33 933 0, ih, reduceIte, reduceCtorEq, XE.exit.injEq, Nat.reduceEqDiff, Nat.reduceMul, Nat.reduceAdd] <;> kernel_rfl
theorem F33_lrlrr_eq  : kCode env 33 false inv k (cp c33 58) (act 18 [(3, x3), (6, x6), (7, x7), (8, x8)]) h K = F33_lrlrr inv k k x3 x6 x7 x8 h (fun y3 y6 y7 y8 y9 h => K (.exit 0) (act 18 [(3, y3), (6, y6), (7, y7), (8, y8), (9, y9)]) h) := kq_loop (F33_lrlrr_j k)
theorem r33_7  : kCode env 33 false inv k (cp c33 30) (act 18 [(3, x3), (6, x6), (7, x7), (8, x8), (9, x9)]) h K =
    bnd (inv (.func 58) #[] #[x3] h) fun x17 =>
    K .normal (act 18 [(2, x17.1)]) x17.2 := kq_reg
theorem res33_0 : resOfFn env.P 33 .ret (act 18 [(2, x2)]) h = some (x2, h) := kq_res
/-- shadowbook/packs.Width -/
noncomputable def F33 (inv : Inv) (k : Nat) (x0 : Value) (h : AH) : Option (Value × AH) :=
    bnd (pLen Try.prog #[50] x0 h) fun x7 =>
    F33_lrlrr inv k k (.int .u64 0) x0 x7 (.int .i64 0) h
    (fun y3 y6 y7 y8 y9 h =>
    bnd (inv (.func 58) #[] #[y3] h) fun x17 =>
    some (x17.1, x17.2))
theorem F33_eq : eFun env k inv 33 #[x0] h = F33 inv k x0 h := by
      refine (kq_fun (a := act 18 [(0, x0)]) (c := cp c33 1)).trans ?_
      unfold F33
      simp only [kq_seq c33 1, r33_0, kq_seq c33 3, r33_1, kq_seq c33 7, kq_seq c33 14, r33_2, kq_block c33 29 0, F33_lrlrr_eq, kq_seq c33 15, r33_7, kq_ret c33 31, res33_0, reduceIte, reduceCtorEq, XE.exit.injEq, Nat.reduceEqDiff, Nat.reduceMul, Nat.reduceAdd] <;> kernel_rfl
theorem F33_call : eInv env (k + 1) (.func 33) #[] #[x0] h = F33 (eInv env k) k x0 h := kq_inv F33_eq
noncomputable def c34 : Code := codeOf Try.prog 34
theorem r34_0  : kCode env 34 false inv k (cp c34 2) (act 54 [(0, x0), (1, x1)]) h K =
    K .normal (act 54 [(0, x0), (1, x1)]) h := kq_reg
theorem r34_1  : kCode env 34 false inv k (cp c34 24) (act 54 [(0, x0), (1, x1)]) h K =
    bnd (pLen Try.prog #[50] x0 h) fun x14 =>
    bnd (inv (.func 59) #[] #[x14, x1] h) fun x16 =>
    bnd (pUn Try.prog .not x16.1) fun x17 =>
    K .normal (act 54 [(0, x0), (1, x1), (12, x17)]) x16.2 := kq_reg
theorem b34_rllr  : kCode env 34 false inv k (cp c34 25) (act 54 [(0, x0), (1, x1), (12, x12)]) h K = brV x12 (kCode env 34 false inv k (cp c34 50) (act 54 [(0, x0), (1, x1), (12, x12)]) h K) (kCode env 34 false inv k (cp c34 51) (act 54 [(0, x0), (1, x1), (12, x12)]) h K) := kq_cond
theorem r34_2  : kCode env 34 false inv k (cp c34 100) (act 54 [(0, x0), (1, x1), (12, x12)]) h K =
    K .normal (act 54 [(4, (.slice none 0 0)), (5, (.int .i64 2))]) h := kq_reg
theorem res34_0 : resOfFn env.P 34 .ret (act 54 [(4, x4), (5, x5)]) h = some (.tuple #[x4, x5], h) := kq_res
theorem r34_3  : kCode env 34 false inv k (cp c34 102) (act 54 [(0, x0), (1, x1), (12, x12)]) h K =
    bnd (inv (.func 33) #[] #[x0] h) fun x20 =>
    bnd (pBin Try.prog .gtr 3 (.tmp 20) (.tmp 21) x20.1 x1) fun x22 =>
    K .normal (act 54 [(0, x0), (1, x1), (18, x22)]) x20.2 := kq_reg
theorem b34_rrrllr  : kCode env 34 false inv k (cp c34 103) (act 54 [(0, x0), (1, x1), (18, x18)]) h K = brV x18 (kCode env 34 false inv k (cp c34 206) (act 54 [(0, x0), (1, x1), (18, x18)]) h K) (kCode env 34 false inv k (cp c34 207) (act 54 [(0, x0), (1, x1), (18, x18)]) h K) := kq_cond
theorem r34_4  : kCode env 34 false inv k (cp c34 412) (act 54 [(0, x0), (1, x1), (18, x18)]) h K =
    K .normal (act 54 [(4, (.slice none 0 0)), (5, (.int .i64 3))]) h := kq_reg
theorem r34_5  : kCode env 34 false inv k (cp c34 14) (act 54 [(0, x0), (1, x1), (18, x18)]) h K =
    bnd (pLen Try.prog #[50] x0 h) fun x24 =>
    bnd (inv (.func 60) #[] #[x24, x1] h) fun x26 =>
    bnd (pMakeSlice Try.prog 30 (.int .i64 0) x26.1 x26.2) fun x27 =>
    bnd (pAlloc Try.prog 30 x27.2) fun x6 =>
    bnd (kSt (pStore Try.prog 30 x6.1 x27.1 x6.2)) fun u =>
    K .normal (act 54 [(0, x0), (1, x1), (6, x6.1)]) u.2 := kq_reg
theorem r34_6  : kCode env 34 false inv k (cp c34 30) (act 54 [(0, x0), (1, x1), (6, x6)]) h K =
    bnd (pAlloc Try.prog 5 h) fun x7 =>
    K .normal (act 54 [(0, x0), (1, x1), (6, x6), (7, x7.1)]) x7.2 := kq_reg
theorem r34_7  : kCode env 34 false inv k (cp c34 62) (act 54 [(0, x0), (1, x1), (6, x6), (7, x7)]) h K =
    bnd (pAlloc Try.prog 3 h) fun x8 =>
    bnd (kSt (pStore Try.prog 3 x8.1 (.int .i64 0) x8.2)) fun u =>
    K .normal (act 54 [(0, x0), (1, x1), (6, x6), (7, x7), (8, x8.1)]) u.2 := kq_reg
theorem r34_8  : kCode env 34 false inv k (cp c34 126) (act 54 [(0, x0), (1, x1), (6, x6), (7, x7), (8, x8)]) h K =
    bnd (pMakeFunc (.func 61) #[] #[x7, x8, x6]) fun x28 =>
    K .normal (act 54 [(0, x0), (1, x1), (6, x6), (7, x7), (8, x8), (9, x28)]) h := kq_reg
theorem r34_9  : kCode env 34 false inv k (cp c34 508) (act 54 [(0, x0), (1, x1), (6, x6), (7, x7), (8, x8), (9, x9)]) h K =
    bnd (pLen Try.prog #[50] x0 h) fun x30 =>
    K .normal (act 54 [(1, x1), (6, x6), (7, x7), (8, x8), (9, x9), (29, x0), (30, x30), (31, (.int .i64 0))]) h := kq_reg
theorem r34_10  : kCode env 34 false inv k (cp c34 4072) (act 54 [(1, x1), (6, x6), (7, x7), (8, x8), (9, x9), (29, x29), (30, x30), (31, x31)]) h K =
    bnd (pBin Try.prog .lss 3 (.tmp 31) (.tmp 30) x31 x30) fun x32 =>
    K .normal (act 54 [(1, x1), (6, x6), (7, x7), (8, x8), (9, x9), (29, x29), (30, x30), (31, x31), (32, x32)]) h := kq_reg
theorem b34_lrllrlrrrrrr  : kCode env 34 false inv k (cp c34 8146) (act 54 [(1, x1), (6, x6), (7, x7), (8, x8), (9, x9), (29, x29), (30, x30), (31, x31), (32, x32)]) h K = brV x32 (kCode env 34 false inv k (cp c34 16292) (act 54 [(1, x1), (6, x6), (7, x7), (8, x8), (9, x9), (29, x29), (30, x30), (31, x31), (32, x32)]) h K) (kCode env 34 false inv k (cp c34 16293) (act 54 [(1, x1), (6, x6), (7, x7), (8, x8), (9, x9), (29, x29), (30, x30), (31, x31), (32, x32)]) h K) := kq_cond
theorem r34_11  : kCode env 34 false inv k (cp c34 65176) (act 54 [(1, x1), (6, x6), (7, x7), (8, x8), (9, x9), (29, x29), (30, x30), (31, x31), (32, x32)]) h K =
    bnd (pIndexAddr Try.prog 50 x29 x31) fun x33 =>
    bnd (pLoad Try.prog 48 x33 h) fun x34 =>
    K .normal (act 54 [(1, x1), (6, x6), (7, x7), (8, x8), (9, x9), (11, x34), (29, x29), (30, x30), (31, x31)]) h := kq_reg
theorem r34_12  : kCode env 34 false inv k (cp c34 130354) (act 54 [(1, x1), (6, x6), (7, x7), (8, x8), (9, x9), (11, x11), (29, x29), (30, x30), (31, x31)]) h K =
    K .normal (act 54 [(1, x1), (6, x6), (7, x7), (8, x8), (9, x9), (11, x11), (29, x29), (30, x30), (31, x31), (35, x1), (36, (.int .i64 0))]) h := kq_reg
theorem r34_13  : kCode env 34 false inv k (cp c34 1042840) (act 54 [(1, x1), (6, x6), (7, x7), (8, x8), (9, x9), (11, x11), (29, x29), (30, x30), (31, x31), (35, x35), (36, x36)]) h K =
    bnd (pBin Try.prog .lss 3 (.tmp 36) (.tmp 35) x36 x35) fun x37 =>
    K .normal (act 54 [(1, x1), (6, x6), (7, x7), (8, x8), (9, x9), (11, x11), (29, x29), (30, x30), (31, x31), (35, x35), (36, x36), (37, x37)]) h := kq_reg
theorem b34_lrllrrllrrllrlrrrrrr  : kCode env 34 false inv k (cp c34 2085682) (act 54 [(1, x1), (6, x6), (7, x7), (8, x8), (9, x9), (11, x11), (29, x29), (30, x30), (31, x31), (35, x35), (36, x36), (37, x37)]) h K = brV x37 (kCode env 34 false inv k (cp c34 4171364) (act 54 [(1, x1), (6, x6), (7, x7), (8, x8), (9, x9), (11, x11), (29, x29), (30, x30), (31, x31), (35, x35), (36, x36), (37, x37)]) h K) (kCode env 34 false inv k (cp c34 4171365) (act 54 [(1, x1), (6, x6), (7, x7), (8, x8), (9, x9), (11, x11), (29, x29), (30, x30), (31, x31), (35, x35), (36, x36), (37, x37)]) h K) := kq_cond
theorem r34_14  : kCode env 34 false inv k (cp c34 16685464) (act 54 [(1, x1), (6, x6), (7, x7), (8, x8), (9, x9), (11, x11), (29, x29), (30, x30), (31, x31), (35, x35), (36, x36), (37, x37)]) h K =
    bnd (pBin Try.prog .and 48 (.tmp 39) (.const (.int .u64 1)) x11 (.int .u64 1)) fun x40 =>
    bnd (pConv Try.prog 48 5 x40 h) fun x41 =>
    bnd (callV inv x9 #[x41] h) fun x42 =>
    K .normal (act 54 [(1, x1), (6, x6), (7, x7), (8, x8), (9, x9), (11, x11), (29, x29), (30, x30), (31, x31), (35, x35), (36, x36)]) x42.2 := kq_reg
theorem r34_15  : kCode env 34 false inv k (cp c34 16685465) (act 54 [(1, x1), (6, x6), (7, x7), (8, x8), (9, x9), (11, x11), (29, x29), (30, x30), (31, x31), (35, x35), (36, x36)]) h K =
    bnd (pBin Try.prog .shr 48 (.tmp 43) (.const (.int .u64 1)) x11 (.int .u64 1)) fun x44 =>
    K .normal (act 54 [(1, x1), (6, x6), (7, x7), (8, x8), (9, x9), (11, x44), (29, x29), (30, x30), (31, x31), (35, x35), (36, x36)]) h := kq_reg
theorem r34_16  : kCode env 34 false inv k (cp c34 4171367) (act 54 [(1, x1), (6, x6), (7, x7), (8, x8), (9, x9), (11, x11), (29, x29), (30, x30), (31, x31), (35, x35), (36, x36)]) h K =
    bnd (pBin Try.prog .add 3 (.tmp 36) (.const (.int .i64 1)) x36 (.int .i64 1)) fun x45 =>
    K .normal (act 54 [(1, x1), (6, x6), (7, x7), (8, x8), (9, x9), (11, x11), (29, x29), (30, x30), (31, x31), (35, x35), (36, x45)]) h := kq_reg
noncomputable def F34_lrrllrrllrlrrrrrr {β : Type} (inv : Inv) (k : Nat) : Nat → Value → Value → Value → Value → Value → Value → Value → Value → Value → Value → Value → AH → (Value → Value → Value → Value → Value → Value → Value → Value → Value → Value → Value → Value → AH → Option β) → Option β
  | 0, _, _, _, _, _, _, _, _, _, _, _, _, _ => none
  | j + 1, x1, x6, x7, x8, x9, x11, x29, x30, x31, x35, x36, h, ke3 =>
    bnd (pBin Try.prog .lss 3 (.tmp 36) (.tmp 35) x36 x35) fun x37 =>
    brV x37
    (bnd (pBin Try.prog .and 48 (.tmp 39) (.const (.int .u64 1)) x11 (.int .u64 1)) fun x40 =>
    bnd (pConv Try.prog 48 5 x40 h) fun x41 =>
    bnd (callV inv x9 #[x41] h) fun x42 =>
    bnd (pBin Try.prog .shr 48 (.tmp 43) (.const (.int .u64 1)) x11 (.int .u64 1)) fun x44 =>
    bnd (pBin Try.prog .add 3 (.tmp 36) (.const (.int .i64 1)) x36 (.int .i64 1)) fun x45 =>
    F34_lrrllrrllrlrrrrrr inv k j x1 x6 x7 x8 x9 x44 x29 x30 x31 x35 x45 x42.2 ke3)
    (ke3 x1 x6 x7 x8 x9 x11 x29 x30 x31 x35 x36 x37 h)
theorem F34_lrrllrrllrlrrrrrr_j (j : Nat) : kLoop (kCode env 34 false inv k (cp c34 521420)) j (act 54 [(1, x1), (6, x6), (7, x7), (8, x8), (9, x9), (11, x11), (29, x29), (30, x30), (31, x31), (35, x35), (36, x36)]) h K = F34_lrrllrrllrlrrrrrr inv k j x1 x6 x7 x8 x9 x11 x29 x30 x31 x35 x36 h (fun y1 y6 y7 y8 y9 y11 y29 y30 y31 y35 y36 y37 h => K (.exit 3) (act 54 [(1, y1), (6, y6), (7, y7), (8, y8), (9, y9), (11, y11), (29, y29), (30, y30), (31, y31), (35, y35), (36, y36), (37, y37)]) h) := by
      induction j generalizing x1 x6 x7 x8 x9 x11 x29 x30 x31 x35 x36 h with
      | zero => rfl
      | succ j ih =>
        unfold F34_lrrllrrllrlrrrrrr
        simp only [kLoop, kq_seq c34 521420, r34_13, kq_seq c34 1042841, b34_lrllrrllrrllrlrrrrrr, kq_skip c34 4171364, kq_seq c34 2085683, kq_block c34 4171366 4, kq_seq c34 8342732, r34_14, r34_15, r34_16, kq_exit c34 4171365 3, ih, reduceIte, reduceCtorEq, XE.exit.injEq, Nat.reduceEqDiff, Nat.reduceMul, Nat.reduceAdd] <;> kernel_rfl
theorem F34_lrrllrrllrlrrrrrr_eq  : kCode env 34 false inv k (cp c34 260710) (act 54 [(1, x1), (6, x6), (7, x7), (8, x8), (9, x9), (11, x11), (29, x29), (30, x30), (31, x31), (35, x35), (36, x36)]) h K = F34_lrrllrrllrlrrrrrr inv k k x1 x6 x7 x8 x9 x11 x29 x30 x31 x35 x36 h (fun y1 y6 y7 y8 y9 y11 y29 y30 y31 y35 y36 y37 h => K (.exit 3) (act 54 [(1, y1), (6, y6), (7, y7), (8, y8), (9, y9), (11, y11), (29, y29), (30, y30), (31, y31), (35, y35), (36, y36), (37, y37)]) h) := kq_loop (F34_lrrllrrllrlrrrrrr_j k)
theorem r34_17  : kCode env 34 false inv k (cp c34 16295) (act 54 [(1, x1), (6, x6), (7, x7), (8, x8), (9, x9), (11, x11), (29, x29), (30, x30), (31, x31), (35, x35), (36, x36), (37, x37)]) h K =
    bnd (pBin Try.prog .add 3 (.tmp 31) (.const (.int .i64 1)) x31 (.int .i64 1)) fun x46 =>
    K .normal (act 54 [(1, x1), (6, x6), (7, x7), (8, x8), (9, x9), (29, x29), (30, x30), (31, x46)]) h := kq_reg
noncomputable def F34_lrlrrrrrr {β : Type} (inv : Inv) (k : Nat) : Nat → Value → Value → Value → Value → Value → Value → Value → Value → AH → (Value → Value → Value → Value → Value → Value → Value → Value → Value → AH → Option β) → Option β
  | 0, _, _, _, _, _, _, _, _, _, _ => none
  | j + 1, x1, x6, x7, x8, x9, x29, x30, x31, h, ke1 =>
    bnd (pBin Try.prog .lss 3 (.tmp 31) (.tmp 30) x31 x30) fun x32 =>
    brV x32
    (bnd (pIndexAddr Try.prog 50 x29 x31) fun x33 =>
    bnd (pLoad Try.prog 48 x33 h) fun x34 =>
    F34_lrrllrrllrlrrrrrr inv k k x1 x6 x7 x8 x9 x34 x29 x30 x31 x1 (.int .i64 0) h
    (fun y1 y6 y7 y8 y9 y11 y29 y30 y31 y35 y36 y37 h =>
    bnd (pBin Try.prog .add 3 (.tmp 31) (.const (.int .i64 1)) y31 (.int .i64 1)) fun x46 =>
    F34_lrlrrrrrr inv k j y1 y6 y7 y8 y9 y29 y30 x46 h ke1))
    (ke1 x1 x6 x7 x8 x9 x29 x30 x31 x32 h)
theorem F34_lrlrrrrrr_j (j : Nat) : kLoop (kCode env 34 false inv k (cp c34 2036)) j (act 54 [(1, x1), (6, x6), (7, x7), (8, x8), (9, x9), (29, x29), (30, x30), (31, x31)]) h K = F34_lrlrrrrrr inv k j x1 x6 x7 x8 x9 x29 x30 x31 h (fun y1 y6 y7 y8 y9 y29 y30 y31 y32 h => K (.exit 1) (act 54 [(1, y1), (6, y6), (7, y7), (8, y8), (9, y9), (29, y29), (30, y30), (31, y31), (32, y32)]) h) := by
      induction j generalizing x1 x6 x7 x8 x9 x29 x30 x31 h with
      | zero => rfl
      | succ j ih =>
        unfold F34_lrlrrrrrr
        simp only [kLoop, kq_seq c34 2036, r34_10, kq_seq c34 4073, b34_lrllrlrrrrrr, kq_skip c34 16292, kq_seq c34 8147, kq_block c34 16294 2, kq_seq c34 32588, r34_11, kq_seq c34 65177, r34_12, kq_block c34 130355 3, F34_lrrllrrllrlrrrrrr_eq, r34_17, kq_exit c34 16293 1, ih, reduceIte, reduceCtorEq, XE.exit.injEq, Nat.reduceEqDiff, Nat.reduceMul, Nat.reduceAdd] <;> kernel_rfl
theorem F34_lrlrrrrrr_eq  : kCode env 34 false inv k (cp c34 1018) (act 54 [(1, x1), (6, x6), (7, x7), (8, x8), (9, x9), (29, x29), (30, x30), (31, x31)]) h K = F34_lrlrrrrrr inv k k x1 x6 x7 x8 x9 x29 x30 x31 h (fun y1 y6 y7 y8 y9 y29 y30 y31 y32 h => K (.exit 1) (act 54 [(1, y1), (6, y6), (7, y7), (8, y8), (9, y9), (29, y29), (30, y30), (31, y31), (32, y32)]) h) := kq_loop (F34_lrlrrrrrr_j k)
theorem r34_18  : kCode env 34 false inv k (cp c34 1020) (act 54 [(1, x1), (6, x6), (7, x7), (8, x8), (9, x9), (29, x29), (30, x30), (31, x31), (32, x32)]) h K =
    bnd (pLoad Try.prog 3 x8 h) fun x47 =>
    bnd (pBin Try.prog .gtr 3 (.tmp 47) (.const (.int .i64 0)) x47 (.int .i64 0)) fun x48 =>
    K .normal (act 54 [(6, x6), (7, x7), (48, x48)]) h := kq_reg
theorem b34_rlrrrrrrr  : kCode env 34 false inv k (cp c34 1021) (act 54 [(6, x6), (7, x7), (48, x48)]) h K = brV x48 (kCode env 34 false inv k (cp c34 2042) (act 54 [(6, x6), (7, x7), (48, x48)]) h K) (kCode env 34 false inv k (cp c34 2043) (act 54 [(6, x6), (7, x7), (48, x48)]) h K) := kq_cond
theorem r34_19  : kCode env 34 false inv k (cp c34 2042) (act 54 [(6, x6), (7, x7), (48, x48)]) h K =
    bnd (pLoad Try.prog 30 x6 h) fun x49 =>
    bnd (pLoad Try.prog 5 x7 h) fun x50 =>
    bnd (pBuildSlice Try.prog 30 1 #[(0, x50)] h) fun x51 =>
    bnd (pAppend Try.prog #[30, 30] x49 x51.1 x51.2) fun x52 =>
    bnd (kSt (pStore Try.prog 30 x6 x52.1 x52.2)) fun u =>
    K .normal (act 54 [(6, x6)]) u.2 := kq_reg
noncomputable def F34_rlrrrrrrr {β : Type} (inv : Inv) (k : Nat) (x6 x7 x48 : Value) (h : AH) (kn : (Value → Value → Value → AH → Option β)) : Option β :=
    brV x48
    (bnd (pLoad Try.prog 30 x6 h) fun x49 =>
    bnd (pLoad Try.prog 5 x7 h) fun x50 =>
    bnd (pBuildSlice Try.prog 30 1 #[(0, x50)] h) fun x51 =>
    bnd (pAppend Try.prog #[30, 30] x49 x51.1 x51.2) fun x52 =>
    bnd (kSt (pStore Try.prog 30 x6 x52.1 x52.2)) fun u =>
    kn x6 unk unk u.2)
    (kn x6 x7 x48 h)
theorem F34_rlrrrrrrr_eq  : kCode env 34 false inv k (cp c34 1021) (act 54 [(6, x6), (7, x7), (48, x48)]) h K = F34_rlrrrrrrr inv k x6 x7 x48 h (fun y6 y7 y48 h => K .normal (act 54 [(6, y6), (7, y7), (48, y48)]) h) := by
      unfold F34_rlrrrrrrr
      simp only [b34_rlrrrrrrr, r34_19, kq_skip c34 2043, reduceIte, reduceCtorEq, XE.exit.injEq, Nat.reduceEqDiff, Nat.reduceMul, Nat.reduceAdd] <;> kernel_rfl
theorem r34_20  : kCode env 34 false inv k (cp c34 1022) (act 54 [(6, x6), (7, x7), (48, x48)]) h K =
    bnd (pLoad Try.prog 30 x6 h) fun x53 =>
    K .normal (act 54 [(4, x53), (5, (.int .i64 0))]) h := kq_reg
/-- shadowbook/packs.Put -/
noncomputable def F34 (inv : Inv) (k : Nat) (x0 x1 : Value) (h : AH) : Option (Value × AH) :=
    bnd (pLen Try.prog #[50] x0 h) fun x14 =>
    bnd (inv (.func 59) #[] #[x14, x1] h) fun x16 =>
    bnd (pUn Try.prog .not x16.1) fun x17 =>
    brV x17
    (some (.tuple #[(.slice none 0 0), (.int .i64 2)], x16.2))
    (bnd (inv (.func 33) #[] #[x0] x16.2) fun x20 =>
    bnd (pBin Try.prog .gtr 3 (.tmp 20) (.tmp 21) x20.1 x1) fun x22 =>
    brV x22
    (some (.tuple #[(.slice none 0 0), (.int .i64 3)], x20.2))
    (bnd (pLen Try.prog #[50] x0 x20.2) fun x24 =>
    bnd (inv (.func 60) #[] #[x24, x1] x20.2) fun x26 =>
    bnd (pMakeSlice Try.prog 30 (.int .i64 0) x26.1 x26.2) fun x27 =>
    bnd (pAlloc Try.prog 30 x27.2) fun x6 =>
    bnd (kSt (pStore Try.prog 30 x6.1 x27.1 x6.2)) fun u =>
    bnd (pAlloc Try.prog 5 u.2) fun x7 =>
    bnd (pAlloc Try.prog 3 x7.2) fun x8 =>
    bnd (kSt (pStore Try.prog 3 x8.1 (.int .i64 0) x8.2)) fun u_1 =>
    bnd (pMakeFunc (.func 61) #[] #[x7.1, x8.1, x6.1]) fun x28 =>
    bnd (pLen Try.prog #[50] x0 u_1.2) fun x30 =>
    F34_lrlrrrrrr inv k k x1 x6.1 x7.1 x8.1 x28 x0 x30 (.int .i64 0) u_1.2
    (fun y1 y6 y7 y8 y9 y29 y30 y31 y32 h =>
    bnd (pLoad Try.prog 3 y8 h) fun x47 =>
    bnd (pBin Try.prog .gtr 3 (.tmp 47) (.const (.int .i64 0)) x47 (.int .i64 0)) fun x48 =>
    F34_rlrrrrrrr inv k y6 y7 x48 h
    (fun y6_2 y7_3 y48 h_4 =>
    bnd (pLoad Try.prog 30 y6_2 h_4) fun x53 =>
    some (.tuple #[x53, (.int .i64 0)], h_4)))))
theorem F34_eq : eFun env k inv 34 #[x0, x1] h = F34 inv k x0 x1 h := by
      refine (kq_fun (a := act 54 [(0, x0), (1, x1)]) (c := cp c34 1)).trans ?_
      unfold F34
      simp only [kq_seq c34 1, r34_0, kq_seq c34 3, kq_block c34 6 0, kq_seq c34 12, r34_1, b34_rllr, kq_seq c34 50, r34_2, kq_ret c34 101, res34_0, kq_seq c34 51, r34_3, b34_rrrllr, kq_seq c34 206, r34_4, kq_ret c34 413, kq_skip c34 207, kq_seq c34 7, r34_5, kq_seq c34 15, r34_6, kq_seq c34 31, r34_7, kq_seq c34 63, r34_8, kq_seq c34 127, kq_seq c34 254, r34_9, kq_block c34 509 1, F34_lrlrrrrrr_eq, kq_seq c34 255, kq_seq c34 510, r34_18, F34_rlrrrrrrr_eq, kq_seq c34 511, r34_20, kq_ret c34 1023, reduceIte, reduceCtorEq, XE.exit.injEq, Nat.reduceEqDiff, Nat.reduceMul, Nat.reduceAdd] <;> kernel_rfl
theorem F34_call : eInv env (k + 1) (.func 34) #[] #[x0, x1] h = F34 (eInv env k) k x0 x1 h := kq_inv F34_eq
noncomputable def c35 : Code := codeOf Try.prog 35
theorem r35_0  : kCode env 35 false inv k (cp c35 2) (act 7 [(0, x0)]) h K =
    K .normal (act 7 [(0, x0)]) h := kq_reg
theorem r35_1  : kCode env 35 false inv k (cp c35 6) (act 7 [(0, x0)]) h K =
    bnd (inv (.func 62) #[] #[x0] h) fun x4 =>
    bnd (pBuild Try.prog 77 #[(0, x4.1)]) fun x5 =>
    bnd (pBox Try.prog 77 x5 x4.2) fun x6 =>
    K .normal (act 7 [(2, x6.1)]) x6.2 := kq_reg
theorem res35_0 : resOfFn env.P 35 .ret (act 7 [(2, x2)]) h = some (x2, h) := kq_res
/-- shadowbook/octet.New -/
noncomputable def F35 (inv : Inv) (k : Nat) (x0 : Value) (h : AH) : Option (Value × AH) :=
    bnd (inv (.func 62) #[] #[x0] h) fun x4 =>
    bnd (pBuild Try.prog 77 #[(0, x4.1)]) fun x5 =>
    bnd (pBox Try.prog 77 x5 x4.2) fun x6 =>
    some (x6.1, x6.2)
theorem F35_eq : eFun env k inv 35 #[x0] h = F35 inv k x0 h := by
      refine (kq_fun (a := act 7 [(0, x0)]) (c := cp c35 1)).trans ?_
      unfold F35
      simp only [kq_seq c35 1, r35_0, kq_seq c35 3, r35_1, kq_ret c35 7, res35_0, reduceIte, reduceCtorEq, XE.exit.injEq, Nat.reduceEqDiff, Nat.reduceMul, Nat.reduceAdd] <;> kernel_rfl
theorem F35_call : eInv env (k + 1) (.func 35) #[] #[x0] h = F35 (eInv env k) k x0 h := kq_inv F35_eq
noncomputable def c36 : Code := codeOf Try.prog 36
theorem r36_0  : kCode env 36 false inv k (cp c36 2) (act 27 [(0, x0), (1, x1)]) h K =
    K .normal (act 27 [(0, x0), (1, x1)]) h := kq_reg
theorem r36_1  : kCode env 36 false inv k (cp c36 24) (act 27 [(0, x0), (1, x1)]) h K =
    bnd (pBin Try.prog .eql 55 (.tmp 9) (.const (.pointer none)) x0 (.pointer none)) fun x10 =>
    K .normal (act 27 [(0, x0), (1, x1), (8, x10)]) h := kq_reg
theorem b36_rllr  : kCode env 36 false inv k (cp c36 25) (act 27 [(0, x0), (1, x1), (8, x8)]) h K = brV x8 (kCode env 36 false inv k (cp c36 50) (act 27 [(0, x0), (1, x1), (8, x8)]) h K) (kCode env 36 false inv k (cp c36 51) (act 27 [(0, x0), (1, x1), (8, x8)]) h K) := kq_cond
theorem r36_2  : kCode env 36 false inv k (cp c36 100) (act 27 [(0, x0), (1, x1), (8, x8)]) h K =
    K .normal (act 27 [(4, (.int .u64 0)), (5, (.int .i64 1))]) h := kq_reg
theorem res36_0 : resOfFn env.P 36 .ret (act 27 [(4, x4), (5, x5)]) h = some (.tuple #[x4, x5], h) := kq_res
noncomputable abbrev G36_3 {β : Type} (inv : Inv) (x0 x1 : Value) (h : AH) (K : Value → AH → Option β) : Option β :=
    bnd (pBin Try.prog .lss 3 (.tmp 12) (.const (.int .i64 1)) x1 (.int .i64 1)) fun x13 =>
    bnd (gd (some x13) false h (some (x1, h))) fun x15 =>
    bnd (gd (some x13) false x15.2 (lt (pBin Try.prog .gtr 3 (.tmp 15) (.const (.int .i64 8)) x15.1 (.int .i64 8)) x15.2)) fun x16 =>
    bnd (pickV x13 (.bool true) x16.1) fun x17 =>
    K (x17) x16.2
theorem r36_3  : kCode env 36 false inv k (cp c36 102) (act 27 [(0, x0), (1, x1), (8, x8)]) h K =
    G36_3 inv x0 x1 h fun y11 h => K .normal (act 27 [(0, x0), (1, x1), (11, y11)]) h := kq_reg
theorem b36_rrrllr  : kCode env 36 false inv k (cp c36 103) (act 27 [(0, x0), (1, x1), (11, x11)]) h K = brV x11 (kCode env 36 false inv k (cp c36 206) (act 27 [(0, x0), (1, x1), (11, x11)]) h K) (kCode env 36 false inv k (cp c36 207) (act 27 [(0, x0), (1, x1), (11, x11)]) h K) := kq_cond
theorem r36_4  : kCode env 36 false inv k (cp c36 412) (act 27 [(0, x0), (1, x1), (11, x11)]) h K =
    K .normal (act 27 [(4, (.int .u64 0)), (5, (.int .i64 2))]) h := kq_reg
theorem r36_5  : kCode env 36 false inv k (cp c36 14) (act 27 [(0, x0), (1, x1), (11, x11)]) h K =
    bnd (inv (.func 63) #[] #[x0, x1] h) fun x21 =>
    bnd (pExtract x21.1 0) fun x22 =>
    bnd (pExtract x21.1 1) fun x23 =>
    K .normal (act 27 [(6, x22), (7, x23)]) x21.2 := kq_reg
theorem r36_6  : kCode env 36 false inv k (cp c36 30) (act 27 [(6, x6), (7, x7)]) h K =
    bnd (inv (.func 64) #[] #[x6] h) fun x25 =>
    K .normal (act 27 [(4, x25.1), (5, x7)]) x25.2 := kq_reg
/-- (*shadowbook/octet.Reader).Number -/
noncomputable def F36 (inv : Inv) (k : Nat) (x0 x1 : Value) (h : AH) : Option (Value × AH) :=
    bnd (pBin Try.prog .eql 55 (.tmp 9) (.const (.pointer none)) x0 (.pointer none)) fun x10 =>
    brV x10
    (some (.tuple #[(.int .u64 0), (.int .i64 1)], h))
    (G36_3 inv x0 x1 h fun y11 h =>
    brV y11
    (some (.tuple #[(.int .u64 0), (.int .i64 2)], h))
    (bnd (inv (.func 63) #[] #[x0, x1] h) fun x21 =>
    bnd (pExtract x21.1 0) fun x22 =>
    bnd (pExtract x21.1 1) fun x23 =>
    bnd (inv (.func 64) #[] #[x22] x21.2) fun x25 =>
    some (.tuple #[x25.1, x23], x25.2)))
theorem F36_eq : eFun env k inv 36 #[x0, x1] h = F36 inv k x0 x1 h := by
      refine (kq_fun (a := act 27 [(0, x0), (1, x1)]) (c := cp c36 1)).trans ?_
      unfold F36
      simp only [kq_seq c36 1, r36_0, kq_seq c36 3, kq_block c36 6 0, kq_seq c36 12, r36_1, b36_rllr, kq_seq c36 50, r36_2, kq_ret c36 101, res36_0, kq_seq c36 51, r36_3, b36_rrrllr, kq_seq c36 206, r36_4, kq_ret c36 413, kq_skip c36 207, kq_seq c36 7, r36_5, kq_seq c36 15, r36_6, kq_ret c36 31, reduceIte, reduceCtorEq, XE.exit.injEq, Nat.reduceEqDiff, Nat.reduceMul, Nat.reduceAdd] <;> kernel_rfl
theorem F36_call : eInv env (k + 1) (.func 36) #[] #[x0, x1] h = F36 (eInv env k) k x0 x1 h := kq_inv F36_eq
noncomputable def c37 : Code := codeOf Try.prog 37
theorem r37_0  : kCode env 37 false inv k (cp c37 2) (act 58 [(0, x0)]) h K =
    K .normal (act 58 [(0, x0), (2, (.int .u64 0))]) h := kq_reg
theorem r37_1  : kCode env 37 false inv k (cp c37 12) (act 58 [(0, x0), (2, x2)]) h K =
    bnd (pBin Try.prog .eql 55 (.tmp 7) (.const (.pointer none)) x0 (.pointer none)) fun x8 =>
    K .normal (act 58 [(0, x0), (2, x2), (8, x8)]) h := kq_reg
theorem b37_rlr  : kCode env 37 false inv k (cp c37 13) (act 58 [(0, x0), (2, x2), (8, x8)]) h K = brV x8 (kCode env 37 false inv k (cp c37 26) (act 58 [(0, x0), (2, x2), (8, x8)]) h K) (kCode env 37 false inv k (cp c37 27) (act 58 [(0, x0), (2, x2), (8, x8)]) h K) := kq_cond
theorem r37_2  : kCode env 37 false inv k (cp c37 52) (act 58 [(0, x0), (2, x2), (8, x8)]) h K =
    K .normal (act 58 [(2, (.int .u64 0)), (3, (.int .i64 1))]) h := kq_reg
theorem res37_0 : resOfFn env.P 37 .ret (act 58 [(2, x2), (3, x3)]) h = some (.tuple #[x2, x3], h) := kq_res
theorem r37_3  : kCode env 37 false inv k (cp c37 28) (act 58 [(0, x0), (2, x2), (8, x8)]) h K =
    bnd (pNilCheck x0) fun x10 =>
    bnd (pFieldAddr Try.prog 77 x10 0) fun x11 =>
    bnd (pLoad Try.prog 30 x11 h) fun x12 =>
    bnd (pLen Try.prog #[30] x12 h) fun x13 =>
    K .normal (act 58 [(0, x0), (2, x2), (12, x12), (13, x13), (14, (.int .i64 0))]) h := kq_reg
theorem r37_4  : kCode env 37 false inv k (cp c37 232) (act 58 [(0, x0), (2, x2), (12, x12), (13, x13), (14, x14)]) h K =
    bnd (pBin Try.prog .lss 3 (.tmp 14) (.tmp 13) x14 x13) fun x15 =>
    K .normal (act 58 [(0, x0), (2, x2), (12, x12), (13, x13), (14, x14), (15, x15)]) h := kq_reg
theorem b37_lrllrlrr  : kCode env 37 false inv k (cp c37 466) (act 58 [(0, x0), (2, x2), (12, x12), (13, x13), (14, x14), (15, x15)]) h K = brV x15 (kCode env 37 false inv k (cp c37 932) (act 58 [(0, x0), (2, x2), (12, x12), (13, x13), (14, x14), (15, x15)]) h K) (kCode env 37 false inv k (cp c37 933) (act 58 [(0, x0), (2, x2), (12, x12), (13, x13), (14, x14), (15, x15)]) h K) := kq_cond
theorem r37_5  : kCode env 37 false inv k (cp c37 3736) (act 58 [(0, x0), (2, x2), (12, x12), (13, x13), (14, x14), (15, x15)]) h K =
    bnd (pIndexAddr Try.prog 30 x12 x14) fun x17 =>
    bnd (pLoad Try.prog 5 x17 h) fun x18 =>
    K .normal (act 58 [(0, x0), (2, x2), (4, x14), (5, x18), (12, x12), (13, x13), (14, x14)]) h := kq_reg
theorem r37_6  : kCode env 37 false inv k (cp c37 14948) (act 58 [(0, x0), (2, x2), (4, x4), (5, x5), (12, x12), (13, x13), (14, x14)]) h K =
    bnd (pBin Try.prog .eql 3 (.tmp 19) (.const (.int .i64 10)) x4 (.int .i64 10)) fun x20 =>
    K .normal (act 58 [(0, x0), (2, x2), (4, x4), (5, x5), (12, x12), (13, x13), (14, x14), (20, x20)]) h := kq_reg
theorem b37_rlrllrrllrlrr  : kCode env 37 false inv k (cp c37 14949) (act 58 [(0, x0), (2, x2), (4, x4), (5, x5), (12, x12), (13, x13), (14, x14), (20, x20)]) h K = brV x20 (kCode env 37 false inv k (cp c37 29898) (act 58 [(0, x0), (2, x2), (4, x4), (5, x5), (12, x12), (13, x13), (14, x14), (20, x20)]) h K) (kCode env 37 false inv k (cp c37 29899) (act 58 [(0, x0), (2, x2), (4, x4), (5, x5), (12, x12), (13, x13), (14, x14), (20, x20)]) h K) := kq_cond
theorem r37_7  : kCode env 37 false inv k (cp c37 14950) (act 58 [(0, x0), (2, x2), (4, x4), (5, x5), (12, x12), (13, x13), (14, x14), (20, x20)]) h K =
    bnd (pBin Try.prog .andNot 5 (.tmp 21) (.const (.int .u8 128)) x5 (.int .u8 128)) fun x22 =>
    bnd (pConv Try.prog 5 48 x22 h) fun x23 =>
    K .normal (act 58 [(0, x0), (2, x2), (4, x4), (5, x5), (6, x23), (12, x12), (13, x13), (14, x14)]) h := kq_reg
noncomputable abbrev G37_8 {β : Type} (inv : Inv) (x0 x2 x4 x5 x6 x12 x13 x14 : Value) (h : AH) (K : Value → AH → Option β) : Option β :=
    bnd (pBin Try.prog .eql 3 (.tmp 24) (.const (.int .i64 9)) x4 (.int .i64 9)) fun x25 =>
    bnd (gd (some x25) true h (some (x6, h))) fun x27 =>
    bnd (gd (some x25) true x27.2 (lt (pBin Try.prog .gtr 48 (.tmp 27) (.const (.int .u64 1)) x27.1 (.int .u64 1)) x27.2)) fun x28 =>
    bnd (pickV x25 x28.1 (.bool false)) fun x29 =>
    K (x29) x28.2
theorem r37_8  : kCode env 37 false inv k (cp c37 59804) (act 58 [(0, x0), (2, x2), (4, x4), (5, x5), (6, x6), (12, x12), (13, x13), (14, x14)]) h K =
    G37_8 inv x0 x2 x4 x5 x6 x12 x13 x14 h fun y29 h => K .normal (act 58 [(0, x0), (2, x2), (4, x4), (5, x5), (6, x6), (12, x12), (13, x13), (14, x14), (29, y29)]) h := kq_reg
theorem b37_rlrrrllrrllrlrr  : kCode env 37 false inv k (cp c37 59805) (act 58 [(0, x0), (2, x2), (4, x4), (5, x5), (6, x6), (12, x12), (13, x13), (14, x14), (29, x29)]) h K = brV x29 (kCode env 37 false inv k (cp c37 119610) (act 58 [(0, x0), (2, x2), (4, x4), (5, x5), (6, x6), (12, x12), (13, x13), (14, x14), (29, x29)]) h K) (kCode env 37 false inv k (cp c37 119611) (act 58 [(0, x0), (2, x2), (4, x4), (5, x5), (6, x6), (12, x12), (13, x13), (14, x14), (29, x29)]) h K) := kq_cond
theorem r37_9  : kCode env 37 false inv k (cp c37 59806) (act 58 [(0, x0), (2, x2), (4, x4), (5, x5), (6, x6), (12, x12), (13, x13), (14, x14), (29, x29)]) h K =
    bnd (pBin Try.prog .mul 3 (.const (.int .i64 7)) (.tmp 32) (.int .i64 7) x4) fun x33 =>
    bnd (pBin Try.prog .shl 48 (.tmp 31) (.tmp 33) x6 x33) fun x34 =>
    bnd (pBin Try.prog .or 48 (.tmp 30) (.tmp 34) x2 x34) fun x35 =>
    K .normal (act 58 [(0, x0), (2, x35), (4, x4), (5, x5), (6, x6), (12, x12), (13, x13), (14, x14)]) h := kq_reg
theorem r37_10  : kCode env 37 false inv k (cp c37 239228) (act 58 [(0, x0), (2, x2), (4, x4), (5, x5), (6, x6), (12, x12), (13, x13), (14, x14)]) h K =
    bnd (pBin Try.prog .geq 5 (.tmp 36) (.const (.int .u8 128)) x5 (.int .u8 128)) fun x37 =>
    K .normal (act 58 [(0, x0), (2, x2), (4, x4), (6, x6), (12, x12), (13, x13), (14, x14), (37, x37)]) h := kq_reg
theorem b37_rlrrrrrllrrllrlrr  : kCode env 37 false inv k (cp c37 239229) (act 58 [(0, x0), (2, x2), (4, x4), (6, x6), (12, x12), (13, x13), (14, x14), (37, x37)]) h K = brV x37 (kCode env 37 false inv k (cp c37 478458) (act 58 [(0, x0), (2, x2), (4, x4), (6, x6), (12, x12), (13, x13), (14, x14), (37, x37)]) h K) (kCode env 37 false inv k (cp c37 478459) (act 58 [(0, x0), (2, x2), (4, x4), (6, x6), (12, x12), (13, x13), (14, x14), (37, x37)]) h K) := kq_cond
theorem r37_14  : kCode env 37 false inv k (cp c37 935) (act 58 [(0, x0), (2, x2), (4, x4), (6, x6), (12, x12), (13, x13), (14, x14), (37, x37)]) h K =
    bnd (pBin Try.prog .add 3 (.tmp 14) (.const (.int .i64 1)) x14 (.int .i64 1)) fun x55 =>
    K .normal (act 58 [(0, x0), (2, x2), (12, x12), (13, x13), (14, x55)]) h := kq_reg
noncomputable abbrev G37_11 {β : Type} (inv : Inv) (x0 x2 x4 x6 : Value) (h : AH) (K : Value → AH → Option β) : Option β :=
    bnd (pBin Try.prog .eql 48 (.tmp 38) (.const (.int .u64 0)) x6 (.int .u64 0)) fun x39 =>
    bnd (gd (some x39) true h (some (x4, h))) fun x41 =>
    bnd (gd (some x39) true x41.2 (lt (pBin Try.prog .gtr 3 (.tmp 41) (.const (.int .i64 0)) x41.1 (.int .i64 0)) x41.2)) fun x42 =>
    bnd (pickV x39 x42.1 (.bool false)) fun x43 =>
    K (x43) x42.2
theorem r37_11  : kCode env 37 false inv k (cp c37 478460) (act 58 [(0, x0), (2, x2), (4, x4), (6, x6), (12, x12), (13, x13), (14, x14), (37, x37)]) h K =
    G37_11 inv x0 x2 x4 x6 h fun y43 h => K .normal (act 58 [(0, x0), (2, x2), (4, x4), (43, y43)]) h := kq_reg
theorem b37_rlrrrrrrllrrllrlrr  : kCode env 37 false inv k (cp c37 478461) (act 58 [(0, x0), (2, x2), (4, x4), (43, x43)]) h K = brV x43 (kCode env 37 false inv k (cp c37 956922) (act 58 [(0, x0), (2, x2), (4, x4), (43, x43)]) h K) (kCode env 37 false inv k (cp c37 956923) (act 58 [(0, x0), (2, x2), (4, x4), (43, x43)]) h K) := kq_cond
noncomputable abbrev G37_12 {β : Type} (inv : Inv) (x0 x2 x4 : Value) (h : AH) (K : AH → Option β) : Option β :=
    bnd (pNilCheck x0) fun x46 =>
    bnd (pFieldAddr Try.prog 77 x46 0) fun x47 =>
    bnd (pLoad Try.prog 30 x47 h) fun x48 =>
    bnd (pBin Try.prog .add 3 (.tmp 49) (.const (.int .i64 1)) x4 (.int .i64 1)) fun x50 =>
    bnd (pSlice Try.prog 30 x48 (some x50) none none h) fun x51 =>
    bnd (pNilCheck x0) fun x52 =>
    bnd (pFieldAddr Try.prog 77 x52 0) fun x53 =>
    bnd (kSt (pStore Try.prog 30 x53 x51 h)) fun u =>
    K u.2
theorem r37_12  : kCode env 37 false inv k (cp c37 478462) (act 58 [(0, x0), (2, x2), (4, x4), (43, x43)]) h K =
    G37_12 inv x0 x2 x4 h fun  h => K .normal (act 58 [(2, x2)]) h := kq_reg
theorem r37_13  : kCode env 37 false inv k (cp c37 956926) (act 58 [(2, x2)]) h K =
    K .normal (act 58 [(2, x2), (3, (.int .i64 0))]) h := kq_reg
noncomputable def F37_lrlrr {β : Type} (inv : Inv) (k : Nat) : Nat → Value → Value → Value → Value → Value → AH → (Value → Value → Value → Value → Value → Value → Value → Value → Value → Value → Value → Value → AH → Option β) → (Value → Value → AH → Option β) → Option β
  | 0, _, _, _, _, _, _, _, _ => none
  | j + 1, x0, x2, x12, x13, x14, h, ke0, kr =>
    bnd (pBin Try.prog .lss 3 (.tmp 14) (.tmp 13) x14 x13) fun x15 =>
    brV x15
    (bnd (pIndexAddr Try.prog 30 x12 x14) fun x17 =>
    bnd (pLoad Try.prog 5 x17 h) fun x18 =>
    bnd (pBin Try.prog .eql 3 (.tmp 19) (.const (.int .i64 10)) x14 (.int .i64 10)) fun x20 =>
    brV x20
    (ke0 x0 x2 x14 x18 unk x12 x13 x14 unk x20 unk unk h)
    (bnd (pBin Try.prog .andNot 5 (.tmp 21) (.const (.int .u8 128)) x18 (.int .u8 128)) fun x22 =>
    bnd (pConv Try.prog 5 48 x22 h) fun x23 =>
    G37_8 inv x0 x2 x14 x18 x23 x12 x13 x14 h fun y29 h =>
    brV y29
    (ke0 x0 x2 x14 x18 x23 x12 x13 x14 unk unk y29 unk h)
    (bnd (pBin Try.prog .mul 3 (.const (.int .i64 7)) (.tmp 32) (.int .i64 7) x14) fun x33 =>
    bnd (pBin Try.prog .shl 48 (.tmp 31) (.tmp 33) x23 x33) fun x34 =>
    bnd (pBin Try.prog .or 48 (.tmp 30) (.tmp 34) x2 x34) fun x35 =>
    bnd (pBin Try.prog .geq 5 (.tmp 36) (.const (.int .u8 128)) x18 (.int .u8 128)) fun x37 =>
    brV x37
    (bnd (pBin Try.prog .add 3 (.tmp 14) (.const (.int .i64 1)) x14 (.int .i64 1)) fun x55 =>
    F37_lrlrr inv k j x0 x35 x12 x13 x55 h ke0 kr)
    (G37_11 inv x0 x35 x14 x23 h fun y43 h_1 =>
    brV y43
    (ke0 x0 x35 x14 unk unk unk unk unk unk unk unk y43 h_1)
    (G37_12 inv x0 x35 x14 h_1 fun  h_2 =>
    kr x35 (.int .i64 0) h_2)))))
    (ke0 x0 x2 unk unk unk x12 x13 x14 x15 unk unk unk h)
theorem F37_lrlrr_j (j : Nat) : kLoop (kCode env 37 false inv k (cp c37 116)) j (act 58 [(0, x0), (2, x2), (12, x12), (13, x13), (14, x14)]) h K = F37_lrlrr inv k j x0 x2 x12 x13 x14 h (fun y0 y2 y4 y5 y6 y12 y13 y14 y15 y20 y29 y43 h => K (.exit 0) (act 58 [(0, y0), (2, y2), (4, y4), (5, y5), (6, y6), (12, y12), (13, y13), (14, y14), (15, y15), (20, y20), (29, y29), (43, y43)]) h) (fun y2 y3 h => K .ret (act 58 [(2, y2), (3, y3)]) h) := by
      induction j generalizing x0 x2 x12 x13 x14 h with
      | zero => rfl
      | succ j ih =>
        unfold F37_lrlrr
        simp only [kLoop, kq_seq c37 116, r37_4, kq_seq c37 233, b37_lrllrlrr, kq_skip c37 932, kq_seq c37 467, kq_block c37 934 1, kq_seq c37 1868, r37_5, kq_seq c37 3737, kq_seq c37 7474, r37_6, b37_rlrllrrllrlrr, kq_exit c37 29898 0, kq_skip c37 29899, kq_seq c37 7475, r37_7, kq_seq c37 14951, kq_seq c37 29902, r37_8, b37_rlrrrllrrllrlrr, kq_exit c37 119610 0, kq_skip c37 119611, kq_seq c37 29903, r37_9, kq_seq c37 59807, kq_seq c37 119614, r37_10, b37_rlrrrrrllrrllrlrr, kq_exit c37 478458 1, r37_14, kq_skip c37 478459, kq_seq c37 119615, kq_seq c37 239230, r37_11, b37_rlrrrrrrllrrllrlrr, kq_exit c37 956922 0, kq_skip c37 956923, kq_seq c37 239231, r37_12, kq_seq c37 478463, r37_13, kq_ret c37 956927, kq_exit c37 933 0, ih, reduceIte, reduceCtorEq, XE.exit.injEq, Nat.reduceEqDiff, Nat.reduceMul, Nat.reduceAdd] <;> kernel_rfl
theorem F37_lrlrr_eq  : kCode env 37 false inv k (cp c37 58) (act 58 [(0, x0), (2, x2), (12, x12), (13, x13), (14, x14)]) h K = F37_lrlrr inv k k x0 x2 x12 x13 x14 h (fun y0 y2 y4 y5 y6 y12 y13 y14 y15 y20 y29 y43 h => K (.exit 0) (act 58 [(0, y0), (2, y2), (4, y4), (5, y5), (6, y6), (12, y12), (13, y13), (14, y14), (15, y15), (20, y20), (29, y29), (43, y43)]) h) (fun y2 y3 h => K .ret (act 58 [(2, y2), (3, y3)]) h) := kq_loop (F37_lrlrr_j k)
noncomputable def F37_rlrr {β : Type} (inv : Inv) (k : Nat) (x0 x2 x12 x13 x14 : Value) (h : AH) (kn : (Value → Value → Value → Value → Value → Value → Value → Value → Value → Value → Value → Value → AH → Option β)) (kr : (Value → Value → AH → Option β)) : Option β :=
    F37_lrlrr inv k k x0 x2 x12 x13 x14 h
    (fun y0 y2 y4 y5 y6 y12 y13 y14 y15 y20 y29 y43 h =>
    kn y0 y2 y4 y5 y6 y12 y13 y14 y15 y20 y29 y43 h)
    (fun y2_3 y3 h_4 =>
    kr y2_3 y3 h_4)
theorem F37_rlrr_eq  : kCode env 37 false inv k (cp c37 29) (act 58 [(0, x0), (2, x2), (12, x12), (13, x13), (14, x14)]) h K = F37_rlrr inv k x0 x2 x12 x13 x14 h (fun y0 y2 y4 y5 y6 y12 y13 y14 y15 y20 y29 y43 h => K .normal (act 58 [(0, y0), (2, y2), (4, y4), (5, y5), (6, y6), (12, y12), (13, y13), (14, y14), (15, y15), (20, y20), (29, y29), (43, y43)]) h) (fun y2 y3 h => K .ret (act 58 [(2, y2), (3, y3)]) h) := by
      unfold F37_rlrr
      simp only [kq_block c37 29 0, F37_lrlrr_eq, reduceIte, reduceCtorEq, XE.exit.injEq, Nat.reduceEqDiff, Nat.reduceMul, Nat.reduceAdd] <;> kernel_rfl
theorem r37_15  : kCode env 37 false inv k (cp c37 60) (act 58 [(0, x0), (2, x2), (4, x4), (5, x5), (6, x6), (12, x12), (13, x13), (14, x14), (15, x15), (20, x20), (29, x29), (43, x43)]) h K =
    bnd (inv (.func 65) #[] #[x0] h) fun x57 =>
    K .normal (act 58 [(57, x57.1)]) x57.2 := kq_reg
theorem b37_rlrrr  : kCode env 37 false inv k (cp c37 61) (act 58 [(57, x57)]) h K = brV x57 (kCode env 37 false inv k (cp c37 122) (act 58 [(57, x57)]) h K) (kCode env 37 false inv k (cp c37 123) (act 58 [(57, x57)]) h K) := kq_cond
theorem r37_16  : kCode env 37 false inv k (cp c37 244) (act 58 [(57, x57)]) h K =
    K .normal (act 58 [(2, (.int .u64 0)), (3, (.int .i64 7))]) h := kq_reg
theorem r37_17  : kCode env 37 false inv k (cp c37 62) (act 58 [(57, x57)]) h K =
    K .normal (act 58 [(2, (.int .u64 0)), (3, (.int .i64 4))]) h := kq_reg
/-- (*shadowbook/octet.Reader).Var -/
noncomputable def F37 (inv : Inv) (k : Nat) (x0 : Value) (h : AH) : Option (Value × AH) :=
    bnd (pBin Try.prog .eql 55 (.tmp 7) (.const (.pointer none)) x0 (.pointer none)) fun x8 =>
    brV x8
    (some (.tuple #[(.int .u64 0), (.int .i64 1)], h))
    (bnd (pNilCheck x0) fun x10 =>
    bnd (pFieldAddr Try.prog 77 x10 0) fun x11 =>
    bnd (pLoad Try.prog 30 x11 h) fun x12 =>
    bnd (pLen Try.prog #[30] x12 h) fun x13 =>
    F37_rlrr inv k x0 (.int .u64 0) x12 x13 (.int .i64 0) h
    (fun y0 y2 y4 y5 y6 y12 y13 y14 y15 y20 y29 y43 h =>
    bnd (inv (.func 65) #[] #[y0] h) fun x57 =>
    brV x57.1
    (some (.tuple #[(.int .u64 0), (.int .i64 7)], x57.2))
    (some (.tuple #[(.int .u64 0), (.int .i64 4)], x57.2)))
    (fun y2_5 y3 h_6 =>
    some (.tuple #[y2_5, y3], h_6)))
theorem F37_eq : eFun env k inv 37 #[x0] h = F37 inv k x0 h := by
      refine (kq_fun (a := act 58 [(0, x0)]) (c := cp c37 1)).trans ?_
      unfold F37
      simp only [kq_seq c37 1, r37_0, kq_seq c37 3, kq_seq c37 6, r37_1, b37_rlr, kq_seq c37 26, r37_2, kq_ret c37 53, res37_0, kq_skip c37 27, kq_seq c37 7, kq_seq c37 14, r37_3, F37_rlrr_eq, kq_seq c37 15, kq_seq c37 30, r37_15, b37_rlrrr, kq_seq c37 122, r37_16, kq_ret c37 245, kq_skip c37 123, kq_seq c37 31, r37_17, kq_ret c37 63, reduceIte, reduceCtorEq, XE.exit.injEq, Nat.reduceEqDiff, Nat.reduceMul, Nat.reduceAdd] <;> kernel_rfl
theorem F37_call : eInv env (k + 1) (.func 37) #[] #[x0] h = F37 (eInv env k) k x0 h := kq_inv F37_eq
noncomputable def c38 : Code := codeOf Try.prog 38
theorem r38_0  : kCode env 38 false inv k (cp c38 2) (act 41 [(0, x0), (1, x1)]) h K =
    K .normal (act 41 [(0, x0), (1, x1), (4, (.slice none 0 0))]) h := kq_reg
theorem r38_1  : kCode env 38 false inv k (cp c38 12) (act 41 [(0, x0), (1, x1), (4, x4)]) h K =
    K .normal (act 41 [(0, x0), (1, x1), (4, x4), (5, (.bool true))]) h := kq_reg
theorem r38_2  : kCode env 38 false inv k (cp c38 864) (act 41 [(0, x0), (1, x1), (4, x4), (5, x5)]) h K =
    bnd (pBin Try.prog .gtr 48 (.tmp 9) (.const (.int .u64 0)) x1 (.int .u64 0)) fun x10 =>
    K .normal (act 41 [(0, x0), (1, x1), (4, x4), (5, x5), (10, x10)]) h := kq_reg
theorem b38_rllllrrlr  : kCode env 38 false inv k (cp c38 865) (act 41 [(0, x0), (1, x1), (4, x4), (5, x5), (10, x10)]) h K = brV x10 (kCode env 38 false inv k (cp c38 1730) (act 41 [(0, x0), (1, x1), (4, x4), (5, x5), (10, x10)]) h K) (kCode env 38 false inv k (cp c38 1731) (act 41 [(0, x0), (1, x1), (4, x4), (5, x5), (10, x10)]) h K) := kq_cond
theorem r38_4  : kCode env 38 false inv k (cp c38 3464) (act 41 [(0, x0), (1, x1), (4, x4), (5, x5), (10, x10)]) h K =
    bnd (inv (.func 37) #[] #[x0] h) fun x15 =>
    bnd (pExtract x15.1 0) fun x16 =>
    bnd (pExtract x15.1 1) fun x17 =>
    K .normal (act 41 [(0, x0), (1, x1), (4, x4), (5, x5), (6, x16), (7, x17)]) x15.2 := kq_reg
noncomputable abbrev G38_5 {β : Type} (inv : Inv) (x0 x1 x4 x5 x6 x7 : Value) (h : AH) (K : Value → AH → Option β) : Option β :=
    bnd (pBin Try.prog .neq 31 (.tmp 19) (.const (.int .i64 0)) x7 (.int .i64 0)) fun x20 =>
    bnd (gd (some x20) false h (some (x6, h))) fun x22 =>
    bnd (gd (some x20) false x22.2 (lt (pBin Try.prog .gtr 48 (.tmp 22) (.const (.int .u64 65536)) x22.1 (.int .u64 65536)) x22.2)) fun x23 =>
    bnd (pickV x20 (.bool true) x23.1) fun x24 =>
    K (x24) x23.2
theorem r38_5  : kCode env 38 false inv k (cp c38 27720) (act 41 [(0, x0), (1, x1), (4, x4), (5, x5), (6, x6), (7, x7)]) h K =
    G38_5 inv x0 x1 x4 x5 x6 x7 h fun y18 h => K .normal (act 41 [(0, x0), (1, x1), (4, x4), (5, x5), (6, x6), (18, y18)]) h := kq_reg
theorem b38_rllrllrlllrrlr  : kCode env 38 false inv k (cp c38 27721) (act 41 [(0, x0), (1, x1), (4, x4), (5, x5), (6, x6), (18, x18)]) h K = brV x18 (kCode env 38 false inv k (cp c38 55442) (act 41 [(0, x0), (1, x1), (4, x4), (5, x5), (6, x6), (18, x18)]) h K) (kCode env 38 false inv k (cp c38 55443) (act 41 [(0, x0), (1, x1), (4, x4), (5, x5), (6, x6), (18, x18)]) h K) := kq_cond
theorem r38_6  : kCode env 38 false inv k (cp c38 110884) (act 41 [(0, x0), (1, x1), (4, x4), (5, x5), (6, x6), (18, x18)]) h K =
    K .normal (act 41 [(4, x4), (5, (.bool false))]) h := kq_reg
theorem r38_7  : kCode env 38 false inv k (cp c38 13862) (act 41 [(0, x0), (1, x1), (4, x4), (5, x5), (6, x6), (18, x18)]) h K =
    bnd (pConv Try.prog 48 3 x6 h) fun x28 =>
    bnd (inv (.func 66) #[] #[x0, x28] h) fun x29 =>
    bnd (pExtract x29.1 0) fun x30 =>
    bnd (pExtract x29.1 1) fun x31 =>
    K .normal (act 41 [(0, x0), (1, x1), (4, x4), (5, x5), (7, x31), (8, x30)]) x29.2 := kq_reg
theorem r38_8  : kCode env 38 false inv k (cp c38 55452) (act 41 [(0, x0), (1, x1), (4, x4), (5, x5), (7, x7), (8, x8)]) h K =
    bnd (pBin Try.prog .neq 31 (.tmp 32) (.const (.int .i64 0)) x7 (.int .i64 0)) fun x33 =>
    K .normal (act 41 [(0, x0), (1, x1), (4, x4), (5, x5), (8, x8), (33, x33)]) h := kq_reg
theorem b38_rlrrrllrlllrrlr  : kCode env 38 false inv k (cp c38 55453) (act 41 [(0, x0), (1, x1), (4, x4), (5, x5), (8, x8), (33, x33)]) h K = brV x33 (kCode env 38 false inv k (cp c38 110906) (act 41 [(0, x0), (1, x1), (4, x4), (5, x5), (8, x8), (33, x33)]) h K) (kCode env 38 false inv k (cp c38 110907) (act 41 [(0, x0), (1, x1), (4, x4), (5, x5), (8, x8), (33, x33)]) h K) := kq_cond
theorem r38_9  : kCode env 38 false inv k (cp c38 221812) (act 41 [(0, x0), (1, x1), (4, x4), (5, x5), (8, x8), (33, x33)]) h K =
    K .normal (act 41 [(4, x4), (5, (.bool false))]) h := kq_reg
theorem r38_10  : kCode env 38 false inv k (cp c38 27727) (act 41 [(0, x0), (1, x1), (4, x4), (5, x5), (8, x8), (33, x33)]) h K =
    bnd (pConv Try.prog 30 9 x8 h) fun x36 =>
    bnd (pBuildSlice Try.prog 22 1 #[(0, x36)] h) fun x37 =>
    bnd (pAppend Try.prog #[22, 22] x4 x37.1 x37.2) fun x38 =>
    K .normal (act 41 [(0, x0), (1, x1), (4, x38.1), (5, x5)]) x38.2 := kq_reg
theorem r38_3  : kCode env 38 false inv k (cp c38 867) (act 41 [(0, x0), (1, x1), (4, x4), (5, x5)]) h K =
    bnd (pBin Try.prog .sub 48 (.tmp 11) (.const (.int .u64 1)) x1 (.int .u64 1)) fun x12 =>
    K .normal (act 41 [(0, x0), (1, x12), (4, x4), (5, x5)]) h := kq_reg
noncomputable def F38_llrrlr {β : Type} (inv : Inv) (k : Nat) : Nat → Value → Value → Value → Value → AH → (Value → Value → Value → Value → Value → AH → Option β) → Option β
  | 0, _, _, _, _, _, _ => none
  | j + 1, x0, x1, x4, x5, h, ke0 =>
    bnd (pBin Try.prog .gtr 48 (.tmp 9) (.const (.int .u64 0)) x1 (.int .u64 0)) fun x10 =>
    brV x10
    (bnd (inv (.func 37) #[] #[x0] h) fun x15 =>
    bnd (pExtract x15.1 0) fun x16 =>
    bnd (pExtract x15.1 1) fun x17 =>
    G38_5 inv x0 x1 x4 x5 x16 x17 x15.2 fun y18 h =>
    brV y18
    (ke0 unk unk x4 (.bool false) unk h)
    (bnd (pConv Try.prog 48 3 x16 h) fun x28 =>
    bnd (inv (.func 66) #[] #[x0, x28] h) fun x29 =>
    bnd (pExtract x29.1 0) fun x30 =>
    bnd (pExtract x29.1 1) fun x31 =>
    bnd (pBin Try.prog .neq 31 (.tmp 32) (.const (.int .i64 0)) x31 (.int .i64 0)) fun x33 =>
    brV x33
    (ke0 unk unk x4 (.bool false) unk x29.2)
    (bnd (pConv Try.prog 30 9 x30 x29.2) fun x36 =>
    bnd (pBuildSlice Try.prog 22 1 #[(0, x36)] x29.2) fun x37 =>
    bnd (pAppend Try.prog #[22, 22] x4 x37.1 x37.2) fun x38 =>
    bnd (pBin Try.prog .sub 48 (.tmp 11) (.const (.int .u64 1)) x1 (.int .u64 1)) fun x12 =>
    F38_llrrlr inv k j x0 x12 x38.1 x5 x38.2 ke0)))
    (ke0 x0 x1 x4 x5 x10 h)
theorem F38_llrrlr_j (j : Nat) : kLoop (kCode env 38 false inv k (cp c38 216)) j (act 41 [(0, x0), (1, x1), (4, x4), (5, x5)]) h K = F38_llrrlr inv k j x0 x1 x4 x5 h (fun y0 y1 y4 y5 y10 h => K (.exit 0) (act 41 [(0, y0), (1, y1), (4, y4), (5, y5), (10, y10)]) h) := by
      induction j generalizing x0 x1 x4 x5 h with
      | zero => rfl
      | succ j ih =>
        unfold F38_llrrlr
        simp only [kLoop, kq_seq c38 216, kq_seq c38 432, r38_2, b38_rllllrrlr, kq_skip c38 1730, kq_seq c38 433, kq_block c38 866 1, kq_seq c38 1732, r38_4, kq_seq c38 3465, kq_block c38 6930 2, kq_seq c38 13860, r38_5, b38_rllrllrlllrrlr, kq_seq c38 55442, r38_6, kq_exit c38 110885 0, kq_skip c38 55443, kq_seq c38 6931, r38_7, kq_seq c38 13863, kq_seq c38 27726, r38_8, b38_rlrrrllrlllrrlr, kq_seq c38 110906, r38_9, kq_exit c38 221813 0, kq_skip c38 110907, r38_10, r38_3, kq_exit c38 1731 0, ih, reduceIte, reduceCtorEq, XE.exit.injEq, Nat.reduceEqDiff, Nat.reduceMul, Nat.reduceAdd] <;> kernel_rfl
theorem F38_llrrlr_eq  : kCode env 38 false inv k (cp c38 108) (act 41 [(0, x0), (1, x1), (4, x4), (5, x5)]) h K = F38_llrrlr inv k k x0 x1 x4 x5 h (fun y0 y1 y4 y5 y10 h => K (.exit 0) (act 41 [(0, y0), (1, y1), (4, y4), (5, y5), (10, y10)]) h) := kq_loop (F38_llrrlr_j k)
noncomputable def F38_lrrlr {β : Type} (inv : Inv) (k : Nat) (x0 x1 x4 x5 : Value) (h : AH) (kn : (Value → Value → Value → Value → Value → AH → Option β)) : Option β :=
    F38_llrrlr inv k k x0 x1 x4 x5 h
    (fun y0 y1 y4 y5 y10 h =>
    kn y0 y1 y4 y5 y10 h)
theorem F38_lrrlr_eq  : kCode env 38 false inv k (cp c38 54) (act 41 [(0, x0), (1, x1), (4, x4), (5, x5)]) h K = F38_lrrlr inv k x0 x1 x4 x5 h (fun y0 y1 y4 y5 y10 h => K .normal (act 41 [(0, y0), (1, y1), (4, y4), (5, y5), (10, y10)]) h) := by
      unfold F38_lrrlr
      simp only [kq_block c38 54 0, F38_llrrlr_eq, reduceIte, reduceCtorEq, XE.exit.injEq, Nat.reduceEqDiff, Nat.reduceMul, Nat.reduceAdd] <;> kernel_rfl
theorem r38_11  : kCode env 38 false inv k (cp c38 110) (act 41 [(0, x0), (1, x1), (4, x4), (5, x5), (10, x10)]) h K =
    K .normal (act 41 [(4, x4), (5, x5)]) h := kq_reg
theorem res38_0 : resOfFn env.P 38 .ret (act 41 [(4, x4), (5, x5)]) h = some (.tuple #[x4, x5], h) := kq_res
/-- shadowbook/texts.read -/
noncomputable def F38 (inv : Inv) (k : Nat) (x0 x1 : Value) (h : AH) : Option (Value × AH) :=
    F38_lrrlr inv k x0 x1 (.slice none 0 0) (.bool true) h
    (fun y0 y1 y4 y5 y10 h =>
    some (.tuple #[y4, y5], h))
theorem F38_eq : eFun env k inv 38 #[x0, x1] h = F38 inv k x0 x1 h := by
      refine (kq_fun (a := act 41 [(0, x0), (1, x1)]) (c := cp c38 1)).trans ?_
      unfold F38
      simp only [kq_seq c38 1, r38_0, kq_scope c38 3, kq_seq c38 6, r38_1, kq_seq c38 13, kq_label c38 26, kq_seq c38 27, F38_lrrlr_eq, kq_seq c38 55, r38_11, kq_ret c38 111, res38_0, reduceIte, reduceCtorEq, XE.exit.injEq, Nat.reduceEqDiff, Nat.reduceMul, Nat.reduceAdd] <;> kernel_rfl
theorem F38_call : eInv env (k + 1) (.func 38) #[] #[x0, x1] h = F38 (eInv env k) k x0 x1 h := kq_inv F38_eq
noncomputable def c39 : Code := codeOf Try.prog 39
theorem r39_0  : kCode env 39 false inv k (cp c39 2) (act 83 [(0, x0), (1, x1)]) h K =
    K .normal (act 83 [(0, x0), (1, x1), (4, (.slice none 0 0))]) h := kq_reg
theorem r39_1  : kCode env 39 false inv k (cp c39 6) (act 83 [(0, x0), (1, x1), (4, x4)]) h K =
    bnd (inv (.func 37) #[] #[x0] h) fun x18 =>
    bnd (pExtract x18.1 0) fun x19 =>
    bnd (pExtract x18.1 1) fun x20 =>
    K .normal (act 83 [(0, x0), (1, x1), (4, x4), (6, x19), (7, x20)]) x18.2 := kq_reg
noncomputable abbrev G39_2 {β : Type} (inv : Inv) (x0 x1 x4 x6 x7 : Value) (h : AH) (K : Value → AH → Option β) : Option β :=
    bnd (pBin Try.prog .neq 31 (.tmp 21) (.const (.int .i64 0)) x7 (.int .i64 0)) fun x22 =>
    bnd (gd (some x22) false h (some (x6, h))) fun x24 =>
    bnd (gd (some x22) false x24.2 (some (x1, x24.2))) fun x25 =>
    bnd (gd (some x22) false x25.2 (lt (pConv Try.prog 3 48 x25.1 x25.2) x25.2)) fun x26 =>
    bnd (gd (some x22) false x26.2 (lt (pBin Try.prog .gtr 48 (.tmp 24) (.tmp 26) x24.1 x26.1) x26.2)) fun x27 =>
    bnd (pickV x22 (.bool true) x27.1) fun x28 =>
    K (x28) x27.2
theorem r39_2  : kCode env 39 false inv k (cp c39 28) (act 83 [(0, x0), (1, x1), (4, x4), (6, x6), (7, x7)]) h K =
    G39_2 inv x0 x1 x4 x6 x7 h fun y28 h => K .normal (act 83 [(0, x0), (1, x1), (4, x4), (6, x6), (28, y28)]) h := kq_reg
theorem b39_rlrr  : kCode env 39 false inv k (cp c39 29) (act 83 [(0, x0), (1, x1), (4, x4), (6, x6), (28, x28)]) h K = brV x28 (kCode env 39 false inv k (cp c39 58) (act 83 [(0, x0), (1, x1), (4, x4), (6, x6), (28, x28)]) h K) (kCode env 39 false inv k (cp c39 59) (act 83 [(0, x0), (1, x1), (4, x4), (6, x6), (28, x28)]) h K) := kq_cond
theorem r39_3  : kCode env 39 false inv k (cp c39 116) (act 83 [(0, x0), (1, x1), (4, x4), (6, x6), (28, x28)]) h K =
    K .normal (act 83 [(4, (.slice none 0 0)), (5, (.bool false))]) h := kq_reg
theorem res39_0 : resOfFn env.P 39 .ret (act 83 [(4, x4), (5, x5)]) h = some (.tuple #[x4, x5], h) := kq_res
theorem r39_4  : kCode env 39 false inv k (cp c39 30) (act 83 [(0, x0), (1, x1), (4, x4), (6, x6), (28, x28)]) h K =
    bnd (inv (.func 38) #[] #[x0, x6] h) fun x32 =>
    bnd (pExtract x32.1 0) fun x33 =>
    bnd (pExtract x32.1 1) fun x34 =>
    K .normal (act 83 [(0, x0), (1, x1), (4, x4), (8, x33), (9, x34)]) x32.2 := kq_reg
theorem r39_5  : kCode env 39 false inv k (cp c39 62) (act 83 [(0, x0), (1, x1), (4, x4), (8, x8), (9, x9)]) h K =
    bnd (inv (.func 36) #[] #[x0, (.int .i64 1)] h) fun x37 =>
    bnd (pExtract x37.1 0) fun x38 =>
    bnd (pExtract x37.1 1) fun x39 =>
    K .normal (act 83 [(0, x0), (1, x1), (4, x4), (7, x39), (8, x8), (9, x9), (10, x38)]) x37.2 := kq_reg
theorem r39_6  : kCode env 39 false inv k (cp c39 252) (act 83 [(0, x0), (1, x1), (4, x4), (7, x7), (8, x8), (9, x9), (10, x10)]) h K =
    bnd (pUn Try.prog .not x9) fun x41 =>
    bnd (gd (some x41) false h (some (x7, h))) fun x43 =>
    bnd (gd (some x41) false x43.2 (lt (pBin Try.prog .neq 31 (.tmp 43) (.const (.int .i64 0)) x43.1 (.int .i64 0)) x43.2)) fun x44 =>
    bnd (pickV x41 (.bool true) x44.1) fun x45 =>
    K .normal (act 83 [(0, x0), (1, x1), (4, x4), (8, x8), (10, x10), (45, x45)]) x44.2 := kq_reg
theorem b39_rlrrrrr  : kCode env 39 false inv k (cp c39 253) (act 83 [(0, x0), (1, x1), (4, x4), (8, x8), (10, x10), (45, x45)]) h K = brV x45 (kCode env 39 false inv k (cp c39 506) (act 83 [(0, x0), (1, x1), (4, x4), (8, x8), (10, x10), (45, x45)]) h K) (kCode env 39 false inv k (cp c39 507) (act 83 [(0, x0), (1, x1), (4, x4), (8, x8), (10, x10), (45, x45)]) h K) := kq_cond
theorem r39_7  : kCode env 39 false inv k (cp c39 1012) (act 83 [(0, x0), (1, x1), (4, x4), (8, x8), (10, x10), (45, x45)]) h K =
    K .normal (act 83 [(4, (.slice none 0 0)), (5, (.bool false))]) h := kq_reg
theorem r39_8  : kCode env 39 false inv k (cp c39 254) (act 83 [(0, x0), (1, x1), (4, x4), (8, x8), (10, x10), (45, x45)]) h K =
    bnd (inv (.func 67) #[] #[x0] h) fun x49 =>
    bnd (inv (.func 66) #[] #[x0, x49.1] x49.2) fun x50 =>
    bnd (pExtract x50.1 0) fun x51 =>
    bnd (pExtract x50.1 1) fun x52 =>
    K .normal (act 83 [(1, x1), (4, x4), (8, x8), (10, x10), (11, x51)]) x50.2 := kq_reg
theorem r39_9  : kCode env 39 false inv k (cp c39 510) (act 83 [(1, x1), (4, x4), (8, x8), (10, x10), (11, x11)]) h K =
    bnd (pConv Try.prog 48 3 x10 h) fun x57 =>
    bnd (inv (.func 68) #[] #[x11, x1, x57] h) fun x58 =>
    bnd (pExtract x58.1 0) fun x59 =>
    bnd (pExtract x58.1 1) fun x60 =>
    K .normal (act 83 [(4, x4), (7, x60), (8, x8), (13, x59)]) x58.2 := kq_reg
theorem r39_10  : kCode env 39 false inv k (cp c39 2044) (act 83 [(4, x4), (7, x7), (8, x8), (13, x13)]) h K =
    bnd (pBin Try.prog .neq 31 (.tmp 61) (.const (.int .i64 0)) x7 (.int .i64 0)) fun x62 =>
    K .normal (act 83 [(4, x4), (8, x8), (13, x13), (62, x62)]) h := kq_reg
theorem b39_rlrrrrrrrr  : kCode env 39 false inv k (cp c39 2045) (act 83 [(4, x4), (8, x8), (13, x13), (62, x62)]) h K = brV x62 (kCode env 39 false inv k (cp c39 4090) (act 83 [(4, x4), (8, x8), (13, x13), (62, x62)]) h K) (kCode env 39 false inv k (cp c39 4091) (act 83 [(4, x4), (8, x8), (13, x13), (62, x62)]) h K) := kq_cond
theorem r39_11  : kCode env 39 false inv k (cp c39 8180) (act 83 [(4, x4), (8, x8), (13, x13), (62, x62)]) h K =
    K .normal (act 83 [(4, (.slice none 0 0)), (5, (.bool false))]) h := kq_reg
theorem r39_12  : kCode env 39 false inv k (cp c39 4092) (act 83 [(4, x4), (8, x8), (13, x13), (62, x62)]) h K =
    bnd (pLen Try.prog #[50] x13 h) fun x64 =>
    K .normal (act 83 [(4, x4), (8, x8), (63, x13), (64, x64), (65, (.int .i64 0))]) h := kq_reg
theorem r39_13  : kCode env 39 false inv k (cp c39 32744) (act 83 [(4, x4), (8, x8), (63, x63), (64, x64), (65, x65)]) h K =
    bnd (pBin Try.prog .lss 3 (.tmp 65) (.tmp 64) x65 x64) fun x66 =>
    K .normal (act 83 [(4, x4), (8, x8), (63, x63), (64, x64), (65, x65), (66, x66)]) h := kq_reg
theorem b39_lrllrlrrrrrrrrr  : kCode env 39 false inv k (cp c39 65490) (act 83 [(4, x4), (8, x8), (63, x63), (64, x64), (65, x65), (66, x66)]) h K = brV x66 (kCode env 39 false inv k (cp c39 130980) (act 83 [(4, x4), (8, x8), (63, x63), (64, x64), (65, x65), (66, x66)]) h K) (kCode env 39 false inv k (cp c39 130981) (act 83 [(4, x4), (8, x8), (63, x63), (64, x64), (65, x65), (66, x66)]) h K) := kq_cond
theorem r39_14  : kCode env 39 false inv k (cp c39 523928) (act 83 [(4, x4), (8, x8), (63, x63), (64, x64), (65, x65), (66, x66)]) h K =
    bnd (pIndexAddr Try.prog 50 x63 x65) fun x67 =>
    bnd (pLoad Try.prog 48 x67 h) fun x68 =>
    K .normal (act 83 [(4, x4), (8, x8), (15, x68), (63, x63), (64, x64), (65, x65)]) h := kq_reg
theorem r39_15  : kCode env 39 false inv k (cp c39 2095716) (act 83 [(4, x4), (8, x8), (15, x15), (63, x63), (64, x64), (65, x65)]) h K =
    bnd (pLen Try.prog #[22] x8 h) fun x71 =>
    bnd (pConv Try.prog 3 48 x71 h) fun x72 =>
    bnd (pBin Try.prog .geq 48 (.tmp 69) (.tmp 72) x15 x72) fun x73 =>
    K .normal (act 83 [(4, x4), (8, x8), (15, x15), (63, x63), (64, x64), (65, x65), (73, x73)]) h := kq_reg
theorem b39_rlrllrrllrlrrrrrrrrr  : kCode env 39 false inv k (cp c39 2095717) (act 83 [(4, x4), (8, x8), (15, x15), (63, x63), (64, x64), (65, x65), (73, x73)]) h K = brV x73 (kCode env 39 false inv k (cp c39 4191434) (act 83 [(4, x4), (8, x8), (15, x15), (63, x63), (64, x64), (65, x65), (73, x73)]) h K) (kCode env 39 false inv k (cp c39 4191435) (act 83 [(4, x4), (8, x8), (15, x15), (63, x63), (64, x64), (65, x65), (73, x73)]) h K) := kq_cond
theorem r39_16  : kCode env 39 false inv k (cp c39 8382868) (act 83 [(4, x4), (8, x8), (15, x15), (63, x63), (64, x64), (65, x65), (73, x73)]) h K =
    K .normal (act 83 [(4, (.slice none 0 0)), (5, (.bool false))]) h := kq_reg
theorem r39_17  : kCode env 39 false inv k (cp c39 1047859) (act 83 [(4, x4), (8, x8), (15, x15), (63, x63), (64, x64), (65, x65), (73, x73)]) h K =
    bnd (pIndexAddr Try.prog 22 x8 x15) fun x77 =>
    bnd (pLoad Try.prog 9 x77 h) fun x78 =>
    bnd (pBuildSlice Try.prog 22 1 #[(0, x78)] h) fun x79 =>
    bnd (pAppend Try.prog #[22, 22] x4 x79.1 x79.2) fun x80 =>
    K .normal (act 83 [(4, x80.1), (8, x8), (63, x63), (64, x64), (65, x65)]) x80.2 := kq_reg
theorem r39_18  : kCode env 39 false inv k (cp c39 130983) (act 83 [(4, x4), (8, x8), (63, x63), (64, x64), (65, x65)]) h K =
    bnd (pBin Try.prog .add 3 (.tmp 65) (.const (.int .i64 1)) x65 (.int .i64 1)) fun x81 =>
    K .normal (act 83 [(4, x4), (8, x8), (63, x63), (64, x64), (65, x81)]) h := kq_reg
noncomputable def F39_lrlrrrrrrrrr {β : Type} (inv : Inv) (k : Nat) : Nat → Value → Value → Value → Value → Value → AH → (Value → Value → Value → Value → Value → Value → AH → Option β) → (Value → Value → AH → Option β) → Option β
  | 0, _, _, _, _, _, _, _, _ => none
  | j + 1, x4, x8, x63, x64, x65, h, ke0, kr =>
    bnd (pBin Try.prog .lss 3 (.tmp 65) (.tmp 64) x65 x64) fun x66 =>
    brV x66
    (bnd (pIndexAddr Try.prog 50 x63 x65) fun x67 =>
    bnd (pLoad Try.prog 48 x67 h) fun x68 =>
    bnd (pLen Try.prog #[22] x8 h) fun x71 =>
    bnd (pConv Try.prog 3 48 x71 h) fun x72 =>
    bnd (pBin Try.prog .geq 48 (.tmp 69) (.tmp 72) x68 x72) fun x73 =>
    brV x73
    (kr (.slice none 0 0) (.bool false) h)
    (bnd (pIndexAddr Try.prog 22 x8 x68) fun x77 =>
    bnd (pLoad Try.prog 9 x77 h) fun x78 =>
    bnd (pBuildSlice Try.prog 22 1 #[(0, x78)] h) fun x79 =>
    bnd (pAppend Try.prog #[22, 22] x4 x79.1 x79.2) fun x80 =>
    bnd (pBin Try.prog .add 3 (.tmp 65) (.const (.int .i64 1)) x65 (.int .i64 1)) fun x81 =>
    F39_lrlrrrrrrrrr inv k j x80.1 x8 x63 x64 x81 x80.2 ke0 kr))
    (ke0 x4 x8 x63 x64 x65 x66 h)
theorem F39_lrlrrrrrrrrr_j (j : Nat) : kLoop (kCode env 39 false inv k (cp c39 16372)) j (act 83 [(4, x4), (8, x8), (63, x63), (64, x64), (65, x65)]) h K = F39_lrlrrrrrrrrr inv k j x4 x8 x63 x64 x65 h (fun y4 y8 y63 y64 y65 y66 h => K (.exit 0) (act 83 [(4, y4), (8, y8), (63, y63), (64, y64), (65, y65), (66, y66)]) h) (fun y4 y5 h => K .ret (act 83 [(4, y4), (5, y5)]) h) := by
      induction j generalizing x4 x8 x63 x64 x65 h with
      | zero => rfl
      | succ j ih =>
        unfold F39_lrlrrrrrrrrr
        simp only [kLoop, kq_seq c39 16372, r39_13, kq_seq c39 32745, b39_lrllrlrrrrrrrrr, kq_skip c39 130980, kq_seq c39 65491, kq_block c39 130982 1, kq_seq c39 261964, r39_14, kq_seq c39 523929, kq_seq c39 1047858, r39_15, b39_rlrllrrllrlrrrrrrrrr, kq_seq c39 4191434, r39_16, kq_ret c39 8382869, kq_skip c39 4191435, r39_17, r39_18, kq_exit c39 130981 0, ih, reduceIte, reduceCtorEq, XE.exit.injEq, Nat.reduceEqDiff, Nat.reduceMul, Nat.reduceAdd] <;> kernel_rfl
theorem F39_lrlrrrrrrrrr_eq  : kCode env 39 false inv k (cp c39 8186) (act 83 [(4, x4), (8, x8), (63, x63), (64, x64), (65, x65)]) h K = F39_lrlrrrrrrrrr inv k k x4 x8 x63 x64 x65 h (fun y4 y8 y63 y64 y65 y66 h => K (.exit 0) (act 83 [(4, y4), (8, y8), (63, y63), (64, y64), (65, y65), (66, y66)]) h) (fun y4 y5 h => K .ret (act 83 [(4, y4), (5, y5)]) h) := kq_loop (F39_lrlrrrrrrrrr_j k)
theorem r39_19  : kCode env 39 false inv k (cp c39 4094) (act 83 [(4, x4), (8, x8), (63, x63), (64, x64), (65, x65), (66, x66)]) h K =
    K .normal (act 83 [(4, x4), (5, (.bool true))]) h := kq_reg
/-- shadowbook/texts.words -/
noncomputable def F39 (inv : Inv) (k : Nat) (x0 x1 : Value) (h : AH) : Option (Value × AH) :=
    bnd (inv (.func 37) #[] #[x0] h) fun x18 =>
    bnd (pExtract x18.1 0) fun x19 =>
    bnd (pExtract x18.1 1) fun x20 =>
    G39_2 inv x0 x1 (.slice none 0 0) x19 x20 x18.2 fun y28 h =>
    brV y28
    (some (.tuple #[(.slice none 0 0), (.bool false)], h))
    (bnd (inv (.func 38) #[] #[x0, x19] h) fun x32 =>
    bnd (pExtract x32.1 0) fun x33 =>
    bnd (pExtract x32.1 1) fun x34 =>
    bnd (inv (.func 36) #[] #[x0, (.int .i64 1)] x32.2) fun x37 =>
    bnd (pExtract x37.1 0) fun x38 =>
    bnd (pExtract x37.1 1) fun x39 =>
    bnd (pUn Try.prog .not x34) fun x41 =>
    bnd (gd (some x41) false x37.2 (some (x39, x37.2))) fun x43 =>
    bnd (gd (some x41) false x43.2 (lt (pBin Try.prog .neq 31 (.tmp 43) (.const (.int .i64 0)) x43.1 (.int .i64 0)) x43.2)) fun x44 =>
    bnd (pickV x41 (.bool true) x44.1) fun x45 =>
    brV x45
    (some (.tuple #[(.slice none 0 0), (.bool false)], x44.2))
    (bnd (inv (.func 67) #[] #[x0] x44.2) fun x49 =>
    bnd (inv (.func 66) #[] #[x0, x49.1] x49.2) fun x50 =>
    bnd (pExtract x50.1 0) fun x51 =>
    bnd (pExtract x50.1 1) fun x52 =>
    bnd (pConv Try.prog 48 3 x38 x50.2) fun x57 =>
    bnd (inv (.func 68) #[] #[x51, x1, x57] x50.2) fun x58 =>
    bnd (pExtract x58.1 0) fun x59 =>
    bnd (pExtract x58.1 1) fun x60 =>
    bnd (pBin Try.prog .neq 31 (.tmp 61) (.const (.int .i64 0)) x60 (.int .i64 0)) fun x62 =>
    brV x62
    (some (.tuple #[(.slice none 0 0), (.bool false)], x58.2))
    (bnd (pLen Try.prog #[50] x59 x58.2) fun x64 =>
    F39_lrlrrrrrrrrr inv k k (.slice none 0 0) x33 x59 x64 (.int .i64 0) x58.2
    (fun y4 y8 y63 y64 y65 y66 h_1 =>
    some (.tuple #[y4, (.bool true)], h_1))
    (fun y4_2 y5 h_3 =>
    some (.tuple #[y4_2, y5], h_3)))))
theorem F39_eq : eFun env k inv 39 #[x0, x1] h = F39 inv k x0 x1 h := by
      refine (kq_fun (a := act 83 [(0, x0), (1, x1)]) (c := cp c39 1)).trans ?_
      unfold F39
      simp only [kq_seq c39 1, r39_0, kq_seq c39 3, r39_1, kq_seq c39 7, kq_seq c39 14, r39_2, b39_rlrr, kq_seq c39 58, r39_3, kq_ret c39 117, res39_0, kq_skip c39 59, kq_seq c39 15, r39_4, kq_seq c39 31, r39_5, kq_seq c39 63, kq_seq c39 126, r39_6, b39_rlrrrrr, kq_seq c39 506, r39_7, kq_ret c39 1013, kq_skip c39 507, kq_seq c39 127, r39_8, kq_seq c39 255, r39_9, kq_seq c39 511, kq_seq c39 1022, r39_10, b39_rlrrrrrrrr, kq_seq c39 4090, r39_11, kq_ret c39 8181, kq_skip c39 4091, kq_seq c39 1023, kq_seq c39 2046, r39_12, kq_block c39 4093 0, F39_lrlrrrrrrrrr_eq, kq_seq c39 2047, r39_19, kq_ret c39 4095, reduceIte, reduceCtorEq, XE.exit.injEq, Nat.reduceEqDiff, Nat.reduceMul, Nat.reduceAdd] <;> kernel_rfl
theorem F39_call : eInv env (k + 1) (.func 39) #[] #[x0, x1] h = F39 (eInv env k) k x0 x1 h := kq_inv F39_eq
noncomputable def c40 : Code := codeOf Try.prog 40
theorem r40_0  : kCode env 40 false inv k (cp c40 2) (act 10 [(0, x0), (1, x1)]) h K =
    K .normal (act 10 [(0, x0), (1, x1)]) h := kq_reg
theorem r40_1  : kCode env 40 false inv k (cp c40 6) (act 10 [(0, x0), (1, x1)]) h K =
    bnd (pConv Try.prog 30 9 x0 h) fun x6 =>
    bnd (pConv Try.prog 30 9 x1 h) fun x8 =>
    bnd (pBin Try.prog .eql 9 (.tmp 6) (.tmp 8) x6 x8) fun x9 =>
    K .normal (act 10 [(4, x9)]) h := kq_reg
theorem res40_0 : resOfFn env.P 40 .ret (act 10 [(4, x4)]) h = some (x4, h) := kq_res
/-- bytes.Equal -/
noncomputable def F40 (inv : Inv) (k : Nat) (x0 x1 : Value) (h : AH) : Option (Value × AH) :=
    bnd (pConv Try.prog 30 9 x0 h) fun x6 =>
    bnd (pConv Try.prog 30 9 x1 h) fun x8 =>
    bnd (pBin Try.prog .eql 9 (.tmp 6) (.tmp 8) x6 x8) fun x9 =>
    some (x9, h)
theorem F40_eq : eFun env k inv 40 #[x0, x1] h = F40 inv k x0 x1 h := by
      refine (kq_fun (a := act 10 [(0, x0), (1, x1)]) (c := cp c40 1)).trans ?_
      unfold F40
      simp only [kq_seq c40 1, r40_0, kq_seq c40 3, r40_1, kq_ret c40 7, res40_0, reduceIte, reduceCtorEq, XE.exit.injEq, Nat.reduceEqDiff, Nat.reduceMul, Nat.reduceAdd] <;> kernel_rfl
theorem F40_call : eInv env (k + 1) (.func 40) #[] #[x0, x1] h = F40 (eInv env k) k x0 x1 h := kq_inv F40_eq
noncomputable def c41 : Code := codeOf Try.prog 41
theorem r41_0  : kCode env 41 false inv k (cp c41 2) (act 19 [(0, x0)]) h K =
    K .normal (act 19 [(0, x0)]) h := kq_reg
theorem r41_1  : kCode env 41 false inv k (cp c41 12) (act 19 [(0, x0)]) h K =
    bnd (pLen Try.prog #[22] x0 h) fun x5 =>
    bnd (pBin Try.prog .gtr 3 (.tmp 5) (.const (.int .i64 4096)) x5 (.int .i64 4096)) fun x6 =>
    K .normal (act 19 [(0, x0), (6, x6)]) h := kq_reg
theorem b41_rlr  : kCode env 41 false inv k (cp c41 13) (act 19 [(0, x0), (6, x6)]) h K = brV x6 (kCode env 41 false inv k (cp c41 26) (act 19 [(0, x0), (6, x6)]) h K) (kCode env 41 false inv k (cp c41 27) (act 19 [(0, x0), (6, x6)]) h K) := kq_cond
theorem r41_2  : kCode env 41 false inv k (cp c41 52) (act 19 [(0, x0), (6, x6)]) h K =
    K .normal (act 19 [(2, (.int .i64 3))]) h := kq_reg
theorem res41_0 : resOfFn env.P 41 .ret (act 19 [(2, x2)]) h = some (x2, h) := kq_res
theorem r41_3  : kCode env 41 false inv k (cp c41 28) (act 19 [(0, x0), (6, x6)]) h K =
    K .normal (act 19 [(0, x0), (3, (.int .i64 0))]) h := kq_reg
theorem r41_4  : kCode env 41 false inv k (cp c41 464) (act 19 [(0, x0), (3, x3)]) h K =
    bnd (pLen Try.prog #[22] x0 h) fun x9 =>
    bnd (pBin Try.prog .lss 3 (.tmp 7) (.tmp 9) x3 x9) fun x10 =>
    K .normal (act 19 [(0, x0), (3, x3), (10, x10)]) h := kq_reg
theorem b41_rlllrlrr  : kCode env 41 false inv k (cp c41 465) (act 19 [(0, x0), (3, x3), (10, x10)]) h K = brV x10 (kCode env 41 false inv k (cp c41 930) (act 19 [(0, x0), (3, x3), (10, x10)]) h K) (kCode env 41 false inv k (cp c41 931) (act 19 [(0, x0), (3, x3), (10, x10)]) h K) := kq_cond
theorem r41_6  : kCode env 41 false inv k (cp c41 1864) (act 19 [(0, x0), (3, x3), (10, x10)]) h K =
    bnd (pIndexAddr Try.prog 22 x0 x3) fun x15 =>
    bnd (pLoad Try.prog 9 x15 h) fun x16 =>
    bnd (pLen Try.prog #[9] x16 h) fun x17 =>
    bnd (pBin Try.prog .gtr 3 (.tmp 17) (.const (.int .i64 65536)) x17 (.int .i64 65536)) fun x18 =>
    K .normal (act 19 [(0, x0), (3, x3), (18, x18)]) h := kq_reg
theorem b41_rllrllrlrr  : kCode env 41 false inv k (cp c41 1865) (act 19 [(0, x0), (3, x3), (18, x18)]) h K = brV x18 (kCode env 41 false inv k (cp c41 3730) (act 19 [(0, x0), (3, x3), (18, x18)]) h K) (kCode env 41 false inv k (cp c41 3731) (act 19 [(0, x0), (3, x3), (18, x18)]) h K) := kq_cond
theorem r41_7  : kCode env 41 false inv k (cp c41 7460) (act 19 [(0, x0), (3, x3), (18, x18)]) h K =
    K .normal (act 19 [(2, (.int .i64 3))]) h := kq_reg
theorem r41_5  : kCode env 41 false inv k (cp c41 467) (act 19 [(0, x0), (3, x3), (18, x18)]) h K =
    bnd (pBin Try.prog .add 3 (.tmp 11) (.const (.int .i64 1)) x3 (.int .i64 1)) fun x12 =>
    K .normal (act 19 [(0, x0), (3, x12)]) h := kq_reg
noncomputable def F41_lrlrr {β : Type} (inv : Inv) (k : Nat) : Nat → Value → Value → AH → (Value → Value → Value → AH → Option β) → (Value → AH → Option β) → Option β
  | 0, _, _, _, _, _ => none
  | j + 1, x0, x3, h, ke0, kr =>
    bnd (pLen Try.prog #[22] x0 h) fun x9 =>
    bnd (pBin Try.prog .lss 3 (.tmp 7) (.tmp 9) x3 x9) fun x10 =>
    brV x10
    (bnd (pIndexAddr Try.prog 22 x0 x3) fun x15 =>
    bnd (pLoad Try.prog 9 x15 h) fun x16 =>
    bnd (pLen Try.prog #[9] x16 h) fun x17 =>
    bnd (pBin Try.prog .gtr 3 (.tmp 17) (.const (.int .i64 65536)) x17 (.int .i64 65536)) fun x18 =>
    brV x18
    (kr (.int .i64 3) h)
    (bnd (pBin Try.prog .add 3 (.tmp 11) (.const (.int .i64 1)) x3 (.int .i64 1)) fun x12 =>
    F41_lrlrr inv k j x0 x12 h ke0 kr))
    (ke0 x0 x3 x10 h)
theorem F41_lrlrr_j (j : Nat) : kLoop (kCode env 41 false inv k (cp c41 116)) j (act 19 [(0, x0), (3, x3)]) h K = F41_lrlrr inv k j x0 x3 h (fun y0 y3 y10 h => K (.exit 0) (act 19 [(0, y0), (3, y3), (10, y10)]) h) (fun y2 h => K .ret (act 19 [(2, y2)]) h) := by
      induction j generalizing x0 x3 h with
      | zero => rfl
      | succ j ih =>
        unfold F41_lrlrr
        simp only [kLoop, kq_seq c41 116, kq_seq c41 232, r41_4, b41_rlllrlrr, kq_skip c41 930, kq_seq c41 233, kq_block c41 466 1, kq_seq c41 932, r41_6, b41_rllrllrlrr, kq_seq c41 3730, r41_7, kq_ret c41 7461, kq_skip c41 3731, r41_5, kq_exit c41 931 0, ih, reduceIte, reduceCtorEq, XE.exit.injEq, Nat.reduceEqDiff, Nat.reduceMul, Nat.reduceAdd] <;> kernel_rfl
theorem F41_lrlrr_eq  : kCode env 41 false inv k (cp c41 58) (act 19 [(0, x0), (3, x3)]) h K = F41_lrlrr inv k k x0 x3 h (fun y0 y3 y10 h => K (.exit 0) (act 19 [(0, y0), (3, y3), (10, y10)]) h) (fun y2 h => K .ret (act 19 [(2, y2)]) h) := kq_loop (F41_lrlrr_j k)
theorem r41_8  : kCode env 41 false inv k (cp c41 30) (act 19 [(0, x0), (3, x3), (10, x10)]) h K =
    K .normal (act 19 [(2, (.int .i64 0))]) h := kq_reg
/-- shadowbook/shadowbookref07.check -/
noncomputable def F41 (inv : Inv) (k : Nat) (x0 : Value) (h : AH) : Option (Value × AH) :=
    bnd (pLen Try.prog #[22] x0 h) fun x5 =>
    bnd (pBin Try.prog .gtr 3 (.tmp 5) (.const (.int .i64 4096)) x5 (.int .i64 4096)) fun x6 =>
    brV x6
    (some ((.int .i64 3), h))
    (F41_lrlrr inv k k x0 (.int .i64 0) h
    (fun y0 y3 y10 h =>
    some ((.int .i64 0), h))
    (fun y2 h_1 =>
    some (y2, h_1)))
theorem F41_eq : eFun env k inv 41 #[x0] h = F41 inv k x0 h := by
      refine (kq_fun (a := act 19 [(0, x0)]) (c := cp c41 1)).trans ?_
      unfold F41
      simp only [kq_seq c41 1, r41_0, kq_seq c41 3, kq_seq c41 6, r41_1, b41_rlr, kq_seq c41 26, r41_2, kq_ret c41 53, res41_0, kq_skip c41 27, kq_seq c41 7, kq_seq c41 14, r41_3, kq_block c41 29 0, F41_lrlrr_eq, kq_seq c41 15, r41_8, kq_ret c41 31, reduceIte, reduceCtorEq, XE.exit.injEq, Nat.reduceEqDiff, Nat.reduceMul, Nat.reduceAdd] <;> kernel_rfl
theorem F41_call : eInv env (k + 1) (.func 41) #[] #[x0] h = F41 (eInv env k) k x0 h := kq_inv F41_eq
noncomputable def c42 : Code := codeOf Try.prog 42
theorem r42_0  : kCode env 42 false inv k (cp c42 2) (act 20 [(0, x0), (1, x1)]) h K =
    K .normal (act 20 [(0, x0), (1, x1)]) h := kq_reg
theorem r42_1  : kCode env 42 false inv k (cp c42 96) (act 20 [(0, x0), (1, x1)]) h K =
    bnd (pBin Try.prog .geq 48 (.tmp 5) (.const (.int .u64 128)) x1 (.int .u64 128)) fun x6 =>
    K .normal (act 20 [(0, x0), (1, x1), (6, x6)]) h := kq_reg
theorem b42_rllllr  : kCode env 42 false inv k (cp c42 97) (act 20 [(0, x0), (1, x1), (6, x6)]) h K = brV x6 (kCode env 42 false inv k (cp c42 194) (act 20 [(0, x0), (1, x1), (6, x6)]) h K) (kCode env 42 false inv k (cp c42 195) (act 20 [(0, x0), (1, x1), (6, x6)]) h K) := kq_cond
theorem r42_2  : kCode env 42 false inv k (cp c42 196) (act 20 [(0, x0), (1, x1), (6, x6)]) h K =
    bnd (pConv Try.prog 48 5 x1 h) fun x9 =>
    bnd (pBin Try.prog .or 5 (.tmp 9) (.const (.int .u8 128)) x9 (.int .u8 128)) fun x10 =>
    bnd (pBuildSlice Try.prog 30 1 #[(0, x10)] h) fun x11 =>
    bnd (pAppend Try.prog #[30, 30] x0 x11.1 x11.2) fun x12 =>
    K .normal (act 20 [(0, x12.1), (1, x1)]) x12.2 := kq_reg
theorem r42_3  : kCode env 42 false inv k (cp c42 197) (act 20 [(0, x0), (1, x1)]) h K =
    bnd (pBin Try.prog .shr 48 (.tmp 13) (.const (.int .u64 7)) x1 (.int .u64 7)) fun x14 =>
    K .normal (act 20 [(0, x0), (1, x14)]) h := kq_reg
noncomputable def F42_llr {β : Type} (inv : Inv) (k : Nat) : Nat → Value → Value → AH → (Value → Value → Value → AH → Option β) → Option β
  | 0, _, _, _, _ => none
  | j + 1, x0, x1, h, ke0 =>
    bnd (pBin Try.prog .geq 48 (.tmp 5) (.const (.int .u64 128)) x1 (.int .u64 128)) fun x6 =>
    brV x6
    (bnd (pConv Try.prog 48 5 x1 h) fun x9 =>
    bnd (pBin Try.prog .or 5 (.tmp 9) (.const (.int .u8 128)) x9 (.int .u8 128)) fun x10 =>
    bnd (pBuildSlice Try.prog 30 1 #[(0, x10)] h) fun x11 =>
    bnd (pAppend Try.prog #[30, 30] x0 x11.1 x11.2) fun x12 =>
    bnd (pBin Try.prog .shr 48 (.tmp 13) (.const (.int .u64 7)) x1 (.int .u64 7)) fun x14 =>
    F42_llr inv k j x12.1 x14 x12.2 ke0)
    (ke0 x0 x1 x6 h)
theorem F42_llr_j (j : Nat) : kLoop (kCode env 42 false inv k (cp c42 24)) j (act 20 [(0, x0), (1, x1)]) h K = F42_llr inv k j x0 x1 h (fun y0 y1 y6 h => K (.exit 0) (act 20 [(0, y0), (1, y1), (6, y6)]) h) := by
      induction j generalizing x0 x1 h with
      | zero => rfl
      | succ j ih =>
        unfold F42_llr
        simp only [kLoop, kq_seq c42 24, kq_seq c42 48, r42_1, b42_rllllr, kq_skip c42 194, kq_block c42 49 1, kq_seq c42 98, r42_2, r42_3, kq_exit c42 195 0, ih, reduceIte, reduceCtorEq, XE.exit.injEq, Nat.reduceEqDiff, Nat.reduceMul, Nat.reduceAdd] <;> kernel_rfl
theorem F42_llr_eq  : kCode env 42 false inv k (cp c42 12) (act 20 [(0, x0), (1, x1)]) h K = F42_llr inv k k x0 x1 h (fun y0 y1 y6 h => K (.exit 0) (act 20 [(0, y0), (1, y1), (6, y6)]) h) := kq_loop (F42_llr_j k)
theorem r42_4  : kCode env 42 false inv k (cp c42 14) (act 20 [(0, x0), (1, x1), (6, x6)]) h K =
    bnd (pConv Try.prog 48 5 x1 h) fun x17 =>
    bnd (pBuildSlice Try.prog 30 1 #[(0, x17)] h) fun x18 =>
    bnd (pAppend Try.prog #[30, 30] x0 x18.1 x18.2) fun x19 =>
    K .normal (act 20 [(4, x19.1)]) x19.2 := kq_reg
theorem res42_0 : resOfFn env.P 42 .ret (act 20 [(4, x4)]) h = some (x4, h) := kq_res
/-- shadowbook/shadowbookref01.PutVar -/
noncomputable def F42 (inv : Inv) (k : Nat) (x0 x1 : Value) (h : AH) : Option (Value × AH) :=
    F42_llr inv k k x0 x1 h
    (fun y0 y1 y6 h =>
    bnd (pConv Try.prog 48 5 y1 h) fun x17 =>
    bnd (pBuildSlice Try.prog 30 1 #[(0, x17)] h) fun x18 =>
    bnd (pAppend Try.prog #[30, 30] y0 x18.1 x18.2) fun x19 =>
    some (x19.1, x19.2))
theorem F42_eq : eFun env k inv 42 #[x0, x1] h = F42 inv k x0 x1 h := by
      refine (kq_fun (a := act 20 [(0, x0), (1, x1)]) (c := cp c42 1)).trans ?_
      unfold F42
      simp only [kq_seq c42 1, r42_0, kq_seq c42 3, kq_block c42 6 0, F42_llr_eq, kq_seq c42 7, r42_4, kq_ret c42 15, res42_0, reduceIte, reduceCtorEq, XE.exit.injEq, Nat.reduceEqDiff, Nat.reduceMul, Nat.reduceAdd] <;> kernel_rfl
theorem F42_call : eInv env (k + 1) (.func 42) #[] #[x0, x1] h = F42 (eInv env k) k x0 x1 h := kq_inv F42_eq
noncomputable def c43 : Code := codeOf Try.prog 43
theorem r43_0  : kCode env 43 false inv k (cp c43 2) (act 12 [(0, x0), (1, x1)]) h K =
    K .normal (act 12 [(0, x0), (1, x1)]) h := kq_reg
theorem r43_1  : kCode env 43 false inv k (cp c43 6) (act 12 [(0, x0), (1, x1)]) h K =
    bnd (pLen Try.prog #[9] x1 h) fun x7 =>
    bnd (pConv Try.prog 3 48 x7 h) fun x8 =>
    bnd (inv (.func 42) #[] #[x0, x8] h) fun x9 =>
    bnd (pAppend Try.prog #[30, 9] x9.1 x1 x9.2) fun x11 =>
    K .normal (act 12 [(4, x11.1)]) x11.2 := kq_reg
theorem res43_0 : resOfFn env.P 43 .ret (act 12 [(4, x4)]) h = some (x4, h) := kq_res
/-- shadowbook/shadowbookref07.Text -/
noncomputable def F43 (inv : Inv) (k : Nat) (x0 x1 : Value) (h : AH) : Option (Value × AH) :=
    bnd (pLen Try.prog #[9] x1 h) fun x7 =>
    bnd (pConv Try.prog 3 48 x7 h) fun x8 =>
    bnd (inv (.func 42) #[] #[x0, x8] h) fun x9 =>
    bnd (pAppend Try.prog #[30, 9] x9.1 x1 x9.2) fun x11 =>
    some (x11.1, x11.2)
theorem F43_eq : eFun env k inv 43 #[x0, x1] h = F43 inv k x0 x1 h := by
      refine (kq_fun (a := act 12 [(0, x0), (1, x1)]) (c := cp c43 1)).trans ?_
      unfold F43
      simp only [kq_seq c43 1, r43_0, kq_seq c43 3, r43_1, kq_ret c43 7, res43_0, reduceIte, reduceCtorEq, XE.exit.injEq, Nat.reduceEqDiff, Nat.reduceMul, Nat.reduceAdd] <;> kernel_rfl
theorem F43_call : eInv env (k + 1) (.func 43) #[] #[x0, x1] h = F43 (eInv env k) k x0 x1 h := kq_inv F43_eq
noncomputable def c44 : Code := codeOf Try.prog 44
theorem r44_0  : kCode env 44 false inv k (cp c44 2) (act 19 [(0, x0)]) h K =
    K .normal (act 19 [(0, x0)]) h := kq_reg
theorem r44_1  : kCode env 44 false inv k (cp c44 6) (act 19 [(0, x0)]) h K =
    K .normal (act 19 [(0, x0), (3, (.int .i64 0))]) h := kq_reg
theorem r44_2  : kCode env 44 false inv k (cp c44 28) (act 19 [(0, x0), (3, x3)]) h K =
    K .normal (act 19 [(0, x0), (3, x3), (4, (.int .i64 0))]) h := kq_reg
theorem r44_3  : kCode env 44 false inv k (cp c44 464) (act 19 [(0, x0), (3, x3), (4, x4)]) h K =
    bnd (pLen Try.prog #[50] x0 h) fun x7 =>
    bnd (pBin Try.prog .lss 3 (.tmp 5) (.tmp 7) x4 x7) fun x8 =>
    K .normal (act 19 [(0, x0), (3, x3), (4, x4), (8, x8)]) h := kq_reg
theorem b44_rlllrlrr  : kCode env 44 false inv k (cp c44 465) (act 19 [(0, x0), (3, x3), (4, x4), (8, x8)]) h K = brV x8 (kCode env 44 false inv k (cp c44 930) (act 19 [(0, x0), (3, x3), (4, x4), (8, x8)]) h K) (kCode env 44 false inv k (cp c44 931) (act 19 [(0, x0), (3, x3), (4, x4), (8, x8)]) h K) := kq_cond
theorem r44_5  : kCode env 44 false inv k (cp c44 932) (act 19 [(0, x0), (3, x3), (4, x4), (8, x8)]) h K =
    bnd (pIndexAddr Try.prog 50 x0 x4) fun x14 =>
    bnd (pLoad Try.prog 48 x14 h) fun x15 =>
    bnd (inv (.func 69) #[] #[x15] h) fun x16 =>
    bnd (pMinMax Try.prog true #[x3, x16.1]) fun x17 =>
    K .normal (act 19 [(0, x0), (3, x17), (4, x4)]) x16.2 := kq_reg
theorem r44_4  : kCode env 44 false inv k (cp c44 467) (act 19 [(0, x0), (3, x3), (4, x4)]) h K =
    bnd (pBin Try.prog .add 3 (.tmp 9) (.const (.int .i64 1)) x4 (.int .i64 1)) fun x10 =>
    K .normal (act 19 [(0, x0), (3, x3), (4, x10)]) h := kq_reg
noncomputable def F44_lrlrr {β : Type} (inv : Inv) (k : Nat) : Nat → Value → Value → Value → AH → (Value → Value → Value → Value → AH → Option β) → Option β
  | 0, _, _, _, _, _ => none
  | j + 1, x0, x3, x4, h, ke0 =>
    bnd (pLen Try.prog #[50] x0 h) fun x7 =>
    bnd (pBin Try.prog .lss 3 (.tmp 5) (.tmp 7) x4 x7) fun x8 =>
    brV x8
    (bnd (pIndexAddr Try.prog 50 x0 x4) fun x14 =>
    bnd (pLoad Try.prog 48 x14 h) fun x15 =>
    bnd (inv (.func 69) #[] #[x15] h) fun x16 =>
    bnd (pMinMax Try.prog true #[x3, x16.1]) fun x17 =>
    bnd (pBin Try.prog .add 3 (.tmp 9) (.const (.int .i64 1)) x4 (.int .i64 1)) fun x10 =>
    F44_lrlrr inv k j x0 x17 x10 x16.2 ke0)
    (ke0 x0 x3 x4 x8 h)
theorem F44_lrlrr_j (j : Nat) : kLoop (kCode env 44 false inv k (cp c44 116)) j (act 19 [(0, x0), (3, x3), (4, x4)]) h K = F44_lrlrr inv k j x0 x3 x4 h (fun y0 y3 y4 y8 h => K (.exit 0) (act 19 [(0, y0), (3, y3), (4, y4), (8, y8)]) h) := by
      induction j generalizing x0 x3 x4 h with
      | zero => rfl
      | succ j ih =>
        unfold F44_lrlrr
        simp only [kLoop, kq_seq c44 116, kq_seq c44 232, r44_3, b44_rlllrlrr, kq_skip c44 930, kq_seq c44 233, kq_block c44 466 1, r44_5, r44_4, kq_exit c44 931 0, ih, reduceIte, reduceCtorEq, XE.exit.injEq, Nat.reduceEqDiff, Nat.reduceMul, Nat.reduceAdd] <;> kernel_rfl
theorem F44_lrlrr_eq  : kCode env 44 false inv k (cp c44 58) (act 19 [(0, x0), (3, x3), (4, x4)]) h K = F44_lrlrr inv k k x0 x3 x4 h (fun y0 y3 y4 y8 h => K (.exit 0) (act 19 [(0, y0), (3, y3), (4, y4), (8, y8)]) h) := kq_loop (F44_lrlrr_j k)
theorem r44_6  : kCode env 44 false inv k (cp c44 30) (act 19 [(0, x0), (3, x3), (4, x4), (8, x8)]) h K =
    K .normal (act 19 [(2, x3)]) h := kq_reg
theorem res44_0 : resOfFn env.P 44 .ret (act 19 [(2, x2)]) h = some (x2, h) := kq_res
/-- shadowbook/shadowbookref05.Width -/
noncomputable def F44 (inv : Inv) (k : Nat) (x0 : Value) (h : AH) : Option (Value × AH) :=
    F44_lrlrr inv k k x0 (.int .i64 0) (.int .i64 0) h
    (fun y0 y3 y4 y8 h =>
    some (y3, h))
theorem F44_eq : eFun env k inv 44 #[x0] h = F44 inv k x0 h := by
      refine (kq_fun (a := act 19 [(0, x0)]) (c := cp c44 1)).trans ?_
      unfold F44
      simp only [kq_seq c44 1, r44_0, kq_seq c44 3, r44_1, kq_seq c44 7, kq_seq c44 14, r44_2, kq_block c44 29 0, F44_lrlrr_eq, kq_seq c44 15, r44_6, kq_ret c44 31, res44_0, reduceIte, reduceCtorEq, XE.exit.injEq, Nat.reduceEqDiff, Nat.reduceMul, Nat.reduceAdd] <;> kernel_rfl
theorem F44_call : eInv env (k + 1) (.func 44) #[] #[x0] h = F44 (eInv env k) k x0 h := kq_inv F44_eq
noncomputable def c45 : Code := codeOf Try.prog 45
theorem r45_0  : kCode env 45 false inv k (cp c45 2) (act 64 [(0, x0), (1, x1)]) h K =
    K .normal (act 64 [(0, x0), (1, x1)]) h := kq_reg
theorem r45_1  : kCode env 45 false inv k (cp c45 12) (act 64 [(0, x0), (1, x1)]) h K =
    bnd (pLen Try.prog #[50] x0 h) fun x11 =>
    bnd (inv (.func 70) #[] #[x11, x1] h) fun x13 =>
    bnd (pUn Try.prog .not x13.1) fun x14 =>
    K .normal (act 64 [(0, x0), (1, x1), (14, x14)]) x13.2 := kq_reg
theorem b45_rlr  : kCode env 45 false inv k (cp c45 13) (act 64 [(0, x0), (1, x1), (14, x14)]) h K = brV x14 (kCode env 45 false inv k (cp c45 26) (act 64 [(0, x0), (1, x1), (14, x14)]) h K) (kCode env 45 false inv k (cp c45 27) (act 64 [(0, x0), (1, x1), (14, x14)]) h K) := kq_cond
theorem r45_2  : kCode env 45 false inv k (cp c45 52) (act 64 [(0, x0), (1, x1), (14, x14)]) h K =
    K .normal (act 64 [(4, (.slice none 0 0)), (5, (.int .i64 2))]) h := kq_reg
theorem res45_0 : resOfFn env.P 45 .ret (act 64 [(4, x4), (5, x5)]) h = some (.tuple #[x4, x5], h) := kq_res
theorem r45_3  : kCode env 45 false inv k (cp c45 28) (act 64 [(0, x0), (1, x1), (14, x14)]) h K =
    bnd (inv (.func 44) #[] #[x0] h) fun x16 =>
    bnd (pBin Try.prog .gtr 3 (.tmp 16) (.tmp 17) x16.1 x1) fun x18 =>
    K .normal (act 64 [(0, x0), (1, x1), (18, x18)]) x16.2 := kq_reg
theorem b45_rlrr  : kCode env 45 false inv k (cp c45 29) (act 64 [(0, x0), (1, x1), (18, x18)]) h K = brV x18 (kCode env 45 false inv k (cp c45 58) (act 64 [(0, x0), (1, x1), (18, x18)]) h K) (kCode env 45 false inv k (cp c45 59) (act 64 [(0, x0), (1, x1), (18, x18)]) h K) := kq_cond
theorem r45_4  : kCode env 45 false inv k (cp c45 116) (act 64 [(0, x0), (1, x1), (18, x18)]) h K =
    K .normal (act 64 [(4, (.slice none 0 0)), (5, (.int .i64 3))]) h := kq_reg
theorem r45_5  : kCode env 45 false inv k (cp c45 30) (act 64 [(0, x0), (1, x1), (18, x18)]) h K =
    bnd (pLen Try.prog #[50] x0 h) fun x20 =>
    bnd (inv (.func 71) #[] #[x20, x1] h) fun x22 =>
    bnd (pMakeSlice Try.prog 30 x22.1 x22.1 x22.2) fun x23 =>
    K .normal (act 64 [(0, x0), (1, x1), (6, x23.1)]) x23.2 := kq_reg
theorem r45_6  : kCode env 45 false inv k (cp c45 124) (act 64 [(0, x0), (1, x1), (6, x6)]) h K =
    K .normal (act 64 [(0, x0), (1, x1), (6, x6), (7, (.int .i64 0))]) h := kq_reg
theorem r45_7  : kCode env 45 false inv k (cp c45 2000) (act 64 [(0, x0), (1, x1), (6, x6), (7, x7)]) h K =
    bnd (pLen Try.prog #[50] x0 h) fun x26 =>
    bnd (pBin Try.prog .lss 3 (.tmp 24) (.tmp 26) x7 x26) fun x27 =>
    K .normal (act 64 [(0, x0), (1, x1), (6, x6), (7, x7), (27, x27)]) h := kq_reg
theorem b45_rlllrlrrrr  : kCode env 45 false inv k (cp c45 2001) (act 64 [(0, x0), (1, x1), (6, x6), (7, x7), (27, x27)]) h K = brV x27 (kCode env 45 false inv k (cp c45 4002) (act 64 [(0, x0), (1, x1), (6, x6), (7, x7), (27, x27)]) h K) (kCode env 45 false inv k (cp c45 4003) (act 64 [(0, x0), (1, x1), (6, x6), (7, x7), (27, x27)]) h K) := kq_cond
theorem r45_9  : kCode env 45 false inv k (cp c45 8008) (act 64 [(0, x0), (1, x1), (6, x6), (7, x7), (27, x27)]) h K =
    K .normal (act 64 [(0, x0), (1, x1), (6, x6), (7, x7), (8, (.int .i64 0))]) h := kq_reg
theorem r45_10  : kCode env 45 false inv k (cp c45 128144) (act 64 [(0, x0), (1, x1), (6, x6), (7, x7), (8, x8)]) h K =
    bnd (pBin Try.prog .lss 3 (.tmp 30) (.tmp 31) x8 x1) fun x32 =>
    K .normal (act 64 [(0, x0), (1, x1), (6, x6), (7, x7), (8, x8), (32, x32)]) h := kq_reg
theorem b45_rlllrllrllrlrrrr  : kCode env 45 false inv k (cp c45 128145) (act 64 [(0, x0), (1, x1), (6, x6), (7, x7), (8, x8), (32, x32)]) h K = brV x32 (kCode env 45 false inv k (cp c45 256290) (act 64 [(0, x0), (1, x1), (6, x6), (7, x7), (8, x8), (32, x32)]) h K) (kCode env 45 false inv k (cp c45 256291) (act 64 [(0, x0), (1, x1), (6, x6), (7, x7), (8, x8), (32, x32)]) h K) := kq_cond
noncomputable abbrev G45_12 {β : Type} (inv : Inv) (x0 x1 x6 x7 x8 : Value) (h : AH) (K : Value → AH → Option β) : Option β :=
    bnd (pIndexAddr Try.prog 50 x0 x7) fun x37 =>
    bnd (pLoad Try.prog 48 x37 h) fun x38 =>
    bnd (pConv Try.prog 3 70 x8 h) fun x40 =>
    bnd (pBin Try.prog .shr 48 (.tmp 38) (.tmp 40) x38 x40) fun x41 =>
    bnd (pBin Try.prog .rem 48 (.tmp 41) (.const (.int .u64 2)) x41 (.int .u64 2)) fun x42 =>
    bnd (pBin Try.prog .eql 48 (.tmp 42) (.const (.int .u64 1)) x42 (.int .u64 1)) fun x43 =>
    K (x43) h
theorem r45_12  : kCode env 45 false inv k (cp c45 512584) (act 64 [(0, x0), (1, x1), (6, x6), (7, x7), (8, x8), (32, x32)]) h K =
    G45_12 inv x0 x1 x6 x7 x8 h fun y43 h => K .normal (act 64 [(0, x0), (1, x1), (6, x6), (7, x7), (8, x8), (43, y43)]) h := kq_reg
theorem b45_rllrllrllrllrlrrrr  : kCode env 45 false inv k (cp c45 512585) (act 64 [(0, x0), (1, x1), (6, x6), (7, x7), (8, x8), (43, x43)]) h K = brV x43 (kCode env 45 false inv k (cp c45 1025170) (act 64 [(0, x0), (1, x1), (6, x6), (7, x7), (8, x8), (43, x43)]) h K) (kCode env 45 false inv k (cp c45 1025171) (act 64 [(0, x0), (1, x1), (6, x6), (7, x7), (8, x8), (43, x43)]) h K) := kq_cond
theorem r45_13  : kCode env 45 false inv k (cp c45 2050340) (act 64 [(0, x0), (1, x1), (6, x6), (7, x7), (8, x8), (43, x43)]) h K =
    bnd (pBin Try.prog .mul 3 (.tmp 44) (.tmp 45) x7 x1) fun x46 =>
    bnd (pBin Try.prog .add 3 (.tmp 46) (.tmp 47) x46 x8) fun x48 =>
    K .normal (act 64 [(0, x0), (1, x1), (6, x6), (7, x7), (8, x8), (9, x48)]) h := kq_reg
noncomputable abbrev G45_14 {β : Type} (inv : Inv) (x0 x1 x6 x7 x8 x9 : Value) (h : AH) (K : AH → Option β) : Option β :=
    bnd (pBin Try.prog .quo 3 (.tmp 50) (.const (.int .i64 8)) x9 (.int .i64 8)) fun x51 =>
    bnd (pBin Try.prog .quo 3 (.tmp 53) (.const (.int .i64 8)) x9 (.int .i64 8)) fun x54 =>
    bnd (pIndexAddr Try.prog 30 x6 x54) fun x55 =>
    bnd (pLoad Try.prog 5 x55 h) fun x56 =>
    bnd (pBin Try.prog .rem 3 (.tmp 57) (.const (.int .i64 8)) x9 (.int .i64 8)) fun x58 =>
    bnd (pConv Try.prog 3 70 x58 h) fun x59 =>
    bnd (pBin Try.prog .shl 5 (.const (.int .u8 1)) (.tmp 59) (.int .u8 1) x59) fun x60 =>
    bnd (pBin Try.prog .or 5 (.tmp 56) (.tmp 60) x56 x60) fun x61 =>
    bnd (pIndexAddr Try.prog 30 x6 x51) fun x62 =>
    bnd (kSt (pStore Try.prog 5 x62 x61 h)) fun u =>
    K u.2
theorem r45_14  : kCode env 45 false inv k (cp c45 2050341) (act 64 [(0, x0), (1, x1), (6, x6), (7, x7), (8, x8), (9, x9)]) h K =
    G45_14 inv x0 x1 x6 x7 x8 x9 h fun  h => K .normal (act 64 [(0, x0), (1, x1), (6, x6), (7, x7), (8, x8)]) h := kq_reg
noncomputable def F45_lrllrllrllrlrrrr {β : Type} (inv : Inv) (k : Nat) (x0 x1 x6 x7 x8 x32 : Value) (h : AH) (kn : (Value → Value → Value → Value → Value → Value → AH → Option β)) : Option β :=
    G45_12 inv x0 x1 x6 x7 x8 h fun y43 h =>
    brV y43
    (bnd (pBin Try.prog .mul 3 (.tmp 44) (.tmp 45) x7 x1) fun x46 =>
    bnd (pBin Try.prog .add 3 (.tmp 46) (.tmp 47) x46 x8) fun x48 =>
    G45_14 inv x0 x1 x6 x7 x8 x48 h fun  h_1 =>
    kn x0 x1 x6 x7 x8 unk h_1)
    (kn x0 x1 x6 x7 x8 y43 h)
theorem F45_lrllrllrllrlrrrr_eq  : kCode env 45 false inv k (cp c45 128146) (act 64 [(0, x0), (1, x1), (6, x6), (7, x7), (8, x8), (32, x32)]) h K = F45_lrllrllrllrlrrrr inv k x0 x1 x6 x7 x8 x32 h (fun y0 y1 y6 y7 y8 y43 h => K .normal (act 64 [(0, y0), (1, y1), (6, y6), (7, y7), (8, y8), (43, y43)]) h) := by
      unfold F45_lrllrllrllrlrrrr
      simp only [kq_block c45 128146 3, kq_seq c45 256292, r45_12, b45_rllrllrllrllrlrrrr, kq_seq c45 1025170, r45_13, r45_14, kq_skip c45 1025171, reduceIte, reduceCtorEq, XE.exit.injEq, Nat.reduceEqDiff, Nat.reduceMul, Nat.reduceAdd] <;> kernel_rfl
theorem r45_11  : kCode env 45 false inv k (cp c45 128147) (act 64 [(0, x0), (1, x1), (6, x6), (7, x7), (8, x8), (43, x43)]) h K =
    bnd (pBin Try.prog .add 3 (.tmp 33) (.const (.int .i64 1)) x8 (.int .i64 1)) fun x34 =>
    K .normal (act 64 [(0, x0), (1, x1), (6, x6), (7, x7), (8, x34)]) h := kq_reg
noncomputable def F45_lrllrllrlrrrr {β : Type} (inv : Inv) (k : Nat) : Nat → Value → Value → Value → Value → Value → AH → (Value → Value → Value → Value → Value → Value → AH → Option β) → Option β
  | 0, _, _, _, _, _, _, _ => none
  | j + 1, x0, x1, x6, x7, x8, h, ke2 =>
    bnd (pBin Try.prog .lss 3 (.tmp 30) (.tmp 31) x8 x1) fun x32 =>
    brV x32
    (F45_lrllrllrllrlrrrr inv k x0 x1 x6 x7 x8 x32 h
    (fun y0 y1 y6 y7 y8 y43 h =>
    bnd (pBin Try.prog .add 3 (.tmp 33) (.const (.int .i64 1)) y8 (.int .i64 1)) fun x34 =>
    F45_lrllrllrlrrrr inv k j y0 y1 y6 y7 x34 h ke2))
    (ke2 x0 x1 x6 x7 x8 x32 h)
theorem F45_lrllrllrlrrrr_j (j : Nat) : kLoop (kCode env 45 false inv k (cp c45 32036)) j (act 64 [(0, x0), (1, x1), (6, x6), (7, x7), (8, x8)]) h K = F45_lrllrllrlrrrr inv k j x0 x1 x6 x7 x8 h (fun y0 y1 y6 y7 y8 y32 h => K (.exit 2) (act 64 [(0, y0), (1, y1), (6, y6), (7, y7), (8, y8), (32, y32)]) h) := by
      induction j generalizing x0 x1 x6 x7 x8 h with
      | zero => rfl
      | succ j ih =>
        unfold F45_lrllrllrlrrrr
        simp only [kLoop, kq_seq c45 32036, kq_seq c45 64072, r45_10, b45_rlllrllrllrlrrrr, kq_skip c45 256290, kq_seq c45 64073, F45_lrllrllrllrlrrrr_eq, r45_11, kq_exit c45 256291 2, ih, reduceIte, reduceCtorEq, XE.exit.injEq, Nat.reduceEqDiff, Nat.reduceMul, Nat.reduceAdd] <;> kernel_rfl
theorem F45_lrllrllrlrrrr_eq  : kCode env 45 false inv k (cp c45 16018) (act 64 [(0, x0), (1, x1), (6, x6), (7, x7), (8, x8)]) h K = F45_lrllrllrlrrrr inv k k x0 x1 x6 x7 x8 h (fun y0 y1 y6 y7 y8 y32 h => K (.exit 2) (act 64 [(0, y0), (1, y1), (6, y6), (7, y7), (8, y8), (32, y32)]) h) := kq_loop (F45_lrllrllrlrrrr_j k)
theorem r45_8  : kCode env 45 false inv k (cp c45 2003) (act 64 [(0, x0), (1, x1), (6, x6), (7, x7), (8, x8), (32, x32)]) h K =
    bnd (pBin Try.prog .add 3 (.tmp 28) (.const (.int .i64 1)) x7 (.int .i64 1)) fun x29 =>
    K .normal (act 64 [(0, x0), (1, x1), (6, x6), (7, x29)]) h := kq_reg
noncomputable def F45_lrlrrrr {β : Type} (inv : Inv) (k : Nat) : Nat → Value → Value → Value → Value → AH → (Value → Value → Value → Value → Value → AH → Option β) → Option β
  | 0, _, _, _, _, _, _ => none
  | j + 1, x0, x1, x6, x7, h, ke0 =>
    bnd (pLen Try.prog #[50] x0 h) fun x26 =>
    bnd (pBin Try.prog .lss 3 (.tmp 24) (.tmp 26) x7 x26) fun x27 =>
    brV x27
    (F45_lrllrllrlrrrr inv k k x0 x1 x6 x7 (.int .i64 0) h
    (fun y0 y1 y6 y7 y8 y32 h =>
    bnd (pBin Try.prog .add 3 (.tmp 28) (.const (.int .i64 1)) y7 (.int .i64 1)) fun x29 =>
    F45_lrlrrrr inv k j y0 y1 y6 x29 h ke0))
    (ke0 x0 x1 x6 x7 x27 h)
theorem F45_lrlrrrr_j (j : Nat) : kLoop (kCode env 45 false inv k (cp c45 500)) j (act 64 [(0, x0), (1, x1), (6, x6), (7, x7)]) h K = F45_lrlrrrr inv k j x0 x1 x6 x7 h (fun y0 y1 y6 y7 y27 h => K (.exit 0) (act 64 [(0, y0), (1, y1), (6, y6), (7, y7), (27, y27)]) h) := by
      induction j generalizing x0 x1 x6 x7 h with
      | zero => rfl
      | succ j ih =>
        unfold F45_lrlrrrr
        simp only [kLoop, kq_seq c45 500, kq_seq c45 1000, r45_7, b45_rlllrlrrrr, kq_skip c45 4002, kq_seq c45 1001, kq_block c45 2002 1, kq_seq c45 4004, r45_9, kq_block c45 8009 2, F45_lrllrllrlrrrr_eq, r45_8, kq_exit c45 4003 0, ih, reduceIte, reduceCtorEq, XE.exit.injEq, Nat.reduceEqDiff, Nat.reduceMul, Nat.reduceAdd] <;> kernel_rfl
theorem F45_lrlrrrr_eq  : kCode env 45 false inv k (cp c45 250) (act 64 [(0, x0), (1, x1), (6, x6), (7, x7)]) h K = F45_lrlrrrr inv k k x0 x1 x6 x7 h (fun y0 y1 y6 y7 y27 h => K (.exit 0) (act 64 [(0, y0), (1, y1), (6, y6), (7, y7), (27, y27)]) h) := kq_loop (F45_lrlrrrr_j k)
theorem r45_15  : kCode env 45 false inv k (cp c45 126) (act 64 [(0, x0), (1, x1), (6, x6), (7, x7), (27, x27)]) h K =
    K .normal (act 64 [(4, x6), (5, (.int .i64 0))]) h := kq_reg
/-- shadowbook/shadowbookref05.Put -/
noncomputable def F45 (inv : Inv) (k : Nat) (x0 x1 : Value) (h : AH) : Option (Value × AH) :=
    bnd (pLen Try.prog #[50] x0 h) fun x11 =>
    bnd (inv (.func 70) #[] #[x11, x1] h) fun x13 =>
    bnd (pUn Try.prog .not x13.1) fun x14 =>
    brV x14
    (some (.tuple #[(.slice none 0 0), (.int .i64 2)], x13.2))
    (bnd (inv (.func 44) #[] #[x0] x13.2) fun x16 =>
    bnd (pBin Try.prog .gtr 3 (.tmp 16) (.tmp 17) x16.1 x1) fun x18 =>
    brV x18
    (some (.tuple #[(.slice none 0 0), (.int .i64 3)], x16.2))
    (bnd (pLen Try.prog #[50] x0 x16.2) fun x20 =>
    bnd (inv (.func 71) #[] #[x20, x1] x16.2) fun x22 =>
    bnd (pMakeSlice Try.prog 30 x22.1 x22.1 x22.2) fun x23 =>
    F45_lrlrrrr inv k k x0 x1 x23.1 (.int .i64 0) x23.2
    (fun y0 y1 y6 y7 y27 h =>
    some (.tuple #[y6, (.int .i64 0)], h))))
theorem F45_eq : eFun env k inv 45 #[x0, x1] h = F45 inv k x0 x1 h := by
      refine (kq_fun (a := act 64 [(0, x0), (1, x1)]) (c := cp c45 1)).trans ?_
      unfold F45
      simp only [kq_seq c45 1, r45_0, kq_seq c45 3, kq_seq c45 6, r45_1, b45_rlr, kq_seq c45 26, r45_2, kq_ret c45 53, res45_0, kq_skip c45 27, kq_seq c45 7, kq_seq c45 14, r45_3, b45_rlrr, kq_seq c45 58, r45_4, kq_ret c45 117, kq_skip c45 59, kq_seq c45 15, r45_5, kq_seq c45 31, kq_seq c45 62, r45_6, kq_block c45 125 0, F45_lrlrrrr_eq, kq_seq c45 63, r45_15, kq_ret c45 127, reduceIte, reduceCtorEq, XE.exit.injEq, Nat.reduceEqDiff, Nat.reduceMul, Nat.reduceAdd] <;> kernel_rfl
theorem F45_call : eInv env (k + 1) (.func 45) #[] #[x0, x1] h = F45 (eInv env k) k x0 x1 h := kq_inv F45_eq
noncomputable def c46 : Code := codeOf Try.prog 46
theorem r46_0  : kCode env 46 false inv k (cp c46 2) (act 8 [(0, x0)]) h K =
    K .normal (act 8 [(0, x0)]) h := kq_reg
theorem r46_1  : kCode env 46 false inv k (cp c46 6) (act 8 [(0, x0)]) h K =
    bnd (pBuildSlice Try.prog 30 0 #[] h) fun x3 =>
    bnd (pAppend Try.prog #[30, 30] x3.1 x0 x3.2) fun x5 =>
    bnd (pBuild Try.prog 84 #[(0, x5.1)]) fun x6 =>
    bnd (pBox Try.prog 84 x6 x5.2) fun x7 =>
    K .normal (act 8 [(2, x7.1)]) x7.2 := kq_reg
theorem res46_0 : resOfFn env.P 46 .ret (act 8 [(2, x2)]) h = some (x2, h) := kq_res
/-- shadowbook/shadowbookref01.New -/
noncomputable def F46 (inv : Inv) (k : Nat) (x0 : Value) (h : AH) : Option (Value × AH) :=
    bnd (pBuildSlice Try.prog 30 0 #[] h) fun x3 =>
    bnd (pAppend Try.prog #[30, 30] x3.1 x0 x3.2) fun x5 =>
    bnd (pBuild Try.prog 84 #[(0, x5.1)]) fun x6 =>
    bnd (pBox Try.prog 84 x6 x5.2) fun x7 =>
    some (x7.1, x7.2)
theorem F46_eq : eFun env k inv 46 #[x0] h = F46 inv k x0 h := by
      refine (kq_fun (a := act 8 [(0, x0)]) (c := cp c46 1)).trans ?_
      unfold F46
      simp only [kq_seq c46 1, r46_0, kq_seq c46 3, r46_1, kq_ret c46 7, res46_0, reduceIte, reduceCtorEq, XE.exit.injEq, Nat.reduceEqDiff, Nat.reduceMul, Nat.reduceAdd] <;> kernel_rfl
theorem F46_call : eInv env (k + 1) (.func 46) #[] #[x0] h = F46 (eInv env k) k x0 h := kq_inv F46_eq
end Go.Proofs.Ytagcejlclcldcaa.Sh
