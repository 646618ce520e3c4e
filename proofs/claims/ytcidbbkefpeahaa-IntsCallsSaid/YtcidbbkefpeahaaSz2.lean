/- Shallow functions, part 2. Printed by a program of the prover's own from the loaded program; Lean checks it. -/
import Derived.Test.YtcidbbkefpeahaaSz1
set_option linter.unusedVariables false
set_option linter.unusedSimpArgs false
set_option maxRecDepth 100000
namespace Go.Proofs.Ytcidbbkefpeahaa.Sh
open Go Go.RowKit Go.Proofs.Ev
variable {β : Type} {inv : Inv} {k : Nat} {h : AH} {K : XE → Act → AH → Option β} {x0 x1 x2 x3 x4 x5 x6 x7 x8 x9 x10 x11 x12 x13 x14 x15 x16 x17 x18 x19 x20 x21 x22 x23 x24 x25 x26 x27 x28 x29 x30 x31 x32 x33 x34 x35 x36 x37 x38 x39 x40 x41 x42 x43 x44 x45 x46 x47 x48 x49 x50 x51 x52 x53 x54 x55 x56 x57 x58 x59 x78 x79 z0 z1 : Value}
noncomputable def c42 : Code := codeOf Try.prog 42
theorem r42_0  : kCode env 42 false inv k (cp c42 2) (act 20 [(0, x0), (1, x1)]) h K =
    K .normal (act 20 [(0, x0), (1, x1)]) h := kq_reg
theorem r42_1  : kCode env 42 false inv k (cp c42 96) (act 20 [(0, x0), (1, x1)]) h K =
    bnd (pBin Try.prog .geq 51 (.tmp 5) (.const (.int .u64 128)) x1 (.int .u64 128)) fun x6 =>
    K .normal (act 20 [(0, x0), (1, x1), (6, x6)]) h := kq_reg
theorem b42_rllllr  : kCode env 42 false inv k (cp c42 97) (act 20 [(0, x0), (1, x1), (6, x6)]) h K = brV x6 (kCode env 42 false inv k (cp c42 194) (act 20 [(0, x0), (1, x1), (6, x6)]) h K) (kCode env 42 false inv k (cp c42 195) (act 20 [(0, x0), (1, x1), (6, x6)]) h K) := kq_cond
theorem r42_2  : kCode env 42 false inv k (cp c42 196) (act 20 [(0, x0), (1, x1), (6, x6)]) h K =
    bnd (pConv Try.prog 51 5 x1 h) fun x9 =>
    bnd (pBin Try.prog .or 5 (.tmp 9) (.const (.int .u8 128)) x9 (.int .u8 128)) fun x10 =>
    bnd (pBuildSlice Try.prog 26 1 #[(0, x10)] h) fun x11 =>
    bnd (pAppend Try.prog #[26, 26] x0 x11.1 x11.2) fun x12 =>
    K .normal (act 20 [(0, x12.1), (1, x1)]) x12.2 := kq_reg
theorem r42_3  : kCode env 42 false inv k (cp c42 197) (act 20 [(0, x0), (1, x1)]) h K =
    bnd (pBin Try.prog .shr 51 (.tmp 13) (.const (.int .u64 7)) x1 (.int .u64 7)) fun x14 =>
    K .normal (act 20 [(0, x0), (1, x14)]) h := kq_reg
noncomputable def F42_llr {β : Type} (inv : Inv) (k : Nat) : Nat → Value → Value → AH → (Value → Value → Value → AH → Option β) → Option β
  | 0, _, _, _, _ => none
  | j + 1, x0, x1, h, ke0 =>
    bnd (pBin Try.prog .geq 51 (.tmp 5) (.const (.int .u64 128)) x1 (.int .u64 128)) fun x6 =>
    brV x6
    (bnd (pConv Try.prog 51 5 x1 h) fun x9 =>
    bnd (pBin Try.prog .or 5 (.tmp 9) (.const (.int .u8 128)) x9 (.int .u8 128)) fun x10 =>
    bnd (pBuildSlice Try.prog 26 1 #[(0, x10)] h) fun x11 =>
    bnd (pAppend Try.prog #[26, 26] x0 x11.1 x11.2) fun x12 =>
    bnd (pBin Try.prog .shr 51 (.tmp 13) (.const (.int .u64 7)) x1 (.int .u64 7)) fun x14 =>
    F42_llr inv k j x12.1 x14 x12.2 ke0)
    (ke0 x0 x1 x6 h)
theorem F42_llr_j (j : Nat) : kLoop (kCode env 42 false inv k (cp c42 24)) j (act 20 [(0, x0), (1, x1)]) h K = F42_llr inv k j x0 x1 h (fun y0 y1 y6 h => K (.exit 0) (act 20 [(0, y0), (1, y1), (6, y6)]) h) := by
      induction j generalizing x0 x1 h with
      | zero => rfl
      | succ j ih =>
        unfold F42_llr
        simp only [kLoop, kq_seq c42 24, kq_seq c42 48, r42_1, b42_rllllr, kq_skip c42 194, kq_block c42 49 1, kq_seq c42 98, r42_2, r42_3, kq_exit c42 195 0, ih, reduceIte, reduceCtorEq, XE.exit.injEq, Nat.reduceEqDiff, Nat.reduceMul, Nat.reduceAdd] <;> kernel_rfl
theorem F42_llr_eq  : kCode env 42 false inv k (cp c42 12) (act 20 [(0, x0), (1, x1)]) h K = F42_llr inv k k x0 x1 h (fun y0 y1 y6 h => K (.exit 0) (act 20 [(0, y0), (1, y1), (6, y6)]) h) := kq_loop (F42_llr_j k)
theorem r42_4  : kCode env 42 false inv k (cp c42 14) (act 20 [(0, x0), (1, x1), (6, x6)]) h K =
    bnd (pConv Try.prog 51 5 x1 h) fun x17 =>
    bnd (pBuildSlice Try.prog 26 1 #[(0, x17)] h) fun x18 =>
    bnd (pAppend Try.prog #[26, 26] x0 x18.1 x18.2) fun x19 =>
    K .normal (act 20 [(4, x19.1)]) x19.2 := kq_reg
theorem res42_0 : resOfFn env.P 42 .ret (act 20 [(4, x4)]) h = some (x4, h) := kq_res
/-- shadowbook/shadowbookref01.PutVar -/
noncomputable def F42 (inv : Inv) (k : Nat) (x0 x1 : Value) (h : AH) : Option (Value × AH) :=
    F42_llr inv k k x0 x1 h
    (fun y0 y1 y6 h =>
    bnd (pConv Try.prog 51 5 y1 h) fun x17 =>
    bnd (pBuildSlice Try.prog 26 1 #[(0, x17)] h) fun x18 =>
    bnd (pAppend Try.prog #[26, 26] y0 x18.1 x18.2) fun x19 =>
    some (x19.1, x19.2))
theorem F42_eq : eFun env k inv 42 #[x0, x1] h = F42 inv k x0 x1 h := by
      refine (kq_fun (a := act 20 [(0, x0), (1, x1)]) (c := cp c42 1)).trans ?_
      unfold F42
      simp only [kq_seq c42 1, r42_0, kq_seq c42 3, kq_block c42 6 0, F42_llr_eq, kq_seq c42 7, r42_4, kq_ret c42 15, res42_0, reduceIte, reduceCtorEq, XE.exit.injEq, Nat.reduceEqDiff, Nat.reduceMul, Nat.reduceAdd] <;> kernel_rfl
theorem F42_call : eInv env (k + 1) (.func 42) #[] #[x0, x1] h = F42 (eInv env k) k x0 x1 h := kq_inv F42_eq
noncomputable def c43 : Code := codeOf Try.prog 43
theorem r43_0  : kCode env 43 false inv k (cp c43 2) (act 19 [(0, x0)]) h K =
    K .normal (act 19 [(0, x0)]) h := kq_reg
theorem r43_1  : kCode env 43 false inv k (cp c43 6) (act 19 [(0, x0)]) h K =
    K .normal (act 19 [(0, x0), (3, (.int .i64 0))]) h := kq_reg
theorem r43_2  : kCode env 43 false inv k (cp c43 28) (act 19 [(0, x0), (3, x3)]) h K =
    K .normal (act 19 [(0, x0), (3, x3), (4, (.int .i64 0))]) h := kq_reg
theorem r43_3  : kCode env 43 false inv k (cp c43 464) (act 19 [(0, x0), (3, x3), (4, x4)]) h K =
    bnd (pLen Try.prog #[50] x0 h) fun x7 =>
    bnd (pBin Try.prog .lss 3 (.tmp 5) (.tmp 7) x4 x7) fun x8 =>
    K .normal (act 19 [(0, x0), (3, x3), (4, x4), (8, x8)]) h := kq_reg
theorem b43_rlllrlrr  : kCode env 43 false inv k (cp c43 465) (act 19 [(0, x0), (3, x3), (4, x4), (8, x8)]) h K = brV x8 (kCode env 43 false inv k (cp c43 930) (act 19 [(0, x0), (3, x3), (4, x4), (8, x8)]) h K) (kCode env 43 false inv k (cp c43 931) (act 19 [(0, x0), (3, x3), (4, x4), (8, x8)]) h K) := kq_cond
theorem r43_5  : kCode env 43 false inv k (cp c43 932) (act 19 [(0, x0), (3, x3), (4, x4), (8, x8)]) h K =
    bnd (pIndexAddr Try.prog 50 x0 x4) fun x14 =>
    bnd (pLoad Try.prog 51 x14 h) fun x15 =>
    bnd (inv (.func 62) #[] #[x15] h) fun x16 =>
    bnd (pMinMax Try.prog true #[x3, x16.1]) fun x17 =>
    K .normal (act 19 [(0, x0), (3, x17), (4, x4)]) x16.2 := kq_reg
theorem r43_4  : kCode env 43 false inv k (cp c43 467) (act 19 [(0, x0), (3, x3), (4, x4)]) h K =
    bnd (pBin Try.prog .add 3 (.tmp 9) (.const (.int .i64 1)) x4 (.int .i64 1)) fun x10 =>
    K .normal (act 19 [(0, x0), (3, x3), (4, x10)]) h := kq_reg
noncomputable def F43_lrlrr {β : Type} (inv : Inv) (k : Nat) : Nat → Value → Value → Value → AH → (Value → Value → Value → Value → AH → Option β) → Option β
  | 0, _, _, _, _, _ => none
  | j + 1, x0, x3, x4, h, ke0 =>
    bnd (pLen Try.prog #[50] x0 h) fun x7 =>
    bnd (pBin Try.prog .lss 3 (.tmp 5) (.tmp 7) x4 x7) fun x8 =>
    brV x8
    (bnd (pIndexAddr Try.prog 50 x0 x4) fun x14 =>
    bnd (pLoad Try.prog 51 x14 h) fun x15 =>
    bnd (inv (.func 62) #[] #[x15] h) fun x16 =>
    bnd (pMinMax Try.prog true #[x3, x16.1]) fun x17 =>
    bnd (pBin Try.prog .add 3 (.tmp 9) (.const (.int .i64 1)) x4 (.int .i64 1)) fun x10 =>
    F43_lrlrr inv k j x0 x17 x10 x16.2 ke0)
    (ke0 x0 x3 x4 x8 h)
theorem F43_lrlrr_j (j : Nat) : kLoop (kCode env 43 false inv k (cp c43 116)) j (act 19 [(0, x0), (3, x3), (4, x4)]) h K = F43_lrlrr inv k j x0 x3 x4 h (fun y0 y3 y4 y8 h => K (.exit 0) (act 19 [(0, y0), (3, y3), (4, y4), (8, y8)]) h) := by
      induction j generalizing x0 x3 x4 h with
      | zero => rfl
      | succ j ih =>
        unfold F43_lrlrr
        simp only [kLoop, kq_seq c43 116, kq_seq c43 232, r43_3, b43_rlllrlrr, kq_skip c43 930, kq_seq c43 233, kq_block c43 466 1, r43_5, r43_4, kq_exit c43 931 0, ih, reduceIte, reduceCtorEq, XE.exit.injEq, Nat.reduceEqDiff, Nat.reduceMul, Nat.reduceAdd] <;> kernel_rfl
theorem F43_lrlrr_eq  : kCode env 43 false inv k (cp c43 58) (act 19 [(0, x0), (3, x3), (4, x4)]) h K = F43_lrlrr inv k k x0 x3 x4 h (fun y0 y3 y4 y8 h => K (.exit 0) (act 19 [(0, y0), (3, y3), (4, y4), (8, y8)]) h) := kq_loop (F43_lrlrr_j k)
theorem r43_6  : kCode env 43 false inv k (cp c43 30) (act 19 [(0, x0), (3, x3), (4, x4), (8, x8)]) h K =
    K .normal (act 19 [(2, x3)]) h := kq_reg
theorem res43_0 : resOfFn env.P 43 .ret (act 19 [(2, x2)]) h = some (x2, h) := kq_res
/-- shadowbook/shadowbookref05.Width -/
noncomputable def F43 (inv : Inv) (k : Nat) (x0 : Value) (h : AH) : Option (Value × AH) :=
    F43_lrlrr inv k k x0 (.int .i64 0) (.int .i64 0) h
    (fun y0 y3 y4 y8 h =>
    some (y3, h))
theorem F43_eq : eFun env k inv 43 #[x0] h = F43 inv k x0 h := by
      refine (kq_fun (a := act 19 [(0, x0)]) (c := cp c43 1)).trans ?_
      unfold F43
      simp only [kq_seq c43 1, r43_0, kq_seq c43 3, r43_1, kq_seq c43 7, kq_seq c43 14, r43_2, kq_block c43 29 0, F43_lrlrr_eq, kq_seq c43 15, r43_6, kq_ret c43 31, res43_0, reduceIte, reduceCtorEq, XE.exit.injEq, Nat.reduceEqDiff, Nat.reduceMul, Nat.reduceAdd] <;> kernel_rfl
theorem F43_call : eInv env (k + 1) (.func 43) #[] #[x0] h = F43 (eInv env k) k x0 h := kq_inv F43_eq
noncomputable def c44 : Code := codeOf Try.prog 44
theorem r44_0  : kCode env 44 false inv k (cp c44 2) (act 64 [(0, x0), (1, x1)]) h K =
    K .normal (act 64 [(0, x0), (1, x1)]) h := kq_reg
theorem r44_1  : kCode env 44 false inv k (cp c44 12) (act 64 [(0, x0), (1, x1)]) h K =
    bnd (pLen Try.prog #[50] x0 h) fun x11 =>
    bnd (inv (.func 63) #[] #[x11, x1] h) fun x13 =>
    bnd (pUn Try.prog .not x13.1) fun x14 =>
    K .normal (act 64 [(0, x0), (1, x1), (14, x14)]) x13.2 := kq_reg
theorem b44_rlr  : kCode env 44 false inv k (cp c44 13) (act 64 [(0, x0), (1, x1), (14, x14)]) h K = brV x14 (kCode env 44 false inv k (cp c44 26) (act 64 [(0, x0), (1, x1), (14, x14)]) h K) (kCode env 44 false inv k (cp c44 27) (act 64 [(0, x0), (1, x1), (14, x14)]) h K) := kq_cond
theorem r44_2  : kCode env 44 false inv k (cp c44 52) (act 64 [(0, x0), (1, x1), (14, x14)]) h K =
    K .normal (act 64 [(4, (.slice none 0 0)), (5, (.int .i64 2))]) h := kq_reg
theorem res44_0 : resOfFn env.P 44 .ret (act 64 [(4, x4), (5, x5)]) h = some (.tuple #[x4, x5], h) := kq_res
theorem r44_3  : kCode env 44 false inv k (cp c44 28) (act 64 [(0, x0), (1, x1), (14, x14)]) h K =
    bnd (inv (.func 43) #[] #[x0] h) fun x16 =>
    bnd (pBin Try.prog .gtr 3 (.tmp 16) (.tmp 17) x16.1 x1) fun x18 =>
    K .normal (act 64 [(0, x0), (1, x1), (18, x18)]) x16.2 := kq_reg
theorem b44_rlrr  : kCode env 44 false inv k (cp c44 29) (act 64 [(0, x0), (1, x1), (18, x18)]) h K = brV x18 (kCode env 44 false inv k (cp c44 58) (act 64 [(0, x0), (1, x1), (18, x18)]) h K) (kCode env 44 false inv k (cp c44 59) (act 64 [(0, x0), (1, x1), (18, x18)]) h K) := kq_cond
theorem r44_4  : kCode env 44 false inv k (cp c44 116) (act 64 [(0, x0), (1, x1), (18, x18)]) h K =
    K .normal (act 64 [(4, (.slice none 0 0)), (5, (.int .i64 3))]) h := kq_reg
theorem r44_5  : kCode env 44 false inv k (cp c44 30) (act 64 [(0, x0), (1, x1), (18, x18)]) h K =
    bnd (pLen Try.prog #[50] x0 h) fun x20 =>
    bnd (inv (.func 64) #[] #[x20, x1] h) fun x22 =>
    bnd (pMakeSlice Try.prog 26 x22.1 x22.1 x22.2) fun x23 =>
    K .normal (act 64 [(0, x0), (1, x1), (6, x23.1)]) x23.2 := kq_reg
theorem r44_6  : kCode env 44 false inv k (cp c44 124) (act 64 [(0, x0), (1, x1), (6, x6)]) h K =
    K .normal (act 64 [(0, x0), (1, x1), (6, x6), (7, (.int .i64 0))]) h := kq_reg
theorem r44_7  : kCode env 44 false inv k (cp c44 2000) (act 64 [(0, x0), (1, x1), (6, x6), (7, x7)]) h K =
    bnd (pLen Try.prog #[50] x0 h) fun x26 =>
    bnd (pBin Try.prog .lss 3 (.tmp 24) (.tmp 26) x7 x26) fun x27 =>
    K .normal (act 64 [(0, x0), (1, x1), (6, x6), (7, x7), (27, x27)]) h := kq_reg
theorem b44_rlllrlrrrr  : kCode env 44 false inv k (cp c44 2001) (act 64 [(0, x0), (1, x1), (6, x6), (7, x7), (27, x27)]) h K = brV x27 (kCode env 44 false inv k (cp c44 4002) (act 64 [(0, x0), (1, x1), (6, x6), (7, x7), (27, x27)]) h K) (kCode env 44 false inv k (cp c44 4003) (act 64 [(0, x0), (1, x1), (6, x6), (7, x7), (27, x27)]) h K) := kq_cond
theorem r44_9  : kCode env 44 false inv k (cp c44 8008) (act 64 [(0, x0), (1, x1), (6, x6), (7, x7), (27, x27)]) h K =
    K .normal (act 64 [(0, x0), (1, x1), (6, x6), (7, x7), (8, (.int .i64 0))]) h := kq_reg
theorem r44_10  : kCode env 44 false inv k (cp c44 128144) (act 64 [(0, x0), (1, x1), (6, x6), (7, x7), (8, x8)]) h K =
    bnd (pBin Try.prog .lss 3 (.tmp 30) (.tmp 31) x8 x1) fun x32 =>
    K .normal (act 64 [(0, x0), (1, x1), (6, x6), (7, x7), (8, x8), (32, x32)]) h := kq_reg
theorem b44_rlllrllrllrlrrrr  : kCode env 44 false inv k (cp c44 128145) (act 64 [(0, x0), (1, x1), (6, x6), (7, x7), (8, x8), (32, x32)]) h K = brV x32 (kCode env 44 false inv k (cp c44 256290) (act 64 [(0, x0), (1, x1), (6, x6), (7, x7), (8, x8), (32, x32)]) h K) (kCode env 44 false inv k (cp c44 256291) (act 64 [(0, x0), (1, x1), (6, x6), (7, x7), (8, x8), (32, x32)]) h K) := kq_cond
noncomputable abbrev G44_12 {β : Type} (inv : Inv) (x0 x1 x6 x7 x8 : Value) (h : AH) (K : Value → AH → Option β) : Option β :=
    bnd (pIndexAddr Try.prog 50 x0 x7) fun x37 =>
    bnd (pLoad Try.prog 51 x37 h) fun x38 =>
    bnd (pConv Try.prog 3 76 x8 h) fun x40 =>
    bnd (pBin Try.prog .shr 51 (.tmp 38) (.tmp 40) x38 x40) fun x41 =>
    bnd (pBin Try.prog .rem 51 (.tmp 41) (.const (.int .u64 2)) x41 (.int .u64 2)) fun x42 =>
    bnd (pBin Try.prog .eql 51 (.tmp 42) (.const (.int .u64 1)) x42 (.int .u64 1)) fun x43 =>
    K (x43) h
theorem r44_12  : kCode env 44 false inv k (cp c44 512584) (act 64 [(0, x0), (1, x1), (6, x6), (7, x7), (8, x8), (32, x32)]) h K =
    G44_12 inv x0 x1 x6 x7 x8 h fun y43 h => K .normal (act 64 [(0, x0), (1, x1), (6, x6), (7, x7), (8, x8), (43, y43)]) h := kq_reg
theorem b44_rllrllrllrllrlrrrr  : kCode env 44 false inv k (cp c44 512585) (act 64 [(0, x0), (1, x1), (6, x6), (7, x7), (8, x8), (43, x43)]) h K = brV x43 (kCode env 44 false inv k (cp c44 1025170) (act 64 [(0, x0), (1, x1), (6, x6), (7, x7), (8, x8), (43, x43)]) h K) (kCode env 44 false inv k (cp c44 1025171) (act 64 [(0, x0), (1, x1), (6, x6), (7, x7), (8, x8), (43, x43)]) h K) := kq_cond
theorem r44_13  : kCode env 44 false inv k (cp c44 2050340) (act 64 [(0, x0), (1, x1), (6, x6), (7, x7), (8, x8), (43, x43)]) h K =
    bnd (pBin Try.prog .mul 3 (.tmp 44) (.tmp 45) x7 x1) fun x46 =>
    bnd (pBin Try.prog .add 3 (.tmp 46) (.tmp 47) x46 x8) fun x48 =>
    K .normal (act 64 [(0, x0), (1, x1), (6, x6), (7, x7), (8, x8), (9, x48)]) h := kq_reg
noncomputable abbrev G44_14 {β : Type} (inv : Inv) (x0 x1 x6 x7 x8 x9 : Value) (h : AH) (K : AH → Option β) : Option β :=
    bnd (pBin Try.prog .quo 3 (.tmp 50) (.const (.int .i64 8)) x9 (.int .i64 8)) fun x51 =>
    bnd (pBin Try.prog .quo 3 (.tmp 53) (.const (.int .i64 8)) x9 (.int .i64 8)) fun x54 =>
    bnd (pIndexAddr Try.prog 26 x6 x54) fun x55 =>
    bnd (pLoad Try.prog 5 x55 h) fun x56 =>
    bnd (pBin Try.prog .rem 3 (.tmp 57) (.const (.int .i64 8)) x9 (.int .i64 8)) fun x58 =>
    bnd (pConv Try.prog 3 76 x58 h) fun x59 =>
    bnd (pBin Try.prog .shl 5 (.const (.int .u8 1)) (.tmp 59) (.int .u8 1) x59) fun x60 =>
    bnd (pBin Try.prog .or 5 (.tmp 56) (.tmp 60) x56 x60) fun x61 =>
    bnd (pIndexAddr Try.prog 26 x6 x51) fun x62 =>
    bnd (kSt (pStore Try.prog 5 x62 x61 h)) fun u =>
    K u.2
theorem r44_14  : kCode env 44 false inv k (cp c44 2050341) (act 64 [(0, x0), (1, x1), (6, x6), (7, x7), (8, x8), (9, x9)]) h K =
    G44_14 inv x0 x1 x6 x7 x8 x9 h fun  h => K .normal (act 64 [(0, x0), (1, x1), (6, x6), (7, x7), (8, x8)]) h := kq_reg
noncomputable def F44_lrllrllrllrlrrrr {β : Type} (inv : Inv) (k : Nat) (x0 x1 x6 x7 x8 x32 : Value) (h : AH) (kn : (Value → Value → Value → Value → Value → Value → AH → Option β)) : Option β :=
    G44_12 inv x0 x1 x6 x7 x8 h fun y43 h =>
    brV y43
    (bnd (pBin Try.prog .mul 3 (.tmp 44) (.tmp 45) x7 x1) fun x46 =>
    bnd (pBin Try.prog .add 3 (.tmp 46) (.tmp 47) x46 x8) fun x48 =>
    G44_14 inv x0 x1 x6 x7 x8 x48 h fun  h_1 =>
    kn x0 x1 x6 x7 x8 unk h_1)
    (kn x0 x1 x6 x7 x8 y43 h)
theorem F44_lrllrllrllrlrrrr_eq  : kCode env 44 false inv k (cp c44 128146) (act 64 [(0, x0), (1, x1), (6, x6), (7, x7), (8, x8), (32, x32)]) h K = F44_lrllrllrllrlrrrr inv k x0 x1 x6 x7 x8 x32 h (fun y0 y1 y6 y7 y8 y43 h => K .normal (act 64 [(0, y0), (1, y1), (6, y6), (7, y7), (8, y8), (43, y43)]) h) := by
      unfold F44_lrllrllrllrlrrrr
      simp only [kq_block c44 128146 3, kq_seq c44 256292, r44_12, b44_rllrllrllrllrlrrrr, kq_seq c44 1025170, r44_13, r44_14, kq_skip c44 1025171, reduceIte, reduceCtorEq, XE.exit.injEq, Nat.reduceEqDiff, Nat.reduceMul, Nat.reduceAdd] <;> kernel_rfl
theorem r44_11  : kCode env 44 false inv k (cp c44 128147) (act 64 [(0, x0), (1, x1), (6, x6), (7, x7), (8, x8), (43, x43)]) h K =
    bnd (pBin Try.prog .add 3 (.tmp 33) (.const (.int .i64 1)) x8 (.int .i64 1)) fun x34 =>
    K .normal (act 64 [(0, x0), (1, x1), (6, x6), (7, x7), (8, x34)]) h := kq_reg
noncomputable def F44_lrllrllrlrrrr {β : Type} (inv : Inv) (k : Nat) : Nat → Value → Value → Value → Value → Value → AH → (Value → Value → Value → Value → Value → Value → AH → Option β) → Option β
  | 0, _, _, _, _, _, _, _ => none
  | j + 1, x0, x1, x6, x7, x8, h, ke2 =>
    bnd (pBin Try.prog .lss 3 (.tmp 30) (.tmp 31) x8 x1) fun x32 =>
    brV x32
    (F44_lrllrllrllrlrrrr inv k x0 x1 x6 x7 x8 x32 h
    (fun y0 y1 y6 y7 y8 y43 h =>
    bnd (pBin Try.prog .add 3 (.tmp 33) (.const (.int .i64 1)) y8 (.int .i64 1)) fun x34 =>
    F44_lrllrllrlrrrr inv k j y0 y1 y6 y7 x34 h ke2))
    (ke2 x0 x1 x6 x7 x8 x32 h)
theorem F44_lrllrllrlrrrr_j (j : Nat) : kLoop (kCode env 44 false inv k (cp c44 32036)) j (act 64 [(0, x0), (1, x1), (6, x6), (7, x7), (8, x8)]) h K = F44_lrllrllrlrrrr inv k j x0 x1 x6 x7 x8 h (fun y0 y1 y6 y7 y8 y32 h => K (.exit 2) (act 64 [(0, y0), (1, y1), (6, y6), (7, y7), (8, y8), (32, y32)]) h) := by
      induction j generalizing x0 x1 x6 x7 x8 h with
      | zero => rfl
      | succ j ih =>
        unfold F44_lrllrllrlrrrr
        simp only [kLoop, kq_seq c44 32036, kq_seq c44 64072, r44_10, b44_rlllrllrllrlrrrr, kq_skip c44 256290, kq_seq c44 64073, F44_lrllrllrllrlrrrr_eq, r44_11, kq_exit c44 256291 2, ih, reduceIte, reduceCtorEq, XE.exit.injEq, Nat.reduceEqDiff, Nat.reduceMul, Nat.reduceAdd] <;> kernel_rfl
theorem F44_lrllrllrlrrrr_eq  : kCode env 44 false inv k (cp c44 16018) (act 64 [(0, x0), (1, x1), (6, x6), (7, x7), (8, x8)]) h K = F44_lrllrllrlrrrr inv k k x0 x1 x6 x7 x8 h (fun y0 y1 y6 y7 y8 y32 h => K (.exit 2) (act 64 [(0, y0), (1, y1), (6, y6), (7, y7), (8, y8), (32, y32)]) h) := kq_loop (F44_lrllrllrlrrrr_j k)
theorem r44_8  : kCode env 44 false inv k (cp c44 2003) (act 64 [(0, x0), (1, x1), (6, x6), (7, x7), (8, x8), (32, x32)]) h K =
    bnd (pBin Try.prog .add 3 (.tmp 28) (.const (.int .i64 1)) x7 (.int .i64 1)) fun x29 =>
    K .normal (act 64 [(0, x0), (1, x1), (6, x6), (7, x29)]) h := kq_reg
noncomputable def F44_lrlrrrr {β : Type} (inv : Inv) (k : Nat) : Nat → Value → Value → Value → Value → AH → (Value → Value → Value → Value → Value → AH → Option β) → Option β
  | 0, _, _, _, _, _, _ => none
  | j + 1, x0, x1, x6, x7, h, ke0 =>
    bnd (pLen Try.prog #[50] x0 h) fun x26 =>
    bnd (pBin Try.prog .lss 3 (.tmp 24) (.tmp 26) x7 x26) fun x27 =>
    brV x27
    (F44_lrllrllrlrrrr inv k k x0 x1 x6 x7 (.int .i64 0) h
    (fun y0 y1 y6 y7 y8 y32 h =>
    bnd (pBin Try.prog .add 3 (.tmp 28) (.const (.int .i64 1)) y7 (.int .i64 1)) fun x29 =>
    F44_lrlrrrr inv k j y0 y1 y6 x29 h ke0))
    (ke0 x0 x1 x6 x7 x27 h)
theorem F44_lrlrrrr_j (j : Nat) : kLoop (kCode env 44 false inv k (cp c44 500)) j (act 64 [(0, x0), (1, x1), (6, x6), (7, x7)]) h K = F44_lrlrrrr inv k j x0 x1 x6 x7 h (fun y0 y1 y6 y7 y27 h => K (.exit 0) (act 64 [(0, y0), (1, y1), (6, y6), (7, y7), (27, y27)]) h) := by
      induction j generalizing x0 x1 x6 x7 h with
      | zero => rfl
      | succ j ih =>
        unfold F44_lrlrrrr
        simp only [kLoop, kq_seq c44 500, kq_seq c44 1000, r44_7, b44_rlllrlrrrr, kq_skip c44 4002, kq_seq c44 1001, kq_block c44 2002 1, kq_seq c44 4004, r44_9, kq_block c44 8009 2, F44_lrllrllrlrrrr_eq, r44_8, kq_exit c44 4003 0, ih, reduceIte, reduceCtorEq, XE.exit.injEq, Nat.reduceEqDiff, Nat.reduceMul, Nat.reduceAdd] <;> kernel_rfl
theorem F44_lrlrrrr_eq  : kCode env 44 false inv k (cp c44 250) (act 64 [(0, x0), (1, x1), (6, x6), (7, x7)]) h K = F44_lrlrrrr inv k k x0 x1 x6 x7 h (fun y0 y1 y6 y7 y27 h => K (.exit 0) (act 64 [(0, y0), (1, y1), (6, y6), (7, y7), (27, y27)]) h) := kq_loop (F44_lrlrrrr_j k)
theorem r44_15  : kCode env 44 false inv k (cp c44 126) (act 64 [(0, x0), (1, x1), (6, x6), (7, x7), (27, x27)]) h K =
    K .normal (act 64 [(4, x6), (5, (.int .i64 0))]) h := kq_reg
/-- shadowbook/shadowbookref05.Put -/
noncomputable def F44 (inv : Inv) (k : Nat) (x0 x1 : Value) (h : AH) : Option (Value × AH) :=
    bnd (pLen Try.prog #[50] x0 h) fun x11 =>
    bnd (inv (.func 63) #[] #[x11, x1] h) fun x13 =>
    bnd (pUn Try.prog .not x13.1) fun x14 =>
    brV x14
    (some (.tuple #[(.slice none 0 0), (.int .i64 2)], x13.2))
    (bnd (inv (.func 43) #[] #[x0] x13.2) fun x16 =>
    bnd (pBin Try.prog .gtr 3 (.tmp 16) (.tmp 17) x16.1 x1) fun x18 =>
    brV x18
    (some (.tuple #[(.slice none 0 0), (.int .i64 3)], x16.2))
    (bnd (pLen Try.prog #[50] x0 x16.2) fun x20 =>
    bnd (inv (.func 64) #[] #[x20, x1] x16.2) fun x22 =>
    bnd (pMakeSlice Try.prog 26 x22.1 x22.1 x22.2) fun x23 =>
    F44_lrlrrrr inv k k x0 x1 x23.1 (.int .i64 0) x23.2
    (fun y0 y1 y6 y7 y27 h =>
    some (.tuple #[y6, (.int .i64 0)], h))))
theorem F44_eq : eFun env k inv 44 #[x0, x1] h = F44 inv k x0 x1 h := by
      refine (kq_fun (a := act 64 [(0, x0), (1, x1)]) (c := cp c44 1)).trans ?_
      unfold F44
      simp only [kq_seq c44 1, r44_0, kq_seq c44 3, kq_seq c44 6, r44_1, b44_rlr, kq_seq c44 26, r44_2, kq_ret c44 53, res44_0, kq_skip c44 27, kq_seq c44 7, kq_seq c44 14, r44_3, b44_rlrr, kq_seq c44 58, r44_4, kq_ret c44 117, kq_skip c44 59, kq_seq c44 15, r44_5, kq_seq c44 31, kq_seq c44 62, r44_6, kq_block c44 125 0, F44_lrlrrrr_eq, kq_seq c44 63, r44_15, kq_ret c44 127, reduceIte, reduceCtorEq, XE.exit.injEq, Nat.reduceEqDiff, Nat.reduceMul, Nat.reduceAdd] <;> kernel_rfl
theorem F44_call : eInv env (k + 1) (.func 44) #[] #[x0, x1] h = F44 (eInv env k) k x0 x1 h := kq_inv F44_eq
noncomputable def c45 : Code := codeOf Try.prog 45
theorem r45_0  : kCode env 45 false inv k (cp c45 2) (act 8 [(0, x0)]) h K =
    K .normal (act 8 [(0, x0)]) h := kq_reg
theorem r45_1  : kCode env 45 false inv k (cp c45 6) (act 8 [(0, x0)]) h K =
    bnd (pBuildSlice Try.prog 26 0 #[] h) fun x3 =>
    bnd (pAppend Try.prog #[26, 26] x3.1 x0 x3.2) fun x5 =>
    bnd (pBuild Try.prog 71 #[(0, x5.1)]) fun x6 =>
    bnd (pBox Try.prog 71 x6 x5.2) fun x7 =>
    K .normal (act 8 [(2, x7.1)]) x7.2 := kq_reg
theorem res45_0 : resOfFn env.P 45 .ret (act 8 [(2, x2)]) h = some (x2, h) := kq_res
/-- shadowbook/shadowbookref01.New -/
noncomputable def F45 (inv : Inv) (k : Nat) (x0 : Value) (h : AH) : Option (Value × AH) :=
    bnd (pBuildSlice Try.prog 26 0 #[] h) fun x3 =>
    bnd (pAppend Try.prog #[26, 26] x3.1 x0 x3.2) fun x5 =>
    bnd (pBuild Try.prog 71 #[(0, x5.1)]) fun x6 =>
    bnd (pBox Try.prog 71 x6 x5.2) fun x7 =>
    some (x7.1, x7.2)
theorem F45_eq : eFun env k inv 45 #[x0] h = F45 inv k x0 h := by
      refine (kq_fun (a := act 8 [(0, x0)]) (c := cp c45 1)).trans ?_
      unfold F45
      simp only [kq_seq c45 1, r45_0, kq_seq c45 3, r45_1, kq_ret c45 7, res45_0, reduceIte, reduceCtorEq, XE.exit.injEq, Nat.reduceEqDiff, Nat.reduceMul, Nat.reduceAdd] <;> kernel_rfl
theorem F45_call : eInv env (k + 1) (.func 45) #[] #[x0] h = F45 (eInv env k) k x0 h := kq_inv F45_eq
noncomputable def c46 : Code := codeOf Try.prog 46
theorem r46_0  : kCode env 46 false inv k (cp c46 2) (act 37 [(0, x0), (1, x1)]) h K =
    K .normal (act 37 [(0, x0), (1, x1)]) h := kq_reg
noncomputable abbrev G46_1 {β : Type} (inv : Inv) (x0 x1 : Value) (h : AH) (K : Value → AH → Option β) : Option β :=
    bnd (pBin Try.prog .lss 3 (.tmp 7) (.const (.int .i64 1)) x1 (.int .i64 1)) fun x8 =>
    bnd (gd (some x8) false h (some (x1, h))) fun x10 =>
    bnd (gd (some x8) false x10.2 (lt (pBin Try.prog .gtr 3 (.tmp 10) (.const (.int .i64 8)) x10.1 (.int .i64 8)) x10.2)) fun x11 =>
    bnd (pickV x8 (.bool true) x11.1) fun x12 =>
    K (x12) x11.2
theorem r46_1  : kCode env 46 false inv k (cp c46 12) (act 37 [(0, x0), (1, x1)]) h K =
    G46_1 inv x0 x1 h fun y12 h => K .normal (act 37 [(0, x0), (1, x1), (12, y12)]) h := kq_reg
theorem b46_rlr  : kCode env 46 false inv k (cp c46 13) (act 37 [(0, x0), (1, x1), (12, x12)]) h K = brV x12 (kCode env 46 false inv k (cp c46 26) (act 37 [(0, x0), (1, x1), (12, x12)]) h K) (kCode env 46 false inv k (cp c46 27) (act 37 [(0, x0), (1, x1), (12, x12)]) h K) := kq_cond
theorem r46_2  : kCode env 46 false inv k (cp c46 52) (act 37 [(0, x0), (1, x1), (12, x12)]) h K =
    K .normal (act 37 [(4, (.int .u64 0)), (5, (.int .i64 2))]) h := kq_reg
theorem res46_0 : resOfFn env.P 46 .ret (act 37 [(4, x4), (5, x5)]) h = some (.tuple #[x4, x5], h) := kq_res
theorem r46_3  : kCode env 46 false inv k (cp c46 28) (act 37 [(0, x0), (1, x1), (12, x12)]) h K =
    bnd (pNilCheck x0) fun x14 =>
    bnd (pFieldAddr Try.prog 71 x14 0) fun x15 =>
    bnd (pLoad Try.prog 26 x15 h) fun x16 =>
    bnd (pLen Try.prog #[26] x16 h) fun x17 =>
    bnd (pBin Try.prog .lss 3 (.tmp 17) (.tmp 18) x17 x1) fun x19 =>
    K .normal (act 37 [(0, x0), (1, x1), (19, x19)]) h := kq_reg
theorem b46_rlrr  : kCode env 46 false inv k (cp c46 29) (act 37 [(0, x0), (1, x1), (19, x19)]) h K = brV x19 (kCode env 46 false inv k (cp c46 58) (act 37 [(0, x0), (1, x1), (19, x19)]) h K) (kCode env 46 false inv k (cp c46 59) (act 37 [(0, x0), (1, x1), (19, x19)]) h K) := kq_cond
theorem r46_4  : kCode env 46 false inv k (cp c46 116) (act 37 [(0, x0), (1, x1), (19, x19)]) h K =
    K .normal (act 37 [(4, (.int .u64 0)), (5, (.int .i64 7))]) h := kq_reg
theorem r46_5  : kCode env 46 false inv k (cp c46 30) (act 37 [(0, x0), (1, x1), (19, x19)]) h K =
    bnd (pNilCheck x0) fun x21 =>
    bnd (pFieldAddr Try.prog 71 x21 0) fun x22 =>
    bnd (pLoad Try.prog 26 x22 h) fun x23 =>
    bnd (pSlice Try.prog 26 x23 none (some x1) none h) fun x25 =>
    bnd (inv (.func 65) #[] #[x25] h) fun x26 =>
    K .normal (act 37 [(0, x0), (1, x1), (6, x26.1)]) x26.2 := kq_reg
theorem r46_6  : kCode env 46 false inv k (cp c46 62) (act 37 [(0, x0), (1, x1), (6, x6)]) h K =
    bnd (pNilCheck x0) fun x29 =>
    bnd (pFieldAddr Try.prog 71 x29 0) fun x30 =>
    bnd (pLoad Try.prog 26 x30 h) fun x31 =>
    bnd (pSlice Try.prog 26 x31 (some x1) none none h) fun x33 =>
    bnd (pNilCheck x0) fun x34 =>
    bnd (pFieldAddr Try.prog 71 x34 0) fun x35 =>
    bnd (kSt (pStore Try.prog 26 x35 x33 h)) fun u =>
    K .normal (act 37 [(6, x6)]) u.2 := kq_reg
theorem r46_7  : kCode env 46 false inv k (cp c46 126) (act 37 [(6, x6)]) h K =
    K .normal (act 37 [(4, x6), (5, (.int .i64 0))]) h := kq_reg
/-- (*shadowbook/shadowbookref01.Reader).Number -/
noncomputable def F46 (inv : Inv) (k : Nat) (x0 x1 : Value) (h : AH) : Option (Value × AH) :=
    G46_1 inv x0 x1 h fun y12 h =>
    brV y12
    (some (.tuple #[(.int .u64 0), (.int .i64 2)], h))
    (bnd (pNilCheck x0) fun x14 =>
    bnd (pFieldAddr Try.prog 71 x14 0) fun x15 =>
    bnd (pLoad Try.prog 26 x15 h) fun x16 =>
    bnd (pLen Try.prog #[26] x16 h) fun x17 =>
    bnd (pBin Try.prog .lss 3 (.tmp 17) (.tmp 18) x17 x1) fun x19 =>
    brV x19
    (some (.tuple #[(.int .u64 0), (.int .i64 7)], h))
    (bnd (pNilCheck x0) fun x21 =>
    bnd (pFieldAddr Try.prog 71 x21 0) fun x22 =>
    bnd (pLoad Try.prog 26 x22 h) fun x23 =>
    bnd (pSlice Try.prog 26 x23 none (some x1) none h) fun x25 =>
    bnd (inv (.func 65) #[] #[x25] h) fun x26 =>
    bnd (pNilCheck x0) fun x29 =>
    bnd (pFieldAddr Try.prog 71 x29 0) fun x30 =>
    bnd (pLoad Try.prog 26 x30 x26.2) fun x31 =>
    bnd (pSlice Try.prog 26 x31 (some x1) none none x26.2) fun x33 =>
    bnd (pNilCheck x0) fun x34 =>
    bnd (pFieldAddr Try.prog 71 x34 0) fun x35 =>
    bnd (kSt (pStore Try.prog 26 x35 x33 x26.2)) fun u =>
    some (.tuple #[x26.1, (.int .i64 0)], u.2)))
theorem F46_eq : eFun env k inv 46 #[x0, x1] h = F46 inv k x0 x1 h := by
      refine (kq_fun (a := act 37 [(0, x0), (1, x1)]) (c := cp c46 1)).trans ?_
      unfold F46
      simp only [kq_seq c46 1, r46_0, kq_seq c46 3, kq_seq c46 6, r46_1, b46_rlr, kq_seq c46 26, r46_2, kq_ret c46 53, res46_0, kq_skip c46 27, kq_seq c46 7, kq_seq c46 14, r46_3, b46_rlrr, kq_seq c46 58, r46_4, kq_ret c46 117, kq_skip c46 59, kq_seq c46 15, r46_5, kq_seq c46 31, r46_6, kq_seq c46 63, r46_7, kq_ret c46 127, reduceIte, reduceCtorEq, XE.exit.injEq, Nat.reduceEqDiff, Nat.reduceMul, Nat.reduceAdd] <;> kernel_rfl
theorem F46_call : eInv env (k + 1) (.func 46) #[] #[x0, x1] h = F46 (eInv env k) k x0 x1 h := kq_inv F46_eq
noncomputable def c47 : Code := codeOf Try.prog 47
theorem r47_0  : kCode env 47 false inv k (cp c47 2) (act 65 [(0, x0)]) h K =
    K .normal (act 65 [(0, x0)]) h := kq_reg
theorem r47_1  : kCode env 47 false inv k (cp c47 6) (act 65 [(0, x0)]) h K =
    K .normal (act 65 [(0, x0), (4, (.int .u64 0))]) h := kq_reg
theorem r47_2  : kCode env 47 false inv k (cp c47 28) (act 65 [(0, x0), (4, x4)]) h K =
    K .normal (act 65 [(0, x0), (4, x4), (5, (.int .i64 0))]) h := kq_reg
theorem r47_3  : kCode env 47 false inv k (cp c47 464) (act 65 [(0, x0), (4, x4), (5, x5)]) h K =
    bnd (pBin Try.prog .lss 3 (.tmp 7) (.const (.int .i64 10)) x5 (.int .i64 10)) fun x8 =>
    K .normal (act 65 [(0, x0), (4, x4), (5, x5), (8, x8)]) h := kq_reg
theorem b47_rlllrlrr  : kCode env 47 false inv k (cp c47 465) (act 65 [(0, x0), (4, x4), (5, x5), (8, x8)]) h K = brV x8 (kCode env 47 false inv k (cp c47 930) (act 65 [(0, x0), (4, x4), (5, x5), (8, x8)]) h K) (kCode env 47 false inv k (cp c47 931) (act 65 [(0, x0), (4, x4), (5, x5), (8, x8)]) h K) := kq_cond
theorem r47_5  : kCode env 47 false inv k (cp c47 3728) (act 65 [(0, x0), (4, x4), (5, x5), (8, x8)]) h K =
    bnd (pNilCheck x0) fun x13 =>
    bnd (pFieldAddr Try.prog 71 x13 0) fun x14 =>
    bnd (pLoad Try.prog 26 x14 h) fun x15 =>
    bnd (pLen Try.prog #[26] x15 h) fun x16 =>
    bnd (pBin Try.prog .geq 3 (.tmp 11) (.tmp 16) x5 x16) fun x17 =>
    K .normal (act 65 [(0, x0), (4, x4), (5, x5), (17, x17)]) h := kq_reg
theorem b47_rlllrllrlrr  : kCode env 47 false inv k (cp c47 3729) (act 65 [(0, x0), (4, x4), (5, x5), (17, x17)]) h K = brV x17 (kCode env 47 false inv k (cp c47 7458) (act 65 [(0, x0), (4, x4), (5, x5), (17, x17)]) h K) (kCode env 47 false inv k (cp c47 7459) (act 65 [(0, x0), (4, x4), (5, x5), (17, x17)]) h K) := kq_cond
theorem r47_6  : kCode env 47 false inv k (cp c47 14916) (act 65 [(0, x0), (4, x4), (5, x5), (17, x17)]) h K =
    K .normal (act 65 [(2, (.int .u64 0)), (3, (.int .i64 7))]) h := kq_reg
theorem r47_7  : kCode env 47 false inv k (cp c47 3730) (act 65 [(0, x0), (4, x4), (5, x5), (17, x17)]) h K =
    bnd (pNilCheck x0) fun x19 =>
    bnd (pFieldAddr Try.prog 71 x19 0) fun x20 =>
    bnd (pLoad Try.prog 26 x20 h) fun x21 =>
    bnd (pIndexAddr Try.prog 26 x21 x5) fun x23 =>
    bnd (pLoad Try.prog 5 x23 h) fun x24 =>
    bnd (pBin Try.prog .and 5 (.tmp 24) (.const (.int .u8 127)) x24 (.int .u8 127)) fun x25 =>
    bnd (pConv Try.prog 5 51 x25 h) fun x26 =>
    K .normal (act 65 [(0, x0), (4, x4), (5, x5), (6, x26)]) h := kq_reg
noncomputable abbrev G47_8 {β : Type} (inv : Inv) (x0 x4 x5 x6 : Value) (h : AH) (K : Value → AH → Option β) : Option β :=
    bnd (pBin Try.prog .eql 3 (.tmp 27) (.const (.int .i64 9)) x5 (.int .i64 9)) fun x28 =>
    bnd (gd (some x28) true h (some (x6, h))) fun x30 =>
    bnd (gd (some x28) true x30.2 (lt (pBin Try.prog .gtr 51 (.tmp 30) (.const (.int .u64 1)) x30.1 (.int .u64 1)) x30.2)) fun x31 =>
    bnd (pickV x28 x31.1 (.bool false)) fun x32 =>
    K (x32) x31.2
theorem r47_8  : kCode env 47 false inv k (cp c47 14924) (act 65 [(0, x0), (4, x4), (5, x5), (6, x6)]) h K =
    G47_8 inv x0 x4 x5 x6 h fun y32 h => K .normal (act 65 [(0, x0), (4, x4), (5, x5), (6, x6), (32, y32)]) h := kq_reg
theorem b47_rlrrllrllrlrr  : kCode env 47 false inv k (cp c47 14925) (act 65 [(0, x0), (4, x4), (5, x5), (6, x6), (32, x32)]) h K = brV x32 (kCode env 47 false inv k (cp c47 29850) (act 65 [(0, x0), (4, x4), (5, x5), (6, x6), (32, x32)]) h K) (kCode env 47 false inv k (cp c47 29851) (act 65 [(0, x0), (4, x4), (5, x5), (6, x6), (32, x32)]) h K) := kq_cond
theorem r47_9  : kCode env 47 false inv k (cp c47 59700) (act 65 [(0, x0), (4, x4), (5, x5), (6, x6), (32, x32)]) h K =
    K .normal (act 65 [(2, (.int .u64 0)), (3, (.int .i64 4))]) h := kq_reg
theorem r47_10  : kCode env 47 false inv k (cp c47 14926) (act 65 [(0, x0), (4, x4), (5, x5), (6, x6), (32, x32)]) h K =
    bnd (pBin Try.prog .mul 3 (.const (.int .i64 7)) (.tmp 35) (.int .i64 7) x5) fun x36 =>
    bnd (pConv Try.prog 3 76 x36 h) fun x37 =>
    bnd (pBin Try.prog .shl 51 (.tmp 34) (.tmp 37) x6 x37) fun x38 =>
    bnd (pBin Try.prog .or 51 (.tmp 33) (.tmp 38) x4 x38) fun x39 =>
    K .normal (act 65 [(0, x0), (4, x39), (5, x5), (6, x6)]) h := kq_reg
theorem r47_11  : kCode env 47 false inv k (cp c47 29854) (act 65 [(0, x0), (4, x4), (5, x5), (6, x6)]) h K =
    bnd (pNilCheck x0) fun x41 =>
    bnd (pFieldAddr Try.prog 71 x41 0) fun x42 =>
    bnd (pLoad Try.prog 26 x42 h) fun x43 =>
    bnd (pIndexAddr Try.prog 26 x43 x5) fun x45 =>
    bnd (pLoad Try.prog 5 x45 h) fun x46 =>
    bnd (pBin Try.prog .lss 5 (.tmp 46) (.const (.int .u8 128)) x46 (.int .u8 128)) fun x47 =>
    K .normal (act 65 [(0, x0), (4, x4), (5, x5), (6, x6), (47, x47)]) h := kq_reg
theorem b47_rrrrrllrllrlrr  : kCode env 47 false inv k (cp c47 29855) (act 65 [(0, x0), (4, x4), (5, x5), (6, x6), (47, x47)]) h K = brV x47 (kCode env 47 false inv k (cp c47 59710) (act 65 [(0, x0), (4, x4), (5, x5), (6, x6), (47, x47)]) h K) (kCode env 47 false inv k (cp c47 59711) (act 65 [(0, x0), (4, x4), (5, x5), (6, x6), (47, x47)]) h K) := kq_cond
noncomputable abbrev G47_12 {β : Type} (inv : Inv) (x0 x4 x5 x6 : Value) (h : AH) (K : Value → AH → Option β) : Option β :=
    bnd (pBin Try.prog .eql 51 (.tmp 48) (.const (.int .u64 0)) x6 (.int .u64 0)) fun x49 =>
    bnd (gd (some x49) true h (some (x5, h))) fun x51 =>
    bnd (gd (some x49) true x51.2 (lt (pBin Try.prog .gtr 3 (.tmp 51) (.const (.int .i64 0)) x51.1 (.int .i64 0)) x51.2)) fun x52 =>
    bnd (pickV x49 x52.1 (.bool false)) fun x53 =>
    K (x53) x52.2
theorem r47_12  : kCode env 47 false inv k (cp c47 238840) (act 65 [(0, x0), (4, x4), (5, x5), (6, x6), (47, x47)]) h K =
    G47_12 inv x0 x4 x5 x6 h fun y53 h => K .normal (act 65 [(0, x0), (4, x4), (5, x5), (53, y53)]) h := kq_reg
theorem b47_rllrrrrrllrllrlrr  : kCode env 47 false inv k (cp c47 238841) (act 65 [(0, x0), (4, x4), (5, x5), (53, x53)]) h K = brV x53 (kCode env 47 false inv k (cp c47 477682) (act 65 [(0, x0), (4, x4), (5, x5), (53, x53)]) h K) (kCode env 47 false inv k (cp c47 477683) (act 65 [(0, x0), (4, x4), (5, x5), (53, x53)]) h K) := kq_cond
theorem r47_13  : kCode env 47 false inv k (cp c47 955364) (act 65 [(0, x0), (4, x4), (5, x5), (53, x53)]) h K =
    K .normal (act 65 [(2, (.int .u64 0)), (3, (.int .i64 4))]) h := kq_reg
noncomputable abbrev G47_14 {β : Type} (inv : Inv) (x0 x4 x5 : Value) (h : AH) (K : AH → Option β) : Option β :=
    bnd (pNilCheck x0) fun x56 =>
    bnd (pFieldAddr Try.prog 71 x56 0) fun x57 =>
    bnd (pLoad Try.prog 26 x57 h) fun x58 =>
    bnd (pBin Try.prog .add 3 (.tmp 59) (.const (.int .i64 1)) x5 (.int .i64 1)) fun x60 =>
    bnd (pSlice Try.prog 26 x58 (some x60) none none h) fun x61 =>
    bnd (pNilCheck x0) fun x62 =>
    bnd (pFieldAddr Try.prog 71 x62 0) fun x63 =>
    bnd (kSt (pStore Try.prog 26 x63 x61 h)) fun u =>
    K u.2
theorem r47_14  : kCode env 47 false inv k (cp c47 238842) (act 65 [(0, x0), (4, x4), (5, x5), (53, x53)]) h K =
    G47_14 inv x0 x4 x5 h fun  h => K .normal (act 65 [(4, x4)]) h := kq_reg
theorem r47_15  : kCode env 47 false inv k (cp c47 477686) (act 65 [(4, x4)]) h K =
    K .normal (act 65 [(2, x4), (3, (.int .i64 0))]) h := kq_reg
theorem r47_4  : kCode env 47 false inv k (cp c47 467) (act 65 [(0, x0), (4, x4), (5, x5), (6, x6), (47, x47)]) h K =
    bnd (pBin Try.prog .add 3 (.tmp 9) (.const (.int .i64 1)) x5 (.int .i64 1)) fun x10 =>
    K .normal (act 65 [(0, x0), (4, x4), (5, x10)]) h := kq_reg
noncomputable def F47_lrlrr {β : Type} (inv : Inv) (k : Nat) : Nat → Value → Value → Value → AH → (Value → Value → Value → Value → AH → Option β) → (Value → Value → AH → Option β) → Option β
  | 0, _, _, _, _, _, _ => none
  | j + 1, x0, x4, x5, h, ke0, kr =>
    bnd (pBin Try.prog .lss 3 (.tmp 7) (.const (.int .i64 10)) x5 (.int .i64 10)) fun x8 =>
    brV x8
    (bnd (pNilCheck x0) fun x13 =>
    bnd (pFieldAddr Try.prog 71 x13 0) fun x14 =>
    bnd (pLoad Try.prog 26 x14 h) fun x15 =>
    bnd (pLen Try.prog #[26] x15 h) fun x16 =>
    bnd (pBin Try.prog .geq 3 (.tmp 11) (.tmp 16) x5 x16) fun x17 =>
    brV x17
    (kr (.int .u64 0) (.int .i64 7) h)
    (bnd (pNilCheck x0) fun x19 =>
    bnd (pFieldAddr Try.prog 71 x19 0) fun x20 =>
    bnd (pLoad Try.prog 26 x20 h) fun x21 =>
    bnd (pIndexAddr Try.prog 26 x21 x5) fun x23 =>
    bnd (pLoad Try.prog 5 x23 h) fun x24 =>
    bnd (pBin Try.prog .and 5 (.tmp 24) (.const (.int .u8 127)) x24 (.int .u8 127)) fun x25 =>
    bnd (pConv Try.prog 5 51 x25 h) fun x26 =>
    G47_8 inv x0 x4 x5 x26 h fun y32 h =>
    brV y32
    (kr (.int .u64 0) (.int .i64 4) h)
    (bnd (pBin Try.prog .mul 3 (.const (.int .i64 7)) (.tmp 35) (.int .i64 7) x5) fun x36 =>
    bnd (pConv Try.prog 3 76 x36 h) fun x37 =>
    bnd (pBin Try.prog .shl 51 (.tmp 34) (.tmp 37) x26 x37) fun x38 =>
    bnd (pBin Try.prog .or 51 (.tmp 33) (.tmp 38) x4 x38) fun x39 =>
    bnd (pNilCheck x0) fun x41 =>
    bnd (pFieldAddr Try.prog 71 x41 0) fun x42 =>
    bnd (pLoad Try.prog 26 x42 h) fun x43 =>
    bnd (pIndexAddr Try.prog 26 x43 x5) fun x45 =>
    bnd (pLoad Try.prog 5 x45 h) fun x46 =>
    bnd (pBin Try.prog .lss 5 (.tmp 46) (.const (.int .u8 128)) x46 (.int .u8 128)) fun x47 =>
    brV x47
    (G47_12 inv x0 x39 x5 x26 h fun y53 h_1 =>
    brV y53
    (kr (.int .u64 0) (.int .i64 4) h_1)
    (G47_14 inv x0 x39 x5 h_1 fun  h_2 =>
    kr x39 (.int .i64 0) h_2))
    (bnd (pBin Try.prog .add 3 (.tmp 9) (.const (.int .i64 1)) x5 (.int .i64 1)) fun x10 =>
    F47_lrlrr inv k j x0 x39 x10 h ke0 kr))))
    (ke0 x0 x4 x5 x8 h)
theorem F47_lrlrr_j (j : Nat) : kLoop (kCode env 47 false inv k (cp c47 116)) j (act 65 [(0, x0), (4, x4), (5, x5)]) h K = F47_lrlrr inv k j x0 x4 x5 h (fun y0 y4 y5 y8 h => K (.exit 0) (act 65 [(0, y0), (4, y4), (5, y5), (8, y8)]) h) (fun y2 y3 h => K .ret (act 65 [(2, y2), (3, y3)]) h) := by
      induction j generalizing x0 x4 x5 h with
      | zero => rfl
      | succ j ih =>
        unfold F47_lrlrr
        simp only [kLoop, kq_seq c47 116, kq_seq c47 232, r47_3, b47_rlllrlrr, kq_skip c47 930, kq_seq c47 233, kq_block c47 466 1, kq_seq c47 932, kq_seq c47 1864, r47_5, b47_rlllrllrlrr, kq_seq c47 7458, r47_6, kq_ret c47 14917, kq_skip c47 7459, kq_seq c47 1865, r47_7, kq_seq c47 3731, kq_seq c47 7462, r47_8, b47_rlrrllrllrlrr, kq_seq c47 29850, r47_9, kq_ret c47 59701, kq_skip c47 29851, kq_seq c47 7463, r47_10, kq_seq c47 14927, r47_11, b47_rrrrrllrllrlrr, kq_seq c47 59710, kq_seq c47 119420, r47_12, b47_rllrrrrrllrllrlrr, kq_seq c47 477682, r47_13, kq_ret c47 955365, kq_skip c47 477683, kq_seq c47 119421, r47_14, kq_seq c47 238843, r47_15, kq_ret c47 477687, kq_skip c47 59711, r47_4, kq_exit c47 931 0, ih, reduceIte, reduceCtorEq, XE.exit.injEq, Nat.reduceEqDiff, Nat.reduceMul, Nat.reduceAdd] <;> kernel_rfl
theorem F47_lrlrr_eq  : kCode env 47 false inv k (cp c47 58) (act 65 [(0, x0), (4, x4), (5, x5)]) h K = F47_lrlrr inv k k x0 x4 x5 h (fun y0 y4 y5 y8 h => K (.exit 0) (act 65 [(0, y0), (4, y4), (5, y5), (8, y8)]) h) (fun y2 y3 h => K .ret (act 65 [(2, y2), (3, y3)]) h) := kq_loop (F47_lrlrr_j k)
theorem r47_16  : kCode env 47 false inv k (cp c47 30) (act 65 [(0, x0), (4, x4), (5, x5), (8, x8)]) h K =
    K .normal (act 65 [(2, (.int .u64 0)), (3, (.int .i64 4))]) h := kq_reg
theorem res47_0 : resOfFn env.P 47 .ret (act 65 [(2, x2), (3, x3)]) h = some (.tuple #[x2, x3], h) := kq_res
/-- (*shadowbook/shadowbookref01.Reader).Var -/
noncomputable def F47 (inv : Inv) (k : Nat) (x0 : Value) (h : AH) : Option (Value × AH) :=
    F47_lrlrr inv k k x0 (.int .u64 0) (.int .i64 0) h
    (fun y0 y4 y5 y8 h =>
    some (.tuple #[(.int .u64 0), (.int .i64 4)], h))
    (fun y2 y3 h_3 =>
    some (.tuple #[y2, y3], h_3))
theorem F47_eq : eFun env k inv 47 #[x0] h = F47 inv k x0 h := by
      refine (kq_fun (a := act 65 [(0, x0)]) (c := cp c47 1)).trans ?_
      unfold F47
      simp only [kq_seq c47 1, r47_0, kq_seq c47 3, r47_1, kq_seq c47 7, kq_seq c47 14, r47_2, kq_block c47 29 0, F47_lrlrr_eq, kq_seq c47 15, r47_16, kq_ret c47 31, res47_0, reduceIte, reduceCtorEq, XE.exit.injEq, Nat.reduceEqDiff, Nat.reduceMul, Nat.reduceAdd] <;> kernel_rfl
theorem F47_call : eInv env (k + 1) (.func 47) #[] #[x0] h = F47 (eInv env k) k x0 h := kq_inv F47_eq
noncomputable def c48 : Code := codeOf Try.prog 48
theorem r48_0  : kCode env 48 false inv k (cp c48 2) (act 54 [(0, x0), (1, x1)]) h K =
    K .normal (act 54 [(0, x0), (1, x1)]) h := kq_reg
theorem r48_1  : kCode env 48 false inv k (cp c48 6) (act 54 [(0, x0), (1, x1)]) h K =
    K .normal (act 54 [(0, x0), (1, x1), (6, (.slice none 0 0))]) h := kq_reg
theorem r48_2  : kCode env 48 false inv k (cp c48 224) (act 54 [(0, x0), (1, x1), (6, x6), (7, x7), (9, x9), (45, x45)]) h K =
    bnd (pLen Try.prog #[25] x6 h) fun x12 =>
    bnd (pBin Try.prog .lss 3 (.tmp 12) (.tmp 13) x12 x1) fun x14 =>
    K .normal (act 54 [(0, x0), (1, x1), (6, x6), (14, x14)]) h := kq_reg
theorem b48_rllllrr  : kCode env 48 false inv k (cp c48 225) (act 54 [(0, x0), (1, x1), (6, x6), (14, x14)]) h K = brV x14 (kCode env 48 false inv k (cp c48 450) (act 54 [(0, x0), (1, x1), (6, x6), (14, x14)]) h K) (kCode env 48 false inv k (cp c48 451) (act 54 [(0, x0), (1, x1), (6, x6), (14, x14)]) h K) := kq_cond
theorem r48_3  : kCode env 48 false inv k (cp c48 452) (act 54 [(0, x0), (1, x1), (6, x6), (14, x14)]) h K =
    bnd (inv (.func 47) #[] #[x0] h) fun x17 =>
    bnd (pExtract x17.1 0) fun x18 =>
    bnd (pExtract x17.1 1) fun x19 =>
    K .normal (act 54 [(0, x0), (1, x1), (6, x6), (7, x18), (8, x19)]) x17.2 := kq_reg
theorem r48_4  : kCode env 48 false inv k (cp c48 906) (act 54 [(0, x0), (1, x1), (6, x6), (7, x7), (8, x8)]) h K =
    bnd (inv (.func 46) #[] #[x0, (.int .i64 8)] h) fun x22 =>
    bnd (pExtract x22.1 0) fun x23 =>
    bnd (pExtract x22.1 1) fun x24 =>
    K .normal (act 54 [(0, x0), (1, x1), (6, x6), (7, x7), (8, x8), (9, x23), (10, x24)]) x22.2 := kq_reg
noncomputable abbrev G48_5 {β : Type} (inv : Inv) (x0 x1 x6 x7 x8 x9 x10 : Value) (h : AH) (K : Value → AH → Option β) : Option β :=
    bnd (pBin Try.prog .neq 27 (.tmp 25) (.const (.int .i64 0)) x8 (.int .i64 0)) fun x26 =>
    bnd (gd (some x26) false h (some (x10, h))) fun x28 =>
    bnd (gd (some x26) false x28.2 (lt (pBin Try.prog .neq 27 (.tmp 28) (.const (.int .i64 0)) x28.1 (.int .i64 0)) x28.2)) fun x29 =>
    bnd (pickV x26 (.bool true) x29.1) fun x30 =>
    bnd (gd (some x30) false x29.2 (some (x7, x29.2))) fun x32 =>
    bnd (gd (some x30) false x32.2 (lt (pBin Try.prog .lss 51 (.tmp 32) (.const (.int .u64 1)) x32.1 (.int .u64 1)) x32.2)) fun x33 =>
    bnd (pickV x30 (.bool true) x33.1) fun x34 =>
    bnd (gd (some x34) false x33.2 (some (x7, x33.2))) fun x36 =>
    bnd (gd (some x34) false x36.2 (some (x1, x36.2))) fun x37 =>
    bnd (gd (some x34) false x37.2 (some (x6, x37.2))) fun x38 =>
    bnd (gd (some x34) false x38.2 (lt (pLen Try.prog #[25] x38.1 x38.2) x38.2)) fun x39 =>
    bnd (gd (some x34) false x39.2 (lt (pBin Try.prog .sub 3 (.tmp 37) (.tmp 39) x37.1 x39.1) x39.2)) fun x40 =>
    bnd (gd (some x34) false x40.2 (lt (pConv Try.prog 3 51 x40.1 x40.2) x40.2)) fun x41 =>
    bnd (gd (some x34) false x41.2 (lt (pBin Try.prog .gtr 51 (.tmp 36) (.tmp 41) x36.1 x41.1) x41.2)) fun x42 =>
    bnd (pickV x34 (.bool true) x42.1) fun x43 =>
    K (x43) x42.2
theorem r48_5  : kCode env 48 false inv k (cp c48 3628) (act 54 [(0, x0), (1, x1), (6, x6), (7, x7), (8, x8), (9, x9), (10, x10)]) h K =
    G48_5 inv x0 x1 x6 x7 x8 x9 x10 h fun y43 h => K .normal (act 54 [(0, x0), (1, x1), (6, x6), (7, x7), (9, x9), (43, y43)]) h := kq_reg
theorem b48_rlrrlrlllrr  : kCode env 48 false inv k (cp c48 3629) (act 54 [(0, x0), (1, x1), (6, x6), (7, x7), (9, x9), (43, x43)]) h K = brV x43 (kCode env 48 false inv k (cp c48 7258) (act 54 [(0, x0), (1, x1), (6, x6), (7, x7), (9, x9), (43, x43)]) h K) (kCode env 48 false inv k (cp c48 7259) (act 54 [(0, x0), (1, x1), (6, x6), (7, x7), (9, x9), (43, x43)]) h K) := kq_cond
theorem r48_6  : kCode env 48 false inv k (cp c48 14516) (act 54 [(0, x0), (1, x1), (6, x6), (7, x7), (9, x9), (43, x43)]) h K =
    K .normal (act 54 [(4, (.slice none 0 0)), (5, (.bool false))]) h := kq_reg
theorem r48_7  : kCode env 48 false inv k (cp c48 29040) (act 54 [(0, x0), (1, x1), (6, x6), (7, x7), (9, x9), (43, x43)]) h K =
    bnd (pBin Try.prog .gtr 51 (.tmp 44) (.const (.int .u64 0)) x7 (.int .u64 0)) fun x45 =>
    K .normal (act 54 [(0, x0), (1, x1), (6, x6), (7, x7), (9, x9), (45, x45)]) h := kq_reg
theorem b48_rlllrrrlrlllrr  : kCode env 48 false inv k (cp c48 29041) (act 54 [(0, x0), (1, x1), (6, x6), (7, x7), (9, x9), (45, x45)]) h K = brV x45 (kCode env 48 false inv k (cp c48 58082) (act 54 [(0, x0), (1, x1), (6, x6), (7, x7), (9, x9), (45, x45)]) h K) (kCode env 48 false inv k (cp c48 58083) (act 54 [(0, x0), (1, x1), (6, x6), (7, x7), (9, x9), (45, x45)]) h K) := kq_cond
theorem r48_9  : kCode env 48 false inv k (cp c48 58084) (act 54 [(0, x0), (1, x1), (6, x6), (7, x7), (9, x9), (45, x45)]) h K =
    bnd (pConv Try.prog 51 2 x9 h) fun x50 =>
    bnd (pBuildSlice Try.prog 25 1 #[(0, x50)] h) fun x51 =>
    bnd (pAppend Try.prog #[25, 25] x6 x51.1 x51.2) fun x52 =>
    K .normal (act 54 [(0, x0), (1, x1), (6, x52.1), (7, x7), (9, x9)]) x52.2 := kq_reg
theorem r48_8  : kCode env 48 false inv k (cp c48 29043) (act 54 [(0, x0), (1, x1), (6, x6), (7, x7), (9, x9)]) h K =
    bnd (pBin Try.prog .sub 51 (.tmp 46) (.const (.int .u64 1)) x7 (.int .u64 1)) fun x47 =>
    K .normal (act 54 [(0, x0), (1, x1), (6, x6), (7, x47), (9, x9)]) h := kq_reg
noncomputable def F48_lrrrlrlllrr {β : Type} (inv : Inv) (k : Nat) : Nat → Value → Value → Value → Value → Value → Value → AH → (Value → Value → Value → Value → Value → Value → AH → Option β) → Option β
  | 0, _, _, _, _, _, _, _, _ => none
  | j + 1, x0, x1, x6, x7, x9, x43, h, ke2 =>
    bnd (pBin Try.prog .gtr 51 (.tmp 44) (.const (.int .u64 0)) x7 (.int .u64 0)) fun x45 =>
    brV x45
    (bnd (pConv Try.prog 51 2 x9 h) fun x50 =>
    bnd (pBuildSlice Try.prog 25 1 #[(0, x50)] h) fun x51 =>
    bnd (pAppend Try.prog #[25, 25] x6 x51.1 x51.2) fun x52 =>
    bnd (pBin Try.prog .sub 51 (.tmp 46) (.const (.int .u64 1)) x7 (.int .u64 1)) fun x47 =>
    F48_lrrrlrlllrr inv k j x0 x1 x52.1 x47 x9 unk x52.2 ke2)
    (ke2 x0 x1 x6 x7 x9 x45 h)
theorem F48_lrrrlrlllrr_j (j : Nat) : kLoop (kCode env 48 false inv k (cp c48 7260)) j (act 54 [(0, x0), (1, x1), (6, x6), (7, x7), (9, x9), (43, x43)]) h K = F48_lrrrlrlllrr inv k j x0 x1 x6 x7 x9 x43 h (fun y0 y1 y6 y7 y9 y45 h => K (.exit 2) (act 54 [(0, y0), (1, y1), (6, y6), (7, y7), (9, y9), (45, y45)]) h) := by
      induction j generalizing x0 x1 x6 x7 x9 x43 h with
      | zero => rfl
      | succ j ih =>
        have ih_43 : ∀ (x0 x1 x6 x7 x9 : Value) (h : AH), kLoop (kCode env 48 false inv k (cp c48 7260)) j (act 54 [(0, x0), (1, x1), (6, x6), (7, x7), (9, x9)]) h K = F48_lrrrlrlllrr inv k j x0 x1 x6 x7 x9 unk h (fun y0 y1 y6 y7 y9 y45 h => K (.exit 2) (act 54 [(0, y0), (1, y1), (6, y6), (7, y7), (9, y9), (45, y45)]) h) := fun x0 x1 x6 x7 x9 h => by
          rw [show act 54 [(0, x0), (1, x1), (6, x6), (7, x7), (9, x9)] = act 54 [(0, x0), (1, x1), (6, x6), (7, x7), (9, x9), (43, unk)] from by kernel_rfl]; exact ih ..
        unfold F48_lrrrlrlllrr
        simp only [kLoop, kq_seq c48 7260, kq_seq c48 14520, r48_7, b48_rlllrrrlrlllrr, kq_skip c48 58082, kq_seq c48 14521, kq_block c48 29042 3, r48_9, r48_8, kq_exit c48 58083 2, ih, ih_43, reduceIte, reduceCtorEq, XE.exit.injEq, Nat.reduceEqDiff, Nat.reduceMul, Nat.reduceAdd] <;> kernel_rfl
theorem F48_lrrrlrlllrr_eq  : kCode env 48 false inv k (cp c48 3630) (act 54 [(0, x0), (1, x1), (6, x6), (7, x7), (9, x9), (43, x43)]) h K = F48_lrrrlrlllrr inv k k x0 x1 x6 x7 x9 x43 h (fun y0 y1 y6 y7 y9 y45 h => K (.exit 2) (act 54 [(0, y0), (1, y1), (6, y6), (7, y7), (9, y9), (45, y45)]) h) := kq_loop (F48_lrrrlrlllrr_j k)
noncomputable def F48_llrr {β : Type} (inv : Inv) (k : Nat) : Nat → Value → Value → Value → Value → Value → Value → AH → (Value → Value → Value → Value → AH → Option β) → (Value → Value → AH → Option β) → Option β
  | 0, _, _, _, _, _, _, _, _, _ => none
  | j + 1, x0, x1, x6, x7, x9, x45, h, ke0, kr =>
    bnd (pLen Try.prog #[25] x6 h) fun x12 =>
    bnd (pBin Try.prog .lss 3 (.tmp 12) (.tmp 13) x12 x1) fun x14 =>
    brV x14
    (bnd (inv (.func 47) #[] #[x0] h) fun x17 =>
    bnd (pExtract x17.1 0) fun x18 =>
    bnd (pExtract x17.1 1) fun x19 =>
    bnd (inv (.func 46) #[] #[x0, (.int .i64 8)] x17.2) fun x22 =>
    bnd (pExtract x22.1 0) fun x23 =>
    bnd (pExtract x22.1 1) fun x24 =>
    G48_5 inv x0 x1 x6 x18 x19 x23 x24 x22.2 fun y43 h =>
    brV y43
    (kr (.slice none 0 0) (.bool false) h)
    (F48_lrrrlrlllrr inv k k x0 x1 x6 x18 x23 y43 h
    (fun y0 y1 y6 y7 y9 y45 h_1 =>
    F48_llrr inv k j y0 y1 y6 y7 y9 y45 h_1 ke0 kr)))
    (ke0 x0 x1 x6 x14 h)
theorem F48_llrr_j (j : Nat) : kLoop (kCode env 48 false inv k (cp c48 56)) j (act 54 [(0, x0), (1, x1), (6, x6), (7, x7), (9, x9), (45, x45)]) h K = F48_llrr inv k j x0 x1 x6 x7 x9 x45 h (fun y0 y1 y6 y14 h => K (.exit 0) (act 54 [(0, y0), (1, y1), (6, y6), (14, y14)]) h) (fun y4 y5 h => K .ret (act 54 [(4, y4), (5, y5)]) h) := by
      induction j generalizing x0 x1 x6 x7 x9 x45 h with
      | zero => rfl
      | succ j ih =>
        unfold F48_llrr
        simp only [kLoop, kq_seq c48 56, kq_seq c48 112, r48_2, b48_rllllrr, kq_skip c48 450, kq_block c48 113 1, kq_seq c48 226, r48_3, kq_seq c48 453, r48_4, kq_seq c48 907, kq_seq c48 1814, r48_5, b48_rlrrlrlllrr, kq_seq c48 7258, r48_6, kq_ret c48 14517, kq_skip c48 7259, kq_block c48 1815 2, F48_lrrrlrlllrr_eq, kq_exit c48 451 0, ih, reduceIte, reduceCtorEq, XE.exit.injEq, Nat.reduceEqDiff, Nat.reduceMul, Nat.reduceAdd] <;> kernel_rfl
theorem F48_llrr_eq  : kCode env 48 false inv k (cp c48 28) (act 54 [(0, x0), (1, x1), (6, x6), (7, x7), (9, x9), (45, x45)]) h K = F48_llrr inv k k x0 x1 x6 x7 x9 x45 h (fun y0 y1 y6 y14 h => K (.exit 0) (act 54 [(0, y0), (1, y1), (6, y6), (14, y14)]) h) (fun y4 y5 h => K .ret (act 54 [(4, y4), (5, y5)]) h) := kq_loop (F48_llrr_j k)
theorem F48_llrr_eq_7_9_45  : kCode env 48 false inv k (cp c48 28) (act 54 [(0, x0), (1, x1), (6, x6)]) h K = F48_llrr inv k k x0 x1 x6 unk unk unk h (fun y0 y1 y6 y14 h => K (.exit 0) (act 54 [(0, y0), (1, y1), (6, y6), (14, y14)]) h) (fun y4 y5 h => K .ret (act 54 [(4, y4), (5, y5)]) h) := by
      rw [show act 54 [(0, x0), (1, x1), (6, x6)] = act 54 [(0, x0), (1, x1), (6, x6), (7, unk), (9, unk), (45, unk)] from by kernel_rfl]; exact F48_llrr_eq ..
theorem r48_10  : kCode env 48 false inv k (cp c48 30) (act 54 [(0, x0), (1, x1), (6, x6), (14, x14)]) h K =
    K .normal (act 54 [(4, x6), (5, (.bool true))]) h := kq_reg
theorem res48_0 : resOfFn env.P 48 .ret (act 54 [(4, x4), (5, x5)]) h = some (.tuple #[x4, x5], h) := kq_res
/-- shadowbook/shadowbookref06.runs -/
noncomputable def F48 (inv : Inv) (k : Nat) (x0 x1 : Value) (h : AH) : Option (Value × AH) :=
    F48_llrr inv k k x0 x1 (.slice none 0 0) unk unk unk h
    (fun y0 y1 y6 y14 h =>
    some (.tuple #[y6, (.bool true)], h))
    (fun y4 y5 h_2 =>
    some (.tuple #[y4, y5], h_2))
theorem F48_eq : eFun env k inv 48 #[x0, x1] h = F48 inv k x0 x1 h := by
      refine (kq_fun (a := act 54 [(0, x0), (1, x1)]) (c := cp c48 1)).trans ?_
      unfold F48
      simp only [kq_seq c48 1, r48_0, kq_seq c48 3, r48_1, kq_seq c48 7, kq_block c48 14 0, F48_llrr_eq_7_9_45, kq_seq c48 15, r48_10, kq_ret c48 31, res48_0, reduceIte, reduceCtorEq, XE.exit.injEq, Nat.reduceEqDiff, Nat.reduceMul, Nat.reduceAdd] <;> kernel_rfl
theorem F48_call : eInv env (k + 1) (.func 48) #[] #[x0, x1] h = F48 (eInv env k) k x0 x1 h := kq_inv F48_eq
noncomputable def c49 : Code := codeOf Try.prog 49
theorem r49_0  : kCode env 49 false inv k (cp c49 2) (act 81 [(0, x0), (1, x1), (2, x2)]) h K =
    K .normal (act 81 [(0, x0), (1, x1), (2, x2)]) h := kq_reg
theorem r49_1  : kCode env 49 false inv k (cp c49 12) (act 81 [(0, x0), (1, x1), (2, x2)]) h K =
    bnd (inv (.func 63) #[] #[x1, x2] h) fun x16 =>
    bnd (pUn Try.prog .not x16.1) fun x17 =>
    K .normal (act 81 [(0, x0), (1, x1), (2, x2), (17, x17)]) x16.2 := kq_reg
theorem b49_rlr  : kCode env 49 false inv k (cp c49 13) (act 81 [(0, x0), (1, x1), (2, x2), (17, x17)]) h K = brV x17 (kCode env 49 false inv k (cp c49 26) (act 81 [(0, x0), (1, x1), (2, x2), (17, x17)]) h K) (kCode env 49 false inv k (cp c49 27) (act 81 [(0, x0), (1, x1), (2, x2), (17, x17)]) h K) := kq_cond
theorem r49_2  : kCode env 49 false inv k (cp c49 52) (act 81 [(0, x0), (1, x1), (2, x2), (17, x17)]) h K =
    K .normal (act 81 [(6, (.slice none 0 0)), (7, (.int .i64 2))]) h := kq_reg
theorem res49_0 : resOfFn env.P 49 .ret (act 81 [(6, x6), (7, x7)]) h = some (.tuple #[x6, x7], h) := kq_res
theorem r49_3  : kCode env 49 false inv k (cp c49 28) (act 81 [(0, x0), (1, x1), (2, x2), (17, x17)]) h K =
    bnd (pLen Try.prog #[26] x0 h) fun x19 =>
    bnd (inv (.func 64) #[] #[x1, x2] h) fun x22 =>
    bnd (pBin Try.prog .neq 3 (.tmp 19) (.tmp 22) x19 x22.1) fun x23 =>
    K .normal (act 81 [(0, x0), (1, x1), (2, x2), (23, x23)]) x22.2 := kq_reg
theorem b49_rlrr  : kCode env 49 false inv k (cp c49 29) (act 81 [(0, x0), (1, x1), (2, x2), (23, x23)]) h K = brV x23 (kCode env 49 false inv k (cp c49 58) (act 81 [(0, x0), (1, x1), (2, x2), (23, x23)]) h K) (kCode env 49 false inv k (cp c49 59) (act 81 [(0, x0), (1, x1), (2, x2), (23, x23)]) h K) := kq_cond
theorem r49_4  : kCode env 49 false inv k (cp c49 116) (act 81 [(0, x0), (1, x1), (2, x2), (23, x23)]) h K =
    K .normal (act 81 [(6, (.slice none 0 0)), (7, (.int .i64 4))]) h := kq_reg
theorem r49_5  : kCode env 49 false inv k (cp c49 60) (act 81 [(0, x0), (1, x1), (2, x2), (23, x23)]) h K =
    bnd (pBin Try.prog .mul 3 (.tmp 24) (.tmp 25) x1 x2) fun x26 =>
    K .normal (act 81 [(0, x0), (1, x1), (2, x2), (8, x26)]) h := kq_reg
theorem r49_6  : kCode env 49 false inv k (cp c49 976) (act 81 [(0, x0), (1, x1), (2, x2), (8, x8)]) h K =
    bnd (pLen Try.prog #[26] x0 h) fun x29 =>
    bnd (pBin Try.prog .mul 3 (.const (.int .i64 8)) (.tmp 29) (.int .i64 8) x29) fun x30 =>
    bnd (pBin Try.prog .lss 3 (.tmp 27) (.tmp 30) x8 x30) fun x31 =>
    K .normal (act 81 [(0, x0), (1, x1), (2, x2), (8, x8), (31, x31)]) h := kq_reg
theorem b49_rlllrlrrr  : kCode env 49 false inv k (cp c49 977) (act 81 [(0, x0), (1, x1), (2, x2), (8, x8), (31, x31)]) h K = brV x31 (kCode env 49 false inv k (cp c49 1954) (act 81 [(0, x0), (1, x1), (2, x2), (8, x8), (31, x31)]) h K) (kCode env 49 false inv k (cp c49 1955) (act 81 [(0, x0), (1, x1), (2, x2), (8, x8), (31, x31)]) h K) := kq_cond
noncomputable abbrev G49_8 {β : Type} (inv : Inv) (x0 x1 x2 x8 : Value) (h : AH) (K : Value → AH → Option β) : Option β :=
    bnd (pBin Try.prog .quo 3 (.tmp 35) (.const (.int .i64 8)) x8 (.int .i64 8)) fun x36 =>
    bnd (pIndexAddr Try.prog 26 x0 x36) fun x37 =>
    bnd (pLoad Try.prog 5 x37 h) fun x38 =>
    bnd (pBin Try.prog .rem 3 (.tmp 39) (.const (.int .i64 8)) x8 (.int .i64 8)) fun x40 =>
    bnd (pConv Try.prog 3 76 x40 h) fun x41 =>
    bnd (pBin Try.prog .shr 5 (.tmp 38) (.tmp 41) x38 x41) fun x42 =>
    bnd (pBin Try.prog .rem 5 (.tmp 42) (.const (.int .u8 2)) x42 (.int .u8 2)) fun x43 =>
    bnd (pBin Try.prog .eql 5 (.tmp 43) (.const (.int .u8 1)) x43 (.int .u8 1)) fun x44 =>
    K (x44) h
theorem r49_8  : kCode env 49 false inv k (cp c49 3912) (act 81 [(0, x0), (1, x1), (2, x2), (8, x8), (31, x31)]) h K =
    G49_8 inv x0 x1 x2 x8 h fun y44 h => K .normal (act 81 [(0, x0), (1, x1), (2, x2), (8, x8), (44, y44)]) h := kq_reg
theorem b49_rllrllrlrrr  : kCode env 49 false inv k (cp c49 3913) (act 81 [(0, x0), (1, x1), (2, x2), (8, x8), (44, x44)]) h K = brV x44 (kCode env 49 false inv k (cp c49 7826) (act 81 [(0, x0), (1, x1), (2, x2), (8, x8), (44, x44)]) h K) (kCode env 49 false inv k (cp c49 7827) (act 81 [(0, x0), (1, x1), (2, x2), (8, x8), (44, x44)]) h K) := kq_cond
theorem r49_9  : kCode env 49 false inv k (cp c49 15652) (act 81 [(0, x0), (1, x1), (2, x2), (8, x8), (44, x44)]) h K =
    K .normal (act 81 [(6, (.slice none 0 0)), (7, (.int .i64 4))]) h := kq_reg
theorem r49_7  : kCode env 49 false inv k (cp c49 979) (act 81 [(0, x0), (1, x1), (2, x2), (8, x8), (44, x44)]) h K =
    bnd (pBin Try.prog .add 3 (.tmp 32) (.const (.int .i64 1)) x8 (.int .i64 1)) fun x33 =>
    K .normal (act 81 [(0, x0), (1, x1), (2, x2), (8, x33)]) h := kq_reg
noncomputable def F49_lrlrrr {β : Type} (inv : Inv) (k : Nat) : Nat → Value → Value → Value → Value → AH → (Value → Value → Value → Value → Value → AH → Option β) → (Value → Value → AH → Option β) → Option β
  | 0, _, _, _, _, _, _, _ => none
  | j + 1, x0, x1, x2, x8, h, ke0, kr =>
    bnd (pLen Try.prog #[26] x0 h) fun x29 =>
    bnd (pBin Try.prog .mul 3 (.const (.int .i64 8)) (.tmp 29) (.int .i64 8) x29) fun x30 =>
    bnd (pBin Try.prog .lss 3 (.tmp 27) (.tmp 30) x8 x30) fun x31 =>
    brV x31
    (G49_8 inv x0 x1 x2 x8 h fun y44 h =>
    brV y44
    (kr (.slice none 0 0) (.int .i64 4) h)
    (bnd (pBin Try.prog .add 3 (.tmp 32) (.const (.int .i64 1)) x8 (.int .i64 1)) fun x33 =>
    F49_lrlrrr inv k j x0 x1 x2 x33 h ke0 kr))
    (ke0 x0 x1 x2 x8 x31 h)
theorem F49_lrlrrr_j (j : Nat) : kLoop (kCode env 49 false inv k (cp c49 244)) j (act 81 [(0, x0), (1, x1), (2, x2), (8, x8)]) h K = F49_lrlrrr inv k j x0 x1 x2 x8 h (fun y0 y1 y2 y8 y31 h => K (.exit 0) (act 81 [(0, y0), (1, y1), (2, y2), (8, y8), (31, y31)]) h) (fun y6 y7 h => K .ret (act 81 [(6, y6), (7, y7)]) h) := by
      induction j generalizing x0 x1 x2 x8 h with
      | zero => rfl
      | succ j ih =>
        unfold F49_lrlrrr
        simp only [kLoop, kq_seq c49 244, kq_seq c49 488, r49_6, b49_rlllrlrrr, kq_skip c49 1954, kq_seq c49 489, kq_block c49 978 1, kq_seq c49 1956, r49_8, b49_rllrllrlrrr, kq_seq c49 7826, r49_9, kq_ret c49 15653, kq_skip c49 7827, r49_7, kq_exit c49 1955 0, ih, reduceIte, reduceCtorEq, XE.exit.injEq, Nat.reduceEqDiff, Nat.reduceMul, Nat.reduceAdd] <;> kernel_rfl
theorem F49_lrlrrr_eq  : kCode env 49 false inv k (cp c49 122) (act 81 [(0, x0), (1, x1), (2, x2), (8, x8)]) h K = F49_lrlrrr inv k k x0 x1 x2 x8 h (fun y0 y1 y2 y8 y31 h => K (.exit 0) (act 81 [(0, y0), (1, y1), (2, y2), (8, y8), (31, y31)]) h) (fun y6 y7 h => K .ret (act 81 [(6, y6), (7, y7)]) h) := kq_loop (F49_lrlrrr_j k)
theorem r49_10  : kCode env 49 false inv k (cp c49 62) (act 81 [(0, x0), (1, x1), (2, x2), (8, x8), (31, x31)]) h K =
    K .normal (act 81 [(0, x0), (1, x1), (2, x2), (9, (.slice none 0 0))]) h := kq_reg
theorem r49_11  : kCode env 49 false inv k (cp c49 252) (act 81 [(0, x0), (1, x1), (2, x2), (9, x9)]) h K =
    K .normal (act 81 [(0, x0), (1, x1), (2, x2), (9, x9), (10, (.int .i64 0))]) h := kq_reg
theorem r49_12  : kCode env 49 false inv k (cp c49 4048) (act 81 [(0, x0), (1, x1), (2, x2), (9, x9), (10, x10)]) h K =
    bnd (pBin Try.prog .lss 3 (.tmp 45) (.tmp 46) x10 x1) fun x47 =>
    K .normal (act 81 [(0, x0), (1, x1), (2, x2), (9, x9), (10, x10), (47, x47)]) h := kq_reg
theorem b49_rlllrlrrrrr  : kCode env 49 false inv k (cp c49 4049) (act 81 [(0, x0), (1, x1), (2, x2), (9, x9), (10, x10), (47, x47)]) h K = brV x47 (kCode env 49 false inv k (cp c49 8098) (act 81 [(0, x0), (1, x1), (2, x2), (9, x9), (10, x10), (47, x47)]) h K) (kCode env 49 false inv k (cp c49 8099) (act 81 [(0, x0), (1, x1), (2, x2), (9, x9), (10, x10), (47, x47)]) h K) := kq_cond
theorem r49_14  : kCode env 49 false inv k (cp c49 16200) (act 81 [(0, x0), (1, x1), (2, x2), (9, x9), (10, x10), (47, x47)]) h K =
    K .normal (act 81 [(0, x0), (1, x1), (2, x2), (9, x9), (10, x10), (11, (.int .u64 0))]) h := kq_reg
theorem r49_15  : kCode env 49 false inv k (cp c49 64804) (act 81 [(0, x0), (1, x1), (2, x2), (9, x9), (10, x10), (11, x11)]) h K =
    K .normal (act 81 [(0, x0), (1, x1), (2, x2), (9, x9), (10, x10), (11, x11), (12, (.int .i64 0))]) h := kq_reg
theorem r49_16  : kCode env 49 false inv k (cp c49 1036880) (act 81 [(0, x0), (1, x1), (2, x2), (9, x9), (10, x10), (11, x11), (12, x12)]) h K =
    bnd (pBin Try.prog .lss 3 (.tmp 50) (.tmp 51) x12 x2) fun x52 =>
    K .normal (act 81 [(0, x0), (1, x1), (2, x2), (9, x9), (10, x10), (11, x11), (12, x12), (52, x52)]) h := kq_reg
theorem b49_rlllrlrllrllrlrrrrr  : kCode env 49 false inv k (cp c49 1036881) (act 81 [(0, x0), (1, x1), (2, x2), (9, x9), (10, x10), (11, x11), (12, x12), (52, x52)]) h K = brV x52 (kCode env 49 false inv k (cp c49 2073762) (act 81 [(0, x0), (1, x1), (2, x2), (9, x9), (10, x10), (11, x11), (12, x12), (52, x52)]) h K) (kCode env 49 false inv k (cp c49 2073763) (act 81 [(0, x0), (1, x1), (2, x2), (9, x9), (10, x10), (11, x11), (12, x12), (52, x52)]) h K) := kq_cond
theorem r49_18  : kCode env 49 false inv k (cp c49 4147528) (act 81 [(0, x0), (1, x1), (2, x2), (9, x9), (10, x10), (11, x11), (12, x12), (52, x52)]) h K =
    bnd (pBin Try.prog .mul 3 (.tmp 55) (.tmp 56) x10 x2) fun x57 =>
    bnd (pBin Try.prog .add 3 (.tmp 57) (.tmp 58) x57 x12) fun x59 =>
    K .normal (act 81 [(0, x0), (1, x1), (2, x2), (9, x9), (10, x10), (11, x11), (12, x12), (13, x59)]) h := kq_reg
noncomputable abbrev G49_19 {β : Type} (inv : Inv) (x0 x1 x2 x9 x10 x11 x12 x13 : Value) (h : AH) (K : Value → AH → Option β) : Option β :=
    bnd (pBin Try.prog .quo 3 (.tmp 62) (.const (.int .i64 8)) x13 (.int .i64 8)) fun x63 =>
    bnd (pIndexAddr Try.prog 26 x0 x63) fun x64 =>
    bnd (pLoad Try.prog 5 x64 h) fun x65 =>
    bnd (pBin Try.prog .rem 3 (.tmp 66) (.const (.int .i64 8)) x13 (.int .i64 8)) fun x67 =>
    bnd (pConv Try.prog 3 76 x67 h) fun x68 =>
    bnd (pBin Try.prog .shr 5 (.tmp 65) (.tmp 68) x65 x68) fun x69 =>
    bnd (pBin Try.prog .rem 5 (.tmp 69) (.const (.int .u8 2)) x69 (.int .u8 2)) fun x70 =>
    bnd (pConv Try.prog 5 51 x70 h) fun x71 =>
    bnd (pConv Try.prog 3 76 x12 h) fun x73 =>
    bnd (pBin Try.prog .shl 51 (.tmp 71) (.tmp 73) x71 x73) fun x74 =>
    bnd (pBin Try.prog .or 51 (.tmp 60) (.tmp 74) x11 x74) fun x75 =>
    K (x75) h
theorem r49_19  : kCode env 49 false inv k (cp c49 4147529) (act 81 [(0, x0), (1, x1), (2, x2), (9, x9), (10, x10), (11, x11), (12, x12), (13, x13)]) h K =
    G49_19 inv x0 x1 x2 x9 x10 x11 x12 x13 h fun y11 h => K .normal (act 81 [(0, x0), (1, x1), (2, x2), (9, x9), (10, x10), (11, y11), (12, x12)]) h := kq_reg
theorem r49_17  : kCode env 49 false inv k (cp c49 1036883) (act 81 [(0, x0), (1, x1), (2, x2), (9, x9), (10, x10), (11, x11), (12, x12)]) h K =
    bnd (pBin Try.prog .add 3 (.tmp 53) (.const (.int .i64 1)) x12 (.int .i64 1)) fun x54 =>
    K .normal (act 81 [(0, x0), (1, x1), (2, x2), (9, x9), (10, x10), (11, x11), (12, x54)]) h := kq_reg
noncomputable def F49_lrlrllrllrlrrrrr {β : Type} (inv : Inv) (k : Nat) : Nat → Value → Value → Value → Value → Value → Value → Value → AH → (Value → Value → Value → Value → Value → Value → Value → Value → AH → Option β) → Option β
  | 0, _, _, _, _, _, _, _, _, _ => none
  | j + 1, x0, x1, x2, x9, x10, x11, x12, h, ke4 =>
    bnd (pBin Try.prog .lss 3 (.tmp 50) (.tmp 51) x12 x2) fun x52 =>
    brV x52
    (bnd (pBin Try.prog .mul 3 (.tmp 55) (.tmp 56) x10 x2) fun x57 =>
    bnd (pBin Try.prog .add 3 (.tmp 57) (.tmp 58) x57 x12) fun x59 =>
    G49_19 inv x0 x1 x2 x9 x10 x11 x12 x59 h fun y11 h =>
    bnd (pBin Try.prog .add 3 (.tmp 53) (.const (.int .i64 1)) x12 (.int .i64 1)) fun x54 =>
    F49_lrlrllrllrlrrrrr inv k j x0 x1 x2 x9 x10 y11 x54 h ke4)
    (ke4 x0 x1 x2 x9 x10 x11 x12 x52 h)
theorem F49_lrlrllrllrlrrrrr_j (j : Nat) : kLoop (kCode env 49 false inv k (cp c49 259220)) j (act 81 [(0, x0), (1, x1), (2, x2), (9, x9), (10, x10), (11, x11), (12, x12)]) h K = F49_lrlrllrllrlrrrrr inv k j x0 x1 x2 x9 x10 x11 x12 h (fun y0 y1 y2 y9 y10 y11 y12 y52 h => K (.exit 4) (act 81 [(0, y0), (1, y1), (2, y2), (9, y9), (10, y10), (11, y11), (12, y12), (52, y52)]) h) := by
      induction j generalizing x0 x1 x2 x9 x10 x11 x12 h with
      | zero => rfl
      | succ j ih =>
        unfold F49_lrlrllrllrlrrrrr
        simp only [kLoop, kq_seq c49 259220, kq_seq c49 518440, r49_16, b49_rlllrlrllrllrlrrrrr, kq_skip c49 2073762, kq_seq c49 518441, kq_block c49 1036882 5, kq_seq c49 2073764, r49_18, r49_19, r49_17, kq_exit c49 2073763 4, ih, reduceIte, reduceCtorEq, XE.exit.injEq, Nat.reduceEqDiff, Nat.reduceMul, Nat.reduceAdd] <;> kernel_rfl
theorem F49_lrlrllrllrlrrrrr_eq  : kCode env 49 false inv k (cp c49 129610) (act 81 [(0, x0), (1, x1), (2, x2), (9, x9), (10, x10), (11, x11), (12, x12)]) h K = F49_lrlrllrllrlrrrrr inv k k x0 x1 x2 x9 x10 x11 x12 h (fun y0 y1 y2 y9 y10 y11 y12 y52 h => K (.exit 4) (act 81 [(0, y0), (1, y1), (2, y2), (9, y9), (10, y10), (11, y11), (12, y12), (52, y52)]) h) := kq_loop (F49_lrlrllrllrlrrrrr_j k)
theorem r49_20  : kCode env 49 false inv k (cp c49 32403) (act 81 [(0, x0), (1, x1), (2, x2), (9, x9), (10, x10), (11, x11), (12, x12), (52, x52)]) h K =
    bnd (pBuildSlice Try.prog 50 1 #[(0, x11)] h) fun x78 =>
    bnd (pAppend Try.prog #[50, 50] x9 x78.1 x78.2) fun x79 =>
    K .normal (act 81 [(0, x0), (1, x1), (2, x2), (9, x79.1), (10, x10)]) x79.2 := kq_reg
theorem r49_13  : kCode env 49 false inv k (cp c49 4051) (act 81 [(0, x0), (1, x1), (2, x2), (9, x9), (10, x10)]) h K =
    bnd (pBin Try.prog .add 3 (.tmp 48) (.const (.int .i64 1)) x10 (.int .i64 1)) fun x49 =>
    K .normal (act 81 [(0, x0), (1, x1), (2, x2), (9, x9), (10, x49)]) h := kq_reg
noncomputable def F49_lrlrrrrr {β : Type} (inv : Inv) (k : Nat) : Nat → Value → Value → Value → Value → Value → AH → (Value → Value → Value → Value → Value → Value → AH → Option β) → Option β
  | 0, _, _, _, _, _, _, _ => none
  | j + 1, x0, x1, x2, x9, x10, h, ke2 =>
    bnd (pBin Try.prog .lss 3 (.tmp 45) (.tmp 46) x10 x1) fun x47 =>
    brV x47
    (F49_lrlrllrllrlrrrrr inv k k x0 x1 x2 x9 x10 (.int .u64 0) (.int .i64 0) h
    (fun y0 y1 y2 y9 y10 y11 y12 y52 h =>
    bnd (pBuildSlice Try.prog 50 1 #[(0, y11)] h) fun x78 =>
    bnd (pAppend Try.prog #[50, 50] y9 x78.1 x78.2) fun x79 =>
    bnd (pBin Try.prog .add 3 (.tmp 48) (.const (.int .i64 1)) y10 (.int .i64 1)) fun x49 =>
    F49_lrlrrrrr inv k j y0 y1 y2 x79.1 x49 x79.2 ke2))
    (ke2 x0 x1 x2 x9 x10 x47 h)
theorem F49_lrlrrrrr_j (j : Nat) : kLoop (kCode env 49 false inv k (cp c49 1012)) j (act 81 [(0, x0), (1, x1), (2, x2), (9, x9), (10, x10)]) h K = F49_lrlrrrrr inv k j x0 x1 x2 x9 x10 h (fun y0 y1 y2 y9 y10 y47 h => K (.exit 2) (act 81 [(0, y0), (1, y1), (2, y2), (9, y9), (10, y10), (47, y47)]) h) := by
      induction j generalizing x0 x1 x2 x9 x10 h with
      | zero => rfl
      | succ j ih =>
        unfold F49_lrlrrrrr
        simp only [kLoop, kq_seq c49 1012, kq_seq c49 2024, r49_12, b49_rlllrlrrrrr, kq_skip c49 8098, kq_seq c49 2025, kq_block c49 4050 3, kq_seq c49 8100, r49_14, kq_seq c49 16201, kq_seq c49 32402, r49_15, kq_block c49 64805 4, F49_lrlrllrllrlrrrrr_eq, r49_20, r49_13, kq_exit c49 8099 2, ih, reduceIte, reduceCtorEq, XE.exit.injEq, Nat.reduceEqDiff, Nat.reduceMul, Nat.reduceAdd] <;> kernel_rfl
theorem F49_lrlrrrrr_eq  : kCode env 49 false inv k (cp c49 506) (act 81 [(0, x0), (1, x1), (2, x2), (9, x9), (10, x10)]) h K = F49_lrlrrrrr inv k k x0 x1 x2 x9 x10 h (fun y0 y1 y2 y9 y10 y47 h => K (.exit 2) (act 81 [(0, y0), (1, y1), (2, y2), (9, y9), (10, y10), (47, y47)]) h) := kq_loop (F49_lrlrrrrr_j k)
theorem r49_21  : kCode env 49 false inv k (cp c49 254) (act 81 [(0, x0), (1, x1), (2, x2), (9, x9), (10, x10), (47, x47)]) h K =
    K .normal (act 81 [(6, x9), (7, (.int .i64 0))]) h := kq_reg
/-- shadowbook/shadowbookref05.Get -/
noncomputable def F49 (inv : Inv) (k : Nat) (x0 x1 x2 : Value) (h : AH) : Option (Value × AH) :=
    bnd (inv (.func 63) #[] #[x1, x2] h) fun x16 =>
    bnd (pUn Try.prog .not x16.1) fun x17 =>
    brV x17
    (some (.tuple #[(.slice none 0 0), (.int .i64 2)], x16.2))
    (bnd (pLen Try.prog #[26] x0 x16.2) fun x19 =>
    bnd (inv (.func 64) #[] #[x1, x2] x16.2) fun x22 =>
    bnd (pBin Try.prog .neq 3 (.tmp 19) (.tmp 22) x19 x22.1) fun x23 =>
    brV x23
    (some (.tuple #[(.slice none 0 0), (.int .i64 4)], x22.2))
    (bnd (pBin Try.prog .mul 3 (.tmp 24) (.tmp 25) x1 x2) fun x26 =>
    F49_lrlrrr inv k k x0 x1 x2 x26 x22.2
    (fun y0 y1 y2 y8 y31 h =>
    F49_lrlrrrrr inv k k y0 y1 y2 (.slice none 0 0) (.int .i64 0) h
    (fun y0_1 y1_2 y2_3 y9 y10 y47 h_4 =>
    some (.tuple #[y9, (.int .i64 0)], h_4)))
    (fun y6 y7 h_5 =>
    some (.tuple #[y6, y7], h_5))))
theorem F49_eq : eFun env k inv 49 #[x0, x1, x2] h = F49 inv k x0 x1 x2 h := by
      refine (kq_fun (a := act 81 [(0, x0), (1, x1), (2, x2)]) (c := cp c49 1)).trans ?_
      unfold F49
      simp only [kq_seq c49 1, r49_0, kq_seq c49 3, kq_seq c49 6, r49_1, b49_rlr, kq_seq c49 26, r49_2, kq_ret c49 53, res49_0, kq_skip c49 27, kq_seq c49 7, kq_seq c49 14, r49_3, b49_rlrr, kq_seq c49 58, r49_4, kq_ret c49 117, kq_skip c49 59, kq_seq c49 15, kq_seq c49 30, r49_5, kq_block c49 61 0, F49_lrlrrr_eq, kq_seq c49 31, r49_10, kq_seq c49 63, kq_seq c49 126, r49_11, kq_block c49 253 2, F49_lrlrrrrr_eq, kq_seq c49 127, r49_21, kq_ret c49 255, reduceIte, reduceCtorEq, XE.exit.injEq, Nat.reduceEqDiff, Nat.reduceMul, Nat.reduceAdd] <;> kernel_rfl
theorem F49_call : eInv env (k + 1) (.func 49) #[] #[x0, x1, x2] h = F49 (eInv env k) k x0 x1 x2 h := kq_inv F49_eq
noncomputable def c50 : Code := codeOf Try.prog 50
theorem r50_0  : kCode env 50 false inv k (cp c50 2) (act 26 [(0, x0), (1, x1)]) h K =
    K .normal (act 26 [(0, x0), (1, x1), (4, (.slice none 0 0))]) h := kq_reg
theorem r50_1  : kCode env 50 false inv k (cp c50 12) (act 26 [(0, x0), (1, x1), (4, x4)]) h K =
    K .normal (act 26 [(0, x0), (4, x4), (8, x1), (9, (.int .i64 0))]) h := kq_reg
theorem r50_2  : kCode env 50 false inv k (cp c50 104) (act 26 [(0, x0), (4, x4), (8, x8), (9, x9)]) h K =
    bnd (pBin Try.prog .lss 3 (.tmp 9) (.tmp 8) x9 x8) fun x10 =>
    K .normal (act 26 [(0, x0), (4, x4), (8, x8), (9, x9), (10, x10)]) h := kq_reg
theorem b50_lrllrlr  : kCode env 50 false inv k (cp c50 210) (act 26 [(0, x0), (4, x4), (8, x8), (9, x9), (10, x10)]) h K = brV x10 (kCode env 50 false inv k (cp c50 420) (act 26 [(0, x0), (4, x4), (8, x8), (9, x9), (10, x10)]) h K) (kCode env 50 false inv k (cp c50 421) (act 26 [(0, x0), (4, x4), (8, x8), (9, x9), (10, x10)]) h K) := kq_cond
theorem r50_3  : kCode env 50 false inv k (cp c50 1688) (act 26 [(0, x0), (4, x4), (8, x8), (9, x9), (10, x10)]) h K =
    bnd (inv (.func 35) #[] #[x0, (.int .i64 8)] h) fun x13 =>
    bnd (pExtract x13.1 0) fun x14 =>
    bnd (pExtract x13.1 1) fun x15 =>
    K .normal (act 26 [(0, x0), (4, x4), (6, x14), (7, x15), (8, x8), (9, x9)]) x13.2 := kq_reg
theorem r50_4  : kCode env 50 false inv k (cp c50 6756) (act 26 [(0, x0), (4, x4), (6, x6), (7, x7), (8, x8), (9, x9)]) h K =
    bnd (pBin Try.prog .neq 27 (.tmp 16) (.const (.int .i64 0)) x7 (.int .i64 0)) fun x17 =>
    K .normal (act 26 [(0, x0), (4, x4), (6, x6), (7, x7), (8, x8), (9, x9), (17, x17)]) h := kq_reg
theorem b50_rlrllrrllrlr  : kCode env 50 false inv k (cp c50 6757) (act 26 [(0, x0), (4, x4), (6, x6), (7, x7), (8, x8), (9, x9), (17, x17)]) h K = brV x17 (kCode env 50 false inv k (cp c50 13514) (act 26 [(0, x0), (4, x4), (6, x6), (7, x7), (8, x8), (9, x9), (17, x17)]) h K) (kCode env 50 false inv k (cp c50 13515) (act 26 [(0, x0), (4, x4), (6, x6), (7, x7), (8, x8), (9, x9), (17, x17)]) h K) := kq_cond
theorem r50_5  : kCode env 50 false inv k (cp c50 27028) (act 26 [(0, x0), (4, x4), (6, x6), (7, x7), (8, x8), (9, x9), (17, x17)]) h K =
    K .normal (act 26 [(4, (.slice none 0 0)), (5, x7)]) h := kq_reg
theorem r50_6  : kCode env 50 false inv k (cp c50 3379) (act 26 [(0, x0), (4, x4), (6, x6), (7, x7), (8, x8), (9, x9), (17, x17)]) h K =
    bnd (pConv Try.prog 51 2 x6 h) fun x21 =>
    bnd (pBuildSlice Try.prog 25 1 #[(0, x21)] h) fun x22 =>
    bnd (pAppend Try.prog #[25, 25] x4 x22.1 x22.2) fun x23 =>
    K .normal (act 26 [(0, x0), (4, x23.1), (8, x8), (9, x9)]) x23.2 := kq_reg
theorem r50_7  : kCode env 50 false inv k (cp c50 423) (act 26 [(0, x0), (4, x4), (8, x8), (9, x9)]) h K =
    bnd (pBin Try.prog .add 3 (.tmp 9) (.const (.int .i64 1)) x9 (.int .i64 1)) fun x24 =>
    K .normal (act 26 [(0, x0), (4, x4), (8, x8), (9, x24)]) h := kq_reg
noncomputable def F50_lrlr {β : Type} (inv : Inv) (k : Nat) : Nat → Value → Value → Value → Value → AH → (Value → Value → Value → Value → Value → AH → Option β) → (Value → Value → AH → Option β) → Option β
  | 0, _, _, _, _, _, _, _ => none
  | j + 1, x0, x4, x8, x9, h, ke0, kr =>
    bnd (pBin Try.prog .lss 3 (.tmp 9) (.tmp 8) x9 x8) fun x10 =>
    brV x10
    (bnd (inv (.func 35) #[] #[x0, (.int .i64 8)] h) fun x13 =>
    bnd (pExtract x13.1 0) fun x14 =>
    bnd (pExtract x13.1 1) fun x15 =>
    bnd (pBin Try.prog .neq 27 (.tmp 16) (.const (.int .i64 0)) x15 (.int .i64 0)) fun x17 =>
    brV x17
    (kr (.slice none 0 0) x15 x13.2)
    (bnd (pConv Try.prog 51 2 x14 x13.2) fun x21 =>
    bnd (pBuildSlice Try.prog 25 1 #[(0, x21)] x13.2) fun x22 =>
    bnd (pAppend Try.prog #[25, 25] x4 x22.1 x22.2) fun x23 =>
    bnd (pBin Try.prog .add 3 (.tmp 9) (.const (.int .i64 1)) x9 (.int .i64 1)) fun x24 =>
    F50_lrlr inv k j x0 x23.1 x8 x24 x23.2 ke0 kr))
    (ke0 x0 x4 x8 x9 x10 h)
theorem F50_lrlr_j (j : Nat) : kLoop (kCode env 50 false inv k (cp c50 52)) j (act 26 [(0, x0), (4, x4), (8, x8), (9, x9)]) h K = F50_lrlr inv k j x0 x4 x8 x9 h (fun y0 y4 y8 y9 y10 h => K (.exit 0) (act 26 [(0, y0), (4, y4), (8, y8), (9, y9), (10, y10)]) h) (fun y4 y5 h => K .ret (act 26 [(4, y4), (5, y5)]) h) := by
      induction j generalizing x0 x4 x8 x9 h with
      | zero => rfl
      | succ j ih =>
        unfold F50_lrlr
        simp only [kLoop, kq_seq c50 52, r50_2, kq_seq c50 105, b50_lrllrlr, kq_skip c50 420, kq_seq c50 211, kq_block c50 422 1, kq_seq c50 844, r50_3, kq_seq c50 1689, kq_seq c50 3378, r50_4, b50_rlrllrrllrlr, kq_seq c50 13514, r50_5, kq_ret c50 27029, kq_skip c50 13515, r50_6, r50_7, kq_exit c50 421 0, ih, reduceIte, reduceCtorEq, XE.exit.injEq, Nat.reduceEqDiff, Nat.reduceMul, Nat.reduceAdd] <;> kernel_rfl
theorem F50_lrlr_eq  : kCode env 50 false inv k (cp c50 26) (act 26 [(0, x0), (4, x4), (8, x8), (9, x9)]) h K = F50_lrlr inv k k x0 x4 x8 x9 h (fun y0 y4 y8 y9 y10 h => K (.exit 0) (act 26 [(0, y0), (4, y4), (8, y8), (9, y9), (10, y10)]) h) (fun y4 y5 h => K .ret (act 26 [(4, y4), (5, y5)]) h) := kq_loop (F50_lrlr_j k)
theorem r50_8  : kCode env 50 false inv k (cp c50 14) (act 26 [(0, x0), (4, x4), (8, x8), (9, x9), (10, x10)]) h K =
    K .normal (act 26 [(4, x4), (5, (.int .i64 0))]) h := kq_reg
theorem res50_0 : resOfFn env.P 50 .ret (act 26 [(4, x4), (5, x5)]) h = some (.tuple #[x4, x5], h) := kq_res
/-- shadowbook/ints.plain -/
noncomputable def F50 (inv : Inv) (k : Nat) (x0 x1 : Value) (h : AH) : Option (Value × AH) :=
    F50_lrlr inv k k x0 (.slice none 0 0) x1 (.int .i64 0) h
    (fun y0 y4 y8 y9 y10 h =>
    some (.tuple #[y4, (.int .i64 0)], h))
    (fun y4_1 y5 h_2 =>
    some (.tuple #[y4_1, y5], h_2))
theorem F50_eq : eFun env k inv 50 #[x0, x1] h = F50 inv k x0 x1 h := by
      refine (kq_fun (a := act 26 [(0, x0), (1, x1)]) (c := cp c50 1)).trans ?_
      unfold F50
      simp only [kq_seq c50 1, r50_0, kq_seq c50 3, kq_seq c50 6, r50_1, kq_block c50 13 0, F50_lrlr_eq, kq_seq c50 7, r50_8, kq_ret c50 15, res50_0, reduceIte, reduceCtorEq, XE.exit.injEq, Nat.reduceEqDiff, Nat.reduceMul, Nat.reduceAdd] <;> kernel_rfl
theorem F50_call : eInv env (k + 1) (.func 50) #[] #[x0, x1] h = F50 (eInv env k) k x0 x1 h := kq_inv F50_eq
noncomputable def c51 : Code := codeOf Try.prog 51
theorem r51_0  : kCode env 51 false inv k (cp c51 2) (act 50 [(0, x0), (1, x1)]) h K =
    K .normal (act 50 [(0, x0), (1, x1), (4, (.slice none 0 0))]) h := kq_reg
theorem r51_1  : kCode env 51 false inv k (cp c51 96) (act 50 [(0, x0), (1, x1), (4, x4)]) h K =
    bnd (pLen Try.prog #[25] x4 h) fun x10 =>
    bnd (pBin Try.prog .lss 3 (.tmp 10) (.tmp 11) x10 x1) fun x12 =>
    K .normal (act 50 [(0, x0), (1, x1), (4, x4), (12, x12)]) h := kq_reg
theorem b51_rllllr  : kCode env 51 false inv k (cp c51 97) (act 50 [(0, x0), (1, x1), (4, x4), (12, x12)]) h K = brV x12 (kCode env 51 false inv k (cp c51 194) (act 50 [(0, x0), (1, x1), (4, x4), (12, x12)]) h K) (kCode env 51 false inv k (cp c51 195) (act 50 [(0, x0), (1, x1), (4, x4), (12, x12)]) h K) := kq_cond
theorem r51_2  : kCode env 51 false inv k (cp c51 196) (act 50 [(0, x0), (1, x1), (4, x4), (12, x12)]) h K =
    bnd (inv (.func 36) #[] #[x0] h) fun x15 =>
    bnd (pExtract x15.1 0) fun x16 =>
    bnd (pExtract x15.1 1) fun x17 =>
    K .normal (act 50 [(0, x0), (1, x1), (4, x4), (6, x16), (7, x17)]) x15.2 := kq_reg
theorem r51_3  : kCode env 51 false inv k (cp c51 788) (act 50 [(0, x0), (1, x1), (4, x4), (6, x6), (7, x7)]) h K =
    bnd (pBin Try.prog .neq 27 (.tmp 18) (.const (.int .i64 0)) x7 (.int .i64 0)) fun x19 =>
    K .normal (act 50 [(0, x0), (1, x1), (4, x4), (6, x6), (7, x7), (19, x19)]) h := kq_reg
theorem b51_rlrlrlllr  : kCode env 51 false inv k (cp c51 789) (act 50 [(0, x0), (1, x1), (4, x4), (6, x6), (7, x7), (19, x19)]) h K = brV x19 (kCode env 51 false inv k (cp c51 1578) (act 50 [(0, x0), (1, x1), (4, x4), (6, x6), (7, x7), (19, x19)]) h K) (kCode env 51 false inv k (cp c51 1579) (act 50 [(0, x0), (1, x1), (4, x4), (6, x6), (7, x7), (19, x19)]) h K) := kq_cond
theorem r51_4  : kCode env 51 false inv k (cp c51 3156) (act 50 [(0, x0), (1, x1), (4, x4), (6, x6), (7, x7), (19, x19)]) h K =
    K .normal (act 50 [(4, (.slice none 0 0)), (5, x7)]) h := kq_reg
theorem r51_5  : kCode env 51 false inv k (cp c51 790) (act 50 [(0, x0), (1, x1), (4, x4), (6, x6), (7, x7), (19, x19)]) h K =
    bnd (inv (.func 35) #[] #[x0, (.int .i64 8)] h) fun x23 =>
    bnd (pExtract x23.1 0) fun x24 =>
    bnd (pExtract x23.1 1) fun x25 =>
    K .normal (act 50 [(0, x0), (1, x1), (4, x4), (6, x6), (7, x25), (8, x24)]) x23.2 := kq_reg
noncomputable abbrev G51_6 {β : Type} (inv : Inv) (x0 x1 x4 x6 x7 x8 : Value) (h : AH) (K : Value → AH → Option β) : Option β :=
    bnd (pBin Try.prog .neq 27 (.tmp 26) (.const (.int .i64 0)) x7 (.int .i64 0)) fun x27 =>
    bnd (gd (some x27) false h (some (x6, h))) fun x29 =>
    bnd (gd (some x27) false x29.2 (lt (pBin Try.prog .lss 51 (.tmp 29) (.const (.int .u64 1)) x29.1 (.int .u64 1)) x29.2)) fun x30 =>
    bnd (pickV x27 (.bool true) x30.1) fun x31 =>
    bnd (gd (some x31) false x30.2 (some (x6, x30.2))) fun x33 =>
    bnd (gd (some x31) false x33.2 (some (x1, x33.2))) fun x34 =>
    bnd (gd (some x31) false x34.2 (some (x4, x34.2))) fun x35 =>
    bnd (gd (some x31) false x35.2 (lt (pLen Try.prog #[25] x35.1 x35.2) x35.2)) fun x36 =>
    bnd (gd (some x31) false x36.2 (lt (pBin Try.prog .sub 3 (.tmp 34) (.tmp 36) x34.1 x36.1) x36.2)) fun x37 =>
    bnd (gd (some x31) false x37.2 (lt (pConv Try.prog 3 51 x37.1 x37.2) x37.2)) fun x38 =>
    bnd (gd (some x31) false x38.2 (lt (pBin Try.prog .gtr 51 (.tmp 33) (.tmp 38) x33.1 x38.1) x38.2)) fun x39 =>
    bnd (pickV x31 (.bool true) x39.1) fun x40 =>
    K (x40) x39.2
theorem r51_6  : kCode env 51 false inv k (cp c51 3164) (act 50 [(0, x0), (1, x1), (4, x4), (6, x6), (7, x7), (8, x8)]) h K =
    G51_6 inv x0 x1 x4 x6 x7 x8 h fun y40 h => K .normal (act 50 [(0, x0), (1, x1), (4, x4), (6, x6), (8, x8), (40, y40)]) h := kq_reg
theorem b51_rlrrrlrlllr  : kCode env 51 false inv k (cp c51 3165) (act 50 [(0, x0), (1, x1), (4, x4), (6, x6), (8, x8), (40, x40)]) h K = brV x40 (kCode env 51 false inv k (cp c51 6330) (act 50 [(0, x0), (1, x1), (4, x4), (6, x6), (8, x8), (40, x40)]) h K) (kCode env 51 false inv k (cp c51 6331) (act 50 [(0, x0), (1, x1), (4, x4), (6, x6), (8, x8), (40, x40)]) h K) := kq_cond
theorem r51_7  : kCode env 51 false inv k (cp c51 12660) (act 50 [(0, x0), (1, x1), (4, x4), (6, x6), (8, x8), (40, x40)]) h K =
    K .normal (act 50 [(4, (.slice none 0 0)), (5, (.int .i64 4))]) h := kq_reg
theorem r51_8  : kCode env 51 false inv k (cp c51 1583) (act 50 [(0, x0), (1, x1), (4, x4), (6, x6), (8, x8), (40, x40)]) h K =
    bnd (pConv Try.prog 51 2 x8 h) fun x43 =>
    bnd (pBuildSlice Try.prog 25 1 #[(0, x43)] h) fun x44 =>
    bnd (pConv Try.prog 51 3 x6 x44.2) fun x46 =>
    bnd (inv (.func 66) #[] #[x44.1, x46] x44.2) fun x47 =>
    bnd (pAppend Try.prog #[25, 25] x4 x47.1 x47.2) fun x48 =>
    K .normal (act 50 [(0, x0), (1, x1), (4, x48.1)]) x48.2 := kq_reg
noncomputable def F51_llr {β : Type} (inv : Inv) (k : Nat) : Nat → Value → Value → Value → AH → (Value → Value → Value → Value → AH → Option β) → (Value → Value → AH → Option β) → Option β
  | 0, _, _, _, _, _, _ => none
  | j + 1, x0, x1, x4, h, ke0, kr =>
    bnd (pLen Try.prog #[25] x4 h) fun x10 =>
    bnd (pBin Try.prog .lss 3 (.tmp 10) (.tmp 11) x10 x1) fun x12 =>
    brV x12
    (bnd (inv (.func 36) #[] #[x0] h) fun x15 =>
    bnd (pExtract x15.1 0) fun x16 =>
    bnd (pExtract x15.1 1) fun x17 =>
    bnd (pBin Try.prog .neq 27 (.tmp 18) (.const (.int .i64 0)) x17 (.int .i64 0)) fun x19 =>
    brV x19
    (kr (.slice none 0 0) x17 x15.2)
    (bnd (inv (.func 35) #[] #[x0, (.int .i64 8)] x15.2) fun x23 =>
    bnd (pExtract x23.1 0) fun x24 =>
    bnd (pExtract x23.1 1) fun x25 =>
    G51_6 inv x0 x1 x4 x16 x25 x24 x23.2 fun y40 h =>
    brV y40
    (kr (.slice none 0 0) (.int .i64 4) h)
    (bnd (pConv Try.prog 51 2 x24 h) fun x43 =>
    bnd (pBuildSlice Try.prog 25 1 #[(0, x43)] h) fun x44 =>
    bnd (pConv Try.prog 51 3 x16 x44.2) fun x46 =>
    bnd (inv (.func 66) #[] #[x44.1, x46] x44.2) fun x47 =>
    bnd (pAppend Try.prog #[25, 25] x4 x47.1 x47.2) fun x48 =>
    F51_llr inv k j x0 x1 x48.1 x48.2 ke0 kr)))
    (ke0 x0 x1 x4 x12 h)
theorem F51_llr_j (j : Nat) : kLoop (kCode env 51 false inv k (cp c51 24)) j (act 50 [(0, x0), (1, x1), (4, x4)]) h K = F51_llr inv k j x0 x1 x4 h (fun y0 y1 y4 y12 h => K (.exit 0) (act 50 [(0, y0), (1, y1), (4, y4), (12, y12)]) h) (fun y4 y5 h => K .ret (act 50 [(4, y4), (5, y5)]) h) := by
      induction j generalizing x0 x1 x4 h with
      | zero => rfl
      | succ j ih =>
        unfold F51_llr
        simp only [kLoop, kq_seq c51 24, kq_seq c51 48, r51_1, b51_rllllr, kq_skip c51 194, kq_block c51 49 1, kq_seq c51 98, r51_2, kq_seq c51 197, kq_seq c51 394, r51_3, b51_rlrlrlllr, kq_seq c51 1578, r51_4, kq_ret c51 3157, kq_skip c51 1579, kq_seq c51 395, r51_5, kq_seq c51 791, kq_seq c51 1582, r51_6, b51_rlrrrlrlllr, kq_seq c51 6330, r51_7, kq_ret c51 12661, kq_skip c51 6331, r51_8, kq_exit c51 195 0, ih, reduceIte, reduceCtorEq, XE.exit.injEq, Nat.reduceEqDiff, Nat.reduceMul, Nat.reduceAdd] <;> kernel_rfl
theorem F51_llr_eq  : kCode env 51 false inv k (cp c51 12) (act 50 [(0, x0), (1, x1), (4, x4)]) h K = F51_llr inv k k x0 x1 x4 h (fun y0 y1 y4 y12 h => K (.exit 0) (act 50 [(0, y0), (1, y1), (4, y4), (12, y12)]) h) (fun y4 y5 h => K .ret (act 50 [(4, y4), (5, y5)]) h) := kq_loop (F51_llr_j k)
theorem r51_9  : kCode env 51 false inv k (cp c51 14) (act 50 [(0, x0), (1, x1), (4, x4), (12, x12)]) h K =
    K .normal (act 50 [(4, x4), (5, (.int .i64 0))]) h := kq_reg
theorem res51_0 : resOfFn env.P 51 .ret (act 50 [(4, x4), (5, x5)]) h = some (.tuple #[x4, x5], h) := kq_res
/-- shadowbook/ints.runs -/
noncomputable def F51 (inv : Inv) (k : Nat) (x0 x1 : Value) (h : AH) : Option (Value × AH) :=
    F51_llr inv k k x0 x1 (.slice none 0 0) h
    (fun y0 y1 y4 y12 h =>
    some (.tuple #[y4, (.int .i64 0)], h))
    (fun y4_1 y5 h_2 =>
    some (.tuple #[y4_1, y5], h_2))
theorem F51_eq : eFun env k inv 51 #[x0, x1] h = F51 inv k x0 x1 h := by
      refine (kq_fun (a := act 50 [(0, x0), (1, x1)]) (c := cp c51 1)).trans ?_
      unfold F51
      simp only [kq_seq c51 1, r51_0, kq_seq c51 3, kq_block c51 6 0, F51_llr_eq, kq_seq c51 7, r51_9, kq_ret c51 15, res51_0, reduceIte, reduceCtorEq, XE.exit.injEq, Nat.reduceEqDiff, Nat.reduceMul, Nat.reduceAdd] <;> kernel_rfl
theorem F51_call : eInv env (k + 1) (.func 51) #[] #[x0, x1] h = F51 (eInv env k) k x0 x1 h := kq_inv F51_eq
noncomputable def c52 : Code := codeOf Try.prog 52
theorem r52_0  : kCode env 52 false inv k (cp c52 2) (act 62 [(0, x0), (1, x1)]) h K =
    K .normal (act 62 [(0, x0), (1, x1), (4, (.slice none 0 0))]) h := kq_reg
theorem r52_1  : kCode env 52 false inv k (cp c52 6) (act 62 [(0, x0), (1, x1), (4, x4)]) h K =
    bnd (inv (.func 35) #[] #[x0, (.int .i64 8)] h) fun x14 =>
    bnd (pExtract x14.1 0) fun x15 =>
    bnd (pExtract x14.1 1) fun x16 =>
    K .normal (act 62 [(0, x0), (1, x1), (4, x4), (5, x16), (6, x15)]) x14.2 := kq_reg
theorem r52_2  : kCode env 52 false inv k (cp c52 28) (act 62 [(0, x0), (1, x1), (4, x4), (5, x5), (6, x6)]) h K =
    bnd (pBin Try.prog .neq 27 (.tmp 17) (.const (.int .i64 0)) x5 (.int .i64 0)) fun x18 =>
    K .normal (act 62 [(0, x0), (1, x1), (4, x4), (5, x5), (6, x6), (18, x18)]) h := kq_reg
theorem b52_rlrr  : kCode env 52 false inv k (cp c52 29) (act 62 [(0, x0), (1, x1), (4, x4), (5, x5), (6, x6), (18, x18)]) h K = brV x18 (kCode env 52 false inv k (cp c52 58) (act 62 [(0, x0), (1, x1), (4, x4), (5, x5), (6, x6), (18, x18)]) h K) (kCode env 52 false inv k (cp c52 59) (act 62 [(0, x0), (1, x1), (4, x4), (5, x5), (6, x6), (18, x18)]) h K) := kq_cond
theorem r52_3  : kCode env 52 false inv k (cp c52 116) (act 62 [(0, x0), (1, x1), (4, x4), (5, x5), (6, x6), (18, x18)]) h K =
    K .normal (act 62 [(4, (.slice none 0 0)), (5, x5)]) h := kq_reg
theorem res52_0 : resOfFn env.P 52 .ret (act 62 [(4, x4), (5, x5)]) h = some (.tuple #[x4, x5], h) := kq_res
theorem r52_4  : kCode env 52 false inv k (cp c52 30) (act 62 [(0, x0), (1, x1), (4, x4), (5, x5), (6, x6), (18, x18)]) h K =
    bnd (inv (.func 35) #[] #[x0, (.int .i64 1)] h) fun x22 =>
    bnd (pExtract x22.1 0) fun x23 =>
    bnd (pExtract x22.1 1) fun x24 =>
    K .normal (act 62 [(0, x0), (1, x1), (4, x4), (5, x24), (6, x6), (7, x23)]) x22.2 := kq_reg
theorem r52_5  : kCode env 52 false inv k (cp c52 124) (act 62 [(0, x0), (1, x1), (4, x4), (5, x5), (6, x6), (7, x7)]) h K =
    bnd (pBin Try.prog .neq 27 (.tmp 25) (.const (.int .i64 0)) x5 (.int .i64 0)) fun x26 =>
    K .normal (act 62 [(0, x0), (1, x1), (4, x4), (5, x5), (6, x6), (7, x7), (26, x26)]) h := kq_reg
theorem b52_rlrrrr  : kCode env 52 false inv k (cp c52 125) (act 62 [(0, x0), (1, x1), (4, x4), (5, x5), (6, x6), (7, x7), (26, x26)]) h K = brV x26 (kCode env 52 false inv k (cp c52 250) (act 62 [(0, x0), (1, x1), (4, x4), (5, x5), (6, x6), (7, x7), (26, x26)]) h K) (kCode env 52 false inv k (cp c52 251) (act 62 [(0, x0), (1, x1), (4, x4), (5, x5), (6, x6), (7, x7), (26, x26)]) h K) := kq_cond
theorem r52_6  : kCode env 52 false inv k (cp c52 500) (act 62 [(0, x0), (1, x1), (4, x4), (5, x5), (6, x6), (7, x7), (26, x26)]) h K =
    K .normal (act 62 [(4, (.slice none 0 0)), (5, x5)]) h := kq_reg
theorem r52_7  : kCode env 52 false inv k (cp c52 126) (act 62 [(0, x0), (1, x1), (4, x4), (5, x5), (6, x6), (7, x7), (26, x26)]) h K =
    bnd (inv (.func 68) #[] #[x0] h) fun x31 =>
    bnd (inv (.func 67) #[] #[x0, x31.1] x31.2) fun x32 =>
    bnd (pExtract x32.1 0) fun x33 =>
    bnd (pExtract x32.1 1) fun x34 =>
    K .normal (act 62 [(1, x1), (4, x4), (5, x34), (6, x6), (7, x7), (8, x33)]) x32.2 := kq_reg
theorem r52_8  : kCode env 52 false inv k (cp c52 508) (act 62 [(1, x1), (4, x4), (5, x5), (6, x6), (7, x7), (8, x8)]) h K =
    bnd (pBin Try.prog .neq 27 (.tmp 35) (.const (.int .i64 0)) x5 (.int .i64 0)) fun x36 =>
    K .normal (act 62 [(1, x1), (4, x4), (5, x5), (6, x6), (7, x7), (8, x8), (36, x36)]) h := kq_reg
theorem b52_rlrrrrrr  : kCode env 52 false inv k (cp c52 509) (act 62 [(1, x1), (4, x4), (5, x5), (6, x6), (7, x7), (8, x8), (36, x36)]) h K = brV x36 (kCode env 52 false inv k (cp c52 1018) (act 62 [(1, x1), (4, x4), (5, x5), (6, x6), (7, x7), (8, x8), (36, x36)]) h K) (kCode env 52 false inv k (cp c52 1019) (act 62 [(1, x1), (4, x4), (5, x5), (6, x6), (7, x7), (8, x8), (36, x36)]) h K) := kq_cond
theorem r52_9  : kCode env 52 false inv k (cp c52 2036) (act 62 [(1, x1), (4, x4), (5, x5), (6, x6), (7, x7), (8, x8), (36, x36)]) h K =
    K .normal (act 62 [(4, (.slice none 0 0)), (5, x5)]) h := kq_reg
theorem r52_10  : kCode env 52 false inv k (cp c52 510) (act 62 [(1, x1), (4, x4), (5, x5), (6, x6), (7, x7), (8, x8), (36, x36)]) h K =
    bnd (pConv Try.prog 51 3 x7 h) fun x42 =>
    bnd (inv (.func 69) #[] #[x8, x1, x42] h) fun x43 =>
    bnd (pExtract x43.1 0) fun x44 =>
    bnd (pExtract x43.1 1) fun x45 =>
    K .normal (act 62 [(4, x4), (5, x45), (6, x6), (9, x44)]) x43.2 := kq_reg
theorem r52_11  : kCode env 52 false inv k (cp c52 2044) (act 62 [(4, x4), (5, x5), (6, x6), (9, x9)]) h K =
    bnd (pLen Try.prog #[50] x9 h) fun x47 =>
    K .normal (act 62 [(4, x4), (5, x5), (6, x6), (46, x9), (47, x47), (48, (.int .i64 0))]) h := kq_reg
theorem r52_12  : kCode env 52 false inv k (cp c52 16360) (act 62 [(4, x4), (5, x5), (6, x6), (46, x46), (47, x47), (48, x48)]) h K =
    bnd (pBin Try.prog .lss 3 (.tmp 48) (.tmp 47) x48 x47) fun x49 =>
    K .normal (act 62 [(4, x4), (5, x5), (6, x6), (46, x46), (47, x47), (48, x48), (49, x49)]) h := kq_reg
theorem b52_lrllrlrrrrrrrr  : kCode env 52 false inv k (cp c52 32722) (act 62 [(4, x4), (5, x5), (6, x6), (46, x46), (47, x47), (48, x48), (49, x49)]) h K = brV x49 (kCode env 52 false inv k (cp c52 65444) (act 62 [(4, x4), (5, x5), (6, x6), (46, x46), (47, x47), (48, x48), (49, x49)]) h K) (kCode env 52 false inv k (cp c52 65445) (act 62 [(4, x4), (5, x5), (6, x6), (46, x46), (47, x47), (48, x48), (49, x49)]) h K) := kq_cond
theorem r52_13  : kCode env 52 false inv k (cp c52 261784) (act 62 [(4, x4), (5, x5), (6, x6), (46, x46), (47, x47), (48, x48), (49, x49)]) h K =
    bnd (pIndexAddr Try.prog 50 x46 x48) fun x50 =>
    bnd (pLoad Try.prog 51 x50 h) fun x51 =>
    K .normal (act 62 [(4, x4), (5, x5), (6, x6), (11, x51), (46, x46), (47, x47), (48, x48)]) h := kq_reg
theorem r52_14  : kCode env 52 false inv k (cp c52 261785) (act 62 [(4, x4), (5, x5), (6, x6), (11, x11), (46, x46), (47, x47), (48, x48)]) h K =
    bnd (pBin Try.prog .add 51 (.tmp 53) (.tmp 54) x6 x11) fun x55 =>
    bnd (pConv Try.prog 51 2 x55 h) fun x56 =>
    bnd (pBuildSlice Try.prog 25 1 #[(0, x56)] h) fun x57 =>
    bnd (pAppend Try.prog #[25, 25] x4 x57.1 x57.2) fun x58 =>
    K .normal (act 62 [(4, x58.1), (5, x5), (6, x6), (46, x46), (47, x47), (48, x48)]) x58.2 := kq_reg
theorem r52_15  : kCode env 52 false inv k (cp c52 65447) (act 62 [(4, x4), (5, x5), (6, x6), (46, x46), (47, x47), (48, x48)]) h K =
    bnd (pBin Try.prog .add 3 (.tmp 48) (.const (.int .i64 1)) x48 (.int .i64 1)) fun x59 =>
    K .normal (act 62 [(4, x4), (5, x5), (6, x6), (46, x46), (47, x47), (48, x59)]) h := kq_reg
noncomputable def F52_lrlrrrrrrrr {β : Type} (inv : Inv) (k : Nat) : Nat → Value → Value → Value → Value → Value → Value → AH → (Value → Value → Value → Value → Value → Value → Value → AH → Option β) → Option β
  | 0, _, _, _, _, _, _, _, _ => none
  | j + 1, x4, x5, x6, x46, x47, x48, h, ke0 =>
    bnd (pBin Try.prog .lss 3 (.tmp 48) (.tmp 47) x48 x47) fun x49 =>
    brV x49
    (bnd (pIndexAddr Try.prog 50 x46 x48) fun x50 =>
    bnd (pLoad Try.prog 51 x50 h) fun x51 =>
    bnd (pBin Try.prog .add 51 (.tmp 53) (.tmp 54) x6 x51) fun x55 =>
    bnd (pConv Try.prog 51 2 x55 h) fun x56 =>
    bnd (pBuildSlice Try.prog 25 1 #[(0, x56)] h) fun x57 =>
    bnd (pAppend Try.prog #[25, 25] x4 x57.1 x57.2) fun x58 =>
    bnd (pBin Try.prog .add 3 (.tmp 48) (.const (.int .i64 1)) x48 (.int .i64 1)) fun x59 =>
    F52_lrlrrrrrrrr inv k j x58.1 x5 x6 x46 x47 x59 x58.2 ke0)
    (ke0 x4 x5 x6 x46 x47 x48 x49 h)
theorem F52_lrlrrrrrrrr_j (j : Nat) : kLoop (kCode env 52 false inv k (cp c52 8180)) j (act 62 [(4, x4), (5, x5), (6, x6), (46, x46), (47, x47), (48, x48)]) h K = F52_lrlrrrrrrrr inv k j x4 x5 x6 x46 x47 x48 h (fun y4 y5 y6 y46 y47 y48 y49 h => K (.exit 0) (act 62 [(4, y4), (5, y5), (6, y6), (46, y46), (47, y47), (48, y48), (49, y49)]) h) := by
      induction j generalizing x4 x5 x6 x46 x47 x48 h with
      | zero => rfl
      | succ j ih =>
        unfold F52_lrlrrrrrrrr
        simp only [kLoop, kq_seq c52 8180, r52_12, kq_seq c52 16361, b52_lrllrlrrrrrrrr, kq_skip c52 65444, kq_seq c52 32723, kq_block c52 65446 1, kq_seq c52 130892, r52_13, r52_14, r52_15, kq_exit c52 65445 0, ih, reduceIte, reduceCtorEq, XE.exit.injEq, Nat.reduceEqDiff, Nat.reduceMul, Nat.reduceAdd] <;> kernel_rfl
theorem F52_lrlrrrrrrrr_eq  : kCode env 52 false inv k (cp c52 4090) (act 62 [(4, x4), (5, x5), (6, x6), (46, x46), (47, x47), (48, x48)]) h K = F52_lrlrrrrrrrr inv k k x4 x5 x6 x46 x47 x48 h (fun y4 y5 y6 y46 y47 y48 y49 h => K (.exit 0) (act 62 [(4, y4), (5, y5), (6, y6), (46, y46), (47, y47), (48, y48), (49, y49)]) h) := kq_loop (F52_lrlrrrrrrrr_j k)
theorem r52_16  : kCode env 52 false inv k (cp c52 2046) (act 62 [(4, x4), (5, x5), (6, x6), (46, x46), (47, x47), (48, x48), (49, x49)]) h K =
    K .normal (act 62 [(4, x4), (5, x5)]) h := kq_reg
/-- shadowbook/ints.packed -/
noncomputable def F52 (inv : Inv) (k : Nat) (x0 x1 : Value) (h : AH) : Option (Value × AH) :=
    bnd (inv (.func 35) #[] #[x0, (.int .i64 8)] h) fun x14 =>
    bnd (pExtract x14.1 0) fun x15 =>
    bnd (pExtract x14.1 1) fun x16 =>
    bnd (pBin Try.prog .neq 27 (.tmp 17) (.const (.int .i64 0)) x16 (.int .i64 0)) fun x18 =>
    brV x18
    (some (.tuple #[(.slice none 0 0), x16], x14.2))
    (bnd (inv (.func 35) #[] #[x0, (.int .i64 1)] x14.2) fun x22 =>
    bnd (pExtract x22.1 0) fun x23 =>
    bnd (pExtract x22.1 1) fun x24 =>
    bnd (pBin Try.prog .neq 27 (.tmp 25) (.const (.int .i64 0)) x24 (.int .i64 0)) fun x26 =>
    brV x26
    (some (.tuple #[(.slice none 0 0), x24], x22.2))
    (bnd (inv (.func 68) #[] #[x0] x22.2) fun x31 =>
    bnd (inv (.func 67) #[] #[x0, x31.1] x31.2) fun x32 =>
    bnd (pExtract x32.1 0) fun x33 =>
    bnd (pExtract x32.1 1) fun x34 =>
    bnd (pBin Try.prog .neq 27 (.tmp 35) (.const (.int .i64 0)) x34 (.int .i64 0)) fun x36 =>
    brV x36
    (some (.tuple #[(.slice none 0 0), x34], x32.2))
    (bnd (pConv Try.prog 51 3 x23 x32.2) fun x42 =>
    bnd (inv (.func 69) #[] #[x33, x1, x42] x32.2) fun x43 =>
    bnd (pExtract x43.1 0) fun x44 =>
    bnd (pExtract x43.1 1) fun x45 =>
    bnd (pLen Try.prog #[50] x44 x43.2) fun x47 =>
    F52_lrlrrrrrrrr inv k k (.slice none 0 0) x45 x15 x44 x47 (.int .i64 0) x43.2
    (fun y4 y5 y6 y46 y47 y48 y49 h =>
    some (.tuple #[y4, y5], h)))))
theorem F52_eq : eFun env k inv 52 #[x0, x1] h = F52 inv k x0 x1 h := by
      refine (kq_fun (a := act 62 [(0, x0), (1, x1)]) (c := cp c52 1)).trans ?_
      unfold F52
      simp only [kq_seq c52 1, r52_0, kq_seq c52 3, r52_1, kq_seq c52 7, kq_seq c52 14, r52_2, b52_rlrr, kq_seq c52 58, r52_3, kq_ret c52 117, res52_0, kq_skip c52 59, kq_seq c52 15, r52_4, kq_seq c52 31, kq_seq c52 62, r52_5, b52_rlrrrr, kq_seq c52 250, r52_6, kq_ret c52 501, kq_skip c52 251, kq_seq c52 63, r52_7, kq_seq c52 127, kq_seq c52 254, r52_8, b52_rlrrrrrr, kq_seq c52 1018, r52_9, kq_ret c52 2037, kq_skip c52 1019, kq_seq c52 255, r52_10, kq_seq c52 511, kq_seq c52 1022, r52_11, kq_block c52 2045 0, F52_lrlrrrrrrrr_eq, kq_seq c52 1023, r52_16, kq_ret c52 2047, reduceIte, reduceCtorEq, XE.exit.injEq, Nat.reduceEqDiff, Nat.reduceMul, Nat.reduceAdd] <;> kernel_rfl
theorem F52_call : eInv env (k + 1) (.func 52) #[] #[x0, x1] h = F52 (eInv env k) k x0 x1 h := kq_inv F52_eq
noncomputable def c53 : Code := codeOf Try.prog 53
theorem r53_0  : kCode env 53 false inv k (cp c53 2) (act 6 [(0, x0)]) h K =
    K .normal (act 6 [(0, x0)]) h := kq_reg
theorem r53_1  : kCode env 53 false inv k (cp c53 6) (act 6 [(0, x0)]) h K =
    bnd (pBin Try.prog .neq 3 (.tmp 3) (.tmp 4) x0 x0) fun x5 =>
    K .normal (act 6 [(2, x5)]) h := kq_reg
theorem res53_0 : resOfFn env.P 53 .ret (act 6 [(2, x2)]) h = some (x2, h) := kq_res
/-- cmp.isNaN[int] -/
noncomputable def F53 (inv : Inv) (k : Nat) (x0 : Value) (h : AH) : Option (Value × AH) :=
    bnd (pBin Try.prog .neq 3 (.tmp 3) (.tmp 4) x0 x0) fun x5 =>
    some (x5, h)
theorem F53_eq : eFun env k inv 53 #[x0] h = F53 inv k x0 h := by
      refine (kq_fun (a := act 6 [(0, x0)]) (c := cp c53 1)).trans ?_
      unfold F53
      simp only [kq_seq c53 1, r53_0, kq_seq c53 3, r53_1, kq_ret c53 7, res53_0, reduceIte, reduceCtorEq, XE.exit.injEq, Nat.reduceEqDiff, Nat.reduceMul, Nat.reduceAdd] <;> kernel_rfl
theorem F53_call : eInv env (k + 1) (.func 53) #[] #[x0] h = F53 (eInv env k) k x0 h := kq_inv F53_eq
noncomputable def c54 : Code := codeOf Try.prog 54
theorem r54_0  : kCode env 54 false inv k (cp c54 2) (act 25 [(0, x0)]) h K =
    K .normal (act 25 [(0, x0), (2, (.int .i64 0))]) h := kq_reg
theorem r54_1  : kCode env 54 false inv k (cp c54 12) (act 25 [(0, x0), (2, x2)]) h K =
    bnd (pBin Try.prog .geq 51 (.tmp 3) (.const (.int .u64 4294967296)) x0 (.int .u64 4294967296)) fun x4 =>
    K .normal (act 25 [(0, x0), (2, x2), (4, x4)]) h := kq_reg
theorem b54_rlr  : kCode env 54 false inv k (cp c54 13) (act 25 [(0, x0), (2, x2), (4, x4)]) h K = brV x4 (kCode env 54 false inv k (cp c54 26) (act 25 [(0, x0), (2, x2), (4, x4)]) h K) (kCode env 54 false inv k (cp c54 27) (act 25 [(0, x0), (2, x2), (4, x4)]) h K) := kq_cond
theorem r54_2  : kCode env 54 false inv k (cp c54 52) (act 25 [(0, x0), (2, x2), (4, x4)]) h K =
    bnd (pBin Try.prog .shr 51 (.tmp 5) (.const (.int .u64 32)) x0 (.int .u64 32)) fun x6 =>
    K .normal (act 25 [(0, x6)]) h := kq_reg
theorem r54_3  : kCode env 54 false inv k (cp c54 53) (act 25 [(0, x0)]) h K =
    K .normal (act 25 [(0, x0), (2, (.int .i64 32))]) h := kq_reg
noncomputable def F54_rlr {β : Type} (inv : Inv) (k : Nat) (x0 x2 x4 : Value) (h : AH) (kn : (Value → Value → Value → AH → Option β)) : Option β :=
    brV x4
    (bnd (pBin Try.prog .shr 51 (.tmp 5) (.const (.int .u64 32)) x0 (.int .u64 32)) fun x6 =>
    kn x6 (.int .i64 32) unk h)
    (kn x0 x2 x4 h)
theorem F54_rlr_eq  : kCode env 54 false inv k (cp c54 13) (act 25 [(0, x0), (2, x2), (4, x4)]) h K = F54_rlr inv k x0 x2 x4 h (fun y0 y2 y4 h => K .normal (act 25 [(0, y0), (2, y2), (4, y4)]) h) := by
      unfold F54_rlr
      simp only [b54_rlr, kq_seq c54 26, r54_2, r54_3, kq_skip c54 27, reduceIte, reduceCtorEq, XE.exit.injEq, Nat.reduceEqDiff, Nat.reduceMul, Nat.reduceAdd] <;> kernel_rfl
theorem r54_4  : kCode env 54 false inv k (cp c54 28) (act 25 [(0, x0), (2, x2), (4, x4)]) h K =
    bnd (pBin Try.prog .geq 51 (.tmp 7) (.const (.int .u64 65536)) x0 (.int .u64 65536)) fun x8 =>
    K .normal (act 25 [(0, x0), (2, x2), (8, x8)]) h := kq_reg
theorem b54_rlrr  : kCode env 54 false inv k (cp c54 29) (act 25 [(0, x0), (2, x2), (8, x8)]) h K = brV x8 (kCode env 54 false inv k (cp c54 58) (act 25 [(0, x0), (2, x2), (8, x8)]) h K) (kCode env 54 false inv k (cp c54 59) (act 25 [(0, x0), (2, x2), (8, x8)]) h K) := kq_cond
theorem r54_5  : kCode env 54 false inv k (cp c54 116) (act 25 [(0, x0), (2, x2), (8, x8)]) h K =
    bnd (pBin Try.prog .shr 51 (.tmp 9) (.const (.int .u64 16)) x0 (.int .u64 16)) fun x10 =>
    K .normal (act 25 [(0, x10), (2, x2)]) h := kq_reg
theorem r54_6  : kCode env 54 false inv k (cp c54 117) (act 25 [(0, x0), (2, x2)]) h K =
    bnd (pBin Try.prog .add 3 (.tmp 11) (.const (.int .i64 16)) x2 (.int .i64 16)) fun x12 =>
    K .normal (act 25 [(0, x0), (2, x12)]) h := kq_reg
noncomputable def F54_rlrr {β : Type} (inv : Inv) (k : Nat) (x0 x2 x8 : Value) (h : AH) (kn : (Value → Value → Value → AH → Option β)) : Option β :=
    brV x8
    (bnd (pBin Try.prog .shr 51 (.tmp 9) (.const (.int .u64 16)) x0 (.int .u64 16)) fun x10 =>
    bnd (pBin Try.prog .add 3 (.tmp 11) (.const (.int .i64 16)) x2 (.int .i64 16)) fun x12 =>
    kn x10 x12 unk h)
    (kn x0 x2 x8 h)
theorem F54_rlrr_eq  : kCode env 54 false inv k (cp c54 29) (act 25 [(0, x0), (2, x2), (8, x8)]) h K = F54_rlrr inv k x0 x2 x8 h (fun y0 y2 y8 h => K .normal (act 25 [(0, y0), (2, y2), (8, y8)]) h) := by
      unfold F54_rlrr
      simp only [b54_rlrr, kq_seq c54 58, r54_5, r54_6, kq_skip c54 59, reduceIte, reduceCtorEq, XE.exit.injEq, Nat.reduceEqDiff, Nat.reduceMul, Nat.reduceAdd] <;> kernel_rfl
theorem r54_7  : kCode env 54 false inv k (cp c54 60) (act 25 [(0, x0), (2, x2), (8, x8)]) h K =
    bnd (pBin Try.prog .geq 51 (.tmp 13) (.const (.int .u64 256)) x0 (.int .u64 256)) fun x14 =>
    K .normal (act 25 [(0, x0), (2, x2), (14, x14)]) h := kq_reg
theorem b54_rlrrr  : kCode env 54 false inv k (cp c54 61) (act 25 [(0, x0), (2, x2), (14, x14)]) h K = brV x14 (kCode env 54 false inv k (cp c54 122) (act 25 [(0, x0), (2, x2), (14, x14)]) h K) (kCode env 54 false inv k (cp c54 123) (act 25 [(0, x0), (2, x2), (14, x14)]) h K) := kq_cond
theorem r54_8  : kCode env 54 false inv k (cp c54 244) (act 25 [(0, x0), (2, x2), (14, x14)]) h K =
    bnd (pBin Try.prog .shr 51 (.tmp 15) (.const (.int .u64 8)) x0 (.int .u64 8)) fun x16 =>
    K .normal (act 25 [(0, x16), (2, x2)]) h := kq_reg
theorem r54_9  : kCode env 54 false inv k (cp c54 245) (act 25 [(0, x0), (2, x2)]) h K =
    bnd (pBin Try.prog .add 3 (.tmp 17) (.const (.int .i64 8)) x2 (.int .i64 8)) fun x18 =>
    K .normal (act 25 [(0, x0), (2, x18)]) h := kq_reg
noncomputable def F54_rlrrr {β : Type} (inv : Inv) (k : Nat) (x0 x2 x14 : Value) (h : AH) (kn : (Value → Value → Value → AH → Option β)) : Option β :=
    brV x14
    (bnd (pBin Try.prog .shr 51 (.tmp 15) (.const (.int .u64 8)) x0 (.int .u64 8)) fun x16 =>
    bnd (pBin Try.prog .add 3 (.tmp 17) (.const (.int .i64 8)) x2 (.int .i64 8)) fun x18 =>
    kn x16 x18 unk h)
    (kn x0 x2 x14 h)
theorem F54_rlrrr_eq  : kCode env 54 false inv k (cp c54 61) (act 25 [(0, x0), (2, x2), (14, x14)]) h K = F54_rlrrr inv k x0 x2 x14 h (fun y0 y2 y14 h => K .normal (act 25 [(0, y0), (2, y2), (14, y14)]) h) := by
      unfold F54_rlrrr
      simp only [b54_rlrrr, kq_seq c54 122, r54_8, r54_9, kq_skip c54 123, reduceIte, reduceCtorEq, XE.exit.injEq, Nat.reduceEqDiff, Nat.reduceMul, Nat.reduceAdd] <;> kernel_rfl
noncomputable abbrev G54_10 {β : Type} (inv : Inv) (x0 x2 : Value) (h : AH) (K : Value → AH → Option β) : Option β :=
    bnd (pConv Try.prog 51 5 x0 h) fun x21 =>
    bnd (pIndex Try.prog 9 (.string { data := #[0, 1, 2, 2, 3, 3, 3, 3, 4, 4, 4, 4, 4, 4, 4, 4, 5, 5, 5, 5, 5, 5, 5, 5, 5, 5, 5, 5, 5, 5, 5, 5, 6, 6, 6, 6, 6, 6, 6, 6, 6, 6, 6, 6, 6, 6, 6, 6, 6, 6, 6, 6, 6, 6, 6, 6, 6, 6, 6, 6, 6, 6, 6, 6, 7, 7, 7, 7, 7, 7, 7, 7, 7, 7, 7, 7, 7, 7, 7, 7, 7, 7, 7, 7, 7, 7, 7, 7, 7, 7, 7, 7, 7, 7, 7, 7, 7, 7, 7, 7, 7, 7, 7, 7, 7, 7, 7, 7, 7, 7, 7, 7, 7, 7, 7, 7, 7, 7, 7, 7, 7, 7, 7, 7, 7, 7, 7, 7, 8, 8, 8, 8, 8, 8, 8, 8, 8, 8, 8, 8, 8, 8, 8, 8, 8, 8, 8, 8, 8, 8, 8, 8, 8, 8, 8, 8, 8, 8, 8, 8, 8, 8, 8, 8, 8, 8, 8, 8, 8, 8, 8, 8, 8, 8, 8, 8, 8, 8, 8, 8, 8, 8, 8, 8, 8, 8, 8, 8, 8, 8, 8, 8, 8, 8, 8, 8, 8, 8, 8, 8, 8, 8, 8, 8, 8, 8, 8, 8, 8, 8, 8, 8, 8, 8, 8, 8, 8, 8, 8, 8, 8, 8, 8, 8, 8, 8, 8, 8, 8, 8, 8, 8, 8, 8, 8, 8, 8, 8, 8, 8, 8, 8, 8, 8, 8, 8, 8, 8, 8, 8, 8, 8, 8, 8, 8, 8] }) x21) fun x22 =>
    bnd (pConv Try.prog 5 3 x22 h) fun x23 =>
    bnd (pBin Try.prog .add 3 (.tmp 19) (.tmp 23) x2 x23) fun x24 =>
    K (x24) h
theorem r54_10  : kCode env 54 false inv k (cp c54 62) (act 25 [(0, x0), (2, x2), (14, x14)]) h K =
    G54_10 inv x0 x2 h fun y2 h => K .normal (act 25 [(2, y2)]) h := kq_reg
theorem res54_0 : resOfFn env.P 54 .ret (act 25 [(2, x2)]) h = some (x2, h) := kq_res
/-- math/bits.Len64 -/
noncomputable def F54 (inv : Inv) (k : Nat) (x0 : Value) (h : AH) : Option (Value × AH) :=
    bnd (pBin Try.prog .geq 51 (.tmp 3) (.const (.int .u64 4294967296)) x0 (.int .u64 4294967296)) fun x4 =>
    F54_rlr inv k x0 (.int .i64 0) x4 h
    (fun y0 y2 y4 h =>
    bnd (pBin Try.prog .geq 51 (.tmp 7) (.const (.int .u64 65536)) y0 (.int .u64 65536)) fun x8 =>
    F54_rlrr inv k y0 y2 x8 h
    (fun y0_1 y2_2 y8 h_3 =>
    bnd (pBin Try.prog .geq 51 (.tmp 13) (.const (.int .u64 256)) y0_1 (.int .u64 256)) fun x14 =>
    F54_rlrrr inv k y0_1 y2_2 x14 h_3
    (fun y0_4 y2_5 y14 h_6 =>
    G54_10 inv y0_4 y2_5 h_6 fun y2_7 h_8 =>
    some (y2_7, h_8))))
theorem F54_eq : eFun env k inv 54 #[x0] h = F54 inv k x0 h := by
      refine (kq_fun (a := act 25 [(0, x0)]) (c := cp c54 1)).trans ?_
      unfold F54
      simp only [kq_seq c54 1, r54_0, kq_seq c54 3, kq_seq c54 6, r54_1, F54_rlr_eq, kq_seq c54 7, kq_seq c54 14, r54_4, F54_rlrr_eq, kq_seq c54 15, kq_seq c54 30, r54_7, F54_rlrrr_eq, kq_seq c54 31, r54_10, kq_ret c54 63, res54_0, reduceIte, reduceCtorEq, XE.exit.injEq, Nat.reduceEqDiff, Nat.reduceMul, Nat.reduceAdd] <;> kernel_rfl
theorem F54_call : eInv env (k + 1) (.func 54) #[] #[x0] h = F54 (eInv env k) k x0 h := kq_inv F54_eq
noncomputable def c55 : Code := codeOf Try.prog 55
theorem r55_0  : kCode env 55 false inv k (cp c55 2) (act 19 [(0, x0), (1, x1)]) h K =
    K .normal (act 19 [(0, x0), (1, x1)]) h := kq_reg
noncomputable abbrev G55_1 {β : Type} (inv : Inv) (x0 x1 : Value) (h : AH) (K : Value → AH → Option β) : Option β :=
    bnd (pBin Try.prog .geq 3 (.tmp 5) (.const (.int .i64 0)) x0 (.int .i64 0)) fun x6 =>
    bnd (gd (some x6) true h (some (x0, h))) fun x8 =>
    bnd (gd (some x6) true x8.2 (lt (pBin Try.prog .leq 3 (.tmp 8) (.const (.int .i64 65536)) x8.1 (.int .i64 65536)) x8.2)) fun x9 =>
    bnd (pickV x6 x9.1 (.bool false)) fun x10 =>
    bnd (gd (some x10) true x9.2 (some (x1, x9.2))) fun x12 =>
    bnd (gd (some x10) true x12.2 (lt (pBin Try.prog .geq 3 (.tmp 12) (.const (.int .i64 0)) x12.1 (.int .i64 0)) x12.2)) fun x13 =>
    bnd (pickV x10 x13.1 (.bool false)) fun x14 =>
    bnd (gd (some x14) true x13.2 (some (x1, x13.2))) fun x16 =>
    bnd (gd (some x14) true x16.2 (lt (pBin Try.prog .leq 3 (.tmp 16) (.const (.int .i64 64)) x16.1 (.int .i64 64)) x16.2)) fun x17 =>
    bnd (pickV x14 x17.1 (.bool false)) fun x18 =>
    K (x18) x17.2
theorem r55_1  : kCode env 55 false inv k (cp c55 6) (act 19 [(0, x0), (1, x1)]) h K =
    G55_1 inv x0 x1 h fun y4 h => K .normal (act 19 [(4, y4)]) h := kq_reg
theorem res55_0 : resOfFn env.P 55 .ret (act 19 [(4, x4)]) h = some (x4, h) := kq_res
/-- shadowbook/packs.may -/
noncomputable def F55 (inv : Inv) (k : Nat) (x0 x1 : Value) (h : AH) : Option (Value × AH) :=
    G55_1 inv x0 x1 h fun y4 h =>
    some (y4, h)
theorem F55_eq : eFun env k inv 55 #[x0, x1] h = F55 inv k x0 x1 h := by
      refine (kq_fun (a := act 19 [(0, x0), (1, x1)]) (c := cp c55 1)).trans ?_
      unfold F55
      simp only [kq_seq c55 1, r55_0, kq_seq c55 3, r55_1, kq_ret c55 7, res55_0, reduceIte, reduceCtorEq, XE.exit.injEq, Nat.reduceEqDiff, Nat.reduceMul, Nat.reduceAdd] <;> kernel_rfl
theorem F55_call : eInv env (k + 1) (.func 55) #[] #[x0, x1] h = F55 (eInv env k) k x0 x1 h := kq_inv F55_eq
noncomputable def c56 : Code := codeOf Try.prog 56
theorem r56_0  : kCode env 56 false inv k (cp c56 2) (act 15 [(0, x0), (1, x1)]) h K =
    K .normal (act 15 [(0, x0), (1, x1)]) h := kq_reg
theorem r56_1  : kCode env 56 false inv k (cp c56 12) (act 15 [(0, x0), (1, x1)]) h K =
    bnd (inv (.func 55) #[] #[x0, x1] h) fun x7 =>
    bnd (pUn Try.prog .not x7.1) fun x8 =>
    K .normal (act 15 [(0, x0), (1, x1), (8, x8)]) x7.2 := kq_reg
theorem b56_rlr  : kCode env 56 false inv k (cp c56 13) (act 15 [(0, x0), (1, x1), (8, x8)]) h K = brV x8 (kCode env 56 false inv k (cp c56 26) (act 15 [(0, x0), (1, x1), (8, x8)]) h K) (kCode env 56 false inv k (cp c56 27) (act 15 [(0, x0), (1, x1), (8, x8)]) h K) := kq_cond
theorem r56_2  : kCode env 56 false inv k (cp c56 52) (act 15 [(0, x0), (1, x1), (8, x8)]) h K =
    K .normal (act 15 [(4, (.int .i64 0))]) h := kq_reg
theorem res56_0 : resOfFn env.P 56 .ret (act 15 [(4, x4)]) h = some (x4, h) := kq_res
noncomputable abbrev G56_3 {β : Type} (inv : Inv) (x0 x1 : Value) (h : AH) (K : Value → AH → Option β) : Option β :=
    bnd (pBin Try.prog .mul 3 (.tmp 9) (.tmp 10) x0 x1) fun x11 =>
    bnd (pBin Try.prog .add 3 (.tmp 11) (.const (.int .i64 8)) x11 (.int .i64 8)) fun x12 =>
    bnd (pBin Try.prog .sub 3 (.tmp 12) (.const (.int .i64 1)) x12 (.int .i64 1)) fun x13 =>
    bnd (pBin Try.prog .quo 3 (.tmp 13) (.const (.int .i64 8)) x13 (.int .i64 8)) fun x14 =>
    K (x14) h
theorem r56_3  : kCode env 56 false inv k (cp c56 14) (act 15 [(0, x0), (1, x1), (8, x8)]) h K =
    G56_3 inv x0 x1 h fun y4 h => K .normal (act 15 [(4, y4)]) h := kq_reg
/-- shadowbook/packs.Size -/
noncomputable def F56 (inv : Inv) (k : Nat) (x0 x1 : Value) (h : AH) : Option (Value × AH) :=
    bnd (inv (.func 55) #[] #[x0, x1] h) fun x7 =>
    bnd (pUn Try.prog .not x7.1) fun x8 =>
    brV x8
    (some ((.int .i64 0), x7.2))
    (G56_3 inv x0 x1 x7.2 fun y4 h =>
    some (y4, h))
theorem F56_eq : eFun env k inv 56 #[x0, x1] h = F56 inv k x0 x1 h := by
      refine (kq_fun (a := act 15 [(0, x0), (1, x1)]) (c := cp c56 1)).trans ?_
      unfold F56
      simp only [kq_seq c56 1, r56_0, kq_seq c56 3, kq_seq c56 6, r56_1, b56_rlr, kq_seq c56 26, r56_2, kq_ret c56 53, res56_0, kq_skip c56 27, kq_seq c56 7, r56_3, kq_ret c56 15, reduceIte, reduceCtorEq, XE.exit.injEq, Nat.reduceEqDiff, Nat.reduceMul, Nat.reduceAdd] <;> kernel_rfl
theorem F56_call : eInv env (k + 1) (.func 56) #[] #[x0, x1] h = F56 (eInv env k) k x0 x1 h := kq_inv F56_eq
noncomputable def c57 : Code := codeOf Try.prog 57
theorem r57_0  : kCode env 57 false inv k (cp c57 2) (act 18 [(0, x0), (1, x1), (2, x2), (3, x3)]) h K =
    bnd (pLoad Try.prog 5 x1 h) fun x5 =>
    bnd (pLoad Try.prog 3 x2 h) fun x7 =>
    bnd (pBin Try.prog .shl 5 (.tmp 6) (.tmp 7) x0 x7) fun x8 =>
    bnd (pBin Try.prog .or 5 (.tmp 5) (.tmp 8) x5 x8) fun x9 =>
    bnd (kSt (pStore Try.prog 5 x1 x9 h)) fun u =>
    K .normal (act 18 [(1, x1), (2, x2), (3, x3)]) u.2 := kq_draw
theorem r57_1  : kCode env 57 false inv k (cp c57 6) (act 18 [(1, x1), (2, x2), (3, x3)]) h K =
    bnd (pLoad Try.prog 3 x2 h) fun x10 =>
    bnd (pBin Try.prog .add 3 (.tmp 10) (.const (.int .i64 1)) x10 (.int .i64 1)) fun x11 =>
    bnd (kSt (pStore Try.prog 3 x2 x11 h)) fun u =>
    K .normal (act 18 [(1, x1), (2, x2), (3, x3)]) u.2 := kq_reg
theorem r57_2  : kCode env 57 false inv k (cp c57 14) (act 18 [(1, x1), (2, x2), (3, x3)]) h K =
    bnd (pLoad Try.prog 3 x2 h) fun x12 =>
    bnd (pBin Try.prog .eql 3 (.tmp 12) (.const (.int .i64 8)) x12 (.int .i64 8)) fun x13 =>
    K .normal (act 18 [(1, x1), (2, x2), (3, x3), (13, x13)]) h := kq_reg
theorem b57_rrr  : kCode env 57 false inv k (cp c57 15) (act 18 [(1, x1), (2, x2), (3, x3), (13, x13)]) h K = brV x13 (kCode env 57 false inv k (cp c57 30) (act 18 [(1, x1), (2, x2), (3, x3), (13, x13)]) h K) (kCode env 57 false inv k (cp c57 31) (act 18 [(1, x1), (2, x2), (3, x3), (13, x13)]) h K) := kq_cond
theorem r57_3  : kCode env 57 false inv k (cp c57 60) (act 18 [(1, x1), (2, x2), (3, x3), (13, x13)]) h K =
    bnd (pLoad Try.prog 26 x3 h) fun x14 =>
    bnd (pLoad Try.prog 5 x1 h) fun x15 =>
    bnd (pBuildSlice Try.prog 26 1 #[(0, x15)] h) fun x16 =>
    bnd (pAppend Try.prog #[26, 26] x14 x16.1 x16.2) fun x17 =>
    bnd (kSt (pStore Try.prog 26 x3 x17.1 x17.2)) fun u =>
    K .normal (act 18 [(1, x1), (2, x2)]) u.2 := kq_reg
theorem r57_4  : kCode env 57 false inv k (cp c57 61) (act 18 [(1, x1), (2, x2)]) h K =
    bnd (kSt (pStore Try.prog 5 x1 (.int .u8 0) h)) fun u =>
    bnd (kSt (pStore Try.prog 3 x2 (.int .i64 0) u.2)) fun u_3 =>
    K .normal (act 18 []) u_3.2 := kq_reg
theorem res57_0 : resOfFn env.P 57 .normal (act 18 []) h = some (.tuple #[], h) := kq_res
theorem res57_1 : resOfFn env.P 57 .normal (act 18 [(1, x1), (2, x2), (3, x3), (13, x13)]) h = some (.tuple #[], h) := kq_res
/-- shadowbook/packs.Put$1 -/
noncomputable def F57 (inv : Inv) (k : Nat) (x0 x1 x2 x3 : Value) (h : AH) : Option (Value × AH) :=
    bnd (pLoad Try.prog 5 x1 h) fun x5 =>
    bnd (pLoad Try.prog 3 x2 h) fun x7 =>
    bnd (pBin Try.prog .shl 5 (.tmp 6) (.tmp 7) x0 x7) fun x8 =>
    bnd (pBin Try.prog .or 5 (.tmp 5) (.tmp 8) x5 x8) fun x9 =>
    bnd (kSt (pStore Try.prog 5 x1 x9 h)) fun u =>
    bnd (pLoad Try.prog 3 x2 u.2) fun x10 =>
    bnd (pBin Try.prog .add 3 (.tmp 10) (.const (.int .i64 1)) x10 (.int .i64 1)) fun x11 =>
    bnd (kSt (pStore Try.prog 3 x2 x11 u.2)) fun u_1 =>
    bnd (pLoad Try.prog 3 x2 u_1.2) fun x12 =>
    bnd (pBin Try.prog .eql 3 (.tmp 12) (.const (.int .i64 8)) x12 (.int .i64 8)) fun x13 =>
    brV x13
    (bnd (pLoad Try.prog 26 x3 u_1.2) fun x14 =>
    bnd (pLoad Try.prog 5 x1 u_1.2) fun x15 =>
    bnd (pBuildSlice Try.prog 26 1 #[(0, x15)] u_1.2) fun x16 =>
    bnd (pAppend Try.prog #[26, 26] x14 x16.1 x16.2) fun x17 =>
    bnd (kSt (pStore Try.prog 26 x3 x17.1 x17.2)) fun u_2 =>
    bnd (kSt (pStore Try.prog 5 x1 (.int .u8 0) u_2.2)) fun u_4 =>
    bnd (kSt (pStore Try.prog 3 x2 (.int .i64 0) u_4.2)) fun u_5 =>
    some (.tuple #[], u_5.2))
    (some (.tuple #[], u_1.2))
theorem F57_eq : eFun env k inv 57 #[x0, x1, x2, x3] h = F57 inv k x0 x1 x2 x3 h := by
      refine (kq_fun (a := act 18 [(0, x0), (1, x1), (2, x2), (3, x3)]) (c := cp c57 1)).trans ?_
      unfold F57
      simp only [kq_seq c57 1, r57_0, kq_seq c57 3, r57_1, kq_seq c57 7, r57_2, b57_rrr, kq_seq c57 30, r57_3, r57_4, res57_0, kq_skip c57 31, res57_1, reduceIte, reduceCtorEq, XE.exit.injEq, Nat.reduceEqDiff, Nat.reduceMul, Nat.reduceAdd] <;> kernel_rfl
theorem F57_call : eInv env (k + 1) (.func 57) #[] #[x0, x1, x2, x3] h = F57 (eInv env k) k x0 x1 x2 x3 h := kq_inv F57_eq
noncomputable def c58 : Code := codeOf Try.prog 58
theorem r58_0  : kCode env 58 false inv k (cp c58 2) (act 8 [(0, x0)]) h K =
    K .normal (act 8 [(0, x0)]) h := kq_reg
theorem r58_1  : kCode env 58 false inv k (cp c58 12) (act 8 [(0, x0)]) h K =
    bnd (pBin Try.prog .eql 26 (.tmp 3) (.const (.slice none 0 0)) x0 (.slice none 0 0)) fun x4 =>
    K .normal (act 8 [(0, x0), (4, x4)]) h := kq_reg
theorem b58_rlr  : kCode env 58 false inv k (cp c58 13) (act 8 [(0, x0), (4, x4)]) h K = brV x4 (kCode env 58 false inv k (cp c58 26) (act 8 [(0, x0), (4, x4)]) h K) (kCode env 58 false inv k (cp c58 27) (act 8 [(0, x0), (4, x4)]) h K) := kq_cond
theorem r58_2  : kCode env 58 false inv k (cp c58 52) (act 8 [(0, x0), (4, x4)]) h K =
    K .normal (act 8 [(2, (.slice none 0 0))]) h := kq_reg
theorem res58_0 : resOfFn env.P 58 .ret (act 8 [(2, x2)]) h = some (x2, h) := kq_res
theorem r58_3  : kCode env 58 false inv k (cp c58 14) (act 8 [(0, x0), (4, x4)]) h K =
    bnd (pBuildSlice Try.prog 26 0 #[] h) fun x5 =>
    bnd (pAppend Try.prog #[26, 26] x5.1 x0 x5.2) fun x7 =>
    K .normal (act 8 [(2, x7.1)]) x7.2 := kq_reg
/-- slices.Clone[[]byte,byte] -/
noncomputable def F58 (inv : Inv) (k : Nat) (x0 : Value) (h : AH) : Option (Value × AH) :=
    bnd (pBin Try.prog .eql 26 (.tmp 3) (.const (.slice none 0 0)) x0 (.slice none 0 0)) fun x4 =>
    brV x4
    (some ((.slice none 0 0), h))
    (bnd (pBuildSlice Try.prog 26 0 #[] h) fun x5 =>
    bnd (pAppend Try.prog #[26, 26] x5.1 x0 x5.2) fun x7 =>
    some (x7.1, x7.2))
theorem F58_eq : eFun env k inv 58 #[x0] h = F58 inv k x0 h := by
      refine (kq_fun (a := act 8 [(0, x0)]) (c := cp c58 1)).trans ?_
      unfold F58
      simp only [kq_seq c58 1, r58_0, kq_seq c58 3, kq_seq c58 6, r58_1, b58_rlr, kq_seq c58 26, r58_2, kq_ret c58 53, res58_0, kq_skip c58 27, kq_seq c58 7, r58_3, kq_ret c58 15, reduceIte, reduceCtorEq, XE.exit.injEq, Nat.reduceEqDiff, Nat.reduceMul, Nat.reduceAdd] <;> kernel_rfl
theorem F58_call : eInv env (k + 1) (.func 58) #[] #[x0] h = F58 (eInv env k) k x0 h := kq_inv F58_eq
noncomputable def c59 : Code := codeOf Try.prog 59
theorem r59_0  : kCode env 59 false inv k (cp c59 2) (act 31 [(0, x0), (1, x1)]) h K =
    K .normal (act 31 [(0, x0), (1, x1)]) h := kq_reg
theorem r59_1  : kCode env 59 false inv k (cp c59 12) (act 31 [(0, x0), (1, x1)]) h K =
    bnd (pNilCheck x0) fun x8 =>
    bnd (pFieldAddr Try.prog 79 x8 0) fun x9 =>
    bnd (pLoad Try.prog 26 x9 h) fun x10 =>
    bnd (pLen Try.prog #[26] x10 h) fun x11 =>
    bnd (pBin Try.prog .lss 3 (.tmp 11) (.tmp 12) x11 x1) fun x13 =>
    K .normal (act 31 [(0, x0), (1, x1), (13, x13)]) h := kq_reg
theorem b59_rlr  : kCode env 59 false inv k (cp c59 13) (act 31 [(0, x0), (1, x1), (13, x13)]) h K = brV x13 (kCode env 59 false inv k (cp c59 26) (act 31 [(0, x0), (1, x1), (13, x13)]) h K) (kCode env 59 false inv k (cp c59 27) (act 31 [(0, x0), (1, x1), (13, x13)]) h K) := kq_cond
theorem r59_2  : kCode env 59 false inv k (cp c59 52) (act 31 [(0, x0), (1, x1), (13, x13)]) h K =
    K .normal (act 31 [(4, (.slice none 0 0)), (5, (.int .i64 7))]) h := kq_reg
theorem res59_0 : resOfFn env.P 59 .ret (act 31 [(4, x4), (5, x5)]) h = some (.tuple #[x4, x5], h) := kq_res
theorem r59_3  : kCode env 59 false inv k (cp c59 14) (act 31 [(0, x0), (1, x1), (13, x13)]) h K =
    bnd (pNilCheck x0) fun x15 =>
    bnd (pFieldAddr Try.prog 79 x15 0) fun x16 =>
    bnd (pLoad Try.prog 26 x16 h) fun x17 =>
    bnd (pSlice Try.prog 26 x17 none (some x1) (some x1) h) fun x20 =>
    K .normal (act 31 [(0, x0), (1, x1), (6, x20)]) h := kq_reg
theorem r59_4  : kCode env 59 false inv k (cp c59 30) (act 31 [(0, x0), (1, x1), (6, x6)]) h K =
    bnd (pNilCheck x0) fun x23 =>
    bnd (pFieldAddr Try.prog 79 x23 0) fun x24 =>
    bnd (pLoad Try.prog 26 x24 h) fun x25 =>
    bnd (pSlice Try.prog 26 x25 (some x1) none none h) fun x27 =>
    bnd (pNilCheck x0) fun x28 =>
    bnd (pFieldAddr Try.prog 79 x28 0) fun x29 =>
    bnd (kSt (pStore Try.prog 26 x29 x27 h)) fun u =>
    K .normal (act 31 [(6, x6)]) u.2 := kq_reg
theorem r59_5  : kCode env 59 false inv k (cp c59 62) (act 31 [(6, x6)]) h K =
    K .normal (act 31 [(4, x6), (5, (.int .i64 0))]) h := kq_reg
/-- (*shadowbook/octet.Reader).take -/
noncomputable def F59 (inv : Inv) (k : Nat) (x0 x1 : Value) (h : AH) : Option (Value × AH) :=
    bnd (pNilCheck x0) fun x8 =>
    bnd (pFieldAddr Try.prog 79 x8 0) fun x9 =>
    bnd (pLoad Try.prog 26 x9 h) fun x10 =>
    bnd (pLen Try.prog #[26] x10 h) fun x11 =>
    bnd (pBin Try.prog .lss 3 (.tmp 11) (.tmp 12) x11 x1) fun x13 =>
    brV x13
    (some (.tuple #[(.slice none 0 0), (.int .i64 7)], h))
    (bnd (pNilCheck x0) fun x15 =>
    bnd (pFieldAddr Try.prog 79 x15 0) fun x16 =>
    bnd (pLoad Try.prog 26 x16 h) fun x17 =>
    bnd (pSlice Try.prog 26 x17 none (some x1) (some x1) h) fun x20 =>
    bnd (pNilCheck x0) fun x23 =>
    bnd (pFieldAddr Try.prog 79 x23 0) fun x24 =>
    bnd (pLoad Try.prog 26 x24 h) fun x25 =>
    bnd (pSlice Try.prog 26 x25 (some x1) none none h) fun x27 =>
    bnd (pNilCheck x0) fun x28 =>
    bnd (pFieldAddr Try.prog 79 x28 0) fun x29 =>
    bnd (kSt (pStore Try.prog 26 x29 x27 h)) fun u =>
    some (.tuple #[x20, (.int .i64 0)], u.2))
theorem F59_eq : eFun env k inv 59 #[x0, x1] h = F59 inv k x0 x1 h := by
      refine (kq_fun (a := act 31 [(0, x0), (1, x1)]) (c := cp c59 1)).trans ?_
      unfold F59
      simp only [kq_seq c59 1, r59_0, kq_seq c59 3, kq_seq c59 6, r59_1, b59_rlr, kq_seq c59 26, r59_2, kq_ret c59 53, res59_0, kq_skip c59 27, kq_seq c59 7, r59_3, kq_seq c59 15, r59_4, kq_seq c59 31, r59_5, kq_ret c59 63, reduceIte, reduceCtorEq, XE.exit.injEq, Nat.reduceEqDiff, Nat.reduceMul, Nat.reduceAdd] <;> kernel_rfl
theorem F59_call : eInv env (k + 1) (.func 59) #[] #[x0, x1] h = F59 (eInv env k) k x0 x1 h := kq_inv F59_eq
noncomputable def c60 : Code := codeOf Try.prog 60
theorem r60_0  : kCode env 60 false inv k (cp c60 2) (act 18 [(0, x0)]) h K =
    bnd (pAlloc Try.prog 51 h) fun x2 =>
    K .normal (act 18 [(0, x0), (2, x2.1)]) x2.2 := kq_reg
theorem r60_1  : kCode env 60 false inv k (cp c60 12) (act 18 [(0, x0), (2, x2)]) h K =
    bnd (pLen Try.prog #[26] x0 h) fun x6 =>
    bnd (pBin Try.prog .gtr 3 (.tmp 6) (.const (.int .i64 8)) x6 (.int .i64 8)) fun x7 =>
    K .normal (act 18 [(0, x0), (2, x2), (7, x7)]) h := kq_reg
theorem b60_rlr  : kCode env 60 false inv k (cp c60 13) (act 18 [(0, x0), (2, x2), (7, x7)]) h K = brV x7 (kCode env 60 false inv k (cp c60 26) (act 18 [(0, x0), (2, x2), (7, x7)]) h K) (kCode env 60 false inv k (cp c60 27) (act 18 [(0, x0), (2, x2), (7, x7)]) h K) := kq_cond
theorem r60_2  : kCode env 60 false inv k (cp c60 52) (act 18 [(0, x0), (2, x2), (7, x7)]) h K =
    bnd (kSt (pStore Try.prog 51 x2 (.int .u64 0) h)) fun u =>
    K .normal (act 18 [(2, x2)]) u.2 := kq_reg
theorem res60_0 : resOfFn env.P 60 .ret (act 18 [(2, x2)]) h = bnd (pLoad Try.prog 51 x2 h) fun q0 =>
    some (q0, h) := kq_res
theorem r60_3  : kCode env 60 false inv k (cp c60 28) (act 18 [(0, x0), (2, x2), (7, x7)]) h K =
    bnd (inv (.func 70) #[] #[x0] h) fun x9 =>
    K .normal (act 18 [(2, x2), (9, x9.1)]) x9.2 := kq_reg
theorem g60_lrlrr  : kCode env 60 false inv k (cp c60 58) (act 18 [(2, x2), (9, x9)]) h K = kRange env 60 inv x9 (psOf (cp c60 58)) (cp c60 116) (cp c60 117) (act 18 [(2, x2), (9, x9)]) h fun e h => sw e (K .normal (act 18 [(2, x2), (9, x9)]) h) (none) [] := kq_range (g := x9) (ids := [])
noncomputable def F60_rlrr {β : Type} (inv : Inv) (k : Nat) (x2 x9 : Value) (h : AH) (kn : (Value → Value → AH → Option β)) : Option β :=
    kRange env 60 inv x9 (psOf (cp c60 58)) (cp c60 116) (cp c60 117) (act 18 [(2, x2), (9, x9)]) h fun e h => sw e
    (kn x2 x9 h)
    none []
theorem F60_rlrr_eq  : kCode env 60 false inv k (cp c60 29) (act 18 [(2, x2), (9, x9)]) h K = F60_rlrr inv k x2 x9 h (fun y2 y9 h => K .normal (act 18 [(2, y2), (9, y9)]) h) := by
      unfold F60_rlrr
      simp only [kq_block c60 29 0, g60_lrlrr, reduceIte, reduceCtorEq, XE.exit.injEq, Nat.reduceEqDiff, Nat.reduceMul, Nat.reduceAdd] <;> kernel_rfl
theorem r60_6  : kCode env 60 false inv k (cp c60 30) (act 18 [(2, x2), (9, x9)]) h K =
    bnd (pLoad Try.prog 51 x2 h) fun x17 =>
    bnd (kSt (pStore Try.prog 51 x2 x17 h)) fun u =>
    K .normal (act 18 [(2, x2)]) u.2 := kq_reg
/-- shadowbook/octet.Of -/
noncomputable def F60 (inv : Inv) (k : Nat) (x0 : Value) (h : AH) : Option (Value × AH) :=
    bnd (pAlloc Try.prog 51 h) fun x2 =>
    bnd (pLen Try.prog #[26] x0 x2.2) fun x6 =>
    bnd (pBin Try.prog .gtr 3 (.tmp 6) (.const (.int .i64 8)) x6 (.int .i64 8)) fun x7 =>
    brV x7
    (bnd (kSt (pStore Try.prog 51 x2.1 (.int .u64 0) x2.2)) fun u =>
    bnd (pLoad Try.prog 51 x2.1 u.2) fun q0 =>
    some (q0, u.2))
    (bnd (inv (.func 70) #[] #[x0] x2.2) fun x9 =>
    F60_rlrr inv k x2.1 x9.1 x9.2
    (fun y2 y9 h =>
    bnd (pLoad Try.prog 51 y2 h) fun x17 =>
    bnd (kSt (pStore Try.prog 51 y2 x17 h)) fun u_1 =>
    bnd (pLoad Try.prog 51 y2 u_1.2) fun q0 =>
    some (q0, u_1.2)))
theorem F60_eq : eFun env k inv 60 #[x0] h = F60 inv k x0 h := by
      refine (kq_fun (a := act 18 [(0, x0)]) (c := cp c60 1)).trans ?_
      unfold F60
      simp only [kq_seq c60 1, r60_0, kq_seq c60 3, kq_seq c60 6, r60_1, b60_rlr, kq_seq c60 26, r60_2, kq_ret c60 53, res60_0, kq_skip c60 27, kq_seq c60 7, kq_seq c60 14, r60_3, F60_rlrr_eq, kq_seq c60 15, r60_6, kq_ret c60 31, reduceIte, reduceCtorEq, XE.exit.injEq, Nat.reduceEqDiff, Nat.reduceMul, Nat.reduceAdd] <;> kernel_rfl
theorem F60_call : eInv env (k + 1) (.func 60) #[] #[x0] h = F60 (eInv env k) k x0 h := kq_inv F60_eq
theorem r60_4  : kCode env 60 true inv k (cp c60 116) (act 18 [(2, x2), (9, x9), (10, x10), (11, x11)]) h K =
    K .normal (act 18 [(2, x2), (4, x11)]) h := kq_reg
theorem r60_5  : kCode env 60 true inv k (cp c60 234) (act 18 [(2, x2), (4, x4)]) h K =
    bnd (pLoad Try.prog 51 x2 h) fun x12 =>
    bnd (pBin Try.prog .shl 51 (.tmp 12) (.const (.int .u64 8)) x12 (.int .u64 8)) fun x13 =>
    bnd (pConv Try.prog 5 51 x4 h) fun x15 =>
    bnd (pBin Try.prog .or 51 (.tmp 13) (.tmp 15) x13 x15) fun x16 =>
    bnd (kSt (pStore Try.prog 51 x2 x16 h)) fun u =>
    K .normal (act 18 []) u.2 := kq_reg
noncomputable def R60_lrlrr (inv : Inv) (k l : Nat) (x2 x9 z0 z1 : Value) (h : AH) : Option (Value × AH) :=
    rdBegin l h fun h =>
    bnd (pLoad Try.prog 51 x2 h) fun x12 =>
    bnd (pBin Try.prog .shl 51 (.tmp 12) (.const (.int .u64 8)) x12 (.int .u64 8)) fun x13 =>
    bnd (pConv Try.prog 5 51 z1 h) fun x15 =>
    bnd (pBin Try.prog .or 51 (.tmp 13) (.tmp 15) x13 x15) fun x16 =>
    bnd (kSt (pStore Try.prog 51 x2 x16 h)) fun u =>
    rdEnd l .normal u.2
theorem R60_lrlrr_eq {l : Nat} {pd : Option Code} (hl : h.get l = some (.loop .ready pd 60 (act 18 [(2, x2), (9, x9)]).tmps (psOf (cp c60 58)) (cp c60 116) (cp c60 117))) : eRound env k inv l #[z0, z1] h = R60_lrlrr inv k l x2 x9 z0 z1 h := by
      refine (eRound_k (a := act 18 [(2, x2), (9, x9), (10, z0), (11, z1)]) hl (by kernel_rfl) (by kernel_rfl)).trans ?_
      unfold R60_lrlrr
      simp only [r60_4, kq_block c60 117 1, r60_5, reduceIte, reduceCtorEq, XE.exit.injEq, Nat.reduceEqDiff, Nat.reduceMul, Nat.reduceAdd] <;> kernel_rfl
noncomputable def c61 : Code := codeOf Try.prog 61
theorem r61_0  : kCode env 61 false inv k (cp c61 2) (act 15 [(0, x0)]) h K =
    K .normal (act 15 [(0, x0)]) h := kq_reg
theorem r61_1  : kCode env 61 false inv k (cp c61 12) (act 15 [(0, x0)]) h K =
    bnd (pNilCheck x0) fun x4 =>
    bnd (pFieldAddr Try.prog 79 x4 0) fun x5 =>
    bnd (pLoad Try.prog 26 x5 h) fun x6 =>
    bnd (pLen Try.prog #[26] x6 h) fun x7 =>
    bnd (pBin Try.prog .geq 3 (.tmp 7) (.const (.int .i64 10)) x7 (.int .i64 10)) fun x8 =>
    K .normal (act 15 [(0, x0), (8, x8)]) h := kq_reg
theorem b61_rlr  : kCode env 61 false inv k (cp c61 13) (act 15 [(0, x0), (8, x8)]) h K = brV x8 (kCode env 61 false inv k (cp c61 26) (act 15 [(0, x0), (8, x8)]) h K) (kCode env 61 false inv k (cp c61 27) (act 15 [(0, x0), (8, x8)]) h K) := kq_cond
theorem r61_2  : kCode env 61 false inv k (cp c61 52) (act 15 [(0, x0), (8, x8)]) h K =
    K .normal (act 15 [(2, (.bool false))]) h := kq_reg
theorem res61_0 : resOfFn env.P 61 .ret (act 15 [(2, x2)]) h = some (x2, h) := kq_res
theorem r61_3  : kCode env 61 false inv k (cp c61 14) (act 15 [(0, x0), (8, x8)]) h K =
    bnd (pNilCheck x0) fun x10 =>
    bnd (pFieldAddr Try.prog 79 x10 0) fun x11 =>
    bnd (pLoad Try.prog 26 x11 h) fun x12 =>
    bnd (inv (.func 71) #[] #[x12, (.func (.func 72) #[] #[])] h) fun x13 =>
    bnd (pUn Try.prog .not x13.1) fun x14 =>
    K .normal (act 15 [(2, x14)]) x13.2 := kq_reg
/-- (*shadowbook/octet.Reader).ends -/
noncomputable def F61 (inv : Inv) (k : Nat) (x0 : Value) (h : AH) : Option (Value × AH) :=
    bnd (pNilCheck x0) fun x4 =>
    bnd (pFieldAddr Try.prog 79 x4 0) fun x5 =>
    bnd (pLoad Try.prog 26 x5 h) fun x6 =>
    bnd (pLen Try.prog #[26] x6 h) fun x7 =>
    bnd (pBin Try.prog .geq 3 (.tmp 7) (.const (.int .i64 10)) x7 (.int .i64 10)) fun x8 =>
    brV x8
    (some ((.bool false), h))
    (bnd (pNilCheck x0) fun x10 =>
    bnd (pFieldAddr Try.prog 79 x10 0) fun x11 =>
    bnd (pLoad Try.prog 26 x11 h) fun x12 =>
    bnd (inv (.func 71) #[] #[x12, (.func (.func 72) #[] #[])] h) fun x13 =>
    bnd (pUn Try.prog .not x13.1) fun x14 =>
    some (x14, x13.2))
theorem F61_eq : eFun env k inv 61 #[x0] h = F61 inv k x0 h := by
      refine (kq_fun (a := act 15 [(0, x0)]) (c := cp c61 1)).trans ?_
      unfold F61
      simp only [kq_seq c61 1, r61_0, kq_seq c61 3, kq_seq c61 6, r61_1, b61_rlr, kq_seq c61 26, r61_2, kq_ret c61 53, res61_0, kq_skip c61 27, kq_seq c61 7, r61_3, kq_ret c61 15, reduceIte, reduceCtorEq, XE.exit.injEq, Nat.reduceEqDiff, Nat.reduceMul, Nat.reduceAdd] <;> kernel_rfl
theorem F61_call : eInv env (k + 1) (.func 61) #[] #[x0] h = F61 (eInv env k) k x0 h := kq_inv F61_eq
noncomputable def c62 : Code := codeOf Try.prog 62
theorem r62_0  : kCode env 62 false inv k (cp c62 2) (act 11 [(0, x0)]) h K =
    K .normal (act 11 [(0, x0)]) h := kq_reg
theorem r62_1  : kCode env 62 false inv k (cp c62 6) (act 11 [(0, x0)]) h K =
    K .normal (act 11 [(0, x0), (3, (.int .i64 0))]) h := kq_reg
theorem r62_2  : kCode env 62 false inv k (cp c62 224) (act 11 [(0, x0), (3, x3)]) h K =
    bnd (pBin Try.prog .gtr 51 (.tmp 4) (.const (.int .u64 0)) x0 (.int .u64 0)) fun x5 =>
    K .normal (act 11 [(0, x0), (3, x3), (5, x5)]) h := kq_reg
theorem b62_rllllrr  : kCode env 62 false inv k (cp c62 225) (act 11 [(0, x0), (3, x3), (5, x5)]) h K = brV x5 (kCode env 62 false inv k (cp c62 450) (act 11 [(0, x0), (3, x3), (5, x5)]) h K) (kCode env 62 false inv k (cp c62 451) (act 11 [(0, x0), (3, x3), (5, x5)]) h K) := kq_cond
theorem r62_4  : kCode env 62 false inv k (cp c62 452) (act 11 [(0, x0), (3, x3), (5, x5)]) h K =
    bnd (pBin Try.prog .add 3 (.tmp 8) (.const (.int .i64 1)) x3 (.int .i64 1)) fun x9 =>
    K .normal (act 11 [(0, x0), (3, x9)]) h := kq_reg
theorem r62_3  : kCode env 62 false inv k (cp c62 227) (act 11 [(0, x0), (3, x3)]) h K =
    bnd (pBin Try.prog .shr 51 (.tmp 6) (.const (.int .u64 1)) x0 (.int .u64 1)) fun x7 =>
    K .normal (act 11 [(0, x7), (3, x3)]) h := kq_reg
noncomputable def F62_llrr {β : Type} (inv : Inv) (k : Nat) : Nat → Value → Value → AH → (Value → Value → Value → AH → Option β) → Option β
  | 0, _, _, _, _ => none
  | j + 1, x0, x3, h, ke0 =>
    bnd (pBin Try.prog .gtr 51 (.tmp 4) (.const (.int .u64 0)) x0 (.int .u64 0)) fun x5 =>
    brV x5
    (bnd (pBin Try.prog .add 3 (.tmp 8) (.const (.int .i64 1)) x3 (.int .i64 1)) fun x9 =>
    bnd (pBin Try.prog .shr 51 (.tmp 6) (.const (.int .u64 1)) x0 (.int .u64 1)) fun x7 =>
    F62_llrr inv k j x7 x9 h ke0)
    (ke0 x0 x3 x5 h)
theorem F62_llrr_j (j : Nat) : kLoop (kCode env 62 false inv k (cp c62 56)) j (act 11 [(0, x0), (3, x3)]) h K = F62_llrr inv k j x0 x3 h (fun y0 y3 y5 h => K (.exit 0) (act 11 [(0, y0), (3, y3), (5, y5)]) h) := by
      induction j generalizing x0 x3 h with
      | zero => rfl
      | succ j ih =>
        unfold F62_llrr
        simp only [kLoop, kq_seq c62 56, kq_seq c62 112, r62_2, b62_rllllrr, kq_skip c62 450, kq_seq c62 113, kq_block c62 226 1, r62_4, r62_3, kq_exit c62 451 0, ih, reduceIte, reduceCtorEq, XE.exit.injEq, Nat.reduceEqDiff, Nat.reduceMul, Nat.reduceAdd] <;> kernel_rfl
theorem F62_llrr_eq  : kCode env 62 false inv k (cp c62 28) (act 11 [(0, x0), (3, x3)]) h K = F62_llrr inv k k x0 x3 h (fun y0 y3 y5 h => K (.exit 0) (act 11 [(0, y0), (3, y3), (5, y5)]) h) := kq_loop (F62_llrr_j k)
theorem r62_5  : kCode env 62 false inv k (cp c62 30) (act 11 [(0, x0), (3, x3), (5, x5)]) h K =
    K .normal (act 11 [(2, x3)]) h := kq_reg
theorem res62_0 : resOfFn env.P 62 .ret (act 11 [(2, x2)]) h = some (x2, h) := kq_res
/-- shadowbook/shadowbookref05.bits -/
noncomputable def F62 (inv : Inv) (k : Nat) (x0 : Value) (h : AH) : Option (Value × AH) :=
    F62_llrr inv k k x0 (.int .i64 0) h
    (fun y0 y3 y5 h =>
    some (y3, h))
theorem F62_eq : eFun env k inv 62 #[x0] h = F62 inv k x0 h := by
      refine (kq_fun (a := act 11 [(0, x0)]) (c := cp c62 1)).trans ?_
      unfold F62
      simp only [kq_seq c62 1, r62_0, kq_seq c62 3, r62_1, kq_seq c62 7, kq_block c62 14 0, F62_llrr_eq, kq_seq c62 15, r62_5, kq_ret c62 31, res62_0, reduceIte, reduceCtorEq, XE.exit.injEq, Nat.reduceEqDiff, Nat.reduceMul, Nat.reduceAdd] <;> kernel_rfl
theorem F62_call : eInv env (k + 1) (.func 62) #[] #[x0] h = F62 (eInv env k) k x0 h := kq_inv F62_eq
noncomputable def c63 : Code := codeOf Try.prog 63
theorem r63_0  : kCode env 63 false inv k (cp c63 2) (act 19 [(0, x0), (1, x1)]) h K =
    K .normal (act 19 [(0, x0), (1, x1)]) h := kq_reg
noncomputable abbrev G63_1 {β : Type} (inv : Inv) (x0 x1 : Value) (h : AH) (K : Value → AH → Option β) : Option β :=
    bnd (pBin Try.prog .geq 3 (.tmp 5) (.const (.int .i64 0)) x0 (.int .i64 0)) fun x6 =>
    bnd (gd (some x6) true h (some (x0, h))) fun x8 =>
    bnd (gd (some x6) true x8.2 (lt (pBin Try.prog .leq 3 (.tmp 8) (.const (.int .i64 65536)) x8.1 (.int .i64 65536)) x8.2)) fun x9 =>
    bnd (pickV x6 x9.1 (.bool false)) fun x10 =>
    bnd (gd (some x10) true x9.2 (some (x1, x9.2))) fun x12 =>
    bnd (gd (some x10) true x12.2 (lt (pBin Try.prog .geq 3 (.tmp 12) (.const (.int .i64 0)) x12.1 (.int .i64 0)) x12.2)) fun x13 =>
    bnd (pickV x10 x13.1 (.bool false)) fun x14 =>
    bnd (gd (some x14) true x13.2 (some (x1, x13.2))) fun x16 =>
    bnd (gd (some x14) true x16.2 (lt (pBin Try.prog .leq 3 (.tmp 16) (.const (.int .i64 64)) x16.1 (.int .i64 64)) x16.2)) fun x17 =>
    bnd (pickV x14 x17.1 (.bool false)) fun x18 =>
    K (x18) x17.2
theorem r63_1  : kCode env 63 false inv k (cp c63 6) (act 19 [(0, x0), (1, x1)]) h K =
    G63_1 inv x0 x1 h fun y4 h => K .normal (act 19 [(4, y4)]) h := kq_reg
theorem res63_0 : resOfFn env.P 63 .ret (act 19 [(4, x4)]) h = some (x4, h) := kq_res
/-- shadowbook/shadowbookref05.may -/
noncomputable def F63 (inv : Inv) (k : Nat) (x0 x1 : Value) (h : AH) : Option (Value × AH) :=
    G63_1 inv x0 x1 h fun y4 h =>
    some (y4, h)
theorem F63_eq : eFun env k inv 63 #[x0, x1] h = F63 inv k x0 x1 h := by
      refine (kq_fun (a := act 19 [(0, x0), (1, x1)]) (c := cp c63 1)).trans ?_
      unfold F63
      simp only [kq_seq c63 1, r63_0, kq_seq c63 3, r63_1, kq_ret c63 7, res63_0, reduceIte, reduceCtorEq, XE.exit.injEq, Nat.reduceEqDiff, Nat.reduceMul, Nat.reduceAdd] <;> kernel_rfl
theorem F63_call : eInv env (k + 1) (.func 63) #[] #[x0, x1] h = F63 (eInv env k) k x0 x1 h := kq_inv F63_eq
noncomputable def c64 : Code := codeOf Try.prog 64
theorem r64_0  : kCode env 64 false inv k (cp c64 2) (act 14 [(0, x0), (1, x1)]) h K =
    K .normal (act 14 [(0, x0), (1, x1)]) h := kq_reg
theorem r64_1  : kCode env 64 false inv k (cp c64 12) (act 14 [(0, x0), (1, x1)]) h K =
    bnd (inv (.func 63) #[] #[x0, x1] h) fun x7 =>
    bnd (pUn Try.prog .not x7.1) fun x8 =>
    K .normal (act 14 [(0, x0), (1, x1), (8, x8)]) x7.2 := kq_reg
theorem b64_rlr  : kCode env 64 false inv k (cp c64 13) (act 14 [(0, x0), (1, x1), (8, x8)]) h K = brV x8 (kCode env 64 false inv k (cp c64 26) (act 14 [(0, x0), (1, x1), (8, x8)]) h K) (kCode env 64 false inv k (cp c64 27) (act 14 [(0, x0), (1, x1), (8, x8)]) h K) := kq_cond
theorem r64_2  : kCode env 64 false inv k (cp c64 52) (act 14 [(0, x0), (1, x1), (8, x8)]) h K =
    K .normal (act 14 [(4, (.int .i64 0))]) h := kq_reg
theorem res64_0 : resOfFn env.P 64 .ret (act 14 [(4, x4)]) h = some (x4, h) := kq_res
theorem r64_3  : kCode env 64 false inv k (cp c64 14) (act 14 [(0, x0), (1, x1), (8, x8)]) h K =
    bnd (pBin Try.prog .mul 3 (.tmp 9) (.tmp 10) x0 x1) fun x11 =>
    bnd (pBin Try.prog .add 3 (.tmp 11) (.const (.int .i64 7)) x11 (.int .i64 7)) fun x12 =>
    bnd (pBin Try.prog .quo 3 (.tmp 12) (.const (.int .i64 8)) x12 (.int .i64 8)) fun x13 =>
    K .normal (act 14 [(4, x13)]) h := kq_reg
/-- shadowbook/shadowbookref05.Size -/
noncomputable def F64 (inv : Inv) (k : Nat) (x0 x1 : Value) (h : AH) : Option (Value × AH) :=
    bnd (inv (.func 63) #[] #[x0, x1] h) fun x7 =>
    bnd (pUn Try.prog .not x7.1) fun x8 =>
    brV x8
    (some ((.int .i64 0), x7.2))
    (bnd (pBin Try.prog .mul 3 (.tmp 9) (.tmp 10) x0 x1) fun x11 =>
    bnd (pBin Try.prog .add 3 (.tmp 11) (.const (.int .i64 7)) x11 (.int .i64 7)) fun x12 =>
    bnd (pBin Try.prog .quo 3 (.tmp 12) (.const (.int .i64 8)) x12 (.int .i64 8)) fun x13 =>
    some (x13, x7.2))
theorem F64_eq : eFun env k inv 64 #[x0, x1] h = F64 inv k x0 x1 h := by
      refine (kq_fun (a := act 14 [(0, x0), (1, x1)]) (c := cp c64 1)).trans ?_
      unfold F64
      simp only [kq_seq c64 1, r64_0, kq_seq c64 3, kq_seq c64 6, r64_1, b64_rlr, kq_seq c64 26, r64_2, kq_ret c64 53, res64_0, kq_skip c64 27, kq_seq c64 7, r64_3, kq_ret c64 15, reduceIte, reduceCtorEq, XE.exit.injEq, Nat.reduceEqDiff, Nat.reduceMul, Nat.reduceAdd] <;> kernel_rfl
theorem F64_call : eInv env (k + 1) (.func 64) #[] #[x0, x1] h = F64 (eInv env k) k x0 x1 h := kq_inv F64_eq
noncomputable def c65 : Code := codeOf Try.prog 65
theorem r65_0  : kCode env 65 false inv k (cp c65 2) (act 26 [(0, x0)]) h K =
    K .normal (act 26 [(0, x0)]) h := kq_reg
theorem r65_1  : kCode env 65 false inv k (cp c65 6) (act 26 [(0, x0)]) h K =
    K .normal (act 26 [(0, x0), (3, (.int .u64 0))]) h := kq_reg
theorem r65_2  : kCode env 65 false inv k (cp c65 28) (act 26 [(0, x0), (3, x3)]) h K =
    bnd (pLen Try.prog #[26] x0 h) fun x6 =>
    bnd (pBin Try.prog .gtr 3 (.tmp 6) (.const (.int .i64 8)) x6 (.int .i64 8)) fun x7 =>
    K .normal (act 26 [(0, x0), (3, x3), (7, x7)]) h := kq_reg
theorem b65_rlrr  : kCode env 65 false inv k (cp c65 29) (act 26 [(0, x0), (3, x3), (7, x7)]) h K = brV x7 (kCode env 65 false inv k (cp c65 58) (act 26 [(0, x0), (3, x3), (7, x7)]) h K) (kCode env 65 false inv k (cp c65 59) (act 26 [(0, x0), (3, x3), (7, x7)]) h K) := kq_cond
theorem r65_3  : kCode env 65 false inv k (cp c65 116) (act 26 [(0, x0), (3, x3), (7, x7)]) h K =
    K .normal (act 26 [(2, (.int .u64 0))]) h := kq_reg
theorem res65_0 : resOfFn env.P 65 .ret (act 26 [(2, x2)]) h = some (x2, h) := kq_res
theorem r65_4  : kCode env 65 false inv k (cp c65 60) (act 26 [(0, x0), (3, x3), (7, x7)]) h K =
    K .normal (act 26 [(0, x0), (3, x3), (4, (.int .i64 0))]) h := kq_reg
theorem r65_5  : kCode env 65 false inv k (cp c65 976) (act 26 [(0, x0), (3, x3), (4, x4)]) h K =
    bnd (pLen Try.prog #[26] x0 h) fun x10 =>
    bnd (pBin Try.prog .lss 3 (.tmp 8) (.tmp 10) x4 x10) fun x11 =>
    K .normal (act 26 [(0, x0), (3, x3), (4, x4), (11, x11)]) h := kq_reg
theorem b65_rlllrlrrr  : kCode env 65 false inv k (cp c65 977) (act 26 [(0, x0), (3, x3), (4, x4), (11, x11)]) h K = brV x11 (kCode env 65 false inv k (cp c65 1954) (act 26 [(0, x0), (3, x3), (4, x4), (11, x11)]) h K) (kCode env 65 false inv k (cp c65 1955) (act 26 [(0, x0), (3, x3), (4, x4), (11, x11)]) h K) := kq_cond
noncomputable abbrev G65_7 {β : Type} (inv : Inv) (x0 x3 x4 : Value) (h : AH) (K : Value → AH → Option β) : Option β :=
    bnd (pIndexAddr Try.prog 26 x0 x4) fun x17 =>
    bnd (pLoad Try.prog 5 x17 h) fun x18 =>
    bnd (pConv Try.prog 5 51 x18 h) fun x19 =>
    bnd (pBin Try.prog .mul 3 (.const (.int .i64 8)) (.tmp 20) (.int .i64 8) x4) fun x21 =>
    bnd (pConv Try.prog 3 76 x21 h) fun x22 =>
    bnd (pBin Try.prog .shl 51 (.tmp 19) (.tmp 22) x19 x22) fun x23 =>
    bnd (pBin Try.prog .or 51 (.tmp 14) (.tmp 23) x3 x23) fun x24 =>
    K (x24) h
theorem r65_7  : kCode env 65 false inv k (cp c65 1956) (act 26 [(0, x0), (3, x3), (4, x4), (11, x11)]) h K =
    G65_7 inv x0 x3 x4 h fun y3 h => K .normal (act 26 [(0, x0), (3, y3), (4, x4)]) h := kq_reg
theorem r65_6  : kCode env 65 false inv k (cp c65 979) (act 26 [(0, x0), (3, x3), (4, x4)]) h K =
    bnd (pBin Try.prog .add 3 (.tmp 12) (.const (.int .i64 1)) x4 (.int .i64 1)) fun x13 =>
    K .normal (act 26 [(0, x0), (3, x3), (4, x13)]) h := kq_reg
noncomputable def F65_lrlrrr {β : Type} (inv : Inv) (k : Nat) : Nat → Value → Value → Value → AH → (Value → Value → Value → Value → AH → Option β) → Option β
  | 0, _, _, _, _, _ => none
  | j + 1, x0, x3, x4, h, ke0 =>
    bnd (pLen Try.prog #[26] x0 h) fun x10 =>
    bnd (pBin Try.prog .lss 3 (.tmp 8) (.tmp 10) x4 x10) fun x11 =>
    brV x11
    (G65_7 inv x0 x3 x4 h fun y3 h =>
    bnd (pBin Try.prog .add 3 (.tmp 12) (.const (.int .i64 1)) x4 (.int .i64 1)) fun x13 =>
    F65_lrlrrr inv k j x0 y3 x13 h ke0)
    (ke0 x0 x3 x4 x11 h)
theorem F65_lrlrrr_j (j : Nat) : kLoop (kCode env 65 false inv k (cp c65 244)) j (act 26 [(0, x0), (3, x3), (4, x4)]) h K = F65_lrlrrr inv k j x0 x3 x4 h (fun y0 y3 y4 y11 h => K (.exit 0) (act 26 [(0, y0), (3, y3), (4, y4), (11, y11)]) h) := by
      induction j generalizing x0 x3 x4 h with
      | zero => rfl
      | succ j ih =>
        unfold F65_lrlrrr
        simp only [kLoop, kq_seq c65 244, kq_seq c65 488, r65_5, b65_rlllrlrrr, kq_skip c65 1954, kq_seq c65 489, kq_block c65 978 1, r65_7, r65_6, kq_exit c65 1955 0, ih, reduceIte, reduceCtorEq, XE.exit.injEq, Nat.reduceEqDiff, Nat.reduceMul, Nat.reduceAdd] <;> kernel_rfl
theorem F65_lrlrrr_eq  : kCode env 65 false inv k (cp c65 122) (act 26 [(0, x0), (3, x3), (4, x4)]) h K = F65_lrlrrr inv k k x0 x3 x4 h (fun y0 y3 y4 y11 h => K (.exit 0) (act 26 [(0, y0), (3, y3), (4, y4), (11, y11)]) h) := kq_loop (F65_lrlrrr_j k)
theorem r65_8  : kCode env 65 false inv k (cp c65 62) (act 26 [(0, x0), (3, x3), (4, x4), (11, x11)]) h K =
    K .normal (act 26 [(2, x3)]) h := kq_reg
/-- shadowbook/shadowbookref01.Of -/
noncomputable def F65 (inv : Inv) (k : Nat) (x0 : Value) (h : AH) : Option (Value × AH) :=
    bnd (pLen Try.prog #[26] x0 h) fun x6 =>
    bnd (pBin Try.prog .gtr 3 (.tmp 6) (.const (.int .i64 8)) x6 (.int .i64 8)) fun x7 =>
    brV x7
    (some ((.int .u64 0), h))
    (F65_lrlrrr inv k k x0 (.int .u64 0) (.int .i64 0) h
    (fun y0 y3 y4 y11 h =>
    some (y3, h)))
theorem F65_eq : eFun env k inv 65 #[x0] h = F65 inv k x0 h := by
      refine (kq_fun (a := act 26 [(0, x0)]) (c := cp c65 1)).trans ?_
      unfold F65
      simp only [kq_seq c65 1, r65_0, kq_seq c65 3, r65_1, kq_seq c65 7, kq_seq c65 14, r65_2, b65_rlrr, kq_seq c65 58, r65_3, kq_ret c65 117, res65_0, kq_skip c65 59, kq_seq c65 15, kq_seq c65 30, r65_4, kq_block c65 61 0, F65_lrlrrr_eq, kq_seq c65 31, r65_8, kq_ret c65 63, reduceIte, reduceCtorEq, XE.exit.injEq, Nat.reduceEqDiff, Nat.reduceMul, Nat.reduceAdd] <;> kernel_rfl
theorem F65_call : eInv env (k + 1) (.func 65) #[] #[x0] h = F65 (eInv env k) k x0 h := kq_inv F65_eq
noncomputable def c66 : Code := codeOf Try.prog 66
theorem r66_0  : kCode env 66 false inv k (cp c66 2) (act 48 [(0, x0), (1, x1)]) h K =
    K .normal (act 48 [(0, x0), (1, x1)]) h := kq_reg
theorem r66_1  : kCode env 66 false inv k (cp c66 12) (act 48 [(0, x0), (1, x1)]) h K =
    bnd (pBin Try.prog .lss 3 (.tmp 9) (.const (.int .i64 0)) x1 (.int .i64 0)) fun x10 =>
    K .normal (act 48 [(0, x0), (1, x1), (10, x10)]) h := kq_reg
theorem b66_rlr  : kCode env 66 false inv k (cp c66 13) (act 48 [(0, x0), (1, x1), (10, x10)]) h K = brV x10 (kCode env 66 false inv k (cp c66 26) (act 48 [(0, x0), (1, x1), (10, x10)]) h K) (kCode env 66 false inv k (cp c66 27) (act 48 [(0, x0), (1, x1), (10, x10)]) h K) := kq_cond
theorem r66_2  : kCode env 66 false inv k (cp c66 26) (act 48 [(0, x0), (1, x1), (10, x10)]) h K =
    bnd (pMakeIface Try.prog 9 (.string { data := #[99, 97, 110, 110, 111, 116, 32, 98, 101, 32, 110, 101, 103, 97, 116, 105, 118, 101] })) fun x11 =>
    bnd ((none : Option (Value × AH))) fun u =>
    K .normal (act 48 [(0, x0), (1, x1)]) u.2 := kq_reg
noncomputable def F66_rlr {β : Type} (inv : Inv) (k : Nat) (x0 x1 x10 : Value) (h : AH) (kn : (Value → Value → Value → AH → Option β)) : Option β :=
    brV x10
    (bnd (pMakeIface Try.prog 9 (.string { data := #[99, 97, 110, 110, 111, 116, 32, 98, 101, 32, 110, 101, 103, 97, 116, 105, 118, 101] })) fun x11 =>
    bnd ((none : Option (Value × AH))) fun u =>
    kn x0 x1 unk u.2)
    (kn x0 x1 x10 h)
theorem F66_rlr_eq  : kCode env 66 false inv k (cp c66 13) (act 48 [(0, x0), (1, x1), (10, x10)]) h K = F66_rlr inv k x0 x1 x10 h (fun y0 y1 y10 h => K .normal (act 48 [(0, y0), (1, y1), (10, y10)]) h) := by
      unfold F66_rlr
      simp only [b66_rlr, r66_2, kq_skip c66 27, reduceIte, reduceCtorEq, XE.exit.injEq, Nat.reduceEqDiff, Nat.reduceMul, Nat.reduceAdd] <;> kernel_rfl
theorem r66_3  : kCode env 66 false inv k (cp c66 14) (act 48 [(0, x0), (1, x1), (10, x10)]) h K =
    bnd (pLen Try.prog #[25] x0 h) fun x14 =>
    bnd (pConv Try.prog 3 76 x14 h) fun x15 =>
    bnd (pConv Try.prog 3 76 x1 h) fun x17 =>
    bnd (inv (.func 73) #[] #[x15, x17] h) fun x18 =>
    bnd (pExtract x18.1 0) fun x19 =>
    bnd (pExtract x18.1 1) fun x20 =>
    K .normal (act 48 [(0, x0), (5, x19), (6, x20)]) x18.2 := kq_reg
noncomputable abbrev G66_4 {β : Type} (inv : Inv) (x0 x5 x6 : Value) (h : AH) (K : Value → AH → Option β) : Option β :=
    bnd (pBin Try.prog .gtr 76 (.tmp 21) (.const (.int .u64 0)) x5 (.int .u64 0)) fun x22 =>
    bnd (gd (some x22) false h (some (x6, h))) fun x24 =>
    bnd (gd (some x22) false x24.2 (lt (pBin Try.prog .gtr 76 (.tmp 24) (.const (.int .u64 9223372036854775807)) x24.1 (.int .u64 9223372036854775807)) x24.2)) fun x25 =>
    bnd (pickV x22 (.bool true) x25.1) fun x26 =>
    K (x26) x25.2
theorem r66_4  : kCode env 66 false inv k (cp c66 60) (act 48 [(0, x0), (5, x5), (6, x6)]) h K =
    G66_4 inv x0 x5 x6 h fun y26 h => K .normal (act 48 [(0, x0), (6, x6), (26, y26)]) h := kq_reg
theorem b66_rlrrr  : kCode env 66 false inv k (cp c66 61) (act 48 [(0, x0), (6, x6), (26, x26)]) h K = brV x26 (kCode env 66 false inv k (cp c66 122) (act 48 [(0, x0), (6, x6), (26, x26)]) h K) (kCode env 66 false inv k (cp c66 123) (act 48 [(0, x0), (6, x6), (26, x26)]) h K) := kq_cond
theorem r66_5  : kCode env 66 false inv k (cp c66 122) (act 48 [(0, x0), (6, x6), (26, x26)]) h K =
    bnd (pMakeIface Try.prog 9 (.string { data := #[116, 104, 101, 32, 114, 101, 115, 117, 108, 116, 32, 111, 102, 32, 40, 108, 101, 110, 40, 120, 41, 32, 42, 32, 99, 111, 117, 110, 116, 41, 32, 111, 118, 101, 114, 102, 108, 111, 119, 115] })) fun x27 =>
    bnd ((none : Option (Value × AH))) fun u =>
    K .normal (act 48 [(0, x0), (6, x6)]) u.2 := kq_reg
noncomputable def F66_rlrrr {β : Type} (inv : Inv) (k : Nat) (x0 x6 x26 : Value) (h : AH) (kn : (Value → Value → Value → AH → Option β)) : Option β :=
    brV x26
    (bnd (pMakeIface Try.prog 9 (.string { data := #[116, 104, 101, 32, 114, 101, 115, 117, 108, 116, 32, 111, 102, 32, 40, 108, 101, 110, 40, 120, 41, 32, 42, 32, 99, 111, 117, 110, 116, 41, 32, 111, 118, 101, 114, 102, 108, 111, 119, 115] })) fun x27 =>
    bnd ((none : Option (Value × AH))) fun u =>
    kn x0 x6 unk u.2)
    (kn x0 x6 x26 h)
theorem F66_rlrrr_eq  : kCode env 66 false inv k (cp c66 61) (act 48 [(0, x0), (6, x6), (26, x26)]) h K = F66_rlrrr inv k x0 x6 x26 h (fun y0 y6 y26 h => K .normal (act 48 [(0, y0), (6, y6), (26, y26)]) h) := by
      unfold F66_rlrrr
      simp only [b66_rlrrr, r66_5, kq_skip c66 123, reduceIte, reduceCtorEq, XE.exit.injEq, Nat.reduceEqDiff, Nat.reduceMul, Nat.reduceAdd] <;> kernel_rfl
theorem r66_6  : kCode env 66 false inv k (cp c66 62) (act 48 [(0, x0), (6, x6), (26, x26)]) h K =
    bnd (pConv Try.prog 76 3 x6 h) fun x29 =>
    bnd (pMakeSlice Try.prog 25 x29 x29 h) fun x30 =>
    K .normal (act 48 [(0, x0), (7, x30.1)]) x30.2 := kq_reg
theorem r66_7  : kCode env 66 false inv k (cp c66 126) (act 48 [(0, x0), (7, x7)]) h K =
    bnd (pCopy Try.prog #[25, 25] x7 x0 h) fun x33 =>
    K .normal (act 48 [(7, x7), (8, x33.1)]) x33.2 := kq_reg
theorem r66_8  : kCode env 66 false inv k (cp c66 4064) (act 48 [(7, x7), (8, x8)]) h K =
    bnd (pLen Try.prog #[25] x7 h) fun x36 =>
    bnd (pBin Try.prog .lss 3 (.tmp 34) (.tmp 36) x8 x36) fun x37 =>
    K .normal (act 48 [(7, x7), (8, x8), (37, x37)]) h := kq_reg
theorem b66_rllllrrrrrr  : kCode env 66 false inv k (cp c66 4065) (act 48 [(7, x7), (8, x8), (37, x37)]) h K = brV x37 (kCode env 66 false inv k (cp c66 8130) (act 48 [(7, x7), (8, x8), (37, x37)]) h K) (kCode env 66 false inv k (cp c66 8131) (act 48 [(7, x7), (8, x8), (37, x37)]) h K) := kq_cond
theorem r66_9  : kCode env 66 false inv k (cp c66 4066) (act 48 [(7, x7), (8, x8), (37, x37)]) h K =
    bnd (pSlice Try.prog 25 x7 (some x8) none none h) fun x41 =>
    bnd (pSlice Try.prog 25 x7 none (some x8) none h) fun x44 =>
    bnd (pCopy Try.prog #[25, 25] x41 x44 h) fun x45 =>
    bnd (pBin Try.prog .add 3 (.tmp 38) (.tmp 45) x8 x45.1) fun x46 =>
    K .normal (act 48 [(7, x7), (8, x46)]) x45.2 := kq_draw
noncomputable def F66_llrrrrrr {β : Type} (inv : Inv) (k : Nat) : Nat → Value → Value → AH → (Value → Value → Value → AH → Option β) → Option β
  | 0, _, _, _, _ => none
  | j + 1, x7, x8, h, ke0 =>
    bnd (pLen Try.prog #[25] x7 h) fun x36 =>
    bnd (pBin Try.prog .lss 3 (.tmp 34) (.tmp 36) x8 x36) fun x37 =>
    brV x37
    (bnd (pSlice Try.prog 25 x7 (some x8) none none h) fun x41 =>
    bnd (pSlice Try.prog 25 x7 none (some x8) none h) fun x44 =>
    bnd (pCopy Try.prog #[25, 25] x41 x44 h) fun x45 =>
    bnd (pBin Try.prog .add 3 (.tmp 38) (.tmp 45) x8 x45.1) fun x46 =>
    F66_llrrrrrr inv k j x7 x46 x45.2 ke0)
    (ke0 x7 x8 x37 h)
theorem F66_llrrrrrr_j (j : Nat) : kLoop (kCode env 66 false inv k (cp c66 1016)) j (act 48 [(7, x7), (8, x8)]) h K = F66_llrrrrrr inv k j x7 x8 h (fun y7 y8 y37 h => K (.exit 0) (act 48 [(7, y7), (8, y8), (37, y37)]) h) := by
      induction j generalizing x7 x8 h with
      | zero => rfl
      | succ j ih =>
        unfold F66_llrrrrrr
        simp only [kLoop, kq_seq c66 1016, kq_seq c66 2032, r66_8, b66_rllllrrrrrr, kq_skip c66 8130, kq_block c66 2033 1, r66_9, kq_exit c66 8131 0, ih, reduceIte, reduceCtorEq, XE.exit.injEq, Nat.reduceEqDiff, Nat.reduceMul, Nat.reduceAdd] <;> kernel_rfl
theorem F66_llrrrrrr_eq  : kCode env 66 false inv k (cp c66 508) (act 48 [(7, x7), (8, x8)]) h K = F66_llrrrrrr inv k k x7 x8 h (fun y7 y8 y37 h => K (.exit 0) (act 48 [(7, y7), (8, y8), (37, y37)]) h) := kq_loop (F66_llrrrrrr_j k)
theorem r66_10  : kCode env 66 false inv k (cp c66 510) (act 48 [(7, x7), (8, x8), (37, x37)]) h K =
    K .normal (act 48 [(4, x7)]) h := kq_reg
theorem res66_0 : resOfFn env.P 66 .ret (act 48 [(4, x4)]) h = some (x4, h) := kq_res
/-- slices.Repeat[[]int64,int64] -/
noncomputable def F66 (inv : Inv) (k : Nat) (x0 x1 : Value) (h : AH) : Option (Value × AH) :=
    bnd (pBin Try.prog .lss 3 (.tmp 9) (.const (.int .i64 0)) x1 (.int .i64 0)) fun x10 =>
    F66_rlr inv k x0 x1 x10 h
    (fun y0 y1 y10 h =>
    bnd (pLen Try.prog #[25] y0 h) fun x14 =>
    bnd (pConv Try.prog 3 76 x14 h) fun x15 =>
    bnd (pConv Try.prog 3 76 y1 h) fun x17 =>
    bnd (inv (.func 73) #[] #[x15, x17] h) fun x18 =>
    bnd (pExtract x18.1 0) fun x19 =>
    bnd (pExtract x18.1 1) fun x20 =>
    G66_4 inv y0 x19 x20 x18.2 fun y26 h_1 =>
    F66_rlrrr inv k y0 x20 y26 h_1
    (fun y0_2 y6 y26_3 h_4 =>
    bnd (pConv Try.prog 76 3 y6 h_4) fun x29 =>
    bnd (pMakeSlice Try.prog 25 x29 x29 h_4) fun x30 =>
    bnd (pCopy Try.prog #[25, 25] x30.1 y0_2 x30.2) fun x33 =>
    F66_llrrrrrr inv k k x30.1 x33.1 x33.2
    (fun y7 y8 y37 h_5 =>
    some (y7, h_5))))
theorem F66_eq : eFun env k inv 66 #[x0, x1] h = F66 inv k x0 x1 h := by
      refine (kq_fun (a := act 48 [(0, x0), (1, x1)]) (c := cp c66 1)).trans ?_
      unfold F66
      simp only [kq_seq c66 1, r66_0, kq_seq c66 3, kq_seq c66 6, r66_1, F66_rlr_eq, kq_seq c66 7, r66_3, kq_seq c66 15, kq_seq c66 30, r66_4, F66_rlrrr_eq, kq_seq c66 31, r66_6, kq_seq c66 63, r66_7, kq_seq c66 127, kq_block c66 254 0, F66_llrrrrrr_eq, kq_seq c66 255, r66_10, kq_ret c66 511, res66_0, reduceIte, reduceCtorEq, XE.exit.injEq, Nat.reduceEqDiff, Nat.reduceMul, Nat.reduceAdd] <;> kernel_rfl
theorem F66_call : eInv env (k + 1) (.func 66) #[] #[x0, x1] h = F66 (eInv env k) k x0 x1 h := kq_inv F66_eq
noncomputable def c67 : Code := codeOf Try.prog 67
theorem r67_0  : kCode env 67 false inv k (cp c67 2) (act 23 [(0, x0), (1, x1)]) h K =
    K .normal (act 23 [(0, x0), (1, x1)]) h := kq_reg
theorem r67_1  : kCode env 67 false inv k (cp c67 24) (act 23 [(0, x0), (1, x1)]) h K =
    bnd (pBin Try.prog .eql 57 (.tmp 9) (.const (.pointer none)) x0 (.pointer none)) fun x10 =>
    K .normal (act 23 [(0, x0), (1, x1), (8, x10)]) h := kq_reg
theorem b67_rllr  : kCode env 67 false inv k (cp c67 25) (act 23 [(0, x0), (1, x1), (8, x8)]) h K = brV x8 (kCode env 67 false inv k (cp c67 50) (act 23 [(0, x0), (1, x1), (8, x8)]) h K) (kCode env 67 false inv k (cp c67 51) (act 23 [(0, x0), (1, x1), (8, x8)]) h K) := kq_cond
theorem r67_2  : kCode env 67 false inv k (cp c67 100) (act 23 [(0, x0), (1, x1), (8, x8)]) h K =
    K .normal (act 23 [(4, (.slice none 0 0)), (5, (.int .i64 1))]) h := kq_reg
theorem res67_0 : resOfFn env.P 67 .ret (act 23 [(4, x4), (5, x5)]) h = some (.tuple #[x4, x5], h) := kq_res
theorem r67_3  : kCode env 67 false inv k (cp c67 102) (act 23 [(0, x0), (1, x1), (8, x8)]) h K =
    bnd (pBin Try.prog .lss 3 (.tmp 12) (.const (.int .i64 0)) x1 (.int .i64 0)) fun x13 =>
    K .normal (act 23 [(0, x0), (1, x1), (11, x13)]) h := kq_reg
theorem b67_rrrllr  : kCode env 67 false inv k (cp c67 103) (act 23 [(0, x0), (1, x1), (11, x11)]) h K = brV x11 (kCode env 67 false inv k (cp c67 206) (act 23 [(0, x0), (1, x1), (11, x11)]) h K) (kCode env 67 false inv k (cp c67 207) (act 23 [(0, x0), (1, x1), (11, x11)]) h K) := kq_cond
theorem r67_4  : kCode env 67 false inv k (cp c67 412) (act 23 [(0, x0), (1, x1), (11, x11)]) h K =
    K .normal (act 23 [(4, (.slice none 0 0)), (5, (.int .i64 2))]) h := kq_reg
theorem r67_5  : kCode env 67 false inv k (cp c67 14) (act 23 [(0, x0), (1, x1), (11, x11)]) h K =
    bnd (inv (.func 59) #[] #[x0, x1] h) fun x17 =>
    bnd (pExtract x17.1 0) fun x18 =>
    bnd (pExtract x17.1 1) fun x19 =>
    K .normal (act 23 [(6, x18), (7, x19)]) x17.2 := kq_reg
theorem r67_6  : kCode env 67 false inv k (cp c67 30) (act 23 [(6, x6), (7, x7)]) h K =
    bnd (inv (.func 58) #[] #[x6] h) fun x21 =>
    K .normal (act 23 [(4, x21.1), (5, x7)]) x21.2 := kq_reg
/-- (*shadowbook/octet.Reader).Bytes -/
noncomputable def F67 (inv : Inv) (k : Nat) (x0 x1 : Value) (h : AH) : Option (Value × AH) :=
    bnd (pBin Try.prog .eql 57 (.tmp 9) (.const (.pointer none)) x0 (.pointer none)) fun x10 =>
    brV x10
    (some (.tuple #[(.slice none 0 0), (.int .i64 1)], h))
    (bnd (pBin Try.prog .lss 3 (.tmp 12) (.const (.int .i64 0)) x1 (.int .i64 0)) fun x13 =>
    brV x13
    (some (.tuple #[(.slice none 0 0), (.int .i64 2)], h))
    (bnd (inv (.func 59) #[] #[x0, x1] h) fun x17 =>
    bnd (pExtract x17.1 0) fun x18 =>
    bnd (pExtract x17.1 1) fun x19 =>
    bnd (inv (.func 58) #[] #[x18] x17.2) fun x21 =>
    some (.tuple #[x21.1, x19], x21.2)))
theorem F67_eq : eFun env k inv 67 #[x0, x1] h = F67 inv k x0 x1 h := by
      refine (kq_fun (a := act 23 [(0, x0), (1, x1)]) (c := cp c67 1)).trans ?_
      unfold F67
      simp only [kq_seq c67 1, r67_0, kq_seq c67 3, kq_block c67 6 0, kq_seq c67 12, r67_1, b67_rllr, kq_seq c67 50, r67_2, kq_ret c67 101, res67_0, kq_seq c67 51, r67_3, b67_rrrllr, kq_seq c67 206, r67_4, kq_ret c67 413, kq_skip c67 207, kq_seq c67 7, r67_5, kq_seq c67 15, r67_6, kq_ret c67 31, reduceIte, reduceCtorEq, XE.exit.injEq, Nat.reduceEqDiff, Nat.reduceMul, Nat.reduceAdd] <;> kernel_rfl
theorem F67_call : eInv env (k + 1) (.func 67) #[] #[x0, x1] h = F67 (eInv env k) k x0 x1 h := kq_inv F67_eq
noncomputable def c68 : Code := codeOf Try.prog 68
theorem r68_0  : kCode env 68 false inv k (cp c68 2) (act 10 [(0, x0)]) h K =
    K .normal (act 10 [(0, x0)]) h := kq_reg
theorem r68_1  : kCode env 68 false inv k (cp c68 12) (act 10 [(0, x0)]) h K =
    bnd (pBin Try.prog .eql 57 (.tmp 3) (.const (.pointer none)) x0 (.pointer none)) fun x4 =>
    K .normal (act 10 [(0, x0), (4, x4)]) h := kq_reg
theorem b68_rlr  : kCode env 68 false inv k (cp c68 13) (act 10 [(0, x0), (4, x4)]) h K = brV x4 (kCode env 68 false inv k (cp c68 26) (act 10 [(0, x0), (4, x4)]) h K) (kCode env 68 false inv k (cp c68 27) (act 10 [(0, x0), (4, x4)]) h K) := kq_cond
theorem r68_2  : kCode env 68 false inv k (cp c68 52) (act 10 [(0, x0), (4, x4)]) h K =
    K .normal (act 10 [(2, (.int .i64 0))]) h := kq_reg
theorem res68_0 : resOfFn env.P 68 .ret (act 10 [(2, x2)]) h = some (x2, h) := kq_res
theorem r68_3  : kCode env 68 false inv k (cp c68 14) (act 10 [(0, x0), (4, x4)]) h K =
    bnd (pNilCheck x0) fun x6 =>
    bnd (pFieldAddr Try.prog 79 x6 0) fun x7 =>
    bnd (pLoad Try.prog 26 x7 h) fun x8 =>
    bnd (pLen Try.prog #[26] x8 h) fun x9 =>
    K .normal (act 10 [(2, x9)]) h := kq_reg
/-- (*shadowbook/octet.Reader).Left -/
noncomputable def F68 (inv : Inv) (k : Nat) (x0 : Value) (h : AH) : Option (Value × AH) :=
    bnd (pBin Try.prog .eql 57 (.tmp 3) (.const (.pointer none)) x0 (.pointer none)) fun x4 =>
    brV x4
    (some ((.int .i64 0), h))
    (bnd (pNilCheck x0) fun x6 =>
    bnd (pFieldAddr Try.prog 79 x6 0) fun x7 =>
    bnd (pLoad Try.prog 26 x7 h) fun x8 =>
    bnd (pLen Try.prog #[26] x8 h) fun x9 =>
    some (x9, h))
theorem F68_eq : eFun env k inv 68 #[x0] h = F68 inv k x0 h := by
      refine (kq_fun (a := act 10 [(0, x0)]) (c := cp c68 1)).trans ?_
      unfold F68
      simp only [kq_seq c68 1, r68_0, kq_seq c68 3, kq_seq c68 6, r68_1, b68_rlr, kq_seq c68 26, r68_2, kq_ret c68 53, res68_0, kq_skip c68 27, kq_seq c68 7, r68_3, kq_ret c68 15, reduceIte, reduceCtorEq, XE.exit.injEq, Nat.reduceEqDiff, Nat.reduceMul, Nat.reduceAdd] <;> kernel_rfl
theorem F68_call : eInv env (k + 1) (.func 68) #[] #[x0] h = F68 (eInv env k) k x0 h := kq_inv F68_eq
noncomputable def c69 : Code := codeOf Try.prog 69
theorem r69_0  : kCode env 69 false inv k (cp c69 2) (act 30 [(0, x0), (1, x1), (2, x2)]) h K =
    K .normal (act 30 [(0, x0), (1, x1), (2, x2), (6, (.slice none 0 0)), (7, (.int .i64 0))]) h := kq_reg
theorem r69_1  : kCode env 69 false inv k (cp c69 12) (act 30 [(0, x0), (1, x1), (2, x2), (6, x6), (7, x7)]) h K =
    bnd (inv (.func 74) #[] #[x0, x1, x2] h) fun x15 =>
    K .normal (act 30 [(0, x0), (1, x1), (2, x2), (6, x6), (7, x7), (8, x15.1)]) x15.2 := kq_reg
theorem r69_2  : kCode env 69 false inv k (cp c69 26) (act 30 [(0, x0), (1, x1), (2, x2), (6, x6), (7, x7), (8, x8)]) h K =
    bnd (pBin Try.prog .neq 27 (.tmp 16) (.const (.int .i64 0)) x8 (.int .i64 0)) fun x17 =>
    K .normal (act 30 [(0, x0), (1, x1), (2, x2), (6, x6), (7, x7), (8, x8), (17, x17)]) h := kq_reg
theorem b69_rrlr  : kCode env 69 false inv k (cp c69 27) (act 30 [(0, x0), (1, x1), (2, x2), (6, x6), (7, x7), (8, x8), (17, x17)]) h K = brV x17 (kCode env 69 false inv k (cp c69 54) (act 30 [(0, x0), (1, x1), (2, x2), (6, x6), (7, x7), (8, x8), (17, x17)]) h K) (kCode env 69 false inv k (cp c69 55) (act 30 [(0, x0), (1, x1), (2, x2), (6, x6), (7, x7), (8, x8), (17, x17)]) h K) := kq_cond
theorem r69_3  : kCode env 69 false inv k (cp c69 108) (act 30 [(0, x0), (1, x1), (2, x2), (6, x6), (7, x7), (8, x8), (17, x17)]) h K =
    K .normal (act 30 [(6, (.slice none 0 0)), (7, x8)]) h := kq_reg
theorem res69_0 : resOfFn env.P 69 .ret (act 30 [(6, x6), (7, x7)]) h = some (.tuple #[x6, x7], h) := kq_res
theorem r69_4  : kCode env 69 false inv k (cp c69 14) (act 30 [(0, x0), (1, x1), (2, x2), (6, x6), (7, x7), (8, x8), (17, x17)]) h K =
    bnd (pAlloc Try.prog 50 h) fun x9 =>
    K .normal (act 30 [(0, x0), (1, x1), (2, x2), (6, x6), (7, x7), (9, x9.1)]) x9.2 := kq_reg
theorem r69_5  : kCode env 69 false inv k (cp c69 60) (act 30 [(0, x0), (1, x1), (2, x2), (6, x6), (7, x7), (9, x9)]) h K =
    bnd (inv (.func 75) #[] #[x0, x1, x2] h) fun x22 =>
    K .normal (act 30 [(6, x6), (7, x7), (9, x9), (22, x22.1)]) x22.2 := kq_reg
theorem g69_lrlrrr  : kCode env 69 false inv k (cp c69 122) (act 30 [(6, x6), (7, x7), (9, x9), (22, x22)]) h K = kRange env 69 inv x22 (psOf (cp c69 122)) (cp c69 244) (cp c69 245) (act 30 [(6, x6), (7, x7), (9, x9), (22, x22)]) h fun e h => sw e (K .normal (act 30 [(6, x6), (7, x7), (9, x9), (22, x22)]) h) (none) [] := kq_range (g := x22) (ids := [])
noncomputable def F69_rlrrr {β : Type} (inv : Inv) (k : Nat) (x6 x7 x9 x22 : Value) (h : AH) (kn : (Value → Value → Value → Value → AH → Option β)) : Option β :=
    kRange env 69 inv x22 (psOf (cp c69 122)) (cp c69 244) (cp c69 245) (act 30 [(6, x6), (7, x7), (9, x9), (22, x22)]) h fun e h => sw e
    (kn x6 x7 x9 x22 h)
    none []
theorem F69_rlrrr_eq  : kCode env 69 false inv k (cp c69 61) (act 30 [(6, x6), (7, x7), (9, x9), (22, x22)]) h K = F69_rlrrr inv k x6 x7 x9 x22 h (fun y6 y7 y9 y22 h => K .normal (act 30 [(6, y6), (7, y7), (9, y9), (22, y22)]) h) := by
      unfold F69_rlrrr
      simp only [kq_block c69 61 0, g69_lrlrrr, reduceIte, reduceCtorEq, XE.exit.injEq, Nat.reduceEqDiff, Nat.reduceMul, Nat.reduceAdd] <;> kernel_rfl
theorem r69_8  : kCode env 69 false inv k (cp c69 62) (act 30 [(6, x6), (7, x7), (9, x9), (22, x22)]) h K =
    bnd (pLoad Try.prog 50 x9 h) fun x29 =>
    K .normal (act 30 [(6, x29), (7, (.int .i64 0))]) h := kq_reg
/-- shadowbook/packs.Get -/
noncomputable def F69 (inv : Inv) (k : Nat) (x0 x1 x2 : Value) (h : AH) : Option (Value × AH) :=
    bnd (inv (.func 74) #[] #[x0, x1, x2] h) fun x15 =>
    bnd (pBin Try.prog .neq 27 (.tmp 16) (.const (.int .i64 0)) x15.1 (.int .i64 0)) fun x17 =>
    brV x17
    (some (.tuple #[(.slice none 0 0), x15.1], x15.2))
    (bnd (pAlloc Try.prog 50 x15.2) fun x9 =>
    bnd (inv (.func 75) #[] #[x0, x1, x2] x9.2) fun x22 =>
    F69_rlrrr inv k (.slice none 0 0) (.int .i64 0) x9.1 x22.1 x22.2
    (fun y6 y7 y9 y22 h =>
    bnd (pLoad Try.prog 50 y9 h) fun x29 =>
    some (.tuple #[x29, (.int .i64 0)], h)))
theorem F69_eq : eFun env k inv 69 #[x0, x1, x2] h = F69 inv k x0 x1 x2 h := by
      refine (kq_fun (a := act 30 [(0, x0), (1, x1), (2, x2)]) (c := cp c69 1)).trans ?_
      unfold F69
      simp only [kq_seq c69 1, r69_0, kq_seq c69 3, kq_seq c69 6, r69_1, kq_seq c69 13, r69_2, b69_rrlr, kq_seq c69 54, r69_3, kq_ret c69 109, res69_0, kq_skip c69 55, kq_seq c69 7, r69_4, kq_seq c69 15, kq_seq c69 30, r69_5, F69_rlrrr_eq, kq_seq c69 31, r69_8, kq_ret c69 63, reduceIte, reduceCtorEq, XE.exit.injEq, Nat.reduceEqDiff, Nat.reduceMul, Nat.reduceAdd] <;> kernel_rfl
theorem F69_call : eInv env (k + 1) (.func 69) #[] #[x0, x1, x2] h = F69 (eInv env k) k x0 x1 x2 h := kq_inv F69_eq
theorem r69_6  : kCode env 69 true inv k (cp c69 244) (act 30 [(6, x6), (7, x7), (9, x9), (22, x22), (23, x23), (24, x24)]) h K =
    K .normal (act 30 [(9, x9), (11, x24)]) h := kq_reg
theorem r69_7  : kCode env 69 true inv k (cp c69 490) (act 30 [(9, x9), (11, x11)]) h K =
    bnd (pLoad Try.prog 50 x9 h) fun x25 =>
    bnd (pBuildSlice Try.prog 50 1 #[(0, x11)] h) fun x27 =>
    bnd (pAppend Try.prog #[50, 50] x25 x27.1 x27.2) fun x28 =>
    bnd (kSt (pStore Try.prog 50 x9 x28.1 x28.2)) fun u =>
    K .normal (act 30 []) u.2 := kq_reg
noncomputable def R69_lrlrrr (inv : Inv) (k l : Nat) (x6 x7 x9 x22 z0 z1 : Value) (h : AH) : Option (Value × AH) :=
    rdBegin l h fun h =>
    bnd (pLoad Try.prog 50 x9 h) fun x25 =>
    bnd (pBuildSlice Try.prog 50 1 #[(0, z1)] h) fun x27 =>
    bnd (pAppend Try.prog #[50, 50] x25 x27.1 x27.2) fun x28 =>
    bnd (kSt (pStore Try.prog 50 x9 x28.1 x28.2)) fun u =>
    rdEnd l .normal u.2
theorem R69_lrlrrr_eq {l : Nat} {pd : Option Code} (hl : h.get l = some (.loop .ready pd 69 (act 30 [(6, x6), (7, x7), (9, x9), (22, x22)]).tmps (psOf (cp c69 122)) (cp c69 244) (cp c69 245))) : eRound env k inv l #[z0, z1] h = R69_lrlrrr inv k l x6 x7 x9 x22 z0 z1 h := by
      refine (eRound_k (a := act 30 [(6, x6), (7, x7), (9, x9), (22, x22), (23, z0), (24, z1)]) hl (by kernel_rfl) (by kernel_rfl)).trans ?_
      unfold R69_lrlrrr
      simp only [r69_6, kq_block c69 245 1, r69_7, reduceIte, reduceCtorEq, XE.exit.injEq, Nat.reduceEqDiff, Nat.reduceMul, Nat.reduceAdd] <;> kernel_rfl
noncomputable def c70 : Code := codeOf Try.prog 70
theorem r70_0  : kCode env 70 false inv k (cp c70 2) (act 4 [(0, x0)]) h K =
    bnd (pBox Try.prog 26 x0 h) fun x1 =>
    K .normal (act 4 [(1, x1.1)]) x1.2 := kq_reg
theorem r70_1  : kCode env 70 false inv k (cp c70 6) (act 4 [(1, x1)]) h K =
    bnd (pMakeFunc (.func 76) #[] #[x1]) fun x3 =>
    K .normal (act 4 [(2, x3)]) h := kq_reg
theorem res70_0 : resOfFn env.P 70 .ret (act 4 [(2, x2)]) h = some (x2, h) := kq_res
/-- slices.Backward[[]byte,byte] -/
noncomputable def F70 (inv : Inv) (k : Nat) (x0 : Value) (h : AH) : Option (Value × AH) :=
    bnd (pBox Try.prog 26 x0 h) fun x1 =>
    bnd (pMakeFunc (.func 76) #[] #[x1.1]) fun x3 =>
    some (x3, x1.2)
theorem F70_eq : eFun env k inv 70 #[x0] h = F70 inv k x0 h := by
      refine (kq_fun (a := act 4 [(0, x0)]) (c := cp c70 1)).trans ?_
      unfold F70
      simp only [kq_seq c70 1, r70_0, kq_seq c70 3, r70_1, kq_ret c70 7, res70_0, reduceIte, reduceCtorEq, XE.exit.injEq, Nat.reduceEqDiff, Nat.reduceMul, Nat.reduceAdd] <;> kernel_rfl
theorem F70_call : eInv env (k + 1) (.func 70) #[] #[x0] h = F70 (eInv env k) k x0 h := kq_inv F70_eq
noncomputable def c71 : Code := codeOf Try.prog 71
theorem r71_0  : kCode env 71 false inv k (cp c71 2) (act 9 [(0, x0), (1, x1)]) h K =
    K .normal (act 9 [(0, x0), (1, x1)]) h := kq_reg
theorem r71_1  : kCode env 71 false inv k (cp c71 6) (act 9 [(0, x0), (1, x1)]) h K =
    bnd (inv (.func 77) #[] #[x0, x1] h) fun x7 =>
    bnd (pBin Try.prog .geq 3 (.tmp 7) (.const (.int .i64 0)) x7.1 (.int .i64 0)) fun x8 =>
    K .normal (act 9 [(4, x8)]) x7.2 := kq_reg
theorem res71_0 : resOfFn env.P 71 .ret (act 9 [(4, x4)]) h = some (x4, h) := kq_res
/-- slices.ContainsFunc[[]byte,byte] -/
noncomputable def F71 (inv : Inv) (k : Nat) (x0 x1 : Value) (h : AH) : Option (Value × AH) :=
    bnd (inv (.func 77) #[] #[x0, x1] h) fun x7 =>
    bnd (pBin Try.prog .geq 3 (.tmp 7) (.const (.int .i64 0)) x7.1 (.int .i64 0)) fun x8 =>
    some (x8, x7.2)
theorem F71_eq : eFun env k inv 71 #[x0, x1] h = F71 inv k x0 x1 h := by
      refine (kq_fun (a := act 9 [(0, x0), (1, x1)]) (c := cp c71 1)).trans ?_
      unfold F71
      simp only [kq_seq c71 1, r71_0, kq_seq c71 3, r71_1, kq_ret c71 7, res71_0, reduceIte, reduceCtorEq, XE.exit.injEq, Nat.reduceEqDiff, Nat.reduceMul, Nat.reduceAdd] <;> kernel_rfl
theorem F71_call : eInv env (k + 1) (.func 71) #[] #[x0, x1] h = F71 (eInv env k) k x0 x1 h := kq_inv F71_eq
noncomputable def c72 : Code := codeOf Try.prog 72
theorem r72_0  : kCode env 72 false inv k (cp c72 2) (act 5 [(0, x0)]) h K =
    K .normal (act 5 [(0, x0)]) h := kq_reg
theorem r72_1  : kCode env 72 false inv k (cp c72 6) (act 5 [(0, x0)]) h K =
    bnd (pBin Try.prog .lss 5 (.tmp 3) (.const (.int .u8 128)) x0 (.int .u8 128)) fun x4 =>
    K .normal (act 5 [(2, x4)]) h := kq_reg
theorem res72_0 : resOfFn env.P 72 .ret (act 5 [(2, x2)]) h = some (x2, h) := kq_res
/-- (*shadowbook/octet.Reader).ends$1 -/
noncomputable def F72 (inv : Inv) (k : Nat) (x0 : Value) (h : AH) : Option (Value × AH) :=
    bnd (pBin Try.prog .lss 5 (.tmp 3) (.const (.int .u8 128)) x0 (.int .u8 128)) fun x4 =>
    some (x4, h)
theorem F72_eq : eFun env k inv 72 #[x0] h = F72 inv k x0 h := by
      refine (kq_fun (a := act 5 [(0, x0)]) (c := cp c72 1)).trans ?_
      unfold F72
      simp only [kq_seq c72 1, r72_0, kq_seq c72 3, r72_1, kq_ret c72 7, res72_0, reduceIte, reduceCtorEq, XE.exit.injEq, Nat.reduceEqDiff, Nat.reduceMul, Nat.reduceAdd] <;> kernel_rfl
theorem F72_call : eInv env (k + 1) (.func 72) #[] #[x0] h = F72 (eInv env k) k x0 h := kq_inv F72_eq
noncomputable def c73 : Code := codeOf Try.prog 73
theorem r73_0  : kCode env 73 false inv k (cp c73 2) (act 30 [(0, x0), (1, x1)]) h K =
    K .normal (act 30 [(0, x0), (1, x1)]) h := kq_reg
theorem b73_lr  : kCode env 73 false inv k (cp c73 6) (act 30 [(0, x0), (1, x1)]) h K = brV (.bool false) (kCode env 73 false inv k (cp c73 12) (act 30 [(0, x0), (1, x1)]) h K) (kCode env 73 false inv k (cp c73 13) (act 30 [(0, x0), (1, x1)]) h K) := kq_cond
theorem r73_1  : kCode env 73 false inv k (cp c73 24) (act 30 [(0, x0), (1, x1)]) h K =
    bnd (pConv Try.prog 76 97 x0 h) fun x12 =>
    bnd (pConv Try.prog 76 97 x1 h) fun x14 =>
    bnd (inv (.func 78) #[] #[x12, x14] h) fun x15 =>
    bnd (pExtract x15.1 0) fun x16 =>
    bnd (pExtract x15.1 1) fun x17 =>
    K .normal (act 30 [(6, x16), (7, x17)]) x15.2 := kq_reg
theorem r73_2  : kCode env 73 false inv k (cp c73 50) (act 30 [(6, x6), (7, x7)]) h K =
    bnd (pConv Try.prog 97 76 x6 h) fun x19 =>
    bnd (pConv Try.prog 97 76 x7 h) fun x21 =>
    K .normal (act 30 [(4, x19), (5, x21)]) h := kq_reg
theorem res73_0 : resOfFn env.P 73 .ret (act 30 [(4, x4), (5, x5)]) h = some (.tuple #[x4, x5], h) := kq_res
theorem r73_3  : kCode env 73 false inv k (cp c73 14) (act 30 [(0, x0), (1, x1)]) h K =
    bnd (inv (.func 79) #[] #[x0, x1] h) fun x25 =>
    bnd (pExtract x25.1 0) fun x26 =>
    bnd (pExtract x25.1 1) fun x27 =>
    K .normal (act 30 [(8, x26), (9, x27)]) x25.2 := kq_reg
theorem r73_4  : kCode env 73 false inv k (cp c73 30) (act 30 [(8, x8), (9, x9)]) h K =
    K .normal (act 30 [(4, x8), (5, x9)]) h := kq_reg
/-- math/bits.Mul -/
noncomputable def F73 (inv : Inv) (k : Nat) (x0 x1 : Value) (h : AH) : Option (Value × AH) :=
    brV (.bool false)
    (bnd (pConv Try.prog 76 97 x0 h) fun x12 =>
    bnd (pConv Try.prog 76 97 x1 h) fun x14 =>
    bnd (inv (.func 78) #[] #[x12, x14] h) fun x15 =>
    bnd (pExtract x15.1 0) fun x16 =>
    bnd (pExtract x15.1 1) fun x17 =>
    bnd (pConv Try.prog 97 76 x16 x15.2) fun x19 =>
    bnd (pConv Try.prog 97 76 x17 x15.2) fun x21 =>
    some (.tuple #[x19, x21], x15.2))
    (bnd (inv (.func 79) #[] #[x0, x1] h) fun x25 =>
    bnd (pExtract x25.1 0) fun x26 =>
    bnd (pExtract x25.1 1) fun x27 =>
    some (.tuple #[x26, x27], x25.2))
theorem F73_eq : eFun env k inv 73 #[x0, x1] h = F73 inv k x0 x1 h := by
      refine (kq_fun (a := act 30 [(0, x0), (1, x1)]) (c := cp c73 1)).trans ?_
      unfold F73
      simp only [kq_seq c73 1, r73_0, kq_seq c73 3, b73_lr, kq_seq c73 12, r73_1, kq_seq c73 25, r73_2, kq_ret c73 51, res73_0, kq_skip c73 13, kq_seq c73 7, r73_3, kq_seq c73 15, r73_4, kq_ret c73 31, reduceIte, reduceCtorEq, XE.exit.injEq, Nat.reduceEqDiff, Nat.reduceMul, Nat.reduceAdd] <;> kernel_rfl
theorem F73_call : eInv env (k + 1) (.func 73) #[] #[x0, x1] h = F73 (eInv env k) k x0 x1 h := kq_inv F73_eq
noncomputable def c74 : Code := codeOf Try.prog 74
theorem r74_0  : kCode env 74 false inv k (cp c74 2) (act 33 [(0, x0), (1, x1), (2, x2)]) h K =
    K .normal (act 33 [(0, x0), (1, x1), (2, x2)]) h := kq_reg
theorem r74_1  : kCode env 74 false inv k (cp c74 24) (act 33 [(0, x0), (1, x1), (2, x2)]) h K =
    bnd (inv (.func 55) #[] #[x1, x2] h) fun x10 =>
    bnd (pUn Try.prog .not x10.1) fun x11 =>
    K .normal (act 33 [(0, x0), (1, x1), (2, x2), (7, x11)]) x10.2 := kq_reg
theorem b74_rllr  : kCode env 74 false inv k (cp c74 25) (act 33 [(0, x0), (1, x1), (2, x2), (7, x7)]) h K = brV x7 (kCode env 74 false inv k (cp c74 50) (act 33 [(0, x0), (1, x1), (2, x2), (7, x7)]) h K) (kCode env 74 false inv k (cp c74 51) (act 33 [(0, x0), (1, x1), (2, x2), (7, x7)]) h K) := kq_cond
theorem r74_2  : kCode env 74 false inv k (cp c74 100) (act 33 [(0, x0), (1, x1), (2, x2), (7, x7)]) h K =
    K .normal (act 33 [(6, (.int .i64 2))]) h := kq_reg
theorem res74_0 : resOfFn env.P 74 .ret (act 33 [(6, x6)]) h = some (x6, h) := kq_res
theorem r74_3  : kCode env 74 false inv k (cp c74 102) (act 33 [(0, x0), (1, x1), (2, x2), (7, x7)]) h K =
    bnd (pLen Try.prog #[26] x0 h) fun x14 =>
    bnd (inv (.func 56) #[] #[x1, x2] h) fun x17 =>
    bnd (pBin Try.prog .neq 3 (.tmp 14) (.tmp 17) x14 x17.1) fun x18 =>
    K .normal (act 33 [(0, x0), (1, x1), (2, x2), (12, x18)]) x17.2 := kq_reg
theorem b74_rrrllr  : kCode env 74 false inv k (cp c74 103) (act 33 [(0, x0), (1, x1), (2, x2), (12, x12)]) h K = brV x12 (kCode env 74 false inv k (cp c74 206) (act 33 [(0, x0), (1, x1), (2, x2), (12, x12)]) h K) (kCode env 74 false inv k (cp c74 207) (act 33 [(0, x0), (1, x1), (2, x2), (12, x12)]) h K) := kq_cond
theorem r74_4  : kCode env 74 false inv k (cp c74 412) (act 33 [(0, x0), (1, x1), (2, x2), (12, x12)]) h K =
    K .normal (act 33 [(6, (.int .i64 4))]) h := kq_reg
noncomputable abbrev G74_5 {β : Type} (inv : Inv) (x0 x1 x2 : Value) (h : AH) (K : Value → AH → Option β) : Option β :=
    bnd (pBin Try.prog .mul 3 (.tmp 21) (.tmp 22) x1 x2) fun x23 =>
    bnd (pLen Try.prog #[26] x0 h) fun x25 =>
    bnd (pBin Try.prog .mul 3 (.const (.int .i64 8)) (.tmp 25) (.int .i64 8) x25) fun x26 =>
    bnd (pBin Try.prog .mul 3 (.tmp 27) (.tmp 28) x1 x2) fun x29 =>
    bnd (pBin Try.prog .sub 3 (.tmp 26) (.tmp 29) x26 x29) fun x30 =>
    bnd (inv (.func 80) #[] #[x0, x23, x30] h) fun x31 =>
    bnd (pBin Try.prog .neq 51 (.tmp 31) (.const (.int .u64 0)) x31.1 (.int .u64 0)) fun x32 =>
    K (x32) x31.2
theorem r74_5  : kCode env 74 false inv k (cp c74 414) (act 33 [(0, x0), (1, x1), (2, x2), (12, x12)]) h K =
    G74_5 inv x0 x1 x2 h fun y19 h => K .normal (act 33 [(19, y19)]) h := kq_reg
theorem b74_rrrrrllr  : kCode env 74 false inv k (cp c74 415) (act 33 [(19, x19)]) h K = brV x19 (kCode env 74 false inv k (cp c74 830) (act 33 [(19, x19)]) h K) (kCode env 74 false inv k (cp c74 831) (act 33 [(19, x19)]) h K) := kq_cond
theorem r74_6  : kCode env 74 false inv k (cp c74 1660) (act 33 [(19, x19)]) h K =
    K .normal (act 33 [(6, (.int .i64 4))]) h := kq_reg
theorem r74_7  : kCode env 74 false inv k (cp c74 14) (act 33 [(19, x19)]) h K =
    K .normal (act 33 [(6, (.int .i64 0))]) h := kq_reg
/-- shadowbook/packs.check -/
noncomputable def F74 (inv : Inv) (k : Nat) (x0 x1 x2 : Value) (h : AH) : Option (Value × AH) :=
    bnd (inv (.func 55) #[] #[x1, x2] h) fun x10 =>
    bnd (pUn Try.prog .not x10.1) fun x11 =>
    brV x11
    (some ((.int .i64 2), x10.2))
    (bnd (pLen Try.prog #[26] x0 x10.2) fun x14 =>
    bnd (inv (.func 56) #[] #[x1, x2] x10.2) fun x17 =>
    bnd (pBin Try.prog .neq 3 (.tmp 14) (.tmp 17) x14 x17.1) fun x18 =>
    brV x18
    (some ((.int .i64 4), x17.2))
    (G74_5 inv x0 x1 x2 x17.2 fun y19 h =>
    brV y19
    (some ((.int .i64 4), h))
    (some ((.int .i64 0), h))))
theorem F74_eq : eFun env k inv 74 #[x0, x1, x2] h = F74 inv k x0 x1 x2 h := by
      refine (kq_fun (a := act 33 [(0, x0), (1, x1), (2, x2)]) (c := cp c74 1)).trans ?_
      unfold F74
      simp only [kq_seq c74 1, r74_0, kq_seq c74 3, kq_block c74 6 0, kq_seq c74 12, r74_1, b74_rllr, kq_seq c74 50, r74_2, kq_ret c74 101, res74_0, kq_seq c74 51, r74_3, b74_rrrllr, kq_seq c74 206, r74_4, kq_ret c74 413, kq_seq c74 207, r74_5, b74_rrrrrllr, kq_seq c74 830, r74_6, kq_ret c74 1661, kq_skip c74 831, kq_seq c74 7, r74_7, kq_ret c74 15, reduceIte, reduceCtorEq, XE.exit.injEq, Nat.reduceEqDiff, Nat.reduceMul, Nat.reduceAdd] <;> kernel_rfl
theorem F74_call : eInv env (k + 1) (.func 74) #[] #[x0, x1, x2] h = F74 (eInv env k) k x0 x1 x2 h := kq_inv F74_eq
noncomputable def c75 : Code := codeOf Try.prog 75
theorem r75_0  : kCode env 75 false inv k (cp c75 2) (act 8 [(0, x0), (1, x1), (2, x2)]) h K =
    bnd (pBox Try.prog 26 x0 h) fun x3 =>
    bnd (pBox Try.prog 3 x1 x3.2) fun x4 =>
    bnd (pBox Try.prog 3 x2 x4.2) fun x5 =>
    K .normal (act 8 [(3, x3.1), (4, x4.1), (5, x5.1)]) x5.2 := kq_reg
theorem r75_1  : kCode env 75 false inv k (cp c75 6) (act 8 [(3, x3), (4, x4), (5, x5)]) h K =
    bnd (pMakeFunc (.func 81) #[] #[x3, x4, x5]) fun x7 =>
    K .normal (act 8 [(6, x7)]) h := kq_reg
theorem res75_0 : resOfFn env.P 75 .ret (act 8 [(6, x6)]) h = some (x6, h) := kq_res
/-- shadowbook/packs.Each -/
noncomputable def F75 (inv : Inv) (k : Nat) (x0 x1 x2 : Value) (h : AH) : Option (Value × AH) :=
    bnd (pBox Try.prog 26 x0 h) fun x3 =>
    bnd (pBox Try.prog 3 x1 x3.2) fun x4 =>
    bnd (pBox Try.prog 3 x2 x4.2) fun x5 =>
    bnd (pMakeFunc (.func 81) #[] #[x3.1, x4.1, x5.1]) fun x7 =>
    some (x7, x5.2)
theorem F75_eq : eFun env k inv 75 #[x0, x1, x2] h = F75 inv k x0 x1 x2 h := by
      refine (kq_fun (a := act 8 [(0, x0), (1, x1), (2, x2)]) (c := cp c75 1)).trans ?_
      unfold F75
      simp only [kq_seq c75 1, r75_0, kq_seq c75 3, r75_1, kq_ret c75 7, res75_0, reduceIte, reduceCtorEq, XE.exit.injEq, Nat.reduceEqDiff, Nat.reduceMul, Nat.reduceAdd] <;> kernel_rfl
theorem F75_call : eInv env (k + 1) (.func 75) #[] #[x0, x1, x2] h = F75 (eInv env k) k x0 x1 x2 h := kq_inv F75_eq
noncomputable def c76 : Code := codeOf Try.prog 76
theorem r76_0  : kCode env 76 false inv k (cp c76 2) (act 19 [(0, x0), (1, x1)]) h K =
    bnd (pLoad Try.prog 26 x1 h) fun x4 =>
    bnd (pLen Try.prog #[26] x4 h) fun x5 =>
    bnd (pBin Try.prog .sub 3 (.tmp 5) (.const (.int .i64 1)) x5 (.int .i64 1)) fun x6 =>
    K .normal (act 19 [(0, x0), (1, x1), (3, x6)]) h := kq_reg
theorem r76_1  : kCode env 76 false inv k (cp c76 48) (act 19 [(0, x0), (1, x1), (3, x3)]) h K =
    bnd (pBin Try.prog .geq 3 (.tmp 7) (.const (.int .i64 0)) x3 (.int .i64 0)) fun x8 =>
    K .normal (act 19 [(0, x0), (1, x1), (3, x3), (8, x8)]) h := kq_reg
theorem b76_rlllr  : kCode env 76 false inv k (cp c76 49) (act 19 [(0, x0), (1, x1), (3, x3), (8, x8)]) h K = brV x8 (kCode env 76 false inv k (cp c76 98) (act 19 [(0, x0), (1, x1), (3, x3), (8, x8)]) h K) (kCode env 76 false inv k (cp c76 99) (act 19 [(0, x0), (1, x1), (3, x3), (8, x8)]) h K) := kq_cond
theorem r76_3  : kCode env 76 false inv k (cp c76 200) (act 19 [(0, x0), (1, x1), (3, x3), (8, x8)]) h K =
    bnd (pLoad Try.prog 26 x1 h) fun x13 =>
    bnd (pIndexAddr Try.prog 26 x13 x3) fun x15 =>
    bnd (pLoad Try.prog 5 x15 h) fun x16 =>
    bnd (callV inv x0 #[x3, x16] h) fun x17 =>
    bnd (pUn Try.prog .not x17.1) fun x18 =>
    K .normal (act 19 [(0, x0), (1, x1), (3, x3), (18, x18)]) x17.2 := kq_reg
theorem b76_rllrllr  : kCode env 76 false inv k (cp c76 201) (act 19 [(0, x0), (1, x1), (3, x3), (18, x18)]) h K = brV x18 (kCode env 76 false inv k (cp c76 402) (act 19 [(0, x0), (1, x1), (3, x3), (18, x18)]) h K) (kCode env 76 false inv k (cp c76 403) (act 19 [(0, x0), (1, x1), (3, x3), (18, x18)]) h K) := kq_cond
theorem r76_2  : kCode env 76 false inv k (cp c76 51) (act 19 [(0, x0), (1, x1), (3, x3), (18, x18)]) h K =
    bnd (pBin Try.prog .sub 3 (.tmp 9) (.const (.int .i64 1)) x3 (.int .i64 1)) fun x10 =>
    K .normal (act 19 [(0, x0), (1, x1), (3, x10)]) h := kq_reg
noncomputable def F76_lr {β : Type} (inv : Inv) (k : Nat) : Nat → Value → Value → Value → AH → (Value → Value → Value → Value → AH → Option β) → (Value → Value → Value → Value → AH → Option β) → Option β
  | 0, _, _, _, _, _, _ => none
  | j + 1, x0, x1, x3, h, ke0, kr =>
    bnd (pBin Try.prog .geq 3 (.tmp 7) (.const (.int .i64 0)) x3 (.int .i64 0)) fun x8 =>
    brV x8
    (bnd (pLoad Try.prog 26 x1 h) fun x13 =>
    bnd (pIndexAddr Try.prog 26 x13 x3) fun x15 =>
    bnd (pLoad Try.prog 5 x15 h) fun x16 =>
    bnd (callV inv x0 #[x3, x16] h) fun x17 =>
    bnd (pUn Try.prog .not x17.1) fun x18 =>
    brV x18
    (kr x0 x1 x3 x18 x17.2)
    (bnd (pBin Try.prog .sub 3 (.tmp 9) (.const (.int .i64 1)) x3 (.int .i64 1)) fun x10 =>
    F76_lr inv k j x0 x1 x10 x17.2 ke0 kr))
    (ke0 x0 x1 x3 x8 h)
theorem F76_lr_j (j : Nat) : kLoop (kCode env 76 false inv k (cp c76 12)) j (act 19 [(0, x0), (1, x1), (3, x3)]) h K = F76_lr inv k j x0 x1 x3 h (fun y0 y1 y3 y8 h => K (.exit 0) (act 19 [(0, y0), (1, y1), (3, y3), (8, y8)]) h) (fun y0 y1 y3 y18 h => K .ret (act 19 [(0, y0), (1, y1), (3, y3), (18, y18)]) h) := by
      induction j generalizing x0 x1 x3 h with
      | zero => rfl
      | succ j ih =>
        unfold F76_lr
        simp only [kLoop, kq_seq c76 12, kq_seq c76 24, r76_1, b76_rlllr, kq_skip c76 98, kq_seq c76 25, kq_block c76 50 1, kq_seq c76 100, r76_3, b76_rllrllr, kq_ret c76 402, kq_skip c76 403, r76_2, kq_exit c76 99 0, ih, reduceIte, reduceCtorEq, XE.exit.injEq, Nat.reduceEqDiff, Nat.reduceMul, Nat.reduceAdd] <;> kernel_rfl
theorem F76_lr_eq  : kCode env 76 false inv k (cp c76 6) (act 19 [(0, x0), (1, x1), (3, x3)]) h K = F76_lr inv k k x0 x1 x3 h (fun y0 y1 y3 y8 h => K (.exit 0) (act 19 [(0, y0), (1, y1), (3, y3), (8, y8)]) h) (fun y0 y1 y3 y18 h => K .ret (act 19 [(0, y0), (1, y1), (3, y3), (18, y18)]) h) := kq_loop (F76_lr_j k)
theorem res76_0 : resOfFn env.P 76 .normal (act 19 [(0, x0), (1, x1), (3, x3), (8, x8)]) h = some (.tuple #[], h) := kq_res
theorem res76_1 : resOfFn env.P 76 .ret (act 19 [(0, x0), (1, x1), (3, x3), (18, x18)]) h = some (.tuple #[], h) := kq_res
/-- slices.Backward[[]byte,byte]$1 -/
noncomputable def F76 (inv : Inv) (k : Nat) (x0 x1 : Value) (h : AH) : Option (Value × AH) :=
    bnd (pLoad Try.prog 26 x1 h) fun x4 =>
    bnd (pLen Try.prog #[26] x4 h) fun x5 =>
    bnd (pBin Try.prog .sub 3 (.tmp 5) (.const (.int .i64 1)) x5 (.int .i64 1)) fun x6 =>
    F76_lr inv k k x0 x1 x6 h
    (fun y0 y1 y3 y8 h =>
    some (.tuple #[], h))
    (fun y0_1 y1_2 y3_3 y18 h_4 =>
    some (.tuple #[], h_4))
theorem F76_eq : eFun env k inv 76 #[x0, x1] h = F76 inv k x0 x1 h := by
      refine (kq_fun (a := act 19 [(0, x0), (1, x1)]) (c := cp c76 1)).trans ?_
      unfold F76
      simp only [kq_seq c76 1, r76_0, kq_block c76 3 0, F76_lr_eq, res76_0, res76_1, reduceIte, reduceCtorEq, XE.exit.injEq, Nat.reduceEqDiff, Nat.reduceMul, Nat.reduceAdd] <;> kernel_rfl
theorem F76_call : eInv env (k + 1) (.func 76) #[] #[x0, x1] h = F76 (eInv env k) k x0 x1 h := kq_inv F76_eq
noncomputable def c77 : Code := codeOf Try.prog 77
theorem r77_0  : kCode env 77 false inv k (cp c77 2) (act 19 [(0, x0), (1, x1)]) h K =
    K .normal (act 19 [(0, x0), (1, x1)]) h := kq_reg
theorem r77_1  : kCode env 77 false inv k (cp c77 12) (act 19 [(0, x0), (1, x1)]) h K =
    bnd (pLen Try.prog #[26] x0 h) fun x7 =>
    K .normal (act 19 [(0, x0), (1, x1), (7, x7), (8, (.int .i64 0))]) h := kq_reg
theorem r77_2  : kCode env 77 false inv k (cp c77 104) (act 19 [(0, x0), (1, x1), (7, x7), (8, x8)]) h K =
    bnd (pBin Try.prog .lss 3 (.tmp 8) (.tmp 7) x8 x7) fun x9 =>
    K .normal (act 19 [(0, x0), (1, x1), (7, x7), (8, x8), (9, x9)]) h := kq_reg
theorem b77_lrllrlr  : kCode env 77 false inv k (cp c77 210) (act 19 [(0, x0), (1, x1), (7, x7), (8, x8), (9, x9)]) h K = brV x9 (kCode env 77 false inv k (cp c77 420) (act 19 [(0, x0), (1, x1), (7, x7), (8, x8), (9, x9)]) h K) (kCode env 77 false inv k (cp c77 421) (act 19 [(0, x0), (1, x1), (7, x7), (8, x8), (9, x9)]) h K) := kq_cond
theorem r77_3  : kCode env 77 false inv k (cp c77 1688) (act 19 [(0, x0), (1, x1), (7, x7), (8, x8), (9, x9)]) h K =
    K .normal (act 19 [(0, x0), (1, x1), (5, x8), (7, x7), (8, x8)]) h := kq_reg
theorem r77_4  : kCode env 77 false inv k (cp c77 3378) (act 19 [(0, x0), (1, x1), (5, x5), (7, x7), (8, x8)]) h K =
    bnd (pIndexAddr Try.prog 26 x0 x5) fun x14 =>
    bnd (pLoad Try.prog 5 x14 h) fun x15 =>
    bnd (callV inv x1 #[x15] h) fun x16 =>
    K .normal (act 19 [(0, x0), (1, x1), (5, x5), (7, x7), (8, x8), (16, x16.1)]) x16.2 := kq_reg
theorem b77_rrllrrllrlr  : kCode env 77 false inv k (cp c77 3379) (act 19 [(0, x0), (1, x1), (5, x5), (7, x7), (8, x8), (16, x16)]) h K = brV x16 (kCode env 77 false inv k (cp c77 6758) (act 19 [(0, x0), (1, x1), (5, x5), (7, x7), (8, x8), (16, x16)]) h K) (kCode env 77 false inv k (cp c77 6759) (act 19 [(0, x0), (1, x1), (5, x5), (7, x7), (8, x8), (16, x16)]) h K) := kq_cond
theorem r77_5  : kCode env 77 false inv k (cp c77 13516) (act 19 [(0, x0), (1, x1), (5, x5), (7, x7), (8, x8), (16, x16)]) h K =
    K .normal (act 19 [(4, x5)]) h := kq_reg
theorem r77_6  : kCode env 77 false inv k (cp c77 423) (act 19 [(0, x0), (1, x1), (5, x5), (7, x7), (8, x8), (16, x16)]) h K =
    bnd (pBin Try.prog .add 3 (.tmp 8) (.const (.int .i64 1)) x8 (.int .i64 1)) fun x18 =>
    K .normal (act 19 [(0, x0), (1, x1), (7, x7), (8, x18)]) h := kq_reg
noncomputable def F77_lrlr {β : Type} (inv : Inv) (k : Nat) : Nat → Value → Value → Value → Value → AH → (Value → Value → Value → Value → Value → AH → Option β) → (Value → AH → Option β) → Option β
  | 0, _, _, _, _, _, _, _ => none
  | j + 1, x0, x1, x7, x8, h, ke0, kr =>
    bnd (pBin Try.prog .lss 3 (.tmp 8) (.tmp 7) x8 x7) fun x9 =>
    brV x9
    (bnd (pIndexAddr Try.prog 26 x0 x8) fun x14 =>
    bnd (pLoad Try.prog 5 x14 h) fun x15 =>
    bnd (callV inv x1 #[x15] h) fun x16 =>
    brV x16.1
    (kr x8 x16.2)
    (bnd (pBin Try.prog .add 3 (.tmp 8) (.const (.int .i64 1)) x8 (.int .i64 1)) fun x18 =>
    F77_lrlr inv k j x0 x1 x7 x18 x16.2 ke0 kr))
    (ke0 x0 x1 x7 x8 x9 h)
theorem F77_lrlr_j (j : Nat) : kLoop (kCode env 77 false inv k (cp c77 52)) j (act 19 [(0, x0), (1, x1), (7, x7), (8, x8)]) h K = F77_lrlr inv k j x0 x1 x7 x8 h (fun y0 y1 y7 y8 y9 h => K (.exit 0) (act 19 [(0, y0), (1, y1), (7, y7), (8, y8), (9, y9)]) h) (fun y4 h => K .ret (act 19 [(4, y4)]) h) := by
      induction j generalizing x0 x1 x7 x8 h with
      | zero => rfl
      | succ j ih =>
        unfold F77_lrlr
        simp only [kLoop, kq_seq c77 52, r77_2, kq_seq c77 105, b77_lrllrlr, kq_skip c77 420, kq_seq c77 211, kq_block c77 422 1, kq_seq c77 844, r77_3, kq_seq c77 1689, r77_4, b77_rrllrrllrlr, kq_seq c77 6758, r77_5, kq_ret c77 13517, kq_skip c77 6759, r77_6, kq_exit c77 421 0, ih, reduceIte, reduceCtorEq, XE.exit.injEq, Nat.reduceEqDiff, Nat.reduceMul, Nat.reduceAdd] <;> kernel_rfl
theorem F77_lrlr_eq  : kCode env 77 false inv k (cp c77 26) (act 19 [(0, x0), (1, x1), (7, x7), (8, x8)]) h K = F77_lrlr inv k k x0 x1 x7 x8 h (fun y0 y1 y7 y8 y9 h => K (.exit 0) (act 19 [(0, y0), (1, y1), (7, y7), (8, y8), (9, y9)]) h) (fun y4 h => K .ret (act 19 [(4, y4)]) h) := kq_loop (F77_lrlr_j k)
theorem r77_7  : kCode env 77 false inv k (cp c77 14) (act 19 [(0, x0), (1, x1), (7, x7), (8, x8), (9, x9)]) h K =
    K .normal (act 19 [(4, (.int .i64 (-1)))]) h := kq_reg
theorem res77_0 : resOfFn env.P 77 .ret (act 19 [(4, x4)]) h = some (x4, h) := kq_res
/-- slices.IndexFunc[[]byte,byte] -/
noncomputable def F77 (inv : Inv) (k : Nat) (x0 x1 : Value) (h : AH) : Option (Value × AH) :=
    bnd (pLen Try.prog #[26] x0 h) fun x7 =>
    F77_lrlr inv k k x0 x1 x7 (.int .i64 0) h
    (fun y0 y1 y7 y8 y9 h =>
    some ((.int .i64 (-1)), h))
    (fun y4 h_1 =>
    some (y4, h_1))
theorem F77_eq : eFun env k inv 77 #[x0, x1] h = F77 inv k x0 x1 h := by
      refine (kq_fun (a := act 19 [(0, x0), (1, x1)]) (c := cp c77 1)).trans ?_
      unfold F77
      simp only [kq_seq c77 1, r77_0, kq_seq c77 3, kq_seq c77 6, r77_1, kq_block c77 13 0, F77_lrlr_eq, kq_seq c77 7, r77_7, kq_ret c77 15, res77_0, reduceIte, reduceCtorEq, XE.exit.injEq, Nat.reduceEqDiff, Nat.reduceMul, Nat.reduceAdd] <;> kernel_rfl
theorem F77_call : eInv env (k + 1) (.func 77) #[] #[x0, x1] h = F77 (eInv env k) k x0 x1 h := kq_inv F77_eq
noncomputable def c78 : Code := codeOf Try.prog 78
theorem r78_0  : kCode env 78 false inv k (cp c78 2) (act 17 [(0, x0), (1, x1)]) h K =
    K .normal (act 17 [(0, x0), (1, x1)]) h := kq_reg
theorem r78_1  : kCode env 78 false inv k (cp c78 6) (act 17 [(0, x0), (1, x1)]) h K =
    bnd (pConv Try.prog 97 51 x0 h) fun x8 =>
    bnd (pConv Try.prog 97 51 x1 h) fun x10 =>
    bnd (pBin Try.prog .mul 51 (.tmp 8) (.tmp 10) x8 x10) fun x11 =>
    K .normal (act 17 [(6, x11)]) h := kq_reg
theorem r78_2  : kCode env 78 false inv k (cp c78 14) (act 17 [(6, x6)]) h K =
    bnd (pBin Try.prog .shr 51 (.tmp 12) (.const (.int .u64 32)) x6 (.int .u64 32)) fun x13 =>
    bnd (pConv Try.prog 51 97 x13 h) fun x14 =>
    bnd (pConv Try.prog 51 97 x6 h) fun x16 =>
    K .normal (act 17 [(4, x14), (5, x16)]) h := kq_reg
theorem res78_0 : resOfFn env.P 78 .ret (act 17 [(4, x4), (5, x5)]) h = some (.tuple #[x4, x5], h) := kq_res
/-- math/bits.Mul32 -/
noncomputable def F78 (inv : Inv) (k : Nat) (x0 x1 : Value) (h : AH) : Option (Value × AH) :=
    bnd (pConv Try.prog 97 51 x0 h) fun x8 =>
    bnd (pConv Try.prog 97 51 x1 h) fun x10 =>
    bnd (pBin Try.prog .mul 51 (.tmp 8) (.tmp 10) x8 x10) fun x11 =>
    bnd (pBin Try.prog .shr 51 (.tmp 12) (.const (.int .u64 32)) x11 (.int .u64 32)) fun x13 =>
    bnd (pConv Try.prog 51 97 x13 h) fun x14 =>
    bnd (pConv Try.prog 51 97 x11 h) fun x16 =>
    some (.tuple #[x14, x16], h)
theorem F78_eq : eFun env k inv 78 #[x0, x1] h = F78 inv k x0 x1 h := by
      refine (kq_fun (a := act 17 [(0, x0), (1, x1)]) (c := cp c78 1)).trans ?_
      unfold F78
      simp only [kq_seq c78 1, r78_0, kq_seq c78 3, r78_1, kq_seq c78 7, r78_2, kq_ret c78 15, res78_0, reduceIte, reduceCtorEq, XE.exit.injEq, Nat.reduceEqDiff, Nat.reduceMul, Nat.reduceAdd] <;> kernel_rfl
theorem F78_call : eInv env (k + 1) (.func 78) #[] #[x0, x1] h = F78 (eInv env k) k x0 x1 h := kq_inv F78_eq
noncomputable def c79 : Code := codeOf Try.prog 79
theorem r79_0  : kCode env 79 false inv k (cp c79 2) (act 51 [(0, x0), (1, x1)]) h K =
    K .normal (act 51 [(0, x0), (1, x1)]) h := kq_reg
theorem r79_1  : kCode env 79 false inv k (cp c79 6) (act 51 [(0, x0), (1, x1)]) h K =
    bnd (pBin Try.prog .and 51 (.tmp 14) (.const (.int .u64 4294967295)) x0 (.int .u64 4294967295)) fun x15 =>
    K .normal (act 51 [(0, x0), (1, x1), (6, x15)]) h := kq_reg
theorem r79_2  : kCode env 79 false inv k (cp c79 14) (act 51 [(0, x0), (1, x1), (6, x6)]) h K =
    bnd (pBin Try.prog .shr 51 (.tmp 16) (.const (.int .u64 32)) x0 (.int .u64 32)) fun x17 =>
    K .normal (act 51 [(0, x0), (1, x1), (6, x6), (7, x17)]) h := kq_reg
theorem r79_3  : kCode env 79 false inv k (cp c79 30) (act 51 [(0, x0), (1, x1), (6, x6), (7, x7)]) h K =
    bnd (pBin Try.prog .and 51 (.tmp 18) (.const (.int .u64 4294967295)) x1 (.int .u64 4294967295)) fun x19 =>
    K .normal (act 51 [(0, x0), (1, x1), (6, x6), (7, x7), (8, x19)]) h := kq_reg
theorem r79_4  : kCode env 79 false inv k (cp c79 62) (act 51 [(0, x0), (1, x1), (6, x6), (7, x7), (8, x8)]) h K =
    bnd (pBin Try.prog .shr 51 (.tmp 20) (.const (.int .u64 32)) x1 (.int .u64 32)) fun x21 =>
    K .normal (act 51 [(0, x0), (1, x1), (6, x6), (7, x7), (8, x8), (9, x21)]) h := kq_reg
theorem r79_5  : kCode env 79 false inv k (cp c79 126) (act 51 [(0, x0), (1, x1), (6, x6), (7, x7), (8, x8), (9, x9)]) h K =
    bnd (pBin Try.prog .mul 51 (.tmp 22) (.tmp 23) x6 x8) fun x24 =>
    K .normal (act 51 [(0, x0), (1, x1), (6, x6), (7, x7), (8, x8), (9, x9), (10, x24)]) h := kq_reg
theorem r79_6  : kCode env 79 false inv k (cp c79 254) (act 51 [(0, x0), (1, x1), (6, x6), (7, x7), (8, x8), (9, x9), (10, x10)]) h K =
    bnd (pBin Try.prog .mul 51 (.tmp 25) (.tmp 26) x7 x8) fun x27 =>
    bnd (pBin Try.prog .shr 51 (.tmp 28) (.const (.int .u64 32)) x10 (.int .u64 32)) fun x29 =>
    bnd (pBin Try.prog .add 51 (.tmp 27) (.tmp 29) x27 x29) fun x30 =>
    K .normal (act 51 [(0, x0), (1, x1), (6, x6), (7, x7), (9, x9), (11, x30)]) h := kq_reg
theorem r79_7  : kCode env 79 false inv k (cp c79 510) (act 51 [(0, x0), (1, x1), (6, x6), (7, x7), (9, x9), (11, x11)]) h K =
    bnd (pBin Try.prog .and 51 (.tmp 31) (.const (.int .u64 4294967295)) x11 (.int .u64 4294967295)) fun x32 =>
    K .normal (act 51 [(0, x0), (1, x1), (6, x6), (7, x7), (9, x9), (11, x11), (12, x32)]) h := kq_reg
theorem r79_8  : kCode env 79 false inv k (cp c79 1022) (act 51 [(0, x0), (1, x1), (6, x6), (7, x7), (9, x9), (11, x11), (12, x12)]) h K =
    bnd (pBin Try.prog .shr 51 (.tmp 33) (.const (.int .u64 32)) x11 (.int .u64 32)) fun x34 =>
    K .normal (act 51 [(0, x0), (1, x1), (6, x6), (7, x7), (9, x9), (12, x12), (13, x34)]) h := kq_reg
theorem r79_9  : kCode env 79 false inv k (cp c79 2046) (act 51 [(0, x0), (1, x1), (6, x6), (7, x7), (9, x9), (12, x12), (13, x13)]) h K =
    bnd (pBin Try.prog .mul 51 (.tmp 36) (.tmp 37) x6 x9) fun x38 =>
    bnd (pBin Try.prog .add 51 (.tmp 35) (.tmp 38) x12 x38) fun x39 =>
    K .normal (act 51 [(0, x0), (1, x1), (7, x7), (9, x9), (12, x39), (13, x13)]) h := kq_reg
noncomputable abbrev G79_10 {β : Type} (inv : Inv) (x0 x1 x7 x9 x12 x13 : Value) (h : AH) (K : Value → AH → Option β) : Option β :=
    bnd (pBin Try.prog .mul 51 (.tmp 40) (.tmp 41) x7 x9) fun x42 =>
    bnd (pBin Try.prog .add 51 (.tmp 42) (.tmp 43) x42 x13) fun x44 =>
    bnd (pBin Try.prog .shr 51 (.tmp 45) (.const (.int .u64 32)) x12 (.int .u64 32)) fun x46 =>
    bnd (pBin Try.prog .add 51 (.tmp 44) (.tmp 46) x44 x46) fun x47 =>
    K (x47) h
theorem r79_10  : kCode env 79 false inv k (cp c79 4094) (act 51 [(0, x0), (1, x1), (7, x7), (9, x9), (12, x12), (13, x13)]) h K =
    G79_10 inv x0 x1 x7 x9 x12 x13 h fun y4 h => K .normal (act 51 [(0, x0), (1, x1), (4, y4)]) h := kq_reg
theorem r79_11  : kCode env 79 false inv k (cp c79 8190) (act 51 [(0, x0), (1, x1), (4, x4)]) h K =
    bnd (pBin Try.prog .mul 51 (.tmp 48) (.tmp 49) x0 x1) fun x50 =>
    K .normal (act 51 [(4, x4), (5, x50)]) h := kq_reg
theorem res79_0 : resOfFn env.P 79 .ret (act 51 [(4, x4), (5, x5)]) h = some (.tuple #[x4, x5], h) := kq_res
/-- math/bits.Mul64 -/
noncomputable def F79 (inv : Inv) (k : Nat) (x0 x1 : Value) (h : AH) : Option (Value × AH) :=
    bnd (pBin Try.prog .and 51 (.tmp 14) (.const (.int .u64 4294967295)) x0 (.int .u64 4294967295)) fun x15 =>
    bnd (pBin Try.prog .shr 51 (.tmp 16) (.const (.int .u64 32)) x0 (.int .u64 32)) fun x17 =>
    bnd (pBin Try.prog .and 51 (.tmp 18) (.const (.int .u64 4294967295)) x1 (.int .u64 4294967295)) fun x19 =>
    bnd (pBin Try.prog .shr 51 (.tmp 20) (.const (.int .u64 32)) x1 (.int .u64 32)) fun x21 =>
    bnd (pBin Try.prog .mul 51 (.tmp 22) (.tmp 23) x15 x19) fun x24 =>
    bnd (pBin Try.prog .mul 51 (.tmp 25) (.tmp 26) x17 x19) fun x27 =>
    bnd (pBin Try.prog .shr 51 (.tmp 28) (.const (.int .u64 32)) x24 (.int .u64 32)) fun x29 =>
    bnd (pBin Try.prog .add 51 (.tmp 27) (.tmp 29) x27 x29) fun x30 =>
    bnd (pBin Try.prog .and 51 (.tmp 31) (.const (.int .u64 4294967295)) x30 (.int .u64 4294967295)) fun x32 =>
    bnd (pBin Try.prog .shr 51 (.tmp 33) (.const (.int .u64 32)) x30 (.int .u64 32)) fun x34 =>
    bnd (pBin Try.prog .mul 51 (.tmp 36) (.tmp 37) x15 x21) fun x38 =>
    bnd (pBin Try.prog .add 51 (.tmp 35) (.tmp 38) x32 x38) fun x39 =>
    G79_10 inv x0 x1 x17 x21 x39 x34 h fun y4 h =>
    bnd (pBin Try.prog .mul 51 (.tmp 48) (.tmp 49) x0 x1) fun x50 =>
    some (.tuple #[y4, x50], h)
theorem F79_eq : eFun env k inv 79 #[x0, x1] h = F79 inv k x0 x1 h := by
      refine (kq_fun (a := act 51 [(0, x0), (1, x1)]) (c := cp c79 1)).trans ?_
      unfold F79
      simp only [kq_seq c79 1, r79_0, kq_seq c79 3, r79_1, kq_seq c79 7, r79_2, kq_seq c79 15, r79_3, kq_seq c79 31, r79_4, kq_seq c79 63, r79_5, kq_seq c79 127, r79_6, kq_seq c79 255, r79_7, kq_seq c79 511, r79_8, kq_seq c79 1023, r79_9, kq_seq c79 2047, r79_10, kq_seq c79 4095, r79_11, kq_ret c79 8191, res79_0, reduceIte, reduceCtorEq, XE.exit.injEq, Nat.reduceEqDiff, Nat.reduceMul, Nat.reduceAdd] <;> kernel_rfl
theorem F79_call : eInv env (k + 1) (.func 79) #[] #[x0, x1] h = F79 (eInv env k) k x0 x1 h := kq_inv F79_eq
noncomputable def c80 : Code := codeOf Try.prog 80
theorem r80_0  : kCode env 80 false inv k (cp c80 2) (act 32 [(0, x0), (1, x1), (2, x2)]) h K =
    K .normal (act 32 [(0, x0), (1, x1), (2, x2), (6, (.int .u64 0))]) h := kq_reg
theorem r80_1  : kCode env 80 false inv k (cp c80 12) (act 32 [(0, x0), (1, x1), (2, x2), (6, x6)]) h K =
    K .normal (act 32 [(0, x0), (1, x1), (6, x6), (9, x2), (10, (.int .i64 0))]) h := kq_reg
theorem r80_2  : kCode env 80 false inv k (cp c80 104) (act 32 [(0, x0), (1, x1), (6, x6), (9, x9), (10, x10)]) h K =
    bnd (pBin Try.prog .lss 3 (.tmp 10) (.tmp 9) x10 x9) fun x11 =>
    K .normal (act 32 [(0, x0), (1, x1), (6, x6), (9, x9), (10, x10), (11, x11)]) h := kq_reg
theorem b80_lrllrlr  : kCode env 80 false inv k (cp c80 210) (act 32 [(0, x0), (1, x1), (6, x6), (9, x9), (10, x10), (11, x11)]) h K = brV x11 (kCode env 80 false inv k (cp c80 420) (act 32 [(0, x0), (1, x1), (6, x6), (9, x9), (10, x10), (11, x11)]) h K) (kCode env 80 false inv k (cp c80 421) (act 32 [(0, x0), (1, x1), (6, x6), (9, x9), (10, x10), (11, x11)]) h K) := kq_cond
theorem r80_3  : kCode env 80 false inv k (cp c80 1688) (act 32 [(0, x0), (1, x1), (6, x6), (9, x9), (10, x10), (11, x11)]) h K =
    K .normal (act 32 [(0, x0), (1, x1), (6, x6), (7, x10), (9, x9), (10, x10)]) h := kq_reg
theorem r80_4  : kCode env 80 false inv k (cp c80 3378) (act 32 [(0, x0), (1, x1), (6, x6), (7, x7), (9, x9), (10, x10)]) h K =
    bnd (pBin Try.prog .add 3 (.tmp 13) (.tmp 14) x1 x7) fun x15 =>
    K .normal (act 32 [(0, x0), (1, x1), (6, x6), (7, x7), (8, x15), (9, x9), (10, x10)]) h := kq_reg
noncomputable abbrev G80_5 {β : Type} (inv : Inv) (x0 x1 x6 x7 x8 x9 x10 : Value) (h : AH) (K : Value → AH → Option β) : Option β :=
    bnd (pBin Try.prog .quo 3 (.tmp 18) (.const (.int .i64 8)) x8 (.int .i64 8)) fun x19 =>
    bnd (pIndexAddr Try.prog 26 x0 x19) fun x20 =>
    bnd (pLoad Try.prog 5 x20 h) fun x21 =>
    bnd (pBin Try.prog .rem 3 (.tmp 22) (.const (.int .i64 8)) x8 (.int .i64 8)) fun x23 =>
    bnd (pBin Try.prog .shr 5 (.tmp 21) (.tmp 23) x21 x23) fun x24 =>
    bnd (pBin Try.prog .and 5 (.tmp 24) (.const (.int .u8 1)) x24 (.int .u8 1)) fun x25 =>
    bnd (pConv Try.prog 5 51 x25 h) fun x26 =>
    bnd (pBin Try.prog .shl 51 (.tmp 26) (.tmp 27) x26 x7) fun x28 =>
    bnd (pBin Try.prog .or 51 (.tmp 16) (.tmp 28) x6 x28) fun x29 =>
    K (x29) h
theorem r80_5  : kCode env 80 false inv k (cp c80 3379) (act 32 [(0, x0), (1, x1), (6, x6), (7, x7), (8, x8), (9, x9), (10, x10)]) h K =
    G80_5 inv x0 x1 x6 x7 x8 x9 x10 h fun y6 h => K .normal (act 32 [(0, x0), (1, x1), (6, y6), (9, x9), (10, x10)]) h := kq_reg
theorem r80_6  : kCode env 80 false inv k (cp c80 423) (act 32 [(0, x0), (1, x1), (6, x6), (9, x9), (10, x10)]) h K =
    bnd (pBin Try.prog .add 3 (.tmp 10) (.const (.int .i64 1)) x10 (.int .i64 1)) fun x30 =>
    K .normal (act 32 [(0, x0), (1, x1), (6, x6), (9, x9), (10, x30)]) h := kq_reg
noncomputable def F80_lrlr {β : Type} (inv : Inv) (k : Nat) : Nat → Value → Value → Value → Value → Value → AH → (Value → Value → Value → Value → Value → Value → AH → Option β) → Option β
  | 0, _, _, _, _, _, _, _ => none
  | j + 1, x0, x1, x6, x9, x10, h, ke0 =>
    bnd (pBin Try.prog .lss 3 (.tmp 10) (.tmp 9) x10 x9) fun x11 =>
    brV x11
    (bnd (pBin Try.prog .add 3 (.tmp 13) (.tmp 14) x1 x10) fun x15 =>
    G80_5 inv x0 x1 x6 x10 x15 x9 x10 h fun y6 h =>
    bnd (pBin Try.prog .add 3 (.tmp 10) (.const (.int .i64 1)) x10 (.int .i64 1)) fun x30 =>
    F80_lrlr inv k j x0 x1 y6 x9 x30 h ke0)
    (ke0 x0 x1 x6 x9 x10 x11 h)
theorem F80_lrlr_j (j : Nat) : kLoop (kCode env 80 false inv k (cp c80 52)) j (act 32 [(0, x0), (1, x1), (6, x6), (9, x9), (10, x10)]) h K = F80_lrlr inv k j x0 x1 x6 x9 x10 h (fun y0 y1 y6 y9 y10 y11 h => K (.exit 0) (act 32 [(0, y0), (1, y1), (6, y6), (9, y9), (10, y10), (11, y11)]) h) := by
      induction j generalizing x0 x1 x6 x9 x10 h with
      | zero => rfl
      | succ j ih =>
        unfold F80_lrlr
        simp only [kLoop, kq_seq c80 52, r80_2, kq_seq c80 105, b80_lrllrlr, kq_skip c80 420, kq_seq c80 211, kq_block c80 422 1, kq_seq c80 844, r80_3, kq_seq c80 1689, r80_4, r80_5, r80_6, kq_exit c80 421 0, ih, reduceIte, reduceCtorEq, XE.exit.injEq, Nat.reduceEqDiff, Nat.reduceMul, Nat.reduceAdd] <;> kernel_rfl
theorem F80_lrlr_eq  : kCode env 80 false inv k (cp c80 26) (act 32 [(0, x0), (1, x1), (6, x6), (9, x9), (10, x10)]) h K = F80_lrlr inv k k x0 x1 x6 x9 x10 h (fun y0 y1 y6 y9 y10 y11 h => K (.exit 0) (act 32 [(0, y0), (1, y1), (6, y6), (9, y9), (10, y10), (11, y11)]) h) := kq_loop (F80_lrlr_j k)
theorem r80_7  : kCode env 80 false inv k (cp c80 14) (act 32 [(0, x0), (1, x1), (6, x6), (9, x9), (10, x10), (11, x11)]) h K =
    K .normal (act 32 [(6, x6)]) h := kq_reg
theorem res80_0 : resOfFn env.P 80 .ret (act 32 [(6, x6)]) h = some (x6, h) := kq_res
/-- shadowbook/packs.at -/
noncomputable def F80 (inv : Inv) (k : Nat) (x0 x1 x2 : Value) (h : AH) : Option (Value × AH) :=
    F80_lrlr inv k k x0 x1 (.int .u64 0) x2 (.int .i64 0) h
    (fun y0 y1 y6 y9 y10 y11 h =>
    some (y6, h))
theorem F80_eq : eFun env k inv 80 #[x0, x1, x2] h = F80 inv k x0 x1 x2 h := by
      refine (kq_fun (a := act 32 [(0, x0), (1, x1), (2, x2)]) (c := cp c80 1)).trans ?_
      unfold F80
      simp only [kq_seq c80 1, r80_0, kq_seq c80 3, kq_seq c80 6, r80_1, kq_block c80 13 0, F80_lrlr_eq, kq_seq c80 7, r80_7, kq_ret c80 15, res80_0, reduceIte, reduceCtorEq, XE.exit.injEq, Nat.reduceEqDiff, Nat.reduceMul, Nat.reduceAdd] <;> kernel_rfl
theorem F80_call : eInv env (k + 1) (.func 80) #[] #[x0, x1, x2] h = F80 (eInv env k) k x0 x1 x2 h := kq_inv F80_eq
noncomputable def c81 : Code := codeOf Try.prog 81
theorem r81_0  : kCode env 81 false inv k (cp c81 4) (act 26 [(0, x0), (1, x1), (2, x2), (3, x3)]) h K =
    bnd (pLoad Try.prog 26 x1 h) fun x6 =>
    bnd (pLoad Try.prog 3 x2 h) fun x7 =>
    bnd (pLoad Try.prog 3 x3 h) fun x8 =>
    bnd (inv (.func 74) #[] #[x6, x7, x8] h) fun x9 =>
    bnd (pBin Try.prog .neq 27 (.tmp 9) (.const (.int .i64 0)) x9.1 (.int .i64 0)) fun x10 =>
    K .normal (act 26 [(0, x0), (1, x1), (2, x2), (3, x3), (10, x10)]) x9.2 := kq_reg
theorem b81_rl  : kCode env 81 false inv k (cp c81 5) (act 26 [(0, x0), (1, x1), (2, x2), (3, x3), (10, x10)]) h K = brV x10 (kCode env 81 false inv k (cp c81 10) (act 26 [(0, x0), (1, x1), (2, x2), (3, x3), (10, x10)]) h K) (kCode env 81 false inv k (cp c81 11) (act 26 [(0, x0), (1, x1), (2, x2), (3, x3), (10, x10)]) h K) := kq_cond
theorem res81_0 : resOfFn env.P 81 .ret (act 26 [(0, x0), (1, x1), (2, x2), (3, x3), (10, x10)]) h = some (.tuple #[], h) := kq_res
theorem r81_1  : kCode env 81 false inv k (cp c81 6) (act 26 [(0, x0), (1, x1), (2, x2), (3, x3), (10, x10)]) h K =
    bnd (pLoad Try.prog 3 x2 h) fun x11 =>
    K .normal (act 26 [(0, x0), (1, x1), (3, x3), (11, x11), (12, (.int .i64 0))]) h := kq_reg
theorem r81_2  : kCode env 81 false inv k (cp c81 56) (act 26 [(0, x0), (1, x1), (3, x3), (11, x11), (12, x12)]) h K =
    bnd (pBin Try.prog .lss 3 (.tmp 12) (.tmp 11) x12 x11) fun x13 =>
    K .normal (act 26 [(0, x0), (1, x1), (3, x3), (11, x11), (12, x12), (13, x13)]) h := kq_reg
theorem b81_lrllrr  : kCode env 81 false inv k (cp c81 114) (act 26 [(0, x0), (1, x1), (3, x3), (11, x11), (12, x12), (13, x13)]) h K = brV x13 (kCode env 81 false inv k (cp c81 228) (act 26 [(0, x0), (1, x1), (3, x3), (11, x11), (12, x12), (13, x13)]) h K) (kCode env 81 false inv k (cp c81 229) (act 26 [(0, x0), (1, x1), (3, x3), (11, x11), (12, x12), (13, x13)]) h K) := kq_cond
theorem r81_3  : kCode env 81 false inv k (cp c81 920) (act 26 [(0, x0), (1, x1), (3, x3), (11, x11), (12, x12), (13, x13)]) h K =
    K .normal (act 26 [(0, x0), (1, x1), (3, x3), (5, x12), (11, x11), (12, x12)]) h := kq_reg
theorem r81_4  : kCode env 81 false inv k (cp c81 1842) (act 26 [(0, x0), (1, x1), (3, x3), (5, x5), (11, x11), (12, x12)]) h K =
    bnd (pLoad Try.prog 26 x1 h) fun x17 =>
    bnd (pLoad Try.prog 3 x3 h) fun x19 =>
    bnd (pBin Try.prog .mul 3 (.tmp 18) (.tmp 19) x5 x19) fun x20 =>
    bnd (pLoad Try.prog 3 x3 h) fun x21 =>
    bnd (inv (.func 80) #[] #[x17, x20, x21] h) fun x22 =>
    bnd (callV inv x0 #[x5, x22.1] x22.2) fun x23 =>
    bnd (pUn Try.prog .not x23.1) fun x24 =>
    K .normal (act 26 [(0, x0), (1, x1), (3, x3), (11, x11), (12, x12), (24, x24)]) x23.2 := kq_reg
theorem b81_rrllrrllrr  : kCode env 81 false inv k (cp c81 1843) (act 26 [(0, x0), (1, x1), (3, x3), (11, x11), (12, x12), (24, x24)]) h K = brV x24 (kCode env 81 false inv k (cp c81 3686) (act 26 [(0, x0), (1, x1), (3, x3), (11, x11), (12, x12), (24, x24)]) h K) (kCode env 81 false inv k (cp c81 3687) (act 26 [(0, x0), (1, x1), (3, x3), (11, x11), (12, x12), (24, x24)]) h K) := kq_cond
theorem r81_5  : kCode env 81 false inv k (cp c81 231) (act 26 [(0, x0), (1, x1), (3, x3), (11, x11), (12, x12), (24, x24)]) h K =
    bnd (pBin Try.prog .add 3 (.tmp 12) (.const (.int .i64 1)) x12 (.int .i64 1)) fun x25 =>
    K .normal (act 26 [(0, x0), (1, x1), (3, x3), (11, x11), (12, x25)]) h := kq_reg
noncomputable def F81_lrr {β : Type} (inv : Inv) (k : Nat) : Nat → Value → Value → Value → Value → Value → AH → (Value → Value → Value → Value → Value → Value → AH → Option β) → (Value → Value → Value → Value → Value → Value → AH → Option β) → Option β
  | 0, _, _, _, _, _, _, _, _ => none
  | j + 1, x0, x1, x3, x11, x12, h, ke0, kr =>
    bnd (pBin Try.prog .lss 3 (.tmp 12) (.tmp 11) x12 x11) fun x13 =>
    brV x13
    (bnd (pLoad Try.prog 26 x1 h) fun x17 =>
    bnd (pLoad Try.prog 3 x3 h) fun x19 =>
    bnd (pBin Try.prog .mul 3 (.tmp 18) (.tmp 19) x12 x19) fun x20 =>
    bnd (pLoad Try.prog 3 x3 h) fun x21 =>
    bnd (inv (.func 80) #[] #[x17, x20, x21] h) fun x22 =>
    bnd (callV inv x0 #[x12, x22.1] x22.2) fun x23 =>
    bnd (pUn Try.prog .not x23.1) fun x24 =>
    brV x24
    (kr x0 x1 x3 x11 x12 x24 x23.2)
    (bnd (pBin Try.prog .add 3 (.tmp 12) (.const (.int .i64 1)) x12 (.int .i64 1)) fun x25 =>
    F81_lrr inv k j x0 x1 x3 x11 x25 x23.2 ke0 kr))
    (ke0 x0 x1 x3 x11 x12 x13 h)
theorem F81_lrr_j (j : Nat) : kLoop (kCode env 81 false inv k (cp c81 28)) j (act 26 [(0, x0), (1, x1), (3, x3), (11, x11), (12, x12)]) h K = F81_lrr inv k j x0 x1 x3 x11 x12 h (fun y0 y1 y3 y11 y12 y13 h => K (.exit 0) (act 26 [(0, y0), (1, y1), (3, y3), (11, y11), (12, y12), (13, y13)]) h) (fun y0 y1 y3 y11 y12 y24 h => K .ret (act 26 [(0, y0), (1, y1), (3, y3), (11, y11), (12, y12), (24, y24)]) h) := by
      induction j generalizing x0 x1 x3 x11 x12 h with
      | zero => rfl
      | succ j ih =>
        unfold F81_lrr
        simp only [kLoop, kq_seq c81 28, r81_2, kq_seq c81 57, b81_lrllrr, kq_skip c81 228, kq_seq c81 115, kq_block c81 230 1, kq_seq c81 460, r81_3, kq_seq c81 921, r81_4, b81_rrllrrllrr, kq_ret c81 3686, kq_skip c81 3687, r81_5, kq_exit c81 229 0, ih, reduceIte, reduceCtorEq, XE.exit.injEq, Nat.reduceEqDiff, Nat.reduceMul, Nat.reduceAdd] <;> kernel_rfl
theorem F81_lrr_eq  : kCode env 81 false inv k (cp c81 14) (act 26 [(0, x0), (1, x1), (3, x3), (11, x11), (12, x12)]) h K = F81_lrr inv k k x0 x1 x3 x11 x12 h (fun y0 y1 y3 y11 y12 y13 h => K (.exit 0) (act 26 [(0, y0), (1, y1), (3, y3), (11, y11), (12, y12), (13, y13)]) h) (fun y0 y1 y3 y11 y12 y24 h => K .ret (act 26 [(0, y0), (1, y1), (3, y3), (11, y11), (12, y12), (24, y24)]) h) := kq_loop (F81_lrr_j k)
theorem res81_1 : resOfFn env.P 81 .normal (act 26 [(0, x0), (1, x1), (3, x3), (11, x11), (12, x12), (13, x13)]) h = some (.tuple #[], h) := kq_res
theorem res81_2 : resOfFn env.P 81 .ret (act 26 [(0, x0), (1, x1), (3, x3), (11, x11), (12, x12), (24, x24)]) h = some (.tuple #[], h) := kq_res
/-- shadowbook/packs.Each$1 -/
noncomputable def F81 (inv : Inv) (k : Nat) (x0 x1 x2 x3 : Value) (h : AH) : Option (Value × AH) :=
    bnd (pLoad Try.prog 26 x1 h) fun x6 =>
    bnd (pLoad Try.prog 3 x2 h) fun x7 =>
    bnd (pLoad Try.prog 3 x3 h) fun x8 =>
    bnd (inv (.func 74) #[] #[x6, x7, x8] h) fun x9 =>
    bnd (pBin Try.prog .neq 27 (.tmp 9) (.const (.int .i64 0)) x9.1 (.int .i64 0)) fun x10 =>
    brV x10
    (some (.tuple #[], x9.2))
    (bnd (pLoad Try.prog 3 x2 x9.2) fun x11 =>
    F81_lrr inv k k x0 x1 x3 x11 (.int .i64 0) x9.2
    (fun y0 y1 y3 y11 y12 y13 h =>
    some (.tuple #[], h))
    (fun y0_1 y1_2 y3_3 y11_4 y12_5 y24 h_6 =>
    some (.tuple #[], h_6)))
theorem F81_eq : eFun env k inv 81 #[x0, x1, x2, x3] h = F81 inv k x0 x1 x2 x3 h := by
      refine (kq_fun (a := act 26 [(0, x0), (1, x1), (2, x2), (3, x3)]) (c := cp c81 1)).trans ?_
      unfold F81
      simp only [kq_seq c81 1, kq_seq c81 2, r81_0, b81_rl, kq_ret c81 10, res81_0, kq_skip c81 11, kq_seq c81 3, r81_1, kq_block c81 7 0, F81_lrr_eq, res81_1, res81_2, reduceIte, reduceCtorEq, XE.exit.injEq, Nat.reduceEqDiff, Nat.reduceMul, Nat.reduceAdd] <;> kernel_rfl
theorem F81_call : eInv env (k + 1) (.func 81) #[] #[x0, x1, x2, x3] h = F81 (eInv env k) k x0 x1 x2 x3 h := kq_inv F81_eq
end Go.Proofs.Ytcidbbkefpeahaa.Sh
