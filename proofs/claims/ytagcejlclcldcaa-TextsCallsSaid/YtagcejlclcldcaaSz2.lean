/- Shallow functions, part 2. Printed by a program of the prover's own from the loaded program; Lean checks it. -/
import Derived.Test.YtagcejlclcldcaaSz1
set_option linter.unusedVariables false
set_option linter.unusedSimpArgs false
set_option maxRecDepth 100000
namespace Go.Proofs.Ytagcejlclcldcaa.Sh
open Go Go.RowKit Go.Proofs.Ev
variable {β : Type} {inv : Inv} {k : Nat} {h : AH} {K : XE → Act → AH → Option β} {x0 x1 x2 x3 x4 x5 x6 x7 x8 x9 x10 x11 x12 x13 x14 x15 x16 x17 x18 x19 x20 x21 x22 x23 x24 x25 x26 x27 x28 x29 x30 x31 x32 x33 x34 x35 x36 x37 x38 x39 x41 x42 x43 x44 x45 x46 x47 x48 x49 x50 x52 x53 x54 x55 x56 x57 x58 x59 x61 x63 x66 x67 x69 x70 x71 x76 x77 x78 x79 x80 x81 z0 z1 : Value}
noncomputable def c47 : Code := codeOf Try.prog 47
theorem r47_0  : kCode env 47 false inv k (cp c47 2) (act 37 [(0, x0), (1, x1)]) h K =
    K .normal (act 37 [(0, x0), (1, x1)]) h := kq_reg
noncomputable abbrev G47_1 {β : Type} (inv : Inv) (x0 x1 : Value) (h : AH) (K : Value → AH → Option β) : Option β :=
    bnd (pBin Try.prog .lss 3 (.tmp 7) (.const (.int .i64 1)) x1 (.int .i64 1)) fun x8 =>
    bnd (gd (some x8) false h (some (x1, h))) fun x10 =>
    bnd (gd (some x8) false x10.2 (lt (pBin Try.prog .gtr 3 (.tmp 10) (.const (.int .i64 8)) x10.1 (.int .i64 8)) x10.2)) fun x11 =>
    bnd (pickV x8 (.bool true) x11.1) fun x12 =>
    K (x12) x11.2
theorem r47_1  : kCode env 47 false inv k (cp c47 12) (act 37 [(0, x0), (1, x1)]) h K =
    G47_1 inv x0 x1 h fun y12 h => K .normal (act 37 [(0, x0), (1, x1), (12, y12)]) h := kq_reg
theorem b47_rlr  : kCode env 47 false inv k (cp c47 13) (act 37 [(0, x0), (1, x1), (12, x12)]) h K = brV x12 (kCode env 47 false inv k (cp c47 26) (act 37 [(0, x0), (1, x1), (12, x12)]) h K) (kCode env 47 false inv k (cp c47 27) (act 37 [(0, x0), (1, x1), (12, x12)]) h K) := kq_cond
theorem r47_2  : kCode env 47 false inv k (cp c47 52) (act 37 [(0, x0), (1, x1), (12, x12)]) h K =
    K .normal (act 37 [(4, (.int .u64 0)), (5, (.int .i64 2))]) h := kq_reg
theorem res47_0 : resOfFn env.P 47 .ret (act 37 [(4, x4), (5, x5)]) h = some (.tuple #[x4, x5], h) := kq_res
theorem r47_3  : kCode env 47 false inv k (cp c47 28) (act 37 [(0, x0), (1, x1), (12, x12)]) h K =
    bnd (pNilCheck x0) fun x14 =>
    bnd (pFieldAddr Try.prog 84 x14 0) fun x15 =>
    bnd (pLoad Try.prog 30 x15 h) fun x16 =>
    bnd (pLen Try.prog #[30] x16 h) fun x17 =>
    bnd (pBin Try.prog .lss 3 (.tmp 17) (.tmp 18) x17 x1) fun x19 =>
    K .normal (act 37 [(0, x0), (1, x1), (19, x19)]) h := kq_reg
theorem b47_rlrr  : kCode env 47 false inv k (cp c47 29) (act 37 [(0, x0), (1, x1), (19, x19)]) h K = brV x19 (kCode env 47 false inv k (cp c47 58) (act 37 [(0, x0), (1, x1), (19, x19)]) h K) (kCode env 47 false inv k (cp c47 59) (act 37 [(0, x0), (1, x1), (19, x19)]) h K) := kq_cond
theorem r47_4  : kCode env 47 false inv k (cp c47 116) (act 37 [(0, x0), (1, x1), (19, x19)]) h K =
    K .normal (act 37 [(4, (.int .u64 0)), (5, (.int .i64 7))]) h := kq_reg
theorem r47_5  : kCode env 47 false inv k (cp c47 30) (act 37 [(0, x0), (1, x1), (19, x19)]) h K =
    bnd (pNilCheck x0) fun x21 =>
    bnd (pFieldAddr Try.prog 84 x21 0) fun x22 =>
    bnd (pLoad Try.prog 30 x22 h) fun x23 =>
    bnd (pSlice Try.prog 30 x23 none (some x1) none h) fun x25 =>
    bnd (inv (.func 72) #[] #[x25] h) fun x26 =>
    K .normal (act 37 [(0, x0), (1, x1), (6, x26.1)]) x26.2 := kq_reg
theorem r47_6  : kCode env 47 false inv k (cp c47 62) (act 37 [(0, x0), (1, x1), (6, x6)]) h K =
    bnd (pNilCheck x0) fun x29 =>
    bnd (pFieldAddr Try.prog 84 x29 0) fun x30 =>
    bnd (pLoad Try.prog 30 x30 h) fun x31 =>
    bnd (pSlice Try.prog 30 x31 (some x1) none none h) fun x33 =>
    bnd (pNilCheck x0) fun x34 =>
    bnd (pFieldAddr Try.prog 84 x34 0) fun x35 =>
    bnd (kSt (pStore Try.prog 30 x35 x33 h)) fun u =>
    K .normal (act 37 [(6, x6)]) u.2 := kq_reg
theorem r47_7  : kCode env 47 false inv k (cp c47 126) (act 37 [(6, x6)]) h K =
    K .normal (act 37 [(4, x6), (5, (.int .i64 0))]) h := kq_reg
/-- (*shadowbook/shadowbookref01.Reader).Number -/
noncomputable def F47 (inv : Inv) (k : Nat) (x0 x1 : Value) (h : AH) : Option (Value × AH) :=
    G47_1 inv x0 x1 h fun y12 h =>
    brV y12
    (some (.tuple #[(.int .u64 0), (.int .i64 2)], h))
    (bnd (pNilCheck x0) fun x14 =>
    bnd (pFieldAddr Try.prog 84 x14 0) fun x15 =>
    bnd (pLoad Try.prog 30 x15 h) fun x16 =>
    bnd (pLen Try.prog #[30] x16 h) fun x17 =>
    bnd (pBin Try.prog .lss 3 (.tmp 17) (.tmp 18) x17 x1) fun x19 =>
    brV x19
    (some (.tuple #[(.int .u64 0), (.int .i64 7)], h))
    (bnd (pNilCheck x0) fun x21 =>
    bnd (pFieldAddr Try.prog 84 x21 0) fun x22 =>
    bnd (pLoad Try.prog 30 x22 h) fun x23 =>
    bnd (pSlice Try.prog 30 x23 none (some x1) none h) fun x25 =>
    bnd (inv (.func 72) #[] #[x25] h) fun x26 =>
    bnd (pNilCheck x0) fun x29 =>
    bnd (pFieldAddr Try.prog 84 x29 0) fun x30 =>
    bnd (pLoad Try.prog 30 x30 x26.2) fun x31 =>
    bnd (pSlice Try.prog 30 x31 (some x1) none none x26.2) fun x33 =>
    bnd (pNilCheck x0) fun x34 =>
    bnd (pFieldAddr Try.prog 84 x34 0) fun x35 =>
    bnd (kSt (pStore Try.prog 30 x35 x33 x26.2)) fun u =>
    some (.tuple #[x26.1, (.int .i64 0)], u.2)))
theorem F47_eq : eFun env k inv 47 #[x0, x1] h = F47 inv k x0 x1 h := by
      refine (kq_fun (a := act 37 [(0, x0), (1, x1)]) (c := cp c47 1)).trans ?_
      unfold F47
      simp only [kq_seq c47 1, r47_0, kq_seq c47 3, kq_seq c47 6, r47_1, b47_rlr, kq_seq c47 26, r47_2, kq_ret c47 53, res47_0, kq_skip c47 27, kq_seq c47 7, kq_seq c47 14, r47_3, b47_rlrr, kq_seq c47 58, r47_4, kq_ret c47 117, kq_skip c47 59, kq_seq c47 15, r47_5, kq_seq c47 31, r47_6, kq_seq c47 63, r47_7, kq_ret c47 127, reduceIte, reduceCtorEq, XE.exit.injEq, Nat.reduceEqDiff, Nat.reduceMul, Nat.reduceAdd] <;> kernel_rfl
theorem F47_call : eInv env (k + 1) (.func 47) #[] #[x0, x1] h = F47 (eInv env k) k x0 x1 h := kq_inv F47_eq
noncomputable def c48 : Code := codeOf Try.prog 48
theorem r48_0  : kCode env 48 false inv k (cp c48 2) (act 65 [(0, x0)]) h K =
    K .normal (act 65 [(0, x0)]) h := kq_reg
theorem r48_1  : kCode env 48 false inv k (cp c48 6) (act 65 [(0, x0)]) h K =
    K .normal (act 65 [(0, x0), (4, (.int .u64 0))]) h := kq_reg
theorem r48_2  : kCode env 48 false inv k (cp c48 28) (act 65 [(0, x0), (4, x4)]) h K =
    K .normal (act 65 [(0, x0), (4, x4), (5, (.int .i64 0))]) h := kq_reg
theorem r48_3  : kCode env 48 false inv k (cp c48 464) (act 65 [(0, x0), (4, x4), (5, x5)]) h K =
    bnd (pBin Try.prog .lss 3 (.tmp 7) (.const (.int .i64 10)) x5 (.int .i64 10)) fun x8 =>
    K .normal (act 65 [(0, x0), (4, x4), (5, x5), (8, x8)]) h := kq_reg
theorem b48_rlllrlrr  : kCode env 48 false inv k (cp c48 465) (act 65 [(0, x0), (4, x4), (5, x5), (8, x8)]) h K = brV x8 (kCode env 48 false inv k (cp c48 930) (act 65 [(0, x0), (4, x4), (5, x5), (8, x8)]) h K) (kCode env 48 false inv k (cp c48 931) (act 65 [(0, x0), (4, x4), (5, x5), (8, x8)]) h K) := kq_cond
theorem r48_5  : kCode env 48 false inv k (cp c48 3728) (act 65 [(0, x0), (4, x4), (5, x5), (8, x8)]) h K =
    bnd (pNilCheck x0) fun x13 =>
    bnd (pFieldAddr Try.prog 84 x13 0) fun x14 =>
    bnd (pLoad Try.prog 30 x14 h) fun x15 =>
    bnd (pLen Try.prog #[30] x15 h) fun x16 =>
    bnd (pBin Try.prog .geq 3 (.tmp 11) (.tmp 16) x5 x16) fun x17 =>
    K .normal (act 65 [(0, x0), (4, x4), (5, x5), (17, x17)]) h := kq_reg
theorem b48_rlllrllrlrr  : kCode env 48 false inv k (cp c48 3729) (act 65 [(0, x0), (4, x4), (5, x5), (17, x17)]) h K = brV x17 (kCode env 48 false inv k (cp c48 7458) (act 65 [(0, x0), (4, x4), (5, x5), (17, x17)]) h K) (kCode env 48 false inv k (cp c48 7459) (act 65 [(0, x0), (4, x4), (5, x5), (17, x17)]) h K) := kq_cond
theorem r48_6  : kCode env 48 false inv k (cp c48 14916) (act 65 [(0, x0), (4, x4), (5, x5), (17, x17)]) h K =
    K .normal (act 65 [(2, (.int .u64 0)), (3, (.int .i64 7))]) h := kq_reg
theorem r48_7  : kCode env 48 false inv k (cp c48 3730) (act 65 [(0, x0), (4, x4), (5, x5), (17, x17)]) h K =
    bnd (pNilCheck x0) fun x19 =>
    bnd (pFieldAddr Try.prog 84 x19 0) fun x20 =>
    bnd (pLoad Try.prog 30 x20 h) fun x21 =>
    bnd (pIndexAddr Try.prog 30 x21 x5) fun x23 =>
    bnd (pLoad Try.prog 5 x23 h) fun x24 =>
    bnd (pBin Try.prog .and 5 (.tmp 24) (.const (.int .u8 127)) x24 (.int .u8 127)) fun x25 =>
    bnd (pConv Try.prog 5 48 x25 h) fun x26 =>
    K .normal (act 65 [(0, x0), (4, x4), (5, x5), (6, x26)]) h := kq_reg
noncomputable abbrev G48_8 {β : Type} (inv : Inv) (x0 x4 x5 x6 : Value) (h : AH) (K : Value → AH → Option β) : Option β :=
    bnd (pBin Try.prog .eql 3 (.tmp 27) (.const (.int .i64 9)) x5 (.int .i64 9)) fun x28 =>
    bnd (gd (some x28) true h (some (x6, h))) fun x30 =>
    bnd (gd (some x28) true x30.2 (lt (pBin Try.prog .gtr 48 (.tmp 30) (.const (.int .u64 1)) x30.1 (.int .u64 1)) x30.2)) fun x31 =>
    bnd (pickV x28 x31.1 (.bool false)) fun x32 =>
    K (x32) x31.2
theorem r48_8  : kCode env 48 false inv k (cp c48 14924) (act 65 [(0, x0), (4, x4), (5, x5), (6, x6)]) h K =
    G48_8 inv x0 x4 x5 x6 h fun y32 h => K .normal (act 65 [(0, x0), (4, x4), (5, x5), (6, x6), (32, y32)]) h := kq_reg
theorem b48_rlrrllrllrlrr  : kCode env 48 false inv k (cp c48 14925) (act 65 [(0, x0), (4, x4), (5, x5), (6, x6), (32, x32)]) h K = brV x32 (kCode env 48 false inv k (cp c48 29850) (act 65 [(0, x0), (4, x4), (5, x5), (6, x6), (32, x32)]) h K) (kCode env 48 false inv k (cp c48 29851) (act 65 [(0, x0), (4, x4), (5, x5), (6, x6), (32, x32)]) h K) := kq_cond
theorem r48_9  : kCode env 48 false inv k (cp c48 59700) (act 65 [(0, x0), (4, x4), (5, x5), (6, x6), (32, x32)]) h K =
    K .normal (act 65 [(2, (.int .u64 0)), (3, (.int .i64 4))]) h := kq_reg
theorem r48_10  : kCode env 48 false inv k (cp c48 14926) (act 65 [(0, x0), (4, x4), (5, x5), (6, x6), (32, x32)]) h K =
    bnd (pBin Try.prog .mul 3 (.const (.int .i64 7)) (.tmp 35) (.int .i64 7) x5) fun x36 =>
    bnd (pConv Try.prog 3 70 x36 h) fun x37 =>
    bnd (pBin Try.prog .shl 48 (.tmp 34) (.tmp 37) x6 x37) fun x38 =>
    bnd (pBin Try.prog .or 48 (.tmp 33) (.tmp 38) x4 x38) fun x39 =>
    K .normal (act 65 [(0, x0), (4, x39), (5, x5), (6, x6)]) h := kq_reg
theorem r48_11  : kCode env 48 false inv k (cp c48 29854) (act 65 [(0, x0), (4, x4), (5, x5), (6, x6)]) h K =
    bnd (pNilCheck x0) fun x41 =>
    bnd (pFieldAddr Try.prog 84 x41 0) fun x42 =>
    bnd (pLoad Try.prog 30 x42 h) fun x43 =>
    bnd (pIndexAddr Try.prog 30 x43 x5) fun x45 =>
    bnd (pLoad Try.prog 5 x45 h) fun x46 =>
    bnd (pBin Try.prog .lss 5 (.tmp 46) (.const (.int .u8 128)) x46 (.int .u8 128)) fun x47 =>
    K .normal (act 65 [(0, x0), (4, x4), (5, x5), (6, x6), (47, x47)]) h := kq_reg
theorem b48_rrrrrllrllrlrr  : kCode env 48 false inv k (cp c48 29855) (act 65 [(0, x0), (4, x4), (5, x5), (6, x6), (47, x47)]) h K = brV x47 (kCode env 48 false inv k (cp c48 59710) (act 65 [(0, x0), (4, x4), (5, x5), (6, x6), (47, x47)]) h K) (kCode env 48 false inv k (cp c48 59711) (act 65 [(0, x0), (4, x4), (5, x5), (6, x6), (47, x47)]) h K) := kq_cond
noncomputable abbrev G48_12 {β : Type} (inv : Inv) (x0 x4 x5 x6 : Value) (h : AH) (K : Value → AH → Option β) : Option β :=
    bnd (pBin Try.prog .eql 48 (.tmp 48) (.const (.int .u64 0)) x6 (.int .u64 0)) fun x49 =>
    bnd (gd (some x49) true h (some (x5, h))) fun x51 =>
    bnd (gd (some x49) true x51.2 (lt (pBin Try.prog .gtr 3 (.tmp 51) (.const (.int .i64 0)) x51.1 (.int .i64 0)) x51.2)) fun x52 =>
    bnd (pickV x49 x52.1 (.bool false)) fun x53 =>
    K (x53) x52.2
theorem r48_12  : kCode env 48 false inv k (cp c48 238840) (act 65 [(0, x0), (4, x4), (5, x5), (6, x6), (47, x47)]) h K =
    G48_12 inv x0 x4 x5 x6 h fun y53 h => K .normal (act 65 [(0, x0), (4, x4), (5, x5), (53, y53)]) h := kq_reg
theorem b48_rllrrrrrllrllrlrr  : kCode env 48 false inv k (cp c48 238841) (act 65 [(0, x0), (4, x4), (5, x5), (53, x53)]) h K = brV x53 (kCode env 48 false inv k (cp c48 477682) (act 65 [(0, x0), (4, x4), (5, x5), (53, x53)]) h K) (kCode env 48 false inv k (cp c48 477683) (act 65 [(0, x0), (4, x4), (5, x5), (53, x53)]) h K) := kq_cond
theorem r48_13  : kCode env 48 false inv k (cp c48 955364) (act 65 [(0, x0), (4, x4), (5, x5), (53, x53)]) h K =
    K .normal (act 65 [(2, (.int .u64 0)), (3, (.int .i64 4))]) h := kq_reg
noncomputable abbrev G48_14 {β : Type} (inv : Inv) (x0 x4 x5 : Value) (h : AH) (K : AH → Option β) : Option β :=
    bnd (pNilCheck x0) fun x56 =>
    bnd (pFieldAddr Try.prog 84 x56 0) fun x57 =>
    bnd (pLoad Try.prog 30 x57 h) fun x58 =>
    bnd (pBin Try.prog .add 3 (.tmp 59) (.const (.int .i64 1)) x5 (.int .i64 1)) fun x60 =>
    bnd (pSlice Try.prog 30 x58 (some x60) none none h) fun x61 =>
    bnd (pNilCheck x0) fun x62 =>
    bnd (pFieldAddr Try.prog 84 x62 0) fun x63 =>
    bnd (kSt (pStore Try.prog 30 x63 x61 h)) fun u =>
    K u.2
theorem r48_14  : kCode env 48 false inv k (cp c48 238842) (act 65 [(0, x0), (4, x4), (5, x5), (53, x53)]) h K =
    G48_14 inv x0 x4 x5 h fun  h => K .normal (act 65 [(4, x4)]) h := kq_reg
theorem r48_15  : kCode env 48 false inv k (cp c48 477686) (act 65 [(4, x4)]) h K =
    K .normal (act 65 [(2, x4), (3, (.int .i64 0))]) h := kq_reg
theorem r48_4  : kCode env 48 false inv k (cp c48 467) (act 65 [(0, x0), (4, x4), (5, x5), (6, x6), (47, x47)]) h K =
    bnd (pBin Try.prog .add 3 (.tmp 9) (.const (.int .i64 1)) x5 (.int .i64 1)) fun x10 =>
    K .normal (act 65 [(0, x0), (4, x4), (5, x10)]) h := kq_reg
noncomputable def F48_lrlrr {β : Type} (inv : Inv) (k : Nat) : Nat → Value → Value → Value → AH → (Value → Value → Value → Value → AH → Option β) → (Value → Value → AH → Option β) → Option β
  | 0, _, _, _, _, _, _ => none
  | j + 1, x0, x4, x5, h, ke0, kr =>
    bnd (pBin Try.prog .lss 3 (.tmp 7) (.const (.int .i64 10)) x5 (.int .i64 10)) fun x8 =>
    brV x8
    (bnd (pNilCheck x0) fun x13 =>
    bnd (pFieldAddr Try.prog 84 x13 0) fun x14 =>
    bnd (pLoad Try.prog 30 x14 h) fun x15 =>
    bnd (pLen Try.prog #[30] x15 h) fun x16 =>
    bnd (pBin Try.prog .geq 3 (.tmp 11) (.tmp 16) x5 x16) fun x17 =>
    brV x17
    (kr (.int .u64 0) (.int .i64 7) h)
    (bnd (pNilCheck x0) fun x19 =>
    bnd (pFieldAddr Try.prog 84 x19 0) fun x20 =>
    bnd (pLoad Try.prog 30 x20 h) fun x21 =>
    bnd (pIndexAddr Try.prog 30 x21 x5) fun x23 =>
    bnd (pLoad Try.prog 5 x23 h) fun x24 =>
    bnd (pBin Try.prog .and 5 (.tmp 24) (.const (.int .u8 127)) x24 (.int .u8 127)) fun x25 =>
    bnd (pConv Try.prog 5 48 x25 h) fun x26 =>
    G48_8 inv x0 x4 x5 x26 h fun y32 h =>
    brV y32
    (kr (.int .u64 0) (.int .i64 4) h)
    (bnd (pBin Try.prog .mul 3 (.const (.int .i64 7)) (.tmp 35) (.int .i64 7) x5) fun x36 =>
    bnd (pConv Try.prog 3 70 x36 h) fun x37 =>
    bnd (pBin Try.prog .shl 48 (.tmp 34) (.tmp 37) x26 x37) fun x38 =>
    bnd (pBin Try.prog .or 48 (.tmp 33) (.tmp 38) x4 x38) fun x39 =>
    bnd (pNilCheck x0) fun x41 =>
    bnd (pFieldAddr Try.prog 84 x41 0) fun x42 =>
    bnd (pLoad Try.prog 30 x42 h) fun x43 =>
    bnd (pIndexAddr Try.prog 30 x43 x5) fun x45 =>
    bnd (pLoad Try.prog 5 x45 h) fun x46 =>
    bnd (pBin Try.prog .lss 5 (.tmp 46) (.const (.int .u8 128)) x46 (.int .u8 128)) fun x47 =>
    brV x47
    (G48_12 inv x0 x39 x5 x26 h fun y53 h_1 =>
    brV y53
    (kr (.int .u64 0) (.int .i64 4) h_1)
    (G48_14 inv x0 x39 x5 h_1 fun  h_2 =>
    kr x39 (.int .i64 0) h_2))
    (bnd (pBin Try.prog .add 3 (.tmp 9) (.const (.int .i64 1)) x5 (.int .i64 1)) fun x10 =>
    F48_lrlrr inv k j x0 x39 x10 h ke0 kr))))
    (ke0 x0 x4 x5 x8 h)
theorem F48_lrlrr_j (j : Nat) : kLoop (kCode env 48 false inv k (cp c48 116)) j (act 65 [(0, x0), (4, x4), (5, x5)]) h K = F48_lrlrr inv k j x0 x4 x5 h (fun y0 y4 y5 y8 h => K (.exit 0) (act 65 [(0, y0), (4, y4), (5, y5), (8, y8)]) h) (fun y2 y3 h => K .ret (act 65 [(2, y2), (3, y3)]) h) := by
      induction j generalizing x0 x4 x5 h with
      | zero => rfl
      | succ j ih =>
        unfold F48_lrlrr
        simp only [kLoop, kq_seq c48 116, kq_seq c48 232, r48_3, b48_rlllrlrr, kq_skip c48 930, kq_seq c48 233, kq_block c48 466 1, kq_seq c48 932, kq_seq c48 1864, r48_5, b48_rlllrllrlrr, kq_seq c48 7458, r48_6, kq_ret c48 14917, kq_skip c48 7459, kq_seq c48 1865, r48_7, kq_seq c48 3731, kq_seq c48 7462, r48_8, b48_rlrrllrllrlrr, kq_seq c48 29850, r48_9, kq_ret c48 59701, kq_skip c48 29851, kq_seq c48 7463, r48_10, kq_seq c48 14927, r48_11, b48_rrrrrllrllrlrr, kq_seq c48 59710, kq_seq c48 119420, r48_12, b48_rllrrrrrllrllrlrr, kq_seq c48 477682, r48_13, kq_ret c48 955365, kq_skip c48 477683, kq_seq c48 119421, r48_14, kq_seq c48 238843, r48_15, kq_ret c48 477687, kq_skip c48 59711, r48_4, kq_exit c48 931 0, ih, reduceIte, reduceCtorEq, XE.exit.injEq, Nat.reduceEqDiff, Nat.reduceMul, Nat.reduceAdd] <;> kernel_rfl
theorem F48_lrlrr_eq  : kCode env 48 false inv k (cp c48 58) (act 65 [(0, x0), (4, x4), (5, x5)]) h K = F48_lrlrr inv k k x0 x4 x5 h (fun y0 y4 y5 y8 h => K (.exit 0) (act 65 [(0, y0), (4, y4), (5, y5), (8, y8)]) h) (fun y2 y3 h => K .ret (act 65 [(2, y2), (3, y3)]) h) := kq_loop (F48_lrlrr_j k)
theorem r48_16  : kCode env 48 false inv k (cp c48 30) (act 65 [(0, x0), (4, x4), (5, x5), (8, x8)]) h K =
    K .normal (act 65 [(2, (.int .u64 0)), (3, (.int .i64 4))]) h := kq_reg
theorem res48_0 : resOfFn env.P 48 .ret (act 65 [(2, x2), (3, x3)]) h = some (.tuple #[x2, x3], h) := kq_res
/-- (*shadowbook/shadowbookref01.Reader).Var -/
noncomputable def F48 (inv : Inv) (k : Nat) (x0 : Value) (h : AH) : Option (Value × AH) :=
    F48_lrlrr inv k k x0 (.int .u64 0) (.int .i64 0) h
    (fun y0 y4 y5 y8 h =>
    some (.tuple #[(.int .u64 0), (.int .i64 4)], h))
    (fun y2 y3 h_3 =>
    some (.tuple #[y2, y3], h_3))
theorem F48_eq : eFun env k inv 48 #[x0] h = F48 inv k x0 h := by
      refine (kq_fun (a := act 65 [(0, x0)]) (c := cp c48 1)).trans ?_
      unfold F48
      simp only [kq_seq c48 1, r48_0, kq_seq c48 3, r48_1, kq_seq c48 7, kq_seq c48 14, r48_2, kq_block c48 29 0, F48_lrlrr_eq, kq_seq c48 15, r48_16, kq_ret c48 31, res48_0, reduceIte, reduceCtorEq, XE.exit.injEq, Nat.reduceEqDiff, Nat.reduceMul, Nat.reduceAdd] <;> kernel_rfl
theorem F48_call : eInv env (k + 1) (.func 48) #[] #[x0] h = F48 (eInv env k) k x0 h := kq_inv F48_eq
noncomputable def c49 : Code := codeOf Try.prog 49
theorem r49_0  : kCode env 49 false inv k (cp c49 2) (act 25 [(0, x0), (1, x1)]) h K =
    K .normal (act 25 [(0, x0), (1, x1)]) h := kq_reg
theorem r49_1  : kCode env 49 false inv k (cp c49 6) (act 25 [(0, x0), (1, x1)]) h K =
    K .normal (act 25 [(0, x0), (1, x1), (6, (.slice none 0 0))]) h := kq_reg
theorem r49_2  : kCode env 49 false inv k (cp c49 224) (act 25 [(0, x0), (1, x1), (6, x6)]) h K =
    bnd (pBin Try.prog .gtr 48 (.tmp 9) (.const (.int .u64 0)) x1 (.int .u64 0)) fun x10 =>
    K .normal (act 25 [(0, x0), (1, x1), (6, x6), (10, x10)]) h := kq_reg
theorem b49_rllllrr  : kCode env 49 false inv k (cp c49 225) (act 25 [(0, x0), (1, x1), (6, x6), (10, x10)]) h K = brV x10 (kCode env 49 false inv k (cp c49 450) (act 25 [(0, x0), (1, x1), (6, x6), (10, x10)]) h K) (kCode env 49 false inv k (cp c49 451) (act 25 [(0, x0), (1, x1), (6, x6), (10, x10)]) h K) := kq_cond
theorem r49_4  : kCode env 49 false inv k (cp c49 904) (act 25 [(0, x0), (1, x1), (6, x6), (10, x10)]) h K =
    bnd (inv (.func 73) #[] #[x0] h) fun x15 =>
    bnd (pExtract x15.1 0) fun x16 =>
    bnd (pExtract x15.1 1) fun x17 =>
    K .normal (act 25 [(0, x0), (1, x1), (6, x6), (7, x16), (8, x17)]) x15.2 := kq_reg
theorem r49_5  : kCode env 49 false inv k (cp c49 3620) (act 25 [(0, x0), (1, x1), (6, x6), (7, x7), (8, x8)]) h K =
    bnd (pUn Try.prog .not x8) fun x19 =>
    K .normal (act 25 [(0, x0), (1, x1), (6, x6), (7, x7), (19, x19)]) h := kq_reg
theorem b49_rlrllrlllrr  : kCode env 49 false inv k (cp c49 3621) (act 25 [(0, x0), (1, x1), (6, x6), (7, x7), (19, x19)]) h K = brV x19 (kCode env 49 false inv k (cp c49 7242) (act 25 [(0, x0), (1, x1), (6, x6), (7, x7), (19, x19)]) h K) (kCode env 49 false inv k (cp c49 7243) (act 25 [(0, x0), (1, x1), (6, x6), (7, x7), (19, x19)]) h K) := kq_cond
theorem r49_6  : kCode env 49 false inv k (cp c49 14484) (act 25 [(0, x0), (1, x1), (6, x6), (7, x7), (19, x19)]) h K =
    K .normal (act 25 [(4, (.slice none 0 0)), (5, (.bool false))]) h := kq_reg
theorem r49_7  : kCode env 49 false inv k (cp c49 1811) (act 25 [(0, x0), (1, x1), (6, x6), (7, x7), (19, x19)]) h K =
    bnd (pBuildSlice Try.prog 22 1 #[(0, x7)] h) fun x22 =>
    bnd (pAppend Try.prog #[22, 22] x6 x22.1 x22.2) fun x23 =>
    K .normal (act 25 [(0, x0), (1, x1), (6, x23.1)]) x23.2 := kq_reg
theorem r49_3  : kCode env 49 false inv k (cp c49 227) (act 25 [(0, x0), (1, x1), (6, x6)]) h K =
    bnd (pBin Try.prog .sub 48 (.tmp 11) (.const (.int .u64 1)) x1 (.int .u64 1)) fun x12 =>
    K .normal (act 25 [(0, x0), (1, x12), (6, x6)]) h := kq_reg
noncomputable def F49_llrr {β : Type} (inv : Inv) (k : Nat) : Nat → Value → Value → Value → AH → (Value → Value → Value → Value → AH → Option β) → (Value → Value → AH → Option β) → Option β
  | 0, _, _, _, _, _, _ => none
  | j + 1, x0, x1, x6, h, ke0, kr =>
    bnd (pBin Try.prog .gtr 48 (.tmp 9) (.const (.int .u64 0)) x1 (.int .u64 0)) fun x10 =>
    brV x10
    (bnd (inv (.func 73) #[] #[x0] h) fun x15 =>
    bnd (pExtract x15.1 0) fun x16 =>
    bnd (pExtract x15.1 1) fun x17 =>
    bnd (pUn Try.prog .not x17) fun x19 =>
    brV x19
    (kr (.slice none 0 0) (.bool false) x15.2)
    (bnd (pBuildSlice Try.prog 22 1 #[(0, x16)] x15.2) fun x22 =>
    bnd (pAppend Try.prog #[22, 22] x6 x22.1 x22.2) fun x23 =>
    bnd (pBin Try.prog .sub 48 (.tmp 11) (.const (.int .u64 1)) x1 (.int .u64 1)) fun x12 =>
    F49_llrr inv k j x0 x12 x23.1 x23.2 ke0 kr))
    (ke0 x0 x1 x6 x10 h)
theorem F49_llrr_j (j : Nat) : kLoop (kCode env 49 false inv k (cp c49 56)) j (act 25 [(0, x0), (1, x1), (6, x6)]) h K = F49_llrr inv k j x0 x1 x6 h (fun y0 y1 y6 y10 h => K (.exit 0) (act 25 [(0, y0), (1, y1), (6, y6), (10, y10)]) h) (fun y4 y5 h => K .ret (act 25 [(4, y4), (5, y5)]) h) := by
      induction j generalizing x0 x1 x6 h with
      | zero => rfl
      | succ j ih =>
        unfold F49_llrr
        simp only [kLoop, kq_seq c49 56, kq_seq c49 112, r49_2, b49_rllllrr, kq_skip c49 450, kq_seq c49 113, kq_block c49 226 1, kq_seq c49 452, r49_4, kq_seq c49 905, kq_seq c49 1810, r49_5, b49_rlrllrlllrr, kq_seq c49 7242, r49_6, kq_ret c49 14485, kq_skip c49 7243, r49_7, r49_3, kq_exit c49 451 0, ih, reduceIte, reduceCtorEq, XE.exit.injEq, Nat.reduceEqDiff, Nat.reduceMul, Nat.reduceAdd] <;> kernel_rfl
theorem F49_llrr_eq  : kCode env 49 false inv k (cp c49 28) (act 25 [(0, x0), (1, x1), (6, x6)]) h K = F49_llrr inv k k x0 x1 x6 h (fun y0 y1 y6 y10 h => K (.exit 0) (act 25 [(0, y0), (1, y1), (6, y6), (10, y10)]) h) (fun y4 y5 h => K .ret (act 25 [(4, y4), (5, y5)]) h) := kq_loop (F49_llrr_j k)
theorem r49_8  : kCode env 49 false inv k (cp c49 30) (act 25 [(0, x0), (1, x1), (6, x6), (10, x10)]) h K =
    K .normal (act 25 [(4, x6), (5, (.bool true))]) h := kq_reg
theorem res49_0 : resOfFn env.P 49 .ret (act 25 [(4, x4), (5, x5)]) h = some (.tuple #[x4, x5], h) := kq_res
/-- shadowbook/shadowbookref07.rows -/
noncomputable def F49 (inv : Inv) (k : Nat) (x0 x1 : Value) (h : AH) : Option (Value × AH) :=
    F49_llrr inv k k x0 x1 (.slice none 0 0) h
    (fun y0 y1 y6 y10 h =>
    some (.tuple #[y6, (.bool true)], h))
    (fun y4 y5 h_1 =>
    some (.tuple #[y4, y5], h_1))
theorem F49_eq : eFun env k inv 49 #[x0, x1] h = F49 inv k x0 x1 h := by
      refine (kq_fun (a := act 25 [(0, x0), (1, x1)]) (c := cp c49 1)).trans ?_
      unfold F49
      simp only [kq_seq c49 1, r49_0, kq_seq c49 3, r49_1, kq_seq c49 7, kq_block c49 14 0, F49_llrr_eq, kq_seq c49 15, r49_8, kq_ret c49 31, res49_0, reduceIte, reduceCtorEq, XE.exit.injEq, Nat.reduceEqDiff, Nat.reduceMul, Nat.reduceAdd] <;> kernel_rfl
theorem F49_call : eInv env (k + 1) (.func 49) #[] #[x0, x1] h = F49 (eInv env k) k x0 x1 h := kq_inv F49_eq
noncomputable def c50 : Code := codeOf Try.prog 50
theorem r50_0  : kCode env 50 false inv k (cp c50 2) (act 83 [(0, x0), (1, x1)]) h K =
    K .normal (act 83 [(0, x0), (1, x1)]) h := kq_reg
theorem r50_1  : kCode env 50 false inv k (cp c50 6) (act 83 [(0, x0), (1, x1)]) h K =
    bnd (inv (.func 48) #[] #[x0] h) fun x18 =>
    bnd (pExtract x18.1 0) fun x19 =>
    bnd (pExtract x18.1 1) fun x20 =>
    K .normal (act 83 [(0, x0), (1, x1), (6, x19), (7, x20)]) x18.2 := kq_reg
noncomputable abbrev G50_2 {β : Type} (inv : Inv) (x0 x1 x6 x7 : Value) (h : AH) (K : Value → AH → Option β) : Option β :=
    bnd (pBin Try.prog .neq 31 (.tmp 21) (.const (.int .i64 0)) x7 (.int .i64 0)) fun x22 =>
    bnd (gd (some x22) false h (some (x6, h))) fun x24 =>
    bnd (gd (some x22) false x24.2 (some (x1, x24.2))) fun x25 =>
    bnd (gd (some x22) false x25.2 (lt (pConv Try.prog 3 48 x25.1 x25.2) x25.2)) fun x26 =>
    bnd (gd (some x22) false x26.2 (lt (pBin Try.prog .gtr 48 (.tmp 24) (.tmp 26) x24.1 x26.1) x26.2)) fun x27 =>
    bnd (pickV x22 (.bool true) x27.1) fun x28 =>
    K (x28) x27.2
theorem r50_2  : kCode env 50 false inv k (cp c50 28) (act 83 [(0, x0), (1, x1), (6, x6), (7, x7)]) h K =
    G50_2 inv x0 x1 x6 x7 h fun y28 h => K .normal (act 83 [(0, x0), (1, x1), (6, x6), (28, y28)]) h := kq_reg
theorem b50_rlrr  : kCode env 50 false inv k (cp c50 29) (act 83 [(0, x0), (1, x1), (6, x6), (28, x28)]) h K = brV x28 (kCode env 50 false inv k (cp c50 58) (act 83 [(0, x0), (1, x1), (6, x6), (28, x28)]) h K) (kCode env 50 false inv k (cp c50 59) (act 83 [(0, x0), (1, x1), (6, x6), (28, x28)]) h K) := kq_cond
theorem r50_3  : kCode env 50 false inv k (cp c50 116) (act 83 [(0, x0), (1, x1), (6, x6), (28, x28)]) h K =
    K .normal (act 83 [(4, (.slice none 0 0)), (5, (.bool false))]) h := kq_reg
theorem res50_0 : resOfFn env.P 50 .ret (act 83 [(4, x4), (5, x5)]) h = some (.tuple #[x4, x5], h) := kq_res
theorem r50_4  : kCode env 50 false inv k (cp c50 30) (act 83 [(0, x0), (1, x1), (6, x6), (28, x28)]) h K =
    bnd (inv (.func 49) #[] #[x0, x6] h) fun x32 =>
    bnd (pExtract x32.1 0) fun x33 =>
    bnd (pExtract x32.1 1) fun x34 =>
    K .normal (act 83 [(0, x0), (1, x1), (8, x33), (9, x34)]) x32.2 := kq_reg
theorem r50_5  : kCode env 50 false inv k (cp c50 62) (act 83 [(0, x0), (1, x1), (8, x8), (9, x9)]) h K =
    bnd (inv (.func 47) #[] #[x0, (.int .i64 1)] h) fun x37 =>
    bnd (pExtract x37.1 0) fun x38 =>
    bnd (pExtract x37.1 1) fun x39 =>
    K .normal (act 83 [(0, x0), (1, x1), (8, x8), (9, x9), (10, x38), (11, x39)]) x37.2 := kq_reg
theorem r50_6  : kCode env 50 false inv k (cp c50 252) (act 83 [(0, x0), (1, x1), (8, x8), (9, x9), (10, x10), (11, x11)]) h K =
    bnd (pUn Try.prog .not x9) fun x41 =>
    bnd (gd (some x41) false h (some (x11, h))) fun x43 =>
    bnd (gd (some x41) false x43.2 (lt (pBin Try.prog .neq 31 (.tmp 43) (.const (.int .i64 0)) x43.1 (.int .i64 0)) x43.2)) fun x44 =>
    bnd (pickV x41 (.bool true) x44.1) fun x45 =>
    K .normal (act 83 [(0, x0), (1, x1), (8, x8), (10, x10), (45, x45)]) x44.2 := kq_reg
theorem b50_rlrrrrr  : kCode env 50 false inv k (cp c50 253) (act 83 [(0, x0), (1, x1), (8, x8), (10, x10), (45, x45)]) h K = brV x45 (kCode env 50 false inv k (cp c50 506) (act 83 [(0, x0), (1, x1), (8, x8), (10, x10), (45, x45)]) h K) (kCode env 50 false inv k (cp c50 507) (act 83 [(0, x0), (1, x1), (8, x8), (10, x10), (45, x45)]) h K) := kq_cond
theorem r50_7  : kCode env 50 false inv k (cp c50 1012) (act 83 [(0, x0), (1, x1), (8, x8), (10, x10), (45, x45)]) h K =
    K .normal (act 83 [(4, (.slice none 0 0)), (5, (.bool false))]) h := kq_reg
theorem r50_8  : kCode env 50 false inv k (cp c50 254) (act 83 [(0, x0), (1, x1), (8, x8), (10, x10), (45, x45)]) h K =
    bnd (pNilCheck x0) fun x48 =>
    bnd (pFieldAddr Try.prog 84 x48 0) fun x49 =>
    bnd (pLoad Try.prog 30 x49 h) fun x50 =>
    bnd (pConv Try.prog 48 3 x10 h) fun x53 =>
    bnd (inv (.func 74) #[] #[x50, x1, x53] h) fun x54 =>
    bnd (pExtract x54.1 0) fun x55 =>
    bnd (pExtract x54.1 1) fun x56 =>
    K .normal (act 83 [(1, x1), (8, x8), (12, x55), (13, x56)]) x54.2 := kq_reg
theorem r50_9  : kCode env 50 false inv k (cp c50 1020) (act 83 [(1, x1), (8, x8), (12, x12), (13, x13)]) h K =
    bnd (pBin Try.prog .neq 31 (.tmp 57) (.const (.int .i64 0)) x13 (.int .i64 0)) fun x58 =>
    K .normal (act 83 [(1, x1), (8, x8), (12, x12), (58, x58)]) h := kq_reg
theorem b50_rlrrrrrrr  : kCode env 50 false inv k (cp c50 1021) (act 83 [(1, x1), (8, x8), (12, x12), (58, x58)]) h K = brV x58 (kCode env 50 false inv k (cp c50 2042) (act 83 [(1, x1), (8, x8), (12, x12), (58, x58)]) h K) (kCode env 50 false inv k (cp c50 2043) (act 83 [(1, x1), (8, x8), (12, x12), (58, x58)]) h K) := kq_cond
theorem r50_10  : kCode env 50 false inv k (cp c50 4084) (act 83 [(1, x1), (8, x8), (12, x12), (58, x58)]) h K =
    K .normal (act 83 [(4, (.slice none 0 0)), (5, (.bool false))]) h := kq_reg
theorem r50_11  : kCode env 50 false inv k (cp c50 1022) (act 83 [(1, x1), (8, x8), (12, x12), (58, x58)]) h K =
    K .normal (act 83 [(1, x1), (8, x8), (12, x12), (14, (.slice none 0 0))]) h := kq_reg
theorem r50_12  : kCode env 50 false inv k (cp c50 4092) (act 83 [(1, x1), (8, x8), (12, x12), (14, x14)]) h K =
    K .normal (act 83 [(1, x1), (8, x8), (12, x12), (14, x14), (15, (.int .i64 0))]) h := kq_reg
theorem r50_13  : kCode env 50 false inv k (cp c50 65488) (act 83 [(1, x1), (8, x8), (12, x12), (14, x14), (15, x15)]) h K =
    bnd (pBin Try.prog .lss 3 (.tmp 59) (.tmp 60) x15 x1) fun x61 =>
    K .normal (act 83 [(1, x1), (8, x8), (12, x12), (14, x14), (15, x15), (61, x61)]) h := kq_reg
theorem b50_rlllrlrrrrrrrrr  : kCode env 50 false inv k (cp c50 65489) (act 83 [(1, x1), (8, x8), (12, x12), (14, x14), (15, x15), (61, x61)]) h K = brV x61 (kCode env 50 false inv k (cp c50 130978) (act 83 [(1, x1), (8, x8), (12, x12), (14, x14), (15, x15), (61, x61)]) h K) (kCode env 50 false inv k (cp c50 130979) (act 83 [(1, x1), (8, x8), (12, x12), (14, x14), (15, x15), (61, x61)]) h K) := kq_cond
theorem r50_15  : kCode env 50 false inv k (cp c50 523920) (act 83 [(1, x1), (8, x8), (12, x12), (14, x14), (15, x15), (61, x61)]) h K =
    bnd (pIndexAddr Try.prog 50 x12 x15) fun x66 =>
    bnd (pLoad Try.prog 48 x66 h) fun x67 =>
    bnd (pLen Try.prog #[22] x8 h) fun x69 =>
    bnd (pConv Try.prog 3 48 x69 h) fun x70 =>
    bnd (pBin Try.prog .geq 48 (.tmp 67) (.tmp 70) x67 x70) fun x71 =>
    K .normal (act 83 [(1, x1), (8, x8), (12, x12), (14, x14), (15, x15), (71, x71)]) h := kq_reg
theorem b50_rlllrllrlrrrrrrrrr  : kCode env 50 false inv k (cp c50 523921) (act 83 [(1, x1), (8, x8), (12, x12), (14, x14), (15, x15), (71, x71)]) h K = brV x71 (kCode env 50 false inv k (cp c50 1047842) (act 83 [(1, x1), (8, x8), (12, x12), (14, x14), (15, x15), (71, x71)]) h K) (kCode env 50 false inv k (cp c50 1047843) (act 83 [(1, x1), (8, x8), (12, x12), (14, x14), (15, x15), (71, x71)]) h K) := kq_cond
theorem r50_16  : kCode env 50 false inv k (cp c50 2095684) (act 83 [(1, x1), (8, x8), (12, x12), (14, x14), (15, x15), (71, x71)]) h K =
    K .normal (act 83 [(4, (.slice none 0 0)), (5, (.bool false))]) h := kq_reg
theorem r50_17  : kCode env 50 false inv k (cp c50 261961) (act 83 [(1, x1), (8, x8), (12, x12), (14, x14), (15, x15), (71, x71)]) h K =
    bnd (pIndexAddr Try.prog 50 x12 x15) fun x76 =>
    bnd (pLoad Try.prog 48 x76 h) fun x77 =>
    bnd (pIndexAddr Try.prog 22 x8 x77) fun x78 =>
    bnd (pLoad Try.prog 9 x78 h) fun x79 =>
    bnd (pBuildSlice Try.prog 22 1 #[(0, x79)] h) fun x80 =>
    bnd (pAppend Try.prog #[22, 22] x14 x80.1 x80.2) fun x81 =>
    K .normal (act 83 [(1, x1), (8, x8), (12, x12), (14, x81.1), (15, x15)]) x81.2 := kq_reg
theorem r50_14  : kCode env 50 false inv k (cp c50 65491) (act 83 [(1, x1), (8, x8), (12, x12), (14, x14), (15, x15)]) h K =
    bnd (pBin Try.prog .add 3 (.tmp 62) (.const (.int .i64 1)) x15 (.int .i64 1)) fun x63 =>
    K .normal (act 83 [(1, x1), (8, x8), (12, x12), (14, x14), (15, x63)]) h := kq_reg
noncomputable def F50_lrlrrrrrrrrr {β : Type} (inv : Inv) (k : Nat) : Nat → Value → Value → Value → Value → Value → AH → (Value → Value → Value → Value → Value → Value → AH → Option β) → (Value → Value → AH → Option β) → Option β
  | 0, _, _, _, _, _, _, _, _ => none
  | j + 1, x1, x8, x12, x14, x15, h, ke0, kr =>
    bnd (pBin Try.prog .lss 3 (.tmp 59) (.tmp 60) x15 x1) fun x61 =>
    brV x61
    (bnd (pIndexAddr Try.prog 50 x12 x15) fun x66 =>
    bnd (pLoad Try.prog 48 x66 h) fun x67 =>
    bnd (pLen Try.prog #[22] x8 h) fun x69 =>
    bnd (pConv Try.prog 3 48 x69 h) fun x70 =>
    bnd (pBin Try.prog .geq 48 (.tmp 67) (.tmp 70) x67 x70) fun x71 =>
    brV x71
    (kr (.slice none 0 0) (.bool false) h)
    (bnd (pIndexAddr Try.prog 50 x12 x15) fun x76 =>
    bnd (pLoad Try.prog 48 x76 h) fun x77 =>
    bnd (pIndexAddr Try.prog 22 x8 x77) fun x78 =>
    bnd (pLoad Try.prog 9 x78 h) fun x79 =>
    bnd (pBuildSlice Try.prog 22 1 #[(0, x79)] h) fun x80 =>
    bnd (pAppend Try.prog #[22, 22] x14 x80.1 x80.2) fun x81 =>
    bnd (pBin Try.prog .add 3 (.tmp 62) (.const (.int .i64 1)) x15 (.int .i64 1)) fun x63 =>
    F50_lrlrrrrrrrrr inv k j x1 x8 x12 x81.1 x63 x81.2 ke0 kr))
    (ke0 x1 x8 x12 x14 x15 x61 h)
theorem F50_lrlrrrrrrrrr_j (j : Nat) : kLoop (kCode env 50 false inv k (cp c50 16372)) j (act 83 [(1, x1), (8, x8), (12, x12), (14, x14), (15, x15)]) h K = F50_lrlrrrrrrrrr inv k j x1 x8 x12 x14 x15 h (fun y1 y8 y12 y14 y15 y61 h => K (.exit 0) (act 83 [(1, y1), (8, y8), (12, y12), (14, y14), (15, y15), (61, y61)]) h) (fun y4 y5 h => K .ret (act 83 [(4, y4), (5, y5)]) h) := by
      induction j generalizing x1 x8 x12 x14 x15 h with
      | zero => rfl
      | succ j ih =>
        unfold F50_lrlrrrrrrrrr
        simp only [kLoop, kq_seq c50 16372, kq_seq c50 32744, r50_13, b50_rlllrlrrrrrrrrr, kq_skip c50 130978, kq_seq c50 32745, kq_block c50 65490 1, kq_seq c50 130980, kq_seq c50 261960, r50_15, b50_rlllrllrlrrrrrrrrr, kq_seq c50 1047842, r50_16, kq_ret c50 2095685, kq_skip c50 1047843, r50_17, r50_14, kq_exit c50 130979 0, ih, reduceIte, reduceCtorEq, XE.exit.injEq, Nat.reduceEqDiff, Nat.reduceMul, Nat.reduceAdd] <;> kernel_rfl
theorem F50_lrlrrrrrrrrr_eq  : kCode env 50 false inv k (cp c50 8186) (act 83 [(1, x1), (8, x8), (12, x12), (14, x14), (15, x15)]) h K = F50_lrlrrrrrrrrr inv k k x1 x8 x12 x14 x15 h (fun y1 y8 y12 y14 y15 y61 h => K (.exit 0) (act 83 [(1, y1), (8, y8), (12, y12), (14, y14), (15, y15), (61, y61)]) h) (fun y4 y5 h => K .ret (act 83 [(4, y4), (5, y5)]) h) := kq_loop (F50_lrlrrrrrrrrr_j k)
theorem r50_18  : kCode env 50 false inv k (cp c50 4094) (act 83 [(1, x1), (8, x8), (12, x12), (14, x14), (15, x15), (61, x61)]) h K =
    K .normal (act 83 [(4, x14), (5, (.bool true))]) h := kq_reg
/-- shadowbook/shadowbookref07.words -/
noncomputable def F50 (inv : Inv) (k : Nat) (x0 x1 : Value) (h : AH) : Option (Value × AH) :=
    bnd (inv (.func 48) #[] #[x0] h) fun x18 =>
    bnd (pExtract x18.1 0) fun x19 =>
    bnd (pExtract x18.1 1) fun x20 =>
    G50_2 inv x0 x1 x19 x20 x18.2 fun y28 h =>
    brV y28
    (some (.tuple #[(.slice none 0 0), (.bool false)], h))
    (bnd (inv (.func 49) #[] #[x0, x19] h) fun x32 =>
    bnd (pExtract x32.1 0) fun x33 =>
    bnd (pExtract x32.1 1) fun x34 =>
    bnd (inv (.func 47) #[] #[x0, (.int .i64 1)] x32.2) fun x37 =>
    bnd (pExtract x37.1 0) fun x38 =>
    bnd (pExtract x37.1 1) fun x39 =>
    bnd (pUn Try.prog .not x34) fun x41 =>
    bnd (gd (some x41) false x37.2 (some (x39, x37.2))) fun x43 =>
    bnd (gd (some x41) false x43.2 (lt (pBin Try.prog .neq 31 (.tmp 43) (.const (.int .i64 0)) x43.1 (.int .i64 0)) x43.2)) fun x44 =>
    bnd (pickV x41 (.bool true) x44.1) fun x45 =>
    brV x45
    (some (.tuple #[(.slice none 0 0), (.bool false)], x44.2))
    (bnd (pNilCheck x0) fun x48 =>
    bnd (pFieldAddr Try.prog 84 x48 0) fun x49 =>
    bnd (pLoad Try.prog 30 x49 x44.2) fun x50 =>
    bnd (pConv Try.prog 48 3 x38 x44.2) fun x53 =>
    bnd (inv (.func 74) #[] #[x50, x1, x53] x44.2) fun x54 =>
    bnd (pExtract x54.1 0) fun x55 =>
    bnd (pExtract x54.1 1) fun x56 =>
    bnd (pBin Try.prog .neq 31 (.tmp 57) (.const (.int .i64 0)) x56 (.int .i64 0)) fun x58 =>
    brV x58
    (some (.tuple #[(.slice none 0 0), (.bool false)], x54.2))
    (F50_lrlrrrrrrrrr inv k k x1 x33 x55 (.slice none 0 0) (.int .i64 0) x54.2
    (fun y1 y8 y12 y14 y15 y61 h_1 =>
    some (.tuple #[y14, (.bool true)], h_1))
    (fun y4 y5 h_2 =>
    some (.tuple #[y4, y5], h_2)))))
theorem F50_eq : eFun env k inv 50 #[x0, x1] h = F50 inv k x0 x1 h := by
      refine (kq_fun (a := act 83 [(0, x0), (1, x1)]) (c := cp c50 1)).trans ?_
      unfold F50
      simp only [kq_seq c50 1, r50_0, kq_seq c50 3, r50_1, kq_seq c50 7, kq_seq c50 14, r50_2, b50_rlrr, kq_seq c50 58, r50_3, kq_ret c50 117, res50_0, kq_skip c50 59, kq_seq c50 15, r50_4, kq_seq c50 31, r50_5, kq_seq c50 63, kq_seq c50 126, r50_6, b50_rlrrrrr, kq_seq c50 506, r50_7, kq_ret c50 1013, kq_skip c50 507, kq_seq c50 127, r50_8, kq_seq c50 255, kq_seq c50 510, r50_9, b50_rlrrrrrrr, kq_seq c50 2042, r50_10, kq_ret c50 4085, kq_skip c50 2043, kq_seq c50 511, r50_11, kq_seq c50 1023, kq_seq c50 2046, r50_12, kq_block c50 4093 0, F50_lrlrrrrrrrrr_eq, kq_seq c50 2047, r50_18, kq_ret c50 4095, reduceIte, reduceCtorEq, XE.exit.injEq, Nat.reduceEqDiff, Nat.reduceMul, Nat.reduceAdd] <;> kernel_rfl
theorem F50_call : eInv env (k + 1) (.func 50) #[] #[x0, x1] h = F50 (eInv env k) k x0 x1 h := kq_inv F50_eq
noncomputable def c53 : Code := codeOf Try.prog 53
theorem r53_0  : kCode env 53 false inv k (cp c53 2) (act 14 [(0, x0), (1, x1)]) h K =
    bnd (pLoad Try.prog 40 x1 h) fun x4 =>
    bnd (pRange Try.prog 40 x4 h) fun x5 =>
    K .normal (act 14 [(0, x0), (5, x5.1)]) x5.2 := kq_reg
theorem r53_1  : kCode env 53 false inv k (cp c53 24) (act 14 [(0, x0), (5, x5), (13, x13)]) h K =
    bnd (pNext x5 false h) fun x6 =>
    bnd (pExtract x6.1 0) fun x7 =>
    K .normal (act 14 [(0, x0), (5, x5), (7, x7)]) x6.2 := kq_reg
theorem b53_lrllr  : kCode env 53 false inv k (cp c53 50) (act 14 [(0, x0), (5, x5), (7, x7)]) h K = brV x7 (kCode env 53 false inv k (cp c53 100) (act 14 [(0, x0), (5, x5), (7, x7)]) h K) (kCode env 53 false inv k (cp c53 101) (act 14 [(0, x0), (5, x5), (7, x7)]) h K) := kq_cond
theorem r53_2  : kCode env 53 false inv k (cp c53 204) (act 14 [(0, x0), (5, x5), (7, x7)]) h K =
    bnd ((none : Option (Value × AH))) fun x8 =>
    bnd (pExtract x8.1 0) fun x9 =>
    K .normal (act 14 [(0, x0), (3, x9), (5, x5)]) x8.2 := kq_reg
theorem r53_3  : kCode env 53 false inv k (cp c53 410) (act 14 [(0, x0), (3, x3), (5, x5)]) h K =
    bnd (callV inv x0 #[x3] h) fun x12 =>
    bnd (pUn Try.prog .not x12.1) fun x13 =>
    K .normal (act 14 [(0, x0), (5, x5), (13, x13)]) x12.2 := kq_reg
theorem b53_rrlrrllr  : kCode env 53 false inv k (cp c53 411) (act 14 [(0, x0), (5, x5), (13, x13)]) h K = brV x13 (kCode env 53 false inv k (cp c53 822) (act 14 [(0, x0), (5, x5), (13, x13)]) h K) (kCode env 53 false inv k (cp c53 823) (act 14 [(0, x0), (5, x5), (13, x13)]) h K) := kq_cond
noncomputable def F53_lr {β : Type} (inv : Inv) (k : Nat) : Nat → Value → Value → Value → AH → (Value → Value → Value → AH → Option β) → (Value → Value → Value → AH → Option β) → Option β
  | 0, _, _, _, _, _, _ => none
  | j + 1, x0, x5, x13, h, ke0, kr =>
    bnd (pNext x5 false h) fun x6 =>
    bnd (pExtract x6.1 0) fun x7 =>
    brV x7
    (bnd ((none : Option (Value × AH))) fun x8 =>
    bnd (pExtract x8.1 0) fun x9 =>
    bnd (callV inv x0 #[x9] x8.2) fun x12 =>
    bnd (pUn Try.prog .not x12.1) fun x13_1 =>
    brV x13_1
    (kr x0 x5 x13_1 x12.2)
    (F53_lr inv k j x0 x5 x13_1 x12.2 ke0 kr))
    (ke0 x0 x5 x7 x6.2)
theorem F53_lr_j (j : Nat) : kLoop (kCode env 53 false inv k (cp c53 12)) j (act 14 [(0, x0), (5, x5), (13, x13)]) h K = F53_lr inv k j x0 x5 x13 h (fun y0 y5 y7 h => K (.exit 0) (act 14 [(0, y0), (5, y5), (7, y7)]) h) (fun y0 y5 y13 h => K .ret (act 14 [(0, y0), (5, y5), (13, y13)]) h) := by
      induction j generalizing x0 x5 x13 h with
      | zero => rfl
      | succ j ih =>
        unfold F53_lr
        simp only [kLoop, kq_seq c53 12, r53_1, kq_seq c53 25, b53_lrllr, kq_skip c53 100, kq_block c53 51 1, kq_seq c53 102, r53_2, kq_seq c53 205, r53_3, b53_rrlrrllr, kq_ret c53 822, kq_skip c53 823, kq_exit c53 101 0, ih, reduceIte, reduceCtorEq, XE.exit.injEq, Nat.reduceEqDiff, Nat.reduceMul, Nat.reduceAdd] <;> kernel_rfl
theorem F53_lr_eq  : kCode env 53 false inv k (cp c53 6) (act 14 [(0, x0), (5, x5), (13, x13)]) h K = F53_lr inv k k x0 x5 x13 h (fun y0 y5 y7 h => K (.exit 0) (act 14 [(0, y0), (5, y5), (7, y7)]) h) (fun y0 y5 y13 h => K .ret (act 14 [(0, y0), (5, y5), (13, y13)]) h) := kq_loop (F53_lr_j k)
theorem F53_lr_eq_13  : kCode env 53 false inv k (cp c53 6) (act 14 [(0, x0), (5, x5)]) h K = F53_lr inv k k x0 x5 unk h (fun y0 y5 y7 h => K (.exit 0) (act 14 [(0, y0), (5, y5), (7, y7)]) h) (fun y0 y5 y13 h => K .ret (act 14 [(0, y0), (5, y5), (13, y13)]) h) := by
      rw [show act 14 [(0, x0), (5, x5)] = act 14 [(0, x0), (5, x5), (13, unk)] from by kernel_rfl]; exact F53_lr_eq ..
theorem res53_0 : resOfFn env.P 53 .normal (act 14 [(0, x0), (5, x5), (7, x7)]) h = some (.tuple #[], h) := kq_res
theorem res53_1 : resOfFn env.P 53 .ret (act 14 [(0, x0), (5, x5), (13, x13)]) h = some (.tuple #[], h) := kq_res
/-- maps.Keys[map[string]struct{},string,struct{}]$1 -/
noncomputable def F53 (inv : Inv) (k : Nat) (x0 x1 : Value) (h : AH) : Option (Value × AH) :=
    bnd (pLoad Try.prog 40 x1 h) fun x4 =>
    bnd (pRange Try.prog 40 x4 h) fun x5 =>
    F53_lr inv k k x0 x5.1 unk x5.2
    (fun y0 y5 y7 h =>
    some (.tuple #[], h))
    (fun y0_2 y5_3 y13 h_4 =>
    some (.tuple #[], h_4))
theorem F53_eq : eFun env k inv 53 #[x0, x1] h = F53 inv k x0 x1 h := by
      refine (kq_fun (a := act 14 [(0, x0), (1, x1)]) (c := cp c53 1)).trans ?_
      unfold F53
      simp only [kq_seq c53 1, r53_0, kq_block c53 3 0, F53_lr_eq_13, res53_0, res53_1, reduceIte, reduceCtorEq, XE.exit.injEq, Nat.reduceEqDiff, Nat.reduceMul, Nat.reduceAdd] <;> kernel_rfl
theorem F53_call : eInv env (k + 1) (.func 53) #[] #[x0, x1] h = F53 (eInv env k) k x0 x1 h := kq_inv F53_eq
noncomputable def c54 : Code := codeOf Try.prog 54
theorem r54_0  : kCode env 54 false inv k (cp c54 2) (act 9 [(0, x0), (1, x1)]) h K =
    K .normal (act 9 [(0, x0), (1, x1)]) h := kq_reg
theorem r54_1  : kCode env 54 false inv k (cp c54 6) (act 9 [(0, x0), (1, x1)]) h K =
    bnd (inv (.func 78) #[] #[x0, x1] h) fun x7 =>
    bnd (pBin Try.prog .geq 3 (.tmp 7) (.const (.int .i64 0)) x7.1 (.int .i64 0)) fun x8 =>
    K .normal (act 9 [(4, x8)]) x7.2 := kq_reg
theorem res54_0 : resOfFn env.P 54 .ret (act 9 [(4, x4)]) h = some (x4, h) := kq_res
/-- slices.ContainsFunc[[]string,string] -/
noncomputable def F54 (inv : Inv) (k : Nat) (x0 x1 : Value) (h : AH) : Option (Value × AH) :=
    bnd (inv (.func 78) #[] #[x0, x1] h) fun x7 =>
    bnd (pBin Try.prog .geq 3 (.tmp 7) (.const (.int .i64 0)) x7.1 (.int .i64 0)) fun x8 =>
    some (x8, x7.2)
theorem F54_eq : eFun env k inv 54 #[x0, x1] h = F54 inv k x0 x1 h := by
      refine (kq_fun (a := act 9 [(0, x0), (1, x1)]) (c := cp c54 1)).trans ?_
      unfold F54
      simp only [kq_seq c54 1, r54_0, kq_seq c54 3, r54_1, kq_ret c54 7, res54_0, reduceIte, reduceCtorEq, XE.exit.injEq, Nat.reduceEqDiff, Nat.reduceMul, Nat.reduceAdd] <;> kernel_rfl
theorem F54_call : eInv env (k + 1) (.func 54) #[] #[x0, x1] h = F54 (eInv env k) k x0 x1 h := kq_inv F54_eq
noncomputable def c55 : Code := codeOf Try.prog 55
theorem r55_0  : kCode env 55 false inv k (cp c55 2) (act 6 [(0, x0)]) h K =
    K .normal (act 6 [(0, x0)]) h := kq_reg
theorem r55_1  : kCode env 55 false inv k (cp c55 6) (act 6 [(0, x0)]) h K =
    bnd (pLen Try.prog #[9] x0 h) fun x4 =>
    bnd (pBin Try.prog .gtr 3 (.tmp 4) (.const (.int .i64 65536)) x4 (.int .i64 65536)) fun x5 =>
    K .normal (act 6 [(2, x5)]) h := kq_reg
theorem res55_0 : resOfFn env.P 55 .ret (act 6 [(2, x2)]) h = some (x2, h) := kq_res
/-- shadowbook/texts.check$1 -/
noncomputable def F55 (inv : Inv) (k : Nat) (x0 : Value) (h : AH) : Option (Value × AH) :=
    bnd (pLen Try.prog #[9] x0 h) fun x4 =>
    bnd (pBin Try.prog .gtr 3 (.tmp 4) (.const (.int .i64 65536)) x4 (.int .i64 65536)) fun x5 =>
    some (x5, h)
theorem F55_eq : eFun env k inv 55 #[x0] h = F55 inv k x0 h := by
      refine (kq_fun (a := act 6 [(0, x0)]) (c := cp c55 1)).trans ?_
      unfold F55
      simp only [kq_seq c55 1, r55_0, kq_seq c55 3, r55_1, kq_ret c55 7, res55_0, reduceIte, reduceCtorEq, XE.exit.injEq, Nat.reduceEqDiff, Nat.reduceMul, Nat.reduceAdd] <;> kernel_rfl
theorem F55_call : eInv env (k + 1) (.func 55) #[] #[x0] h = F55 (eInv env k) k x0 h := kq_inv F55_eq
noncomputable def c56 : Code := codeOf Try.prog 56
theorem r56_0  : kCode env 56 false inv k (cp c56 2) (act 17 [(0, x0), (1, x1)]) h K =
    K .normal (act 17 [(0, x0), (1, x1)]) h := kq_reg
noncomputable abbrev G56_1 {β : Type} (inv : Inv) (x0 x1 : Value) (h : AH) (K : Value → AH → Option β) : Option β :=
    bnd (inv (.func 79) #[] #[x0] h) fun x6 =>
    bnd (gd (some x6.1) true x6.2 (some (x1, x6.2))) fun x8 =>
    bnd (gd (some x6.1) true x8.2 (inv (.func 79) #[] #[x8.1] x8.2)) fun x9 =>
    bnd (gd (some x6.1) true x9.2 (lt (pUn Try.prog .not x9.1) x9.2)) fun x10 =>
    bnd (pickV x6.1 x10.1 (.bool false)) fun x11 =>
    bnd (gd (some x11) false x10.2 (some (x0, x10.2))) fun x13 =>
    bnd (gd (some x11) false x13.2 (some (x1, x13.2))) fun x14 =>
    bnd (gd (some x11) false x14.2 (lt (pBin Try.prog .lss 9 (.tmp 13) (.tmp 14) x13.1 x14.1) x14.2)) fun x15 =>
    bnd (pickV x11 (.bool true) x15.1) fun x16 =>
    K (x16) x15.2
theorem r56_1  : kCode env 56 false inv k (cp c56 6) (act 17 [(0, x0), (1, x1)]) h K =
    G56_1 inv x0 x1 h fun y4 h => K .normal (act 17 [(4, y4)]) h := kq_reg
theorem res56_0 : resOfFn env.P 56 .ret (act 17 [(4, x4)]) h = some (x4, h) := kq_res
/-- cmp.Less[string] -/
noncomputable def F56 (inv : Inv) (k : Nat) (x0 x1 : Value) (h : AH) : Option (Value × AH) :=
    G56_1 inv x0 x1 h fun y4 h =>
    some (y4, h)
theorem F56_eq : eFun env k inv 56 #[x0, x1] h = F56 inv k x0 x1 h := by
      refine (kq_fun (a := act 17 [(0, x0), (1, x1)]) (c := cp c56 1)).trans ?_
      unfold F56
      simp only [kq_seq c56 1, r56_0, kq_seq c56 3, r56_1, kq_ret c56 7, res56_0, reduceIte, reduceCtorEq, XE.exit.injEq, Nat.reduceEqDiff, Nat.reduceMul, Nat.reduceAdd] <;> kernel_rfl
theorem F56_call : eInv env (k + 1) (.func 56) #[] #[x0, x1] h = F56 (eInv env k) k x0 x1 h := kq_inv F56_eq
noncomputable def c57 : Code := codeOf Try.prog 57
theorem r57_0  : kCode env 57 false inv k (cp c57 2) (act 6 [(0, x0)]) h K =
    K .normal (act 6 [(0, x0)]) h := kq_reg
theorem r57_1  : kCode env 57 false inv k (cp c57 6) (act 6 [(0, x0)]) h K =
    bnd (pBin Try.prog .neq 9 (.tmp 3) (.tmp 4) x0 x0) fun x5 =>
    K .normal (act 6 [(2, x5)]) h := kq_reg
theorem res57_0 : resOfFn env.P 57 .ret (act 6 [(2, x2)]) h = some (x2, h) := kq_res
/-- slices.isNaN[string] -/
noncomputable def F57 (inv : Inv) (k : Nat) (x0 : Value) (h : AH) : Option (Value × AH) :=
    bnd (pBin Try.prog .neq 9 (.tmp 3) (.tmp 4) x0 x0) fun x5 =>
    some (x5, h)
theorem F57_eq : eFun env k inv 57 #[x0] h = F57 inv k x0 h := by
      refine (kq_fun (a := act 6 [(0, x0)]) (c := cp c57 1)).trans ?_
      unfold F57
      simp only [kq_seq c57 1, r57_0, kq_seq c57 3, r57_1, kq_ret c57 7, res57_0, reduceIte, reduceCtorEq, XE.exit.injEq, Nat.reduceEqDiff, Nat.reduceMul, Nat.reduceAdd] <;> kernel_rfl
theorem F57_call : eInv env (k + 1) (.func 57) #[] #[x0] h = F57 (eInv env k) k x0 h := kq_inv F57_eq
noncomputable def c58 : Code := codeOf Try.prog 58
theorem r58_0  : kCode env 58 false inv k (cp c58 2) (act 25 [(0, x0)]) h K =
    K .normal (act 25 [(0, x0), (2, (.int .i64 0))]) h := kq_reg
theorem r58_1  : kCode env 58 false inv k (cp c58 12) (act 25 [(0, x0), (2, x2)]) h K =
    bnd (pBin Try.prog .geq 48 (.tmp 3) (.const (.int .u64 4294967296)) x0 (.int .u64 4294967296)) fun x4 =>
    K .normal (act 25 [(0, x0), (2, x2), (4, x4)]) h := kq_reg
theorem b58_rlr  : kCode env 58 false inv k (cp c58 13) (act 25 [(0, x0), (2, x2), (4, x4)]) h K = brV x4 (kCode env 58 false inv k (cp c58 26) (act 25 [(0, x0), (2, x2), (4, x4)]) h K) (kCode env 58 false inv k (cp c58 27) (act 25 [(0, x0), (2, x2), (4, x4)]) h K) := kq_cond
theorem r58_2  : kCode env 58 false inv k (cp c58 52) (act 25 [(0, x0), (2, x2), (4, x4)]) h K =
    bnd (pBin Try.prog .shr 48 (.tmp 5) (.const (.int .u64 32)) x0 (.int .u64 32)) fun x6 =>
    K .normal (act 25 [(0, x6)]) h := kq_reg
theorem r58_3  : kCode env 58 false inv k (cp c58 53) (act 25 [(0, x0)]) h K =
    K .normal (act 25 [(0, x0), (2, (.int .i64 32))]) h := kq_reg
noncomputable def F58_rlr {β : Type} (inv : Inv) (k : Nat) (x0 x2 x4 : Value) (h : AH) (kn : (Value → Value → Value → AH → Option β)) : Option β :=
    brV x4
    (bnd (pBin Try.prog .shr 48 (.tmp 5) (.const (.int .u64 32)) x0 (.int .u64 32)) fun x6 =>
    kn x6 (.int .i64 32) unk h)
    (kn x0 x2 x4 h)
theorem F58_rlr_eq  : kCode env 58 false inv k (cp c58 13) (act 25 [(0, x0), (2, x2), (4, x4)]) h K = F58_rlr inv k x0 x2 x4 h (fun y0 y2 y4 h => K .normal (act 25 [(0, y0), (2, y2), (4, y4)]) h) := by
      unfold F58_rlr
      simp only [b58_rlr, kq_seq c58 26, r58_2, r58_3, kq_skip c58 27, reduceIte, reduceCtorEq, XE.exit.injEq, Nat.reduceEqDiff, Nat.reduceMul, Nat.reduceAdd] <;> kernel_rfl
theorem r58_4  : kCode env 58 false inv k (cp c58 28) (act 25 [(0, x0), (2, x2), (4, x4)]) h K =
    bnd (pBin Try.prog .geq 48 (.tmp 7) (.const (.int .u64 65536)) x0 (.int .u64 65536)) fun x8 =>
    K .normal (act 25 [(0, x0), (2, x2), (8, x8)]) h := kq_reg
theorem b58_rlrr  : kCode env 58 false inv k (cp c58 29) (act 25 [(0, x0), (2, x2), (8, x8)]) h K = brV x8 (kCode env 58 false inv k (cp c58 58) (act 25 [(0, x0), (2, x2), (8, x8)]) h K) (kCode env 58 false inv k (cp c58 59) (act 25 [(0, x0), (2, x2), (8, x8)]) h K) := kq_cond
theorem r58_5  : kCode env 58 false inv k (cp c58 116) (act 25 [(0, x0), (2, x2), (8, x8)]) h K =
    bnd (pBin Try.prog .shr 48 (.tmp 9) (.const (.int .u64 16)) x0 (.int .u64 16)) fun x10 =>
    K .normal (act 25 [(0, x10), (2, x2)]) h := kq_reg
theorem r58_6  : kCode env 58 false inv k (cp c58 117) (act 25 [(0, x0), (2, x2)]) h K =
    bnd (pBin Try.prog .add 3 (.tmp 11) (.const (.int .i64 16)) x2 (.int .i64 16)) fun x12 =>
    K .normal (act 25 [(0, x0), (2, x12)]) h := kq_reg
noncomputable def F58_rlrr {β : Type} (inv : Inv) (k : Nat) (x0 x2 x8 : Value) (h : AH) (kn : (Value → Value → Value → AH → Option β)) : Option β :=
    brV x8
    (bnd (pBin Try.prog .shr 48 (.tmp 9) (.const (.int .u64 16)) x0 (.int .u64 16)) fun x10 =>
    bnd (pBin Try.prog .add 3 (.tmp 11) (.const (.int .i64 16)) x2 (.int .i64 16)) fun x12 =>
    kn x10 x12 unk h)
    (kn x0 x2 x8 h)
theorem F58_rlrr_eq  : kCode env 58 false inv k (cp c58 29) (act 25 [(0, x0), (2, x2), (8, x8)]) h K = F58_rlrr inv k x0 x2 x8 h (fun y0 y2 y8 h => K .normal (act 25 [(0, y0), (2, y2), (8, y8)]) h) := by
      unfold F58_rlrr
      simp only [b58_rlrr, kq_seq c58 58, r58_5, r58_6, kq_skip c58 59, reduceIte, reduceCtorEq, XE.exit.injEq, Nat.reduceEqDiff, Nat.reduceMul, Nat.reduceAdd] <;> kernel_rfl
theorem r58_7  : kCode env 58 false inv k (cp c58 60) (act 25 [(0, x0), (2, x2), (8, x8)]) h K =
    bnd (pBin Try.prog .geq 48 (.tmp 13) (.const (.int .u64 256)) x0 (.int .u64 256)) fun x14 =>
    K .normal (act 25 [(0, x0), (2, x2), (14, x14)]) h := kq_reg
theorem b58_rlrrr  : kCode env 58 false inv k (cp c58 61) (act 25 [(0, x0), (2, x2), (14, x14)]) h K = brV x14 (kCode env 58 false inv k (cp c58 122) (act 25 [(0, x0), (2, x2), (14, x14)]) h K) (kCode env 58 false inv k (cp c58 123) (act 25 [(0, x0), (2, x2), (14, x14)]) h K) := kq_cond
theorem r58_8  : kCode env 58 false inv k (cp c58 244) (act 25 [(0, x0), (2, x2), (14, x14)]) h K =
    bnd (pBin Try.prog .shr 48 (.tmp 15) (.const (.int .u64 8)) x0 (.int .u64 8)) fun x16 =>
    K .normal (act 25 [(0, x16), (2, x2)]) h := kq_reg
theorem r58_9  : kCode env 58 false inv k (cp c58 245) (act 25 [(0, x0), (2, x2)]) h K =
    bnd (pBin Try.prog .add 3 (.tmp 17) (.const (.int .i64 8)) x2 (.int .i64 8)) fun x18 =>
    K .normal (act 25 [(0, x0), (2, x18)]) h := kq_reg
noncomputable def F58_rlrrr {β : Type} (inv : Inv) (k : Nat) (x0 x2 x14 : Value) (h : AH) (kn : (Value → Value → Value → AH → Option β)) : Option β :=
    brV x14
    (bnd (pBin Try.prog .shr 48 (.tmp 15) (.const (.int .u64 8)) x0 (.int .u64 8)) fun x16 =>
    bnd (pBin Try.prog .add 3 (.tmp 17) (.const (.int .i64 8)) x2 (.int .i64 8)) fun x18 =>
    kn x16 x18 unk h)
    (kn x0 x2 x14 h)
theorem F58_rlrrr_eq  : kCode env 58 false inv k (cp c58 61) (act 25 [(0, x0), (2, x2), (14, x14)]) h K = F58_rlrrr inv k x0 x2 x14 h (fun y0 y2 y14 h => K .normal (act 25 [(0, y0), (2, y2), (14, y14)]) h) := by
      unfold F58_rlrrr
      simp only [b58_rlrrr, kq_seq c58 122, r58_8, r58_9, kq_skip c58 123, reduceIte, reduceCtorEq, XE.exit.injEq, Nat.reduceEqDiff, Nat.reduceMul, Nat.reduceAdd] <;> kernel_rfl
noncomputable abbrev G58_10 {β : Type} (inv : Inv) (x0 x2 : Value) (h : AH) (K : Value → AH → Option β) : Option β :=
    bnd (pConv Try.prog 48 5 x0 h) fun x21 =>
    bnd (pIndex Try.prog 9 (.string { data := #[0, 1, 2, 2, 3, 3, 3, 3, 4, 4, 4, 4, 4, 4, 4, 4, 5, 5, 5, 5, 5, 5, 5, 5, 5, 5, 5, 5, 5, 5, 5, 5, 6, 6, 6, 6, 6, 6, 6, 6, 6, 6, 6, 6, 6, 6, 6, 6, 6, 6, 6, 6, 6, 6, 6, 6, 6, 6, 6, 6, 6, 6, 6, 6, 7, 7, 7, 7, 7, 7, 7, 7, 7, 7, 7, 7, 7, 7, 7, 7, 7, 7, 7, 7, 7, 7, 7, 7, 7, 7, 7, 7, 7, 7, 7, 7, 7, 7, 7, 7, 7, 7, 7, 7, 7, 7, 7, 7, 7, 7, 7, 7, 7, 7, 7, 7, 7, 7, 7, 7, 7, 7, 7, 7, 7, 7, 7, 7, 8, 8, 8, 8, 8, 8, 8, 8, 8, 8, 8, 8, 8, 8, 8, 8, 8, 8, 8, 8, 8, 8, 8, 8, 8, 8, 8, 8, 8, 8, 8, 8, 8, 8, 8, 8, 8, 8, 8, 8, 8, 8, 8, 8, 8, 8, 8, 8, 8, 8, 8, 8, 8, 8, 8, 8, 8, 8, 8, 8, 8, 8, 8, 8, 8, 8, 8, 8, 8, 8, 8, 8, 8, 8, 8, 8, 8, 8, 8, 8, 8, 8, 8, 8, 8, 8, 8, 8, 8, 8, 8, 8, 8, 8, 8, 8, 8, 8, 8, 8, 8, 8, 8, 8, 8, 8, 8, 8, 8, 8, 8, 8, 8, 8, 8, 8, 8, 8, 8, 8, 8, 8, 8, 8, 8, 8, 8, 8] }) x21) fun x22 =>
    bnd (pConv Try.prog 5 3 x22 h) fun x23 =>
    bnd (pBin Try.prog .add 3 (.tmp 19) (.tmp 23) x2 x23) fun x24 =>
    K (x24) h
theorem r58_10  : kCode env 58 false inv k (cp c58 62) (act 25 [(0, x0), (2, x2), (14, x14)]) h K =
    G58_10 inv x0 x2 h fun y2 h => K .normal (act 25 [(2, y2)]) h := kq_reg
theorem res58_0 : resOfFn env.P 58 .ret (act 25 [(2, x2)]) h = some (x2, h) := kq_res
/-- math/bits.Len64 -/
noncomputable def F58 (inv : Inv) (k : Nat) (x0 : Value) (h : AH) : Option (Value × AH) :=
    bnd (pBin Try.prog .geq 48 (.tmp 3) (.const (.int .u64 4294967296)) x0 (.int .u64 4294967296)) fun x4 =>
    F58_rlr inv k x0 (.int .i64 0) x4 h
    (fun y0 y2 y4 h =>
    bnd (pBin Try.prog .geq 48 (.tmp 7) (.const (.int .u64 65536)) y0 (.int .u64 65536)) fun x8 =>
    F58_rlrr inv k y0 y2 x8 h
    (fun y0_1 y2_2 y8 h_3 =>
    bnd (pBin Try.prog .geq 48 (.tmp 13) (.const (.int .u64 256)) y0_1 (.int .u64 256)) fun x14 =>
    F58_rlrrr inv k y0_1 y2_2 x14 h_3
    (fun y0_4 y2_5 y14 h_6 =>
    G58_10 inv y0_4 y2_5 h_6 fun y2_7 h_8 =>
    some (y2_7, h_8))))
theorem F58_eq : eFun env k inv 58 #[x0] h = F58 inv k x0 h := by
      refine (kq_fun (a := act 25 [(0, x0)]) (c := cp c58 1)).trans ?_
      unfold F58
      simp only [kq_seq c58 1, r58_0, kq_seq c58 3, kq_seq c58 6, r58_1, F58_rlr_eq, kq_seq c58 7, kq_seq c58 14, r58_4, F58_rlrr_eq, kq_seq c58 15, kq_seq c58 30, r58_7, F58_rlrrr_eq, kq_seq c58 31, r58_10, kq_ret c58 63, res58_0, reduceIte, reduceCtorEq, XE.exit.injEq, Nat.reduceEqDiff, Nat.reduceMul, Nat.reduceAdd] <;> kernel_rfl
theorem F58_call : eInv env (k + 1) (.func 58) #[] #[x0] h = F58 (eInv env k) k x0 h := kq_inv F58_eq
noncomputable def c59 : Code := codeOf Try.prog 59
theorem r59_0  : kCode env 59 false inv k (cp c59 2) (act 19 [(0, x0), (1, x1)]) h K =
    K .normal (act 19 [(0, x0), (1, x1)]) h := kq_reg
noncomputable abbrev G59_1 {β : Type} (inv : Inv) (x0 x1 : Value) (h : AH) (K : Value → AH → Option β) : Option β :=
    bnd (pBin Try.prog .geq 3 (.tmp 5) (.const (.int .i64 0)) x0 (.int .i64 0)) fun x6 =>
    bnd (gd (some x6) true h (some (x0, h))) fun x8 =>
    bnd (gd (some x6) true x8.2 (lt (pBin Try.prog .leq 3 (.tmp 8) (.const (.int .i64 65536)) x8.1 (.int .i64 65536)) x8.2)) fun x9 =>
    bnd (pickV x6 x9.1 (.bool false)) fun x10 =>
    bnd (gd (some x10) true x9.2 (some (x1, x9.2))) fun x12 =>
    bnd (gd (some x10) true x12.2 (lt (pBin Try.prog .geq 3 (.tmp 12) (.const (.int .i64 0)) x12.1 (.int .i64 0)) x12.2)) fun x13 =>
    bnd (pickV x10 x13.1 (.bool false)) fun x14 =>
    bnd (gd (some x14) true x13.2 (some (x1, x13.2))) fun x16 =>
    bnd (gd (some x14) true x16.2 (lt (pBin Try.prog .leq 3 (.tmp 16) (.const (.int .i64 64)) x16.1 (.int .i64 64)) x16.2)) fun x17 =>
    bnd (pickV x14 x17.1 (.bool false)) fun x18 =>
    K (x18) x17.2
theorem r59_1  : kCode env 59 false inv k (cp c59 6) (act 19 [(0, x0), (1, x1)]) h K =
    G59_1 inv x0 x1 h fun y4 h => K .normal (act 19 [(4, y4)]) h := kq_reg
theorem res59_0 : resOfFn env.P 59 .ret (act 19 [(4, x4)]) h = some (x4, h) := kq_res
/-- shadowbook/packs.may -/
noncomputable def F59 (inv : Inv) (k : Nat) (x0 x1 : Value) (h : AH) : Option (Value × AH) :=
    G59_1 inv x0 x1 h fun y4 h =>
    some (y4, h)
theorem F59_eq : eFun env k inv 59 #[x0, x1] h = F59 inv k x0 x1 h := by
      refine (kq_fun (a := act 19 [(0, x0), (1, x1)]) (c := cp c59 1)).trans ?_
      unfold F59
      simp only [kq_seq c59 1, r59_0, kq_seq c59 3, r59_1, kq_ret c59 7, res59_0, reduceIte, reduceCtorEq, XE.exit.injEq, Nat.reduceEqDiff, Nat.reduceMul, Nat.reduceAdd] <;> kernel_rfl
theorem F59_call : eInv env (k + 1) (.func 59) #[] #[x0, x1] h = F59 (eInv env k) k x0 x1 h := kq_inv F59_eq
noncomputable def c60 : Code := codeOf Try.prog 60
theorem r60_0  : kCode env 60 false inv k (cp c60 2) (act 15 [(0, x0), (1, x1)]) h K =
    K .normal (act 15 [(0, x0), (1, x1)]) h := kq_reg
theorem r60_1  : kCode env 60 false inv k (cp c60 12) (act 15 [(0, x0), (1, x1)]) h K =
    bnd (inv (.func 59) #[] #[x0, x1] h) fun x7 =>
    bnd (pUn Try.prog .not x7.1) fun x8 =>
    K .normal (act 15 [(0, x0), (1, x1), (8, x8)]) x7.2 := kq_reg
theorem b60_rlr  : kCode env 60 false inv k (cp c60 13) (act 15 [(0, x0), (1, x1), (8, x8)]) h K = brV x8 (kCode env 60 false inv k (cp c60 26) (act 15 [(0, x0), (1, x1), (8, x8)]) h K) (kCode env 60 false inv k (cp c60 27) (act 15 [(0, x0), (1, x1), (8, x8)]) h K) := kq_cond
theorem r60_2  : kCode env 60 false inv k (cp c60 52) (act 15 [(0, x0), (1, x1), (8, x8)]) h K =
    K .normal (act 15 [(4, (.int .i64 0))]) h := kq_reg
theorem res60_0 : resOfFn env.P 60 .ret (act 15 [(4, x4)]) h = some (x4, h) := kq_res
noncomputable abbrev G60_3 {β : Type} (inv : Inv) (x0 x1 : Value) (h : AH) (K : Value → AH → Option β) : Option β :=
    bnd (pBin Try.prog .mul 3 (.tmp 9) (.tmp 10) x0 x1) fun x11 =>
    bnd (pBin Try.prog .add 3 (.tmp 11) (.const (.int .i64 8)) x11 (.int .i64 8)) fun x12 =>
    bnd (pBin Try.prog .sub 3 (.tmp 12) (.const (.int .i64 1)) x12 (.int .i64 1)) fun x13 =>
    bnd (pBin Try.prog .quo 3 (.tmp 13) (.const (.int .i64 8)) x13 (.int .i64 8)) fun x14 =>
    K (x14) h
theorem r60_3  : kCode env 60 false inv k (cp c60 14) (act 15 [(0, x0), (1, x1), (8, x8)]) h K =
    G60_3 inv x0 x1 h fun y4 h => K .normal (act 15 [(4, y4)]) h := kq_reg
/-- shadowbook/packs.Size -/
noncomputable def F60 (inv : Inv) (k : Nat) (x0 x1 : Value) (h : AH) : Option (Value × AH) :=
    bnd (inv (.func 59) #[] #[x0, x1] h) fun x7 =>
    bnd (pUn Try.prog .not x7.1) fun x8 =>
    brV x8
    (some ((.int .i64 0), x7.2))
    (G60_3 inv x0 x1 x7.2 fun y4 h =>
    some (y4, h))
theorem F60_eq : eFun env k inv 60 #[x0, x1] h = F60 inv k x0 x1 h := by
      refine (kq_fun (a := act 15 [(0, x0), (1, x1)]) (c := cp c60 1)).trans ?_
      unfold F60
      simp only [kq_seq c60 1, r60_0, kq_seq c60 3, kq_seq c60 6, r60_1, b60_rlr, kq_seq c60 26, r60_2, kq_ret c60 53, res60_0, kq_skip c60 27, kq_seq c60 7, r60_3, kq_ret c60 15, reduceIte, reduceCtorEq, XE.exit.injEq, Nat.reduceEqDiff, Nat.reduceMul, Nat.reduceAdd] <;> kernel_rfl
theorem F60_call : eInv env (k + 1) (.func 60) #[] #[x0, x1] h = F60 (eInv env k) k x0 x1 h := kq_inv F60_eq
noncomputable def c61 : Code := codeOf Try.prog 61
theorem r61_0  : kCode env 61 false inv k (cp c61 2) (act 18 [(0, x0), (1, x1), (2, x2), (3, x3)]) h K =
    bnd (pLoad Try.prog 5 x1 h) fun x5 =>
    bnd (pLoad Try.prog 3 x2 h) fun x7 =>
    bnd (pBin Try.prog .shl 5 (.tmp 6) (.tmp 7) x0 x7) fun x8 =>
    bnd (pBin Try.prog .or 5 (.tmp 5) (.tmp 8) x5 x8) fun x9 =>
    bnd (kSt (pStore Try.prog 5 x1 x9 h)) fun u =>
    K .normal (act 18 [(1, x1), (2, x2), (3, x3)]) u.2 := kq_draw
theorem r61_1  : kCode env 61 false inv k (cp c61 6) (act 18 [(1, x1), (2, x2), (3, x3)]) h K =
    bnd (pLoad Try.prog 3 x2 h) fun x10 =>
    bnd (pBin Try.prog .add 3 (.tmp 10) (.const (.int .i64 1)) x10 (.int .i64 1)) fun x11 =>
    bnd (kSt (pStore Try.prog 3 x2 x11 h)) fun u =>
    K .normal (act 18 [(1, x1), (2, x2), (3, x3)]) u.2 := kq_reg
theorem r61_2  : kCode env 61 false inv k (cp c61 14) (act 18 [(1, x1), (2, x2), (3, x3)]) h K =
    bnd (pLoad Try.prog 3 x2 h) fun x12 =>
    bnd (pBin Try.prog .eql 3 (.tmp 12) (.const (.int .i64 8)) x12 (.int .i64 8)) fun x13 =>
    K .normal (act 18 [(1, x1), (2, x2), (3, x3), (13, x13)]) h := kq_reg
theorem b61_rrr  : kCode env 61 false inv k (cp c61 15) (act 18 [(1, x1), (2, x2), (3, x3), (13, x13)]) h K = brV x13 (kCode env 61 false inv k (cp c61 30) (act 18 [(1, x1), (2, x2), (3, x3), (13, x13)]) h K) (kCode env 61 false inv k (cp c61 31) (act 18 [(1, x1), (2, x2), (3, x3), (13, x13)]) h K) := kq_cond
theorem r61_3  : kCode env 61 false inv k (cp c61 60) (act 18 [(1, x1), (2, x2), (3, x3), (13, x13)]) h K =
    bnd (pLoad Try.prog 30 x3 h) fun x14 =>
    bnd (pLoad Try.prog 5 x1 h) fun x15 =>
    bnd (pBuildSlice Try.prog 30 1 #[(0, x15)] h) fun x16 =>
    bnd (pAppend Try.prog #[30, 30] x14 x16.1 x16.2) fun x17 =>
    bnd (kSt (pStore Try.prog 30 x3 x17.1 x17.2)) fun u =>
    K .normal (act 18 [(1, x1), (2, x2)]) u.2 := kq_reg
theorem r61_4  : kCode env 61 false inv k (cp c61 61) (act 18 [(1, x1), (2, x2)]) h K =
    bnd (kSt (pStore Try.prog 5 x1 (.int .u8 0) h)) fun u =>
    bnd (kSt (pStore Try.prog 3 x2 (.int .i64 0) u.2)) fun u_3 =>
    K .normal (act 18 []) u_3.2 := kq_reg
theorem res61_0 : resOfFn env.P 61 .normal (act 18 []) h = some (.tuple #[], h) := kq_res
theorem res61_1 : resOfFn env.P 61 .normal (act 18 [(1, x1), (2, x2), (3, x3), (13, x13)]) h = some (.tuple #[], h) := kq_res
/-- shadowbook/packs.Put$1 -/
noncomputable def F61 (inv : Inv) (k : Nat) (x0 x1 x2 x3 : Value) (h : AH) : Option (Value × AH) :=
    bnd (pLoad Try.prog 5 x1 h) fun x5 =>
    bnd (pLoad Try.prog 3 x2 h) fun x7 =>
    bnd (pBin Try.prog .shl 5 (.tmp 6) (.tmp 7) x0 x7) fun x8 =>
    bnd (pBin Try.prog .or 5 (.tmp 5) (.tmp 8) x5 x8) fun x9 =>
    bnd (kSt (pStore Try.prog 5 x1 x9 h)) fun u =>
    bnd (pLoad Try.prog 3 x2 u.2) fun x10 =>
    bnd (pBin Try.prog .add 3 (.tmp 10) (.const (.int .i64 1)) x10 (.int .i64 1)) fun x11 =>
    bnd (kSt (pStore Try.prog 3 x2 x11 u.2)) fun u_1 =>
    bnd (pLoad Try.prog 3 x2 u_1.2) fun x12 =>
    bnd (pBin Try.prog .eql 3 (.tmp 12) (.const (.int .i64 8)) x12 (.int .i64 8)) fun x13 =>
    brV x13
    (bnd (pLoad Try.prog 30 x3 u_1.2) fun x14 =>
    bnd (pLoad Try.prog 5 x1 u_1.2) fun x15 =>
    bnd (pBuildSlice Try.prog 30 1 #[(0, x15)] u_1.2) fun x16 =>
    bnd (pAppend Try.prog #[30, 30] x14 x16.1 x16.2) fun x17 =>
    bnd (kSt (pStore Try.prog 30 x3 x17.1 x17.2)) fun u_2 =>
    bnd (kSt (pStore Try.prog 5 x1 (.int .u8 0) u_2.2)) fun u_4 =>
    bnd (kSt (pStore Try.prog 3 x2 (.int .i64 0) u_4.2)) fun u_5 =>
    some (.tuple #[], u_5.2))
    (some (.tuple #[], u_1.2))
theorem F61_eq : eFun env k inv 61 #[x0, x1, x2, x3] h = F61 inv k x0 x1 x2 x3 h := by
      refine (kq_fun (a := act 18 [(0, x0), (1, x1), (2, x2), (3, x3)]) (c := cp c61 1)).trans ?_
      unfold F61
      simp only [kq_seq c61 1, r61_0, kq_seq c61 3, r61_1, kq_seq c61 7, r61_2, b61_rrr, kq_seq c61 30, r61_3, r61_4, res61_0, kq_skip c61 31, res61_1, reduceIte, reduceCtorEq, XE.exit.injEq, Nat.reduceEqDiff, Nat.reduceMul, Nat.reduceAdd] <;> kernel_rfl
theorem F61_call : eInv env (k + 1) (.func 61) #[] #[x0, x1, x2, x3] h = F61 (eInv env k) k x0 x1 x2 x3 h := kq_inv F61_eq
noncomputable def c62 : Code := codeOf Try.prog 62
theorem r62_0  : kCode env 62 false inv k (cp c62 2) (act 8 [(0, x0)]) h K =
    K .normal (act 8 [(0, x0)]) h := kq_reg
theorem r62_1  : kCode env 62 false inv k (cp c62 12) (act 8 [(0, x0)]) h K =
    bnd (pBin Try.prog .eql 30 (.tmp 3) (.const (.slice none 0 0)) x0 (.slice none 0 0)) fun x4 =>
    K .normal (act 8 [(0, x0), (4, x4)]) h := kq_reg
theorem b62_rlr  : kCode env 62 false inv k (cp c62 13) (act 8 [(0, x0), (4, x4)]) h K = brV x4 (kCode env 62 false inv k (cp c62 26) (act 8 [(0, x0), (4, x4)]) h K) (kCode env 62 false inv k (cp c62 27) (act 8 [(0, x0), (4, x4)]) h K) := kq_cond
theorem r62_2  : kCode env 62 false inv k (cp c62 52) (act 8 [(0, x0), (4, x4)]) h K =
    K .normal (act 8 [(2, (.slice none 0 0))]) h := kq_reg
theorem res62_0 : resOfFn env.P 62 .ret (act 8 [(2, x2)]) h = some (x2, h) := kq_res
theorem r62_3  : kCode env 62 false inv k (cp c62 14) (act 8 [(0, x0), (4, x4)]) h K =
    bnd (pBuildSlice Try.prog 30 0 #[] h) fun x5 =>
    bnd (pAppend Try.prog #[30, 30] x5.1 x0 x5.2) fun x7 =>
    K .normal (act 8 [(2, x7.1)]) x7.2 := kq_reg
/-- slices.Clone[[]byte,byte] -/
noncomputable def F62 (inv : Inv) (k : Nat) (x0 : Value) (h : AH) : Option (Value × AH) :=
    bnd (pBin Try.prog .eql 30 (.tmp 3) (.const (.slice none 0 0)) x0 (.slice none 0 0)) fun x4 =>
    brV x4
    (some ((.slice none 0 0), h))
    (bnd (pBuildSlice Try.prog 30 0 #[] h) fun x5 =>
    bnd (pAppend Try.prog #[30, 30] x5.1 x0 x5.2) fun x7 =>
    some (x7.1, x7.2))
theorem F62_eq : eFun env k inv 62 #[x0] h = F62 inv k x0 h := by
      refine (kq_fun (a := act 8 [(0, x0)]) (c := cp c62 1)).trans ?_
      unfold F62
      simp only [kq_seq c62 1, r62_0, kq_seq c62 3, kq_seq c62 6, r62_1, b62_rlr, kq_seq c62 26, r62_2, kq_ret c62 53, res62_0, kq_skip c62 27, kq_seq c62 7, r62_3, kq_ret c62 15, reduceIte, reduceCtorEq, XE.exit.injEq, Nat.reduceEqDiff, Nat.reduceMul, Nat.reduceAdd] <;> kernel_rfl
theorem F62_call : eInv env (k + 1) (.func 62) #[] #[x0] h = F62 (eInv env k) k x0 h := kq_inv F62_eq
noncomputable def c63 : Code := codeOf Try.prog 63
theorem r63_0  : kCode env 63 false inv k (cp c63 2) (act 31 [(0, x0), (1, x1)]) h K =
    K .normal (act 31 [(0, x0), (1, x1)]) h := kq_reg
theorem r63_1  : kCode env 63 false inv k (cp c63 12) (act 31 [(0, x0), (1, x1)]) h K =
    bnd (pNilCheck x0) fun x8 =>
    bnd (pFieldAddr Try.prog 77 x8 0) fun x9 =>
    bnd (pLoad Try.prog 30 x9 h) fun x10 =>
    bnd (pLen Try.prog #[30] x10 h) fun x11 =>
    bnd (pBin Try.prog .lss 3 (.tmp 11) (.tmp 12) x11 x1) fun x13 =>
    K .normal (act 31 [(0, x0), (1, x1), (13, x13)]) h := kq_reg
theorem b63_rlr  : kCode env 63 false inv k (cp c63 13) (act 31 [(0, x0), (1, x1), (13, x13)]) h K = brV x13 (kCode env 63 false inv k (cp c63 26) (act 31 [(0, x0), (1, x1), (13, x13)]) h K) (kCode env 63 false inv k (cp c63 27) (act 31 [(0, x0), (1, x1), (13, x13)]) h K) := kq_cond
theorem r63_2  : kCode env 63 false inv k (cp c63 52) (act 31 [(0, x0), (1, x1), (13, x13)]) h K =
    K .normal (act 31 [(4, (.slice none 0 0)), (5, (.int .i64 7))]) h := kq_reg
theorem res63_0 : resOfFn env.P 63 .ret (act 31 [(4, x4), (5, x5)]) h = some (.tuple #[x4, x5], h) := kq_res
theorem r63_3  : kCode env 63 false inv k (cp c63 14) (act 31 [(0, x0), (1, x1), (13, x13)]) h K =
    bnd (pNilCheck x0) fun x15 =>
    bnd (pFieldAddr Try.prog 77 x15 0) fun x16 =>
    bnd (pLoad Try.prog 30 x16 h) fun x17 =>
    bnd (pSlice Try.prog 30 x17 none (some x1) (some x1) h) fun x20 =>
    K .normal (act 31 [(0, x0), (1, x1), (6, x20)]) h := kq_reg
theorem r63_4  : kCode env 63 false inv k (cp c63 30) (act 31 [(0, x0), (1, x1), (6, x6)]) h K =
    bnd (pNilCheck x0) fun x23 =>
    bnd (pFieldAddr Try.prog 77 x23 0) fun x24 =>
    bnd (pLoad Try.prog 30 x24 h) fun x25 =>
    bnd (pSlice Try.prog 30 x25 (some x1) none none h) fun x27 =>
    bnd (pNilCheck x0) fun x28 =>
    bnd (pFieldAddr Try.prog 77 x28 0) fun x29 =>
    bnd (kSt (pStore Try.prog 30 x29 x27 h)) fun u =>
    K .normal (act 31 [(6, x6)]) u.2 := kq_reg
theorem r63_5  : kCode env 63 false inv k (cp c63 62) (act 31 [(6, x6)]) h K =
    K .normal (act 31 [(4, x6), (5, (.int .i64 0))]) h := kq_reg
/-- (*shadowbook/octet.Reader).take -/
noncomputable def F63 (inv : Inv) (k : Nat) (x0 x1 : Value) (h : AH) : Option (Value × AH) :=
    bnd (pNilCheck x0) fun x8 =>
    bnd (pFieldAddr Try.prog 77 x8 0) fun x9 =>
    bnd (pLoad Try.prog 30 x9 h) fun x10 =>
    bnd (pLen Try.prog #[30] x10 h) fun x11 =>
    bnd (pBin Try.prog .lss 3 (.tmp 11) (.tmp 12) x11 x1) fun x13 =>
    brV x13
    (some (.tuple #[(.slice none 0 0), (.int .i64 7)], h))
    (bnd (pNilCheck x0) fun x15 =>
    bnd (pFieldAddr Try.prog 77 x15 0) fun x16 =>
    bnd (pLoad Try.prog 30 x16 h) fun x17 =>
    bnd (pSlice Try.prog 30 x17 none (some x1) (some x1) h) fun x20 =>
    bnd (pNilCheck x0) fun x23 =>
    bnd (pFieldAddr Try.prog 77 x23 0) fun x24 =>
    bnd (pLoad Try.prog 30 x24 h) fun x25 =>
    bnd (pSlice Try.prog 30 x25 (some x1) none none h) fun x27 =>
    bnd (pNilCheck x0) fun x28 =>
    bnd (pFieldAddr Try.prog 77 x28 0) fun x29 =>
    bnd (kSt (pStore Try.prog 30 x29 x27 h)) fun u =>
    some (.tuple #[x20, (.int .i64 0)], u.2))
theorem F63_eq : eFun env k inv 63 #[x0, x1] h = F63 inv k x0 x1 h := by
      refine (kq_fun (a := act 31 [(0, x0), (1, x1)]) (c := cp c63 1)).trans ?_
      unfold F63
      simp only [kq_seq c63 1, r63_0, kq_seq c63 3, kq_seq c63 6, r63_1, b63_rlr, kq_seq c63 26, r63_2, kq_ret c63 53, res63_0, kq_skip c63 27, kq_seq c63 7, r63_3, kq_seq c63 15, r63_4, kq_seq c63 31, r63_5, kq_ret c63 63, reduceIte, reduceCtorEq, XE.exit.injEq, Nat.reduceEqDiff, Nat.reduceMul, Nat.reduceAdd] <;> kernel_rfl
theorem F63_call : eInv env (k + 1) (.func 63) #[] #[x0, x1] h = F63 (eInv env k) k x0 x1 h := kq_inv F63_eq
noncomputable def c64 : Code := codeOf Try.prog 64
theorem r64_0  : kCode env 64 false inv k (cp c64 2) (act 18 [(0, x0)]) h K =
    bnd (pAlloc Try.prog 48 h) fun x2 =>
    K .normal (act 18 [(0, x0), (2, x2.1)]) x2.2 := kq_reg
theorem r64_1  : kCode env 64 false inv k (cp c64 12) (act 18 [(0, x0), (2, x2)]) h K =
    bnd (pLen Try.prog #[30] x0 h) fun x6 =>
    bnd (pBin Try.prog .gtr 3 (.tmp 6) (.const (.int .i64 8)) x6 (.int .i64 8)) fun x7 =>
    K .normal (act 18 [(0, x0), (2, x2), (7, x7)]) h := kq_reg
theorem b64_rlr  : kCode env 64 false inv k (cp c64 13) (act 18 [(0, x0), (2, x2), (7, x7)]) h K = brV x7 (kCode env 64 false inv k (cp c64 26) (act 18 [(0, x0), (2, x2), (7, x7)]) h K) (kCode env 64 false inv k (cp c64 27) (act 18 [(0, x0), (2, x2), (7, x7)]) h K) := kq_cond
theorem r64_2  : kCode env 64 false inv k (cp c64 52) (act 18 [(0, x0), (2, x2), (7, x7)]) h K =
    bnd (kSt (pStore Try.prog 48 x2 (.int .u64 0) h)) fun u =>
    K .normal (act 18 [(2, x2)]) u.2 := kq_reg
theorem res64_0 : resOfFn env.P 64 .ret (act 18 [(2, x2)]) h = bnd (pLoad Try.prog 48 x2 h) fun q0 =>
    some (q0, h) := kq_res
theorem r64_3  : kCode env 64 false inv k (cp c64 28) (act 18 [(0, x0), (2, x2), (7, x7)]) h K =
    bnd (inv (.func 80) #[] #[x0] h) fun x9 =>
    K .normal (act 18 [(2, x2), (9, x9.1)]) x9.2 := kq_reg
theorem g64_lrlrr  : kCode env 64 false inv k (cp c64 58) (act 18 [(2, x2), (9, x9)]) h K = kRange env 64 inv x9 (psOf (cp c64 58)) (cp c64 116) (cp c64 117) (act 18 [(2, x2), (9, x9)]) h fun e h => sw e (K .normal (act 18 [(2, x2), (9, x9)]) h) (none) [] := kq_range (g := x9) (ids := [])
noncomputable def F64_rlrr {β : Type} (inv : Inv) (k : Nat) (x2 x9 : Value) (h : AH) (kn : (Value → Value → AH → Option β)) : Option β :=
    kRange env 64 inv x9 (psOf (cp c64 58)) (cp c64 116) (cp c64 117) (act 18 [(2, x2), (9, x9)]) h fun e h => sw e
    (kn x2 x9 h)
    none []
theorem F64_rlrr_eq  : kCode env 64 false inv k (cp c64 29) (act 18 [(2, x2), (9, x9)]) h K = F64_rlrr inv k x2 x9 h (fun y2 y9 h => K .normal (act 18 [(2, y2), (9, y9)]) h) := by
      unfold F64_rlrr
      simp only [kq_block c64 29 0, g64_lrlrr, reduceIte, reduceCtorEq, XE.exit.injEq, Nat.reduceEqDiff, Nat.reduceMul, Nat.reduceAdd] <;> kernel_rfl
theorem r64_6  : kCode env 64 false inv k (cp c64 30) (act 18 [(2, x2), (9, x9)]) h K =
    bnd (pLoad Try.prog 48 x2 h) fun x17 =>
    bnd (kSt (pStore Try.prog 48 x2 x17 h)) fun u =>
    K .normal (act 18 [(2, x2)]) u.2 := kq_reg
/-- shadowbook/octet.Of -/
noncomputable def F64 (inv : Inv) (k : Nat) (x0 : Value) (h : AH) : Option (Value × AH) :=
    bnd (pAlloc Try.prog 48 h) fun x2 =>
    bnd (pLen Try.prog #[30] x0 x2.2) fun x6 =>
    bnd (pBin Try.prog .gtr 3 (.tmp 6) (.const (.int .i64 8)) x6 (.int .i64 8)) fun x7 =>
    brV x7
    (bnd (kSt (pStore Try.prog 48 x2.1 (.int .u64 0) x2.2)) fun u =>
    bnd (pLoad Try.prog 48 x2.1 u.2) fun q0 =>
    some (q0, u.2))
    (bnd (inv (.func 80) #[] #[x0] x2.2) fun x9 =>
    F64_rlrr inv k x2.1 x9.1 x9.2
    (fun y2 y9 h =>
    bnd (pLoad Try.prog 48 y2 h) fun x17 =>
    bnd (kSt (pStore Try.prog 48 y2 x17 h)) fun u_1 =>
    bnd (pLoad Try.prog 48 y2 u_1.2) fun q0 =>
    some (q0, u_1.2)))
theorem F64_eq : eFun env k inv 64 #[x0] h = F64 inv k x0 h := by
      refine (kq_fun (a := act 18 [(0, x0)]) (c := cp c64 1)).trans ?_
      unfold F64
      simp only [kq_seq c64 1, r64_0, kq_seq c64 3, kq_seq c64 6, r64_1, b64_rlr, kq_seq c64 26, r64_2, kq_ret c64 53, res64_0, kq_skip c64 27, kq_seq c64 7, kq_seq c64 14, r64_3, F64_rlrr_eq, kq_seq c64 15, r64_6, kq_ret c64 31, reduceIte, reduceCtorEq, XE.exit.injEq, Nat.reduceEqDiff, Nat.reduceMul, Nat.reduceAdd] <;> kernel_rfl
theorem F64_call : eInv env (k + 1) (.func 64) #[] #[x0] h = F64 (eInv env k) k x0 h := kq_inv F64_eq
theorem r64_4  : kCode env 64 true inv k (cp c64 116) (act 18 [(2, x2), (9, x9), (10, x10), (11, x11)]) h K =
    K .normal (act 18 [(2, x2), (4, x11)]) h := kq_reg
theorem r64_5  : kCode env 64 true inv k (cp c64 234) (act 18 [(2, x2), (4, x4)]) h K =
    bnd (pLoad Try.prog 48 x2 h) fun x12 =>
    bnd (pBin Try.prog .shl 48 (.tmp 12) (.const (.int .u64 8)) x12 (.int .u64 8)) fun x13 =>
    bnd (pConv Try.prog 5 48 x4 h) fun x15 =>
    bnd (pBin Try.prog .or 48 (.tmp 13) (.tmp 15) x13 x15) fun x16 =>
    bnd (kSt (pStore Try.prog 48 x2 x16 h)) fun u =>
    K .normal (act 18 []) u.2 := kq_reg
noncomputable def R64_lrlrr (inv : Inv) (k l : Nat) (x2 x9 z0 z1 : Value) (h : AH) : Option (Value × AH) :=
    rdBegin l h fun h =>
    bnd (pLoad Try.prog 48 x2 h) fun x12 =>
    bnd (pBin Try.prog .shl 48 (.tmp 12) (.const (.int .u64 8)) x12 (.int .u64 8)) fun x13 =>
    bnd (pConv Try.prog 5 48 z1 h) fun x15 =>
    bnd (pBin Try.prog .or 48 (.tmp 13) (.tmp 15) x13 x15) fun x16 =>
    bnd (kSt (pStore Try.prog 48 x2 x16 h)) fun u =>
    rdEnd l .normal u.2
theorem R64_lrlrr_eq {l : Nat} {pd : Option Code} (hl : h.get l = some (.loop .ready pd 64 (act 18 [(2, x2), (9, x9)]).tmps (psOf (cp c64 58)) (cp c64 116) (cp c64 117))) : eRound env k inv l #[z0, z1] h = R64_lrlrr inv k l x2 x9 z0 z1 h := by
      refine (eRound_k (a := act 18 [(2, x2), (9, x9), (10, z0), (11, z1)]) hl (by kernel_rfl) (by kernel_rfl)).trans ?_
      unfold R64_lrlrr
      simp only [r64_4, kq_block c64 117 1, r64_5, reduceIte, reduceCtorEq, XE.exit.injEq, Nat.reduceEqDiff, Nat.reduceMul, Nat.reduceAdd] <;> kernel_rfl
noncomputable def c65 : Code := codeOf Try.prog 65
theorem r65_0  : kCode env 65 false inv k (cp c65 2) (act 15 [(0, x0)]) h K =
    K .normal (act 15 [(0, x0)]) h := kq_reg
theorem r65_1  : kCode env 65 false inv k (cp c65 12) (act 15 [(0, x0)]) h K =
    bnd (pNilCheck x0) fun x4 =>
    bnd (pFieldAddr Try.prog 77 x4 0) fun x5 =>
    bnd (pLoad Try.prog 30 x5 h) fun x6 =>
    bnd (pLen Try.prog #[30] x6 h) fun x7 =>
    bnd (pBin Try.prog .geq 3 (.tmp 7) (.const (.int .i64 10)) x7 (.int .i64 10)) fun x8 =>
    K .normal (act 15 [(0, x0), (8, x8)]) h := kq_reg
theorem b65_rlr  : kCode env 65 false inv k (cp c65 13) (act 15 [(0, x0), (8, x8)]) h K = brV x8 (kCode env 65 false inv k (cp c65 26) (act 15 [(0, x0), (8, x8)]) h K) (kCode env 65 false inv k (cp c65 27) (act 15 [(0, x0), (8, x8)]) h K) := kq_cond
theorem r65_2  : kCode env 65 false inv k (cp c65 52) (act 15 [(0, x0), (8, x8)]) h K =
    K .normal (act 15 [(2, (.bool false))]) h := kq_reg
theorem res65_0 : resOfFn env.P 65 .ret (act 15 [(2, x2)]) h = some (x2, h) := kq_res
theorem r65_3  : kCode env 65 false inv k (cp c65 14) (act 15 [(0, x0), (8, x8)]) h K =
    bnd (pNilCheck x0) fun x10 =>
    bnd (pFieldAddr Try.prog 77 x10 0) fun x11 =>
    bnd (pLoad Try.prog 30 x11 h) fun x12 =>
    bnd (inv (.func 81) #[] #[x12, (.func (.func 82) #[] #[])] h) fun x13 =>
    bnd (pUn Try.prog .not x13.1) fun x14 =>
    K .normal (act 15 [(2, x14)]) x13.2 := kq_reg
/-- (*shadowbook/octet.Reader).ends -/
noncomputable def F65 (inv : Inv) (k : Nat) (x0 : Value) (h : AH) : Option (Value × AH) :=
    bnd (pNilCheck x0) fun x4 =>
    bnd (pFieldAddr Try.prog 77 x4 0) fun x5 =>
    bnd (pLoad Try.prog 30 x5 h) fun x6 =>
    bnd (pLen Try.prog #[30] x6 h) fun x7 =>
    bnd (pBin Try.prog .geq 3 (.tmp 7) (.const (.int .i64 10)) x7 (.int .i64 10)) fun x8 =>
    brV x8
    (some ((.bool false), h))
    (bnd (pNilCheck x0) fun x10 =>
    bnd (pFieldAddr Try.prog 77 x10 0) fun x11 =>
    bnd (pLoad Try.prog 30 x11 h) fun x12 =>
    bnd (inv (.func 81) #[] #[x12, (.func (.func 82) #[] #[])] h) fun x13 =>
    bnd (pUn Try.prog .not x13.1) fun x14 =>
    some (x14, x13.2))
theorem F65_eq : eFun env k inv 65 #[x0] h = F65 inv k x0 h := by
      refine (kq_fun (a := act 15 [(0, x0)]) (c := cp c65 1)).trans ?_
      unfold F65
      simp only [kq_seq c65 1, r65_0, kq_seq c65 3, kq_seq c65 6, r65_1, b65_rlr, kq_seq c65 26, r65_2, kq_ret c65 53, res65_0, kq_skip c65 27, kq_seq c65 7, r65_3, kq_ret c65 15, reduceIte, reduceCtorEq, XE.exit.injEq, Nat.reduceEqDiff, Nat.reduceMul, Nat.reduceAdd] <;> kernel_rfl
theorem F65_call : eInv env (k + 1) (.func 65) #[] #[x0] h = F65 (eInv env k) k x0 h := kq_inv F65_eq
noncomputable def c66 : Code := codeOf Try.prog 66
theorem r66_0  : kCode env 66 false inv k (cp c66 2) (act 23 [(0, x0), (1, x1)]) h K =
    K .normal (act 23 [(0, x0), (1, x1)]) h := kq_reg
theorem r66_1  : kCode env 66 false inv k (cp c66 24) (act 23 [(0, x0), (1, x1)]) h K =
    bnd (pBin Try.prog .eql 55 (.tmp 9) (.const (.pointer none)) x0 (.pointer none)) fun x10 =>
    K .normal (act 23 [(0, x0), (1, x1), (8, x10)]) h := kq_reg
theorem b66_rllr  : kCode env 66 false inv k (cp c66 25) (act 23 [(0, x0), (1, x1), (8, x8)]) h K = brV x8 (kCode env 66 false inv k (cp c66 50) (act 23 [(0, x0), (1, x1), (8, x8)]) h K) (kCode env 66 false inv k (cp c66 51) (act 23 [(0, x0), (1, x1), (8, x8)]) h K) := kq_cond
theorem r66_2  : kCode env 66 false inv k (cp c66 100) (act 23 [(0, x0), (1, x1), (8, x8)]) h K =
    K .normal (act 23 [(4, (.slice none 0 0)), (5, (.int .i64 1))]) h := kq_reg
theorem res66_0 : resOfFn env.P 66 .ret (act 23 [(4, x4), (5, x5)]) h = some (.tuple #[x4, x5], h) := kq_res
theorem r66_3  : kCode env 66 false inv k (cp c66 102) (act 23 [(0, x0), (1, x1), (8, x8)]) h K =
    bnd (pBin Try.prog .lss 3 (.tmp 12) (.const (.int .i64 0)) x1 (.int .i64 0)) fun x13 =>
    K .normal (act 23 [(0, x0), (1, x1), (11, x13)]) h := kq_reg
theorem b66_rrrllr  : kCode env 66 false inv k (cp c66 103) (act 23 [(0, x0), (1, x1), (11, x11)]) h K = brV x11 (kCode env 66 false inv k (cp c66 206) (act 23 [(0, x0), (1, x1), (11, x11)]) h K) (kCode env 66 false inv k (cp c66 207) (act 23 [(0, x0), (1, x1), (11, x11)]) h K) := kq_cond
theorem r66_4  : kCode env 66 false inv k (cp c66 412) (act 23 [(0, x0), (1, x1), (11, x11)]) h K =
    K .normal (act 23 [(4, (.slice none 0 0)), (5, (.int .i64 2))]) h := kq_reg
theorem r66_5  : kCode env 66 false inv k (cp c66 14) (act 23 [(0, x0), (1, x1), (11, x11)]) h K =
    bnd (inv (.func 63) #[] #[x0, x1] h) fun x17 =>
    bnd (pExtract x17.1 0) fun x18 =>
    bnd (pExtract x17.1 1) fun x19 =>
    K .normal (act 23 [(6, x18), (7, x19)]) x17.2 := kq_reg
theorem r66_6  : kCode env 66 false inv k (cp c66 30) (act 23 [(6, x6), (7, x7)]) h K =
    bnd (inv (.func 62) #[] #[x6] h) fun x21 =>
    K .normal (act 23 [(4, x21.1), (5, x7)]) x21.2 := kq_reg
/-- (*shadowbook/octet.Reader).Bytes -/
noncomputable def F66 (inv : Inv) (k : Nat) (x0 x1 : Value) (h : AH) : Option (Value × AH) :=
    bnd (pBin Try.prog .eql 55 (.tmp 9) (.const (.pointer none)) x0 (.pointer none)) fun x10 =>
    brV x10
    (some (.tuple #[(.slice none 0 0), (.int .i64 1)], h))
    (bnd (pBin Try.prog .lss 3 (.tmp 12) (.const (.int .i64 0)) x1 (.int .i64 0)) fun x13 =>
    brV x13
    (some (.tuple #[(.slice none 0 0), (.int .i64 2)], h))
    (bnd (inv (.func 63) #[] #[x0, x1] h) fun x17 =>
    bnd (pExtract x17.1 0) fun x18 =>
    bnd (pExtract x17.1 1) fun x19 =>
    bnd (inv (.func 62) #[] #[x18] x17.2) fun x21 =>
    some (.tuple #[x21.1, x19], x21.2)))
theorem F66_eq : eFun env k inv 66 #[x0, x1] h = F66 inv k x0 x1 h := by
      refine (kq_fun (a := act 23 [(0, x0), (1, x1)]) (c := cp c66 1)).trans ?_
      unfold F66
      simp only [kq_seq c66 1, r66_0, kq_seq c66 3, kq_block c66 6 0, kq_seq c66 12, r66_1, b66_rllr, kq_seq c66 50, r66_2, kq_ret c66 101, res66_0, kq_seq c66 51, r66_3, b66_rrrllr, kq_seq c66 206, r66_4, kq_ret c66 413, kq_skip c66 207, kq_seq c66 7, r66_5, kq_seq c66 15, r66_6, kq_ret c66 31, reduceIte, reduceCtorEq, XE.exit.injEq, Nat.reduceEqDiff, Nat.reduceMul, Nat.reduceAdd] <;> kernel_rfl
theorem F66_call : eInv env (k + 1) (.func 66) #[] #[x0, x1] h = F66 (eInv env k) k x0 x1 h := kq_inv F66_eq
noncomputable def c67 : Code := codeOf Try.prog 67
theorem r67_0  : kCode env 67 false inv k (cp c67 2) (act 10 [(0, x0)]) h K =
    K .normal (act 10 [(0, x0)]) h := kq_reg
theorem r67_1  : kCode env 67 false inv k (cp c67 12) (act 10 [(0, x0)]) h K =
    bnd (pBin Try.prog .eql 55 (.tmp 3) (.const (.pointer none)) x0 (.pointer none)) fun x4 =>
    K .normal (act 10 [(0, x0), (4, x4)]) h := kq_reg
theorem b67_rlr  : kCode env 67 false inv k (cp c67 13) (act 10 [(0, x0), (4, x4)]) h K = brV x4 (kCode env 67 false inv k (cp c67 26) (act 10 [(0, x0), (4, x4)]) h K) (kCode env 67 false inv k (cp c67 27) (act 10 [(0, x0), (4, x4)]) h K) := kq_cond
theorem r67_2  : kCode env 67 false inv k (cp c67 52) (act 10 [(0, x0), (4, x4)]) h K =
    K .normal (act 10 [(2, (.int .i64 0))]) h := kq_reg
theorem res67_0 : resOfFn env.P 67 .ret (act 10 [(2, x2)]) h = some (x2, h) := kq_res
theorem r67_3  : kCode env 67 false inv k (cp c67 14) (act 10 [(0, x0), (4, x4)]) h K =
    bnd (pNilCheck x0) fun x6 =>
    bnd (pFieldAddr Try.prog 77 x6 0) fun x7 =>
    bnd (pLoad Try.prog 30 x7 h) fun x8 =>
    bnd (pLen Try.prog #[30] x8 h) fun x9 =>
    K .normal (act 10 [(2, x9)]) h := kq_reg
/-- (*shadowbook/octet.Reader).Left -/
noncomputable def F67 (inv : Inv) (k : Nat) (x0 : Value) (h : AH) : Option (Value × AH) :=
    bnd (pBin Try.prog .eql 55 (.tmp 3) (.const (.pointer none)) x0 (.pointer none)) fun x4 =>
    brV x4
    (some ((.int .i64 0), h))
    (bnd (pNilCheck x0) fun x6 =>
    bnd (pFieldAddr Try.prog 77 x6 0) fun x7 =>
    bnd (pLoad Try.prog 30 x7 h) fun x8 =>
    bnd (pLen Try.prog #[30] x8 h) fun x9 =>
    some (x9, h))
theorem F67_eq : eFun env k inv 67 #[x0] h = F67 inv k x0 h := by
      refine (kq_fun (a := act 10 [(0, x0)]) (c := cp c67 1)).trans ?_
      unfold F67
      simp only [kq_seq c67 1, r67_0, kq_seq c67 3, kq_seq c67 6, r67_1, b67_rlr, kq_seq c67 26, r67_2, kq_ret c67 53, res67_0, kq_skip c67 27, kq_seq c67 7, r67_3, kq_ret c67 15, reduceIte, reduceCtorEq, XE.exit.injEq, Nat.reduceEqDiff, Nat.reduceMul, Nat.reduceAdd] <;> kernel_rfl
theorem F67_call : eInv env (k + 1) (.func 67) #[] #[x0] h = F67 (eInv env k) k x0 h := kq_inv F67_eq
noncomputable def c68 : Code := codeOf Try.prog 68
theorem r68_0  : kCode env 68 false inv k (cp c68 2) (act 30 [(0, x0), (1, x1), (2, x2)]) h K =
    K .normal (act 30 [(0, x0), (1, x1), (2, x2), (6, (.slice none 0 0)), (7, (.int .i64 0))]) h := kq_reg
theorem r68_1  : kCode env 68 false inv k (cp c68 12) (act 30 [(0, x0), (1, x1), (2, x2), (6, x6), (7, x7)]) h K =
    bnd (inv (.func 83) #[] #[x0, x1, x2] h) fun x15 =>
    K .normal (act 30 [(0, x0), (1, x1), (2, x2), (6, x6), (7, x7), (8, x15.1)]) x15.2 := kq_reg
theorem r68_2  : kCode env 68 false inv k (cp c68 26) (act 30 [(0, x0), (1, x1), (2, x2), (6, x6), (7, x7), (8, x8)]) h K =
    bnd (pBin Try.prog .neq 31 (.tmp 16) (.const (.int .i64 0)) x8 (.int .i64 0)) fun x17 =>
    K .normal (act 30 [(0, x0), (1, x1), (2, x2), (6, x6), (7, x7), (8, x8), (17, x17)]) h := kq_reg
theorem b68_rrlr  : kCode env 68 false inv k (cp c68 27) (act 30 [(0, x0), (1, x1), (2, x2), (6, x6), (7, x7), (8, x8), (17, x17)]) h K = brV x17 (kCode env 68 false inv k (cp c68 54) (act 30 [(0, x0), (1, x1), (2, x2), (6, x6), (7, x7), (8, x8), (17, x17)]) h K) (kCode env 68 false inv k (cp c68 55) (act 30 [(0, x0), (1, x1), (2, x2), (6, x6), (7, x7), (8, x8), (17, x17)]) h K) := kq_cond
theorem r68_3  : kCode env 68 false inv k (cp c68 108) (act 30 [(0, x0), (1, x1), (2, x2), (6, x6), (7, x7), (8, x8), (17, x17)]) h K =
    K .normal (act 30 [(6, (.slice none 0 0)), (7, x8)]) h := kq_reg
theorem res68_0 : resOfFn env.P 68 .ret (act 30 [(6, x6), (7, x7)]) h = some (.tuple #[x6, x7], h) := kq_res
theorem r68_4  : kCode env 68 false inv k (cp c68 14) (act 30 [(0, x0), (1, x1), (2, x2), (6, x6), (7, x7), (8, x8), (17, x17)]) h K =
    bnd (pAlloc Try.prog 50 h) fun x9 =>
    K .normal (act 30 [(0, x0), (1, x1), (2, x2), (6, x6), (7, x7), (9, x9.1)]) x9.2 := kq_reg
theorem r68_5  : kCode env 68 false inv k (cp c68 60) (act 30 [(0, x0), (1, x1), (2, x2), (6, x6), (7, x7), (9, x9)]) h K =
    bnd (inv (.func 84) #[] #[x0, x1, x2] h) fun x22 =>
    K .normal (act 30 [(6, x6), (7, x7), (9, x9), (22, x22.1)]) x22.2 := kq_reg
theorem g68_lrlrrr  : kCode env 68 false inv k (cp c68 122) (act 30 [(6, x6), (7, x7), (9, x9), (22, x22)]) h K = kRange env 68 inv x22 (psOf (cp c68 122)) (cp c68 244) (cp c68 245) (act 30 [(6, x6), (7, x7), (9, x9), (22, x22)]) h fun e h => sw e (K .normal (act 30 [(6, x6), (7, x7), (9, x9), (22, x22)]) h) (none) [] := kq_range (g := x22) (ids := [])
noncomputable def F68_rlrrr {β : Type} (inv : Inv) (k : Nat) (x6 x7 x9 x22 : Value) (h : AH) (kn : (Value → Value → Value → Value → AH → Option β)) : Option β :=
    kRange env 68 inv x22 (psOf (cp c68 122)) (cp c68 244) (cp c68 245) (act 30 [(6, x6), (7, x7), (9, x9), (22, x22)]) h fun e h => sw e
    (kn x6 x7 x9 x22 h)
    none []
theorem F68_rlrrr_eq  : kCode env 68 false inv k (cp c68 61) (act 30 [(6, x6), (7, x7), (9, x9), (22, x22)]) h K = F68_rlrrr inv k x6 x7 x9 x22 h (fun y6 y7 y9 y22 h => K .normal (act 30 [(6, y6), (7, y7), (9, y9), (22, y22)]) h) := by
      unfold F68_rlrrr
      simp only [kq_block c68 61 0, g68_lrlrrr, reduceIte, reduceCtorEq, XE.exit.injEq, Nat.reduceEqDiff, Nat.reduceMul, Nat.reduceAdd] <;> kernel_rfl
theorem r68_8  : kCode env 68 false inv k (cp c68 62) (act 30 [(6, x6), (7, x7), (9, x9), (22, x22)]) h K =
    bnd (pLoad Try.prog 50 x9 h) fun x29 =>
    K .normal (act 30 [(6, x29), (7, (.int .i64 0))]) h := kq_reg
/-- shadowbook/packs.Get -/
noncomputable def F68 (inv : Inv) (k : Nat) (x0 x1 x2 : Value) (h : AH) : Option (Value × AH) :=
    bnd (inv (.func 83) #[] #[x0, x1, x2] h) fun x15 =>
    bnd (pBin Try.prog .neq 31 (.tmp 16) (.const (.int .i64 0)) x15.1 (.int .i64 0)) fun x17 =>
    brV x17
    (some (.tuple #[(.slice none 0 0), x15.1], x15.2))
    (bnd (pAlloc Try.prog 50 x15.2) fun x9 =>
    bnd (inv (.func 84) #[] #[x0, x1, x2] x9.2) fun x22 =>
    F68_rlrrr inv k (.slice none 0 0) (.int .i64 0) x9.1 x22.1 x22.2
    (fun y6 y7 y9 y22 h =>
    bnd (pLoad Try.prog 50 y9 h) fun x29 =>
    some (.tuple #[x29, (.int .i64 0)], h)))
theorem F68_eq : eFun env k inv 68 #[x0, x1, x2] h = F68 inv k x0 x1 x2 h := by
      refine (kq_fun (a := act 30 [(0, x0), (1, x1), (2, x2)]) (c := cp c68 1)).trans ?_
      unfold F68
      simp only [kq_seq c68 1, r68_0, kq_seq c68 3, kq_seq c68 6, r68_1, kq_seq c68 13, r68_2, b68_rrlr, kq_seq c68 54, r68_3, kq_ret c68 109, res68_0, kq_skip c68 55, kq_seq c68 7, r68_4, kq_seq c68 15, kq_seq c68 30, r68_5, F68_rlrrr_eq, kq_seq c68 31, r68_8, kq_ret c68 63, reduceIte, reduceCtorEq, XE.exit.injEq, Nat.reduceEqDiff, Nat.reduceMul, Nat.reduceAdd] <;> kernel_rfl
theorem F68_call : eInv env (k + 1) (.func 68) #[] #[x0, x1, x2] h = F68 (eInv env k) k x0 x1 x2 h := kq_inv F68_eq
theorem r68_6  : kCode env 68 true inv k (cp c68 244) (act 30 [(6, x6), (7, x7), (9, x9), (22, x22), (23, x23), (24, x24)]) h K =
    K .normal (act 30 [(9, x9), (11, x24)]) h := kq_reg
theorem r68_7  : kCode env 68 true inv k (cp c68 490) (act 30 [(9, x9), (11, x11)]) h K =
    bnd (pLoad Try.prog 50 x9 h) fun x25 =>
    bnd (pBuildSlice Try.prog 50 1 #[(0, x11)] h) fun x27 =>
    bnd (pAppend Try.prog #[50, 50] x25 x27.1 x27.2) fun x28 =>
    bnd (kSt (pStore Try.prog 50 x9 x28.1 x28.2)) fun u =>
    K .normal (act 30 []) u.2 := kq_reg
noncomputable def R68_lrlrrr (inv : Inv) (k l : Nat) (x6 x7 x9 x22 z0 z1 : Value) (h : AH) : Option (Value × AH) :=
    rdBegin l h fun h =>
    bnd (pLoad Try.prog 50 x9 h) fun x25 =>
    bnd (pBuildSlice Try.prog 50 1 #[(0, z1)] h) fun x27 =>
    bnd (pAppend Try.prog #[50, 50] x25 x27.1 x27.2) fun x28 =>
    bnd (kSt (pStore Try.prog 50 x9 x28.1 x28.2)) fun u =>
    rdEnd l .normal u.2
theorem R68_lrlrrr_eq {l : Nat} {pd : Option Code} (hl : h.get l = some (.loop .ready pd 68 (act 30 [(6, x6), (7, x7), (9, x9), (22, x22)]).tmps (psOf (cp c68 122)) (cp c68 244) (cp c68 245))) : eRound env k inv l #[z0, z1] h = R68_lrlrrr inv k l x6 x7 x9 x22 z0 z1 h := by
      refine (eRound_k (a := act 30 [(6, x6), (7, x7), (9, x9), (22, x22), (23, z0), (24, z1)]) hl (by kernel_rfl) (by kernel_rfl)).trans ?_
      unfold R68_lrlrrr
      simp only [r68_6, kq_block c68 245 1, r68_7, reduceIte, reduceCtorEq, XE.exit.injEq, Nat.reduceEqDiff, Nat.reduceMul, Nat.reduceAdd] <;> kernel_rfl
noncomputable def c69 : Code := codeOf Try.prog 69
theorem r69_0  : kCode env 69 false inv k (cp c69 2) (act 11 [(0, x0)]) h K =
    K .normal (act 11 [(0, x0)]) h := kq_reg
theorem r69_1  : kCode env 69 false inv k (cp c69 6) (act 11 [(0, x0)]) h K =
    K .normal (act 11 [(0, x0), (3, (.int .i64 0))]) h := kq_reg
theorem r69_2  : kCode env 69 false inv k (cp c69 224) (act 11 [(0, x0), (3, x3)]) h K =
    bnd (pBin Try.prog .gtr 48 (.tmp 4) (.const (.int .u64 0)) x0 (.int .u64 0)) fun x5 =>
    K .normal (act 11 [(0, x0), (3, x3), (5, x5)]) h := kq_reg
theorem b69_rllllrr  : kCode env 69 false inv k (cp c69 225) (act 11 [(0, x0), (3, x3), (5, x5)]) h K = brV x5 (kCode env 69 false inv k (cp c69 450) (act 11 [(0, x0), (3, x3), (5, x5)]) h K) (kCode env 69 false inv k (cp c69 451) (act 11 [(0, x0), (3, x3), (5, x5)]) h K) := kq_cond
theorem r69_4  : kCode env 69 false inv k (cp c69 452) (act 11 [(0, x0), (3, x3), (5, x5)]) h K =
    bnd (pBin Try.prog .add 3 (.tmp 8) (.const (.int .i64 1)) x3 (.int .i64 1)) fun x9 =>
    K .normal (act 11 [(0, x0), (3, x9)]) h := kq_reg
theorem r69_3  : kCode env 69 false inv k (cp c69 227) (act 11 [(0, x0), (3, x3)]) h K =
    bnd (pBin Try.prog .shr 48 (.tmp 6) (.const (.int .u64 1)) x0 (.int .u64 1)) fun x7 =>
    K .normal (act 11 [(0, x7), (3, x3)]) h := kq_reg
noncomputable def F69_llrr {β : Type} (inv : Inv) (k : Nat) : Nat → Value → Value → AH → (Value → Value → Value → AH → Option β) → Option β
  | 0, _, _, _, _ => none
  | j + 1, x0, x3, h, ke0 =>
    bnd (pBin Try.prog .gtr 48 (.tmp 4) (.const (.int .u64 0)) x0 (.int .u64 0)) fun x5 =>
    brV x5
    (bnd (pBin Try.prog .add 3 (.tmp 8) (.const (.int .i64 1)) x3 (.int .i64 1)) fun x9 =>
    bnd (pBin Try.prog .shr 48 (.tmp 6) (.const (.int .u64 1)) x0 (.int .u64 1)) fun x7 =>
    F69_llrr inv k j x7 x9 h ke0)
    (ke0 x0 x3 x5 h)
theorem F69_llrr_j (j : Nat) : kLoop (kCode env 69 false inv k (cp c69 56)) j (act 11 [(0, x0), (3, x3)]) h K = F69_llrr inv k j x0 x3 h (fun y0 y3 y5 h => K (.exit 0) (act 11 [(0, y0), (3, y3), (5, y5)]) h) := by
      induction j generalizing x0 x3 h with
      | zero => rfl
      | succ j ih =>
        unfold F69_llrr
        simp only [kLoop, kq_seq c69 56, kq_seq c69 112, r69_2, b69_rllllrr, kq_skip c69 450, kq_seq c69 113, kq_block c69 226 1, r69_4, r69_3, kq_exit c69 451 0, ih, reduceIte, reduceCtorEq, XE.exit.injEq, Nat.reduceEqDiff, Nat.reduceMul, Nat.reduceAdd] <;> kernel_rfl
theorem F69_llrr_eq  : kCode env 69 false inv k (cp c69 28) (act 11 [(0, x0), (3, x3)]) h K = F69_llrr inv k k x0 x3 h (fun y0 y3 y5 h => K (.exit 0) (act 11 [(0, y0), (3, y3), (5, y5)]) h) := kq_loop (F69_llrr_j k)
theorem r69_5  : kCode env 69 false inv k (cp c69 30) (act 11 [(0, x0), (3, x3), (5, x5)]) h K =
    K .normal (act 11 [(2, x3)]) h := kq_reg
theorem res69_0 : resOfFn env.P 69 .ret (act 11 [(2, x2)]) h = some (x2, h) := kq_res
/-- shadowbook/shadowbookref05.bits -/
noncomputable def F69 (inv : Inv) (k : Nat) (x0 : Value) (h : AH) : Option (Value × AH) :=
    F69_llrr inv k k x0 (.int .i64 0) h
    (fun y0 y3 y5 h =>
    some (y3, h))
theorem F69_eq : eFun env k inv 69 #[x0] h = F69 inv k x0 h := by
      refine (kq_fun (a := act 11 [(0, x0)]) (c := cp c69 1)).trans ?_
      unfold F69
      simp only [kq_seq c69 1, r69_0, kq_seq c69 3, r69_1, kq_seq c69 7, kq_block c69 14 0, F69_llrr_eq, kq_seq c69 15, r69_5, kq_ret c69 31, res69_0, reduceIte, reduceCtorEq, XE.exit.injEq, Nat.reduceEqDiff, Nat.reduceMul, Nat.reduceAdd] <;> kernel_rfl
theorem F69_call : eInv env (k + 1) (.func 69) #[] #[x0] h = F69 (eInv env k) k x0 h := kq_inv F69_eq
noncomputable def c70 : Code := codeOf Try.prog 70
theorem r70_0  : kCode env 70 false inv k (cp c70 2) (act 19 [(0, x0), (1, x1)]) h K =
    K .normal (act 19 [(0, x0), (1, x1)]) h := kq_reg
noncomputable abbrev G70_1 {β : Type} (inv : Inv) (x0 x1 : Value) (h : AH) (K : Value → AH → Option β) : Option β :=
    bnd (pBin Try.prog .geq 3 (.tmp 5) (.const (.int .i64 0)) x0 (.int .i64 0)) fun x6 =>
    bnd (gd (some x6) true h (some (x0, h))) fun x8 =>
    bnd (gd (some x6) true x8.2 (lt (pBin Try.prog .leq 3 (.tmp 8) (.const (.int .i64 65536)) x8.1 (.int .i64 65536)) x8.2)) fun x9 =>
    bnd (pickV x6 x9.1 (.bool false)) fun x10 =>
    bnd (gd (some x10) true x9.2 (some (x1, x9.2))) fun x12 =>
    bnd (gd (some x10) true x12.2 (lt (pBin Try.prog .geq 3 (.tmp 12) (.const (.int .i64 0)) x12.1 (.int .i64 0)) x12.2)) fun x13 =>
    bnd (pickV x10 x13.1 (.bool false)) fun x14 =>
    bnd (gd (some x14) true x13.2 (some (x1, x13.2))) fun x16 =>
    bnd (gd (some x14) true x16.2 (lt (pBin Try.prog .leq 3 (.tmp 16) (.const (.int .i64 64)) x16.1 (.int .i64 64)) x16.2)) fun x17 =>
    bnd (pickV x14 x17.1 (.bool false)) fun x18 =>
    K (x18) x17.2
theorem r70_1  : kCode env 70 false inv k (cp c70 6) (act 19 [(0, x0), (1, x1)]) h K =
    G70_1 inv x0 x1 h fun y4 h => K .normal (act 19 [(4, y4)]) h := kq_reg
theorem res70_0 : resOfFn env.P 70 .ret (act 19 [(4, x4)]) h = some (x4, h) := kq_res
/-- shadowbook/shadowbookref05.may -/
noncomputable def F70 (inv : Inv) (k : Nat) (x0 x1 : Value) (h : AH) : Option (Value × AH) :=
    G70_1 inv x0 x1 h fun y4 h =>
    some (y4, h)
theorem F70_eq : eFun env k inv 70 #[x0, x1] h = F70 inv k x0 x1 h := by
      refine (kq_fun (a := act 19 [(0, x0), (1, x1)]) (c := cp c70 1)).trans ?_
      unfold F70
      simp only [kq_seq c70 1, r70_0, kq_seq c70 3, r70_1, kq_ret c70 7, res70_0, reduceIte, reduceCtorEq, XE.exit.injEq, Nat.reduceEqDiff, Nat.reduceMul, Nat.reduceAdd] <;> kernel_rfl
theorem F70_call : eInv env (k + 1) (.func 70) #[] #[x0, x1] h = F70 (eInv env k) k x0 x1 h := kq_inv F70_eq
noncomputable def c71 : Code := codeOf Try.prog 71
theorem r71_0  : kCode env 71 false inv k (cp c71 2) (act 14 [(0, x0), (1, x1)]) h K =
    K .normal (act 14 [(0, x0), (1, x1)]) h := kq_reg
theorem r71_1  : kCode env 71 false inv k (cp c71 12) (act 14 [(0, x0), (1, x1)]) h K =
    bnd (inv (.func 70) #[] #[x0, x1] h) fun x7 =>
    bnd (pUn Try.prog .not x7.1) fun x8 =>
    K .normal (act 14 [(0, x0), (1, x1), (8, x8)]) x7.2 := kq_reg
theorem b71_rlr  : kCode env 71 false inv k (cp c71 13) (act 14 [(0, x0), (1, x1), (8, x8)]) h K = brV x8 (kCode env 71 false inv k (cp c71 26) (act 14 [(0, x0), (1, x1), (8, x8)]) h K) (kCode env 71 false inv k (cp c71 27) (act 14 [(0, x0), (1, x1), (8, x8)]) h K) := kq_cond
theorem r71_2  : kCode env 71 false inv k (cp c71 52) (act 14 [(0, x0), (1, x1), (8, x8)]) h K =
    K .normal (act 14 [(4, (.int .i64 0))]) h := kq_reg
theorem res71_0 : resOfFn env.P 71 .ret (act 14 [(4, x4)]) h = some (x4, h) := kq_res
theorem r71_3  : kCode env 71 false inv k (cp c71 14) (act 14 [(0, x0), (1, x1), (8, x8)]) h K =
    bnd (pBin Try.prog .mul 3 (.tmp 9) (.tmp 10) x0 x1) fun x11 =>
    bnd (pBin Try.prog .add 3 (.tmp 11) (.const (.int .i64 7)) x11 (.int .i64 7)) fun x12 =>
    bnd (pBin Try.prog .quo 3 (.tmp 12) (.const (.int .i64 8)) x12 (.int .i64 8)) fun x13 =>
    K .normal (act 14 [(4, x13)]) h := kq_reg
/-- shadowbook/shadowbookref05.Size -/
noncomputable def F71 (inv : Inv) (k : Nat) (x0 x1 : Value) (h : AH) : Option (Value × AH) :=
    bnd (inv (.func 70) #[] #[x0, x1] h) fun x7 =>
    bnd (pUn Try.prog .not x7.1) fun x8 =>
    brV x8
    (some ((.int .i64 0), x7.2))
    (bnd (pBin Try.prog .mul 3 (.tmp 9) (.tmp 10) x0 x1) fun x11 =>
    bnd (pBin Try.prog .add 3 (.tmp 11) (.const (.int .i64 7)) x11 (.int .i64 7)) fun x12 =>
    bnd (pBin Try.prog .quo 3 (.tmp 12) (.const (.int .i64 8)) x12 (.int .i64 8)) fun x13 =>
    some (x13, x7.2))
theorem F71_eq : eFun env k inv 71 #[x0, x1] h = F71 inv k x0 x1 h := by
      refine (kq_fun (a := act 14 [(0, x0), (1, x1)]) (c := cp c71 1)).trans ?_
      unfold F71
      simp only [kq_seq c71 1, r71_0, kq_seq c71 3, kq_seq c71 6, r71_1, b71_rlr, kq_seq c71 26, r71_2, kq_ret c71 53, res71_0, kq_skip c71 27, kq_seq c71 7, r71_3, kq_ret c71 15, reduceIte, reduceCtorEq, XE.exit.injEq, Nat.reduceEqDiff, Nat.reduceMul, Nat.reduceAdd] <;> kernel_rfl
theorem F71_call : eInv env (k + 1) (.func 71) #[] #[x0, x1] h = F71 (eInv env k) k x0 x1 h := kq_inv F71_eq
noncomputable def c72 : Code := codeOf Try.prog 72
theorem r72_0  : kCode env 72 false inv k (cp c72 2) (act 26 [(0, x0)]) h K =
    K .normal (act 26 [(0, x0)]) h := kq_reg
theorem r72_1  : kCode env 72 false inv k (cp c72 6) (act 26 [(0, x0)]) h K =
    K .normal (act 26 [(0, x0), (3, (.int .u64 0))]) h := kq_reg
theorem r72_2  : kCode env 72 false inv k (cp c72 28) (act 26 [(0, x0), (3, x3)]) h K =
    bnd (pLen Try.prog #[30] x0 h) fun x6 =>
    bnd (pBin Try.prog .gtr 3 (.tmp 6) (.const (.int .i64 8)) x6 (.int .i64 8)) fun x7 =>
    K .normal (act 26 [(0, x0), (3, x3), (7, x7)]) h := kq_reg
theorem b72_rlrr  : kCode env 72 false inv k (cp c72 29) (act 26 [(0, x0), (3, x3), (7, x7)]) h K = brV x7 (kCode env 72 false inv k (cp c72 58) (act 26 [(0, x0), (3, x3), (7, x7)]) h K) (kCode env 72 false inv k (cp c72 59) (act 26 [(0, x0), (3, x3), (7, x7)]) h K) := kq_cond
theorem r72_3  : kCode env 72 false inv k (cp c72 116) (act 26 [(0, x0), (3, x3), (7, x7)]) h K =
    K .normal (act 26 [(2, (.int .u64 0))]) h := kq_reg
theorem res72_0 : resOfFn env.P 72 .ret (act 26 [(2, x2)]) h = some (x2, h) := kq_res
theorem r72_4  : kCode env 72 false inv k (cp c72 60) (act 26 [(0, x0), (3, x3), (7, x7)]) h K =
    K .normal (act 26 [(0, x0), (3, x3), (4, (.int .i64 0))]) h := kq_reg
theorem r72_5  : kCode env 72 false inv k (cp c72 976) (act 26 [(0, x0), (3, x3), (4, x4)]) h K =
    bnd (pLen Try.prog #[30] x0 h) fun x10 =>
    bnd (pBin Try.prog .lss 3 (.tmp 8) (.tmp 10) x4 x10) fun x11 =>
    K .normal (act 26 [(0, x0), (3, x3), (4, x4), (11, x11)]) h := kq_reg
theorem b72_rlllrlrrr  : kCode env 72 false inv k (cp c72 977) (act 26 [(0, x0), (3, x3), (4, x4), (11, x11)]) h K = brV x11 (kCode env 72 false inv k (cp c72 1954) (act 26 [(0, x0), (3, x3), (4, x4), (11, x11)]) h K) (kCode env 72 false inv k (cp c72 1955) (act 26 [(0, x0), (3, x3), (4, x4), (11, x11)]) h K) := kq_cond
noncomputable abbrev G72_7 {β : Type} (inv : Inv) (x0 x3 x4 : Value) (h : AH) (K : Value → AH → Option β) : Option β :=
    bnd (pIndexAddr Try.prog 30 x0 x4) fun x17 =>
    bnd (pLoad Try.prog 5 x17 h) fun x18 =>
    bnd (pConv Try.prog 5 48 x18 h) fun x19 =>
    bnd (pBin Try.prog .mul 3 (.const (.int .i64 8)) (.tmp 20) (.int .i64 8) x4) fun x21 =>
    bnd (pConv Try.prog 3 70 x21 h) fun x22 =>
    bnd (pBin Try.prog .shl 48 (.tmp 19) (.tmp 22) x19 x22) fun x23 =>
    bnd (pBin Try.prog .or 48 (.tmp 14) (.tmp 23) x3 x23) fun x24 =>
    K (x24) h
theorem r72_7  : kCode env 72 false inv k (cp c72 1956) (act 26 [(0, x0), (3, x3), (4, x4), (11, x11)]) h K =
    G72_7 inv x0 x3 x4 h fun y3 h => K .normal (act 26 [(0, x0), (3, y3), (4, x4)]) h := kq_reg
theorem r72_6  : kCode env 72 false inv k (cp c72 979) (act 26 [(0, x0), (3, x3), (4, x4)]) h K =
    bnd (pBin Try.prog .add 3 (.tmp 12) (.const (.int .i64 1)) x4 (.int .i64 1)) fun x13 =>
    K .normal (act 26 [(0, x0), (3, x3), (4, x13)]) h := kq_reg
noncomputable def F72_lrlrrr {β : Type} (inv : Inv) (k : Nat) : Nat → Value → Value → Value → AH → (Value → Value → Value → Value → AH → Option β) → Option β
  | 0, _, _, _, _, _ => none
  | j + 1, x0, x3, x4, h, ke0 =>
    bnd (pLen Try.prog #[30] x0 h) fun x10 =>
    bnd (pBin Try.prog .lss 3 (.tmp 8) (.tmp 10) x4 x10) fun x11 =>
    brV x11
    (G72_7 inv x0 x3 x4 h fun y3 h =>
    bnd (pBin Try.prog .add 3 (.tmp 12) (.const (.int .i64 1)) x4 (.int .i64 1)) fun x13 =>
    F72_lrlrrr inv k j x0 y3 x13 h ke0)
    (ke0 x0 x3 x4 x11 h)
theorem F72_lrlrrr_j (j : Nat) : kLoop (kCode env 72 false inv k (cp c72 244)) j (act 26 [(0, x0), (3, x3), (4, x4)]) h K = F72_lrlrrr inv k j x0 x3 x4 h (fun y0 y3 y4 y11 h => K (.exit 0) (act 26 [(0, y0), (3, y3), (4, y4), (11, y11)]) h) := by
      induction j generalizing x0 x3 x4 h with
      | zero => rfl
      | succ j ih =>
        unfold F72_lrlrrr
        simp only [kLoop, kq_seq c72 244, kq_seq c72 488, r72_5, b72_rlllrlrrr, kq_skip c72 1954, kq_seq c72 489, kq_block c72 978 1, r72_7, r72_6, kq_exit c72 1955 0, ih, reduceIte, reduceCtorEq, XE.exit.injEq, Nat.reduceEqDiff, Nat.reduceMul, Nat.reduceAdd] <;> kernel_rfl
theorem F72_lrlrrr_eq  : kCode env 72 false inv k (cp c72 122) (act 26 [(0, x0), (3, x3), (4, x4)]) h K = F72_lrlrrr inv k k x0 x3 x4 h (fun y0 y3 y4 y11 h => K (.exit 0) (act 26 [(0, y0), (3, y3), (4, y4), (11, y11)]) h) := kq_loop (F72_lrlrrr_j k)
theorem r72_8  : kCode env 72 false inv k (cp c72 62) (act 26 [(0, x0), (3, x3), (4, x4), (11, x11)]) h K =
    K .normal (act 26 [(2, x3)]) h := kq_reg
/-- shadowbook/shadowbookref01.Of -/
noncomputable def F72 (inv : Inv) (k : Nat) (x0 : Value) (h : AH) : Option (Value × AH) :=
    bnd (pLen Try.prog #[30] x0 h) fun x6 =>
    bnd (pBin Try.prog .gtr 3 (.tmp 6) (.const (.int .i64 8)) x6 (.int .i64 8)) fun x7 =>
    brV x7
    (some ((.int .u64 0), h))
    (F72_lrlrrr inv k k x0 (.int .u64 0) (.int .i64 0) h
    (fun y0 y3 y4 y11 h =>
    some (y3, h)))
theorem F72_eq : eFun env k inv 72 #[x0] h = F72 inv k x0 h := by
      refine (kq_fun (a := act 26 [(0, x0)]) (c := cp c72 1)).trans ?_
      unfold F72
      simp only [kq_seq c72 1, r72_0, kq_seq c72 3, r72_1, kq_seq c72 7, kq_seq c72 14, r72_2, b72_rlrr, kq_seq c72 58, r72_3, kq_ret c72 117, res72_0, kq_skip c72 59, kq_seq c72 15, kq_seq c72 30, r72_4, kq_block c72 61 0, F72_lrlrrr_eq, kq_seq c72 31, r72_8, kq_ret c72 63, reduceIte, reduceCtorEq, XE.exit.injEq, Nat.reduceEqDiff, Nat.reduceMul, Nat.reduceAdd] <;> kernel_rfl
theorem F72_call : eInv env (k + 1) (.func 72) #[] #[x0] h = F72 (eInv env k) k x0 h := kq_inv F72_eq
noncomputable def c73 : Code := codeOf Try.prog 73
theorem r73_0  : kCode env 73 false inv k (cp c73 2) (act 30 [(0, x0)]) h K =
    K .normal (act 30 [(0, x0)]) h := kq_reg
theorem r73_1  : kCode env 73 false inv k (cp c73 6) (act 30 [(0, x0)]) h K =
    bnd (inv (.func 48) #[] #[x0] h) fun x10 =>
    bnd (pExtract x10.1 0) fun x11 =>
    bnd (pExtract x10.1 1) fun x12 =>
    K .normal (act 30 [(0, x0), (4, x11), (5, x12)]) x10.2 := kq_reg
noncomputable abbrev G73_2 {β : Type} (inv : Inv) (x0 x4 x5 : Value) (h : AH) (K : Value → AH → Option β) : Option β :=
    bnd (pBin Try.prog .neq 31 (.tmp 13) (.const (.int .i64 0)) x5 (.int .i64 0)) fun x14 =>
    bnd (gd (some x14) false h (some (x4, h))) fun x16 =>
    bnd (gd (some x14) false x16.2 (lt (pBin Try.prog .gtr 48 (.tmp 16) (.const (.int .u64 65536)) x16.1 (.int .u64 65536)) x16.2)) fun x17 =>
    bnd (pickV x14 (.bool true) x17.1) fun x18 =>
    K (x18) x17.2
theorem r73_2  : kCode env 73 false inv k (cp c73 28) (act 30 [(0, x0), (4, x4), (5, x5)]) h K =
    G73_2 inv x0 x4 x5 h fun y18 h => K .normal (act 30 [(0, x0), (4, x4), (18, y18)]) h := kq_reg
theorem b73_rlrr  : kCode env 73 false inv k (cp c73 29) (act 30 [(0, x0), (4, x4), (18, x18)]) h K = brV x18 (kCode env 73 false inv k (cp c73 58) (act 30 [(0, x0), (4, x4), (18, x18)]) h K) (kCode env 73 false inv k (cp c73 59) (act 30 [(0, x0), (4, x4), (18, x18)]) h K) := kq_cond
theorem r73_3  : kCode env 73 false inv k (cp c73 116) (act 30 [(0, x0), (4, x4), (18, x18)]) h K =
    K .normal (act 30 [(2, (.string { data := #[] })), (3, (.bool false))]) h := kq_reg
theorem res73_0 : resOfFn env.P 73 .ret (act 30 [(2, x2), (3, x3)]) h = some (.tuple #[x2, x3], h) := kq_res
theorem r73_4  : kCode env 73 false inv k (cp c73 30) (act 30 [(0, x0), (4, x4), (18, x18)]) h K =
    bnd (pConv Try.prog 48 3 x4 h) fun x22 =>
    bnd (inv (.func 85) #[] #[x0, x22] h) fun x23 =>
    bnd (pExtract x23.1 0) fun x24 =>
    bnd (pExtract x23.1 1) fun x25 =>
    K .normal (act 30 [(6, x24), (7, x25)]) x23.2 := kq_reg
theorem r73_5  : kCode env 73 false inv k (cp c73 62) (act 30 [(6, x6), (7, x7)]) h K =
    bnd (pConv Try.prog 30 9 x6 h) fun x27 =>
    bnd (pBin Try.prog .eql 31 (.tmp 28) (.const (.int .i64 0)) x7 (.int .i64 0)) fun x29 =>
    K .normal (act 30 [(2, x27), (3, x29)]) h := kq_reg
/-- shadowbook/shadowbookref07.Read -/
noncomputable def F73 (inv : Inv) (k : Nat) (x0 : Value) (h : AH) : Option (Value × AH) :=
    bnd (inv (.func 48) #[] #[x0] h) fun x10 =>
    bnd (pExtract x10.1 0) fun x11 =>
    bnd (pExtract x10.1 1) fun x12 =>
    G73_2 inv x0 x11 x12 x10.2 fun y18 h =>
    brV y18
    (some (.tuple #[(.string { data := #[] }), (.bool false)], h))
    (bnd (pConv Try.prog 48 3 x11 h) fun x22 =>
    bnd (inv (.func 85) #[] #[x0, x22] h) fun x23 =>
    bnd (pExtract x23.1 0) fun x24 =>
    bnd (pExtract x23.1 1) fun x25 =>
    bnd (pConv Try.prog 30 9 x24 x23.2) fun x27 =>
    bnd (pBin Try.prog .eql 31 (.tmp 28) (.const (.int .i64 0)) x25 (.int .i64 0)) fun x29 =>
    some (.tuple #[x27, x29], x23.2))
theorem F73_eq : eFun env k inv 73 #[x0] h = F73 inv k x0 h := by
      refine (kq_fun (a := act 30 [(0, x0)]) (c := cp c73 1)).trans ?_
      unfold F73
      simp only [kq_seq c73 1, r73_0, kq_seq c73 3, r73_1, kq_seq c73 7, kq_seq c73 14, r73_2, b73_rlrr, kq_seq c73 58, r73_3, kq_ret c73 117, res73_0, kq_skip c73 59, kq_seq c73 15, r73_4, kq_seq c73 31, r73_5, kq_ret c73 63, reduceIte, reduceCtorEq, XE.exit.injEq, Nat.reduceEqDiff, Nat.reduceMul, Nat.reduceAdd] <;> kernel_rfl
theorem F73_call : eInv env (k + 1) (.func 73) #[] #[x0] h = F73 (eInv env k) k x0 h := kq_inv F73_eq
noncomputable def c74 : Code := codeOf Try.prog 74
theorem r74_0  : kCode env 74 false inv k (cp c74 2) (act 81 [(0, x0), (1, x1), (2, x2)]) h K =
    K .normal (act 81 [(0, x0), (1, x1), (2, x2)]) h := kq_reg
theorem r74_1  : kCode env 74 false inv k (cp c74 12) (act 81 [(0, x0), (1, x1), (2, x2)]) h K =
    bnd (inv (.func 70) #[] #[x1, x2] h) fun x16 =>
    bnd (pUn Try.prog .not x16.1) fun x17 =>
    K .normal (act 81 [(0, x0), (1, x1), (2, x2), (17, x17)]) x16.2 := kq_reg
theorem b74_rlr  : kCode env 74 false inv k (cp c74 13) (act 81 [(0, x0), (1, x1), (2, x2), (17, x17)]) h K = brV x17 (kCode env 74 false inv k (cp c74 26) (act 81 [(0, x0), (1, x1), (2, x2), (17, x17)]) h K) (kCode env 74 false inv k (cp c74 27) (act 81 [(0, x0), (1, x1), (2, x2), (17, x17)]) h K) := kq_cond
theorem r74_2  : kCode env 74 false inv k (cp c74 52) (act 81 [(0, x0), (1, x1), (2, x2), (17, x17)]) h K =
    K .normal (act 81 [(6, (.slice none 0 0)), (7, (.int .i64 2))]) h := kq_reg
theorem res74_0 : resOfFn env.P 74 .ret (act 81 [(6, x6), (7, x7)]) h = some (.tuple #[x6, x7], h) := kq_res
theorem r74_3  : kCode env 74 false inv k (cp c74 28) (act 81 [(0, x0), (1, x1), (2, x2), (17, x17)]) h K =
    bnd (pLen Try.prog #[30] x0 h) fun x19 =>
    bnd (inv (.func 71) #[] #[x1, x2] h) fun x22 =>
    bnd (pBin Try.prog .neq 3 (.tmp 19) (.tmp 22) x19 x22.1) fun x23 =>
    K .normal (act 81 [(0, x0), (1, x1), (2, x2), (23, x23)]) x22.2 := kq_reg
theorem b74_rlrr  : kCode env 74 false inv k (cp c74 29) (act 81 [(0, x0), (1, x1), (2, x2), (23, x23)]) h K = brV x23 (kCode env 74 false inv k (cp c74 58) (act 81 [(0, x0), (1, x1), (2, x2), (23, x23)]) h K) (kCode env 74 false inv k (cp c74 59) (act 81 [(0, x0), (1, x1), (2, x2), (23, x23)]) h K) := kq_cond
theorem r74_4  : kCode env 74 false inv k (cp c74 116) (act 81 [(0, x0), (1, x1), (2, x2), (23, x23)]) h K =
    K .normal (act 81 [(6, (.slice none 0 0)), (7, (.int .i64 4))]) h := kq_reg
theorem r74_5  : kCode env 74 false inv k (cp c74 60) (act 81 [(0, x0), (1, x1), (2, x2), (23, x23)]) h K =
    bnd (pBin Try.prog .mul 3 (.tmp 24) (.tmp 25) x1 x2) fun x26 =>
    K .normal (act 81 [(0, x0), (1, x1), (2, x2), (8, x26)]) h := kq_reg
theorem r74_6  : kCode env 74 false inv k (cp c74 976) (act 81 [(0, x0), (1, x1), (2, x2), (8, x8)]) h K =
    bnd (pLen Try.prog #[30] x0 h) fun x29 =>
    bnd (pBin Try.prog .mul 3 (.const (.int .i64 8)) (.tmp 29) (.int .i64 8) x29) fun x30 =>
    bnd (pBin Try.prog .lss 3 (.tmp 27) (.tmp 30) x8 x30) fun x31 =>
    K .normal (act 81 [(0, x0), (1, x1), (2, x2), (8, x8), (31, x31)]) h := kq_reg
theorem b74_rlllrlrrr  : kCode env 74 false inv k (cp c74 977) (act 81 [(0, x0), (1, x1), (2, x2), (8, x8), (31, x31)]) h K = brV x31 (kCode env 74 false inv k (cp c74 1954) (act 81 [(0, x0), (1, x1), (2, x2), (8, x8), (31, x31)]) h K) (kCode env 74 false inv k (cp c74 1955) (act 81 [(0, x0), (1, x1), (2, x2), (8, x8), (31, x31)]) h K) := kq_cond
noncomputable abbrev G74_8 {β : Type} (inv : Inv) (x0 x1 x2 x8 : Value) (h : AH) (K : Value → AH → Option β) : Option β :=
    bnd (pBin Try.prog .quo 3 (.tmp 35) (.const (.int .i64 8)) x8 (.int .i64 8)) fun x36 =>
    bnd (pIndexAddr Try.prog 30 x0 x36) fun x37 =>
    bnd (pLoad Try.prog 5 x37 h) fun x38 =>
    bnd (pBin Try.prog .rem 3 (.tmp 39) (.const (.int .i64 8)) x8 (.int .i64 8)) fun x40 =>
    bnd (pConv Try.prog 3 70 x40 h) fun x41 =>
    bnd (pBin Try.prog .shr 5 (.tmp 38) (.tmp 41) x38 x41) fun x42 =>
    bnd (pBin Try.prog .rem 5 (.tmp 42) (.const (.int .u8 2)) x42 (.int .u8 2)) fun x43 =>
    bnd (pBin Try.prog .eql 5 (.tmp 43) (.const (.int .u8 1)) x43 (.int .u8 1)) fun x44 =>
    K (x44) h
theorem r74_8  : kCode env 74 false inv k (cp c74 3912) (act 81 [(0, x0), (1, x1), (2, x2), (8, x8), (31, x31)]) h K =
    G74_8 inv x0 x1 x2 x8 h fun y44 h => K .normal (act 81 [(0, x0), (1, x1), (2, x2), (8, x8), (44, y44)]) h := kq_reg
theorem b74_rllrllrlrrr  : kCode env 74 false inv k (cp c74 3913) (act 81 [(0, x0), (1, x1), (2, x2), (8, x8), (44, x44)]) h K = brV x44 (kCode env 74 false inv k (cp c74 7826) (act 81 [(0, x0), (1, x1), (2, x2), (8, x8), (44, x44)]) h K) (kCode env 74 false inv k (cp c74 7827) (act 81 [(0, x0), (1, x1), (2, x2), (8, x8), (44, x44)]) h K) := kq_cond
theorem r74_9  : kCode env 74 false inv k (cp c74 15652) (act 81 [(0, x0), (1, x1), (2, x2), (8, x8), (44, x44)]) h K =
    K .normal (act 81 [(6, (.slice none 0 0)), (7, (.int .i64 4))]) h := kq_reg
theorem r74_7  : kCode env 74 false inv k (cp c74 979) (act 81 [(0, x0), (1, x1), (2, x2), (8, x8), (44, x44)]) h K =
    bnd (pBin Try.prog .add 3 (.tmp 32) (.const (.int .i64 1)) x8 (.int .i64 1)) fun x33 =>
    K .normal (act 81 [(0, x0), (1, x1), (2, x2), (8, x33)]) h := kq_reg
noncomputable def F74_lrlrrr {β : Type} (inv : Inv) (k : Nat) : Nat → Value → Value → Value → Value → AH → (Value → Value → Value → Value → Value → AH → Option β) → (Value → Value → AH → Option β) → Option β
  | 0, _, _, _, _, _, _, _ => none
  | j + 1, x0, x1, x2, x8, h, ke0, kr =>
    bnd (pLen Try.prog #[30] x0 h) fun x29 =>
    bnd (pBin Try.prog .mul 3 (.const (.int .i64 8)) (.tmp 29) (.int .i64 8) x29) fun x30 =>
    bnd (pBin Try.prog .lss 3 (.tmp 27) (.tmp 30) x8 x30) fun x31 =>
    brV x31
    (G74_8 inv x0 x1 x2 x8 h fun y44 h =>
    brV y44
    (kr (.slice none 0 0) (.int .i64 4) h)
    (bnd (pBin Try.prog .add 3 (.tmp 32) (.const (.int .i64 1)) x8 (.int .i64 1)) fun x33 =>
    F74_lrlrrr inv k j x0 x1 x2 x33 h ke0 kr))
    (ke0 x0 x1 x2 x8 x31 h)
theorem F74_lrlrrr_j (j : Nat) : kLoop (kCode env 74 false inv k (cp c74 244)) j (act 81 [(0, x0), (1, x1), (2, x2), (8, x8)]) h K = F74_lrlrrr inv k j x0 x1 x2 x8 h (fun y0 y1 y2 y8 y31 h => K (.exit 0) (act 81 [(0, y0), (1, y1), (2, y2), (8, y8), (31, y31)]) h) (fun y6 y7 h => K .ret (act 81 [(6, y6), (7, y7)]) h) := by
      induction j generalizing x0 x1 x2 x8 h with
      | zero => rfl
      | succ j ih =>
        unfold F74_lrlrrr
        simp only [kLoop, kq_seq c74 244, kq_seq c74 488, r74_6, b74_rlllrlrrr, kq_skip c74 1954, kq_seq c74 489, kq_block c74 978 1, kq_seq c74 1956, r74_8, b74_rllrllrlrrr, kq_seq c74 7826, r74_9, kq_ret c74 15653, kq_skip c74 7827, r74_7, kq_exit c74 1955 0, ih, reduceIte, reduceCtorEq, XE.exit.injEq, Nat.reduceEqDiff, Nat.reduceMul, Nat.reduceAdd] <;> kernel_rfl
theorem F74_lrlrrr_eq  : kCode env 74 false inv k (cp c74 122) (act 81 [(0, x0), (1, x1), (2, x2), (8, x8)]) h K = F74_lrlrrr inv k k x0 x1 x2 x8 h (fun y0 y1 y2 y8 y31 h => K (.exit 0) (act 81 [(0, y0), (1, y1), (2, y2), (8, y8), (31, y31)]) h) (fun y6 y7 h => K .ret (act 81 [(6, y6), (7, y7)]) h) := kq_loop (F74_lrlrrr_j k)
theorem r74_10  : kCode env 74 false inv k (cp c74 62) (act 81 [(0, x0), (1, x1), (2, x2), (8, x8), (31, x31)]) h K =
    K .normal (act 81 [(0, x0), (1, x1), (2, x2), (9, (.slice none 0 0))]) h := kq_reg
theorem r74_11  : kCode env 74 false inv k (cp c74 252) (act 81 [(0, x0), (1, x1), (2, x2), (9, x9)]) h K =
    K .normal (act 81 [(0, x0), (1, x1), (2, x2), (9, x9), (10, (.int .i64 0))]) h := kq_reg
theorem r74_12  : kCode env 74 false inv k (cp c74 4048) (act 81 [(0, x0), (1, x1), (2, x2), (9, x9), (10, x10)]) h K =
    bnd (pBin Try.prog .lss 3 (.tmp 45) (.tmp 46) x10 x1) fun x47 =>
    K .normal (act 81 [(0, x0), (1, x1), (2, x2), (9, x9), (10, x10), (47, x47)]) h := kq_reg
theorem b74_rlllrlrrrrr  : kCode env 74 false inv k (cp c74 4049) (act 81 [(0, x0), (1, x1), (2, x2), (9, x9), (10, x10), (47, x47)]) h K = brV x47 (kCode env 74 false inv k (cp c74 8098) (act 81 [(0, x0), (1, x1), (2, x2), (9, x9), (10, x10), (47, x47)]) h K) (kCode env 74 false inv k (cp c74 8099) (act 81 [(0, x0), (1, x1), (2, x2), (9, x9), (10, x10), (47, x47)]) h K) := kq_cond
theorem r74_14  : kCode env 74 false inv k (cp c74 16200) (act 81 [(0, x0), (1, x1), (2, x2), (9, x9), (10, x10), (47, x47)]) h K =
    K .normal (act 81 [(0, x0), (1, x1), (2, x2), (9, x9), (10, x10), (11, (.int .u64 0))]) h := kq_reg
theorem r74_15  : kCode env 74 false inv k (cp c74 64804) (act 81 [(0, x0), (1, x1), (2, x2), (9, x9), (10, x10), (11, x11)]) h K =
    K .normal (act 81 [(0, x0), (1, x1), (2, x2), (9, x9), (10, x10), (11, x11), (12, (.int .i64 0))]) h := kq_reg
theorem r74_16  : kCode env 74 false inv k (cp c74 1036880) (act 81 [(0, x0), (1, x1), (2, x2), (9, x9), (10, x10), (11, x11), (12, x12)]) h K =
    bnd (pBin Try.prog .lss 3 (.tmp 50) (.tmp 51) x12 x2) fun x52 =>
    K .normal (act 81 [(0, x0), (1, x1), (2, x2), (9, x9), (10, x10), (11, x11), (12, x12), (52, x52)]) h := kq_reg
theorem b74_rlllrlrllrllrlrrrrr  : kCode env 74 false inv k (cp c74 1036881) (act 81 [(0, x0), (1, x1), (2, x2), (9, x9), (10, x10), (11, x11), (12, x12), (52, x52)]) h K = brV x52 (kCode env 74 false inv k (cp c74 2073762) (act 81 [(0, x0), (1, x1), (2, x2), (9, x9), (10, x10), (11, x11), (12, x12), (52, x52)]) h K) (kCode env 74 false inv k (cp c74 2073763) (act 81 [(0, x0), (1, x1), (2, x2), (9, x9), (10, x10), (11, x11), (12, x12), (52, x52)]) h K) := kq_cond
theorem r74_18  : kCode env 74 false inv k (cp c74 4147528) (act 81 [(0, x0), (1, x1), (2, x2), (9, x9), (10, x10), (11, x11), (12, x12), (52, x52)]) h K =
    bnd (pBin Try.prog .mul 3 (.tmp 55) (.tmp 56) x10 x2) fun x57 =>
    bnd (pBin Try.prog .add 3 (.tmp 57) (.tmp 58) x57 x12) fun x59 =>
    K .normal (act 81 [(0, x0), (1, x1), (2, x2), (9, x9), (10, x10), (11, x11), (12, x12), (13, x59)]) h := kq_reg
noncomputable abbrev G74_19 {β : Type} (inv : Inv) (x0 x1 x2 x9 x10 x11 x12 x13 : Value) (h : AH) (K : Value → AH → Option β) : Option β :=
    bnd (pBin Try.prog .quo 3 (.tmp 62) (.const (.int .i64 8)) x13 (.int .i64 8)) fun x63 =>
    bnd (pIndexAddr Try.prog 30 x0 x63) fun x64 =>
    bnd (pLoad Try.prog 5 x64 h) fun x65 =>
    bnd (pBin Try.prog .rem 3 (.tmp 66) (.const (.int .i64 8)) x13 (.int .i64 8)) fun x67 =>
    bnd (pConv Try.prog 3 70 x67 h) fun x68 =>
    bnd (pBin Try.prog .shr 5 (.tmp 65) (.tmp 68) x65 x68) fun x69 =>
    bnd (pBin Try.prog .rem 5 (.tmp 69) (.const (.int .u8 2)) x69 (.int .u8 2)) fun x70 =>
    bnd (pConv Try.prog 5 48 x70 h) fun x71 =>
    bnd (pConv Try.prog 3 70 x12 h) fun x73 =>
    bnd (pBin Try.prog .shl 48 (.tmp 71) (.tmp 73) x71 x73) fun x74 =>
    bnd (pBin Try.prog .or 48 (.tmp 60) (.tmp 74) x11 x74) fun x75 =>
    K (x75) h
theorem r74_19  : kCode env 74 false inv k (cp c74 4147529) (act 81 [(0, x0), (1, x1), (2, x2), (9, x9), (10, x10), (11, x11), (12, x12), (13, x13)]) h K =
    G74_19 inv x0 x1 x2 x9 x10 x11 x12 x13 h fun y11 h => K .normal (act 81 [(0, x0), (1, x1), (2, x2), (9, x9), (10, x10), (11, y11), (12, x12)]) h := kq_reg
theorem r74_17  : kCode env 74 false inv k (cp c74 1036883) (act 81 [(0, x0), (1, x1), (2, x2), (9, x9), (10, x10), (11, x11), (12, x12)]) h K =
    bnd (pBin Try.prog .add 3 (.tmp 53) (.const (.int .i64 1)) x12 (.int .i64 1)) fun x54 =>
    K .normal (act 81 [(0, x0), (1, x1), (2, x2), (9, x9), (10, x10), (11, x11), (12, x54)]) h := kq_reg
noncomputable def F74_lrlrllrllrlrrrrr {β : Type} (inv : Inv) (k : Nat) : Nat → Value → Value → Value → Value → Value → Value → Value → AH → (Value → Value → Value → Value → Value → Value → Value → Value → AH → Option β) → Option β
  | 0, _, _, _, _, _, _, _, _, _ => none
  | j + 1, x0, x1, x2, x9, x10, x11, x12, h, ke4 =>
    bnd (pBin Try.prog .lss 3 (.tmp 50) (.tmp 51) x12 x2) fun x52 =>
    brV x52
    (bnd (pBin Try.prog .mul 3 (.tmp 55) (.tmp 56) x10 x2) fun x57 =>
    bnd (pBin Try.prog .add 3 (.tmp 57) (.tmp 58) x57 x12) fun x59 =>
    G74_19 inv x0 x1 x2 x9 x10 x11 x12 x59 h fun y11 h =>
    bnd (pBin Try.prog .add 3 (.tmp 53) (.const (.int .i64 1)) x12 (.int .i64 1)) fun x54 =>
    F74_lrlrllrllrlrrrrr inv k j x0 x1 x2 x9 x10 y11 x54 h ke4)
    (ke4 x0 x1 x2 x9 x10 x11 x12 x52 h)
theorem F74_lrlrllrllrlrrrrr_j (j : Nat) : kLoop (kCode env 74 false inv k (cp c74 259220)) j (act 81 [(0, x0), (1, x1), (2, x2), (9, x9), (10, x10), (11, x11), (12, x12)]) h K = F74_lrlrllrllrlrrrrr inv k j x0 x1 x2 x9 x10 x11 x12 h (fun y0 y1 y2 y9 y10 y11 y12 y52 h => K (.exit 4) (act 81 [(0, y0), (1, y1), (2, y2), (9, y9), (10, y10), (11, y11), (12, y12), (52, y52)]) h) := by
      induction j generalizing x0 x1 x2 x9 x10 x11 x12 h with
      | zero => rfl
      | succ j ih =>
        unfold F74_lrlrllrllrlrrrrr
        simp only [kLoop, kq_seq c74 259220, kq_seq c74 518440, r74_16, b74_rlllrlrllrllrlrrrrr, kq_skip c74 2073762, kq_seq c74 518441, kq_block c74 1036882 5, kq_seq c74 2073764, r74_18, r74_19, r74_17, kq_exit c74 2073763 4, ih, reduceIte, reduceCtorEq, XE.exit.injEq, Nat.reduceEqDiff, Nat.reduceMul, Nat.reduceAdd] <;> kernel_rfl
theorem F74_lrlrllrllrlrrrrr_eq  : kCode env 74 false inv k (cp c74 129610) (act 81 [(0, x0), (1, x1), (2, x2), (9, x9), (10, x10), (11, x11), (12, x12)]) h K = F74_lrlrllrllrlrrrrr inv k k x0 x1 x2 x9 x10 x11 x12 h (fun y0 y1 y2 y9 y10 y11 y12 y52 h => K (.exit 4) (act 81 [(0, y0), (1, y1), (2, y2), (9, y9), (10, y10), (11, y11), (12, y12), (52, y52)]) h) := kq_loop (F74_lrlrllrllrlrrrrr_j k)
theorem r74_20  : kCode env 74 false inv k (cp c74 32403) (act 81 [(0, x0), (1, x1), (2, x2), (9, x9), (10, x10), (11, x11), (12, x12), (52, x52)]) h K =
    bnd (pBuildSlice Try.prog 50 1 #[(0, x11)] h) fun x78 =>
    bnd (pAppend Try.prog #[50, 50] x9 x78.1 x78.2) fun x79 =>
    K .normal (act 81 [(0, x0), (1, x1), (2, x2), (9, x79.1), (10, x10)]) x79.2 := kq_reg
theorem r74_13  : kCode env 74 false inv k (cp c74 4051) (act 81 [(0, x0), (1, x1), (2, x2), (9, x9), (10, x10)]) h K =
    bnd (pBin Try.prog .add 3 (.tmp 48) (.const (.int .i64 1)) x10 (.int .i64 1)) fun x49 =>
    K .normal (act 81 [(0, x0), (1, x1), (2, x2), (9, x9), (10, x49)]) h := kq_reg
noncomputable def F74_lrlrrrrr {β : Type} (inv : Inv) (k : Nat) : Nat → Value → Value → Value → Value → Value → AH → (Value → Value → Value → Value → Value → Value → AH → Option β) → Option β
  | 0, _, _, _, _, _, _, _ => none
  | j + 1, x0, x1, x2, x9, x10, h, ke2 =>
    bnd (pBin Try.prog .lss 3 (.tmp 45) (.tmp 46) x10 x1) fun x47 =>
    brV x47
    (F74_lrlrllrllrlrrrrr inv k k x0 x1 x2 x9 x10 (.int .u64 0) (.int .i64 0) h
    (fun y0 y1 y2 y9 y10 y11 y12 y52 h =>
    bnd (pBuildSlice Try.prog 50 1 #[(0, y11)] h) fun x78 =>
    bnd (pAppend Try.prog #[50, 50] y9 x78.1 x78.2) fun x79 =>
    bnd (pBin Try.prog .add 3 (.tmp 48) (.const (.int .i64 1)) y10 (.int .i64 1)) fun x49 =>
    F74_lrlrrrrr inv k j y0 y1 y2 x79.1 x49 x79.2 ke2))
    (ke2 x0 x1 x2 x9 x10 x47 h)
theorem F74_lrlrrrrr_j (j : Nat) : kLoop (kCode env 74 false inv k (cp c74 1012)) j (act 81 [(0, x0), (1, x1), (2, x2), (9, x9), (10, x10)]) h K = F74_lrlrrrrr inv k j x0 x1 x2 x9 x10 h (fun y0 y1 y2 y9 y10 y47 h => K (.exit 2) (act 81 [(0, y0), (1, y1), (2, y2), (9, y9), (10, y10), (47, y47)]) h) := by
      induction j generalizing x0 x1 x2 x9 x10 h with
      | zero => rfl
      | succ j ih =>
        unfold F74_lrlrrrrr
        simp only [kLoop, kq_seq c74 1012, kq_seq c74 2024, r74_12, b74_rlllrlrrrrr, kq_skip c74 8098, kq_seq c74 2025, kq_block c74 4050 3, kq_seq c74 8100, r74_14, kq_seq c74 16201, kq_seq c74 32402, r74_15, kq_block c74 64805 4, F74_lrlrllrllrlrrrrr_eq, r74_20, r74_13, kq_exit c74 8099 2, ih, reduceIte, reduceCtorEq, XE.exit.injEq, Nat.reduceEqDiff, Nat.reduceMul, Nat.reduceAdd] <;> kernel_rfl
theorem F74_lrlrrrrr_eq  : kCode env 74 false inv k (cp c74 506) (act 81 [(0, x0), (1, x1), (2, x2), (9, x9), (10, x10)]) h K = F74_lrlrrrrr inv k k x0 x1 x2 x9 x10 h (fun y0 y1 y2 y9 y10 y47 h => K (.exit 2) (act 81 [(0, y0), (1, y1), (2, y2), (9, y9), (10, y10), (47, y47)]) h) := kq_loop (F74_lrlrrrrr_j k)
theorem r74_21  : kCode env 74 false inv k (cp c74 254) (act 81 [(0, x0), (1, x1), (2, x2), (9, x9), (10, x10), (47, x47)]) h K =
    K .normal (act 81 [(6, x9), (7, (.int .i64 0))]) h := kq_reg
/-- shadowbook/shadowbookref05.Get -/
noncomputable def F74 (inv : Inv) (k : Nat) (x0 x1 x2 : Value) (h : AH) : Option (Value × AH) :=
    bnd (inv (.func 70) #[] #[x1, x2] h) fun x16 =>
    bnd (pUn Try.prog .not x16.1) fun x17 =>
    brV x17
    (some (.tuple #[(.slice none 0 0), (.int .i64 2)], x16.2))
    (bnd (pLen Try.prog #[30] x0 x16.2) fun x19 =>
    bnd (inv (.func 71) #[] #[x1, x2] x16.2) fun x22 =>
    bnd (pBin Try.prog .neq 3 (.tmp 19) (.tmp 22) x19 x22.1) fun x23 =>
    brV x23
    (some (.tuple #[(.slice none 0 0), (.int .i64 4)], x22.2))
    (bnd (pBin Try.prog .mul 3 (.tmp 24) (.tmp 25) x1 x2) fun x26 =>
    F74_lrlrrr inv k k x0 x1 x2 x26 x22.2
    (fun y0 y1 y2 y8 y31 h =>
    F74_lrlrrrrr inv k k y0 y1 y2 (.slice none 0 0) (.int .i64 0) h
    (fun y0_1 y1_2 y2_3 y9 y10 y47 h_4 =>
    some (.tuple #[y9, (.int .i64 0)], h_4)))
    (fun y6 y7 h_5 =>
    some (.tuple #[y6, y7], h_5))))
theorem F74_eq : eFun env k inv 74 #[x0, x1, x2] h = F74 inv k x0 x1 x2 h := by
      refine (kq_fun (a := act 81 [(0, x0), (1, x1), (2, x2)]) (c := cp c74 1)).trans ?_
      unfold F74
      simp only [kq_seq c74 1, r74_0, kq_seq c74 3, kq_seq c74 6, r74_1, b74_rlr, kq_seq c74 26, r74_2, kq_ret c74 53, res74_0, kq_skip c74 27, kq_seq c74 7, kq_seq c74 14, r74_3, b74_rlrr, kq_seq c74 58, r74_4, kq_ret c74 117, kq_skip c74 59, kq_seq c74 15, kq_seq c74 30, r74_5, kq_block c74 61 0, F74_lrlrrr_eq, kq_seq c74 31, r74_10, kq_seq c74 63, kq_seq c74 126, r74_11, kq_block c74 253 2, F74_lrlrrrrr_eq, kq_seq c74 127, r74_21, kq_ret c74 255, reduceIte, reduceCtorEq, XE.exit.injEq, Nat.reduceEqDiff, Nat.reduceMul, Nat.reduceAdd] <;> kernel_rfl
theorem F74_call : eInv env (k + 1) (.func 74) #[] #[x0, x1, x2] h = F74 (eInv env k) k x0 x1 x2 h := kq_inv F74_eq
noncomputable def c78 : Code := codeOf Try.prog 78
theorem r78_0  : kCode env 78 false inv k (cp c78 2) (act 19 [(0, x0), (1, x1)]) h K =
    K .normal (act 19 [(0, x0), (1, x1)]) h := kq_reg
theorem r78_1  : kCode env 78 false inv k (cp c78 12) (act 19 [(0, x0), (1, x1)]) h K =
    bnd (pLen Try.prog #[22] x0 h) fun x7 =>
    K .normal (act 19 [(0, x0), (1, x1), (7, x7), (8, (.int .i64 0))]) h := kq_reg
theorem r78_2  : kCode env 78 false inv k (cp c78 104) (act 19 [(0, x0), (1, x1), (7, x7), (8, x8)]) h K =
    bnd (pBin Try.prog .lss 3 (.tmp 8) (.tmp 7) x8 x7) fun x9 =>
    K .normal (act 19 [(0, x0), (1, x1), (7, x7), (8, x8), (9, x9)]) h := kq_reg
theorem b78_lrllrlr  : kCode env 78 false inv k (cp c78 210) (act 19 [(0, x0), (1, x1), (7, x7), (8, x8), (9, x9)]) h K = brV x9 (kCode env 78 false inv k (cp c78 420) (act 19 [(0, x0), (1, x1), (7, x7), (8, x8), (9, x9)]) h K) (kCode env 78 false inv k (cp c78 421) (act 19 [(0, x0), (1, x1), (7, x7), (8, x8), (9, x9)]) h K) := kq_cond
theorem r78_3  : kCode env 78 false inv k (cp c78 1688) (act 19 [(0, x0), (1, x1), (7, x7), (8, x8), (9, x9)]) h K =
    K .normal (act 19 [(0, x0), (1, x1), (5, x8), (7, x7), (8, x8)]) h := kq_reg
theorem r78_4  : kCode env 78 false inv k (cp c78 3378) (act 19 [(0, x0), (1, x1), (5, x5), (7, x7), (8, x8)]) h K =
    bnd (pIndexAddr Try.prog 22 x0 x5) fun x14 =>
    bnd (pLoad Try.prog 9 x14 h) fun x15 =>
    bnd (callV inv x1 #[x15] h) fun x16 =>
    K .normal (act 19 [(0, x0), (1, x1), (5, x5), (7, x7), (8, x8), (16, x16.1)]) x16.2 := kq_reg
theorem b78_rrllrrllrlr  : kCode env 78 false inv k (cp c78 3379) (act 19 [(0, x0), (1, x1), (5, x5), (7, x7), (8, x8), (16, x16)]) h K = brV x16 (kCode env 78 false inv k (cp c78 6758) (act 19 [(0, x0), (1, x1), (5, x5), (7, x7), (8, x8), (16, x16)]) h K) (kCode env 78 false inv k (cp c78 6759) (act 19 [(0, x0), (1, x1), (5, x5), (7, x7), (8, x8), (16, x16)]) h K) := kq_cond
theorem r78_5  : kCode env 78 false inv k (cp c78 13516) (act 19 [(0, x0), (1, x1), (5, x5), (7, x7), (8, x8), (16, x16)]) h K =
    K .normal (act 19 [(4, x5)]) h := kq_reg
theorem r78_6  : kCode env 78 false inv k (cp c78 423) (act 19 [(0, x0), (1, x1), (5, x5), (7, x7), (8, x8), (16, x16)]) h K =
    bnd (pBin Try.prog .add 3 (.tmp 8) (.const (.int .i64 1)) x8 (.int .i64 1)) fun x18 =>
    K .normal (act 19 [(0, x0), (1, x1), (7, x7), (8, x18)]) h := kq_reg
noncomputable def F78_lrlr {β : Type} (inv : Inv) (k : Nat) : Nat → Value → Value → Value → Value → AH → (Value → Value → Value → Value → Value → AH → Option β) → (Value → AH → Option β) → Option β
  | 0, _, _, _, _, _, _, _ => none
  | j + 1, x0, x1, x7, x8, h, ke0, kr =>
    bnd (pBin Try.prog .lss 3 (.tmp 8) (.tmp 7) x8 x7) fun x9 =>
    brV x9
    (bnd (pIndexAddr Try.prog 22 x0 x8) fun x14 =>
    bnd (pLoad Try.prog 9 x14 h) fun x15 =>
    bnd (callV inv x1 #[x15] h) fun x16 =>
    brV x16.1
    (kr x8 x16.2)
    (bnd (pBin Try.prog .add 3 (.tmp 8) (.const (.int .i64 1)) x8 (.int .i64 1)) fun x18 =>
    F78_lrlr inv k j x0 x1 x7 x18 x16.2 ke0 kr))
    (ke0 x0 x1 x7 x8 x9 h)
theorem F78_lrlr_j (j : Nat) : kLoop (kCode env 78 false inv k (cp c78 52)) j (act 19 [(0, x0), (1, x1), (7, x7), (8, x8)]) h K = F78_lrlr inv k j x0 x1 x7 x8 h (fun y0 y1 y7 y8 y9 h => K (.exit 0) (act 19 [(0, y0), (1, y1), (7, y7), (8, y8), (9, y9)]) h) (fun y4 h => K .ret (act 19 [(4, y4)]) h) := by
      induction j generalizing x0 x1 x7 x8 h with
      | zero => rfl
      | succ j ih =>
        unfold F78_lrlr
        simp only [kLoop, kq_seq c78 52, r78_2, kq_seq c78 105, b78_lrllrlr, kq_skip c78 420, kq_seq c78 211, kq_block c78 422 1, kq_seq c78 844, r78_3, kq_seq c78 1689, r78_4, b78_rrllrrllrlr, kq_seq c78 6758, r78_5, kq_ret c78 13517, kq_skip c78 6759, r78_6, kq_exit c78 421 0, ih, reduceIte, reduceCtorEq, XE.exit.injEq, Nat.reduceEqDiff, Nat.reduceMul, Nat.reduceAdd] <;> kernel_rfl
theorem F78_lrlr_eq  : kCode env 78 false inv k (cp c78 26) (act 19 [(0, x0), (1, x1), (7, x7), (8, x8)]) h K = F78_lrlr inv k k x0 x1 x7 x8 h (fun y0 y1 y7 y8 y9 h => K (.exit 0) (act 19 [(0, y0), (1, y1), (7, y7), (8, y8), (9, y9)]) h) (fun y4 h => K .ret (act 19 [(4, y4)]) h) := kq_loop (F78_lrlr_j k)
theorem r78_7  : kCode env 78 false inv k (cp c78 14) (act 19 [(0, x0), (1, x1), (7, x7), (8, x8), (9, x9)]) h K =
    K .normal (act 19 [(4, (.int .i64 (-1)))]) h := kq_reg
theorem res78_0 : resOfFn env.P 78 .ret (act 19 [(4, x4)]) h = some (x4, h) := kq_res
/-- slices.IndexFunc[[]string,string] -/
noncomputable def F78 (inv : Inv) (k : Nat) (x0 x1 : Value) (h : AH) : Option (Value × AH) :=
    bnd (pLen Try.prog #[22] x0 h) fun x7 =>
    F78_lrlr inv k k x0 x1 x7 (.int .i64 0) h
    (fun y0 y1 y7 y8 y9 h =>
    some ((.int .i64 (-1)), h))
    (fun y4 h_1 =>
    some (y4, h_1))
theorem F78_eq : eFun env k inv 78 #[x0, x1] h = F78 inv k x0 x1 h := by
      refine (kq_fun (a := act 19 [(0, x0), (1, x1)]) (c := cp c78 1)).trans ?_
      unfold F78
      simp only [kq_seq c78 1, r78_0, kq_seq c78 3, kq_seq c78 6, r78_1, kq_block c78 13 0, F78_lrlr_eq, kq_seq c78 7, r78_7, kq_ret c78 15, res78_0, reduceIte, reduceCtorEq, XE.exit.injEq, Nat.reduceEqDiff, Nat.reduceMul, Nat.reduceAdd] <;> kernel_rfl
theorem F78_call : eInv env (k + 1) (.func 78) #[] #[x0, x1] h = F78 (eInv env k) k x0 x1 h := kq_inv F78_eq
noncomputable def c79 : Code := codeOf Try.prog 79
theorem r79_0  : kCode env 79 false inv k (cp c79 2) (act 6 [(0, x0)]) h K =
    K .normal (act 6 [(0, x0)]) h := kq_reg
theorem r79_1  : kCode env 79 false inv k (cp c79 6) (act 6 [(0, x0)]) h K =
    bnd (pBin Try.prog .neq 9 (.tmp 3) (.tmp 4) x0 x0) fun x5 =>
    K .normal (act 6 [(2, x5)]) h := kq_reg
theorem res79_0 : resOfFn env.P 79 .ret (act 6 [(2, x2)]) h = some (x2, h) := kq_res
/-- cmp.isNaN[string] -/
noncomputable def F79 (inv : Inv) (k : Nat) (x0 : Value) (h : AH) : Option (Value × AH) :=
    bnd (pBin Try.prog .neq 9 (.tmp 3) (.tmp 4) x0 x0) fun x5 =>
    some (x5, h)
theorem F79_eq : eFun env k inv 79 #[x0] h = F79 inv k x0 h := by
      refine (kq_fun (a := act 6 [(0, x0)]) (c := cp c79 1)).trans ?_
      unfold F79
      simp only [kq_seq c79 1, r79_0, kq_seq c79 3, r79_1, kq_ret c79 7, res79_0, reduceIte, reduceCtorEq, XE.exit.injEq, Nat.reduceEqDiff, Nat.reduceMul, Nat.reduceAdd] <;> kernel_rfl
theorem F79_call : eInv env (k + 1) (.func 79) #[] #[x0] h = F79 (eInv env k) k x0 h := kq_inv F79_eq
noncomputable def c80 : Code := codeOf Try.prog 80
theorem r80_0  : kCode env 80 false inv k (cp c80 2) (act 4 [(0, x0)]) h K =
    bnd (pBox Try.prog 30 x0 h) fun x1 =>
    K .normal (act 4 [(1, x1.1)]) x1.2 := kq_reg
theorem r80_1  : kCode env 80 false inv k (cp c80 6) (act 4 [(1, x1)]) h K =
    bnd (pMakeFunc (.func 95) #[] #[x1]) fun x3 =>
    K .normal (act 4 [(2, x3)]) h := kq_reg
theorem res80_0 : resOfFn env.P 80 .ret (act 4 [(2, x2)]) h = some (x2, h) := kq_res
/-- slices.Backward[[]byte,byte] -/
noncomputable def F80 (inv : Inv) (k : Nat) (x0 : Value) (h : AH) : Option (Value × AH) :=
    bnd (pBox Try.prog 30 x0 h) fun x1 =>
    bnd (pMakeFunc (.func 95) #[] #[x1.1]) fun x3 =>
    some (x3, x1.2)
theorem F80_eq : eFun env k inv 80 #[x0] h = F80 inv k x0 h := by
      refine (kq_fun (a := act 4 [(0, x0)]) (c := cp c80 1)).trans ?_
      unfold F80
      simp only [kq_seq c80 1, r80_0, kq_seq c80 3, r80_1, kq_ret c80 7, res80_0, reduceIte, reduceCtorEq, XE.exit.injEq, Nat.reduceEqDiff, Nat.reduceMul, Nat.reduceAdd] <;> kernel_rfl
theorem F80_call : eInv env (k + 1) (.func 80) #[] #[x0] h = F80 (eInv env k) k x0 h := kq_inv F80_eq
noncomputable def c81 : Code := codeOf Try.prog 81
theorem r81_0  : kCode env 81 false inv k (cp c81 2) (act 9 [(0, x0), (1, x1)]) h K =
    K .normal (act 9 [(0, x0), (1, x1)]) h := kq_reg
theorem r81_1  : kCode env 81 false inv k (cp c81 6) (act 9 [(0, x0), (1, x1)]) h K =
    bnd (inv (.func 96) #[] #[x0, x1] h) fun x7 =>
    bnd (pBin Try.prog .geq 3 (.tmp 7) (.const (.int .i64 0)) x7.1 (.int .i64 0)) fun x8 =>
    K .normal (act 9 [(4, x8)]) x7.2 := kq_reg
theorem res81_0 : resOfFn env.P 81 .ret (act 9 [(4, x4)]) h = some (x4, h) := kq_res
/-- slices.ContainsFunc[[]byte,byte] -/
noncomputable def F81 (inv : Inv) (k : Nat) (x0 x1 : Value) (h : AH) : Option (Value × AH) :=
    bnd (inv (.func 96) #[] #[x0, x1] h) fun x7 =>
    bnd (pBin Try.prog .geq 3 (.tmp 7) (.const (.int .i64 0)) x7.1 (.int .i64 0)) fun x8 =>
    some (x8, x7.2)
theorem F81_eq : eFun env k inv 81 #[x0, x1] h = F81 inv k x0 x1 h := by
      refine (kq_fun (a := act 9 [(0, x0), (1, x1)]) (c := cp c81 1)).trans ?_
      unfold F81
      simp only [kq_seq c81 1, r81_0, kq_seq c81 3, r81_1, kq_ret c81 7, res81_0, reduceIte, reduceCtorEq, XE.exit.injEq, Nat.reduceEqDiff, Nat.reduceMul, Nat.reduceAdd] <;> kernel_rfl
theorem F81_call : eInv env (k + 1) (.func 81) #[] #[x0, x1] h = F81 (eInv env k) k x0 x1 h := kq_inv F81_eq
noncomputable def c82 : Code := codeOf Try.prog 82
theorem r82_0  : kCode env 82 false inv k (cp c82 2) (act 5 [(0, x0)]) h K =
    K .normal (act 5 [(0, x0)]) h := kq_reg
theorem r82_1  : kCode env 82 false inv k (cp c82 6) (act 5 [(0, x0)]) h K =
    bnd (pBin Try.prog .lss 5 (.tmp 3) (.const (.int .u8 128)) x0 (.int .u8 128)) fun x4 =>
    K .normal (act 5 [(2, x4)]) h := kq_reg
theorem res82_0 : resOfFn env.P 82 .ret (act 5 [(2, x2)]) h = some (x2, h) := kq_res
/-- (*shadowbook/octet.Reader).ends$1 -/
noncomputable def F82 (inv : Inv) (k : Nat) (x0 : Value) (h : AH) : Option (Value × AH) :=
    bnd (pBin Try.prog .lss 5 (.tmp 3) (.const (.int .u8 128)) x0 (.int .u8 128)) fun x4 =>
    some (x4, h)
theorem F82_eq : eFun env k inv 82 #[x0] h = F82 inv k x0 h := by
      refine (kq_fun (a := act 5 [(0, x0)]) (c := cp c82 1)).trans ?_
      unfold F82
      simp only [kq_seq c82 1, r82_0, kq_seq c82 3, r82_1, kq_ret c82 7, res82_0, reduceIte, reduceCtorEq, XE.exit.injEq, Nat.reduceEqDiff, Nat.reduceMul, Nat.reduceAdd] <;> kernel_rfl
theorem F82_call : eInv env (k + 1) (.func 82) #[] #[x0] h = F82 (eInv env k) k x0 h := kq_inv F82_eq
noncomputable def c83 : Code := codeOf Try.prog 83
theorem r83_0  : kCode env 83 false inv k (cp c83 2) (act 33 [(0, x0), (1, x1), (2, x2)]) h K =
    K .normal (act 33 [(0, x0), (1, x1), (2, x2)]) h := kq_reg
theorem r83_1  : kCode env 83 false inv k (cp c83 24) (act 33 [(0, x0), (1, x1), (2, x2)]) h K =
    bnd (inv (.func 59) #[] #[x1, x2] h) fun x10 =>
    bnd (pUn Try.prog .not x10.1) fun x11 =>
    K .normal (act 33 [(0, x0), (1, x1), (2, x2), (7, x11)]) x10.2 := kq_reg
theorem b83_rllr  : kCode env 83 false inv k (cp c83 25) (act 33 [(0, x0), (1, x1), (2, x2), (7, x7)]) h K = brV x7 (kCode env 83 false inv k (cp c83 50) (act 33 [(0, x0), (1, x1), (2, x2), (7, x7)]) h K) (kCode env 83 false inv k (cp c83 51) (act 33 [(0, x0), (1, x1), (2, x2), (7, x7)]) h K) := kq_cond
theorem r83_2  : kCode env 83 false inv k (cp c83 100) (act 33 [(0, x0), (1, x1), (2, x2), (7, x7)]) h K =
    K .normal (act 33 [(6, (.int .i64 2))]) h := kq_reg
theorem res83_0 : resOfFn env.P 83 .ret (act 33 [(6, x6)]) h = some (x6, h) := kq_res
theorem r83_3  : kCode env 83 false inv k (cp c83 102) (act 33 [(0, x0), (1, x1), (2, x2), (7, x7)]) h K =
    bnd (pLen Try.prog #[30] x0 h) fun x14 =>
    bnd (inv (.func 60) #[] #[x1, x2] h) fun x17 =>
    bnd (pBin Try.prog .neq 3 (.tmp 14) (.tmp 17) x14 x17.1) fun x18 =>
    K .normal (act 33 [(0, x0), (1, x1), (2, x2), (12, x18)]) x17.2 := kq_reg
theorem b83_rrrllr  : kCode env 83 false inv k (cp c83 103) (act 33 [(0, x0), (1, x1), (2, x2), (12, x12)]) h K = brV x12 (kCode env 83 false inv k (cp c83 206) (act 33 [(0, x0), (1, x1), (2, x2), (12, x12)]) h K) (kCode env 83 false inv k (cp c83 207) (act 33 [(0, x0), (1, x1), (2, x2), (12, x12)]) h K) := kq_cond
theorem r83_4  : kCode env 83 false inv k (cp c83 412) (act 33 [(0, x0), (1, x1), (2, x2), (12, x12)]) h K =
    K .normal (act 33 [(6, (.int .i64 4))]) h := kq_reg
noncomputable abbrev G83_5 {β : Type} (inv : Inv) (x0 x1 x2 : Value) (h : AH) (K : Value → AH → Option β) : Option β :=
    bnd (pBin Try.prog .mul 3 (.tmp 21) (.tmp 22) x1 x2) fun x23 =>
    bnd (pLen Try.prog #[30] x0 h) fun x25 =>
    bnd (pBin Try.prog .mul 3 (.const (.int .i64 8)) (.tmp 25) (.int .i64 8) x25) fun x26 =>
    bnd (pBin Try.prog .mul 3 (.tmp 27) (.tmp 28) x1 x2) fun x29 =>
    bnd (pBin Try.prog .sub 3 (.tmp 26) (.tmp 29) x26 x29) fun x30 =>
    bnd (inv (.func 97) #[] #[x0, x23, x30] h) fun x31 =>
    bnd (pBin Try.prog .neq 48 (.tmp 31) (.const (.int .u64 0)) x31.1 (.int .u64 0)) fun x32 =>
    K (x32) x31.2
theorem r83_5  : kCode env 83 false inv k (cp c83 414) (act 33 [(0, x0), (1, x1), (2, x2), (12, x12)]) h K =
    G83_5 inv x0 x1 x2 h fun y19 h => K .normal (act 33 [(19, y19)]) h := kq_reg
theorem b83_rrrrrllr  : kCode env 83 false inv k (cp c83 415) (act 33 [(19, x19)]) h K = brV x19 (kCode env 83 false inv k (cp c83 830) (act 33 [(19, x19)]) h K) (kCode env 83 false inv k (cp c83 831) (act 33 [(19, x19)]) h K) := kq_cond
theorem r83_6  : kCode env 83 false inv k (cp c83 1660) (act 33 [(19, x19)]) h K =
    K .normal (act 33 [(6, (.int .i64 4))]) h := kq_reg
theorem r83_7  : kCode env 83 false inv k (cp c83 14) (act 33 [(19, x19)]) h K =
    K .normal (act 33 [(6, (.int .i64 0))]) h := kq_reg
/-- shadowbook/packs.check -/
noncomputable def F83 (inv : Inv) (k : Nat) (x0 x1 x2 : Value) (h : AH) : Option (Value × AH) :=
    bnd (inv (.func 59) #[] #[x1, x2] h) fun x10 =>
    bnd (pUn Try.prog .not x10.1) fun x11 =>
    brV x11
    (some ((.int .i64 2), x10.2))
    (bnd (pLen Try.prog #[30] x0 x10.2) fun x14 =>
    bnd (inv (.func 60) #[] #[x1, x2] x10.2) fun x17 =>
    bnd (pBin Try.prog .neq 3 (.tmp 14) (.tmp 17) x14 x17.1) fun x18 =>
    brV x18
    (some ((.int .i64 4), x17.2))
    (G83_5 inv x0 x1 x2 x17.2 fun y19 h =>
    brV y19
    (some ((.int .i64 4), h))
    (some ((.int .i64 0), h))))
theorem F83_eq : eFun env k inv 83 #[x0, x1, x2] h = F83 inv k x0 x1 x2 h := by
      refine (kq_fun (a := act 33 [(0, x0), (1, x1), (2, x2)]) (c := cp c83 1)).trans ?_
      unfold F83
      simp only [kq_seq c83 1, r83_0, kq_seq c83 3, kq_block c83 6 0, kq_seq c83 12, r83_1, b83_rllr, kq_seq c83 50, r83_2, kq_ret c83 101, res83_0, kq_seq c83 51, r83_3, b83_rrrllr, kq_seq c83 206, r83_4, kq_ret c83 413, kq_seq c83 207, r83_5, b83_rrrrrllr, kq_seq c83 830, r83_6, kq_ret c83 1661, kq_skip c83 831, kq_seq c83 7, r83_7, kq_ret c83 15, reduceIte, reduceCtorEq, XE.exit.injEq, Nat.reduceEqDiff, Nat.reduceMul, Nat.reduceAdd] <;> kernel_rfl
theorem F83_call : eInv env (k + 1) (.func 83) #[] #[x0, x1, x2] h = F83 (eInv env k) k x0 x1 x2 h := kq_inv F83_eq
noncomputable def c84 : Code := codeOf Try.prog 84
theorem r84_0  : kCode env 84 false inv k (cp c84 2) (act 8 [(0, x0), (1, x1), (2, x2)]) h K =
    bnd (pBox Try.prog 30 x0 h) fun x3 =>
    bnd (pBox Try.prog 3 x1 x3.2) fun x4 =>
    bnd (pBox Try.prog 3 x2 x4.2) fun x5 =>
    K .normal (act 8 [(3, x3.1), (4, x4.1), (5, x5.1)]) x5.2 := kq_reg
theorem r84_1  : kCode env 84 false inv k (cp c84 6) (act 8 [(3, x3), (4, x4), (5, x5)]) h K =
    bnd (pMakeFunc (.func 98) #[] #[x3, x4, x5]) fun x7 =>
    K .normal (act 8 [(6, x7)]) h := kq_reg
theorem res84_0 : resOfFn env.P 84 .ret (act 8 [(6, x6)]) h = some (x6, h) := kq_res
/-- shadowbook/packs.Each -/
noncomputable def F84 (inv : Inv) (k : Nat) (x0 x1 x2 : Value) (h : AH) : Option (Value × AH) :=
    bnd (pBox Try.prog 30 x0 h) fun x3 =>
    bnd (pBox Try.prog 3 x1 x3.2) fun x4 =>
    bnd (pBox Try.prog 3 x2 x4.2) fun x5 =>
    bnd (pMakeFunc (.func 98) #[] #[x3.1, x4.1, x5.1]) fun x7 =>
    some (x7, x5.2)
theorem F84_eq : eFun env k inv 84 #[x0, x1, x2] h = F84 inv k x0 x1 x2 h := by
      refine (kq_fun (a := act 8 [(0, x0), (1, x1), (2, x2)]) (c := cp c84 1)).trans ?_
      unfold F84
      simp only [kq_seq c84 1, r84_0, kq_seq c84 3, r84_1, kq_ret c84 7, res84_0, reduceIte, reduceCtorEq, XE.exit.injEq, Nat.reduceEqDiff, Nat.reduceMul, Nat.reduceAdd] <;> kernel_rfl
theorem F84_call : eInv env (k + 1) (.func 84) #[] #[x0, x1, x2] h = F84 (eInv env k) k x0 x1 x2 h := kq_inv F84_eq
noncomputable def c85 : Code := codeOf Try.prog 85
theorem r85_0  : kCode env 85 false inv k (cp c85 2) (act 34 [(0, x0), (1, x1)]) h K =
    K .normal (act 34 [(0, x0), (1, x1)]) h := kq_reg
theorem r85_1  : kCode env 85 false inv k (cp c85 12) (act 34 [(0, x0), (1, x1)]) h K =
    bnd (pBin Try.prog .lss 3 (.tmp 7) (.const (.int .i64 0)) x1 (.int .i64 0)) fun x8 =>
    K .normal (act 34 [(0, x0), (1, x1), (8, x8)]) h := kq_reg
theorem b85_rlr  : kCode env 85 false inv k (cp c85 13) (act 34 [(0, x0), (1, x1), (8, x8)]) h K = brV x8 (kCode env 85 false inv k (cp c85 26) (act 34 [(0, x0), (1, x1), (8, x8)]) h K) (kCode env 85 false inv k (cp c85 27) (act 34 [(0, x0), (1, x1), (8, x8)]) h K) := kq_cond
theorem r85_2  : kCode env 85 false inv k (cp c85 52) (act 34 [(0, x0), (1, x1), (8, x8)]) h K =
    K .normal (act 34 [(4, (.slice none 0 0)), (5, (.int .i64 2))]) h := kq_reg
theorem res85_0 : resOfFn env.P 85 .ret (act 34 [(4, x4), (5, x5)]) h = some (.tuple #[x4, x5], h) := kq_res
theorem r85_3  : kCode env 85 false inv k (cp c85 28) (act 34 [(0, x0), (1, x1), (8, x8)]) h K =
    bnd (pNilCheck x0) fun x10 =>
    bnd (pFieldAddr Try.prog 84 x10 0) fun x11 =>
    bnd (pLoad Try.prog 30 x11 h) fun x12 =>
    bnd (pLen Try.prog #[30] x12 h) fun x13 =>
    bnd (pBin Try.prog .lss 3 (.tmp 13) (.tmp 14) x13 x1) fun x15 =>
    K .normal (act 34 [(0, x0), (1, x1), (15, x15)]) h := kq_reg
theorem b85_rlrr  : kCode env 85 false inv k (cp c85 29) (act 34 [(0, x0), (1, x1), (15, x15)]) h K = brV x15 (kCode env 85 false inv k (cp c85 58) (act 34 [(0, x0), (1, x1), (15, x15)]) h K) (kCode env 85 false inv k (cp c85 59) (act 34 [(0, x0), (1, x1), (15, x15)]) h K) := kq_cond
theorem r85_4  : kCode env 85 false inv k (cp c85 116) (act 34 [(0, x0), (1, x1), (15, x15)]) h K =
    K .normal (act 34 [(4, (.slice none 0 0)), (5, (.int .i64 7))]) h := kq_reg
theorem r85_5  : kCode env 85 false inv k (cp c85 30) (act 34 [(0, x0), (1, x1), (15, x15)]) h K =
    bnd (pBuildSlice Try.prog 30 0 #[] h) fun x16 =>
    bnd (pNilCheck x0) fun x18 =>
    bnd (pFieldAddr Try.prog 84 x18 0) fun x19 =>
    bnd (pLoad Try.prog 30 x19 x16.2) fun x20 =>
    bnd (pSlice Try.prog 30 x20 none (some x1) none x16.2) fun x22 =>
    bnd (pAppend Try.prog #[30, 30] x16.1 x22 x16.2) fun x23 =>
    K .normal (act 34 [(0, x0), (1, x1), (6, x23.1)]) x23.2 := kq_reg
theorem r85_6  : kCode env 85 false inv k (cp c85 62) (act 34 [(0, x0), (1, x1), (6, x6)]) h K =
    bnd (pNilCheck x0) fun x26 =>
    bnd (pFieldAddr Try.prog 84 x26 0) fun x27 =>
    bnd (pLoad Try.prog 30 x27 h) fun x28 =>
    bnd (pSlice Try.prog 30 x28 (some x1) none none h) fun x30 =>
    bnd (pNilCheck x0) fun x31 =>
    bnd (pFieldAddr Try.prog 84 x31 0) fun x32 =>
    bnd (kSt (pStore Try.prog 30 x32 x30 h)) fun u =>
    K .normal (act 34 [(6, x6)]) u.2 := kq_reg
theorem r85_7  : kCode env 85 false inv k (cp c85 126) (act 34 [(6, x6)]) h K =
    K .normal (act 34 [(4, x6), (5, (.int .i64 0))]) h := kq_reg
/-- (*shadowbook/shadowbookref01.Reader).Bytes -/
noncomputable def F85 (inv : Inv) (k : Nat) (x0 x1 : Value) (h : AH) : Option (Value × AH) :=
    bnd (pBin Try.prog .lss 3 (.tmp 7) (.const (.int .i64 0)) x1 (.int .i64 0)) fun x8 =>
    brV x8
    (some (.tuple #[(.slice none 0 0), (.int .i64 2)], h))
    (bnd (pNilCheck x0) fun x10 =>
    bnd (pFieldAddr Try.prog 84 x10 0) fun x11 =>
    bnd (pLoad Try.prog 30 x11 h) fun x12 =>
    bnd (pLen Try.prog #[30] x12 h) fun x13 =>
    bnd (pBin Try.prog .lss 3 (.tmp 13) (.tmp 14) x13 x1) fun x15 =>
    brV x15
    (some (.tuple #[(.slice none 0 0), (.int .i64 7)], h))
    (bnd (pBuildSlice Try.prog 30 0 #[] h) fun x16 =>
    bnd (pNilCheck x0) fun x18 =>
    bnd (pFieldAddr Try.prog 84 x18 0) fun x19 =>
    bnd (pLoad Try.prog 30 x19 x16.2) fun x20 =>
    bnd (pSlice Try.prog 30 x20 none (some x1) none x16.2) fun x22 =>
    bnd (pAppend Try.prog #[30, 30] x16.1 x22 x16.2) fun x23 =>
    bnd (pNilCheck x0) fun x26 =>
    bnd (pFieldAddr Try.prog 84 x26 0) fun x27 =>
    bnd (pLoad Try.prog 30 x27 x23.2) fun x28 =>
    bnd (pSlice Try.prog 30 x28 (some x1) none none x23.2) fun x30 =>
    bnd (pNilCheck x0) fun x31 =>
    bnd (pFieldAddr Try.prog 84 x31 0) fun x32 =>
    bnd (kSt (pStore Try.prog 30 x32 x30 x23.2)) fun u =>
    some (.tuple #[x23.1, (.int .i64 0)], u.2)))
theorem F85_eq : eFun env k inv 85 #[x0, x1] h = F85 inv k x0 x1 h := by
      refine (kq_fun (a := act 34 [(0, x0), (1, x1)]) (c := cp c85 1)).trans ?_
      unfold F85
      simp only [kq_seq c85 1, r85_0, kq_seq c85 3, kq_seq c85 6, r85_1, b85_rlr, kq_seq c85 26, r85_2, kq_ret c85 53, res85_0, kq_skip c85 27, kq_seq c85 7, kq_seq c85 14, r85_3, b85_rlrr, kq_seq c85 58, r85_4, kq_ret c85 117, kq_skip c85 59, kq_seq c85 15, r85_5, kq_seq c85 31, r85_6, kq_seq c85 63, r85_7, kq_ret c85 127, reduceIte, reduceCtorEq, XE.exit.injEq, Nat.reduceEqDiff, Nat.reduceMul, Nat.reduceAdd] <;> kernel_rfl
theorem F85_call : eInv env (k + 1) (.func 85) #[] #[x0, x1] h = F85 (eInv env k) k x0 x1 h := kq_inv F85_eq
noncomputable def c95 : Code := codeOf Try.prog 95
theorem r95_0  : kCode env 95 false inv k (cp c95 2) (act 19 [(0, x0), (1, x1)]) h K =
    bnd (pLoad Try.prog 30 x1 h) fun x4 =>
    bnd (pLen Try.prog #[30] x4 h) fun x5 =>
    bnd (pBin Try.prog .sub 3 (.tmp 5) (.const (.int .i64 1)) x5 (.int .i64 1)) fun x6 =>
    K .normal (act 19 [(0, x0), (1, x1), (3, x6)]) h := kq_reg
theorem r95_1  : kCode env 95 false inv k (cp c95 48) (act 19 [(0, x0), (1, x1), (3, x3)]) h K =
    bnd (pBin Try.prog .geq 3 (.tmp 7) (.const (.int .i64 0)) x3 (.int .i64 0)) fun x8 =>
    K .normal (act 19 [(0, x0), (1, x1), (3, x3), (8, x8)]) h := kq_reg
theorem b95_rlllr  : kCode env 95 false inv k (cp c95 49) (act 19 [(0, x0), (1, x1), (3, x3), (8, x8)]) h K = brV x8 (kCode env 95 false inv k (cp c95 98) (act 19 [(0, x0), (1, x1), (3, x3), (8, x8)]) h K) (kCode env 95 false inv k (cp c95 99) (act 19 [(0, x0), (1, x1), (3, x3), (8, x8)]) h K) := kq_cond
theorem r95_3  : kCode env 95 false inv k (cp c95 200) (act 19 [(0, x0), (1, x1), (3, x3), (8, x8)]) h K =
    bnd (pLoad Try.prog 30 x1 h) fun x13 =>
    bnd (pIndexAddr Try.prog 30 x13 x3) fun x15 =>
    bnd (pLoad Try.prog 5 x15 h) fun x16 =>
    bnd (callV inv x0 #[x3, x16] h) fun x17 =>
    bnd (pUn Try.prog .not x17.1) fun x18 =>
    K .normal (act 19 [(0, x0), (1, x1), (3, x3), (18, x18)]) x17.2 := kq_reg
theorem b95_rllrllr  : kCode env 95 false inv k (cp c95 201) (act 19 [(0, x0), (1, x1), (3, x3), (18, x18)]) h K = brV x18 (kCode env 95 false inv k (cp c95 402) (act 19 [(0, x0), (1, x1), (3, x3), (18, x18)]) h K) (kCode env 95 false inv k (cp c95 403) (act 19 [(0, x0), (1, x1), (3, x3), (18, x18)]) h K) := kq_cond
theorem r95_2  : kCode env 95 false inv k (cp c95 51) (act 19 [(0, x0), (1, x1), (3, x3), (18, x18)]) h K =
    bnd (pBin Try.prog .sub 3 (.tmp 9) (.const (.int .i64 1)) x3 (.int .i64 1)) fun x10 =>
    K .normal (act 19 [(0, x0), (1, x1), (3, x10)]) h := kq_reg
noncomputable def F95_lr {β : Type} (inv : Inv) (k : Nat) : Nat → Value → Value → Value → AH → (Value → Value → Value → Value → AH → Option β) → (Value → Value → Value → Value → AH → Option β) → Option β
  | 0, _, _, _, _, _, _ => none
  | j + 1, x0, x1, x3, h, ke0, kr =>
    bnd (pBin Try.prog .geq 3 (.tmp 7) (.const (.int .i64 0)) x3 (.int .i64 0)) fun x8 =>
    brV x8
    (bnd (pLoad Try.prog 30 x1 h) fun x13 =>
    bnd (pIndexAddr Try.prog 30 x13 x3) fun x15 =>
    bnd (pLoad Try.prog 5 x15 h) fun x16 =>
    bnd (callV inv x0 #[x3, x16] h) fun x17 =>
    bnd (pUn Try.prog .not x17.1) fun x18 =>
    brV x18
    (kr x0 x1 x3 x18 x17.2)
    (bnd (pBin Try.prog .sub 3 (.tmp 9) (.const (.int .i64 1)) x3 (.int .i64 1)) fun x10 =>
    F95_lr inv k j x0 x1 x10 x17.2 ke0 kr))
    (ke0 x0 x1 x3 x8 h)
theorem F95_lr_j (j : Nat) : kLoop (kCode env 95 false inv k (cp c95 12)) j (act 19 [(0, x0), (1, x1), (3, x3)]) h K = F95_lr inv k j x0 x1 x3 h (fun y0 y1 y3 y8 h => K (.exit 0) (act 19 [(0, y0), (1, y1), (3, y3), (8, y8)]) h) (fun y0 y1 y3 y18 h => K .ret (act 19 [(0, y0), (1, y1), (3, y3), (18, y18)]) h) := by
      induction j generalizing x0 x1 x3 h with
      | zero => rfl
      | succ j ih =>
        unfold F95_lr
        simp only [kLoop, kq_seq c95 12, kq_seq c95 24, r95_1, b95_rlllr, kq_skip c95 98, kq_seq c95 25, kq_block c95 50 1, kq_seq c95 100, r95_3, b95_rllrllr, kq_ret c95 402, kq_skip c95 403, r95_2, kq_exit c95 99 0, ih, reduceIte, reduceCtorEq, XE.exit.injEq, Nat.reduceEqDiff, Nat.reduceMul, Nat.reduceAdd] <;> kernel_rfl
theorem F95_lr_eq  : kCode env 95 false inv k (cp c95 6) (act 19 [(0, x0), (1, x1), (3, x3)]) h K = F95_lr inv k k x0 x1 x3 h (fun y0 y1 y3 y8 h => K (.exit 0) (act 19 [(0, y0), (1, y1), (3, y3), (8, y8)]) h) (fun y0 y1 y3 y18 h => K .ret (act 19 [(0, y0), (1, y1), (3, y3), (18, y18)]) h) := kq_loop (F95_lr_j k)
theorem res95_0 : resOfFn env.P 95 .normal (act 19 [(0, x0), (1, x1), (3, x3), (8, x8)]) h = some (.tuple #[], h) := kq_res
theorem res95_1 : resOfFn env.P 95 .ret (act 19 [(0, x0), (1, x1), (3, x3), (18, x18)]) h = some (.tuple #[], h) := kq_res
/-- slices.Backward[[]byte,byte]$1 -/
noncomputable def F95 (inv : Inv) (k : Nat) (x0 x1 : Value) (h : AH) : Option (Value × AH) :=
    bnd (pLoad Try.prog 30 x1 h) fun x4 =>
    bnd (pLen Try.prog #[30] x4 h) fun x5 =>
    bnd (pBin Try.prog .sub 3 (.tmp 5) (.const (.int .i64 1)) x5 (.int .i64 1)) fun x6 =>
    F95_lr inv k k x0 x1 x6 h
    (fun y0 y1 y3 y8 h =>
    some (.tuple #[], h))
    (fun y0_1 y1_2 y3_3 y18 h_4 =>
    some (.tuple #[], h_4))
theorem F95_eq : eFun env k inv 95 #[x0, x1] h = F95 inv k x0 x1 h := by
      refine (kq_fun (a := act 19 [(0, x0), (1, x1)]) (c := cp c95 1)).trans ?_
      unfold F95
      simp only [kq_seq c95 1, r95_0, kq_block c95 3 0, F95_lr_eq, res95_0, res95_1, reduceIte, reduceCtorEq, XE.exit.injEq, Nat.reduceEqDiff, Nat.reduceMul, Nat.reduceAdd] <;> kernel_rfl
theorem F95_call : eInv env (k + 1) (.func 95) #[] #[x0, x1] h = F95 (eInv env k) k x0 x1 h := kq_inv F95_eq
noncomputable def c96 : Code := codeOf Try.prog 96
theorem r96_0  : kCode env 96 false inv k (cp c96 2) (act 19 [(0, x0), (1, x1)]) h K =
    K .normal (act 19 [(0, x0), (1, x1)]) h := kq_reg
theorem r96_1  : kCode env 96 false inv k (cp c96 12) (act 19 [(0, x0), (1, x1)]) h K =
    bnd (pLen Try.prog #[30] x0 h) fun x7 =>
    K .normal (act 19 [(0, x0), (1, x1), (7, x7), (8, (.int .i64 0))]) h := kq_reg
theorem r96_2  : kCode env 96 false inv k (cp c96 104) (act 19 [(0, x0), (1, x1), (7, x7), (8, x8)]) h K =
    bnd (pBin Try.prog .lss 3 (.tmp 8) (.tmp 7) x8 x7) fun x9 =>
    K .normal (act 19 [(0, x0), (1, x1), (7, x7), (8, x8), (9, x9)]) h := kq_reg
theorem b96_lrllrlr  : kCode env 96 false inv k (cp c96 210) (act 19 [(0, x0), (1, x1), (7, x7), (8, x8), (9, x9)]) h K = brV x9 (kCode env 96 false inv k (cp c96 420) (act 19 [(0, x0), (1, x1), (7, x7), (8, x8), (9, x9)]) h K) (kCode env 96 false inv k (cp c96 421) (act 19 [(0, x0), (1, x1), (7, x7), (8, x8), (9, x9)]) h K) := kq_cond
theorem r96_3  : kCode env 96 false inv k (cp c96 1688) (act 19 [(0, x0), (1, x1), (7, x7), (8, x8), (9, x9)]) h K =
    K .normal (act 19 [(0, x0), (1, x1), (5, x8), (7, x7), (8, x8)]) h := kq_reg
theorem r96_4  : kCode env 96 false inv k (cp c96 3378) (act 19 [(0, x0), (1, x1), (5, x5), (7, x7), (8, x8)]) h K =
    bnd (pIndexAddr Try.prog 30 x0 x5) fun x14 =>
    bnd (pLoad Try.prog 5 x14 h) fun x15 =>
    bnd (callV inv x1 #[x15] h) fun x16 =>
    K .normal (act 19 [(0, x0), (1, x1), (5, x5), (7, x7), (8, x8), (16, x16.1)]) x16.2 := kq_reg
theorem b96_rrllrrllrlr  : kCode env 96 false inv k (cp c96 3379) (act 19 [(0, x0), (1, x1), (5, x5), (7, x7), (8, x8), (16, x16)]) h K = brV x16 (kCode env 96 false inv k (cp c96 6758) (act 19 [(0, x0), (1, x1), (5, x5), (7, x7), (8, x8), (16, x16)]) h K) (kCode env 96 false inv k (cp c96 6759) (act 19 [(0, x0), (1, x1), (5, x5), (7, x7), (8, x8), (16, x16)]) h K) := kq_cond
theorem r96_5  : kCode env 96 false inv k (cp c96 13516) (act 19 [(0, x0), (1, x1), (5, x5), (7, x7), (8, x8), (16, x16)]) h K =
    K .normal (act 19 [(4, x5)]) h := kq_reg
theorem r96_6  : kCode env 96 false inv k (cp c96 423) (act 19 [(0, x0), (1, x1), (5, x5), (7, x7), (8, x8), (16, x16)]) h K =
    bnd (pBin Try.prog .add 3 (.tmp 8) (.const (.int .i64 1)) x8 (.int .i64 1)) fun x18 =>
    K .normal (act 19 [(0, x0), (1, x1), (7, x7), (8, x18)]) h := kq_reg
noncomputable def F96_lrlr {β : Type} (inv : Inv) (k : Nat) : Nat → Value → Value → Value → Value → AH → (Value → Value → Value → Value → Value → AH → Option β) → (Value → AH → Option β) → Option β
  | 0, _, _, _, _, _, _, _ => none
  | j + 1, x0, x1, x7, x8, h, ke0, kr =>
    bnd (pBin Try.prog .lss 3 (.tmp 8) (.tmp 7) x8 x7) fun x9 =>
    brV x9
    (bnd (pIndexAddr Try.prog 30 x0 x8) fun x14 =>
    bnd (pLoad Try.prog 5 x14 h) fun x15 =>
    bnd (callV inv x1 #[x15] h) fun x16 =>
    brV x16.1
    (kr x8 x16.2)
    (bnd (pBin Try.prog .add 3 (.tmp 8) (.const (.int .i64 1)) x8 (.int .i64 1)) fun x18 =>
    F96_lrlr inv k j x0 x1 x7 x18 x16.2 ke0 kr))
    (ke0 x0 x1 x7 x8 x9 h)
theorem F96_lrlr_j (j : Nat) : kLoop (kCode env 96 false inv k (cp c96 52)) j (act 19 [(0, x0), (1, x1), (7, x7), (8, x8)]) h K = F96_lrlr inv k j x0 x1 x7 x8 h (fun y0 y1 y7 y8 y9 h => K (.exit 0) (act 19 [(0, y0), (1, y1), (7, y7), (8, y8), (9, y9)]) h) (fun y4 h => K .ret (act 19 [(4, y4)]) h) := by
      induction j generalizing x0 x1 x7 x8 h with
      | zero => rfl
      | succ j ih =>
        unfold F96_lrlr
        simp only [kLoop, kq_seq c96 52, r96_2, kq_seq c96 105, b96_lrllrlr, kq_skip c96 420, kq_seq c96 211, kq_block c96 422 1, kq_seq c96 844, r96_3, kq_seq c96 1689, r96_4, b96_rrllrrllrlr, kq_seq c96 6758, r96_5, kq_ret c96 13517, kq_skip c96 6759, r96_6, kq_exit c96 421 0, ih, reduceIte, reduceCtorEq, XE.exit.injEq, Nat.reduceEqDiff, Nat.reduceMul, Nat.reduceAdd] <;> kernel_rfl
theorem F96_lrlr_eq  : kCode env 96 false inv k (cp c96 26) (act 19 [(0, x0), (1, x1), (7, x7), (8, x8)]) h K = F96_lrlr inv k k x0 x1 x7 x8 h (fun y0 y1 y7 y8 y9 h => K (.exit 0) (act 19 [(0, y0), (1, y1), (7, y7), (8, y8), (9, y9)]) h) (fun y4 h => K .ret (act 19 [(4, y4)]) h) := kq_loop (F96_lrlr_j k)
theorem r96_7  : kCode env 96 false inv k (cp c96 14) (act 19 [(0, x0), (1, x1), (7, x7), (8, x8), (9, x9)]) h K =
    K .normal (act 19 [(4, (.int .i64 (-1)))]) h := kq_reg
theorem res96_0 : resOfFn env.P 96 .ret (act 19 [(4, x4)]) h = some (x4, h) := kq_res
/-- slices.IndexFunc[[]byte,byte] -/
noncomputable def F96 (inv : Inv) (k : Nat) (x0 x1 : Value) (h : AH) : Option (Value × AH) :=
    bnd (pLen Try.prog #[30] x0 h) fun x7 =>
    F96_lrlr inv k k x0 x1 x7 (.int .i64 0) h
    (fun y0 y1 y7 y8 y9 h =>
    some ((.int .i64 (-1)), h))
    (fun y4 h_1 =>
    some (y4, h_1))
theorem F96_eq : eFun env k inv 96 #[x0, x1] h = F96 inv k x0 x1 h := by
      refine (kq_fun (a := act 19 [(0, x0), (1, x1)]) (c := cp c96 1)).trans ?_
      unfold F96
      simp only [kq_seq c96 1, r96_0, kq_seq c96 3, kq_seq c96 6, r96_1, kq_block c96 13 0, F96_lrlr_eq, kq_seq c96 7, r96_7, kq_ret c96 15, res96_0, reduceIte, reduceCtorEq, XE.exit.injEq, Nat.reduceEqDiff, Nat.reduceMul, Nat.reduceAdd] <;> kernel_rfl
theorem F96_call : eInv env (k + 1) (.func 96) #[] #[x0, x1] h = F96 (eInv env k) k x0 x1 h := kq_inv F96_eq
noncomputable def c97 : Code := codeOf Try.prog 97
theorem r97_0  : kCode env 97 false inv k (cp c97 2) (act 32 [(0, x0), (1, x1), (2, x2)]) h K =
    K .normal (act 32 [(0, x0), (1, x1), (2, x2), (6, (.int .u64 0))]) h := kq_reg
theorem r97_1  : kCode env 97 false inv k (cp c97 12) (act 32 [(0, x0), (1, x1), (2, x2), (6, x6)]) h K =
    K .normal (act 32 [(0, x0), (1, x1), (6, x6), (9, x2), (10, (.int .i64 0))]) h := kq_reg
theorem r97_2  : kCode env 97 false inv k (cp c97 104) (act 32 [(0, x0), (1, x1), (6, x6), (9, x9), (10, x10)]) h K =
    bnd (pBin Try.prog .lss 3 (.tmp 10) (.tmp 9) x10 x9) fun x11 =>
    K .normal (act 32 [(0, x0), (1, x1), (6, x6), (9, x9), (10, x10), (11, x11)]) h := kq_reg
theorem b97_lrllrlr  : kCode env 97 false inv k (cp c97 210) (act 32 [(0, x0), (1, x1), (6, x6), (9, x9), (10, x10), (11, x11)]) h K = brV x11 (kCode env 97 false inv k (cp c97 420) (act 32 [(0, x0), (1, x1), (6, x6), (9, x9), (10, x10), (11, x11)]) h K) (kCode env 97 false inv k (cp c97 421) (act 32 [(0, x0), (1, x1), (6, x6), (9, x9), (10, x10), (11, x11)]) h K) := kq_cond
theorem r97_3  : kCode env 97 false inv k (cp c97 1688) (act 32 [(0, x0), (1, x1), (6, x6), (9, x9), (10, x10), (11, x11)]) h K =
    K .normal (act 32 [(0, x0), (1, x1), (6, x6), (7, x10), (9, x9), (10, x10)]) h := kq_reg
theorem r97_4  : kCode env 97 false inv k (cp c97 3378) (act 32 [(0, x0), (1, x1), (6, x6), (7, x7), (9, x9), (10, x10)]) h K =
    bnd (pBin Try.prog .add 3 (.tmp 13) (.tmp 14) x1 x7) fun x15 =>
    K .normal (act 32 [(0, x0), (1, x1), (6, x6), (7, x7), (8, x15), (9, x9), (10, x10)]) h := kq_reg
noncomputable abbrev G97_5 {β : Type} (inv : Inv) (x0 x1 x6 x7 x8 x9 x10 : Value) (h : AH) (K : Value → AH → Option β) : Option β :=
    bnd (pBin Try.prog .quo 3 (.tmp 18) (.const (.int .i64 8)) x8 (.int .i64 8)) fun x19 =>
    bnd (pIndexAddr Try.prog 30 x0 x19) fun x20 =>
    bnd (pLoad Try.prog 5 x20 h) fun x21 =>
    bnd (pBin Try.prog .rem 3 (.tmp 22) (.const (.int .i64 8)) x8 (.int .i64 8)) fun x23 =>
    bnd (pBin Try.prog .shr 5 (.tmp 21) (.tmp 23) x21 x23) fun x24 =>
    bnd (pBin Try.prog .and 5 (.tmp 24) (.const (.int .u8 1)) x24 (.int .u8 1)) fun x25 =>
    bnd (pConv Try.prog 5 48 x25 h) fun x26 =>
    bnd (pBin Try.prog .shl 48 (.tmp 26) (.tmp 27) x26 x7) fun x28 =>
    bnd (pBin Try.prog .or 48 (.tmp 16) (.tmp 28) x6 x28) fun x29 =>
    K (x29) h
theorem r97_5  : kCode env 97 false inv k (cp c97 3379) (act 32 [(0, x0), (1, x1), (6, x6), (7, x7), (8, x8), (9, x9), (10, x10)]) h K =
    G97_5 inv x0 x1 x6 x7 x8 x9 x10 h fun y6 h => K .normal (act 32 [(0, x0), (1, x1), (6, y6), (9, x9), (10, x10)]) h := kq_reg
theorem r97_6  : kCode env 97 false inv k (cp c97 423) (act 32 [(0, x0), (1, x1), (6, x6), (9, x9), (10, x10)]) h K =
    bnd (pBin Try.prog .add 3 (.tmp 10) (.const (.int .i64 1)) x10 (.int .i64 1)) fun x30 =>
    K .normal (act 32 [(0, x0), (1, x1), (6, x6), (9, x9), (10, x30)]) h := kq_reg
noncomputable def F97_lrlr {β : Type} (inv : Inv) (k : Nat) : Nat → Value → Value → Value → Value → Value → AH → (Value → Value → Value → Value → Value → Value → AH → Option β) → Option β
  | 0, _, _, _, _, _, _, _ => none
  | j + 1, x0, x1, x6, x9, x10, h, ke0 =>
    bnd (pBin Try.prog .lss 3 (.tmp 10) (.tmp 9) x10 x9) fun x11 =>
    brV x11
    (bnd (pBin Try.prog .add 3 (.tmp 13) (.tmp 14) x1 x10) fun x15 =>
    G97_5 inv x0 x1 x6 x10 x15 x9 x10 h fun y6 h =>
    bnd (pBin Try.prog .add 3 (.tmp 10) (.const (.int .i64 1)) x10 (.int .i64 1)) fun x30 =>
    F97_lrlr inv k j x0 x1 y6 x9 x30 h ke0)
    (ke0 x0 x1 x6 x9 x10 x11 h)
theorem F97_lrlr_j (j : Nat) : kLoop (kCode env 97 false inv k (cp c97 52)) j (act 32 [(0, x0), (1, x1), (6, x6), (9, x9), (10, x10)]) h K = F97_lrlr inv k j x0 x1 x6 x9 x10 h (fun y0 y1 y6 y9 y10 y11 h => K (.exit 0) (act 32 [(0, y0), (1, y1), (6, y6), (9, y9), (10, y10), (11, y11)]) h) := by
      induction j generalizing x0 x1 x6 x9 x10 h with
      | zero => rfl
      | succ j ih =>
        unfold F97_lrlr
        simp only [kLoop, kq_seq c97 52, r97_2, kq_seq c97 105, b97_lrllrlr, kq_skip c97 420, kq_seq c97 211, kq_block c97 422 1, kq_seq c97 844, r97_3, kq_seq c97 1689, r97_4, r97_5, r97_6, kq_exit c97 421 0, ih, reduceIte, reduceCtorEq, XE.exit.injEq, Nat.reduceEqDiff, Nat.reduceMul, Nat.reduceAdd] <;> kernel_rfl
theorem F97_lrlr_eq  : kCode env 97 false inv k (cp c97 26) (act 32 [(0, x0), (1, x1), (6, x6), (9, x9), (10, x10)]) h K = F97_lrlr inv k k x0 x1 x6 x9 x10 h (fun y0 y1 y6 y9 y10 y11 h => K (.exit 0) (act 32 [(0, y0), (1, y1), (6, y6), (9, y9), (10, y10), (11, y11)]) h) := kq_loop (F97_lrlr_j k)
theorem r97_7  : kCode env 97 false inv k (cp c97 14) (act 32 [(0, x0), (1, x1), (6, x6), (9, x9), (10, x10), (11, x11)]) h K =
    K .normal (act 32 [(6, x6)]) h := kq_reg
theorem res97_0 : resOfFn env.P 97 .ret (act 32 [(6, x6)]) h = some (x6, h) := kq_res
/-- shadowbook/packs.at -/
noncomputable def F97 (inv : Inv) (k : Nat) (x0 x1 x2 : Value) (h : AH) : Option (Value × AH) :=
    F97_lrlr inv k k x0 x1 (.int .u64 0) x2 (.int .i64 0) h
    (fun y0 y1 y6 y9 y10 y11 h =>
    some (y6, h))
theorem F97_eq : eFun env k inv 97 #[x0, x1, x2] h = F97 inv k x0 x1 x2 h := by
      refine (kq_fun (a := act 32 [(0, x0), (1, x1), (2, x2)]) (c := cp c97 1)).trans ?_
      unfold F97
      simp only [kq_seq c97 1, r97_0, kq_seq c97 3, kq_seq c97 6, r97_1, kq_block c97 13 0, F97_lrlr_eq, kq_seq c97 7, r97_7, kq_ret c97 15, res97_0, reduceIte, reduceCtorEq, XE.exit.injEq, Nat.reduceEqDiff, Nat.reduceMul, Nat.reduceAdd] <;> kernel_rfl
theorem F97_call : eInv env (k + 1) (.func 97) #[] #[x0, x1, x2] h = F97 (eInv env k) k x0 x1 x2 h := kq_inv F97_eq
noncomputable def c98 : Code := codeOf Try.prog 98
theorem r98_0  : kCode env 98 false inv k (cp c98 4) (act 26 [(0, x0), (1, x1), (2, x2), (3, x3)]) h K =
    bnd (pLoad Try.prog 30 x1 h) fun x6 =>
    bnd (pLoad Try.prog 3 x2 h) fun x7 =>
    bnd (pLoad Try.prog 3 x3 h) fun x8 =>
    bnd (inv (.func 83) #[] #[x6, x7, x8] h) fun x9 =>
    bnd (pBin Try.prog .neq 31 (.tmp 9) (.const (.int .i64 0)) x9.1 (.int .i64 0)) fun x10 =>
    K .normal (act 26 [(0, x0), (1, x1), (2, x2), (3, x3), (10, x10)]) x9.2 := kq_reg
theorem b98_rl  : kCode env 98 false inv k (cp c98 5) (act 26 [(0, x0), (1, x1), (2, x2), (3, x3), (10, x10)]) h K = brV x10 (kCode env 98 false inv k (cp c98 10) (act 26 [(0, x0), (1, x1), (2, x2), (3, x3), (10, x10)]) h K) (kCode env 98 false inv k (cp c98 11) (act 26 [(0, x0), (1, x1), (2, x2), (3, x3), (10, x10)]) h K) := kq_cond
theorem res98_0 : resOfFn env.P 98 .ret (act 26 [(0, x0), (1, x1), (2, x2), (3, x3), (10, x10)]) h = some (.tuple #[], h) := kq_res
theorem r98_1  : kCode env 98 false inv k (cp c98 6) (act 26 [(0, x0), (1, x1), (2, x2), (3, x3), (10, x10)]) h K =
    bnd (pLoad Try.prog 3 x2 h) fun x11 =>
    K .normal (act 26 [(0, x0), (1, x1), (3, x3), (11, x11), (12, (.int .i64 0))]) h := kq_reg
theorem r98_2  : kCode env 98 false inv k (cp c98 56) (act 26 [(0, x0), (1, x1), (3, x3), (11, x11), (12, x12)]) h K =
    bnd (pBin Try.prog .lss 3 (.tmp 12) (.tmp 11) x12 x11) fun x13 =>
    K .normal (act 26 [(0, x0), (1, x1), (3, x3), (11, x11), (12, x12), (13, x13)]) h := kq_reg
theorem b98_lrllrr  : kCode env 98 false inv k (cp c98 114) (act 26 [(0, x0), (1, x1), (3, x3), (11, x11), (12, x12), (13, x13)]) h K = brV x13 (kCode env 98 false inv k (cp c98 228) (act 26 [(0, x0), (1, x1), (3, x3), (11, x11), (12, x12), (13, x13)]) h K) (kCode env 98 false inv k (cp c98 229) (act 26 [(0, x0), (1, x1), (3, x3), (11, x11), (12, x12), (13, x13)]) h K) := kq_cond
theorem r98_3  : kCode env 98 false inv k (cp c98 920) (act 26 [(0, x0), (1, x1), (3, x3), (11, x11), (12, x12), (13, x13)]) h K =
    K .normal (act 26 [(0, x0), (1, x1), (3, x3), (5, x12), (11, x11), (12, x12)]) h := kq_reg
theorem r98_4  : kCode env 98 false inv k (cp c98 1842) (act 26 [(0, x0), (1, x1), (3, x3), (5, x5), (11, x11), (12, x12)]) h K =
    bnd (pLoad Try.prog 30 x1 h) fun x17 =>
    bnd (pLoad Try.prog 3 x3 h) fun x19 =>
    bnd (pBin Try.prog .mul 3 (.tmp 18) (.tmp 19) x5 x19) fun x20 =>
    bnd (pLoad Try.prog 3 x3 h) fun x21 =>
    bnd (inv (.func 97) #[] #[x17, x20, x21] h) fun x22 =>
    bnd (callV inv x0 #[x5, x22.1] x22.2) fun x23 =>
    bnd (pUn Try.prog .not x23.1) fun x24 =>
    K .normal (act 26 [(0, x0), (1, x1), (3, x3), (11, x11), (12, x12), (24, x24)]) x23.2 := kq_reg
theorem b98_rrllrrllrr  : kCode env 98 false inv k (cp c98 1843) (act 26 [(0, x0), (1, x1), (3, x3), (11, x11), (12, x12), (24, x24)]) h K = brV x24 (kCode env 98 false inv k (cp c98 3686) (act 26 [(0, x0), (1, x1), (3, x3), (11, x11), (12, x12), (24, x24)]) h K) (kCode env 98 false inv k (cp c98 3687) (act 26 [(0, x0), (1, x1), (3, x3), (11, x11), (12, x12), (24, x24)]) h K) := kq_cond
theorem r98_5  : kCode env 98 false inv k (cp c98 231) (act 26 [(0, x0), (1, x1), (3, x3), (11, x11), (12, x12), (24, x24)]) h K =
    bnd (pBin Try.prog .add 3 (.tmp 12) (.const (.int .i64 1)) x12 (.int .i64 1)) fun x25 =>
    K .normal (act 26 [(0, x0), (1, x1), (3, x3), (11, x11), (12, x25)]) h := kq_reg
noncomputable def F98_lrr {β : Type} (inv : Inv) (k : Nat) : Nat → Value → Value → Value → Value → Value → AH → (Value → Value → Value → Value → Value → Value → AH → Option β) → (Value → Value → Value → Value → Value → Value → AH → Option β) → Option β
  | 0, _, _, _, _, _, _, _, _ => none
  | j + 1, x0, x1, x3, x11, x12, h, ke0, kr =>
    bnd (pBin Try.prog .lss 3 (.tmp 12) (.tmp 11) x12 x11) fun x13 =>
    brV x13
    (bnd (pLoad Try.prog 30 x1 h) fun x17 =>
    bnd (pLoad Try.prog 3 x3 h) fun x19 =>
    bnd (pBin Try.prog .mul 3 (.tmp 18) (.tmp 19) x12 x19) fun x20 =>
    bnd (pLoad Try.prog 3 x3 h) fun x21 =>
    bnd (inv (.func 97) #[] #[x17, x20, x21] h) fun x22 =>
    bnd (callV inv x0 #[x12, x22.1] x22.2) fun x23 =>
    bnd (pUn Try.prog .not x23.1) fun x24 =>
    brV x24
    (kr x0 x1 x3 x11 x12 x24 x23.2)
    (bnd (pBin Try.prog .add 3 (.tmp 12) (.const (.int .i64 1)) x12 (.int .i64 1)) fun x25 =>
    F98_lrr inv k j x0 x1 x3 x11 x25 x23.2 ke0 kr))
    (ke0 x0 x1 x3 x11 x12 x13 h)
theorem F98_lrr_j (j : Nat) : kLoop (kCode env 98 false inv k (cp c98 28)) j (act 26 [(0, x0), (1, x1), (3, x3), (11, x11), (12, x12)]) h K = F98_lrr inv k j x0 x1 x3 x11 x12 h (fun y0 y1 y3 y11 y12 y13 h => K (.exit 0) (act 26 [(0, y0), (1, y1), (3, y3), (11, y11), (12, y12), (13, y13)]) h) (fun y0 y1 y3 y11 y12 y24 h => K .ret (act 26 [(0, y0), (1, y1), (3, y3), (11, y11), (12, y12), (24, y24)]) h) := by
      induction j generalizing x0 x1 x3 x11 x12 h with
      | zero => rfl
      | succ j ih =>
        unfold F98_lrr
        simp only [kLoop, kq_seq c98 28, r98_2, kq_seq c98 57, b98_lrllrr, kq_skip c98 228, kq_seq c98 115, kq_block c98 230 1, kq_seq c98 460, r98_3, kq_seq c98 921, r98_4, b98_rrllrrllrr, kq_ret c98 3686, kq_skip c98 3687, r98_5, kq_exit c98 229 0, ih, reduceIte, reduceCtorEq, XE.exit.injEq, Nat.reduceEqDiff, Nat.reduceMul, Nat.reduceAdd] <;> kernel_rfl
theorem F98_lrr_eq  : kCode env 98 false inv k (cp c98 14) (act 26 [(0, x0), (1, x1), (3, x3), (11, x11), (12, x12)]) h K = F98_lrr inv k k x0 x1 x3 x11 x12 h (fun y0 y1 y3 y11 y12 y13 h => K (.exit 0) (act 26 [(0, y0), (1, y1), (3, y3), (11, y11), (12, y12), (13, y13)]) h) (fun y0 y1 y3 y11 y12 y24 h => K .ret (act 26 [(0, y0), (1, y1), (3, y3), (11, y11), (12, y12), (24, y24)]) h) := kq_loop (F98_lrr_j k)
theorem res98_1 : resOfFn env.P 98 .normal (act 26 [(0, x0), (1, x1), (3, x3), (11, x11), (12, x12), (13, x13)]) h = some (.tuple #[], h) := kq_res
theorem res98_2 : resOfFn env.P 98 .ret (act 26 [(0, x0), (1, x1), (3, x3), (11, x11), (12, x12), (24, x24)]) h = some (.tuple #[], h) := kq_res
/-- shadowbook/packs.Each$1 -/
noncomputable def F98 (inv : Inv) (k : Nat) (x0 x1 x2 x3 : Value) (h : AH) : Option (Value × AH) :=
    bnd (pLoad Try.prog 30 x1 h) fun x6 =>
    bnd (pLoad Try.prog 3 x2 h) fun x7 =>
    bnd (pLoad Try.prog 3 x3 h) fun x8 =>
    bnd (inv (.func 83) #[] #[x6, x7, x8] h) fun x9 =>
    bnd (pBin Try.prog .neq 31 (.tmp 9) (.const (.int .i64 0)) x9.1 (.int .i64 0)) fun x10 =>
    brV x10
    (some (.tuple #[], x9.2))
    (bnd (pLoad Try.prog 3 x2 x9.2) fun x11 =>
    F98_lrr inv k k x0 x1 x3 x11 (.int .i64 0) x9.2
    (fun y0 y1 y3 y11 y12 y13 h =>
    some (.tuple #[], h))
    (fun y0_1 y1_2 y3_3 y11_4 y12_5 y24 h_6 =>
    some (.tuple #[], h_6)))
theorem F98_eq : eFun env k inv 98 #[x0, x1, x2, x3] h = F98 inv k x0 x1 x2 x3 h := by
      refine (kq_fun (a := act 26 [(0, x0), (1, x1), (2, x2), (3, x3)]) (c := cp c98 1)).trans ?_
      unfold F98
      simp only [kq_seq c98 1, kq_seq c98 2, r98_0, b98_rl, kq_ret c98 10, res98_0, kq_skip c98 11, kq_seq c98 3, r98_1, kq_block c98 7 0, F98_lrr_eq, res98_1, res98_2, reduceIte, reduceCtorEq, XE.exit.injEq, Nat.reduceEqDiff, Nat.reduceMul, Nat.reduceAdd] <;> kernel_rfl
theorem F98_call : eInv env (k + 1) (.func 98) #[] #[x0, x1, x2, x3] h = F98 (eInv env k) k x0 x1 x2 x3 h := kq_inv F98_eq
end Go.Proofs.Ytagcejlclcldcaa.Sh
