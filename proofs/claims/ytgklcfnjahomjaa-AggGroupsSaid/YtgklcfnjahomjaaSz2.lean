/- Shallow functions, part 2. Printed by a program of the prover's own from the loaded program; Lean checks it. -/
import Derived.Test.YtgklcfnjahomjaaSz1
set_option linter.unusedVariables false
set_option linter.unusedSimpArgs false
set_option maxRecDepth 100000
namespace Go.Proofs.Ytgklcfnjahomjaa.Sh
open Go Go.RowKit Go.Proofs.Ev
variable {β : Type} {inv : Inv} {k : Nat} {h : AH} {K : XE → Act → AH → Option β} {x0 x1 x2 x3 x4 x5 x6 x7 x8 x9 x10 x11 x12 x13 x14 x15 x16 x17 x18 x19 x20 x21 x22 x24 x26 x27 x28 x30 x31 x32 x33 x34 x35 x36 x38 x39 x40 x41 x42 x43 x44 x45 x46 x47 x48 x49 x50 x51 x52 x55 x56 x58 x60 x61 x62 x64 x65 : Value}
noncomputable def c69 : Code := codeOf Try.prog 69
theorem r69_0  : kCode env 69 false inv k (cp c69 2) (act 14 [(0, x0), (1, x1)]) h K =
    bnd (pLoad Try.prog 67 x1 h) fun x4 =>
    bnd (pRange Try.prog 67 x4 h) fun x5 =>
    K .normal (act 14 [(0, x0), (5, x5.1)]) x5.2 := kq_reg
theorem r69_1  : kCode env 69 false inv k (cp c69 24) (act 14 [(0, x0), (5, x5), (13, x13)]) h K =
    bnd (pNext x5 false h) fun x6 =>
    bnd (pExtract x6.1 0) fun x7 =>
    K .normal (act 14 [(0, x0), (5, x5), (7, x7)]) x6.2 := kq_reg
theorem b69_lrllr  : kCode env 69 false inv k (cp c69 50) (act 14 [(0, x0), (5, x5), (7, x7)]) h K = brV x7 (kCode env 69 false inv k (cp c69 100) (act 14 [(0, x0), (5, x5), (7, x7)]) h K) (kCode env 69 false inv k (cp c69 101) (act 14 [(0, x0), (5, x5), (7, x7)]) h K) := kq_cond
theorem r69_2  : kCode env 69 false inv k (cp c69 204) (act 14 [(0, x0), (5, x5), (7, x7)]) h K =
    bnd (pEntry x5 h) fun x8 =>
    bnd (pExtract x8.1 0) fun x9 =>
    K .normal (act 14 [(0, x0), (3, x9), (5, x5)]) x8.2 := kq_reg
theorem r69_3  : kCode env 69 false inv k (cp c69 410) (act 14 [(0, x0), (3, x3), (5, x5)]) h K =
    bnd (callV inv x0 #[x3] h) fun x12 =>
    bnd (pUn Try.prog .not x12.1) fun x13 =>
    K .normal (act 14 [(0, x0), (5, x5), (13, x13)]) x12.2 := kq_reg
theorem b69_rrlrrllr  : kCode env 69 false inv k (cp c69 411) (act 14 [(0, x0), (5, x5), (13, x13)]) h K = brV x13 (kCode env 69 false inv k (cp c69 822) (act 14 [(0, x0), (5, x5), (13, x13)]) h K) (kCode env 69 false inv k (cp c69 823) (act 14 [(0, x0), (5, x5), (13, x13)]) h K) := kq_cond
noncomputable def F69_lr {β : Type} (inv : Inv) (k : Nat) : Nat → Value → Value → Value → AH → (Value → Value → Value → AH → Option β) → (Value → Value → Value → AH → Option β) → Option β
  | 0, _, _, _, _, _, _ => none
  | j + 1, x0, x5, x13, h, ke0, kr =>
    bnd (pNext x5 false h) fun x6 =>
    bnd (pExtract x6.1 0) fun x7 =>
    brV x7
    (bnd (pEntry x5 x6.2) fun x8 =>
    bnd (pExtract x8.1 0) fun x9 =>
    bnd (callV inv x0 #[x9] x8.2) fun x12 =>
    bnd (pUn Try.prog .not x12.1) fun x13_1 =>
    brV x13_1
    (kr x0 x5 x13_1 x12.2)
    (F69_lr inv k j x0 x5 x13_1 x12.2 ke0 kr))
    (ke0 x0 x5 x7 x6.2)
theorem F69_lr_j (j : Nat) : kLoop (kCode env 69 false inv k (cp c69 12)) j (act 14 [(0, x0), (5, x5), (13, x13)]) h K = F69_lr inv k j x0 x5 x13 h (fun y0 y5 y7 h => K (.exit 0) (act 14 [(0, y0), (5, y5), (7, y7)]) h) (fun y0 y5 y13 h => K .ret (act 14 [(0, y0), (5, y5), (13, y13)]) h) := by
      induction j generalizing x0 x5 x13 h with
      | zero => rfl
      | succ j ih =>
        unfold F69_lr
        simp only [kLoop, kq_seq c69 12, r69_1, kq_seq c69 25, b69_lrllr, kq_skip c69 100, kq_block c69 51 1, kq_seq c69 102, r69_2, kq_seq c69 205, r69_3, b69_rrlrrllr, kq_ret c69 822, kq_skip c69 823, kq_exit c69 101 0, ih, reduceIte, reduceCtorEq, XE.exit.injEq, Nat.reduceEqDiff, Nat.reduceMul, Nat.reduceAdd] <;> kernel_rfl
theorem F69_lr_eq  : kCode env 69 false inv k (cp c69 6) (act 14 [(0, x0), (5, x5), (13, x13)]) h K = F69_lr inv k k x0 x5 x13 h (fun y0 y5 y7 h => K (.exit 0) (act 14 [(0, y0), (5, y5), (7, y7)]) h) (fun y0 y5 y13 h => K .ret (act 14 [(0, y0), (5, y5), (13, y13)]) h) := kq_loop (F69_lr_j k)
theorem F69_lr_eq_13  : kCode env 69 false inv k (cp c69 6) (act 14 [(0, x0), (5, x5)]) h K = F69_lr inv k k x0 x5 unk h (fun y0 y5 y7 h => K (.exit 0) (act 14 [(0, y0), (5, y5), (7, y7)]) h) (fun y0 y5 y13 h => K .ret (act 14 [(0, y0), (5, y5), (13, y13)]) h) := by
      rw [show act 14 [(0, x0), (5, x5)] = act 14 [(0, x0), (5, x5), (13, unk)] from by kernel_rfl]; exact F69_lr_eq ..
theorem res69_0 : resOfFn env.P 69 .normal (act 14 [(0, x0), (5, x5), (7, x7)]) h = some (.tuple #[], h) := kq_res
theorem res69_1 : resOfFn env.P 69 .ret (act 14 [(0, x0), (5, x5), (13, x13)]) h = some (.tuple #[], h) := kq_res
/-- maps.Keys[map[string]*shadowbook/agg.group,string,*shadowbook/agg.group]$1 -/
noncomputable def F69 (inv : Inv) (k : Nat) (x0 x1 : Value) (h : AH) : Option (Value × AH) :=
    bnd (pLoad Try.prog 67 x1 h) fun x4 =>
    bnd (pRange Try.prog 67 x4 h) fun x5 =>
    F69_lr inv k k x0 x5.1 unk x5.2
    (fun y0 y5 y7 h =>
    some (.tuple #[], h))
    (fun y0_2 y5_3 y13 h_4 =>
    some (.tuple #[], h_4))
theorem F69_eq : eFun env k inv 69 #[x0, x1] h = F69 inv k x0 x1 h := by
      refine (kq_fun (a := act 14 [(0, x0), (1, x1)]) (c := cp c69 1)).trans ?_
      unfold F69
      simp only [kq_seq c69 1, r69_0, kq_block c69 3 0, F69_lr_eq_13, res69_0, res69_1, reduceIte, reduceCtorEq, XE.exit.injEq, Nat.reduceEqDiff, Nat.reduceMul, Nat.reduceAdd] <;> kernel_rfl
theorem F69_call : eInv env (k + 1) (.func 69) #[] #[x0, x1] h = F69 (eInv env k) k x0 x1 h := kq_inv F69_eq
noncomputable def c70 : Code := codeOf Try.prog 70
theorem r70_0  : kCode env 70 false inv k (cp c70 2) (act 40 [(0, x0)]) h K =
    bnd (pBox Try.prog 37 x0 h) fun x1 =>
    K .normal (act 40 [(1, x1.1)]) x1.2 := kq_reg
theorem r70_1  : kCode env 70 false inv k (cp c70 6) (act 40 [(1, x1)]) h K =
    K .normal (act 40 [(1, x1), (3, (.bool false))]) h := kq_reg
theorem r70_2  : kCode env 70 false inv k (cp c70 28) (act 40 [(1, x1), (3, x3)]) h K =
    bnd (pFieldAddr Try.prog 37 x1 0) fun x4 =>
    bnd (pLoad Try.prog 3 x4 h) fun x5 =>
    K .normal (act 40 [(1, x1), (3, x3), (5, x5)]) h := kq_reg
theorem r70_3  : kCode env 70 false inv k (cp c70 116) (act 40 [(1, x1), (3, x3), (5, x5)]) h K =
    bnd (pBin Try.prog .eql 3 (.tmp 5) (.const (.int .i64 0)) x5 (.int .i64 0)) fun x7 =>
    K .normal (act 40 [(1, x1), (3, x3), (5, x5), (6, x7)]) h := kq_reg
theorem b70_rlrlrr  : kCode env 70 false inv k (cp c70 117) (act 40 [(1, x1), (3, x3), (5, x5), (6, x6)]) h K = brV x6 (kCode env 70 false inv k (cp c70 234) (act 40 [(1, x1), (3, x3), (5, x5), (6, x6)]) h K) (kCode env 70 false inv k (cp c70 235) (act 40 [(1, x1), (3, x3), (5, x5), (6, x6)]) h K) := kq_cond
theorem r70_4  : kCode env 70 false inv k (cp c70 234) (act 40 [(1, x1), (3, x3), (5, x5), (6, x6)]) h K =
    bnd (pLoad Try.prog 37 x1 h) fun x8 =>
    bnd (pBuild Try.prog 37 #[]) fun x9 =>
    bnd (pBin Try.prog .eql 37 (.tmp 8) (.tmp 9) x8 x9) fun x10 =>
    K .normal (act 40 [(3, x10)]) h := kq_reg
theorem r70_5  : kCode env 70 false inv k (cp c70 470) (act 40 [(1, x1), (3, x3), (5, x5), (6, x6)]) h K =
    bnd (pBin Try.prog .eql 3 (.tmp 5) (.const (.int .i64 1)) x5 (.int .i64 1)) fun x12 =>
    K .normal (act 40 [(1, x1), (3, x3), (5, x5), (11, x12)]) h := kq_reg
theorem b70_rrrlrlrr  : kCode env 70 false inv k (cp c70 471) (act 40 [(1, x1), (3, x3), (5, x5), (11, x11)]) h K = brV x11 (kCode env 70 false inv k (cp c70 942) (act 40 [(1, x1), (3, x3), (5, x5), (11, x11)]) h K) (kCode env 70 false inv k (cp c70 943) (act 40 [(1, x1), (3, x3), (5, x5), (11, x11)]) h K) := kq_cond
theorem r70_6  : kCode env 70 false inv k (cp c70 942) (act 40 [(1, x1), (3, x3), (5, x5), (11, x11)]) h K =
    bnd (pFieldAddr Try.prog 37 x1 2) fun x13 =>
    bnd (pLoad Try.prog 9 x13 h) fun x14 =>
    bnd (pBin Try.prog .eql 9 (.tmp 14) (.const (.string { data := #[] })) x14 (.string { data := #[] })) fun x15 =>
    K .normal (act 40 [(3, x15)]) h := kq_reg
theorem r70_7  : kCode env 70 false inv k (cp c70 1886) (act 40 [(1, x1), (3, x3), (5, x5), (11, x11)]) h K =
    bnd (pBin Try.prog .eql 3 (.tmp 5) (.const (.int .i64 2)) x5 (.int .i64 2)) fun x17 =>
    K .normal (act 40 [(1, x1), (3, x3), (5, x5), (16, x17)]) h := kq_reg
theorem b70_rrrrrlrlrr  : kCode env 70 false inv k (cp c70 1887) (act 40 [(1, x1), (3, x3), (5, x5), (16, x16)]) h K = brV x16 (kCode env 70 false inv k (cp c70 3774) (act 40 [(1, x1), (3, x3), (5, x5), (16, x16)]) h K) (kCode env 70 false inv k (cp c70 3775) (act 40 [(1, x1), (3, x3), (5, x5), (16, x16)]) h K) := kq_cond
noncomputable abbrev G70_8 {β : Type} (inv : Inv) (x1 : Value) (h : AH) (K : Value → AH → Option β) : Option β :=
    bnd (pFieldAddr Try.prog 37 x1 2) fun x18 =>
    bnd (pLoad Try.prog 9 x18 h) fun x19 =>
    bnd (pBin Try.prog .eql 9 (.tmp 19) (.const (.string { data := #[] })) x19 (.string { data := #[] })) fun x20 =>
    bnd (gd (some x20) true h (lt (pFieldAddr Try.prog 37 x1 1) h)) fun x22 =>
    bnd (gd (some x20) true x22.2 (lt (pLoad Try.prog 2 x22.1 x22.2) x22.2)) fun x23 =>
    bnd (gd (some x20) true x23.2 (lt (pBin Try.prog .andNot 2 (.tmp 23) (.const (.int .i64 1)) x23.1 (.int .i64 1)) x23.2)) fun x24 =>
    bnd (gd (some x20) true x24.2 (lt (pBin Try.prog .eql 2 (.tmp 24) (.const (.int .i64 0)) x24.1 (.int .i64 0)) x24.2)) fun x25 =>
    bnd (pickV x20 x25.1 (.bool false)) fun x26 =>
    K (x26) x25.2
theorem r70_8  : kCode env 70 false inv k (cp c70 3774) (act 40 [(1, x1), (3, x3), (5, x5), (16, x16)]) h K =
    G70_8 inv x1 h fun y3 h => K .normal (act 40 [(3, y3)]) h := kq_reg
theorem r70_9  : kCode env 70 false inv k (cp c70 7550) (act 40 [(1, x1), (3, x3), (5, x5), (16, x16)]) h K =
    bnd (pBin Try.prog .eql 3 (.tmp 5) (.const (.int .i64 3)) x5 (.int .i64 3)) fun x28 =>
    K .normal (act 40 [(1, x1), (3, x3), (27, x28)]) h := kq_reg
theorem b70_rrrrrrrlrlrr  : kCode env 70 false inv k (cp c70 7551) (act 40 [(1, x1), (3, x3), (27, x27)]) h K = brV x27 (kCode env 70 false inv k (cp c70 15102) (act 40 [(1, x1), (3, x3), (27, x27)]) h K) (kCode env 70 false inv k (cp c70 15103) (act 40 [(1, x1), (3, x3), (27, x27)]) h K) := kq_cond
noncomputable abbrev G70_10 {β : Type} (inv : Inv) (x1 : Value) (h : AH) (K : Value → AH → Option β) : Option β :=
    bnd (pFieldAddr Try.prog 37 x1 1) fun x29 =>
    bnd (pLoad Try.prog 2 x29 h) fun x30 =>
    bnd (pBin Try.prog .eql 2 (.tmp 30) (.const (.int .i64 0)) x30 (.int .i64 0)) fun x31 =>
    bnd (gd (some x31) true h (lt (pFieldAddr Try.prog 37 x1 2) h)) fun x33 =>
    bnd (gd (some x31) true x33.2 (lt (pLoad Try.prog 9 x33.1 x33.2) x33.2)) fun x34 =>
    bnd (gd (some x31) true x34.2 (lt (pLen Try.prog #[9] x34.1 x34.2) x34.2)) fun x35 =>
    bnd (gd (some x31) true x35.2 (lt (pBin Try.prog .leq 3 (.tmp 35) (.const (.int .i64 256)) x35.1 (.int .i64 256)) x35.2)) fun x36 =>
    bnd (pickV x31 x36.1 (.bool false)) fun x37 =>
    K (x37) x36.2
theorem r70_10  : kCode env 70 false inv k (cp c70 15102) (act 40 [(1, x1), (3, x3), (27, x27)]) h K =
    G70_10 inv x1 h fun y3 h => K .normal (act 40 [(3, y3)]) h := kq_reg
noncomputable def F70_rlrr {β : Type} (inv : Inv) (k : Nat) (x1 x3 x5 : Value) (h : AH) (kn : (Value → Value → Value → AH → Option β)) : Option β :=
    bnd (pBin Try.prog .eql 3 (.tmp 5) (.const (.int .i64 0)) x5 (.int .i64 0)) fun x7 =>
    brV x7
    (bnd (pLoad Try.prog 37 x1 h) fun x8 =>
    bnd (pBuild Try.prog 37 #[]) fun x9 =>
    bnd (pBin Try.prog .eql 37 (.tmp 8) (.tmp 9) x8 x9) fun x10 =>
    kn unk x10 unk h)
    (bnd (pBin Try.prog .eql 3 (.tmp 5) (.const (.int .i64 1)) x5 (.int .i64 1)) fun x12 =>
    brV x12
    (bnd (pFieldAddr Try.prog 37 x1 2) fun x13 =>
    bnd (pLoad Try.prog 9 x13 h) fun x14 =>
    bnd (pBin Try.prog .eql 9 (.tmp 14) (.const (.string { data := #[] })) x14 (.string { data := #[] })) fun x15 =>
    kn unk x15 unk h)
    (bnd (pBin Try.prog .eql 3 (.tmp 5) (.const (.int .i64 2)) x5 (.int .i64 2)) fun x17 =>
    brV x17
    (G70_8 inv x1 h fun y3 h =>
    kn unk y3 unk h)
    (bnd (pBin Try.prog .eql 3 (.tmp 5) (.const (.int .i64 3)) x5 (.int .i64 3)) fun x28 =>
    brV x28
    (G70_10 inv x1 h fun y3_1 h_2 =>
    kn unk y3_1 unk h_2)
    (kn x1 x3 x28 h))))
theorem F70_rlrr_eq  : kCode env 70 false inv k (cp c70 29) (act 40 [(1, x1), (3, x3), (5, x5)]) h K = F70_rlrr inv k x1 x3 x5 h (fun y1 y3 y27 h => K .normal (act 40 [(1, y1), (3, y3), (27, y27)]) h) := by
      unfold F70_rlrr
      simp only [kq_block c70 29 0, kq_seq c70 58, r70_3, b70_rlrlrr, r70_4, kq_seq c70 235, r70_5, b70_rrrlrlrr, r70_6, kq_seq c70 943, r70_7, b70_rrrrrlrlrr, r70_8, kq_seq c70 3775, r70_9, b70_rrrrrrrlrlrr, r70_10, kq_skip c70 15103, reduceIte, reduceCtorEq, XE.exit.injEq, Nat.reduceEqDiff, Nat.reduceMul, Nat.reduceAdd] <;> kernel_rfl
theorem r70_11  : kCode env 70 false inv k (cp c70 60) (act 40 [(1, x1), (3, x3), (27, x27)]) h K =
    bnd (pUn Try.prog .not x3) fun x39 =>
    K .normal (act 40 [(39, x39)]) h := kq_reg
theorem b70_rlrrr  : kCode env 70 false inv k (cp c70 61) (act 40 [(39, x39)]) h K = brV x39 (kCode env 70 false inv k (cp c70 122) (act 40 [(39, x39)]) h K) (kCode env 70 false inv k (cp c70 123) (act 40 [(39, x39)]) h K) := kq_cond
theorem r70_12  : kCode env 70 false inv k (cp c70 244) (act 40 [(39, x39)]) h K =
    K .normal (act 40 [(2, (.int .i64 160))]) h := kq_reg
theorem res70_0 : resOfFn env.P 70 .ret (act 40 [(2, x2)]) h = some (x2, h) := kq_res
theorem r70_13  : kCode env 70 false inv k (cp c70 62) (act 40 [(39, x39)]) h K =
    K .normal (act 40 [(2, (.int .i64 0))]) h := kq_reg
/-- shadowbook/value.Check -/
noncomputable def F70 (inv : Inv) (k : Nat) (x0 : Value) (h : AH) : Option (Value × AH) :=
    bnd (pBox Try.prog 37 x0 h) fun x1 =>
    bnd (pFieldAddr Try.prog 37 x1.1 0) fun x4 =>
    bnd (pLoad Try.prog 3 x4 x1.2) fun x5 =>
    F70_rlrr inv k x1.1 (.bool false) x5 x1.2
    (fun y1 y3 y27 h =>
    bnd (pUn Try.prog .not y3) fun x39 =>
    brV x39
    (some ((.int .i64 160), h))
    (some ((.int .i64 0), h)))
theorem F70_eq : eFun env k inv 70 #[x0] h = F70 inv k x0 h := by
      refine (kq_fun (a := act 40 [(0, x0)]) (c := cp c70 1)).trans ?_
      unfold F70
      simp only [kq_seq c70 1, r70_0, kq_seq c70 3, r70_1, kq_seq c70 7, kq_seq c70 14, r70_2, F70_rlrr_eq, kq_seq c70 15, kq_seq c70 30, r70_11, b70_rlrrr, kq_seq c70 122, r70_12, kq_ret c70 245, res70_0, kq_skip c70 123, kq_seq c70 31, r70_13, kq_ret c70 63, reduceIte, reduceCtorEq, XE.exit.injEq, Nat.reduceEqDiff, Nat.reduceMul, Nat.reduceAdd] <;> kernel_rfl
theorem F70_call : eInv env (k + 1) (.func 70) #[] #[x0] h = F70 (eInv env k) k x0 h := kq_inv F70_eq
noncomputable def c71 : Code := codeOf Try.prog 71
theorem r71_0  : kCode env 71 false inv k (cp c71 2) (act 67 [(0, x0), (1, x1)]) h K =
    bnd (pBox Try.prog 37 x1 h) fun x3 =>
    K .normal (act 67 [(0, x0), (3, x3.1)]) x3.2 := kq_reg
theorem r71_1  : kCode env 71 false inv k (cp c71 6) (act 67 [(0, x0), (3, x3)]) h K =
    bnd (pFieldAddr Try.prog 37 x3 0) fun x10 =>
    bnd (pLoad Try.prog 3 x10 h) fun x11 =>
    bnd (pConv Try.prog 3 5 x11 h) fun x12 =>
    bnd (pBuildSlice Try.prog 107 1 #[(0, x12)] h) fun x13 =>
    bnd (pAppend Try.prog #[107, 107] x0 x13.1 x13.2) fun x14 =>
    K .normal (act 67 [(0, x14.1), (3, x3)]) x14.2 := kq_reg
theorem r71_2  : kCode env 71 false inv k (cp c71 28) (act 67 [(0, x0), (3, x3)]) h K =
    bnd (pFieldAddr Try.prog 37 x3 0) fun x15 =>
    bnd (pLoad Try.prog 3 x15 h) fun x16 =>
    K .normal (act 67 [(0, x0), (3, x3), (16, x16)]) h := kq_reg
theorem r71_3  : kCode env 71 false inv k (cp c71 116) (act 67 [(0, x0), (3, x3), (16, x16)]) h K =
    bnd (pBin Try.prog .eql 3 (.tmp 16) (.const (.int .i64 1)) x16 (.int .i64 1)) fun x18 =>
    K .normal (act 67 [(0, x0), (3, x3), (16, x16), (17, x18)]) h := kq_reg
theorem b71_rlrlrr  : kCode env 71 false inv k (cp c71 117) (act 67 [(0, x0), (3, x3), (16, x16), (17, x17)]) h K = brV x17 (kCode env 71 false inv k (cp c71 234) (act 67 [(0, x0), (3, x3), (16, x16), (17, x17)]) h K) (kCode env 71 false inv k (cp c71 235) (act 67 [(0, x0), (3, x3), (16, x16), (17, x17)]) h K) := kq_cond
theorem r71_4  : kCode env 71 false inv k (cp c71 468) (act 67 [(0, x0), (3, x3), (16, x16), (17, x17)]) h K =
    bnd (pFieldAddr Try.prog 37 x3 1) fun x19 =>
    bnd (pLoad Try.prog 2 x19 h) fun x20 =>
    bnd (pConv Try.prog 2 123 x20 h) fun x21 =>
    bnd (pBin Try.prog .xor 123 (.tmp 21) (.const (.int .u64 9223372036854775808)) x21 (.int .u64 9223372036854775808)) fun x22 =>
    K .normal (act 67 [(0, x0), (5, x22)]) h := kq_reg
theorem r71_5  : kCode env 71 false inv k (cp c71 938) (act 67 [(0, x0), (5, x5)]) h K =
    K .normal (act 67 [(0, x0), (5, x5), (6, (.int .i64 7))]) h := kq_reg
theorem r71_6  : kCode env 71 false inv k (cp c71 15024) (act 67 [(0, x0), (5, x5), (6, x6)]) h K =
    bnd (pBin Try.prog .geq 3 (.tmp 23) (.const (.int .i64 0)) x6 (.int .i64 0)) fun x24 =>
    K .normal (act 67 [(0, x0), (5, x5), (6, x6), (24, x24)]) h := kq_reg
theorem b71_rlllrrlrlrlrr  : kCode env 71 false inv k (cp c71 15025) (act 67 [(0, x0), (5, x5), (6, x6), (24, x24)]) h K = brV x24 (kCode env 71 false inv k (cp c71 30050) (act 67 [(0, x0), (5, x5), (6, x6), (24, x24)]) h K) (kCode env 71 false inv k (cp c71 30051) (act 67 [(0, x0), (5, x5), (6, x6), (24, x24)]) h K) := kq_cond
theorem r71_8  : kCode env 71 false inv k (cp c71 30052) (act 67 [(0, x0), (5, x5), (6, x6), (24, x24)]) h K =
    bnd (pBin Try.prog .mul 3 (.const (.int .i64 8)) (.tmp 29) (.int .i64 8) x6) fun x30 =>
    bnd (pBin Try.prog .shr 123 (.tmp 28) (.tmp 30) x5 x30) fun x31 =>
    bnd (pConv Try.prog 123 5 x31 h) fun x32 =>
    bnd (pBuildSlice Try.prog 107 1 #[(0, x32)] h) fun x33 =>
    bnd (pAppend Try.prog #[107, 107] x0 x33.1 x33.2) fun x34 =>
    K .normal (act 67 [(0, x34.1), (5, x5), (6, x6)]) x34.2 := kq_reg
theorem r71_7  : kCode env 71 false inv k (cp c71 15027) (act 67 [(0, x0), (5, x5), (6, x6)]) h K =
    bnd (pBin Try.prog .sub 3 (.tmp 25) (.const (.int .i64 1)) x6 (.int .i64 1)) fun x26 =>
    K .normal (act 67 [(0, x0), (5, x5), (6, x26)]) h := kq_reg
noncomputable def F71_lrrlrlrlrr {β : Type} (inv : Inv) (k : Nat) : Nat → Value → Value → Value → AH → (Value → Value → Value → Value → AH → Option β) → Option β
  | 0, _, _, _, _, _ => none
  | j + 1, x0, x5, x6, h, ke1 =>
    bnd (pBin Try.prog .geq 3 (.tmp 23) (.const (.int .i64 0)) x6 (.int .i64 0)) fun x24 =>
    brV x24
    (bnd (pBin Try.prog .mul 3 (.const (.int .i64 8)) (.tmp 29) (.int .i64 8) x6) fun x30 =>
    bnd (pBin Try.prog .shr 123 (.tmp 28) (.tmp 30) x5 x30) fun x31 =>
    bnd (pConv Try.prog 123 5 x31 h) fun x32 =>
    bnd (pBuildSlice Try.prog 107 1 #[(0, x32)] h) fun x33 =>
    bnd (pAppend Try.prog #[107, 107] x0 x33.1 x33.2) fun x34 =>
    bnd (pBin Try.prog .sub 3 (.tmp 25) (.const (.int .i64 1)) x6 (.int .i64 1)) fun x26 =>
    F71_lrrlrlrlrr inv k j x34.1 x5 x26 x34.2 ke1)
    (ke1 x0 x5 x6 x24 h)
theorem F71_lrrlrlrlrr_j (j : Nat) : kLoop (kCode env 71 false inv k (cp c71 3756)) j (act 67 [(0, x0), (5, x5), (6, x6)]) h K = F71_lrrlrlrlrr inv k j x0 x5 x6 h (fun y0 y5 y6 y24 h => K (.exit 1) (act 67 [(0, y0), (5, y5), (6, y6), (24, y24)]) h) := by
      induction j generalizing x0 x5 x6 h with
      | zero => rfl
      | succ j ih =>
        unfold F71_lrrlrlrlrr
        simp only [kLoop, kq_seq c71 3756, kq_seq c71 7512, r71_6, b71_rlllrrlrlrlrr, kq_skip c71 30050, kq_seq c71 7513, kq_block c71 15026 2, r71_8, r71_7, kq_exit c71 30051 1, ih, reduceIte, reduceCtorEq, XE.exit.injEq, Nat.reduceEqDiff, Nat.reduceMul, Nat.reduceAdd] <;> kernel_rfl
theorem F71_lrrlrlrlrr_eq  : kCode env 71 false inv k (cp c71 1878) (act 67 [(0, x0), (5, x5), (6, x6)]) h K = F71_lrrlrlrlrr inv k k x0 x5 x6 h (fun y0 y5 y6 y24 h => K (.exit 1) (act 67 [(0, y0), (5, y5), (6, y6), (24, y24)]) h) := kq_loop (F71_lrrlrlrlrr_j k)
theorem r71_9  : kCode env 71 false inv k (cp c71 470) (act 67 [(0, x0), (3, x3), (16, x16), (17, x17)]) h K =
    bnd (pBin Try.prog .eql 3 (.tmp 16) (.const (.int .i64 2)) x16 (.int .i64 2)) fun x36 =>
    K .normal (act 67 [(0, x0), (3, x3), (16, x16), (35, x36)]) h := kq_reg
theorem b71_rrrlrlrr  : kCode env 71 false inv k (cp c71 471) (act 67 [(0, x0), (3, x3), (16, x16), (35, x35)]) h K = brV x35 (kCode env 71 false inv k (cp c71 942) (act 67 [(0, x0), (3, x3), (16, x16), (35, x35)]) h K) (kCode env 71 false inv k (cp c71 943) (act 67 [(0, x0), (3, x3), (16, x16), (35, x35)]) h K) := kq_cond
theorem r71_10  : kCode env 71 false inv k (cp c71 942) (act 67 [(0, x0), (3, x3), (16, x16), (35, x35)]) h K =
    bnd (pFieldAddr Try.prog 37 x3 1) fun x38 =>
    bnd (pLoad Try.prog 2 x38 h) fun x39 =>
    bnd (pConv Try.prog 2 5 x39 h) fun x40 =>
    bnd (pBuildSlice Try.prog 107 1 #[(0, x40)] h) fun x41 =>
    bnd (pAppend Try.prog #[107, 107] x0 x41.1 x41.2) fun x42 =>
    K .normal (act 67 [(0, x42.1)]) x42.2 := kq_reg
theorem r71_11  : kCode env 71 false inv k (cp c71 1886) (act 67 [(0, x0), (3, x3), (16, x16), (35, x35)]) h K =
    bnd (pBin Try.prog .eql 3 (.tmp 16) (.const (.int .i64 3)) x16 (.int .i64 3)) fun x44 =>
    K .normal (act 67 [(0, x0), (3, x3), (43, x44)]) h := kq_reg
theorem b71_rrrrrlrlrr  : kCode env 71 false inv k (cp c71 1887) (act 67 [(0, x0), (3, x3), (43, x43)]) h K = brV x43 (kCode env 71 false inv k (cp c71 3774) (act 67 [(0, x0), (3, x3), (43, x43)]) h K) (kCode env 71 false inv k (cp c71 3775) (act 67 [(0, x0), (3, x3), (43, x43)]) h K) := kq_cond
theorem r71_12  : kCode env 71 false inv k (cp c71 15096) (act 67 [(0, x0), (3, x3), (43, x43)]) h K =
    bnd (pFieldAddr Try.prog 37 x3 2) fun x45 =>
    bnd (pLoad Try.prog 9 x45 h) fun x46 =>
    bnd (pBytes Try.prog 9 107 x46 h) fun x47 =>
    bnd (pLen Try.prog #[107] x47.1 x47.2) fun x48 =>
    K .normal (act 67 [(0, x0), (47, x47.1), (48, x48), (49, (.int .i64 0))]) x47.2 := kq_reg
theorem r71_13  : kCode env 71 false inv k (cp c71 120776) (act 67 [(0, x0), (47, x47), (48, x48), (49, x49)]) h K =
    bnd (pBin Try.prog .lss 3 (.tmp 49) (.tmp 48) x49 x48) fun x50 =>
    K .normal (act 67 [(0, x0), (47, x47), (48, x48), (49, x49), (50, x50)]) h := kq_reg
theorem b71_lrllrllrrrrrlrlrr  : kCode env 71 false inv k (cp c71 241554) (act 67 [(0, x0), (47, x47), (48, x48), (49, x49), (50, x50)]) h K = brV x50 (kCode env 71 false inv k (cp c71 483108) (act 67 [(0, x0), (47, x47), (48, x48), (49, x49), (50, x50)]) h K) (kCode env 71 false inv k (cp c71 483109) (act 67 [(0, x0), (47, x47), (48, x48), (49, x49), (50, x50)]) h K) := kq_cond
theorem r71_14  : kCode env 71 false inv k (cp c71 1932440) (act 67 [(0, x0), (47, x47), (48, x48), (49, x49), (50, x50)]) h K =
    bnd (pIndexAddr Try.prog 107 x47 x49) fun x51 =>
    bnd (pLoad Try.prog 5 x51 h) fun x52 =>
    K .normal (act 67 [(0, x0), (8, x52), (47, x47), (48, x48), (49, x49)]) h := kq_reg
theorem r71_15  : kCode env 71 false inv k (cp c71 3864882) (act 67 [(0, x0), (8, x8), (47, x47), (48, x48), (49, x49)]) h K =
    bnd (pBuildSlice Try.prog 107 1 #[(0, x8)] h) fun x55 =>
    bnd (pAppend Try.prog #[107, 107] x0 x55.1 x55.2) fun x56 =>
    K .normal (act 67 [(0, x56.1), (8, x8), (47, x47), (48, x48), (49, x49)]) x56.2 := kq_reg
theorem r71_16  : kCode env 71 false inv k (cp c71 7729766) (act 67 [(0, x0), (8, x8), (47, x47), (48, x48), (49, x49)]) h K =
    bnd (pBin Try.prog .eql 5 (.tmp 57) (.const (.int .u8 0)) x8 (.int .u8 0)) fun x58 =>
    K .normal (act 67 [(0, x0), (47, x47), (48, x48), (49, x49), (58, x58)]) h := kq_reg
theorem b71_rrrllrrllrllrrrrrlrlrr  : kCode env 71 false inv k (cp c71 7729767) (act 67 [(0, x0), (47, x47), (48, x48), (49, x49), (58, x58)]) h K = brV x58 (kCode env 71 false inv k (cp c71 15459534) (act 67 [(0, x0), (47, x47), (48, x48), (49, x49), (58, x58)]) h K) (kCode env 71 false inv k (cp c71 15459535) (act 67 [(0, x0), (47, x47), (48, x48), (49, x49), (58, x58)]) h K) := kq_cond
theorem r71_17  : kCode env 71 false inv k (cp c71 15459534) (act 67 [(0, x0), (47, x47), (48, x48), (49, x49), (58, x58)]) h K =
    bnd (pBuildSlice Try.prog 107 1 #[(0, (.int .u8 255))] h) fun x60 =>
    bnd (pAppend Try.prog #[107, 107] x0 x60.1 x60.2) fun x61 =>
    K .normal (act 67 [(0, x61.1), (47, x47), (48, x48), (49, x49)]) x61.2 := kq_reg
noncomputable def F71_lrrllrllrrrrrlrlrr {β : Type} (inv : Inv) (k : Nat) (x0 x47 x48 x49 x50 : Value) (h : AH) (kn : (Value → Value → Value → Value → Value → AH → Option β)) : Option β :=
    bnd (pIndexAddr Try.prog 107 x47 x49) fun x51 =>
    bnd (pLoad Try.prog 5 x51 h) fun x52 =>
    bnd (pBuildSlice Try.prog 107 1 #[(0, x52)] h) fun x55 =>
    bnd (pAppend Try.prog #[107, 107] x0 x55.1 x55.2) fun x56 =>
    bnd (pBin Try.prog .eql 5 (.tmp 57) (.const (.int .u8 0)) x52 (.int .u8 0)) fun x58 =>
    brV x58
    (bnd (pBuildSlice Try.prog 107 1 #[(0, (.int .u8 255))] x56.2) fun x60 =>
    bnd (pAppend Try.prog #[107, 107] x56.1 x60.1 x60.2) fun x61 =>
    kn x61.1 x47 x48 x49 unk x61.2)
    (kn x56.1 x47 x48 x49 x58 x56.2)
theorem F71_lrrllrllrrrrrlrlrr_eq  : kCode env 71 false inv k (cp c71 483110) (act 67 [(0, x0), (47, x47), (48, x48), (49, x49), (50, x50)]) h K = F71_lrrllrllrrrrrlrlrr inv k x0 x47 x48 x49 x50 h (fun y0 y47 y48 y49 y58 h => K .normal (act 67 [(0, y0), (47, y47), (48, y48), (49, y49), (58, y58)]) h) := by
      unfold F71_lrrllrllrrrrrlrlrr
      simp only [kq_block c71 483110 4, kq_seq c71 966220, r71_14, kq_seq c71 1932441, r71_15, kq_seq c71 3864883, r71_16, b71_rrrllrrllrllrrrrrlrlrr, r71_17, kq_skip c71 15459535, reduceIte, reduceCtorEq, XE.exit.injEq, Nat.reduceEqDiff, Nat.reduceMul, Nat.reduceAdd] <;> kernel_rfl
theorem r71_18  : kCode env 71 false inv k (cp c71 483111) (act 67 [(0, x0), (47, x47), (48, x48), (49, x49), (58, x58)]) h K =
    bnd (pBin Try.prog .add 3 (.tmp 49) (.const (.int .i64 1)) x49 (.int .i64 1)) fun x62 =>
    K .normal (act 67 [(0, x0), (47, x47), (48, x48), (49, x62)]) h := kq_reg
noncomputable def F71_lrllrrrrrlrlrr {β : Type} (inv : Inv) (k : Nat) : Nat → Value → Value → Value → Value → AH → (Value → Value → Value → Value → Value → AH → Option β) → Option β
  | 0, _, _, _, _, _, _ => none
  | j + 1, x0, x47, x48, x49, h, ke3 =>
    bnd (pBin Try.prog .lss 3 (.tmp 49) (.tmp 48) x49 x48) fun x50 =>
    brV x50
    (F71_lrrllrllrrrrrlrlrr inv k x0 x47 x48 x49 x50 h
    (fun y0 y47 y48 y49 y58 h =>
    bnd (pBin Try.prog .add 3 (.tmp 49) (.const (.int .i64 1)) y49 (.int .i64 1)) fun x62 =>
    F71_lrllrrrrrlrlrr inv k j y0 y47 y48 x62 h ke3))
    (ke3 x0 x47 x48 x49 x50 h)
theorem F71_lrllrrrrrlrlrr_j (j : Nat) : kLoop (kCode env 71 false inv k (cp c71 60388)) j (act 67 [(0, x0), (47, x47), (48, x48), (49, x49)]) h K = F71_lrllrrrrrlrlrr inv k j x0 x47 x48 x49 h (fun y0 y47 y48 y49 y50 h => K (.exit 3) (act 67 [(0, y0), (47, y47), (48, y48), (49, y49), (50, y50)]) h) := by
      induction j generalizing x0 x47 x48 x49 h with
      | zero => rfl
      | succ j ih =>
        unfold F71_lrllrrrrrlrlrr
        simp only [kLoop, kq_seq c71 60388, r71_13, kq_seq c71 120777, b71_lrllrllrrrrrlrlrr, kq_skip c71 483108, kq_seq c71 241555, F71_lrrllrllrrrrrlrlrr_eq, r71_18, kq_exit c71 483109 3, ih, reduceIte, reduceCtorEq, XE.exit.injEq, Nat.reduceEqDiff, Nat.reduceMul, Nat.reduceAdd] <;> kernel_rfl
theorem F71_lrllrrrrrlrlrr_eq  : kCode env 71 false inv k (cp c71 30194) (act 67 [(0, x0), (47, x47), (48, x48), (49, x49)]) h K = F71_lrllrrrrrlrlrr inv k k x0 x47 x48 x49 h (fun y0 y47 y48 y49 y50 h => K (.exit 3) (act 67 [(0, y0), (47, y47), (48, y48), (49, y49), (50, y50)]) h) := kq_loop (F71_lrllrrrrrlrlrr_j k)
theorem r71_19  : kCode env 71 false inv k (cp c71 7549) (act 67 [(0, x0), (47, x47), (48, x48), (49, x49), (50, x50)]) h K =
    bnd (pBuildSlice Try.prog 107 2 #[(0, (.int .u8 0)), (1, (.int .u8 0))] h) fun x64 =>
    bnd (pAppend Try.prog #[107, 107] x0 x64.1 x64.2) fun x65 =>
    K .normal (act 67 [(0, x65.1)]) x65.2 := kq_reg
noncomputable def F71_rlrr {β : Type} (inv : Inv) (k : Nat) (x0 x3 x16 : Value) (h : AH) (kn : (Value → Value → Value → Value → Value → Value → AH → Option β)) : Option β :=
    bnd (pBin Try.prog .eql 3 (.tmp 16) (.const (.int .i64 1)) x16 (.int .i64 1)) fun x18 =>
    brV x18
    (bnd (pFieldAddr Try.prog 37 x3 1) fun x19 =>
    bnd (pLoad Try.prog 2 x19 h) fun x20 =>
    bnd (pConv Try.prog 2 123 x20 h) fun x21 =>
    bnd (pBin Try.prog .xor 123 (.tmp 21) (.const (.int .u64 9223372036854775808)) x21 (.int .u64 9223372036854775808)) fun x22 =>
    F71_lrrlrlrlrr inv k k x0 x22 (.int .i64 7) h
    (fun y0 y5 y6 y24 h =>
    kn y0 unk y5 y6 y24 unk h))
    (bnd (pBin Try.prog .eql 3 (.tmp 16) (.const (.int .i64 2)) x16 (.int .i64 2)) fun x36 =>
    brV x36
    (bnd (pFieldAddr Try.prog 37 x3 1) fun x38 =>
    bnd (pLoad Try.prog 2 x38 h) fun x39 =>
    bnd (pConv Try.prog 2 5 x39 h) fun x40 =>
    bnd (pBuildSlice Try.prog 107 1 #[(0, x40)] h) fun x41 =>
    bnd (pAppend Try.prog #[107, 107] x0 x41.1 x41.2) fun x42 =>
    kn x42.1 unk unk unk unk unk x42.2)
    (bnd (pBin Try.prog .eql 3 (.tmp 16) (.const (.int .i64 3)) x16 (.int .i64 3)) fun x44 =>
    brV x44
    (bnd (pFieldAddr Try.prog 37 x3 2) fun x45 =>
    bnd (pLoad Try.prog 9 x45 h) fun x46 =>
    bnd (pBytes Try.prog 9 107 x46 h) fun x47 =>
    bnd (pLen Try.prog #[107] x47.1 x47.2) fun x48 =>
    F71_lrllrrrrrlrlrr inv k k x0 x47.1 x48 (.int .i64 0) x47.2
    (fun y0_1 y47 y48 y49 y50 h_2 =>
    bnd (pBuildSlice Try.prog 107 2 #[(0, (.int .u8 0)), (1, (.int .u8 0))] h_2) fun x64 =>
    bnd (pAppend Try.prog #[107, 107] y0_1 x64.1 x64.2) fun x65 =>
    kn x65.1 unk unk unk unk unk x65.2))
    (kn x0 x3 unk unk unk x44 h)))
theorem F71_rlrr_eq  : kCode env 71 false inv k (cp c71 29) (act 67 [(0, x0), (3, x3), (16, x16)]) h K = F71_rlrr inv k x0 x3 x16 h (fun y0 y3 y5 y6 y24 y43 h => K .normal (act 67 [(0, y0), (3, y3), (5, y5), (6, y6), (24, y24), (43, y43)]) h) := by
      unfold F71_rlrr
      simp only [kq_block c71 29 0, kq_seq c71 58, r71_3, b71_rlrlrr, kq_seq c71 234, r71_4, kq_seq c71 469, r71_5, kq_block c71 939 1, F71_lrrlrlrlrr_eq, kq_seq c71 235, r71_9, b71_rrrlrlrr, r71_10, kq_seq c71 943, r71_11, b71_rrrrrlrlrr, kq_seq c71 3774, kq_seq c71 7548, r71_12, kq_block c71 15097 3, F71_lrllrrrrrlrlrr_eq, r71_19, kq_skip c71 3775, reduceIte, reduceCtorEq, XE.exit.injEq, Nat.reduceEqDiff, Nat.reduceMul, Nat.reduceAdd] <;> kernel_rfl
theorem r71_20  : kCode env 71 false inv k (cp c71 30) (act 67 [(0, x0), (3, x3), (5, x5), (6, x6), (24, x24), (43, x43)]) h K =
    K .normal (act 67 [(4, x0)]) h := kq_reg
theorem res71_0 : resOfFn env.P 71 .ret (act 67 [(4, x4)]) h = some (x4, h) := kq_res
/-- shadowbook/value.key -/
noncomputable def F71 (inv : Inv) (k : Nat) (x0 x1 : Value) (h : AH) : Option (Value × AH) :=
    bnd (pBox Try.prog 37 x1 h) fun x3 =>
    bnd (pFieldAddr Try.prog 37 x3.1 0) fun x10 =>
    bnd (pLoad Try.prog 3 x10 x3.2) fun x11 =>
    bnd (pConv Try.prog 3 5 x11 x3.2) fun x12 =>
    bnd (pBuildSlice Try.prog 107 1 #[(0, x12)] x3.2) fun x13 =>
    bnd (pAppend Try.prog #[107, 107] x0 x13.1 x13.2) fun x14 =>
    bnd (pFieldAddr Try.prog 37 x3.1 0) fun x15 =>
    bnd (pLoad Try.prog 3 x15 x14.2) fun x16 =>
    F71_rlrr inv k x14.1 x3.1 x16 x14.2
    (fun y0 y3 y5 y6 y24 y43 h =>
    some (y0, h))
theorem F71_eq : eFun env k inv 71 #[x0, x1] h = F71 inv k x0 x1 h := by
      refine (kq_fun (a := act 67 [(0, x0), (1, x1)]) (c := cp c71 1)).trans ?_
      unfold F71
      simp only [kq_seq c71 1, r71_0, kq_seq c71 3, r71_1, kq_seq c71 7, kq_seq c71 14, r71_2, F71_rlrr_eq, kq_seq c71 15, r71_20, kq_ret c71 31, res71_0, reduceIte, reduceCtorEq, XE.exit.injEq, Nat.reduceEqDiff, Nat.reduceMul, Nat.reduceAdd] <;> kernel_rfl
theorem F71_call : eInv env (k + 1) (.func 71) #[] #[x0, x1] h = F71 (eInv env k) k x0 x1 h := kq_inv F71_eq
noncomputable def c72 : Code := codeOf Try.prog 72
theorem r72_0  : kCode env 72 false inv k (cp c72 2) (act 19 [(0, x0), (1, x1)]) h K =
    K .normal (act 19 [(0, x0), (1, x1)]) h := kq_reg
theorem r72_1  : kCode env 72 false inv k (cp c72 12) (act 19 [(0, x0), (1, x1)]) h K =
    bnd (pLen Try.prog #[22] x0 h) fun x7 =>
    K .normal (act 19 [(0, x0), (1, x1), (7, x7), (8, (.int .i64 0))]) h := kq_reg
theorem r72_2  : kCode env 72 false inv k (cp c72 104) (act 19 [(0, x0), (1, x1), (7, x7), (8, x8)]) h K =
    bnd (pBin Try.prog .lss 3 (.tmp 8) (.tmp 7) x8 x7) fun x9 =>
    K .normal (act 19 [(0, x0), (1, x1), (7, x7), (8, x8), (9, x9)]) h := kq_reg
theorem b72_lrllrlr  : kCode env 72 false inv k (cp c72 210) (act 19 [(0, x0), (1, x1), (7, x7), (8, x8), (9, x9)]) h K = brV x9 (kCode env 72 false inv k (cp c72 420) (act 19 [(0, x0), (1, x1), (7, x7), (8, x8), (9, x9)]) h K) (kCode env 72 false inv k (cp c72 421) (act 19 [(0, x0), (1, x1), (7, x7), (8, x8), (9, x9)]) h K) := kq_cond
theorem r72_3  : kCode env 72 false inv k (cp c72 1688) (act 19 [(0, x0), (1, x1), (7, x7), (8, x8), (9, x9)]) h K =
    K .normal (act 19 [(0, x0), (1, x1), (5, x8), (7, x7), (8, x8)]) h := kq_reg
theorem r72_4  : kCode env 72 false inv k (cp c72 3378) (act 19 [(0, x0), (1, x1), (5, x5), (7, x7), (8, x8)]) h K =
    bnd (pIndexAddr Try.prog 22 x0 x5) fun x14 =>
    bnd (pLoad Try.prog 42 x14 h) fun x15 =>
    bnd (callV inv x1 #[x15] h) fun x16 =>
    K .normal (act 19 [(0, x0), (1, x1), (5, x5), (7, x7), (8, x8), (16, x16.1)]) x16.2 := kq_reg
theorem b72_rrllrrllrlr  : kCode env 72 false inv k (cp c72 3379) (act 19 [(0, x0), (1, x1), (5, x5), (7, x7), (8, x8), (16, x16)]) h K = brV x16 (kCode env 72 false inv k (cp c72 6758) (act 19 [(0, x0), (1, x1), (5, x5), (7, x7), (8, x8), (16, x16)]) h K) (kCode env 72 false inv k (cp c72 6759) (act 19 [(0, x0), (1, x1), (5, x5), (7, x7), (8, x8), (16, x16)]) h K) := kq_cond
theorem r72_5  : kCode env 72 false inv k (cp c72 13516) (act 19 [(0, x0), (1, x1), (5, x5), (7, x7), (8, x8), (16, x16)]) h K =
    K .normal (act 19 [(4, x5)]) h := kq_reg
theorem r72_6  : kCode env 72 false inv k (cp c72 423) (act 19 [(0, x0), (1, x1), (5, x5), (7, x7), (8, x8), (16, x16)]) h K =
    bnd (pBin Try.prog .add 3 (.tmp 8) (.const (.int .i64 1)) x8 (.int .i64 1)) fun x18 =>
    K .normal (act 19 [(0, x0), (1, x1), (7, x7), (8, x18)]) h := kq_reg
noncomputable def F72_lrlr {β : Type} (inv : Inv) (k : Nat) : Nat → Value → Value → Value → Value → AH → (Value → Value → Value → Value → Value → AH → Option β) → (Value → AH → Option β) → Option β
  | 0, _, _, _, _, _, _, _ => none
  | j + 1, x0, x1, x7, x8, h, ke0, kr =>
    bnd (pBin Try.prog .lss 3 (.tmp 8) (.tmp 7) x8 x7) fun x9 =>
    brV x9
    (bnd (pIndexAddr Try.prog 22 x0 x8) fun x14 =>
    bnd (pLoad Try.prog 42 x14 h) fun x15 =>
    bnd (callV inv x1 #[x15] h) fun x16 =>
    brV x16.1
    (kr x8 x16.2)
    (bnd (pBin Try.prog .add 3 (.tmp 8) (.const (.int .i64 1)) x8 (.int .i64 1)) fun x18 =>
    F72_lrlr inv k j x0 x1 x7 x18 x16.2 ke0 kr))
    (ke0 x0 x1 x7 x8 x9 h)
theorem F72_lrlr_j (j : Nat) : kLoop (kCode env 72 false inv k (cp c72 52)) j (act 19 [(0, x0), (1, x1), (7, x7), (8, x8)]) h K = F72_lrlr inv k j x0 x1 x7 x8 h (fun y0 y1 y7 y8 y9 h => K (.exit 0) (act 19 [(0, y0), (1, y1), (7, y7), (8, y8), (9, y9)]) h) (fun y4 h => K .ret (act 19 [(4, y4)]) h) := by
      induction j generalizing x0 x1 x7 x8 h with
      | zero => rfl
      | succ j ih =>
        unfold F72_lrlr
        simp only [kLoop, kq_seq c72 52, r72_2, kq_seq c72 105, b72_lrllrlr, kq_skip c72 420, kq_seq c72 211, kq_block c72 422 1, kq_seq c72 844, r72_3, kq_seq c72 1689, r72_4, b72_rrllrrllrlr, kq_seq c72 6758, r72_5, kq_ret c72 13517, kq_skip c72 6759, r72_6, kq_exit c72 421 0, ih, reduceIte, reduceCtorEq, XE.exit.injEq, Nat.reduceEqDiff, Nat.reduceMul, Nat.reduceAdd] <;> kernel_rfl
theorem F72_lrlr_eq  : kCode env 72 false inv k (cp c72 26) (act 19 [(0, x0), (1, x1), (7, x7), (8, x8)]) h K = F72_lrlr inv k k x0 x1 x7 x8 h (fun y0 y1 y7 y8 y9 h => K (.exit 0) (act 19 [(0, y0), (1, y1), (7, y7), (8, y8), (9, y9)]) h) (fun y4 h => K .ret (act 19 [(4, y4)]) h) := kq_loop (F72_lrlr_j k)
theorem r72_7  : kCode env 72 false inv k (cp c72 14) (act 19 [(0, x0), (1, x1), (7, x7), (8, x8), (9, x9)]) h K =
    K .normal (act 19 [(4, (.int .i64 (-1)))]) h := kq_reg
theorem res72_0 : resOfFn env.P 72 .ret (act 19 [(4, x4)]) h = some (x4, h) := kq_res
/-- slices.IndexFunc[[]shadowbook/api.Col,shadowbook/api.Col] -/
noncomputable def F72 (inv : Inv) (k : Nat) (x0 x1 : Value) (h : AH) : Option (Value × AH) :=
    bnd (pLen Try.prog #[22] x0 h) fun x7 =>
    F72_lrlr inv k k x0 x1 x7 (.int .i64 0) h
    (fun y0 y1 y7 y8 y9 h =>
    some ((.int .i64 (-1)), h))
    (fun y4 h_1 =>
    some (y4, h_1))
theorem F72_eq : eFun env k inv 72 #[x0, x1] h = F72 inv k x0 x1 h := by
      refine (kq_fun (a := act 19 [(0, x0), (1, x1)]) (c := cp c72 1)).trans ?_
      unfold F72
      simp only [kq_seq c72 1, r72_0, kq_seq c72 3, kq_seq c72 6, r72_1, kq_block c72 13 0, F72_lrlr_eq, kq_seq c72 7, r72_7, kq_ret c72 15, res72_0, reduceIte, reduceCtorEq, XE.exit.injEq, Nat.reduceEqDiff, Nat.reduceMul, Nat.reduceAdd] <;> kernel_rfl
theorem F72_call : eInv env (k + 1) (.func 72) #[] #[x0, x1] h = F72 (eInv env k) k x0 x1 h := kq_inv F72_eq
noncomputable def c109 : Code := codeOf Try.prog 109
theorem r109_0  : kCode env 109 false inv k (cp c109 1) (act 11 [(0, x0), (1, x1)]) h K =
    bnd (pNilCheck Try.prog x0) fun x5 =>
    bnd (pFieldAddr Try.prog 111 x5 0) fun x6 =>
    bnd (pLoad Try.prog 2 x6 h) fun x7 =>
    bnd (pBin Try.prog .add 2 (.tmp 7) (.const (.int .i64 1)) x7 (.int .i64 1)) fun x8 =>
    bnd (pNilCheck Try.prog x0) fun x9 =>
    bnd (pFieldAddr Try.prog 111 x9 0) fun x10 =>
    bnd (kSt (pStore Try.prog 2 x10 x8 h)) fun u =>
    K .normal (act 11 []) u.2 := kq_reg
theorem res109_0 : resOfFn env.P 109 .normal (act 11 []) h = some (.tuple #[], h) := kq_res
/-- (*shadowbook/agg.count).add -/
noncomputable def F109 (inv : Inv) (k : Nat) (x0 x1 : Value) (h : AH) : Option (Value × AH) :=
    bnd (pNilCheck Try.prog x0) fun x5 =>
    bnd (pFieldAddr Try.prog 111 x5 0) fun x6 =>
    bnd (pLoad Try.prog 2 x6 h) fun x7 =>
    bnd (pBin Try.prog .add 2 (.tmp 7) (.const (.int .i64 1)) x7 (.int .i64 1)) fun x8 =>
    bnd (pNilCheck Try.prog x0) fun x9 =>
    bnd (pFieldAddr Try.prog 111 x9 0) fun x10 =>
    bnd (kSt (pStore Try.prog 2 x10 x8 h)) fun u =>
    some (.tuple #[], u.2)
theorem F109_eq : eFun env k inv 109 #[x0, x1] h = F109 inv k x0 x1 h := by
      refine (kq_fun (a := act 11 [(0, x0), (1, x1)]) (c := cp c109 1)).trans ?_
      unfold F109
      simp only [r109_0, res109_0, reduceIte, reduceCtorEq, XE.exit.injEq, Nat.reduceEqDiff, Nat.reduceMul, Nat.reduceAdd] <;> kernel_rfl
theorem F109_call : eInv env (k + 1) (.func 109) #[] #[x0, x1] h = F109 (eInv env k) k x0 x1 h := kq_inv F109_eq
noncomputable def c111 : Code := codeOf Try.prog 111
theorem r111_0  : kCode env 111 false inv k (cp c111 2) (act 8 [(0, x0)]) h K =
    bnd (pAlloc Try.prog 37 h) fun x2 =>
    K .normal (act 8 [(0, x0), (2, x2.1)]) x2.2 := kq_reg
theorem r111_1  : kCode env 111 false inv k (cp c111 6) (act 8 [(0, x0), (2, x2)]) h K =
    bnd (pNilCheck Try.prog x0) fun x4 =>
    bnd (pFieldAddr Try.prog 111 x4 0) fun x5 =>
    bnd (pLoad Try.prog 2 x5 h) fun x6 =>
    bnd (pBuild Try.prog 37 #[(0, (.int .i64 1)), (1, x6)]) fun x7 =>
    bnd (kSt (pStore Try.prog 37 x2 x7 h)) fun u =>
    K .normal (act 8 [(2, x2)]) u.2 := kq_reg
theorem res111_0 : resOfFn env.P 111 .ret (act 8 [(2, x2)]) h = bnd (pLoad Try.prog 37 x2 h) fun q0 =>
    some (q0, h) := kq_res
/-- (*shadowbook/agg.count).told -/
noncomputable def F111 (inv : Inv) (k : Nat) (x0 : Value) (h : AH) : Option (Value × AH) :=
    bnd (pAlloc Try.prog 37 h) fun x2 =>
    bnd (pNilCheck Try.prog x0) fun x4 =>
    bnd (pFieldAddr Try.prog 111 x4 0) fun x5 =>
    bnd (pLoad Try.prog 2 x5 x2.2) fun x6 =>
    bnd (pBuild Try.prog 37 #[(0, (.int .i64 1)), (1, x6)]) fun x7 =>
    bnd (kSt (pStore Try.prog 37 x2.1 x7 x2.2)) fun u =>
    bnd (pLoad Try.prog 37 x2.1 u.2) fun q0 =>
    some (q0, u.2)
theorem F111_eq : eFun env k inv 111 #[x0] h = F111 inv k x0 h := by
      refine (kq_fun (a := act 8 [(0, x0)]) (c := cp c111 1)).trans ?_
      unfold F111
      simp only [kq_seq c111 1, r111_0, kq_seq c111 3, r111_1, kq_ret c111 7, res111_0, reduceIte, reduceCtorEq, XE.exit.injEq, Nat.reduceEqDiff, Nat.reduceMul, Nat.reduceAdd] <;> kernel_rfl
theorem F111_call : eInv env (k + 1) (.func 111) #[] #[x0] h = F111 (eInv env k) k x0 h := kq_inv F111_eq
noncomputable def c112 : Code := codeOf Try.prog 112
theorem r112_0  : kCode env 112 false inv k (cp c112 1) (act 13 [(0, x0), (1, x1)]) h K =
    bnd (pNilCheck Try.prog x0) fun x7 =>
    bnd (pFieldAddr Try.prog 114 x7 0) fun x8 =>
    bnd (pLoad Try.prog 3 x8 h) fun x9 =>
    bnd (pIndexAddr Try.prog 34 x1 x9) fun x10 =>
    bnd (pLoad Try.prog 37 x10 h) fun x11 =>
    bnd (inv (.func 115) #[] #[x0, x11] h) fun x12 =>
    K .normal (act 13 []) x12.2 := kq_reg
theorem res112_0 : resOfFn env.P 112 .normal (act 13 []) h = some (.tuple #[], h) := kq_res
/-- (*shadowbook/agg.sum).add -/
noncomputable def F112 (inv : Inv) (k : Nat) (x0 x1 : Value) (h : AH) : Option (Value × AH) :=
    bnd (pNilCheck Try.prog x0) fun x7 =>
    bnd (pFieldAddr Try.prog 114 x7 0) fun x8 =>
    bnd (pLoad Try.prog 3 x8 h) fun x9 =>
    bnd (pIndexAddr Try.prog 34 x1 x9) fun x10 =>
    bnd (pLoad Try.prog 37 x10 h) fun x11 =>
    bnd (inv (.func 115) #[] #[x0, x11] h) fun x12 =>
    some (.tuple #[], x12.2)
theorem F112_eq : eFun env k inv 112 #[x0, x1] h = F112 inv k x0 x1 h := by
      refine (kq_fun (a := act 13 [(0, x0), (1, x1)]) (c := cp c112 1)).trans ?_
      unfold F112
      simp only [r112_0, res112_0, reduceIte, reduceCtorEq, XE.exit.injEq, Nat.reduceEqDiff, Nat.reduceMul, Nat.reduceAdd] <;> kernel_rfl
theorem F112_call : eInv env (k + 1) (.func 112) #[] #[x0, x1] h = F112 (eInv env k) k x0 x1 h := kq_inv F112_eq
noncomputable def c114 : Code := codeOf Try.prog 114
theorem r114_0  : kCode env 114 false inv k (cp c114 2) (act 7 [(0, x0)]) h K =
    bnd (pAlloc Try.prog 37 h) fun x2 =>
    K .normal (act 7 [(0, x0), (2, x2.1)]) x2.2 := kq_reg
theorem r114_1  : kCode env 114 false inv k (cp c114 6) (act 7 [(0, x0), (2, x2)]) h K =
    bnd (pNilCheck Try.prog x0) fun x4 =>
    bnd (pFieldAddr Try.prog 114 x4 1) fun x5 =>
    bnd (pLoad Try.prog 37 x5 h) fun x6 =>
    bnd (kSt (pStore Try.prog 37 x2 x6 h)) fun u =>
    K .normal (act 7 [(2, x2)]) u.2 := kq_reg
theorem res114_0 : resOfFn env.P 114 .ret (act 7 [(2, x2)]) h = bnd (pLoad Try.prog 37 x2 h) fun q0 =>
    some (q0, h) := kq_res
/-- (*shadowbook/agg.sum).told -/
noncomputable def F114 (inv : Inv) (k : Nat) (x0 : Value) (h : AH) : Option (Value × AH) :=
    bnd (pAlloc Try.prog 37 h) fun x2 =>
    bnd (pNilCheck Try.prog x0) fun x4 =>
    bnd (pFieldAddr Try.prog 114 x4 1) fun x5 =>
    bnd (pLoad Try.prog 37 x5 x2.2) fun x6 =>
    bnd (kSt (pStore Try.prog 37 x2.1 x6 x2.2)) fun u =>
    bnd (pLoad Try.prog 37 x2.1 u.2) fun q0 =>
    some (q0, u.2)
theorem F114_eq : eFun env k inv 114 #[x0] h = F114 inv k x0 h := by
      refine (kq_fun (a := act 7 [(0, x0)]) (c := cp c114 1)).trans ?_
      unfold F114
      simp only [kq_seq c114 1, r114_0, kq_seq c114 3, r114_1, kq_ret c114 7, res114_0, reduceIte, reduceCtorEq, XE.exit.injEq, Nat.reduceEqDiff, Nat.reduceMul, Nat.reduceAdd] <;> kernel_rfl
theorem F114_call : eInv env (k + 1) (.func 114) #[] #[x0] h = F114 (eInv env k) k x0 h := kq_inv F114_eq
noncomputable def c115 : Code := codeOf Try.prog 115
theorem r115_0  : kCode env 115 false inv k (cp c115 2) (act 25 [(0, x0), (1, x1)]) h K =
    bnd (pBox Try.prog 37 x1 h) fun x3 =>
    K .normal (act 25 [(0, x0), (3, x3.1)]) x3.2 := kq_reg
theorem r115_1  : kCode env 115 false inv k (cp c115 6) (act 25 [(0, x0), (3, x3)]) h K =
    bnd (pFieldAddr Try.prog 37 x3 0) fun x4 =>
    bnd (pLoad Try.prog 3 x4 h) fun x5 =>
    bnd (pBin Try.prog .neq 3 (.tmp 5) (.const (.int .i64 0)) x5 (.int .i64 0)) fun x6 =>
    K .normal (act 25 [(0, x0), (3, x3), (6, x6)]) h := kq_reg
theorem b115_rr  : kCode env 115 false inv k (cp c115 7) (act 25 [(0, x0), (3, x3), (6, x6)]) h K = brV x6 (kCode env 115 false inv k (cp c115 14) (act 25 [(0, x0), (3, x3), (6, x6)]) h K) (kCode env 115 false inv k (cp c115 15) (act 25 [(0, x0), (3, x3), (6, x6)]) h K) := kq_cond
noncomputable abbrev G115_2 {β : Type} (inv : Inv) (x0 x3 : Value) (h : AH) (K : AH → Option β) : Option β :=
    bnd (pFieldAddr Try.prog 37 x3 0) fun x9 =>
    bnd (pLoad Try.prog 3 x9 h) fun x10 =>
    bnd (pNilCheck Try.prog x0) fun x12 =>
    bnd (pFieldAddr Try.prog 114 x12 1) fun x13 =>
    bnd (pFieldAddr Try.prog 37 x13 1) fun x14 =>
    bnd (pLoad Try.prog 2 x14 h) fun x15 =>
    bnd (pFieldAddr Try.prog 37 x3 1) fun x16 =>
    bnd (pLoad Try.prog 2 x16 h) fun x17 =>
    bnd (pBin Try.prog .add 2 (.tmp 15) (.tmp 17) x15 x17) fun x18 =>
    bnd (pNilCheck Try.prog x0) fun x19 =>
    bnd (pFieldAddr Try.prog 114 x19 1) fun x20 =>
    bnd (pFieldAddr Try.prog 37 x20 0) fun x21 =>
    bnd (kSt (pStore Try.prog 3 x21 x10 h)) fun u =>
    bnd (pNilCheck Try.prog x0) fun x22 =>
    bnd (pFieldAddr Try.prog 114 x22 1) fun x23 =>
    bnd (pFieldAddr Try.prog 37 x23 1) fun x24 =>
    bnd (kSt (pStore Try.prog 2 x24 x18 u.2)) fun u_1 =>
    chkK ((!true || !true || (sameO (pLoad Try.prog 2 x16 h) x17 && sameO (pLoad Try.prog 2 x16 u.2) x17)) && true) <|
    K u_1.2
theorem r115_2  : kCode env 115 false inv k (cp c115 14) (act 25 [(0, x0), (3, x3), (6, x6)]) h K =
    G115_2 inv x0 x3 h fun  h => K .normal (act 25 []) h := kq_draw
theorem res115_0 : resOfFn env.P 115 .normal (act 25 []) h = some (.tuple #[], h) := kq_res
theorem res115_1 : resOfFn env.P 115 .normal (act 25 [(0, x0), (3, x3), (6, x6)]) h = some (.tuple #[], h) := kq_res
/-- (*shadowbook/agg.sum).put -/
noncomputable def F115 (inv : Inv) (k : Nat) (x0 x1 : Value) (h : AH) : Option (Value × AH) :=
    bnd (pBox Try.prog 37 x1 h) fun x3 =>
    bnd (pFieldAddr Try.prog 37 x3.1 0) fun x4 =>
    bnd (pLoad Try.prog 3 x4 x3.2) fun x5 =>
    bnd (pBin Try.prog .neq 3 (.tmp 5) (.const (.int .i64 0)) x5 (.int .i64 0)) fun x6 =>
    brV x6
    (G115_2 inv x0 x3.1 x3.2 fun  h =>
    some (.tuple #[], h))
    (some (.tuple #[], x3.2))
theorem F115_eq : eFun env k inv 115 #[x0, x1] h = F115 inv k x0 x1 h := by
      refine (kq_fun (a := act 25 [(0, x0), (1, x1)]) (c := cp c115 1)).trans ?_
      unfold F115
      simp only [kq_seq c115 1, r115_0, kq_seq c115 3, r115_1, b115_rr, r115_2, res115_0, kq_skip c115 15, res115_1, reduceIte, reduceCtorEq, XE.exit.injEq, Nat.reduceEqDiff, Nat.reduceMul, Nat.reduceAdd] <;> kernel_rfl
theorem F115_call : eInv env (k + 1) (.func 115) #[] #[x0, x1] h = F115 (eInv env k) k x0 x1 h := kq_inv F115_eq
noncomputable def c116 : Code := codeOf Try.prog 116
theorem r116_0  : kCode env 116 false inv k (cp c116 1) (act 13 [(0, x0), (1, x1)]) h K =
    bnd (pNilCheck Try.prog x0) fun x7 =>
    bnd (pFieldAddr Try.prog 117 x7 0) fun x8 =>
    bnd (pLoad Try.prog 3 x8 h) fun x9 =>
    bnd (pIndexAddr Try.prog 34 x1 x9) fun x10 =>
    bnd (pLoad Try.prog 37 x10 h) fun x11 =>
    bnd (inv (.func 119) #[] #[x0, x11] h) fun x12 =>
    K .normal (act 13 []) x12.2 := kq_reg
theorem res116_0 : resOfFn env.P 116 .normal (act 13 []) h = some (.tuple #[], h) := kq_res
/-- (*shadowbook/agg.most).add -/
noncomputable def F116 (inv : Inv) (k : Nat) (x0 x1 : Value) (h : AH) : Option (Value × AH) :=
    bnd (pNilCheck Try.prog x0) fun x7 =>
    bnd (pFieldAddr Try.prog 117 x7 0) fun x8 =>
    bnd (pLoad Try.prog 3 x8 h) fun x9 =>
    bnd (pIndexAddr Try.prog 34 x1 x9) fun x10 =>
    bnd (pLoad Try.prog 37 x10 h) fun x11 =>
    bnd (inv (.func 119) #[] #[x0, x11] h) fun x12 =>
    some (.tuple #[], x12.2)
theorem F116_eq : eFun env k inv 116 #[x0, x1] h = F116 inv k x0 x1 h := by
      refine (kq_fun (a := act 13 [(0, x0), (1, x1)]) (c := cp c116 1)).trans ?_
      unfold F116
      simp only [r116_0, res116_0, reduceIte, reduceCtorEq, XE.exit.injEq, Nat.reduceEqDiff, Nat.reduceMul, Nat.reduceAdd] <;> kernel_rfl
theorem F116_call : eInv env (k + 1) (.func 116) #[] #[x0, x1] h = F116 (eInv env k) k x0 x1 h := kq_inv F116_eq
noncomputable def c118 : Code := codeOf Try.prog 118
theorem r118_0  : kCode env 118 false inv k (cp c118 2) (act 7 [(0, x0)]) h K =
    bnd (pAlloc Try.prog 37 h) fun x2 =>
    K .normal (act 7 [(0, x0), (2, x2.1)]) x2.2 := kq_reg
theorem r118_1  : kCode env 118 false inv k (cp c118 6) (act 7 [(0, x0), (2, x2)]) h K =
    bnd (pNilCheck Try.prog x0) fun x4 =>
    bnd (pFieldAddr Try.prog 117 x4 2) fun x5 =>
    bnd (pLoad Try.prog 37 x5 h) fun x6 =>
    bnd (kSt (pStore Try.prog 37 x2 x6 h)) fun u =>
    K .normal (act 7 [(2, x2)]) u.2 := kq_reg
theorem res118_0 : resOfFn env.P 118 .ret (act 7 [(2, x2)]) h = bnd (pLoad Try.prog 37 x2 h) fun q0 =>
    some (q0, h) := kq_res
/-- (*shadowbook/agg.most).told -/
noncomputable def F118 (inv : Inv) (k : Nat) (x0 : Value) (h : AH) : Option (Value × AH) :=
    bnd (pAlloc Try.prog 37 h) fun x2 =>
    bnd (pNilCheck Try.prog x0) fun x4 =>
    bnd (pFieldAddr Try.prog 117 x4 2) fun x5 =>
    bnd (pLoad Try.prog 37 x5 x2.2) fun x6 =>
    bnd (kSt (pStore Try.prog 37 x2.1 x6 x2.2)) fun u =>
    bnd (pLoad Try.prog 37 x2.1 u.2) fun q0 =>
    some (q0, u.2)
theorem F118_eq : eFun env k inv 118 #[x0] h = F118 inv k x0 h := by
      refine (kq_fun (a := act 7 [(0, x0)]) (c := cp c118 1)).trans ?_
      unfold F118
      simp only [kq_seq c118 1, r118_0, kq_seq c118 3, r118_1, kq_ret c118 7, res118_0, reduceIte, reduceCtorEq, XE.exit.injEq, Nat.reduceEqDiff, Nat.reduceMul, Nat.reduceAdd] <;> kernel_rfl
theorem F118_call : eInv env (k + 1) (.func 118) #[] #[x0] h = F118 (eInv env k) k x0 h := kq_inv F118_eq
noncomputable def c119 : Code := codeOf Try.prog 119
theorem r119_0  : kCode env 119 false inv k (cp c119 2) (act 33 [(0, x0), (1, x1)]) h K =
    bnd (pBox Try.prog 37 x1 h) fun x3 =>
    K .normal (act 33 [(0, x0), (3, x3.1)]) x3.2 := kq_reg
noncomputable abbrev G119_1 {β : Type} (inv : Inv) (x0 x3 : Value) (h : AH) (K : Value → AH → Option β) : Option β :=
    bnd (pFieldAddr Try.prog 37 x3 0) fun x4 =>
    bnd (pLoad Try.prog 3 x4 h) fun x5 =>
    bnd (pBin Try.prog .neq 3 (.tmp 5) (.const (.int .i64 0)) x5 (.int .i64 0)) fun x6 =>
    bnd (gd3 (some x6) true h (some (x0, h))) fun x8 =>
    bnd (gd3 (some x6) true x8.2.1 (lt (pNilCheck Try.prog x8.1) x8.2.1)) fun x9 =>
    bnd (gd3 (some x6) true x9.2.1 (lt (pFieldAddr Try.prog 117 x9.1 2) x9.2.1)) fun x10 =>
    bnd (gd3 (some x6) true x10.2.1 (lt (pFieldAddr Try.prog 37 x10.1 0) x10.2.1)) fun x11 =>
    bnd (gd3 (some x6) true x11.2.1 (lt (pLoad Try.prog 3 x11.1 x11.2.1) x11.2.1)) fun x12 =>
    bnd (gd3 (some x6) true x12.2.1 (lt (pBin Try.prog .eql 3 (.tmp 12) (.const (.int .i64 0)) x12.1 (.int .i64 0)) x12.2.1)) fun x13 =>
    bnd (gd3 (some x6) true x13.2.1 (some (x13.1, x13.2.1))) fun x14 =>
    bnd (gd3 (some x14.1) false x14.2.1 (some (x0, x14.2.1))) fun x15 =>
    bnd (gd3 (some x14.1) false x15.2.1 (lt (pNilCheck Try.prog x15.1) x15.2.1)) fun x16 =>
    bnd (gd3 (some x14.1) false x16.2.1 (lt (pFieldAddr Try.prog 117 x16.1 1) x16.2.1)) fun x17 =>
    bnd (gd3 (some x14.1) false x17.2.1 (lt (pLoad Try.prog 3 x17.1 x17.2.1) x17.2.1)) fun x18 =>
    bnd (gd3 (some x14.1) false x18.2.1 (lt (pLoad Try.prog 37 x3 x18.2.1) x18.2.1)) fun x19 =>
    bnd (gd3 (some x14.1) false x19.2.1 (some (x0, x19.2.1))) fun x20 =>
    bnd (gd3 (some x14.1) false x20.2.1 (lt (pNilCheck Try.prog x20.1) x20.2.1)) fun x21 =>
    bnd (gd3 (some x14.1) false x21.2.1 (lt (pFieldAddr Try.prog 117 x21.1 2) x21.2.1)) fun x22 =>
    bnd (gd3 (some x14.1) false x22.2.1 (lt (pLoad Try.prog 37 x22.1 x22.2.1) x22.2.1)) fun x23 =>
    bnd (gd3 (some x14.1) false x23.2.1 (inv (.func 120) #[] #[x19.1, x23.1] x23.2.1)) fun x24 =>
    bnd (gd3 (some x14.1) false x24.2.1 (lt (pBin Try.prog .mul 3 (.tmp 18) (.tmp 24) x18.1 x24.1) x24.2.1)) fun x25 =>
    bnd (gd3 (some x14.1) false x25.2.1 (lt (pBin Try.prog .gtr 3 (.tmp 25) (.const (.int .i64 0)) x25.1 (.int .i64 0)) x25.2.1)) fun x26 =>
    bnd (gd3 (some x6) true x26.2.1 (lt (pickV x14.1 (.bool true) x26.1) x26.2.1)) fun x27 =>
    bnd (pickV x6 x27.1 (.bool false)) fun x28 =>
    chkK ((!x18.2.2 || !x24.2.2 || (sameO (pLoad Try.prog 3 x17.1 x23.2.1) x18.1 && sameO (pLoad Try.prog 3 x17.1 x24.2.1) x18.1)) && true) <|
    K (x28) x27.2.1
theorem r119_1  : kCode env 119 false inv k (cp c119 6) (act 33 [(0, x0), (3, x3)]) h K =
    G119_1 inv x0 x3 h fun y28 h => K .normal (act 33 [(0, x0), (3, x3), (28, y28)]) h := kq_draw
theorem b119_rr  : kCode env 119 false inv k (cp c119 7) (act 33 [(0, x0), (3, x3), (28, x28)]) h K = brV x28 (kCode env 119 false inv k (cp c119 14) (act 33 [(0, x0), (3, x3), (28, x28)]) h K) (kCode env 119 false inv k (cp c119 15) (act 33 [(0, x0), (3, x3), (28, x28)]) h K) := kq_cond
theorem r119_2  : kCode env 119 false inv k (cp c119 14) (act 33 [(0, x0), (3, x3), (28, x28)]) h K =
    bnd (pLoad Try.prog 37 x3 h) fun x30 =>
    bnd (pNilCheck Try.prog x0) fun x31 =>
    bnd (pFieldAddr Try.prog 117 x31 2) fun x32 =>
    bnd (kSt (pStore Try.prog 37 x32 x30 h)) fun u =>
    K .normal (act 33 []) u.2 := kq_reg
theorem res119_0 : resOfFn env.P 119 .normal (act 33 []) h = some (.tuple #[], h) := kq_res
theorem res119_1 : resOfFn env.P 119 .normal (act 33 [(0, x0), (3, x3), (28, x28)]) h = some (.tuple #[], h) := kq_res
/-- (*shadowbook/agg.most).put -/
noncomputable def F119 (inv : Inv) (k : Nat) (x0 x1 : Value) (h : AH) : Option (Value × AH) :=
    bnd (pBox Try.prog 37 x1 h) fun x3 =>
    G119_1 inv x0 x3.1 x3.2 fun y28 h =>
    brV y28
    (bnd (pLoad Try.prog 37 x3.1 h) fun x30 =>
    bnd (pNilCheck Try.prog x0) fun x31 =>
    bnd (pFieldAddr Try.prog 117 x31 2) fun x32 =>
    bnd (kSt (pStore Try.prog 37 x32 x30 h)) fun u =>
    some (.tuple #[], u.2))
    (some (.tuple #[], h))
theorem F119_eq : eFun env k inv 119 #[x0, x1] h = F119 inv k x0 x1 h := by
      refine (kq_fun (a := act 33 [(0, x0), (1, x1)]) (c := cp c119 1)).trans ?_
      unfold F119
      simp only [kq_seq c119 1, r119_0, kq_seq c119 3, r119_1, b119_rr, r119_2, res119_0, kq_skip c119 15, res119_1, reduceIte, reduceCtorEq, XE.exit.injEq, Nat.reduceEqDiff, Nat.reduceMul, Nat.reduceAdd] <;> kernel_rfl
theorem F119_call : eInv env (k + 1) (.func 119) #[] #[x0, x1] h = F119 (eInv env k) k x0 x1 h := kq_inv F119_eq
noncomputable def c120 : Code := codeOf Try.prog 120
theorem r120_0  : kCode env 120 false inv k (cp c120 2) (act 22 [(0, x0), (1, x1)]) h K =
    bnd (pBox Try.prog 37 x0 h) fun x2 =>
    bnd (pBox Try.prog 37 x1 x2.2) fun x3 =>
    K .normal (act 22 [(2, x2.1), (3, x3.1)]) x3.2 := kq_reg
noncomputable abbrev G120_1 {β : Type} (inv : Inv) (x2 x3 : Value) (h : AH) (K : Value → AH → Option β) : Option β :=
    bnd (pFieldAddr Try.prog 37 x2 0) fun x5 =>
    bnd (pLoad Try.prog 3 x5 h) fun x6 =>
    bnd (pFieldAddr Try.prog 37 x3 0) fun x7 =>
    bnd (pLoad Try.prog 3 x7 h) fun x8 =>
    bnd (inv (.func 122) #[] #[x6, x8] h) fun x9 =>
    bnd (pFieldAddr Try.prog 37 x2 1) fun x10 =>
    bnd (pLoad Try.prog 2 x10 x9.2) fun x11 =>
    bnd (pFieldAddr Try.prog 37 x3 1) fun x12 =>
    bnd (pLoad Try.prog 2 x12 x9.2) fun x13 =>
    bnd (inv (.func 123) #[] #[x11, x13] x9.2) fun x14 =>
    bnd (pFieldAddr Try.prog 37 x2 2) fun x15 =>
    bnd (pLoad Try.prog 9 x15 x14.2) fun x16 =>
    bnd (pFieldAddr Try.prog 37 x3 2) fun x17 =>
    bnd (pLoad Try.prog 9 x17 x14.2) fun x18 =>
    bnd (inv (.func 124) #[] #[x16, x18] x14.2) fun x19 =>
    bnd (pBuildSlice Try.prog 24 3 #[(0, x9.1), (1, x14.1), (2, x19.1)] x19.2) fun x20 =>
    bnd (inv (.func 121) #[] #[x20.1] x20.2) fun x21 =>
    chkK ((!true || !true || (sameO (pLoad Try.prog 2 x10 h) x11 && sameO (pLoad Try.prog 2 x10 x9.2) x11)) && ((!true || !true || (sameO (pLoad Try.prog 2 x12 h) x13 && sameO (pLoad Try.prog 2 x12 x9.2) x13)) && ((!true || !true || (sameO (pLoad Try.prog 9 x15 h) x16 && sameO (pLoad Try.prog 9 x15 x9.2) x16)) && ((!true || !true || (sameO (pLoad Try.prog 9 x15 x9.2) x16 && sameO (pLoad Try.prog 9 x15 x14.2) x16)) && ((!true || !true || (sameO (pLoad Try.prog 9 x17 h) x18 && sameO (pLoad Try.prog 9 x17 x9.2) x18)) && ((!true || !true || (sameO (pLoad Try.prog 9 x17 x9.2) x18 && sameO (pLoad Try.prog 9 x17 x14.2) x18)) && true)))))) <|
    K (x21.1) x21.2
theorem r120_1  : kCode env 120 false inv k (cp c120 6) (act 22 [(2, x2), (3, x3)]) h K =
    G120_1 inv x2 x3 h fun y4 h => K .normal (act 22 [(4, y4)]) h := kq_draw
theorem res120_0 : resOfFn env.P 120 .ret (act 22 [(4, x4)]) h = some (x4, h) := kq_res
/-- shadowbook/value.Compare -/
noncomputable def F120 (inv : Inv) (k : Nat) (x0 x1 : Value) (h : AH) : Option (Value × AH) :=
    bnd (pBox Try.prog 37 x0 h) fun x2 =>
    bnd (pBox Try.prog 37 x1 x2.2) fun x3 =>
    G120_1 inv x2.1 x3.1 x3.2 fun y4 h =>
    some (y4, h)
theorem F120_eq : eFun env k inv 120 #[x0, x1] h = F120 inv k x0 x1 h := by
      refine (kq_fun (a := act 22 [(0, x0), (1, x1)]) (c := cp c120 1)).trans ?_
      unfold F120
      simp only [kq_seq c120 1, r120_0, kq_seq c120 3, r120_1, kq_ret c120 7, res120_0, reduceIte, reduceCtorEq, XE.exit.injEq, Nat.reduceEqDiff, Nat.reduceMul, Nat.reduceAdd] <;> kernel_rfl
theorem F120_call : eInv env (k + 1) (.func 120) #[] #[x0, x1] h = F120 (eInv env k) k x0 x1 h := kq_inv F120_eq
noncomputable def c121 : Code := codeOf Try.prog 121
theorem r121_0  : kCode env 121 false inv k (cp c121 2) (act 18 [(0, x0)]) h K =
    K .normal (act 18 [(0, x0)]) h := kq_reg
theorem r121_1  : kCode env 121 false inv k (cp c121 6) (act 18 [(0, x0)]) h K =
    K .normal (act 18 [(0, x0), (3, (.int .i64 0))]) h := kq_reg
theorem r121_2  : kCode env 121 false inv k (cp c121 28) (act 18 [(0, x0), (3, x3)]) h K =
    bnd (pLen Try.prog #[24] x0 h) fun x7 =>
    K .normal (act 18 [(3, x3), (6, x0), (7, x7), (8, (.int .i64 0))]) h := kq_reg
theorem r121_3  : kCode env 121 false inv k (cp c121 232) (act 18 [(3, x3), (6, x6), (7, x7), (8, x8)]) h K =
    bnd (pBin Try.prog .lss 3 (.tmp 8) (.tmp 7) x8 x7) fun x9 =>
    K .normal (act 18 [(3, x3), (6, x6), (7, x7), (8, x8), (9, x9)]) h := kq_reg
theorem b121_lrllrlrr  : kCode env 121 false inv k (cp c121 466) (act 18 [(3, x3), (6, x6), (7, x7), (8, x8), (9, x9)]) h K = brV x9 (kCode env 121 false inv k (cp c121 932) (act 18 [(3, x3), (6, x6), (7, x7), (8, x8), (9, x9)]) h K) (kCode env 121 false inv k (cp c121 933) (act 18 [(3, x3), (6, x6), (7, x7), (8, x8), (9, x9)]) h K) := kq_cond
theorem r121_4  : kCode env 121 false inv k (cp c121 3736) (act 18 [(3, x3), (6, x6), (7, x7), (8, x8), (9, x9)]) h K =
    bnd (pIndexAddr Try.prog 24 x6 x8) fun x10 =>
    bnd (pLoad Try.prog 3 x10 h) fun x11 =>
    K .normal (act 18 [(3, x3), (5, x11), (6, x6), (7, x7), (8, x8)]) h := kq_reg
theorem r121_5  : kCode env 121 false inv k (cp c121 7474) (act 18 [(3, x3), (5, x5), (6, x6), (7, x7), (8, x8)]) h K =
    bnd (pBin Try.prog .neq 3 (.tmp 12) (.tmp 13) x5 x3) fun x14 =>
    K .normal (act 18 [(3, x3), (5, x5), (6, x6), (7, x7), (8, x8), (14, x14)]) h := kq_reg
theorem b121_rrllrrllrlrr  : kCode env 121 false inv k (cp c121 7475) (act 18 [(3, x3), (5, x5), (6, x6), (7, x7), (8, x8), (14, x14)]) h K = brV x14 (kCode env 121 false inv k (cp c121 14950) (act 18 [(3, x3), (5, x5), (6, x6), (7, x7), (8, x8), (14, x14)]) h K) (kCode env 121 false inv k (cp c121 14951) (act 18 [(3, x3), (5, x5), (6, x6), (7, x7), (8, x8), (14, x14)]) h K) := kq_cond
theorem r121_6  : kCode env 121 false inv k (cp c121 29900) (act 18 [(3, x3), (5, x5), (6, x6), (7, x7), (8, x8), (14, x14)]) h K =
    K .normal (act 18 [(2, x5)]) h := kq_reg
theorem r121_7  : kCode env 121 false inv k (cp c121 935) (act 18 [(3, x3), (5, x5), (6, x6), (7, x7), (8, x8), (14, x14)]) h K =
    bnd (pBin Try.prog .add 3 (.tmp 8) (.const (.int .i64 1)) x8 (.int .i64 1)) fun x16 =>
    K .normal (act 18 [(3, x3), (6, x6), (7, x7), (8, x16)]) h := kq_reg
noncomputable def F121_lrlrr {β : Type} (inv : Inv) (k : Nat) : Nat → Value → Value → Value → Value → AH → (Value → Value → Value → Value → Value → AH → Option β) → (Value → AH → Option β) → Option β
  | 0, _, _, _, _, _, _, _ => none
  | j + 1, x3, x6, x7, x8, h, ke0, kr =>
    bnd (pBin Try.prog .lss 3 (.tmp 8) (.tmp 7) x8 x7) fun x9 =>
    brV x9
    (bnd (pIndexAddr Try.prog 24 x6 x8) fun x10 =>
    bnd (pLoad Try.prog 3 x10 h) fun x11 =>
    bnd (pBin Try.prog .neq 3 (.tmp 12) (.tmp 13) x11 x3) fun x14 =>
    brV x14
    (kr x11 h)
    (bnd (pBin Try.prog .add 3 (.tmp 8) (.const (.int .i64 1)) x8 (.int .i64 1)) fun x16 =>
    F121_lrlrr inv k j x3 x6 x7 x16 h ke0 kr))
    (ke0 x3 x6 x7 x8 x9 h)
theorem F121_lrlrr_j (j : Nat) : kLoop (kCode env 121 false inv k (cp c121 116)) j (act 18 [(3, x3), (6, x6), (7, x7), (8, x8)]) h K = F121_lrlrr inv k j x3 x6 x7 x8 h (fun y3 y6 y7 y8 y9 h => K (.exit 0) (act 18 [(3, y3), (6, y6), (7, y7), (8, y8), (9, y9)]) h) (fun y2 h => K .ret (act 18 [(2, y2)]) h) := by
      induction j generalizing x3 x6 x7 x8 h with
      | zero => rfl
      | succ j ih =>
        unfold F121_lrlrr
        simp only [kLoop, kq_seq c121 116, r121_3, kq_seq c121 233, b121_lrllrlrr, kq_skip c121 932, kq_seq c121 467, kq_block c121 934 1, kq_seq c121 1868, r121_4, kq_seq c121 3737, r121_5, b121_rrllrrllrlrr, kq_seq c121 14950, r121_6, kq_ret c121 29901, kq_skip c121 14951, r121_7, kq_exit c121 933 0, ih, reduceIte, reduceCtorEq, XE.exit.injEq, Nat.reduceEqDiff, Nat.reduceMul, Nat.reduceAdd] <;> kernel_rfl
theorem F121_lrlrr_eq  : kCode env 121 false inv k (cp c121 58) (act 18 [(3, x3), (6, x6), (7, x7), (8, x8)]) h K = F121_lrlrr inv k k x3 x6 x7 x8 h (fun y3 y6 y7 y8 y9 h => K (.exit 0) (act 18 [(3, y3), (6, y6), (7, y7), (8, y8), (9, y9)]) h) (fun y2 h => K .ret (act 18 [(2, y2)]) h) := kq_loop (F121_lrlrr_j k)
theorem r121_8  : kCode env 121 false inv k (cp c121 30) (act 18 [(3, x3), (6, x6), (7, x7), (8, x8), (9, x9)]) h K =
    K .normal (act 18 [(2, x3)]) h := kq_reg
theorem res121_0 : resOfFn env.P 121 .ret (act 18 [(2, x2)]) h = some (x2, h) := kq_res
/-- cmp.Or[int] -/
noncomputable def F121 (inv : Inv) (k : Nat) (x0 : Value) (h : AH) : Option (Value × AH) :=
    bnd (pLen Try.prog #[24] x0 h) fun x7 =>
    F121_lrlrr inv k k (.int .i64 0) x0 x7 (.int .i64 0) h
    (fun y3 y6 y7 y8 y9 h =>
    some (y3, h))
    (fun y2 h_1 =>
    some (y2, h_1))
theorem F121_eq : eFun env k inv 121 #[x0] h = F121 inv k x0 h := by
      refine (kq_fun (a := act 18 [(0, x0)]) (c := cp c121 1)).trans ?_
      unfold F121
      simp only [kq_seq c121 1, r121_0, kq_seq c121 3, r121_1, kq_seq c121 7, kq_seq c121 14, r121_2, kq_block c121 29 0, F121_lrlrr_eq, kq_seq c121 15, r121_8, kq_ret c121 31, res121_0, reduceIte, reduceCtorEq, XE.exit.injEq, Nat.reduceEqDiff, Nat.reduceMul, Nat.reduceAdd] <;> kernel_rfl
theorem F121_call : eInv env (k + 1) (.func 121) #[] #[x0] h = F121 (eInv env k) k x0 h := kq_inv F121_eq
noncomputable def c122 : Code := codeOf Try.prog 122
theorem r122_0  : kCode env 122 false inv k (cp c122 2) (act 20 [(0, x0), (1, x1)]) h K =
    K .normal (act 20 [(0, x0), (1, x1)]) h := kq_reg
theorem r122_1  : kCode env 122 false inv k (cp c122 6) (act 20 [(0, x0), (1, x1)]) h K =
    bnd (inv (.func 125) #[] #[x0] h) fun x8 =>
    K .normal (act 20 [(0, x0), (1, x1), (5, x8.1)]) x8.2 := kq_reg
theorem r122_2  : kCode env 122 false inv k (cp c122 14) (act 20 [(0, x0), (1, x1), (5, x5)]) h K =
    bnd (inv (.func 125) #[] #[x1] h) fun x10 =>
    K .normal (act 20 [(0, x0), (1, x1), (5, x5), (6, x10.1)]) x10.2 := kq_reg
theorem r122_3  : kCode env 122 false inv k (cp c122 60) (act 20 [(0, x0), (1, x1), (5, x5), (6, x6)]) h K =
    K .normal (act 20 [(0, x0), (1, x1), (6, x6), (11, x5)]) h := kq_reg
theorem b122_rlrrr  : kCode env 122 false inv k (cp c122 61) (act 20 [(0, x0), (1, x1), (6, x6), (11, x11)]) h K = brV x11 (kCode env 122 false inv k (cp c122 122) (act 20 [(0, x0), (1, x1), (6, x6), (11, x11)]) h K) (kCode env 122 false inv k (cp c122 123) (act 20 [(0, x0), (1, x1), (6, x6), (11, x11)]) h K) := kq_cond
theorem r122_4  : kCode env 122 false inv k (cp c122 488) (act 20 [(0, x0), (1, x1), (6, x6), (11, x11)]) h K =
    K .normal (act 20 [(12, x6)]) h := kq_reg
theorem b122_rllrlrrr  : kCode env 122 false inv k (cp c122 489) (act 20 [(12, x12)]) h K = brV x12 (kCode env 122 false inv k (cp c122 978) (act 20 [(12, x12)]) h K) (kCode env 122 false inv k (cp c122 979) (act 20 [(12, x12)]) h K) := kq_cond
theorem r122_5  : kCode env 122 false inv k (cp c122 1956) (act 20 [(12, x12)]) h K =
    K .normal (act 20 [(4, (.int .i64 0))]) h := kq_reg
theorem res122_0 : resOfFn env.P 122 .ret (act 20 [(4, x4)]) h = some (x4, h) := kq_res
theorem r122_6  : kCode env 122 false inv k (cp c122 490) (act 20 [(12, x12)]) h K =
    K .normal (act 20 [(4, (.int .i64 (-1)))]) h := kq_reg
theorem r122_7  : kCode env 122 false inv k (cp c122 124) (act 20 [(0, x0), (1, x1), (6, x6), (11, x11)]) h K =
    K .normal (act 20 [(0, x0), (1, x1), (13, x6)]) h := kq_reg
theorem b122_rlrrrr  : kCode env 122 false inv k (cp c122 125) (act 20 [(0, x0), (1, x1), (13, x13)]) h K = brV x13 (kCode env 122 false inv k (cp c122 250) (act 20 [(0, x0), (1, x1), (13, x13)]) h K) (kCode env 122 false inv k (cp c122 251) (act 20 [(0, x0), (1, x1), (13, x13)]) h K) := kq_cond
theorem r122_8  : kCode env 122 false inv k (cp c122 500) (act 20 [(0, x0), (1, x1), (13, x13)]) h K =
    K .normal (act 20 [(4, (.int .i64 1))]) h := kq_reg
theorem r122_9  : kCode env 122 false inv k (cp c122 252) (act 20 [(0, x0), (1, x1), (13, x13)]) h K =
    bnd (pBin Try.prog .lss 3 (.tmp 14) (.tmp 15) x0 x1) fun x16 =>
    K .normal (act 20 [(0, x0), (1, x1), (16, x16)]) h := kq_reg
theorem b122_rlrrrrr  : kCode env 122 false inv k (cp c122 253) (act 20 [(0, x0), (1, x1), (16, x16)]) h K = brV x16 (kCode env 122 false inv k (cp c122 506) (act 20 [(0, x0), (1, x1), (16, x16)]) h K) (kCode env 122 false inv k (cp c122 507) (act 20 [(0, x0), (1, x1), (16, x16)]) h K) := kq_cond
theorem r122_10  : kCode env 122 false inv k (cp c122 1012) (act 20 [(0, x0), (1, x1), (16, x16)]) h K =
    K .normal (act 20 [(4, (.int .i64 (-1)))]) h := kq_reg
theorem r122_11  : kCode env 122 false inv k (cp c122 508) (act 20 [(0, x0), (1, x1), (16, x16)]) h K =
    bnd (pBin Try.prog .gtr 3 (.tmp 17) (.tmp 18) x0 x1) fun x19 =>
    K .normal (act 20 [(19, x19)]) h := kq_reg
theorem b122_rlrrrrrr  : kCode env 122 false inv k (cp c122 509) (act 20 [(19, x19)]) h K = brV x19 (kCode env 122 false inv k (cp c122 1018) (act 20 [(19, x19)]) h K) (kCode env 122 false inv k (cp c122 1019) (act 20 [(19, x19)]) h K) := kq_cond
theorem r122_12  : kCode env 122 false inv k (cp c122 2036) (act 20 [(19, x19)]) h K =
    K .normal (act 20 [(4, (.int .i64 1))]) h := kq_reg
theorem r122_13  : kCode env 122 false inv k (cp c122 510) (act 20 [(19, x19)]) h K =
    K .normal (act 20 [(4, (.int .i64 0))]) h := kq_reg
/-- cmp.Compare[int] -/
noncomputable def F122 (inv : Inv) (k : Nat) (x0 x1 : Value) (h : AH) : Option (Value × AH) :=
    bnd (inv (.func 125) #[] #[x0] h) fun x8 =>
    bnd (inv (.func 125) #[] #[x1] x8.2) fun x10 =>
    brV x8.1
    (brV x10.1
    (some ((.int .i64 0), x10.2))
    (some ((.int .i64 (-1)), x10.2)))
    (brV x10.1
    (some ((.int .i64 1), x10.2))
    (bnd (pBin Try.prog .lss 3 (.tmp 14) (.tmp 15) x0 x1) fun x16 =>
    brV x16
    (some ((.int .i64 (-1)), x10.2))
    (bnd (pBin Try.prog .gtr 3 (.tmp 17) (.tmp 18) x0 x1) fun x19 =>
    brV x19
    (some ((.int .i64 1), x10.2))
    (some ((.int .i64 0), x10.2)))))
theorem F122_eq : eFun env k inv 122 #[x0, x1] h = F122 inv k x0 x1 h := by
      refine (kq_fun (a := act 20 [(0, x0), (1, x1)]) (c := cp c122 1)).trans ?_
      unfold F122
      simp only [kq_seq c122 1, r122_0, kq_seq c122 3, r122_1, kq_seq c122 7, r122_2, kq_seq c122 15, kq_seq c122 30, r122_3, b122_rlrrr, kq_seq c122 122, kq_seq c122 244, r122_4, b122_rllrlrrr, kq_seq c122 978, r122_5, kq_ret c122 1957, res122_0, kq_skip c122 979, kq_seq c122 245, r122_6, kq_ret c122 491, kq_skip c122 123, kq_seq c122 31, kq_seq c122 62, r122_7, b122_rlrrrr, kq_seq c122 250, r122_8, kq_ret c122 501, kq_skip c122 251, kq_seq c122 63, kq_seq c122 126, r122_9, b122_rlrrrrr, kq_seq c122 506, r122_10, kq_ret c122 1013, kq_skip c122 507, kq_seq c122 127, kq_seq c122 254, r122_11, b122_rlrrrrrr, kq_seq c122 1018, r122_12, kq_ret c122 2037, kq_skip c122 1019, kq_seq c122 255, r122_13, kq_ret c122 511, reduceIte, reduceCtorEq, XE.exit.injEq, Nat.reduceEqDiff, Nat.reduceMul, Nat.reduceAdd] <;> kernel_rfl
theorem F122_call : eInv env (k + 1) (.func 122) #[] #[x0, x1] h = F122 (eInv env k) k x0 x1 h := kq_inv F122_eq
noncomputable def c123 : Code := codeOf Try.prog 123
theorem r123_0  : kCode env 123 false inv k (cp c123 2) (act 20 [(0, x0), (1, x1)]) h K =
    K .normal (act 20 [(0, x0), (1, x1)]) h := kq_reg
theorem r123_1  : kCode env 123 false inv k (cp c123 6) (act 20 [(0, x0), (1, x1)]) h K =
    bnd (inv (.func 126) #[] #[x0] h) fun x8 =>
    K .normal (act 20 [(0, x0), (1, x1), (5, x8.1)]) x8.2 := kq_reg
theorem r123_2  : kCode env 123 false inv k (cp c123 14) (act 20 [(0, x0), (1, x1), (5, x5)]) h K =
    bnd (inv (.func 126) #[] #[x1] h) fun x10 =>
    K .normal (act 20 [(0, x0), (1, x1), (5, x5), (6, x10.1)]) x10.2 := kq_reg
theorem r123_3  : kCode env 123 false inv k (cp c123 60) (act 20 [(0, x0), (1, x1), (5, x5), (6, x6)]) h K =
    K .normal (act 20 [(0, x0), (1, x1), (6, x6), (11, x5)]) h := kq_reg
theorem b123_rlrrr  : kCode env 123 false inv k (cp c123 61) (act 20 [(0, x0), (1, x1), (6, x6), (11, x11)]) h K = brV x11 (kCode env 123 false inv k (cp c123 122) (act 20 [(0, x0), (1, x1), (6, x6), (11, x11)]) h K) (kCode env 123 false inv k (cp c123 123) (act 20 [(0, x0), (1, x1), (6, x6), (11, x11)]) h K) := kq_cond
theorem r123_4  : kCode env 123 false inv k (cp c123 488) (act 20 [(0, x0), (1, x1), (6, x6), (11, x11)]) h K =
    K .normal (act 20 [(12, x6)]) h := kq_reg
theorem b123_rllrlrrr  : kCode env 123 false inv k (cp c123 489) (act 20 [(12, x12)]) h K = brV x12 (kCode env 123 false inv k (cp c123 978) (act 20 [(12, x12)]) h K) (kCode env 123 false inv k (cp c123 979) (act 20 [(12, x12)]) h K) := kq_cond
theorem r123_5  : kCode env 123 false inv k (cp c123 1956) (act 20 [(12, x12)]) h K =
    K .normal (act 20 [(4, (.int .i64 0))]) h := kq_reg
theorem res123_0 : resOfFn env.P 123 .ret (act 20 [(4, x4)]) h = some (x4, h) := kq_res
theorem r123_6  : kCode env 123 false inv k (cp c123 490) (act 20 [(12, x12)]) h K =
    K .normal (act 20 [(4, (.int .i64 (-1)))]) h := kq_reg
theorem r123_7  : kCode env 123 false inv k (cp c123 124) (act 20 [(0, x0), (1, x1), (6, x6), (11, x11)]) h K =
    K .normal (act 20 [(0, x0), (1, x1), (13, x6)]) h := kq_reg
theorem b123_rlrrrr  : kCode env 123 false inv k (cp c123 125) (act 20 [(0, x0), (1, x1), (13, x13)]) h K = brV x13 (kCode env 123 false inv k (cp c123 250) (act 20 [(0, x0), (1, x1), (13, x13)]) h K) (kCode env 123 false inv k (cp c123 251) (act 20 [(0, x0), (1, x1), (13, x13)]) h K) := kq_cond
theorem r123_8  : kCode env 123 false inv k (cp c123 500) (act 20 [(0, x0), (1, x1), (13, x13)]) h K =
    K .normal (act 20 [(4, (.int .i64 1))]) h := kq_reg
theorem r123_9  : kCode env 123 false inv k (cp c123 252) (act 20 [(0, x0), (1, x1), (13, x13)]) h K =
    bnd (pBin Try.prog .lss 2 (.tmp 14) (.tmp 15) x0 x1) fun x16 =>
    K .normal (act 20 [(0, x0), (1, x1), (16, x16)]) h := kq_reg
theorem b123_rlrrrrr  : kCode env 123 false inv k (cp c123 253) (act 20 [(0, x0), (1, x1), (16, x16)]) h K = brV x16 (kCode env 123 false inv k (cp c123 506) (act 20 [(0, x0), (1, x1), (16, x16)]) h K) (kCode env 123 false inv k (cp c123 507) (act 20 [(0, x0), (1, x1), (16, x16)]) h K) := kq_cond
theorem r123_10  : kCode env 123 false inv k (cp c123 1012) (act 20 [(0, x0), (1, x1), (16, x16)]) h K =
    K .normal (act 20 [(4, (.int .i64 (-1)))]) h := kq_reg
theorem r123_11  : kCode env 123 false inv k (cp c123 508) (act 20 [(0, x0), (1, x1), (16, x16)]) h K =
    bnd (pBin Try.prog .gtr 2 (.tmp 17) (.tmp 18) x0 x1) fun x19 =>
    K .normal (act 20 [(19, x19)]) h := kq_reg
theorem b123_rlrrrrrr  : kCode env 123 false inv k (cp c123 509) (act 20 [(19, x19)]) h K = brV x19 (kCode env 123 false inv k (cp c123 1018) (act 20 [(19, x19)]) h K) (kCode env 123 false inv k (cp c123 1019) (act 20 [(19, x19)]) h K) := kq_cond
theorem r123_12  : kCode env 123 false inv k (cp c123 2036) (act 20 [(19, x19)]) h K =
    K .normal (act 20 [(4, (.int .i64 1))]) h := kq_reg
theorem r123_13  : kCode env 123 false inv k (cp c123 510) (act 20 [(19, x19)]) h K =
    K .normal (act 20 [(4, (.int .i64 0))]) h := kq_reg
/-- cmp.Compare[int64] -/
noncomputable def F123 (inv : Inv) (k : Nat) (x0 x1 : Value) (h : AH) : Option (Value × AH) :=
    bnd (inv (.func 126) #[] #[x0] h) fun x8 =>
    bnd (inv (.func 126) #[] #[x1] x8.2) fun x10 =>
    brV x8.1
    (brV x10.1
    (some ((.int .i64 0), x10.2))
    (some ((.int .i64 (-1)), x10.2)))
    (brV x10.1
    (some ((.int .i64 1), x10.2))
    (bnd (pBin Try.prog .lss 2 (.tmp 14) (.tmp 15) x0 x1) fun x16 =>
    brV x16
    (some ((.int .i64 (-1)), x10.2))
    (bnd (pBin Try.prog .gtr 2 (.tmp 17) (.tmp 18) x0 x1) fun x19 =>
    brV x19
    (some ((.int .i64 1), x10.2))
    (some ((.int .i64 0), x10.2)))))
theorem F123_eq : eFun env k inv 123 #[x0, x1] h = F123 inv k x0 x1 h := by
      refine (kq_fun (a := act 20 [(0, x0), (1, x1)]) (c := cp c123 1)).trans ?_
      unfold F123
      simp only [kq_seq c123 1, r123_0, kq_seq c123 3, r123_1, kq_seq c123 7, r123_2, kq_seq c123 15, kq_seq c123 30, r123_3, b123_rlrrr, kq_seq c123 122, kq_seq c123 244, r123_4, b123_rllrlrrr, kq_seq c123 978, r123_5, kq_ret c123 1957, res123_0, kq_skip c123 979, kq_seq c123 245, r123_6, kq_ret c123 491, kq_skip c123 123, kq_seq c123 31, kq_seq c123 62, r123_7, b123_rlrrrr, kq_seq c123 250, r123_8, kq_ret c123 501, kq_skip c123 251, kq_seq c123 63, kq_seq c123 126, r123_9, b123_rlrrrrr, kq_seq c123 506, r123_10, kq_ret c123 1013, kq_skip c123 507, kq_seq c123 127, kq_seq c123 254, r123_11, b123_rlrrrrrr, kq_seq c123 1018, r123_12, kq_ret c123 2037, kq_skip c123 1019, kq_seq c123 255, r123_13, kq_ret c123 511, reduceIte, reduceCtorEq, XE.exit.injEq, Nat.reduceEqDiff, Nat.reduceMul, Nat.reduceAdd] <;> kernel_rfl
theorem F123_call : eInv env (k + 1) (.func 123) #[] #[x0, x1] h = F123 (eInv env k) k x0 x1 h := kq_inv F123_eq
noncomputable def c124 : Code := codeOf Try.prog 124
theorem r124_0  : kCode env 124 false inv k (cp c124 2) (act 8 [(0, x0), (1, x1)]) h K =
    K .normal (act 8 [(0, x0), (1, x1)]) h := kq_reg
theorem r124_1  : kCode env 124 false inv k (cp c124 6) (act 8 [(0, x0), (1, x1)]) h K =
    bnd (inv (.func 127) #[] #[x0, x1] h) fun x7 =>
    K .normal (act 8 [(4, x7.1)]) x7.2 := kq_reg
theorem res124_0 : resOfFn env.P 124 .ret (act 8 [(4, x4)]) h = some (x4, h) := kq_res
/-- strings.Compare -/
noncomputable def F124 (inv : Inv) (k : Nat) (x0 x1 : Value) (h : AH) : Option (Value × AH) :=
    bnd (inv (.func 127) #[] #[x0, x1] h) fun x7 =>
    some (x7.1, x7.2)
theorem F124_eq : eFun env k inv 124 #[x0, x1] h = F124 inv k x0 x1 h := by
      refine (kq_fun (a := act 8 [(0, x0), (1, x1)]) (c := cp c124 1)).trans ?_
      unfold F124
      simp only [kq_seq c124 1, r124_0, kq_seq c124 3, r124_1, kq_ret c124 7, res124_0, reduceIte, reduceCtorEq, XE.exit.injEq, Nat.reduceEqDiff, Nat.reduceMul, Nat.reduceAdd] <;> kernel_rfl
theorem F124_call : eInv env (k + 1) (.func 124) #[] #[x0, x1] h = F124 (eInv env k) k x0 x1 h := kq_inv F124_eq
noncomputable def c125 : Code := codeOf Try.prog 125
theorem r125_0  : kCode env 125 false inv k (cp c125 2) (act 6 [(0, x0)]) h K =
    K .normal (act 6 [(0, x0)]) h := kq_reg
theorem r125_1  : kCode env 125 false inv k (cp c125 6) (act 6 [(0, x0)]) h K =
    bnd (pBin Try.prog .neq 3 (.tmp 3) (.tmp 4) x0 x0) fun x5 =>
    K .normal (act 6 [(2, x5)]) h := kq_reg
theorem res125_0 : resOfFn env.P 125 .ret (act 6 [(2, x2)]) h = some (x2, h) := kq_res
/-- cmp.isNaN[int] -/
noncomputable def F125 (inv : Inv) (k : Nat) (x0 : Value) (h : AH) : Option (Value × AH) :=
    bnd (pBin Try.prog .neq 3 (.tmp 3) (.tmp 4) x0 x0) fun x5 =>
    some (x5, h)
theorem F125_eq : eFun env k inv 125 #[x0] h = F125 inv k x0 h := by
      refine (kq_fun (a := act 6 [(0, x0)]) (c := cp c125 1)).trans ?_
      unfold F125
      simp only [kq_seq c125 1, r125_0, kq_seq c125 3, r125_1, kq_ret c125 7, res125_0, reduceIte, reduceCtorEq, XE.exit.injEq, Nat.reduceEqDiff, Nat.reduceMul, Nat.reduceAdd] <;> kernel_rfl
theorem F125_call : eInv env (k + 1) (.func 125) #[] #[x0] h = F125 (eInv env k) k x0 h := kq_inv F125_eq
noncomputable def c126 : Code := codeOf Try.prog 126
theorem r126_0  : kCode env 126 false inv k (cp c126 2) (act 6 [(0, x0)]) h K =
    K .normal (act 6 [(0, x0)]) h := kq_reg
theorem r126_1  : kCode env 126 false inv k (cp c126 6) (act 6 [(0, x0)]) h K =
    bnd (pBin Try.prog .neq 2 (.tmp 3) (.tmp 4) x0 x0) fun x5 =>
    K .normal (act 6 [(2, x5)]) h := kq_reg
theorem res126_0 : resOfFn env.P 126 .ret (act 6 [(2, x2)]) h = some (x2, h) := kq_res
/-- cmp.isNaN[int64] -/
noncomputable def F126 (inv : Inv) (k : Nat) (x0 : Value) (h : AH) : Option (Value × AH) :=
    bnd (pBin Try.prog .neq 2 (.tmp 3) (.tmp 4) x0 x0) fun x5 =>
    some (x5, h)
theorem F126_eq : eFun env k inv 126 #[x0] h = F126 inv k x0 h := by
      refine (kq_fun (a := act 6 [(0, x0)]) (c := cp c126 1)).trans ?_
      unfold F126
      simp only [kq_seq c126 1, r126_0, kq_seq c126 3, r126_1, kq_ret c126 7, res126_0, reduceIte, reduceCtorEq, XE.exit.injEq, Nat.reduceEqDiff, Nat.reduceMul, Nat.reduceAdd] <;> kernel_rfl
theorem F126_call : eInv env (k + 1) (.func 126) #[] #[x0] h = F126 (eInv env k) k x0 h := kq_inv F126_eq
noncomputable def c127 : Code := codeOf Try.prog 127
theorem r127_0  : kCode env 127 false inv k (cp c127 2) (act 8 [(0, x0), (1, x1)]) h K =
    K .normal (act 8 [(0, x0), (1, x1)]) h := kq_reg
theorem r127_1  : kCode env 127 false inv k (cp c127 6) (act 8 [(0, x0), (1, x1)]) h K =
    bnd (inv (.func 128) #[] #[x0, x1] h) fun x7 =>
    K .normal (act 8 [(4, x7.1)]) x7.2 := kq_reg
theorem res127_0 : resOfFn env.P 127 .ret (act 8 [(4, x4)]) h = some (x4, h) := kq_res
/-- internal/bytealg.CompareString -/
noncomputable def F127 (inv : Inv) (k : Nat) (x0 x1 : Value) (h : AH) : Option (Value × AH) :=
    bnd (inv (.func 128) #[] #[x0, x1] h) fun x7 =>
    some (x7.1, x7.2)
theorem F127_eq : eFun env k inv 127 #[x0, x1] h = F127 inv k x0 x1 h := by
      refine (kq_fun (a := act 8 [(0, x0), (1, x1)]) (c := cp c127 1)).trans ?_
      unfold F127
      simp only [kq_seq c127 1, r127_0, kq_seq c127 3, r127_1, kq_ret c127 7, res127_0, reduceIte, reduceCtorEq, XE.exit.injEq, Nat.reduceEqDiff, Nat.reduceMul, Nat.reduceAdd] <;> kernel_rfl
theorem F127_call : eInv env (k + 1) (.func 127) #[] #[x0, x1] h = F127 (eInv env k) k x0 x1 h := kq_inv F127_eq
end Go.Proofs.Ytgklcfnjahomjaa.Sh
