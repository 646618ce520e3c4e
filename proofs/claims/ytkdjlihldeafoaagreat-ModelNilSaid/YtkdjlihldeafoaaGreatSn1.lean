/- Shallow functions, part 1. Printed by a program of the prover's own from the loaded program; Lean checks it. -/
import Derived.Test.YtkdjlihldeafoaaGreatSn0
set_option linter.unusedVariables false
set_option linter.unusedSimpArgs false
set_option maxRecDepth 100000
namespace Go.Proofs.YtkdjlihldeafoaaGreat.Sh
open Go Go.RowKit Go.Proofs.Ev
variable {β : Type} {inv : Inv} {k : Nat} {h : AH} {K : XE → Act → AH → Option β} {x0 x1 x2 x3 x4 x5 x6 x7 x8 x9 x10 x11 x12 x13 x14 x15 x16 x17 x18 x19 x20 x21 x22 x23 x24 x25 x27 x28 x29 x30 x31 : Value}
noncomputable def c9 : Code := codeOf Tryz.prog 9
theorem r9_0  : kCode env 9 false inv k (cp c9 2) (act 35 [(0, x0)]) h K =
    bnd (pBox Tryz.prog 40 x0 h) fun x1 =>
    K .normal (act 35 [(1, x1.1)]) x1.2 := kq_reg
theorem r9_1  : kCode env 9 false inv k (cp c9 12) (act 35 [(1, x1)]) h K =
    bnd (inv (.func 11) #[] #[] h) fun x5 =>
    bnd (pUn Tryz.prog .not x5.1) fun x6 =>
    K .normal (act 35 [(1, x1), (6, x6)]) x5.2 := kq_reg
theorem b9_rlr  : kCode env 9 false inv k (cp c9 13) (act 35 [(1, x1), (6, x6)]) h K = brV x6 (kCode env 9 false inv k (cp c9 26) (act 35 [(1, x1), (6, x6)]) h K) (kCode env 9 false inv k (cp c9 27) (act 35 [(1, x1), (6, x6)]) h K) := kq_cond
theorem r9_2  : kCode env 9 false inv k (cp c9 52) (act 35 [(1, x1), (6, x6)]) h K =
    K .normal (act 35 [(2, (.bool false))]) h := kq_reg
theorem res9_0 : resOfFn env.P 9 .ret (act 35 [(2, x2)]) h = some (x2, h) := kq_res
theorem r9_3  : kCode env 9 false inv k (cp c9 14) (act 35 [(1, x1), (6, x6)]) h K =
    K .normal (act 35 [(1, x1), (3, (.pointer none))]) h := kq_reg
theorem r9_4  : kCode env 9 false inv k (cp c9 30) (act 35 [(1, x1), (3, x3)]) h K =
    bnd (pLoad Tryz.prog 40 x1 h) fun x8 =>
    bnd (inv (.func 15) #[] #[x3, x8] h) fun x9 =>
    bnd (pAlloc Tryz.prog 34 x9.2) fun x4 =>
    bnd (kSt (pStore Tryz.prog 34 x4.1 x9.1 x4.2)) fun u =>
    K .normal (act 35 [(3, x3), (4, x4.1)]) u.2 := kq_reg
noncomputable abbrev G9_5 {β : Type} (inv : Inv) (x3 x4 : Value) (h : AH) (K : Value → AH → Option β) : Option β :=
    bnd (pFieldAddr Tryz.prog 34 x4 0) fun x10 =>
    bnd (pLoad Tryz.prog 30 x10 h) fun x11 =>
    bnd (pBin Tryz.prog .eql 30 (.tmp 11) (.const (.int .i64 1)) x11 (.int .i64 1)) fun x12 =>
    bnd (gd (some x12) true h (lt (pLoad Tryz.prog 34 x4 h) h)) fun x14 =>
    bnd (gd (some x12) true x14.2 (lt (pBuild Tryz.prog 34 #[(0, (.int .i64 1))]) x14.2)) fun x15 =>
    bnd (gd (some x12) true x15.2 (inv (.func 22) #[] #[x14.1, x15.1] x15.2)) fun x16 =>
    bnd (pickV x12 x16.1 (.bool false)) fun x17 =>
    bnd (gd (some x17) true x16.2 (some (x3, x16.2))) fun x19 =>
    bnd (gd (some x17) true x19.2 (inv (.func 23) #[] #[x19.1] x19.2)) fun x20 =>
    bnd (gd (some x17) true x20.2 (lt (pBuild Tryz.prog 58 #[]) x20.2)) fun x21 =>
    bnd (gd (some x17) true x21.2 (inv (.func 25) #[] #[x20.1, x21.1] x21.2)) fun x22 =>
    bnd (pickV x17 x22.1 (.bool false)) fun x23 =>
    bnd (gd (some x23) true x22.2 (some (x3, x22.2))) fun x25 =>
    bnd (gd (some x23) true x25.2 (inv (.func 24) #[] #[x25.1] x25.2)) fun x26 =>
    bnd (gd (some x23) true x26.2 (lt (pBuild Tryz.prog 58 #[]) x26.2)) fun x27 =>
    bnd (gd (some x23) true x27.2 (inv (.func 25) #[] #[x26.1, x27.1] x27.2)) fun x28 =>
    bnd (pickV x23 x28.1 (.bool false)) fun x29 =>
    bnd (gd (some x29) true x28.2 (some (x3, x28.2))) fun x31 =>
    bnd (gd (some x29) true x31.2 (inv (.func 35) #[] #[x31.1] x31.2)) fun x32 =>
    bnd (gd (some x29) true x32.2 (lt (pBin Tryz.prog .eql 28 (.tmp 32) (.const (.pointer none)) x32.1 (.pointer none)) x32.2)) fun x33 =>
    bnd (pickV x29 x33.1 (.bool false)) fun x34 =>
    K (x34) x33.2
theorem r9_5  : kCode env 9 false inv k (cp c9 62) (act 35 [(3, x3), (4, x4)]) h K =
    G9_5 inv x3 x4 h fun y2 h => K .normal (act 35 [(2, y2)]) h := kq_reg
/-- shadowbook/shadowbooklaw21.ModelNil -/
noncomputable def F9 (inv : Inv) (k : Nat) (x0 : Value) (h : AH) : Option (Value × AH) :=
    bnd (pBox Tryz.prog 40 x0 h) fun x1 =>
    bnd (inv (.func 11) #[] #[] x1.2) fun x5 =>
    bnd (pUn Tryz.prog .not x5.1) fun x6 =>
    brV x6
    (some ((.bool false), x5.2))
    (bnd (pLoad Tryz.prog 40 x1.1 x5.2) fun x8 =>
    bnd (inv (.func 15) #[] #[(.pointer none), x8] x5.2) fun x9 =>
    bnd (pAlloc Tryz.prog 34 x9.2) fun x4 =>
    bnd (kSt (pStore Tryz.prog 34 x4.1 x9.1 x4.2)) fun u =>
    G9_5 inv (.pointer none) x4.1 u.2 fun y2 h =>
    some (y2, h))
theorem F9_eq : eFun env k inv 9 #[x0] h = F9 inv k x0 h := by
      refine (kq_fun (a := act 35 [(0, x0)]) (c := cp c9 1)).trans ?_
      unfold F9
      simp only [kq_seq c9 1, r9_0, kq_seq c9 3, kq_seq c9 6, r9_1, b9_rlr, kq_seq c9 26, r9_2, kq_ret c9 53, res9_0, kq_skip c9 27, kq_seq c9 7, r9_3, kq_seq c9 15, r9_4, kq_seq c9 31, r9_5, kq_ret c9 63, reduceIte, reduceCtorEq, XE.exit.injEq, Nat.reduceEqDiff, Nat.reduceMul, Nat.reduceAdd] <;> kernel_rfl
theorem F9_call : eInv env (k + 1) (.func 9) #[] #[x0] h = F9 (eInv env k) k x0 h := kq_inv F9_eq
noncomputable def c15 : Code := codeOf Tryz.prog 15
theorem r15_0  : kCode env 15 false inv k (cp c15 2) (act 24 [(0, x0), (1, x1)]) h K =
    bnd (pBox Tryz.prog 40 x1 h) fun x3 =>
    bnd (pAlloc Tryz.prog 34 x3.2) fun x4 =>
    K .normal (act 24 [(0, x0), (3, x3.1), (4, x4.1)]) x4.2 := kq_reg
theorem r15_1  : kCode env 15 false inv k (cp c15 12) (act 24 [(0, x0), (3, x3), (4, x4)]) h K =
    bnd (pBin Tryz.prog .eql 28 (.tmp 7) (.const (.pointer none)) x0 (.pointer none)) fun x8 =>
    K .normal (act 24 [(0, x0), (3, x3), (4, x4), (8, x8)]) h := kq_reg
theorem b15_rlr  : kCode env 15 false inv k (cp c15 13) (act 24 [(0, x0), (3, x3), (4, x4), (8, x8)]) h K = brV x8 (kCode env 15 false inv k (cp c15 26) (act 24 [(0, x0), (3, x3), (4, x4), (8, x8)]) h K) (kCode env 15 false inv k (cp c15 27) (act 24 [(0, x0), (3, x3), (4, x4), (8, x8)]) h K) := kq_cond
theorem r15_2  : kCode env 15 false inv k (cp c15 52) (act 24 [(0, x0), (3, x3), (4, x4), (8, x8)]) h K =
    bnd (inv (.func 39) #[] #[(.int .i64 1)] h) fun x9 =>
    bnd (kSt (pStore Tryz.prog 34 x4 x9.1 x9.2)) fun u =>
    K .normal (act 24 [(4, x4)]) u.2 := kq_reg
theorem res15_0 : resOfFn env.P 15 .ret (act 24 [(4, x4)]) h = bnd (pLoad Tryz.prog 34 x4 h) fun q0 =>
    some (q0, h) := kq_res
theorem r15_3  : kCode env 15 false inv k (cp c15 14) (act 24 [(0, x0), (3, x3), (4, x4), (8, x8)]) h K =
    bnd (inv (.func 40) #[] #[] h) fun x11 =>
    bnd (pFieldAddr Tryz.prog 40 x3 0) fun x12 =>
    bnd (pLoad Tryz.prog 3 x12 x11.2) fun x13 =>
    bnd (pLookup Tryz.prog 89 x11.1 x13 true x11.2) fun x14 =>
    bnd (pExtract x14 0) fun x15 =>
    bnd (pExtract x14 1) fun x16 =>
    chkK ((!true || !true || (sameO (pLoad Tryz.prog 3 x12 h) x13 && sameO (pLoad Tryz.prog 3 x12 x11.2) x13)) && true) <|
    K .normal (act 24 [(0, x0), (3, x3), (4, x4), (5, x15), (6, x16)]) x11.2 := kq_draw
theorem r15_4  : kCode env 15 false inv k (cp c15 60) (act 24 [(0, x0), (3, x3), (4, x4), (5, x5), (6, x6)]) h K =
    bnd (pUn Tryz.prog .not x6) fun x18 =>
    K .normal (act 24 [(0, x0), (3, x3), (4, x4), (5, x5), (18, x18)]) h := kq_reg
theorem b15_rlrrr  : kCode env 15 false inv k (cp c15 61) (act 24 [(0, x0), (3, x3), (4, x4), (5, x5), (18, x18)]) h K = brV x18 (kCode env 15 false inv k (cp c15 122) (act 24 [(0, x0), (3, x3), (4, x4), (5, x5), (18, x18)]) h K) (kCode env 15 false inv k (cp c15 123) (act 24 [(0, x0), (3, x3), (4, x4), (5, x5), (18, x18)]) h K) := kq_cond
theorem r15_5  : kCode env 15 false inv k (cp c15 244) (act 24 [(0, x0), (3, x3), (4, x4), (5, x5), (18, x18)]) h K =
    bnd (inv (.func 39) #[] #[(.int .i64 212)] h) fun x19 =>
    bnd (kSt (pStore Tryz.prog 34 x4 x19.1 x19.2)) fun u =>
    K .normal (act 24 [(4, x4)]) u.2 := kq_reg
theorem r15_6  : kCode env 15 false inv k (cp c15 62) (act 24 [(0, x0), (3, x3), (4, x4), (5, x5), (18, x18)]) h K =
    bnd (pLoad Tryz.prog 40 x3 h) fun x22 =>
    bnd (callV inv x5 #[x0, x22] h) fun x23 =>
    bnd (kSt (pStore Tryz.prog 34 x4 x23.1 x23.2)) fun u =>
    K .normal (act 24 [(4, x4)]) u.2 := kq_reg
/-- (*shadowbook/model.Model).Do -/
noncomputable def F15 (inv : Inv) (k : Nat) (x0 x1 : Value) (h : AH) : Option (Value × AH) :=
    bnd (pBox Tryz.prog 40 x1 h) fun x3 =>
    bnd (pAlloc Tryz.prog 34 x3.2) fun x4 =>
    bnd (pBin Tryz.prog .eql 28 (.tmp 7) (.const (.pointer none)) x0 (.pointer none)) fun x8 =>
    brV x8
    (bnd (inv (.func 39) #[] #[(.int .i64 1)] x4.2) fun x9 =>
    bnd (kSt (pStore Tryz.prog 34 x4.1 x9.1 x9.2)) fun u =>
    bnd (pLoad Tryz.prog 34 x4.1 u.2) fun q0 =>
    some (q0, u.2))
    (bnd (inv (.func 40) #[] #[] x4.2) fun x11 =>
    bnd (pFieldAddr Tryz.prog 40 x3.1 0) fun x12 =>
    bnd (pLoad Tryz.prog 3 x12 x11.2) fun x13 =>
    bnd (pLookup Tryz.prog 89 x11.1 x13 true x11.2) fun x14 =>
    bnd (pExtract x14 0) fun x15 =>
    bnd (pExtract x14 1) fun x16 =>
    chkK ((!true || !true || (sameO (pLoad Tryz.prog 3 x12 x4.2) x13 && sameO (pLoad Tryz.prog 3 x12 x11.2) x13)) && true) <|
    bnd (pUn Tryz.prog .not x16) fun x18 =>
    brV x18
    (bnd (inv (.func 39) #[] #[(.int .i64 212)] x11.2) fun x19 =>
    bnd (kSt (pStore Tryz.prog 34 x4.1 x19.1 x19.2)) fun u_1 =>
    bnd (pLoad Tryz.prog 34 x4.1 u_1.2) fun q0 =>
    some (q0, u_1.2))
    (bnd (pLoad Tryz.prog 40 x3.1 x11.2) fun x22 =>
    bnd (callV inv x15 #[x0, x22] x11.2) fun x23 =>
    bnd (kSt (pStore Tryz.prog 34 x4.1 x23.1 x23.2)) fun u_2 =>
    bnd (pLoad Tryz.prog 34 x4.1 u_2.2) fun q0 =>
    some (q0, u_2.2)))
theorem F15_eq : eFun env k inv 15 #[x0, x1] h = F15 inv k x0 x1 h := by
      refine (kq_fun (a := act 24 [(0, x0), (1, x1)]) (c := cp c15 1)).trans ?_
      unfold F15
      simp only [kq_seq c15 1, r15_0, kq_seq c15 3, kq_seq c15 6, r15_1, b15_rlr, kq_seq c15 26, r15_2, kq_ret c15 53, res15_0, kq_skip c15 27, kq_seq c15 7, r15_3, kq_seq c15 15, kq_seq c15 30, r15_4, b15_rlrrr, kq_seq c15 122, r15_5, kq_ret c15 245, kq_skip c15 123, kq_seq c15 31, r15_6, kq_ret c15 63, reduceIte, reduceCtorEq, XE.exit.injEq, Nat.reduceEqDiff, Nat.reduceMul, Nat.reduceAdd] <;> kernel_rfl
theorem F15_call : eInv env (k + 1) (.func 15) #[] #[x0, x1] h = F15 (eInv env k) k x0 x1 h := kq_inv F15_eq
noncomputable def c22 : Code := codeOf Tryz.prog 22
theorem r22_0  : kCode env 22 false inv k (cp c22 2) (act 33 [(0, x0), (1, x1)]) h K =
    bnd (pBox Tryz.prog 34 x0 h) fun x2 =>
    bnd (pBox Tryz.prog 34 x1 x2.2) fun x3 =>
    K .normal (act 33 [(2, x2.1), (3, x3.1)]) x3.2 := kq_reg
theorem r22_1  : kCode env 22 false inv k (cp c22 6) (act 33 [(2, x2), (3, x3)]) h K =
    K .normal (act 33 [(2, x2), (3, x3), (5, (.func (.func 42) #[] #[]))]) h := kq_reg
noncomputable abbrev G22_2 {β : Type} (inv : Inv) (x2 x3 x5 : Value) (h : AH) (K : Value → AH → Option β) : Option β :=
    bnd (pFieldAddr Tryz.prog 34 x2 0) fun x6 =>
    bnd (pLoad Tryz.prog 30 x6 h) fun x7 =>
    bnd (pFieldAddr Tryz.prog 34 x3 0) fun x8 =>
    bnd (pLoad Tryz.prog 30 x8 h) fun x9 =>
    bnd (pBin Tryz.prog .eql 30 (.tmp 7) (.tmp 9) x7 x9) fun x10 =>
    bnd (gd (some x10) true h (lt (pFieldAddr Tryz.prog 34 x2 3) h)) fun x12 =>
    bnd (gd (some x10) true x12.2 (lt (pLoad Tryz.prog 3 x12.1 x12.2) x12.2)) fun x13 =>
    bnd (gd (some x10) true x13.2 (lt (pFieldAddr Tryz.prog 34 x3 3) x13.2)) fun x14 =>
    bnd (gd (some x10) true x14.2 (lt (pLoad Tryz.prog 3 x14.1 x14.2) x14.2)) fun x15 =>
    bnd (gd (some x10) true x15.2 (lt (pBin Tryz.prog .eql 3 (.tmp 13) (.tmp 15) x13.1 x15.1) x15.2)) fun x16 =>
    bnd (pickV x10 x16.1 (.bool false)) fun x17 =>
    bnd (gd (some x17) true x16.2 (lt (pFieldAddr Tryz.prog 34 x2 2) x16.2)) fun x19 =>
    bnd (gd (some x17) true x19.2 (lt (pLoad Tryz.prog 32 x19.1 x19.2) x19.2)) fun x20 =>
    bnd (gd (some x17) true x20.2 (lt (pFieldAddr Tryz.prog 34 x3 2) x20.2)) fun x21 =>
    bnd (gd (some x17) true x21.2 (lt (pLoad Tryz.prog 32 x21.1 x21.2) x21.2)) fun x22 =>
    bnd (gd (some x17) true x22.2 (inv (.func 44) #[] #[x20.1, x22.1] x22.2)) fun x23 =>
    bnd (pickV x17 x23.1 (.bool false)) fun x24 =>
    bnd (gd (some x24) true x23.2 (lt (pFieldAddr Tryz.prog 34 x2 1) x23.2)) fun x26 =>
    bnd (gd (some x24) true x26.2 (lt (pLoad Tryz.prog 31 x26.1 x26.2) x26.2)) fun x27 =>
    bnd (gd (some x24) true x27.2 (lt (pFieldAddr Tryz.prog 34 x3 1) x27.2)) fun x28 =>
    bnd (gd (some x24) true x28.2 (lt (pLoad Tryz.prog 31 x28.1 x28.2) x28.2)) fun x29 =>
    bnd (gd (some x24) true x29.2 (some (x5, x29.2))) fun x30 =>
    bnd (gd (some x24) true x30.2 (inv (.func 45) #[] #[x27.1, x29.1, x30.1] x30.2)) fun x31 =>
    bnd (pickV x24 x31.1 (.bool false)) fun x32 =>
    K (x32) x31.2
theorem r22_2  : kCode env 22 false inv k (cp c22 14) (act 33 [(2, x2), (3, x3), (5, x5)]) h K =
    G22_2 inv x2 x3 x5 h fun y4 h => K .normal (act 33 [(4, y4)]) h := kq_reg
theorem res22_0 : resOfFn env.P 22 .ret (act 33 [(4, x4)]) h = some (x4, h) := kq_res
/-- shadowbook/model.SameAnswer -/
noncomputable def F22 (inv : Inv) (k : Nat) (x0 x1 : Value) (h : AH) : Option (Value × AH) :=
    bnd (pBox Tryz.prog 34 x0 h) fun x2 =>
    bnd (pBox Tryz.prog 34 x1 x2.2) fun x3 =>
    G22_2 inv x2.1 x3.1 (.func (.func 42) #[] #[]) x3.2 fun y4 h =>
    some (y4, h)
theorem F22_eq : eFun env k inv 22 #[x0, x1] h = F22 inv k x0 x1 h := by
      refine (kq_fun (a := act 33 [(0, x0), (1, x1)]) (c := cp c22 1)).trans ?_
      unfold F22
      simp only [kq_seq c22 1, r22_0, kq_seq c22 3, r22_1, kq_seq c22 7, r22_2, kq_ret c22 15, res22_0, reduceIte, reduceCtorEq, XE.exit.injEq, Nat.reduceEqDiff, Nat.reduceMul, Nat.reduceAdd] <;> kernel_rfl
theorem F22_call : eInv env (k + 1) (.func 22) #[] #[x0, x1] h = F22 (eInv env k) k x0 x1 h := kq_inv F22_eq
noncomputable def c23 : Code := codeOf Tryz.prog 23
theorem r23_0  : kCode env 23 false inv k (cp c23 2) (act 11 [(0, x0)]) h K =
    bnd (pAlloc Tryz.prog 58 h) fun x2 =>
    K .normal (act 11 [(0, x0), (2, x2.1)]) x2.2 := kq_reg
theorem r23_1  : kCode env 23 false inv k (cp c23 12) (act 11 [(0, x0), (2, x2)]) h K =
    bnd (pBin Tryz.prog .eql 28 (.tmp 3) (.const (.pointer none)) x0 (.pointer none)) fun x4 =>
    K .normal (act 11 [(0, x0), (2, x2), (4, x4)]) h := kq_reg
theorem b23_rlr  : kCode env 23 false inv k (cp c23 13) (act 11 [(0, x0), (2, x2), (4, x4)]) h K = brV x4 (kCode env 23 false inv k (cp c23 26) (act 11 [(0, x0), (2, x2), (4, x4)]) h K) (kCode env 23 false inv k (cp c23 27) (act 11 [(0, x0), (2, x2), (4, x4)]) h K) := kq_cond
theorem r23_2  : kCode env 23 false inv k (cp c23 52) (act 11 [(0, x0), (2, x2), (4, x4)]) h K =
    bnd (pBuild Tryz.prog 58 #[]) fun x5 =>
    bnd (kSt (pStore Tryz.prog 58 x2 x5 h)) fun u =>
    K .normal (act 11 [(2, x2)]) u.2 := kq_reg
theorem res23_0 : resOfFn env.P 23 .ret (act 11 [(2, x2)]) h = bnd (pLoad Tryz.prog 58 x2 h) fun q0 =>
    some (q0, h) := kq_res
theorem r23_3  : kCode env 23 false inv k (cp c23 14) (act 11 [(0, x0), (2, x2), (4, x4)]) h K =
    bnd (pNilCheck Tryz.prog x0) fun x7 =>
    bnd (pFieldAddr Tryz.prog 85 x7 0) fun x8 =>
    bnd (pLoad Tryz.prog 58 x8 h) fun x9 =>
    bnd (inv (.func 46) #[] #[x9] h) fun x10 =>
    bnd (kSt (pStore Tryz.prog 58 x2 x10.1 x10.2)) fun u =>
    K .normal (act 11 [(2, x2)]) u.2 := kq_reg
/-- (*shadowbook/model.Model).Head -/
noncomputable def F23 (inv : Inv) (k : Nat) (x0 : Value) (h : AH) : Option (Value × AH) :=
    bnd (pAlloc Tryz.prog 58 h) fun x2 =>
    bnd (pBin Tryz.prog .eql 28 (.tmp 3) (.const (.pointer none)) x0 (.pointer none)) fun x4 =>
    brV x4
    (bnd (pBuild Tryz.prog 58 #[]) fun x5 =>
    bnd (kSt (pStore Tryz.prog 58 x2.1 x5 x2.2)) fun u =>
    bnd (pLoad Tryz.prog 58 x2.1 u.2) fun q0 =>
    some (q0, u.2))
    (bnd (pNilCheck Tryz.prog x0) fun x7 =>
    bnd (pFieldAddr Tryz.prog 85 x7 0) fun x8 =>
    bnd (pLoad Tryz.prog 58 x8 x2.2) fun x9 =>
    bnd (inv (.func 46) #[] #[x9] x2.2) fun x10 =>
    bnd (kSt (pStore Tryz.prog 58 x2.1 x10.1 x10.2)) fun u_1 =>
    bnd (pLoad Tryz.prog 58 x2.1 u_1.2) fun q0 =>
    some (q0, u_1.2))
theorem F23_eq : eFun env k inv 23 #[x0] h = F23 inv k x0 h := by
      refine (kq_fun (a := act 11 [(0, x0)]) (c := cp c23 1)).trans ?_
      unfold F23
      simp only [kq_seq c23 1, r23_0, kq_seq c23 3, kq_seq c23 6, r23_1, b23_rlr, kq_seq c23 26, r23_2, kq_ret c23 53, res23_0, kq_skip c23 27, kq_seq c23 7, r23_3, kq_ret c23 15, reduceIte, reduceCtorEq, XE.exit.injEq, Nat.reduceEqDiff, Nat.reduceMul, Nat.reduceAdd] <;> kernel_rfl
theorem F23_call : eInv env (k + 1) (.func 23) #[] #[x0] h = F23 (eInv env k) k x0 h := kq_inv F23_eq
noncomputable def c24 : Code := codeOf Tryz.prog 24
theorem r24_0  : kCode env 24 false inv k (cp c24 2) (act 11 [(0, x0)]) h K =
    bnd (pAlloc Tryz.prog 58 h) fun x2 =>
    K .normal (act 11 [(0, x0), (2, x2.1)]) x2.2 := kq_reg
theorem r24_1  : kCode env 24 false inv k (cp c24 12) (act 11 [(0, x0), (2, x2)]) h K =
    bnd (pBin Tryz.prog .eql 28 (.tmp 3) (.const (.pointer none)) x0 (.pointer none)) fun x4 =>
    K .normal (act 11 [(0, x0), (2, x2), (4, x4)]) h := kq_reg
theorem b24_rlr  : kCode env 24 false inv k (cp c24 13) (act 11 [(0, x0), (2, x2), (4, x4)]) h K = brV x4 (kCode env 24 false inv k (cp c24 26) (act 11 [(0, x0), (2, x2), (4, x4)]) h K) (kCode env 24 false inv k (cp c24 27) (act 11 [(0, x0), (2, x2), (4, x4)]) h K) := kq_cond
theorem r24_2  : kCode env 24 false inv k (cp c24 52) (act 11 [(0, x0), (2, x2), (4, x4)]) h K =
    bnd (pBuild Tryz.prog 58 #[]) fun x5 =>
    bnd (kSt (pStore Tryz.prog 58 x2 x5 h)) fun u =>
    K .normal (act 11 [(2, x2)]) u.2 := kq_reg
theorem res24_0 : resOfFn env.P 24 .ret (act 11 [(2, x2)]) h = bnd (pLoad Tryz.prog 58 x2 h) fun q0 =>
    some (q0, h) := kq_res
theorem r24_3  : kCode env 24 false inv k (cp c24 14) (act 11 [(0, x0), (2, x2), (4, x4)]) h K =
    bnd (pNilCheck Tryz.prog x0) fun x7 =>
    bnd (pFieldAddr Tryz.prog 85 x7 1) fun x8 =>
    bnd (pLoad Tryz.prog 58 x8 h) fun x9 =>
    bnd (inv (.func 46) #[] #[x9] h) fun x10 =>
    bnd (kSt (pStore Tryz.prog 58 x2 x10.1 x10.2)) fun u =>
    K .normal (act 11 [(2, x2)]) u.2 := kq_reg
/-- (*shadowbook/model.Model).Kept -/
noncomputable def F24 (inv : Inv) (k : Nat) (x0 : Value) (h : AH) : Option (Value × AH) :=
    bnd (pAlloc Tryz.prog 58 h) fun x2 =>
    bnd (pBin Tryz.prog .eql 28 (.tmp 3) (.const (.pointer none)) x0 (.pointer none)) fun x4 =>
    brV x4
    (bnd (pBuild Tryz.prog 58 #[]) fun x5 =>
    bnd (kSt (pStore Tryz.prog 58 x2.1 x5 x2.2)) fun u =>
    bnd (pLoad Tryz.prog 58 x2.1 u.2) fun q0 =>
    some (q0, u.2))
    (bnd (pNilCheck Tryz.prog x0) fun x7 =>
    bnd (pFieldAddr Tryz.prog 85 x7 1) fun x8 =>
    bnd (pLoad Tryz.prog 58 x8 x2.2) fun x9 =>
    bnd (inv (.func 46) #[] #[x9] x2.2) fun x10 =>
    bnd (kSt (pStore Tryz.prog 58 x2.1 x10.1 x10.2)) fun u_1 =>
    bnd (pLoad Tryz.prog 58 x2.1 u_1.2) fun q0 =>
    some (q0, u_1.2))
theorem F24_eq : eFun env k inv 24 #[x0] h = F24 inv k x0 h := by
      refine (kq_fun (a := act 11 [(0, x0)]) (c := cp c24 1)).trans ?_
      unfold F24
      simp only [kq_seq c24 1, r24_0, kq_seq c24 3, kq_seq c24 6, r24_1, b24_rlr, kq_seq c24 26, r24_2, kq_ret c24 53, res24_0, kq_skip c24 27, kq_seq c24 7, r24_3, kq_ret c24 15, reduceIte, reduceCtorEq, XE.exit.injEq, Nat.reduceEqDiff, Nat.reduceMul, Nat.reduceAdd] <;> kernel_rfl
theorem F24_call : eInv env (k + 1) (.func 24) #[] #[x0] h = F24 (eInv env k) k x0 h := kq_inv F24_eq
noncomputable def c25 : Code := codeOf Tryz.prog 25
theorem r25_0  : kCode env 25 false inv k (cp c25 2) (act 17 [(0, x0), (1, x1)]) h K =
    bnd (pBox Tryz.prog 58 x0 h) fun x2 =>
    bnd (pBox Tryz.prog 58 x1 x2.2) fun x3 =>
    K .normal (act 17 [(2, x2.1), (3, x3.1)]) x3.2 := kq_reg
noncomputable abbrev G25_1 {β : Type} (inv : Inv) (x2 x3 : Value) (h : AH) (K : Value → AH → Option β) : Option β :=
    bnd (pFieldAddr Tryz.prog 58 x2 0) fun x5 =>
    bnd (pLoad Tryz.prog 55 x5 h) fun x6 =>
    bnd (pFieldAddr Tryz.prog 58 x3 0) fun x7 =>
    bnd (pLoad Tryz.prog 55 x7 h) fun x8 =>
    bnd (inv (.func 47) #[] #[x6, x8, (.func (.func 48) #[] #[])] h) fun x9 =>
    bnd (gd (some x9.1) true x9.2 (lt (pFieldAddr Tryz.prog 58 x2 1) x9.2)) fun x11 =>
    bnd (gd (some x9.1) true x11.2 (lt (pLoad Tryz.prog 56 x11.1 x11.2) x11.2)) fun x12 =>
    bnd (gd (some x9.1) true x12.2 (lt (pFieldAddr Tryz.prog 58 x3 1) x12.2)) fun x13 =>
    bnd (gd (some x9.1) true x13.2 (lt (pLoad Tryz.prog 56 x13.1 x13.2) x13.2)) fun x14 =>
    bnd (gd (some x9.1) true x14.2 (inv (.func 49) #[] #[x12.1, x14.1, (.func (.func 50) #[] #[])] x14.2)) fun x15 =>
    bnd (pickV x9.1 x15.1 (.bool false)) fun x16 =>
    K (x16) x15.2
theorem r25_1  : kCode env 25 false inv k (cp c25 6) (act 17 [(2, x2), (3, x3)]) h K =
    G25_1 inv x2 x3 h fun y4 h => K .normal (act 17 [(4, y4)]) h := kq_reg
theorem res25_0 : resOfFn env.P 25 .ret (act 17 [(4, x4)]) h = some (x4, h) := kq_res
/-- shadowbook/model.Same -/
noncomputable def F25 (inv : Inv) (k : Nat) (x0 x1 : Value) (h : AH) : Option (Value × AH) :=
    bnd (pBox Tryz.prog 58 x0 h) fun x2 =>
    bnd (pBox Tryz.prog 58 x1 x2.2) fun x3 =>
    G25_1 inv x2.1 x3.1 x3.2 fun y4 h =>
    some (y4, h)
theorem F25_eq : eFun env k inv 25 #[x0, x1] h = F25 inv k x0 x1 h := by
      refine (kq_fun (a := act 17 [(0, x0), (1, x1)]) (c := cp c25 1)).trans ?_
      unfold F25
      simp only [kq_seq c25 1, r25_0, kq_seq c25 3, r25_1, kq_ret c25 7, res25_0, reduceIte, reduceCtorEq, XE.exit.injEq, Nat.reduceEqDiff, Nat.reduceMul, Nat.reduceAdd] <;> kernel_rfl
theorem F25_call : eInv env (k + 1) (.func 25) #[] #[x0, x1] h = F25 (eInv env k) k x0 x1 h := kq_inv F25_eq
noncomputable def c35 : Code := codeOf Tryz.prog 35
theorem r35_0  : kCode env 35 false inv k (cp c35 2) (act 17 [(0, x0)]) h K =
    K .normal (act 17 [(0, x0)]) h := kq_reg
theorem r35_1  : kCode env 35 false inv k (cp c35 12) (act 17 [(0, x0)]) h K =
    bnd (pBin Tryz.prog .eql 28 (.tmp 3) (.const (.pointer none)) x0 (.pointer none)) fun x4 =>
    K .normal (act 17 [(0, x0), (4, x4)]) h := kq_reg
theorem b35_rlr  : kCode env 35 false inv k (cp c35 13) (act 17 [(0, x0), (4, x4)]) h K = brV x4 (kCode env 35 false inv k (cp c35 26) (act 17 [(0, x0), (4, x4)]) h K) (kCode env 35 false inv k (cp c35 27) (act 17 [(0, x0), (4, x4)]) h K) := kq_cond
theorem r35_2  : kCode env 35 false inv k (cp c35 52) (act 17 [(0, x0), (4, x4)]) h K =
    K .normal (act 17 [(2, (.pointer none))]) h := kq_reg
theorem res35_0 : resOfFn env.P 35 .ret (act 17 [(2, x2)]) h = some (x2, h) := kq_res
noncomputable abbrev G35_3 {β : Type} (inv : Inv) (x0 : Value) (h : AH) (K : Value → AH → Option β) : Option β :=
    bnd (pNilCheck Tryz.prog x0) fun x6 =>
    bnd (pFieldAddr Tryz.prog 85 x6 0) fun x7 =>
    bnd (pLoad Tryz.prog 58 x7 h) fun x8 =>
    bnd (inv (.func 46) #[] #[x8] h) fun x9 =>
    bnd (pNilCheck Tryz.prog x0) fun x11 =>
    bnd (pFieldAddr Tryz.prog 85 x11 1) fun x12 =>
    bnd (pLoad Tryz.prog 58 x12 x9.2) fun x13 =>
    bnd (inv (.func 46) #[] #[x13] x9.2) fun x14 =>
    bnd (pBuild Tryz.prog 85 #[(0, x9.1), (1, x14.1)]) fun x15 =>
    bnd (pBox Tryz.prog 85 x15 x14.2) fun x16 =>
    chkK ((!true || !true || (sameO (pLoad Tryz.prog 58 x12 h) x13 && sameO (pLoad Tryz.prog 58 x12 x9.2) x13)) && true) <|
    K (x16.1) x16.2
theorem r35_3  : kCode env 35 false inv k (cp c35 14) (act 17 [(0, x0), (4, x4)]) h K =
    G35_3 inv x0 h fun y2 h => K .normal (act 17 [(2, y2)]) h := kq_draw
/-- (*shadowbook/model.Model).Clone -/
noncomputable def F35 (inv : Inv) (k : Nat) (x0 : Value) (h : AH) : Option (Value × AH) :=
    bnd (pBin Tryz.prog .eql 28 (.tmp 3) (.const (.pointer none)) x0 (.pointer none)) fun x4 =>
    brV x4
    (some ((.pointer none), h))
    (G35_3 inv x0 h fun y2 h =>
    some (y2, h))
theorem F35_eq : eFun env k inv 35 #[x0] h = F35 inv k x0 h := by
      refine (kq_fun (a := act 17 [(0, x0)]) (c := cp c35 1)).trans ?_
      unfold F35
      simp only [kq_seq c35 1, r35_0, kq_seq c35 3, kq_seq c35 6, r35_1, b35_rlr, kq_seq c35 26, r35_2, kq_ret c35 53, res35_0, kq_skip c35 27, kq_seq c35 7, r35_3, kq_ret c35 15, reduceIte, reduceCtorEq, XE.exit.injEq, Nat.reduceEqDiff, Nat.reduceMul, Nat.reduceAdd] <;> kernel_rfl
theorem F35_call : eInv env (k + 1) (.func 35) #[] #[x0] h = F35 (eInv env k) k x0 h := kq_inv F35_eq
noncomputable def c39 : Code := codeOf Tryz.prog 39
theorem r39_0  : kCode env 39 false inv k (cp c39 2) (act 5 [(0, x0)]) h K =
    bnd (pAlloc Tryz.prog 34 h) fun x2 =>
    K .normal (act 5 [(0, x0), (2, x2.1)]) x2.2 := kq_reg
theorem r39_1  : kCode env 39 false inv k (cp c39 6) (act 5 [(0, x0), (2, x2)]) h K =
    bnd (pBuild Tryz.prog 34 #[(0, x0)]) fun x4 =>
    bnd (kSt (pStore Tryz.prog 34 x2 x4 h)) fun u =>
    K .normal (act 5 [(2, x2)]) u.2 := kq_reg
theorem res39_0 : resOfFn env.P 39 .ret (act 5 [(2, x2)]) h = bnd (pLoad Tryz.prog 34 x2 h) fun q0 =>
    some (q0, h) := kq_res
/-- shadowbook/model.failed -/
noncomputable def F39 (inv : Inv) (k : Nat) (x0 : Value) (h : AH) : Option (Value × AH) :=
    bnd (pAlloc Tryz.prog 34 h) fun x2 =>
    bnd (pBuild Tryz.prog 34 #[(0, x0)]) fun x4 =>
    bnd (kSt (pStore Tryz.prog 34 x2.1 x4 x2.2)) fun u =>
    bnd (pLoad Tryz.prog 34 x2.1 u.2) fun q0 =>
    some (q0, u.2)
theorem F39_eq : eFun env k inv 39 #[x0] h = F39 inv k x0 h := by
      refine (kq_fun (a := act 5 [(0, x0)]) (c := cp c39 1)).trans ?_
      unfold F39
      simp only [kq_seq c39 1, r39_0, kq_seq c39 3, r39_1, kq_ret c39 7, res39_0, reduceIte, reduceCtorEq, XE.exit.injEq, Nat.reduceEqDiff, Nat.reduceMul, Nat.reduceAdd] <;> kernel_rfl
theorem F39_call : eInv env (k + 1) (.func 39) #[] #[x0] h = F39 (eInv env k) k x0 h := kq_inv F39_eq
noncomputable def c44 : Code := codeOf Tryz.prog 44
theorem r44_0  : kCode env 44 false inv k (cp c44 2) (act 26 [(0, x0), (1, x1)]) h K =
    K .normal (act 26 [(0, x0), (1, x1)]) h := kq_reg
theorem r44_1  : kCode env 44 false inv k (cp c44 12) (act 26 [(0, x0), (1, x1)]) h K =
    bnd (pLen Tryz.prog #[32] x0 h) fun x7 =>
    bnd (pLen Tryz.prog #[32] x1 h) fun x9 =>
    bnd (pBin Tryz.prog .neq 3 (.tmp 7) (.tmp 9) x7 x9) fun x10 =>
    K .normal (act 26 [(0, x0), (1, x1), (10, x10)]) h := kq_reg
theorem b44_rlr  : kCode env 44 false inv k (cp c44 13) (act 26 [(0, x0), (1, x1), (10, x10)]) h K = brV x10 (kCode env 44 false inv k (cp c44 26) (act 26 [(0, x0), (1, x1), (10, x10)]) h K) (kCode env 44 false inv k (cp c44 27) (act 26 [(0, x0), (1, x1), (10, x10)]) h K) := kq_cond
theorem r44_2  : kCode env 44 false inv k (cp c44 52) (act 26 [(0, x0), (1, x1), (10, x10)]) h K =
    K .normal (act 26 [(4, (.bool false))]) h := kq_reg
theorem res44_0 : resOfFn env.P 44 .ret (act 26 [(4, x4)]) h = some (x4, h) := kq_res
theorem r44_3  : kCode env 44 false inv k (cp c44 28) (act 26 [(0, x0), (1, x1), (10, x10)]) h K =
    bnd (pLen Tryz.prog #[32] x0 h) fun x12 =>
    K .normal (act 26 [(0, x0), (1, x1), (12, x12), (13, (.int .i64 0))]) h := kq_reg
theorem r44_4  : kCode env 44 false inv k (cp c44 232) (act 26 [(0, x0), (1, x1), (12, x12), (13, x13)]) h K =
    bnd (pBin Tryz.prog .lss 3 (.tmp 13) (.tmp 12) x13 x12) fun x14 =>
    K .normal (act 26 [(0, x0), (1, x1), (12, x12), (13, x13), (14, x14)]) h := kq_reg
theorem b44_lrllrlrr  : kCode env 44 false inv k (cp c44 466) (act 26 [(0, x0), (1, x1), (12, x12), (13, x13), (14, x14)]) h K = brV x14 (kCode env 44 false inv k (cp c44 932) (act 26 [(0, x0), (1, x1), (12, x12), (13, x13), (14, x14)]) h K) (kCode env 44 false inv k (cp c44 933) (act 26 [(0, x0), (1, x1), (12, x12), (13, x13), (14, x14)]) h K) := kq_cond
theorem r44_5  : kCode env 44 false inv k (cp c44 3736) (act 26 [(0, x0), (1, x1), (12, x12), (13, x13), (14, x14)]) h K =
    K .normal (act 26 [(0, x0), (1, x1), (5, x13), (12, x12), (13, x13)]) h := kq_reg
theorem r44_6  : kCode env 44 false inv k (cp c44 7474) (act 26 [(0, x0), (1, x1), (5, x5), (12, x12), (13, x13)]) h K =
    bnd (pIndexAddr Tryz.prog 32 x0 x5) fun x18 =>
    bnd (pLoad Tryz.prog 9 x18 h) fun x19 =>
    bnd (pIndexAddr Tryz.prog 32 x1 x5) fun x22 =>
    bnd (pLoad Tryz.prog 9 x22 h) fun x23 =>
    bnd (pBin Tryz.prog .neq 9 (.tmp 19) (.tmp 23) x19 x23) fun x24 =>
    K .normal (act 26 [(0, x0), (1, x1), (12, x12), (13, x13), (24, x24)]) h := kq_draw
theorem b44_rrllrrllrlrr  : kCode env 44 false inv k (cp c44 7475) (act 26 [(0, x0), (1, x1), (12, x12), (13, x13), (24, x24)]) h K = brV x24 (kCode env 44 false inv k (cp c44 14950) (act 26 [(0, x0), (1, x1), (12, x12), (13, x13), (24, x24)]) h K) (kCode env 44 false inv k (cp c44 14951) (act 26 [(0, x0), (1, x1), (12, x12), (13, x13), (24, x24)]) h K) := kq_cond
theorem r44_7  : kCode env 44 false inv k (cp c44 29900) (act 26 [(0, x0), (1, x1), (12, x12), (13, x13), (24, x24)]) h K =
    K .normal (act 26 [(4, (.bool false))]) h := kq_reg
theorem r44_8  : kCode env 44 false inv k (cp c44 935) (act 26 [(0, x0), (1, x1), (12, x12), (13, x13), (24, x24)]) h K =
    bnd (pBin Tryz.prog .add 3 (.tmp 13) (.const (.int .i64 1)) x13 (.int .i64 1)) fun x25 =>
    K .normal (act 26 [(0, x0), (1, x1), (12, x12), (13, x25)]) h := kq_reg
noncomputable def F44_lrlrr {β : Type} (inv : Inv) (k : Nat) : Nat → Value → Value → Value → Value → AH → (Value → Value → Value → Value → Value → AH → Option β) → (Value → AH → Option β) → Option β
  | 0, _, _, _, _, _, _, _ => none
  | j + 1, x0, x1, x12, x13, h, ke0, kr =>
    bnd (pBin Tryz.prog .lss 3 (.tmp 13) (.tmp 12) x13 x12) fun x14 =>
    brV x14
    (bnd (pIndexAddr Tryz.prog 32 x0 x13) fun x18 =>
    bnd (pLoad Tryz.prog 9 x18 h) fun x19 =>
    bnd (pIndexAddr Tryz.prog 32 x1 x13) fun x22 =>
    bnd (pLoad Tryz.prog 9 x22 h) fun x23 =>
    bnd (pBin Tryz.prog .neq 9 (.tmp 19) (.tmp 23) x19 x23) fun x24 =>
    brV x24
    (kr (.bool false) h)
    (bnd (pBin Tryz.prog .add 3 (.tmp 13) (.const (.int .i64 1)) x13 (.int .i64 1)) fun x25 =>
    F44_lrlrr inv k j x0 x1 x12 x25 h ke0 kr))
    (ke0 x0 x1 x12 x13 x14 h)
theorem F44_lrlrr_j (j : Nat) : kLoop (kCode env 44 false inv k (cp c44 116)) j (act 26 [(0, x0), (1, x1), (12, x12), (13, x13)]) h K = F44_lrlrr inv k j x0 x1 x12 x13 h (fun y0 y1 y12 y13 y14 h => K (.exit 0) (act 26 [(0, y0), (1, y1), (12, y12), (13, y13), (14, y14)]) h) (fun y4 h => K .ret (act 26 [(4, y4)]) h) := by
      induction j generalizing x0 x1 x12 x13 h with
      | zero => rfl
      | succ j ih =>
        unfold F44_lrlrr
        simp only [kLoop, kq_seq c44 116, r44_4, kq_seq c44 233, b44_lrllrlrr, kq_skip c44 932, kq_seq c44 467, kq_block c44 934 1, kq_seq c44 1868, r44_5, kq_seq c44 3737, r44_6, b44_rrllrrllrlrr, kq_seq c44 14950, r44_7, kq_ret c44 29901, kq_skip c44 14951, r44_8, kq_exit c44 933 0, ih, reduceIte, reduceCtorEq, XE.exit.injEq, Nat.reduceEqDiff, Nat.reduceMul, Nat.reduceAdd] <;> kernel_rfl
theorem F44_lrlrr_eq  : kCode env 44 false inv k (cp c44 58) (act 26 [(0, x0), (1, x1), (12, x12), (13, x13)]) h K = F44_lrlrr inv k k x0 x1 x12 x13 h (fun y0 y1 y12 y13 y14 h => K (.exit 0) (act 26 [(0, y0), (1, y1), (12, y12), (13, y13), (14, y14)]) h) (fun y4 h => K .ret (act 26 [(4, y4)]) h) := kq_loop (F44_lrlrr_j k)
theorem r44_9  : kCode env 44 false inv k (cp c44 30) (act 26 [(0, x0), (1, x1), (12, x12), (13, x13), (14, x14)]) h K =
    K .normal (act 26 [(4, (.bool true))]) h := kq_reg
/-- slices.Equal[[]string,string] -/
noncomputable def F44 (inv : Inv) (k : Nat) (x0 x1 : Value) (h : AH) : Option (Value × AH) :=
    bnd (pLen Tryz.prog #[32] x0 h) fun x7 =>
    bnd (pLen Tryz.prog #[32] x1 h) fun x9 =>
    bnd (pBin Tryz.prog .neq 3 (.tmp 7) (.tmp 9) x7 x9) fun x10 =>
    brV x10
    (some ((.bool false), h))
    (bnd (pLen Tryz.prog #[32] x0 h) fun x12 =>
    F44_lrlrr inv k k x0 x1 x12 (.int .i64 0) h
    (fun y0 y1 y12 y13 y14 h =>
    some ((.bool true), h))
    (fun y4 h_1 =>
    some (y4, h_1)))
theorem F44_eq : eFun env k inv 44 #[x0, x1] h = F44 inv k x0 x1 h := by
      refine (kq_fun (a := act 26 [(0, x0), (1, x1)]) (c := cp c44 1)).trans ?_
      unfold F44
      simp only [kq_seq c44 1, r44_0, kq_seq c44 3, kq_seq c44 6, r44_1, b44_rlr, kq_seq c44 26, r44_2, kq_ret c44 53, res44_0, kq_skip c44 27, kq_seq c44 7, kq_seq c44 14, r44_3, kq_block c44 29 0, F44_lrlrr_eq, kq_seq c44 15, r44_9, kq_ret c44 31, reduceIte, reduceCtorEq, XE.exit.injEq, Nat.reduceEqDiff, Nat.reduceMul, Nat.reduceAdd] <;> kernel_rfl
theorem F44_call : eInv env (k + 1) (.func 44) #[] #[x0, x1] h = F44 (eInv env k) k x0 x1 h := kq_inv F44_eq
noncomputable def c45 : Code := codeOf Tryz.prog 45
theorem r45_0  : kCode env 45 false inv k (cp c45 2) (act 32 [(0, x0), (1, x1), (2, x2)]) h K =
    K .normal (act 32 [(0, x0), (1, x1), (2, x2)]) h := kq_reg
theorem r45_1  : kCode env 45 false inv k (cp c45 12) (act 32 [(0, x0), (1, x1), (2, x2)]) h K =
    bnd (pLen Tryz.prog #[31] x0 h) fun x11 =>
    bnd (pLen Tryz.prog #[31] x1 h) fun x13 =>
    bnd (pBin Tryz.prog .neq 3 (.tmp 11) (.tmp 13) x11 x13) fun x14 =>
    K .normal (act 32 [(0, x0), (1, x1), (2, x2), (14, x14)]) h := kq_reg
theorem b45_rlr  : kCode env 45 false inv k (cp c45 13) (act 32 [(0, x0), (1, x1), (2, x2), (14, x14)]) h K = brV x14 (kCode env 45 false inv k (cp c45 26) (act 32 [(0, x0), (1, x1), (2, x2), (14, x14)]) h K) (kCode env 45 false inv k (cp c45 27) (act 32 [(0, x0), (1, x1), (2, x2), (14, x14)]) h K) := kq_cond
theorem r45_2  : kCode env 45 false inv k (cp c45 52) (act 32 [(0, x0), (1, x1), (2, x2), (14, x14)]) h K =
    K .normal (act 32 [(6, (.bool false))]) h := kq_reg
theorem res45_0 : resOfFn env.P 45 .ret (act 32 [(6, x6)]) h = some (x6, h) := kq_res
theorem r45_3  : kCode env 45 false inv k (cp c45 28) (act 32 [(0, x0), (1, x1), (2, x2), (14, x14)]) h K =
    bnd (pLen Tryz.prog #[31] x0 h) fun x16 =>
    K .normal (act 32 [(1, x1), (2, x2), (15, x0), (16, x16), (17, (.int .i64 0))]) h := kq_reg
theorem r45_4  : kCode env 45 false inv k (cp c45 232) (act 32 [(1, x1), (2, x2), (15, x15), (16, x16), (17, x17)]) h K =
    bnd (pBin Tryz.prog .lss 3 (.tmp 17) (.tmp 16) x17 x16) fun x18 =>
    K .normal (act 32 [(1, x1), (2, x2), (15, x15), (16, x16), (17, x17), (18, x18)]) h := kq_reg
theorem b45_lrllrlrr  : kCode env 45 false inv k (cp c45 466) (act 32 [(1, x1), (2, x2), (15, x15), (16, x16), (17, x17), (18, x18)]) h K = brV x18 (kCode env 45 false inv k (cp c45 932) (act 32 [(1, x1), (2, x2), (15, x15), (16, x16), (17, x17), (18, x18)]) h K) (kCode env 45 false inv k (cp c45 933) (act 32 [(1, x1), (2, x2), (15, x15), (16, x16), (17, x17), (18, x18)]) h K) := kq_cond
theorem r45_5  : kCode env 45 false inv k (cp c45 3736) (act 32 [(1, x1), (2, x2), (15, x15), (16, x16), (17, x17), (18, x18)]) h K =
    bnd (pIndexAddr Tryz.prog 31 x15 x17) fun x20 =>
    bnd (pLoad Tryz.prog 45 x20 h) fun x21 =>
    K .normal (act 32 [(1, x1), (2, x2), (7, x17), (8, x21), (15, x15), (16, x16), (17, x17)]) h := kq_reg
theorem r45_6  : kCode env 45 false inv k (cp c45 7474) (act 32 [(1, x1), (2, x2), (7, x7), (8, x8), (15, x15), (16, x16), (17, x17)]) h K =
    bnd (pIndexAddr Tryz.prog 31 x1 x7) fun x24 =>
    bnd (pLoad Tryz.prog 45 x24 h) fun x25 =>
    K .normal (act 32 [(1, x1), (2, x2), (8, x8), (9, x25), (15, x15), (16, x16), (17, x17)]) h := kq_reg
theorem r45_7  : kCode env 45 false inv k (cp c45 14950) (act 32 [(1, x1), (2, x2), (8, x8), (9, x9), (15, x15), (16, x16), (17, x17)]) h K =
    bnd (callV inv x2 #[x8, x9] h) fun x29 =>
    bnd (pUn Tryz.prog .not x29.1) fun x30 =>
    K .normal (act 32 [(1, x1), (2, x2), (15, x15), (16, x16), (17, x17), (30, x30)]) x29.2 := kq_reg
theorem b45_rrrllrrllrlrr  : kCode env 45 false inv k (cp c45 14951) (act 32 [(1, x1), (2, x2), (15, x15), (16, x16), (17, x17), (30, x30)]) h K = brV x30 (kCode env 45 false inv k (cp c45 29902) (act 32 [(1, x1), (2, x2), (15, x15), (16, x16), (17, x17), (30, x30)]) h K) (kCode env 45 false inv k (cp c45 29903) (act 32 [(1, x1), (2, x2), (15, x15), (16, x16), (17, x17), (30, x30)]) h K) := kq_cond
theorem r45_8  : kCode env 45 false inv k (cp c45 59804) (act 32 [(1, x1), (2, x2), (15, x15), (16, x16), (17, x17), (30, x30)]) h K =
    K .normal (act 32 [(6, (.bool false))]) h := kq_reg
theorem r45_9  : kCode env 45 false inv k (cp c45 935) (act 32 [(1, x1), (2, x2), (15, x15), (16, x16), (17, x17), (30, x30)]) h K =
    bnd (pBin Tryz.prog .add 3 (.tmp 17) (.const (.int .i64 1)) x17 (.int .i64 1)) fun x31 =>
    K .normal (act 32 [(1, x1), (2, x2), (15, x15), (16, x16), (17, x31)]) h := kq_reg
noncomputable def F45_lrlrr {β : Type} (inv : Inv) (k : Nat) : Nat → Value → Value → Value → Value → Value → AH → (Value → Value → Value → Value → Value → Value → AH → Option β) → (Value → AH → Option β) → Option β
  | 0, _, _, _, _, _, _, _, _ => none
  | j + 1, x1, x2, x15, x16, x17, h, ke0, kr =>
    bnd (pBin Tryz.prog .lss 3 (.tmp 17) (.tmp 16) x17 x16) fun x18 =>
    brV x18
    (bnd (pIndexAddr Tryz.prog 31 x15 x17) fun x20 =>
    bnd (pLoad Tryz.prog 45 x20 h) fun x21 =>
    bnd (pIndexAddr Tryz.prog 31 x1 x17) fun x24 =>
    bnd (pLoad Tryz.prog 45 x24 h) fun x25 =>
    bnd (callV inv x2 #[x21, x25] h) fun x29 =>
    bnd (pUn Tryz.prog .not x29.1) fun x30 =>
    brV x30
    (kr (.bool false) x29.2)
    (bnd (pBin Tryz.prog .add 3 (.tmp 17) (.const (.int .i64 1)) x17 (.int .i64 1)) fun x31 =>
    F45_lrlrr inv k j x1 x2 x15 x16 x31 x29.2 ke0 kr))
    (ke0 x1 x2 x15 x16 x17 x18 h)
theorem F45_lrlrr_j (j : Nat) : kLoop (kCode env 45 false inv k (cp c45 116)) j (act 32 [(1, x1), (2, x2), (15, x15), (16, x16), (17, x17)]) h K = F45_lrlrr inv k j x1 x2 x15 x16 x17 h (fun y1 y2 y15 y16 y17 y18 h => K (.exit 0) (act 32 [(1, y1), (2, y2), (15, y15), (16, y16), (17, y17), (18, y18)]) h) (fun y6 h => K .ret (act 32 [(6, y6)]) h) := by
      induction j generalizing x1 x2 x15 x16 x17 h with
      | zero => rfl
      | succ j ih =>
        unfold F45_lrlrr
        simp only [kLoop, kq_seq c45 116, r45_4, kq_seq c45 233, b45_lrllrlrr, kq_skip c45 932, kq_seq c45 467, kq_block c45 934 1, kq_seq c45 1868, r45_5, kq_seq c45 3737, r45_6, kq_seq c45 7475, r45_7, b45_rrrllrrllrlrr, kq_seq c45 29902, r45_8, kq_ret c45 59805, kq_skip c45 29903, r45_9, kq_exit c45 933 0, ih, reduceIte, reduceCtorEq, XE.exit.injEq, Nat.reduceEqDiff, Nat.reduceMul, Nat.reduceAdd] <;> kernel_rfl
theorem F45_lrlrr_eq  : kCode env 45 false inv k (cp c45 58) (act 32 [(1, x1), (2, x2), (15, x15), (16, x16), (17, x17)]) h K = F45_lrlrr inv k k x1 x2 x15 x16 x17 h (fun y1 y2 y15 y16 y17 y18 h => K (.exit 0) (act 32 [(1, y1), (2, y2), (15, y15), (16, y16), (17, y17), (18, y18)]) h) (fun y6 h => K .ret (act 32 [(6, y6)]) h) := kq_loop (F45_lrlrr_j k)
theorem r45_10  : kCode env 45 false inv k (cp c45 30) (act 32 [(1, x1), (2, x2), (15, x15), (16, x16), (17, x17), (18, x18)]) h K =
    K .normal (act 32 [(6, (.bool true))]) h := kq_reg
/-- slices.EqualFunc[[][]shadowbook/api.Cell,[][]shadowbook/api.Cell,[]shadowbook/api.Cell,[]shadowbook/api.Cell] -/
noncomputable def F45 (inv : Inv) (k : Nat) (x0 x1 x2 : Value) (h : AH) : Option (Value × AH) :=
    bnd (pLen Tryz.prog #[31] x0 h) fun x11 =>
    bnd (pLen Tryz.prog #[31] x1 h) fun x13 =>
    bnd (pBin Tryz.prog .neq 3 (.tmp 11) (.tmp 13) x11 x13) fun x14 =>
    brV x14
    (some ((.bool false), h))
    (bnd (pLen Tryz.prog #[31] x0 h) fun x16 =>
    F45_lrlrr inv k k x1 x2 x0 x16 (.int .i64 0) h
    (fun y1 y2 y15 y16 y17 y18 h =>
    some ((.bool true), h))
    (fun y6 h_1 =>
    some (y6, h_1)))
theorem F45_eq : eFun env k inv 45 #[x0, x1, x2] h = F45 inv k x0 x1 x2 h := by
      refine (kq_fun (a := act 32 [(0, x0), (1, x1), (2, x2)]) (c := cp c45 1)).trans ?_
      unfold F45
      simp only [kq_seq c45 1, r45_0, kq_seq c45 3, kq_seq c45 6, r45_1, b45_rlr, kq_seq c45 26, r45_2, kq_ret c45 53, res45_0, kq_skip c45 27, kq_seq c45 7, kq_seq c45 14, r45_3, kq_block c45 29 0, F45_lrlrr_eq, kq_seq c45 15, r45_10, kq_ret c45 31, reduceIte, reduceCtorEq, XE.exit.injEq, Nat.reduceEqDiff, Nat.reduceMul, Nat.reduceAdd] <;> kernel_rfl
theorem F45_call : eInv env (k + 1) (.func 45) #[] #[x0, x1, x2] h = F45 (eInv env k) k x0 x1 x2 h := kq_inv F45_eq
noncomputable def c47 : Code := codeOf Tryz.prog 47
theorem r47_0  : kCode env 47 false inv k (cp c47 2) (act 32 [(0, x0), (1, x1), (2, x2)]) h K =
    K .normal (act 32 [(0, x0), (1, x1), (2, x2)]) h := kq_reg
theorem r47_1  : kCode env 47 false inv k (cp c47 12) (act 32 [(0, x0), (1, x1), (2, x2)]) h K =
    bnd (pLen Tryz.prog #[55] x0 h) fun x11 =>
    bnd (pLen Tryz.prog #[55] x1 h) fun x13 =>
    bnd (pBin Tryz.prog .neq 3 (.tmp 11) (.tmp 13) x11 x13) fun x14 =>
    K .normal (act 32 [(0, x0), (1, x1), (2, x2), (14, x14)]) h := kq_reg
theorem b47_rlr  : kCode env 47 false inv k (cp c47 13) (act 32 [(0, x0), (1, x1), (2, x2), (14, x14)]) h K = brV x14 (kCode env 47 false inv k (cp c47 26) (act 32 [(0, x0), (1, x1), (2, x2), (14, x14)]) h K) (kCode env 47 false inv k (cp c47 27) (act 32 [(0, x0), (1, x1), (2, x2), (14, x14)]) h K) := kq_cond
theorem r47_2  : kCode env 47 false inv k (cp c47 52) (act 32 [(0, x0), (1, x1), (2, x2), (14, x14)]) h K =
    K .normal (act 32 [(6, (.bool false))]) h := kq_reg
theorem res47_0 : resOfFn env.P 47 .ret (act 32 [(6, x6)]) h = some (x6, h) := kq_res
theorem r47_3  : kCode env 47 false inv k (cp c47 28) (act 32 [(0, x0), (1, x1), (2, x2), (14, x14)]) h K =
    bnd (pLen Tryz.prog #[55] x0 h) fun x16 =>
    K .normal (act 32 [(1, x1), (2, x2), (15, x0), (16, x16), (17, (.int .i64 0))]) h := kq_reg
theorem r47_4  : kCode env 47 false inv k (cp c47 232) (act 32 [(1, x1), (2, x2), (15, x15), (16, x16), (17, x17)]) h K =
    bnd (pBin Tryz.prog .lss 3 (.tmp 17) (.tmp 16) x17 x16) fun x18 =>
    K .normal (act 32 [(1, x1), (2, x2), (15, x15), (16, x16), (17, x17), (18, x18)]) h := kq_reg
theorem b47_lrllrlrr  : kCode env 47 false inv k (cp c47 466) (act 32 [(1, x1), (2, x2), (15, x15), (16, x16), (17, x17), (18, x18)]) h K = brV x18 (kCode env 47 false inv k (cp c47 932) (act 32 [(1, x1), (2, x2), (15, x15), (16, x16), (17, x17), (18, x18)]) h K) (kCode env 47 false inv k (cp c47 933) (act 32 [(1, x1), (2, x2), (15, x15), (16, x16), (17, x17), (18, x18)]) h K) := kq_cond
theorem r47_5  : kCode env 47 false inv k (cp c47 3736) (act 32 [(1, x1), (2, x2), (15, x15), (16, x16), (17, x17), (18, x18)]) h K =
    bnd (pIndexAddr Tryz.prog 55 x15 x17) fun x20 =>
    bnd (pLoad Tryz.prog 79 x20 h) fun x21 =>
    bnd (pAlloc Tryz.prog 79 h) fun x8 =>
    bnd (kSt (pStore Tryz.prog 79 x8.1 x21 x8.2)) fun u =>
    K .normal (act 32 [(1, x1), (2, x2), (7, x17), (8, x8.1), (15, x15), (16, x16), (17, x17)]) u.2 := kq_reg
theorem r47_6  : kCode env 47 false inv k (cp c47 7474) (act 32 [(1, x1), (2, x2), (7, x7), (8, x8), (15, x15), (16, x16), (17, x17)]) h K =
    bnd (pIndexAddr Tryz.prog 55 x1 x7) fun x24 =>
    bnd (pLoad Tryz.prog 79 x24 h) fun x25 =>
    bnd (pAlloc Tryz.prog 79 h) fun x9 =>
    bnd (kSt (pStore Tryz.prog 79 x9.1 x25 x9.2)) fun u =>
    K .normal (act 32 [(1, x1), (2, x2), (8, x8), (9, x9.1), (15, x15), (16, x16), (17, x17)]) u.2 := kq_reg
theorem r47_7  : kCode env 47 false inv k (cp c47 14950) (act 32 [(1, x1), (2, x2), (8, x8), (9, x9), (15, x15), (16, x16), (17, x17)]) h K =
    bnd (pLoad Tryz.prog 79 x8 h) fun x27 =>
    bnd (pLoad Tryz.prog 79 x9 h) fun x28 =>
    bnd (callV inv x2 #[x27, x28] h) fun x29 =>
    bnd (pUn Tryz.prog .not x29.1) fun x30 =>
    K .normal (act 32 [(1, x1), (2, x2), (15, x15), (16, x16), (17, x17), (30, x30)]) x29.2 := kq_reg
theorem b47_rrrllrrllrlrr  : kCode env 47 false inv k (cp c47 14951) (act 32 [(1, x1), (2, x2), (15, x15), (16, x16), (17, x17), (30, x30)]) h K = brV x30 (kCode env 47 false inv k (cp c47 29902) (act 32 [(1, x1), (2, x2), (15, x15), (16, x16), (17, x17), (30, x30)]) h K) (kCode env 47 false inv k (cp c47 29903) (act 32 [(1, x1), (2, x2), (15, x15), (16, x16), (17, x17), (30, x30)]) h K) := kq_cond
theorem r47_8  : kCode env 47 false inv k (cp c47 59804) (act 32 [(1, x1), (2, x2), (15, x15), (16, x16), (17, x17), (30, x30)]) h K =
    K .normal (act 32 [(6, (.bool false))]) h := kq_reg
theorem r47_9  : kCode env 47 false inv k (cp c47 935) (act 32 [(1, x1), (2, x2), (15, x15), (16, x16), (17, x17), (30, x30)]) h K =
    bnd (pBin Tryz.prog .add 3 (.tmp 17) (.const (.int .i64 1)) x17 (.int .i64 1)) fun x31 =>
    K .normal (act 32 [(1, x1), (2, x2), (15, x15), (16, x16), (17, x31)]) h := kq_reg
noncomputable def F47_lrlrr {β : Type} (inv : Inv) (k : Nat) : Nat → Value → Value → Value → Value → Value → AH → (Value → Value → Value → Value → Value → Value → AH → Option β) → (Value → AH → Option β) → Option β
  | 0, _, _, _, _, _, _, _, _ => none
  | j + 1, x1, x2, x15, x16, x17, h, ke0, kr =>
    bnd (pBin Tryz.prog .lss 3 (.tmp 17) (.tmp 16) x17 x16) fun x18 =>
    brV x18
    (bnd (pIndexAddr Tryz.prog 55 x15 x17) fun x20 =>
    bnd (pLoad Tryz.prog 79 x20 h) fun x21 =>
    bnd (pAlloc Tryz.prog 79 h) fun x8 =>
    bnd (kSt (pStore Tryz.prog 79 x8.1 x21 x8.2)) fun u =>
    bnd (pIndexAddr Tryz.prog 55 x1 x17) fun x24 =>
    bnd (pLoad Tryz.prog 79 x24 u.2) fun x25 =>
    bnd (pAlloc Tryz.prog 79 u.2) fun x9 =>
    bnd (kSt (pStore Tryz.prog 79 x9.1 x25 x9.2)) fun u_1 =>
    bnd (pLoad Tryz.prog 79 x8.1 u_1.2) fun x27 =>
    bnd (pLoad Tryz.prog 79 x9.1 u_1.2) fun x28 =>
    bnd (callV inv x2 #[x27, x28] u_1.2) fun x29 =>
    bnd (pUn Tryz.prog .not x29.1) fun x30 =>
    brV x30
    (kr (.bool false) x29.2)
    (bnd (pBin Tryz.prog .add 3 (.tmp 17) (.const (.int .i64 1)) x17 (.int .i64 1)) fun x31 =>
    F47_lrlrr inv k j x1 x2 x15 x16 x31 x29.2 ke0 kr))
    (ke0 x1 x2 x15 x16 x17 x18 h)
theorem F47_lrlrr_j (j : Nat) : kLoop (kCode env 47 false inv k (cp c47 116)) j (act 32 [(1, x1), (2, x2), (15, x15), (16, x16), (17, x17)]) h K = F47_lrlrr inv k j x1 x2 x15 x16 x17 h (fun y1 y2 y15 y16 y17 y18 h => K (.exit 0) (act 32 [(1, y1), (2, y2), (15, y15), (16, y16), (17, y17), (18, y18)]) h) (fun y6 h => K .ret (act 32 [(6, y6)]) h) := by
      induction j generalizing x1 x2 x15 x16 x17 h with
      | zero => rfl
      | succ j ih =>
        unfold F47_lrlrr
        simp only [kLoop, kq_seq c47 116, r47_4, kq_seq c47 233, b47_lrllrlrr, kq_skip c47 932, kq_seq c47 467, kq_block c47 934 1, kq_seq c47 1868, r47_5, kq_seq c47 3737, r47_6, kq_seq c47 7475, r47_7, b47_rrrllrrllrlrr, kq_seq c47 29902, r47_8, kq_ret c47 59805, kq_skip c47 29903, r47_9, kq_exit c47 933 0, ih, reduceIte, reduceCtorEq, XE.exit.injEq, Nat.reduceEqDiff, Nat.reduceMul, Nat.reduceAdd] <;> kernel_rfl
theorem F47_lrlrr_eq  : kCode env 47 false inv k (cp c47 58) (act 32 [(1, x1), (2, x2), (15, x15), (16, x16), (17, x17)]) h K = F47_lrlrr inv k k x1 x2 x15 x16 x17 h (fun y1 y2 y15 y16 y17 y18 h => K (.exit 0) (act 32 [(1, y1), (2, y2), (15, y15), (16, y16), (17, y17), (18, y18)]) h) (fun y6 h => K .ret (act 32 [(6, y6)]) h) := kq_loop (F47_lrlrr_j k)
theorem r47_10  : kCode env 47 false inv k (cp c47 30) (act 32 [(1, x1), (2, x2), (15, x15), (16, x16), (17, x17), (18, x18)]) h K =
    K .normal (act 32 [(6, (.bool true))]) h := kq_reg
/-- slices.EqualFunc[[]shadowbook/api.Table,[]shadowbook/api.Table,shadowbook/api.Table,shadowbook/api.Table] -/
noncomputable def F47 (inv : Inv) (k : Nat) (x0 x1 x2 : Value) (h : AH) : Option (Value × AH) :=
    bnd (pLen Tryz.prog #[55] x0 h) fun x11 =>
    bnd (pLen Tryz.prog #[55] x1 h) fun x13 =>
    bnd (pBin Tryz.prog .neq 3 (.tmp 11) (.tmp 13) x11 x13) fun x14 =>
    brV x14
    (some ((.bool false), h))
    (bnd (pLen Tryz.prog #[55] x0 h) fun x16 =>
    F47_lrlrr inv k k x1 x2 x0 x16 (.int .i64 0) h
    (fun y1 y2 y15 y16 y17 y18 h =>
    some ((.bool true), h))
    (fun y6 h_2 =>
    some (y6, h_2)))
theorem F47_eq : eFun env k inv 47 #[x0, x1, x2] h = F47 inv k x0 x1 x2 h := by
      refine (kq_fun (a := act 32 [(0, x0), (1, x1), (2, x2)]) (c := cp c47 1)).trans ?_
      unfold F47
      simp only [kq_seq c47 1, r47_0, kq_seq c47 3, kq_seq c47 6, r47_1, b47_rlr, kq_seq c47 26, r47_2, kq_ret c47 53, res47_0, kq_skip c47 27, kq_seq c47 7, kq_seq c47 14, r47_3, kq_block c47 29 0, F47_lrlrr_eq, kq_seq c47 15, r47_10, kq_ret c47 31, reduceIte, reduceCtorEq, XE.exit.injEq, Nat.reduceEqDiff, Nat.reduceMul, Nat.reduceAdd] <;> kernel_rfl
theorem F47_call : eInv env (k + 1) (.func 47) #[] #[x0, x1, x2] h = F47 (eInv env k) k x0 x1 x2 h := kq_inv F47_eq
noncomputable def c49 : Code := codeOf Tryz.prog 49
theorem r49_0  : kCode env 49 false inv k (cp c49 2) (act 32 [(0, x0), (1, x1), (2, x2)]) h K =
    K .normal (act 32 [(0, x0), (1, x1), (2, x2)]) h := kq_reg
theorem r49_1  : kCode env 49 false inv k (cp c49 12) (act 32 [(0, x0), (1, x1), (2, x2)]) h K =
    bnd (pLen Tryz.prog #[56] x0 h) fun x11 =>
    bnd (pLen Tryz.prog #[56] x1 h) fun x13 =>
    bnd (pBin Tryz.prog .neq 3 (.tmp 11) (.tmp 13) x11 x13) fun x14 =>
    K .normal (act 32 [(0, x0), (1, x1), (2, x2), (14, x14)]) h := kq_reg
theorem b49_rlr  : kCode env 49 false inv k (cp c49 13) (act 32 [(0, x0), (1, x1), (2, x2), (14, x14)]) h K = brV x14 (kCode env 49 false inv k (cp c49 26) (act 32 [(0, x0), (1, x1), (2, x2), (14, x14)]) h K) (kCode env 49 false inv k (cp c49 27) (act 32 [(0, x0), (1, x1), (2, x2), (14, x14)]) h K) := kq_cond
theorem r49_2  : kCode env 49 false inv k (cp c49 52) (act 32 [(0, x0), (1, x1), (2, x2), (14, x14)]) h K =
    K .normal (act 32 [(6, (.bool false))]) h := kq_reg
theorem res49_0 : resOfFn env.P 49 .ret (act 32 [(6, x6)]) h = some (x6, h) := kq_res
theorem r49_3  : kCode env 49 false inv k (cp c49 28) (act 32 [(0, x0), (1, x1), (2, x2), (14, x14)]) h K =
    bnd (pLen Tryz.prog #[56] x0 h) fun x16 =>
    K .normal (act 32 [(1, x1), (2, x2), (15, x0), (16, x16), (17, (.int .i64 0))]) h := kq_reg
theorem r49_4  : kCode env 49 false inv k (cp c49 232) (act 32 [(1, x1), (2, x2), (15, x15), (16, x16), (17, x17)]) h K =
    bnd (pBin Tryz.prog .lss 3 (.tmp 17) (.tmp 16) x17 x16) fun x18 =>
    K .normal (act 32 [(1, x1), (2, x2), (15, x15), (16, x16), (17, x17), (18, x18)]) h := kq_reg
theorem b49_lrllrlrr  : kCode env 49 false inv k (cp c49 466) (act 32 [(1, x1), (2, x2), (15, x15), (16, x16), (17, x17), (18, x18)]) h K = brV x18 (kCode env 49 false inv k (cp c49 932) (act 32 [(1, x1), (2, x2), (15, x15), (16, x16), (17, x17), (18, x18)]) h K) (kCode env 49 false inv k (cp c49 933) (act 32 [(1, x1), (2, x2), (15, x15), (16, x16), (17, x17), (18, x18)]) h K) := kq_cond
theorem r49_5  : kCode env 49 false inv k (cp c49 3736) (act 32 [(1, x1), (2, x2), (15, x15), (16, x16), (17, x17), (18, x18)]) h K =
    bnd (pIndexAddr Tryz.prog 56 x15 x17) fun x20 =>
    bnd (pLoad Tryz.prog 81 x20 h) fun x21 =>
    bnd (pAlloc Tryz.prog 81 h) fun x8 =>
    bnd (kSt (pStore Tryz.prog 81 x8.1 x21 x8.2)) fun u =>
    K .normal (act 32 [(1, x1), (2, x2), (7, x17), (8, x8.1), (15, x15), (16, x16), (17, x17)]) u.2 := kq_reg
theorem r49_6  : kCode env 49 false inv k (cp c49 7474) (act 32 [(1, x1), (2, x2), (7, x7), (8, x8), (15, x15), (16, x16), (17, x17)]) h K =
    bnd (pIndexAddr Tryz.prog 56 x1 x7) fun x24 =>
    bnd (pLoad Tryz.prog 81 x24 h) fun x25 =>
    bnd (pAlloc Tryz.prog 81 h) fun x9 =>
    bnd (kSt (pStore Tryz.prog 81 x9.1 x25 x9.2)) fun u =>
    K .normal (act 32 [(1, x1), (2, x2), (8, x8), (9, x9.1), (15, x15), (16, x16), (17, x17)]) u.2 := kq_reg
theorem r49_7  : kCode env 49 false inv k (cp c49 14950) (act 32 [(1, x1), (2, x2), (8, x8), (9, x9), (15, x15), (16, x16), (17, x17)]) h K =
    bnd (pLoad Tryz.prog 81 x8 h) fun x27 =>
    bnd (pLoad Tryz.prog 81 x9 h) fun x28 =>
    bnd (callV inv x2 #[x27, x28] h) fun x29 =>
    bnd (pUn Tryz.prog .not x29.1) fun x30 =>
    K .normal (act 32 [(1, x1), (2, x2), (15, x15), (16, x16), (17, x17), (30, x30)]) x29.2 := kq_reg
theorem b49_rrrllrrllrlrr  : kCode env 49 false inv k (cp c49 14951) (act 32 [(1, x1), (2, x2), (15, x15), (16, x16), (17, x17), (30, x30)]) h K = brV x30 (kCode env 49 false inv k (cp c49 29902) (act 32 [(1, x1), (2, x2), (15, x15), (16, x16), (17, x17), (30, x30)]) h K) (kCode env 49 false inv k (cp c49 29903) (act 32 [(1, x1), (2, x2), (15, x15), (16, x16), (17, x17), (30, x30)]) h K) := kq_cond
theorem r49_8  : kCode env 49 false inv k (cp c49 59804) (act 32 [(1, x1), (2, x2), (15, x15), (16, x16), (17, x17), (30, x30)]) h K =
    K .normal (act 32 [(6, (.bool false))]) h := kq_reg
theorem r49_9  : kCode env 49 false inv k (cp c49 935) (act 32 [(1, x1), (2, x2), (15, x15), (16, x16), (17, x17), (30, x30)]) h K =
    bnd (pBin Tryz.prog .add 3 (.tmp 17) (.const (.int .i64 1)) x17 (.int .i64 1)) fun x31 =>
    K .normal (act 32 [(1, x1), (2, x2), (15, x15), (16, x16), (17, x31)]) h := kq_reg
noncomputable def F49_lrlrr {β : Type} (inv : Inv) (k : Nat) : Nat → Value → Value → Value → Value → Value → AH → (Value → Value → Value → Value → Value → Value → AH → Option β) → (Value → AH → Option β) → Option β
  | 0, _, _, _, _, _, _, _, _ => none
  | j + 1, x1, x2, x15, x16, x17, h, ke0, kr =>
    bnd (pBin Tryz.prog .lss 3 (.tmp 17) (.tmp 16) x17 x16) fun x18 =>
    brV x18
    (bnd (pIndexAddr Tryz.prog 56 x15 x17) fun x20 =>
    bnd (pLoad Tryz.prog 81 x20 h) fun x21 =>
    bnd (pAlloc Tryz.prog 81 h) fun x8 =>
    bnd (kSt (pStore Tryz.prog 81 x8.1 x21 x8.2)) fun u =>
    bnd (pIndexAddr Tryz.prog 56 x1 x17) fun x24 =>
    bnd (pLoad Tryz.prog 81 x24 u.2) fun x25 =>
    bnd (pAlloc Tryz.prog 81 u.2) fun x9 =>
    bnd (kSt (pStore Tryz.prog 81 x9.1 x25 x9.2)) fun u_1 =>
    bnd (pLoad Tryz.prog 81 x8.1 u_1.2) fun x27 =>
    bnd (pLoad Tryz.prog 81 x9.1 u_1.2) fun x28 =>
    bnd (callV inv x2 #[x27, x28] u_1.2) fun x29 =>
    bnd (pUn Tryz.prog .not x29.1) fun x30 =>
    brV x30
    (kr (.bool false) x29.2)
    (bnd (pBin Tryz.prog .add 3 (.tmp 17) (.const (.int .i64 1)) x17 (.int .i64 1)) fun x31 =>
    F49_lrlrr inv k j x1 x2 x15 x16 x31 x29.2 ke0 kr))
    (ke0 x1 x2 x15 x16 x17 x18 h)
theorem F49_lrlrr_j (j : Nat) : kLoop (kCode env 49 false inv k (cp c49 116)) j (act 32 [(1, x1), (2, x2), (15, x15), (16, x16), (17, x17)]) h K = F49_lrlrr inv k j x1 x2 x15 x16 x17 h (fun y1 y2 y15 y16 y17 y18 h => K (.exit 0) (act 32 [(1, y1), (2, y2), (15, y15), (16, y16), (17, y17), (18, y18)]) h) (fun y6 h => K .ret (act 32 [(6, y6)]) h) := by
      induction j generalizing x1 x2 x15 x16 x17 h with
      | zero => rfl
      | succ j ih =>
        unfold F49_lrlrr
        simp only [kLoop, kq_seq c49 116, r49_4, kq_seq c49 233, b49_lrllrlrr, kq_skip c49 932, kq_seq c49 467, kq_block c49 934 1, kq_seq c49 1868, r49_5, kq_seq c49 3737, r49_6, kq_seq c49 7475, r49_7, b49_rrrllrrllrlrr, kq_seq c49 29902, r49_8, kq_ret c49 59805, kq_skip c49 29903, r49_9, kq_exit c49 933 0, ih, reduceIte, reduceCtorEq, XE.exit.injEq, Nat.reduceEqDiff, Nat.reduceMul, Nat.reduceAdd] <;> kernel_rfl
theorem F49_lrlrr_eq  : kCode env 49 false inv k (cp c49 58) (act 32 [(1, x1), (2, x2), (15, x15), (16, x16), (17, x17)]) h K = F49_lrlrr inv k k x1 x2 x15 x16 x17 h (fun y1 y2 y15 y16 y17 y18 h => K (.exit 0) (act 32 [(1, y1), (2, y2), (15, y15), (16, y16), (17, y17), (18, y18)]) h) (fun y6 h => K .ret (act 32 [(6, y6)]) h) := kq_loop (F49_lrlrr_j k)
theorem r49_10  : kCode env 49 false inv k (cp c49 30) (act 32 [(1, x1), (2, x2), (15, x15), (16, x16), (17, x17), (18, x18)]) h K =
    K .normal (act 32 [(6, (.bool true))]) h := kq_reg
/-- slices.EqualFunc[[]shadowbook/api.Frozen,[]shadowbook/api.Frozen,shadowbook/api.Frozen,shadowbook/api.Frozen] -/
noncomputable def F49 (inv : Inv) (k : Nat) (x0 x1 x2 : Value) (h : AH) : Option (Value × AH) :=
    bnd (pLen Tryz.prog #[56] x0 h) fun x11 =>
    bnd (pLen Tryz.prog #[56] x1 h) fun x13 =>
    bnd (pBin Tryz.prog .neq 3 (.tmp 11) (.tmp 13) x11 x13) fun x14 =>
    brV x14
    (some ((.bool false), h))
    (bnd (pLen Tryz.prog #[56] x0 h) fun x16 =>
    F49_lrlrr inv k k x1 x2 x0 x16 (.int .i64 0) h
    (fun y1 y2 y15 y16 y17 y18 h =>
    some ((.bool true), h))
    (fun y6 h_2 =>
    some (y6, h_2)))
theorem F49_eq : eFun env k inv 49 #[x0, x1, x2] h = F49 inv k x0 x1 x2 h := by
      refine (kq_fun (a := act 32 [(0, x0), (1, x1), (2, x2)]) (c := cp c49 1)).trans ?_
      unfold F49
      simp only [kq_seq c49 1, r49_0, kq_seq c49 3, kq_seq c49 6, r49_1, b49_rlr, kq_seq c49 26, r49_2, kq_ret c49 53, res49_0, kq_skip c49 27, kq_seq c49 7, kq_seq c49 14, r49_3, kq_block c49 29 0, F49_lrlrr_eq, kq_seq c49 15, r49_10, kq_ret c49 31, reduceIte, reduceCtorEq, XE.exit.injEq, Nat.reduceEqDiff, Nat.reduceMul, Nat.reduceAdd] <;> kernel_rfl
theorem F49_call : eInv env (k + 1) (.func 49) #[] #[x0, x1, x2] h = F49 (eInv env k) k x0 x1 x2 h := kq_inv F49_eq
end Go.Proofs.YtkdjlihldeafoaaGreat.Sh
