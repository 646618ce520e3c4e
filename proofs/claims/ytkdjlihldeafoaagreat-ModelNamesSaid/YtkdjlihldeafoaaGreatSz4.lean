/- Shallow functions, part 4. Printed by a program of the prover's own from the loaded program; Lean checks it. -/
import Derived.Test.YtkdjlihldeafoaaGreatSz3
set_option linter.unusedVariables false
set_option linter.unusedSimpArgs false
set_option maxRecDepth 100000
namespace Go.Proofs.YtkdjlihldeafoaaGreat.Sh
open Go Go.RowKit Go.Proofs.Ev
variable {β : Type} {inv : Inv} {k : Nat} {h : AH} {K : XE → Act → AH → Option β} {x0 x1 x2 x3 x4 x5 x6 x7 x8 x9 x10 x11 x12 x13 x14 x15 x16 x17 x18 x19 x20 x21 x22 x23 x24 x25 x26 x27 x28 x30 x31 x32 x33 x34 x35 x36 x38 x39 x40 x41 x42 x43 x44 x45 x46 x47 x48 x49 x50 x51 x52 x55 x56 x58 x60 x61 x62 x64 x65 : Value}
noncomputable def c186 : Code := codeOf Tryz.prog 186
theorem r186_0  : kCode env 186 false inv k (cp c186 2) (act 19 [(0, x0), (1, x1)]) h K =
    K .normal (act 19 [(0, x0), (1, x1)]) h := kq_reg
theorem r186_1  : kCode env 186 false inv k (cp c186 12) (act 19 [(0, x0), (1, x1)]) h K =
    bnd (pLen Tryz.prog #[31] x0 h) fun x7 =>
    K .normal (act 19 [(0, x0), (1, x1), (7, x7), (8, (.int .i64 0))]) h := kq_reg
theorem r186_2  : kCode env 186 false inv k (cp c186 104) (act 19 [(0, x0), (1, x1), (7, x7), (8, x8)]) h K =
    bnd (pBin Tryz.prog .lss 3 (.tmp 8) (.tmp 7) x8 x7) fun x9 =>
    K .normal (act 19 [(0, x0), (1, x1), (7, x7), (8, x8), (9, x9)]) h := kq_reg
theorem b186_lrllrlr  : kCode env 186 false inv k (cp c186 210) (act 19 [(0, x0), (1, x1), (7, x7), (8, x8), (9, x9)]) h K = brV x9 (kCode env 186 false inv k (cp c186 420) (act 19 [(0, x0), (1, x1), (7, x7), (8, x8), (9, x9)]) h K) (kCode env 186 false inv k (cp c186 421) (act 19 [(0, x0), (1, x1), (7, x7), (8, x8), (9, x9)]) h K) := kq_cond
theorem r186_3  : kCode env 186 false inv k (cp c186 1688) (act 19 [(0, x0), (1, x1), (7, x7), (8, x8), (9, x9)]) h K =
    K .normal (act 19 [(0, x0), (1, x1), (5, x8), (7, x7), (8, x8)]) h := kq_reg
theorem r186_4  : kCode env 186 false inv k (cp c186 3378) (act 19 [(0, x0), (1, x1), (5, x5), (7, x7), (8, x8)]) h K =
    bnd (pIndexAddr Tryz.prog 31 x0 x5) fun x14 =>
    bnd (pLoad Tryz.prog 45 x14 h) fun x15 =>
    bnd (callV inv x1 #[x15] h) fun x16 =>
    K .normal (act 19 [(0, x0), (1, x1), (5, x5), (7, x7), (8, x8), (16, x16.1)]) x16.2 := kq_reg
theorem b186_rrllrrllrlr  : kCode env 186 false inv k (cp c186 3379) (act 19 [(0, x0), (1, x1), (5, x5), (7, x7), (8, x8), (16, x16)]) h K = brV x16 (kCode env 186 false inv k (cp c186 6758) (act 19 [(0, x0), (1, x1), (5, x5), (7, x7), (8, x8), (16, x16)]) h K) (kCode env 186 false inv k (cp c186 6759) (act 19 [(0, x0), (1, x1), (5, x5), (7, x7), (8, x8), (16, x16)]) h K) := kq_cond
theorem r186_5  : kCode env 186 false inv k (cp c186 13516) (act 19 [(0, x0), (1, x1), (5, x5), (7, x7), (8, x8), (16, x16)]) h K =
    K .normal (act 19 [(4, x5)]) h := kq_reg
theorem r186_6  : kCode env 186 false inv k (cp c186 423) (act 19 [(0, x0), (1, x1), (5, x5), (7, x7), (8, x8), (16, x16)]) h K =
    bnd (pBin Tryz.prog .add 3 (.tmp 8) (.const (.int .i64 1)) x8 (.int .i64 1)) fun x18 =>
    K .normal (act 19 [(0, x0), (1, x1), (7, x7), (8, x18)]) h := kq_reg
noncomputable def F186_lrlr {β : Type} (inv : Inv) (k : Nat) : Nat → Value → Value → Value → Value → AH → (Value → Value → Value → Value → Value → AH → Option β) → (Value → AH → Option β) → Option β
  | 0, _, _, _, _, _, _, _ => none
  | j + 1, x0, x1, x7, x8, h, ke0, kr =>
    bnd (pBin Tryz.prog .lss 3 (.tmp 8) (.tmp 7) x8 x7) fun x9 =>
    brV x9
    (bnd (pIndexAddr Tryz.prog 31 x0 x8) fun x14 =>
    bnd (pLoad Tryz.prog 45 x14 h) fun x15 =>
    bnd (callV inv x1 #[x15] h) fun x16 =>
    brV x16.1
    (kr x8 x16.2)
    (bnd (pBin Tryz.prog .add 3 (.tmp 8) (.const (.int .i64 1)) x8 (.int .i64 1)) fun x18 =>
    F186_lrlr inv k j x0 x1 x7 x18 x16.2 ke0 kr))
    (ke0 x0 x1 x7 x8 x9 h)
theorem F186_lrlr_j (j : Nat) : kLoop (kCode env 186 false inv k (cp c186 52)) j (act 19 [(0, x0), (1, x1), (7, x7), (8, x8)]) h K = F186_lrlr inv k j x0 x1 x7 x8 h (fun y0 y1 y7 y8 y9 h => K (.exit 0) (act 19 [(0, y0), (1, y1), (7, y7), (8, y8), (9, y9)]) h) (fun y4 h => K .ret (act 19 [(4, y4)]) h) := by
      induction j generalizing x0 x1 x7 x8 h with
      | zero => rfl
      | succ j ih =>
        unfold F186_lrlr
        simp only [kLoop, kq_seq c186 52, r186_2, kq_seq c186 105, b186_lrllrlr, kq_skip c186 420, kq_seq c186 211, kq_block c186 422 1, kq_seq c186 844, r186_3, kq_seq c186 1689, r186_4, b186_rrllrrllrlr, kq_seq c186 6758, r186_5, kq_ret c186 13517, kq_skip c186 6759, r186_6, kq_exit c186 421 0, ih, reduceIte, reduceCtorEq, XE.exit.injEq, Nat.reduceEqDiff, Nat.reduceMul, Nat.reduceAdd] <;> kernel_rfl
theorem F186_lrlr_eq  : kCode env 186 false inv k (cp c186 26) (act 19 [(0, x0), (1, x1), (7, x7), (8, x8)]) h K = F186_lrlr inv k k x0 x1 x7 x8 h (fun y0 y1 y7 y8 y9 h => K (.exit 0) (act 19 [(0, y0), (1, y1), (7, y7), (8, y8), (9, y9)]) h) (fun y4 h => K .ret (act 19 [(4, y4)]) h) := kq_loop (F186_lrlr_j k)
theorem r186_7  : kCode env 186 false inv k (cp c186 14) (act 19 [(0, x0), (1, x1), (7, x7), (8, x8), (9, x9)]) h K =
    K .normal (act 19 [(4, (.int .i64 (-1)))]) h := kq_reg
theorem res186_0 : resOfFn env.P 186 .ret (act 19 [(4, x4)]) h = some (x4, h) := kq_res
/-- slices.IndexFunc[[][]shadowbook/api.Cell,[]shadowbook/api.Cell] -/
noncomputable def F186 (inv : Inv) (k : Nat) (x0 x1 : Value) (h : AH) : Option (Value × AH) :=
    bnd (pLen Tryz.prog #[31] x0 h) fun x7 =>
    F186_lrlr inv k k x0 x1 x7 (.int .i64 0) h
    (fun y0 y1 y7 y8 y9 h =>
    some ((.int .i64 (-1)), h))
    (fun y4 h_1 =>
    some (y4, h_1))
theorem F186_eq : eFun env k inv 186 #[x0, x1] h = F186 inv k x0 x1 h := by
      refine (kq_fun (a := act 19 [(0, x0), (1, x1)]) (c := cp c186 1)).trans ?_
      unfold F186
      simp only [kq_seq c186 1, r186_0, kq_seq c186 3, kq_seq c186 6, r186_1, kq_block c186 13 0, F186_lrlr_eq, kq_seq c186 7, r186_7, kq_ret c186 15, res186_0, reduceIte, reduceCtorEq, XE.exit.injEq, Nat.reduceEqDiff, Nat.reduceMul, Nat.reduceAdd] <;> kernel_rfl
theorem F186_call : eInv env (k + 1) (.func 186) #[] #[x0, x1] h = F186 (eInv env k) k x0 x1 h := kq_inv F186_eq
noncomputable def c187 : Code := codeOf Tryz.prog 187
theorem r187_0  : kCode env 187 false inv k (cp c187 2) (act 5 [(0, x0)]) h K =
    K .normal (act 5 [(0, x0)]) h := kq_reg
theorem r187_1  : kCode env 187 false inv k (cp c187 6) (act 5 [(0, x0)]) h K =
    bnd (pBin Tryz.prog .eql 3 (.tmp 3) (.const (.int .i64 0)) x0 (.int .i64 0)) fun x4 =>
    K .normal (act 5 [(2, x4)]) h := kq_reg
theorem res187_0 : resOfFn env.P 187 .ret (act 5 [(2, x2)]) h = some (x2, h) := kq_res
/-- shadowbook/pred.orders$1 -/
noncomputable def F187 (inv : Inv) (k : Nat) (x0 : Value) (h : AH) : Option (Value × AH) :=
    bnd (pBin Tryz.prog .eql 3 (.tmp 3) (.const (.int .i64 0)) x0 (.int .i64 0)) fun x4 =>
    some (x4, h)
theorem F187_eq : eFun env k inv 187 #[x0] h = F187 inv k x0 h := by
      refine (kq_fun (a := act 5 [(0, x0)]) (c := cp c187 1)).trans ?_
      unfold F187
      simp only [kq_seq c187 1, r187_0, kq_seq c187 3, r187_1, kq_ret c187 7, res187_0, reduceIte, reduceCtorEq, XE.exit.injEq, Nat.reduceEqDiff, Nat.reduceMul, Nat.reduceAdd] <;> kernel_rfl
theorem F187_call : eInv env (k + 1) (.func 187) #[] #[x0] h = F187 (eInv env k) k x0 h := kq_inv F187_eq
noncomputable def c188 : Code := codeOf Tryz.prog 188
theorem r188_0  : kCode env 188 false inv k (cp c188 2) (act 5 [(0, x0)]) h K =
    K .normal (act 5 [(0, x0)]) h := kq_reg
theorem r188_1  : kCode env 188 false inv k (cp c188 6) (act 5 [(0, x0)]) h K =
    bnd (pBin Tryz.prog .lss 3 (.tmp 3) (.const (.int .i64 0)) x0 (.int .i64 0)) fun x4 =>
    K .normal (act 5 [(2, x4)]) h := kq_reg
theorem res188_0 : resOfFn env.P 188 .ret (act 5 [(2, x2)]) h = some (x2, h) := kq_res
/-- shadowbook/pred.orders$2 -/
noncomputable def F188 (inv : Inv) (k : Nat) (x0 : Value) (h : AH) : Option (Value × AH) :=
    bnd (pBin Tryz.prog .lss 3 (.tmp 3) (.const (.int .i64 0)) x0 (.int .i64 0)) fun x4 =>
    some (x4, h)
theorem F188_eq : eFun env k inv 188 #[x0] h = F188 inv k x0 h := by
      refine (kq_fun (a := act 5 [(0, x0)]) (c := cp c188 1)).trans ?_
      unfold F188
      simp only [kq_seq c188 1, r188_0, kq_seq c188 3, r188_1, kq_ret c188 7, res188_0, reduceIte, reduceCtorEq, XE.exit.injEq, Nat.reduceEqDiff, Nat.reduceMul, Nat.reduceAdd] <;> kernel_rfl
theorem F188_call : eInv env (k + 1) (.func 188) #[] #[x0] h = F188 (eInv env k) k x0 h := kq_inv F188_eq
noncomputable def c189 : Code := codeOf Tryz.prog 189
theorem r189_0  : kCode env 189 false inv k (cp c189 2) (act 5 [(0, x0)]) h K =
    K .normal (act 5 [(0, x0)]) h := kq_reg
theorem r189_1  : kCode env 189 false inv k (cp c189 6) (act 5 [(0, x0)]) h K =
    bnd (pBin Tryz.prog .gtr 3 (.tmp 3) (.const (.int .i64 0)) x0 (.int .i64 0)) fun x4 =>
    K .normal (act 5 [(2, x4)]) h := kq_reg
theorem res189_0 : resOfFn env.P 189 .ret (act 5 [(2, x2)]) h = some (x2, h) := kq_res
/-- shadowbook/pred.orders$3 -/
noncomputable def F189 (inv : Inv) (k : Nat) (x0 : Value) (h : AH) : Option (Value × AH) :=
    bnd (pBin Tryz.prog .gtr 3 (.tmp 3) (.const (.int .i64 0)) x0 (.int .i64 0)) fun x4 =>
    some (x4, h)
theorem F189_eq : eFun env k inv 189 #[x0] h = F189 inv k x0 h := by
      refine (kq_fun (a := act 5 [(0, x0)]) (c := cp c189 1)).trans ?_
      unfold F189
      simp only [kq_seq c189 1, r189_0, kq_seq c189 3, r189_1, kq_ret c189 7, res189_0, reduceIte, reduceCtorEq, XE.exit.injEq, Nat.reduceEqDiff, Nat.reduceMul, Nat.reduceAdd] <;> kernel_rfl
theorem F189_call : eInv env (k + 1) (.func 189) #[] #[x0] h = F189 (eInv env k) k x0 h := kq_inv F189_eq
noncomputable def c190 : Code := codeOf Tryz.prog 190
theorem r190_0  : kCode env 190 false inv k (cp c190 2) (act 19 [(0, x0), (1, x1)]) h K =
    K .normal (act 19 [(0, x0), (1, x1)]) h := kq_reg
theorem r190_1  : kCode env 190 false inv k (cp c190 12) (act 19 [(0, x0), (1, x1)]) h K =
    bnd (pLen Tryz.prog #[108] x0 h) fun x7 =>
    K .normal (act 19 [(0, x0), (1, x1), (7, x7), (8, (.int .i64 0))]) h := kq_reg
theorem r190_2  : kCode env 190 false inv k (cp c190 104) (act 19 [(0, x0), (1, x1), (7, x7), (8, x8)]) h K =
    bnd (pBin Tryz.prog .lss 3 (.tmp 8) (.tmp 7) x8 x7) fun x9 =>
    K .normal (act 19 [(0, x0), (1, x1), (7, x7), (8, x8), (9, x9)]) h := kq_reg
theorem b190_lrllrlr  : kCode env 190 false inv k (cp c190 210) (act 19 [(0, x0), (1, x1), (7, x7), (8, x8), (9, x9)]) h K = brV x9 (kCode env 190 false inv k (cp c190 420) (act 19 [(0, x0), (1, x1), (7, x7), (8, x8), (9, x9)]) h K) (kCode env 190 false inv k (cp c190 421) (act 19 [(0, x0), (1, x1), (7, x7), (8, x8), (9, x9)]) h K) := kq_cond
theorem r190_3  : kCode env 190 false inv k (cp c190 1688) (act 19 [(0, x0), (1, x1), (7, x7), (8, x8), (9, x9)]) h K =
    K .normal (act 19 [(0, x0), (1, x1), (5, x8), (7, x7), (8, x8)]) h := kq_reg
theorem r190_4  : kCode env 190 false inv k (cp c190 3378) (act 19 [(0, x0), (1, x1), (5, x5), (7, x7), (8, x8)]) h K =
    bnd (pIndexAddr Tryz.prog 108 x0 x5) fun x14 =>
    bnd (pLoad Tryz.prog 4 x14 h) fun x15 =>
    bnd (pBin Tryz.prog .eql 4 (.tmp 11) (.tmp 15) x1 x15) fun x16 =>
    K .normal (act 19 [(0, x0), (1, x1), (5, x5), (7, x7), (8, x8), (16, x16)]) h := kq_reg
theorem b190_rrllrrllrlr  : kCode env 190 false inv k (cp c190 3379) (act 19 [(0, x0), (1, x1), (5, x5), (7, x7), (8, x8), (16, x16)]) h K = brV x16 (kCode env 190 false inv k (cp c190 6758) (act 19 [(0, x0), (1, x1), (5, x5), (7, x7), (8, x8), (16, x16)]) h K) (kCode env 190 false inv k (cp c190 6759) (act 19 [(0, x0), (1, x1), (5, x5), (7, x7), (8, x8), (16, x16)]) h K) := kq_cond
theorem r190_5  : kCode env 190 false inv k (cp c190 13516) (act 19 [(0, x0), (1, x1), (5, x5), (7, x7), (8, x8), (16, x16)]) h K =
    K .normal (act 19 [(4, x5)]) h := kq_reg
theorem r190_6  : kCode env 190 false inv k (cp c190 423) (act 19 [(0, x0), (1, x1), (5, x5), (7, x7), (8, x8), (16, x16)]) h K =
    bnd (pBin Tryz.prog .add 3 (.tmp 8) (.const (.int .i64 1)) x8 (.int .i64 1)) fun x18 =>
    K .normal (act 19 [(0, x0), (1, x1), (7, x7), (8, x18)]) h := kq_reg
noncomputable def F190_lrlr {β : Type} (inv : Inv) (k : Nat) : Nat → Value → Value → Value → Value → AH → (Value → Value → Value → Value → Value → AH → Option β) → (Value → AH → Option β) → Option β
  | 0, _, _, _, _, _, _, _ => none
  | j + 1, x0, x1, x7, x8, h, ke0, kr =>
    bnd (pBin Tryz.prog .lss 3 (.tmp 8) (.tmp 7) x8 x7) fun x9 =>
    brV x9
    (bnd (pIndexAddr Tryz.prog 108 x0 x8) fun x14 =>
    bnd (pLoad Tryz.prog 4 x14 h) fun x15 =>
    bnd (pBin Tryz.prog .eql 4 (.tmp 11) (.tmp 15) x1 x15) fun x16 =>
    brV x16
    (kr x8 h)
    (bnd (pBin Tryz.prog .add 3 (.tmp 8) (.const (.int .i64 1)) x8 (.int .i64 1)) fun x18 =>
    F190_lrlr inv k j x0 x1 x7 x18 h ke0 kr))
    (ke0 x0 x1 x7 x8 x9 h)
theorem F190_lrlr_j (j : Nat) : kLoop (kCode env 190 false inv k (cp c190 52)) j (act 19 [(0, x0), (1, x1), (7, x7), (8, x8)]) h K = F190_lrlr inv k j x0 x1 x7 x8 h (fun y0 y1 y7 y8 y9 h => K (.exit 0) (act 19 [(0, y0), (1, y1), (7, y7), (8, y8), (9, y9)]) h) (fun y4 h => K .ret (act 19 [(4, y4)]) h) := by
      induction j generalizing x0 x1 x7 x8 h with
      | zero => rfl
      | succ j ih =>
        unfold F190_lrlr
        simp only [kLoop, kq_seq c190 52, r190_2, kq_seq c190 105, b190_lrllrlr, kq_skip c190 420, kq_seq c190 211, kq_block c190 422 1, kq_seq c190 844, r190_3, kq_seq c190 1689, r190_4, b190_rrllrrllrlr, kq_seq c190 6758, r190_5, kq_ret c190 13517, kq_skip c190 6759, r190_6, kq_exit c190 421 0, ih, reduceIte, reduceCtorEq, XE.exit.injEq, Nat.reduceEqDiff, Nat.reduceMul, Nat.reduceAdd] <;> kernel_rfl
theorem F190_lrlr_eq  : kCode env 190 false inv k (cp c190 26) (act 19 [(0, x0), (1, x1), (7, x7), (8, x8)]) h K = F190_lrlr inv k k x0 x1 x7 x8 h (fun y0 y1 y7 y8 y9 h => K (.exit 0) (act 19 [(0, y0), (1, y1), (7, y7), (8, y8), (9, y9)]) h) (fun y4 h => K .ret (act 19 [(4, y4)]) h) := kq_loop (F190_lrlr_j k)
theorem r190_7  : kCode env 190 false inv k (cp c190 14) (act 19 [(0, x0), (1, x1), (7, x7), (8, x8), (9, x9)]) h K =
    K .normal (act 19 [(4, (.int .i64 (-1)))]) h := kq_reg
theorem res190_0 : resOfFn env.P 190 .ret (act 19 [(4, x4)]) h = some (x4, h) := kq_res
/-- slices.Index[[]bool,bool] -/
noncomputable def F190 (inv : Inv) (k : Nat) (x0 x1 : Value) (h : AH) : Option (Value × AH) :=
    bnd (pLen Tryz.prog #[108] x0 h) fun x7 =>
    F190_lrlr inv k k x0 x1 x7 (.int .i64 0) h
    (fun y0 y1 y7 y8 y9 h =>
    some ((.int .i64 (-1)), h))
    (fun y4 h_1 =>
    some (y4, h_1))
theorem F190_eq : eFun env k inv 190 #[x0, x1] h = F190 inv k x0 x1 h := by
      refine (kq_fun (a := act 19 [(0, x0), (1, x1)]) (c := cp c190 1)).trans ?_
      unfold F190
      simp only [kq_seq c190 1, r190_0, kq_seq c190 3, kq_seq c190 6, r190_1, kq_block c190 13 0, F190_lrlr_eq, kq_seq c190 7, r190_7, kq_ret c190 15, res190_0, reduceIte, reduceCtorEq, XE.exit.injEq, Nat.reduceEqDiff, Nat.reduceMul, Nat.reduceAdd] <;> kernel_rfl
theorem F190_call : eInv env (k + 1) (.func 190) #[] #[x0, x1] h = F190 (eInv env k) k x0 x1 h := kq_inv F190_eq
noncomputable def c191 : Code := codeOf Tryz.prog 191
theorem r191_0  : kCode env 191 false inv k (cp c191 2) (act 21 [(0, x0)]) h K =
    K .normal (act 21 [(0, x0)]) h := kq_reg
theorem r191_1  : kCode env 191 false inv k (cp c191 6) (act 21 [(0, x0)]) h K =
    K .normal (act 21 [(0, x0), (3, (.slice none 0 0))]) h := kq_reg
theorem r191_2  : kCode env 191 false inv k (cp c191 28) (act 21 [(0, x0), (3, x3)]) h K =
    bnd (pLen Tryz.prog #[45] x0 h) fun x7 =>
    K .normal (act 21 [(3, x3), (6, x0), (7, x7), (8, (.int .i64 0))]) h := kq_reg
theorem r191_3  : kCode env 191 false inv k (cp c191 232) (act 21 [(3, x3), (6, x6), (7, x7), (8, x8)]) h K =
    bnd (pBin Tryz.prog .lss 3 (.tmp 8) (.tmp 7) x8 x7) fun x9 =>
    K .normal (act 21 [(3, x3), (6, x6), (7, x7), (8, x8), (9, x9)]) h := kq_reg
theorem b191_lrllrlrr  : kCode env 191 false inv k (cp c191 466) (act 21 [(3, x3), (6, x6), (7, x7), (8, x8), (9, x9)]) h K = brV x9 (kCode env 191 false inv k (cp c191 932) (act 21 [(3, x3), (6, x6), (7, x7), (8, x8), (9, x9)]) h K) (kCode env 191 false inv k (cp c191 933) (act 21 [(3, x3), (6, x6), (7, x7), (8, x8), (9, x9)]) h K) := kq_cond
theorem r191_4  : kCode env 191 false inv k (cp c191 3736) (act 21 [(3, x3), (6, x6), (7, x7), (8, x8), (9, x9)]) h K =
    bnd (pIndexAddr Tryz.prog 45 x6 x8) fun x10 =>
    bnd (pLoad Tryz.prog 49 x10 h) fun x11 =>
    bnd (pAlloc Tryz.prog 49 h) fun x5 =>
    bnd (kSt (pStore Tryz.prog 49 x5.1 x11 x5.2)) fun u =>
    K .normal (act 21 [(3, x3), (5, x5.1), (6, x6), (7, x7), (8, x8)]) u.2 := kq_reg
theorem r191_5  : kCode env 191 false inv k (cp c191 14948) (act 21 [(3, x3), (5, x5), (6, x6), (7, x7), (8, x8)]) h K =
    bnd (pLoad Tryz.prog 49 x5 h) fun x12 =>
    bnd (inv (.func 167) #[] #[x12] h) fun x13 =>
    bnd (pBin Tryz.prog .neq 30 (.tmp 13) (.const (.int .i64 0)) x13.1 (.int .i64 0)) fun x14 =>
    K .normal (act 21 [(3, x3), (5, x5), (6, x6), (7, x7), (8, x8), (14, x14)]) x13.2 := kq_reg
theorem b191_rlrllrrllrlrr  : kCode env 191 false inv k (cp c191 14949) (act 21 [(3, x3), (5, x5), (6, x6), (7, x7), (8, x8), (14, x14)]) h K = brV x14 (kCode env 191 false inv k (cp c191 29898) (act 21 [(3, x3), (5, x5), (6, x6), (7, x7), (8, x8), (14, x14)]) h K) (kCode env 191 false inv k (cp c191 29899) (act 21 [(3, x3), (5, x5), (6, x6), (7, x7), (8, x8), (14, x14)]) h K) := kq_cond
theorem r191_6  : kCode env 191 false inv k (cp c191 59796) (act 21 [(3, x3), (5, x5), (6, x6), (7, x7), (8, x8), (14, x14)]) h K =
    K .normal (act 21 [(2, (.string { data := #[] }))]) h := kq_reg
theorem r191_7  : kCode env 191 false inv k (cp c191 7475) (act 21 [(3, x3), (5, x5), (6, x6), (7, x7), (8, x8), (14, x14)]) h K =
    bnd (pLoad Tryz.prog 49 x5 h) fun x16 =>
    bnd (inv (.func 197) #[] #[x3, x16] h) fun x17 =>
    K .normal (act 21 [(3, x17.1), (6, x6), (7, x7), (8, x8)]) x17.2 := kq_reg
theorem r191_8  : kCode env 191 false inv k (cp c191 935) (act 21 [(3, x3), (6, x6), (7, x7), (8, x8)]) h K =
    bnd (pBin Tryz.prog .add 3 (.tmp 8) (.const (.int .i64 1)) x8 (.int .i64 1)) fun x18 =>
    K .normal (act 21 [(3, x3), (6, x6), (7, x7), (8, x18)]) h := kq_reg
noncomputable def F191_lrlrr {β : Type} (inv : Inv) (k : Nat) : Nat → Value → Value → Value → Value → AH → (Value → Value → Value → Value → Value → AH → Option β) → (Value → AH → Option β) → Option β
  | 0, _, _, _, _, _, _, _ => none
  | j + 1, x3, x6, x7, x8, h, ke0, kr =>
    bnd (pBin Tryz.prog .lss 3 (.tmp 8) (.tmp 7) x8 x7) fun x9 =>
    brV x9
    (bnd (pIndexAddr Tryz.prog 45 x6 x8) fun x10 =>
    bnd (pLoad Tryz.prog 49 x10 h) fun x11 =>
    bnd (pAlloc Tryz.prog 49 h) fun x5 =>
    bnd (kSt (pStore Tryz.prog 49 x5.1 x11 x5.2)) fun u =>
    bnd (pLoad Tryz.prog 49 x5.1 u.2) fun x12 =>
    bnd (inv (.func 167) #[] #[x12] u.2) fun x13 =>
    bnd (pBin Tryz.prog .neq 30 (.tmp 13) (.const (.int .i64 0)) x13.1 (.int .i64 0)) fun x14 =>
    brV x14
    (kr (.string { data := #[] }) x13.2)
    (bnd (pLoad Tryz.prog 49 x5.1 x13.2) fun x16 =>
    bnd (inv (.func 197) #[] #[x3, x16] x13.2) fun x17 =>
    bnd (pBin Tryz.prog .add 3 (.tmp 8) (.const (.int .i64 1)) x8 (.int .i64 1)) fun x18 =>
    F191_lrlrr inv k j x17.1 x6 x7 x18 x17.2 ke0 kr))
    (ke0 x3 x6 x7 x8 x9 h)
theorem F191_lrlrr_j (j : Nat) : kLoop (kCode env 191 false inv k (cp c191 116)) j (act 21 [(3, x3), (6, x6), (7, x7), (8, x8)]) h K = F191_lrlrr inv k j x3 x6 x7 x8 h (fun y3 y6 y7 y8 y9 h => K (.exit 0) (act 21 [(3, y3), (6, y6), (7, y7), (8, y8), (9, y9)]) h) (fun y2 h => K .ret (act 21 [(2, y2)]) h) := by
      induction j generalizing x3 x6 x7 x8 h with
      | zero => rfl
      | succ j ih =>
        unfold F191_lrlrr
        simp only [kLoop, kq_seq c191 116, r191_3, kq_seq c191 233, b191_lrllrlrr, kq_skip c191 932, kq_seq c191 467, kq_block c191 934 1, kq_seq c191 1868, r191_4, kq_seq c191 3737, kq_seq c191 7474, r191_5, b191_rlrllrrllrlrr, kq_seq c191 29898, r191_6, kq_ret c191 59797, kq_skip c191 29899, r191_7, r191_8, kq_exit c191 933 0, ih, reduceIte, reduceCtorEq, XE.exit.injEq, Nat.reduceEqDiff, Nat.reduceMul, Nat.reduceAdd] <;> kernel_rfl
theorem F191_lrlrr_eq  : kCode env 191 false inv k (cp c191 58) (act 21 [(3, x3), (6, x6), (7, x7), (8, x8)]) h K = F191_lrlrr inv k k x3 x6 x7 x8 h (fun y3 y6 y7 y8 y9 h => K (.exit 0) (act 21 [(3, y3), (6, y6), (7, y7), (8, y8), (9, y9)]) h) (fun y2 h => K .ret (act 21 [(2, y2)]) h) := kq_loop (F191_lrlrr_j k)
theorem r191_9  : kCode env 191 false inv k (cp c191 30) (act 21 [(3, x3), (6, x6), (7, x7), (8, x8), (9, x9)]) h K =
    bnd (pConv Tryz.prog 223 9 x3 h) fun x20 =>
    K .normal (act 21 [(2, x20)]) h := kq_reg
theorem res191_0 : resOfFn env.P 191 .ret (act 21 [(2, x2)]) h = some (x2, h) := kq_res
/-- shadowbook/value.Key -/
noncomputable def F191 (inv : Inv) (k : Nat) (x0 : Value) (h : AH) : Option (Value × AH) :=
    bnd (pLen Tryz.prog #[45] x0 h) fun x7 =>
    F191_lrlrr inv k k (.slice none 0 0) x0 x7 (.int .i64 0) h
    (fun y3 y6 y7 y8 y9 h =>
    bnd (pConv Tryz.prog 223 9 y3 h) fun x20 =>
    some (x20, h))
    (fun y2 h_1 =>
    some (y2, h_1))
theorem F191_eq : eFun env k inv 191 #[x0] h = F191 inv k x0 h := by
      refine (kq_fun (a := act 21 [(0, x0)]) (c := cp c191 1)).trans ?_
      unfold F191
      simp only [kq_seq c191 1, r191_0, kq_seq c191 3, r191_1, kq_seq c191 7, kq_seq c191 14, r191_2, kq_block c191 29 0, F191_lrlrr_eq, kq_seq c191 15, r191_9, kq_ret c191 31, res191_0, reduceIte, reduceCtorEq, XE.exit.injEq, Nat.reduceEqDiff, Nat.reduceMul, Nat.reduceAdd] <;> kernel_rfl
theorem F191_call : eInv env (k + 1) (.func 191) #[] #[x0] h = F191 (eInv env k) k x0 h := kq_inv F191_eq
noncomputable def c192 : Code := codeOf Tryz.prog 192
theorem r192_0  : kCode env 192 false inv k (cp c192 2) (act 29 [(0, x0)]) h K =
    bnd (pBox Tryz.prog 43 x0 h) fun x1 =>
    K .normal (act 29 [(1, x1.1)]) x1.2 := kq_reg
theorem r192_1  : kCode env 192 false inv k (cp c192 12) (act 29 [(1, x1)]) h K =
    bnd (pFieldAddr Tryz.prog 43 x1 0) fun x3 =>
    bnd (pLoad Tryz.prog 3 x3 h) fun x4 =>
    K .normal (act 29 [(1, x1), (4, x4)]) h := kq_reg
theorem r192_2  : kCode env 192 false inv k (cp c192 52) (act 29 [(1, x1), (4, x4)]) h K =
    bnd (pBin Tryz.prog .eql 3 (.tmp 4) (.const (.int .i64 1)) x4 (.int .i64 1)) fun x6 =>
    K .normal (act 29 [(1, x1), (4, x4), (5, x6)]) h := kq_reg
theorem b192_rlrlr  : kCode env 192 false inv k (cp c192 53) (act 29 [(1, x1), (4, x4), (5, x5)]) h K = brV x5 (kCode env 192 false inv k (cp c192 106) (act 29 [(1, x1), (4, x4), (5, x5)]) h K) (kCode env 192 false inv k (cp c192 107) (act 29 [(1, x1), (4, x4), (5, x5)]) h K) := kq_cond
theorem r192_3  : kCode env 192 false inv k (cp c192 212) (act 29 [(1, x1), (4, x4), (5, x5)]) h K =
    bnd (pBuild Tryz.prog 227 #[]) fun x7 =>
    bnd (pBox Tryz.prog 227 x7 h) fun x8 =>
    bnd (pMakeIface Tryz.prog 225 x8.1) fun x9 =>
    K .normal (act 29 [(2, x9)]) x8.2 := kq_reg
theorem res192_0 : resOfFn env.P 192 .ret (act 29 [(2, x2)]) h = some (x2, h) := kq_res
theorem r192_4  : kCode env 192 false inv k (cp c192 214) (act 29 [(1, x1), (4, x4), (5, x5)]) h K =
    bnd (pBin Tryz.prog .eql 3 (.tmp 4) (.const (.int .i64 2)) x4 (.int .i64 2)) fun x11 =>
    K .normal (act 29 [(1, x1), (4, x4), (10, x11)]) h := kq_reg
theorem b192_rrrlrlr  : kCode env 192 false inv k (cp c192 215) (act 29 [(1, x1), (4, x4), (10, x10)]) h K = brV x10 (kCode env 192 false inv k (cp c192 430) (act 29 [(1, x1), (4, x4), (10, x10)]) h K) (kCode env 192 false inv k (cp c192 431) (act 29 [(1, x1), (4, x4), (10, x10)]) h K) := kq_cond
theorem r192_5  : kCode env 192 false inv k (cp c192 860) (act 29 [(1, x1), (4, x4), (10, x10)]) h K =
    bnd (pFieldAddr Tryz.prog 43 x1 1) fun x12 =>
    bnd (pLoad Tryz.prog 3 x12 h) fun x13 =>
    bnd (pBuild Tryz.prog 230 #[(0, x13)]) fun x14 =>
    bnd (pBox Tryz.prog 230 x14 h) fun x15 =>
    bnd (pMakeIface Tryz.prog 228 x15.1) fun x16 =>
    K .normal (act 29 [(2, x16)]) x15.2 := kq_reg
theorem r192_6  : kCode env 192 false inv k (cp c192 862) (act 29 [(1, x1), (4, x4), (10, x10)]) h K =
    bnd (pBin Tryz.prog .eql 3 (.tmp 4) (.const (.int .i64 3)) x4 (.int .i64 3)) fun x18 =>
    K .normal (act 29 [(1, x1), (17, x18)]) h := kq_reg
theorem b192_rrrrrlrlr  : kCode env 192 false inv k (cp c192 863) (act 29 [(1, x1), (17, x17)]) h K = brV x17 (kCode env 192 false inv k (cp c192 1726) (act 29 [(1, x1), (17, x17)]) h K) (kCode env 192 false inv k (cp c192 1727) (act 29 [(1, x1), (17, x17)]) h K) := kq_cond
theorem r192_7  : kCode env 192 false inv k (cp c192 3452) (act 29 [(1, x1), (17, x17)]) h K =
    bnd (pFieldAddr Tryz.prog 43 x1 1) fun x19 =>
    bnd (pLoad Tryz.prog 3 x19 h) fun x20 =>
    bnd (pBuild Tryz.prog 233 #[(0, x20), (1, (.int .i64 (-1)))]) fun x21 =>
    bnd (pBox Tryz.prog 233 x21 h) fun x22 =>
    bnd (pMakeIface Tryz.prog 231 x22.1) fun x23 =>
    K .normal (act 29 [(2, x23)]) x22.2 := kq_reg
theorem r192_8  : kCode env 192 false inv k (cp c192 14) (act 29 [(1, x1), (17, x17)]) h K =
    bnd (pFieldAddr Tryz.prog 43 x1 1) fun x24 =>
    bnd (pLoad Tryz.prog 3 x24 h) fun x25 =>
    bnd (pBuild Tryz.prog 233 #[(0, x25), (1, (.int .i64 1))]) fun x26 =>
    bnd (pBox Tryz.prog 233 x26 h) fun x27 =>
    bnd (pMakeIface Tryz.prog 231 x27.1) fun x28 =>
    K .normal (act 29 [(2, x28)]) x27.2 := kq_reg
/-- shadowbook/agg.of -/
noncomputable def F192 (inv : Inv) (k : Nat) (x0 : Value) (h : AH) : Option (Value × AH) :=
    bnd (pBox Tryz.prog 43 x0 h) fun x1 =>
    bnd (pFieldAddr Tryz.prog 43 x1.1 0) fun x3 =>
    bnd (pLoad Tryz.prog 3 x3 x1.2) fun x4 =>
    bnd (pBin Tryz.prog .eql 3 (.tmp 4) (.const (.int .i64 1)) x4 (.int .i64 1)) fun x6 =>
    brV x6
    (bnd (pBuild Tryz.prog 227 #[]) fun x7 =>
    bnd (pBox Tryz.prog 227 x7 x1.2) fun x8 =>
    bnd (pMakeIface Tryz.prog 225 x8.1) fun x9 =>
    some (x9, x8.2))
    (bnd (pBin Tryz.prog .eql 3 (.tmp 4) (.const (.int .i64 2)) x4 (.int .i64 2)) fun x11 =>
    brV x11
    (bnd (pFieldAddr Tryz.prog 43 x1.1 1) fun x12 =>
    bnd (pLoad Tryz.prog 3 x12 x1.2) fun x13 =>
    bnd (pBuild Tryz.prog 230 #[(0, x13)]) fun x14 =>
    bnd (pBox Tryz.prog 230 x14 x1.2) fun x15 =>
    bnd (pMakeIface Tryz.prog 228 x15.1) fun x16 =>
    some (x16, x15.2))
    (bnd (pBin Tryz.prog .eql 3 (.tmp 4) (.const (.int .i64 3)) x4 (.int .i64 3)) fun x18 =>
    brV x18
    (bnd (pFieldAddr Tryz.prog 43 x1.1 1) fun x19 =>
    bnd (pLoad Tryz.prog 3 x19 x1.2) fun x20 =>
    bnd (pBuild Tryz.prog 233 #[(0, x20), (1, (.int .i64 (-1)))]) fun x21 =>
    bnd (pBox Tryz.prog 233 x21 x1.2) fun x22 =>
    bnd (pMakeIface Tryz.prog 231 x22.1) fun x23 =>
    some (x23, x22.2))
    (bnd (pFieldAddr Tryz.prog 43 x1.1 1) fun x24 =>
    bnd (pLoad Tryz.prog 3 x24 x1.2) fun x25 =>
    bnd (pBuild Tryz.prog 233 #[(0, x25), (1, (.int .i64 1))]) fun x26 =>
    bnd (pBox Tryz.prog 233 x26 x1.2) fun x27 =>
    bnd (pMakeIface Tryz.prog 231 x27.1) fun x28 =>
    some (x28, x27.2))))
theorem F192_eq : eFun env k inv 192 #[x0] h = F192 inv k x0 h := by
      refine (kq_fun (a := act 29 [(0, x0)]) (c := cp c192 1)).trans ?_
      unfold F192
      simp only [kq_seq c192 1, r192_0, kq_seq c192 3, kq_seq c192 6, r192_1, kq_block c192 13 0, kq_seq c192 26, r192_2, b192_rlrlr, kq_seq c192 106, r192_3, kq_ret c192 213, res192_0, kq_seq c192 107, r192_4, b192_rrrlrlr, kq_seq c192 430, r192_5, kq_ret c192 861, kq_seq c192 431, r192_6, b192_rrrrrlrlr, kq_seq c192 1726, r192_7, kq_ret c192 3453, kq_skip c192 1727, kq_seq c192 7, r192_8, kq_ret c192 15, reduceIte, reduceCtorEq, XE.exit.injEq, Nat.reduceEqDiff, Nat.reduceMul, Nat.reduceAdd] <;> kernel_rfl
theorem F192_call : eInv env (k + 1) (.func 192) #[] #[x0] h = F192 (eInv env k) k x0 h := kq_inv F192_eq
noncomputable def c193 : Code := codeOf Tryz.prog 193
theorem r193_0  : kCode env 193 false inv k (cp c193 2) (act 25 [(0, x0), (1, x1)]) h K =
    bnd (pBox Tryz.prog 118 x0 h) fun x2 =>
    bnd (pBox Tryz.prog 49 x1 x2.2) fun x3 =>
    K .normal (act 25 [(2, x2.1), (3, x3.1)]) x3.2 := kq_reg
theorem r193_1  : kCode env 193 false inv k (cp c193 12) (act 25 [(2, x2), (3, x3)]) h K =
    bnd (pLoad Tryz.prog 49 x3 h) fun x6 =>
    bnd (inv (.func 167) #[] #[x6] h) fun x7 =>
    K .normal (act 25 [(2, x2), (3, x3), (5, x7.1)]) x7.2 := kq_reg
theorem r193_2  : kCode env 193 false inv k (cp c193 26) (act 25 [(2, x2), (3, x3), (5, x5)]) h K =
    bnd (pBin Tryz.prog .neq 30 (.tmp 8) (.const (.int .i64 0)) x5 (.int .i64 0)) fun x9 =>
    K .normal (act 25 [(2, x2), (3, x3), (5, x5), (9, x9)]) h := kq_reg
theorem b193_rrlr  : kCode env 193 false inv k (cp c193 27) (act 25 [(2, x2), (3, x3), (5, x5), (9, x9)]) h K = brV x9 (kCode env 193 false inv k (cp c193 54) (act 25 [(2, x2), (3, x3), (5, x5), (9, x9)]) h K) (kCode env 193 false inv k (cp c193 55) (act 25 [(2, x2), (3, x3), (5, x5), (9, x9)]) h K) := kq_cond
theorem r193_3  : kCode env 193 false inv k (cp c193 108) (act 25 [(2, x2), (3, x3), (5, x5), (9, x9)]) h K =
    K .normal (act 25 [(4, x5)]) h := kq_reg
theorem res193_0 : resOfFn env.P 193 .ret (act 25 [(4, x4)]) h = some (x4, h) := kq_res
noncomputable abbrev G193_4 {β : Type} (inv : Inv) (x2 x3 : Value) (h : AH) (K : Value → AH → Option β) : Option β :=
    bnd (pFieldAddr Tryz.prog 49 x3 0) fun x11 =>
    bnd (pLoad Tryz.prog 3 x11 h) fun x12 =>
    bnd (pFieldAddr Tryz.prog 118 x2 1) fun x13 =>
    bnd (pLoad Tryz.prog 3 x13 h) fun x14 =>
    bnd (pBin Tryz.prog .eql 3 (.tmp 12) (.tmp 14) x12 x14) fun x15 =>
    bnd (gd (some x15) false h (lt (pFieldAddr Tryz.prog 49 x3 0) h)) fun x17 =>
    bnd (gd (some x15) false x17.2 (lt (pLoad Tryz.prog 3 x17.1 x17.2) x17.2)) fun x18 =>
    bnd (gd (some x15) false x18.2 (lt (pBin Tryz.prog .eql 3 (.tmp 18) (.const (.int .i64 0)) x18.1 (.int .i64 0)) x18.2)) fun x19 =>
    bnd (gd (some x15) false x19.2 (some (x19.1, x19.2))) fun x20 =>
    bnd (gd (some x20.1) true x20.2 (lt (pFieldAddr Tryz.prog 118 x2 2) x20.2)) fun x21 =>
    bnd (gd (some x20.1) true x21.2 (lt (pLoad Tryz.prog 4 x21.1 x21.2) x21.2)) fun x22 =>
    bnd (gd (some x15) false x22.2 (lt (pickV x20.1 x22.1 (.bool false)) x22.2)) fun x23 =>
    bnd (pickV x15 (.bool true) x23.1) fun x24 =>
    K (x24) x23.2
theorem r193_4  : kCode env 193 false inv k (cp c193 28) (act 25 [(2, x2), (3, x3), (5, x5), (9, x9)]) h K =
    G193_4 inv x2 x3 h fun y24 h => K .normal (act 25 [(24, y24)]) h := kq_reg
theorem b193_rlrr  : kCode env 193 false inv k (cp c193 29) (act 25 [(24, x24)]) h K = brV x24 (kCode env 193 false inv k (cp c193 58) (act 25 [(24, x24)]) h K) (kCode env 193 false inv k (cp c193 59) (act 25 [(24, x24)]) h K) := kq_cond
theorem r193_5  : kCode env 193 false inv k (cp c193 116) (act 25 [(24, x24)]) h K =
    K .normal (act 25 [(4, (.int .i64 0))]) h := kq_reg
theorem r193_6  : kCode env 193 false inv k (cp c193 30) (act 25 [(24, x24)]) h K =
    K .normal (act 25 [(4, (.int .i64 173))]) h := kq_reg
/-- shadowbook/schema.Fits -/
noncomputable def F193 (inv : Inv) (k : Nat) (x0 x1 : Value) (h : AH) : Option (Value × AH) :=
    bnd (pBox Tryz.prog 118 x0 h) fun x2 =>
    bnd (pBox Tryz.prog 49 x1 x2.2) fun x3 =>
    bnd (pLoad Tryz.prog 49 x3.1 x3.2) fun x6 =>
    bnd (inv (.func 167) #[] #[x6] x3.2) fun x7 =>
    bnd (pBin Tryz.prog .neq 30 (.tmp 8) (.const (.int .i64 0)) x7.1 (.int .i64 0)) fun x9 =>
    brV x9
    (some (x7.1, x7.2))
    (G193_4 inv x2.1 x3.1 x7.2 fun y24 h =>
    brV y24
    (some ((.int .i64 0), h))
    (some ((.int .i64 173), h)))
theorem F193_eq : eFun env k inv 193 #[x0, x1] h = F193 inv k x0 x1 h := by
      refine (kq_fun (a := act 25 [(0, x0), (1, x1)]) (c := cp c193 1)).trans ?_
      unfold F193
      simp only [kq_seq c193 1, r193_0, kq_seq c193 3, kq_seq c193 6, r193_1, kq_seq c193 13, r193_2, b193_rrlr, kq_seq c193 54, r193_3, kq_ret c193 109, res193_0, kq_skip c193 55, kq_seq c193 7, kq_seq c193 14, r193_4, b193_rlrr, kq_seq c193 58, r193_5, kq_ret c193 117, kq_skip c193 59, kq_seq c193 15, r193_6, kq_ret c193 31, reduceIte, reduceCtorEq, XE.exit.injEq, Nat.reduceEqDiff, Nat.reduceMul, Nat.reduceAdd] <;> kernel_rfl
theorem F193_call : eInv env (k + 1) (.func 193) #[] #[x0, x1] h = F193 (eInv env k) k x0 x1 h := kq_inv F193_eq
noncomputable def c196 : Code := codeOf Tryz.prog 196
theorem r196_0  : kCode env 196 false inv k (cp c196 2) (act 14 [(0, x0), (1, x1)]) h K =
    bnd (pLoad Tryz.prog 197 x1 h) fun x4 =>
    bnd (pRange Tryz.prog 197 x4 h) fun x5 =>
    K .normal (act 14 [(0, x0), (5, x5.1)]) x5.2 := kq_reg
theorem r196_1  : kCode env 196 false inv k (cp c196 24) (act 14 [(0, x0), (5, x5), (13, x13)]) h K =
    bnd (pNext x5 false h) fun x6 =>
    bnd (pExtract x6.1 0) fun x7 =>
    K .normal (act 14 [(0, x0), (5, x5), (7, x7)]) x6.2 := kq_reg
theorem b196_lrllr  : kCode env 196 false inv k (cp c196 50) (act 14 [(0, x0), (5, x5), (7, x7)]) h K = brV x7 (kCode env 196 false inv k (cp c196 100) (act 14 [(0, x0), (5, x5), (7, x7)]) h K) (kCode env 196 false inv k (cp c196 101) (act 14 [(0, x0), (5, x5), (7, x7)]) h K) := kq_cond
theorem r196_2  : kCode env 196 false inv k (cp c196 204) (act 14 [(0, x0), (5, x5), (7, x7)]) h K =
    bnd ((none : Option (Value × AH))) fun x8 =>
    bnd (pExtract x8.1 0) fun x9 =>
    K .normal (act 14 [(0, x0), (3, x9), (5, x5)]) x8.2 := kq_reg
theorem r196_3  : kCode env 196 false inv k (cp c196 410) (act 14 [(0, x0), (3, x3), (5, x5)]) h K =
    bnd (callV inv x0 #[x3] h) fun x12 =>
    bnd (pUn Tryz.prog .not x12.1) fun x13 =>
    K .normal (act 14 [(0, x0), (5, x5), (13, x13)]) x12.2 := kq_reg
theorem b196_rrlrrllr  : kCode env 196 false inv k (cp c196 411) (act 14 [(0, x0), (5, x5), (13, x13)]) h K = brV x13 (kCode env 196 false inv k (cp c196 822) (act 14 [(0, x0), (5, x5), (13, x13)]) h K) (kCode env 196 false inv k (cp c196 823) (act 14 [(0, x0), (5, x5), (13, x13)]) h K) := kq_cond
noncomputable def F196_lr {β : Type} (inv : Inv) (k : Nat) : Nat → Value → Value → Value → AH → (Value → Value → Value → AH → Option β) → (Value → Value → Value → AH → Option β) → Option β
  | 0, _, _, _, _, _, _ => none
  | j + 1, x0, x5, x13, h, ke0, kr =>
    bnd (pNext x5 false h) fun x6 =>
    bnd (pExtract x6.1 0) fun x7 =>
    brV x7
    (bnd ((none : Option (Value × AH))) fun x8 =>
    bnd (pExtract x8.1 0) fun x9 =>
    bnd (callV inv x0 #[x9] x8.2) fun x12 =>
    bnd (pUn Tryz.prog .not x12.1) fun x13_1 =>
    brV x13_1
    (kr x0 x5 x13_1 x12.2)
    (F196_lr inv k j x0 x5 x13_1 x12.2 ke0 kr))
    (ke0 x0 x5 x7 x6.2)
theorem F196_lr_j (j : Nat) : kLoop (kCode env 196 false inv k (cp c196 12)) j (act 14 [(0, x0), (5, x5), (13, x13)]) h K = F196_lr inv k j x0 x5 x13 h (fun y0 y5 y7 h => K (.exit 0) (act 14 [(0, y0), (5, y5), (7, y7)]) h) (fun y0 y5 y13 h => K .ret (act 14 [(0, y0), (5, y5), (13, y13)]) h) := by
      induction j generalizing x0 x5 x13 h with
      | zero => rfl
      | succ j ih =>
        unfold F196_lr
        simp only [kLoop, kq_seq c196 12, r196_1, kq_seq c196 25, b196_lrllr, kq_skip c196 100, kq_block c196 51 1, kq_seq c196 102, r196_2, kq_seq c196 205, r196_3, b196_rrlrrllr, kq_ret c196 822, kq_skip c196 823, kq_exit c196 101 0, ih, reduceIte, reduceCtorEq, XE.exit.injEq, Nat.reduceEqDiff, Nat.reduceMul, Nat.reduceAdd] <;> kernel_rfl
theorem F196_lr_eq  : kCode env 196 false inv k (cp c196 6) (act 14 [(0, x0), (5, x5), (13, x13)]) h K = F196_lr inv k k x0 x5 x13 h (fun y0 y5 y7 h => K (.exit 0) (act 14 [(0, y0), (5, y5), (7, y7)]) h) (fun y0 y5 y13 h => K .ret (act 14 [(0, y0), (5, y5), (13, y13)]) h) := kq_loop (F196_lr_j k)
theorem F196_lr_eq_13  : kCode env 196 false inv k (cp c196 6) (act 14 [(0, x0), (5, x5)]) h K = F196_lr inv k k x0 x5 unk h (fun y0 y5 y7 h => K (.exit 0) (act 14 [(0, y0), (5, y5), (7, y7)]) h) (fun y0 y5 y13 h => K .ret (act 14 [(0, y0), (5, y5), (13, y13)]) h) := by
      rw [show act 14 [(0, x0), (5, x5)] = act 14 [(0, x0), (5, x5), (13, unk)] from by kernel_rfl]; exact F196_lr_eq ..
theorem res196_0 : resOfFn env.P 196 .normal (act 14 [(0, x0), (5, x5), (7, x7)]) h = some (.tuple #[], h) := kq_res
theorem res196_1 : resOfFn env.P 196 .ret (act 14 [(0, x0), (5, x5), (13, x13)]) h = some (.tuple #[], h) := kq_res
/-- maps.Keys[map[string]*shadowbook/agg.group,string,*shadowbook/agg.group]$1 -/
noncomputable def F196 (inv : Inv) (k : Nat) (x0 x1 : Value) (h : AH) : Option (Value × AH) :=
    bnd (pLoad Tryz.prog 197 x1 h) fun x4 =>
    bnd (pRange Tryz.prog 197 x4 h) fun x5 =>
    F196_lr inv k k x0 x5.1 unk x5.2
    (fun y0 y5 y7 h =>
    some (.tuple #[], h))
    (fun y0_2 y5_3 y13 h_4 =>
    some (.tuple #[], h_4))
theorem F196_eq : eFun env k inv 196 #[x0, x1] h = F196 inv k x0 x1 h := by
      refine (kq_fun (a := act 14 [(0, x0), (1, x1)]) (c := cp c196 1)).trans ?_
      unfold F196
      simp only [kq_seq c196 1, r196_0, kq_block c196 3 0, F196_lr_eq_13, res196_0, res196_1, reduceIte, reduceCtorEq, XE.exit.injEq, Nat.reduceEqDiff, Nat.reduceMul, Nat.reduceAdd] <;> kernel_rfl
theorem F196_call : eInv env (k + 1) (.func 196) #[] #[x0, x1] h = F196 (eInv env k) k x0 x1 h := kq_inv F196_eq
noncomputable def c197 : Code := codeOf Tryz.prog 197
theorem r197_0  : kCode env 197 false inv k (cp c197 2) (act 67 [(0, x0), (1, x1)]) h K =
    bnd (pBox Tryz.prog 49 x1 h) fun x3 =>
    K .normal (act 67 [(0, x0), (3, x3.1)]) x3.2 := kq_reg
theorem r197_1  : kCode env 197 false inv k (cp c197 6) (act 67 [(0, x0), (3, x3)]) h K =
    bnd (pFieldAddr Tryz.prog 49 x3 0) fun x10 =>
    bnd (pLoad Tryz.prog 3 x10 h) fun x11 =>
    bnd (pConv Tryz.prog 3 5 x11 h) fun x12 =>
    bnd (pBuildSlice Tryz.prog 223 1 #[(0, x12)] h) fun x13 =>
    bnd (pAppend Tryz.prog #[223, 223] x0 x13.1 x13.2) fun x14 =>
    K .normal (act 67 [(0, x14.1), (3, x3)]) x14.2 := kq_reg
theorem r197_2  : kCode env 197 false inv k (cp c197 28) (act 67 [(0, x0), (3, x3)]) h K =
    bnd (pFieldAddr Tryz.prog 49 x3 0) fun x15 =>
    bnd (pLoad Tryz.prog 3 x15 h) fun x16 =>
    K .normal (act 67 [(0, x0), (3, x3), (16, x16)]) h := kq_reg
theorem r197_3  : kCode env 197 false inv k (cp c197 116) (act 67 [(0, x0), (3, x3), (16, x16)]) h K =
    bnd (pBin Tryz.prog .eql 3 (.tmp 16) (.const (.int .i64 1)) x16 (.int .i64 1)) fun x18 =>
    K .normal (act 67 [(0, x0), (3, x3), (16, x16), (17, x18)]) h := kq_reg
theorem b197_rlrlrr  : kCode env 197 false inv k (cp c197 117) (act 67 [(0, x0), (3, x3), (16, x16), (17, x17)]) h K = brV x17 (kCode env 197 false inv k (cp c197 234) (act 67 [(0, x0), (3, x3), (16, x16), (17, x17)]) h K) (kCode env 197 false inv k (cp c197 235) (act 67 [(0, x0), (3, x3), (16, x16), (17, x17)]) h K) := kq_cond
theorem r197_4  : kCode env 197 false inv k (cp c197 468) (act 67 [(0, x0), (3, x3), (16, x16), (17, x17)]) h K =
    bnd (pFieldAddr Tryz.prog 49 x3 1) fun x19 =>
    bnd (pLoad Tryz.prog 2 x19 h) fun x20 =>
    bnd (pConv Tryz.prog 2 237 x20 h) fun x21 =>
    bnd (pBin Tryz.prog .xor 237 (.tmp 21) (.const (.int .u64 9223372036854775808)) x21 (.int .u64 9223372036854775808)) fun x22 =>
    K .normal (act 67 [(0, x0), (5, x22)]) h := kq_reg
theorem r197_5  : kCode env 197 false inv k (cp c197 938) (act 67 [(0, x0), (5, x5)]) h K =
    K .normal (act 67 [(0, x0), (5, x5), (6, (.int .i64 7))]) h := kq_reg
theorem r197_6  : kCode env 197 false inv k (cp c197 15024) (act 67 [(0, x0), (5, x5), (6, x6)]) h K =
    bnd (pBin Tryz.prog .geq 3 (.tmp 23) (.const (.int .i64 0)) x6 (.int .i64 0)) fun x24 =>
    K .normal (act 67 [(0, x0), (5, x5), (6, x6), (24, x24)]) h := kq_reg
theorem b197_rlllrrlrlrlrr  : kCode env 197 false inv k (cp c197 15025) (act 67 [(0, x0), (5, x5), (6, x6), (24, x24)]) h K = brV x24 (kCode env 197 false inv k (cp c197 30050) (act 67 [(0, x0), (5, x5), (6, x6), (24, x24)]) h K) (kCode env 197 false inv k (cp c197 30051) (act 67 [(0, x0), (5, x5), (6, x6), (24, x24)]) h K) := kq_cond
theorem r197_8  : kCode env 197 false inv k (cp c197 30052) (act 67 [(0, x0), (5, x5), (6, x6), (24, x24)]) h K =
    bnd (pBin Tryz.prog .mul 3 (.const (.int .i64 8)) (.tmp 29) (.int .i64 8) x6) fun x30 =>
    bnd (pBin Tryz.prog .shr 237 (.tmp 28) (.tmp 30) x5 x30) fun x31 =>
    bnd (pConv Tryz.prog 237 5 x31 h) fun x32 =>
    bnd (pBuildSlice Tryz.prog 223 1 #[(0, x32)] h) fun x33 =>
    bnd (pAppend Tryz.prog #[223, 223] x0 x33.1 x33.2) fun x34 =>
    K .normal (act 67 [(0, x34.1), (5, x5), (6, x6)]) x34.2 := kq_reg
theorem r197_7  : kCode env 197 false inv k (cp c197 15027) (act 67 [(0, x0), (5, x5), (6, x6)]) h K =
    bnd (pBin Tryz.prog .sub 3 (.tmp 25) (.const (.int .i64 1)) x6 (.int .i64 1)) fun x26 =>
    K .normal (act 67 [(0, x0), (5, x5), (6, x26)]) h := kq_reg
noncomputable def F197_lrrlrlrlrr {β : Type} (inv : Inv) (k : Nat) : Nat → Value → Value → Value → AH → (Value → Value → Value → Value → AH → Option β) → Option β
  | 0, _, _, _, _, _ => none
  | j + 1, x0, x5, x6, h, ke1 =>
    bnd (pBin Tryz.prog .geq 3 (.tmp 23) (.const (.int .i64 0)) x6 (.int .i64 0)) fun x24 =>
    brV x24
    (bnd (pBin Tryz.prog .mul 3 (.const (.int .i64 8)) (.tmp 29) (.int .i64 8) x6) fun x30 =>
    bnd (pBin Tryz.prog .shr 237 (.tmp 28) (.tmp 30) x5 x30) fun x31 =>
    bnd (pConv Tryz.prog 237 5 x31 h) fun x32 =>
    bnd (pBuildSlice Tryz.prog 223 1 #[(0, x32)] h) fun x33 =>
    bnd (pAppend Tryz.prog #[223, 223] x0 x33.1 x33.2) fun x34 =>
    bnd (pBin Tryz.prog .sub 3 (.tmp 25) (.const (.int .i64 1)) x6 (.int .i64 1)) fun x26 =>
    F197_lrrlrlrlrr inv k j x34.1 x5 x26 x34.2 ke1)
    (ke1 x0 x5 x6 x24 h)
theorem F197_lrrlrlrlrr_j (j : Nat) : kLoop (kCode env 197 false inv k (cp c197 3756)) j (act 67 [(0, x0), (5, x5), (6, x6)]) h K = F197_lrrlrlrlrr inv k j x0 x5 x6 h (fun y0 y5 y6 y24 h => K (.exit 1) (act 67 [(0, y0), (5, y5), (6, y6), (24, y24)]) h) := by
      induction j generalizing x0 x5 x6 h with
      | zero => rfl
      | succ j ih =>
        unfold F197_lrrlrlrlrr
        simp only [kLoop, kq_seq c197 3756, kq_seq c197 7512, r197_6, b197_rlllrrlrlrlrr, kq_skip c197 30050, kq_seq c197 7513, kq_block c197 15026 2, r197_8, r197_7, kq_exit c197 30051 1, ih, reduceIte, reduceCtorEq, XE.exit.injEq, Nat.reduceEqDiff, Nat.reduceMul, Nat.reduceAdd] <;> kernel_rfl
theorem F197_lrrlrlrlrr_eq  : kCode env 197 false inv k (cp c197 1878) (act 67 [(0, x0), (5, x5), (6, x6)]) h K = F197_lrrlrlrlrr inv k k x0 x5 x6 h (fun y0 y5 y6 y24 h => K (.exit 1) (act 67 [(0, y0), (5, y5), (6, y6), (24, y24)]) h) := kq_loop (F197_lrrlrlrlrr_j k)
theorem r197_9  : kCode env 197 false inv k (cp c197 470) (act 67 [(0, x0), (3, x3), (16, x16), (17, x17)]) h K =
    bnd (pBin Tryz.prog .eql 3 (.tmp 16) (.const (.int .i64 2)) x16 (.int .i64 2)) fun x36 =>
    K .normal (act 67 [(0, x0), (3, x3), (16, x16), (35, x36)]) h := kq_reg
theorem b197_rrrlrlrr  : kCode env 197 false inv k (cp c197 471) (act 67 [(0, x0), (3, x3), (16, x16), (35, x35)]) h K = brV x35 (kCode env 197 false inv k (cp c197 942) (act 67 [(0, x0), (3, x3), (16, x16), (35, x35)]) h K) (kCode env 197 false inv k (cp c197 943) (act 67 [(0, x0), (3, x3), (16, x16), (35, x35)]) h K) := kq_cond
theorem r197_10  : kCode env 197 false inv k (cp c197 942) (act 67 [(0, x0), (3, x3), (16, x16), (35, x35)]) h K =
    bnd (pFieldAddr Tryz.prog 49 x3 1) fun x38 =>
    bnd (pLoad Tryz.prog 2 x38 h) fun x39 =>
    bnd (pConv Tryz.prog 2 5 x39 h) fun x40 =>
    bnd (pBuildSlice Tryz.prog 223 1 #[(0, x40)] h) fun x41 =>
    bnd (pAppend Tryz.prog #[223, 223] x0 x41.1 x41.2) fun x42 =>
    K .normal (act 67 [(0, x42.1)]) x42.2 := kq_reg
theorem r197_11  : kCode env 197 false inv k (cp c197 1886) (act 67 [(0, x0), (3, x3), (16, x16), (35, x35)]) h K =
    bnd (pBin Tryz.prog .eql 3 (.tmp 16) (.const (.int .i64 3)) x16 (.int .i64 3)) fun x44 =>
    K .normal (act 67 [(0, x0), (3, x3), (43, x44)]) h := kq_reg
theorem b197_rrrrrlrlrr  : kCode env 197 false inv k (cp c197 1887) (act 67 [(0, x0), (3, x3), (43, x43)]) h K = brV x43 (kCode env 197 false inv k (cp c197 3774) (act 67 [(0, x0), (3, x3), (43, x43)]) h K) (kCode env 197 false inv k (cp c197 3775) (act 67 [(0, x0), (3, x3), (43, x43)]) h K) := kq_cond
theorem r197_12  : kCode env 197 false inv k (cp c197 15096) (act 67 [(0, x0), (3, x3), (43, x43)]) h K =
    bnd (pFieldAddr Tryz.prog 49 x3 2) fun x45 =>
    bnd (pLoad Tryz.prog 9 x45 h) fun x46 =>
    bnd (pBytes Tryz.prog 9 223 x46 h) fun x47 =>
    bnd (pLen Tryz.prog #[223] x47.1 x47.2) fun x48 =>
    K .normal (act 67 [(0, x0), (47, x47.1), (48, x48), (49, (.int .i64 0))]) x47.2 := kq_reg
theorem r197_13  : kCode env 197 false inv k (cp c197 120776) (act 67 [(0, x0), (47, x47), (48, x48), (49, x49)]) h K =
    bnd (pBin Tryz.prog .lss 3 (.tmp 49) (.tmp 48) x49 x48) fun x50 =>
    K .normal (act 67 [(0, x0), (47, x47), (48, x48), (49, x49), (50, x50)]) h := kq_reg
theorem b197_lrllrllrrrrrlrlrr  : kCode env 197 false inv k (cp c197 241554) (act 67 [(0, x0), (47, x47), (48, x48), (49, x49), (50, x50)]) h K = brV x50 (kCode env 197 false inv k (cp c197 483108) (act 67 [(0, x0), (47, x47), (48, x48), (49, x49), (50, x50)]) h K) (kCode env 197 false inv k (cp c197 483109) (act 67 [(0, x0), (47, x47), (48, x48), (49, x49), (50, x50)]) h K) := kq_cond
theorem r197_14  : kCode env 197 false inv k (cp c197 1932440) (act 67 [(0, x0), (47, x47), (48, x48), (49, x49), (50, x50)]) h K =
    bnd (pIndexAddr Tryz.prog 223 x47 x49) fun x51 =>
    bnd (pLoad Tryz.prog 5 x51 h) fun x52 =>
    K .normal (act 67 [(0, x0), (8, x52), (47, x47), (48, x48), (49, x49)]) h := kq_reg
theorem r197_15  : kCode env 197 false inv k (cp c197 3864882) (act 67 [(0, x0), (8, x8), (47, x47), (48, x48), (49, x49)]) h K =
    bnd (pBuildSlice Tryz.prog 223 1 #[(0, x8)] h) fun x55 =>
    bnd (pAppend Tryz.prog #[223, 223] x0 x55.1 x55.2) fun x56 =>
    K .normal (act 67 [(0, x56.1), (8, x8), (47, x47), (48, x48), (49, x49)]) x56.2 := kq_reg
theorem r197_16  : kCode env 197 false inv k (cp c197 7729766) (act 67 [(0, x0), (8, x8), (47, x47), (48, x48), (49, x49)]) h K =
    bnd (pBin Tryz.prog .eql 5 (.tmp 57) (.const (.int .u8 0)) x8 (.int .u8 0)) fun x58 =>
    K .normal (act 67 [(0, x0), (47, x47), (48, x48), (49, x49), (58, x58)]) h := kq_reg
theorem b197_rrrllrrllrllrrrrrlrlrr  : kCode env 197 false inv k (cp c197 7729767) (act 67 [(0, x0), (47, x47), (48, x48), (49, x49), (58, x58)]) h K = brV x58 (kCode env 197 false inv k (cp c197 15459534) (act 67 [(0, x0), (47, x47), (48, x48), (49, x49), (58, x58)]) h K) (kCode env 197 false inv k (cp c197 15459535) (act 67 [(0, x0), (47, x47), (48, x48), (49, x49), (58, x58)]) h K) := kq_cond
theorem r197_17  : kCode env 197 false inv k (cp c197 15459534) (act 67 [(0, x0), (47, x47), (48, x48), (49, x49), (58, x58)]) h K =
    bnd (pBuildSlice Tryz.prog 223 1 #[(0, (.int .u8 255))] h) fun x60 =>
    bnd (pAppend Tryz.prog #[223, 223] x0 x60.1 x60.2) fun x61 =>
    K .normal (act 67 [(0, x61.1), (47, x47), (48, x48), (49, x49)]) x61.2 := kq_reg
noncomputable def F197_lrrllrllrrrrrlrlrr {β : Type} (inv : Inv) (k : Nat) (x0 x47 x48 x49 x50 : Value) (h : AH) (kn : (Value → Value → Value → Value → Value → AH → Option β)) : Option β :=
    bnd (pIndexAddr Tryz.prog 223 x47 x49) fun x51 =>
    bnd (pLoad Tryz.prog 5 x51 h) fun x52 =>
    bnd (pBuildSlice Tryz.prog 223 1 #[(0, x52)] h) fun x55 =>
    bnd (pAppend Tryz.prog #[223, 223] x0 x55.1 x55.2) fun x56 =>
    bnd (pBin Tryz.prog .eql 5 (.tmp 57) (.const (.int .u8 0)) x52 (.int .u8 0)) fun x58 =>
    brV x58
    (bnd (pBuildSlice Tryz.prog 223 1 #[(0, (.int .u8 255))] x56.2) fun x60 =>
    bnd (pAppend Tryz.prog #[223, 223] x56.1 x60.1 x60.2) fun x61 =>
    kn x61.1 x47 x48 x49 unk x61.2)
    (kn x56.1 x47 x48 x49 x58 x56.2)
theorem F197_lrrllrllrrrrrlrlrr_eq  : kCode env 197 false inv k (cp c197 483110) (act 67 [(0, x0), (47, x47), (48, x48), (49, x49), (50, x50)]) h K = F197_lrrllrllrrrrrlrlrr inv k x0 x47 x48 x49 x50 h (fun y0 y47 y48 y49 y58 h => K .normal (act 67 [(0, y0), (47, y47), (48, y48), (49, y49), (58, y58)]) h) := by
      unfold F197_lrrllrllrrrrrlrlrr
      simp only [kq_block c197 483110 4, kq_seq c197 966220, r197_14, kq_seq c197 1932441, r197_15, kq_seq c197 3864883, r197_16, b197_rrrllrrllrllrrrrrlrlrr, r197_17, kq_skip c197 15459535, reduceIte, reduceCtorEq, XE.exit.injEq, Nat.reduceEqDiff, Nat.reduceMul, Nat.reduceAdd] <;> kernel_rfl
theorem r197_18  : kCode env 197 false inv k (cp c197 483111) (act 67 [(0, x0), (47, x47), (48, x48), (49, x49), (58, x58)]) h K =
    bnd (pBin Tryz.prog .add 3 (.tmp 49) (.const (.int .i64 1)) x49 (.int .i64 1)) fun x62 =>
    K .normal (act 67 [(0, x0), (47, x47), (48, x48), (49, x62)]) h := kq_reg
noncomputable def F197_lrllrrrrrlrlrr {β : Type} (inv : Inv) (k : Nat) : Nat → Value → Value → Value → Value → AH → (Value → Value → Value → Value → Value → AH → Option β) → Option β
  | 0, _, _, _, _, _, _ => none
  | j + 1, x0, x47, x48, x49, h, ke3 =>
    bnd (pBin Tryz.prog .lss 3 (.tmp 49) (.tmp 48) x49 x48) fun x50 =>
    brV x50
    (F197_lrrllrllrrrrrlrlrr inv k x0 x47 x48 x49 x50 h
    (fun y0 y47 y48 y49 y58 h =>
    bnd (pBin Tryz.prog .add 3 (.tmp 49) (.const (.int .i64 1)) y49 (.int .i64 1)) fun x62 =>
    F197_lrllrrrrrlrlrr inv k j y0 y47 y48 x62 h ke3))
    (ke3 x0 x47 x48 x49 x50 h)
theorem F197_lrllrrrrrlrlrr_j (j : Nat) : kLoop (kCode env 197 false inv k (cp c197 60388)) j (act 67 [(0, x0), (47, x47), (48, x48), (49, x49)]) h K = F197_lrllrrrrrlrlrr inv k j x0 x47 x48 x49 h (fun y0 y47 y48 y49 y50 h => K (.exit 3) (act 67 [(0, y0), (47, y47), (48, y48), (49, y49), (50, y50)]) h) := by
      induction j generalizing x0 x47 x48 x49 h with
      | zero => rfl
      | succ j ih =>
        unfold F197_lrllrrrrrlrlrr
        simp only [kLoop, kq_seq c197 60388, r197_13, kq_seq c197 120777, b197_lrllrllrrrrrlrlrr, kq_skip c197 483108, kq_seq c197 241555, F197_lrrllrllrrrrrlrlrr_eq, r197_18, kq_exit c197 483109 3, ih, reduceIte, reduceCtorEq, XE.exit.injEq, Nat.reduceEqDiff, Nat.reduceMul, Nat.reduceAdd] <;> kernel_rfl
theorem F197_lrllrrrrrlrlrr_eq  : kCode env 197 false inv k (cp c197 30194) (act 67 [(0, x0), (47, x47), (48, x48), (49, x49)]) h K = F197_lrllrrrrrlrlrr inv k k x0 x47 x48 x49 h (fun y0 y47 y48 y49 y50 h => K (.exit 3) (act 67 [(0, y0), (47, y47), (48, y48), (49, y49), (50, y50)]) h) := kq_loop (F197_lrllrrrrrlrlrr_j k)
theorem r197_19  : kCode env 197 false inv k (cp c197 7549) (act 67 [(0, x0), (47, x47), (48, x48), (49, x49), (50, x50)]) h K =
    bnd (pBuildSlice Tryz.prog 223 2 #[(0, (.int .u8 0)), (1, (.int .u8 0))] h) fun x64 =>
    bnd (pAppend Tryz.prog #[223, 223] x0 x64.1 x64.2) fun x65 =>
    K .normal (act 67 [(0, x65.1)]) x65.2 := kq_reg
noncomputable def F197_rlrr {β : Type} (inv : Inv) (k : Nat) (x0 x3 x16 : Value) (h : AH) (kn : (Value → Value → Value → Value → Value → Value → AH → Option β)) : Option β :=
    bnd (pBin Tryz.prog .eql 3 (.tmp 16) (.const (.int .i64 1)) x16 (.int .i64 1)) fun x18 =>
    brV x18
    (bnd (pFieldAddr Tryz.prog 49 x3 1) fun x19 =>
    bnd (pLoad Tryz.prog 2 x19 h) fun x20 =>
    bnd (pConv Tryz.prog 2 237 x20 h) fun x21 =>
    bnd (pBin Tryz.prog .xor 237 (.tmp 21) (.const (.int .u64 9223372036854775808)) x21 (.int .u64 9223372036854775808)) fun x22 =>
    F197_lrrlrlrlrr inv k k x0 x22 (.int .i64 7) h
    (fun y0 y5 y6 y24 h =>
    kn y0 unk y5 y6 y24 unk h))
    (bnd (pBin Tryz.prog .eql 3 (.tmp 16) (.const (.int .i64 2)) x16 (.int .i64 2)) fun x36 =>
    brV x36
    (bnd (pFieldAddr Tryz.prog 49 x3 1) fun x38 =>
    bnd (pLoad Tryz.prog 2 x38 h) fun x39 =>
    bnd (pConv Tryz.prog 2 5 x39 h) fun x40 =>
    bnd (pBuildSlice Tryz.prog 223 1 #[(0, x40)] h) fun x41 =>
    bnd (pAppend Tryz.prog #[223, 223] x0 x41.1 x41.2) fun x42 =>
    kn x42.1 unk unk unk unk unk x42.2)
    (bnd (pBin Tryz.prog .eql 3 (.tmp 16) (.const (.int .i64 3)) x16 (.int .i64 3)) fun x44 =>
    brV x44
    (bnd (pFieldAddr Tryz.prog 49 x3 2) fun x45 =>
    bnd (pLoad Tryz.prog 9 x45 h) fun x46 =>
    bnd (pBytes Tryz.prog 9 223 x46 h) fun x47 =>
    bnd (pLen Tryz.prog #[223] x47.1 x47.2) fun x48 =>
    F197_lrllrrrrrlrlrr inv k k x0 x47.1 x48 (.int .i64 0) x47.2
    (fun y0_1 y47 y48 y49 y50 h_2 =>
    bnd (pBuildSlice Tryz.prog 223 2 #[(0, (.int .u8 0)), (1, (.int .u8 0))] h_2) fun x64 =>
    bnd (pAppend Tryz.prog #[223, 223] y0_1 x64.1 x64.2) fun x65 =>
    kn x65.1 unk unk unk unk unk x65.2))
    (kn x0 x3 unk unk unk x44 h)))
theorem F197_rlrr_eq  : kCode env 197 false inv k (cp c197 29) (act 67 [(0, x0), (3, x3), (16, x16)]) h K = F197_rlrr inv k x0 x3 x16 h (fun y0 y3 y5 y6 y24 y43 h => K .normal (act 67 [(0, y0), (3, y3), (5, y5), (6, y6), (24, y24), (43, y43)]) h) := by
      unfold F197_rlrr
      simp only [kq_block c197 29 0, kq_seq c197 58, r197_3, b197_rlrlrr, kq_seq c197 234, r197_4, kq_seq c197 469, r197_5, kq_block c197 939 1, F197_lrrlrlrlrr_eq, kq_seq c197 235, r197_9, b197_rrrlrlrr, r197_10, kq_seq c197 943, r197_11, b197_rrrrrlrlrr, kq_seq c197 3774, kq_seq c197 7548, r197_12, kq_block c197 15097 3, F197_lrllrrrrrlrlrr_eq, r197_19, kq_skip c197 3775, reduceIte, reduceCtorEq, XE.exit.injEq, Nat.reduceEqDiff, Nat.reduceMul, Nat.reduceAdd] <;> kernel_rfl
theorem r197_20  : kCode env 197 false inv k (cp c197 30) (act 67 [(0, x0), (3, x3), (5, x5), (6, x6), (24, x24), (43, x43)]) h K =
    K .normal (act 67 [(4, x0)]) h := kq_reg
theorem res197_0 : resOfFn env.P 197 .ret (act 67 [(4, x4)]) h = some (x4, h) := kq_res
/-- shadowbook/value.key -/
noncomputable def F197 (inv : Inv) (k : Nat) (x0 x1 : Value) (h : AH) : Option (Value × AH) :=
    bnd (pBox Tryz.prog 49 x1 h) fun x3 =>
    bnd (pFieldAddr Tryz.prog 49 x3.1 0) fun x10 =>
    bnd (pLoad Tryz.prog 3 x10 x3.2) fun x11 =>
    bnd (pConv Tryz.prog 3 5 x11 x3.2) fun x12 =>
    bnd (pBuildSlice Tryz.prog 223 1 #[(0, x12)] x3.2) fun x13 =>
    bnd (pAppend Tryz.prog #[223, 223] x0 x13.1 x13.2) fun x14 =>
    bnd (pFieldAddr Tryz.prog 49 x3.1 0) fun x15 =>
    bnd (pLoad Tryz.prog 3 x15 x14.2) fun x16 =>
    F197_rlrr inv k x14.1 x3.1 x16 x14.2
    (fun y0 y3 y5 y6 y24 y43 h =>
    some (y0, h))
theorem F197_eq : eFun env k inv 197 #[x0, x1] h = F197 inv k x0 x1 h := by
      refine (kq_fun (a := act 67 [(0, x0), (1, x1)]) (c := cp c197 1)).trans ?_
      unfold F197
      simp only [kq_seq c197 1, r197_0, kq_seq c197 3, r197_1, kq_seq c197 7, kq_seq c197 14, r197_2, F197_rlrr_eq, kq_seq c197 15, r197_20, kq_ret c197 31, res197_0, reduceIte, reduceCtorEq, XE.exit.injEq, Nat.reduceEqDiff, Nat.reduceMul, Nat.reduceAdd] <;> kernel_rfl
theorem F197_call : eInv env (k + 1) (.func 197) #[] #[x0, x1] h = F197 (eInv env k) k x0 x1 h := kq_inv F197_eq
noncomputable def c236 : Code := codeOf Tryz.prog 236
theorem r236_0  : kCode env 236 false inv k (cp c236 1) (act 11 [(0, x0), (1, x1)]) h K =
    bnd (pNilCheck Tryz.prog x0) fun x5 =>
    bnd (pFieldAddr Tryz.prog 227 x5 0) fun x6 =>
    bnd (pLoad Tryz.prog 2 x6 h) fun x7 =>
    bnd (pBin Tryz.prog .add 2 (.tmp 7) (.const (.int .i64 1)) x7 (.int .i64 1)) fun x8 =>
    bnd (pNilCheck Tryz.prog x0) fun x9 =>
    bnd (pFieldAddr Tryz.prog 227 x9 0) fun x10 =>
    bnd (kSt (pStore Tryz.prog 2 x10 x8 h)) fun u =>
    K .normal (act 11 []) u.2 := kq_reg
theorem res236_0 : resOfFn env.P 236 .normal (act 11 []) h = some (.tuple #[], h) := kq_res
/-- (*shadowbook/agg.count).add -/
noncomputable def F236 (inv : Inv) (k : Nat) (x0 x1 : Value) (h : AH) : Option (Value × AH) :=
    bnd (pNilCheck Tryz.prog x0) fun x5 =>
    bnd (pFieldAddr Tryz.prog 227 x5 0) fun x6 =>
    bnd (pLoad Tryz.prog 2 x6 h) fun x7 =>
    bnd (pBin Tryz.prog .add 2 (.tmp 7) (.const (.int .i64 1)) x7 (.int .i64 1)) fun x8 =>
    bnd (pNilCheck Tryz.prog x0) fun x9 =>
    bnd (pFieldAddr Tryz.prog 227 x9 0) fun x10 =>
    bnd (kSt (pStore Tryz.prog 2 x10 x8 h)) fun u =>
    some (.tuple #[], u.2)
theorem F236_eq : eFun env k inv 236 #[x0, x1] h = F236 inv k x0 x1 h := by
      refine (kq_fun (a := act 11 [(0, x0), (1, x1)]) (c := cp c236 1)).trans ?_
      unfold F236
      simp only [r236_0, res236_0, reduceIte, reduceCtorEq, XE.exit.injEq, Nat.reduceEqDiff, Nat.reduceMul, Nat.reduceAdd] <;> kernel_rfl
theorem F236_call : eInv env (k + 1) (.func 236) #[] #[x0, x1] h = F236 (eInv env k) k x0 x1 h := kq_inv F236_eq
noncomputable def c238 : Code := codeOf Tryz.prog 238
theorem r238_0  : kCode env 238 false inv k (cp c238 2) (act 8 [(0, x0)]) h K =
    bnd (pAlloc Tryz.prog 49 h) fun x2 =>
    K .normal (act 8 [(0, x0), (2, x2.1)]) x2.2 := kq_reg
theorem r238_1  : kCode env 238 false inv k (cp c238 6) (act 8 [(0, x0), (2, x2)]) h K =
    bnd (pNilCheck Tryz.prog x0) fun x4 =>
    bnd (pFieldAddr Tryz.prog 227 x4 0) fun x5 =>
    bnd (pLoad Tryz.prog 2 x5 h) fun x6 =>
    bnd (pBuild Tryz.prog 49 #[(0, (.int .i64 1)), (1, x6)]) fun x7 =>
    bnd (kSt (pStore Tryz.prog 49 x2 x7 h)) fun u =>
    K .normal (act 8 [(2, x2)]) u.2 := kq_reg
theorem res238_0 : resOfFn env.P 238 .ret (act 8 [(2, x2)]) h = bnd (pLoad Tryz.prog 49 x2 h) fun q0 =>
    some (q0, h) := kq_res
/-- (*shadowbook/agg.count).told -/
noncomputable def F238 (inv : Inv) (k : Nat) (x0 : Value) (h : AH) : Option (Value × AH) :=
    bnd (pAlloc Tryz.prog 49 h) fun x2 =>
    bnd (pNilCheck Tryz.prog x0) fun x4 =>
    bnd (pFieldAddr Tryz.prog 227 x4 0) fun x5 =>
    bnd (pLoad Tryz.prog 2 x5 x2.2) fun x6 =>
    bnd (pBuild Tryz.prog 49 #[(0, (.int .i64 1)), (1, x6)]) fun x7 =>
    bnd (kSt (pStore Tryz.prog 49 x2.1 x7 x2.2)) fun u =>
    bnd (pLoad Tryz.prog 49 x2.1 u.2) fun q0 =>
    some (q0, u.2)
theorem F238_eq : eFun env k inv 238 #[x0] h = F238 inv k x0 h := by
      refine (kq_fun (a := act 8 [(0, x0)]) (c := cp c238 1)).trans ?_
      unfold F238
      simp only [kq_seq c238 1, r238_0, kq_seq c238 3, r238_1, kq_ret c238 7, res238_0, reduceIte, reduceCtorEq, XE.exit.injEq, Nat.reduceEqDiff, Nat.reduceMul, Nat.reduceAdd] <;> kernel_rfl
theorem F238_call : eInv env (k + 1) (.func 238) #[] #[x0] h = F238 (eInv env k) k x0 h := kq_inv F238_eq
noncomputable def c239 : Code := codeOf Tryz.prog 239
theorem r239_0  : kCode env 239 false inv k (cp c239 1) (act 13 [(0, x0), (1, x1)]) h K =
    bnd (pNilCheck Tryz.prog x0) fun x7 =>
    bnd (pFieldAddr Tryz.prog 230 x7 0) fun x8 =>
    bnd (pLoad Tryz.prog 3 x8 h) fun x9 =>
    bnd (pIndexAddr Tryz.prog 45 x1 x9) fun x10 =>
    bnd (pLoad Tryz.prog 49 x10 h) fun x11 =>
    bnd (inv (.func 242) #[] #[x0, x11] h) fun x12 =>
    K .normal (act 13 []) x12.2 := kq_reg
theorem res239_0 : resOfFn env.P 239 .normal (act 13 []) h = some (.tuple #[], h) := kq_res
/-- (*shadowbook/agg.sum).add -/
noncomputable def F239 (inv : Inv) (k : Nat) (x0 x1 : Value) (h : AH) : Option (Value × AH) :=
    bnd (pNilCheck Tryz.prog x0) fun x7 =>
    bnd (pFieldAddr Tryz.prog 230 x7 0) fun x8 =>
    bnd (pLoad Tryz.prog 3 x8 h) fun x9 =>
    bnd (pIndexAddr Tryz.prog 45 x1 x9) fun x10 =>
    bnd (pLoad Tryz.prog 49 x10 h) fun x11 =>
    bnd (inv (.func 242) #[] #[x0, x11] h) fun x12 =>
    some (.tuple #[], x12.2)
theorem F239_eq : eFun env k inv 239 #[x0, x1] h = F239 inv k x0 x1 h := by
      refine (kq_fun (a := act 13 [(0, x0), (1, x1)]) (c := cp c239 1)).trans ?_
      unfold F239
      simp only [r239_0, res239_0, reduceIte, reduceCtorEq, XE.exit.injEq, Nat.reduceEqDiff, Nat.reduceMul, Nat.reduceAdd] <;> kernel_rfl
theorem F239_call : eInv env (k + 1) (.func 239) #[] #[x0, x1] h = F239 (eInv env k) k x0 x1 h := kq_inv F239_eq
noncomputable def c241 : Code := codeOf Tryz.prog 241
theorem r241_0  : kCode env 241 false inv k (cp c241 2) (act 7 [(0, x0)]) h K =
    bnd (pAlloc Tryz.prog 49 h) fun x2 =>
    K .normal (act 7 [(0, x0), (2, x2.1)]) x2.2 := kq_reg
theorem r241_1  : kCode env 241 false inv k (cp c241 6) (act 7 [(0, x0), (2, x2)]) h K =
    bnd (pNilCheck Tryz.prog x0) fun x4 =>
    bnd (pFieldAddr Tryz.prog 230 x4 1) fun x5 =>
    bnd (pLoad Tryz.prog 49 x5 h) fun x6 =>
    bnd (kSt (pStore Tryz.prog 49 x2 x6 h)) fun u =>
    K .normal (act 7 [(2, x2)]) u.2 := kq_reg
theorem res241_0 : resOfFn env.P 241 .ret (act 7 [(2, x2)]) h = bnd (pLoad Tryz.prog 49 x2 h) fun q0 =>
    some (q0, h) := kq_res
/-- (*shadowbook/agg.sum).told -/
noncomputable def F241 (inv : Inv) (k : Nat) (x0 : Value) (h : AH) : Option (Value × AH) :=
    bnd (pAlloc Tryz.prog 49 h) fun x2 =>
    bnd (pNilCheck Tryz.prog x0) fun x4 =>
    bnd (pFieldAddr Tryz.prog 230 x4 1) fun x5 =>
    bnd (pLoad Tryz.prog 49 x5 x2.2) fun x6 =>
    bnd (kSt (pStore Tryz.prog 49 x2.1 x6 x2.2)) fun u =>
    bnd (pLoad Tryz.prog 49 x2.1 u.2) fun q0 =>
    some (q0, u.2)
theorem F241_eq : eFun env k inv 241 #[x0] h = F241 inv k x0 h := by
      refine (kq_fun (a := act 7 [(0, x0)]) (c := cp c241 1)).trans ?_
      unfold F241
      simp only [kq_seq c241 1, r241_0, kq_seq c241 3, r241_1, kq_ret c241 7, res241_0, reduceIte, reduceCtorEq, XE.exit.injEq, Nat.reduceEqDiff, Nat.reduceMul, Nat.reduceAdd] <;> kernel_rfl
theorem F241_call : eInv env (k + 1) (.func 241) #[] #[x0] h = F241 (eInv env k) k x0 h := kq_inv F241_eq
noncomputable def c242 : Code := codeOf Tryz.prog 242
theorem r242_0  : kCode env 242 false inv k (cp c242 2) (act 25 [(0, x0), (1, x1)]) h K =
    bnd (pBox Tryz.prog 49 x1 h) fun x3 =>
    K .normal (act 25 [(0, x0), (3, x3.1)]) x3.2 := kq_reg
theorem r242_1  : kCode env 242 false inv k (cp c242 6) (act 25 [(0, x0), (3, x3)]) h K =
    bnd (pFieldAddr Tryz.prog 49 x3 0) fun x4 =>
    bnd (pLoad Tryz.prog 3 x4 h) fun x5 =>
    bnd (pBin Tryz.prog .neq 3 (.tmp 5) (.const (.int .i64 0)) x5 (.int .i64 0)) fun x6 =>
    K .normal (act 25 [(0, x0), (3, x3), (6, x6)]) h := kq_reg
theorem b242_rr  : kCode env 242 false inv k (cp c242 7) (act 25 [(0, x0), (3, x3), (6, x6)]) h K = brV x6 (kCode env 242 false inv k (cp c242 14) (act 25 [(0, x0), (3, x3), (6, x6)]) h K) (kCode env 242 false inv k (cp c242 15) (act 25 [(0, x0), (3, x3), (6, x6)]) h K) := kq_cond
noncomputable abbrev G242_2 {β : Type} (inv : Inv) (x0 x3 : Value) (h : AH) (K : AH → Option β) : Option β :=
    bnd (pFieldAddr Tryz.prog 49 x3 0) fun x9 =>
    bnd (pLoad Tryz.prog 3 x9 h) fun x10 =>
    bnd (pNilCheck Tryz.prog x0) fun x12 =>
    bnd (pFieldAddr Tryz.prog 230 x12 1) fun x13 =>
    bnd (pFieldAddr Tryz.prog 49 x13 1) fun x14 =>
    bnd (pLoad Tryz.prog 2 x14 h) fun x15 =>
    bnd (pFieldAddr Tryz.prog 49 x3 1) fun x16 =>
    bnd (pLoad Tryz.prog 2 x16 h) fun x17 =>
    bnd (pBin Tryz.prog .add 2 (.tmp 15) (.tmp 17) x15 x17) fun x18 =>
    bnd (pNilCheck Tryz.prog x0) fun x19 =>
    bnd (pFieldAddr Tryz.prog 230 x19 1) fun x20 =>
    bnd (pFieldAddr Tryz.prog 49 x20 0) fun x21 =>
    bnd (kSt (pStore Tryz.prog 3 x21 x10 h)) fun u =>
    bnd (pNilCheck Tryz.prog x0) fun x22 =>
    bnd (pFieldAddr Tryz.prog 230 x22 1) fun x23 =>
    bnd (pFieldAddr Tryz.prog 49 x23 1) fun x24 =>
    bnd (kSt (pStore Tryz.prog 2 x24 x18 u.2)) fun u_1 =>
    chkK ((!true || !true || (sameO (pLoad Tryz.prog 2 x16 h) x17 && sameO (pLoad Tryz.prog 2 x16 u.2) x17)) && true) <|
    K u_1.2
theorem r242_2  : kCode env 242 false inv k (cp c242 14) (act 25 [(0, x0), (3, x3), (6, x6)]) h K =
    G242_2 inv x0 x3 h fun  h => K .normal (act 25 []) h := kq_draw
theorem res242_0 : resOfFn env.P 242 .normal (act 25 []) h = some (.tuple #[], h) := kq_res
theorem res242_1 : resOfFn env.P 242 .normal (act 25 [(0, x0), (3, x3), (6, x6)]) h = some (.tuple #[], h) := kq_res
/-- (*shadowbook/agg.sum).put -/
noncomputable def F242 (inv : Inv) (k : Nat) (x0 x1 : Value) (h : AH) : Option (Value × AH) :=
    bnd (pBox Tryz.prog 49 x1 h) fun x3 =>
    bnd (pFieldAddr Tryz.prog 49 x3.1 0) fun x4 =>
    bnd (pLoad Tryz.prog 3 x4 x3.2) fun x5 =>
    bnd (pBin Tryz.prog .neq 3 (.tmp 5) (.const (.int .i64 0)) x5 (.int .i64 0)) fun x6 =>
    brV x6
    (G242_2 inv x0 x3.1 x3.2 fun  h =>
    some (.tuple #[], h))
    (some (.tuple #[], x3.2))
theorem F242_eq : eFun env k inv 242 #[x0, x1] h = F242 inv k x0 x1 h := by
      refine (kq_fun (a := act 25 [(0, x0), (1, x1)]) (c := cp c242 1)).trans ?_
      unfold F242
      simp only [kq_seq c242 1, r242_0, kq_seq c242 3, r242_1, b242_rr, r242_2, res242_0, kq_skip c242 15, res242_1, reduceIte, reduceCtorEq, XE.exit.injEq, Nat.reduceEqDiff, Nat.reduceMul, Nat.reduceAdd] <;> kernel_rfl
theorem F242_call : eInv env (k + 1) (.func 242) #[] #[x0, x1] h = F242 (eInv env k) k x0 x1 h := kq_inv F242_eq
noncomputable def c243 : Code := codeOf Tryz.prog 243
theorem r243_0  : kCode env 243 false inv k (cp c243 1) (act 13 [(0, x0), (1, x1)]) h K =
    bnd (pNilCheck Tryz.prog x0) fun x7 =>
    bnd (pFieldAddr Tryz.prog 233 x7 0) fun x8 =>
    bnd (pLoad Tryz.prog 3 x8 h) fun x9 =>
    bnd (pIndexAddr Tryz.prog 45 x1 x9) fun x10 =>
    bnd (pLoad Tryz.prog 49 x10 h) fun x11 =>
    bnd (inv (.func 246) #[] #[x0, x11] h) fun x12 =>
    K .normal (act 13 []) x12.2 := kq_reg
theorem res243_0 : resOfFn env.P 243 .normal (act 13 []) h = some (.tuple #[], h) := kq_res
/-- (*shadowbook/agg.most).add -/
noncomputable def F243 (inv : Inv) (k : Nat) (x0 x1 : Value) (h : AH) : Option (Value × AH) :=
    bnd (pNilCheck Tryz.prog x0) fun x7 =>
    bnd (pFieldAddr Tryz.prog 233 x7 0) fun x8 =>
    bnd (pLoad Tryz.prog 3 x8 h) fun x9 =>
    bnd (pIndexAddr Tryz.prog 45 x1 x9) fun x10 =>
    bnd (pLoad Tryz.prog 49 x10 h) fun x11 =>
    bnd (inv (.func 246) #[] #[x0, x11] h) fun x12 =>
    some (.tuple #[], x12.2)
theorem F243_eq : eFun env k inv 243 #[x0, x1] h = F243 inv k x0 x1 h := by
      refine (kq_fun (a := act 13 [(0, x0), (1, x1)]) (c := cp c243 1)).trans ?_
      unfold F243
      simp only [r243_0, res243_0, reduceIte, reduceCtorEq, XE.exit.injEq, Nat.reduceEqDiff, Nat.reduceMul, Nat.reduceAdd] <;> kernel_rfl
theorem F243_call : eInv env (k + 1) (.func 243) #[] #[x0, x1] h = F243 (eInv env k) k x0 x1 h := kq_inv F243_eq
noncomputable def c245 : Code := codeOf Tryz.prog 245
theorem r245_0  : kCode env 245 false inv k (cp c245 2) (act 7 [(0, x0)]) h K =
    bnd (pAlloc Tryz.prog 49 h) fun x2 =>
    K .normal (act 7 [(0, x0), (2, x2.1)]) x2.2 := kq_reg
theorem r245_1  : kCode env 245 false inv k (cp c245 6) (act 7 [(0, x0), (2, x2)]) h K =
    bnd (pNilCheck Tryz.prog x0) fun x4 =>
    bnd (pFieldAddr Tryz.prog 233 x4 2) fun x5 =>
    bnd (pLoad Tryz.prog 49 x5 h) fun x6 =>
    bnd (kSt (pStore Tryz.prog 49 x2 x6 h)) fun u =>
    K .normal (act 7 [(2, x2)]) u.2 := kq_reg
theorem res245_0 : resOfFn env.P 245 .ret (act 7 [(2, x2)]) h = bnd (pLoad Tryz.prog 49 x2 h) fun q0 =>
    some (q0, h) := kq_res
/-- (*shadowbook/agg.most).told -/
noncomputable def F245 (inv : Inv) (k : Nat) (x0 : Value) (h : AH) : Option (Value × AH) :=
    bnd (pAlloc Tryz.prog 49 h) fun x2 =>
    bnd (pNilCheck Tryz.prog x0) fun x4 =>
    bnd (pFieldAddr Tryz.prog 233 x4 2) fun x5 =>
    bnd (pLoad Tryz.prog 49 x5 x2.2) fun x6 =>
    bnd (kSt (pStore Tryz.prog 49 x2.1 x6 x2.2)) fun u =>
    bnd (pLoad Tryz.prog 49 x2.1 u.2) fun q0 =>
    some (q0, u.2)
theorem F245_eq : eFun env k inv 245 #[x0] h = F245 inv k x0 h := by
      refine (kq_fun (a := act 7 [(0, x0)]) (c := cp c245 1)).trans ?_
      unfold F245
      simp only [kq_seq c245 1, r245_0, kq_seq c245 3, r245_1, kq_ret c245 7, res245_0, reduceIte, reduceCtorEq, XE.exit.injEq, Nat.reduceEqDiff, Nat.reduceMul, Nat.reduceAdd] <;> kernel_rfl
theorem F245_call : eInv env (k + 1) (.func 245) #[] #[x0] h = F245 (eInv env k) k x0 h := kq_inv F245_eq
noncomputable def c246 : Code := codeOf Tryz.prog 246
theorem r246_0  : kCode env 246 false inv k (cp c246 2) (act 33 [(0, x0), (1, x1)]) h K =
    bnd (pBox Tryz.prog 49 x1 h) fun x3 =>
    K .normal (act 33 [(0, x0), (3, x3.1)]) x3.2 := kq_reg
noncomputable abbrev G246_1 {β : Type} (inv : Inv) (x0 x3 : Value) (h : AH) (K : Value → AH → Option β) : Option β :=
    bnd (pFieldAddr Tryz.prog 49 x3 0) fun x4 =>
    bnd (pLoad Tryz.prog 3 x4 h) fun x5 =>
    bnd (pBin Tryz.prog .neq 3 (.tmp 5) (.const (.int .i64 0)) x5 (.int .i64 0)) fun x6 =>
    bnd (gd3 (some x6) true h (some (x0, h))) fun x8 =>
    bnd (gd3 (some x6) true x8.2.1 (lt (pNilCheck Tryz.prog x8.1) x8.2.1)) fun x9 =>
    bnd (gd3 (some x6) true x9.2.1 (lt (pFieldAddr Tryz.prog 233 x9.1 2) x9.2.1)) fun x10 =>
    bnd (gd3 (some x6) true x10.2.1 (lt (pFieldAddr Tryz.prog 49 x10.1 0) x10.2.1)) fun x11 =>
    bnd (gd3 (some x6) true x11.2.1 (lt (pLoad Tryz.prog 3 x11.1 x11.2.1) x11.2.1)) fun x12 =>
    bnd (gd3 (some x6) true x12.2.1 (lt (pBin Tryz.prog .eql 3 (.tmp 12) (.const (.int .i64 0)) x12.1 (.int .i64 0)) x12.2.1)) fun x13 =>
    bnd (gd3 (some x6) true x13.2.1 (some (x13.1, x13.2.1))) fun x14 =>
    bnd (gd3 (some x14.1) false x14.2.1 (some (x0, x14.2.1))) fun x15 =>
    bnd (gd3 (some x14.1) false x15.2.1 (lt (pNilCheck Tryz.prog x15.1) x15.2.1)) fun x16 =>
    bnd (gd3 (some x14.1) false x16.2.1 (lt (pFieldAddr Tryz.prog 233 x16.1 1) x16.2.1)) fun x17 =>
    bnd (gd3 (some x14.1) false x17.2.1 (lt (pLoad Tryz.prog 3 x17.1 x17.2.1) x17.2.1)) fun x18 =>
    bnd (gd3 (some x14.1) false x18.2.1 (lt (pLoad Tryz.prog 49 x3 x18.2.1) x18.2.1)) fun x19 =>
    bnd (gd3 (some x14.1) false x19.2.1 (some (x0, x19.2.1))) fun x20 =>
    bnd (gd3 (some x14.1) false x20.2.1 (lt (pNilCheck Tryz.prog x20.1) x20.2.1)) fun x21 =>
    bnd (gd3 (some x14.1) false x21.2.1 (lt (pFieldAddr Tryz.prog 233 x21.1 2) x21.2.1)) fun x22 =>
    bnd (gd3 (some x14.1) false x22.2.1 (lt (pLoad Tryz.prog 49 x22.1 x22.2.1) x22.2.1)) fun x23 =>
    bnd (gd3 (some x14.1) false x23.2.1 (inv (.func 82) #[] #[x19.1, x23.1] x23.2.1)) fun x24 =>
    bnd (gd3 (some x14.1) false x24.2.1 (lt (pBin Tryz.prog .mul 3 (.tmp 18) (.tmp 24) x18.1 x24.1) x24.2.1)) fun x25 =>
    bnd (gd3 (some x14.1) false x25.2.1 (lt (pBin Tryz.prog .gtr 3 (.tmp 25) (.const (.int .i64 0)) x25.1 (.int .i64 0)) x25.2.1)) fun x26 =>
    bnd (gd3 (some x6) true x26.2.1 (lt (pickV x14.1 (.bool true) x26.1) x26.2.1)) fun x27 =>
    bnd (pickV x6 x27.1 (.bool false)) fun x28 =>
    chkK ((!x18.2.2 || !x24.2.2 || (sameO (pLoad Tryz.prog 3 x17.1 x23.2.1) x18.1 && sameO (pLoad Tryz.prog 3 x17.1 x24.2.1) x18.1)) && true) <|
    K (x28) x27.2.1
theorem r246_1  : kCode env 246 false inv k (cp c246 6) (act 33 [(0, x0), (3, x3)]) h K =
    G246_1 inv x0 x3 h fun y28 h => K .normal (act 33 [(0, x0), (3, x3), (28, y28)]) h := kq_draw
theorem b246_rr  : kCode env 246 false inv k (cp c246 7) (act 33 [(0, x0), (3, x3), (28, x28)]) h K = brV x28 (kCode env 246 false inv k (cp c246 14) (act 33 [(0, x0), (3, x3), (28, x28)]) h K) (kCode env 246 false inv k (cp c246 15) (act 33 [(0, x0), (3, x3), (28, x28)]) h K) := kq_cond
theorem r246_2  : kCode env 246 false inv k (cp c246 14) (act 33 [(0, x0), (3, x3), (28, x28)]) h K =
    bnd (pLoad Tryz.prog 49 x3 h) fun x30 =>
    bnd (pNilCheck Tryz.prog x0) fun x31 =>
    bnd (pFieldAddr Tryz.prog 233 x31 2) fun x32 =>
    bnd (kSt (pStore Tryz.prog 49 x32 x30 h)) fun u =>
    K .normal (act 33 []) u.2 := kq_reg
theorem res246_0 : resOfFn env.P 246 .normal (act 33 []) h = some (.tuple #[], h) := kq_res
theorem res246_1 : resOfFn env.P 246 .normal (act 33 [(0, x0), (3, x3), (28, x28)]) h = some (.tuple #[], h) := kq_res
/-- (*shadowbook/agg.most).put -/
noncomputable def F246 (inv : Inv) (k : Nat) (x0 x1 : Value) (h : AH) : Option (Value × AH) :=
    bnd (pBox Tryz.prog 49 x1 h) fun x3 =>
    G246_1 inv x0 x3.1 x3.2 fun y28 h =>
    brV y28
    (bnd (pLoad Tryz.prog 49 x3.1 h) fun x30 =>
    bnd (pNilCheck Tryz.prog x0) fun x31 =>
    bnd (pFieldAddr Tryz.prog 233 x31 2) fun x32 =>
    bnd (kSt (pStore Tryz.prog 49 x32 x30 h)) fun u =>
    some (.tuple #[], u.2))
    (some (.tuple #[], h))
theorem F246_eq : eFun env k inv 246 #[x0, x1] h = F246 inv k x0 x1 h := by
      refine (kq_fun (a := act 33 [(0, x0), (1, x1)]) (c := cp c246 1)).trans ?_
      unfold F246
      simp only [kq_seq c246 1, r246_0, kq_seq c246 3, r246_1, b246_rr, r246_2, res246_0, kq_skip c246 15, res246_1, reduceIte, reduceCtorEq, XE.exit.injEq, Nat.reduceEqDiff, Nat.reduceMul, Nat.reduceAdd] <;> kernel_rfl
theorem F246_call : eInv env (k + 1) (.func 246) #[] #[x0, x1] h = F246 (eInv env k) k x0 x1 h := kq_inv F246_eq
end Go.Proofs.YtkdjlihldeafoaaGreat.Sh
