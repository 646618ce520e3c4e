/- Shallow functions, part 2. Printed by a program of the prover's own from the loaded program; Lean checks it. -/
import Derived.Test.YtpiibdegmimckaaSz1
set_option linter.unusedVariables false
set_option linter.unusedSimpArgs false
set_option maxRecDepth 100000
namespace Go.Proofs.Ytpiibdegmimckaa.Sh
open Go Go.RowKit Go.Proofs.Ev
noncomputable def c31 : Code := codeOf Try.prog 31
theorem r31_0 {β : Type} {inv : Inv} {k : Nat} {x0 x1 : Value} {h : AH} {K : XE → Act → AH → Option β} : kCode env 31 false inv k (cl c31) (act 8 [(0, x0), (1, x1)]) h K =
    K .normal (act 8 [(0, x0), (1, x1)]) h := (k_reg (by kernel_rfl)).trans (by kernel_rfl)
theorem r31_1 {β : Type} {inv : Inv} {k : Nat} {x0 x1 : Value} {h : AH} {K : XE → Act → AH → Option β} : kCode env 31 false inv k (cl (cr c31)) (act 8 [(0, x0), (1, x1)]) h K =
    bnd (inv (.func 37) #[] #[x0, x1] h) fun x7 =>
    K .normal (act 8 [(4, x7.1)]) x7.2 := (k_reg (by kernel_rfl)).trans (by kernel_rfl)
theorem res31_0 {x4 : Value} {h : AH} : resOfFn env.P 31 .ret (act 8 [(4, x4)]) h = some (x4, h) := (resOfFn_k (by kernel_rfl) (by kernel_rfl)).trans (by kernel_rfl)
/-- strings.Compare -/
noncomputable def F31 (inv : Inv) (k : Nat) (x0 x1 : Value) (h : AH) : Option (Value × AH) :=
    bnd (inv (.func 37) #[] #[x0, x1] h) fun x7 =>
    some (x7.1, x7.2)
theorem F31_eq {inv : Inv} {k : Nat} {x0 x1 : Value} {h : AH} : eFun env k inv 31 #[x0, x1] h = F31 inv k x0 x1 h := by
      refine (eFun_k2 (by kernel_rfl) (by kernel_rfl) (by kernel_rfl) (a := act 8 [(0, x0), (1, x1)]) (c := c31) (by kernel_rfl) (by kernel_rfl)).trans ?_
      unfold F31
      simp only [k_seq (E := env) (f := 31) (c := c31) (by kernel_rfl), r31_0, k_seq (E := env) (f := 31) (c := (cr c31)) (by kernel_rfl), r31_1, k_ret (E := env) (f := 31) (c := (cr (cr c31))) (by kernel_rfl), res31_0, reduceIte, reduceCtorEq, XE.exit.injEq, Nat.reduceEqDiff] <;> kernel_rfl
theorem F31_call {k : Nat} {x0 x1 : Value} {h : AH} : eInv env (k + 1) (.func 31) #[] #[x0, x1] h = F31 (eInv env k) k x0 x1 h := (inv_func (by kernel_rfl)).trans F31_eq
noncomputable def c32 : Code := codeOf Try.prog 32
theorem r32_0 {β : Type} {inv : Inv} {k : Nat} {x0 : Value} {h : AH} {K : XE → Act → AH → Option β} : kCode env 32 false inv k (cl c32) (act 5 [(0, x0)]) h K =
    K .normal (act 5 [(0, x0)]) h := (k_reg (by kernel_rfl)).trans (by kernel_rfl)
theorem r32_1 {β : Type} {inv : Inv} {k : Nat} {x0 : Value} {h : AH} {K : XE → Act → AH → Option β} : kCode env 32 false inv k (cl (cr c32)) (act 5 [(0, x0)]) h K =
    bnd (pBin Try.prog Go.BinOp.eql 48 (Go.Operand.tmp 3) (Go.Operand.const (Go.Value.int Go.IntKind.i64 0)) x0 (Go.Value.int Go.IntKind.i64 0)) fun x4 =>
    K .normal (act 5 [(2, x4)]) h := (k_reg (by kernel_rfl)).trans (by kernel_rfl)
theorem res32_0 {x2 : Value} {h : AH} : resOfFn env.P 32 .ret (act 5 [(2, x2)]) h = some (x2, h) := (resOfFn_k (by kernel_rfl) (by kernel_rfl)).trans (by kernel_rfl)
/-- (shadowbook/zone.order).eq -/
noncomputable def F32 (inv : Inv) (k : Nat) (x0 : Value) (h : AH) : Option (Value × AH) :=
    bnd (pBin Try.prog Go.BinOp.eql 48 (Go.Operand.tmp 3) (Go.Operand.const (Go.Value.int Go.IntKind.i64 0)) x0 (Go.Value.int Go.IntKind.i64 0)) fun x4 =>
    some (x4, h)
theorem F32_eq {inv : Inv} {k : Nat} {x0 : Value} {h : AH} : eFun env k inv 32 #[x0] h = F32 inv k x0 h := by
      refine (eFun_k2 (by kernel_rfl) (by kernel_rfl) (by kernel_rfl) (a := act 5 [(0, x0)]) (c := c32) (by kernel_rfl) (by kernel_rfl)).trans ?_
      unfold F32
      simp only [k_seq (E := env) (f := 32) (c := c32) (by kernel_rfl), r32_0, k_seq (E := env) (f := 32) (c := (cr c32)) (by kernel_rfl), r32_1, k_ret (E := env) (f := 32) (c := (cr (cr c32))) (by kernel_rfl), res32_0, reduceIte, reduceCtorEq, XE.exit.injEq, Nat.reduceEqDiff] <;> kernel_rfl
theorem F32_call {k : Nat} {x0 : Value} {h : AH} : eInv env (k + 1) (.func 32) #[] #[x0] h = F32 (eInv env k) k x0 h := (inv_func (by kernel_rfl)).trans F32_eq
noncomputable def c33 : Code := codeOf Try.prog 33
theorem r33_0 {β : Type} {inv : Inv} {k : Nat} {x0 : Value} {h : AH} {K : XE → Act → AH → Option β} : kCode env 33 false inv k (cl c33) (act 5 [(0, x0)]) h K =
    K .normal (act 5 [(0, x0)]) h := (k_reg (by kernel_rfl)).trans (by kernel_rfl)
theorem r33_1 {β : Type} {inv : Inv} {k : Nat} {x0 : Value} {h : AH} {K : XE → Act → AH → Option β} : kCode env 33 false inv k (cl (cr c33)) (act 5 [(0, x0)]) h K =
    bnd (pBin Try.prog Go.BinOp.lss 48 (Go.Operand.tmp 3) (Go.Operand.const (Go.Value.int Go.IntKind.i64 0)) x0 (Go.Value.int Go.IntKind.i64 0)) fun x4 =>
    K .normal (act 5 [(2, x4)]) h := (k_reg (by kernel_rfl)).trans (by kernel_rfl)
theorem res33_0 {x2 : Value} {h : AH} : resOfFn env.P 33 .ret (act 5 [(2, x2)]) h = some (x2, h) := (resOfFn_k (by kernel_rfl) (by kernel_rfl)).trans (by kernel_rfl)
/-- (shadowbook/zone.order).lt -/
noncomputable def F33 (inv : Inv) (k : Nat) (x0 : Value) (h : AH) : Option (Value × AH) :=
    bnd (pBin Try.prog Go.BinOp.lss 48 (Go.Operand.tmp 3) (Go.Operand.const (Go.Value.int Go.IntKind.i64 0)) x0 (Go.Value.int Go.IntKind.i64 0)) fun x4 =>
    some (x4, h)
theorem F33_eq {inv : Inv} {k : Nat} {x0 : Value} {h : AH} : eFun env k inv 33 #[x0] h = F33 inv k x0 h := by
      refine (eFun_k2 (by kernel_rfl) (by kernel_rfl) (by kernel_rfl) (a := act 5 [(0, x0)]) (c := c33) (by kernel_rfl) (by kernel_rfl)).trans ?_
      unfold F33
      simp only [k_seq (E := env) (f := 33) (c := c33) (by kernel_rfl), r33_0, k_seq (E := env) (f := 33) (c := (cr c33)) (by kernel_rfl), r33_1, k_ret (E := env) (f := 33) (c := (cr (cr c33))) (by kernel_rfl), res33_0, reduceIte, reduceCtorEq, XE.exit.injEq, Nat.reduceEqDiff] <;> kernel_rfl
theorem F33_call {k : Nat} {x0 : Value} {h : AH} : eInv env (k + 1) (.func 33) #[] #[x0] h = F33 (eInv env k) k x0 h := (inv_func (by kernel_rfl)).trans F33_eq
noncomputable def c34 : Code := codeOf Try.prog 34
theorem r34_0 {β : Type} {inv : Inv} {k : Nat} {x0 : Value} {h : AH} {K : XE → Act → AH → Option β} : kCode env 34 false inv k (cl c34) (act 5 [(0, x0)]) h K =
    K .normal (act 5 [(0, x0)]) h := (k_reg (by kernel_rfl)).trans (by kernel_rfl)
theorem r34_1 {β : Type} {inv : Inv} {k : Nat} {x0 : Value} {h : AH} {K : XE → Act → AH → Option β} : kCode env 34 false inv k (cl (cr c34)) (act 5 [(0, x0)]) h K =
    bnd (pBin Try.prog Go.BinOp.gtr 48 (Go.Operand.tmp 3) (Go.Operand.const (Go.Value.int Go.IntKind.i64 0)) x0 (Go.Value.int Go.IntKind.i64 0)) fun x4 =>
    K .normal (act 5 [(2, x4)]) h := (k_reg (by kernel_rfl)).trans (by kernel_rfl)
theorem res34_0 {x2 : Value} {h : AH} : resOfFn env.P 34 .ret (act 5 [(2, x2)]) h = some (x2, h) := (resOfFn_k (by kernel_rfl) (by kernel_rfl)).trans (by kernel_rfl)
/-- (shadowbook/zone.order).gt -/
noncomputable def F34 (inv : Inv) (k : Nat) (x0 : Value) (h : AH) : Option (Value × AH) :=
    bnd (pBin Try.prog Go.BinOp.gtr 48 (Go.Operand.tmp 3) (Go.Operand.const (Go.Value.int Go.IntKind.i64 0)) x0 (Go.Value.int Go.IntKind.i64 0)) fun x4 =>
    some (x4, h)
theorem F34_eq {inv : Inv} {k : Nat} {x0 : Value} {h : AH} : eFun env k inv 34 #[x0] h = F34 inv k x0 h := by
      refine (eFun_k2 (by kernel_rfl) (by kernel_rfl) (by kernel_rfl) (a := act 5 [(0, x0)]) (c := c34) (by kernel_rfl) (by kernel_rfl)).trans ?_
      unfold F34
      simp only [k_seq (E := env) (f := 34) (c := c34) (by kernel_rfl), r34_0, k_seq (E := env) (f := 34) (c := (cr c34)) (by kernel_rfl), r34_1, k_ret (E := env) (f := 34) (c := (cr (cr c34))) (by kernel_rfl), res34_0, reduceIte, reduceCtorEq, XE.exit.injEq, Nat.reduceEqDiff] <;> kernel_rfl
theorem F34_call {k : Nat} {x0 : Value} {h : AH} : eInv env (k + 1) (.func 34) #[] #[x0] h = F34 (eInv env k) k x0 h := (inv_func (by kernel_rfl)).trans F34_eq
noncomputable def c35 : Code := codeOf Try.prog 35
theorem r35_0 {β : Type} {inv : Inv} {k : Nat} {x0 : Value} {h : AH} {K : XE → Act → AH → Option β} : kCode env 35 false inv k (cl c35) (act 6 [(0, x0)]) h K =
    K .normal (act 6 [(0, x0)]) h := (k_reg (by kernel_rfl)).trans (by kernel_rfl)
theorem r35_1 {β : Type} {inv : Inv} {k : Nat} {x0 : Value} {h : AH} {K : XE → Act → AH → Option β} : kCode env 35 false inv k (cl (cr c35)) (act 6 [(0, x0)]) h K =
    bnd (pBin Try.prog Go.BinOp.neq 3 (Go.Operand.tmp 3) (Go.Operand.tmp 4) x0 x0) fun x5 =>
    K .normal (act 6 [(2, x5)]) h := (k_reg (by kernel_rfl)).trans (by kernel_rfl)
theorem res35_0 {x2 : Value} {h : AH} : resOfFn env.P 35 .ret (act 6 [(2, x2)]) h = some (x2, h) := (resOfFn_k (by kernel_rfl) (by kernel_rfl)).trans (by kernel_rfl)
/-- cmp.isNaN[int] -/
noncomputable def F35 (inv : Inv) (k : Nat) (x0 : Value) (h : AH) : Option (Value × AH) :=
    bnd (pBin Try.prog Go.BinOp.neq 3 (Go.Operand.tmp 3) (Go.Operand.tmp 4) x0 x0) fun x5 =>
    some (x5, h)
theorem F35_eq {inv : Inv} {k : Nat} {x0 : Value} {h : AH} : eFun env k inv 35 #[x0] h = F35 inv k x0 h := by
      refine (eFun_k2 (by kernel_rfl) (by kernel_rfl) (by kernel_rfl) (a := act 6 [(0, x0)]) (c := c35) (by kernel_rfl) (by kernel_rfl)).trans ?_
      unfold F35
      simp only [k_seq (E := env) (f := 35) (c := c35) (by kernel_rfl), r35_0, k_seq (E := env) (f := 35) (c := (cr c35)) (by kernel_rfl), r35_1, k_ret (E := env) (f := 35) (c := (cr (cr c35))) (by kernel_rfl), res35_0, reduceIte, reduceCtorEq, XE.exit.injEq, Nat.reduceEqDiff] <;> kernel_rfl
theorem F35_call {k : Nat} {x0 : Value} {h : AH} : eInv env (k + 1) (.func 35) #[] #[x0] h = F35 (eInv env k) k x0 h := (inv_func (by kernel_rfl)).trans F35_eq
noncomputable def c36 : Code := codeOf Try.prog 36
theorem r36_0 {β : Type} {inv : Inv} {k : Nat} {x0 : Value} {h : AH} {K : XE → Act → AH → Option β} : kCode env 36 false inv k (cl c36) (act 6 [(0, x0)]) h K =
    K .normal (act 6 [(0, x0)]) h := (k_reg (by kernel_rfl)).trans (by kernel_rfl)
theorem r36_1 {β : Type} {inv : Inv} {k : Nat} {x0 : Value} {h : AH} {K : XE → Act → AH → Option β} : kCode env 36 false inv k (cl (cr c36)) (act 6 [(0, x0)]) h K =
    bnd (pBin Try.prog Go.BinOp.neq 2 (Go.Operand.tmp 3) (Go.Operand.tmp 4) x0 x0) fun x5 =>
    K .normal (act 6 [(2, x5)]) h := (k_reg (by kernel_rfl)).trans (by kernel_rfl)
theorem res36_0 {x2 : Value} {h : AH} : resOfFn env.P 36 .ret (act 6 [(2, x2)]) h = some (x2, h) := (resOfFn_k (by kernel_rfl) (by kernel_rfl)).trans (by kernel_rfl)
/-- cmp.isNaN[int64] -/
noncomputable def F36 (inv : Inv) (k : Nat) (x0 : Value) (h : AH) : Option (Value × AH) :=
    bnd (pBin Try.prog Go.BinOp.neq 2 (Go.Operand.tmp 3) (Go.Operand.tmp 4) x0 x0) fun x5 =>
    some (x5, h)
theorem F36_eq {inv : Inv} {k : Nat} {x0 : Value} {h : AH} : eFun env k inv 36 #[x0] h = F36 inv k x0 h := by
      refine (eFun_k2 (by kernel_rfl) (by kernel_rfl) (by kernel_rfl) (a := act 6 [(0, x0)]) (c := c36) (by kernel_rfl) (by kernel_rfl)).trans ?_
      unfold F36
      simp only [k_seq (E := env) (f := 36) (c := c36) (by kernel_rfl), r36_0, k_seq (E := env) (f := 36) (c := (cr c36)) (by kernel_rfl), r36_1, k_ret (E := env) (f := 36) (c := (cr (cr c36))) (by kernel_rfl), res36_0, reduceIte, reduceCtorEq, XE.exit.injEq, Nat.reduceEqDiff] <;> kernel_rfl
theorem F36_call {k : Nat} {x0 : Value} {h : AH} : eInv env (k + 1) (.func 36) #[] #[x0] h = F36 (eInv env k) k x0 h := (inv_func (by kernel_rfl)).trans F36_eq
noncomputable def c37 : Code := codeOf Try.prog 37
theorem r37_0 {β : Type} {inv : Inv} {k : Nat} {x0 x1 : Value} {h : AH} {K : XE → Act → AH → Option β} : kCode env 37 false inv k (cl c37) (act 8 [(0, x0), (1, x1)]) h K =
    K .normal (act 8 [(0, x0), (1, x1)]) h := (k_reg (by kernel_rfl)).trans (by kernel_rfl)
theorem r37_1 {β : Type} {inv : Inv} {k : Nat} {x0 x1 : Value} {h : AH} {K : XE → Act → AH → Option β} : kCode env 37 false inv k (cl (cr c37)) (act 8 [(0, x0), (1, x1)]) h K =
    bnd (inv (.func 38) #[] #[x0, x1] h) fun x7 =>
    K .normal (act 8 [(4, x7.1)]) x7.2 := (k_reg (by kernel_rfl)).trans (by kernel_rfl)
theorem res37_0 {x4 : Value} {h : AH} : resOfFn env.P 37 .ret (act 8 [(4, x4)]) h = some (x4, h) := (resOfFn_k (by kernel_rfl) (by kernel_rfl)).trans (by kernel_rfl)
/-- internal/bytealg.CompareString -/
noncomputable def F37 (inv : Inv) (k : Nat) (x0 x1 : Value) (h : AH) : Option (Value × AH) :=
    bnd (inv (.func 38) #[] #[x0, x1] h) fun x7 =>
    some (x7.1, x7.2)
theorem F37_eq {inv : Inv} {k : Nat} {x0 x1 : Value} {h : AH} : eFun env k inv 37 #[x0, x1] h = F37 inv k x0 x1 h := by
      refine (eFun_k2 (by kernel_rfl) (by kernel_rfl) (by kernel_rfl) (a := act 8 [(0, x0), (1, x1)]) (c := c37) (by kernel_rfl) (by kernel_rfl)).trans ?_
      unfold F37
      simp only [k_seq (E := env) (f := 37) (c := c37) (by kernel_rfl), r37_0, k_seq (E := env) (f := 37) (c := (cr c37)) (by kernel_rfl), r37_1, k_ret (E := env) (f := 37) (c := (cr (cr c37))) (by kernel_rfl), res37_0, reduceIte, reduceCtorEq, XE.exit.injEq, Nat.reduceEqDiff] <;> kernel_rfl
theorem F37_call {k : Nat} {x0 x1 : Value} {h : AH} : eInv env (k + 1) (.func 37) #[] #[x0, x1] h = F37 (eInv env k) k x0 x1 h := (inv_func (by kernel_rfl)).trans F37_eq
end Go.Proofs.Ytpiibdegmimckaa.Sh
