/- Shallow functions, part 2. Printed by a program of the prover's own from the loaded program; Lean checks it. -/
import Derived.Test.YtpiibdegmimckaaSz1
set_option linter.unusedVariables false
set_option linter.unusedSimpArgs false
set_option maxRecDepth 100000
namespace Go.Proofs.Ytpiibdegmimckaa.Sh
open Go Go.RowKit Go.Proofs.Ev
noncomputable def c24 : Code := codeOf Try.prog 24
theorem r24_0 {β : Type} {inv : Inv} {k : Nat} {x0 : Value} {h : AH} {K : XE → Act → AH → Option β} : kCode env 24 false inv k (cl c24) (act 5 [(0, x0)]) h K =
    K .normal (act 5 [(0, x0)]) h := (k_reg (by kernel_rfl)).trans (by kernel_rfl)
theorem r24_1 {β : Type} {inv : Inv} {k : Nat} {x0 : Value} {h : AH} {K : XE → Act → AH → Option β} : kCode env 24 false inv k (cl (cr c24)) (act 5 [(0, x0)]) h K =
    bnd (pBin Try.prog Go.BinOp.leq 48 (Go.Operand.tmp 3) (Go.Operand.const (Go.Value.int Go.IntKind.i64 0)) x0 (Go.Value.int Go.IntKind.i64 0)) fun x4 =>
    K .normal (act 5 [(2, x4)]) h := (k_reg (by kernel_rfl)).trans (by kernel_rfl)
theorem res24_0 {x2 : Value} {h : AH} : resOfFn env.P 24 .ret (act 5 [(2, x2)]) h = some (x2, h) := (resOfFn_k (by kernel_rfl) (by kernel_rfl)).trans (by kernel_rfl)
/-- (shadowbook/zone.order).le -/
noncomputable def F24 (inv : Inv) (k : Nat) (x0 : Value) (h : AH) : Option (Value × AH) :=
    bnd (pBin Try.prog Go.BinOp.leq 48 (Go.Operand.tmp 3) (Go.Operand.const (Go.Value.int Go.IntKind.i64 0)) x0 (Go.Value.int Go.IntKind.i64 0)) fun x4 =>
    some (x4, h)
theorem F24_eq {inv : Inv} {k : Nat} {x0 : Value} {h : AH} : eFun env k inv 24 #[x0] h = F24 inv k x0 h := by
      refine (eFun_k2 (by kernel_rfl) (by kernel_rfl) (by kernel_rfl) (a := act 5 [(0, x0)]) (c := c24) (by kernel_rfl) (by kernel_rfl)).trans ?_
      unfold F24
      simp only [k_seq (E := env) (f := 24) (c := c24) (by kernel_rfl), r24_0, k_seq (E := env) (f := 24) (c := (cr c24)) (by kernel_rfl), r24_1, k_ret (E := env) (f := 24) (c := (cr (cr c24))) (by kernel_rfl), res24_0, reduceIte, reduceCtorEq, XE.exit.injEq, Nat.reduceEqDiff] <;> kernel_rfl
theorem F24_call {k : Nat} {x0 : Value} {h : AH} : eInv env (k + 1) (.func 24) #[] #[x0] h = F24 (eInv env k) k x0 h := (inv_func (by kernel_rfl)).trans F24_eq
noncomputable def c25 : Code := codeOf Try.prog 25
theorem r25_0 {β : Type} {inv : Inv} {k : Nat} {x0 : Value} {h : AH} {K : XE → Act → AH → Option β} : kCode env 25 false inv k (cl c25) (act 5 [(0, x0)]) h K =
    K .normal (act 5 [(0, x0)]) h := (k_reg (by kernel_rfl)).trans (by kernel_rfl)
theorem r25_1 {β : Type} {inv : Inv} {k : Nat} {x0 : Value} {h : AH} {K : XE → Act → AH → Option β} : kCode env 25 false inv k (cl (cr c25)) (act 5 [(0, x0)]) h K =
    bnd (pBin Try.prog Go.BinOp.geq 48 (Go.Operand.tmp 3) (Go.Operand.const (Go.Value.int Go.IntKind.i64 0)) x0 (Go.Value.int Go.IntKind.i64 0)) fun x4 =>
    K .normal (act 5 [(2, x4)]) h := (k_reg (by kernel_rfl)).trans (by kernel_rfl)
theorem res25_0 {x2 : Value} {h : AH} : resOfFn env.P 25 .ret (act 5 [(2, x2)]) h = some (x2, h) := (resOfFn_k (by kernel_rfl) (by kernel_rfl)).trans (by kernel_rfl)
/-- (shadowbook/zone.order).ge -/
noncomputable def F25 (inv : Inv) (k : Nat) (x0 : Value) (h : AH) : Option (Value × AH) :=
    bnd (pBin Try.prog Go.BinOp.geq 48 (Go.Operand.tmp 3) (Go.Operand.const (Go.Value.int Go.IntKind.i64 0)) x0 (Go.Value.int Go.IntKind.i64 0)) fun x4 =>
    some (x4, h)
theorem F25_eq {inv : Inv} {k : Nat} {x0 : Value} {h : AH} : eFun env k inv 25 #[x0] h = F25 inv k x0 h := by
      refine (eFun_k2 (by kernel_rfl) (by kernel_rfl) (by kernel_rfl) (a := act 5 [(0, x0)]) (c := c25) (by kernel_rfl) (by kernel_rfl)).trans ?_
      unfold F25
      simp only [k_seq (E := env) (f := 25) (c := c25) (by kernel_rfl), r25_0, k_seq (E := env) (f := 25) (c := (cr c25)) (by kernel_rfl), r25_1, k_ret (E := env) (f := 25) (c := (cr (cr c25))) (by kernel_rfl), res25_0, reduceIte, reduceCtorEq, XE.exit.injEq, Nat.reduceEqDiff] <;> kernel_rfl
theorem F25_call {k : Nat} {x0 : Value} {h : AH} : eInv env (k + 1) (.func 25) #[] #[x0] h = F25 (eInv env k) k x0 h := (inv_func (by kernel_rfl)).trans F25_eq
noncomputable def c26 : Code := codeOf Try.prog 26
theorem r26_0 {β : Type} {inv : Inv} {k : Nat} {x0 : Value} {h : AH} {K : XE → Act → AH → Option β} : kCode env 26 false inv k (cl c26) (act 5 [(0, x0)]) h K =
    K .normal (act 5 [(0, x0)]) h := (k_reg (by kernel_rfl)).trans (by kernel_rfl)
theorem r26_1 {β : Type} {inv : Inv} {k : Nat} {x0 : Value} {h : AH} {K : XE → Act → AH → Option β} : kCode env 26 false inv k (cl (cr c26)) (act 5 [(0, x0)]) h K =
    bnd (pBin Try.prog Go.BinOp.neq 48 (Go.Operand.tmp 3) (Go.Operand.const (Go.Value.int Go.IntKind.i64 0)) x0 (Go.Value.int Go.IntKind.i64 0)) fun x4 =>
    K .normal (act 5 [(2, x4)]) h := (k_reg (by kernel_rfl)).trans (by kernel_rfl)
theorem res26_0 {x2 : Value} {h : AH} : resOfFn env.P 26 .ret (act 5 [(2, x2)]) h = some (x2, h) := (resOfFn_k (by kernel_rfl) (by kernel_rfl)).trans (by kernel_rfl)
/-- (shadowbook/zone.order).ne -/
noncomputable def F26 (inv : Inv) (k : Nat) (x0 : Value) (h : AH) : Option (Value × AH) :=
    bnd (pBin Try.prog Go.BinOp.neq 48 (Go.Operand.tmp 3) (Go.Operand.const (Go.Value.int Go.IntKind.i64 0)) x0 (Go.Value.int Go.IntKind.i64 0)) fun x4 =>
    some (x4, h)
theorem F26_eq {inv : Inv} {k : Nat} {x0 : Value} {h : AH} : eFun env k inv 26 #[x0] h = F26 inv k x0 h := by
      refine (eFun_k2 (by kernel_rfl) (by kernel_rfl) (by kernel_rfl) (a := act 5 [(0, x0)]) (c := c26) (by kernel_rfl) (by kernel_rfl)).trans ?_
      unfold F26
      simp only [k_seq (E := env) (f := 26) (c := c26) (by kernel_rfl), r26_0, k_seq (E := env) (f := 26) (c := (cr c26)) (by kernel_rfl), r26_1, k_ret (E := env) (f := 26) (c := (cr (cr c26))) (by kernel_rfl), res26_0, reduceIte, reduceCtorEq, XE.exit.injEq, Nat.reduceEqDiff] <;> kernel_rfl
theorem F26_call {k : Nat} {x0 : Value} {h : AH} : eInv env (k + 1) (.func 26) #[] #[x0] h = F26 (eInv env k) k x0 h := (inv_func (by kernel_rfl)).trans F26_eq
noncomputable def c27 : Code := codeOf Try.prog 27
theorem r27_0 {β : Type} {inv : Inv} {k : Nat} {x0 x1 : Value} {h : AH} {K : XE → Act → AH → Option β} : kCode env 27 false inv k (cl c27) (act 20 [(0, x0), (1, x1)]) h K =
    K .normal (act 20 [(0, x0), (1, x1)]) h := (k_reg (by kernel_rfl)).trans (by kernel_rfl)
theorem r27_1 {β : Type} {inv : Inv} {k : Nat} {x0 x1 : Value} {h : AH} {K : XE → Act → AH → Option β} : kCode env 27 false inv k (cl (cr c27)) (act 20 [(0, x0), (1, x1)]) h K =
    bnd (pBuild Try.prog 54 #[(1, (.func (.func 32) #[] #[])), (2, (.func (.func 26) #[] #[])), (3, (.func (.func 33) #[] #[])), (4, (.func (.func 24) #[] #[])), (5, (.func (.func 34) #[] #[])), (6, (.func (.func 25) #[] #[]))]) fun x6 =>
    bnd (pAlloc Try.prog 54 h) fun x5 =>
    bnd (kSt (pStore Try.prog 54 x5.1 x6 x5.2)) fun u =>
    K .normal (act 20 [(0, x0), (1, x1), (5, x5.1)]) u.2 := (k_reg (by kernel_rfl)).trans (by kernel_rfl)
theorem r27_2 {β : Type} {inv : Inv} {k : Nat} {x0 x1 x5 : Value} {h : AH} {K : XE → Act → AH → Option β} : kCode env 27 false inv k (cl (cr (cr c27))) (act 20 [(0, x0), (1, x1), (5, x5)]) h K =
    bnd (pBin Try.prog Go.BinOp.geq 3 (Go.Operand.tmp 7) (Go.Operand.const (Go.Value.int Go.IntKind.i64 1)) x0 (Go.Value.int Go.IntKind.i64 1)) fun x8 =>
    bnd (gd (some x8) true h (some (x0, h))) fun x10 =>
    bnd (gd (some x8) true x10.2 (lt (pBin Try.prog Go.BinOp.lss 3 (Go.Operand.tmp 10) (Go.Operand.const (Go.Value.int Go.IntKind.i64 7)) x10.1 (Go.Value.int Go.IntKind.i64 7)) x10.2)) fun x11 =>
    bnd (pickV x8 x11.1 (Go.Value.bool false)) fun x12 =>
    bnd (gd (some x12) true x11.2 (some (x0, x11.2))) fun x14 =>
    bnd (gd (some x12) true x14.2 (lt (pIndexAddr Try.prog 54 x5 x14.1) x14.2)) fun x15 =>
    bnd (gd (some x12) true x15.2 (lt (pLoad Try.prog 53 x15.1 x15.2) x15.2)) fun x16 =>
    bnd (gd (some x12) true x16.2 (some (x1, x16.2))) fun x17 =>
    bnd (gd (some x12) true x17.2 (callV inv x16.1 #[x17.1] x17.2)) fun x18 =>
    bnd (pickV x12 x18.1 (Go.Value.bool false)) fun x19 =>
    K .normal (act 20 [(4, x19)]) x18.2 := (k_reg (by kernel_rfl)).trans (by kernel_rfl)
theorem res27_0 {x4 : Value} {h : AH} : resOfFn env.P 27 .ret (act 20 [(4, x4)]) h = some (x4, h) := (resOfFn_k (by kernel_rfl) (by kernel_rfl)).trans (by kernel_rfl)
/-- shadowbook/zone.so -/
noncomputable def F27 (inv : Inv) (k : Nat) (x0 x1 : Value) (h : AH) : Option (Value × AH) :=
    bnd (pBuild Try.prog 54 #[(1, (.func (.func 32) #[] #[])), (2, (.func (.func 26) #[] #[])), (3, (.func (.func 33) #[] #[])), (4, (.func (.func 24) #[] #[])), (5, (.func (.func 34) #[] #[])), (6, (.func (.func 25) #[] #[]))]) fun x6 =>
    bnd (pAlloc Try.prog 54 h) fun x5 =>
    bnd (kSt (pStore Try.prog 54 x5.1 x6 x5.2)) fun u =>
    bnd (pBin Try.prog Go.BinOp.geq 3 (Go.Operand.tmp 7) (Go.Operand.const (Go.Value.int Go.IntKind.i64 1)) x0 (Go.Value.int Go.IntKind.i64 1)) fun x8 =>
    bnd (gd (some x8) true u.2 (some (x0, u.2))) fun x10 =>
    bnd (gd (some x8) true x10.2 (lt (pBin Try.prog Go.BinOp.lss 3 (Go.Operand.tmp 10) (Go.Operand.const (Go.Value.int Go.IntKind.i64 7)) x10.1 (Go.Value.int Go.IntKind.i64 7)) x10.2)) fun x11 =>
    bnd (pickV x8 x11.1 (Go.Value.bool false)) fun x12 =>
    bnd (gd (some x12) true x11.2 (some (x0, x11.2))) fun x14 =>
    bnd (gd (some x12) true x14.2 (lt (pIndexAddr Try.prog 54 x5.1 x14.1) x14.2)) fun x15 =>
    bnd (gd (some x12) true x15.2 (lt (pLoad Try.prog 53 x15.1 x15.2) x15.2)) fun x16 =>
    bnd (gd (some x12) true x16.2 (some (x1, x16.2))) fun x17 =>
    bnd (gd (some x12) true x17.2 (callV inv x16.1 #[x17.1] x17.2)) fun x18 =>
    bnd (pickV x12 x18.1 (Go.Value.bool false)) fun x19 =>
    some (x19, x18.2)
theorem F27_eq {inv : Inv} {k : Nat} {x0 x1 : Value} {h : AH} : eFun env k inv 27 #[x0, x1] h = F27 inv k x0 x1 h := by
      refine (eFun_k2 (by kernel_rfl) (by kernel_rfl) (by kernel_rfl) (a := act 20 [(0, x0), (1, x1)]) (c := c27) (by kernel_rfl) (by kernel_rfl)).trans ?_
      unfold F27
      simp only [k_seq (E := env) (f := 27) (c := c27) (by kernel_rfl), r27_0, k_seq (E := env) (f := 27) (c := (cr c27)) (by kernel_rfl), r27_1, k_seq (E := env) (f := 27) (c := (cr (cr c27))) (by kernel_rfl), r27_2, k_ret (E := env) (f := 27) (c := (cr (cr (cr c27)))) (by kernel_rfl), res27_0, reduceIte, reduceCtorEq, XE.exit.injEq, Nat.reduceEqDiff] <;> kernel_rfl
theorem F27_call {k : Nat} {x0 x1 : Value} {h : AH} : eInv env (k + 1) (.func 27) #[] #[x0, x1] h = F27 (eInv env k) k x0 x1 h := (inv_func (by kernel_rfl)).trans F27_eq
noncomputable def c28 : Code := codeOf Try.prog 28
theorem r28_0 {β : Type} {inv : Inv} {k : Nat} {x0 : Value} {h : AH} {K : XE → Act → AH → Option β} : kCode env 28 false inv k (cl c28) (act 18 [(0, x0)]) h K =
    K .normal (act 18 [(0, x0)]) h := (k_reg (by kernel_rfl)).trans (by kernel_rfl)
theorem r28_1 {β : Type} {inv : Inv} {k : Nat} {x0 : Value} {h : AH} {K : XE → Act → AH → Option β} : kCode env 28 false inv k (cl (cr c28)) (act 18 [(0, x0)]) h K =
    K .normal (act 18 [(0, x0), (3, (Go.Value.int Go.IntKind.i64 0))]) h := (k_reg (by kernel_rfl)).trans (by kernel_rfl)
theorem r28_2 {β : Type} {inv : Inv} {k : Nat} {x0 x3 : Value} {h : AH} {K : XE → Act → AH → Option β} : kCode env 28 false inv k (cl (cl (cr (cr c28)))) (act 18 [(0, x0), (3, x3)]) h K =
    bnd (pLen Try.prog #[55] x0 h) fun x7 =>
    K .normal (act 18 [(3, x3), (6, x0), (7, x7), (8, (Go.Value.int Go.IntKind.i64 0))]) h := (k_reg (by kernel_rfl)).trans (by kernel_rfl)
theorem r28_3 {β : Type} {inv : Inv} {k : Nat} {x3 x6 x7 x8 : Value} {h : AH} {K : XE → Act → AH → Option β} : kCode env 28 false inv k (cl (cl (cl (cr (cl (cr (cr c28))))))) (act 18 [(3, x3), (6, x6), (7, x7), (8, x8)]) h K =
    bnd (pBin Try.prog Go.BinOp.lss 3 (Go.Operand.tmp 8) (Go.Operand.tmp 7) x8 x7) fun x9 =>
    K .normal (act 18 [(3, x3), (6, x6), (7, x7), (8, x8), (9, x9)]) h := (k_reg (by kernel_rfl)).trans (by kernel_rfl)
theorem b28_lrllrlrr {β : Type} {inv : Inv} {k : Nat} {x3 x6 x7 x8 x9 : Value} {h : AH} {K : XE → Act → AH → Option β} : kCode env 28 false inv k (cl (cr (cl (cl (cr (cl (cr (cr c28)))))))) (act 18 [(3, x3), (6, x6), (7, x7), (8, x8), (9, x9)]) h K = brV x9 (kCode env 28 false inv k (cl (cl (cr (cl (cl (cr (cl (cr (cr c28))))))))) (act 18 [(3, x3), (6, x6), (7, x7), (8, x8), (9, x9)]) h K) (kCode env 28 false inv k (cr (cl (cr (cl (cl (cr (cl (cr (cr c28))))))))) (act 18 [(3, x3), (6, x6), (7, x7), (8, x8), (9, x9)]) h K) := (k_cond (by kernel_rfl)).trans (by kernel_rfl)
theorem r28_4 {β : Type} {inv : Inv} {k : Nat} {x3 x6 x7 x8 x9 : Value} {h : AH} {K : XE → Act → AH → Option β} : kCode env 28 false inv k (cl (cl (cl (cr (cr (cl (cl (cr (cl (cr (cr c28))))))))))) (act 18 [(3, x3), (6, x6), (7, x7), (8, x8), (9, x9)]) h K =
    bnd (pIndexAddr Try.prog 55 x6 x8) fun x10 =>
    bnd (pLoad Try.prog 3 x10 h) fun x11 =>
    K .normal (act 18 [(3, x3), (5, x11), (6, x6), (7, x7), (8, x8)]) h := (k_reg (by kernel_rfl)).trans (by kernel_rfl)
theorem r28_5 {β : Type} {inv : Inv} {k : Nat} {x3 x5 x6 x7 x8 : Value} {h : AH} {K : XE → Act → AH → Option β} : kCode env 28 false inv k (cl (cr (cl (cl (cr (cr (cl (cl (cr (cl (cr (cr c28)))))))))))) (act 18 [(3, x3), (5, x5), (6, x6), (7, x7), (8, x8)]) h K =
    bnd (pBin Try.prog Go.BinOp.neq 3 (Go.Operand.tmp 12) (Go.Operand.tmp 13) x5 x3) fun x14 =>
    K .normal (act 18 [(3, x3), (5, x5), (6, x6), (7, x7), (8, x8), (14, x14)]) h := (k_reg (by kernel_rfl)).trans (by kernel_rfl)
theorem b28_rrllrrllrlrr {β : Type} {inv : Inv} {k : Nat} {x3 x5 x6 x7 x8 x14 : Value} {h : AH} {K : XE → Act → AH → Option β} : kCode env 28 false inv k (cr (cr (cl (cl (cr (cr (cl (cl (cr (cl (cr (cr c28)))))))))))) (act 18 [(3, x3), (5, x5), (6, x6), (7, x7), (8, x8), (14, x14)]) h K = brV x14 (kCode env 28 false inv k (cl (cr (cr (cl (cl (cr (cr (cl (cl (cr (cl (cr (cr c28))))))))))))) (act 18 [(3, x3), (5, x5), (6, x6), (7, x7), (8, x8), (14, x14)]) h K) (kCode env 28 false inv k (cr (cr (cr (cl (cl (cr (cr (cl (cl (cr (cl (cr (cr c28))))))))))))) (act 18 [(3, x3), (5, x5), (6, x6), (7, x7), (8, x8), (14, x14)]) h K) := (k_cond (by kernel_rfl)).trans (by kernel_rfl)
theorem r28_6 {β : Type} {inv : Inv} {k : Nat} {x3 x5 x6 x7 x8 x14 : Value} {h : AH} {K : XE → Act → AH → Option β} : kCode env 28 false inv k (cl (cl (cr (cr (cl (cl (cr (cr (cl (cl (cr (cl (cr (cr c28)))))))))))))) (act 18 [(3, x3), (5, x5), (6, x6), (7, x7), (8, x8), (14, x14)]) h K =
    K .normal (act 18 [(2, x5)]) h := (k_reg (by kernel_rfl)).trans (by kernel_rfl)
theorem r28_7 {β : Type} {inv : Inv} {k : Nat} {x3 x5 x6 x7 x8 x14 : Value} {h : AH} {K : XE → Act → AH → Option β} : kCode env 28 false inv k (cr (cr (cr (cl (cl (cr (cl (cr (cr c28))))))))) (act 18 [(3, x3), (5, x5), (6, x6), (7, x7), (8, x8), (14, x14)]) h K =
    bnd (pBin Try.prog Go.BinOp.add 3 (Go.Operand.tmp 8) (Go.Operand.const (Go.Value.int Go.IntKind.i64 1)) x8 (Go.Value.int Go.IntKind.i64 1)) fun x16 =>
    K .normal (act 18 [(3, x3), (6, x6), (7, x7), (8, x16)]) h := (k_reg (by kernel_rfl)).trans (by kernel_rfl)
noncomputable def F28_lrlrr {β : Type} (inv : Inv) (k : Nat) : Nat → Value → Value → Value → Value → AH → (Value → Value → Value → Value → Value → AH → Option β) → (Value → AH → Option β) → Option β
  | 0, _, _, _, _, _, _, _ => none
  | j + 1, x3, x6, x7, x8, h, ke0, kr =>
    bnd (pBin Try.prog Go.BinOp.lss 3 (Go.Operand.tmp 8) (Go.Operand.tmp 7) x8 x7) fun x9 =>
    brV x9
    (bnd (pIndexAddr Try.prog 55 x6 x8) fun x10 =>
    bnd (pLoad Try.prog 3 x10 h) fun x11 =>
    bnd (pBin Try.prog Go.BinOp.neq 3 (Go.Operand.tmp 12) (Go.Operand.tmp 13) x11 x3) fun x14 =>
    brV x14
    (kr x11 h)
    (bnd (pBin Try.prog Go.BinOp.add 3 (Go.Operand.tmp 8) (Go.Operand.const (Go.Value.int Go.IntKind.i64 1)) x8 (Go.Value.int Go.IntKind.i64 1)) fun x16 =>
    F28_lrlrr inv k j x3 x6 x7 x16 h ke0 kr))
    (ke0 x3 x6 x7 x8 x9 h)
theorem F28_lrlrr_j {β : Type} {inv : Inv} {k : Nat} (j : Nat) {x3 x6 x7 x8 : Value} {h : AH} {K : XE → Act → AH → Option β} : kLoop (kCode env 28 false inv k (cl (cl (cr (cl (cr (cr c28))))))) j (act 18 [(3, x3), (6, x6), (7, x7), (8, x8)]) h K = F28_lrlrr inv k j x3 x6 x7 x8 h (fun y3 y6 y7 y8 y9 h => K (.exit 0) (act 18 [(3, y3), (6, y6), (7, y7), (8, y8), (9, y9)]) h) (fun y2 h => K .ret (act 18 [(2, y2)]) h) := by
      induction j generalizing x3 x6 x7 x8 h with
      | zero => rfl
      | succ j ih =>
        unfold F28_lrlrr
        simp only [kLoop, k_seq (E := env) (f := 28) (c := (cl (cl (cr (cl (cr (cr c28))))))) (by kernel_rfl), r28_3, k_seq (E := env) (f := 28) (c := (cr (cl (cl (cr (cl (cr (cr c28)))))))) (by kernel_rfl), b28_lrllrlrr, k_skip (E := env) (f := 28) (c := (cl (cl (cr (cl (cl (cr (cl (cr (cr c28)))))))))) (by kernel_rfl), k_seq (E := env) (f := 28) (c := (cr (cr (cl (cl (cr (cl (cr (cr c28))))))))) (by kernel_rfl), k_block (E := env) (f := 28) (c := (cl (cr (cr (cl (cl (cr (cl (cr (cr c28)))))))))) (id := 1) (by kernel_rfl), k_seq (E := env) (f := 28) (c := (cl (cl (cr (cr (cl (cl (cr (cl (cr (cr c28))))))))))) (by kernel_rfl), r28_4, k_seq (E := env) (f := 28) (c := (cr (cl (cl (cr (cr (cl (cl (cr (cl (cr (cr c28)))))))))))) (by kernel_rfl), r28_5, b28_rrllrrllrlrr, k_seq (E := env) (f := 28) (c := (cl (cr (cr (cl (cl (cr (cr (cl (cl (cr (cl (cr (cr c28)))))))))))))) (by kernel_rfl), r28_6, k_ret (E := env) (f := 28) (c := (cr (cl (cr (cr (cl (cl (cr (cr (cl (cl (cr (cl (cr (cr c28))))))))))))))) (by kernel_rfl), k_skip (E := env) (f := 28) (c := (cr (cr (cr (cl (cl (cr (cr (cl (cl (cr (cl (cr (cr c28)))))))))))))) (by kernel_rfl), r28_7, k_exit (E := env) (f := 28) (c := (cr (cl (cr (cl (cl (cr (cl (cr (cr c28)))))))))) (id := 0) (by kernel_rfl), ih, reduceIte, reduceCtorEq, XE.exit.injEq, Nat.reduceEqDiff] <;> kernel_rfl
theorem F28_lrlrr_eq {β : Type} {inv : Inv} {k : Nat} {x3 x6 x7 x8 : Value} {h : AH} {K : XE → Act → AH → Option β} : kCode env 28 false inv k (cl (cr (cl (cr (cr c28))))) (act 18 [(3, x3), (6, x6), (7, x7), (8, x8)]) h K = F28_lrlrr inv k k x3 x6 x7 x8 h (fun y3 y6 y7 y8 y9 h => K (.exit 0) (act 18 [(3, y3), (6, y6), (7, y7), (8, y8), (9, y9)]) h) (fun y2 h => K .ret (act 18 [(2, y2)]) h) := (k_loop (by kernel_rfl)).trans (F28_lrlrr_j k)
theorem r28_8 {β : Type} {inv : Inv} {k : Nat} {x3 x6 x7 x8 x9 : Value} {h : AH} {K : XE → Act → AH → Option β} : kCode env 28 false inv k (cl (cr (cr (cr c28)))) (act 18 [(3, x3), (6, x6), (7, x7), (8, x8), (9, x9)]) h K =
    K .normal (act 18 [(2, x3)]) h := (k_reg (by kernel_rfl)).trans (by kernel_rfl)
theorem res28_0 {x2 : Value} {h : AH} : resOfFn env.P 28 .ret (act 18 [(2, x2)]) h = some (x2, h) := (resOfFn_k (by kernel_rfl) (by kernel_rfl)).trans (by kernel_rfl)
/-- cmp.Or[int] -/
noncomputable def F28 (inv : Inv) (k : Nat) (x0 : Value) (h : AH) : Option (Value × AH) :=
    bnd (pLen Try.prog #[55] x0 h) fun x7 =>
    F28_lrlrr inv k k (Go.Value.int Go.IntKind.i64 0) x0 x7 (Go.Value.int Go.IntKind.i64 0) h
    (fun y3 y6 y7 y8 y9 h =>
    some (y3, h))
    (fun y2 h_1 =>
    some (y2, h_1))
theorem F28_eq {inv : Inv} {k : Nat} {x0 : Value} {h : AH} : eFun env k inv 28 #[x0] h = F28 inv k x0 h := by
      refine (eFun_k2 (by kernel_rfl) (by kernel_rfl) (by kernel_rfl) (a := act 18 [(0, x0)]) (c := c28) (by kernel_rfl) (by kernel_rfl)).trans ?_
      unfold F28
      simp only [k_seq (E := env) (f := 28) (c := c28) (by kernel_rfl), r28_0, k_seq (E := env) (f := 28) (c := (cr c28)) (by kernel_rfl), r28_1, k_seq (E := env) (f := 28) (c := (cr (cr c28))) (by kernel_rfl), k_seq (E := env) (f := 28) (c := (cl (cr (cr c28)))) (by kernel_rfl), r28_2, k_block (E := env) (f := 28) (c := (cr (cl (cr (cr c28))))) (id := 0) (by kernel_rfl), F28_lrlrr_eq, k_seq (E := env) (f := 28) (c := (cr (cr (cr c28)))) (by kernel_rfl), r28_8, k_ret (E := env) (f := 28) (c := (cr (cr (cr (cr c28))))) (by kernel_rfl), res28_0, reduceIte, reduceCtorEq, XE.exit.injEq, Nat.reduceEqDiff] <;> kernel_rfl
theorem F28_call {k : Nat} {x0 : Value} {h : AH} : eInv env (k + 1) (.func 28) #[] #[x0] h = F28 (eInv env k) k x0 h := (inv_func (by kernel_rfl)).trans F28_eq
noncomputable def c29 : Code := codeOf Try.prog 29
theorem r29_0 {β : Type} {inv : Inv} {k : Nat} {x0 x1 : Value} {h : AH} {K : XE → Act → AH → Option β} : kCode env 29 false inv k (cl c29) (act 20 [(0, x0), (1, x1)]) h K =
    K .normal (act 20 [(0, x0), (1, x1)]) h := (k_reg (by kernel_rfl)).trans (by kernel_rfl)
theorem r29_1 {β : Type} {inv : Inv} {k : Nat} {x0 x1 : Value} {h : AH} {K : XE → Act → AH → Option β} : kCode env 29 false inv k (cl (cr c29)) (act 20 [(0, x0), (1, x1)]) h K =
    bnd (inv (.func 35) #[] #[x0] h) fun x8 =>
    K .normal (act 20 [(0, x0), (1, x1), (5, x8.1)]) x8.2 := (k_reg (by kernel_rfl)).trans (by kernel_rfl)
theorem r29_2 {β : Type} {inv : Inv} {k : Nat} {x0 x1 x5 : Value} {h : AH} {K : XE → Act → AH → Option β} : kCode env 29 false inv k (cl (cr (cr c29))) (act 20 [(0, x0), (1, x1), (5, x5)]) h K =
    bnd (inv (.func 35) #[] #[x1] h) fun x10 =>
    K .normal (act 20 [(0, x0), (1, x1), (5, x5), (6, x10.1)]) x10.2 := (k_reg (by kernel_rfl)).trans (by kernel_rfl)
theorem r29_3 {β : Type} {inv : Inv} {k : Nat} {x0 x1 x5 x6 : Value} {h : AH} {K : XE → Act → AH → Option β} : kCode env 29 false inv k (cl (cl (cr (cr (cr c29))))) (act 20 [(0, x0), (1, x1), (5, x5), (6, x6)]) h K =
    K .normal (act 20 [(0, x0), (1, x1), (6, x6), (11, x5)]) h := (k_reg (by kernel_rfl)).trans (by kernel_rfl)
theorem b29_rlrrr {β : Type} {inv : Inv} {k : Nat} {x0 x1 x6 x11 : Value} {h : AH} {K : XE → Act → AH → Option β} : kCode env 29 false inv k (cr (cl (cr (cr (cr c29))))) (act 20 [(0, x0), (1, x1), (6, x6), (11, x11)]) h K = brV x11 (kCode env 29 false inv k (cl (cr (cl (cr (cr (cr c29)))))) (act 20 [(0, x0), (1, x1), (6, x6), (11, x11)]) h K) (kCode env 29 false inv k (cr (cr (cl (cr (cr (cr c29)))))) (act 20 [(0, x0), (1, x1), (6, x6), (11, x11)]) h K) := (k_cond (by kernel_rfl)).trans (by kernel_rfl)
theorem r29_4 {β : Type} {inv : Inv} {k : Nat} {x0 x1 x6 x11 : Value} {h : AH} {K : XE → Act → AH → Option β} : kCode env 29 false inv k (cl (cl (cl (cr (cl (cr (cr (cr c29)))))))) (act 20 [(0, x0), (1, x1), (6, x6), (11, x11)]) h K =
    K .normal (act 20 [(12, x6)]) h := (k_reg (by kernel_rfl)).trans (by kernel_rfl)
theorem b29_rllrlrrr {β : Type} {inv : Inv} {k : Nat} {x12 : Value} {h : AH} {K : XE → Act → AH → Option β} : kCode env 29 false inv k (cr (cl (cl (cr (cl (cr (cr (cr c29)))))))) (act 20 [(12, x12)]) h K = brV x12 (kCode env 29 false inv k (cl (cr (cl (cl (cr (cl (cr (cr (cr c29))))))))) (act 20 [(12, x12)]) h K) (kCode env 29 false inv k (cr (cr (cl (cl (cr (cl (cr (cr (cr c29))))))))) (act 20 [(12, x12)]) h K) := (k_cond (by kernel_rfl)).trans (by kernel_rfl)
theorem r29_5 {β : Type} {inv : Inv} {k : Nat} {x12 : Value} {h : AH} {K : XE → Act → AH → Option β} : kCode env 29 false inv k (cl (cl (cr (cl (cl (cr (cl (cr (cr (cr c29)))))))))) (act 20 [(12, x12)]) h K =
    K .normal (act 20 [(4, (Go.Value.int Go.IntKind.i64 0))]) h := (k_reg (by kernel_rfl)).trans (by kernel_rfl)
theorem res29_0 {x4 : Value} {h : AH} : resOfFn env.P 29 .ret (act 20 [(4, x4)]) h = some (x4, h) := (resOfFn_k (by kernel_rfl) (by kernel_rfl)).trans (by kernel_rfl)
theorem r29_6 {β : Type} {inv : Inv} {k : Nat} {x12 : Value} {h : AH} {K : XE → Act → AH → Option β} : kCode env 29 false inv k (cl (cr (cl (cr (cl (cr (cr (cr c29)))))))) (act 20 [(12, x12)]) h K =
    K .normal (act 20 [(4, (Go.Value.int Go.IntKind.i64 (-1)))]) h := (k_reg (by kernel_rfl)).trans (by kernel_rfl)
theorem r29_7 {β : Type} {inv : Inv} {k : Nat} {x0 x1 x6 x11 : Value} {h : AH} {K : XE → Act → AH → Option β} : kCode env 29 false inv k (cl (cl (cr (cr (cr (cr c29)))))) (act 20 [(0, x0), (1, x1), (6, x6), (11, x11)]) h K =
    K .normal (act 20 [(0, x0), (1, x1), (13, x6)]) h := (k_reg (by kernel_rfl)).trans (by kernel_rfl)
theorem b29_rlrrrr {β : Type} {inv : Inv} {k : Nat} {x0 x1 x13 : Value} {h : AH} {K : XE → Act → AH → Option β} : kCode env 29 false inv k (cr (cl (cr (cr (cr (cr c29)))))) (act 20 [(0, x0), (1, x1), (13, x13)]) h K = brV x13 (kCode env 29 false inv k (cl (cr (cl (cr (cr (cr (cr c29))))))) (act 20 [(0, x0), (1, x1), (13, x13)]) h K) (kCode env 29 false inv k (cr (cr (cl (cr (cr (cr (cr c29))))))) (act 20 [(0, x0), (1, x1), (13, x13)]) h K) := (k_cond (by kernel_rfl)).trans (by kernel_rfl)
theorem r29_8 {β : Type} {inv : Inv} {k : Nat} {x0 x1 x13 : Value} {h : AH} {K : XE → Act → AH → Option β} : kCode env 29 false inv k (cl (cl (cr (cl (cr (cr (cr (cr c29)))))))) (act 20 [(0, x0), (1, x1), (13, x13)]) h K =
    K .normal (act 20 [(4, (Go.Value.int Go.IntKind.i64 1))]) h := (k_reg (by kernel_rfl)).trans (by kernel_rfl)
theorem r29_9 {β : Type} {inv : Inv} {k : Nat} {x0 x1 x13 : Value} {h : AH} {K : XE → Act → AH → Option β} : kCode env 29 false inv k (cl (cl (cr (cr (cr (cr (cr c29))))))) (act 20 [(0, x0), (1, x1), (13, x13)]) h K =
    bnd (pBin Try.prog Go.BinOp.lss 3 (Go.Operand.tmp 14) (Go.Operand.tmp 15) x0 x1) fun x16 =>
    K .normal (act 20 [(0, x0), (1, x1), (16, x16)]) h := (k_reg (by kernel_rfl)).trans (by kernel_rfl)
theorem b29_rlrrrrr {β : Type} {inv : Inv} {k : Nat} {x0 x1 x16 : Value} {h : AH} {K : XE → Act → AH → Option β} : kCode env 29 false inv k (cr (cl (cr (cr (cr (cr (cr c29))))))) (act 20 [(0, x0), (1, x1), (16, x16)]) h K = brV x16 (kCode env 29 false inv k (cl (cr (cl (cr (cr (cr (cr (cr c29)))))))) (act 20 [(0, x0), (1, x1), (16, x16)]) h K) (kCode env 29 false inv k (cr (cr (cl (cr (cr (cr (cr (cr c29)))))))) (act 20 [(0, x0), (1, x1), (16, x16)]) h K) := (k_cond (by kernel_rfl)).trans (by kernel_rfl)
theorem r29_10 {β : Type} {inv : Inv} {k : Nat} {x0 x1 x16 : Value} {h : AH} {K : XE → Act → AH → Option β} : kCode env 29 false inv k (cl (cl (cr (cl (cr (cr (cr (cr (cr c29))))))))) (act 20 [(0, x0), (1, x1), (16, x16)]) h K =
    K .normal (act 20 [(4, (Go.Value.int Go.IntKind.i64 (-1)))]) h := (k_reg (by kernel_rfl)).trans (by kernel_rfl)
theorem r29_11 {β : Type} {inv : Inv} {k : Nat} {x0 x1 x16 : Value} {h : AH} {K : XE → Act → AH → Option β} : kCode env 29 false inv k (cl (cl (cr (cr (cr (cr (cr (cr c29)))))))) (act 20 [(0, x0), (1, x1), (16, x16)]) h K =
    bnd (pBin Try.prog Go.BinOp.gtr 3 (Go.Operand.tmp 17) (Go.Operand.tmp 18) x0 x1) fun x19 =>
    K .normal (act 20 [(19, x19)]) h := (k_reg (by kernel_rfl)).trans (by kernel_rfl)
theorem b29_rlrrrrrr {β : Type} {inv : Inv} {k : Nat} {x19 : Value} {h : AH} {K : XE → Act → AH → Option β} : kCode env 29 false inv k (cr (cl (cr (cr (cr (cr (cr (cr c29)))))))) (act 20 [(19, x19)]) h K = brV x19 (kCode env 29 false inv k (cl (cr (cl (cr (cr (cr (cr (cr (cr c29))))))))) (act 20 [(19, x19)]) h K) (kCode env 29 false inv k (cr (cr (cl (cr (cr (cr (cr (cr (cr c29))))))))) (act 20 [(19, x19)]) h K) := (k_cond (by kernel_rfl)).trans (by kernel_rfl)
theorem r29_12 {β : Type} {inv : Inv} {k : Nat} {x19 : Value} {h : AH} {K : XE → Act → AH → Option β} : kCode env 29 false inv k (cl (cl (cr (cl (cr (cr (cr (cr (cr (cr c29)))))))))) (act 20 [(19, x19)]) h K =
    K .normal (act 20 [(4, (Go.Value.int Go.IntKind.i64 1))]) h := (k_reg (by kernel_rfl)).trans (by kernel_rfl)
theorem r29_13 {β : Type} {inv : Inv} {k : Nat} {x19 : Value} {h : AH} {K : XE → Act → AH → Option β} : kCode env 29 false inv k (cl (cr (cr (cr (cr (cr (cr (cr c29)))))))) (act 20 [(19, x19)]) h K =
    K .normal (act 20 [(4, (Go.Value.int Go.IntKind.i64 0))]) h := (k_reg (by kernel_rfl)).trans (by kernel_rfl)
/-- cmp.Compare[int] -/
noncomputable def F29 (inv : Inv) (k : Nat) (x0 x1 : Value) (h : AH) : Option (Value × AH) :=
    bnd (inv (.func 35) #[] #[x0] h) fun x8 =>
    bnd (inv (.func 35) #[] #[x1] x8.2) fun x10 =>
    brV x8.1
    (brV x10.1
    (some ((Go.Value.int Go.IntKind.i64 0), x10.2))
    (some ((Go.Value.int Go.IntKind.i64 (-1)), x10.2)))
    (brV x10.1
    (some ((Go.Value.int Go.IntKind.i64 1), x10.2))
    (bnd (pBin Try.prog Go.BinOp.lss 3 (Go.Operand.tmp 14) (Go.Operand.tmp 15) x0 x1) fun x16 =>
    brV x16
    (some ((Go.Value.int Go.IntKind.i64 (-1)), x10.2))
    (bnd (pBin Try.prog Go.BinOp.gtr 3 (Go.Operand.tmp 17) (Go.Operand.tmp 18) x0 x1) fun x19 =>
    brV x19
    (some ((Go.Value.int Go.IntKind.i64 1), x10.2))
    (some ((Go.Value.int Go.IntKind.i64 0), x10.2)))))
theorem F29_eq {inv : Inv} {k : Nat} {x0 x1 : Value} {h : AH} : eFun env k inv 29 #[x0, x1] h = F29 inv k x0 x1 h := by
      refine (eFun_k2 (by kernel_rfl) (by kernel_rfl) (by kernel_rfl) (a := act 20 [(0, x0), (1, x1)]) (c := c29) (by kernel_rfl) (by kernel_rfl)).trans ?_
      unfold F29
      simp only [k_seq (E := env) (f := 29) (c := c29) (by kernel_rfl), r29_0, k_seq (E := env) (f := 29) (c := (cr c29)) (by kernel_rfl), r29_1, k_seq (E := env) (f := 29) (c := (cr (cr c29))) (by kernel_rfl), r29_2, k_seq (E := env) (f := 29) (c := (cr (cr (cr c29)))) (by kernel_rfl), k_seq (E := env) (f := 29) (c := (cl (cr (cr (cr c29))))) (by kernel_rfl), r29_3, b29_rlrrr, k_seq (E := env) (f := 29) (c := (cl (cr (cl (cr (cr (cr c29))))))) (by kernel_rfl), k_seq (E := env) (f := 29) (c := (cl (cl (cr (cl (cr (cr (cr c29)))))))) (by kernel_rfl), r29_4, b29_rllrlrrr, k_seq (E := env) (f := 29) (c := (cl (cr (cl (cl (cr (cl (cr (cr (cr c29)))))))))) (by kernel_rfl), r29_5, k_ret (E := env) (f := 29) (c := (cr (cl (cr (cl (cl (cr (cl (cr (cr (cr c29))))))))))) (by kernel_rfl), res29_0, k_skip (E := env) (f := 29) (c := (cr (cr (cl (cl (cr (cl (cr (cr (cr c29)))))))))) (by kernel_rfl), k_seq (E := env) (f := 29) (c := (cr (cl (cr (cl (cr (cr (cr c29)))))))) (by kernel_rfl), r29_6, k_ret (E := env) (f := 29) (c := (cr (cr (cl (cr (cl (cr (cr (cr c29))))))))) (by kernel_rfl), k_skip (E := env) (f := 29) (c := (cr (cr (cl (cr (cr (cr c29))))))) (by kernel_rfl), k_seq (E := env) (f := 29) (c := (cr (cr (cr (cr c29))))) (by kernel_rfl), k_seq (E := env) (f := 29) (c := (cl (cr (cr (cr (cr c29)))))) (by kernel_rfl), r29_7, b29_rlrrrr, k_seq (E := env) (f := 29) (c := (cl (cr (cl (cr (cr (cr (cr c29)))))))) (by kernel_rfl), r29_8, k_ret (E := env) (f := 29) (c := (cr (cl (cr (cl (cr (cr (cr (cr c29))))))))) (by kernel_rfl), k_skip (E := env) (f := 29) (c := (cr (cr (cl (cr (cr (cr (cr c29)))))))) (by kernel_rfl), k_seq (E := env) (f := 29) (c := (cr (cr (cr (cr (cr c29)))))) (by kernel_rfl), k_seq (E := env) (f := 29) (c := (cl (cr (cr (cr (cr (cr c29))))))) (by kernel_rfl), r29_9, b29_rlrrrrr, k_seq (E := env) (f := 29) (c := (cl (cr (cl (cr (cr (cr (cr (cr c29))))))))) (by kernel_rfl), r29_10, k_ret (E := env) (f := 29) (c := (cr (cl (cr (cl (cr (cr (cr (cr (cr c29)))))))))) (by kernel_rfl), k_skip (E := env) (f := 29) (c := (cr (cr (cl (cr (cr (cr (cr (cr c29))))))))) (by kernel_rfl), k_seq (E := env) (f := 29) (c := (cr (cr (cr (cr (cr (cr c29))))))) (by kernel_rfl), k_seq (E := env) (f := 29) (c := (cl (cr (cr (cr (cr (cr (cr c29)))))))) (by kernel_rfl), r29_11, b29_rlrrrrrr, k_seq (E := env) (f := 29) (c := (cl (cr (cl (cr (cr (cr (cr (cr (cr c29)))))))))) (by kernel_rfl), r29_12, k_ret (E := env) (f := 29) (c := (cr (cl (cr (cl (cr (cr (cr (cr (cr (cr c29))))))))))) (by kernel_rfl), k_skip (E := env) (f := 29) (c := (cr (cr (cl (cr (cr (cr (cr (cr (cr c29)))))))))) (by kernel_rfl), k_seq (E := env) (f := 29) (c := (cr (cr (cr (cr (cr (cr (cr c29)))))))) (by kernel_rfl), r29_13, k_ret (E := env) (f := 29) (c := (cr (cr (cr (cr (cr (cr (cr (cr c29))))))))) (by kernel_rfl), reduceIte, reduceCtorEq, XE.exit.injEq, Nat.reduceEqDiff] <;> kernel_rfl
theorem F29_call {k : Nat} {x0 x1 : Value} {h : AH} : eInv env (k + 1) (.func 29) #[] #[x0, x1] h = F29 (eInv env k) k x0 x1 h := (inv_func (by kernel_rfl)).trans F29_eq
noncomputable def c30 : Code := codeOf Try.prog 30
theorem r30_0 {β : Type} {inv : Inv} {k : Nat} {x0 x1 : Value} {h : AH} {K : XE → Act → AH → Option β} : kCode env 30 false inv k (cl c30) (act 20 [(0, x0), (1, x1)]) h K =
    K .normal (act 20 [(0, x0), (1, x1)]) h := (k_reg (by kernel_rfl)).trans (by kernel_rfl)
theorem r30_1 {β : Type} {inv : Inv} {k : Nat} {x0 x1 : Value} {h : AH} {K : XE → Act → AH → Option β} : kCode env 30 false inv k (cl (cr c30)) (act 20 [(0, x0), (1, x1)]) h K =
    bnd (inv (.func 36) #[] #[x0] h) fun x8 =>
    K .normal (act 20 [(0, x0), (1, x1), (5, x8.1)]) x8.2 := (k_reg (by kernel_rfl)).trans (by kernel_rfl)
theorem r30_2 {β : Type} {inv : Inv} {k : Nat} {x0 x1 x5 : Value} {h : AH} {K : XE → Act → AH → Option β} : kCode env 30 false inv k (cl (cr (cr c30))) (act 20 [(0, x0), (1, x1), (5, x5)]) h K =
    bnd (inv (.func 36) #[] #[x1] h) fun x10 =>
    K .normal (act 20 [(0, x0), (1, x1), (5, x5), (6, x10.1)]) x10.2 := (k_reg (by kernel_rfl)).trans (by kernel_rfl)
theorem r30_3 {β : Type} {inv : Inv} {k : Nat} {x0 x1 x5 x6 : Value} {h : AH} {K : XE → Act → AH → Option β} : kCode env 30 false inv k (cl (cl (cr (cr (cr c30))))) (act 20 [(0, x0), (1, x1), (5, x5), (6, x6)]) h K =
    K .normal (act 20 [(0, x0), (1, x1), (6, x6), (11, x5)]) h := (k_reg (by kernel_rfl)).trans (by kernel_rfl)
theorem b30_rlrrr {β : Type} {inv : Inv} {k : Nat} {x0 x1 x6 x11 : Value} {h : AH} {K : XE → Act → AH → Option β} : kCode env 30 false inv k (cr (cl (cr (cr (cr c30))))) (act 20 [(0, x0), (1, x1), (6, x6), (11, x11)]) h K = brV x11 (kCode env 30 false inv k (cl (cr (cl (cr (cr (cr c30)))))) (act 20 [(0, x0), (1, x1), (6, x6), (11, x11)]) h K) (kCode env 30 false inv k (cr (cr (cl (cr (cr (cr c30)))))) (act 20 [(0, x0), (1, x1), (6, x6), (11, x11)]) h K) := (k_cond (by kernel_rfl)).trans (by kernel_rfl)
theorem r30_4 {β : Type} {inv : Inv} {k : Nat} {x0 x1 x6 x11 : Value} {h : AH} {K : XE → Act → AH → Option β} : kCode env 30 false inv k (cl (cl (cl (cr (cl (cr (cr (cr c30)))))))) (act 20 [(0, x0), (1, x1), (6, x6), (11, x11)]) h K =
    K .normal (act 20 [(12, x6)]) h := (k_reg (by kernel_rfl)).trans (by kernel_rfl)
theorem b30_rllrlrrr {β : Type} {inv : Inv} {k : Nat} {x12 : Value} {h : AH} {K : XE → Act → AH → Option β} : kCode env 30 false inv k (cr (cl (cl (cr (cl (cr (cr (cr c30)))))))) (act 20 [(12, x12)]) h K = brV x12 (kCode env 30 false inv k (cl (cr (cl (cl (cr (cl (cr (cr (cr c30))))))))) (act 20 [(12, x12)]) h K) (kCode env 30 false inv k (cr (cr (cl (cl (cr (cl (cr (cr (cr c30))))))))) (act 20 [(12, x12)]) h K) := (k_cond (by kernel_rfl)).trans (by kernel_rfl)
theorem r30_5 {β : Type} {inv : Inv} {k : Nat} {x12 : Value} {h : AH} {K : XE → Act → AH → Option β} : kCode env 30 false inv k (cl (cl (cr (cl (cl (cr (cl (cr (cr (cr c30)))))))))) (act 20 [(12, x12)]) h K =
    K .normal (act 20 [(4, (Go.Value.int Go.IntKind.i64 0))]) h := (k_reg (by kernel_rfl)).trans (by kernel_rfl)
theorem res30_0 {x4 : Value} {h : AH} : resOfFn env.P 30 .ret (act 20 [(4, x4)]) h = some (x4, h) := (resOfFn_k (by kernel_rfl) (by kernel_rfl)).trans (by kernel_rfl)
theorem r30_6 {β : Type} {inv : Inv} {k : Nat} {x12 : Value} {h : AH} {K : XE → Act → AH → Option β} : kCode env 30 false inv k (cl (cr (cl (cr (cl (cr (cr (cr c30)))))))) (act 20 [(12, x12)]) h K =
    K .normal (act 20 [(4, (Go.Value.int Go.IntKind.i64 (-1)))]) h := (k_reg (by kernel_rfl)).trans (by kernel_rfl)
theorem r30_7 {β : Type} {inv : Inv} {k : Nat} {x0 x1 x6 x11 : Value} {h : AH} {K : XE → Act → AH → Option β} : kCode env 30 false inv k (cl (cl (cr (cr (cr (cr c30)))))) (act 20 [(0, x0), (1, x1), (6, x6), (11, x11)]) h K =
    K .normal (act 20 [(0, x0), (1, x1), (13, x6)]) h := (k_reg (by kernel_rfl)).trans (by kernel_rfl)
theorem b30_rlrrrr {β : Type} {inv : Inv} {k : Nat} {x0 x1 x13 : Value} {h : AH} {K : XE → Act → AH → Option β} : kCode env 30 false inv k (cr (cl (cr (cr (cr (cr c30)))))) (act 20 [(0, x0), (1, x1), (13, x13)]) h K = brV x13 (kCode env 30 false inv k (cl (cr (cl (cr (cr (cr (cr c30))))))) (act 20 [(0, x0), (1, x1), (13, x13)]) h K) (kCode env 30 false inv k (cr (cr (cl (cr (cr (cr (cr c30))))))) (act 20 [(0, x0), (1, x1), (13, x13)]) h K) := (k_cond (by kernel_rfl)).trans (by kernel_rfl)
theorem r30_8 {β : Type} {inv : Inv} {k : Nat} {x0 x1 x13 : Value} {h : AH} {K : XE → Act → AH → Option β} : kCode env 30 false inv k (cl (cl (cr (cl (cr (cr (cr (cr c30)))))))) (act 20 [(0, x0), (1, x1), (13, x13)]) h K =
    K .normal (act 20 [(4, (Go.Value.int Go.IntKind.i64 1))]) h := (k_reg (by kernel_rfl)).trans (by kernel_rfl)
theorem r30_9 {β : Type} {inv : Inv} {k : Nat} {x0 x1 x13 : Value} {h : AH} {K : XE → Act → AH → Option β} : kCode env 30 false inv k (cl (cl (cr (cr (cr (cr (cr c30))))))) (act 20 [(0, x0), (1, x1), (13, x13)]) h K =
    bnd (pBin Try.prog Go.BinOp.lss 2 (Go.Operand.tmp 14) (Go.Operand.tmp 15) x0 x1) fun x16 =>
    K .normal (act 20 [(0, x0), (1, x1), (16, x16)]) h := (k_reg (by kernel_rfl)).trans (by kernel_rfl)
theorem b30_rlrrrrr {β : Type} {inv : Inv} {k : Nat} {x0 x1 x16 : Value} {h : AH} {K : XE → Act → AH → Option β} : kCode env 30 false inv k (cr (cl (cr (cr (cr (cr (cr c30))))))) (act 20 [(0, x0), (1, x1), (16, x16)]) h K = brV x16 (kCode env 30 false inv k (cl (cr (cl (cr (cr (cr (cr (cr c30)))))))) (act 20 [(0, x0), (1, x1), (16, x16)]) h K) (kCode env 30 false inv k (cr (cr (cl (cr (cr (cr (cr (cr c30)))))))) (act 20 [(0, x0), (1, x1), (16, x16)]) h K) := (k_cond (by kernel_rfl)).trans (by kernel_rfl)
theorem r30_10 {β : Type} {inv : Inv} {k : Nat} {x0 x1 x16 : Value} {h : AH} {K : XE → Act → AH → Option β} : kCode env 30 false inv k (cl (cl (cr (cl (cr (cr (cr (cr (cr c30))))))))) (act 20 [(0, x0), (1, x1), (16, x16)]) h K =
    K .normal (act 20 [(4, (Go.Value.int Go.IntKind.i64 (-1)))]) h := (k_reg (by kernel_rfl)).trans (by kernel_rfl)
theorem r30_11 {β : Type} {inv : Inv} {k : Nat} {x0 x1 x16 : Value} {h : AH} {K : XE → Act → AH → Option β} : kCode env 30 false inv k (cl (cl (cr (cr (cr (cr (cr (cr c30)))))))) (act 20 [(0, x0), (1, x1), (16, x16)]) h K =
    bnd (pBin Try.prog Go.BinOp.gtr 2 (Go.Operand.tmp 17) (Go.Operand.tmp 18) x0 x1) fun x19 =>
    K .normal (act 20 [(19, x19)]) h := (k_reg (by kernel_rfl)).trans (by kernel_rfl)
theorem b30_rlrrrrrr {β : Type} {inv : Inv} {k : Nat} {x19 : Value} {h : AH} {K : XE → Act → AH → Option β} : kCode env 30 false inv k (cr (cl (cr (cr (cr (cr (cr (cr c30)))))))) (act 20 [(19, x19)]) h K = brV x19 (kCode env 30 false inv k (cl (cr (cl (cr (cr (cr (cr (cr (cr c30))))))))) (act 20 [(19, x19)]) h K) (kCode env 30 false inv k (cr (cr (cl (cr (cr (cr (cr (cr (cr c30))))))))) (act 20 [(19, x19)]) h K) := (k_cond (by kernel_rfl)).trans (by kernel_rfl)
theorem r30_12 {β : Type} {inv : Inv} {k : Nat} {x19 : Value} {h : AH} {K : XE → Act → AH → Option β} : kCode env 30 false inv k (cl (cl (cr (cl (cr (cr (cr (cr (cr (cr c30)))))))))) (act 20 [(19, x19)]) h K =
    K .normal (act 20 [(4, (Go.Value.int Go.IntKind.i64 1))]) h := (k_reg (by kernel_rfl)).trans (by kernel_rfl)
theorem r30_13 {β : Type} {inv : Inv} {k : Nat} {x19 : Value} {h : AH} {K : XE → Act → AH → Option β} : kCode env 30 false inv k (cl (cr (cr (cr (cr (cr (cr (cr c30)))))))) (act 20 [(19, x19)]) h K =
    K .normal (act 20 [(4, (Go.Value.int Go.IntKind.i64 0))]) h := (k_reg (by kernel_rfl)).trans (by kernel_rfl)
/-- cmp.Compare[int64] -/
noncomputable def F30 (inv : Inv) (k : Nat) (x0 x1 : Value) (h : AH) : Option (Value × AH) :=
    bnd (inv (.func 36) #[] #[x0] h) fun x8 =>
    bnd (inv (.func 36) #[] #[x1] x8.2) fun x10 =>
    brV x8.1
    (brV x10.1
    (some ((Go.Value.int Go.IntKind.i64 0), x10.2))
    (some ((Go.Value.int Go.IntKind.i64 (-1)), x10.2)))
    (brV x10.1
    (some ((Go.Value.int Go.IntKind.i64 1), x10.2))
    (bnd (pBin Try.prog Go.BinOp.lss 2 (Go.Operand.tmp 14) (Go.Operand.tmp 15) x0 x1) fun x16 =>
    brV x16
    (some ((Go.Value.int Go.IntKind.i64 (-1)), x10.2))
    (bnd (pBin Try.prog Go.BinOp.gtr 2 (Go.Operand.tmp 17) (Go.Operand.tmp 18) x0 x1) fun x19 =>
    brV x19
    (some ((Go.Value.int Go.IntKind.i64 1), x10.2))
    (some ((Go.Value.int Go.IntKind.i64 0), x10.2)))))
theorem F30_eq {inv : Inv} {k : Nat} {x0 x1 : Value} {h : AH} : eFun env k inv 30 #[x0, x1] h = F30 inv k x0 x1 h := by
      refine (eFun_k2 (by kernel_rfl) (by kernel_rfl) (by kernel_rfl) (a := act 20 [(0, x0), (1, x1)]) (c := c30) (by kernel_rfl) (by kernel_rfl)).trans ?_
      unfold F30
      simp only [k_seq (E := env) (f := 30) (c := c30) (by kernel_rfl), r30_0, k_seq (E := env) (f := 30) (c := (cr c30)) (by kernel_rfl), r30_1, k_seq (E := env) (f := 30) (c := (cr (cr c30))) (by kernel_rfl), r30_2, k_seq (E := env) (f := 30) (c := (cr (cr (cr c30)))) (by kernel_rfl), k_seq (E := env) (f := 30) (c := (cl (cr (cr (cr c30))))) (by kernel_rfl), r30_3, b30_rlrrr, k_seq (E := env) (f := 30) (c := (cl (cr (cl (cr (cr (cr c30))))))) (by kernel_rfl), k_seq (E := env) (f := 30) (c := (cl (cl (cr (cl (cr (cr (cr c30)))))))) (by kernel_rfl), r30_4, b30_rllrlrrr, k_seq (E := env) (f := 30) (c := (cl (cr (cl (cl (cr (cl (cr (cr (cr c30)))))))))) (by kernel_rfl), r30_5, k_ret (E := env) (f := 30) (c := (cr (cl (cr (cl (cl (cr (cl (cr (cr (cr c30))))))))))) (by kernel_rfl), res30_0, k_skip (E := env) (f := 30) (c := (cr (cr (cl (cl (cr (cl (cr (cr (cr c30)))))))))) (by kernel_rfl), k_seq (E := env) (f := 30) (c := (cr (cl (cr (cl (cr (cr (cr c30)))))))) (by kernel_rfl), r30_6, k_ret (E := env) (f := 30) (c := (cr (cr (cl (cr (cl (cr (cr (cr c30))))))))) (by kernel_rfl), k_skip (E := env) (f := 30) (c := (cr (cr (cl (cr (cr (cr c30))))))) (by kernel_rfl), k_seq (E := env) (f := 30) (c := (cr (cr (cr (cr c30))))) (by kernel_rfl), k_seq (E := env) (f := 30) (c := (cl (cr (cr (cr (cr c30)))))) (by kernel_rfl), r30_7, b30_rlrrrr, k_seq (E := env) (f := 30) (c := (cl (cr (cl (cr (cr (cr (cr c30)))))))) (by kernel_rfl), r30_8, k_ret (E := env) (f := 30) (c := (cr (cl (cr (cl (cr (cr (cr (cr c30))))))))) (by kernel_rfl), k_skip (E := env) (f := 30) (c := (cr (cr (cl (cr (cr (cr (cr c30)))))))) (by kernel_rfl), k_seq (E := env) (f := 30) (c := (cr (cr (cr (cr (cr c30)))))) (by kernel_rfl), k_seq (E := env) (f := 30) (c := (cl (cr (cr (cr (cr (cr c30))))))) (by kernel_rfl), r30_9, b30_rlrrrrr, k_seq (E := env) (f := 30) (c := (cl (cr (cl (cr (cr (cr (cr (cr c30))))))))) (by kernel_rfl), r30_10, k_ret (E := env) (f := 30) (c := (cr (cl (cr (cl (cr (cr (cr (cr (cr c30)))))))))) (by kernel_rfl), k_skip (E := env) (f := 30) (c := (cr (cr (cl (cr (cr (cr (cr (cr c30))))))))) (by kernel_rfl), k_seq (E := env) (f := 30) (c := (cr (cr (cr (cr (cr (cr c30))))))) (by kernel_rfl), k_seq (E := env) (f := 30) (c := (cl (cr (cr (cr (cr (cr (cr c30)))))))) (by kernel_rfl), r30_11, b30_rlrrrrrr, k_seq (E := env) (f := 30) (c := (cl (cr (cl (cr (cr (cr (cr (cr (cr c30)))))))))) (by kernel_rfl), r30_12, k_ret (E := env) (f := 30) (c := (cr (cl (cr (cl (cr (cr (cr (cr (cr (cr c30))))))))))) (by kernel_rfl), k_skip (E := env) (f := 30) (c := (cr (cr (cl (cr (cr (cr (cr (cr (cr c30)))))))))) (by kernel_rfl), k_seq (E := env) (f := 30) (c := (cr (cr (cr (cr (cr (cr (cr c30)))))))) (by kernel_rfl), r30_13, k_ret (E := env) (f := 30) (c := (cr (cr (cr (cr (cr (cr (cr (cr c30))))))))) (by kernel_rfl), reduceIte, reduceCtorEq, XE.exit.injEq, Nat.reduceEqDiff] <;> kernel_rfl
theorem F30_call {k : Nat} {x0 x1 : Value} {h : AH} : eInv env (k + 1) (.func 30) #[] #[x0, x1] h = F30 (eInv env k) k x0 x1 h := (inv_func (by kernel_rfl)).trans F30_eq
noncomputable def c31 : Code := codeOf Try.prog 31
theorem r31_0 {β : Type} {inv : Inv} {k : Nat} {x0 x1 : Value} {h : AH} {K : XE → Act → AH → Option β} : kCode env 31 false inv k (cl c31) (act 8 [(0, x0), (1, x1)]) h K =
    K .normal (act 8 [(0, x0), (1, x1)]) h := (k_reg (by kernel_rfl)).trans (by kernel_rfl)
theorem r31_1 {β : Type} {inv : Inv} {k : Nat} {x0 x1 : Value} {h : AH} {K : XE → Act → AH → Option β} : kCode env 31 false inv k (cl (cr c31)) (act 8 [(0, x0), (1, x1)]) h K =
    bnd (inv (.func 37) #[] #[x0, x1] h) fun x7 =>
    K .normal (act 8 [(4, x7.1)]) x7.2 := (k_reg (by kernel_rfl)).trans (by kernel_rfl)
theorem res31_0 {x4 : Value} {h : AH} : resOfFn env.P 31 .ret (act 8 [(4, x4)]) h = some (x4, h) := (resOfFn_k (by kernel_rfl) (by kernel_rfl)).trans (by kernel_rfl)
/-- strings.Compare -/
noncomputable def F31 (inv : Inv) (k : Nat) (x0 x1 : Value) (h : AH) : Option (Value × AH) :=
    bnd (inv (.func 37) #[] #[x0, x1] h) fun x7 =>
    some (x7.1, x7.2)
theorem F31_eq {inv : Inv} {k : Nat} {x0 x1 : Value} {h : AH} : eFun env k inv 31 #[x0, x1] h = F31 inv k x0 x1 h := by
      refine (eFun_k2 (by kernel_rfl) (by kernel_rfl) (by kernel_rfl) (a := act 8 [(0, x0), (1, x1)]) (c := c31) (by kernel_rfl) (by kernel_rfl)).trans ?_
      unfold F31
      simp only [k_seq (E := env) (f := 31) (c := c31) (by kernel_rfl), r31_0, k_seq (E := env) (f := 31) (c := (cr c31)) (by kernel_rfl), r31_1, k_ret (E := env) (f := 31) (c := (cr (cr c31))) (by kernel_rfl), res31_0, reduceIte, reduceCtorEq, XE.exit.injEq, Nat.reduceEqDiff] <;> kernel_rfl
theorem F31_call {k : Nat} {x0 x1 : Value} {h : AH} : eInv env (k + 1) (.func 31) #[] #[x0, x1] h = F31 (eInv env k) k x0 x1 h := (inv_func (by kernel_rfl)).trans F31_eq
noncomputable def c32 : Code := codeOf Try.prog 32
theorem r32_0 {β : Type} {inv : Inv} {k : Nat} {x0 : Value} {h : AH} {K : XE → Act → AH → Option β} : kCode env 32 false inv k (cl c32) (act 5 [(0, x0)]) h K =
    K .normal (act 5 [(0, x0)]) h := (k_reg (by kernel_rfl)).trans (by kernel_rfl)
theorem r32_1 {β : Type} {inv : Inv} {k : Nat} {x0 : Value} {h : AH} {K : XE → Act → AH → Option β} : kCode env 32 false inv k (cl (cr c32)) (act 5 [(0, x0)]) h K =
    bnd (pBin Try.prog Go.BinOp.eql 48 (Go.Operand.tmp 3) (Go.Operand.const (Go.Value.int Go.IntKind.i64 0)) x0 (Go.Value.int Go.IntKind.i64 0)) fun x4 =>
    K .normal (act 5 [(2, x4)]) h := (k_reg (by kernel_rfl)).trans (by kernel_rfl)
theorem res32_0 {x2 : Value} {h : AH} : resOfFn env.P 32 .ret (act 5 [(2, x2)]) h = some (x2, h) := (resOfFn_k (by kernel_rfl) (by kernel_rfl)).trans (by kernel_rfl)
/-- (shadowbook/zone.order).eq -/
noncomputable def F32 (inv : Inv) (k : Nat) (x0 : Value) (h : AH) : Option (Value × AH) :=
    bnd (pBin Try.prog Go.BinOp.eql 48 (Go.Operand.tmp 3) (Go.Operand.const (Go.Value.int Go.IntKind.i64 0)) x0 (Go.Value.int Go.IntKind.i64 0)) fun x4 =>
    some (x4, h)
theorem F32_eq {inv : Inv} {k : Nat} {x0 : Value} {h : AH} : eFun env k inv 32 #[x0] h = F32 inv k x0 h := by
      refine (eFun_k2 (by kernel_rfl) (by kernel_rfl) (by kernel_rfl) (a := act 5 [(0, x0)]) (c := c32) (by kernel_rfl) (by kernel_rfl)).trans ?_
      unfold F32
      simp only [k_seq (E := env) (f := 32) (c := c32) (by kernel_rfl), r32_0, k_seq (E := env) (f := 32) (c := (cr c32)) (by kernel_rfl), r32_1, k_ret (E := env) (f := 32) (c := (cr (cr c32))) (by kernel_rfl), res32_0, reduceIte, reduceCtorEq, XE.exit.injEq, Nat.reduceEqDiff] <;> kernel_rfl
theorem F32_call {k : Nat} {x0 : Value} {h : AH} : eInv env (k + 1) (.func 32) #[] #[x0] h = F32 (eInv env k) k x0 h := (inv_func (by kernel_rfl)).trans F32_eq
noncomputable def c33 : Code := codeOf Try.prog 33
theorem r33_0 {β : Type} {inv : Inv} {k : Nat} {x0 : Value} {h : AH} {K : XE → Act → AH → Option β} : kCode env 33 false inv k (cl c33) (act 5 [(0, x0)]) h K =
    K .normal (act 5 [(0, x0)]) h := (k_reg (by kernel_rfl)).trans (by kernel_rfl)
theorem r33_1 {β : Type} {inv : Inv} {k : Nat} {x0 : Value} {h : AH} {K : XE → Act → AH → Option β} : kCode env 33 false inv k (cl (cr c33)) (act 5 [(0, x0)]) h K =
    bnd (pBin Try.prog Go.BinOp.lss 48 (Go.Operand.tmp 3) (Go.Operand.const (Go.Value.int Go.IntKind.i64 0)) x0 (Go.Value.int Go.IntKind.i64 0)) fun x4 =>
    K .normal (act 5 [(2, x4)]) h := (k_reg (by kernel_rfl)).trans (by kernel_rfl)
theorem res33_0 {x2 : Value} {h : AH} : resOfFn env.P 33 .ret (act 5 [(2, x2)]) h = some (x2, h) := (resOfFn_k (by kernel_rfl) (by kernel_rfl)).trans (by kernel_rfl)
/-- (shadowbook/zone.order).lt -/
noncomputable def F33 (inv : Inv) (k : Nat) (x0 : Value) (h : AH) : Option (Value × AH) :=
    bnd (pBin Try.prog Go.BinOp.lss 48 (Go.Operand.tmp 3) (Go.Operand.const (Go.Value.int Go.IntKind.i64 0)) x0 (Go.Value.int Go.IntKind.i64 0)) fun x4 =>
    some (x4, h)
theorem F33_eq {inv : Inv} {k : Nat} {x0 : Value} {h : AH} : eFun env k inv 33 #[x0] h = F33 inv k x0 h := by
      refine (eFun_k2 (by kernel_rfl) (by kernel_rfl) (by kernel_rfl) (a := act 5 [(0, x0)]) (c := c33) (by kernel_rfl) (by kernel_rfl)).trans ?_
      unfold F33
      simp only [k_seq (E := env) (f := 33) (c := c33) (by kernel_rfl), r33_0, k_seq (E := env) (f := 33) (c := (cr c33)) (by kernel_rfl), r33_1, k_ret (E := env) (f := 33) (c := (cr (cr c33))) (by kernel_rfl), res33_0, reduceIte, reduceCtorEq, XE.exit.injEq, Nat.reduceEqDiff] <;> kernel_rfl
theorem F33_call {k : Nat} {x0 : Value} {h : AH} : eInv env (k + 1) (.func 33) #[] #[x0] h = F33 (eInv env k) k x0 h := (inv_func (by kernel_rfl)).trans F33_eq
noncomputable def c34 : Code := codeOf Try.prog 34
theorem r34_0 {β : Type} {inv : Inv} {k : Nat} {x0 : Value} {h : AH} {K : XE → Act → AH → Option β} : kCode env 34 false inv k (cl c34) (act 5 [(0, x0)]) h K =
    K .normal (act 5 [(0, x0)]) h := (k_reg (by kernel_rfl)).trans (by kernel_rfl)
theorem r34_1 {β : Type} {inv : Inv} {k : Nat} {x0 : Value} {h : AH} {K : XE → Act → AH → Option β} : kCode env 34 false inv k (cl (cr c34)) (act 5 [(0, x0)]) h K =
    bnd (pBin Try.prog Go.BinOp.gtr 48 (Go.Operand.tmp 3) (Go.Operand.const (Go.Value.int Go.IntKind.i64 0)) x0 (Go.Value.int Go.IntKind.i64 0)) fun x4 =>
    K .normal (act 5 [(2, x4)]) h := (k_reg (by kernel_rfl)).trans (by kernel_rfl)
theorem res34_0 {x2 : Value} {h : AH} : resOfFn env.P 34 .ret (act 5 [(2, x2)]) h = some (x2, h) := (resOfFn_k (by kernel_rfl) (by kernel_rfl)).trans (by kernel_rfl)
/-- (shadowbook/zone.order).gt -/
noncomputable def F34 (inv : Inv) (k : Nat) (x0 : Value) (h : AH) : Option (Value × AH) :=
    bnd (pBin Try.prog Go.BinOp.gtr 48 (Go.Operand.tmp 3) (Go.Operand.const (Go.Value.int Go.IntKind.i64 0)) x0 (Go.Value.int Go.IntKind.i64 0)) fun x4 =>
    some (x4, h)
theorem F34_eq {inv : Inv} {k : Nat} {x0 : Value} {h : AH} : eFun env k inv 34 #[x0] h = F34 inv k x0 h := by
      refine (eFun_k2 (by kernel_rfl) (by kernel_rfl) (by kernel_rfl) (a := act 5 [(0, x0)]) (c := c34) (by kernel_rfl) (by kernel_rfl)).trans ?_
      unfold F34
      simp only [k_seq (E := env) (f := 34) (c := c34) (by kernel_rfl), r34_0, k_seq (E := env) (f := 34) (c := (cr c34)) (by kernel_rfl), r34_1, k_ret (E := env) (f := 34) (c := (cr (cr c34))) (by kernel_rfl), res34_0, reduceIte, reduceCtorEq, XE.exit.injEq, Nat.reduceEqDiff] <;> kernel_rfl
theorem F34_call {k : Nat} {x0 : Value} {h : AH} : eInv env (k + 1) (.func 34) #[] #[x0] h = F34 (eInv env k) k x0 h := (inv_func (by kernel_rfl)).trans F34_eq
noncomputable def c35 : Code := codeOf Try.prog 35
theorem r35_0 {β : Type} {inv : Inv} {k : Nat} {x0 : Value} {h : AH} {K : XE → Act → AH → Option β} : kCode env 35 false inv k (cl c35) (act 6 [(0, x0)]) h K =
    K .normal (act 6 [(0, x0)]) h := (k_reg (by kernel_rfl)).trans (by kernel_rfl)
theorem r35_1 {β : Type} {inv : Inv} {k : Nat} {x0 : Value} {h : AH} {K : XE → Act → AH → Option β} : kCode env 35 false inv k (cl (cr c35)) (act 6 [(0, x0)]) h K =
    bnd (pBin Try.prog Go.BinOp.neq 3 (Go.Operand.tmp 3) (Go.Operand.tmp 4) x0 x0) fun x5 =>
    K .normal (act 6 [(2, x5)]) h := (k_reg (by kernel_rfl)).trans (by kernel_rfl)
theorem res35_0 {x2 : Value} {h : AH} : resOfFn env.P 35 .ret (act 6 [(2, x2)]) h = some (x2, h) := (resOfFn_k (by kernel_rfl) (by kernel_rfl)).trans (by kernel_rfl)
/-- cmp.isNaN[int] -/
noncomputable def F35 (inv : Inv) (k : Nat) (x0 : Value) (h : AH) : Option (Value × AH) :=
    bnd (pBin Try.prog Go.BinOp.neq 3 (Go.Operand.tmp 3) (Go.Operand.tmp 4) x0 x0) fun x5 =>
    some (x5, h)
theorem F35_eq {inv : Inv} {k : Nat} {x0 : Value} {h : AH} : eFun env k inv 35 #[x0] h = F35 inv k x0 h := by
      refine (eFun_k2 (by kernel_rfl) (by kernel_rfl) (by kernel_rfl) (a := act 6 [(0, x0)]) (c := c35) (by kernel_rfl) (by kernel_rfl)).trans ?_
      unfold F35
      simp only [k_seq (E := env) (f := 35) (c := c35) (by kernel_rfl), r35_0, k_seq (E := env) (f := 35) (c := (cr c35)) (by kernel_rfl), r35_1, k_ret (E := env) (f := 35) (c := (cr (cr c35))) (by kernel_rfl), res35_0, reduceIte, reduceCtorEq, XE.exit.injEq, Nat.reduceEqDiff] <;> kernel_rfl
theorem F35_call {k : Nat} {x0 : Value} {h : AH} : eInv env (k + 1) (.func 35) #[] #[x0] h = F35 (eInv env k) k x0 h := (inv_func (by kernel_rfl)).trans F35_eq
noncomputable def c36 : Code := codeOf Try.prog 36
theorem r36_0 {β : Type} {inv : Inv} {k : Nat} {x0 : Value} {h : AH} {K : XE → Act → AH → Option β} : kCode env 36 false inv k (cl c36) (act 6 [(0, x0)]) h K =
    K .normal (act 6 [(0, x0)]) h := (k_reg (by kernel_rfl)).trans (by kernel_rfl)
theorem r36_1 {β : Type} {inv : Inv} {k : Nat} {x0 : Value} {h : AH} {K : XE → Act → AH → Option β} : kCode env 36 false inv k (cl (cr c36)) (act 6 [(0, x0)]) h K =
    bnd (pBin Try.prog Go.BinOp.neq 2 (Go.Operand.tmp 3) (Go.Operand.tmp 4) x0 x0) fun x5 =>
    K .normal (act 6 [(2, x5)]) h := (k_reg (by kernel_rfl)).trans (by kernel_rfl)
theorem res36_0 {x2 : Value} {h : AH} : resOfFn env.P 36 .ret (act 6 [(2, x2)]) h = some (x2, h) := (resOfFn_k (by kernel_rfl) (by kernel_rfl)).trans (by kernel_rfl)
/-- cmp.isNaN[int64] -/
noncomputable def F36 (inv : Inv) (k : Nat) (x0 : Value) (h : AH) : Option (Value × AH) :=
    bnd (pBin Try.prog Go.BinOp.neq 2 (Go.Operand.tmp 3) (Go.Operand.tmp 4) x0 x0) fun x5 =>
    some (x5, h)
theorem F36_eq {inv : Inv} {k : Nat} {x0 : Value} {h : AH} : eFun env k inv 36 #[x0] h = F36 inv k x0 h := by
      refine (eFun_k2 (by kernel_rfl) (by kernel_rfl) (by kernel_rfl) (a := act 6 [(0, x0)]) (c := c36) (by kernel_rfl) (by kernel_rfl)).trans ?_
      unfold F36
      simp only [k_seq (E := env) (f := 36) (c := c36) (by kernel_rfl), r36_0, k_seq (E := env) (f := 36) (c := (cr c36)) (by kernel_rfl), r36_1, k_ret (E := env) (f := 36) (c := (cr (cr c36))) (by kernel_rfl), res36_0, reduceIte, reduceCtorEq, XE.exit.injEq, Nat.reduceEqDiff] <;> kernel_rfl
theorem F36_call {k : Nat} {x0 : Value} {h : AH} : eInv env (k + 1) (.func 36) #[] #[x0] h = F36 (eInv env k) k x0 h := (inv_func (by kernel_rfl)).trans F36_eq
noncomputable def c37 : Code := codeOf Try.prog 37
theorem r37_0 {β : Type} {inv : Inv} {k : Nat} {x0 x1 : Value} {h : AH} {K : XE → Act → AH → Option β} : kCode env 37 false inv k (cl c37) (act 8 [(0, x0), (1, x1)]) h K =
    K .normal (act 8 [(0, x0), (1, x1)]) h := (k_reg (by kernel_rfl)).trans (by kernel_rfl)
theorem r37_1 {β : Type} {inv : Inv} {k : Nat} {x0 x1 : Value} {h : AH} {K : XE → Act → AH → Option β} : kCode env 37 false inv k (cl (cr c37)) (act 8 [(0, x0), (1, x1)]) h K =
    bnd (inv (.func 38) #[] #[x0, x1] h) fun x7 =>
    K .normal (act 8 [(4, x7.1)]) x7.2 := (k_reg (by kernel_rfl)).trans (by kernel_rfl)
theorem res37_0 {x4 : Value} {h : AH} : resOfFn env.P 37 .ret (act 8 [(4, x4)]) h = some (x4, h) := (resOfFn_k (by kernel_rfl) (by kernel_rfl)).trans (by kernel_rfl)
/-- internal/bytealg.CompareString -/
noncomputable def F37 (inv : Inv) (k : Nat) (x0 x1 : Value) (h : AH) : Option (Value × AH) :=
    bnd (inv (.func 38) #[] #[x0, x1] h) fun x7 =>
    some (x7.1, x7.2)
theorem F37_eq {inv : Inv} {k : Nat} {x0 x1 : Value} {h : AH} : eFun env k inv 37 #[x0, x1] h = F37 inv k x0 x1 h := by
      refine (eFun_k2 (by kernel_rfl) (by kernel_rfl) (by kernel_rfl) (a := act 8 [(0, x0), (1, x1)]) (c := c37) (by kernel_rfl) (by kernel_rfl)).trans ?_
      unfold F37
      simp only [k_seq (E := env) (f := 37) (c := c37) (by kernel_rfl), r37_0, k_seq (E := env) (f := 37) (c := (cr c37)) (by kernel_rfl), r37_1, k_ret (E := env) (f := 37) (c := (cr (cr c37))) (by kernel_rfl), res37_0, reduceIte, reduceCtorEq, XE.exit.injEq, Nat.reduceEqDiff] <;> kernel_rfl
theorem F37_call {k : Nat} {x0 x1 : Value} {h : AH} : eInv env (k + 1) (.func 37) #[] #[x0, x1] h = F37 (eInv env k) k x0 x1 h := (inv_func (by kernel_rfl)).trans F37_eq
end Go.Proofs.Ytpiibdegmimckaa.Sh
