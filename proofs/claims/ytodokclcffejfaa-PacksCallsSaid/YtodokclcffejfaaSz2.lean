/- Shallow functions, part 2. Printed by a program of the prover's own from the loaded program; Lean checks it. -/
import Derived.Test.YtodokclcffejfaaSz1
set_option linter.unusedVariables false
set_option linter.unusedSimpArgs false
set_option maxRecDepth 100000
namespace Go.Proofs.Ytodokclcffejfaa.Sh
open Go Go.RowKit Go.Proofs.Ev
noncomputable def c19 : Code := codeOf Try.prog 19
theorem r19_0 {β : Type} {inv : Inv} {k : Nat} {x0 x1 x2 : Value} {h : AH} {K : XE → Act → AH → Option β} : kCode env 19 false inv k (cl c19) (act 35 [(0, x0), (1, x1), (2, x2)]) h K =
    bnd (pBox Try.prog 3 x1 h) fun x4 =>
    bnd (pAlloc Try.prog 22 x4.2) fun x6 =>
    bnd (pAlloc Try.prog 4 x6.2) fun x7 =>
    K .normal (act 35 [(0, x0), (2, x2), (4, x4.1), (6, x6.1), (7, x7.1)]) x7.2 := (k_reg (by kernel_rfl)).trans (by kernel_rfl)
theorem r19_1 {β : Type} {inv : Inv} {k : Nat} {x0 x2 x4 x6 x7 : Value} {h : AH} {K : XE → Act → AH → Option β} : kCode env 19 false inv k (cl (cr c19)) (act 35 [(0, x0), (2, x2), (4, x4), (6, x6), (7, x7)]) h K =
    bnd (pLoad Try.prog 3 x4 h) fun x13 =>
    bnd (inv (.func 22) #[] #[x0, x13, x2] h) fun x15 =>
    K .normal (act 35 [(4, x4), (6, x6), (7, x7), (8, x15.1)]) x15.2 := (k_reg (by kernel_rfl)).trans (by kernel_rfl)
theorem r19_2 {β : Type} {inv : Inv} {k : Nat} {x4 x6 x7 x8 : Value} {h : AH} {K : XE → Act → AH → Option β} : kCode env 19 false inv k (cl (cl (cr (cr c19)))) (act 35 [(4, x4), (6, x6), (7, x7), (8, x8)]) h K =
    bnd (pBin Try.prog Go.BinOp.eql 41 (Go.Operand.tmp 16) (Go.Operand.const Go.Value.nilFunc) x8 Go.Value.nilFunc) fun x17 =>
    K .normal (act 35 [(4, x4), (6, x6), (7, x7), (8, x8), (17, x17)]) h := (k_reg (by kernel_rfl)).trans (by kernel_rfl)
theorem b19_rlrr {β : Type} {inv : Inv} {k : Nat} {x4 x6 x7 x8 x17 : Value} {h : AH} {K : XE → Act → AH → Option β} : kCode env 19 false inv k (cr (cl (cr (cr c19)))) (act 35 [(4, x4), (6, x6), (7, x7), (8, x8), (17, x17)]) h K = brV x17 (kCode env 19 false inv k (cl (cr (cl (cr (cr c19))))) (act 35 [(4, x4), (6, x6), (7, x7), (8, x8), (17, x17)]) h K) (kCode env 19 false inv k (cr (cr (cl (cr (cr c19))))) (act 35 [(4, x4), (6, x6), (7, x7), (8, x8), (17, x17)]) h K) := (k_cond (by kernel_rfl)).trans (by kernel_rfl)
theorem r19_3 {β : Type} {inv : Inv} {k : Nat} {x4 x6 x7 x8 x17 : Value} {h : AH} {K : XE → Act → AH → Option β} : kCode env 19 false inv k (cl (cl (cr (cl (cr (cr c19)))))) (act 35 [(4, x4), (6, x6), (7, x7), (8, x8), (17, x17)]) h K =
    bnd (kSt (pStore Try.prog 22 x6 (Go.Value.slice none 0 0) h)) fun u =>
    bnd (kSt (pStore Try.prog 4 x7 (Go.Value.bool false) u.2)) fun u_1 =>
    K .normal (act 35 [(6, x6), (7, x7)]) u_1.2 := (k_reg (by kernel_rfl)).trans (by kernel_rfl)
theorem res19_0 {x6 x7 : Value} {h : AH} : resOfFn env.P 19 .ret (act 35 [(6, x6), (7, x7)]) h = bnd (pLoad Try.prog 22 x6 h) fun q0 =>
    bnd (pLoad Try.prog 4 x7 h) fun q1 =>
    some (.tuple #[q0, q1], h) := (resOfFn_k (by kernel_rfl) (by kernel_rfl)).trans (by kernel_rfl)
theorem r19_4 {β : Type} {inv : Inv} {k : Nat} {x4 x6 x7 x8 x17 : Value} {h : AH} {K : XE → Act → AH → Option β} : kCode env 19 false inv k (cl (cr (cr (cr c19)))) (act 35 [(4, x4), (6, x6), (7, x7), (8, x8), (17, x17)]) h K =
    bnd (pAlloc Try.prog 22 h) fun x9 =>
    K .normal (act 35 [(4, x4), (6, x6), (7, x7), (8, x8), (9, x9.1)]) x9.2 := (k_reg (by kernel_rfl)).trans (by kernel_rfl)
theorem r19_5 {β : Type} {inv : Inv} {k : Nat} {x4 x6 x7 x8 x9 : Value} {h : AH} {K : XE → Act → AH → Option β} : kCode env 19 false inv k (cl (cl (cr (cr (cr (cr c19)))))) (act 35 [(4, x4), (6, x6), (7, x7), (8, x8), (9, x9)]) h K =
    K .normal (act 35 [(4, x4), (6, x6), (7, x7), (9, x9), (18, x8)]) h := (k_reg (by kernel_rfl)).trans (by kernel_rfl)
theorem g19_lrlrrrr {β : Type} {inv : Inv} {k : Nat} {x4 x6 x7 x9 x18 : Value} {h : AH} {K : XE → Act → AH → Option β} : kCode env 19 false inv k (cl (cr (cl (cr (cr (cr (cr c19))))))) (act 35 [(4, x4), (6, x6), (7, x7), (9, x9), (18, x18)]) h K = kRange env 19 inv x18 (psOf (cl (cr (cl (cr (cr (cr (cr c19)))))))) (cl (cl (cr (cl (cr (cr (cr (cr c19)))))))) (cr (cl (cr (cl (cr (cr (cr (cr c19)))))))) (act 35 [(4, x4), (6, x6), (7, x7), (9, x9), (18, x18)]) h fun e h => sw e (K .normal (act 35 [(4, x4), (6, x6), (7, x7), (9, x9), (18, x18)]) h) (K .ret (act 35 [(4, x4), (6, x6), (7, x7), (9, x9), (18, x18)]) h) [] := (k_range (g := x18) (ids := []) (by kernel_rfl) (by kernel_rfl) (by kernel_rfl)).trans (by kernel_rfl)
noncomputable def F19_rlrrrr {β : Type} (inv : Inv) (k : Nat) (x4 x6 x7 x9 x18 : Value) (h : AH) (kn : (Value → Value → Value → Value → Value → AH → Option β)) (kr : (Value → Value → Value → Value → Value → AH → Option β)) : Option β :=
    kRange env 19 inv x18 (psOf (cl (cr (cl (cr (cr (cr (cr c19)))))))) (cl (cl (cr (cl (cr (cr (cr (cr c19)))))))) (cr (cl (cr (cl (cr (cr (cr (cr c19)))))))) (act 35 [(4, x4), (6, x6), (7, x7), (9, x9), (18, x18)]) h fun e h => sw e
    (kn x4 x6 x7 x9 x18 h)
    (kr x4 x6 x7 x9 x18 h) []
theorem F19_rlrrrr_eq {β : Type} {inv : Inv} {k : Nat} {x4 x6 x7 x9 x18 : Value} {h : AH} {K : XE → Act → AH → Option β} : kCode env 19 false inv k (cr (cl (cr (cr (cr (cr c19)))))) (act 35 [(4, x4), (6, x6), (7, x7), (9, x9), (18, x18)]) h K = F19_rlrrrr inv k x4 x6 x7 x9 x18 h (fun y4 y6 y7 y9 y18 h => K .normal (act 35 [(4, y4), (6, y6), (7, y7), (9, y9), (18, y18)]) h) (fun y4 y6 y7 y9 y18 h => K .ret (act 35 [(4, y4), (6, y6), (7, y7), (9, y9), (18, y18)]) h) := by
      unfold F19_rlrrrr
      simp only [k_block (E := env) (f := 19) (c := (cr (cl (cr (cr (cr (cr c19))))))) (id := 0) (by kernel_rfl), g19_lrlrrrr, reduceIte, reduceCtorEq, XE.exit.injEq, Nat.reduceEqDiff] <;> kernel_rfl
theorem r19_11 {β : Type} {inv : Inv} {k : Nat} {x4 x6 x7 x9 x18 : Value} {h : AH} {K : XE → Act → AH → Option β} : kCode env 19 false inv k (cl (cr (cr (cr (cr (cr c19)))))) (act 35 [(4, x4), (6, x6), (7, x7), (9, x9), (18, x18)]) h K =
    bnd (pLoad Try.prog 22 x9 h) fun x34 =>
    bnd (kSt (pStore Try.prog 22 x6 x34 h)) fun u =>
    bnd (kSt (pStore Try.prog 4 x7 (Go.Value.bool true) u.2)) fun u_3 =>
    K .normal (act 35 [(6, x6), (7, x7)]) u_3.2 := (k_reg (by kernel_rfl)).trans (by kernel_rfl)
theorem res19_1 {x4 x6 x7 x9 x18 : Value} {h : AH} : resOfFn env.P 19 .ret (act 35 [(4, x4), (6, x6), (7, x7), (9, x9), (18, x18)]) h = bnd (pLoad Try.prog 22 x6 h) fun q0 =>
    bnd (pLoad Try.prog 4 x7 h) fun q1 =>
    some (.tuple #[q0, q1], h) := (resOfFn_k (by kernel_rfl) (by kernel_rfl)).trans (by kernel_rfl)
/-- shadowbook/shadowbooklaw05.each -/
noncomputable def F19 (inv : Inv) (k : Nat) (x0 x1 x2 : Value) (h : AH) : Option (Value × AH) :=
    bnd (pBox Try.prog 3 x1 h) fun x4 =>
    bnd (pAlloc Try.prog 22 x4.2) fun x6 =>
    bnd (pAlloc Try.prog 4 x6.2) fun x7 =>
    bnd (pLoad Try.prog 3 x4.1 x7.2) fun x13 =>
    bnd (inv (.func 22) #[] #[x0, x13, x2] x7.2) fun x15 =>
    bnd (pBin Try.prog Go.BinOp.eql 41 (Go.Operand.tmp 16) (Go.Operand.const Go.Value.nilFunc) x15.1 Go.Value.nilFunc) fun x17 =>
    brV x17
    (bnd (kSt (pStore Try.prog 22 x6.1 (Go.Value.slice none 0 0) x15.2)) fun u =>
    bnd (kSt (pStore Try.prog 4 x7.1 (Go.Value.bool false) u.2)) fun u_2 =>
    bnd (pLoad Try.prog 22 x6.1 u_2.2) fun q0 =>
    bnd (pLoad Try.prog 4 x7.1 u_2.2) fun q1 =>
    some (.tuple #[q0, q1], u_2.2))
    (bnd (pAlloc Try.prog 22 x15.2) fun x9 =>
    F19_rlrrrr inv k x4.1 x6.1 x7.1 x9.1 x15.1 x9.2
    (fun y4 y6 y7 y9 y18 h =>
    bnd (pLoad Try.prog 22 y9 h) fun x34 =>
    bnd (kSt (pStore Try.prog 22 y6 x34 h)) fun u_4 =>
    bnd (kSt (pStore Try.prog 4 y7 (Go.Value.bool true) u_4.2)) fun u_5 =>
    bnd (pLoad Try.prog 22 y6 u_5.2) fun q0 =>
    bnd (pLoad Try.prog 4 y7 u_5.2) fun q1 =>
    some (.tuple #[q0, q1], u_5.2))
    (fun y4_6 y6_7 y7_8 y9_9 y18_10 h_11 =>
    bnd (pLoad Try.prog 22 y6_7 h_11) fun q0 =>
    bnd (pLoad Try.prog 4 y7_8 h_11) fun q1 =>
    some (.tuple #[q0, q1], h_11)))
theorem F19_eq {inv : Inv} {k : Nat} {x0 x1 x2 : Value} {h : AH} : eFun env k inv 19 #[x0, x1, x2] h = F19 inv k x0 x1 x2 h := by
      refine (eFun_k2 (by kernel_rfl) (by kernel_rfl) (by kernel_rfl) (a := act 35 [(0, x0), (1, x1), (2, x2)]) (c := c19) (by kernel_rfl) (by kernel_rfl)).trans ?_
      unfold F19
      simp only [k_seq (E := env) (f := 19) (c := c19) (by kernel_rfl), r19_0, k_seq (E := env) (f := 19) (c := (cr c19)) (by kernel_rfl), r19_1, k_seq (E := env) (f := 19) (c := (cr (cr c19))) (by kernel_rfl), k_seq (E := env) (f := 19) (c := (cl (cr (cr c19)))) (by kernel_rfl), r19_2, b19_rlrr, k_seq (E := env) (f := 19) (c := (cl (cr (cl (cr (cr c19)))))) (by kernel_rfl), r19_3, k_ret (E := env) (f := 19) (c := (cr (cl (cr (cl (cr (cr c19))))))) (by kernel_rfl), res19_0, k_skip (E := env) (f := 19) (c := (cr (cr (cl (cr (cr c19)))))) (by kernel_rfl), k_seq (E := env) (f := 19) (c := (cr (cr (cr c19)))) (by kernel_rfl), r19_4, k_seq (E := env) (f := 19) (c := (cr (cr (cr (cr c19))))) (by kernel_rfl), k_seq (E := env) (f := 19) (c := (cl (cr (cr (cr (cr c19)))))) (by kernel_rfl), r19_5, F19_rlrrrr_eq, k_seq (E := env) (f := 19) (c := (cr (cr (cr (cr (cr c19)))))) (by kernel_rfl), r19_11, k_ret (E := env) (f := 19) (c := (cr (cr (cr (cr (cr (cr c19))))))) (by kernel_rfl), res19_1, reduceIte, reduceCtorEq, XE.exit.injEq, Nat.reduceEqDiff] <;> kernel_rfl
theorem F19_call {k : Nat} {x0 x1 x2 : Value} {h : AH} : eInv env (k + 1) (.func 19) #[] #[x0, x1, x2] h = F19 (eInv env k) k x0 x1 x2 h := (inv_func (by kernel_rfl)).trans F19_eq
theorem r19_6 {β : Type} {inv : Inv} {k : Nat} {x4 x6 x7 x9 x18 x19 x20 : Value} {h : AH} {K : XE → Act → AH → Option β} : kCode env 19 true inv k (cl (cl (cl (cr (cl (cr (cr (cr (cr c19))))))))) (act 35 [(4, x4), (6, x6), (7, x7), (9, x9), (18, x18), (19, x19), (20, x20)]) h K =
    K .normal (act 35 [(4, x4), (6, x6), (7, x7), (9, x9), (10, x19), (20, x20)]) h := (k_reg (by kernel_rfl)).trans (by kernel_rfl)
theorem r19_7 {β : Type} {inv : Inv} {k : Nat} {x4 x6 x7 x9 x10 x20 : Value} {h : AH} {K : XE → Act → AH → Option β} : kCode env 19 true inv k (cr (cl (cl (cr (cl (cr (cr (cr (cr c19))))))))) (act 35 [(4, x4), (6, x6), (7, x7), (9, x9), (10, x10), (20, x20)]) h K =
    K .normal (act 35 [(4, x4), (6, x6), (7, x7), (9, x9), (10, x10), (11, x20)]) h := (k_reg (by kernel_rfl)).trans (by kernel_rfl)
theorem r19_8 {β : Type} {inv : Inv} {k : Nat} {x4 x6 x7 x9 x10 x11 : Value} {h : AH} {K : XE → Act → AH → Option β} : kCode env 19 true inv k (cl (cl (cl (cr (cl (cr (cl (cr (cr (cr (cr c19))))))))))) (act 35 [(4, x4), (6, x6), (7, x7), (9, x9), (10, x10), (11, x11)]) h K =
    bnd (pLoad Try.prog 22 x9 h) fun x22 =>
    bnd (pLen Try.prog #[22] x22 h) fun x23 =>
    bnd (pBin Try.prog Go.BinOp.neq 3 (Go.Operand.tmp 21) (Go.Operand.tmp 23) x10 x23) fun x24 =>
    bnd (gd (some x24) false h (some (x10, h))) fun x26 =>
    bnd (gd (some x24) false x26.2 (lt (pLoad Try.prog 3 x4 x26.2) x26.2)) fun x27 =>
    bnd (gd (some x24) false x27.2 (lt (pBin Try.prog Go.BinOp.gtr 3 (Go.Operand.tmp 26) (Go.Operand.tmp 27) x26.1 x27.1) x27.2)) fun x28 =>
    bnd (pickV x24 (Go.Value.bool true) x28.1) fun x29 =>
    K .normal (act 35 [(6, x6), (7, x7), (9, x9), (11, x11), (29, x29)]) x28.2 := (k_reg (by kernel_rfl)).trans (by kernel_rfl)
theorem b19_rllrlrlrrrr {β : Type} {inv : Inv} {k : Nat} {x6 x7 x9 x11 x29 : Value} {h : AH} {K : XE → Act → AH → Option β} : kCode env 19 true inv k (cr (cl (cl (cr (cl (cr (cl (cr (cr (cr (cr c19))))))))))) (act 35 [(6, x6), (7, x7), (9, x9), (11, x11), (29, x29)]) h K = brV x29 (kCode env 19 true inv k (cl (cr (cl (cl (cr (cl (cr (cl (cr (cr (cr (cr c19)))))))))))) (act 35 [(6, x6), (7, x7), (9, x9), (11, x11), (29, x29)]) h K) (kCode env 19 true inv k (cr (cr (cl (cl (cr (cl (cr (cl (cr (cr (cr (cr c19)))))))))))) (act 35 [(6, x6), (7, x7), (9, x9), (11, x11), (29, x29)]) h K) := (k_cond (by kernel_rfl)).trans (by kernel_rfl)
theorem r19_9 {β : Type} {inv : Inv} {k : Nat} {x6 x7 x9 x11 x29 : Value} {h : AH} {K : XE → Act → AH → Option β} : kCode env 19 true inv k (cl (cl (cr (cl (cl (cr (cl (cr (cl (cr (cr (cr (cr c19))))))))))))) (act 35 [(6, x6), (7, x7), (9, x9), (11, x11), (29, x29)]) h K =
    bnd (kSt (pStore Try.prog 22 x6 (Go.Value.slice none 0 0) h)) fun u =>
    bnd (kSt (pStore Try.prog 4 x7 (Go.Value.bool false) u.2)) fun u_12 =>
    K .normal (act 35 [(6, x6), (7, x7)]) u_12.2 := (k_reg (by kernel_rfl)).trans (by kernel_rfl)
theorem r19_10 {β : Type} {inv : Inv} {k : Nat} {x6 x7 x9 x11 x29 : Value} {h : AH} {K : XE → Act → AH → Option β} : kCode env 19 true inv k (cr (cl (cr (cl (cr (cl (cr (cr (cr (cr c19)))))))))) (act 35 [(6, x6), (7, x7), (9, x9), (11, x11), (29, x29)]) h K =
    bnd (pLoad Try.prog 22 x9 h) fun x30 =>
    bnd (pBuildSlice Try.prog 22 1 #[(0, x11)] h) fun x32 =>
    bnd (pAppend Try.prog #[22, 22] x30 x32.1 x32.2) fun x33 =>
    bnd (kSt (pStore Try.prog 22 x9 x33.1 x33.2)) fun u =>
    K .normal (act 35 []) u.2 := (k_reg (by kernel_rfl)).trans (by kernel_rfl)
noncomputable def R19_lrlrrrr (inv : Inv) (k l : Nat) (x4 x6 x7 x9 x18 z0 z1 : Value) (h : AH) : Option (Value × AH) :=
    rdBegin l h fun h =>
    bnd (pLoad Try.prog 22 x9 h) fun x22 =>
    bnd (pLen Try.prog #[22] x22 h) fun x23 =>
    bnd (pBin Try.prog Go.BinOp.neq 3 (Go.Operand.tmp 21) (Go.Operand.tmp 23) z0 x23) fun x24 =>
    bnd (gd (some x24) false h (some (z0, h))) fun x26 =>
    bnd (gd (some x24) false x26.2 (lt (pLoad Try.prog 3 x4 x26.2) x26.2)) fun x27 =>
    bnd (gd (some x24) false x27.2 (lt (pBin Try.prog Go.BinOp.gtr 3 (Go.Operand.tmp 26) (Go.Operand.tmp 27) x26.1 x27.1) x27.2)) fun x28 =>
    bnd (pickV x24 (Go.Value.bool true) x28.1) fun x29 =>
    brV x29
    (bnd (kSt (pStore Try.prog 22 x6 (Go.Value.slice none 0 0) x28.2)) fun u =>
    bnd (kSt (pStore Try.prog 4 x7 (Go.Value.bool false) u.2)) fun u_13 =>
    rdEnd l .ret u_13.2)
    (bnd (pLoad Try.prog 22 x9 x28.2) fun x30 =>
    bnd (pBuildSlice Try.prog 22 1 #[(0, z1)] x28.2) fun x32 =>
    bnd (pAppend Try.prog #[22, 22] x30 x32.1 x32.2) fun x33 =>
    bnd (kSt (pStore Try.prog 22 x9 x33.1 x33.2)) fun u_14 =>
    rdEnd l .normal u_14.2)
theorem R19_lrlrrrr_eq {inv : Inv} {k l : Nat} {pd : Option Code} {x4 x6 x7 x9 x18 z0 z1 : Value} {h : AH} (hl : h.get l = some (.loop .ready pd 19 (act 35 [(4, x4), (6, x6), (7, x7), (9, x9), (18, x18)]).tmps (psOf (cl (cr (cl (cr (cr (cr (cr c19)))))))) (cl (cl (cr (cl (cr (cr (cr (cr c19)))))))) (cr (cl (cr (cl (cr (cr (cr (cr c19)))))))))) : eRound env k inv l #[z0, z1] h = R19_lrlrrrr inv k l x4 x6 x7 x9 x18 z0 z1 h := by
      refine (eRound_k (a := act 35 [(4, x4), (6, x6), (7, x7), (9, x9), (18, x18), (19, z0), (20, z1)]) hl (by kernel_rfl) (by kernel_rfl)).trans ?_
      unfold R19_lrlrrrr
      simp only [k_seq (E := env) (f := 19) (c := (cl (cl (cr (cl (cr (cr (cr (cr c19))))))))) (by kernel_rfl), r19_6, r19_7, k_block (E := env) (f := 19) (c := (cr (cl (cr (cl (cr (cr (cr (cr c19))))))))) (id := 1) (by kernel_rfl), k_seq (E := env) (f := 19) (c := (cl (cr (cl (cr (cl (cr (cr (cr (cr c19)))))))))) (by kernel_rfl), k_seq (E := env) (f := 19) (c := (cl (cl (cr (cl (cr (cl (cr (cr (cr (cr c19))))))))))) (by kernel_rfl), r19_8, b19_rllrlrlrrrr, k_seq (E := env) (f := 19) (c := (cl (cr (cl (cl (cr (cl (cr (cl (cr (cr (cr (cr c19))))))))))))) (by kernel_rfl), r19_9, k_ret (E := env) (f := 19) (c := (cr (cl (cr (cl (cl (cr (cl (cr (cl (cr (cr (cr (cr c19)))))))))))))) (by kernel_rfl), k_skip (E := env) (f := 19) (c := (cr (cr (cl (cl (cr (cl (cr (cl (cr (cr (cr (cr c19))))))))))))) (by kernel_rfl), r19_10, reduceIte, reduceCtorEq, XE.exit.injEq, Nat.reduceEqDiff] <;> kernel_rfl
noncomputable def c20 : Code := codeOf Try.prog 20
theorem r20_0 {β : Type} {inv : Inv} {k : Nat} {x0 : Value} {h : AH} {K : XE → Act → AH → Option β} : kCode env 20 false inv k (cl c20) (act 19 [(0, x0)]) h K =
    K .normal (act 19 [(0, x0)]) h := (k_reg (by kernel_rfl)).trans (by kernel_rfl)
theorem r20_1 {β : Type} {inv : Inv} {k : Nat} {x0 : Value} {h : AH} {K : XE → Act → AH → Option β} : kCode env 20 false inv k (cl (cr c20)) (act 19 [(0, x0)]) h K =
    K .normal (act 19 [(0, x0), (3, (Go.Value.int Go.IntKind.i64 0))]) h := (k_reg (by kernel_rfl)).trans (by kernel_rfl)
theorem r20_2 {β : Type} {inv : Inv} {k : Nat} {x0 x3 : Value} {h : AH} {K : XE → Act → AH → Option β} : kCode env 20 false inv k (cl (cl (cr (cr c20)))) (act 19 [(0, x0), (3, x3)]) h K =
    K .normal (act 19 [(0, x0), (3, x3), (4, (Go.Value.int Go.IntKind.i64 0))]) h := (k_reg (by kernel_rfl)).trans (by kernel_rfl)
theorem r20_3 {β : Type} {inv : Inv} {k : Nat} {x0 x3 x4 : Value} {h : AH} {K : XE → Act → AH → Option β} : kCode env 20 false inv k (cl (cl (cl (cl (cr (cl (cr (cr c20)))))))) (act 19 [(0, x0), (3, x3), (4, x4)]) h K =
    bnd (pLen Try.prog #[22] x0 h) fun x7 =>
    bnd (pBin Try.prog Go.BinOp.lss 3 (Go.Operand.tmp 5) (Go.Operand.tmp 7) x4 x7) fun x8 =>
    K .normal (act 19 [(0, x0), (3, x3), (4, x4), (8, x8)]) h := (k_reg (by kernel_rfl)).trans (by kernel_rfl)
theorem b20_rlllrlrr {β : Type} {inv : Inv} {k : Nat} {x0 x3 x4 x8 : Value} {h : AH} {K : XE → Act → AH → Option β} : kCode env 20 false inv k (cr (cl (cl (cl (cr (cl (cr (cr c20)))))))) (act 19 [(0, x0), (3, x3), (4, x4), (8, x8)]) h K = brV x8 (kCode env 20 false inv k (cl (cr (cl (cl (cl (cr (cl (cr (cr c20))))))))) (act 19 [(0, x0), (3, x3), (4, x4), (8, x8)]) h K) (kCode env 20 false inv k (cr (cr (cl (cl (cl (cr (cl (cr (cr c20))))))))) (act 19 [(0, x0), (3, x3), (4, x4), (8, x8)]) h K) := (k_cond (by kernel_rfl)).trans (by kernel_rfl)
theorem r20_5 {β : Type} {inv : Inv} {k : Nat} {x0 x3 x4 x8 : Value} {h : AH} {K : XE → Act → AH → Option β} : kCode env 20 false inv k (cl (cl (cr (cl (cl (cr (cl (cr (cr c20))))))))) (act 19 [(0, x0), (3, x3), (4, x4), (8, x8)]) h K =
    bnd (pIndexAddr Try.prog 22 x0 x4) fun x14 =>
    bnd (pLoad Try.prog 30 x14 h) fun x15 =>
    bnd (inv (.func 28) #[] #[x15] h) fun x16 =>
    bnd (pMinMax Try.prog true #[x3, x16.1]) fun x17 =>
    K .normal (act 19 [(0, x0), (3, x17), (4, x4)]) x16.2 := (k_reg (by kernel_rfl)).trans (by kernel_rfl)
theorem r20_4 {β : Type} {inv : Inv} {k : Nat} {x0 x3 x4 : Value} {h : AH} {K : XE → Act → AH → Option β} : kCode env 20 false inv k (cr (cr (cl (cl (cr (cl (cr (cr c20)))))))) (act 19 [(0, x0), (3, x3), (4, x4)]) h K =
    bnd (pBin Try.prog Go.BinOp.add 3 (Go.Operand.tmp 9) (Go.Operand.const (Go.Value.int Go.IntKind.i64 1)) x4 (Go.Value.int Go.IntKind.i64 1)) fun x10 =>
    K .normal (act 19 [(0, x0), (3, x3), (4, x10)]) h := (k_reg (by kernel_rfl)).trans (by kernel_rfl)
noncomputable def F20_lrlrr {β : Type} (inv : Inv) (k : Nat) : Nat → Value → Value → Value → AH → (Value → Value → Value → Value → AH → Option β) → Option β
  | 0, _, _, _, _, _ => none
  | j + 1, x0, x3, x4, h, ke0 =>
    bnd (pLen Try.prog #[22] x0 h) fun x7 =>
    bnd (pBin Try.prog Go.BinOp.lss 3 (Go.Operand.tmp 5) (Go.Operand.tmp 7) x4 x7) fun x8 =>
    brV x8
    (bnd (pIndexAddr Try.prog 22 x0 x4) fun x14 =>
    bnd (pLoad Try.prog 30 x14 h) fun x15 =>
    bnd (inv (.func 28) #[] #[x15] h) fun x16 =>
    bnd (pMinMax Try.prog true #[x3, x16.1]) fun x17 =>
    bnd (pBin Try.prog Go.BinOp.add 3 (Go.Operand.tmp 9) (Go.Operand.const (Go.Value.int Go.IntKind.i64 1)) x4 (Go.Value.int Go.IntKind.i64 1)) fun x10 =>
    F20_lrlrr inv k j x0 x17 x10 x16.2 ke0)
    (ke0 x0 x3 x4 x8 h)
theorem F20_lrlrr_j {β : Type} {inv : Inv} {k : Nat} (j : Nat) {x0 x3 x4 : Value} {h : AH} {K : XE → Act → AH → Option β} : kLoop (kCode env 20 false inv k (cl (cl (cr (cl (cr (cr c20))))))) j (act 19 [(0, x0), (3, x3), (4, x4)]) h K = F20_lrlrr inv k j x0 x3 x4 h (fun y0 y3 y4 y8 h => K (.exit 0) (act 19 [(0, y0), (3, y3), (4, y4), (8, y8)]) h) := by
      induction j generalizing x0 x3 x4 h with
      | zero => rfl
      | succ j ih =>
        unfold F20_lrlrr
        simp only [kLoop, k_seq (E := env) (f := 20) (c := (cl (cl (cr (cl (cr (cr c20))))))) (by kernel_rfl), k_seq (E := env) (f := 20) (c := (cl (cl (cl (cr (cl (cr (cr c20)))))))) (by kernel_rfl), r20_3, b20_rlllrlrr, k_skip (E := env) (f := 20) (c := (cl (cr (cl (cl (cl (cr (cl (cr (cr c20)))))))))) (by kernel_rfl), k_seq (E := env) (f := 20) (c := (cr (cl (cl (cr (cl (cr (cr c20)))))))) (by kernel_rfl), k_block (E := env) (f := 20) (c := (cl (cr (cl (cl (cr (cl (cr (cr c20))))))))) (id := 1) (by kernel_rfl), r20_5, r20_4, k_exit (E := env) (f := 20) (c := (cr (cr (cl (cl (cl (cr (cl (cr (cr c20)))))))))) (id := 0) (by kernel_rfl), ih, reduceIte, reduceCtorEq, XE.exit.injEq, Nat.reduceEqDiff] <;> kernel_rfl
theorem F20_lrlrr_eq {β : Type} {inv : Inv} {k : Nat} {x0 x3 x4 : Value} {h : AH} {K : XE → Act → AH → Option β} : kCode env 20 false inv k (cl (cr (cl (cr (cr c20))))) (act 19 [(0, x0), (3, x3), (4, x4)]) h K = F20_lrlrr inv k k x0 x3 x4 h (fun y0 y3 y4 y8 h => K (.exit 0) (act 19 [(0, y0), (3, y3), (4, y4), (8, y8)]) h) := (k_loop (by kernel_rfl)).trans (F20_lrlrr_j k)
theorem r20_6 {β : Type} {inv : Inv} {k : Nat} {x0 x3 x4 x8 : Value} {h : AH} {K : XE → Act → AH → Option β} : kCode env 20 false inv k (cl (cr (cr (cr c20)))) (act 19 [(0, x0), (3, x3), (4, x4), (8, x8)]) h K =
    K .normal (act 19 [(2, x3)]) h := (k_reg (by kernel_rfl)).trans (by kernel_rfl)
theorem res20_0 {x2 : Value} {h : AH} : resOfFn env.P 20 .ret (act 19 [(2, x2)]) h = some (x2, h) := (resOfFn_k (by kernel_rfl) (by kernel_rfl)).trans (by kernel_rfl)
/-- shadowbook/shadowbookref05.Width -/
noncomputable def F20 (inv : Inv) (k : Nat) (x0 : Value) (h : AH) : Option (Value × AH) :=
    F20_lrlrr inv k k x0 (Go.Value.int Go.IntKind.i64 0) (Go.Value.int Go.IntKind.i64 0) h
    (fun y0 y3 y4 y8 h =>
    some (y3, h))
theorem F20_eq {inv : Inv} {k : Nat} {x0 : Value} {h : AH} : eFun env k inv 20 #[x0] h = F20 inv k x0 h := by
      refine (eFun_k2 (by kernel_rfl) (by kernel_rfl) (by kernel_rfl) (a := act 19 [(0, x0)]) (c := c20) (by kernel_rfl) (by kernel_rfl)).trans ?_
      unfold F20
      simp only [k_seq (E := env) (f := 20) (c := c20) (by kernel_rfl), r20_0, k_seq (E := env) (f := 20) (c := (cr c20)) (by kernel_rfl), r20_1, k_seq (E := env) (f := 20) (c := (cr (cr c20))) (by kernel_rfl), k_seq (E := env) (f := 20) (c := (cl (cr (cr c20)))) (by kernel_rfl), r20_2, k_block (E := env) (f := 20) (c := (cr (cl (cr (cr c20))))) (id := 0) (by kernel_rfl), F20_lrlrr_eq, k_seq (E := env) (f := 20) (c := (cr (cr (cr c20)))) (by kernel_rfl), r20_6, k_ret (E := env) (f := 20) (c := (cr (cr (cr (cr c20))))) (by kernel_rfl), res20_0, reduceIte, reduceCtorEq, XE.exit.injEq, Nat.reduceEqDiff] <;> kernel_rfl
theorem F20_call {k : Nat} {x0 : Value} {h : AH} : eInv env (k + 1) (.func 20) #[] #[x0] h = F20 (eInv env k) k x0 h := (inv_func (by kernel_rfl)).trans F20_eq
noncomputable def c21 : Code := codeOf Try.prog 21
theorem r21_0 {β : Type} {inv : Inv} {k : Nat} {x0 x1 : Value} {h : AH} {K : XE → Act → AH → Option β} : kCode env 21 false inv k (cl c21) (act 14 [(0, x0), (1, x1)]) h K =
    K .normal (act 14 [(0, x0), (1, x1)]) h := (k_reg (by kernel_rfl)).trans (by kernel_rfl)
theorem r21_1 {β : Type} {inv : Inv} {k : Nat} {x0 x1 : Value} {h : AH} {K : XE → Act → AH → Option β} : kCode env 21 false inv k (cl (cl (cr c21))) (act 14 [(0, x0), (1, x1)]) h K =
    bnd (inv (.func 27) #[] #[x0, x1] h) fun x7 =>
    bnd (pUn Try.prog Go.UnOp.not x7.1) fun x8 =>
    K .normal (act 14 [(0, x0), (1, x1), (8, x8)]) x7.2 := (k_reg (by kernel_rfl)).trans (by kernel_rfl)
theorem b21_rlr {β : Type} {inv : Inv} {k : Nat} {x0 x1 x8 : Value} {h : AH} {K : XE → Act → AH → Option β} : kCode env 21 false inv k (cr (cl (cr c21))) (act 14 [(0, x0), (1, x1), (8, x8)]) h K = brV x8 (kCode env 21 false inv k (cl (cr (cl (cr c21)))) (act 14 [(0, x0), (1, x1), (8, x8)]) h K) (kCode env 21 false inv k (cr (cr (cl (cr c21)))) (act 14 [(0, x0), (1, x1), (8, x8)]) h K) := (k_cond (by kernel_rfl)).trans (by kernel_rfl)
theorem r21_2 {β : Type} {inv : Inv} {k : Nat} {x0 x1 x8 : Value} {h : AH} {K : XE → Act → AH → Option β} : kCode env 21 false inv k (cl (cl (cr (cl (cr c21))))) (act 14 [(0, x0), (1, x1), (8, x8)]) h K =
    K .normal (act 14 [(4, (Go.Value.int Go.IntKind.i64 0))]) h := (k_reg (by kernel_rfl)).trans (by kernel_rfl)
theorem res21_0 {x4 : Value} {h : AH} : resOfFn env.P 21 .ret (act 14 [(4, x4)]) h = some (x4, h) := (resOfFn_k (by kernel_rfl) (by kernel_rfl)).trans (by kernel_rfl)
theorem r21_3 {β : Type} {inv : Inv} {k : Nat} {x0 x1 x8 : Value} {h : AH} {K : XE → Act → AH → Option β} : kCode env 21 false inv k (cl (cr (cr c21))) (act 14 [(0, x0), (1, x1), (8, x8)]) h K =
    bnd (pBin Try.prog Go.BinOp.mul 3 (Go.Operand.tmp 9) (Go.Operand.tmp 10) x0 x1) fun x11 =>
    bnd (pBin Try.prog Go.BinOp.add 3 (Go.Operand.tmp 11) (Go.Operand.const (Go.Value.int Go.IntKind.i64 7)) x11 (Go.Value.int Go.IntKind.i64 7)) fun x12 =>
    bnd (pBin Try.prog Go.BinOp.quo 3 (Go.Operand.tmp 12) (Go.Operand.const (Go.Value.int Go.IntKind.i64 8)) x12 (Go.Value.int Go.IntKind.i64 8)) fun x13 =>
    K .normal (act 14 [(4, x13)]) h := (k_reg (by kernel_rfl)).trans (by kernel_rfl)
/-- shadowbook/shadowbookref05.Size -/
noncomputable def F21 (inv : Inv) (k : Nat) (x0 x1 : Value) (h : AH) : Option (Value × AH) :=
    bnd (inv (.func 27) #[] #[x0, x1] h) fun x7 =>
    bnd (pUn Try.prog Go.UnOp.not x7.1) fun x8 =>
    brV x8
    (some ((Go.Value.int Go.IntKind.i64 0), x7.2))
    (bnd (pBin Try.prog Go.BinOp.mul 3 (Go.Operand.tmp 9) (Go.Operand.tmp 10) x0 x1) fun x11 =>
    bnd (pBin Try.prog Go.BinOp.add 3 (Go.Operand.tmp 11) (Go.Operand.const (Go.Value.int Go.IntKind.i64 7)) x11 (Go.Value.int Go.IntKind.i64 7)) fun x12 =>
    bnd (pBin Try.prog Go.BinOp.quo 3 (Go.Operand.tmp 12) (Go.Operand.const (Go.Value.int Go.IntKind.i64 8)) x12 (Go.Value.int Go.IntKind.i64 8)) fun x13 =>
    some (x13, x7.2))
theorem F21_eq {inv : Inv} {k : Nat} {x0 x1 : Value} {h : AH} : eFun env k inv 21 #[x0, x1] h = F21 inv k x0 x1 h := by
      refine (eFun_k2 (by kernel_rfl) (by kernel_rfl) (by kernel_rfl) (a := act 14 [(0, x0), (1, x1)]) (c := c21) (by kernel_rfl) (by kernel_rfl)).trans ?_
      unfold F21
      simp only [k_seq (E := env) (f := 21) (c := c21) (by kernel_rfl), r21_0, k_seq (E := env) (f := 21) (c := (cr c21)) (by kernel_rfl), k_seq (E := env) (f := 21) (c := (cl (cr c21))) (by kernel_rfl), r21_1, b21_rlr, k_seq (E := env) (f := 21) (c := (cl (cr (cl (cr c21))))) (by kernel_rfl), r21_2, k_ret (E := env) (f := 21) (c := (cr (cl (cr (cl (cr c21)))))) (by kernel_rfl), res21_0, k_skip (E := env) (f := 21) (c := (cr (cr (cl (cr c21))))) (by kernel_rfl), k_seq (E := env) (f := 21) (c := (cr (cr c21))) (by kernel_rfl), r21_3, k_ret (E := env) (f := 21) (c := (cr (cr (cr c21)))) (by kernel_rfl), reduceIte, reduceCtorEq, XE.exit.injEq, Nat.reduceEqDiff] <;> kernel_rfl
theorem F21_call {k : Nat} {x0 x1 : Value} {h : AH} : eInv env (k + 1) (.func 21) #[] #[x0, x1] h = F21 (eInv env k) k x0 x1 h := (inv_func (by kernel_rfl)).trans F21_eq
noncomputable def c22 : Code := codeOf Try.prog 22
theorem r22_0 {β : Type} {inv : Inv} {k : Nat} {x0 x1 x2 : Value} {h : AH} {K : XE → Act → AH → Option β} : kCode env 22 false inv k (cl c22) (act 8 [(0, x0), (1, x1), (2, x2)]) h K =
    bnd (pBox Try.prog 25 x0 h) fun x3 =>
    bnd (pBox Try.prog 3 x1 x3.2) fun x4 =>
    bnd (pBox Try.prog 3 x2 x4.2) fun x5 =>
    K .normal (act 8 [(3, x3.1), (4, x4.1), (5, x5.1)]) x5.2 := (k_reg (by kernel_rfl)).trans (by kernel_rfl)
theorem r22_1 {β : Type} {inv : Inv} {k : Nat} {x3 x4 x5 : Value} {h : AH} {K : XE → Act → AH → Option β} : kCode env 22 false inv k (cl (cr c22)) (act 8 [(3, x3), (4, x4), (5, x5)]) h K =
    bnd (pMakeFunc (Go.Fn.func 29) #[] #[x3, x4, x5]) fun x7 =>
    K .normal (act 8 [(6, x7)]) h := (k_reg (by kernel_rfl)).trans (by kernel_rfl)
theorem res22_0 {x6 : Value} {h : AH} : resOfFn env.P 22 .ret (act 8 [(6, x6)]) h = some (x6, h) := (resOfFn_k (by kernel_rfl) (by kernel_rfl)).trans (by kernel_rfl)
/-- shadowbook/packs.Each -/
noncomputable def F22 (inv : Inv) (k : Nat) (x0 x1 x2 : Value) (h : AH) : Option (Value × AH) :=
    bnd (pBox Try.prog 25 x0 h) fun x3 =>
    bnd (pBox Try.prog 3 x1 x3.2) fun x4 =>
    bnd (pBox Try.prog 3 x2 x4.2) fun x5 =>
    bnd (pMakeFunc (Go.Fn.func 29) #[] #[x3.1, x4.1, x5.1]) fun x7 =>
    some (x7, x5.2)
theorem F22_eq {inv : Inv} {k : Nat} {x0 x1 x2 : Value} {h : AH} : eFun env k inv 22 #[x0, x1, x2] h = F22 inv k x0 x1 x2 h := by
      refine (eFun_k2 (by kernel_rfl) (by kernel_rfl) (by kernel_rfl) (a := act 8 [(0, x0), (1, x1), (2, x2)]) (c := c22) (by kernel_rfl) (by kernel_rfl)).trans ?_
      unfold F22
      simp only [k_seq (E := env) (f := 22) (c := c22) (by kernel_rfl), r22_0, k_seq (E := env) (f := 22) (c := (cr c22)) (by kernel_rfl), r22_1, k_ret (E := env) (f := 22) (c := (cr (cr c22))) (by kernel_rfl), res22_0, reduceIte, reduceCtorEq, XE.exit.injEq, Nat.reduceEqDiff] <;> kernel_rfl
theorem F22_call {k : Nat} {x0 x1 x2 : Value} {h : AH} : eInv env (k + 1) (.func 22) #[] #[x0, x1, x2] h = F22 (eInv env k) k x0 x1 x2 h := (inv_func (by kernel_rfl)).trans F22_eq
noncomputable def c23 : Code := codeOf Try.prog 23
theorem r23_0 {β : Type} {inv : Inv} {k : Nat} {x0 x1 : Value} {h : AH} {K : XE → Act → AH → Option β} : kCode env 23 false inv k (cl c23) (act 19 [(0, x0), (1, x1)]) h K =
    K .normal (act 19 [(0, x0), (1, x1)]) h := (k_reg (by kernel_rfl)).trans (by kernel_rfl)
theorem r23_1 {β : Type} {inv : Inv} {k : Nat} {x0 x1 : Value} {h : AH} {K : XE → Act → AH → Option β} : kCode env 23 false inv k (cl (cr c23)) (act 19 [(0, x0), (1, x1)]) h K =
    bnd (pBin Try.prog Go.BinOp.geq 3 (Go.Operand.tmp 5) (Go.Operand.const (Go.Value.int Go.IntKind.i64 0)) x0 (Go.Value.int Go.IntKind.i64 0)) fun x6 =>
    bnd (gd (some x6) true h (some (x0, h))) fun x8 =>
    bnd (gd (some x6) true x8.2 (lt (pBin Try.prog Go.BinOp.leq 3 (Go.Operand.tmp 8) (Go.Operand.const (Go.Value.int Go.IntKind.i64 65536)) x8.1 (Go.Value.int Go.IntKind.i64 65536)) x8.2)) fun x9 =>
    bnd (pickV x6 x9.1 (Go.Value.bool false)) fun x10 =>
    bnd (gd (some x10) true x9.2 (some (x1, x9.2))) fun x12 =>
    bnd (gd (some x10) true x12.2 (lt (pBin Try.prog Go.BinOp.geq 3 (Go.Operand.tmp 12) (Go.Operand.const (Go.Value.int Go.IntKind.i64 0)) x12.1 (Go.Value.int Go.IntKind.i64 0)) x12.2)) fun x13 =>
    bnd (pickV x10 x13.1 (Go.Value.bool false)) fun x14 =>
    bnd (gd (some x14) true x13.2 (some (x1, x13.2))) fun x16 =>
    bnd (gd (some x14) true x16.2 (lt (pBin Try.prog Go.BinOp.leq 3 (Go.Operand.tmp 16) (Go.Operand.const (Go.Value.int Go.IntKind.i64 64)) x16.1 (Go.Value.int Go.IntKind.i64 64)) x16.2)) fun x17 =>
    bnd (pickV x14 x17.1 (Go.Value.bool false)) fun x18 =>
    K .normal (act 19 [(4, x18)]) x17.2 := (k_reg (by kernel_rfl)).trans (by kernel_rfl)
theorem res23_0 {x4 : Value} {h : AH} : resOfFn env.P 23 .ret (act 19 [(4, x4)]) h = some (x4, h) := (resOfFn_k (by kernel_rfl) (by kernel_rfl)).trans (by kernel_rfl)
/-- shadowbook/packs.may -/
noncomputable def F23 (inv : Inv) (k : Nat) (x0 x1 : Value) (h : AH) : Option (Value × AH) :=
    bnd (pBin Try.prog Go.BinOp.geq 3 (Go.Operand.tmp 5) (Go.Operand.const (Go.Value.int Go.IntKind.i64 0)) x0 (Go.Value.int Go.IntKind.i64 0)) fun x6 =>
    bnd (gd (some x6) true h (some (x0, h))) fun x8 =>
    bnd (gd (some x6) true x8.2 (lt (pBin Try.prog Go.BinOp.leq 3 (Go.Operand.tmp 8) (Go.Operand.const (Go.Value.int Go.IntKind.i64 65536)) x8.1 (Go.Value.int Go.IntKind.i64 65536)) x8.2)) fun x9 =>
    bnd (pickV x6 x9.1 (Go.Value.bool false)) fun x10 =>
    bnd (gd (some x10) true x9.2 (some (x1, x9.2))) fun x12 =>
    bnd (gd (some x10) true x12.2 (lt (pBin Try.prog Go.BinOp.geq 3 (Go.Operand.tmp 12) (Go.Operand.const (Go.Value.int Go.IntKind.i64 0)) x12.1 (Go.Value.int Go.IntKind.i64 0)) x12.2)) fun x13 =>
    bnd (pickV x10 x13.1 (Go.Value.bool false)) fun x14 =>
    bnd (gd (some x14) true x13.2 (some (x1, x13.2))) fun x16 =>
    bnd (gd (some x14) true x16.2 (lt (pBin Try.prog Go.BinOp.leq 3 (Go.Operand.tmp 16) (Go.Operand.const (Go.Value.int Go.IntKind.i64 64)) x16.1 (Go.Value.int Go.IntKind.i64 64)) x16.2)) fun x17 =>
    bnd (pickV x14 x17.1 (Go.Value.bool false)) fun x18 =>
    some (x18, x17.2)
theorem F23_eq {inv : Inv} {k : Nat} {x0 x1 : Value} {h : AH} : eFun env k inv 23 #[x0, x1] h = F23 inv k x0 x1 h := by
      refine (eFun_k2 (by kernel_rfl) (by kernel_rfl) (by kernel_rfl) (a := act 19 [(0, x0), (1, x1)]) (c := c23) (by kernel_rfl) (by kernel_rfl)).trans ?_
      unfold F23
      simp only [k_seq (E := env) (f := 23) (c := c23) (by kernel_rfl), r23_0, k_seq (E := env) (f := 23) (c := (cr c23)) (by kernel_rfl), r23_1, k_ret (E := env) (f := 23) (c := (cr (cr c23))) (by kernel_rfl), res23_0, reduceIte, reduceCtorEq, XE.exit.injEq, Nat.reduceEqDiff] <;> kernel_rfl
theorem F23_call {k : Nat} {x0 x1 : Value} {h : AH} : eInv env (k + 1) (.func 23) #[] #[x0, x1] h = F23 (eInv env k) k x0 x1 h := (inv_func (by kernel_rfl)).trans F23_eq
noncomputable def c24 : Code := codeOf Try.prog 24
theorem r24_0 {β : Type} {inv : Inv} {k : Nat} {x0 x1 x2 x3 : Value} {h : AH} {K : XE → Act → AH → Option β} : kCode env 24 false inv k (cl c24) (act 18 [(0, x0), (1, x1), (2, x2), (3, x3)]) h K =
    bnd (pLoad Try.prog 5 x1 h) fun x5 =>
    bnd (pLoad Try.prog 3 x2 h) fun x7 =>
    bnd (pBin Try.prog Go.BinOp.shl 5 (Go.Operand.tmp 6) (Go.Operand.tmp 7) x0 x7) fun x8 =>
    bnd (pBin Try.prog Go.BinOp.or 5 (Go.Operand.tmp 5) (Go.Operand.tmp 8) x5 x8) fun x9 =>
    bnd (kSt (pStore Try.prog 5 x1 x9 h)) fun u =>
    K .normal (act 18 [(1, x1), (2, x2), (3, x3)]) u.2 := (k_draw (by kernel_rfl)).trans (by kernel_rfl)
theorem r24_1 {β : Type} {inv : Inv} {k : Nat} {x1 x2 x3 : Value} {h : AH} {K : XE → Act → AH → Option β} : kCode env 24 false inv k (cl (cr c24)) (act 18 [(1, x1), (2, x2), (3, x3)]) h K =
    bnd (pLoad Try.prog 3 x2 h) fun x10 =>
    bnd (pBin Try.prog Go.BinOp.add 3 (Go.Operand.tmp 10) (Go.Operand.const (Go.Value.int Go.IntKind.i64 1)) x10 (Go.Value.int Go.IntKind.i64 1)) fun x11 =>
    bnd (kSt (pStore Try.prog 3 x2 x11 h)) fun u =>
    K .normal (act 18 [(1, x1), (2, x2), (3, x3)]) u.2 := (k_reg (by kernel_rfl)).trans (by kernel_rfl)
theorem r24_2 {β : Type} {inv : Inv} {k : Nat} {x1 x2 x3 : Value} {h : AH} {K : XE → Act → AH → Option β} : kCode env 24 false inv k (cl (cr (cr c24))) (act 18 [(1, x1), (2, x2), (3, x3)]) h K =
    bnd (pLoad Try.prog 3 x2 h) fun x12 =>
    bnd (pBin Try.prog Go.BinOp.eql 3 (Go.Operand.tmp 12) (Go.Operand.const (Go.Value.int Go.IntKind.i64 8)) x12 (Go.Value.int Go.IntKind.i64 8)) fun x13 =>
    K .normal (act 18 [(1, x1), (2, x2), (3, x3), (13, x13)]) h := (k_reg (by kernel_rfl)).trans (by kernel_rfl)
theorem b24_rrr {β : Type} {inv : Inv} {k : Nat} {x1 x2 x3 x13 : Value} {h : AH} {K : XE → Act → AH → Option β} : kCode env 24 false inv k (cr (cr (cr c24))) (act 18 [(1, x1), (2, x2), (3, x3), (13, x13)]) h K = brV x13 (kCode env 24 false inv k (cl (cr (cr (cr c24)))) (act 18 [(1, x1), (2, x2), (3, x3), (13, x13)]) h K) (kCode env 24 false inv k (cr (cr (cr (cr c24)))) (act 18 [(1, x1), (2, x2), (3, x3), (13, x13)]) h K) := (k_cond (by kernel_rfl)).trans (by kernel_rfl)
theorem r24_3 {β : Type} {inv : Inv} {k : Nat} {x1 x2 x3 x13 : Value} {h : AH} {K : XE → Act → AH → Option β} : kCode env 24 false inv k (cl (cl (cr (cr (cr c24))))) (act 18 [(1, x1), (2, x2), (3, x3), (13, x13)]) h K =
    bnd (pLoad Try.prog 25 x3 h) fun x14 =>
    bnd (pLoad Try.prog 5 x1 h) fun x15 =>
    bnd (pBuildSlice Try.prog 25 1 #[(0, x15)] h) fun x16 =>
    bnd (pAppend Try.prog #[25, 25] x14 x16.1 x16.2) fun x17 =>
    bnd (kSt (pStore Try.prog 25 x3 x17.1 x17.2)) fun u =>
    K .normal (act 18 [(1, x1), (2, x2)]) u.2 := (k_reg (by kernel_rfl)).trans (by kernel_rfl)
theorem r24_4 {β : Type} {inv : Inv} {k : Nat} {x1 x2 : Value} {h : AH} {K : XE → Act → AH → Option β} : kCode env 24 false inv k (cr (cl (cr (cr (cr c24))))) (act 18 [(1, x1), (2, x2)]) h K =
    bnd (kSt (pStore Try.prog 5 x1 (Go.Value.int Go.IntKind.u8 0) h)) fun u =>
    bnd (kSt (pStore Try.prog 3 x2 (Go.Value.int Go.IntKind.i64 0) u.2)) fun u_3 =>
    K .normal (act 18 []) u_3.2 := (k_reg (by kernel_rfl)).trans (by kernel_rfl)
theorem res24_0 {h : AH} : resOfFn env.P 24 .normal (act 18 []) h = some (.tuple #[], h) := (resOfFn_k (by kernel_rfl) (by kernel_rfl)).trans (by kernel_rfl)
theorem res24_1 {x1 x2 x3 x13 : Value} {h : AH} : resOfFn env.P 24 .normal (act 18 [(1, x1), (2, x2), (3, x3), (13, x13)]) h = some (.tuple #[], h) := (resOfFn_k (by kernel_rfl) (by kernel_rfl)).trans (by kernel_rfl)
/-- shadowbook/packs.Put$1 -/
noncomputable def F24 (inv : Inv) (k : Nat) (x0 x1 x2 x3 : Value) (h : AH) : Option (Value × AH) :=
    bnd (pLoad Try.prog 5 x1 h) fun x5 =>
    bnd (pLoad Try.prog 3 x2 h) fun x7 =>
    bnd (pBin Try.prog Go.BinOp.shl 5 (Go.Operand.tmp 6) (Go.Operand.tmp 7) x0 x7) fun x8 =>
    bnd (pBin Try.prog Go.BinOp.or 5 (Go.Operand.tmp 5) (Go.Operand.tmp 8) x5 x8) fun x9 =>
    bnd (kSt (pStore Try.prog 5 x1 x9 h)) fun u =>
    bnd (pLoad Try.prog 3 x2 u.2) fun x10 =>
    bnd (pBin Try.prog Go.BinOp.add 3 (Go.Operand.tmp 10) (Go.Operand.const (Go.Value.int Go.IntKind.i64 1)) x10 (Go.Value.int Go.IntKind.i64 1)) fun x11 =>
    bnd (kSt (pStore Try.prog 3 x2 x11 u.2)) fun u_1 =>
    bnd (pLoad Try.prog 3 x2 u_1.2) fun x12 =>
    bnd (pBin Try.prog Go.BinOp.eql 3 (Go.Operand.tmp 12) (Go.Operand.const (Go.Value.int Go.IntKind.i64 8)) x12 (Go.Value.int Go.IntKind.i64 8)) fun x13 =>
    brV x13
    (bnd (pLoad Try.prog 25 x3 u_1.2) fun x14 =>
    bnd (pLoad Try.prog 5 x1 u_1.2) fun x15 =>
    bnd (pBuildSlice Try.prog 25 1 #[(0, x15)] u_1.2) fun x16 =>
    bnd (pAppend Try.prog #[25, 25] x14 x16.1 x16.2) fun x17 =>
    bnd (kSt (pStore Try.prog 25 x3 x17.1 x17.2)) fun u_2 =>
    bnd (kSt (pStore Try.prog 5 x1 (Go.Value.int Go.IntKind.u8 0) u_2.2)) fun u_4 =>
    bnd (kSt (pStore Try.prog 3 x2 (Go.Value.int Go.IntKind.i64 0) u_4.2)) fun u_5 =>
    some (.tuple #[], u_5.2))
    (some (.tuple #[], u_1.2))
theorem F24_eq {inv : Inv} {k : Nat} {x0 x1 x2 x3 : Value} {h : AH} : eFun env k inv 24 #[x0, x1, x2, x3] h = F24 inv k x0 x1 x2 x3 h := by
      refine (eFun_k2 (by kernel_rfl) (by kernel_rfl) (by kernel_rfl) (a := act 18 [(0, x0), (1, x1), (2, x2), (3, x3)]) (c := c24) (by kernel_rfl) (by kernel_rfl)).trans ?_
      unfold F24
      simp only [k_seq (E := env) (f := 24) (c := c24) (by kernel_rfl), r24_0, k_seq (E := env) (f := 24) (c := (cr c24)) (by kernel_rfl), r24_1, k_seq (E := env) (f := 24) (c := (cr (cr c24))) (by kernel_rfl), r24_2, b24_rrr, k_seq (E := env) (f := 24) (c := (cl (cr (cr (cr c24))))) (by kernel_rfl), r24_3, r24_4, res24_0, k_skip (E := env) (f := 24) (c := (cr (cr (cr (cr c24))))) (by kernel_rfl), res24_1, reduceIte, reduceCtorEq, XE.exit.injEq, Nat.reduceEqDiff] <;> kernel_rfl
theorem F24_call {k : Nat} {x0 x1 x2 x3 : Value} {h : AH} : eInv env (k + 1) (.func 24) #[] #[x0, x1, x2, x3] h = F24 (eInv env k) k x0 x1 x2 x3 h := (inv_func (by kernel_rfl)).trans F24_eq
noncomputable def c25 : Code := codeOf Try.prog 25
theorem r25_0 {β : Type} {inv : Inv} {k : Nat} {x0 x1 x2 : Value} {h : AH} {K : XE → Act → AH → Option β} : kCode env 25 false inv k (cl c25) (act 33 [(0, x0), (1, x1), (2, x2)]) h K =
    K .normal (act 33 [(0, x0), (1, x1), (2, x2)]) h := (k_reg (by kernel_rfl)).trans (by kernel_rfl)
theorem r25_1 {β : Type} {inv : Inv} {k : Nat} {x0 x1 x2 : Value} {h : AH} {K : XE → Act → AH → Option β} : kCode env 25 false inv k (cl (cl (cl (cr c25)))) (act 33 [(0, x0), (1, x1), (2, x2)]) h K =
    bnd (inv (.func 23) #[] #[x1, x2] h) fun x10 =>
    bnd (pUn Try.prog Go.UnOp.not x10.1) fun x11 =>
    K .normal (act 33 [(0, x0), (1, x1), (2, x2), (7, x11)]) x10.2 := (k_reg (by kernel_rfl)).trans (by kernel_rfl)
theorem b25_rllr {β : Type} {inv : Inv} {k : Nat} {x0 x1 x2 x7 : Value} {h : AH} {K : XE → Act → AH → Option β} : kCode env 25 false inv k (cr (cl (cl (cr c25)))) (act 33 [(0, x0), (1, x1), (2, x2), (7, x7)]) h K = brV x7 (kCode env 25 false inv k (cl (cr (cl (cl (cr c25))))) (act 33 [(0, x0), (1, x1), (2, x2), (7, x7)]) h K) (kCode env 25 false inv k (cr (cr (cl (cl (cr c25))))) (act 33 [(0, x0), (1, x1), (2, x2), (7, x7)]) h K) := (k_cond (by kernel_rfl)).trans (by kernel_rfl)
theorem r25_2 {β : Type} {inv : Inv} {k : Nat} {x0 x1 x2 x7 : Value} {h : AH} {K : XE → Act → AH → Option β} : kCode env 25 false inv k (cl (cl (cr (cl (cl (cr c25)))))) (act 33 [(0, x0), (1, x1), (2, x2), (7, x7)]) h K =
    K .normal (act 33 [(6, (Go.Value.int Go.IntKind.i64 2))]) h := (k_reg (by kernel_rfl)).trans (by kernel_rfl)
theorem res25_0 {x6 : Value} {h : AH} : resOfFn env.P 25 .ret (act 33 [(6, x6)]) h = some (x6, h) := (resOfFn_k (by kernel_rfl) (by kernel_rfl)).trans (by kernel_rfl)
theorem r25_3 {β : Type} {inv : Inv} {k : Nat} {x0 x1 x2 x7 : Value} {h : AH} {K : XE → Act → AH → Option β} : kCode env 25 false inv k (cl (cr (cr (cl (cl (cr c25)))))) (act 33 [(0, x0), (1, x1), (2, x2), (7, x7)]) h K =
    bnd (pLen Try.prog #[25] x0 h) fun x14 =>
    bnd (inv (.func 16) #[] #[x1, x2] h) fun x17 =>
    bnd (pBin Try.prog Go.BinOp.neq 3 (Go.Operand.tmp 14) (Go.Operand.tmp 17) x14 x17.1) fun x18 =>
    K .normal (act 33 [(0, x0), (1, x1), (2, x2), (12, x18)]) x17.2 := (k_reg (by kernel_rfl)).trans (by kernel_rfl)
theorem b25_rrrllr {β : Type} {inv : Inv} {k : Nat} {x0 x1 x2 x12 : Value} {h : AH} {K : XE → Act → AH → Option β} : kCode env 25 false inv k (cr (cr (cr (cl (cl (cr c25)))))) (act 33 [(0, x0), (1, x1), (2, x2), (12, x12)]) h K = brV x12 (kCode env 25 false inv k (cl (cr (cr (cr (cl (cl (cr c25))))))) (act 33 [(0, x0), (1, x1), (2, x2), (12, x12)]) h K) (kCode env 25 false inv k (cr (cr (cr (cr (cl (cl (cr c25))))))) (act 33 [(0, x0), (1, x1), (2, x2), (12, x12)]) h K) := (k_cond (by kernel_rfl)).trans (by kernel_rfl)
theorem r25_4 {β : Type} {inv : Inv} {k : Nat} {x0 x1 x2 x12 : Value} {h : AH} {K : XE → Act → AH → Option β} : kCode env 25 false inv k (cl (cl (cr (cr (cr (cl (cl (cr c25)))))))) (act 33 [(0, x0), (1, x1), (2, x2), (12, x12)]) h K =
    K .normal (act 33 [(6, (Go.Value.int Go.IntKind.i64 4))]) h := (k_reg (by kernel_rfl)).trans (by kernel_rfl)
theorem r25_5 {β : Type} {inv : Inv} {k : Nat} {x0 x1 x2 x12 : Value} {h : AH} {K : XE → Act → AH → Option β} : kCode env 25 false inv k (cl (cr (cr (cr (cr (cl (cl (cr c25)))))))) (act 33 [(0, x0), (1, x1), (2, x2), (12, x12)]) h K =
    bnd (pBin Try.prog Go.BinOp.mul 3 (Go.Operand.tmp 21) (Go.Operand.tmp 22) x1 x2) fun x23 =>
    bnd (pLen Try.prog #[25] x0 h) fun x25 =>
    bnd (pBin Try.prog Go.BinOp.mul 3 (Go.Operand.const (Go.Value.int Go.IntKind.i64 8)) (Go.Operand.tmp 25) (Go.Value.int Go.IntKind.i64 8) x25) fun x26 =>
    bnd (pBin Try.prog Go.BinOp.mul 3 (Go.Operand.tmp 27) (Go.Operand.tmp 28) x1 x2) fun x29 =>
    bnd (pBin Try.prog Go.BinOp.sub 3 (Go.Operand.tmp 26) (Go.Operand.tmp 29) x26 x29) fun x30 =>
    bnd (inv (.func 30) #[] #[x0, x23, x30] h) fun x31 =>
    bnd (pBin Try.prog Go.BinOp.neq 30 (Go.Operand.tmp 31) (Go.Operand.const (Go.Value.int Go.IntKind.u64 0)) x31.1 (Go.Value.int Go.IntKind.u64 0)) fun x32 =>
    K .normal (act 33 [(19, x32)]) x31.2 := (k_reg (by kernel_rfl)).trans (by kernel_rfl)
theorem b25_rrrrrllr {β : Type} {inv : Inv} {k : Nat} {x19 : Value} {h : AH} {K : XE → Act → AH → Option β} : kCode env 25 false inv k (cr (cr (cr (cr (cr (cl (cl (cr c25)))))))) (act 33 [(19, x19)]) h K = brV x19 (kCode env 25 false inv k (cl (cr (cr (cr (cr (cr (cl (cl (cr c25))))))))) (act 33 [(19, x19)]) h K) (kCode env 25 false inv k (cr (cr (cr (cr (cr (cr (cl (cl (cr c25))))))))) (act 33 [(19, x19)]) h K) := (k_cond (by kernel_rfl)).trans (by kernel_rfl)
theorem r25_6 {β : Type} {inv : Inv} {k : Nat} {x19 : Value} {h : AH} {K : XE → Act → AH → Option β} : kCode env 25 false inv k (cl (cl (cr (cr (cr (cr (cr (cl (cl (cr c25)))))))))) (act 33 [(19, x19)]) h K =
    K .normal (act 33 [(6, (Go.Value.int Go.IntKind.i64 4))]) h := (k_reg (by kernel_rfl)).trans (by kernel_rfl)
theorem r25_7 {β : Type} {inv : Inv} {k : Nat} {x19 : Value} {h : AH} {K : XE → Act → AH → Option β} : kCode env 25 false inv k (cl (cr (cr c25))) (act 33 [(19, x19)]) h K =
    K .normal (act 33 [(6, (Go.Value.int Go.IntKind.i64 0))]) h := (k_reg (by kernel_rfl)).trans (by kernel_rfl)
/-- shadowbook/packs.check -/
noncomputable def F25 (inv : Inv) (k : Nat) (x0 x1 x2 : Value) (h : AH) : Option (Value × AH) :=
    bnd (inv (.func 23) #[] #[x1, x2] h) fun x10 =>
    bnd (pUn Try.prog Go.UnOp.not x10.1) fun x11 =>
    brV x11
    (some ((Go.Value.int Go.IntKind.i64 2), x10.2))
    (bnd (pLen Try.prog #[25] x0 x10.2) fun x14 =>
    bnd (inv (.func 16) #[] #[x1, x2] x10.2) fun x17 =>
    bnd (pBin Try.prog Go.BinOp.neq 3 (Go.Operand.tmp 14) (Go.Operand.tmp 17) x14 x17.1) fun x18 =>
    brV x18
    (some ((Go.Value.int Go.IntKind.i64 4), x17.2))
    (bnd (pBin Try.prog Go.BinOp.mul 3 (Go.Operand.tmp 21) (Go.Operand.tmp 22) x1 x2) fun x23 =>
    bnd (pLen Try.prog #[25] x0 x17.2) fun x25 =>
    bnd (pBin Try.prog Go.BinOp.mul 3 (Go.Operand.const (Go.Value.int Go.IntKind.i64 8)) (Go.Operand.tmp 25) (Go.Value.int Go.IntKind.i64 8) x25) fun x26 =>
    bnd (pBin Try.prog Go.BinOp.mul 3 (Go.Operand.tmp 27) (Go.Operand.tmp 28) x1 x2) fun x29 =>
    bnd (pBin Try.prog Go.BinOp.sub 3 (Go.Operand.tmp 26) (Go.Operand.tmp 29) x26 x29) fun x30 =>
    bnd (inv (.func 30) #[] #[x0, x23, x30] x17.2) fun x31 =>
    bnd (pBin Try.prog Go.BinOp.neq 30 (Go.Operand.tmp 31) (Go.Operand.const (Go.Value.int Go.IntKind.u64 0)) x31.1 (Go.Value.int Go.IntKind.u64 0)) fun x32 =>
    brV x32
    (some ((Go.Value.int Go.IntKind.i64 4), x31.2))
    (some ((Go.Value.int Go.IntKind.i64 0), x31.2))))
theorem F25_eq {inv : Inv} {k : Nat} {x0 x1 x2 : Value} {h : AH} : eFun env k inv 25 #[x0, x1, x2] h = F25 inv k x0 x1 x2 h := by
      refine (eFun_k2 (by kernel_rfl) (by kernel_rfl) (by kernel_rfl) (a := act 33 [(0, x0), (1, x1), (2, x2)]) (c := c25) (by kernel_rfl) (by kernel_rfl)).trans ?_
      unfold F25
      simp only [k_seq (E := env) (f := 25) (c := c25) (by kernel_rfl), r25_0, k_seq (E := env) (f := 25) (c := (cr c25)) (by kernel_rfl), k_block (E := env) (f := 25) (c := (cl (cr c25))) (id := 0) (by kernel_rfl), k_seq (E := env) (f := 25) (c := (cl (cl (cr c25)))) (by kernel_rfl), r25_1, b25_rllr, k_seq (E := env) (f := 25) (c := (cl (cr (cl (cl (cr c25)))))) (by kernel_rfl), r25_2, k_ret (E := env) (f := 25) (c := (cr (cl (cr (cl (cl (cr c25))))))) (by kernel_rfl), res25_0, k_seq (E := env) (f := 25) (c := (cr (cr (cl (cl (cr c25)))))) (by kernel_rfl), r25_3, b25_rrrllr, k_seq (E := env) (f := 25) (c := (cl (cr (cr (cr (cl (cl (cr c25)))))))) (by kernel_rfl), r25_4, k_ret (E := env) (f := 25) (c := (cr (cl (cr (cr (cr (cl (cl (cr c25))))))))) (by kernel_rfl), k_seq (E := env) (f := 25) (c := (cr (cr (cr (cr (cl (cl (cr c25)))))))) (by kernel_rfl), r25_5, b25_rrrrrllr, k_seq (E := env) (f := 25) (c := (cl (cr (cr (cr (cr (cr (cl (cl (cr c25)))))))))) (by kernel_rfl), r25_6, k_ret (E := env) (f := 25) (c := (cr (cl (cr (cr (cr (cr (cr (cl (cl (cr c25))))))))))) (by kernel_rfl), k_skip (E := env) (f := 25) (c := (cr (cr (cr (cr (cr (cr (cl (cl (cr c25)))))))))) (by kernel_rfl), k_seq (E := env) (f := 25) (c := (cr (cr c25))) (by kernel_rfl), r25_7, k_ret (E := env) (f := 25) (c := (cr (cr (cr c25)))) (by kernel_rfl), reduceIte, reduceCtorEq, XE.exit.injEq, Nat.reduceEqDiff] <;> kernel_rfl
theorem F25_call {k : Nat} {x0 x1 x2 : Value} {h : AH} : eInv env (k + 1) (.func 25) #[] #[x0, x1, x2] h = F25 (eInv env k) k x0 x1 x2 h := (inv_func (by kernel_rfl)).trans F25_eq
noncomputable def c26 : Code := codeOf Try.prog 26
theorem r26_0 {β : Type} {inv : Inv} {k : Nat} {x0 : Value} {h : AH} {K : XE → Act → AH → Option β} : kCode env 26 false inv k (cl c26) (act 25 [(0, x0)]) h K =
    K .normal (act 25 [(0, x0), (2, (Go.Value.int Go.IntKind.i64 0))]) h := (k_reg (by kernel_rfl)).trans (by kernel_rfl)
theorem r26_1 {β : Type} {inv : Inv} {k : Nat} {x0 x2 : Value} {h : AH} {K : XE → Act → AH → Option β} : kCode env 26 false inv k (cl (cl (cr c26))) (act 25 [(0, x0), (2, x2)]) h K =
    bnd (pBin Try.prog Go.BinOp.geq 30 (Go.Operand.tmp 3) (Go.Operand.const (Go.Value.int Go.IntKind.u64 4294967296)) x0 (Go.Value.int Go.IntKind.u64 4294967296)) fun x4 =>
    K .normal (act 25 [(0, x0), (2, x2), (4, x4)]) h := (k_reg (by kernel_rfl)).trans (by kernel_rfl)
theorem b26_rlr {β : Type} {inv : Inv} {k : Nat} {x0 x2 x4 : Value} {h : AH} {K : XE → Act → AH → Option β} : kCode env 26 false inv k (cr (cl (cr c26))) (act 25 [(0, x0), (2, x2), (4, x4)]) h K = brV x4 (kCode env 26 false inv k (cl (cr (cl (cr c26)))) (act 25 [(0, x0), (2, x2), (4, x4)]) h K) (kCode env 26 false inv k (cr (cr (cl (cr c26)))) (act 25 [(0, x0), (2, x2), (4, x4)]) h K) := (k_cond (by kernel_rfl)).trans (by kernel_rfl)
theorem r26_2 {β : Type} {inv : Inv} {k : Nat} {x0 x2 x4 : Value} {h : AH} {K : XE → Act → AH → Option β} : kCode env 26 false inv k (cl (cl (cr (cl (cr c26))))) (act 25 [(0, x0), (2, x2), (4, x4)]) h K =
    bnd (pBin Try.prog Go.BinOp.shr 30 (Go.Operand.tmp 5) (Go.Operand.const (Go.Value.int Go.IntKind.u64 32)) x0 (Go.Value.int Go.IntKind.u64 32)) fun x6 =>
    K .normal (act 25 [(0, x6)]) h := (k_reg (by kernel_rfl)).trans (by kernel_rfl)
theorem r26_3 {β : Type} {inv : Inv} {k : Nat} {x0 : Value} {h : AH} {K : XE → Act → AH → Option β} : kCode env 26 false inv k (cr (cl (cr (cl (cr c26))))) (act 25 [(0, x0)]) h K =
    K .normal (act 25 [(0, x0), (2, (Go.Value.int Go.IntKind.i64 32))]) h := (k_reg (by kernel_rfl)).trans (by kernel_rfl)
noncomputable def F26_rlr {β : Type} (inv : Inv) (k : Nat) (x0 x2 x4 : Value) (h : AH) (kn : (Value → Value → Value → AH → Option β)) : Option β :=
    brV x4
    (bnd (pBin Try.prog Go.BinOp.shr 30 (Go.Operand.tmp 5) (Go.Operand.const (Go.Value.int Go.IntKind.u64 32)) x0 (Go.Value.int Go.IntKind.u64 32)) fun x6 =>
    kn x6 (Go.Value.int Go.IntKind.i64 32) unk h)
    (kn x0 x2 x4 h)
theorem F26_rlr_eq {β : Type} {inv : Inv} {k : Nat} {x0 x2 x4 : Value} {h : AH} {K : XE → Act → AH → Option β} : kCode env 26 false inv k (cr (cl (cr c26))) (act 25 [(0, x0), (2, x2), (4, x4)]) h K = F26_rlr inv k x0 x2 x4 h (fun y0 y2 y4 h => K .normal (act 25 [(0, y0), (2, y2), (4, y4)]) h) := by
      unfold F26_rlr
      simp only [b26_rlr, k_seq (E := env) (f := 26) (c := (cl (cr (cl (cr c26))))) (by kernel_rfl), r26_2, r26_3, k_skip (E := env) (f := 26) (c := (cr (cr (cl (cr c26))))) (by kernel_rfl), reduceIte, reduceCtorEq, XE.exit.injEq, Nat.reduceEqDiff] <;> kernel_rfl
theorem r26_4 {β : Type} {inv : Inv} {k : Nat} {x0 x2 x4 : Value} {h : AH} {K : XE → Act → AH → Option β} : kCode env 26 false inv k (cl (cl (cr (cr c26)))) (act 25 [(0, x0), (2, x2), (4, x4)]) h K =
    bnd (pBin Try.prog Go.BinOp.geq 30 (Go.Operand.tmp 7) (Go.Operand.const (Go.Value.int Go.IntKind.u64 65536)) x0 (Go.Value.int Go.IntKind.u64 65536)) fun x8 =>
    K .normal (act 25 [(0, x0), (2, x2), (8, x8)]) h := (k_reg (by kernel_rfl)).trans (by kernel_rfl)
theorem b26_rlrr {β : Type} {inv : Inv} {k : Nat} {x0 x2 x8 : Value} {h : AH} {K : XE → Act → AH → Option β} : kCode env 26 false inv k (cr (cl (cr (cr c26)))) (act 25 [(0, x0), (2, x2), (8, x8)]) h K = brV x8 (kCode env 26 false inv k (cl (cr (cl (cr (cr c26))))) (act 25 [(0, x0), (2, x2), (8, x8)]) h K) (kCode env 26 false inv k (cr (cr (cl (cr (cr c26))))) (act 25 [(0, x0), (2, x2), (8, x8)]) h K) := (k_cond (by kernel_rfl)).trans (by kernel_rfl)
theorem r26_5 {β : Type} {inv : Inv} {k : Nat} {x0 x2 x8 : Value} {h : AH} {K : XE → Act → AH → Option β} : kCode env 26 false inv k (cl (cl (cr (cl (cr (cr c26)))))) (act 25 [(0, x0), (2, x2), (8, x8)]) h K =
    bnd (pBin Try.prog Go.BinOp.shr 30 (Go.Operand.tmp 9) (Go.Operand.const (Go.Value.int Go.IntKind.u64 16)) x0 (Go.Value.int Go.IntKind.u64 16)) fun x10 =>
    K .normal (act 25 [(0, x10), (2, x2)]) h := (k_reg (by kernel_rfl)).trans (by kernel_rfl)
theorem r26_6 {β : Type} {inv : Inv} {k : Nat} {x0 x2 : Value} {h : AH} {K : XE → Act → AH → Option β} : kCode env 26 false inv k (cr (cl (cr (cl (cr (cr c26)))))) (act 25 [(0, x0), (2, x2)]) h K =
    bnd (pBin Try.prog Go.BinOp.add 3 (Go.Operand.tmp 11) (Go.Operand.const (Go.Value.int Go.IntKind.i64 16)) x2 (Go.Value.int Go.IntKind.i64 16)) fun x12 =>
    K .normal (act 25 [(0, x0), (2, x12)]) h := (k_reg (by kernel_rfl)).trans (by kernel_rfl)
noncomputable def F26_rlrr {β : Type} (inv : Inv) (k : Nat) (x0 x2 x8 : Value) (h : AH) (kn : (Value → Value → Value → AH → Option β)) : Option β :=
    brV x8
    (bnd (pBin Try.prog Go.BinOp.shr 30 (Go.Operand.tmp 9) (Go.Operand.const (Go.Value.int Go.IntKind.u64 16)) x0 (Go.Value.int Go.IntKind.u64 16)) fun x10 =>
    bnd (pBin Try.prog Go.BinOp.add 3 (Go.Operand.tmp 11) (Go.Operand.const (Go.Value.int Go.IntKind.i64 16)) x2 (Go.Value.int Go.IntKind.i64 16)) fun x12 =>
    kn x10 x12 unk h)
    (kn x0 x2 x8 h)
theorem F26_rlrr_eq {β : Type} {inv : Inv} {k : Nat} {x0 x2 x8 : Value} {h : AH} {K : XE → Act → AH → Option β} : kCode env 26 false inv k (cr (cl (cr (cr c26)))) (act 25 [(0, x0), (2, x2), (8, x8)]) h K = F26_rlrr inv k x0 x2 x8 h (fun y0 y2 y8 h => K .normal (act 25 [(0, y0), (2, y2), (8, y8)]) h) := by
      unfold F26_rlrr
      simp only [b26_rlrr, k_seq (E := env) (f := 26) (c := (cl (cr (cl (cr (cr c26)))))) (by kernel_rfl), r26_5, r26_6, k_skip (E := env) (f := 26) (c := (cr (cr (cl (cr (cr c26)))))) (by kernel_rfl), reduceIte, reduceCtorEq, XE.exit.injEq, Nat.reduceEqDiff] <;> kernel_rfl
theorem r26_7 {β : Type} {inv : Inv} {k : Nat} {x0 x2 x8 : Value} {h : AH} {K : XE → Act → AH → Option β} : kCode env 26 false inv k (cl (cl (cr (cr (cr c26))))) (act 25 [(0, x0), (2, x2), (8, x8)]) h K =
    bnd (pBin Try.prog Go.BinOp.geq 30 (Go.Operand.tmp 13) (Go.Operand.const (Go.Value.int Go.IntKind.u64 256)) x0 (Go.Value.int Go.IntKind.u64 256)) fun x14 =>
    K .normal (act 25 [(0, x0), (2, x2), (14, x14)]) h := (k_reg (by kernel_rfl)).trans (by kernel_rfl)
theorem b26_rlrrr {β : Type} {inv : Inv} {k : Nat} {x0 x2 x14 : Value} {h : AH} {K : XE → Act → AH → Option β} : kCode env 26 false inv k (cr (cl (cr (cr (cr c26))))) (act 25 [(0, x0), (2, x2), (14, x14)]) h K = brV x14 (kCode env 26 false inv k (cl (cr (cl (cr (cr (cr c26)))))) (act 25 [(0, x0), (2, x2), (14, x14)]) h K) (kCode env 26 false inv k (cr (cr (cl (cr (cr (cr c26)))))) (act 25 [(0, x0), (2, x2), (14, x14)]) h K) := (k_cond (by kernel_rfl)).trans (by kernel_rfl)
theorem r26_8 {β : Type} {inv : Inv} {k : Nat} {x0 x2 x14 : Value} {h : AH} {K : XE → Act → AH → Option β} : kCode env 26 false inv k (cl (cl (cr (cl (cr (cr (cr c26))))))) (act 25 [(0, x0), (2, x2), (14, x14)]) h K =
    bnd (pBin Try.prog Go.BinOp.shr 30 (Go.Operand.tmp 15) (Go.Operand.const (Go.Value.int Go.IntKind.u64 8)) x0 (Go.Value.int Go.IntKind.u64 8)) fun x16 =>
    K .normal (act 25 [(0, x16), (2, x2)]) h := (k_reg (by kernel_rfl)).trans (by kernel_rfl)
theorem r26_9 {β : Type} {inv : Inv} {k : Nat} {x0 x2 : Value} {h : AH} {K : XE → Act → AH → Option β} : kCode env 26 false inv k (cr (cl (cr (cl (cr (cr (cr c26))))))) (act 25 [(0, x0), (2, x2)]) h K =
    bnd (pBin Try.prog Go.BinOp.add 3 (Go.Operand.tmp 17) (Go.Operand.const (Go.Value.int Go.IntKind.i64 8)) x2 (Go.Value.int Go.IntKind.i64 8)) fun x18 =>
    K .normal (act 25 [(0, x0), (2, x18)]) h := (k_reg (by kernel_rfl)).trans (by kernel_rfl)
noncomputable def F26_rlrrr {β : Type} (inv : Inv) (k : Nat) (x0 x2 x14 : Value) (h : AH) (kn : (Value → Value → Value → AH → Option β)) : Option β :=
    brV x14
    (bnd (pBin Try.prog Go.BinOp.shr 30 (Go.Operand.tmp 15) (Go.Operand.const (Go.Value.int Go.IntKind.u64 8)) x0 (Go.Value.int Go.IntKind.u64 8)) fun x16 =>
    bnd (pBin Try.prog Go.BinOp.add 3 (Go.Operand.tmp 17) (Go.Operand.const (Go.Value.int Go.IntKind.i64 8)) x2 (Go.Value.int Go.IntKind.i64 8)) fun x18 =>
    kn x16 x18 unk h)
    (kn x0 x2 x14 h)
theorem F26_rlrrr_eq {β : Type} {inv : Inv} {k : Nat} {x0 x2 x14 : Value} {h : AH} {K : XE → Act → AH → Option β} : kCode env 26 false inv k (cr (cl (cr (cr (cr c26))))) (act 25 [(0, x0), (2, x2), (14, x14)]) h K = F26_rlrrr inv k x0 x2 x14 h (fun y0 y2 y14 h => K .normal (act 25 [(0, y0), (2, y2), (14, y14)]) h) := by
      unfold F26_rlrrr
      simp only [b26_rlrrr, k_seq (E := env) (f := 26) (c := (cl (cr (cl (cr (cr (cr c26))))))) (by kernel_rfl), r26_8, r26_9, k_skip (E := env) (f := 26) (c := (cr (cr (cl (cr (cr (cr c26))))))) (by kernel_rfl), reduceIte, reduceCtorEq, XE.exit.injEq, Nat.reduceEqDiff] <;> kernel_rfl
theorem r26_10 {β : Type} {inv : Inv} {k : Nat} {x0 x2 x14 : Value} {h : AH} {K : XE → Act → AH → Option β} : kCode env 26 false inv k (cl (cr (cr (cr (cr c26))))) (act 25 [(0, x0), (2, x2), (14, x14)]) h K =
    bnd (pConv Try.prog 30 5 x0 h) fun x21 =>
    bnd (pIndex Try.prog 9 (Go.Value.string { data := #[0, 1, 2, 2, 3, 3, 3, 3, 4, 4, 4, 4, 4, 4, 4, 4, 5, 5, 5, 5, 5, 5, 5, 5, 5, 5, 5, 5, 5, 5, 5, 5, 6, 6, 6, 6, 6, 6, 6, 6, 6, 6, 6, 6, 6, 6, 6, 6, 6, 6, 6, 6, 6, 6, 6, 6, 6, 6, 6, 6, 6, 6, 6, 6, 7, 7, 7, 7, 7, 7, 7, 7, 7, 7, 7, 7, 7, 7, 7, 7, 7, 7, 7, 7, 7, 7, 7, 7, 7, 7, 7, 7, 7, 7, 7, 7, 7, 7, 7, 7, 7, 7, 7, 7, 7, 7, 7, 7, 7, 7, 7, 7, 7, 7, 7, 7, 7, 7, 7, 7, 7, 7, 7, 7, 7, 7, 7, 7, 8, 8, 8, 8, 8, 8, 8, 8, 8, 8, 8, 8, 8, 8, 8, 8, 8, 8, 8, 8, 8, 8, 8, 8, 8, 8, 8, 8, 8, 8, 8, 8, 8, 8, 8, 8, 8, 8, 8, 8, 8, 8, 8, 8, 8, 8, 8, 8, 8, 8, 8, 8, 8, 8, 8, 8, 8, 8, 8, 8, 8, 8, 8, 8, 8, 8, 8, 8, 8, 8, 8, 8, 8, 8, 8, 8, 8, 8, 8, 8, 8, 8, 8, 8, 8, 8, 8, 8, 8, 8, 8, 8, 8, 8, 8, 8, 8, 8, 8, 8, 8, 8, 8, 8, 8, 8, 8, 8, 8, 8, 8, 8, 8, 8, 8, 8, 8, 8, 8, 8, 8, 8, 8, 8, 8, 8, 8, 8] }) x21) fun x22 =>
    bnd (pConv Try.prog 5 3 x22 h) fun x23 =>
    bnd (pBin Try.prog Go.BinOp.add 3 (Go.Operand.tmp 19) (Go.Operand.tmp 23) x2 x23) fun x24 =>
    K .normal (act 25 [(2, x24)]) h := (k_reg (by kernel_rfl)).trans (by kernel_rfl)
theorem res26_0 {x2 : Value} {h : AH} : resOfFn env.P 26 .ret (act 25 [(2, x2)]) h = some (x2, h) := (resOfFn_k (by kernel_rfl) (by kernel_rfl)).trans (by kernel_rfl)
/-- math/bits.Len64 -/
noncomputable def F26 (inv : Inv) (k : Nat) (x0 : Value) (h : AH) : Option (Value × AH) :=
    bnd (pBin Try.prog Go.BinOp.geq 30 (Go.Operand.tmp 3) (Go.Operand.const (Go.Value.int Go.IntKind.u64 4294967296)) x0 (Go.Value.int Go.IntKind.u64 4294967296)) fun x4 =>
    F26_rlr inv k x0 (Go.Value.int Go.IntKind.i64 0) x4 h
    (fun y0 y2 y4 h =>
    bnd (pBin Try.prog Go.BinOp.geq 30 (Go.Operand.tmp 7) (Go.Operand.const (Go.Value.int Go.IntKind.u64 65536)) y0 (Go.Value.int Go.IntKind.u64 65536)) fun x8 =>
    F26_rlrr inv k y0 y2 x8 h
    (fun y0_1 y2_2 y8 h_3 =>
    bnd (pBin Try.prog Go.BinOp.geq 30 (Go.Operand.tmp 13) (Go.Operand.const (Go.Value.int Go.IntKind.u64 256)) y0_1 (Go.Value.int Go.IntKind.u64 256)) fun x14 =>
    F26_rlrrr inv k y0_1 y2_2 x14 h_3
    (fun y0_4 y2_5 y14 h_6 =>
    bnd (pConv Try.prog 30 5 y0_4 h_6) fun x21 =>
    bnd (pIndex Try.prog 9 (Go.Value.string { data := #[0, 1, 2, 2, 3, 3, 3, 3, 4, 4, 4, 4, 4, 4, 4, 4, 5, 5, 5, 5, 5, 5, 5, 5, 5, 5, 5, 5, 5, 5, 5, 5, 6, 6, 6, 6, 6, 6, 6, 6, 6, 6, 6, 6, 6, 6, 6, 6, 6, 6, 6, 6, 6, 6, 6, 6, 6, 6, 6, 6, 6, 6, 6, 6, 7, 7, 7, 7, 7, 7, 7, 7, 7, 7, 7, 7, 7, 7, 7, 7, 7, 7, 7, 7, 7, 7, 7, 7, 7, 7, 7, 7, 7, 7, 7, 7, 7, 7, 7, 7, 7, 7, 7, 7, 7, 7, 7, 7, 7, 7, 7, 7, 7, 7, 7, 7, 7, 7, 7, 7, 7, 7, 7, 7, 7, 7, 7, 7, 8, 8, 8, 8, 8, 8, 8, 8, 8, 8, 8, 8, 8, 8, 8, 8, 8, 8, 8, 8, 8, 8, 8, 8, 8, 8, 8, 8, 8, 8, 8, 8, 8, 8, 8, 8, 8, 8, 8, 8, 8, 8, 8, 8, 8, 8, 8, 8, 8, 8, 8, 8, 8, 8, 8, 8, 8, 8, 8, 8, 8, 8, 8, 8, 8, 8, 8, 8, 8, 8, 8, 8, 8, 8, 8, 8, 8, 8, 8, 8, 8, 8, 8, 8, 8, 8, 8, 8, 8, 8, 8, 8, 8, 8, 8, 8, 8, 8, 8, 8, 8, 8, 8, 8, 8, 8, 8, 8, 8, 8, 8, 8, 8, 8, 8, 8, 8, 8, 8, 8, 8, 8, 8, 8, 8, 8, 8, 8] }) x21) fun x22 =>
    bnd (pConv Try.prog 5 3 x22 h_6) fun x23 =>
    bnd (pBin Try.prog Go.BinOp.add 3 (Go.Operand.tmp 19) (Go.Operand.tmp 23) y2_5 x23) fun x24 =>
    some (x24, h_6))))
theorem F26_eq {inv : Inv} {k : Nat} {x0 : Value} {h : AH} : eFun env k inv 26 #[x0] h = F26 inv k x0 h := by
      refine (eFun_k2 (by kernel_rfl) (by kernel_rfl) (by kernel_rfl) (a := act 25 [(0, x0)]) (c := c26) (by kernel_rfl) (by kernel_rfl)).trans ?_
      unfold F26
      simp only [k_seq (E := env) (f := 26) (c := c26) (by kernel_rfl), r26_0, k_seq (E := env) (f := 26) (c := (cr c26)) (by kernel_rfl), k_seq (E := env) (f := 26) (c := (cl (cr c26))) (by kernel_rfl), r26_1, F26_rlr_eq, k_seq (E := env) (f := 26) (c := (cr (cr c26))) (by kernel_rfl), k_seq (E := env) (f := 26) (c := (cl (cr (cr c26)))) (by kernel_rfl), r26_4, F26_rlrr_eq, k_seq (E := env) (f := 26) (c := (cr (cr (cr c26)))) (by kernel_rfl), k_seq (E := env) (f := 26) (c := (cl (cr (cr (cr c26))))) (by kernel_rfl), r26_7, F26_rlrrr_eq, k_seq (E := env) (f := 26) (c := (cr (cr (cr (cr c26))))) (by kernel_rfl), r26_10, k_ret (E := env) (f := 26) (c := (cr (cr (cr (cr (cr c26)))))) (by kernel_rfl), res26_0, reduceIte, reduceCtorEq, XE.exit.injEq, Nat.reduceEqDiff] <;> kernel_rfl
theorem F26_call {k : Nat} {x0 : Value} {h : AH} : eInv env (k + 1) (.func 26) #[] #[x0] h = F26 (eInv env k) k x0 h := (inv_func (by kernel_rfl)).trans F26_eq
noncomputable def c27 : Code := codeOf Try.prog 27
theorem r27_0 {β : Type} {inv : Inv} {k : Nat} {x0 x1 : Value} {h : AH} {K : XE → Act → AH → Option β} : kCode env 27 false inv k (cl c27) (act 19 [(0, x0), (1, x1)]) h K =
    K .normal (act 19 [(0, x0), (1, x1)]) h := (k_reg (by kernel_rfl)).trans (by kernel_rfl)
theorem r27_1 {β : Type} {inv : Inv} {k : Nat} {x0 x1 : Value} {h : AH} {K : XE → Act → AH → Option β} : kCode env 27 false inv k (cl (cr c27)) (act 19 [(0, x0), (1, x1)]) h K =
    bnd (pBin Try.prog Go.BinOp.geq 3 (Go.Operand.tmp 5) (Go.Operand.const (Go.Value.int Go.IntKind.i64 0)) x0 (Go.Value.int Go.IntKind.i64 0)) fun x6 =>
    bnd (gd (some x6) true h (some (x0, h))) fun x8 =>
    bnd (gd (some x6) true x8.2 (lt (pBin Try.prog Go.BinOp.leq 3 (Go.Operand.tmp 8) (Go.Operand.const (Go.Value.int Go.IntKind.i64 65536)) x8.1 (Go.Value.int Go.IntKind.i64 65536)) x8.2)) fun x9 =>
    bnd (pickV x6 x9.1 (Go.Value.bool false)) fun x10 =>
    bnd (gd (some x10) true x9.2 (some (x1, x9.2))) fun x12 =>
    bnd (gd (some x10) true x12.2 (lt (pBin Try.prog Go.BinOp.geq 3 (Go.Operand.tmp 12) (Go.Operand.const (Go.Value.int Go.IntKind.i64 0)) x12.1 (Go.Value.int Go.IntKind.i64 0)) x12.2)) fun x13 =>
    bnd (pickV x10 x13.1 (Go.Value.bool false)) fun x14 =>
    bnd (gd (some x14) true x13.2 (some (x1, x13.2))) fun x16 =>
    bnd (gd (some x14) true x16.2 (lt (pBin Try.prog Go.BinOp.leq 3 (Go.Operand.tmp 16) (Go.Operand.const (Go.Value.int Go.IntKind.i64 64)) x16.1 (Go.Value.int Go.IntKind.i64 64)) x16.2)) fun x17 =>
    bnd (pickV x14 x17.1 (Go.Value.bool false)) fun x18 =>
    K .normal (act 19 [(4, x18)]) x17.2 := (k_reg (by kernel_rfl)).trans (by kernel_rfl)
theorem res27_0 {x4 : Value} {h : AH} : resOfFn env.P 27 .ret (act 19 [(4, x4)]) h = some (x4, h) := (resOfFn_k (by kernel_rfl) (by kernel_rfl)).trans (by kernel_rfl)
/-- shadowbook/shadowbookref05.may -/
noncomputable def F27 (inv : Inv) (k : Nat) (x0 x1 : Value) (h : AH) : Option (Value × AH) :=
    bnd (pBin Try.prog Go.BinOp.geq 3 (Go.Operand.tmp 5) (Go.Operand.const (Go.Value.int Go.IntKind.i64 0)) x0 (Go.Value.int Go.IntKind.i64 0)) fun x6 =>
    bnd (gd (some x6) true h (some (x0, h))) fun x8 =>
    bnd (gd (some x6) true x8.2 (lt (pBin Try.prog Go.BinOp.leq 3 (Go.Operand.tmp 8) (Go.Operand.const (Go.Value.int Go.IntKind.i64 65536)) x8.1 (Go.Value.int Go.IntKind.i64 65536)) x8.2)) fun x9 =>
    bnd (pickV x6 x9.1 (Go.Value.bool false)) fun x10 =>
    bnd (gd (some x10) true x9.2 (some (x1, x9.2))) fun x12 =>
    bnd (gd (some x10) true x12.2 (lt (pBin Try.prog Go.BinOp.geq 3 (Go.Operand.tmp 12) (Go.Operand.const (Go.Value.int Go.IntKind.i64 0)) x12.1 (Go.Value.int Go.IntKind.i64 0)) x12.2)) fun x13 =>
    bnd (pickV x10 x13.1 (Go.Value.bool false)) fun x14 =>
    bnd (gd (some x14) true x13.2 (some (x1, x13.2))) fun x16 =>
    bnd (gd (some x14) true x16.2 (lt (pBin Try.prog Go.BinOp.leq 3 (Go.Operand.tmp 16) (Go.Operand.const (Go.Value.int Go.IntKind.i64 64)) x16.1 (Go.Value.int Go.IntKind.i64 64)) x16.2)) fun x17 =>
    bnd (pickV x14 x17.1 (Go.Value.bool false)) fun x18 =>
    some (x18, x17.2)
theorem F27_eq {inv : Inv} {k : Nat} {x0 x1 : Value} {h : AH} : eFun env k inv 27 #[x0, x1] h = F27 inv k x0 x1 h := by
      refine (eFun_k2 (by kernel_rfl) (by kernel_rfl) (by kernel_rfl) (a := act 19 [(0, x0), (1, x1)]) (c := c27) (by kernel_rfl) (by kernel_rfl)).trans ?_
      unfold F27
      simp only [k_seq (E := env) (f := 27) (c := c27) (by kernel_rfl), r27_0, k_seq (E := env) (f := 27) (c := (cr c27)) (by kernel_rfl), r27_1, k_ret (E := env) (f := 27) (c := (cr (cr c27))) (by kernel_rfl), res27_0, reduceIte, reduceCtorEq, XE.exit.injEq, Nat.reduceEqDiff] <;> kernel_rfl
theorem F27_call {k : Nat} {x0 x1 : Value} {h : AH} : eInv env (k + 1) (.func 27) #[] #[x0, x1] h = F27 (eInv env k) k x0 x1 h := (inv_func (by kernel_rfl)).trans F27_eq
noncomputable def c28 : Code := codeOf Try.prog 28
theorem r28_0 {β : Type} {inv : Inv} {k : Nat} {x0 : Value} {h : AH} {K : XE → Act → AH → Option β} : kCode env 28 false inv k (cl c28) (act 11 [(0, x0)]) h K =
    K .normal (act 11 [(0, x0)]) h := (k_reg (by kernel_rfl)).trans (by kernel_rfl)
theorem r28_1 {β : Type} {inv : Inv} {k : Nat} {x0 : Value} {h : AH} {K : XE → Act → AH → Option β} : kCode env 28 false inv k (cl (cr c28)) (act 11 [(0, x0)]) h K =
    K .normal (act 11 [(0, x0), (3, (Go.Value.int Go.IntKind.i64 0))]) h := (k_reg (by kernel_rfl)).trans (by kernel_rfl)
theorem r28_2 {β : Type} {inv : Inv} {k : Nat} {x0 x3 : Value} {h : AH} {K : XE → Act → AH → Option β} : kCode env 28 false inv k (cl (cl (cl (cl (cl (cr (cr c28))))))) (act 11 [(0, x0), (3, x3)]) h K =
    bnd (pBin Try.prog Go.BinOp.gtr 30 (Go.Operand.tmp 4) (Go.Operand.const (Go.Value.int Go.IntKind.u64 0)) x0 (Go.Value.int Go.IntKind.u64 0)) fun x5 =>
    K .normal (act 11 [(0, x0), (3, x3), (5, x5)]) h := (k_reg (by kernel_rfl)).trans (by kernel_rfl)
theorem b28_rllllrr {β : Type} {inv : Inv} {k : Nat} {x0 x3 x5 : Value} {h : AH} {K : XE → Act → AH → Option β} : kCode env 28 false inv k (cr (cl (cl (cl (cl (cr (cr c28))))))) (act 11 [(0, x0), (3, x3), (5, x5)]) h K = brV x5 (kCode env 28 false inv k (cl (cr (cl (cl (cl (cl (cr (cr c28)))))))) (act 11 [(0, x0), (3, x3), (5, x5)]) h K) (kCode env 28 false inv k (cr (cr (cl (cl (cl (cl (cr (cr c28)))))))) (act 11 [(0, x0), (3, x3), (5, x5)]) h K) := (k_cond (by kernel_rfl)).trans (by kernel_rfl)
theorem r28_4 {β : Type} {inv : Inv} {k : Nat} {x0 x3 x5 : Value} {h : AH} {K : XE → Act → AH → Option β} : kCode env 28 false inv k (cl (cl (cr (cl (cl (cl (cr (cr c28)))))))) (act 11 [(0, x0), (3, x3), (5, x5)]) h K =
    bnd (pBin Try.prog Go.BinOp.add 3 (Go.Operand.tmp 8) (Go.Operand.const (Go.Value.int Go.IntKind.i64 1)) x3 (Go.Value.int Go.IntKind.i64 1)) fun x9 =>
    K .normal (act 11 [(0, x0), (3, x9)]) h := (k_reg (by kernel_rfl)).trans (by kernel_rfl)
theorem r28_3 {β : Type} {inv : Inv} {k : Nat} {x0 x3 : Value} {h : AH} {K : XE → Act → AH → Option β} : kCode env 28 false inv k (cr (cr (cl (cl (cl (cr (cr c28))))))) (act 11 [(0, x0), (3, x3)]) h K =
    bnd (pBin Try.prog Go.BinOp.shr 30 (Go.Operand.tmp 6) (Go.Operand.const (Go.Value.int Go.IntKind.u64 1)) x0 (Go.Value.int Go.IntKind.u64 1)) fun x7 =>
    K .normal (act 11 [(0, x7), (3, x3)]) h := (k_reg (by kernel_rfl)).trans (by kernel_rfl)
noncomputable def F28_llrr {β : Type} (inv : Inv) (k : Nat) : Nat → Value → Value → AH → (Value → Value → Value → AH → Option β) → Option β
  | 0, _, _, _, _ => none
  | j + 1, x0, x3, h, ke0 =>
    bnd (pBin Try.prog Go.BinOp.gtr 30 (Go.Operand.tmp 4) (Go.Operand.const (Go.Value.int Go.IntKind.u64 0)) x0 (Go.Value.int Go.IntKind.u64 0)) fun x5 =>
    brV x5
    (bnd (pBin Try.prog Go.BinOp.add 3 (Go.Operand.tmp 8) (Go.Operand.const (Go.Value.int Go.IntKind.i64 1)) x3 (Go.Value.int Go.IntKind.i64 1)) fun x9 =>
    bnd (pBin Try.prog Go.BinOp.shr 30 (Go.Operand.tmp 6) (Go.Operand.const (Go.Value.int Go.IntKind.u64 1)) x0 (Go.Value.int Go.IntKind.u64 1)) fun x7 =>
    F28_llrr inv k j x7 x9 h ke0)
    (ke0 x0 x3 x5 h)
theorem F28_llrr_j {β : Type} {inv : Inv} {k : Nat} (j : Nat) {x0 x3 : Value} {h : AH} {K : XE → Act → AH → Option β} : kLoop (kCode env 28 false inv k (cl (cl (cl (cr (cr c28)))))) j (act 11 [(0, x0), (3, x3)]) h K = F28_llrr inv k j x0 x3 h (fun y0 y3 y5 h => K (.exit 0) (act 11 [(0, y0), (3, y3), (5, y5)]) h) := by
      induction j generalizing x0 x3 h with
      | zero => rfl
      | succ j ih =>
        unfold F28_llrr
        simp only [kLoop, k_seq (E := env) (f := 28) (c := (cl (cl (cl (cr (cr c28)))))) (by kernel_rfl), k_seq (E := env) (f := 28) (c := (cl (cl (cl (cl (cr (cr c28))))))) (by kernel_rfl), r28_2, b28_rllllrr, k_skip (E := env) (f := 28) (c := (cl (cr (cl (cl (cl (cl (cr (cr c28))))))))) (by kernel_rfl), k_seq (E := env) (f := 28) (c := (cr (cl (cl (cl (cr (cr c28))))))) (by kernel_rfl), k_block (E := env) (f := 28) (c := (cl (cr (cl (cl (cl (cr (cr c28)))))))) (id := 1) (by kernel_rfl), r28_4, r28_3, k_exit (E := env) (f := 28) (c := (cr (cr (cl (cl (cl (cl (cr (cr c28))))))))) (id := 0) (by kernel_rfl), ih, reduceIte, reduceCtorEq, XE.exit.injEq, Nat.reduceEqDiff] <;> kernel_rfl
theorem F28_llrr_eq {β : Type} {inv : Inv} {k : Nat} {x0 x3 : Value} {h : AH} {K : XE → Act → AH → Option β} : kCode env 28 false inv k (cl (cl (cr (cr c28)))) (act 11 [(0, x0), (3, x3)]) h K = F28_llrr inv k k x0 x3 h (fun y0 y3 y5 h => K (.exit 0) (act 11 [(0, y0), (3, y3), (5, y5)]) h) := (k_loop (by kernel_rfl)).trans (F28_llrr_j k)
theorem r28_5 {β : Type} {inv : Inv} {k : Nat} {x0 x3 x5 : Value} {h : AH} {K : XE → Act → AH → Option β} : kCode env 28 false inv k (cl (cr (cr (cr c28)))) (act 11 [(0, x0), (3, x3), (5, x5)]) h K =
    K .normal (act 11 [(2, x3)]) h := (k_reg (by kernel_rfl)).trans (by kernel_rfl)
theorem res28_0 {x2 : Value} {h : AH} : resOfFn env.P 28 .ret (act 11 [(2, x2)]) h = some (x2, h) := (resOfFn_k (by kernel_rfl) (by kernel_rfl)).trans (by kernel_rfl)
/-- shadowbook/shadowbookref05.bits -/
noncomputable def F28 (inv : Inv) (k : Nat) (x0 : Value) (h : AH) : Option (Value × AH) :=
    F28_llrr inv k k x0 (Go.Value.int Go.IntKind.i64 0) h
    (fun y0 y3 y5 h =>
    some (y3, h))
theorem F28_eq {inv : Inv} {k : Nat} {x0 : Value} {h : AH} : eFun env k inv 28 #[x0] h = F28 inv k x0 h := by
      refine (eFun_k2 (by kernel_rfl) (by kernel_rfl) (by kernel_rfl) (a := act 11 [(0, x0)]) (c := c28) (by kernel_rfl) (by kernel_rfl)).trans ?_
      unfold F28
      simp only [k_seq (E := env) (f := 28) (c := c28) (by kernel_rfl), r28_0, k_seq (E := env) (f := 28) (c := (cr c28)) (by kernel_rfl), r28_1, k_seq (E := env) (f := 28) (c := (cr (cr c28))) (by kernel_rfl), k_block (E := env) (f := 28) (c := (cl (cr (cr c28)))) (id := 0) (by kernel_rfl), F28_llrr_eq, k_seq (E := env) (f := 28) (c := (cr (cr (cr c28)))) (by kernel_rfl), r28_5, k_ret (E := env) (f := 28) (c := (cr (cr (cr (cr c28))))) (by kernel_rfl), res28_0, reduceIte, reduceCtorEq, XE.exit.injEq, Nat.reduceEqDiff] <;> kernel_rfl
theorem F28_call {k : Nat} {x0 : Value} {h : AH} : eInv env (k + 1) (.func 28) #[] #[x0] h = F28 (eInv env k) k x0 h := (inv_func (by kernel_rfl)).trans F28_eq
noncomputable def c29 : Code := codeOf Try.prog 29
theorem r29_0 {β : Type} {inv : Inv} {k : Nat} {x0 x1 x2 x3 : Value} {h : AH} {K : XE → Act → AH → Option β} : kCode env 29 false inv k (cl (cl c29)) (act 26 [(0, x0), (1, x1), (2, x2), (3, x3)]) h K =
    bnd (pLoad Try.prog 25 x1 h) fun x6 =>
    bnd (pLoad Try.prog 3 x2 h) fun x7 =>
    bnd (pLoad Try.prog 3 x3 h) fun x8 =>
    bnd (inv (.func 25) #[] #[x6, x7, x8] h) fun x9 =>
    bnd (pBin Try.prog Go.BinOp.neq 26 (Go.Operand.tmp 9) (Go.Operand.const (Go.Value.int Go.IntKind.i64 0)) x9.1 (Go.Value.int Go.IntKind.i64 0)) fun x10 =>
    K .normal (act 26 [(0, x0), (1, x1), (2, x2), (3, x3), (10, x10)]) x9.2 := (k_reg (by kernel_rfl)).trans (by kernel_rfl)
theorem b29_rl {β : Type} {inv : Inv} {k : Nat} {x0 x1 x2 x3 x10 : Value} {h : AH} {K : XE → Act → AH → Option β} : kCode env 29 false inv k (cr (cl c29)) (act 26 [(0, x0), (1, x1), (2, x2), (3, x3), (10, x10)]) h K = brV x10 (kCode env 29 false inv k (cl (cr (cl c29))) (act 26 [(0, x0), (1, x1), (2, x2), (3, x3), (10, x10)]) h K) (kCode env 29 false inv k (cr (cr (cl c29))) (act 26 [(0, x0), (1, x1), (2, x2), (3, x3), (10, x10)]) h K) := (k_cond (by kernel_rfl)).trans (by kernel_rfl)
theorem res29_0 {x0 x1 x2 x3 x10 : Value} {h : AH} : resOfFn env.P 29 .ret (act 26 [(0, x0), (1, x1), (2, x2), (3, x3), (10, x10)]) h = some (.tuple #[], h) := (resOfFn_k (by kernel_rfl) (by kernel_rfl)).trans (by kernel_rfl)
theorem r29_1 {β : Type} {inv : Inv} {k : Nat} {x0 x1 x2 x3 x10 : Value} {h : AH} {K : XE → Act → AH → Option β} : kCode env 29 false inv k (cl (cr c29)) (act 26 [(0, x0), (1, x1), (2, x2), (3, x3), (10, x10)]) h K =
    bnd (pLoad Try.prog 3 x2 h) fun x11 =>
    K .normal (act 26 [(0, x0), (1, x1), (3, x3), (11, x11), (12, (Go.Value.int Go.IntKind.i64 0))]) h := (k_reg (by kernel_rfl)).trans (by kernel_rfl)
theorem r29_2 {β : Type} {inv : Inv} {k : Nat} {x0 x1 x3 x11 x12 : Value} {h : AH} {K : XE → Act → AH → Option β} : kCode env 29 false inv k (cl (cl (cl (cr (cr c29))))) (act 26 [(0, x0), (1, x1), (3, x3), (11, x11), (12, x12)]) h K =
    bnd (pBin Try.prog Go.BinOp.lss 3 (Go.Operand.tmp 12) (Go.Operand.tmp 11) x12 x11) fun x13 =>
    K .normal (act 26 [(0, x0), (1, x1), (3, x3), (11, x11), (12, x12), (13, x13)]) h := (k_reg (by kernel_rfl)).trans (by kernel_rfl)
theorem b29_lrllrr {β : Type} {inv : Inv} {k : Nat} {x0 x1 x3 x11 x12 x13 : Value} {h : AH} {K : XE → Act → AH → Option β} : kCode env 29 false inv k (cl (cr (cl (cl (cr (cr c29)))))) (act 26 [(0, x0), (1, x1), (3, x3), (11, x11), (12, x12), (13, x13)]) h K = brV x13 (kCode env 29 false inv k (cl (cl (cr (cl (cl (cr (cr c29))))))) (act 26 [(0, x0), (1, x1), (3, x3), (11, x11), (12, x12), (13, x13)]) h K) (kCode env 29 false inv k (cr (cl (cr (cl (cl (cr (cr c29))))))) (act 26 [(0, x0), (1, x1), (3, x3), (11, x11), (12, x12), (13, x13)]) h K) := (k_cond (by kernel_rfl)).trans (by kernel_rfl)
theorem r29_3 {β : Type} {inv : Inv} {k : Nat} {x0 x1 x3 x11 x12 x13 : Value} {h : AH} {K : XE → Act → AH → Option β} : kCode env 29 false inv k (cl (cl (cl (cr (cr (cl (cl (cr (cr c29))))))))) (act 26 [(0, x0), (1, x1), (3, x3), (11, x11), (12, x12), (13, x13)]) h K =
    K .normal (act 26 [(0, x0), (1, x1), (3, x3), (5, x12), (11, x11), (12, x12)]) h := (k_reg (by kernel_rfl)).trans (by kernel_rfl)
theorem r29_4 {β : Type} {inv : Inv} {k : Nat} {x0 x1 x3 x5 x11 x12 : Value} {h : AH} {K : XE → Act → AH → Option β} : kCode env 29 false inv k (cl (cr (cl (cl (cr (cr (cl (cl (cr (cr c29)))))))))) (act 26 [(0, x0), (1, x1), (3, x3), (5, x5), (11, x11), (12, x12)]) h K =
    bnd (pLoad Try.prog 25 x1 h) fun x17 =>
    bnd (pLoad Try.prog 3 x3 h) fun x19 =>
    bnd (pBin Try.prog Go.BinOp.mul 3 (Go.Operand.tmp 18) (Go.Operand.tmp 19) x5 x19) fun x20 =>
    bnd (pLoad Try.prog 3 x3 h) fun x21 =>
    bnd (inv (.func 30) #[] #[x17, x20, x21] h) fun x22 =>
    bnd (callV inv x0 #[x5, x22.1] x22.2) fun x23 =>
    bnd (pUn Try.prog Go.UnOp.not x23.1) fun x24 =>
    K .normal (act 26 [(0, x0), (1, x1), (3, x3), (11, x11), (12, x12), (24, x24)]) x23.2 := (k_reg (by kernel_rfl)).trans (by kernel_rfl)
theorem b29_rrllrrllrr {β : Type} {inv : Inv} {k : Nat} {x0 x1 x3 x11 x12 x24 : Value} {h : AH} {K : XE → Act → AH → Option β} : kCode env 29 false inv k (cr (cr (cl (cl (cr (cr (cl (cl (cr (cr c29)))))))))) (act 26 [(0, x0), (1, x1), (3, x3), (11, x11), (12, x12), (24, x24)]) h K = brV x24 (kCode env 29 false inv k (cl (cr (cr (cl (cl (cr (cr (cl (cl (cr (cr c29))))))))))) (act 26 [(0, x0), (1, x1), (3, x3), (11, x11), (12, x12), (24, x24)]) h K) (kCode env 29 false inv k (cr (cr (cr (cl (cl (cr (cr (cl (cl (cr (cr c29))))))))))) (act 26 [(0, x0), (1, x1), (3, x3), (11, x11), (12, x12), (24, x24)]) h K) := (k_cond (by kernel_rfl)).trans (by kernel_rfl)
theorem r29_5 {β : Type} {inv : Inv} {k : Nat} {x0 x1 x3 x11 x12 x24 : Value} {h : AH} {K : XE → Act → AH → Option β} : kCode env 29 false inv k (cr (cr (cr (cl (cl (cr (cr c29))))))) (act 26 [(0, x0), (1, x1), (3, x3), (11, x11), (12, x12), (24, x24)]) h K =
    bnd (pBin Try.prog Go.BinOp.add 3 (Go.Operand.tmp 12) (Go.Operand.const (Go.Value.int Go.IntKind.i64 1)) x12 (Go.Value.int Go.IntKind.i64 1)) fun x25 =>
    K .normal (act 26 [(0, x0), (1, x1), (3, x3), (11, x11), (12, x25)]) h := (k_reg (by kernel_rfl)).trans (by kernel_rfl)
noncomputable def F29_lrr {β : Type} (inv : Inv) (k : Nat) : Nat → Value → Value → Value → Value → Value → AH → (Value → Value → Value → Value → Value → Value → AH → Option β) → (Value → Value → Value → Value → Value → Value → AH → Option β) → Option β
  | 0, _, _, _, _, _, _, _, _ => none
  | j + 1, x0, x1, x3, x11, x12, h, ke0, kr =>
    bnd (pBin Try.prog Go.BinOp.lss 3 (Go.Operand.tmp 12) (Go.Operand.tmp 11) x12 x11) fun x13 =>
    brV x13
    (bnd (pLoad Try.prog 25 x1 h) fun x17 =>
    bnd (pLoad Try.prog 3 x3 h) fun x19 =>
    bnd (pBin Try.prog Go.BinOp.mul 3 (Go.Operand.tmp 18) (Go.Operand.tmp 19) x12 x19) fun x20 =>
    bnd (pLoad Try.prog 3 x3 h) fun x21 =>
    bnd (inv (.func 30) #[] #[x17, x20, x21] h) fun x22 =>
    bnd (callV inv x0 #[x12, x22.1] x22.2) fun x23 =>
    bnd (pUn Try.prog Go.UnOp.not x23.1) fun x24 =>
    brV x24
    (kr x0 x1 x3 x11 x12 x24 x23.2)
    (bnd (pBin Try.prog Go.BinOp.add 3 (Go.Operand.tmp 12) (Go.Operand.const (Go.Value.int Go.IntKind.i64 1)) x12 (Go.Value.int Go.IntKind.i64 1)) fun x25 =>
    F29_lrr inv k j x0 x1 x3 x11 x25 x23.2 ke0 kr))
    (ke0 x0 x1 x3 x11 x12 x13 h)
theorem F29_lrr_j {β : Type} {inv : Inv} {k : Nat} (j : Nat) {x0 x1 x3 x11 x12 : Value} {h : AH} {K : XE → Act → AH → Option β} : kLoop (kCode env 29 false inv k (cl (cl (cr (cr c29))))) j (act 26 [(0, x0), (1, x1), (3, x3), (11, x11), (12, x12)]) h K = F29_lrr inv k j x0 x1 x3 x11 x12 h (fun y0 y1 y3 y11 y12 y13 h => K (.exit 0) (act 26 [(0, y0), (1, y1), (3, y3), (11, y11), (12, y12), (13, y13)]) h) (fun y0 y1 y3 y11 y12 y24 h => K .ret (act 26 [(0, y0), (1, y1), (3, y3), (11, y11), (12, y12), (24, y24)]) h) := by
      induction j generalizing x0 x1 x3 x11 x12 h with
      | zero => rfl
      | succ j ih =>
        unfold F29_lrr
        simp only [kLoop, k_seq (E := env) (f := 29) (c := (cl (cl (cr (cr c29))))) (by kernel_rfl), r29_2, k_seq (E := env) (f := 29) (c := (cr (cl (cl (cr (cr c29)))))) (by kernel_rfl), b29_lrllrr, k_skip (E := env) (f := 29) (c := (cl (cl (cr (cl (cl (cr (cr c29)))))))) (by kernel_rfl), k_seq (E := env) (f := 29) (c := (cr (cr (cl (cl (cr (cr c29))))))) (by kernel_rfl), k_block (E := env) (f := 29) (c := (cl (cr (cr (cl (cl (cr (cr c29)))))))) (id := 1) (by kernel_rfl), k_seq (E := env) (f := 29) (c := (cl (cl (cr (cr (cl (cl (cr (cr c29))))))))) (by kernel_rfl), r29_3, k_seq (E := env) (f := 29) (c := (cr (cl (cl (cr (cr (cl (cl (cr (cr c29)))))))))) (by kernel_rfl), r29_4, b29_rrllrrllrr, k_ret (E := env) (f := 29) (c := (cl (cr (cr (cl (cl (cr (cr (cl (cl (cr (cr c29)))))))))))) (by kernel_rfl), k_skip (E := env) (f := 29) (c := (cr (cr (cr (cl (cl (cr (cr (cl (cl (cr (cr c29)))))))))))) (by kernel_rfl), r29_5, k_exit (E := env) (f := 29) (c := (cr (cl (cr (cl (cl (cr (cr c29)))))))) (id := 0) (by kernel_rfl), ih, reduceIte, reduceCtorEq, XE.exit.injEq, Nat.reduceEqDiff] <;> kernel_rfl
theorem F29_lrr_eq {β : Type} {inv : Inv} {k : Nat} {x0 x1 x3 x11 x12 : Value} {h : AH} {K : XE → Act → AH → Option β} : kCode env 29 false inv k (cl (cr (cr c29))) (act 26 [(0, x0), (1, x1), (3, x3), (11, x11), (12, x12)]) h K = F29_lrr inv k k x0 x1 x3 x11 x12 h (fun y0 y1 y3 y11 y12 y13 h => K (.exit 0) (act 26 [(0, y0), (1, y1), (3, y3), (11, y11), (12, y12), (13, y13)]) h) (fun y0 y1 y3 y11 y12 y24 h => K .ret (act 26 [(0, y0), (1, y1), (3, y3), (11, y11), (12, y12), (24, y24)]) h) := (k_loop (by kernel_rfl)).trans (F29_lrr_j k)
theorem res29_1 {x0 x1 x3 x11 x12 x13 : Value} {h : AH} : resOfFn env.P 29 .normal (act 26 [(0, x0), (1, x1), (3, x3), (11, x11), (12, x12), (13, x13)]) h = some (.tuple #[], h) := (resOfFn_k (by kernel_rfl) (by kernel_rfl)).trans (by kernel_rfl)
theorem res29_2 {x0 x1 x3 x11 x12 x24 : Value} {h : AH} : resOfFn env.P 29 .ret (act 26 [(0, x0), (1, x1), (3, x3), (11, x11), (12, x12), (24, x24)]) h = some (.tuple #[], h) := (resOfFn_k (by kernel_rfl) (by kernel_rfl)).trans (by kernel_rfl)
/-- shadowbook/packs.Each$1 -/
noncomputable def F29 (inv : Inv) (k : Nat) (x0 x1 x2 x3 : Value) (h : AH) : Option (Value × AH) :=
    bnd (pLoad Try.prog 25 x1 h) fun x6 =>
    bnd (pLoad Try.prog 3 x2 h) fun x7 =>
    bnd (pLoad Try.prog 3 x3 h) fun x8 =>
    bnd (inv (.func 25) #[] #[x6, x7, x8] h) fun x9 =>
    bnd (pBin Try.prog Go.BinOp.neq 26 (Go.Operand.tmp 9) (Go.Operand.const (Go.Value.int Go.IntKind.i64 0)) x9.1 (Go.Value.int Go.IntKind.i64 0)) fun x10 =>
    brV x10
    (some (.tuple #[], x9.2))
    (bnd (pLoad Try.prog 3 x2 x9.2) fun x11 =>
    F29_lrr inv k k x0 x1 x3 x11 (Go.Value.int Go.IntKind.i64 0) x9.2
    (fun y0 y1 y3 y11 y12 y13 h =>
    some (.tuple #[], h))
    (fun y0_1 y1_2 y3_3 y11_4 y12_5 y24 h_6 =>
    some (.tuple #[], h_6)))
theorem F29_eq {inv : Inv} {k : Nat} {x0 x1 x2 x3 : Value} {h : AH} : eFun env k inv 29 #[x0, x1, x2, x3] h = F29 inv k x0 x1 x2 x3 h := by
      refine (eFun_k2 (by kernel_rfl) (by kernel_rfl) (by kernel_rfl) (a := act 26 [(0, x0), (1, x1), (2, x2), (3, x3)]) (c := c29) (by kernel_rfl) (by kernel_rfl)).trans ?_
      unfold F29
      simp only [k_seq (E := env) (f := 29) (c := c29) (by kernel_rfl), k_seq (E := env) (f := 29) (c := (cl c29)) (by kernel_rfl), r29_0, b29_rl, k_ret (E := env) (f := 29) (c := (cl (cr (cl c29)))) (by kernel_rfl), res29_0, k_skip (E := env) (f := 29) (c := (cr (cr (cl c29)))) (by kernel_rfl), k_seq (E := env) (f := 29) (c := (cr c29)) (by kernel_rfl), r29_1, k_block (E := env) (f := 29) (c := (cr (cr c29))) (id := 0) (by kernel_rfl), F29_lrr_eq, res29_1, res29_2, reduceIte, reduceCtorEq, XE.exit.injEq, Nat.reduceEqDiff] <;> kernel_rfl
theorem F29_call {k : Nat} {x0 x1 x2 x3 : Value} {h : AH} : eInv env (k + 1) (.func 29) #[] #[x0, x1, x2, x3] h = F29 (eInv env k) k x0 x1 x2 x3 h := (inv_func (by kernel_rfl)).trans F29_eq
noncomputable def c30 : Code := codeOf Try.prog 30
theorem r30_0 {β : Type} {inv : Inv} {k : Nat} {x0 x1 x2 : Value} {h : AH} {K : XE → Act → AH → Option β} : kCode env 30 false inv k (cl c30) (act 32 [(0, x0), (1, x1), (2, x2)]) h K =
    K .normal (act 32 [(0, x0), (1, x1), (2, x2), (6, (Go.Value.int Go.IntKind.u64 0))]) h := (k_reg (by kernel_rfl)).trans (by kernel_rfl)
theorem r30_1 {β : Type} {inv : Inv} {k : Nat} {x0 x1 x2 x6 : Value} {h : AH} {K : XE → Act → AH → Option β} : kCode env 30 false inv k (cl (cl (cr c30))) (act 32 [(0, x0), (1, x1), (2, x2), (6, x6)]) h K =
    K .normal (act 32 [(0, x0), (1, x1), (6, x6), (9, x2), (10, (Go.Value.int Go.IntKind.i64 0))]) h := (k_reg (by kernel_rfl)).trans (by kernel_rfl)
theorem r30_2 {β : Type} {inv : Inv} {k : Nat} {x0 x1 x6 x9 x10 : Value} {h : AH} {K : XE → Act → AH → Option β} : kCode env 30 false inv k (cl (cl (cl (cr (cl (cr c30)))))) (act 32 [(0, x0), (1, x1), (6, x6), (9, x9), (10, x10)]) h K =
    bnd (pBin Try.prog Go.BinOp.lss 3 (Go.Operand.tmp 10) (Go.Operand.tmp 9) x10 x9) fun x11 =>
    K .normal (act 32 [(0, x0), (1, x1), (6, x6), (9, x9), (10, x10), (11, x11)]) h := (k_reg (by kernel_rfl)).trans (by kernel_rfl)
theorem b30_lrllrlr {β : Type} {inv : Inv} {k : Nat} {x0 x1 x6 x9 x10 x11 : Value} {h : AH} {K : XE → Act → AH → Option β} : kCode env 30 false inv k (cl (cr (cl (cl (cr (cl (cr c30))))))) (act 32 [(0, x0), (1, x1), (6, x6), (9, x9), (10, x10), (11, x11)]) h K = brV x11 (kCode env 30 false inv k (cl (cl (cr (cl (cl (cr (cl (cr c30)))))))) (act 32 [(0, x0), (1, x1), (6, x6), (9, x9), (10, x10), (11, x11)]) h K) (kCode env 30 false inv k (cr (cl (cr (cl (cl (cr (cl (cr c30)))))))) (act 32 [(0, x0), (1, x1), (6, x6), (9, x9), (10, x10), (11, x11)]) h K) := (k_cond (by kernel_rfl)).trans (by kernel_rfl)
theorem r30_3 {β : Type} {inv : Inv} {k : Nat} {x0 x1 x6 x9 x10 x11 : Value} {h : AH} {K : XE → Act → AH → Option β} : kCode env 30 false inv k (cl (cl (cl (cr (cr (cl (cl (cr (cl (cr c30)))))))))) (act 32 [(0, x0), (1, x1), (6, x6), (9, x9), (10, x10), (11, x11)]) h K =
    K .normal (act 32 [(0, x0), (1, x1), (6, x6), (7, x10), (9, x9), (10, x10)]) h := (k_reg (by kernel_rfl)).trans (by kernel_rfl)
theorem r30_4 {β : Type} {inv : Inv} {k : Nat} {x0 x1 x6 x7 x9 x10 : Value} {h : AH} {K : XE → Act → AH → Option β} : kCode env 30 false inv k (cl (cr (cl (cl (cr (cr (cl (cl (cr (cl (cr c30))))))))))) (act 32 [(0, x0), (1, x1), (6, x6), (7, x7), (9, x9), (10, x10)]) h K =
    bnd (pBin Try.prog Go.BinOp.add 3 (Go.Operand.tmp 13) (Go.Operand.tmp 14) x1 x7) fun x15 =>
    K .normal (act 32 [(0, x0), (1, x1), (6, x6), (7, x7), (8, x15), (9, x9), (10, x10)]) h := (k_reg (by kernel_rfl)).trans (by kernel_rfl)
theorem r30_5 {β : Type} {inv : Inv} {k : Nat} {x0 x1 x6 x7 x8 x9 x10 : Value} {h : AH} {K : XE → Act → AH → Option β} : kCode env 30 false inv k (cr (cr (cl (cl (cr (cr (cl (cl (cr (cl (cr c30))))))))))) (act 32 [(0, x0), (1, x1), (6, x6), (7, x7), (8, x8), (9, x9), (10, x10)]) h K =
    bnd (pBin Try.prog Go.BinOp.quo 3 (Go.Operand.tmp 18) (Go.Operand.const (Go.Value.int Go.IntKind.i64 8)) x8 (Go.Value.int Go.IntKind.i64 8)) fun x19 =>
    bnd (pIndexAddr Try.prog 25 x0 x19) fun x20 =>
    bnd (pLoad Try.prog 5 x20 h) fun x21 =>
    bnd (pBin Try.prog Go.BinOp.rem 3 (Go.Operand.tmp 22) (Go.Operand.const (Go.Value.int Go.IntKind.i64 8)) x8 (Go.Value.int Go.IntKind.i64 8)) fun x23 =>
    bnd (pBin Try.prog Go.BinOp.shr 5 (Go.Operand.tmp 21) (Go.Operand.tmp 23) x21 x23) fun x24 =>
    bnd (pBin Try.prog Go.BinOp.and 5 (Go.Operand.tmp 24) (Go.Operand.const (Go.Value.int Go.IntKind.u8 1)) x24 (Go.Value.int Go.IntKind.u8 1)) fun x25 =>
    bnd (pConv Try.prog 5 30 x25 h) fun x26 =>
    bnd (pBin Try.prog Go.BinOp.shl 30 (Go.Operand.tmp 26) (Go.Operand.tmp 27) x26 x7) fun x28 =>
    bnd (pBin Try.prog Go.BinOp.or 30 (Go.Operand.tmp 16) (Go.Operand.tmp 28) x6 x28) fun x29 =>
    K .normal (act 32 [(0, x0), (1, x1), (6, x29), (9, x9), (10, x10)]) h := (k_reg (by kernel_rfl)).trans (by kernel_rfl)
theorem r30_6 {β : Type} {inv : Inv} {k : Nat} {x0 x1 x6 x9 x10 : Value} {h : AH} {K : XE → Act → AH → Option β} : kCode env 30 false inv k (cr (cr (cr (cl (cl (cr (cl (cr c30)))))))) (act 32 [(0, x0), (1, x1), (6, x6), (9, x9), (10, x10)]) h K =
    bnd (pBin Try.prog Go.BinOp.add 3 (Go.Operand.tmp 10) (Go.Operand.const (Go.Value.int Go.IntKind.i64 1)) x10 (Go.Value.int Go.IntKind.i64 1)) fun x30 =>
    K .normal (act 32 [(0, x0), (1, x1), (6, x6), (9, x9), (10, x30)]) h := (k_reg (by kernel_rfl)).trans (by kernel_rfl)
noncomputable def F30_lrlr {β : Type} (inv : Inv) (k : Nat) : Nat → Value → Value → Value → Value → Value → AH → (Value → Value → Value → Value → Value → Value → AH → Option β) → Option β
  | 0, _, _, _, _, _, _, _ => none
  | j + 1, x0, x1, x6, x9, x10, h, ke0 =>
    bnd (pBin Try.prog Go.BinOp.lss 3 (Go.Operand.tmp 10) (Go.Operand.tmp 9) x10 x9) fun x11 =>
    brV x11
    (bnd (pBin Try.prog Go.BinOp.add 3 (Go.Operand.tmp 13) (Go.Operand.tmp 14) x1 x10) fun x15 =>
    bnd (pBin Try.prog Go.BinOp.quo 3 (Go.Operand.tmp 18) (Go.Operand.const (Go.Value.int Go.IntKind.i64 8)) x15 (Go.Value.int Go.IntKind.i64 8)) fun x19 =>
    bnd (pIndexAddr Try.prog 25 x0 x19) fun x20 =>
    bnd (pLoad Try.prog 5 x20 h) fun x21 =>
    bnd (pBin Try.prog Go.BinOp.rem 3 (Go.Operand.tmp 22) (Go.Operand.const (Go.Value.int Go.IntKind.i64 8)) x15 (Go.Value.int Go.IntKind.i64 8)) fun x23 =>
    bnd (pBin Try.prog Go.BinOp.shr 5 (Go.Operand.tmp 21) (Go.Operand.tmp 23) x21 x23) fun x24 =>
    bnd (pBin Try.prog Go.BinOp.and 5 (Go.Operand.tmp 24) (Go.Operand.const (Go.Value.int Go.IntKind.u8 1)) x24 (Go.Value.int Go.IntKind.u8 1)) fun x25 =>
    bnd (pConv Try.prog 5 30 x25 h) fun x26 =>
    bnd (pBin Try.prog Go.BinOp.shl 30 (Go.Operand.tmp 26) (Go.Operand.tmp 27) x26 x10) fun x28 =>
    bnd (pBin Try.prog Go.BinOp.or 30 (Go.Operand.tmp 16) (Go.Operand.tmp 28) x6 x28) fun x29 =>
    bnd (pBin Try.prog Go.BinOp.add 3 (Go.Operand.tmp 10) (Go.Operand.const (Go.Value.int Go.IntKind.i64 1)) x10 (Go.Value.int Go.IntKind.i64 1)) fun x30 =>
    F30_lrlr inv k j x0 x1 x29 x9 x30 h ke0)
    (ke0 x0 x1 x6 x9 x10 x11 h)
theorem F30_lrlr_j {β : Type} {inv : Inv} {k : Nat} (j : Nat) {x0 x1 x6 x9 x10 : Value} {h : AH} {K : XE → Act → AH → Option β} : kLoop (kCode env 30 false inv k (cl (cl (cr (cl (cr c30)))))) j (act 32 [(0, x0), (1, x1), (6, x6), (9, x9), (10, x10)]) h K = F30_lrlr inv k j x0 x1 x6 x9 x10 h (fun y0 y1 y6 y9 y10 y11 h => K (.exit 0) (act 32 [(0, y0), (1, y1), (6, y6), (9, y9), (10, y10), (11, y11)]) h) := by
      induction j generalizing x0 x1 x6 x9 x10 h with
      | zero => rfl
      | succ j ih =>
        unfold F30_lrlr
        simp only [kLoop, k_seq (E := env) (f := 30) (c := (cl (cl (cr (cl (cr c30)))))) (by kernel_rfl), r30_2, k_seq (E := env) (f := 30) (c := (cr (cl (cl (cr (cl (cr c30))))))) (by kernel_rfl), b30_lrllrlr, k_skip (E := env) (f := 30) (c := (cl (cl (cr (cl (cl (cr (cl (cr c30))))))))) (by kernel_rfl), k_seq (E := env) (f := 30) (c := (cr (cr (cl (cl (cr (cl (cr c30)))))))) (by kernel_rfl), k_block (E := env) (f := 30) (c := (cl (cr (cr (cl (cl (cr (cl (cr c30))))))))) (id := 1) (by kernel_rfl), k_seq (E := env) (f := 30) (c := (cl (cl (cr (cr (cl (cl (cr (cl (cr c30)))))))))) (by kernel_rfl), r30_3, k_seq (E := env) (f := 30) (c := (cr (cl (cl (cr (cr (cl (cl (cr (cl (cr c30))))))))))) (by kernel_rfl), r30_4, r30_5, r30_6, k_exit (E := env) (f := 30) (c := (cr (cl (cr (cl (cl (cr (cl (cr c30))))))))) (id := 0) (by kernel_rfl), ih, reduceIte, reduceCtorEq, XE.exit.injEq, Nat.reduceEqDiff] <;> kernel_rfl
theorem F30_lrlr_eq {β : Type} {inv : Inv} {k : Nat} {x0 x1 x6 x9 x10 : Value} {h : AH} {K : XE → Act → AH → Option β} : kCode env 30 false inv k (cl (cr (cl (cr c30)))) (act 32 [(0, x0), (1, x1), (6, x6), (9, x9), (10, x10)]) h K = F30_lrlr inv k k x0 x1 x6 x9 x10 h (fun y0 y1 y6 y9 y10 y11 h => K (.exit 0) (act 32 [(0, y0), (1, y1), (6, y6), (9, y9), (10, y10), (11, y11)]) h) := (k_loop (by kernel_rfl)).trans (F30_lrlr_j k)
theorem r30_7 {β : Type} {inv : Inv} {k : Nat} {x0 x1 x6 x9 x10 x11 : Value} {h : AH} {K : XE → Act → AH → Option β} : kCode env 30 false inv k (cl (cr (cr c30))) (act 32 [(0, x0), (1, x1), (6, x6), (9, x9), (10, x10), (11, x11)]) h K =
    K .normal (act 32 [(6, x6)]) h := (k_reg (by kernel_rfl)).trans (by kernel_rfl)
theorem res30_0 {x6 : Value} {h : AH} : resOfFn env.P 30 .ret (act 32 [(6, x6)]) h = some (x6, h) := (resOfFn_k (by kernel_rfl) (by kernel_rfl)).trans (by kernel_rfl)
/-- shadowbook/packs.at -/
noncomputable def F30 (inv : Inv) (k : Nat) (x0 x1 x2 : Value) (h : AH) : Option (Value × AH) :=
    F30_lrlr inv k k x0 x1 (Go.Value.int Go.IntKind.u64 0) x2 (Go.Value.int Go.IntKind.i64 0) h
    (fun y0 y1 y6 y9 y10 y11 h =>
    some (y6, h))
theorem F30_eq {inv : Inv} {k : Nat} {x0 x1 x2 : Value} {h : AH} : eFun env k inv 30 #[x0, x1, x2] h = F30 inv k x0 x1 x2 h := by
      refine (eFun_k2 (by kernel_rfl) (by kernel_rfl) (by kernel_rfl) (a := act 32 [(0, x0), (1, x1), (2, x2)]) (c := c30) (by kernel_rfl) (by kernel_rfl)).trans ?_
      unfold F30
      simp only [k_seq (E := env) (f := 30) (c := c30) (by kernel_rfl), r30_0, k_seq (E := env) (f := 30) (c := (cr c30)) (by kernel_rfl), k_seq (E := env) (f := 30) (c := (cl (cr c30))) (by kernel_rfl), r30_1, k_block (E := env) (f := 30) (c := (cr (cl (cr c30)))) (id := 0) (by kernel_rfl), F30_lrlr_eq, k_seq (E := env) (f := 30) (c := (cr (cr c30))) (by kernel_rfl), r30_7, k_ret (E := env) (f := 30) (c := (cr (cr (cr c30)))) (by kernel_rfl), res30_0, reduceIte, reduceCtorEq, XE.exit.injEq, Nat.reduceEqDiff] <;> kernel_rfl
theorem F30_call {k : Nat} {x0 x1 x2 : Value} {h : AH} : eInv env (k + 1) (.func 30) #[] #[x0, x1, x2] h = F30 (eInv env k) k x0 x1 x2 h := (inv_func (by kernel_rfl)).trans F30_eq
end Go.Proofs.Ytodokclcffejfaa.Sh
