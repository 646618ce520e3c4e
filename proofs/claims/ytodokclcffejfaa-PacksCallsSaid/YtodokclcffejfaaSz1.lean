/- Shallow functions, part 1. Printed by a program of the prover's own from the loaded program; Lean checks it. -/
import Derived.Test.YtodokclcffejfaaSz0
set_option linter.unusedVariables false
set_option linter.unusedSimpArgs false
set_option maxRecDepth 100000
namespace Go.Proofs.Ytodokclcffejfaa.Sh
open Go Go.RowKit Go.Proofs.Ev
noncomputable def c3 : Code := codeOf Try.prog 3
theorem r3_0 {β : Type} {inv : Inv} {k : Nat} {x0 x1 x2 : Value} {h : AH} {K : XE → Act → AH → Option β} : kCode env 3 false inv k (cl c3) (act 70 [(0, x0), (1, x1), (2, x2)]) h K =
    K .normal (act 70 [(0, x0), (1, x1), (2, x2)]) h := (k_reg (by kernel_rfl)).trans (by kernel_rfl)
theorem r3_1 {β : Type} {inv : Inv} {k : Nat} {x0 x1 x2 : Value} {h : AH} {K : XE → Act → AH → Option β} : kCode env 3 false inv k (cl (cl (cr c3))) (act 70 [(0, x0), (1, x1), (2, x2)]) h K =
    bnd (inv (.func 8) #[] #[] h) fun x13 =>
    bnd (pUn Try.prog Go.UnOp.not x13.1) fun x14 =>
    K .normal (act 70 [(0, x0), (1, x1), (2, x2), (14, x14)]) x13.2 := (k_reg (by kernel_rfl)).trans (by kernel_rfl)
theorem b3_rlr {β : Type} {inv : Inv} {k : Nat} {x0 x1 x2 x14 : Value} {h : AH} {K : XE → Act → AH → Option β} : kCode env 3 false inv k (cr (cl (cr c3))) (act 70 [(0, x0), (1, x1), (2, x2), (14, x14)]) h K = brV x14 (kCode env 3 false inv k (cl (cr (cl (cr c3)))) (act 70 [(0, x0), (1, x1), (2, x2), (14, x14)]) h K) (kCode env 3 false inv k (cr (cr (cl (cr c3)))) (act 70 [(0, x0), (1, x1), (2, x2), (14, x14)]) h K) := (k_cond (by kernel_rfl)).trans (by kernel_rfl)
theorem r3_2 {β : Type} {inv : Inv} {k : Nat} {x0 x1 x2 x14 : Value} {h : AH} {K : XE → Act → AH → Option β} : kCode env 3 false inv k (cl (cl (cr (cl (cr c3))))) (act 70 [(0, x0), (1, x1), (2, x2), (14, x14)]) h K =
    K .normal (act 70 [(6, (Go.Value.bool false))]) h := (k_reg (by kernel_rfl)).trans (by kernel_rfl)
theorem res3_0 {x6 : Value} {h : AH} : resOfFn env.P 3 .ret (act 70 [(6, x6)]) h = some (x6, h) := (resOfFn_k (by kernel_rfl) (by kernel_rfl)).trans (by kernel_rfl)
theorem r3_3 {β : Type} {inv : Inv} {k : Nat} {x0 x1 x2 x14 : Value} {h : AH} {K : XE → Act → AH → Option β} : kCode env 3 false inv k (cl (cl (cr (cr c3)))) (act 70 [(0, x0), (1, x1), (2, x2), (14, x14)]) h K =
    bnd (pLen Try.prog #[22] x0 h) fun x16 =>
    bnd (pBin Try.prog Go.BinOp.gtr 3 (Go.Operand.tmp 16) (Go.Operand.const (Go.Value.int Go.IntKind.i64 100)) x16 (Go.Value.int Go.IntKind.i64 100)) fun x17 =>
    bnd (gd (some x17) false h (some (x1, h))) fun x19 =>
    bnd (gd (some x17) false x19.2 (lt (pLen Try.prog #[22] x19.1 x19.2) x19.2)) fun x20 =>
    bnd (gd (some x17) false x20.2 (lt (pBin Try.prog Go.BinOp.gtr 3 (Go.Operand.tmp 20) (Go.Operand.const (Go.Value.int Go.IntKind.i64 100)) x20.1 (Go.Value.int Go.IntKind.i64 100)) x20.2)) fun x21 =>
    bnd (pickV x17 (Go.Value.bool true) x21.1) fun x22 =>
    K .normal (act 70 [(0, x0), (1, x1), (2, x2), (22, x22)]) x21.2 := (k_reg (by kernel_rfl)).trans (by kernel_rfl)
theorem b3_rlrr {β : Type} {inv : Inv} {k : Nat} {x0 x1 x2 x22 : Value} {h : AH} {K : XE → Act → AH → Option β} : kCode env 3 false inv k (cr (cl (cr (cr c3)))) (act 70 [(0, x0), (1, x1), (2, x2), (22, x22)]) h K = brV x22 (kCode env 3 false inv k (cl (cr (cl (cr (cr c3))))) (act 70 [(0, x0), (1, x1), (2, x2), (22, x22)]) h K) (kCode env 3 false inv k (cr (cr (cl (cr (cr c3))))) (act 70 [(0, x0), (1, x1), (2, x2), (22, x22)]) h K) := (k_cond (by kernel_rfl)).trans (by kernel_rfl)
theorem r3_4 {β : Type} {inv : Inv} {k : Nat} {x0 x1 x2 x22 : Value} {h : AH} {K : XE → Act → AH → Option β} : kCode env 3 false inv k (cl (cl (cr (cl (cr (cr c3)))))) (act 70 [(0, x0), (1, x1), (2, x2), (22, x22)]) h K =
    K .normal (act 70 [(6, (Go.Value.bool true))]) h := (k_reg (by kernel_rfl)).trans (by kernel_rfl)
theorem r3_5 {β : Type} {inv : Inv} {k : Nat} {x0 x1 x2 x22 : Value} {h : AH} {K : XE → Act → AH → Option β} : kCode env 3 false inv k (cl (cr (cr (cr c3)))) (act 70 [(0, x0), (1, x1), (2, x2), (22, x22)]) h K =
    bnd (inv (.func 9) #[] #[x2, (Go.Value.int Go.IntKind.i64 65)] h) fun x24 =>
    K .normal (act 70 [(0, x0), (1, x1), (2, x24.1)]) x24.2 := (k_reg (by kernel_rfl)).trans (by kernel_rfl)
theorem r3_6 {β : Type} {inv : Inv} {k : Nat} {x0 x1 x2 : Value} {h : AH} {K : XE → Act → AH → Option β} : kCode env 3 false inv k (cl (cr (cr (cr (cr c3))))) (act 70 [(0, x0), (1, x1), (2, x2)]) h K =
    bnd (inv (.func 10) #[] #[x0, x2] h) fun x28 =>
    bnd (pExtract x28.1 0) fun x29 =>
    bnd (pExtract x28.1 1) fun x30 =>
    K .normal (act 70 [(0, x0), (1, x1), (2, x2), (7, x29), (8, x30)]) x28.2 := (k_reg (by kernel_rfl)).trans (by kernel_rfl)
theorem r3_7 {β : Type} {inv : Inv} {k : Nat} {x0 x1 x2 x7 x8 : Value} {h : AH} {K : XE → Act → AH → Option β} : kCode env 3 false inv k (cl (cr (cr (cr (cr (cr c3)))))) (act 70 [(0, x0), (1, x1), (2, x2), (7, x7), (8, x8)]) h K =
    bnd (inv (.func 10) #[] #[x1, x2] h) fun x34 =>
    bnd (pExtract x34.1 0) fun x35 =>
    bnd (pExtract x34.1 1) fun x36 =>
    K .normal (act 70 [(0, x0), (1, x1), (2, x2), (7, x7), (8, x8), (9, x35), (10, x36)]) x34.2 := (k_reg (by kernel_rfl)).trans (by kernel_rfl)
theorem r3_8 {β : Type} {inv : Inv} {k : Nat} {x0 x1 x2 x7 x8 x9 x10 : Value} {h : AH} {K : XE → Act → AH → Option β} : kCode env 3 false inv k (cl (cr (cr (cr (cr (cr (cr c3))))))) (act 70 [(0, x0), (1, x1), (2, x2), (7, x7), (8, x8), (9, x9), (10, x10)]) h K =
    bnd (inv (.func 11) #[] #[x0] h) fun x39 =>
    bnd (pAppend Try.prog #[22, 22] x39.1 x1 x39.2) fun x41 =>
    bnd (inv (.func 10) #[] #[x41.1, x2] x41.2) fun x43 =>
    bnd (pExtract x43.1 0) fun x44 =>
    bnd (pExtract x43.1 1) fun x45 =>
    K .normal (act 70 [(0, x0), (2, x2), (7, x7), (8, x8), (9, x9), (10, x10), (11, x44), (12, x45)]) x43.2 := (k_reg (by kernel_rfl)).trans (by kernel_rfl)
theorem r3_9 {β : Type} {inv : Inv} {k : Nat} {x0 x2 x7 x8 x9 x10 x11 x12 : Value} {h : AH} {K : XE → Act → AH → Option β} : kCode env 3 false inv k (cl (cl (cr (cr (cr (cr (cr (cr (cr c3))))))))) (act 70 [(0, x0), (2, x2), (7, x7), (8, x8), (9, x9), (10, x10), (11, x11), (12, x12)]) h K =
    bnd (pBin Try.prog Go.BinOp.eql 26 (Go.Operand.tmp 46) (Go.Operand.const (Go.Value.int Go.IntKind.i64 0)) x8 (Go.Value.int Go.IntKind.i64 0)) fun x47 =>
    bnd (gd (some x47) true h (some (x10, h))) fun x49 =>
    bnd (gd (some x47) true x49.2 (lt (pBin Try.prog Go.BinOp.eql 26 (Go.Operand.tmp 49) (Go.Operand.const (Go.Value.int Go.IntKind.i64 0)) x49.1 (Go.Value.int Go.IntKind.i64 0)) x49.2)) fun x50 =>
    bnd (pickV x47 x50.1 (Go.Value.bool false)) fun x51 =>
    bnd (pBin Try.prog Go.BinOp.eql 26 (Go.Operand.tmp 52) (Go.Operand.const (Go.Value.int Go.IntKind.i64 0)) x12 (Go.Value.int Go.IntKind.i64 0)) fun x53 =>
    bnd (pBin Try.prog Go.BinOp.neq 4 (Go.Operand.tmp 51) (Go.Operand.tmp 53) x51 x53) fun x54 =>
    K .normal (act 70 [(0, x0), (2, x2), (7, x7), (9, x9), (11, x11), (12, x12), (54, x54)]) x50.2 := (k_reg (by kernel_rfl)).trans (by kernel_rfl)
theorem b3_rlrrrrrrr {β : Type} {inv : Inv} {k : Nat} {x0 x2 x7 x9 x11 x12 x54 : Value} {h : AH} {K : XE → Act → AH → Option β} : kCode env 3 false inv k (cr (cl (cr (cr (cr (cr (cr (cr (cr c3))))))))) (act 70 [(0, x0), (2, x2), (7, x7), (9, x9), (11, x11), (12, x12), (54, x54)]) h K = brV x54 (kCode env 3 false inv k (cl (cr (cl (cr (cr (cr (cr (cr (cr (cr c3)))))))))) (act 70 [(0, x0), (2, x2), (7, x7), (9, x9), (11, x11), (12, x12), (54, x54)]) h K) (kCode env 3 false inv k (cr (cr (cl (cr (cr (cr (cr (cr (cr (cr c3)))))))))) (act 70 [(0, x0), (2, x2), (7, x7), (9, x9), (11, x11), (12, x12), (54, x54)]) h K) := (k_cond (by kernel_rfl)).trans (by kernel_rfl)
theorem r3_10 {β : Type} {inv : Inv} {k : Nat} {x0 x2 x7 x9 x11 x12 x54 : Value} {h : AH} {K : XE → Act → AH → Option β} : kCode env 3 false inv k (cl (cl (cr (cl (cr (cr (cr (cr (cr (cr (cr c3))))))))))) (act 70 [(0, x0), (2, x2), (7, x7), (9, x9), (11, x11), (12, x12), (54, x54)]) h K =
    K .normal (act 70 [(6, (Go.Value.bool false))]) h := (k_reg (by kernel_rfl)).trans (by kernel_rfl)
theorem r3_11 {β : Type} {inv : Inv} {k : Nat} {x0 x2 x7 x9 x11 x12 x54 : Value} {h : AH} {K : XE → Act → AH → Option β} : kCode env 3 false inv k (cl (cl (cr (cr (cr (cr (cr (cr (cr (cr c3)))))))))) (act 70 [(0, x0), (2, x2), (7, x7), (9, x9), (11, x11), (12, x12), (54, x54)]) h K =
    bnd (pBin Try.prog Go.BinOp.neq 26 (Go.Operand.tmp 55) (Go.Operand.const (Go.Value.int Go.IntKind.i64 0)) x12 (Go.Value.int Go.IntKind.i64 0)) fun x56 =>
    bnd (gd (some x56) false h (some (x0, h))) fun x58 =>
    bnd (gd (some x56) false x58.2 (lt (pLen Try.prog #[22] x58.1 x58.2) x58.2)) fun x59 =>
    bnd (gd (some x56) false x59.2 (some (x2, x59.2))) fun x60 =>
    bnd (gd (some x56) false x60.2 (lt (pBin Try.prog Go.BinOp.mul 3 (Go.Operand.tmp 59) (Go.Operand.tmp 60) x59.1 x60.1) x60.2)) fun x61 =>
    bnd (gd (some x56) false x61.2 (lt (pBin Try.prog Go.BinOp.rem 3 (Go.Operand.tmp 61) (Go.Operand.const (Go.Value.int Go.IntKind.i64 8)) x61.1 (Go.Value.int Go.IntKind.i64 8)) x61.2)) fun x62 =>
    bnd (gd (some x56) false x62.2 (lt (pBin Try.prog Go.BinOp.neq 3 (Go.Operand.tmp 62) (Go.Operand.const (Go.Value.int Go.IntKind.i64 0)) x62.1 (Go.Value.int Go.IntKind.i64 0)) x62.2)) fun x63 =>
    bnd (pickV x56 (Go.Value.bool true) x63.1) fun x64 =>
    K .normal (act 70 [(7, x7), (9, x9), (11, x11), (64, x64)]) x63.2 := (k_reg (by kernel_rfl)).trans (by kernel_rfl)
theorem b3_rlrrrrrrrr {β : Type} {inv : Inv} {k : Nat} {x7 x9 x11 x64 : Value} {h : AH} {K : XE → Act → AH → Option β} : kCode env 3 false inv k (cr (cl (cr (cr (cr (cr (cr (cr (cr (cr c3)))))))))) (act 70 [(7, x7), (9, x9), (11, x11), (64, x64)]) h K = brV x64 (kCode env 3 false inv k (cl (cr (cl (cr (cr (cr (cr (cr (cr (cr (cr c3))))))))))) (act 70 [(7, x7), (9, x9), (11, x11), (64, x64)]) h K) (kCode env 3 false inv k (cr (cr (cl (cr (cr (cr (cr (cr (cr (cr (cr c3))))))))))) (act 70 [(7, x7), (9, x9), (11, x11), (64, x64)]) h K) := (k_cond (by kernel_rfl)).trans (by kernel_rfl)
theorem r3_12 {β : Type} {inv : Inv} {k : Nat} {x7 x9 x11 x64 : Value} {h : AH} {K : XE → Act → AH → Option β} : kCode env 3 false inv k (cl (cl (cr (cl (cr (cr (cr (cr (cr (cr (cr (cr c3)))))))))))) (act 70 [(7, x7), (9, x9), (11, x11), (64, x64)]) h K =
    K .normal (act 70 [(6, (Go.Value.bool true))]) h := (k_reg (by kernel_rfl)).trans (by kernel_rfl)
theorem r3_13 {β : Type} {inv : Inv} {k : Nat} {x7 x9 x11 x64 : Value} {h : AH} {K : XE → Act → AH → Option β} : kCode env 3 false inv k (cl (cr (cr (cr (cr (cr (cr (cr (cr (cr c3)))))))))) (act 70 [(7, x7), (9, x9), (11, x11), (64, x64)]) h K =
    bnd (pAppend Try.prog #[25, 25] x7 x9 h) fun x68 =>
    bnd (inv (.func 12) #[] #[x11, x68.1] x68.2) fun x69 =>
    K .normal (act 70 [(6, x69.1)]) x69.2 := (k_reg (by kernel_rfl)).trans (by kernel_rfl)
/-- shadowbook/shadowbooklaw05.PacksJoins -/
noncomputable def F3 (inv : Inv) (k : Nat) (x0 x1 x2 : Value) (h : AH) : Option (Value × AH) :=
    bnd (inv (.func 8) #[] #[] h) fun x13 =>
    bnd (pUn Try.prog Go.UnOp.not x13.1) fun x14 =>
    brV x14
    (some ((Go.Value.bool false), x13.2))
    (bnd (pLen Try.prog #[22] x0 x13.2) fun x16 =>
    bnd (pBin Try.prog Go.BinOp.gtr 3 (Go.Operand.tmp 16) (Go.Operand.const (Go.Value.int Go.IntKind.i64 100)) x16 (Go.Value.int Go.IntKind.i64 100)) fun x17 =>
    bnd (gd (some x17) false x13.2 (some (x1, x13.2))) fun x19 =>
    bnd (gd (some x17) false x19.2 (lt (pLen Try.prog #[22] x19.1 x19.2) x19.2)) fun x20 =>
    bnd (gd (some x17) false x20.2 (lt (pBin Try.prog Go.BinOp.gtr 3 (Go.Operand.tmp 20) (Go.Operand.const (Go.Value.int Go.IntKind.i64 100)) x20.1 (Go.Value.int Go.IntKind.i64 100)) x20.2)) fun x21 =>
    bnd (pickV x17 (Go.Value.bool true) x21.1) fun x22 =>
    brV x22
    (some ((Go.Value.bool true), x21.2))
    (bnd (inv (.func 9) #[] #[x2, (Go.Value.int Go.IntKind.i64 65)] x21.2) fun x24 =>
    bnd (inv (.func 10) #[] #[x0, x24.1] x24.2) fun x28 =>
    bnd (pExtract x28.1 0) fun x29 =>
    bnd (pExtract x28.1 1) fun x30 =>
    bnd (inv (.func 10) #[] #[x1, x24.1] x28.2) fun x34 =>
    bnd (pExtract x34.1 0) fun x35 =>
    bnd (pExtract x34.1 1) fun x36 =>
    bnd (inv (.func 11) #[] #[x0] x34.2) fun x39 =>
    bnd (pAppend Try.prog #[22, 22] x39.1 x1 x39.2) fun x41 =>
    bnd (inv (.func 10) #[] #[x41.1, x24.1] x41.2) fun x43 =>
    bnd (pExtract x43.1 0) fun x44 =>
    bnd (pExtract x43.1 1) fun x45 =>
    bnd (pBin Try.prog Go.BinOp.eql 26 (Go.Operand.tmp 46) (Go.Operand.const (Go.Value.int Go.IntKind.i64 0)) x30 (Go.Value.int Go.IntKind.i64 0)) fun x47 =>
    bnd (gd (some x47) true x43.2 (some (x36, x43.2))) fun x49 =>
    bnd (gd (some x47) true x49.2 (lt (pBin Try.prog Go.BinOp.eql 26 (Go.Operand.tmp 49) (Go.Operand.const (Go.Value.int Go.IntKind.i64 0)) x49.1 (Go.Value.int Go.IntKind.i64 0)) x49.2)) fun x50 =>
    bnd (pickV x47 x50.1 (Go.Value.bool false)) fun x51 =>
    bnd (pBin Try.prog Go.BinOp.eql 26 (Go.Operand.tmp 52) (Go.Operand.const (Go.Value.int Go.IntKind.i64 0)) x45 (Go.Value.int Go.IntKind.i64 0)) fun x53 =>
    bnd (pBin Try.prog Go.BinOp.neq 4 (Go.Operand.tmp 51) (Go.Operand.tmp 53) x51 x53) fun x54 =>
    brV x54
    (some ((Go.Value.bool false), x50.2))
    (bnd (pBin Try.prog Go.BinOp.neq 26 (Go.Operand.tmp 55) (Go.Operand.const (Go.Value.int Go.IntKind.i64 0)) x45 (Go.Value.int Go.IntKind.i64 0)) fun x56 =>
    bnd (gd (some x56) false x50.2 (some (x0, x50.2))) fun x58 =>
    bnd (gd (some x56) false x58.2 (lt (pLen Try.prog #[22] x58.1 x58.2) x58.2)) fun x59 =>
    bnd (gd (some x56) false x59.2 (some (x24.1, x59.2))) fun x60 =>
    bnd (gd (some x56) false x60.2 (lt (pBin Try.prog Go.BinOp.mul 3 (Go.Operand.tmp 59) (Go.Operand.tmp 60) x59.1 x60.1) x60.2)) fun x61 =>
    bnd (gd (some x56) false x61.2 (lt (pBin Try.prog Go.BinOp.rem 3 (Go.Operand.tmp 61) (Go.Operand.const (Go.Value.int Go.IntKind.i64 8)) x61.1 (Go.Value.int Go.IntKind.i64 8)) x61.2)) fun x62 =>
    bnd (gd (some x56) false x62.2 (lt (pBin Try.prog Go.BinOp.neq 3 (Go.Operand.tmp 62) (Go.Operand.const (Go.Value.int Go.IntKind.i64 0)) x62.1 (Go.Value.int Go.IntKind.i64 0)) x62.2)) fun x63 =>
    bnd (pickV x56 (Go.Value.bool true) x63.1) fun x64 =>
    brV x64
    (some ((Go.Value.bool true), x63.2))
    (bnd (pAppend Try.prog #[25, 25] x29 x35 x63.2) fun x68 =>
    bnd (inv (.func 12) #[] #[x44, x68.1] x68.2) fun x69 =>
    some (x69.1, x69.2)))))
theorem F3_eq {inv : Inv} {k : Nat} {x0 x1 x2 : Value} {h : AH} : eFun env k inv 3 #[x0, x1, x2] h = F3 inv k x0 x1 x2 h := by
      refine (eFun_k2 (by kernel_rfl) (by kernel_rfl) (by kernel_rfl) (a := act 70 [(0, x0), (1, x1), (2, x2)]) (c := c3) (by kernel_rfl) (by kernel_rfl)).trans ?_
      unfold F3
      simp only [k_seq (E := env) (f := 3) (c := c3) (by kernel_rfl), r3_0, k_seq (E := env) (f := 3) (c := (cr c3)) (by kernel_rfl), k_seq (E := env) (f := 3) (c := (cl (cr c3))) (by kernel_rfl), r3_1, b3_rlr, k_seq (E := env) (f := 3) (c := (cl (cr (cl (cr c3))))) (by kernel_rfl), r3_2, k_ret (E := env) (f := 3) (c := (cr (cl (cr (cl (cr c3)))))) (by kernel_rfl), res3_0, k_skip (E := env) (f := 3) (c := (cr (cr (cl (cr c3))))) (by kernel_rfl), k_seq (E := env) (f := 3) (c := (cr (cr c3))) (by kernel_rfl), k_seq (E := env) (f := 3) (c := (cl (cr (cr c3)))) (by kernel_rfl), r3_3, b3_rlrr, k_seq (E := env) (f := 3) (c := (cl (cr (cl (cr (cr c3)))))) (by kernel_rfl), r3_4, k_ret (E := env) (f := 3) (c := (cr (cl (cr (cl (cr (cr c3))))))) (by kernel_rfl), k_skip (E := env) (f := 3) (c := (cr (cr (cl (cr (cr c3)))))) (by kernel_rfl), k_seq (E := env) (f := 3) (c := (cr (cr (cr c3)))) (by kernel_rfl), r3_5, k_seq (E := env) (f := 3) (c := (cr (cr (cr (cr c3))))) (by kernel_rfl), r3_6, k_seq (E := env) (f := 3) (c := (cr (cr (cr (cr (cr c3)))))) (by kernel_rfl), r3_7, k_seq (E := env) (f := 3) (c := (cr (cr (cr (cr (cr (cr c3))))))) (by kernel_rfl), r3_8, k_seq (E := env) (f := 3) (c := (cr (cr (cr (cr (cr (cr (cr c3)))))))) (by kernel_rfl), k_seq (E := env) (f := 3) (c := (cl (cr (cr (cr (cr (cr (cr (cr c3))))))))) (by kernel_rfl), r3_9, b3_rlrrrrrrr, k_seq (E := env) (f := 3) (c := (cl (cr (cl (cr (cr (cr (cr (cr (cr (cr c3))))))))))) (by kernel_rfl), r3_10, k_ret (E := env) (f := 3) (c := (cr (cl (cr (cl (cr (cr (cr (cr (cr (cr (cr c3)))))))))))) (by kernel_rfl), k_skip (E := env) (f := 3) (c := (cr (cr (cl (cr (cr (cr (cr (cr (cr (cr c3))))))))))) (by kernel_rfl), k_seq (E := env) (f := 3) (c := (cr (cr (cr (cr (cr (cr (cr (cr c3))))))))) (by kernel_rfl), k_seq (E := env) (f := 3) (c := (cl (cr (cr (cr (cr (cr (cr (cr (cr c3)))))))))) (by kernel_rfl), r3_11, b3_rlrrrrrrrr, k_seq (E := env) (f := 3) (c := (cl (cr (cl (cr (cr (cr (cr (cr (cr (cr (cr c3)))))))))))) (by kernel_rfl), r3_12, k_ret (E := env) (f := 3) (c := (cr (cl (cr (cl (cr (cr (cr (cr (cr (cr (cr (cr c3))))))))))))) (by kernel_rfl), k_skip (E := env) (f := 3) (c := (cr (cr (cl (cr (cr (cr (cr (cr (cr (cr (cr c3)))))))))))) (by kernel_rfl), k_seq (E := env) (f := 3) (c := (cr (cr (cr (cr (cr (cr (cr (cr (cr c3)))))))))) (by kernel_rfl), r3_13, k_ret (E := env) (f := 3) (c := (cr (cr (cr (cr (cr (cr (cr (cr (cr (cr c3))))))))))) (by kernel_rfl), reduceIte, reduceCtorEq, XE.exit.injEq, Nat.reduceEqDiff] <;> kernel_rfl
theorem F3_call {k : Nat} {x0 x1 x2 : Value} {h : AH} : eInv env (k + 1) (.func 3) #[] #[x0, x1, x2] h = F3 (eInv env k) k x0 x1 x2 h := (inv_func (by kernel_rfl)).trans F3_eq
noncomputable def c5 : Code := codeOf Try.prog 5
theorem r5_0 {β : Type} {inv : Inv} {k : Nat} {x0 x1 x2 x3 : Value} {h : AH} {K : XE → Act → AH → Option β} : kCode env 5 false inv k (cl c5) (act 112 [(0, x0), (1, x1), (2, x2), (3, x3)]) h K =
    K .normal (act 112 [(0, x0), (1, x1), (2, x2), (3, x3)]) h := (k_reg (by kernel_rfl)).trans (by kernel_rfl)
theorem r5_1 {β : Type} {inv : Inv} {k : Nat} {x0 x1 x2 x3 : Value} {h : AH} {K : XE → Act → AH → Option β} : kCode env 5 false inv k (cl (cl (cr c5))) (act 112 [(0, x0), (1, x1), (2, x2), (3, x3)]) h K =
    bnd (inv (.func 8) #[] #[] h) fun x19 =>
    bnd (pUn Try.prog Go.UnOp.not x19.1) fun x20 =>
    K .normal (act 112 [(0, x0), (1, x1), (2, x2), (3, x3), (20, x20)]) x19.2 := (k_reg (by kernel_rfl)).trans (by kernel_rfl)
theorem b5_rlr {β : Type} {inv : Inv} {k : Nat} {x0 x1 x2 x3 x20 : Value} {h : AH} {K : XE → Act → AH → Option β} : kCode env 5 false inv k (cr (cl (cr c5))) (act 112 [(0, x0), (1, x1), (2, x2), (3, x3), (20, x20)]) h K = brV x20 (kCode env 5 false inv k (cl (cr (cl (cr c5)))) (act 112 [(0, x0), (1, x1), (2, x2), (3, x3), (20, x20)]) h K) (kCode env 5 false inv k (cr (cr (cl (cr c5)))) (act 112 [(0, x0), (1, x1), (2, x2), (3, x3), (20, x20)]) h K) := (k_cond (by kernel_rfl)).trans (by kernel_rfl)
theorem r5_2 {β : Type} {inv : Inv} {k : Nat} {x0 x1 x2 x3 x20 : Value} {h : AH} {K : XE → Act → AH → Option β} : kCode env 5 false inv k (cl (cl (cr (cl (cr c5))))) (act 112 [(0, x0), (1, x1), (2, x2), (3, x3), (20, x20)]) h K =
    K .normal (act 112 [(8, (Go.Value.bool false))]) h := (k_reg (by kernel_rfl)).trans (by kernel_rfl)
theorem res5_0 {x8 : Value} {h : AH} : resOfFn env.P 5 .ret (act 112 [(8, x8)]) h = some (x8, h) := (resOfFn_k (by kernel_rfl) (by kernel_rfl)).trans (by kernel_rfl)
theorem r5_3 {β : Type} {inv : Inv} {k : Nat} {x0 x1 x2 x3 x20 : Value} {h : AH} {K : XE → Act → AH → Option β} : kCode env 5 false inv k (cl (cl (cr (cr c5)))) (act 112 [(0, x0), (1, x1), (2, x2), (3, x3), (20, x20)]) h K =
    bnd (pLen Try.prog #[22] x0 h) fun x22 =>
    bnd (pBin Try.prog Go.BinOp.gtr 3 (Go.Operand.tmp 22) (Go.Operand.const (Go.Value.int Go.IntKind.i64 100)) x22 (Go.Value.int Go.IntKind.i64 100)) fun x23 =>
    bnd (gd (some x23) false h (some (x2, h))) fun x25 =>
    bnd (gd (some x23) false x25.2 (lt (pLen Try.prog #[25] x25.1 x25.2) x25.2)) fun x26 =>
    bnd (gd (some x23) false x26.2 (lt (pBin Try.prog Go.BinOp.gtr 3 (Go.Operand.tmp 26) (Go.Operand.const (Go.Value.int Go.IntKind.i64 100)) x26.1 (Go.Value.int Go.IntKind.i64 100)) x26.2)) fun x27 =>
    bnd (pickV x23 (Go.Value.bool true) x27.1) fun x28 =>
    bnd (gd (some x28) false x27.2 (some (x3, x27.2))) fun x30 =>
    bnd (gd (some x28) false x30.2 (lt (pBin Try.prog Go.BinOp.gtr 3 (Go.Operand.tmp 30) (Go.Operand.const (Go.Value.int Go.IntKind.i64 10000)) x30.1 (Go.Value.int Go.IntKind.i64 10000)) x30.2)) fun x31 =>
    bnd (gd (some x28) false x31.2 (some (x31.1, x31.2))) fun x32 =>
    bnd (gd (some x32.1) true x32.2 (some (x3, x32.2))) fun x33 =>
    bnd (gd (some x32.1) true x33.2 (lt (pBin Try.prog Go.BinOp.leq 3 (Go.Operand.tmp 33) (Go.Operand.const (Go.Value.int Go.IntKind.i64 65536)) x33.1 (Go.Value.int Go.IntKind.i64 65536)) x33.2)) fun x34 =>
    bnd (gd (some x28) false x34.2 (lt (pickV x32.1 x34.1 (Go.Value.bool false)) x34.2)) fun x35 =>
    bnd (pickV x28 (Go.Value.bool true) x35.1) fun x36 =>
    K .normal (act 112 [(0, x0), (1, x1), (2, x2), (3, x3), (36, x36)]) x35.2 := (k_reg (by kernel_rfl)).trans (by kernel_rfl)
theorem b5_rlrr {β : Type} {inv : Inv} {k : Nat} {x0 x1 x2 x3 x36 : Value} {h : AH} {K : XE → Act → AH → Option β} : kCode env 5 false inv k (cr (cl (cr (cr c5)))) (act 112 [(0, x0), (1, x1), (2, x2), (3, x3), (36, x36)]) h K = brV x36 (kCode env 5 false inv k (cl (cr (cl (cr (cr c5))))) (act 112 [(0, x0), (1, x1), (2, x2), (3, x3), (36, x36)]) h K) (kCode env 5 false inv k (cr (cr (cl (cr (cr c5))))) (act 112 [(0, x0), (1, x1), (2, x2), (3, x3), (36, x36)]) h K) := (k_cond (by kernel_rfl)).trans (by kernel_rfl)
theorem r5_4 {β : Type} {inv : Inv} {k : Nat} {x0 x1 x2 x3 x36 : Value} {h : AH} {K : XE → Act → AH → Option β} : kCode env 5 false inv k (cl (cl (cr (cl (cr (cr c5)))))) (act 112 [(0, x0), (1, x1), (2, x2), (3, x3), (36, x36)]) h K =
    K .normal (act 112 [(8, (Go.Value.bool true))]) h := (k_reg (by kernel_rfl)).trans (by kernel_rfl)
theorem r5_5 {β : Type} {inv : Inv} {k : Nat} {x0 x1 x2 x3 x36 : Value} {h : AH} {K : XE → Act → AH → Option β} : kCode env 5 false inv k (cl (cr (cr (cr c5)))) (act 112 [(0, x0), (1, x1), (2, x2), (3, x3), (36, x36)]) h K =
    bnd (inv (.func 10) #[] #[x0, x1] h) fun x40 =>
    bnd (pExtract x40.1 0) fun x41 =>
    bnd (pExtract x40.1 1) fun x42 =>
    K .normal (act 112 [(0, x0), (1, x1), (2, x2), (3, x3), (9, x41), (10, x42)]) x40.2 := (k_reg (by kernel_rfl)).trans (by kernel_rfl)
theorem r5_6 {β : Type} {inv : Inv} {k : Nat} {x0 x1 x2 x3 x9 x10 : Value} {h : AH} {K : XE → Act → AH → Option β} : kCode env 5 false inv k (cl (cr (cr (cr (cr c5))))) (act 112 [(0, x0), (1, x1), (2, x2), (3, x3), (9, x9), (10, x10)]) h K =
    bnd (inv (.func 17) #[] #[x0, x1] h) fun x46 =>
    bnd (pExtract x46.1 0) fun x47 =>
    bnd (pExtract x46.1 1) fun x48 =>
    K .normal (act 112 [(0, x0), (1, x1), (2, x2), (3, x3), (9, x9), (10, x10), (11, x47), (12, x48)]) x46.2 := (k_reg (by kernel_rfl)).trans (by kernel_rfl)
theorem r5_7 {β : Type} {inv : Inv} {k : Nat} {x0 x1 x2 x3 x9 x10 x11 x12 : Value} {h : AH} {K : XE → Act → AH → Option β} : kCode env 5 false inv k (cl (cr (cr (cr (cr (cr c5)))))) (act 112 [(0, x0), (1, x1), (2, x2), (3, x3), (9, x9), (10, x10), (11, x11), (12, x12)]) h K =
    bnd (inv (.func 13) #[] #[x2, x3, x1] h) fun x53 =>
    bnd (pExtract x53.1 0) fun x54 =>
    bnd (pExtract x53.1 1) fun x55 =>
    K .normal (act 112 [(0, x0), (1, x1), (2, x2), (3, x3), (9, x9), (10, x10), (11, x11), (12, x12), (13, x54), (14, x55)]) x53.2 := (k_reg (by kernel_rfl)).trans (by kernel_rfl)
theorem r5_8 {β : Type} {inv : Inv} {k : Nat} {x0 x1 x2 x3 x9 x10 x11 x12 x13 x14 : Value} {h : AH} {K : XE → Act → AH → Option β} : kCode env 5 false inv k (cl (cr (cr (cr (cr (cr (cr c5))))))) (act 112 [(0, x0), (1, x1), (2, x2), (3, x3), (9, x9), (10, x10), (11, x11), (12, x12), (13, x13), (14, x14)]) h K =
    bnd (inv (.func 18) #[] #[x2, x3, x1] h) fun x60 =>
    bnd (pExtract x60.1 0) fun x61 =>
    bnd (pExtract x60.1 1) fun x62 =>
    K .normal (act 112 [(0, x0), (1, x1), (2, x2), (3, x3), (9, x9), (10, x10), (11, x11), (12, x12), (13, x13), (14, x14), (15, x61), (16, x62)]) x60.2 := (k_reg (by kernel_rfl)).trans (by kernel_rfl)
theorem r5_9 {β : Type} {inv : Inv} {k : Nat} {x0 x1 x2 x3 x9 x10 x11 x12 x13 x14 x15 x16 : Value} {h : AH} {K : XE → Act → AH → Option β} : kCode env 5 false inv k (cl (cr (cr (cr (cr (cr (cr (cr c5)))))))) (act 112 [(0, x0), (1, x1), (2, x2), (3, x3), (9, x9), (10, x10), (11, x11), (12, x12), (13, x13), (14, x14), (15, x15), (16, x16)]) h K =
    bnd (inv (.func 19) #[] #[x2, x3, x1] h) fun x67 =>
    bnd (pExtract x67.1 0) fun x68 =>
    bnd (pExtract x67.1 1) fun x69 =>
    K .normal (act 112 [(0, x0), (1, x1), (3, x3), (9, x9), (10, x10), (11, x11), (12, x12), (13, x13), (14, x14), (15, x15), (16, x16), (17, x68), (18, x69)]) x67.2 := (k_reg (by kernel_rfl)).trans (by kernel_rfl)
theorem r5_10 {β : Type} {inv : Inv} {k : Nat} {x0 x1 x3 x9 x10 x11 x12 x13 x14 x15 x16 x17 x18 : Value} {h : AH} {K : XE → Act → AH → Option β} : kCode env 5 false inv k (cl (cr (cr (cr (cr (cr (cr (cr (cr c5))))))))) (act 112 [(0, x0), (1, x1), (3, x3), (9, x9), (10, x10), (11, x11), (12, x12), (13, x13), (14, x14), (15, x15), (16, x16), (17, x17), (18, x18)]) h K =
    bnd (inv (.func 12) #[] #[x9, x11] h) fun x72 =>
    bnd (gd (some x72.1) true x72.2 (some (x10, x72.2))) fun x74 =>
    bnd (gd (some x72.1) true x74.2 (some (x12, x74.2))) fun x75 =>
    bnd (gd (some x72.1) true x75.2 (lt (pBin Try.prog Go.BinOp.eql 26 (Go.Operand.tmp 74) (Go.Operand.tmp 75) x74.1 x75.1) x75.2)) fun x76 =>
    bnd (pickV x72.1 x76.1 (Go.Value.bool false)) fun x77 =>
    bnd (gd (some x77) true x76.2 (some (x13, x76.2))) fun x79 =>
    bnd (gd (some x77) true x79.2 (some (x15, x79.2))) fun x80 =>
    bnd (gd (some x77) true x80.2 (inv (.func 14) #[] #[x79.1, x80.1] x80.2)) fun x81 =>
    bnd (pickV x77 x81.1 (Go.Value.bool false)) fun x82 =>
    bnd (gd (some x82) true x81.2 (some (x14, x81.2))) fun x84 =>
    bnd (gd (some x82) true x84.2 (some (x16, x84.2))) fun x85 =>
    bnd (gd (some x82) true x85.2 (lt (pBin Try.prog Go.BinOp.eql 26 (Go.Operand.tmp 84) (Go.Operand.tmp 85) x84.1 x85.1) x85.2)) fun x86 =>
    bnd (pickV x82 x86.1 (Go.Value.bool false)) fun x87 =>
    bnd (gd (some x87) true x86.2 (some (x18, x86.2))) fun x89 =>
    bnd (pickV x87 x89.1 (Go.Value.bool false)) fun x90 =>
    bnd (gd (some x90) true x89.2 (some (x17, x89.2))) fun x92 =>
    bnd (gd (some x90) true x92.2 (some (x15, x92.2))) fun x93 =>
    bnd (gd (some x90) true x93.2 (inv (.func 14) #[] #[x92.1, x93.1] x93.2)) fun x94 =>
    bnd (pickV x90 x94.1 (Go.Value.bool false)) fun x95 =>
    bnd (gd (some x95) true x94.2 (some (x0, x94.2))) fun x97 =>
    bnd (gd (some x95) true x97.2 (inv (.func 15) #[] #[x97.1] x97.2)) fun x98 =>
    bnd (gd (some x95) true x98.2 (some (x0, x98.2))) fun x99 =>
    bnd (gd (some x95) true x99.2 (inv (.func 20) #[] #[x99.1] x99.2)) fun x100 =>
    bnd (gd (some x95) true x100.2 (lt (pBin Try.prog Go.BinOp.eql 3 (Go.Operand.tmp 98) (Go.Operand.tmp 100) x98.1 x100.1) x100.2)) fun x101 =>
    bnd (pickV x95 x101.1 (Go.Value.bool false)) fun x102 =>
    bnd (gd (some x102) true x101.2 (some (x3, x101.2))) fun x104 =>
    bnd (gd (some x102) true x104.2 (some (x1, x104.2))) fun x105 =>
    bnd (gd (some x102) true x105.2 (inv (.func 16) #[] #[x104.1, x105.1] x105.2)) fun x106 =>
    bnd (gd (some x102) true x106.2 (some (x3, x106.2))) fun x107 =>
    bnd (gd (some x102) true x107.2 (some (x1, x107.2))) fun x108 =>
    bnd (gd (some x102) true x108.2 (inv (.func 21) #[] #[x107.1, x108.1] x108.2)) fun x109 =>
    bnd (gd (some x102) true x109.2 (lt (pBin Try.prog Go.BinOp.eql 3 (Go.Operand.tmp 106) (Go.Operand.tmp 109) x106.1 x109.1) x109.2)) fun x110 =>
    bnd (pickV x102 x110.1 (Go.Value.bool false)) fun x111 =>
    K .normal (act 112 [(8, x111)]) x110.2 := (k_reg (by kernel_rfl)).trans (by kernel_rfl)
/-- shadowbook/shadowbooklaw05.PacksCalls -/
noncomputable def F5 (inv : Inv) (k : Nat) (x0 x1 x2 x3 : Value) (h : AH) : Option (Value × AH) :=
    bnd (inv (.func 8) #[] #[] h) fun x19 =>
    bnd (pUn Try.prog Go.UnOp.not x19.1) fun x20 =>
    brV x20
    (some ((Go.Value.bool false), x19.2))
    (bnd (pLen Try.prog #[22] x0 x19.2) fun x22 =>
    bnd (pBin Try.prog Go.BinOp.gtr 3 (Go.Operand.tmp 22) (Go.Operand.const (Go.Value.int Go.IntKind.i64 100)) x22 (Go.Value.int Go.IntKind.i64 100)) fun x23 =>
    bnd (gd (some x23) false x19.2 (some (x2, x19.2))) fun x25 =>
    bnd (gd (some x23) false x25.2 (lt (pLen Try.prog #[25] x25.1 x25.2) x25.2)) fun x26 =>
    bnd (gd (some x23) false x26.2 (lt (pBin Try.prog Go.BinOp.gtr 3 (Go.Operand.tmp 26) (Go.Operand.const (Go.Value.int Go.IntKind.i64 100)) x26.1 (Go.Value.int Go.IntKind.i64 100)) x26.2)) fun x27 =>
    bnd (pickV x23 (Go.Value.bool true) x27.1) fun x28 =>
    bnd (gd (some x28) false x27.2 (some (x3, x27.2))) fun x30 =>
    bnd (gd (some x28) false x30.2 (lt (pBin Try.prog Go.BinOp.gtr 3 (Go.Operand.tmp 30) (Go.Operand.const (Go.Value.int Go.IntKind.i64 10000)) x30.1 (Go.Value.int Go.IntKind.i64 10000)) x30.2)) fun x31 =>
    bnd (gd (some x28) false x31.2 (some (x31.1, x31.2))) fun x32 =>
    bnd (gd (some x32.1) true x32.2 (some (x3, x32.2))) fun x33 =>
    bnd (gd (some x32.1) true x33.2 (lt (pBin Try.prog Go.BinOp.leq 3 (Go.Operand.tmp 33) (Go.Operand.const (Go.Value.int Go.IntKind.i64 65536)) x33.1 (Go.Value.int Go.IntKind.i64 65536)) x33.2)) fun x34 =>
    bnd (gd (some x28) false x34.2 (lt (pickV x32.1 x34.1 (Go.Value.bool false)) x34.2)) fun x35 =>
    bnd (pickV x28 (Go.Value.bool true) x35.1) fun x36 =>
    brV x36
    (some ((Go.Value.bool true), x35.2))
    (bnd (inv (.func 10) #[] #[x0, x1] x35.2) fun x40 =>
    bnd (pExtract x40.1 0) fun x41 =>
    bnd (pExtract x40.1 1) fun x42 =>
    bnd (inv (.func 17) #[] #[x0, x1] x40.2) fun x46 =>
    bnd (pExtract x46.1 0) fun x47 =>
    bnd (pExtract x46.1 1) fun x48 =>
    bnd (inv (.func 13) #[] #[x2, x3, x1] x46.2) fun x53 =>
    bnd (pExtract x53.1 0) fun x54 =>
    bnd (pExtract x53.1 1) fun x55 =>
    bnd (inv (.func 18) #[] #[x2, x3, x1] x53.2) fun x60 =>
    bnd (pExtract x60.1 0) fun x61 =>
    bnd (pExtract x60.1 1) fun x62 =>
    bnd (inv (.func 19) #[] #[x2, x3, x1] x60.2) fun x67 =>
    bnd (pExtract x67.1 0) fun x68 =>
    bnd (pExtract x67.1 1) fun x69 =>
    bnd (inv (.func 12) #[] #[x41, x47] x67.2) fun x72 =>
    bnd (gd (some x72.1) true x72.2 (some (x42, x72.2))) fun x74 =>
    bnd (gd (some x72.1) true x74.2 (some (x48, x74.2))) fun x75 =>
    bnd (gd (some x72.1) true x75.2 (lt (pBin Try.prog Go.BinOp.eql 26 (Go.Operand.tmp 74) (Go.Operand.tmp 75) x74.1 x75.1) x75.2)) fun x76 =>
    bnd (pickV x72.1 x76.1 (Go.Value.bool false)) fun x77 =>
    bnd (gd (some x77) true x76.2 (some (x54, x76.2))) fun x79 =>
    bnd (gd (some x77) true x79.2 (some (x61, x79.2))) fun x80 =>
    bnd (gd (some x77) true x80.2 (inv (.func 14) #[] #[x79.1, x80.1] x80.2)) fun x81 =>
    bnd (pickV x77 x81.1 (Go.Value.bool false)) fun x82 =>
    bnd (gd (some x82) true x81.2 (some (x55, x81.2))) fun x84 =>
    bnd (gd (some x82) true x84.2 (some (x62, x84.2))) fun x85 =>
    bnd (gd (some x82) true x85.2 (lt (pBin Try.prog Go.BinOp.eql 26 (Go.Operand.tmp 84) (Go.Operand.tmp 85) x84.1 x85.1) x85.2)) fun x86 =>
    bnd (pickV x82 x86.1 (Go.Value.bool false)) fun x87 =>
    bnd (gd (some x87) true x86.2 (some (x69, x86.2))) fun x89 =>
    bnd (pickV x87 x89.1 (Go.Value.bool false)) fun x90 =>
    bnd (gd (some x90) true x89.2 (some (x68, x89.2))) fun x92 =>
    bnd (gd (some x90) true x92.2 (some (x61, x92.2))) fun x93 =>
    bnd (gd (some x90) true x93.2 (inv (.func 14) #[] #[x92.1, x93.1] x93.2)) fun x94 =>
    bnd (pickV x90 x94.1 (Go.Value.bool false)) fun x95 =>
    bnd (gd (some x95) true x94.2 (some (x0, x94.2))) fun x97 =>
    bnd (gd (some x95) true x97.2 (inv (.func 15) #[] #[x97.1] x97.2)) fun x98 =>
    bnd (gd (some x95) true x98.2 (some (x0, x98.2))) fun x99 =>
    bnd (gd (some x95) true x99.2 (inv (.func 20) #[] #[x99.1] x99.2)) fun x100 =>
    bnd (gd (some x95) true x100.2 (lt (pBin Try.prog Go.BinOp.eql 3 (Go.Operand.tmp 98) (Go.Operand.tmp 100) x98.1 x100.1) x100.2)) fun x101 =>
    bnd (pickV x95 x101.1 (Go.Value.bool false)) fun x102 =>
    bnd (gd (some x102) true x101.2 (some (x3, x101.2))) fun x104 =>
    bnd (gd (some x102) true x104.2 (some (x1, x104.2))) fun x105 =>
    bnd (gd (some x102) true x105.2 (inv (.func 16) #[] #[x104.1, x105.1] x105.2)) fun x106 =>
    bnd (gd (some x102) true x106.2 (some (x3, x106.2))) fun x107 =>
    bnd (gd (some x102) true x107.2 (some (x1, x107.2))) fun x108 =>
    bnd (gd (some x102) true x108.2 (inv (.func 21) #[] #[x107.1, x108.1] x108.2)) fun x109 =>
    bnd (gd (some x102) true x109.2 (lt (pBin Try.prog Go.BinOp.eql 3 (Go.Operand.tmp 106) (Go.Operand.tmp 109) x106.1 x109.1) x109.2)) fun x110 =>
    bnd (pickV x102 x110.1 (Go.Value.bool false)) fun x111 =>
    some (x111, x110.2)))
theorem F5_eq {inv : Inv} {k : Nat} {x0 x1 x2 x3 : Value} {h : AH} : eFun env k inv 5 #[x0, x1, x2, x3] h = F5 inv k x0 x1 x2 x3 h := by
      refine (eFun_k2 (by kernel_rfl) (by kernel_rfl) (by kernel_rfl) (a := act 112 [(0, x0), (1, x1), (2, x2), (3, x3)]) (c := c5) (by kernel_rfl) (by kernel_rfl)).trans ?_
      unfold F5
      simp only [k_seq (E := env) (f := 5) (c := c5) (by kernel_rfl), r5_0, k_seq (E := env) (f := 5) (c := (cr c5)) (by kernel_rfl), k_seq (E := env) (f := 5) (c := (cl (cr c5))) (by kernel_rfl), r5_1, b5_rlr, k_seq (E := env) (f := 5) (c := (cl (cr (cl (cr c5))))) (by kernel_rfl), r5_2, k_ret (E := env) (f := 5) (c := (cr (cl (cr (cl (cr c5)))))) (by kernel_rfl), res5_0, k_skip (E := env) (f := 5) (c := (cr (cr (cl (cr c5))))) (by kernel_rfl), k_seq (E := env) (f := 5) (c := (cr (cr c5))) (by kernel_rfl), k_seq (E := env) (f := 5) (c := (cl (cr (cr c5)))) (by kernel_rfl), r5_3, b5_rlrr, k_seq (E := env) (f := 5) (c := (cl (cr (cl (cr (cr c5)))))) (by kernel_rfl), r5_4, k_ret (E := env) (f := 5) (c := (cr (cl (cr (cl (cr (cr c5))))))) (by kernel_rfl), k_skip (E := env) (f := 5) (c := (cr (cr (cl (cr (cr c5)))))) (by kernel_rfl), k_seq (E := env) (f := 5) (c := (cr (cr (cr c5)))) (by kernel_rfl), r5_5, k_seq (E := env) (f := 5) (c := (cr (cr (cr (cr c5))))) (by kernel_rfl), r5_6, k_seq (E := env) (f := 5) (c := (cr (cr (cr (cr (cr c5)))))) (by kernel_rfl), r5_7, k_seq (E := env) (f := 5) (c := (cr (cr (cr (cr (cr (cr c5))))))) (by kernel_rfl), r5_8, k_seq (E := env) (f := 5) (c := (cr (cr (cr (cr (cr (cr (cr c5)))))))) (by kernel_rfl), r5_9, k_seq (E := env) (f := 5) (c := (cr (cr (cr (cr (cr (cr (cr (cr c5))))))))) (by kernel_rfl), r5_10, k_ret (E := env) (f := 5) (c := (cr (cr (cr (cr (cr (cr (cr (cr (cr c5)))))))))) (by kernel_rfl), reduceIte, reduceCtorEq, XE.exit.injEq, Nat.reduceEqDiff] <;> kernel_rfl
theorem F5_call {k : Nat} {x0 x1 x2 x3 : Value} {h : AH} : eInv env (k + 1) (.func 5) #[] #[x0, x1, x2, x3] h = F5 (eInv env k) k x0 x1 x2 x3 h := (inv_func (by kernel_rfl)).trans F5_eq
noncomputable def c6 : Code := codeOf Try.prog 6
theorem r6_0 {β : Type} {inv : Inv} {k : Nat} {x0 x1 x2 x3 : Value} {h : AH} {K : XE → Act → AH → Option β} : kCode env 6 false inv k (cl c6) (act 144 [(0, x0), (1, x1), (2, x2), (3, x3)]) h K =
    K .normal (act 144 [(0, x0), (1, x1), (2, x2), (3, x3)]) h := (k_reg (by kernel_rfl)).trans (by kernel_rfl)
theorem r6_1 {β : Type} {inv : Inv} {k : Nat} {x0 x1 x2 x3 : Value} {h : AH} {K : XE → Act → AH → Option β} : kCode env 6 false inv k (cl (cl (cr c6))) (act 144 [(0, x0), (1, x1), (2, x2), (3, x3)]) h K =
    bnd (inv (.func 8) #[] #[] h) fun x22 =>
    bnd (pUn Try.prog Go.UnOp.not x22.1) fun x23 =>
    K .normal (act 144 [(0, x0), (1, x1), (2, x2), (3, x3), (23, x23)]) x22.2 := (k_reg (by kernel_rfl)).trans (by kernel_rfl)
theorem b6_rlr {β : Type} {inv : Inv} {k : Nat} {x0 x1 x2 x3 x23 : Value} {h : AH} {K : XE → Act → AH → Option β} : kCode env 6 false inv k (cr (cl (cr c6))) (act 144 [(0, x0), (1, x1), (2, x2), (3, x3), (23, x23)]) h K = brV x23 (kCode env 6 false inv k (cl (cr (cl (cr c6)))) (act 144 [(0, x0), (1, x1), (2, x2), (3, x3), (23, x23)]) h K) (kCode env 6 false inv k (cr (cr (cl (cr c6)))) (act 144 [(0, x0), (1, x1), (2, x2), (3, x3), (23, x23)]) h K) := (k_cond (by kernel_rfl)).trans (by kernel_rfl)
theorem r6_2 {β : Type} {inv : Inv} {k : Nat} {x0 x1 x2 x3 x23 : Value} {h : AH} {K : XE → Act → AH → Option β} : kCode env 6 false inv k (cl (cl (cr (cl (cr c6))))) (act 144 [(0, x0), (1, x1), (2, x2), (3, x3), (23, x23)]) h K =
    K .normal (act 144 [(8, (Go.Value.bool false))]) h := (k_reg (by kernel_rfl)).trans (by kernel_rfl)
theorem res6_0 {x8 : Value} {h : AH} : resOfFn env.P 6 .ret (act 144 [(8, x8)]) h = some (x8, h) := (resOfFn_k (by kernel_rfl) (by kernel_rfl)).trans (by kernel_rfl)
theorem r6_3 {β : Type} {inv : Inv} {k : Nat} {x0 x1 x2 x3 x23 : Value} {h : AH} {K : XE → Act → AH → Option β} : kCode env 6 false inv k (cl (cl (cr (cr c6)))) (act 144 [(0, x0), (1, x1), (2, x2), (3, x3), (23, x23)]) h K =
    bnd (pLen Try.prog #[22] x0 h) fun x25 =>
    bnd (pBin Try.prog Go.BinOp.gtr 3 (Go.Operand.tmp 25) (Go.Operand.const (Go.Value.int Go.IntKind.i64 100)) x25 (Go.Value.int Go.IntKind.i64 100)) fun x26 =>
    bnd (gd (some x26) false h (some (x2, h))) fun x28 =>
    bnd (gd (some x26) false x28.2 (lt (pLen Try.prog #[25] x28.1 x28.2) x28.2)) fun x29 =>
    bnd (gd (some x26) false x29.2 (lt (pBin Try.prog Go.BinOp.gtr 3 (Go.Operand.tmp 29) (Go.Operand.const (Go.Value.int Go.IntKind.i64 100)) x29.1 (Go.Value.int Go.IntKind.i64 100)) x29.2)) fun x30 =>
    bnd (pickV x26 (Go.Value.bool true) x30.1) fun x31 =>
    bnd (gd (some x31) false x30.2 (some (x3, x30.2))) fun x33 =>
    bnd (gd (some x31) false x33.2 (lt (pBin Try.prog Go.BinOp.gtr 3 (Go.Operand.tmp 33) (Go.Operand.const (Go.Value.int Go.IntKind.i64 1000)) x33.1 (Go.Value.int Go.IntKind.i64 1000)) x33.2)) fun x34 =>
    bnd (pickV x31 (Go.Value.bool true) x34.1) fun x35 =>
    K .normal (act 144 [(0, x0), (1, x1), (2, x2), (3, x3), (35, x35)]) x34.2 := (k_reg (by kernel_rfl)).trans (by kernel_rfl)
theorem b6_rlrr {β : Type} {inv : Inv} {k : Nat} {x0 x1 x2 x3 x35 : Value} {h : AH} {K : XE → Act → AH → Option β} : kCode env 6 false inv k (cr (cl (cr (cr c6)))) (act 144 [(0, x0), (1, x1), (2, x2), (3, x3), (35, x35)]) h K = brV x35 (kCode env 6 false inv k (cl (cr (cl (cr (cr c6))))) (act 144 [(0, x0), (1, x1), (2, x2), (3, x3), (35, x35)]) h K) (kCode env 6 false inv k (cr (cr (cl (cr (cr c6))))) (act 144 [(0, x0), (1, x1), (2, x2), (3, x3), (35, x35)]) h K) := (k_cond (by kernel_rfl)).trans (by kernel_rfl)
theorem r6_4 {β : Type} {inv : Inv} {k : Nat} {x0 x1 x2 x3 x35 : Value} {h : AH} {K : XE → Act → AH → Option β} : kCode env 6 false inv k (cl (cl (cr (cl (cr (cr c6)))))) (act 144 [(0, x0), (1, x1), (2, x2), (3, x3), (35, x35)]) h K =
    K .normal (act 144 [(8, (Go.Value.bool true))]) h := (k_reg (by kernel_rfl)).trans (by kernel_rfl)
theorem r6_5 {β : Type} {inv : Inv} {k : Nat} {x0 x1 x2 x3 x35 : Value} {h : AH} {K : XE → Act → AH → Option β} : kCode env 6 false inv k (cl (cr (cr (cr c6)))) (act 144 [(0, x0), (1, x1), (2, x2), (3, x3), (35, x35)]) h K =
    bnd (inv (.func 15) #[] #[x0] h) fun x37 =>
    K .normal (act 144 [(0, x0), (1, x1), (2, x2), (3, x3), (9, x37.1)]) x37.2 := (k_reg (by kernel_rfl)).trans (by kernel_rfl)
theorem r6_6 {β : Type} {inv : Inv} {k : Nat} {x0 x1 x2 x3 x9 : Value} {h : AH} {K : XE → Act → AH → Option β} : kCode env 6 false inv k (cl (cr (cr (cr (cr c6))))) (act 144 [(0, x0), (1, x1), (2, x2), (3, x3), (9, x9)]) h K =
    bnd (inv (.func 10) #[] #[x0, x9] h) fun x41 =>
    bnd (pExtract x41.1 0) fun x42 =>
    bnd (pExtract x41.1 1) fun x43 =>
    K .normal (act 144 [(0, x0), (1, x1), (2, x2), (3, x3), (9, x9), (10, x42), (11, x43)]) x41.2 := (k_reg (by kernel_rfl)).trans (by kernel_rfl)
theorem r6_7 {β : Type} {inv : Inv} {k : Nat} {x0 x1 x2 x3 x9 x10 x11 : Value} {h : AH} {K : XE → Act → AH → Option β} : kCode env 6 false inv k (cl (cr (cr (cr (cr (cr c6)))))) (act 144 [(0, x0), (1, x1), (2, x2), (3, x3), (9, x9), (10, x10), (11, x11)]) h K =
    bnd (pLen Try.prog #[22] x0 h) fun x47 =>
    bnd (inv (.func 13) #[] #[x10, x47, x9] h) fun x49 =>
    bnd (pExtract x49.1 0) fun x50 =>
    bnd (pExtract x49.1 1) fun x51 =>
    K .normal (act 144 [(0, x0), (1, x1), (2, x2), (3, x3), (9, x9), (10, x10), (11, x11), (12, x50), (13, x51)]) x49.2 := (k_reg (by kernel_rfl)).trans (by kernel_rfl)
theorem r6_8 {β : Type} {inv : Inv} {k : Nat} {x0 x1 x2 x3 x9 x10 x11 x12 x13 : Value} {h : AH} {K : XE → Act → AH → Option β} : kCode env 6 false inv k (cl (cl (cr (cr (cr (cr (cr (cr c6)))))))) (act 144 [(0, x0), (1, x1), (2, x2), (3, x3), (9, x9), (10, x10), (11, x11), (12, x12), (13, x13)]) h K =
    bnd (pBin Try.prog Go.BinOp.neq 26 (Go.Operand.tmp 52) (Go.Operand.const (Go.Value.int Go.IntKind.i64 0)) x11 (Go.Value.int Go.IntKind.i64 0)) fun x53 =>
    bnd (gd (some x53) false h (some (x13, h))) fun x55 =>
    bnd (gd (some x53) false x55.2 (lt (pBin Try.prog Go.BinOp.neq 26 (Go.Operand.tmp 55) (Go.Operand.const (Go.Value.int Go.IntKind.i64 0)) x55.1 (Go.Value.int Go.IntKind.i64 0)) x55.2)) fun x56 =>
    bnd (pickV x53 (Go.Value.bool true) x56.1) fun x57 =>
    bnd (gd (some x57) false x56.2 (some (x12, x56.2))) fun x59 =>
    bnd (gd (some x57) false x59.2 (some (x0, x59.2))) fun x60 =>
    bnd (gd (some x57) false x60.2 (inv (.func 14) #[] #[x59.1, x60.1] x60.2)) fun x61 =>
    bnd (gd (some x57) false x61.2 (lt (pUn Try.prog Go.UnOp.not x61.1) x61.2)) fun x62 =>
    bnd (pickV x57 (Go.Value.bool true) x62.1) fun x63 =>
    bnd (gd (some x63) false x62.2 (some (x10, x62.2))) fun x65 =>
    bnd (gd (some x63) false x65.2 (lt (pLen Try.prog #[25] x65.1 x65.2) x65.2)) fun x66 =>
    bnd (gd (some x63) false x66.2 (some (x0, x66.2))) fun x67 =>
    bnd (gd (some x63) false x67.2 (lt (pLen Try.prog #[22] x67.1 x67.2) x67.2)) fun x68 =>
    bnd (gd (some x63) false x68.2 (some (x9, x68.2))) fun x69 =>
    bnd (gd (some x63) false x69.2 (inv (.func 16) #[] #[x68.1, x69.1] x69.2)) fun x70 =>
    bnd (gd (some x63) false x70.2 (lt (pBin Try.prog Go.BinOp.neq 3 (Go.Operand.tmp 66) (Go.Operand.tmp 70) x66.1 x70.1) x70.2)) fun x71 =>
    bnd (pickV x63 (Go.Value.bool true) x71.1) fun x72 =>
    K .normal (act 144 [(0, x0), (1, x1), (2, x2), (3, x3), (9, x9), (72, x72)]) x71.2 := (k_reg (by kernel_rfl)).trans (by kernel_rfl)
theorem b6_rlrrrrrr {β : Type} {inv : Inv} {k : Nat} {x0 x1 x2 x3 x9 x72 : Value} {h : AH} {K : XE → Act → AH → Option β} : kCode env 6 false inv k (cr (cl (cr (cr (cr (cr (cr (cr c6)))))))) (act 144 [(0, x0), (1, x1), (2, x2), (3, x3), (9, x9), (72, x72)]) h K = brV x72 (kCode env 6 false inv k (cl (cr (cl (cr (cr (cr (cr (cr (cr c6))))))))) (act 144 [(0, x0), (1, x1), (2, x2), (3, x3), (9, x9), (72, x72)]) h K) (kCode env 6 false inv k (cr (cr (cl (cr (cr (cr (cr (cr (cr c6))))))))) (act 144 [(0, x0), (1, x1), (2, x2), (3, x3), (9, x9), (72, x72)]) h K) := (k_cond (by kernel_rfl)).trans (by kernel_rfl)
theorem r6_9 {β : Type} {inv : Inv} {k : Nat} {x0 x1 x2 x3 x9 x72 : Value} {h : AH} {K : XE → Act → AH → Option β} : kCode env 6 false inv k (cl (cl (cr (cl (cr (cr (cr (cr (cr (cr c6)))))))))) (act 144 [(0, x0), (1, x1), (2, x2), (3, x3), (9, x9), (72, x72)]) h K =
    K .normal (act 144 [(8, (Go.Value.bool false))]) h := (k_reg (by kernel_rfl)).trans (by kernel_rfl)
theorem r6_10 {β : Type} {inv : Inv} {k : Nat} {x0 x1 x2 x3 x9 x72 : Value} {h : AH} {K : XE → Act → AH → Option β} : kCode env 6 false inv k (cl (cr (cr (cr (cr (cr (cr (cr c6)))))))) (act 144 [(0, x0), (1, x1), (2, x2), (3, x3), (9, x9), (72, x72)]) h K =
    bnd (inv (.func 10) #[] #[x0, x1] h) fun x76 =>
    bnd (pExtract x76.1 0) fun x77 =>
    bnd (pExtract x76.1 1) fun x78 =>
    K .normal (act 144 [(0, x0), (1, x1), (2, x2), (3, x3), (9, x9), (14, x77), (15, x78)]) x76.2 := (k_reg (by kernel_rfl)).trans (by kernel_rfl)
theorem r6_11 {β : Type} {inv : Inv} {k : Nat} {x0 x1 x2 x3 x9 x14 x15 : Value} {h : AH} {K : XE → Act → AH → Option β} : kCode env 6 false inv k (cl (cl (cr (cr (cr (cr (cr (cr (cr (cr c6)))))))))) (act 144 [(0, x0), (1, x1), (2, x2), (3, x3), (9, x9), (14, x14), (15, x15)]) h K =
    bnd (pBin Try.prog Go.BinOp.eql 26 (Go.Operand.tmp 79) (Go.Operand.const (Go.Value.int Go.IntKind.i64 0)) x15 (Go.Value.int Go.IntKind.i64 0)) fun x80 =>
    bnd (pBin Try.prog Go.BinOp.geq 3 (Go.Operand.tmp 81) (Go.Operand.tmp 82) x1 x9) fun x83 =>
    bnd (gd (some x83) true h (some (x1, h))) fun x85 =>
    bnd (gd (some x83) true x85.2 (lt (pBin Try.prog Go.BinOp.leq 3 (Go.Operand.tmp 85) (Go.Operand.const (Go.Value.int Go.IntKind.i64 64)) x85.1 (Go.Value.int Go.IntKind.i64 64)) x85.2)) fun x86 =>
    bnd (pickV x83 x86.1 (Go.Value.bool false)) fun x87 =>
    bnd (pBin Try.prog Go.BinOp.neq 4 (Go.Operand.tmp 80) (Go.Operand.tmp 87) x80 x87) fun x88 =>
    K .normal (act 144 [(0, x0), (1, x1), (2, x2), (3, x3), (14, x14), (15, x15), (88, x88)]) x86.2 := (k_reg (by kernel_rfl)).trans (by kernel_rfl)
theorem b6_rlrrrrrrrr {β : Type} {inv : Inv} {k : Nat} {x0 x1 x2 x3 x14 x15 x88 : Value} {h : AH} {K : XE → Act → AH → Option β} : kCode env 6 false inv k (cr (cl (cr (cr (cr (cr (cr (cr (cr (cr c6)))))))))) (act 144 [(0, x0), (1, x1), (2, x2), (3, x3), (14, x14), (15, x15), (88, x88)]) h K = brV x88 (kCode env 6 false inv k (cl (cr (cl (cr (cr (cr (cr (cr (cr (cr (cr c6))))))))))) (act 144 [(0, x0), (1, x1), (2, x2), (3, x3), (14, x14), (15, x15), (88, x88)]) h K) (kCode env 6 false inv k (cr (cr (cl (cr (cr (cr (cr (cr (cr (cr (cr c6))))))))))) (act 144 [(0, x0), (1, x1), (2, x2), (3, x3), (14, x14), (15, x15), (88, x88)]) h K) := (k_cond (by kernel_rfl)).trans (by kernel_rfl)
theorem r6_12 {β : Type} {inv : Inv} {k : Nat} {x0 x1 x2 x3 x14 x15 x88 : Value} {h : AH} {K : XE → Act → AH → Option β} : kCode env 6 false inv k (cl (cl (cr (cl (cr (cr (cr (cr (cr (cr (cr (cr c6)))))))))))) (act 144 [(0, x0), (1, x1), (2, x2), (3, x3), (14, x14), (15, x15), (88, x88)]) h K =
    K .normal (act 144 [(8, (Go.Value.bool false))]) h := (k_reg (by kernel_rfl)).trans (by kernel_rfl)
theorem r6_13 {β : Type} {inv : Inv} {k : Nat} {x0 x1 x2 x3 x14 x15 x88 : Value} {h : AH} {K : XE → Act → AH → Option β} : kCode env 6 false inv k (cl (cl (cr (cr (cr (cr (cr (cr (cr (cr (cr c6))))))))))) (act 144 [(0, x0), (1, x1), (2, x2), (3, x3), (14, x14), (15, x15), (88, x88)]) h K =
    bnd (pBin Try.prog Go.BinOp.eql 26 (Go.Operand.tmp 89) (Go.Operand.const (Go.Value.int Go.IntKind.i64 0)) x15 (Go.Value.int Go.IntKind.i64 0)) fun x90 =>
    K .normal (act 144 [(0, x0), (1, x1), (2, x2), (3, x3), (14, x14), (90, x90)]) h := (k_reg (by kernel_rfl)).trans (by kernel_rfl)
theorem b6_rlrrrrrrrrr {β : Type} {inv : Inv} {k : Nat} {x0 x1 x2 x3 x14 x90 : Value} {h : AH} {K : XE → Act → AH → Option β} : kCode env 6 false inv k (cr (cl (cr (cr (cr (cr (cr (cr (cr (cr (cr c6))))))))))) (act 144 [(0, x0), (1, x1), (2, x2), (3, x3), (14, x14), (90, x90)]) h K = brV x90 (kCode env 6 false inv k (cl (cr (cl (cr (cr (cr (cr (cr (cr (cr (cr (cr c6)))))))))))) (act 144 [(0, x0), (1, x1), (2, x2), (3, x3), (14, x14), (90, x90)]) h K) (kCode env 6 false inv k (cr (cr (cl (cr (cr (cr (cr (cr (cr (cr (cr (cr c6)))))))))))) (act 144 [(0, x0), (1, x1), (2, x2), (3, x3), (14, x14), (90, x90)]) h K) := (k_cond (by kernel_rfl)).trans (by kernel_rfl)
theorem r6_14 {β : Type} {inv : Inv} {k : Nat} {x0 x1 x2 x3 x14 x90 : Value} {h : AH} {K : XE → Act → AH → Option β} : kCode env 6 false inv k (cl (cl (cr (cl (cr (cr (cr (cr (cr (cr (cr (cr (cr c6))))))))))))) (act 144 [(0, x0), (1, x1), (2, x2), (3, x3), (14, x14), (90, x90)]) h K =
    bnd (pLen Try.prog #[22] x0 h) fun x94 =>
    bnd (inv (.func 13) #[] #[x14, x94, x1] h) fun x96 =>
    bnd (pExtract x96.1 0) fun x97 =>
    bnd (pExtract x96.1 1) fun x98 =>
    K .normal (act 144 [(0, x0), (1, x1), (2, x2), (3, x3), (16, x97), (17, x98)]) x96.2 := (k_reg (by kernel_rfl)).trans (by kernel_rfl)
theorem r6_15 {β : Type} {inv : Inv} {k : Nat} {x0 x1 x2 x3 x16 x17 : Value} {h : AH} {K : XE → Act → AH → Option β} : kCode env 6 false inv k (cl (cr (cl (cr (cl (cr (cr (cr (cr (cr (cr (cr (cr (cr c6)))))))))))))) (act 144 [(0, x0), (1, x1), (2, x2), (3, x3), (16, x16), (17, x17)]) h K =
    bnd (pBin Try.prog Go.BinOp.neq 26 (Go.Operand.tmp 99) (Go.Operand.const (Go.Value.int Go.IntKind.i64 0)) x17 (Go.Value.int Go.IntKind.i64 0)) fun x100 =>
    bnd (gd (some x100) false h (some (x16, h))) fun x102 =>
    bnd (gd (some x100) false x102.2 (some (x0, x102.2))) fun x103 =>
    bnd (gd (some x100) false x103.2 (inv (.func 14) #[] #[x102.1, x103.1] x103.2)) fun x104 =>
    bnd (gd (some x100) false x104.2 (lt (pUn Try.prog Go.UnOp.not x104.1) x104.2)) fun x105 =>
    bnd (pickV x100 (Go.Value.bool true) x105.1) fun x106 =>
    K .normal (act 144 [(1, x1), (2, x2), (3, x3), (106, x106)]) x105.2 := (k_reg (by kernel_rfl)).trans (by kernel_rfl)
theorem b6_rrlrlrrrrrrrrr {β : Type} {inv : Inv} {k : Nat} {x1 x2 x3 x106 : Value} {h : AH} {K : XE → Act → AH → Option β} : kCode env 6 false inv k (cr (cr (cl (cr (cl (cr (cr (cr (cr (cr (cr (cr (cr (cr c6)))))))))))))) (act 144 [(1, x1), (2, x2), (3, x3), (106, x106)]) h K = brV x106 (kCode env 6 false inv k (cl (cr (cr (cl (cr (cl (cr (cr (cr (cr (cr (cr (cr (cr (cr c6))))))))))))))) (act 144 [(1, x1), (2, x2), (3, x3), (106, x106)]) h K) (kCode env 6 false inv k (cr (cr (cr (cl (cr (cl (cr (cr (cr (cr (cr (cr (cr (cr (cr c6))))))))))))))) (act 144 [(1, x1), (2, x2), (3, x3), (106, x106)]) h K) := (k_cond (by kernel_rfl)).trans (by kernel_rfl)
theorem r6_16 {β : Type} {inv : Inv} {k : Nat} {x1 x2 x3 x106 : Value} {h : AH} {K : XE → Act → AH → Option β} : kCode env 6 false inv k (cl (cl (cr (cr (cl (cr (cl (cr (cr (cr (cr (cr (cr (cr (cr (cr c6)))))))))))))))) (act 144 [(1, x1), (2, x2), (3, x3), (106, x106)]) h K =
    K .normal (act 144 [(8, (Go.Value.bool false))]) h := (k_reg (by kernel_rfl)).trans (by kernel_rfl)
noncomputable def F6_rlrrrrrrrrr {β : Type} (inv : Inv) (k : Nat) (x0 x1 x2 x3 x14 x90 : Value) (h : AH) (kn : (Value → Value → Value → Value → Value → Value → Value → AH → Option β)) (kr : (Value → AH → Option β)) : Option β :=
    brV x90
    (bnd (pLen Try.prog #[22] x0 h) fun x94 =>
    bnd (inv (.func 13) #[] #[x14, x94, x1] h) fun x96 =>
    bnd (pExtract x96.1 0) fun x97 =>
    bnd (pExtract x96.1 1) fun x98 =>
    bnd (pBin Try.prog Go.BinOp.neq 26 (Go.Operand.tmp 99) (Go.Operand.const (Go.Value.int Go.IntKind.i64 0)) x98 (Go.Value.int Go.IntKind.i64 0)) fun x100 =>
    bnd (gd (some x100) false x96.2 (some (x97, x96.2))) fun x102 =>
    bnd (gd (some x100) false x102.2 (some (x0, x102.2))) fun x103 =>
    bnd (gd (some x100) false x103.2 (inv (.func 14) #[] #[x102.1, x103.1] x103.2)) fun x104 =>
    bnd (gd (some x100) false x104.2 (lt (pUn Try.prog Go.UnOp.not x104.1) x104.2)) fun x105 =>
    bnd (pickV x100 (Go.Value.bool true) x105.1) fun x106 =>
    brV x106
    (kr (Go.Value.bool false) x105.2)
    (kn unk x1 x2 x3 unk unk x106 x105.2))
    (kn x0 x1 x2 x3 x14 x90 unk h)
theorem F6_rlrrrrrrrrr_eq {β : Type} {inv : Inv} {k : Nat} {x0 x1 x2 x3 x14 x90 : Value} {h : AH} {K : XE → Act → AH → Option β} : kCode env 6 false inv k (cr (cl (cr (cr (cr (cr (cr (cr (cr (cr (cr c6))))))))))) (act 144 [(0, x0), (1, x1), (2, x2), (3, x3), (14, x14), (90, x90)]) h K = F6_rlrrrrrrrrr inv k x0 x1 x2 x3 x14 x90 h (fun y0 y1 y2 y3 y14 y90 y106 h => K .normal (act 144 [(0, y0), (1, y1), (2, y2), (3, y3), (14, y14), (90, y90), (106, y106)]) h) (fun y8 h => K .ret (act 144 [(8, y8)]) h) := by
      unfold F6_rlrrrrrrrrr
      simp only [b6_rlrrrrrrrrr, k_seq (E := env) (f := 6) (c := (cl (cr (cl (cr (cr (cr (cr (cr (cr (cr (cr (cr c6))))))))))))) (by kernel_rfl), r6_14, k_seq (E := env) (f := 6) (c := (cr (cl (cr (cl (cr (cr (cr (cr (cr (cr (cr (cr (cr c6)))))))))))))) (by kernel_rfl), r6_15, b6_rrlrlrrrrrrrrr, k_seq (E := env) (f := 6) (c := (cl (cr (cr (cl (cr (cl (cr (cr (cr (cr (cr (cr (cr (cr (cr c6)))))))))))))))) (by kernel_rfl), r6_16, k_ret (E := env) (f := 6) (c := (cr (cl (cr (cr (cl (cr (cl (cr (cr (cr (cr (cr (cr (cr (cr (cr c6))))))))))))))))) (by kernel_rfl), k_skip (E := env) (f := 6) (c := (cr (cr (cr (cl (cr (cl (cr (cr (cr (cr (cr (cr (cr (cr (cr c6)))))))))))))))) (by kernel_rfl), k_skip (E := env) (f := 6) (c := (cr (cr (cl (cr (cr (cr (cr (cr (cr (cr (cr (cr c6))))))))))))) (by kernel_rfl), reduceIte, reduceCtorEq, XE.exit.injEq, Nat.reduceEqDiff] <;> kernel_rfl
theorem r6_17 {β : Type} {inv : Inv} {k : Nat} {x0 x1 x2 x3 x14 x90 x106 : Value} {h : AH} {K : XE → Act → AH → Option β} : kCode env 6 false inv k (cl (cr (cr (cr (cr (cr (cr (cr (cr (cr (cr c6))))))))))) (act 144 [(0, x0), (1, x1), (2, x2), (3, x3), (14, x14), (90, x90), (106, x106)]) h K =
    bnd (inv (.func 13) #[] #[x2, x3, x1] h) fun x111 =>
    bnd (pExtract x111.1 0) fun x112 =>
    bnd (pExtract x111.1 1) fun x113 =>
    K .normal (act 144 [(1, x1), (2, x2), (3, x3), (18, x112), (19, x113)]) x111.2 := (k_reg (by kernel_rfl)).trans (by kernel_rfl)
theorem r6_18 {β : Type} {inv : Inv} {k : Nat} {x1 x2 x3 x18 x19 : Value} {h : AH} {K : XE → Act → AH → Option β} : kCode env 6 false inv k (cl (cl (cr (cr (cr (cr (cr (cr (cr (cr (cr (cr (cr c6))))))))))))) (act 144 [(1, x1), (2, x2), (3, x3), (18, x18), (19, x19)]) h K =
    bnd (pBin Try.prog Go.BinOp.neq 26 (Go.Operand.tmp 114) (Go.Operand.const (Go.Value.int Go.IntKind.i64 0)) x19 (Go.Value.int Go.IntKind.i64 0)) fun x115 =>
    K .normal (act 144 [(1, x1), (2, x2), (3, x3), (18, x18), (115, x115)]) h := (k_reg (by kernel_rfl)).trans (by kernel_rfl)
theorem b6_rlrrrrrrrrrrr {β : Type} {inv : Inv} {k : Nat} {x1 x2 x3 x18 x115 : Value} {h : AH} {K : XE → Act → AH → Option β} : kCode env 6 false inv k (cr (cl (cr (cr (cr (cr (cr (cr (cr (cr (cr (cr (cr c6))))))))))))) (act 144 [(1, x1), (2, x2), (3, x3), (18, x18), (115, x115)]) h K = brV x115 (kCode env 6 false inv k (cl (cr (cl (cr (cr (cr (cr (cr (cr (cr (cr (cr (cr (cr c6)))))))))))))) (act 144 [(1, x1), (2, x2), (3, x3), (18, x18), (115, x115)]) h K) (kCode env 6 false inv k (cr (cr (cl (cr (cr (cr (cr (cr (cr (cr (cr (cr (cr (cr c6)))))))))))))) (act 144 [(1, x1), (2, x2), (3, x3), (18, x18), (115, x115)]) h K) := (k_cond (by kernel_rfl)).trans (by kernel_rfl)
theorem r6_19 {β : Type} {inv : Inv} {k : Nat} {x1 x2 x3 x18 x115 : Value} {h : AH} {K : XE → Act → AH → Option β} : kCode env 6 false inv k (cl (cl (cr (cl (cr (cr (cr (cr (cr (cr (cr (cr (cr (cr (cr c6))))))))))))))) (act 144 [(1, x1), (2, x2), (3, x3), (18, x18), (115, x115)]) h K =
    bnd (pLen Try.prog #[22] x18 h) fun x117 =>
    bnd (pBin Try.prog Go.BinOp.eql 3 (Go.Operand.tmp 117) (Go.Operand.const (Go.Value.int Go.IntKind.i64 0)) x117 (Go.Value.int Go.IntKind.i64 0)) fun x118 =>
    K .normal (act 144 [(8, x118)]) h := (k_reg (by kernel_rfl)).trans (by kernel_rfl)
theorem r6_20 {β : Type} {inv : Inv} {k : Nat} {x1 x2 x3 x18 x115 : Value} {h : AH} {K : XE → Act → AH → Option β} : kCode env 6 false inv k (cl (cr (cr (cr (cr (cr (cr (cr (cr (cr (cr (cr (cr c6))))))))))))) (act 144 [(1, x1), (2, x2), (3, x3), (18, x18), (115, x115)]) h K =
    bnd (inv (.func 10) #[] #[x18, x1] h) fun x122 =>
    bnd (pExtract x122.1 0) fun x123 =>
    bnd (pExtract x122.1 1) fun x124 =>
    K .normal (act 144 [(1, x1), (2, x2), (3, x3), (18, x18), (20, x123), (21, x124)]) x122.2 := (k_reg (by kernel_rfl)).trans (by kernel_rfl)
theorem r6_21 {β : Type} {inv : Inv} {k : Nat} {x1 x2 x3 x18 x20 x21 : Value} {h : AH} {K : XE → Act → AH → Option β} : kCode env 6 false inv k (cl (cr (cr (cr (cr (cr (cr (cr (cr (cr (cr (cr (cr (cr c6)))))))))))))) (act 144 [(1, x1), (2, x2), (3, x3), (18, x18), (20, x20), (21, x21)]) h K =
    bnd (pBin Try.prog Go.BinOp.eql 26 (Go.Operand.tmp 125) (Go.Operand.const (Go.Value.int Go.IntKind.i64 0)) x21 (Go.Value.int Go.IntKind.i64 0)) fun x126 =>
    bnd (gd (some x126) true h (some (x20, h))) fun x128 =>
    bnd (gd (some x126) true x128.2 (some (x2, x128.2))) fun x129 =>
    bnd (gd (some x126) true x129.2 (inv (.func 12) #[] #[x128.1, x129.1] x129.2)) fun x130 =>
    bnd (pickV x126 x130.1 (Go.Value.bool false)) fun x131 =>
    bnd (gd (some x131) true x130.2 (some (x18, x130.2))) fun x133 =>
    bnd (gd (some x131) true x133.2 (lt (pLen Try.prog #[22] x133.1 x133.2) x133.2)) fun x134 =>
    bnd (gd (some x131) true x134.2 (some (x3, x134.2))) fun x135 =>
    bnd (gd (some x131) true x135.2 (lt (pBin Try.prog Go.BinOp.eql 3 (Go.Operand.tmp 134) (Go.Operand.tmp 135) x134.1 x135.1) x135.2)) fun x136 =>
    bnd (pickV x131 x136.1 (Go.Value.bool false)) fun x137 =>
    bnd (gd (some x137) true x136.2 (some (x18, x136.2))) fun x139 =>
    bnd (gd (some x137) true x139.2 (inv (.func 15) #[] #[x139.1] x139.2)) fun x140 =>
    bnd (gd (some x137) true x140.2 (some (x1, x140.2))) fun x141 =>
    bnd (gd (some x137) true x141.2 (lt (pBin Try.prog Go.BinOp.leq 3 (Go.Operand.tmp 140) (Go.Operand.tmp 141) x140.1 x141.1) x141.2)) fun x142 =>
    bnd (pickV x137 x142.1 (Go.Value.bool false)) fun x143 =>
    K .normal (act 144 [(8, x143)]) x142.2 := (k_reg (by kernel_rfl)).trans (by kernel_rfl)
/-- shadowbook/shadowbooklaw05.PacksBack -/
noncomputable def F6 (inv : Inv) (k : Nat) (x0 x1 x2 x3 : Value) (h : AH) : Option (Value × AH) :=
    bnd (inv (.func 8) #[] #[] h) fun x22 =>
    bnd (pUn Try.prog Go.UnOp.not x22.1) fun x23 =>
    brV x23
    (some ((Go.Value.bool false), x22.2))
    (bnd (pLen Try.prog #[22] x0 x22.2) fun x25 =>
    bnd (pBin Try.prog Go.BinOp.gtr 3 (Go.Operand.tmp 25) (Go.Operand.const (Go.Value.int Go.IntKind.i64 100)) x25 (Go.Value.int Go.IntKind.i64 100)) fun x26 =>
    bnd (gd (some x26) false x22.2 (some (x2, x22.2))) fun x28 =>
    bnd (gd (some x26) false x28.2 (lt (pLen Try.prog #[25] x28.1 x28.2) x28.2)) fun x29 =>
    bnd (gd (some x26) false x29.2 (lt (pBin Try.prog Go.BinOp.gtr 3 (Go.Operand.tmp 29) (Go.Operand.const (Go.Value.int Go.IntKind.i64 100)) x29.1 (Go.Value.int Go.IntKind.i64 100)) x29.2)) fun x30 =>
    bnd (pickV x26 (Go.Value.bool true) x30.1) fun x31 =>
    bnd (gd (some x31) false x30.2 (some (x3, x30.2))) fun x33 =>
    bnd (gd (some x31) false x33.2 (lt (pBin Try.prog Go.BinOp.gtr 3 (Go.Operand.tmp 33) (Go.Operand.const (Go.Value.int Go.IntKind.i64 1000)) x33.1 (Go.Value.int Go.IntKind.i64 1000)) x33.2)) fun x34 =>
    bnd (pickV x31 (Go.Value.bool true) x34.1) fun x35 =>
    brV x35
    (some ((Go.Value.bool true), x34.2))
    (bnd (inv (.func 15) #[] #[x0] x34.2) fun x37 =>
    bnd (inv (.func 10) #[] #[x0, x37.1] x37.2) fun x41 =>
    bnd (pExtract x41.1 0) fun x42 =>
    bnd (pExtract x41.1 1) fun x43 =>
    bnd (pLen Try.prog #[22] x0 x41.2) fun x47 =>
    bnd (inv (.func 13) #[] #[x42, x47, x37.1] x41.2) fun x49 =>
    bnd (pExtract x49.1 0) fun x50 =>
    bnd (pExtract x49.1 1) fun x51 =>
    bnd (pBin Try.prog Go.BinOp.neq 26 (Go.Operand.tmp 52) (Go.Operand.const (Go.Value.int Go.IntKind.i64 0)) x43 (Go.Value.int Go.IntKind.i64 0)) fun x53 =>
    bnd (gd (some x53) false x49.2 (some (x51, x49.2))) fun x55 =>
    bnd (gd (some x53) false x55.2 (lt (pBin Try.prog Go.BinOp.neq 26 (Go.Operand.tmp 55) (Go.Operand.const (Go.Value.int Go.IntKind.i64 0)) x55.1 (Go.Value.int Go.IntKind.i64 0)) x55.2)) fun x56 =>
    bnd (pickV x53 (Go.Value.bool true) x56.1) fun x57 =>
    bnd (gd (some x57) false x56.2 (some (x50, x56.2))) fun x59 =>
    bnd (gd (some x57) false x59.2 (some (x0, x59.2))) fun x60 =>
    bnd (gd (some x57) false x60.2 (inv (.func 14) #[] #[x59.1, x60.1] x60.2)) fun x61 =>
    bnd (gd (some x57) false x61.2 (lt (pUn Try.prog Go.UnOp.not x61.1) x61.2)) fun x62 =>
    bnd (pickV x57 (Go.Value.bool true) x62.1) fun x63 =>
    bnd (gd (some x63) false x62.2 (some (x42, x62.2))) fun x65 =>
    bnd (gd (some x63) false x65.2 (lt (pLen Try.prog #[25] x65.1 x65.2) x65.2)) fun x66 =>
    bnd (gd (some x63) false x66.2 (some (x0, x66.2))) fun x67 =>
    bnd (gd (some x63) false x67.2 (lt (pLen Try.prog #[22] x67.1 x67.2) x67.2)) fun x68 =>
    bnd (gd (some x63) false x68.2 (some (x37.1, x68.2))) fun x69 =>
    bnd (gd (some x63) false x69.2 (inv (.func 16) #[] #[x68.1, x69.1] x69.2)) fun x70 =>
    bnd (gd (some x63) false x70.2 (lt (pBin Try.prog Go.BinOp.neq 3 (Go.Operand.tmp 66) (Go.Operand.tmp 70) x66.1 x70.1) x70.2)) fun x71 =>
    bnd (pickV x63 (Go.Value.bool true) x71.1) fun x72 =>
    brV x72
    (some ((Go.Value.bool false), x71.2))
    (bnd (inv (.func 10) #[] #[x0, x1] x71.2) fun x76 =>
    bnd (pExtract x76.1 0) fun x77 =>
    bnd (pExtract x76.1 1) fun x78 =>
    bnd (pBin Try.prog Go.BinOp.eql 26 (Go.Operand.tmp 79) (Go.Operand.const (Go.Value.int Go.IntKind.i64 0)) x78 (Go.Value.int Go.IntKind.i64 0)) fun x80 =>
    bnd (pBin Try.prog Go.BinOp.geq 3 (Go.Operand.tmp 81) (Go.Operand.tmp 82) x1 x37.1) fun x83 =>
    bnd (gd (some x83) true x76.2 (some (x1, x76.2))) fun x85 =>
    bnd (gd (some x83) true x85.2 (lt (pBin Try.prog Go.BinOp.leq 3 (Go.Operand.tmp 85) (Go.Operand.const (Go.Value.int Go.IntKind.i64 64)) x85.1 (Go.Value.int Go.IntKind.i64 64)) x85.2)) fun x86 =>
    bnd (pickV x83 x86.1 (Go.Value.bool false)) fun x87 =>
    bnd (pBin Try.prog Go.BinOp.neq 4 (Go.Operand.tmp 80) (Go.Operand.tmp 87) x80 x87) fun x88 =>
    brV x88
    (some ((Go.Value.bool false), x86.2))
    (bnd (pBin Try.prog Go.BinOp.eql 26 (Go.Operand.tmp 89) (Go.Operand.const (Go.Value.int Go.IntKind.i64 0)) x78 (Go.Value.int Go.IntKind.i64 0)) fun x90 =>
    F6_rlrrrrrrrrr inv k x0 x1 x2 x3 x77 x90 x86.2
    (fun y0 y1 y2 y3 y14 y90 y106 h =>
    bnd (inv (.func 13) #[] #[y2, y3, y1] h) fun x111 =>
    bnd (pExtract x111.1 0) fun x112 =>
    bnd (pExtract x111.1 1) fun x113 =>
    bnd (pBin Try.prog Go.BinOp.neq 26 (Go.Operand.tmp 114) (Go.Operand.const (Go.Value.int Go.IntKind.i64 0)) x113 (Go.Value.int Go.IntKind.i64 0)) fun x115 =>
    brV x115
    (bnd (pLen Try.prog #[22] x112 x111.2) fun x117 =>
    bnd (pBin Try.prog Go.BinOp.eql 3 (Go.Operand.tmp 117) (Go.Operand.const (Go.Value.int Go.IntKind.i64 0)) x117 (Go.Value.int Go.IntKind.i64 0)) fun x118 =>
    some (x118, x111.2))
    (bnd (inv (.func 10) #[] #[x112, y1] x111.2) fun x122 =>
    bnd (pExtract x122.1 0) fun x123 =>
    bnd (pExtract x122.1 1) fun x124 =>
    bnd (pBin Try.prog Go.BinOp.eql 26 (Go.Operand.tmp 125) (Go.Operand.const (Go.Value.int Go.IntKind.i64 0)) x124 (Go.Value.int Go.IntKind.i64 0)) fun x126 =>
    bnd (gd (some x126) true x122.2 (some (x123, x122.2))) fun x128 =>
    bnd (gd (some x126) true x128.2 (some (y2, x128.2))) fun x129 =>
    bnd (gd (some x126) true x129.2 (inv (.func 12) #[] #[x128.1, x129.1] x129.2)) fun x130 =>
    bnd (pickV x126 x130.1 (Go.Value.bool false)) fun x131 =>
    bnd (gd (some x131) true x130.2 (some (x112, x130.2))) fun x133 =>
    bnd (gd (some x131) true x133.2 (lt (pLen Try.prog #[22] x133.1 x133.2) x133.2)) fun x134 =>
    bnd (gd (some x131) true x134.2 (some (y3, x134.2))) fun x135 =>
    bnd (gd (some x131) true x135.2 (lt (pBin Try.prog Go.BinOp.eql 3 (Go.Operand.tmp 134) (Go.Operand.tmp 135) x134.1 x135.1) x135.2)) fun x136 =>
    bnd (pickV x131 x136.1 (Go.Value.bool false)) fun x137 =>
    bnd (gd (some x137) true x136.2 (some (x112, x136.2))) fun x139 =>
    bnd (gd (some x137) true x139.2 (inv (.func 15) #[] #[x139.1] x139.2)) fun x140 =>
    bnd (gd (some x137) true x140.2 (some (y1, x140.2))) fun x141 =>
    bnd (gd (some x137) true x141.2 (lt (pBin Try.prog Go.BinOp.leq 3 (Go.Operand.tmp 140) (Go.Operand.tmp 141) x140.1 x141.1) x141.2)) fun x142 =>
    bnd (pickV x137 x142.1 (Go.Value.bool false)) fun x143 =>
    some (x143, x142.2)))
    (fun y8 h_1 =>
    some (y8, h_1))))))
theorem F6_eq {inv : Inv} {k : Nat} {x0 x1 x2 x3 : Value} {h : AH} : eFun env k inv 6 #[x0, x1, x2, x3] h = F6 inv k x0 x1 x2 x3 h := by
      refine (eFun_k2 (by kernel_rfl) (by kernel_rfl) (by kernel_rfl) (a := act 144 [(0, x0), (1, x1), (2, x2), (3, x3)]) (c := c6) (by kernel_rfl) (by kernel_rfl)).trans ?_
      unfold F6
      simp only [k_seq (E := env) (f := 6) (c := c6) (by kernel_rfl), r6_0, k_seq (E := env) (f := 6) (c := (cr c6)) (by kernel_rfl), k_seq (E := env) (f := 6) (c := (cl (cr c6))) (by kernel_rfl), r6_1, b6_rlr, k_seq (E := env) (f := 6) (c := (cl (cr (cl (cr c6))))) (by kernel_rfl), r6_2, k_ret (E := env) (f := 6) (c := (cr (cl (cr (cl (cr c6)))))) (by kernel_rfl), res6_0, k_skip (E := env) (f := 6) (c := (cr (cr (cl (cr c6))))) (by kernel_rfl), k_seq (E := env) (f := 6) (c := (cr (cr c6))) (by kernel_rfl), k_seq (E := env) (f := 6) (c := (cl (cr (cr c6)))) (by kernel_rfl), r6_3, b6_rlrr, k_seq (E := env) (f := 6) (c := (cl (cr (cl (cr (cr c6)))))) (by kernel_rfl), r6_4, k_ret (E := env) (f := 6) (c := (cr (cl (cr (cl (cr (cr c6))))))) (by kernel_rfl), k_skip (E := env) (f := 6) (c := (cr (cr (cl (cr (cr c6)))))) (by kernel_rfl), k_seq (E := env) (f := 6) (c := (cr (cr (cr c6)))) (by kernel_rfl), r6_5, k_seq (E := env) (f := 6) (c := (cr (cr (cr (cr c6))))) (by kernel_rfl), r6_6, k_seq (E := env) (f := 6) (c := (cr (cr (cr (cr (cr c6)))))) (by kernel_rfl), r6_7, k_seq (E := env) (f := 6) (c := (cr (cr (cr (cr (cr (cr c6))))))) (by kernel_rfl), k_seq (E := env) (f := 6) (c := (cl (cr (cr (cr (cr (cr (cr c6)))))))) (by kernel_rfl), r6_8, b6_rlrrrrrr, k_seq (E := env) (f := 6) (c := (cl (cr (cl (cr (cr (cr (cr (cr (cr c6)))))))))) (by kernel_rfl), r6_9, k_ret (E := env) (f := 6) (c := (cr (cl (cr (cl (cr (cr (cr (cr (cr (cr c6))))))))))) (by kernel_rfl), k_skip (E := env) (f := 6) (c := (cr (cr (cl (cr (cr (cr (cr (cr (cr c6)))))))))) (by kernel_rfl), k_seq (E := env) (f := 6) (c := (cr (cr (cr (cr (cr (cr (cr c6)))))))) (by kernel_rfl), r6_10, k_seq (E := env) (f := 6) (c := (cr (cr (cr (cr (cr (cr (cr (cr c6))))))))) (by kernel_rfl), k_seq (E := env) (f := 6) (c := (cl (cr (cr (cr (cr (cr (cr (cr (cr c6)))))))))) (by kernel_rfl), r6_11, b6_rlrrrrrrrr, k_seq (E := env) (f := 6) (c := (cl (cr (cl (cr (cr (cr (cr (cr (cr (cr (cr c6)))))))))))) (by kernel_rfl), r6_12, k_ret (E := env) (f := 6) (c := (cr (cl (cr (cl (cr (cr (cr (cr (cr (cr (cr (cr c6))))))))))))) (by kernel_rfl), k_skip (E := env) (f := 6) (c := (cr (cr (cl (cr (cr (cr (cr (cr (cr (cr (cr c6)))))))))))) (by kernel_rfl), k_seq (E := env) (f := 6) (c := (cr (cr (cr (cr (cr (cr (cr (cr (cr c6)))))))))) (by kernel_rfl), k_seq (E := env) (f := 6) (c := (cl (cr (cr (cr (cr (cr (cr (cr (cr (cr c6))))))))))) (by kernel_rfl), r6_13, F6_rlrrrrrrrrr_eq, k_seq (E := env) (f := 6) (c := (cr (cr (cr (cr (cr (cr (cr (cr (cr (cr c6))))))))))) (by kernel_rfl), r6_17, k_seq (E := env) (f := 6) (c := (cr (cr (cr (cr (cr (cr (cr (cr (cr (cr (cr c6)))))))))))) (by kernel_rfl), k_seq (E := env) (f := 6) (c := (cl (cr (cr (cr (cr (cr (cr (cr (cr (cr (cr (cr c6))))))))))))) (by kernel_rfl), r6_18, b6_rlrrrrrrrrrrr, k_seq (E := env) (f := 6) (c := (cl (cr (cl (cr (cr (cr (cr (cr (cr (cr (cr (cr (cr (cr c6))))))))))))))) (by kernel_rfl), r6_19, k_ret (E := env) (f := 6) (c := (cr (cl (cr (cl (cr (cr (cr (cr (cr (cr (cr (cr (cr (cr (cr c6)))))))))))))))) (by kernel_rfl), k_skip (E := env) (f := 6) (c := (cr (cr (cl (cr (cr (cr (cr (cr (cr (cr (cr (cr (cr (cr c6))))))))))))))) (by kernel_rfl), k_seq (E := env) (f := 6) (c := (cr (cr (cr (cr (cr (cr (cr (cr (cr (cr (cr (cr c6))))))))))))) (by kernel_rfl), r6_20, k_seq (E := env) (f := 6) (c := (cr (cr (cr (cr (cr (cr (cr (cr (cr (cr (cr (cr (cr c6)))))))))))))) (by kernel_rfl), r6_21, k_ret (E := env) (f := 6) (c := (cr (cr (cr (cr (cr (cr (cr (cr (cr (cr (cr (cr (cr (cr c6))))))))))))))) (by kernel_rfl), reduceIte, reduceCtorEq, XE.exit.injEq, Nat.reduceEqDiff] <;> kernel_rfl
theorem F6_call {k : Nat} {x0 x1 x2 x3 : Value} {h : AH} : eInv env (k + 1) (.func 6) #[] #[x0, x1, x2, x3] h = F6 (eInv env k) k x0 x1 x2 x3 h := (inv_func (by kernel_rfl)).trans F6_eq
noncomputable def c7 : Code := codeOf Try.prog 7
theorem r7_0 {β : Type} {inv : Inv} {k : Nat} {x0 x1 x2 x3 : Value} {h : AH} {K : XE → Act → AH → Option β} : kCode env 7 false inv k (cl c7) (act 115 [(0, x0), (1, x1), (2, x2), (3, x3)]) h K =
    bnd (pBox Try.prog 22 x0 h) fun x4 =>
    bnd (pBox Try.prog 3 x1 x4.2) fun x5 =>
    bnd (pAlloc Try.prog 4 x5.2) fun x8 =>
    K .normal (act 115 [(2, x2), (3, x3), (4, x4.1), (5, x5.1), (8, x8.1)]) x8.2 := (k_reg (by kernel_rfl)).trans (by kernel_rfl)
theorem r7_1 {β : Type} {inv : Inv} {k : Nat} {x2 x3 x4 x5 x8 : Value} {h : AH} {K : XE → Act → AH → Option β} : kCode env 7 false inv k (cl (cl (cr c7))) (act 115 [(2, x2), (3, x3), (4, x4), (5, x5), (8, x8)]) h K =
    bnd (inv (.func 8) #[] #[] h) fun x21 =>
    bnd (pUn Try.prog Go.UnOp.not x21.1) fun x22 =>
    K .normal (act 115 [(2, x2), (3, x3), (4, x4), (5, x5), (8, x8), (22, x22)]) x21.2 := (k_reg (by kernel_rfl)).trans (by kernel_rfl)
theorem b7_rlr {β : Type} {inv : Inv} {k : Nat} {x2 x3 x4 x5 x8 x22 : Value} {h : AH} {K : XE → Act → AH → Option β} : kCode env 7 false inv k (cr (cl (cr c7))) (act 115 [(2, x2), (3, x3), (4, x4), (5, x5), (8, x8), (22, x22)]) h K = brV x22 (kCode env 7 false inv k (cl (cr (cl (cr c7)))) (act 115 [(2, x2), (3, x3), (4, x4), (5, x5), (8, x8), (22, x22)]) h K) (kCode env 7 false inv k (cr (cr (cl (cr c7)))) (act 115 [(2, x2), (3, x3), (4, x4), (5, x5), (8, x8), (22, x22)]) h K) := (k_cond (by kernel_rfl)).trans (by kernel_rfl)
theorem r7_2 {β : Type} {inv : Inv} {k : Nat} {x2 x3 x4 x5 x8 x22 : Value} {h : AH} {K : XE → Act → AH → Option β} : kCode env 7 false inv k (cl (cl (cr (cl (cr c7))))) (act 115 [(2, x2), (3, x3), (4, x4), (5, x5), (8, x8), (22, x22)]) h K =
    bnd (kSt (pStore Try.prog 4 x8 (Go.Value.bool false) h)) fun u =>
    K .normal (act 115 [(8, x8)]) u.2 := (k_reg (by kernel_rfl)).trans (by kernel_rfl)
theorem res7_0 {x8 : Value} {h : AH} : resOfFn env.P 7 .ret (act 115 [(8, x8)]) h = bnd (pLoad Try.prog 4 x8 h) fun q0 =>
    some (q0, h) := (resOfFn_k (by kernel_rfl) (by kernel_rfl)).trans (by kernel_rfl)
theorem r7_3 {β : Type} {inv : Inv} {k : Nat} {x2 x3 x4 x5 x8 x22 : Value} {h : AH} {K : XE → Act → AH → Option β} : kCode env 7 false inv k (cl (cl (cr (cr c7)))) (act 115 [(2, x2), (3, x3), (4, x4), (5, x5), (8, x8), (22, x22)]) h K =
    bnd (pLoad Try.prog 22 x4 h) fun x23 =>
    bnd (pLen Try.prog #[22] x23 h) fun x24 =>
    bnd (pBin Try.prog Go.BinOp.gtr 3 (Go.Operand.tmp 24) (Go.Operand.const (Go.Value.int Go.IntKind.i64 100)) x24 (Go.Value.int Go.IntKind.i64 100)) fun x25 =>
    bnd (gd (some x25) false h (lt (pLoad Try.prog 22 x4 h) h)) fun x27 =>
    bnd (gd (some x25) false x27.2 (lt (pLen Try.prog #[22] x27.1 x27.2) x27.2)) fun x28 =>
    bnd (gd (some x25) false x28.2 (lt (pBin Try.prog Go.BinOp.eql 3 (Go.Operand.tmp 28) (Go.Operand.const (Go.Value.int Go.IntKind.i64 0)) x28.1 (Go.Value.int Go.IntKind.i64 0)) x28.2)) fun x29 =>
    bnd (pickV x25 (Go.Value.bool true) x29.1) fun x30 =>
    K .normal (act 115 [(2, x2), (3, x3), (4, x4), (5, x5), (8, x8), (30, x30)]) x29.2 := (k_reg (by kernel_rfl)).trans (by kernel_rfl)
theorem b7_rlrr {β : Type} {inv : Inv} {k : Nat} {x2 x3 x4 x5 x8 x30 : Value} {h : AH} {K : XE → Act → AH → Option β} : kCode env 7 false inv k (cr (cl (cr (cr c7)))) (act 115 [(2, x2), (3, x3), (4, x4), (5, x5), (8, x8), (30, x30)]) h K = brV x30 (kCode env 7 false inv k (cl (cr (cl (cr (cr c7))))) (act 115 [(2, x2), (3, x3), (4, x4), (5, x5), (8, x8), (30, x30)]) h K) (kCode env 7 false inv k (cr (cr (cl (cr (cr c7))))) (act 115 [(2, x2), (3, x3), (4, x4), (5, x5), (8, x8), (30, x30)]) h K) := (k_cond (by kernel_rfl)).trans (by kernel_rfl)
theorem r7_4 {β : Type} {inv : Inv} {k : Nat} {x2 x3 x4 x5 x8 x30 : Value} {h : AH} {K : XE → Act → AH → Option β} : kCode env 7 false inv k (cl (cl (cr (cl (cr (cr c7)))))) (act 115 [(2, x2), (3, x3), (4, x4), (5, x5), (8, x8), (30, x30)]) h K =
    bnd (kSt (pStore Try.prog 4 x8 (Go.Value.bool true) h)) fun u =>
    K .normal (act 115 [(8, x8)]) u.2 := (k_reg (by kernel_rfl)).trans (by kernel_rfl)
theorem r7_5 {β : Type} {inv : Inv} {k : Nat} {x2 x3 x4 x5 x8 x30 : Value} {h : AH} {K : XE → Act → AH → Option β} : kCode env 7 false inv k (cl (cr (cr (cr c7)))) (act 115 [(2, x2), (3, x3), (4, x4), (5, x5), (8, x8), (30, x30)]) h K =
    bnd (pLoad Try.prog 22 x4 h) fun x32 =>
    bnd (inv (.func 10) #[] #[x32, (Go.Value.int Go.IntKind.i64 64)] h) fun x33 =>
    bnd (pExtract x33.1 0) fun x34 =>
    bnd (pExtract x33.1 1) fun x35 =>
    K .normal (act 115 [(2, x2), (3, x3), (4, x4), (5, x5), (8, x8), (9, x34), (10, x35)]) x33.2 := (k_reg (by kernel_rfl)).trans (by kernel_rfl)
theorem r7_6 {β : Type} {inv : Inv} {k : Nat} {x2 x3 x4 x5 x8 x9 x10 : Value} {h : AH} {K : XE → Act → AH → Option β} : kCode env 7 false inv k (cl (cr (cr (cr (cr c7))))) (act 115 [(2, x2), (3, x3), (4, x4), (5, x5), (8, x8), (9, x9), (10, x10)]) h K =
    bnd (pLoad Try.prog 22 x4 h) fun x37 =>
    bnd (pLen Try.prog #[22] x37 h) fun x38 =>
    bnd (inv (.func 22) #[] #[x9, x38, (Go.Value.int Go.IntKind.i64 64)] h) fun x39 =>
    K .normal (act 115 [(2, x2), (3, x3), (4, x4), (5, x5), (8, x8), (10, x10), (11, x39.1)]) x39.2 := (k_reg (by kernel_rfl)).trans (by kernel_rfl)
theorem r7_7 {β : Type} {inv : Inv} {k : Nat} {x2 x3 x4 x5 x8 x10 x11 : Value} {h : AH} {K : XE → Act → AH → Option β} : kCode env 7 false inv k (cl (cl (cr (cr (cr (cr (cr c7))))))) (act 115 [(2, x2), (3, x3), (4, x4), (5, x5), (8, x8), (10, x10), (11, x11)]) h K =
    bnd (pBin Try.prog Go.BinOp.neq 26 (Go.Operand.tmp 40) (Go.Operand.const (Go.Value.int Go.IntKind.i64 0)) x10 (Go.Value.int Go.IntKind.i64 0)) fun x41 =>
    bnd (gd (some x41) false h (some (x11, h))) fun x43 =>
    bnd (gd (some x41) false x43.2 (lt (pBin Try.prog Go.BinOp.eql 41 (Go.Operand.tmp 43) (Go.Operand.const Go.Value.nilFunc) x43.1 Go.Value.nilFunc) x43.2)) fun x44 =>
    bnd (pickV x41 (Go.Value.bool true) x44.1) fun x45 =>
    K .normal (act 115 [(2, x2), (3, x3), (4, x4), (5, x5), (8, x8), (11, x11), (45, x45)]) x44.2 := (k_reg (by kernel_rfl)).trans (by kernel_rfl)
theorem b7_rlrrrrr {β : Type} {inv : Inv} {k : Nat} {x2 x3 x4 x5 x8 x11 x45 : Value} {h : AH} {K : XE → Act → AH → Option β} : kCode env 7 false inv k (cr (cl (cr (cr (cr (cr (cr c7))))))) (act 115 [(2, x2), (3, x3), (4, x4), (5, x5), (8, x8), (11, x11), (45, x45)]) h K = brV x45 (kCode env 7 false inv k (cl (cr (cl (cr (cr (cr (cr (cr c7)))))))) (act 115 [(2, x2), (3, x3), (4, x4), (5, x5), (8, x8), (11, x11), (45, x45)]) h K) (kCode env 7 false inv k (cr (cr (cl (cr (cr (cr (cr (cr c7)))))))) (act 115 [(2, x2), (3, x3), (4, x4), (5, x5), (8, x8), (11, x11), (45, x45)]) h K) := (k_cond (by kernel_rfl)).trans (by kernel_rfl)
theorem r7_8 {β : Type} {inv : Inv} {k : Nat} {x2 x3 x4 x5 x8 x11 x45 : Value} {h : AH} {K : XE → Act → AH → Option β} : kCode env 7 false inv k (cl (cl (cr (cl (cr (cr (cr (cr (cr c7))))))))) (act 115 [(2, x2), (3, x3), (4, x4), (5, x5), (8, x8), (11, x11), (45, x45)]) h K =
    bnd (kSt (pStore Try.prog 4 x8 (Go.Value.bool false) h)) fun u =>
    K .normal (act 115 [(8, x8)]) u.2 := (k_reg (by kernel_rfl)).trans (by kernel_rfl)
theorem r7_9 {β : Type} {inv : Inv} {k : Nat} {x2 x3 x4 x5 x8 x11 x45 : Value} {h : AH} {K : XE → Act → AH → Option β} : kCode env 7 false inv k (cl (cr (cr (cr (cr (cr (cr c7))))))) (act 115 [(2, x2), (3, x3), (4, x4), (5, x5), (8, x8), (11, x11), (45, x45)]) h K =
    bnd (pLoad Try.prog 3 x5 h) fun x46 =>
    bnd (pLoad Try.prog 22 x4 h) fun x47 =>
    bnd (pLen Try.prog #[22] x47 h) fun x48 =>
    bnd (inv (.func 9) #[] #[x46, x48] h) fun x49 =>
    bnd (pLoad Try.prog 22 x4 x49.2) fun x51 =>
    bnd (pLen Try.prog #[22] x51 x49.2) fun x52 =>
    bnd (inv (.func 9) #[] #[x2, x52] x49.2) fun x53 =>
    bnd (kSt (pStore Try.prog 3 x5 x49.1 x53.2)) fun u =>
    chkK ((!true || !true || (sameO (pLoad Try.prog 22 x4 h) x51 && sameO (pLoad Try.prog 22 x4 x49.2) x51)) && ((!true || !true || (sameO (pLen Try.prog #[22] x51 h) x52 && sameO (pLen Try.prog #[22] x51 x49.2) x52)) && true)) <|
    K .normal (act 115 [(2, x53.1), (3, x3), (4, x4), (5, x5), (8, x8), (11, x11)]) u.2 := (k_draw (by kernel_rfl)).trans (by kernel_rfl)
theorem r7_10 {β : Type} {inv : Inv} {k : Nat} {x2 x3 x4 x5 x8 x11 : Value} {h : AH} {K : XE → Act → AH → Option β} : kCode env 7 false inv k (cl (cr (cr (cr (cr (cr (cr (cr c7)))))))) (act 115 [(2, x2), (3, x3), (4, x4), (5, x5), (8, x8), (11, x11)]) h K =
    bnd (pAlloc Try.prog 3 h) fun x12 =>
    bnd (kSt (pStore Try.prog 3 x12.1 (Go.Value.int Go.IntKind.i64 0) x12.2)) fun u =>
    K .normal (act 115 [(2, x2), (3, x3), (4, x4), (5, x5), (8, x8), (11, x11), (12, x12.1)]) u.2 := (k_reg (by kernel_rfl)).trans (by kernel_rfl)
theorem r7_11 {β : Type} {inv : Inv} {k : Nat} {x2 x3 x4 x5 x8 x11 x12 : Value} {h : AH} {K : XE → Act → AH → Option β} : kCode env 7 false inv k (cl (cl (cr (cr (cr (cr (cr (cr (cr (cr c7)))))))))) (act 115 [(2, x2), (3, x3), (4, x4), (5, x5), (8, x8), (11, x11), (12, x12)]) h K =
    K .normal (act 115 [(2, x2), (3, x3), (4, x4), (5, x5), (8, x8), (12, x12), (54, x11)]) h := (k_reg (by kernel_rfl)).trans (by kernel_rfl)
theorem g7_lrlrrrrrrrr {β : Type} {inv : Inv} {k : Nat} {x2 x3 x4 x5 x8 x12 x54 : Value} {h : AH} {K : XE → Act → AH → Option β} : kCode env 7 false inv k (cl (cr (cl (cr (cr (cr (cr (cr (cr (cr (cr c7))))))))))) (act 115 [(2, x2), (3, x3), (4, x4), (5, x5), (8, x8), (12, x12), (54, x54)]) h K = kRange env 7 inv x54 (psOf (cl (cr (cl (cr (cr (cr (cr (cr (cr (cr (cr c7)))))))))))) (cl (cl (cr (cl (cr (cr (cr (cr (cr (cr (cr (cr c7)))))))))))) (cr (cl (cr (cl (cr (cr (cr (cr (cr (cr (cr (cr c7)))))))))))) (act 115 [(2, x2), (3, x3), (4, x4), (5, x5), (8, x8), (12, x12), (54, x54)]) h fun e h => sw e (K .normal (act 115 [(2, x2), (3, x3), (4, x4), (5, x5), (8, x8), (12, x12), (54, x54)]) h) (K .ret (act 115 [(2, x2), (3, x3), (4, x4), (5, x5), (8, x8), (12, x12), (54, x54)]) h) [(0, K (.exit 0) (act 115 [(2, x2), (3, x3), (4, x4), (5, x5), (8, x8), (12, x12), (54, x54)]) h)] := (k_range (g := x54) (ids := [0]) (by kernel_rfl) (by kernel_rfl) (by kernel_rfl)).trans (by kernel_rfl)
noncomputable def F7_rlrrrrrrrr {β : Type} (inv : Inv) (k : Nat) (x2 x3 x4 x5 x8 x12 x54 : Value) (h : AH) (kn : (Value → Value → Value → Value → Value → Value → Value → AH → Option β)) (kr : (Value → Value → Value → Value → Value → Value → Value → AH → Option β)) : Option β :=
    kRange env 7 inv x54 (psOf (cl (cr (cl (cr (cr (cr (cr (cr (cr (cr (cr c7)))))))))))) (cl (cl (cr (cl (cr (cr (cr (cr (cr (cr (cr (cr c7)))))))))))) (cr (cl (cr (cl (cr (cr (cr (cr (cr (cr (cr (cr c7)))))))))))) (act 115 [(2, x2), (3, x3), (4, x4), (5, x5), (8, x8), (12, x12), (54, x54)]) h fun e h => sw e
    (kn x2 x3 x4 x5 x8 x12 x54 h)
    (kr x2 x3 x4 x5 x8 x12 x54 h) [(0, (kn x2 x3 x4 x5 x8 x12 x54 h))]
theorem F7_rlrrrrrrrr_eq {β : Type} {inv : Inv} {k : Nat} {x2 x3 x4 x5 x8 x12 x54 : Value} {h : AH} {K : XE → Act → AH → Option β} : kCode env 7 false inv k (cr (cl (cr (cr (cr (cr (cr (cr (cr (cr c7)))))))))) (act 115 [(2, x2), (3, x3), (4, x4), (5, x5), (8, x8), (12, x12), (54, x54)]) h K = F7_rlrrrrrrrr inv k x2 x3 x4 x5 x8 x12 x54 h (fun y2 y3 y4 y5 y8 y12 y54 h => K .normal (act 115 [(2, y2), (3, y3), (4, y4), (5, y5), (8, y8), (12, y12), (54, y54)]) h) (fun y2 y3 y4 y5 y8 y12 y54 h => K .ret (act 115 [(2, y2), (3, y3), (4, y4), (5, y5), (8, y8), (12, y12), (54, y54)]) h) := by
      unfold F7_rlrrrrrrrr
      simp only [k_block (E := env) (f := 7) (c := (cr (cl (cr (cr (cr (cr (cr (cr (cr (cr c7))))))))))) (id := 0) (by kernel_rfl), g7_lrlrrrrrrrr, reduceIte, reduceCtorEq, XE.exit.injEq, Nat.reduceEqDiff] <;> kernel_rfl
theorem r7_18 {β : Type} {inv : Inv} {k : Nat} {x2 x3 x4 x5 x8 x12 x54 : Value} {h : AH} {K : XE → Act → AH → Option β} : kCode env 7 false inv k (cl (cr (cr (cr (cr (cr (cr (cr (cr (cr c7)))))))))) (act 115 [(2, x2), (3, x3), (4, x4), (5, x5), (8, x8), (12, x12), (54, x54)]) h K =
    bnd (pLoad Try.prog 22 x4 h) fun x73 =>
    bnd (inv (.func 11) #[] #[x73] h) fun x74 =>
    K .normal (act 115 [(2, x2), (3, x3), (4, x4), (5, x5), (8, x8), (12, x12), (15, x74.1)]) x74.2 := (k_reg (by kernel_rfl)).trans (by kernel_rfl)
theorem r7_19 {β : Type} {inv : Inv} {k : Nat} {x2 x3 x4 x5 x8 x12 x15 : Value} {h : AH} {K : XE → Act → AH → Option β} : kCode env 7 false inv k (cl (cr (cr (cr (cr (cr (cr (cr (cr (cr (cr c7))))))))))) (act 115 [(2, x2), (3, x3), (4, x4), (5, x5), (8, x8), (12, x12), (15, x15)]) h K =
    bnd (pIndexAddr Try.prog 22 x15 x2) fun x78 =>
    bnd (kSt (pStore Try.prog 30 x78 x3 h)) fun u =>
    K .normal (act 115 [(3, x3), (4, x4), (5, x5), (8, x8), (12, x12), (15, x15)]) u.2 := (k_reg (by kernel_rfl)).trans (by kernel_rfl)
theorem r7_20 {β : Type} {inv : Inv} {k : Nat} {x3 x4 x5 x8 x12 x15 : Value} {h : AH} {K : XE → Act → AH → Option β} : kCode env 7 false inv k (cl (cr (cr (cr (cr (cr (cr (cr (cr (cr (cr (cr c7)))))))))))) (act 115 [(3, x3), (4, x4), (5, x5), (8, x8), (12, x12), (15, x15)]) h K =
    bnd (pLoad Try.prog 22 x4 h) fun x79 =>
    bnd (inv (.func 11) #[] #[x79] h) fun x80 =>
    bnd (pBuildSlice Try.prog 22 1 #[(0, x3)] x80.2) fun x82 =>
    bnd (pAppend Try.prog #[22, 22] x80.1 x82.1 x82.2) fun x83 =>
    bnd (inv (.func 15) #[] #[x83.1] x83.2) fun x84 =>
    K .normal (act 115 [(5, x5), (8, x8), (12, x12), (15, x15), (16, x84.1)]) x84.2 := (k_reg (by kernel_rfl)).trans (by kernel_rfl)
theorem r7_21 {β : Type} {inv : Inv} {k : Nat} {x5 x8 x12 x15 x16 : Value} {h : AH} {K : XE → Act → AH → Option β} : kCode env 7 false inv k (cl (cr (cr (cr (cr (cr (cr (cr (cr (cr (cr (cr (cr c7))))))))))))) (act 115 [(5, x5), (8, x8), (12, x12), (15, x15), (16, x16)]) h K =
    bnd (inv (.func 10) #[] #[x15, x16] h) fun x88 =>
    bnd (pExtract x88.1 0) fun x89 =>
    bnd (pExtract x88.1 1) fun x90 =>
    K .normal (act 115 [(5, x5), (8, x8), (12, x12), (15, x15), (16, x16), (17, x89), (18, x90)]) x88.2 := (k_reg (by kernel_rfl)).trans (by kernel_rfl)
theorem r7_22 {β : Type} {inv : Inv} {k : Nat} {x5 x8 x12 x15 x16 x17 x18 : Value} {h : AH} {K : XE → Act → AH → Option β} : kCode env 7 false inv k (cl (cr (cr (cr (cr (cr (cr (cr (cr (cr (cr (cr (cr (cr c7)))))))))))))) (act 115 [(5, x5), (8, x8), (12, x12), (15, x15), (16, x16), (17, x17), (18, x18)]) h K =
    bnd (pLen Try.prog #[22] x15 h) fun x94 =>
    bnd (inv (.func 13) #[] #[x17, x94, x16] h) fun x96 =>
    bnd (pExtract x96.1 0) fun x97 =>
    bnd (pExtract x96.1 1) fun x98 =>
    K .normal (act 115 [(5, x5), (8, x8), (12, x12), (15, x15), (18, x18), (19, x97), (20, x98)]) x96.2 := (k_reg (by kernel_rfl)).trans (by kernel_rfl)
theorem r7_23 {β : Type} {inv : Inv} {k : Nat} {x5 x8 x12 x15 x18 x19 x20 : Value} {h : AH} {K : XE → Act → AH → Option β} : kCode env 7 false inv k (cl (cr (cr (cr (cr (cr (cr (cr (cr (cr (cr (cr (cr (cr (cr c7))))))))))))))) (act 115 [(5, x5), (8, x8), (12, x12), (15, x15), (18, x18), (19, x19), (20, x20)]) h K =
    bnd (pLoad Try.prog 3 x12 h) fun x99 =>
    bnd (pLoad Try.prog 3 x5 h) fun x100 =>
    bnd (pBin Try.prog Go.BinOp.eql 3 (Go.Operand.tmp 99) (Go.Operand.tmp 100) x99 x100) fun x101 =>
    bnd (gd (some x101) true h (some (x18, h))) fun x103 =>
    bnd (gd (some x101) true x103.2 (lt (pBin Try.prog Go.BinOp.eql 26 (Go.Operand.tmp 103) (Go.Operand.const (Go.Value.int Go.IntKind.i64 0)) x103.1 (Go.Value.int Go.IntKind.i64 0)) x103.2)) fun x104 =>
    bnd (pickV x101 x104.1 (Go.Value.bool false)) fun x105 =>
    bnd (gd (some x105) true x104.2 (some (x20, x104.2))) fun x107 =>
    bnd (gd (some x105) true x107.2 (lt (pBin Try.prog Go.BinOp.eql 26 (Go.Operand.tmp 107) (Go.Operand.const (Go.Value.int Go.IntKind.i64 0)) x107.1 (Go.Value.int Go.IntKind.i64 0)) x107.2)) fun x108 =>
    bnd (pickV x105 x108.1 (Go.Value.bool false)) fun x109 =>
    bnd (gd (some x109) true x108.2 (some (x19, x108.2))) fun x111 =>
    bnd (gd (some x109) true x111.2 (some (x15, x111.2))) fun x112 =>
    bnd (gd (some x109) true x112.2 (inv (.func 14) #[] #[x111.1, x112.1] x112.2)) fun x113 =>
    bnd (pickV x109 x113.1 (Go.Value.bool false)) fun x114 =>
    bnd (kSt (pStore Try.prog 4 x8 x114 x113.2)) fun u =>
    K .normal (act 115 [(8, x8)]) u.2 := (k_reg (by kernel_rfl)).trans (by kernel_rfl)
theorem res7_1 {x2 x3 x4 x5 x8 x12 x54 : Value} {h : AH} : resOfFn env.P 7 .ret (act 115 [(2, x2), (3, x3), (4, x4), (5, x5), (8, x8), (12, x12), (54, x54)]) h = bnd (pLoad Try.prog 4 x8 h) fun q0 =>
    some (q0, h) := (resOfFn_k (by kernel_rfl) (by kernel_rfl)).trans (by kernel_rfl)
/-- shadowbook/shadowbooklaw05.PacksEarly -/
noncomputable def F7 (inv : Inv) (k : Nat) (x0 x1 x2 x3 : Value) (h : AH) : Option (Value × AH) :=
    bnd (pBox Try.prog 22 x0 h) fun x4 =>
    bnd (pBox Try.prog 3 x1 x4.2) fun x5 =>
    bnd (pAlloc Try.prog 4 x5.2) fun x8 =>
    bnd (inv (.func 8) #[] #[] x8.2) fun x21 =>
    bnd (pUn Try.prog Go.UnOp.not x21.1) fun x22 =>
    brV x22
    (bnd (kSt (pStore Try.prog 4 x8.1 (Go.Value.bool false) x21.2)) fun u =>
    bnd (pLoad Try.prog 4 x8.1 u.2) fun q0 =>
    some (q0, u.2))
    (bnd (pLoad Try.prog 22 x4.1 x21.2) fun x23 =>
    bnd (pLen Try.prog #[22] x23 x21.2) fun x24 =>
    bnd (pBin Try.prog Go.BinOp.gtr 3 (Go.Operand.tmp 24) (Go.Operand.const (Go.Value.int Go.IntKind.i64 100)) x24 (Go.Value.int Go.IntKind.i64 100)) fun x25 =>
    bnd (gd (some x25) false x21.2 (lt (pLoad Try.prog 22 x4.1 x21.2) x21.2)) fun x27 =>
    bnd (gd (some x25) false x27.2 (lt (pLen Try.prog #[22] x27.1 x27.2) x27.2)) fun x28 =>
    bnd (gd (some x25) false x28.2 (lt (pBin Try.prog Go.BinOp.eql 3 (Go.Operand.tmp 28) (Go.Operand.const (Go.Value.int Go.IntKind.i64 0)) x28.1 (Go.Value.int Go.IntKind.i64 0)) x28.2)) fun x29 =>
    bnd (pickV x25 (Go.Value.bool true) x29.1) fun x30 =>
    brV x30
    (bnd (kSt (pStore Try.prog 4 x8.1 (Go.Value.bool true) x29.2)) fun u_1 =>
    bnd (pLoad Try.prog 4 x8.1 u_1.2) fun q0 =>
    some (q0, u_1.2))
    (bnd (pLoad Try.prog 22 x4.1 x29.2) fun x32 =>
    bnd (inv (.func 10) #[] #[x32, (Go.Value.int Go.IntKind.i64 64)] x29.2) fun x33 =>
    bnd (pExtract x33.1 0) fun x34 =>
    bnd (pExtract x33.1 1) fun x35 =>
    bnd (pLoad Try.prog 22 x4.1 x33.2) fun x37 =>
    bnd (pLen Try.prog #[22] x37 x33.2) fun x38 =>
    bnd (inv (.func 22) #[] #[x34, x38, (Go.Value.int Go.IntKind.i64 64)] x33.2) fun x39 =>
    bnd (pBin Try.prog Go.BinOp.neq 26 (Go.Operand.tmp 40) (Go.Operand.const (Go.Value.int Go.IntKind.i64 0)) x35 (Go.Value.int Go.IntKind.i64 0)) fun x41 =>
    bnd (gd (some x41) false x39.2 (some (x39.1, x39.2))) fun x43 =>
    bnd (gd (some x41) false x43.2 (lt (pBin Try.prog Go.BinOp.eql 41 (Go.Operand.tmp 43) (Go.Operand.const Go.Value.nilFunc) x43.1 Go.Value.nilFunc) x43.2)) fun x44 =>
    bnd (pickV x41 (Go.Value.bool true) x44.1) fun x45 =>
    brV x45
    (bnd (kSt (pStore Try.prog 4 x8.1 (Go.Value.bool false) x44.2)) fun u_2 =>
    bnd (pLoad Try.prog 4 x8.1 u_2.2) fun q0 =>
    some (q0, u_2.2))
    (bnd (pLoad Try.prog 3 x5.1 x44.2) fun x46 =>
    bnd (pLoad Try.prog 22 x4.1 x44.2) fun x47 =>
    bnd (pLen Try.prog #[22] x47 x44.2) fun x48 =>
    bnd (inv (.func 9) #[] #[x46, x48] x44.2) fun x49 =>
    bnd (pLoad Try.prog 22 x4.1 x49.2) fun x51 =>
    bnd (pLen Try.prog #[22] x51 x49.2) fun x52 =>
    bnd (inv (.func 9) #[] #[x2, x52] x49.2) fun x53 =>
    bnd (kSt (pStore Try.prog 3 x5.1 x49.1 x53.2)) fun u_3 =>
    chkK ((!true || !true || (sameO (pLoad Try.prog 22 x4.1 x44.2) x51 && sameO (pLoad Try.prog 22 x4.1 x49.2) x51)) && ((!true || !true || (sameO (pLen Try.prog #[22] x51 x44.2) x52 && sameO (pLen Try.prog #[22] x51 x49.2) x52)) && true)) <|
    bnd (pAlloc Try.prog 3 u_3.2) fun x12 =>
    bnd (kSt (pStore Try.prog 3 x12.1 (Go.Value.int Go.IntKind.i64 0) x12.2)) fun u_4 =>
    F7_rlrrrrrrrr inv k x53.1 x3 x4.1 x5.1 x8.1 x12.1 x39.1 u_4.2
    (fun y2 y3 y4 y5 y8 y12 y54 h =>
    bnd (pLoad Try.prog 22 y4 h) fun x73 =>
    bnd (inv (.func 11) #[] #[x73] h) fun x74 =>
    bnd (pIndexAddr Try.prog 22 x74.1 y2) fun x78 =>
    bnd (kSt (pStore Try.prog 30 x78 y3 x74.2)) fun u_5 =>
    bnd (pLoad Try.prog 22 y4 u_5.2) fun x79 =>
    bnd (inv (.func 11) #[] #[x79] u_5.2) fun x80 =>
    bnd (pBuildSlice Try.prog 22 1 #[(0, y3)] x80.2) fun x82 =>
    bnd (pAppend Try.prog #[22, 22] x80.1 x82.1 x82.2) fun x83 =>
    bnd (inv (.func 15) #[] #[x83.1] x83.2) fun x84 =>
    bnd (inv (.func 10) #[] #[x74.1, x84.1] x84.2) fun x88 =>
    bnd (pExtract x88.1 0) fun x89 =>
    bnd (pExtract x88.1 1) fun x90 =>
    bnd (pLen Try.prog #[22] x74.1 x88.2) fun x94 =>
    bnd (inv (.func 13) #[] #[x89, x94, x84.1] x88.2) fun x96 =>
    bnd (pExtract x96.1 0) fun x97 =>
    bnd (pExtract x96.1 1) fun x98 =>
    bnd (pLoad Try.prog 3 y12 x96.2) fun x99 =>
    bnd (pLoad Try.prog 3 y5 x96.2) fun x100 =>
    bnd (pBin Try.prog Go.BinOp.eql 3 (Go.Operand.tmp 99) (Go.Operand.tmp 100) x99 x100) fun x101 =>
    bnd (gd (some x101) true x96.2 (some (x90, x96.2))) fun x103 =>
    bnd (gd (some x101) true x103.2 (lt (pBin Try.prog Go.BinOp.eql 26 (Go.Operand.tmp 103) (Go.Operand.const (Go.Value.int Go.IntKind.i64 0)) x103.1 (Go.Value.int Go.IntKind.i64 0)) x103.2)) fun x104 =>
    bnd (pickV x101 x104.1 (Go.Value.bool false)) fun x105 =>
    bnd (gd (some x105) true x104.2 (some (x98, x104.2))) fun x107 =>
    bnd (gd (some x105) true x107.2 (lt (pBin Try.prog Go.BinOp.eql 26 (Go.Operand.tmp 107) (Go.Operand.const (Go.Value.int Go.IntKind.i64 0)) x107.1 (Go.Value.int Go.IntKind.i64 0)) x107.2)) fun x108 =>
    bnd (pickV x105 x108.1 (Go.Value.bool false)) fun x109 =>
    bnd (gd (some x109) true x108.2 (some (x97, x108.2))) fun x111 =>
    bnd (gd (some x109) true x111.2 (some (x74.1, x111.2))) fun x112 =>
    bnd (gd (some x109) true x112.2 (inv (.func 14) #[] #[x111.1, x112.1] x112.2)) fun x113 =>
    bnd (pickV x109 x113.1 (Go.Value.bool false)) fun x114 =>
    bnd (kSt (pStore Try.prog 4 y8 x114 x113.2)) fun u_6 =>
    bnd (pLoad Try.prog 4 y8 u_6.2) fun q0 =>
    some (q0, u_6.2))
    (fun y2_7 y3_8 y4_9 y5_10 y8_11 y12_12 y54_13 h_14 =>
    bnd (pLoad Try.prog 4 y8_11 h_14) fun q0 =>
    some (q0, h_14)))))
theorem F7_eq {inv : Inv} {k : Nat} {x0 x1 x2 x3 : Value} {h : AH} : eFun env k inv 7 #[x0, x1, x2, x3] h = F7 inv k x0 x1 x2 x3 h := by
      refine (eFun_k2 (by kernel_rfl) (by kernel_rfl) (by kernel_rfl) (a := act 115 [(0, x0), (1, x1), (2, x2), (3, x3)]) (c := c7) (by kernel_rfl) (by kernel_rfl)).trans ?_
      unfold F7
      simp only [k_seq (E := env) (f := 7) (c := c7) (by kernel_rfl), r7_0, k_seq (E := env) (f := 7) (c := (cr c7)) (by kernel_rfl), k_seq (E := env) (f := 7) (c := (cl (cr c7))) (by kernel_rfl), r7_1, b7_rlr, k_seq (E := env) (f := 7) (c := (cl (cr (cl (cr c7))))) (by kernel_rfl), r7_2, k_ret (E := env) (f := 7) (c := (cr (cl (cr (cl (cr c7)))))) (by kernel_rfl), res7_0, k_skip (E := env) (f := 7) (c := (cr (cr (cl (cr c7))))) (by kernel_rfl), k_seq (E := env) (f := 7) (c := (cr (cr c7))) (by kernel_rfl), k_seq (E := env) (f := 7) (c := (cl (cr (cr c7)))) (by kernel_rfl), r7_3, b7_rlrr, k_seq (E := env) (f := 7) (c := (cl (cr (cl (cr (cr c7)))))) (by kernel_rfl), r7_4, k_ret (E := env) (f := 7) (c := (cr (cl (cr (cl (cr (cr c7))))))) (by kernel_rfl), k_skip (E := env) (f := 7) (c := (cr (cr (cl (cr (cr c7)))))) (by kernel_rfl), k_seq (E := env) (f := 7) (c := (cr (cr (cr c7)))) (by kernel_rfl), r7_5, k_seq (E := env) (f := 7) (c := (cr (cr (cr (cr c7))))) (by kernel_rfl), r7_6, k_seq (E := env) (f := 7) (c := (cr (cr (cr (cr (cr c7)))))) (by kernel_rfl), k_seq (E := env) (f := 7) (c := (cl (cr (cr (cr (cr (cr c7))))))) (by kernel_rfl), r7_7, b7_rlrrrrr, k_seq (E := env) (f := 7) (c := (cl (cr (cl (cr (cr (cr (cr (cr c7))))))))) (by kernel_rfl), r7_8, k_ret (E := env) (f := 7) (c := (cr (cl (cr (cl (cr (cr (cr (cr (cr c7)))))))))) (by kernel_rfl), k_skip (E := env) (f := 7) (c := (cr (cr (cl (cr (cr (cr (cr (cr c7))))))))) (by kernel_rfl), k_seq (E := env) (f := 7) (c := (cr (cr (cr (cr (cr (cr c7))))))) (by kernel_rfl), r7_9, k_seq (E := env) (f := 7) (c := (cr (cr (cr (cr (cr (cr (cr c7)))))))) (by kernel_rfl), r7_10, k_seq (E := env) (f := 7) (c := (cr (cr (cr (cr (cr (cr (cr (cr c7))))))))) (by kernel_rfl), k_seq (E := env) (f := 7) (c := (cl (cr (cr (cr (cr (cr (cr (cr (cr c7)))))))))) (by kernel_rfl), r7_11, F7_rlrrrrrrrr_eq, k_seq (E := env) (f := 7) (c := (cr (cr (cr (cr (cr (cr (cr (cr (cr c7)))))))))) (by kernel_rfl), r7_18, k_seq (E := env) (f := 7) (c := (cr (cr (cr (cr (cr (cr (cr (cr (cr (cr c7))))))))))) (by kernel_rfl), r7_19, k_seq (E := env) (f := 7) (c := (cr (cr (cr (cr (cr (cr (cr (cr (cr (cr (cr c7)))))))))))) (by kernel_rfl), r7_20, k_seq (E := env) (f := 7) (c := (cr (cr (cr (cr (cr (cr (cr (cr (cr (cr (cr (cr c7))))))))))))) (by kernel_rfl), r7_21, k_seq (E := env) (f := 7) (c := (cr (cr (cr (cr (cr (cr (cr (cr (cr (cr (cr (cr (cr c7)))))))))))))) (by kernel_rfl), r7_22, k_seq (E := env) (f := 7) (c := (cr (cr (cr (cr (cr (cr (cr (cr (cr (cr (cr (cr (cr (cr c7))))))))))))))) (by kernel_rfl), r7_23, k_ret (E := env) (f := 7) (c := (cr (cr (cr (cr (cr (cr (cr (cr (cr (cr (cr (cr (cr (cr (cr c7)))))))))))))))) (by kernel_rfl), res7_1, reduceIte, reduceCtorEq, XE.exit.injEq, Nat.reduceEqDiff] <;> kernel_rfl
theorem F7_call {k : Nat} {x0 x1 x2 x3 : Value} {h : AH} : eInv env (k + 1) (.func 7) #[] #[x0, x1, x2, x3] h = F7 (eInv env k) k x0 x1 x2 x3 h := (inv_func (by kernel_rfl)).trans F7_eq
theorem r7_12 {β : Type} {inv : Inv} {k : Nat} {x2 x3 x4 x5 x8 x12 x54 x55 x56 : Value} {h : AH} {K : XE → Act → AH → Option β} : kCode env 7 true inv k (cl (cl (cl (cr (cl (cr (cr (cr (cr (cr (cr (cr (cr c7))))))))))))) (act 115 [(2, x2), (3, x3), (4, x4), (5, x5), (8, x8), (12, x12), (54, x54), (55, x55), (56, x56)]) h K =
    K .normal (act 115 [(2, x2), (3, x3), (4, x4), (5, x5), (8, x8), (12, x12), (13, x55), (56, x56)]) h := (k_reg (by kernel_rfl)).trans (by kernel_rfl)
theorem r7_13 {β : Type} {inv : Inv} {k : Nat} {x2 x3 x4 x5 x8 x12 x13 x56 : Value} {h : AH} {K : XE → Act → AH → Option β} : kCode env 7 true inv k (cr (cl (cl (cr (cl (cr (cr (cr (cr (cr (cr (cr (cr c7))))))))))))) (act 115 [(2, x2), (3, x3), (4, x4), (5, x5), (8, x8), (12, x12), (13, x13), (56, x56)]) h K =
    K .normal (act 115 [(2, x2), (3, x3), (4, x4), (5, x5), (8, x8), (12, x12), (13, x13), (14, x56)]) h := (k_reg (by kernel_rfl)).trans (by kernel_rfl)
theorem r7_14 {β : Type} {inv : Inv} {k : Nat} {x2 x3 x4 x5 x8 x12 x13 x14 : Value} {h : AH} {K : XE → Act → AH → Option β} : kCode env 7 true inv k (cl (cl (cl (cr (cl (cr (cl (cr (cr (cr (cr (cr (cr (cr (cr c7))))))))))))))) (act 115 [(2, x2), (3, x3), (4, x4), (5, x5), (8, x8), (12, x12), (13, x13), (14, x14)]) h K =
    bnd (pLoad Try.prog 3 x12 h) fun x57 =>
    bnd (pLoad Try.prog 3 x5 h) fun x58 =>
    bnd (pBin Try.prog Go.BinOp.eql 3 (Go.Operand.tmp 57) (Go.Operand.tmp 58) x57 x58) fun x59 =>
    K .normal (act 115 [(2, x2), (3, x3), (4, x4), (5, x5), (8, x8), (12, x12), (13, x13), (14, x14), (59, x59)]) h := (k_reg (by kernel_rfl)).trans (by kernel_rfl)
theorem b7_rllrlrlrrrrrrrr {β : Type} {inv : Inv} {k : Nat} {x2 x3 x4 x5 x8 x12 x13 x14 x59 : Value} {h : AH} {K : XE → Act → AH → Option β} : kCode env 7 true inv k (cr (cl (cl (cr (cl (cr (cl (cr (cr (cr (cr (cr (cr (cr (cr c7))))))))))))))) (act 115 [(2, x2), (3, x3), (4, x4), (5, x5), (8, x8), (12, x12), (13, x13), (14, x14), (59, x59)]) h K = brV x59 (kCode env 7 true inv k (cl (cr (cl (cl (cr (cl (cr (cl (cr (cr (cr (cr (cr (cr (cr (cr c7)))))))))))))))) (act 115 [(2, x2), (3, x3), (4, x4), (5, x5), (8, x8), (12, x12), (13, x13), (14, x14), (59, x59)]) h K) (kCode env 7 true inv k (cr (cr (cl (cl (cr (cl (cr (cl (cr (cr (cr (cr (cr (cr (cr (cr c7)))))))))))))))) (act 115 [(2, x2), (3, x3), (4, x4), (5, x5), (8, x8), (12, x12), (13, x13), (14, x14), (59, x59)]) h K) := (k_cond (by kernel_rfl)).trans (by kernel_rfl)
theorem r7_15 {β : Type} {inv : Inv} {k : Nat} {x2 x3 x4 x5 x8 x12 x13 x14 x59 : Value} {h : AH} {K : XE → Act → AH → Option β} : kCode env 7 true inv k (cl (cl (cr (cl (cr (cl (cr (cl (cr (cr (cr (cr (cr (cr (cr (cr c7)))))))))))))))) (act 115 [(2, x2), (3, x3), (4, x4), (5, x5), (8, x8), (12, x12), (13, x13), (14, x14), (59, x59)]) h K =
    bnd (pLoad Try.prog 3 x12 h) fun x61 =>
    bnd (pBin Try.prog Go.BinOp.neq 3 (Go.Operand.tmp 60) (Go.Operand.tmp 61) x13 x61) fun x62 =>
    bnd (gd (some x62) false h (some (x14, h))) fun x64 =>
    bnd (gd (some x62) false x64.2 (lt (pLoad Try.prog 22 x4 x64.2) x64.2)) fun x65 =>
    bnd (gd (some x62) false x65.2 (some (x13, x65.2))) fun x66 =>
    bnd (gd (some x62) false x66.2 (lt (pIndexAddr Try.prog 22 x65.1 x66.1) x66.2)) fun x67 =>
    bnd (gd (some x62) false x67.2 (lt (pLoad Try.prog 30 x67.1 x67.2) x67.2)) fun x68 =>
    bnd (gd (some x62) false x68.2 (lt (pBin Try.prog Go.BinOp.neq 30 (Go.Operand.tmp 64) (Go.Operand.tmp 68) x64.1 x68.1) x68.2)) fun x69 =>
    bnd (pickV x62 (Go.Value.bool true) x69.1) fun x70 =>
    K .normal (act 115 [(8, x8), (12, x12), (70, x70)]) x69.2 := (k_reg (by kernel_rfl)).trans (by kernel_rfl)
theorem b7_rlrlrlrlrrrrrrrr {β : Type} {inv : Inv} {k : Nat} {x8 x12 x70 : Value} {h : AH} {K : XE → Act → AH → Option β} : kCode env 7 true inv k (cr (cl (cr (cl (cr (cl (cr (cl (cr (cr (cr (cr (cr (cr (cr (cr c7)))))))))))))))) (act 115 [(8, x8), (12, x12), (70, x70)]) h K = brV x70 (kCode env 7 true inv k (cl (cr (cl (cr (cl (cr (cl (cr (cl (cr (cr (cr (cr (cr (cr (cr (cr c7))))))))))))))))) (act 115 [(8, x8), (12, x12), (70, x70)]) h K) (kCode env 7 true inv k (cr (cr (cl (cr (cl (cr (cl (cr (cl (cr (cr (cr (cr (cr (cr (cr (cr c7))))))))))))))))) (act 115 [(8, x8), (12, x12), (70, x70)]) h K) := (k_cond (by kernel_rfl)).trans (by kernel_rfl)
theorem r7_16 {β : Type} {inv : Inv} {k : Nat} {x8 x12 x70 : Value} {h : AH} {K : XE → Act → AH → Option β} : kCode env 7 true inv k (cl (cl (cr (cl (cr (cl (cr (cl (cr (cl (cr (cr (cr (cr (cr (cr (cr (cr c7)))))))))))))))))) (act 115 [(8, x8), (12, x12), (70, x70)]) h K =
    bnd (kSt (pStore Try.prog 4 x8 (Go.Value.bool false) h)) fun u =>
    K .normal (act 115 [(8, x8)]) u.2 := (k_reg (by kernel_rfl)).trans (by kernel_rfl)
theorem r7_17 {β : Type} {inv : Inv} {k : Nat} {x8 x12 x70 : Value} {h : AH} {K : XE → Act → AH → Option β} : kCode env 7 true inv k (cr (cr (cl (cr (cl (cr (cl (cr (cr (cr (cr (cr (cr (cr (cr c7))))))))))))))) (act 115 [(8, x8), (12, x12), (70, x70)]) h K =
    bnd (pLoad Try.prog 3 x12 h) fun x71 =>
    bnd (pBin Try.prog Go.BinOp.add 3 (Go.Operand.tmp 71) (Go.Operand.const (Go.Value.int Go.IntKind.i64 1)) x71 (Go.Value.int Go.IntKind.i64 1)) fun x72 =>
    bnd (kSt (pStore Try.prog 3 x12 x72 h)) fun u =>
    K .normal (act 115 []) u.2 := (k_reg (by kernel_rfl)).trans (by kernel_rfl)
noncomputable def R7_lrlrrrrrrrr (inv : Inv) (k l : Nat) (x2 x3 x4 x5 x8 x12 x54 z0 z1 : Value) (h : AH) : Option (Value × AH) :=
    rdBegin l h fun h =>
    bnd (pLoad Try.prog 3 x12 h) fun x57 =>
    bnd (pLoad Try.prog 3 x5 h) fun x58 =>
    bnd (pBin Try.prog Go.BinOp.eql 3 (Go.Operand.tmp 57) (Go.Operand.tmp 58) x57 x58) fun x59 =>
    brV x59
    (rdEnd l (.exit 0) h)
    (bnd (pLoad Try.prog 3 x12 h) fun x61 =>
    bnd (pBin Try.prog Go.BinOp.neq 3 (Go.Operand.tmp 60) (Go.Operand.tmp 61) z0 x61) fun x62 =>
    bnd (gd (some x62) false h (some (z1, h))) fun x64 =>
    bnd (gd (some x62) false x64.2 (lt (pLoad Try.prog 22 x4 x64.2) x64.2)) fun x65 =>
    bnd (gd (some x62) false x65.2 (some (z0, x65.2))) fun x66 =>
    bnd (gd (some x62) false x66.2 (lt (pIndexAddr Try.prog 22 x65.1 x66.1) x66.2)) fun x67 =>
    bnd (gd (some x62) false x67.2 (lt (pLoad Try.prog 30 x67.1 x67.2) x67.2)) fun x68 =>
    bnd (gd (some x62) false x68.2 (lt (pBin Try.prog Go.BinOp.neq 30 (Go.Operand.tmp 64) (Go.Operand.tmp 68) x64.1 x68.1) x68.2)) fun x69 =>
    bnd (pickV x62 (Go.Value.bool true) x69.1) fun x70 =>
    brV x70
    (bnd (kSt (pStore Try.prog 4 x8 (Go.Value.bool false) x69.2)) fun u =>
    rdEnd l .ret u.2)
    (bnd (pLoad Try.prog 3 x12 x69.2) fun x71 =>
    bnd (pBin Try.prog Go.BinOp.add 3 (Go.Operand.tmp 71) (Go.Operand.const (Go.Value.int Go.IntKind.i64 1)) x71 (Go.Value.int Go.IntKind.i64 1)) fun x72 =>
    bnd (kSt (pStore Try.prog 3 x12 x72 x69.2)) fun u_15 =>
    rdEnd l .normal u_15.2))
theorem R7_lrlrrrrrrrr_eq {inv : Inv} {k l : Nat} {pd : Option Code} {x2 x3 x4 x5 x8 x12 x54 z0 z1 : Value} {h : AH} (hl : h.get l = some (.loop .ready pd 7 (act 115 [(2, x2), (3, x3), (4, x4), (5, x5), (8, x8), (12, x12), (54, x54)]).tmps (psOf (cl (cr (cl (cr (cr (cr (cr (cr (cr (cr (cr c7)))))))))))) (cl (cl (cr (cl (cr (cr (cr (cr (cr (cr (cr (cr c7)))))))))))) (cr (cl (cr (cl (cr (cr (cr (cr (cr (cr (cr (cr c7)))))))))))))) : eRound env k inv l #[z0, z1] h = R7_lrlrrrrrrrr inv k l x2 x3 x4 x5 x8 x12 x54 z0 z1 h := by
      refine (eRound_k (a := act 115 [(2, x2), (3, x3), (4, x4), (5, x5), (8, x8), (12, x12), (54, x54), (55, z0), (56, z1)]) hl (by kernel_rfl) (by kernel_rfl)).trans ?_
      unfold R7_lrlrrrrrrrr
      simp only [k_seq (E := env) (f := 7) (c := (cl (cl (cr (cl (cr (cr (cr (cr (cr (cr (cr (cr c7))))))))))))) (by kernel_rfl), r7_12, r7_13, k_block (E := env) (f := 7) (c := (cr (cl (cr (cl (cr (cr (cr (cr (cr (cr (cr (cr c7))))))))))))) (id := 1) (by kernel_rfl), k_seq (E := env) (f := 7) (c := (cl (cr (cl (cr (cl (cr (cr (cr (cr (cr (cr (cr (cr c7)))))))))))))) (by kernel_rfl), k_seq (E := env) (f := 7) (c := (cl (cl (cr (cl (cr (cl (cr (cr (cr (cr (cr (cr (cr (cr c7))))))))))))))) (by kernel_rfl), r7_14, b7_rllrlrlrrrrrrrr, k_exit (E := env) (f := 7) (c := (cl (cr (cl (cl (cr (cl (cr (cl (cr (cr (cr (cr (cr (cr (cr (cr c7))))))))))))))))) (id := 0) (by kernel_rfl), k_skip (E := env) (f := 7) (c := (cr (cr (cl (cl (cr (cl (cr (cl (cr (cr (cr (cr (cr (cr (cr (cr c7))))))))))))))))) (by kernel_rfl), k_seq (E := env) (f := 7) (c := (cr (cl (cr (cl (cr (cl (cr (cr (cr (cr (cr (cr (cr (cr c7))))))))))))))) (by kernel_rfl), k_seq (E := env) (f := 7) (c := (cl (cr (cl (cr (cl (cr (cl (cr (cr (cr (cr (cr (cr (cr (cr c7)))))))))))))))) (by kernel_rfl), r7_15, b7_rlrlrlrlrrrrrrrr, k_seq (E := env) (f := 7) (c := (cl (cr (cl (cr (cl (cr (cl (cr (cl (cr (cr (cr (cr (cr (cr (cr (cr c7)))))))))))))))))) (by kernel_rfl), r7_16, k_ret (E := env) (f := 7) (c := (cr (cl (cr (cl (cr (cl (cr (cl (cr (cl (cr (cr (cr (cr (cr (cr (cr (cr c7))))))))))))))))))) (by kernel_rfl), k_skip (E := env) (f := 7) (c := (cr (cr (cl (cr (cl (cr (cl (cr (cl (cr (cr (cr (cr (cr (cr (cr (cr c7)))))))))))))))))) (by kernel_rfl), r7_17, reduceIte, reduceCtorEq, XE.exit.injEq, Nat.reduceEqDiff] <;> kernel_rfl
noncomputable def c9 : Code := codeOf Try.prog 9
theorem r9_0 {β : Type} {inv : Inv} {k : Nat} {x0 x1 : Value} {h : AH} {K : XE → Act → AH → Option β} : kCode env 9 false inv k (cl c9) (act 17 [(0, x0), (1, x1)]) h K =
    K .normal (act 17 [(0, x0), (1, x1)]) h := (k_reg (by kernel_rfl)).trans (by kernel_rfl)
theorem r9_1 {β : Type} {inv : Inv} {k : Nat} {x0 x1 : Value} {h : AH} {K : XE → Act → AH → Option β} : kCode env 9 false inv k (cl (cl (cr c9))) (act 17 [(0, x0), (1, x1)]) h K =
    bnd (pBin Try.prog Go.BinOp.lss 3 (Go.Operand.tmp 6) (Go.Operand.const (Go.Value.int Go.IntKind.i64 1)) x1 (Go.Value.int Go.IntKind.i64 1)) fun x7 =>
    K .normal (act 17 [(0, x0), (1, x1), (7, x7)]) h := (k_reg (by kernel_rfl)).trans (by kernel_rfl)
theorem b9_rlr {β : Type} {inv : Inv} {k : Nat} {x0 x1 x7 : Value} {h : AH} {K : XE → Act → AH → Option β} : kCode env 9 false inv k (cr (cl (cr c9))) (act 17 [(0, x0), (1, x1), (7, x7)]) h K = brV x7 (kCode env 9 false inv k (cl (cr (cl (cr c9)))) (act 17 [(0, x0), (1, x1), (7, x7)]) h K) (kCode env 9 false inv k (cr (cr (cl (cr c9)))) (act 17 [(0, x0), (1, x1), (7, x7)]) h K) := (k_cond (by kernel_rfl)).trans (by kernel_rfl)
theorem r9_2 {β : Type} {inv : Inv} {k : Nat} {x0 x1 x7 : Value} {h : AH} {K : XE → Act → AH → Option β} : kCode env 9 false inv k (cl (cl (cr (cl (cr c9))))) (act 17 [(0, x0), (1, x1), (7, x7)]) h K =
    K .normal (act 17 [(4, (Go.Value.int Go.IntKind.i64 0))]) h := (k_reg (by kernel_rfl)).trans (by kernel_rfl)
theorem res9_0 {x4 : Value} {h : AH} : resOfFn env.P 9 .ret (act 17 [(4, x4)]) h = some (x4, h) := (resOfFn_k (by kernel_rfl) (by kernel_rfl)).trans (by kernel_rfl)
theorem r9_3 {β : Type} {inv : Inv} {k : Nat} {x0 x1 x7 : Value} {h : AH} {K : XE → Act → AH → Option β} : kCode env 9 false inv k (cl (cr (cr c9))) (act 17 [(0, x0), (1, x1), (7, x7)]) h K =
    bnd (pBin Try.prog Go.BinOp.rem 3 (Go.Operand.tmp 8) (Go.Operand.tmp 9) x0 x1) fun x10 =>
    K .normal (act 17 [(1, x1), (5, x10)]) h := (k_reg (by kernel_rfl)).trans (by kernel_rfl)
theorem r9_4 {β : Type} {inv : Inv} {k : Nat} {x1 x5 : Value} {h : AH} {K : XE → Act → AH → Option β} : kCode env 9 false inv k (cl (cl (cr (cr (cr c9))))) (act 17 [(1, x1), (5, x5)]) h K =
    bnd (pBin Try.prog Go.BinOp.lss 3 (Go.Operand.tmp 11) (Go.Operand.const (Go.Value.int Go.IntKind.i64 0)) x5 (Go.Value.int Go.IntKind.i64 0)) fun x12 =>
    K .normal (act 17 [(1, x1), (5, x5), (12, x12)]) h := (k_reg (by kernel_rfl)).trans (by kernel_rfl)
theorem b9_rlrrr {β : Type} {inv : Inv} {k : Nat} {x1 x5 x12 : Value} {h : AH} {K : XE → Act → AH → Option β} : kCode env 9 false inv k (cr (cl (cr (cr (cr c9))))) (act 17 [(1, x1), (5, x5), (12, x12)]) h K = brV x12 (kCode env 9 false inv k (cl (cr (cl (cr (cr (cr c9)))))) (act 17 [(1, x1), (5, x5), (12, x12)]) h K) (kCode env 9 false inv k (cr (cr (cl (cr (cr (cr c9)))))) (act 17 [(1, x1), (5, x5), (12, x12)]) h K) := (k_cond (by kernel_rfl)).trans (by kernel_rfl)
theorem r9_5 {β : Type} {inv : Inv} {k : Nat} {x1 x5 x12 : Value} {h : AH} {K : XE → Act → AH → Option β} : kCode env 9 false inv k (cl (cr (cl (cr (cr (cr c9)))))) (act 17 [(1, x1), (5, x5), (12, x12)]) h K =
    bnd (pBin Try.prog Go.BinOp.add 3 (Go.Operand.tmp 13) (Go.Operand.tmp 14) x5 x1) fun x15 =>
    K .normal (act 17 [(5, x15)]) h := (k_reg (by kernel_rfl)).trans (by kernel_rfl)
noncomputable def F9_rlrrr {β : Type} (inv : Inv) (k : Nat) (x1 x5 x12 : Value) (h : AH) (kn : (Value → Value → Value → AH → Option β)) : Option β :=
    brV x12
    (bnd (pBin Try.prog Go.BinOp.add 3 (Go.Operand.tmp 13) (Go.Operand.tmp 14) x5 x1) fun x15 =>
    kn unk x15 unk h)
    (kn x1 x5 x12 h)
theorem F9_rlrrr_eq {β : Type} {inv : Inv} {k : Nat} {x1 x5 x12 : Value} {h : AH} {K : XE → Act → AH → Option β} : kCode env 9 false inv k (cr (cl (cr (cr (cr c9))))) (act 17 [(1, x1), (5, x5), (12, x12)]) h K = F9_rlrrr inv k x1 x5 x12 h (fun y1 y5 y12 h => K .normal (act 17 [(1, y1), (5, y5), (12, y12)]) h) := by
      unfold F9_rlrrr
      simp only [b9_rlrrr, r9_5, k_skip (E := env) (f := 9) (c := (cr (cr (cl (cr (cr (cr c9))))))) (by kernel_rfl), reduceIte, reduceCtorEq, XE.exit.injEq, Nat.reduceEqDiff] <;> kernel_rfl
theorem r9_6 {β : Type} {inv : Inv} {k : Nat} {x1 x5 x12 : Value} {h : AH} {K : XE → Act → AH → Option β} : kCode env 9 false inv k (cl (cr (cr (cr (cr c9))))) (act 17 [(1, x1), (5, x5), (12, x12)]) h K =
    K .normal (act 17 [(4, x5)]) h := (k_reg (by kernel_rfl)).trans (by kernel_rfl)
/-- shadowbook/shadowbookkit.Pick -/
noncomputable def F9 (inv : Inv) (k : Nat) (x0 x1 : Value) (h : AH) : Option (Value × AH) :=
    bnd (pBin Try.prog Go.BinOp.lss 3 (Go.Operand.tmp 6) (Go.Operand.const (Go.Value.int Go.IntKind.i64 1)) x1 (Go.Value.int Go.IntKind.i64 1)) fun x7 =>
    brV x7
    (some ((Go.Value.int Go.IntKind.i64 0), h))
    (bnd (pBin Try.prog Go.BinOp.rem 3 (Go.Operand.tmp 8) (Go.Operand.tmp 9) x0 x1) fun x10 =>
    bnd (pBin Try.prog Go.BinOp.lss 3 (Go.Operand.tmp 11) (Go.Operand.const (Go.Value.int Go.IntKind.i64 0)) x10 (Go.Value.int Go.IntKind.i64 0)) fun x12 =>
    F9_rlrrr inv k x1 x10 x12 h
    (fun y1 y5 y12 h =>
    some (y5, h)))
theorem F9_eq {inv : Inv} {k : Nat} {x0 x1 : Value} {h : AH} : eFun env k inv 9 #[x0, x1] h = F9 inv k x0 x1 h := by
      refine (eFun_k2 (by kernel_rfl) (by kernel_rfl) (by kernel_rfl) (a := act 17 [(0, x0), (1, x1)]) (c := c9) (by kernel_rfl) (by kernel_rfl)).trans ?_
      unfold F9
      simp only [k_seq (E := env) (f := 9) (c := c9) (by kernel_rfl), r9_0, k_seq (E := env) (f := 9) (c := (cr c9)) (by kernel_rfl), k_seq (E := env) (f := 9) (c := (cl (cr c9))) (by kernel_rfl), r9_1, b9_rlr, k_seq (E := env) (f := 9) (c := (cl (cr (cl (cr c9))))) (by kernel_rfl), r9_2, k_ret (E := env) (f := 9) (c := (cr (cl (cr (cl (cr c9)))))) (by kernel_rfl), res9_0, k_skip (E := env) (f := 9) (c := (cr (cr (cl (cr c9))))) (by kernel_rfl), k_seq (E := env) (f := 9) (c := (cr (cr c9))) (by kernel_rfl), r9_3, k_seq (E := env) (f := 9) (c := (cr (cr (cr c9)))) (by kernel_rfl), k_seq (E := env) (f := 9) (c := (cl (cr (cr (cr c9))))) (by kernel_rfl), r9_4, F9_rlrrr_eq, k_seq (E := env) (f := 9) (c := (cr (cr (cr (cr c9))))) (by kernel_rfl), r9_6, k_ret (E := env) (f := 9) (c := (cr (cr (cr (cr (cr c9)))))) (by kernel_rfl), reduceIte, reduceCtorEq, XE.exit.injEq, Nat.reduceEqDiff] <;> kernel_rfl
theorem F9_call {k : Nat} {x0 x1 : Value} {h : AH} : eInv env (k + 1) (.func 9) #[] #[x0, x1] h = F9 (eInv env k) k x0 x1 h := (inv_func (by kernel_rfl)).trans F9_eq
noncomputable def c10 : Code := codeOf Try.prog 10
theorem r10_0 {β : Type} {inv : Inv} {k : Nat} {x0 x1 : Value} {h : AH} {K : XE → Act → AH → Option β} : kCode env 10 false inv k (cl c10) (act 54 [(0, x0), (1, x1)]) h K =
    K .normal (act 54 [(0, x0), (1, x1)]) h := (k_reg (by kernel_rfl)).trans (by kernel_rfl)
theorem r10_1 {β : Type} {inv : Inv} {k : Nat} {x0 x1 : Value} {h : AH} {K : XE → Act → AH → Option β} : kCode env 10 false inv k (cl (cl (cl (cr c10)))) (act 54 [(0, x0), (1, x1)]) h K =
    bnd (pLen Try.prog #[22] x0 h) fun x14 =>
    bnd (inv (.func 23) #[] #[x14, x1] h) fun x16 =>
    bnd (pUn Try.prog Go.UnOp.not x16.1) fun x17 =>
    K .normal (act 54 [(0, x0), (1, x1), (12, x17)]) x16.2 := (k_reg (by kernel_rfl)).trans (by kernel_rfl)
theorem b10_rllr {β : Type} {inv : Inv} {k : Nat} {x0 x1 x12 : Value} {h : AH} {K : XE → Act → AH → Option β} : kCode env 10 false inv k (cr (cl (cl (cr c10)))) (act 54 [(0, x0), (1, x1), (12, x12)]) h K = brV x12 (kCode env 10 false inv k (cl (cr (cl (cl (cr c10))))) (act 54 [(0, x0), (1, x1), (12, x12)]) h K) (kCode env 10 false inv k (cr (cr (cl (cl (cr c10))))) (act 54 [(0, x0), (1, x1), (12, x12)]) h K) := (k_cond (by kernel_rfl)).trans (by kernel_rfl)
theorem r10_2 {β : Type} {inv : Inv} {k : Nat} {x0 x1 x12 : Value} {h : AH} {K : XE → Act → AH → Option β} : kCode env 10 false inv k (cl (cl (cr (cl (cl (cr c10)))))) (act 54 [(0, x0), (1, x1), (12, x12)]) h K =
    K .normal (act 54 [(4, (Go.Value.slice none 0 0)), (5, (Go.Value.int Go.IntKind.i64 2))]) h := (k_reg (by kernel_rfl)).trans (by kernel_rfl)
theorem res10_0 {x4 x5 : Value} {h : AH} : resOfFn env.P 10 .ret (act 54 [(4, x4), (5, x5)]) h = some (.tuple #[x4, x5], h) := (resOfFn_k (by kernel_rfl) (by kernel_rfl)).trans (by kernel_rfl)
theorem r10_3 {β : Type} {inv : Inv} {k : Nat} {x0 x1 x12 : Value} {h : AH} {K : XE → Act → AH → Option β} : kCode env 10 false inv k (cl (cr (cr (cl (cl (cr c10)))))) (act 54 [(0, x0), (1, x1), (12, x12)]) h K =
    bnd (inv (.func 15) #[] #[x0] h) fun x20 =>
    bnd (pBin Try.prog Go.BinOp.gtr 3 (Go.Operand.tmp 20) (Go.Operand.tmp 21) x20.1 x1) fun x22 =>
    K .normal (act 54 [(0, x0), (1, x1), (18, x22)]) x20.2 := (k_reg (by kernel_rfl)).trans (by kernel_rfl)
theorem b10_rrrllr {β : Type} {inv : Inv} {k : Nat} {x0 x1 x18 : Value} {h : AH} {K : XE → Act → AH → Option β} : kCode env 10 false inv k (cr (cr (cr (cl (cl (cr c10)))))) (act 54 [(0, x0), (1, x1), (18, x18)]) h K = brV x18 (kCode env 10 false inv k (cl (cr (cr (cr (cl (cl (cr c10))))))) (act 54 [(0, x0), (1, x1), (18, x18)]) h K) (kCode env 10 false inv k (cr (cr (cr (cr (cl (cl (cr c10))))))) (act 54 [(0, x0), (1, x1), (18, x18)]) h K) := (k_cond (by kernel_rfl)).trans (by kernel_rfl)
theorem r10_4 {β : Type} {inv : Inv} {k : Nat} {x0 x1 x18 : Value} {h : AH} {K : XE → Act → AH → Option β} : kCode env 10 false inv k (cl (cl (cr (cr (cr (cl (cl (cr c10)))))))) (act 54 [(0, x0), (1, x1), (18, x18)]) h K =
    K .normal (act 54 [(4, (Go.Value.slice none 0 0)), (5, (Go.Value.int Go.IntKind.i64 3))]) h := (k_reg (by kernel_rfl)).trans (by kernel_rfl)
theorem r10_5 {β : Type} {inv : Inv} {k : Nat} {x0 x1 x18 : Value} {h : AH} {K : XE → Act → AH → Option β} : kCode env 10 false inv k (cl (cr (cr c10))) (act 54 [(0, x0), (1, x1), (18, x18)]) h K =
    bnd (pLen Try.prog #[22] x0 h) fun x24 =>
    bnd (inv (.func 16) #[] #[x24, x1] h) fun x26 =>
    bnd (pMakeSlice Try.prog 25 (Go.Value.int Go.IntKind.i64 0) x26.1 x26.2) fun x27 =>
    bnd (pAlloc Try.prog 25 x27.2) fun x6 =>
    bnd (kSt (pStore Try.prog 25 x6.1 x27.1 x6.2)) fun u =>
    K .normal (act 54 [(0, x0), (1, x1), (6, x6.1)]) u.2 := (k_reg (by kernel_rfl)).trans (by kernel_rfl)
theorem r10_6 {β : Type} {inv : Inv} {k : Nat} {x0 x1 x6 : Value} {h : AH} {K : XE → Act → AH → Option β} : kCode env 10 false inv k (cl (cr (cr (cr c10)))) (act 54 [(0, x0), (1, x1), (6, x6)]) h K =
    bnd (pAlloc Try.prog 5 h) fun x7 =>
    K .normal (act 54 [(0, x0), (1, x1), (6, x6), (7, x7.1)]) x7.2 := (k_reg (by kernel_rfl)).trans (by kernel_rfl)
theorem r10_7 {β : Type} {inv : Inv} {k : Nat} {x0 x1 x6 x7 : Value} {h : AH} {K : XE → Act → AH → Option β} : kCode env 10 false inv k (cl (cr (cr (cr (cr c10))))) (act 54 [(0, x0), (1, x1), (6, x6), (7, x7)]) h K =
    bnd (pAlloc Try.prog 3 h) fun x8 =>
    bnd (kSt (pStore Try.prog 3 x8.1 (Go.Value.int Go.IntKind.i64 0) x8.2)) fun u =>
    K .normal (act 54 [(0, x0), (1, x1), (6, x6), (7, x7), (8, x8.1)]) u.2 := (k_reg (by kernel_rfl)).trans (by kernel_rfl)
theorem r10_8 {β : Type} {inv : Inv} {k : Nat} {x0 x1 x6 x7 x8 : Value} {h : AH} {K : XE → Act → AH → Option β} : kCode env 10 false inv k (cl (cr (cr (cr (cr (cr c10)))))) (act 54 [(0, x0), (1, x1), (6, x6), (7, x7), (8, x8)]) h K =
    bnd (pMakeFunc (Go.Fn.func 24) #[] #[x7, x8, x6]) fun x28 =>
    K .normal (act 54 [(0, x0), (1, x1), (6, x6), (7, x7), (8, x8), (9, x28)]) h := (k_reg (by kernel_rfl)).trans (by kernel_rfl)
theorem r10_9 {β : Type} {inv : Inv} {k : Nat} {x0 x1 x6 x7 x8 x9 : Value} {h : AH} {K : XE → Act → AH → Option β} : kCode env 10 false inv k (cl (cl (cr (cr (cr (cr (cr (cr c10)))))))) (act 54 [(0, x0), (1, x1), (6, x6), (7, x7), (8, x8), (9, x9)]) h K =
    bnd (pLen Try.prog #[22] x0 h) fun x30 =>
    K .normal (act 54 [(1, x1), (6, x6), (7, x7), (8, x8), (9, x9), (29, x0), (30, x30), (31, (Go.Value.int Go.IntKind.i64 0))]) h := (k_reg (by kernel_rfl)).trans (by kernel_rfl)
theorem r10_10 {β : Type} {inv : Inv} {k : Nat} {x1 x6 x7 x8 x9 x29 x30 x31 : Value} {h : AH} {K : XE → Act → AH → Option β} : kCode env 10 false inv k (cl (cl (cl (cr (cl (cr (cr (cr (cr (cr (cr c10))))))))))) (act 54 [(1, x1), (6, x6), (7, x7), (8, x8), (9, x9), (29, x29), (30, x30), (31, x31)]) h K =
    bnd (pBin Try.prog Go.BinOp.lss 3 (Go.Operand.tmp 31) (Go.Operand.tmp 30) x31 x30) fun x32 =>
    K .normal (act 54 [(1, x1), (6, x6), (7, x7), (8, x8), (9, x9), (29, x29), (30, x30), (31, x31), (32, x32)]) h := (k_reg (by kernel_rfl)).trans (by kernel_rfl)
theorem b10_lrllrlrrrrrr {β : Type} {inv : Inv} {k : Nat} {x1 x6 x7 x8 x9 x29 x30 x31 x32 : Value} {h : AH} {K : XE → Act → AH → Option β} : kCode env 10 false inv k (cl (cr (cl (cl (cr (cl (cr (cr (cr (cr (cr (cr c10)))))))))))) (act 54 [(1, x1), (6, x6), (7, x7), (8, x8), (9, x9), (29, x29), (30, x30), (31, x31), (32, x32)]) h K = brV x32 (kCode env 10 false inv k (cl (cl (cr (cl (cl (cr (cl (cr (cr (cr (cr (cr (cr c10))))))))))))) (act 54 [(1, x1), (6, x6), (7, x7), (8, x8), (9, x9), (29, x29), (30, x30), (31, x31), (32, x32)]) h K) (kCode env 10 false inv k (cr (cl (cr (cl (cl (cr (cl (cr (cr (cr (cr (cr (cr c10))))))))))))) (act 54 [(1, x1), (6, x6), (7, x7), (8, x8), (9, x9), (29, x29), (30, x30), (31, x31), (32, x32)]) h K) := (k_cond (by kernel_rfl)).trans (by kernel_rfl)
theorem r10_11 {β : Type} {inv : Inv} {k : Nat} {x1 x6 x7 x8 x9 x29 x30 x31 x32 : Value} {h : AH} {K : XE → Act → AH → Option β} : kCode env 10 false inv k (cl (cl (cl (cr (cr (cl (cl (cr (cl (cr (cr (cr (cr (cr (cr c10))))))))))))))) (act 54 [(1, x1), (6, x6), (7, x7), (8, x8), (9, x9), (29, x29), (30, x30), (31, x31), (32, x32)]) h K =
    bnd (pIndexAddr Try.prog 22 x29 x31) fun x33 =>
    bnd (pLoad Try.prog 30 x33 h) fun x34 =>
    K .normal (act 54 [(1, x1), (6, x6), (7, x7), (8, x8), (9, x9), (11, x34), (29, x29), (30, x30), (31, x31)]) h := (k_reg (by kernel_rfl)).trans (by kernel_rfl)
theorem r10_12 {β : Type} {inv : Inv} {k : Nat} {x1 x6 x7 x8 x9 x11 x29 x30 x31 : Value} {h : AH} {K : XE → Act → AH → Option β} : kCode env 10 false inv k (cl (cr (cl (cl (cr (cr (cl (cl (cr (cl (cr (cr (cr (cr (cr (cr c10)))))))))))))))) (act 54 [(1, x1), (6, x6), (7, x7), (8, x8), (9, x9), (11, x11), (29, x29), (30, x30), (31, x31)]) h K =
    K .normal (act 54 [(1, x1), (6, x6), (7, x7), (8, x8), (9, x9), (11, x11), (29, x29), (30, x30), (31, x31), (35, x1), (36, (Go.Value.int Go.IntKind.i64 0))]) h := (k_reg (by kernel_rfl)).trans (by kernel_rfl)
theorem r10_13 {β : Type} {inv : Inv} {k : Nat} {x1 x6 x7 x8 x9 x11 x29 x30 x31 x35 x36 : Value} {h : AH} {K : XE → Act → AH → Option β} : kCode env 10 false inv k (cl (cl (cl (cr (cr (cl (cl (cr (cr (cl (cl (cr (cl (cr (cr (cr (cr (cr (cr c10))))))))))))))))))) (act 54 [(1, x1), (6, x6), (7, x7), (8, x8), (9, x9), (11, x11), (29, x29), (30, x30), (31, x31), (35, x35), (36, x36)]) h K =
    bnd (pBin Try.prog Go.BinOp.lss 3 (Go.Operand.tmp 36) (Go.Operand.tmp 35) x36 x35) fun x37 =>
    K .normal (act 54 [(1, x1), (6, x6), (7, x7), (8, x8), (9, x9), (11, x11), (29, x29), (30, x30), (31, x31), (35, x35), (36, x36), (37, x37)]) h := (k_reg (by kernel_rfl)).trans (by kernel_rfl)
theorem b10_lrllrrllrrllrlrrrrrr {β : Type} {inv : Inv} {k : Nat} {x1 x6 x7 x8 x9 x11 x29 x30 x31 x35 x36 x37 : Value} {h : AH} {K : XE → Act → AH → Option β} : kCode env 10 false inv k (cl (cr (cl (cl (cr (cr (cl (cl (cr (cr (cl (cl (cr (cl (cr (cr (cr (cr (cr (cr c10)))))))))))))))))))) (act 54 [(1, x1), (6, x6), (7, x7), (8, x8), (9, x9), (11, x11), (29, x29), (30, x30), (31, x31), (35, x35), (36, x36), (37, x37)]) h K = brV x37 (kCode env 10 false inv k (cl (cl (cr (cl (cl (cr (cr (cl (cl (cr (cr (cl (cl (cr (cl (cr (cr (cr (cr (cr (cr c10))))))))))))))))))))) (act 54 [(1, x1), (6, x6), (7, x7), (8, x8), (9, x9), (11, x11), (29, x29), (30, x30), (31, x31), (35, x35), (36, x36), (37, x37)]) h K) (kCode env 10 false inv k (cr (cl (cr (cl (cl (cr (cr (cl (cl (cr (cr (cl (cl (cr (cl (cr (cr (cr (cr (cr (cr c10))))))))))))))))))))) (act 54 [(1, x1), (6, x6), (7, x7), (8, x8), (9, x9), (11, x11), (29, x29), (30, x30), (31, x31), (35, x35), (36, x36), (37, x37)]) h K) := (k_cond (by kernel_rfl)).trans (by kernel_rfl)
theorem r10_14 {β : Type} {inv : Inv} {k : Nat} {x1 x6 x7 x8 x9 x11 x29 x30 x31 x35 x36 x37 : Value} {h : AH} {K : XE → Act → AH → Option β} : kCode env 10 false inv k (cl (cl (cl (cr (cr (cl (cl (cr (cr (cl (cl (cr (cr (cl (cl (cr (cl (cr (cr (cr (cr (cr (cr c10))))))))))))))))))))))) (act 54 [(1, x1), (6, x6), (7, x7), (8, x8), (9, x9), (11, x11), (29, x29), (30, x30), (31, x31), (35, x35), (36, x36), (37, x37)]) h K =
    bnd (pBin Try.prog Go.BinOp.and 30 (Go.Operand.tmp 39) (Go.Operand.const (Go.Value.int Go.IntKind.u64 1)) x11 (Go.Value.int Go.IntKind.u64 1)) fun x40 =>
    bnd (pConv Try.prog 30 5 x40 h) fun x41 =>
    bnd (callV inv x9 #[x41] h) fun x42 =>
    K .normal (act 54 [(1, x1), (6, x6), (7, x7), (8, x8), (9, x9), (11, x11), (29, x29), (30, x30), (31, x31), (35, x35), (36, x36)]) x42.2 := (k_reg (by kernel_rfl)).trans (by kernel_rfl)
theorem r10_15 {β : Type} {inv : Inv} {k : Nat} {x1 x6 x7 x8 x9 x11 x29 x30 x31 x35 x36 : Value} {h : AH} {K : XE → Act → AH → Option β} : kCode env 10 false inv k (cr (cl (cl (cr (cr (cl (cl (cr (cr (cl (cl (cr (cr (cl (cl (cr (cl (cr (cr (cr (cr (cr (cr c10))))))))))))))))))))))) (act 54 [(1, x1), (6, x6), (7, x7), (8, x8), (9, x9), (11, x11), (29, x29), (30, x30), (31, x31), (35, x35), (36, x36)]) h K =
    bnd (pBin Try.prog Go.BinOp.shr 30 (Go.Operand.tmp 43) (Go.Operand.const (Go.Value.int Go.IntKind.u64 1)) x11 (Go.Value.int Go.IntKind.u64 1)) fun x44 =>
    K .normal (act 54 [(1, x1), (6, x6), (7, x7), (8, x8), (9, x9), (11, x44), (29, x29), (30, x30), (31, x31), (35, x35), (36, x36)]) h := (k_reg (by kernel_rfl)).trans (by kernel_rfl)
theorem r10_16 {β : Type} {inv : Inv} {k : Nat} {x1 x6 x7 x8 x9 x11 x29 x30 x31 x35 x36 : Value} {h : AH} {K : XE → Act → AH → Option β} : kCode env 10 false inv k (cr (cr (cr (cl (cl (cr (cr (cl (cl (cr (cr (cl (cl (cr (cl (cr (cr (cr (cr (cr (cr c10))))))))))))))))))))) (act 54 [(1, x1), (6, x6), (7, x7), (8, x8), (9, x9), (11, x11), (29, x29), (30, x30), (31, x31), (35, x35), (36, x36)]) h K =
    bnd (pBin Try.prog Go.BinOp.add 3 (Go.Operand.tmp 36) (Go.Operand.const (Go.Value.int Go.IntKind.i64 1)) x36 (Go.Value.int Go.IntKind.i64 1)) fun x45 =>
    K .normal (act 54 [(1, x1), (6, x6), (7, x7), (8, x8), (9, x9), (11, x11), (29, x29), (30, x30), (31, x31), (35, x35), (36, x45)]) h := (k_reg (by kernel_rfl)).trans (by kernel_rfl)
noncomputable def F10_lrrllrrllrlrrrrrr {β : Type} (inv : Inv) (k : Nat) : Nat → Value → Value → Value → Value → Value → Value → Value → Value → Value → Value → Value → AH → (Value → Value → Value → Value → Value → Value → Value → Value → Value → Value → Value → Value → AH → Option β) → Option β
  | 0, _, _, _, _, _, _, _, _, _, _, _, _, _ => none
  | j + 1, x1, x6, x7, x8, x9, x11, x29, x30, x31, x35, x36, h, ke3 =>
    bnd (pBin Try.prog Go.BinOp.lss 3 (Go.Operand.tmp 36) (Go.Operand.tmp 35) x36 x35) fun x37 =>
    brV x37
    (bnd (pBin Try.prog Go.BinOp.and 30 (Go.Operand.tmp 39) (Go.Operand.const (Go.Value.int Go.IntKind.u64 1)) x11 (Go.Value.int Go.IntKind.u64 1)) fun x40 =>
    bnd (pConv Try.prog 30 5 x40 h) fun x41 =>
    bnd (callV inv x9 #[x41] h) fun x42 =>
    bnd (pBin Try.prog Go.BinOp.shr 30 (Go.Operand.tmp 43) (Go.Operand.const (Go.Value.int Go.IntKind.u64 1)) x11 (Go.Value.int Go.IntKind.u64 1)) fun x44 =>
    bnd (pBin Try.prog Go.BinOp.add 3 (Go.Operand.tmp 36) (Go.Operand.const (Go.Value.int Go.IntKind.i64 1)) x36 (Go.Value.int Go.IntKind.i64 1)) fun x45 =>
    F10_lrrllrrllrlrrrrrr inv k j x1 x6 x7 x8 x9 x44 x29 x30 x31 x35 x45 x42.2 ke3)
    (ke3 x1 x6 x7 x8 x9 x11 x29 x30 x31 x35 x36 x37 h)
theorem F10_lrrllrrllrlrrrrrr_j {β : Type} {inv : Inv} {k : Nat} (j : Nat) {x1 x6 x7 x8 x9 x11 x29 x30 x31 x35 x36 : Value} {h : AH} {K : XE → Act → AH → Option β} : kLoop (kCode env 10 false inv k (cl (cl (cr (cr (cl (cl (cr (cr (cl (cl (cr (cl (cr (cr (cr (cr (cr (cr c10))))))))))))))))))) j (act 54 [(1, x1), (6, x6), (7, x7), (8, x8), (9, x9), (11, x11), (29, x29), (30, x30), (31, x31), (35, x35), (36, x36)]) h K = F10_lrrllrrllrlrrrrrr inv k j x1 x6 x7 x8 x9 x11 x29 x30 x31 x35 x36 h (fun y1 y6 y7 y8 y9 y11 y29 y30 y31 y35 y36 y37 h => K (.exit 3) (act 54 [(1, y1), (6, y6), (7, y7), (8, y8), (9, y9), (11, y11), (29, y29), (30, y30), (31, y31), (35, y35), (36, y36), (37, y37)]) h) := by
      induction j generalizing x1 x6 x7 x8 x9 x11 x29 x30 x31 x35 x36 h with
      | zero => rfl
      | succ j ih =>
        unfold F10_lrrllrrllrlrrrrrr
        simp only [kLoop, k_seq (E := env) (f := 10) (c := (cl (cl (cr (cr (cl (cl (cr (cr (cl (cl (cr (cl (cr (cr (cr (cr (cr (cr c10))))))))))))))))))) (by kernel_rfl), r10_13, k_seq (E := env) (f := 10) (c := (cr (cl (cl (cr (cr (cl (cl (cr (cr (cl (cl (cr (cl (cr (cr (cr (cr (cr (cr c10)))))))))))))))))))) (by kernel_rfl), b10_lrllrrllrrllrlrrrrrr, k_skip (E := env) (f := 10) (c := (cl (cl (cr (cl (cl (cr (cr (cl (cl (cr (cr (cl (cl (cr (cl (cr (cr (cr (cr (cr (cr c10)))))))))))))))))))))) (by kernel_rfl), k_seq (E := env) (f := 10) (c := (cr (cr (cl (cl (cr (cr (cl (cl (cr (cr (cl (cl (cr (cl (cr (cr (cr (cr (cr (cr c10))))))))))))))))))))) (by kernel_rfl), k_block (E := env) (f := 10) (c := (cl (cr (cr (cl (cl (cr (cr (cl (cl (cr (cr (cl (cl (cr (cl (cr (cr (cr (cr (cr (cr c10)))))))))))))))))))))) (id := 4) (by kernel_rfl), k_seq (E := env) (f := 10) (c := (cl (cl (cr (cr (cl (cl (cr (cr (cl (cl (cr (cr (cl (cl (cr (cl (cr (cr (cr (cr (cr (cr c10))))))))))))))))))))))) (by kernel_rfl), r10_14, r10_15, r10_16, k_exit (E := env) (f := 10) (c := (cr (cl (cr (cl (cl (cr (cr (cl (cl (cr (cr (cl (cl (cr (cl (cr (cr (cr (cr (cr (cr c10)))))))))))))))))))))) (id := 3) (by kernel_rfl), ih, reduceIte, reduceCtorEq, XE.exit.injEq, Nat.reduceEqDiff] <;> kernel_rfl
theorem F10_lrrllrrllrlrrrrrr_eq {β : Type} {inv : Inv} {k : Nat} {x1 x6 x7 x8 x9 x11 x29 x30 x31 x35 x36 : Value} {h : AH} {K : XE → Act → AH → Option β} : kCode env 10 false inv k (cl (cr (cr (cl (cl (cr (cr (cl (cl (cr (cl (cr (cr (cr (cr (cr (cr c10))))))))))))))))) (act 54 [(1, x1), (6, x6), (7, x7), (8, x8), (9, x9), (11, x11), (29, x29), (30, x30), (31, x31), (35, x35), (36, x36)]) h K = F10_lrrllrrllrlrrrrrr inv k k x1 x6 x7 x8 x9 x11 x29 x30 x31 x35 x36 h (fun y1 y6 y7 y8 y9 y11 y29 y30 y31 y35 y36 y37 h => K (.exit 3) (act 54 [(1, y1), (6, y6), (7, y7), (8, y8), (9, y9), (11, y11), (29, y29), (30, y30), (31, y31), (35, y35), (36, y36), (37, y37)]) h) := (k_loop (by kernel_rfl)).trans (F10_lrrllrrllrlrrrrrr_j k)
theorem r10_17 {β : Type} {inv : Inv} {k : Nat} {x1 x6 x7 x8 x9 x11 x29 x30 x31 x35 x36 x37 : Value} {h : AH} {K : XE → Act → AH → Option β} : kCode env 10 false inv k (cr (cr (cr (cl (cl (cr (cl (cr (cr (cr (cr (cr (cr c10))))))))))))) (act 54 [(1, x1), (6, x6), (7, x7), (8, x8), (9, x9), (11, x11), (29, x29), (30, x30), (31, x31), (35, x35), (36, x36), (37, x37)]) h K =
    bnd (pBin Try.prog Go.BinOp.add 3 (Go.Operand.tmp 31) (Go.Operand.const (Go.Value.int Go.IntKind.i64 1)) x31 (Go.Value.int Go.IntKind.i64 1)) fun x46 =>
    K .normal (act 54 [(1, x1), (6, x6), (7, x7), (8, x8), (9, x9), (29, x29), (30, x30), (31, x46)]) h := (k_reg (by kernel_rfl)).trans (by kernel_rfl)
noncomputable def F10_lrlrrrrrr {β : Type} (inv : Inv) (k : Nat) : Nat → Value → Value → Value → Value → Value → Value → Value → Value → AH → (Value → Value → Value → Value → Value → Value → Value → Value → Value → AH → Option β) → Option β
  | 0, _, _, _, _, _, _, _, _, _, _ => none
  | j + 1, x1, x6, x7, x8, x9, x29, x30, x31, h, ke1 =>
    bnd (pBin Try.prog Go.BinOp.lss 3 (Go.Operand.tmp 31) (Go.Operand.tmp 30) x31 x30) fun x32 =>
    brV x32
    (bnd (pIndexAddr Try.prog 22 x29 x31) fun x33 =>
    bnd (pLoad Try.prog 30 x33 h) fun x34 =>
    F10_lrrllrrllrlrrrrrr inv k k x1 x6 x7 x8 x9 x34 x29 x30 x31 x1 (Go.Value.int Go.IntKind.i64 0) h
    (fun y1 y6 y7 y8 y9 y11 y29 y30 y31 y35 y36 y37 h =>
    bnd (pBin Try.prog Go.BinOp.add 3 (Go.Operand.tmp 31) (Go.Operand.const (Go.Value.int Go.IntKind.i64 1)) y31 (Go.Value.int Go.IntKind.i64 1)) fun x46 =>
    F10_lrlrrrrrr inv k j y1 y6 y7 y8 y9 y29 y30 x46 h ke1))
    (ke1 x1 x6 x7 x8 x9 x29 x30 x31 x32 h)
theorem F10_lrlrrrrrr_j {β : Type} {inv : Inv} {k : Nat} (j : Nat) {x1 x6 x7 x8 x9 x29 x30 x31 : Value} {h : AH} {K : XE → Act → AH → Option β} : kLoop (kCode env 10 false inv k (cl (cl (cr (cl (cr (cr (cr (cr (cr (cr c10))))))))))) j (act 54 [(1, x1), (6, x6), (7, x7), (8, x8), (9, x9), (29, x29), (30, x30), (31, x31)]) h K = F10_lrlrrrrrr inv k j x1 x6 x7 x8 x9 x29 x30 x31 h (fun y1 y6 y7 y8 y9 y29 y30 y31 y32 h => K (.exit 1) (act 54 [(1, y1), (6, y6), (7, y7), (8, y8), (9, y9), (29, y29), (30, y30), (31, y31), (32, y32)]) h) := by
      induction j generalizing x1 x6 x7 x8 x9 x29 x30 x31 h with
      | zero => rfl
      | succ j ih =>
        unfold F10_lrlrrrrrr
        simp only [kLoop, k_seq (E := env) (f := 10) (c := (cl (cl (cr (cl (cr (cr (cr (cr (cr (cr c10))))))))))) (by kernel_rfl), r10_10, k_seq (E := env) (f := 10) (c := (cr (cl (cl (cr (cl (cr (cr (cr (cr (cr (cr c10)))))))))))) (by kernel_rfl), b10_lrllrlrrrrrr, k_skip (E := env) (f := 10) (c := (cl (cl (cr (cl (cl (cr (cl (cr (cr (cr (cr (cr (cr c10)))))))))))))) (by kernel_rfl), k_seq (E := env) (f := 10) (c := (cr (cr (cl (cl (cr (cl (cr (cr (cr (cr (cr (cr c10))))))))))))) (by kernel_rfl), k_block (E := env) (f := 10) (c := (cl (cr (cr (cl (cl (cr (cl (cr (cr (cr (cr (cr (cr c10)))))))))))))) (id := 2) (by kernel_rfl), k_seq (E := env) (f := 10) (c := (cl (cl (cr (cr (cl (cl (cr (cl (cr (cr (cr (cr (cr (cr c10))))))))))))))) (by kernel_rfl), r10_11, k_seq (E := env) (f := 10) (c := (cr (cl (cl (cr (cr (cl (cl (cr (cl (cr (cr (cr (cr (cr (cr c10)))))))))))))))) (by kernel_rfl), r10_12, k_block (E := env) (f := 10) (c := (cr (cr (cl (cl (cr (cr (cl (cl (cr (cl (cr (cr (cr (cr (cr (cr c10))))))))))))))))) (id := 3) (by kernel_rfl), F10_lrrllrrllrlrrrrrr_eq, r10_17, k_exit (E := env) (f := 10) (c := (cr (cl (cr (cl (cl (cr (cl (cr (cr (cr (cr (cr (cr c10)))))))))))))) (id := 1) (by kernel_rfl), ih, reduceIte, reduceCtorEq, XE.exit.injEq, Nat.reduceEqDiff] <;> kernel_rfl
theorem F10_lrlrrrrrr_eq {β : Type} {inv : Inv} {k : Nat} {x1 x6 x7 x8 x9 x29 x30 x31 : Value} {h : AH} {K : XE → Act → AH → Option β} : kCode env 10 false inv k (cl (cr (cl (cr (cr (cr (cr (cr (cr c10))))))))) (act 54 [(1, x1), (6, x6), (7, x7), (8, x8), (9, x9), (29, x29), (30, x30), (31, x31)]) h K = F10_lrlrrrrrr inv k k x1 x6 x7 x8 x9 x29 x30 x31 h (fun y1 y6 y7 y8 y9 y29 y30 y31 y32 h => K (.exit 1) (act 54 [(1, y1), (6, y6), (7, y7), (8, y8), (9, y9), (29, y29), (30, y30), (31, y31), (32, y32)]) h) := (k_loop (by kernel_rfl)).trans (F10_lrlrrrrrr_j k)
theorem r10_18 {β : Type} {inv : Inv} {k : Nat} {x1 x6 x7 x8 x9 x29 x30 x31 x32 : Value} {h : AH} {K : XE → Act → AH → Option β} : kCode env 10 false inv k (cl (cl (cr (cr (cr (cr (cr (cr (cr c10))))))))) (act 54 [(1, x1), (6, x6), (7, x7), (8, x8), (9, x9), (29, x29), (30, x30), (31, x31), (32, x32)]) h K =
    bnd (pLoad Try.prog 3 x8 h) fun x47 =>
    bnd (pBin Try.prog Go.BinOp.gtr 3 (Go.Operand.tmp 47) (Go.Operand.const (Go.Value.int Go.IntKind.i64 0)) x47 (Go.Value.int Go.IntKind.i64 0)) fun x48 =>
    K .normal (act 54 [(6, x6), (7, x7), (48, x48)]) h := (k_reg (by kernel_rfl)).trans (by kernel_rfl)
theorem b10_rlrrrrrrr {β : Type} {inv : Inv} {k : Nat} {x6 x7 x48 : Value} {h : AH} {K : XE → Act → AH → Option β} : kCode env 10 false inv k (cr (cl (cr (cr (cr (cr (cr (cr (cr c10))))))))) (act 54 [(6, x6), (7, x7), (48, x48)]) h K = brV x48 (kCode env 10 false inv k (cl (cr (cl (cr (cr (cr (cr (cr (cr (cr c10)))))))))) (act 54 [(6, x6), (7, x7), (48, x48)]) h K) (kCode env 10 false inv k (cr (cr (cl (cr (cr (cr (cr (cr (cr (cr c10)))))))))) (act 54 [(6, x6), (7, x7), (48, x48)]) h K) := (k_cond (by kernel_rfl)).trans (by kernel_rfl)
theorem r10_19 {β : Type} {inv : Inv} {k : Nat} {x6 x7 x48 : Value} {h : AH} {K : XE → Act → AH → Option β} : kCode env 10 false inv k (cl (cr (cl (cr (cr (cr (cr (cr (cr (cr c10)))))))))) (act 54 [(6, x6), (7, x7), (48, x48)]) h K =
    bnd (pLoad Try.prog 25 x6 h) fun x49 =>
    bnd (pLoad Try.prog 5 x7 h) fun x50 =>
    bnd (pBuildSlice Try.prog 25 1 #[(0, x50)] h) fun x51 =>
    bnd (pAppend Try.prog #[25, 25] x49 x51.1 x51.2) fun x52 =>
    bnd (kSt (pStore Try.prog 25 x6 x52.1 x52.2)) fun u =>
    K .normal (act 54 [(6, x6)]) u.2 := (k_reg (by kernel_rfl)).trans (by kernel_rfl)
noncomputable def F10_rlrrrrrrr {β : Type} (inv : Inv) (k : Nat) (x6 x7 x48 : Value) (h : AH) (kn : (Value → Value → Value → AH → Option β)) : Option β :=
    brV x48
    (bnd (pLoad Try.prog 25 x6 h) fun x49 =>
    bnd (pLoad Try.prog 5 x7 h) fun x50 =>
    bnd (pBuildSlice Try.prog 25 1 #[(0, x50)] h) fun x51 =>
    bnd (pAppend Try.prog #[25, 25] x49 x51.1 x51.2) fun x52 =>
    bnd (kSt (pStore Try.prog 25 x6 x52.1 x52.2)) fun u =>
    kn x6 unk unk u.2)
    (kn x6 x7 x48 h)
theorem F10_rlrrrrrrr_eq {β : Type} {inv : Inv} {k : Nat} {x6 x7 x48 : Value} {h : AH} {K : XE → Act → AH → Option β} : kCode env 10 false inv k (cr (cl (cr (cr (cr (cr (cr (cr (cr c10))))))))) (act 54 [(6, x6), (7, x7), (48, x48)]) h K = F10_rlrrrrrrr inv k x6 x7 x48 h (fun y6 y7 y48 h => K .normal (act 54 [(6, y6), (7, y7), (48, y48)]) h) := by
      unfold F10_rlrrrrrrr
      simp only [b10_rlrrrrrrr, r10_19, k_skip (E := env) (f := 10) (c := (cr (cr (cl (cr (cr (cr (cr (cr (cr (cr c10))))))))))) (by kernel_rfl), reduceIte, reduceCtorEq, XE.exit.injEq, Nat.reduceEqDiff] <;> kernel_rfl
theorem r10_20 {β : Type} {inv : Inv} {k : Nat} {x6 x7 x48 : Value} {h : AH} {K : XE → Act → AH → Option β} : kCode env 10 false inv k (cl (cr (cr (cr (cr (cr (cr (cr (cr c10))))))))) (act 54 [(6, x6), (7, x7), (48, x48)]) h K =
    bnd (pLoad Try.prog 25 x6 h) fun x53 =>
    K .normal (act 54 [(4, x53), (5, (Go.Value.int Go.IntKind.i64 0))]) h := (k_reg (by kernel_rfl)).trans (by kernel_rfl)
/-- shadowbook/packs.Put -/
noncomputable def F10 (inv : Inv) (k : Nat) (x0 x1 : Value) (h : AH) : Option (Value × AH) :=
    bnd (pLen Try.prog #[22] x0 h) fun x14 =>
    bnd (inv (.func 23) #[] #[x14, x1] h) fun x16 =>
    bnd (pUn Try.prog Go.UnOp.not x16.1) fun x17 =>
    brV x17
    (some (.tuple #[(Go.Value.slice none 0 0), (Go.Value.int Go.IntKind.i64 2)], x16.2))
    (bnd (inv (.func 15) #[] #[x0] x16.2) fun x20 =>
    bnd (pBin Try.prog Go.BinOp.gtr 3 (Go.Operand.tmp 20) (Go.Operand.tmp 21) x20.1 x1) fun x22 =>
    brV x22
    (some (.tuple #[(Go.Value.slice none 0 0), (Go.Value.int Go.IntKind.i64 3)], x20.2))
    (bnd (pLen Try.prog #[22] x0 x20.2) fun x24 =>
    bnd (inv (.func 16) #[] #[x24, x1] x20.2) fun x26 =>
    bnd (pMakeSlice Try.prog 25 (Go.Value.int Go.IntKind.i64 0) x26.1 x26.2) fun x27 =>
    bnd (pAlloc Try.prog 25 x27.2) fun x6 =>
    bnd (kSt (pStore Try.prog 25 x6.1 x27.1 x6.2)) fun u =>
    bnd (pAlloc Try.prog 5 u.2) fun x7 =>
    bnd (pAlloc Try.prog 3 x7.2) fun x8 =>
    bnd (kSt (pStore Try.prog 3 x8.1 (Go.Value.int Go.IntKind.i64 0) x8.2)) fun u_1 =>
    bnd (pMakeFunc (Go.Fn.func 24) #[] #[x7.1, x8.1, x6.1]) fun x28 =>
    bnd (pLen Try.prog #[22] x0 u_1.2) fun x30 =>
    F10_lrlrrrrrr inv k k x1 x6.1 x7.1 x8.1 x28 x0 x30 (Go.Value.int Go.IntKind.i64 0) u_1.2
    (fun y1 y6 y7 y8 y9 y29 y30 y31 y32 h =>
    bnd (pLoad Try.prog 3 y8 h) fun x47 =>
    bnd (pBin Try.prog Go.BinOp.gtr 3 (Go.Operand.tmp 47) (Go.Operand.const (Go.Value.int Go.IntKind.i64 0)) x47 (Go.Value.int Go.IntKind.i64 0)) fun x48 =>
    F10_rlrrrrrrr inv k y6 y7 x48 h
    (fun y6_2 y7_3 y48 h_4 =>
    bnd (pLoad Try.prog 25 y6_2 h_4) fun x53 =>
    some (.tuple #[x53, (Go.Value.int Go.IntKind.i64 0)], h_4)))))
theorem F10_eq {inv : Inv} {k : Nat} {x0 x1 : Value} {h : AH} : eFun env k inv 10 #[x0, x1] h = F10 inv k x0 x1 h := by
      refine (eFun_k2 (by kernel_rfl) (by kernel_rfl) (by kernel_rfl) (a := act 54 [(0, x0), (1, x1)]) (c := c10) (by kernel_rfl) (by kernel_rfl)).trans ?_
      unfold F10
      simp only [k_seq (E := env) (f := 10) (c := c10) (by kernel_rfl), r10_0, k_seq (E := env) (f := 10) (c := (cr c10)) (by kernel_rfl), k_block (E := env) (f := 10) (c := (cl (cr c10))) (id := 0) (by kernel_rfl), k_seq (E := env) (f := 10) (c := (cl (cl (cr c10)))) (by kernel_rfl), r10_1, b10_rllr, k_seq (E := env) (f := 10) (c := (cl (cr (cl (cl (cr c10)))))) (by kernel_rfl), r10_2, k_ret (E := env) (f := 10) (c := (cr (cl (cr (cl (cl (cr c10))))))) (by kernel_rfl), res10_0, k_seq (E := env) (f := 10) (c := (cr (cr (cl (cl (cr c10)))))) (by kernel_rfl), r10_3, b10_rrrllr, k_seq (E := env) (f := 10) (c := (cl (cr (cr (cr (cl (cl (cr c10)))))))) (by kernel_rfl), r10_4, k_ret (E := env) (f := 10) (c := (cr (cl (cr (cr (cr (cl (cl (cr c10))))))))) (by kernel_rfl), k_skip (E := env) (f := 10) (c := (cr (cr (cr (cr (cl (cl (cr c10)))))))) (by kernel_rfl), k_seq (E := env) (f := 10) (c := (cr (cr c10))) (by kernel_rfl), r10_5, k_seq (E := env) (f := 10) (c := (cr (cr (cr c10)))) (by kernel_rfl), r10_6, k_seq (E := env) (f := 10) (c := (cr (cr (cr (cr c10))))) (by kernel_rfl), r10_7, k_seq (E := env) (f := 10) (c := (cr (cr (cr (cr (cr c10)))))) (by kernel_rfl), r10_8, k_seq (E := env) (f := 10) (c := (cr (cr (cr (cr (cr (cr c10))))))) (by kernel_rfl), k_seq (E := env) (f := 10) (c := (cl (cr (cr (cr (cr (cr (cr c10)))))))) (by kernel_rfl), r10_9, k_block (E := env) (f := 10) (c := (cr (cl (cr (cr (cr (cr (cr (cr c10))))))))) (id := 1) (by kernel_rfl), F10_lrlrrrrrr_eq, k_seq (E := env) (f := 10) (c := (cr (cr (cr (cr (cr (cr (cr c10)))))))) (by kernel_rfl), k_seq (E := env) (f := 10) (c := (cl (cr (cr (cr (cr (cr (cr (cr c10))))))))) (by kernel_rfl), r10_18, F10_rlrrrrrrr_eq, k_seq (E := env) (f := 10) (c := (cr (cr (cr (cr (cr (cr (cr (cr c10))))))))) (by kernel_rfl), r10_20, k_ret (E := env) (f := 10) (c := (cr (cr (cr (cr (cr (cr (cr (cr (cr c10)))))))))) (by kernel_rfl), reduceIte, reduceCtorEq, XE.exit.injEq, Nat.reduceEqDiff] <;> kernel_rfl
theorem F10_call {k : Nat} {x0 x1 : Value} {h : AH} : eInv env (k + 1) (.func 10) #[] #[x0, x1] h = F10 (eInv env k) k x0 x1 h := (inv_func (by kernel_rfl)).trans F10_eq
noncomputable def c11 : Code := codeOf Try.prog 11
theorem r11_0 {β : Type} {inv : Inv} {k : Nat} {x0 : Value} {h : AH} {K : XE → Act → AH → Option β} : kCode env 11 false inv k (cl c11) (act 6 [(0, x0)]) h K =
    K .normal (act 6 [(0, x0)]) h := (k_reg (by kernel_rfl)).trans (by kernel_rfl)
theorem r11_1 {β : Type} {inv : Inv} {k : Nat} {x0 : Value} {h : AH} {K : XE → Act → AH → Option β} : kCode env 11 false inv k (cl (cr c11)) (act 6 [(0, x0)]) h K =
    bnd (pBuildSlice Try.prog 22 0 #[] h) fun x3 =>
    bnd (pAppend Try.prog #[22, 22] x3.1 x0 x3.2) fun x5 =>
    K .normal (act 6 [(2, x5.1)]) x5.2 := (k_reg (by kernel_rfl)).trans (by kernel_rfl)
theorem res11_0 {x2 : Value} {h : AH} : resOfFn env.P 11 .ret (act 6 [(2, x2)]) h = some (x2, h) := (resOfFn_k (by kernel_rfl) (by kernel_rfl)).trans (by kernel_rfl)
/-- shadowbook/shadowbookkit.Own[uint64] -/
noncomputable def F11 (inv : Inv) (k : Nat) (x0 : Value) (h : AH) : Option (Value × AH) :=
    bnd (pBuildSlice Try.prog 22 0 #[] h) fun x3 =>
    bnd (pAppend Try.prog #[22, 22] x3.1 x0 x3.2) fun x5 =>
    some (x5.1, x5.2)
theorem F11_eq {inv : Inv} {k : Nat} {x0 : Value} {h : AH} : eFun env k inv 11 #[x0] h = F11 inv k x0 h := by
      refine (eFun_k2 (by kernel_rfl) (by kernel_rfl) (by kernel_rfl) (a := act 6 [(0, x0)]) (c := c11) (by kernel_rfl) (by kernel_rfl)).trans ?_
      unfold F11
      simp only [k_seq (E := env) (f := 11) (c := c11) (by kernel_rfl), r11_0, k_seq (E := env) (f := 11) (c := (cr c11)) (by kernel_rfl), r11_1, k_ret (E := env) (f := 11) (c := (cr (cr c11))) (by kernel_rfl), res11_0, reduceIte, reduceCtorEq, XE.exit.injEq, Nat.reduceEqDiff] <;> kernel_rfl
theorem F11_call {k : Nat} {x0 : Value} {h : AH} : eInv env (k + 1) (.func 11) #[] #[x0] h = F11 (eInv env k) k x0 h := (inv_func (by kernel_rfl)).trans F11_eq
noncomputable def c12 : Code := codeOf Try.prog 12
theorem r12_0 {β : Type} {inv : Inv} {k : Nat} {x0 x1 : Value} {h : AH} {K : XE → Act → AH → Option β} : kCode env 12 false inv k (cl c12) (act 26 [(0, x0), (1, x1)]) h K =
    K .normal (act 26 [(0, x0), (1, x1)]) h := (k_reg (by kernel_rfl)).trans (by kernel_rfl)
theorem r12_1 {β : Type} {inv : Inv} {k : Nat} {x0 x1 : Value} {h : AH} {K : XE → Act → AH → Option β} : kCode env 12 false inv k (cl (cl (cr c12))) (act 26 [(0, x0), (1, x1)]) h K =
    bnd (pLen Try.prog #[25] x0 h) fun x7 =>
    bnd (pLen Try.prog #[25] x1 h) fun x9 =>
    bnd (pBin Try.prog Go.BinOp.neq 3 (Go.Operand.tmp 7) (Go.Operand.tmp 9) x7 x9) fun x10 =>
    K .normal (act 26 [(0, x0), (1, x1), (10, x10)]) h := (k_reg (by kernel_rfl)).trans (by kernel_rfl)
theorem b12_rlr {β : Type} {inv : Inv} {k : Nat} {x0 x1 x10 : Value} {h : AH} {K : XE → Act → AH → Option β} : kCode env 12 false inv k (cr (cl (cr c12))) (act 26 [(0, x0), (1, x1), (10, x10)]) h K = brV x10 (kCode env 12 false inv k (cl (cr (cl (cr c12)))) (act 26 [(0, x0), (1, x1), (10, x10)]) h K) (kCode env 12 false inv k (cr (cr (cl (cr c12)))) (act 26 [(0, x0), (1, x1), (10, x10)]) h K) := (k_cond (by kernel_rfl)).trans (by kernel_rfl)
theorem r12_2 {β : Type} {inv : Inv} {k : Nat} {x0 x1 x10 : Value} {h : AH} {K : XE → Act → AH → Option β} : kCode env 12 false inv k (cl (cl (cr (cl (cr c12))))) (act 26 [(0, x0), (1, x1), (10, x10)]) h K =
    K .normal (act 26 [(4, (Go.Value.bool false))]) h := (k_reg (by kernel_rfl)).trans (by kernel_rfl)
theorem res12_0 {x4 : Value} {h : AH} : resOfFn env.P 12 .ret (act 26 [(4, x4)]) h = some (x4, h) := (resOfFn_k (by kernel_rfl) (by kernel_rfl)).trans (by kernel_rfl)
theorem r12_3 {β : Type} {inv : Inv} {k : Nat} {x0 x1 x10 : Value} {h : AH} {K : XE → Act → AH → Option β} : kCode env 12 false inv k (cl (cl (cr (cr c12)))) (act 26 [(0, x0), (1, x1), (10, x10)]) h K =
    K .normal (act 26 [(0, x0), (1, x1), (5, (Go.Value.int Go.IntKind.i64 0))]) h := (k_reg (by kernel_rfl)).trans (by kernel_rfl)
theorem r12_4 {β : Type} {inv : Inv} {k : Nat} {x0 x1 x5 : Value} {h : AH} {K : XE → Act → AH → Option β} : kCode env 12 false inv k (cl (cl (cl (cl (cr (cl (cr (cr c12)))))))) (act 26 [(0, x0), (1, x1), (5, x5)]) h K =
    bnd (pLen Try.prog #[25] x0 h) fun x13 =>
    bnd (pBin Try.prog Go.BinOp.lss 3 (Go.Operand.tmp 11) (Go.Operand.tmp 13) x5 x13) fun x14 =>
    K .normal (act 26 [(0, x0), (1, x1), (5, x5), (14, x14)]) h := (k_reg (by kernel_rfl)).trans (by kernel_rfl)
theorem b12_rlllrlrr {β : Type} {inv : Inv} {k : Nat} {x0 x1 x5 x14 : Value} {h : AH} {K : XE → Act → AH → Option β} : kCode env 12 false inv k (cr (cl (cl (cl (cr (cl (cr (cr c12)))))))) (act 26 [(0, x0), (1, x1), (5, x5), (14, x14)]) h K = brV x14 (kCode env 12 false inv k (cl (cr (cl (cl (cl (cr (cl (cr (cr c12))))))))) (act 26 [(0, x0), (1, x1), (5, x5), (14, x14)]) h K) (kCode env 12 false inv k (cr (cr (cl (cl (cl (cr (cl (cr (cr c12))))))))) (act 26 [(0, x0), (1, x1), (5, x5), (14, x14)]) h K) := (k_cond (by kernel_rfl)).trans (by kernel_rfl)
theorem r12_6 {β : Type} {inv : Inv} {k : Nat} {x0 x1 x5 x14 : Value} {h : AH} {K : XE → Act → AH → Option β} : kCode env 12 false inv k (cl (cl (cl (cr (cl (cl (cr (cl (cr (cr c12)))))))))) (act 26 [(0, x0), (1, x1), (5, x5), (14, x14)]) h K =
    bnd (pIndexAddr Try.prog 25 x0 x5) fun x19 =>
    bnd (pLoad Try.prog 5 x19 h) fun x20 =>
    bnd (pIndexAddr Try.prog 25 x1 x5) fun x23 =>
    bnd (pLoad Try.prog 5 x23 h) fun x24 =>
    bnd (pBin Try.prog Go.BinOp.neq 5 (Go.Operand.tmp 20) (Go.Operand.tmp 24) x20 x24) fun x25 =>
    K .normal (act 26 [(0, x0), (1, x1), (5, x5), (25, x25)]) h := (k_draw (by kernel_rfl)).trans (by kernel_rfl)
theorem b12_rllrllrlrr {β : Type} {inv : Inv} {k : Nat} {x0 x1 x5 x25 : Value} {h : AH} {K : XE → Act → AH → Option β} : kCode env 12 false inv k (cr (cl (cl (cr (cl (cl (cr (cl (cr (cr c12)))))))))) (act 26 [(0, x0), (1, x1), (5, x5), (25, x25)]) h K = brV x25 (kCode env 12 false inv k (cl (cr (cl (cl (cr (cl (cl (cr (cl (cr (cr c12))))))))))) (act 26 [(0, x0), (1, x1), (5, x5), (25, x25)]) h K) (kCode env 12 false inv k (cr (cr (cl (cl (cr (cl (cl (cr (cl (cr (cr c12))))))))))) (act 26 [(0, x0), (1, x1), (5, x5), (25, x25)]) h K) := (k_cond (by kernel_rfl)).trans (by kernel_rfl)
theorem r12_7 {β : Type} {inv : Inv} {k : Nat} {x0 x1 x5 x25 : Value} {h : AH} {K : XE → Act → AH → Option β} : kCode env 12 false inv k (cl (cl (cr (cl (cl (cr (cl (cl (cr (cl (cr (cr c12)))))))))))) (act 26 [(0, x0), (1, x1), (5, x5), (25, x25)]) h K =
    K .normal (act 26 [(4, (Go.Value.bool false))]) h := (k_reg (by kernel_rfl)).trans (by kernel_rfl)
theorem r12_5 {β : Type} {inv : Inv} {k : Nat} {x0 x1 x5 x25 : Value} {h : AH} {K : XE → Act → AH → Option β} : kCode env 12 false inv k (cr (cr (cl (cl (cr (cl (cr (cr c12)))))))) (act 26 [(0, x0), (1, x1), (5, x5), (25, x25)]) h K =
    bnd (pBin Try.prog Go.BinOp.add 3 (Go.Operand.tmp 15) (Go.Operand.const (Go.Value.int Go.IntKind.i64 1)) x5 (Go.Value.int Go.IntKind.i64 1)) fun x16 =>
    K .normal (act 26 [(0, x0), (1, x1), (5, x16)]) h := (k_reg (by kernel_rfl)).trans (by kernel_rfl)
noncomputable def F12_lrlrr {β : Type} (inv : Inv) (k : Nat) : Nat → Value → Value → Value → AH → (Value → Value → Value → Value → AH → Option β) → (Value → AH → Option β) → Option β
  | 0, _, _, _, _, _, _ => none
  | j + 1, x0, x1, x5, h, ke0, kr =>
    bnd (pLen Try.prog #[25] x0 h) fun x13 =>
    bnd (pBin Try.prog Go.BinOp.lss 3 (Go.Operand.tmp 11) (Go.Operand.tmp 13) x5 x13) fun x14 =>
    brV x14
    (bnd (pIndexAddr Try.prog 25 x0 x5) fun x19 =>
    bnd (pLoad Try.prog 5 x19 h) fun x20 =>
    bnd (pIndexAddr Try.prog 25 x1 x5) fun x23 =>
    bnd (pLoad Try.prog 5 x23 h) fun x24 =>
    bnd (pBin Try.prog Go.BinOp.neq 5 (Go.Operand.tmp 20) (Go.Operand.tmp 24) x20 x24) fun x25 =>
    brV x25
    (kr (Go.Value.bool false) h)
    (bnd (pBin Try.prog Go.BinOp.add 3 (Go.Operand.tmp 15) (Go.Operand.const (Go.Value.int Go.IntKind.i64 1)) x5 (Go.Value.int Go.IntKind.i64 1)) fun x16 =>
    F12_lrlrr inv k j x0 x1 x16 h ke0 kr))
    (ke0 x0 x1 x5 x14 h)
theorem F12_lrlrr_j {β : Type} {inv : Inv} {k : Nat} (j : Nat) {x0 x1 x5 : Value} {h : AH} {K : XE → Act → AH → Option β} : kLoop (kCode env 12 false inv k (cl (cl (cr (cl (cr (cr c12))))))) j (act 26 [(0, x0), (1, x1), (5, x5)]) h K = F12_lrlrr inv k j x0 x1 x5 h (fun y0 y1 y5 y14 h => K (.exit 0) (act 26 [(0, y0), (1, y1), (5, y5), (14, y14)]) h) (fun y4 h => K .ret (act 26 [(4, y4)]) h) := by
      induction j generalizing x0 x1 x5 h with
      | zero => rfl
      | succ j ih =>
        unfold F12_lrlrr
        simp only [kLoop, k_seq (E := env) (f := 12) (c := (cl (cl (cr (cl (cr (cr c12))))))) (by kernel_rfl), k_seq (E := env) (f := 12) (c := (cl (cl (cl (cr (cl (cr (cr c12)))))))) (by kernel_rfl), r12_4, b12_rlllrlrr, k_skip (E := env) (f := 12) (c := (cl (cr (cl (cl (cl (cr (cl (cr (cr c12)))))))))) (by kernel_rfl), k_seq (E := env) (f := 12) (c := (cr (cl (cl (cr (cl (cr (cr c12)))))))) (by kernel_rfl), k_block (E := env) (f := 12) (c := (cl (cr (cl (cl (cr (cl (cr (cr c12))))))))) (id := 1) (by kernel_rfl), k_seq (E := env) (f := 12) (c := (cl (cl (cr (cl (cl (cr (cl (cr (cr c12)))))))))) (by kernel_rfl), r12_6, b12_rllrllrlrr, k_seq (E := env) (f := 12) (c := (cl (cr (cl (cl (cr (cl (cl (cr (cl (cr (cr c12)))))))))))) (by kernel_rfl), r12_7, k_ret (E := env) (f := 12) (c := (cr (cl (cr (cl (cl (cr (cl (cl (cr (cl (cr (cr c12))))))))))))) (by kernel_rfl), k_skip (E := env) (f := 12) (c := (cr (cr (cl (cl (cr (cl (cl (cr (cl (cr (cr c12)))))))))))) (by kernel_rfl), r12_5, k_exit (E := env) (f := 12) (c := (cr (cr (cl (cl (cl (cr (cl (cr (cr c12)))))))))) (id := 0) (by kernel_rfl), ih, reduceIte, reduceCtorEq, XE.exit.injEq, Nat.reduceEqDiff] <;> kernel_rfl
theorem F12_lrlrr_eq {β : Type} {inv : Inv} {k : Nat} {x0 x1 x5 : Value} {h : AH} {K : XE → Act → AH → Option β} : kCode env 12 false inv k (cl (cr (cl (cr (cr c12))))) (act 26 [(0, x0), (1, x1), (5, x5)]) h K = F12_lrlrr inv k k x0 x1 x5 h (fun y0 y1 y5 y14 h => K (.exit 0) (act 26 [(0, y0), (1, y1), (5, y5), (14, y14)]) h) (fun y4 h => K .ret (act 26 [(4, y4)]) h) := (k_loop (by kernel_rfl)).trans (F12_lrlrr_j k)
theorem r12_8 {β : Type} {inv : Inv} {k : Nat} {x0 x1 x5 x14 : Value} {h : AH} {K : XE → Act → AH → Option β} : kCode env 12 false inv k (cl (cr (cr (cr c12)))) (act 26 [(0, x0), (1, x1), (5, x5), (14, x14)]) h K =
    K .normal (act 26 [(4, (Go.Value.bool true))]) h := (k_reg (by kernel_rfl)).trans (by kernel_rfl)
/-- shadowbook/shadowbookkit.Same[byte] -/
noncomputable def F12 (inv : Inv) (k : Nat) (x0 x1 : Value) (h : AH) : Option (Value × AH) :=
    bnd (pLen Try.prog #[25] x0 h) fun x7 =>
    bnd (pLen Try.prog #[25] x1 h) fun x9 =>
    bnd (pBin Try.prog Go.BinOp.neq 3 (Go.Operand.tmp 7) (Go.Operand.tmp 9) x7 x9) fun x10 =>
    brV x10
    (some ((Go.Value.bool false), h))
    (F12_lrlrr inv k k x0 x1 (Go.Value.int Go.IntKind.i64 0) h
    (fun y0 y1 y5 y14 h =>
    some ((Go.Value.bool true), h))
    (fun y4 h_1 =>
    some (y4, h_1)))
theorem F12_eq {inv : Inv} {k : Nat} {x0 x1 : Value} {h : AH} : eFun env k inv 12 #[x0, x1] h = F12 inv k x0 x1 h := by
      refine (eFun_k2 (by kernel_rfl) (by kernel_rfl) (by kernel_rfl) (a := act 26 [(0, x0), (1, x1)]) (c := c12) (by kernel_rfl) (by kernel_rfl)).trans ?_
      unfold F12
      simp only [k_seq (E := env) (f := 12) (c := c12) (by kernel_rfl), r12_0, k_seq (E := env) (f := 12) (c := (cr c12)) (by kernel_rfl), k_seq (E := env) (f := 12) (c := (cl (cr c12))) (by kernel_rfl), r12_1, b12_rlr, k_seq (E := env) (f := 12) (c := (cl (cr (cl (cr c12))))) (by kernel_rfl), r12_2, k_ret (E := env) (f := 12) (c := (cr (cl (cr (cl (cr c12)))))) (by kernel_rfl), res12_0, k_skip (E := env) (f := 12) (c := (cr (cr (cl (cr c12))))) (by kernel_rfl), k_seq (E := env) (f := 12) (c := (cr (cr c12))) (by kernel_rfl), k_seq (E := env) (f := 12) (c := (cl (cr (cr c12)))) (by kernel_rfl), r12_3, k_block (E := env) (f := 12) (c := (cr (cl (cr (cr c12))))) (id := 0) (by kernel_rfl), F12_lrlrr_eq, k_seq (E := env) (f := 12) (c := (cr (cr (cr c12)))) (by kernel_rfl), r12_8, k_ret (E := env) (f := 12) (c := (cr (cr (cr (cr c12))))) (by kernel_rfl), reduceIte, reduceCtorEq, XE.exit.injEq, Nat.reduceEqDiff] <;> kernel_rfl
theorem F12_call {k : Nat} {x0 x1 : Value} {h : AH} : eInv env (k + 1) (.func 12) #[] #[x0, x1] h = F12 (eInv env k) k x0 x1 h := (inv_func (by kernel_rfl)).trans F12_eq
noncomputable def c13 : Code := codeOf Try.prog 13
theorem r13_0 {β : Type} {inv : Inv} {k : Nat} {x0 x1 x2 : Value} {h : AH} {K : XE → Act → AH → Option β} : kCode env 13 false inv k (cl c13) (act 30 [(0, x0), (1, x1), (2, x2)]) h K =
    K .normal (act 30 [(0, x0), (1, x1), (2, x2), (6, (Go.Value.slice none 0 0)), (7, (Go.Value.int Go.IntKind.i64 0))]) h := (k_reg (by kernel_rfl)).trans (by kernel_rfl)
theorem r13_1 {β : Type} {inv : Inv} {k : Nat} {x0 x1 x2 x6 x7 : Value} {h : AH} {K : XE → Act → AH → Option β} : kCode env 13 false inv k (cl (cl (cr c13))) (act 30 [(0, x0), (1, x1), (2, x2), (6, x6), (7, x7)]) h K =
    bnd (inv (.func 25) #[] #[x0, x1, x2] h) fun x15 =>
    K .normal (act 30 [(0, x0), (1, x1), (2, x2), (6, x6), (7, x7), (8, x15.1)]) x15.2 := (k_reg (by kernel_rfl)).trans (by kernel_rfl)
theorem r13_2 {β : Type} {inv : Inv} {k : Nat} {x0 x1 x2 x6 x7 x8 : Value} {h : AH} {K : XE → Act → AH → Option β} : kCode env 13 false inv k (cl (cr (cl (cr c13)))) (act 30 [(0, x0), (1, x1), (2, x2), (6, x6), (7, x7), (8, x8)]) h K =
    bnd (pBin Try.prog Go.BinOp.neq 26 (Go.Operand.tmp 16) (Go.Operand.const (Go.Value.int Go.IntKind.i64 0)) x8 (Go.Value.int Go.IntKind.i64 0)) fun x17 =>
    K .normal (act 30 [(0, x0), (1, x1), (2, x2), (6, x6), (7, x7), (8, x8), (17, x17)]) h := (k_reg (by kernel_rfl)).trans (by kernel_rfl)
theorem b13_rrlr {β : Type} {inv : Inv} {k : Nat} {x0 x1 x2 x6 x7 x8 x17 : Value} {h : AH} {K : XE → Act → AH → Option β} : kCode env 13 false inv k (cr (cr (cl (cr c13)))) (act 30 [(0, x0), (1, x1), (2, x2), (6, x6), (7, x7), (8, x8), (17, x17)]) h K = brV x17 (kCode env 13 false inv k (cl (cr (cr (cl (cr c13))))) (act 30 [(0, x0), (1, x1), (2, x2), (6, x6), (7, x7), (8, x8), (17, x17)]) h K) (kCode env 13 false inv k (cr (cr (cr (cl (cr c13))))) (act 30 [(0, x0), (1, x1), (2, x2), (6, x6), (7, x7), (8, x8), (17, x17)]) h K) := (k_cond (by kernel_rfl)).trans (by kernel_rfl)
theorem r13_3 {β : Type} {inv : Inv} {k : Nat} {x0 x1 x2 x6 x7 x8 x17 : Value} {h : AH} {K : XE → Act → AH → Option β} : kCode env 13 false inv k (cl (cl (cr (cr (cl (cr c13)))))) (act 30 [(0, x0), (1, x1), (2, x2), (6, x6), (7, x7), (8, x8), (17, x17)]) h K =
    K .normal (act 30 [(6, (Go.Value.slice none 0 0)), (7, x8)]) h := (k_reg (by kernel_rfl)).trans (by kernel_rfl)
theorem res13_0 {x6 x7 : Value} {h : AH} : resOfFn env.P 13 .ret (act 30 [(6, x6), (7, x7)]) h = some (.tuple #[x6, x7], h) := (resOfFn_k (by kernel_rfl) (by kernel_rfl)).trans (by kernel_rfl)
theorem r13_4 {β : Type} {inv : Inv} {k : Nat} {x0 x1 x2 x6 x7 x8 x17 : Value} {h : AH} {K : XE → Act → AH → Option β} : kCode env 13 false inv k (cl (cr (cr c13))) (act 30 [(0, x0), (1, x1), (2, x2), (6, x6), (7, x7), (8, x8), (17, x17)]) h K =
    bnd (pAlloc Try.prog 22 h) fun x9 =>
    K .normal (act 30 [(0, x0), (1, x1), (2, x2), (6, x6), (7, x7), (9, x9.1)]) x9.2 := (k_reg (by kernel_rfl)).trans (by kernel_rfl)
theorem r13_5 {β : Type} {inv : Inv} {k : Nat} {x0 x1 x2 x6 x7 x9 : Value} {h : AH} {K : XE → Act → AH → Option β} : kCode env 13 false inv k (cl (cl (cr (cr (cr c13))))) (act 30 [(0, x0), (1, x1), (2, x2), (6, x6), (7, x7), (9, x9)]) h K =
    bnd (inv (.func 22) #[] #[x0, x1, x2] h) fun x22 =>
    K .normal (act 30 [(6, x6), (7, x7), (9, x9), (22, x22.1)]) x22.2 := (k_reg (by kernel_rfl)).trans (by kernel_rfl)
theorem g13_lrlrrr {β : Type} {inv : Inv} {k : Nat} {x6 x7 x9 x22 : Value} {h : AH} {K : XE → Act → AH → Option β} : kCode env 13 false inv k (cl (cr (cl (cr (cr (cr c13)))))) (act 30 [(6, x6), (7, x7), (9, x9), (22, x22)]) h K = kRange env 13 inv x22 (psOf (cl (cr (cl (cr (cr (cr c13))))))) (cl (cl (cr (cl (cr (cr (cr c13))))))) (cr (cl (cr (cl (cr (cr (cr c13))))))) (act 30 [(6, x6), (7, x7), (9, x9), (22, x22)]) h fun e h => sw e (K .normal (act 30 [(6, x6), (7, x7), (9, x9), (22, x22)]) h) (none) [] := (k_range (g := x22) (ids := []) (by kernel_rfl) (by kernel_rfl) (by kernel_rfl)).trans (by kernel_rfl)
noncomputable def F13_rlrrr {β : Type} (inv : Inv) (k : Nat) (x6 x7 x9 x22 : Value) (h : AH) (kn : (Value → Value → Value → Value → AH → Option β)) : Option β :=
    kRange env 13 inv x22 (psOf (cl (cr (cl (cr (cr (cr c13))))))) (cl (cl (cr (cl (cr (cr (cr c13))))))) (cr (cl (cr (cl (cr (cr (cr c13))))))) (act 30 [(6, x6), (7, x7), (9, x9), (22, x22)]) h fun e h => sw e
    (kn x6 x7 x9 x22 h)
    none []
theorem F13_rlrrr_eq {β : Type} {inv : Inv} {k : Nat} {x6 x7 x9 x22 : Value} {h : AH} {K : XE → Act → AH → Option β} : kCode env 13 false inv k (cr (cl (cr (cr (cr c13))))) (act 30 [(6, x6), (7, x7), (9, x9), (22, x22)]) h K = F13_rlrrr inv k x6 x7 x9 x22 h (fun y6 y7 y9 y22 h => K .normal (act 30 [(6, y6), (7, y7), (9, y9), (22, y22)]) h) := by
      unfold F13_rlrrr
      simp only [k_block (E := env) (f := 13) (c := (cr (cl (cr (cr (cr c13)))))) (id := 0) (by kernel_rfl), g13_lrlrrr, reduceIte, reduceCtorEq, XE.exit.injEq, Nat.reduceEqDiff] <;> kernel_rfl
theorem r13_8 {β : Type} {inv : Inv} {k : Nat} {x6 x7 x9 x22 : Value} {h : AH} {K : XE → Act → AH → Option β} : kCode env 13 false inv k (cl (cr (cr (cr (cr c13))))) (act 30 [(6, x6), (7, x7), (9, x9), (22, x22)]) h K =
    bnd (pLoad Try.prog 22 x9 h) fun x29 =>
    K .normal (act 30 [(6, x29), (7, (Go.Value.int Go.IntKind.i64 0))]) h := (k_reg (by kernel_rfl)).trans (by kernel_rfl)
/-- shadowbook/packs.Get -/
noncomputable def F13 (inv : Inv) (k : Nat) (x0 x1 x2 : Value) (h : AH) : Option (Value × AH) :=
    bnd (inv (.func 25) #[] #[x0, x1, x2] h) fun x15 =>
    bnd (pBin Try.prog Go.BinOp.neq 26 (Go.Operand.tmp 16) (Go.Operand.const (Go.Value.int Go.IntKind.i64 0)) x15.1 (Go.Value.int Go.IntKind.i64 0)) fun x17 =>
    brV x17
    (some (.tuple #[(Go.Value.slice none 0 0), x15.1], x15.2))
    (bnd (pAlloc Try.prog 22 x15.2) fun x9 =>
    bnd (inv (.func 22) #[] #[x0, x1, x2] x9.2) fun x22 =>
    F13_rlrrr inv k (Go.Value.slice none 0 0) (Go.Value.int Go.IntKind.i64 0) x9.1 x22.1 x22.2
    (fun y6 y7 y9 y22 h =>
    bnd (pLoad Try.prog 22 y9 h) fun x29 =>
    some (.tuple #[x29, (Go.Value.int Go.IntKind.i64 0)], h)))
theorem F13_eq {inv : Inv} {k : Nat} {x0 x1 x2 : Value} {h : AH} : eFun env k inv 13 #[x0, x1, x2] h = F13 inv k x0 x1 x2 h := by
      refine (eFun_k2 (by kernel_rfl) (by kernel_rfl) (by kernel_rfl) (a := act 30 [(0, x0), (1, x1), (2, x2)]) (c := c13) (by kernel_rfl) (by kernel_rfl)).trans ?_
      unfold F13
      simp only [k_seq (E := env) (f := 13) (c := c13) (by kernel_rfl), r13_0, k_seq (E := env) (f := 13) (c := (cr c13)) (by kernel_rfl), k_seq (E := env) (f := 13) (c := (cl (cr c13))) (by kernel_rfl), r13_1, k_seq (E := env) (f := 13) (c := (cr (cl (cr c13)))) (by kernel_rfl), r13_2, b13_rrlr, k_seq (E := env) (f := 13) (c := (cl (cr (cr (cl (cr c13)))))) (by kernel_rfl), r13_3, k_ret (E := env) (f := 13) (c := (cr (cl (cr (cr (cl (cr c13))))))) (by kernel_rfl), res13_0, k_skip (E := env) (f := 13) (c := (cr (cr (cr (cl (cr c13)))))) (by kernel_rfl), k_seq (E := env) (f := 13) (c := (cr (cr c13))) (by kernel_rfl), r13_4, k_seq (E := env) (f := 13) (c := (cr (cr (cr c13)))) (by kernel_rfl), k_seq (E := env) (f := 13) (c := (cl (cr (cr (cr c13))))) (by kernel_rfl), r13_5, F13_rlrrr_eq, k_seq (E := env) (f := 13) (c := (cr (cr (cr (cr c13))))) (by kernel_rfl), r13_8, k_ret (E := env) (f := 13) (c := (cr (cr (cr (cr (cr c13)))))) (by kernel_rfl), reduceIte, reduceCtorEq, XE.exit.injEq, Nat.reduceEqDiff] <;> kernel_rfl
theorem F13_call {k : Nat} {x0 x1 x2 : Value} {h : AH} : eInv env (k + 1) (.func 13) #[] #[x0, x1, x2] h = F13 (eInv env k) k x0 x1 x2 h := (inv_func (by kernel_rfl)).trans F13_eq
theorem r13_6 {β : Type} {inv : Inv} {k : Nat} {x6 x7 x9 x22 x23 x24 : Value} {h : AH} {K : XE → Act → AH → Option β} : kCode env 13 true inv k (cl (cl (cr (cl (cr (cr (cr c13))))))) (act 30 [(6, x6), (7, x7), (9, x9), (22, x22), (23, x23), (24, x24)]) h K =
    K .normal (act 30 [(9, x9), (11, x24)]) h := (k_reg (by kernel_rfl)).trans (by kernel_rfl)
theorem r13_7 {β : Type} {inv : Inv} {k : Nat} {x9 x11 : Value} {h : AH} {K : XE → Act → AH → Option β} : kCode env 13 true inv k (cl (cr (cl (cr (cl (cr (cr (cr c13)))))))) (act 30 [(9, x9), (11, x11)]) h K =
    bnd (pLoad Try.prog 22 x9 h) fun x25 =>
    bnd (pBuildSlice Try.prog 22 1 #[(0, x11)] h) fun x27 =>
    bnd (pAppend Try.prog #[22, 22] x25 x27.1 x27.2) fun x28 =>
    bnd (kSt (pStore Try.prog 22 x9 x28.1 x28.2)) fun u =>
    K .normal (act 30 []) u.2 := (k_reg (by kernel_rfl)).trans (by kernel_rfl)
noncomputable def R13_lrlrrr (inv : Inv) (k l : Nat) (x6 x7 x9 x22 z0 z1 : Value) (h : AH) : Option (Value × AH) :=
    rdBegin l h fun h =>
    bnd (pLoad Try.prog 22 x9 h) fun x25 =>
    bnd (pBuildSlice Try.prog 22 1 #[(0, z1)] h) fun x27 =>
    bnd (pAppend Try.prog #[22, 22] x25 x27.1 x27.2) fun x28 =>
    bnd (kSt (pStore Try.prog 22 x9 x28.1 x28.2)) fun u =>
    rdEnd l .normal u.2
theorem R13_lrlrrr_eq {inv : Inv} {k l : Nat} {pd : Option Code} {x6 x7 x9 x22 z0 z1 : Value} {h : AH} (hl : h.get l = some (.loop .ready pd 13 (act 30 [(6, x6), (7, x7), (9, x9), (22, x22)]).tmps (psOf (cl (cr (cl (cr (cr (cr c13))))))) (cl (cl (cr (cl (cr (cr (cr c13))))))) (cr (cl (cr (cl (cr (cr (cr c13))))))))) : eRound env k inv l #[z0, z1] h = R13_lrlrrr inv k l x6 x7 x9 x22 z0 z1 h := by
      refine (eRound_k (a := act 30 [(6, x6), (7, x7), (9, x9), (22, x22), (23, z0), (24, z1)]) hl (by kernel_rfl) (by kernel_rfl)).trans ?_
      unfold R13_lrlrrr
      simp only [r13_6, k_block (E := env) (f := 13) (c := (cr (cl (cr (cl (cr (cr (cr c13)))))))) (id := 1) (by kernel_rfl), r13_7, reduceIte, reduceCtorEq, XE.exit.injEq, Nat.reduceEqDiff] <;> kernel_rfl
noncomputable def c14 : Code := codeOf Try.prog 14
theorem r14_0 {β : Type} {inv : Inv} {k : Nat} {x0 x1 : Value} {h : AH} {K : XE → Act → AH → Option β} : kCode env 14 false inv k (cl c14) (act 26 [(0, x0), (1, x1)]) h K =
    K .normal (act 26 [(0, x0), (1, x1)]) h := (k_reg (by kernel_rfl)).trans (by kernel_rfl)
theorem r14_1 {β : Type} {inv : Inv} {k : Nat} {x0 x1 : Value} {h : AH} {K : XE → Act → AH → Option β} : kCode env 14 false inv k (cl (cl (cr c14))) (act 26 [(0, x0), (1, x1)]) h K =
    bnd (pLen Try.prog #[22] x0 h) fun x7 =>
    bnd (pLen Try.prog #[22] x1 h) fun x9 =>
    bnd (pBin Try.prog Go.BinOp.neq 3 (Go.Operand.tmp 7) (Go.Operand.tmp 9) x7 x9) fun x10 =>
    K .normal (act 26 [(0, x0), (1, x1), (10, x10)]) h := (k_reg (by kernel_rfl)).trans (by kernel_rfl)
theorem b14_rlr {β : Type} {inv : Inv} {k : Nat} {x0 x1 x10 : Value} {h : AH} {K : XE → Act → AH → Option β} : kCode env 14 false inv k (cr (cl (cr c14))) (act 26 [(0, x0), (1, x1), (10, x10)]) h K = brV x10 (kCode env 14 false inv k (cl (cr (cl (cr c14)))) (act 26 [(0, x0), (1, x1), (10, x10)]) h K) (kCode env 14 false inv k (cr (cr (cl (cr c14)))) (act 26 [(0, x0), (1, x1), (10, x10)]) h K) := (k_cond (by kernel_rfl)).trans (by kernel_rfl)
theorem r14_2 {β : Type} {inv : Inv} {k : Nat} {x0 x1 x10 : Value} {h : AH} {K : XE → Act → AH → Option β} : kCode env 14 false inv k (cl (cl (cr (cl (cr c14))))) (act 26 [(0, x0), (1, x1), (10, x10)]) h K =
    K .normal (act 26 [(4, (Go.Value.bool false))]) h := (k_reg (by kernel_rfl)).trans (by kernel_rfl)
theorem res14_0 {x4 : Value} {h : AH} : resOfFn env.P 14 .ret (act 26 [(4, x4)]) h = some (x4, h) := (resOfFn_k (by kernel_rfl) (by kernel_rfl)).trans (by kernel_rfl)
theorem r14_3 {β : Type} {inv : Inv} {k : Nat} {x0 x1 x10 : Value} {h : AH} {K : XE → Act → AH → Option β} : kCode env 14 false inv k (cl (cl (cr (cr c14)))) (act 26 [(0, x0), (1, x1), (10, x10)]) h K =
    K .normal (act 26 [(0, x0), (1, x1), (5, (Go.Value.int Go.IntKind.i64 0))]) h := (k_reg (by kernel_rfl)).trans (by kernel_rfl)
theorem r14_4 {β : Type} {inv : Inv} {k : Nat} {x0 x1 x5 : Value} {h : AH} {K : XE → Act → AH → Option β} : kCode env 14 false inv k (cl (cl (cl (cl (cr (cl (cr (cr c14)))))))) (act 26 [(0, x0), (1, x1), (5, x5)]) h K =
    bnd (pLen Try.prog #[22] x0 h) fun x13 =>
    bnd (pBin Try.prog Go.BinOp.lss 3 (Go.Operand.tmp 11) (Go.Operand.tmp 13) x5 x13) fun x14 =>
    K .normal (act 26 [(0, x0), (1, x1), (5, x5), (14, x14)]) h := (k_reg (by kernel_rfl)).trans (by kernel_rfl)
theorem b14_rlllrlrr {β : Type} {inv : Inv} {k : Nat} {x0 x1 x5 x14 : Value} {h : AH} {K : XE → Act → AH → Option β} : kCode env 14 false inv k (cr (cl (cl (cl (cr (cl (cr (cr c14)))))))) (act 26 [(0, x0), (1, x1), (5, x5), (14, x14)]) h K = brV x14 (kCode env 14 false inv k (cl (cr (cl (cl (cl (cr (cl (cr (cr c14))))))))) (act 26 [(0, x0), (1, x1), (5, x5), (14, x14)]) h K) (kCode env 14 false inv k (cr (cr (cl (cl (cl (cr (cl (cr (cr c14))))))))) (act 26 [(0, x0), (1, x1), (5, x5), (14, x14)]) h K) := (k_cond (by kernel_rfl)).trans (by kernel_rfl)
theorem r14_6 {β : Type} {inv : Inv} {k : Nat} {x0 x1 x5 x14 : Value} {h : AH} {K : XE → Act → AH → Option β} : kCode env 14 false inv k (cl (cl (cl (cr (cl (cl (cr (cl (cr (cr c14)))))))))) (act 26 [(0, x0), (1, x1), (5, x5), (14, x14)]) h K =
    bnd (pIndexAddr Try.prog 22 x0 x5) fun x19 =>
    bnd (pLoad Try.prog 30 x19 h) fun x20 =>
    bnd (pIndexAddr Try.prog 22 x1 x5) fun x23 =>
    bnd (pLoad Try.prog 30 x23 h) fun x24 =>
    bnd (pBin Try.prog Go.BinOp.neq 30 (Go.Operand.tmp 20) (Go.Operand.tmp 24) x20 x24) fun x25 =>
    K .normal (act 26 [(0, x0), (1, x1), (5, x5), (25, x25)]) h := (k_draw (by kernel_rfl)).trans (by kernel_rfl)
theorem b14_rllrllrlrr {β : Type} {inv : Inv} {k : Nat} {x0 x1 x5 x25 : Value} {h : AH} {K : XE → Act → AH → Option β} : kCode env 14 false inv k (cr (cl (cl (cr (cl (cl (cr (cl (cr (cr c14)))))))))) (act 26 [(0, x0), (1, x1), (5, x5), (25, x25)]) h K = brV x25 (kCode env 14 false inv k (cl (cr (cl (cl (cr (cl (cl (cr (cl (cr (cr c14))))))))))) (act 26 [(0, x0), (1, x1), (5, x5), (25, x25)]) h K) (kCode env 14 false inv k (cr (cr (cl (cl (cr (cl (cl (cr (cl (cr (cr c14))))))))))) (act 26 [(0, x0), (1, x1), (5, x5), (25, x25)]) h K) := (k_cond (by kernel_rfl)).trans (by kernel_rfl)
theorem r14_7 {β : Type} {inv : Inv} {k : Nat} {x0 x1 x5 x25 : Value} {h : AH} {K : XE → Act → AH → Option β} : kCode env 14 false inv k (cl (cl (cr (cl (cl (cr (cl (cl (cr (cl (cr (cr c14)))))))))))) (act 26 [(0, x0), (1, x1), (5, x5), (25, x25)]) h K =
    K .normal (act 26 [(4, (Go.Value.bool false))]) h := (k_reg (by kernel_rfl)).trans (by kernel_rfl)
theorem r14_5 {β : Type} {inv : Inv} {k : Nat} {x0 x1 x5 x25 : Value} {h : AH} {K : XE → Act → AH → Option β} : kCode env 14 false inv k (cr (cr (cl (cl (cr (cl (cr (cr c14)))))))) (act 26 [(0, x0), (1, x1), (5, x5), (25, x25)]) h K =
    bnd (pBin Try.prog Go.BinOp.add 3 (Go.Operand.tmp 15) (Go.Operand.const (Go.Value.int Go.IntKind.i64 1)) x5 (Go.Value.int Go.IntKind.i64 1)) fun x16 =>
    K .normal (act 26 [(0, x0), (1, x1), (5, x16)]) h := (k_reg (by kernel_rfl)).trans (by kernel_rfl)
noncomputable def F14_lrlrr {β : Type} (inv : Inv) (k : Nat) : Nat → Value → Value → Value → AH → (Value → Value → Value → Value → AH → Option β) → (Value → AH → Option β) → Option β
  | 0, _, _, _, _, _, _ => none
  | j + 1, x0, x1, x5, h, ke0, kr =>
    bnd (pLen Try.prog #[22] x0 h) fun x13 =>
    bnd (pBin Try.prog Go.BinOp.lss 3 (Go.Operand.tmp 11) (Go.Operand.tmp 13) x5 x13) fun x14 =>
    brV x14
    (bnd (pIndexAddr Try.prog 22 x0 x5) fun x19 =>
    bnd (pLoad Try.prog 30 x19 h) fun x20 =>
    bnd (pIndexAddr Try.prog 22 x1 x5) fun x23 =>
    bnd (pLoad Try.prog 30 x23 h) fun x24 =>
    bnd (pBin Try.prog Go.BinOp.neq 30 (Go.Operand.tmp 20) (Go.Operand.tmp 24) x20 x24) fun x25 =>
    brV x25
    (kr (Go.Value.bool false) h)
    (bnd (pBin Try.prog Go.BinOp.add 3 (Go.Operand.tmp 15) (Go.Operand.const (Go.Value.int Go.IntKind.i64 1)) x5 (Go.Value.int Go.IntKind.i64 1)) fun x16 =>
    F14_lrlrr inv k j x0 x1 x16 h ke0 kr))
    (ke0 x0 x1 x5 x14 h)
theorem F14_lrlrr_j {β : Type} {inv : Inv} {k : Nat} (j : Nat) {x0 x1 x5 : Value} {h : AH} {K : XE → Act → AH → Option β} : kLoop (kCode env 14 false inv k (cl (cl (cr (cl (cr (cr c14))))))) j (act 26 [(0, x0), (1, x1), (5, x5)]) h K = F14_lrlrr inv k j x0 x1 x5 h (fun y0 y1 y5 y14 h => K (.exit 0) (act 26 [(0, y0), (1, y1), (5, y5), (14, y14)]) h) (fun y4 h => K .ret (act 26 [(4, y4)]) h) := by
      induction j generalizing x0 x1 x5 h with
      | zero => rfl
      | succ j ih =>
        unfold F14_lrlrr
        simp only [kLoop, k_seq (E := env) (f := 14) (c := (cl (cl (cr (cl (cr (cr c14))))))) (by kernel_rfl), k_seq (E := env) (f := 14) (c := (cl (cl (cl (cr (cl (cr (cr c14)))))))) (by kernel_rfl), r14_4, b14_rlllrlrr, k_skip (E := env) (f := 14) (c := (cl (cr (cl (cl (cl (cr (cl (cr (cr c14)))))))))) (by kernel_rfl), k_seq (E := env) (f := 14) (c := (cr (cl (cl (cr (cl (cr (cr c14)))))))) (by kernel_rfl), k_block (E := env) (f := 14) (c := (cl (cr (cl (cl (cr (cl (cr (cr c14))))))))) (id := 1) (by kernel_rfl), k_seq (E := env) (f := 14) (c := (cl (cl (cr (cl (cl (cr (cl (cr (cr c14)))))))))) (by kernel_rfl), r14_6, b14_rllrllrlrr, k_seq (E := env) (f := 14) (c := (cl (cr (cl (cl (cr (cl (cl (cr (cl (cr (cr c14)))))))))))) (by kernel_rfl), r14_7, k_ret (E := env) (f := 14) (c := (cr (cl (cr (cl (cl (cr (cl (cl (cr (cl (cr (cr c14))))))))))))) (by kernel_rfl), k_skip (E := env) (f := 14) (c := (cr (cr (cl (cl (cr (cl (cl (cr (cl (cr (cr c14)))))))))))) (by kernel_rfl), r14_5, k_exit (E := env) (f := 14) (c := (cr (cr (cl (cl (cl (cr (cl (cr (cr c14)))))))))) (id := 0) (by kernel_rfl), ih, reduceIte, reduceCtorEq, XE.exit.injEq, Nat.reduceEqDiff] <;> kernel_rfl
theorem F14_lrlrr_eq {β : Type} {inv : Inv} {k : Nat} {x0 x1 x5 : Value} {h : AH} {K : XE → Act → AH → Option β} : kCode env 14 false inv k (cl (cr (cl (cr (cr c14))))) (act 26 [(0, x0), (1, x1), (5, x5)]) h K = F14_lrlrr inv k k x0 x1 x5 h (fun y0 y1 y5 y14 h => K (.exit 0) (act 26 [(0, y0), (1, y1), (5, y5), (14, y14)]) h) (fun y4 h => K .ret (act 26 [(4, y4)]) h) := (k_loop (by kernel_rfl)).trans (F14_lrlrr_j k)
theorem r14_8 {β : Type} {inv : Inv} {k : Nat} {x0 x1 x5 x14 : Value} {h : AH} {K : XE → Act → AH → Option β} : kCode env 14 false inv k (cl (cr (cr (cr c14)))) (act 26 [(0, x0), (1, x1), (5, x5), (14, x14)]) h K =
    K .normal (act 26 [(4, (Go.Value.bool true))]) h := (k_reg (by kernel_rfl)).trans (by kernel_rfl)
/-- shadowbook/shadowbookkit.Same[uint64] -/
noncomputable def F14 (inv : Inv) (k : Nat) (x0 x1 : Value) (h : AH) : Option (Value × AH) :=
    bnd (pLen Try.prog #[22] x0 h) fun x7 =>
    bnd (pLen Try.prog #[22] x1 h) fun x9 =>
    bnd (pBin Try.prog Go.BinOp.neq 3 (Go.Operand.tmp 7) (Go.Operand.tmp 9) x7 x9) fun x10 =>
    brV x10
    (some ((Go.Value.bool false), h))
    (F14_lrlrr inv k k x0 x1 (Go.Value.int Go.IntKind.i64 0) h
    (fun y0 y1 y5 y14 h =>
    some ((Go.Value.bool true), h))
    (fun y4 h_1 =>
    some (y4, h_1)))
theorem F14_eq {inv : Inv} {k : Nat} {x0 x1 : Value} {h : AH} : eFun env k inv 14 #[x0, x1] h = F14 inv k x0 x1 h := by
      refine (eFun_k2 (by kernel_rfl) (by kernel_rfl) (by kernel_rfl) (a := act 26 [(0, x0), (1, x1)]) (c := c14) (by kernel_rfl) (by kernel_rfl)).trans ?_
      unfold F14
      simp only [k_seq (E := env) (f := 14) (c := c14) (by kernel_rfl), r14_0, k_seq (E := env) (f := 14) (c := (cr c14)) (by kernel_rfl), k_seq (E := env) (f := 14) (c := (cl (cr c14))) (by kernel_rfl), r14_1, b14_rlr, k_seq (E := env) (f := 14) (c := (cl (cr (cl (cr c14))))) (by kernel_rfl), r14_2, k_ret (E := env) (f := 14) (c := (cr (cl (cr (cl (cr c14)))))) (by kernel_rfl), res14_0, k_skip (E := env) (f := 14) (c := (cr (cr (cl (cr c14))))) (by kernel_rfl), k_seq (E := env) (f := 14) (c := (cr (cr c14))) (by kernel_rfl), k_seq (E := env) (f := 14) (c := (cl (cr (cr c14)))) (by kernel_rfl), r14_3, k_block (E := env) (f := 14) (c := (cr (cl (cr (cr c14))))) (id := 0) (by kernel_rfl), F14_lrlrr_eq, k_seq (E := env) (f := 14) (c := (cr (cr (cr c14)))) (by kernel_rfl), r14_8, k_ret (E := env) (f := 14) (c := (cr (cr (cr (cr c14))))) (by kernel_rfl), reduceIte, reduceCtorEq, XE.exit.injEq, Nat.reduceEqDiff] <;> kernel_rfl
theorem F14_call {k : Nat} {x0 x1 : Value} {h : AH} : eInv env (k + 1) (.func 14) #[] #[x0, x1] h = F14 (eInv env k) k x0 x1 h := (inv_func (by kernel_rfl)).trans F14_eq
noncomputable def c15 : Code := codeOf Try.prog 15
theorem r15_0 {β : Type} {inv : Inv} {k : Nat} {x0 : Value} {h : AH} {K : XE → Act → AH → Option β} : kCode env 15 false inv k (cl c15) (act 18 [(0, x0)]) h K =
    K .normal (act 18 [(0, x0)]) h := (k_reg (by kernel_rfl)).trans (by kernel_rfl)
theorem r15_1 {β : Type} {inv : Inv} {k : Nat} {x0 : Value} {h : AH} {K : XE → Act → AH → Option β} : kCode env 15 false inv k (cl (cr c15)) (act 18 [(0, x0)]) h K =
    K .normal (act 18 [(0, x0), (3, (Go.Value.int Go.IntKind.u64 0))]) h := (k_reg (by kernel_rfl)).trans (by kernel_rfl)
theorem r15_2 {β : Type} {inv : Inv} {k : Nat} {x0 x3 : Value} {h : AH} {K : XE → Act → AH → Option β} : kCode env 15 false inv k (cl (cl (cr (cr c15)))) (act 18 [(0, x0), (3, x3)]) h K =
    bnd (pLen Try.prog #[22] x0 h) fun x7 =>
    K .normal (act 18 [(3, x3), (6, x0), (7, x7), (8, (Go.Value.int Go.IntKind.i64 0))]) h := (k_reg (by kernel_rfl)).trans (by kernel_rfl)
theorem r15_3 {β : Type} {inv : Inv} {k : Nat} {x3 x6 x7 x8 : Value} {h : AH} {K : XE → Act → AH → Option β} : kCode env 15 false inv k (cl (cl (cl (cr (cl (cr (cr c15))))))) (act 18 [(3, x3), (6, x6), (7, x7), (8, x8)]) h K =
    bnd (pBin Try.prog Go.BinOp.lss 3 (Go.Operand.tmp 8) (Go.Operand.tmp 7) x8 x7) fun x9 =>
    K .normal (act 18 [(3, x3), (6, x6), (7, x7), (8, x8), (9, x9)]) h := (k_reg (by kernel_rfl)).trans (by kernel_rfl)
theorem b15_lrllrlrr {β : Type} {inv : Inv} {k : Nat} {x3 x6 x7 x8 x9 : Value} {h : AH} {K : XE → Act → AH → Option β} : kCode env 15 false inv k (cl (cr (cl (cl (cr (cl (cr (cr c15)))))))) (act 18 [(3, x3), (6, x6), (7, x7), (8, x8), (9, x9)]) h K = brV x9 (kCode env 15 false inv k (cl (cl (cr (cl (cl (cr (cl (cr (cr c15))))))))) (act 18 [(3, x3), (6, x6), (7, x7), (8, x8), (9, x9)]) h K) (kCode env 15 false inv k (cr (cl (cr (cl (cl (cr (cl (cr (cr c15))))))))) (act 18 [(3, x3), (6, x6), (7, x7), (8, x8), (9, x9)]) h K) := (k_cond (by kernel_rfl)).trans (by kernel_rfl)
theorem r15_4 {β : Type} {inv : Inv} {k : Nat} {x3 x6 x7 x8 x9 : Value} {h : AH} {K : XE → Act → AH → Option β} : kCode env 15 false inv k (cl (cl (cl (cr (cr (cl (cl (cr (cl (cr (cr c15))))))))))) (act 18 [(3, x3), (6, x6), (7, x7), (8, x8), (9, x9)]) h K =
    bnd (pIndexAddr Try.prog 22 x6 x8) fun x10 =>
    bnd (pLoad Try.prog 30 x10 h) fun x11 =>
    K .normal (act 18 [(3, x3), (5, x11), (6, x6), (7, x7), (8, x8)]) h := (k_reg (by kernel_rfl)).trans (by kernel_rfl)
theorem r15_5 {β : Type} {inv : Inv} {k : Nat} {x3 x5 x6 x7 x8 : Value} {h : AH} {K : XE → Act → AH → Option β} : kCode env 15 false inv k (cr (cl (cl (cr (cr (cl (cl (cr (cl (cr (cr c15))))))))))) (act 18 [(3, x3), (5, x5), (6, x6), (7, x7), (8, x8)]) h K =
    bnd (pBin Try.prog Go.BinOp.or 30 (Go.Operand.tmp 12) (Go.Operand.tmp 13) x3 x5) fun x14 =>
    K .normal (act 18 [(3, x14), (6, x6), (7, x7), (8, x8)]) h := (k_reg (by kernel_rfl)).trans (by kernel_rfl)
theorem r15_6 {β : Type} {inv : Inv} {k : Nat} {x3 x6 x7 x8 : Value} {h : AH} {K : XE → Act → AH → Option β} : kCode env 15 false inv k (cr (cr (cr (cl (cl (cr (cl (cr (cr c15))))))))) (act 18 [(3, x3), (6, x6), (7, x7), (8, x8)]) h K =
    bnd (pBin Try.prog Go.BinOp.add 3 (Go.Operand.tmp 8) (Go.Operand.const (Go.Value.int Go.IntKind.i64 1)) x8 (Go.Value.int Go.IntKind.i64 1)) fun x15 =>
    K .normal (act 18 [(3, x3), (6, x6), (7, x7), (8, x15)]) h := (k_reg (by kernel_rfl)).trans (by kernel_rfl)
noncomputable def F15_lrlrr {β : Type} (inv : Inv) (k : Nat) : Nat → Value → Value → Value → Value → AH → (Value → Value → Value → Value → Value → AH → Option β) → Option β
  | 0, _, _, _, _, _, _ => none
  | j + 1, x3, x6, x7, x8, h, ke0 =>
    bnd (pBin Try.prog Go.BinOp.lss 3 (Go.Operand.tmp 8) (Go.Operand.tmp 7) x8 x7) fun x9 =>
    brV x9
    (bnd (pIndexAddr Try.prog 22 x6 x8) fun x10 =>
    bnd (pLoad Try.prog 30 x10 h) fun x11 =>
    bnd (pBin Try.prog Go.BinOp.or 30 (Go.Operand.tmp 12) (Go.Operand.tmp 13) x3 x11) fun x14 =>
    bnd (pBin Try.prog Go.BinOp.add 3 (Go.Operand.tmp 8) (Go.Operand.const (Go.Value.int Go.IntKind.i64 1)) x8 (Go.Value.int Go.IntKind.i64 1)) fun x15 =>
    F15_lrlrr inv k j x14 x6 x7 x15 h ke0)
    (ke0 x3 x6 x7 x8 x9 h)
theorem F15_lrlrr_j {β : Type} {inv : Inv} {k : Nat} (j : Nat) {x3 x6 x7 x8 : Value} {h : AH} {K : XE → Act → AH → Option β} : kLoop (kCode env 15 false inv k (cl (cl (cr (cl (cr (cr c15))))))) j (act 18 [(3, x3), (6, x6), (7, x7), (8, x8)]) h K = F15_lrlrr inv k j x3 x6 x7 x8 h (fun y3 y6 y7 y8 y9 h => K (.exit 0) (act 18 [(3, y3), (6, y6), (7, y7), (8, y8), (9, y9)]) h) := by
      induction j generalizing x3 x6 x7 x8 h with
      | zero => rfl
      | succ j ih =>
        unfold F15_lrlrr
        simp only [kLoop, k_seq (E := env) (f := 15) (c := (cl (cl (cr (cl (cr (cr c15))))))) (by kernel_rfl), r15_3, k_seq (E := env) (f := 15) (c := (cr (cl (cl (cr (cl (cr (cr c15)))))))) (by kernel_rfl), b15_lrllrlrr, k_skip (E := env) (f := 15) (c := (cl (cl (cr (cl (cl (cr (cl (cr (cr c15)))))))))) (by kernel_rfl), k_seq (E := env) (f := 15) (c := (cr (cr (cl (cl (cr (cl (cr (cr c15))))))))) (by kernel_rfl), k_block (E := env) (f := 15) (c := (cl (cr (cr (cl (cl (cr (cl (cr (cr c15)))))))))) (id := 1) (by kernel_rfl), k_seq (E := env) (f := 15) (c := (cl (cl (cr (cr (cl (cl (cr (cl (cr (cr c15))))))))))) (by kernel_rfl), r15_4, r15_5, r15_6, k_exit (E := env) (f := 15) (c := (cr (cl (cr (cl (cl (cr (cl (cr (cr c15)))))))))) (id := 0) (by kernel_rfl), ih, reduceIte, reduceCtorEq, XE.exit.injEq, Nat.reduceEqDiff] <;> kernel_rfl
theorem F15_lrlrr_eq {β : Type} {inv : Inv} {k : Nat} {x3 x6 x7 x8 : Value} {h : AH} {K : XE → Act → AH → Option β} : kCode env 15 false inv k (cl (cr (cl (cr (cr c15))))) (act 18 [(3, x3), (6, x6), (7, x7), (8, x8)]) h K = F15_lrlrr inv k k x3 x6 x7 x8 h (fun y3 y6 y7 y8 y9 h => K (.exit 0) (act 18 [(3, y3), (6, y6), (7, y7), (8, y8), (9, y9)]) h) := (k_loop (by kernel_rfl)).trans (F15_lrlrr_j k)
theorem r15_7 {β : Type} {inv : Inv} {k : Nat} {x3 x6 x7 x8 x9 : Value} {h : AH} {K : XE → Act → AH → Option β} : kCode env 15 false inv k (cl (cr (cr (cr c15)))) (act 18 [(3, x3), (6, x6), (7, x7), (8, x8), (9, x9)]) h K =
    bnd (inv (.func 26) #[] #[x3] h) fun x17 =>
    K .normal (act 18 [(2, x17.1)]) x17.2 := (k_reg (by kernel_rfl)).trans (by kernel_rfl)
theorem res15_0 {x2 : Value} {h : AH} : resOfFn env.P 15 .ret (act 18 [(2, x2)]) h = some (x2, h) := (resOfFn_k (by kernel_rfl) (by kernel_rfl)).trans (by kernel_rfl)
/-- shadowbook/packs.Width -/
noncomputable def F15 (inv : Inv) (k : Nat) (x0 : Value) (h : AH) : Option (Value × AH) :=
    bnd (pLen Try.prog #[22] x0 h) fun x7 =>
    F15_lrlrr inv k k (Go.Value.int Go.IntKind.u64 0) x0 x7 (Go.Value.int Go.IntKind.i64 0) h
    (fun y3 y6 y7 y8 y9 h =>
    bnd (inv (.func 26) #[] #[y3] h) fun x17 =>
    some (x17.1, x17.2))
theorem F15_eq {inv : Inv} {k : Nat} {x0 : Value} {h : AH} : eFun env k inv 15 #[x0] h = F15 inv k x0 h := by
      refine (eFun_k2 (by kernel_rfl) (by kernel_rfl) (by kernel_rfl) (a := act 18 [(0, x0)]) (c := c15) (by kernel_rfl) (by kernel_rfl)).trans ?_
      unfold F15
      simp only [k_seq (E := env) (f := 15) (c := c15) (by kernel_rfl), r15_0, k_seq (E := env) (f := 15) (c := (cr c15)) (by kernel_rfl), r15_1, k_seq (E := env) (f := 15) (c := (cr (cr c15))) (by kernel_rfl), k_seq (E := env) (f := 15) (c := (cl (cr (cr c15)))) (by kernel_rfl), r15_2, k_block (E := env) (f := 15) (c := (cr (cl (cr (cr c15))))) (id := 0) (by kernel_rfl), F15_lrlrr_eq, k_seq (E := env) (f := 15) (c := (cr (cr (cr c15)))) (by kernel_rfl), r15_7, k_ret (E := env) (f := 15) (c := (cr (cr (cr (cr c15))))) (by kernel_rfl), res15_0, reduceIte, reduceCtorEq, XE.exit.injEq, Nat.reduceEqDiff] <;> kernel_rfl
theorem F15_call {k : Nat} {x0 : Value} {h : AH} : eInv env (k + 1) (.func 15) #[] #[x0] h = F15 (eInv env k) k x0 h := (inv_func (by kernel_rfl)).trans F15_eq
noncomputable def c16 : Code := codeOf Try.prog 16
theorem r16_0 {β : Type} {inv : Inv} {k : Nat} {x0 x1 : Value} {h : AH} {K : XE → Act → AH → Option β} : kCode env 16 false inv k (cl c16) (act 15 [(0, x0), (1, x1)]) h K =
    K .normal (act 15 [(0, x0), (1, x1)]) h := (k_reg (by kernel_rfl)).trans (by kernel_rfl)
theorem r16_1 {β : Type} {inv : Inv} {k : Nat} {x0 x1 : Value} {h : AH} {K : XE → Act → AH → Option β} : kCode env 16 false inv k (cl (cl (cr c16))) (act 15 [(0, x0), (1, x1)]) h K =
    bnd (inv (.func 23) #[] #[x0, x1] h) fun x7 =>
    bnd (pUn Try.prog Go.UnOp.not x7.1) fun x8 =>
    K .normal (act 15 [(0, x0), (1, x1), (8, x8)]) x7.2 := (k_reg (by kernel_rfl)).trans (by kernel_rfl)
theorem b16_rlr {β : Type} {inv : Inv} {k : Nat} {x0 x1 x8 : Value} {h : AH} {K : XE → Act → AH → Option β} : kCode env 16 false inv k (cr (cl (cr c16))) (act 15 [(0, x0), (1, x1), (8, x8)]) h K = brV x8 (kCode env 16 false inv k (cl (cr (cl (cr c16)))) (act 15 [(0, x0), (1, x1), (8, x8)]) h K) (kCode env 16 false inv k (cr (cr (cl (cr c16)))) (act 15 [(0, x0), (1, x1), (8, x8)]) h K) := (k_cond (by kernel_rfl)).trans (by kernel_rfl)
theorem r16_2 {β : Type} {inv : Inv} {k : Nat} {x0 x1 x8 : Value} {h : AH} {K : XE → Act → AH → Option β} : kCode env 16 false inv k (cl (cl (cr (cl (cr c16))))) (act 15 [(0, x0), (1, x1), (8, x8)]) h K =
    K .normal (act 15 [(4, (Go.Value.int Go.IntKind.i64 0))]) h := (k_reg (by kernel_rfl)).trans (by kernel_rfl)
theorem res16_0 {x4 : Value} {h : AH} : resOfFn env.P 16 .ret (act 15 [(4, x4)]) h = some (x4, h) := (resOfFn_k (by kernel_rfl) (by kernel_rfl)).trans (by kernel_rfl)
theorem r16_3 {β : Type} {inv : Inv} {k : Nat} {x0 x1 x8 : Value} {h : AH} {K : XE → Act → AH → Option β} : kCode env 16 false inv k (cl (cr (cr c16))) (act 15 [(0, x0), (1, x1), (8, x8)]) h K =
    bnd (pBin Try.prog Go.BinOp.mul 3 (Go.Operand.tmp 9) (Go.Operand.tmp 10) x0 x1) fun x11 =>
    bnd (pBin Try.prog Go.BinOp.add 3 (Go.Operand.tmp 11) (Go.Operand.const (Go.Value.int Go.IntKind.i64 8)) x11 (Go.Value.int Go.IntKind.i64 8)) fun x12 =>
    bnd (pBin Try.prog Go.BinOp.sub 3 (Go.Operand.tmp 12) (Go.Operand.const (Go.Value.int Go.IntKind.i64 1)) x12 (Go.Value.int Go.IntKind.i64 1)) fun x13 =>
    bnd (pBin Try.prog Go.BinOp.quo 3 (Go.Operand.tmp 13) (Go.Operand.const (Go.Value.int Go.IntKind.i64 8)) x13 (Go.Value.int Go.IntKind.i64 8)) fun x14 =>
    K .normal (act 15 [(4, x14)]) h := (k_reg (by kernel_rfl)).trans (by kernel_rfl)
/-- shadowbook/packs.Size -/
noncomputable def F16 (inv : Inv) (k : Nat) (x0 x1 : Value) (h : AH) : Option (Value × AH) :=
    bnd (inv (.func 23) #[] #[x0, x1] h) fun x7 =>
    bnd (pUn Try.prog Go.UnOp.not x7.1) fun x8 =>
    brV x8
    (some ((Go.Value.int Go.IntKind.i64 0), x7.2))
    (bnd (pBin Try.prog Go.BinOp.mul 3 (Go.Operand.tmp 9) (Go.Operand.tmp 10) x0 x1) fun x11 =>
    bnd (pBin Try.prog Go.BinOp.add 3 (Go.Operand.tmp 11) (Go.Operand.const (Go.Value.int Go.IntKind.i64 8)) x11 (Go.Value.int Go.IntKind.i64 8)) fun x12 =>
    bnd (pBin Try.prog Go.BinOp.sub 3 (Go.Operand.tmp 12) (Go.Operand.const (Go.Value.int Go.IntKind.i64 1)) x12 (Go.Value.int Go.IntKind.i64 1)) fun x13 =>
    bnd (pBin Try.prog Go.BinOp.quo 3 (Go.Operand.tmp 13) (Go.Operand.const (Go.Value.int Go.IntKind.i64 8)) x13 (Go.Value.int Go.IntKind.i64 8)) fun x14 =>
    some (x14, x7.2))
theorem F16_eq {inv : Inv} {k : Nat} {x0 x1 : Value} {h : AH} : eFun env k inv 16 #[x0, x1] h = F16 inv k x0 x1 h := by
      refine (eFun_k2 (by kernel_rfl) (by kernel_rfl) (by kernel_rfl) (a := act 15 [(0, x0), (1, x1)]) (c := c16) (by kernel_rfl) (by kernel_rfl)).trans ?_
      unfold F16
      simp only [k_seq (E := env) (f := 16) (c := c16) (by kernel_rfl), r16_0, k_seq (E := env) (f := 16) (c := (cr c16)) (by kernel_rfl), k_seq (E := env) (f := 16) (c := (cl (cr c16))) (by kernel_rfl), r16_1, b16_rlr, k_seq (E := env) (f := 16) (c := (cl (cr (cl (cr c16))))) (by kernel_rfl), r16_2, k_ret (E := env) (f := 16) (c := (cr (cl (cr (cl (cr c16)))))) (by kernel_rfl), res16_0, k_skip (E := env) (f := 16) (c := (cr (cr (cl (cr c16))))) (by kernel_rfl), k_seq (E := env) (f := 16) (c := (cr (cr c16))) (by kernel_rfl), r16_3, k_ret (E := env) (f := 16) (c := (cr (cr (cr c16)))) (by kernel_rfl), reduceIte, reduceCtorEq, XE.exit.injEq, Nat.reduceEqDiff] <;> kernel_rfl
theorem F16_call {k : Nat} {x0 x1 : Value} {h : AH} : eInv env (k + 1) (.func 16) #[] #[x0, x1] h = F16 (eInv env k) k x0 x1 h := (inv_func (by kernel_rfl)).trans F16_eq
noncomputable def c17 : Code := codeOf Try.prog 17
theorem r17_0 {β : Type} {inv : Inv} {k : Nat} {x0 x1 : Value} {h : AH} {K : XE → Act → AH → Option β} : kCode env 17 false inv k (cl c17) (act 64 [(0, x0), (1, x1)]) h K =
    K .normal (act 64 [(0, x0), (1, x1)]) h := (k_reg (by kernel_rfl)).trans (by kernel_rfl)
theorem r17_1 {β : Type} {inv : Inv} {k : Nat} {x0 x1 : Value} {h : AH} {K : XE → Act → AH → Option β} : kCode env 17 false inv k (cl (cl (cr c17))) (act 64 [(0, x0), (1, x1)]) h K =
    bnd (pLen Try.prog #[22] x0 h) fun x11 =>
    bnd (inv (.func 27) #[] #[x11, x1] h) fun x13 =>
    bnd (pUn Try.prog Go.UnOp.not x13.1) fun x14 =>
    K .normal (act 64 [(0, x0), (1, x1), (14, x14)]) x13.2 := (k_reg (by kernel_rfl)).trans (by kernel_rfl)
theorem b17_rlr {β : Type} {inv : Inv} {k : Nat} {x0 x1 x14 : Value} {h : AH} {K : XE → Act → AH → Option β} : kCode env 17 false inv k (cr (cl (cr c17))) (act 64 [(0, x0), (1, x1), (14, x14)]) h K = brV x14 (kCode env 17 false inv k (cl (cr (cl (cr c17)))) (act 64 [(0, x0), (1, x1), (14, x14)]) h K) (kCode env 17 false inv k (cr (cr (cl (cr c17)))) (act 64 [(0, x0), (1, x1), (14, x14)]) h K) := (k_cond (by kernel_rfl)).trans (by kernel_rfl)
theorem r17_2 {β : Type} {inv : Inv} {k : Nat} {x0 x1 x14 : Value} {h : AH} {K : XE → Act → AH → Option β} : kCode env 17 false inv k (cl (cl (cr (cl (cr c17))))) (act 64 [(0, x0), (1, x1), (14, x14)]) h K =
    K .normal (act 64 [(4, (Go.Value.slice none 0 0)), (5, (Go.Value.int Go.IntKind.i64 2))]) h := (k_reg (by kernel_rfl)).trans (by kernel_rfl)
theorem res17_0 {x4 x5 : Value} {h : AH} : resOfFn env.P 17 .ret (act 64 [(4, x4), (5, x5)]) h = some (.tuple #[x4, x5], h) := (resOfFn_k (by kernel_rfl) (by kernel_rfl)).trans (by kernel_rfl)
theorem r17_3 {β : Type} {inv : Inv} {k : Nat} {x0 x1 x14 : Value} {h : AH} {K : XE → Act → AH → Option β} : kCode env 17 false inv k (cl (cl (cr (cr c17)))) (act 64 [(0, x0), (1, x1), (14, x14)]) h K =
    bnd (inv (.func 20) #[] #[x0] h) fun x16 =>
    bnd (pBin Try.prog Go.BinOp.gtr 3 (Go.Operand.tmp 16) (Go.Operand.tmp 17) x16.1 x1) fun x18 =>
    K .normal (act 64 [(0, x0), (1, x1), (18, x18)]) x16.2 := (k_reg (by kernel_rfl)).trans (by kernel_rfl)
theorem b17_rlrr {β : Type} {inv : Inv} {k : Nat} {x0 x1 x18 : Value} {h : AH} {K : XE → Act → AH → Option β} : kCode env 17 false inv k (cr (cl (cr (cr c17)))) (act 64 [(0, x0), (1, x1), (18, x18)]) h K = brV x18 (kCode env 17 false inv k (cl (cr (cl (cr (cr c17))))) (act 64 [(0, x0), (1, x1), (18, x18)]) h K) (kCode env 17 false inv k (cr (cr (cl (cr (cr c17))))) (act 64 [(0, x0), (1, x1), (18, x18)]) h K) := (k_cond (by kernel_rfl)).trans (by kernel_rfl)
theorem r17_4 {β : Type} {inv : Inv} {k : Nat} {x0 x1 x18 : Value} {h : AH} {K : XE → Act → AH → Option β} : kCode env 17 false inv k (cl (cl (cr (cl (cr (cr c17)))))) (act 64 [(0, x0), (1, x1), (18, x18)]) h K =
    K .normal (act 64 [(4, (Go.Value.slice none 0 0)), (5, (Go.Value.int Go.IntKind.i64 3))]) h := (k_reg (by kernel_rfl)).trans (by kernel_rfl)
theorem r17_5 {β : Type} {inv : Inv} {k : Nat} {x0 x1 x18 : Value} {h : AH} {K : XE → Act → AH → Option β} : kCode env 17 false inv k (cl (cr (cr (cr c17)))) (act 64 [(0, x0), (1, x1), (18, x18)]) h K =
    bnd (pLen Try.prog #[22] x0 h) fun x20 =>
    bnd (inv (.func 21) #[] #[x20, x1] h) fun x22 =>
    bnd (pMakeSlice Try.prog 25 x22.1 x22.1 x22.2) fun x23 =>
    K .normal (act 64 [(0, x0), (1, x1), (6, x23.1)]) x23.2 := (k_reg (by kernel_rfl)).trans (by kernel_rfl)
theorem r17_6 {β : Type} {inv : Inv} {k : Nat} {x0 x1 x6 : Value} {h : AH} {K : XE → Act → AH → Option β} : kCode env 17 false inv k (cl (cl (cr (cr (cr (cr c17)))))) (act 64 [(0, x0), (1, x1), (6, x6)]) h K =
    K .normal (act 64 [(0, x0), (1, x1), (6, x6), (7, (Go.Value.int Go.IntKind.i64 0))]) h := (k_reg (by kernel_rfl)).trans (by kernel_rfl)
theorem r17_7 {β : Type} {inv : Inv} {k : Nat} {x0 x1 x6 x7 : Value} {h : AH} {K : XE → Act → AH → Option β} : kCode env 17 false inv k (cl (cl (cl (cl (cr (cl (cr (cr (cr (cr c17)))))))))) (act 64 [(0, x0), (1, x1), (6, x6), (7, x7)]) h K =
    bnd (pLen Try.prog #[22] x0 h) fun x26 =>
    bnd (pBin Try.prog Go.BinOp.lss 3 (Go.Operand.tmp 24) (Go.Operand.tmp 26) x7 x26) fun x27 =>
    K .normal (act 64 [(0, x0), (1, x1), (6, x6), (7, x7), (27, x27)]) h := (k_reg (by kernel_rfl)).trans (by kernel_rfl)
theorem b17_rlllrlrrrr {β : Type} {inv : Inv} {k : Nat} {x0 x1 x6 x7 x27 : Value} {h : AH} {K : XE → Act → AH → Option β} : kCode env 17 false inv k (cr (cl (cl (cl (cr (cl (cr (cr (cr (cr c17)))))))))) (act 64 [(0, x0), (1, x1), (6, x6), (7, x7), (27, x27)]) h K = brV x27 (kCode env 17 false inv k (cl (cr (cl (cl (cl (cr (cl (cr (cr (cr (cr c17))))))))))) (act 64 [(0, x0), (1, x1), (6, x6), (7, x7), (27, x27)]) h K) (kCode env 17 false inv k (cr (cr (cl (cl (cl (cr (cl (cr (cr (cr (cr c17))))))))))) (act 64 [(0, x0), (1, x1), (6, x6), (7, x7), (27, x27)]) h K) := (k_cond (by kernel_rfl)).trans (by kernel_rfl)
theorem r17_9 {β : Type} {inv : Inv} {k : Nat} {x0 x1 x6 x7 x27 : Value} {h : AH} {K : XE → Act → AH → Option β} : kCode env 17 false inv k (cl (cl (cl (cr (cl (cl (cr (cl (cr (cr (cr (cr c17)))))))))))) (act 64 [(0, x0), (1, x1), (6, x6), (7, x7), (27, x27)]) h K =
    K .normal (act 64 [(0, x0), (1, x1), (6, x6), (7, x7), (8, (Go.Value.int Go.IntKind.i64 0))]) h := (k_reg (by kernel_rfl)).trans (by kernel_rfl)
theorem r17_10 {β : Type} {inv : Inv} {k : Nat} {x0 x1 x6 x7 x8 : Value} {h : AH} {K : XE → Act → AH → Option β} : kCode env 17 false inv k (cl (cl (cl (cl (cr (cl (cl (cr (cl (cl (cr (cl (cr (cr (cr (cr c17)))))))))))))))) (act 64 [(0, x0), (1, x1), (6, x6), (7, x7), (8, x8)]) h K =
    bnd (pBin Try.prog Go.BinOp.lss 3 (Go.Operand.tmp 30) (Go.Operand.tmp 31) x8 x1) fun x32 =>
    K .normal (act 64 [(0, x0), (1, x1), (6, x6), (7, x7), (8, x8), (32, x32)]) h := (k_reg (by kernel_rfl)).trans (by kernel_rfl)
theorem b17_rlllrllrllrlrrrr {β : Type} {inv : Inv} {k : Nat} {x0 x1 x6 x7 x8 x32 : Value} {h : AH} {K : XE → Act → AH → Option β} : kCode env 17 false inv k (cr (cl (cl (cl (cr (cl (cl (cr (cl (cl (cr (cl (cr (cr (cr (cr c17)))))))))))))))) (act 64 [(0, x0), (1, x1), (6, x6), (7, x7), (8, x8), (32, x32)]) h K = brV x32 (kCode env 17 false inv k (cl (cr (cl (cl (cl (cr (cl (cl (cr (cl (cl (cr (cl (cr (cr (cr (cr c17))))))))))))))))) (act 64 [(0, x0), (1, x1), (6, x6), (7, x7), (8, x8), (32, x32)]) h K) (kCode env 17 false inv k (cr (cr (cl (cl (cl (cr (cl (cl (cr (cl (cl (cr (cl (cr (cr (cr (cr c17))))))))))))))))) (act 64 [(0, x0), (1, x1), (6, x6), (7, x7), (8, x8), (32, x32)]) h K) := (k_cond (by kernel_rfl)).trans (by kernel_rfl)
theorem r17_12 {β : Type} {inv : Inv} {k : Nat} {x0 x1 x6 x7 x8 x32 : Value} {h : AH} {K : XE → Act → AH → Option β} : kCode env 17 false inv k (cl (cl (cl (cr (cl (cl (cr (cl (cl (cr (cl (cl (cr (cl (cr (cr (cr (cr c17)))))))))))))))))) (act 64 [(0, x0), (1, x1), (6, x6), (7, x7), (8, x8), (32, x32)]) h K =
    bnd (pIndexAddr Try.prog 22 x0 x7) fun x37 =>
    bnd (pLoad Try.prog 30 x37 h) fun x38 =>
    bnd (pConv Try.prog 3 46 x8 h) fun x40 =>
    bnd (pBin Try.prog Go.BinOp.shr 30 (Go.Operand.tmp 38) (Go.Operand.tmp 40) x38 x40) fun x41 =>
    bnd (pBin Try.prog Go.BinOp.rem 30 (Go.Operand.tmp 41) (Go.Operand.const (Go.Value.int Go.IntKind.u64 2)) x41 (Go.Value.int Go.IntKind.u64 2)) fun x42 =>
    bnd (pBin Try.prog Go.BinOp.eql 30 (Go.Operand.tmp 42) (Go.Operand.const (Go.Value.int Go.IntKind.u64 1)) x42 (Go.Value.int Go.IntKind.u64 1)) fun x43 =>
    K .normal (act 64 [(0, x0), (1, x1), (6, x6), (7, x7), (8, x8), (43, x43)]) h := (k_reg (by kernel_rfl)).trans (by kernel_rfl)
theorem b17_rllrllrllrllrlrrrr {β : Type} {inv : Inv} {k : Nat} {x0 x1 x6 x7 x8 x43 : Value} {h : AH} {K : XE → Act → AH → Option β} : kCode env 17 false inv k (cr (cl (cl (cr (cl (cl (cr (cl (cl (cr (cl (cl (cr (cl (cr (cr (cr (cr c17)))))))))))))))))) (act 64 [(0, x0), (1, x1), (6, x6), (7, x7), (8, x8), (43, x43)]) h K = brV x43 (kCode env 17 false inv k (cl (cr (cl (cl (cr (cl (cl (cr (cl (cl (cr (cl (cl (cr (cl (cr (cr (cr (cr c17))))))))))))))))))) (act 64 [(0, x0), (1, x1), (6, x6), (7, x7), (8, x8), (43, x43)]) h K) (kCode env 17 false inv k (cr (cr (cl (cl (cr (cl (cl (cr (cl (cl (cr (cl (cl (cr (cl (cr (cr (cr (cr c17))))))))))))))))))) (act 64 [(0, x0), (1, x1), (6, x6), (7, x7), (8, x8), (43, x43)]) h K) := (k_cond (by kernel_rfl)).trans (by kernel_rfl)
theorem r17_13 {β : Type} {inv : Inv} {k : Nat} {x0 x1 x6 x7 x8 x43 : Value} {h : AH} {K : XE → Act → AH → Option β} : kCode env 17 false inv k (cl (cl (cr (cl (cl (cr (cl (cl (cr (cl (cl (cr (cl (cl (cr (cl (cr (cr (cr (cr c17)))))))))))))))))))) (act 64 [(0, x0), (1, x1), (6, x6), (7, x7), (8, x8), (43, x43)]) h K =
    bnd (pBin Try.prog Go.BinOp.mul 3 (Go.Operand.tmp 44) (Go.Operand.tmp 45) x7 x1) fun x46 =>
    bnd (pBin Try.prog Go.BinOp.add 3 (Go.Operand.tmp 46) (Go.Operand.tmp 47) x46 x8) fun x48 =>
    K .normal (act 64 [(0, x0), (1, x1), (6, x6), (7, x7), (8, x8), (9, x48)]) h := (k_reg (by kernel_rfl)).trans (by kernel_rfl)
theorem r17_14 {β : Type} {inv : Inv} {k : Nat} {x0 x1 x6 x7 x8 x9 : Value} {h : AH} {K : XE → Act → AH → Option β} : kCode env 17 false inv k (cr (cl (cr (cl (cl (cr (cl (cl (cr (cl (cl (cr (cl (cl (cr (cl (cr (cr (cr (cr c17)))))))))))))))))))) (act 64 [(0, x0), (1, x1), (6, x6), (7, x7), (8, x8), (9, x9)]) h K =
    bnd (pBin Try.prog Go.BinOp.quo 3 (Go.Operand.tmp 50) (Go.Operand.const (Go.Value.int Go.IntKind.i64 8)) x9 (Go.Value.int Go.IntKind.i64 8)) fun x51 =>
    bnd (pBin Try.prog Go.BinOp.quo 3 (Go.Operand.tmp 53) (Go.Operand.const (Go.Value.int Go.IntKind.i64 8)) x9 (Go.Value.int Go.IntKind.i64 8)) fun x54 =>
    bnd (pIndexAddr Try.prog 25 x6 x54) fun x55 =>
    bnd (pLoad Try.prog 5 x55 h) fun x56 =>
    bnd (pBin Try.prog Go.BinOp.rem 3 (Go.Operand.tmp 57) (Go.Operand.const (Go.Value.int Go.IntKind.i64 8)) x9 (Go.Value.int Go.IntKind.i64 8)) fun x58 =>
    bnd (pConv Try.prog 3 46 x58 h) fun x59 =>
    bnd (pBin Try.prog Go.BinOp.shl 5 (Go.Operand.const (Go.Value.int Go.IntKind.u8 1)) (Go.Operand.tmp 59) (Go.Value.int Go.IntKind.u8 1) x59) fun x60 =>
    bnd (pBin Try.prog Go.BinOp.or 5 (Go.Operand.tmp 56) (Go.Operand.tmp 60) x56 x60) fun x61 =>
    bnd (pIndexAddr Try.prog 25 x6 x51) fun x62 =>
    bnd (kSt (pStore Try.prog 5 x62 x61 h)) fun u =>
    K .normal (act 64 [(0, x0), (1, x1), (6, x6), (7, x7), (8, x8)]) u.2 := (k_reg (by kernel_rfl)).trans (by kernel_rfl)
noncomputable def F17_lrllrllrllrlrrrr {β : Type} (inv : Inv) (k : Nat) (x0 x1 x6 x7 x8 x32 : Value) (h : AH) (kn : (Value → Value → Value → Value → Value → Value → AH → Option β)) : Option β :=
    bnd (pIndexAddr Try.prog 22 x0 x7) fun x37 =>
    bnd (pLoad Try.prog 30 x37 h) fun x38 =>
    bnd (pConv Try.prog 3 46 x8 h) fun x40 =>
    bnd (pBin Try.prog Go.BinOp.shr 30 (Go.Operand.tmp 38) (Go.Operand.tmp 40) x38 x40) fun x41 =>
    bnd (pBin Try.prog Go.BinOp.rem 30 (Go.Operand.tmp 41) (Go.Operand.const (Go.Value.int Go.IntKind.u64 2)) x41 (Go.Value.int Go.IntKind.u64 2)) fun x42 =>
    bnd (pBin Try.prog Go.BinOp.eql 30 (Go.Operand.tmp 42) (Go.Operand.const (Go.Value.int Go.IntKind.u64 1)) x42 (Go.Value.int Go.IntKind.u64 1)) fun x43 =>
    brV x43
    (bnd (pBin Try.prog Go.BinOp.mul 3 (Go.Operand.tmp 44) (Go.Operand.tmp 45) x7 x1) fun x46 =>
    bnd (pBin Try.prog Go.BinOp.add 3 (Go.Operand.tmp 46) (Go.Operand.tmp 47) x46 x8) fun x48 =>
    bnd (pBin Try.prog Go.BinOp.quo 3 (Go.Operand.tmp 50) (Go.Operand.const (Go.Value.int Go.IntKind.i64 8)) x48 (Go.Value.int Go.IntKind.i64 8)) fun x51 =>
    bnd (pBin Try.prog Go.BinOp.quo 3 (Go.Operand.tmp 53) (Go.Operand.const (Go.Value.int Go.IntKind.i64 8)) x48 (Go.Value.int Go.IntKind.i64 8)) fun x54 =>
    bnd (pIndexAddr Try.prog 25 x6 x54) fun x55 =>
    bnd (pLoad Try.prog 5 x55 h) fun x56 =>
    bnd (pBin Try.prog Go.BinOp.rem 3 (Go.Operand.tmp 57) (Go.Operand.const (Go.Value.int Go.IntKind.i64 8)) x48 (Go.Value.int Go.IntKind.i64 8)) fun x58 =>
    bnd (pConv Try.prog 3 46 x58 h) fun x59 =>
    bnd (pBin Try.prog Go.BinOp.shl 5 (Go.Operand.const (Go.Value.int Go.IntKind.u8 1)) (Go.Operand.tmp 59) (Go.Value.int Go.IntKind.u8 1) x59) fun x60 =>
    bnd (pBin Try.prog Go.BinOp.or 5 (Go.Operand.tmp 56) (Go.Operand.tmp 60) x56 x60) fun x61 =>
    bnd (pIndexAddr Try.prog 25 x6 x51) fun x62 =>
    bnd (kSt (pStore Try.prog 5 x62 x61 h)) fun u =>
    kn x0 x1 x6 x7 x8 unk u.2)
    (kn x0 x1 x6 x7 x8 x43 h)
theorem F17_lrllrllrllrlrrrr_eq {β : Type} {inv : Inv} {k : Nat} {x0 x1 x6 x7 x8 x32 : Value} {h : AH} {K : XE → Act → AH → Option β} : kCode env 17 false inv k (cl (cr (cl (cl (cr (cl (cl (cr (cl (cl (cr (cl (cr (cr (cr (cr c17)))))))))))))))) (act 64 [(0, x0), (1, x1), (6, x6), (7, x7), (8, x8), (32, x32)]) h K = F17_lrllrllrllrlrrrr inv k x0 x1 x6 x7 x8 x32 h (fun y0 y1 y6 y7 y8 y43 h => K .normal (act 64 [(0, y0), (1, y1), (6, y6), (7, y7), (8, y8), (43, y43)]) h) := by
      unfold F17_lrllrllrllrlrrrr
      simp only [k_block (E := env) (f := 17) (c := (cl (cr (cl (cl (cr (cl (cl (cr (cl (cl (cr (cl (cr (cr (cr (cr c17))))))))))))))))) (id := 3) (by kernel_rfl), k_seq (E := env) (f := 17) (c := (cl (cl (cr (cl (cl (cr (cl (cl (cr (cl (cl (cr (cl (cr (cr (cr (cr c17)))))))))))))))))) (by kernel_rfl), r17_12, b17_rllrllrllrllrlrrrr, k_seq (E := env) (f := 17) (c := (cl (cr (cl (cl (cr (cl (cl (cr (cl (cl (cr (cl (cl (cr (cl (cr (cr (cr (cr c17)))))))))))))))))))) (by kernel_rfl), r17_13, r17_14, k_skip (E := env) (f := 17) (c := (cr (cr (cl (cl (cr (cl (cl (cr (cl (cl (cr (cl (cl (cr (cl (cr (cr (cr (cr c17)))))))))))))))))))) (by kernel_rfl), reduceIte, reduceCtorEq, XE.exit.injEq, Nat.reduceEqDiff] <;> kernel_rfl
theorem r17_11 {β : Type} {inv : Inv} {k : Nat} {x0 x1 x6 x7 x8 x43 : Value} {h : AH} {K : XE → Act → AH → Option β} : kCode env 17 false inv k (cr (cr (cl (cl (cr (cl (cl (cr (cl (cl (cr (cl (cr (cr (cr (cr c17)))))))))))))))) (act 64 [(0, x0), (1, x1), (6, x6), (7, x7), (8, x8), (43, x43)]) h K =
    bnd (pBin Try.prog Go.BinOp.add 3 (Go.Operand.tmp 33) (Go.Operand.const (Go.Value.int Go.IntKind.i64 1)) x8 (Go.Value.int Go.IntKind.i64 1)) fun x34 =>
    K .normal (act 64 [(0, x0), (1, x1), (6, x6), (7, x7), (8, x34)]) h := (k_reg (by kernel_rfl)).trans (by kernel_rfl)
noncomputable def F17_lrllrllrlrrrr {β : Type} (inv : Inv) (k : Nat) : Nat → Value → Value → Value → Value → Value → AH → (Value → Value → Value → Value → Value → Value → AH → Option β) → Option β
  | 0, _, _, _, _, _, _, _ => none
  | j + 1, x0, x1, x6, x7, x8, h, ke2 =>
    bnd (pBin Try.prog Go.BinOp.lss 3 (Go.Operand.tmp 30) (Go.Operand.tmp 31) x8 x1) fun x32 =>
    brV x32
    (F17_lrllrllrllrlrrrr inv k x0 x1 x6 x7 x8 x32 h
    (fun y0 y1 y6 y7 y8 y43 h =>
    bnd (pBin Try.prog Go.BinOp.add 3 (Go.Operand.tmp 33) (Go.Operand.const (Go.Value.int Go.IntKind.i64 1)) y8 (Go.Value.int Go.IntKind.i64 1)) fun x34 =>
    F17_lrllrllrlrrrr inv k j y0 y1 y6 y7 x34 h ke2))
    (ke2 x0 x1 x6 x7 x8 x32 h)
theorem F17_lrllrllrlrrrr_j {β : Type} {inv : Inv} {k : Nat} (j : Nat) {x0 x1 x6 x7 x8 : Value} {h : AH} {K : XE → Act → AH → Option β} : kLoop (kCode env 17 false inv k (cl (cl (cr (cl (cl (cr (cl (cl (cr (cl (cr (cr (cr (cr c17))))))))))))))) j (act 64 [(0, x0), (1, x1), (6, x6), (7, x7), (8, x8)]) h K = F17_lrllrllrlrrrr inv k j x0 x1 x6 x7 x8 h (fun y0 y1 y6 y7 y8 y32 h => K (.exit 2) (act 64 [(0, y0), (1, y1), (6, y6), (7, y7), (8, y8), (32, y32)]) h) := by
      induction j generalizing x0 x1 x6 x7 x8 h with
      | zero => rfl
      | succ j ih =>
        unfold F17_lrllrllrlrrrr
        simp only [kLoop, k_seq (E := env) (f := 17) (c := (cl (cl (cr (cl (cl (cr (cl (cl (cr (cl (cr (cr (cr (cr c17))))))))))))))) (by kernel_rfl), k_seq (E := env) (f := 17) (c := (cl (cl (cl (cr (cl (cl (cr (cl (cl (cr (cl (cr (cr (cr (cr c17)))))))))))))))) (by kernel_rfl), r17_10, b17_rlllrllrllrlrrrr, k_skip (E := env) (f := 17) (c := (cl (cr (cl (cl (cl (cr (cl (cl (cr (cl (cl (cr (cl (cr (cr (cr (cr c17)))))))))))))))))) (by kernel_rfl), k_seq (E := env) (f := 17) (c := (cr (cl (cl (cr (cl (cl (cr (cl (cl (cr (cl (cr (cr (cr (cr c17)))))))))))))))) (by kernel_rfl), F17_lrllrllrllrlrrrr_eq, r17_11, k_exit (E := env) (f := 17) (c := (cr (cr (cl (cl (cl (cr (cl (cl (cr (cl (cl (cr (cl (cr (cr (cr (cr c17)))))))))))))))))) (id := 2) (by kernel_rfl), ih, reduceIte, reduceCtorEq, XE.exit.injEq, Nat.reduceEqDiff] <;> kernel_rfl
theorem F17_lrllrllrlrrrr_eq {β : Type} {inv : Inv} {k : Nat} {x0 x1 x6 x7 x8 : Value} {h : AH} {K : XE → Act → AH → Option β} : kCode env 17 false inv k (cl (cr (cl (cl (cr (cl (cl (cr (cl (cr (cr (cr (cr c17))))))))))))) (act 64 [(0, x0), (1, x1), (6, x6), (7, x7), (8, x8)]) h K = F17_lrllrllrlrrrr inv k k x0 x1 x6 x7 x8 h (fun y0 y1 y6 y7 y8 y32 h => K (.exit 2) (act 64 [(0, y0), (1, y1), (6, y6), (7, y7), (8, y8), (32, y32)]) h) := (k_loop (by kernel_rfl)).trans (F17_lrllrllrlrrrr_j k)
theorem r17_8 {β : Type} {inv : Inv} {k : Nat} {x0 x1 x6 x7 x8 x32 : Value} {h : AH} {K : XE → Act → AH → Option β} : kCode env 17 false inv k (cr (cr (cl (cl (cr (cl (cr (cr (cr (cr c17)))))))))) (act 64 [(0, x0), (1, x1), (6, x6), (7, x7), (8, x8), (32, x32)]) h K =
    bnd (pBin Try.prog Go.BinOp.add 3 (Go.Operand.tmp 28) (Go.Operand.const (Go.Value.int Go.IntKind.i64 1)) x7 (Go.Value.int Go.IntKind.i64 1)) fun x29 =>
    K .normal (act 64 [(0, x0), (1, x1), (6, x6), (7, x29)]) h := (k_reg (by kernel_rfl)).trans (by kernel_rfl)
noncomputable def F17_lrlrrrr {β : Type} (inv : Inv) (k : Nat) : Nat → Value → Value → Value → Value → AH → (Value → Value → Value → Value → Value → AH → Option β) → Option β
  | 0, _, _, _, _, _, _ => none
  | j + 1, x0, x1, x6, x7, h, ke0 =>
    bnd (pLen Try.prog #[22] x0 h) fun x26 =>
    bnd (pBin Try.prog Go.BinOp.lss 3 (Go.Operand.tmp 24) (Go.Operand.tmp 26) x7 x26) fun x27 =>
    brV x27
    (F17_lrllrllrlrrrr inv k k x0 x1 x6 x7 (Go.Value.int Go.IntKind.i64 0) h
    (fun y0 y1 y6 y7 y8 y32 h =>
    bnd (pBin Try.prog Go.BinOp.add 3 (Go.Operand.tmp 28) (Go.Operand.const (Go.Value.int Go.IntKind.i64 1)) y7 (Go.Value.int Go.IntKind.i64 1)) fun x29 =>
    F17_lrlrrrr inv k j y0 y1 y6 x29 h ke0))
    (ke0 x0 x1 x6 x7 x27 h)
theorem F17_lrlrrrr_j {β : Type} {inv : Inv} {k : Nat} (j : Nat) {x0 x1 x6 x7 : Value} {h : AH} {K : XE → Act → AH → Option β} : kLoop (kCode env 17 false inv k (cl (cl (cr (cl (cr (cr (cr (cr c17))))))))) j (act 64 [(0, x0), (1, x1), (6, x6), (7, x7)]) h K = F17_lrlrrrr inv k j x0 x1 x6 x7 h (fun y0 y1 y6 y7 y27 h => K (.exit 0) (act 64 [(0, y0), (1, y1), (6, y6), (7, y7), (27, y27)]) h) := by
      induction j generalizing x0 x1 x6 x7 h with
      | zero => rfl
      | succ j ih =>
        unfold F17_lrlrrrr
        simp only [kLoop, k_seq (E := env) (f := 17) (c := (cl (cl (cr (cl (cr (cr (cr (cr c17))))))))) (by kernel_rfl), k_seq (E := env) (f := 17) (c := (cl (cl (cl (cr (cl (cr (cr (cr (cr c17)))))))))) (by kernel_rfl), r17_7, b17_rlllrlrrrr, k_skip (E := env) (f := 17) (c := (cl (cr (cl (cl (cl (cr (cl (cr (cr (cr (cr c17)))))))))))) (by kernel_rfl), k_seq (E := env) (f := 17) (c := (cr (cl (cl (cr (cl (cr (cr (cr (cr c17)))))))))) (by kernel_rfl), k_block (E := env) (f := 17) (c := (cl (cr (cl (cl (cr (cl (cr (cr (cr (cr c17))))))))))) (id := 1) (by kernel_rfl), k_seq (E := env) (f := 17) (c := (cl (cl (cr (cl (cl (cr (cl (cr (cr (cr (cr c17)))))))))))) (by kernel_rfl), r17_9, k_block (E := env) (f := 17) (c := (cr (cl (cl (cr (cl (cl (cr (cl (cr (cr (cr (cr c17))))))))))))) (id := 2) (by kernel_rfl), F17_lrllrllrlrrrr_eq, r17_8, k_exit (E := env) (f := 17) (c := (cr (cr (cl (cl (cl (cr (cl (cr (cr (cr (cr c17)))))))))))) (id := 0) (by kernel_rfl), ih, reduceIte, reduceCtorEq, XE.exit.injEq, Nat.reduceEqDiff] <;> kernel_rfl
theorem F17_lrlrrrr_eq {β : Type} {inv : Inv} {k : Nat} {x0 x1 x6 x7 : Value} {h : AH} {K : XE → Act → AH → Option β} : kCode env 17 false inv k (cl (cr (cl (cr (cr (cr (cr c17))))))) (act 64 [(0, x0), (1, x1), (6, x6), (7, x7)]) h K = F17_lrlrrrr inv k k x0 x1 x6 x7 h (fun y0 y1 y6 y7 y27 h => K (.exit 0) (act 64 [(0, y0), (1, y1), (6, y6), (7, y7), (27, y27)]) h) := (k_loop (by kernel_rfl)).trans (F17_lrlrrrr_j k)
theorem r17_15 {β : Type} {inv : Inv} {k : Nat} {x0 x1 x6 x7 x27 : Value} {h : AH} {K : XE → Act → AH → Option β} : kCode env 17 false inv k (cl (cr (cr (cr (cr (cr c17)))))) (act 64 [(0, x0), (1, x1), (6, x6), (7, x7), (27, x27)]) h K =
    K .normal (act 64 [(4, x6), (5, (Go.Value.int Go.IntKind.i64 0))]) h := (k_reg (by kernel_rfl)).trans (by kernel_rfl)
/-- shadowbook/shadowbookref05.Put -/
noncomputable def F17 (inv : Inv) (k : Nat) (x0 x1 : Value) (h : AH) : Option (Value × AH) :=
    bnd (pLen Try.prog #[22] x0 h) fun x11 =>
    bnd (inv (.func 27) #[] #[x11, x1] h) fun x13 =>
    bnd (pUn Try.prog Go.UnOp.not x13.1) fun x14 =>
    brV x14
    (some (.tuple #[(Go.Value.slice none 0 0), (Go.Value.int Go.IntKind.i64 2)], x13.2))
    (bnd (inv (.func 20) #[] #[x0] x13.2) fun x16 =>
    bnd (pBin Try.prog Go.BinOp.gtr 3 (Go.Operand.tmp 16) (Go.Operand.tmp 17) x16.1 x1) fun x18 =>
    brV x18
    (some (.tuple #[(Go.Value.slice none 0 0), (Go.Value.int Go.IntKind.i64 3)], x16.2))
    (bnd (pLen Try.prog #[22] x0 x16.2) fun x20 =>
    bnd (inv (.func 21) #[] #[x20, x1] x16.2) fun x22 =>
    bnd (pMakeSlice Try.prog 25 x22.1 x22.1 x22.2) fun x23 =>
    F17_lrlrrrr inv k k x0 x1 x23.1 (Go.Value.int Go.IntKind.i64 0) x23.2
    (fun y0 y1 y6 y7 y27 h =>
    some (.tuple #[y6, (Go.Value.int Go.IntKind.i64 0)], h))))
theorem F17_eq {inv : Inv} {k : Nat} {x0 x1 : Value} {h : AH} : eFun env k inv 17 #[x0, x1] h = F17 inv k x0 x1 h := by
      refine (eFun_k2 (by kernel_rfl) (by kernel_rfl) (by kernel_rfl) (a := act 64 [(0, x0), (1, x1)]) (c := c17) (by kernel_rfl) (by kernel_rfl)).trans ?_
      unfold F17
      simp only [k_seq (E := env) (f := 17) (c := c17) (by kernel_rfl), r17_0, k_seq (E := env) (f := 17) (c := (cr c17)) (by kernel_rfl), k_seq (E := env) (f := 17) (c := (cl (cr c17))) (by kernel_rfl), r17_1, b17_rlr, k_seq (E := env) (f := 17) (c := (cl (cr (cl (cr c17))))) (by kernel_rfl), r17_2, k_ret (E := env) (f := 17) (c := (cr (cl (cr (cl (cr c17)))))) (by kernel_rfl), res17_0, k_skip (E := env) (f := 17) (c := (cr (cr (cl (cr c17))))) (by kernel_rfl), k_seq (E := env) (f := 17) (c := (cr (cr c17))) (by kernel_rfl), k_seq (E := env) (f := 17) (c := (cl (cr (cr c17)))) (by kernel_rfl), r17_3, b17_rlrr, k_seq (E := env) (f := 17) (c := (cl (cr (cl (cr (cr c17)))))) (by kernel_rfl), r17_4, k_ret (E := env) (f := 17) (c := (cr (cl (cr (cl (cr (cr c17))))))) (by kernel_rfl), k_skip (E := env) (f := 17) (c := (cr (cr (cl (cr (cr c17)))))) (by kernel_rfl), k_seq (E := env) (f := 17) (c := (cr (cr (cr c17)))) (by kernel_rfl), r17_5, k_seq (E := env) (f := 17) (c := (cr (cr (cr (cr c17))))) (by kernel_rfl), k_seq (E := env) (f := 17) (c := (cl (cr (cr (cr (cr c17)))))) (by kernel_rfl), r17_6, k_block (E := env) (f := 17) (c := (cr (cl (cr (cr (cr (cr c17))))))) (id := 0) (by kernel_rfl), F17_lrlrrrr_eq, k_seq (E := env) (f := 17) (c := (cr (cr (cr (cr (cr c17)))))) (by kernel_rfl), r17_15, k_ret (E := env) (f := 17) (c := (cr (cr (cr (cr (cr (cr c17))))))) (by kernel_rfl), reduceIte, reduceCtorEq, XE.exit.injEq, Nat.reduceEqDiff] <;> kernel_rfl
theorem F17_call {k : Nat} {x0 x1 : Value} {h : AH} : eInv env (k + 1) (.func 17) #[] #[x0, x1] h = F17 (eInv env k) k x0 x1 h := (inv_func (by kernel_rfl)).trans F17_eq
noncomputable def c18 : Code := codeOf Try.prog 18
theorem r18_0 {β : Type} {inv : Inv} {k : Nat} {x0 x1 x2 : Value} {h : AH} {K : XE → Act → AH → Option β} : kCode env 18 false inv k (cl c18) (act 81 [(0, x0), (1, x1), (2, x2)]) h K =
    K .normal (act 81 [(0, x0), (1, x1), (2, x2)]) h := (k_reg (by kernel_rfl)).trans (by kernel_rfl)
theorem r18_1 {β : Type} {inv : Inv} {k : Nat} {x0 x1 x2 : Value} {h : AH} {K : XE → Act → AH → Option β} : kCode env 18 false inv k (cl (cl (cr c18))) (act 81 [(0, x0), (1, x1), (2, x2)]) h K =
    bnd (inv (.func 27) #[] #[x1, x2] h) fun x16 =>
    bnd (pUn Try.prog Go.UnOp.not x16.1) fun x17 =>
    K .normal (act 81 [(0, x0), (1, x1), (2, x2), (17, x17)]) x16.2 := (k_reg (by kernel_rfl)).trans (by kernel_rfl)
theorem b18_rlr {β : Type} {inv : Inv} {k : Nat} {x0 x1 x2 x17 : Value} {h : AH} {K : XE → Act → AH → Option β} : kCode env 18 false inv k (cr (cl (cr c18))) (act 81 [(0, x0), (1, x1), (2, x2), (17, x17)]) h K = brV x17 (kCode env 18 false inv k (cl (cr (cl (cr c18)))) (act 81 [(0, x0), (1, x1), (2, x2), (17, x17)]) h K) (kCode env 18 false inv k (cr (cr (cl (cr c18)))) (act 81 [(0, x0), (1, x1), (2, x2), (17, x17)]) h K) := (k_cond (by kernel_rfl)).trans (by kernel_rfl)
theorem r18_2 {β : Type} {inv : Inv} {k : Nat} {x0 x1 x2 x17 : Value} {h : AH} {K : XE → Act → AH → Option β} : kCode env 18 false inv k (cl (cl (cr (cl (cr c18))))) (act 81 [(0, x0), (1, x1), (2, x2), (17, x17)]) h K =
    K .normal (act 81 [(6, (Go.Value.slice none 0 0)), (7, (Go.Value.int Go.IntKind.i64 2))]) h := (k_reg (by kernel_rfl)).trans (by kernel_rfl)
theorem res18_0 {x6 x7 : Value} {h : AH} : resOfFn env.P 18 .ret (act 81 [(6, x6), (7, x7)]) h = some (.tuple #[x6, x7], h) := (resOfFn_k (by kernel_rfl) (by kernel_rfl)).trans (by kernel_rfl)
theorem r18_3 {β : Type} {inv : Inv} {k : Nat} {x0 x1 x2 x17 : Value} {h : AH} {K : XE → Act → AH → Option β} : kCode env 18 false inv k (cl (cl (cr (cr c18)))) (act 81 [(0, x0), (1, x1), (2, x2), (17, x17)]) h K =
    bnd (pLen Try.prog #[25] x0 h) fun x19 =>
    bnd (inv (.func 21) #[] #[x1, x2] h) fun x22 =>
    bnd (pBin Try.prog Go.BinOp.neq 3 (Go.Operand.tmp 19) (Go.Operand.tmp 22) x19 x22.1) fun x23 =>
    K .normal (act 81 [(0, x0), (1, x1), (2, x2), (23, x23)]) x22.2 := (k_reg (by kernel_rfl)).trans (by kernel_rfl)
theorem b18_rlrr {β : Type} {inv : Inv} {k : Nat} {x0 x1 x2 x23 : Value} {h : AH} {K : XE → Act → AH → Option β} : kCode env 18 false inv k (cr (cl (cr (cr c18)))) (act 81 [(0, x0), (1, x1), (2, x2), (23, x23)]) h K = brV x23 (kCode env 18 false inv k (cl (cr (cl (cr (cr c18))))) (act 81 [(0, x0), (1, x1), (2, x2), (23, x23)]) h K) (kCode env 18 false inv k (cr (cr (cl (cr (cr c18))))) (act 81 [(0, x0), (1, x1), (2, x2), (23, x23)]) h K) := (k_cond (by kernel_rfl)).trans (by kernel_rfl)
theorem r18_4 {β : Type} {inv : Inv} {k : Nat} {x0 x1 x2 x23 : Value} {h : AH} {K : XE → Act → AH → Option β} : kCode env 18 false inv k (cl (cl (cr (cl (cr (cr c18)))))) (act 81 [(0, x0), (1, x1), (2, x2), (23, x23)]) h K =
    K .normal (act 81 [(6, (Go.Value.slice none 0 0)), (7, (Go.Value.int Go.IntKind.i64 4))]) h := (k_reg (by kernel_rfl)).trans (by kernel_rfl)
theorem r18_5 {β : Type} {inv : Inv} {k : Nat} {x0 x1 x2 x23 : Value} {h : AH} {K : XE → Act → AH → Option β} : kCode env 18 false inv k (cl (cl (cr (cr (cr c18))))) (act 81 [(0, x0), (1, x1), (2, x2), (23, x23)]) h K =
    bnd (pBin Try.prog Go.BinOp.mul 3 (Go.Operand.tmp 24) (Go.Operand.tmp 25) x1 x2) fun x26 =>
    K .normal (act 81 [(0, x0), (1, x1), (2, x2), (8, x26)]) h := (k_reg (by kernel_rfl)).trans (by kernel_rfl)
theorem r18_6 {β : Type} {inv : Inv} {k : Nat} {x0 x1 x2 x8 : Value} {h : AH} {K : XE → Act → AH → Option β} : kCode env 18 false inv k (cl (cl (cl (cl (cr (cl (cr (cr (cr c18))))))))) (act 81 [(0, x0), (1, x1), (2, x2), (8, x8)]) h K =
    bnd (pLen Try.prog #[25] x0 h) fun x29 =>
    bnd (pBin Try.prog Go.BinOp.mul 3 (Go.Operand.const (Go.Value.int Go.IntKind.i64 8)) (Go.Operand.tmp 29) (Go.Value.int Go.IntKind.i64 8) x29) fun x30 =>
    bnd (pBin Try.prog Go.BinOp.lss 3 (Go.Operand.tmp 27) (Go.Operand.tmp 30) x8 x30) fun x31 =>
    K .normal (act 81 [(0, x0), (1, x1), (2, x2), (8, x8), (31, x31)]) h := (k_reg (by kernel_rfl)).trans (by kernel_rfl)
theorem b18_rlllrlrrr {β : Type} {inv : Inv} {k : Nat} {x0 x1 x2 x8 x31 : Value} {h : AH} {K : XE → Act → AH → Option β} : kCode env 18 false inv k (cr (cl (cl (cl (cr (cl (cr (cr (cr c18))))))))) (act 81 [(0, x0), (1, x1), (2, x2), (8, x8), (31, x31)]) h K = brV x31 (kCode env 18 false inv k (cl (cr (cl (cl (cl (cr (cl (cr (cr (cr c18)))))))))) (act 81 [(0, x0), (1, x1), (2, x2), (8, x8), (31, x31)]) h K) (kCode env 18 false inv k (cr (cr (cl (cl (cl (cr (cl (cr (cr (cr c18)))))))))) (act 81 [(0, x0), (1, x1), (2, x2), (8, x8), (31, x31)]) h K) := (k_cond (by kernel_rfl)).trans (by kernel_rfl)
theorem r18_8 {β : Type} {inv : Inv} {k : Nat} {x0 x1 x2 x8 x31 : Value} {h : AH} {K : XE → Act → AH → Option β} : kCode env 18 false inv k (cl (cl (cl (cr (cl (cl (cr (cl (cr (cr (cr c18))))))))))) (act 81 [(0, x0), (1, x1), (2, x2), (8, x8), (31, x31)]) h K =
    bnd (pBin Try.prog Go.BinOp.quo 3 (Go.Operand.tmp 35) (Go.Operand.const (Go.Value.int Go.IntKind.i64 8)) x8 (Go.Value.int Go.IntKind.i64 8)) fun x36 =>
    bnd (pIndexAddr Try.prog 25 x0 x36) fun x37 =>
    bnd (pLoad Try.prog 5 x37 h) fun x38 =>
    bnd (pBin Try.prog Go.BinOp.rem 3 (Go.Operand.tmp 39) (Go.Operand.const (Go.Value.int Go.IntKind.i64 8)) x8 (Go.Value.int Go.IntKind.i64 8)) fun x40 =>
    bnd (pConv Try.prog 3 46 x40 h) fun x41 =>
    bnd (pBin Try.prog Go.BinOp.shr 5 (Go.Operand.tmp 38) (Go.Operand.tmp 41) x38 x41) fun x42 =>
    bnd (pBin Try.prog Go.BinOp.rem 5 (Go.Operand.tmp 42) (Go.Operand.const (Go.Value.int Go.IntKind.u8 2)) x42 (Go.Value.int Go.IntKind.u8 2)) fun x43 =>
    bnd (pBin Try.prog Go.BinOp.eql 5 (Go.Operand.tmp 43) (Go.Operand.const (Go.Value.int Go.IntKind.u8 1)) x43 (Go.Value.int Go.IntKind.u8 1)) fun x44 =>
    K .normal (act 81 [(0, x0), (1, x1), (2, x2), (8, x8), (44, x44)]) h := (k_reg (by kernel_rfl)).trans (by kernel_rfl)
theorem b18_rllrllrlrrr {β : Type} {inv : Inv} {k : Nat} {x0 x1 x2 x8 x44 : Value} {h : AH} {K : XE → Act → AH → Option β} : kCode env 18 false inv k (cr (cl (cl (cr (cl (cl (cr (cl (cr (cr (cr c18))))))))))) (act 81 [(0, x0), (1, x1), (2, x2), (8, x8), (44, x44)]) h K = brV x44 (kCode env 18 false inv k (cl (cr (cl (cl (cr (cl (cl (cr (cl (cr (cr (cr c18)))))))))))) (act 81 [(0, x0), (1, x1), (2, x2), (8, x8), (44, x44)]) h K) (kCode env 18 false inv k (cr (cr (cl (cl (cr (cl (cl (cr (cl (cr (cr (cr c18)))))))))))) (act 81 [(0, x0), (1, x1), (2, x2), (8, x8), (44, x44)]) h K) := (k_cond (by kernel_rfl)).trans (by kernel_rfl)
theorem r18_9 {β : Type} {inv : Inv} {k : Nat} {x0 x1 x2 x8 x44 : Value} {h : AH} {K : XE → Act → AH → Option β} : kCode env 18 false inv k (cl (cl (cr (cl (cl (cr (cl (cl (cr (cl (cr (cr (cr c18))))))))))))) (act 81 [(0, x0), (1, x1), (2, x2), (8, x8), (44, x44)]) h K =
    K .normal (act 81 [(6, (Go.Value.slice none 0 0)), (7, (Go.Value.int Go.IntKind.i64 4))]) h := (k_reg (by kernel_rfl)).trans (by kernel_rfl)
theorem r18_7 {β : Type} {inv : Inv} {k : Nat} {x0 x1 x2 x8 x44 : Value} {h : AH} {K : XE → Act → AH → Option β} : kCode env 18 false inv k (cr (cr (cl (cl (cr (cl (cr (cr (cr c18))))))))) (act 81 [(0, x0), (1, x1), (2, x2), (8, x8), (44, x44)]) h K =
    bnd (pBin Try.prog Go.BinOp.add 3 (Go.Operand.tmp 32) (Go.Operand.const (Go.Value.int Go.IntKind.i64 1)) x8 (Go.Value.int Go.IntKind.i64 1)) fun x33 =>
    K .normal (act 81 [(0, x0), (1, x1), (2, x2), (8, x33)]) h := (k_reg (by kernel_rfl)).trans (by kernel_rfl)
noncomputable def F18_lrlrrr {β : Type} (inv : Inv) (k : Nat) : Nat → Value → Value → Value → Value → AH → (Value → Value → Value → Value → Value → AH → Option β) → (Value → Value → AH → Option β) → Option β
  | 0, _, _, _, _, _, _, _ => none
  | j + 1, x0, x1, x2, x8, h, ke0, kr =>
    bnd (pLen Try.prog #[25] x0 h) fun x29 =>
    bnd (pBin Try.prog Go.BinOp.mul 3 (Go.Operand.const (Go.Value.int Go.IntKind.i64 8)) (Go.Operand.tmp 29) (Go.Value.int Go.IntKind.i64 8) x29) fun x30 =>
    bnd (pBin Try.prog Go.BinOp.lss 3 (Go.Operand.tmp 27) (Go.Operand.tmp 30) x8 x30) fun x31 =>
    brV x31
    (bnd (pBin Try.prog Go.BinOp.quo 3 (Go.Operand.tmp 35) (Go.Operand.const (Go.Value.int Go.IntKind.i64 8)) x8 (Go.Value.int Go.IntKind.i64 8)) fun x36 =>
    bnd (pIndexAddr Try.prog 25 x0 x36) fun x37 =>
    bnd (pLoad Try.prog 5 x37 h) fun x38 =>
    bnd (pBin Try.prog Go.BinOp.rem 3 (Go.Operand.tmp 39) (Go.Operand.const (Go.Value.int Go.IntKind.i64 8)) x8 (Go.Value.int Go.IntKind.i64 8)) fun x40 =>
    bnd (pConv Try.prog 3 46 x40 h) fun x41 =>
    bnd (pBin Try.prog Go.BinOp.shr 5 (Go.Operand.tmp 38) (Go.Operand.tmp 41) x38 x41) fun x42 =>
    bnd (pBin Try.prog Go.BinOp.rem 5 (Go.Operand.tmp 42) (Go.Operand.const (Go.Value.int Go.IntKind.u8 2)) x42 (Go.Value.int Go.IntKind.u8 2)) fun x43 =>
    bnd (pBin Try.prog Go.BinOp.eql 5 (Go.Operand.tmp 43) (Go.Operand.const (Go.Value.int Go.IntKind.u8 1)) x43 (Go.Value.int Go.IntKind.u8 1)) fun x44 =>
    brV x44
    (kr (Go.Value.slice none 0 0) (Go.Value.int Go.IntKind.i64 4) h)
    (bnd (pBin Try.prog Go.BinOp.add 3 (Go.Operand.tmp 32) (Go.Operand.const (Go.Value.int Go.IntKind.i64 1)) x8 (Go.Value.int Go.IntKind.i64 1)) fun x33 =>
    F18_lrlrrr inv k j x0 x1 x2 x33 h ke0 kr))
    (ke0 x0 x1 x2 x8 x31 h)
theorem F18_lrlrrr_j {β : Type} {inv : Inv} {k : Nat} (j : Nat) {x0 x1 x2 x8 : Value} {h : AH} {K : XE → Act → AH → Option β} : kLoop (kCode env 18 false inv k (cl (cl (cr (cl (cr (cr (cr c18)))))))) j (act 81 [(0, x0), (1, x1), (2, x2), (8, x8)]) h K = F18_lrlrrr inv k j x0 x1 x2 x8 h (fun y0 y1 y2 y8 y31 h => K (.exit 0) (act 81 [(0, y0), (1, y1), (2, y2), (8, y8), (31, y31)]) h) (fun y6 y7 h => K .ret (act 81 [(6, y6), (7, y7)]) h) := by
      induction j generalizing x0 x1 x2 x8 h with
      | zero => rfl
      | succ j ih =>
        unfold F18_lrlrrr
        simp only [kLoop, k_seq (E := env) (f := 18) (c := (cl (cl (cr (cl (cr (cr (cr c18)))))))) (by kernel_rfl), k_seq (E := env) (f := 18) (c := (cl (cl (cl (cr (cl (cr (cr (cr c18))))))))) (by kernel_rfl), r18_6, b18_rlllrlrrr, k_skip (E := env) (f := 18) (c := (cl (cr (cl (cl (cl (cr (cl (cr (cr (cr c18))))))))))) (by kernel_rfl), k_seq (E := env) (f := 18) (c := (cr (cl (cl (cr (cl (cr (cr (cr c18))))))))) (by kernel_rfl), k_block (E := env) (f := 18) (c := (cl (cr (cl (cl (cr (cl (cr (cr (cr c18)))))))))) (id := 1) (by kernel_rfl), k_seq (E := env) (f := 18) (c := (cl (cl (cr (cl (cl (cr (cl (cr (cr (cr c18))))))))))) (by kernel_rfl), r18_8, b18_rllrllrlrrr, k_seq (E := env) (f := 18) (c := (cl (cr (cl (cl (cr (cl (cl (cr (cl (cr (cr (cr c18))))))))))))) (by kernel_rfl), r18_9, k_ret (E := env) (f := 18) (c := (cr (cl (cr (cl (cl (cr (cl (cl (cr (cl (cr (cr (cr c18)))))))))))))) (by kernel_rfl), k_skip (E := env) (f := 18) (c := (cr (cr (cl (cl (cr (cl (cl (cr (cl (cr (cr (cr c18))))))))))))) (by kernel_rfl), r18_7, k_exit (E := env) (f := 18) (c := (cr (cr (cl (cl (cl (cr (cl (cr (cr (cr c18))))))))))) (id := 0) (by kernel_rfl), ih, reduceIte, reduceCtorEq, XE.exit.injEq, Nat.reduceEqDiff] <;> kernel_rfl
theorem F18_lrlrrr_eq {β : Type} {inv : Inv} {k : Nat} {x0 x1 x2 x8 : Value} {h : AH} {K : XE → Act → AH → Option β} : kCode env 18 false inv k (cl (cr (cl (cr (cr (cr c18)))))) (act 81 [(0, x0), (1, x1), (2, x2), (8, x8)]) h K = F18_lrlrrr inv k k x0 x1 x2 x8 h (fun y0 y1 y2 y8 y31 h => K (.exit 0) (act 81 [(0, y0), (1, y1), (2, y2), (8, y8), (31, y31)]) h) (fun y6 y7 h => K .ret (act 81 [(6, y6), (7, y7)]) h) := (k_loop (by kernel_rfl)).trans (F18_lrlrrr_j k)
theorem r18_10 {β : Type} {inv : Inv} {k : Nat} {x0 x1 x2 x8 x31 : Value} {h : AH} {K : XE → Act → AH → Option β} : kCode env 18 false inv k (cl (cr (cr (cr (cr c18))))) (act 81 [(0, x0), (1, x1), (2, x2), (8, x8), (31, x31)]) h K =
    K .normal (act 81 [(0, x0), (1, x1), (2, x2), (9, (Go.Value.slice none 0 0))]) h := (k_reg (by kernel_rfl)).trans (by kernel_rfl)
theorem r18_11 {β : Type} {inv : Inv} {k : Nat} {x0 x1 x2 x9 : Value} {h : AH} {K : XE → Act → AH → Option β} : kCode env 18 false inv k (cl (cl (cr (cr (cr (cr (cr c18))))))) (act 81 [(0, x0), (1, x1), (2, x2), (9, x9)]) h K =
    K .normal (act 81 [(0, x0), (1, x1), (2, x2), (9, x9), (10, (Go.Value.int Go.IntKind.i64 0))]) h := (k_reg (by kernel_rfl)).trans (by kernel_rfl)
theorem r18_12 {β : Type} {inv : Inv} {k : Nat} {x0 x1 x2 x9 x10 : Value} {h : AH} {K : XE → Act → AH → Option β} : kCode env 18 false inv k (cl (cl (cl (cl (cr (cl (cr (cr (cr (cr (cr c18))))))))))) (act 81 [(0, x0), (1, x1), (2, x2), (9, x9), (10, x10)]) h K =
    bnd (pBin Try.prog Go.BinOp.lss 3 (Go.Operand.tmp 45) (Go.Operand.tmp 46) x10 x1) fun x47 =>
    K .normal (act 81 [(0, x0), (1, x1), (2, x2), (9, x9), (10, x10), (47, x47)]) h := (k_reg (by kernel_rfl)).trans (by kernel_rfl)
theorem b18_rlllrlrrrrr {β : Type} {inv : Inv} {k : Nat} {x0 x1 x2 x9 x10 x47 : Value} {h : AH} {K : XE → Act → AH → Option β} : kCode env 18 false inv k (cr (cl (cl (cl (cr (cl (cr (cr (cr (cr (cr c18))))))))))) (act 81 [(0, x0), (1, x1), (2, x2), (9, x9), (10, x10), (47, x47)]) h K = brV x47 (kCode env 18 false inv k (cl (cr (cl (cl (cl (cr (cl (cr (cr (cr (cr (cr c18)))))))))))) (act 81 [(0, x0), (1, x1), (2, x2), (9, x9), (10, x10), (47, x47)]) h K) (kCode env 18 false inv k (cr (cr (cl (cl (cl (cr (cl (cr (cr (cr (cr (cr c18)))))))))))) (act 81 [(0, x0), (1, x1), (2, x2), (9, x9), (10, x10), (47, x47)]) h K) := (k_cond (by kernel_rfl)).trans (by kernel_rfl)
theorem r18_14 {β : Type} {inv : Inv} {k : Nat} {x0 x1 x2 x9 x10 x47 : Value} {h : AH} {K : XE → Act → AH → Option β} : kCode env 18 false inv k (cl (cl (cl (cr (cl (cl (cr (cl (cr (cr (cr (cr (cr c18))))))))))))) (act 81 [(0, x0), (1, x1), (2, x2), (9, x9), (10, x10), (47, x47)]) h K =
    K .normal (act 81 [(0, x0), (1, x1), (2, x2), (9, x9), (10, x10), (11, (Go.Value.int Go.IntKind.u64 0))]) h := (k_reg (by kernel_rfl)).trans (by kernel_rfl)
theorem r18_15 {β : Type} {inv : Inv} {k : Nat} {x0 x1 x2 x9 x10 x11 : Value} {h : AH} {K : XE → Act → AH → Option β} : kCode env 18 false inv k (cl (cl (cr (cl (cl (cr (cl (cl (cr (cl (cr (cr (cr (cr (cr c18))))))))))))))) (act 81 [(0, x0), (1, x1), (2, x2), (9, x9), (10, x10), (11, x11)]) h K =
    K .normal (act 81 [(0, x0), (1, x1), (2, x2), (9, x9), (10, x10), (11, x11), (12, (Go.Value.int Go.IntKind.i64 0))]) h := (k_reg (by kernel_rfl)).trans (by kernel_rfl)
theorem r18_16 {β : Type} {inv : Inv} {k : Nat} {x0 x1 x2 x9 x10 x11 x12 : Value} {h : AH} {K : XE → Act → AH → Option β} : kCode env 18 false inv k (cl (cl (cl (cl (cr (cl (cr (cl (cl (cr (cl (cl (cr (cl (cr (cr (cr (cr (cr c18))))))))))))))))))) (act 81 [(0, x0), (1, x1), (2, x2), (9, x9), (10, x10), (11, x11), (12, x12)]) h K =
    bnd (pBin Try.prog Go.BinOp.lss 3 (Go.Operand.tmp 50) (Go.Operand.tmp 51) x12 x2) fun x52 =>
    K .normal (act 81 [(0, x0), (1, x1), (2, x2), (9, x9), (10, x10), (11, x11), (12, x12), (52, x52)]) h := (k_reg (by kernel_rfl)).trans (by kernel_rfl)
theorem b18_rlllrlrllrllrlrrrrr {β : Type} {inv : Inv} {k : Nat} {x0 x1 x2 x9 x10 x11 x12 x52 : Value} {h : AH} {K : XE → Act → AH → Option β} : kCode env 18 false inv k (cr (cl (cl (cl (cr (cl (cr (cl (cl (cr (cl (cl (cr (cl (cr (cr (cr (cr (cr c18))))))))))))))))))) (act 81 [(0, x0), (1, x1), (2, x2), (9, x9), (10, x10), (11, x11), (12, x12), (52, x52)]) h K = brV x52 (kCode env 18 false inv k (cl (cr (cl (cl (cl (cr (cl (cr (cl (cl (cr (cl (cl (cr (cl (cr (cr (cr (cr (cr c18)))))))))))))))))))) (act 81 [(0, x0), (1, x1), (2, x2), (9, x9), (10, x10), (11, x11), (12, x12), (52, x52)]) h K) (kCode env 18 false inv k (cr (cr (cl (cl (cl (cr (cl (cr (cl (cl (cr (cl (cl (cr (cl (cr (cr (cr (cr (cr c18)))))))))))))))))))) (act 81 [(0, x0), (1, x1), (2, x2), (9, x9), (10, x10), (11, x11), (12, x12), (52, x52)]) h K) := (k_cond (by kernel_rfl)).trans (by kernel_rfl)
theorem r18_18 {β : Type} {inv : Inv} {k : Nat} {x0 x1 x2 x9 x10 x11 x12 x52 : Value} {h : AH} {K : XE → Act → AH → Option β} : kCode env 18 false inv k (cl (cl (cl (cr (cl (cl (cr (cl (cr (cl (cl (cr (cl (cl (cr (cl (cr (cr (cr (cr (cr c18))))))))))))))))))))) (act 81 [(0, x0), (1, x1), (2, x2), (9, x9), (10, x10), (11, x11), (12, x12), (52, x52)]) h K =
    bnd (pBin Try.prog Go.BinOp.mul 3 (Go.Operand.tmp 55) (Go.Operand.tmp 56) x10 x2) fun x57 =>
    bnd (pBin Try.prog Go.BinOp.add 3 (Go.Operand.tmp 57) (Go.Operand.tmp 58) x57 x12) fun x59 =>
    K .normal (act 81 [(0, x0), (1, x1), (2, x2), (9, x9), (10, x10), (11, x11), (12, x12), (13, x59)]) h := (k_reg (by kernel_rfl)).trans (by kernel_rfl)
theorem r18_19 {β : Type} {inv : Inv} {k : Nat} {x0 x1 x2 x9 x10 x11 x12 x13 : Value} {h : AH} {K : XE → Act → AH → Option β} : kCode env 18 false inv k (cr (cl (cl (cr (cl (cl (cr (cl (cr (cl (cl (cr (cl (cl (cr (cl (cr (cr (cr (cr (cr c18))))))))))))))))))))) (act 81 [(0, x0), (1, x1), (2, x2), (9, x9), (10, x10), (11, x11), (12, x12), (13, x13)]) h K =
    bnd (pBin Try.prog Go.BinOp.quo 3 (Go.Operand.tmp 62) (Go.Operand.const (Go.Value.int Go.IntKind.i64 8)) x13 (Go.Value.int Go.IntKind.i64 8)) fun x63 =>
    bnd (pIndexAddr Try.prog 25 x0 x63) fun x64 =>
    bnd (pLoad Try.prog 5 x64 h) fun x65 =>
    bnd (pBin Try.prog Go.BinOp.rem 3 (Go.Operand.tmp 66) (Go.Operand.const (Go.Value.int Go.IntKind.i64 8)) x13 (Go.Value.int Go.IntKind.i64 8)) fun x67 =>
    bnd (pConv Try.prog 3 46 x67 h) fun x68 =>
    bnd (pBin Try.prog Go.BinOp.shr 5 (Go.Operand.tmp 65) (Go.Operand.tmp 68) x65 x68) fun x69 =>
    bnd (pBin Try.prog Go.BinOp.rem 5 (Go.Operand.tmp 69) (Go.Operand.const (Go.Value.int Go.IntKind.u8 2)) x69 (Go.Value.int Go.IntKind.u8 2)) fun x70 =>
    bnd (pConv Try.prog 5 30 x70 h) fun x71 =>
    bnd (pConv Try.prog 3 46 x12 h) fun x73 =>
    bnd (pBin Try.prog Go.BinOp.shl 30 (Go.Operand.tmp 71) (Go.Operand.tmp 73) x71 x73) fun x74 =>
    bnd (pBin Try.prog Go.BinOp.or 30 (Go.Operand.tmp 60) (Go.Operand.tmp 74) x11 x74) fun x75 =>
    K .normal (act 81 [(0, x0), (1, x1), (2, x2), (9, x9), (10, x10), (11, x75), (12, x12)]) h := (k_reg (by kernel_rfl)).trans (by kernel_rfl)
theorem r18_17 {β : Type} {inv : Inv} {k : Nat} {x0 x1 x2 x9 x10 x11 x12 : Value} {h : AH} {K : XE → Act → AH → Option β} : kCode env 18 false inv k (cr (cr (cl (cl (cr (cl (cr (cl (cl (cr (cl (cl (cr (cl (cr (cr (cr (cr (cr c18))))))))))))))))))) (act 81 [(0, x0), (1, x1), (2, x2), (9, x9), (10, x10), (11, x11), (12, x12)]) h K =
    bnd (pBin Try.prog Go.BinOp.add 3 (Go.Operand.tmp 53) (Go.Operand.const (Go.Value.int Go.IntKind.i64 1)) x12 (Go.Value.int Go.IntKind.i64 1)) fun x54 =>
    K .normal (act 81 [(0, x0), (1, x1), (2, x2), (9, x9), (10, x10), (11, x11), (12, x54)]) h := (k_reg (by kernel_rfl)).trans (by kernel_rfl)
noncomputable def F18_lrlrllrllrlrrrrr {β : Type} (inv : Inv) (k : Nat) : Nat → Value → Value → Value → Value → Value → Value → Value → AH → (Value → Value → Value → Value → Value → Value → Value → Value → AH → Option β) → Option β
  | 0, _, _, _, _, _, _, _, _, _ => none
  | j + 1, x0, x1, x2, x9, x10, x11, x12, h, ke4 =>
    bnd (pBin Try.prog Go.BinOp.lss 3 (Go.Operand.tmp 50) (Go.Operand.tmp 51) x12 x2) fun x52 =>
    brV x52
    (bnd (pBin Try.prog Go.BinOp.mul 3 (Go.Operand.tmp 55) (Go.Operand.tmp 56) x10 x2) fun x57 =>
    bnd (pBin Try.prog Go.BinOp.add 3 (Go.Operand.tmp 57) (Go.Operand.tmp 58) x57 x12) fun x59 =>
    bnd (pBin Try.prog Go.BinOp.quo 3 (Go.Operand.tmp 62) (Go.Operand.const (Go.Value.int Go.IntKind.i64 8)) x59 (Go.Value.int Go.IntKind.i64 8)) fun x63 =>
    bnd (pIndexAddr Try.prog 25 x0 x63) fun x64 =>
    bnd (pLoad Try.prog 5 x64 h) fun x65 =>
    bnd (pBin Try.prog Go.BinOp.rem 3 (Go.Operand.tmp 66) (Go.Operand.const (Go.Value.int Go.IntKind.i64 8)) x59 (Go.Value.int Go.IntKind.i64 8)) fun x67 =>
    bnd (pConv Try.prog 3 46 x67 h) fun x68 =>
    bnd (pBin Try.prog Go.BinOp.shr 5 (Go.Operand.tmp 65) (Go.Operand.tmp 68) x65 x68) fun x69 =>
    bnd (pBin Try.prog Go.BinOp.rem 5 (Go.Operand.tmp 69) (Go.Operand.const (Go.Value.int Go.IntKind.u8 2)) x69 (Go.Value.int Go.IntKind.u8 2)) fun x70 =>
    bnd (pConv Try.prog 5 30 x70 h) fun x71 =>
    bnd (pConv Try.prog 3 46 x12 h) fun x73 =>
    bnd (pBin Try.prog Go.BinOp.shl 30 (Go.Operand.tmp 71) (Go.Operand.tmp 73) x71 x73) fun x74 =>
    bnd (pBin Try.prog Go.BinOp.or 30 (Go.Operand.tmp 60) (Go.Operand.tmp 74) x11 x74) fun x75 =>
    bnd (pBin Try.prog Go.BinOp.add 3 (Go.Operand.tmp 53) (Go.Operand.const (Go.Value.int Go.IntKind.i64 1)) x12 (Go.Value.int Go.IntKind.i64 1)) fun x54 =>
    F18_lrlrllrllrlrrrrr inv k j x0 x1 x2 x9 x10 x75 x54 h ke4)
    (ke4 x0 x1 x2 x9 x10 x11 x12 x52 h)
theorem F18_lrlrllrllrlrrrrr_j {β : Type} {inv : Inv} {k : Nat} (j : Nat) {x0 x1 x2 x9 x10 x11 x12 : Value} {h : AH} {K : XE → Act → AH → Option β} : kLoop (kCode env 18 false inv k (cl (cl (cr (cl (cr (cl (cl (cr (cl (cl (cr (cl (cr (cr (cr (cr (cr c18)))))))))))))))))) j (act 81 [(0, x0), (1, x1), (2, x2), (9, x9), (10, x10), (11, x11), (12, x12)]) h K = F18_lrlrllrllrlrrrrr inv k j x0 x1 x2 x9 x10 x11 x12 h (fun y0 y1 y2 y9 y10 y11 y12 y52 h => K (.exit 4) (act 81 [(0, y0), (1, y1), (2, y2), (9, y9), (10, y10), (11, y11), (12, y12), (52, y52)]) h) := by
      induction j generalizing x0 x1 x2 x9 x10 x11 x12 h with
      | zero => rfl
      | succ j ih =>
        unfold F18_lrlrllrllrlrrrrr
        simp only [kLoop, k_seq (E := env) (f := 18) (c := (cl (cl (cr (cl (cr (cl (cl (cr (cl (cl (cr (cl (cr (cr (cr (cr (cr c18)))))))))))))))))) (by kernel_rfl), k_seq (E := env) (f := 18) (c := (cl (cl (cl (cr (cl (cr (cl (cl (cr (cl (cl (cr (cl (cr (cr (cr (cr (cr c18))))))))))))))))))) (by kernel_rfl), r18_16, b18_rlllrlrllrllrlrrrrr, k_skip (E := env) (f := 18) (c := (cl (cr (cl (cl (cl (cr (cl (cr (cl (cl (cr (cl (cl (cr (cl (cr (cr (cr (cr (cr c18))))))))))))))))))))) (by kernel_rfl), k_seq (E := env) (f := 18) (c := (cr (cl (cl (cr (cl (cr (cl (cl (cr (cl (cl (cr (cl (cr (cr (cr (cr (cr c18))))))))))))))))))) (by kernel_rfl), k_block (E := env) (f := 18) (c := (cl (cr (cl (cl (cr (cl (cr (cl (cl (cr (cl (cl (cr (cl (cr (cr (cr (cr (cr c18)))))))))))))))))))) (id := 5) (by kernel_rfl), k_seq (E := env) (f := 18) (c := (cl (cl (cr (cl (cl (cr (cl (cr (cl (cl (cr (cl (cl (cr (cl (cr (cr (cr (cr (cr c18))))))))))))))))))))) (by kernel_rfl), r18_18, r18_19, r18_17, k_exit (E := env) (f := 18) (c := (cr (cr (cl (cl (cl (cr (cl (cr (cl (cl (cr (cl (cl (cr (cl (cr (cr (cr (cr (cr c18))))))))))))))))))))) (id := 4) (by kernel_rfl), ih, reduceIte, reduceCtorEq, XE.exit.injEq, Nat.reduceEqDiff] <;> kernel_rfl
theorem F18_lrlrllrllrlrrrrr_eq {β : Type} {inv : Inv} {k : Nat} {x0 x1 x2 x9 x10 x11 x12 : Value} {h : AH} {K : XE → Act → AH → Option β} : kCode env 18 false inv k (cl (cr (cl (cr (cl (cl (cr (cl (cl (cr (cl (cr (cr (cr (cr (cr c18)))))))))))))))) (act 81 [(0, x0), (1, x1), (2, x2), (9, x9), (10, x10), (11, x11), (12, x12)]) h K = F18_lrlrllrllrlrrrrr inv k k x0 x1 x2 x9 x10 x11 x12 h (fun y0 y1 y2 y9 y10 y11 y12 y52 h => K (.exit 4) (act 81 [(0, y0), (1, y1), (2, y2), (9, y9), (10, y10), (11, y11), (12, y12), (52, y52)]) h) := (k_loop (by kernel_rfl)).trans (F18_lrlrllrllrlrrrrr_j k)
theorem r18_20 {β : Type} {inv : Inv} {k : Nat} {x0 x1 x2 x9 x10 x11 x12 x52 : Value} {h : AH} {K : XE → Act → AH → Option β} : kCode env 18 false inv k (cr (cr (cl (cl (cr (cl (cl (cr (cl (cr (cr (cr (cr (cr c18)))))))))))))) (act 81 [(0, x0), (1, x1), (2, x2), (9, x9), (10, x10), (11, x11), (12, x12), (52, x52)]) h K =
    bnd (pBuildSlice Try.prog 22 1 #[(0, x11)] h) fun x78 =>
    bnd (pAppend Try.prog #[22, 22] x9 x78.1 x78.2) fun x79 =>
    K .normal (act 81 [(0, x0), (1, x1), (2, x2), (9, x79.1), (10, x10)]) x79.2 := (k_reg (by kernel_rfl)).trans (by kernel_rfl)
theorem r18_13 {β : Type} {inv : Inv} {k : Nat} {x0 x1 x2 x9 x10 : Value} {h : AH} {K : XE → Act → AH → Option β} : kCode env 18 false inv k (cr (cr (cl (cl (cr (cl (cr (cr (cr (cr (cr c18))))))))))) (act 81 [(0, x0), (1, x1), (2, x2), (9, x9), (10, x10)]) h K =
    bnd (pBin Try.prog Go.BinOp.add 3 (Go.Operand.tmp 48) (Go.Operand.const (Go.Value.int Go.IntKind.i64 1)) x10 (Go.Value.int Go.IntKind.i64 1)) fun x49 =>
    K .normal (act 81 [(0, x0), (1, x1), (2, x2), (9, x9), (10, x49)]) h := (k_reg (by kernel_rfl)).trans (by kernel_rfl)
noncomputable def F18_lrlrrrrr {β : Type} (inv : Inv) (k : Nat) : Nat → Value → Value → Value → Value → Value → AH → (Value → Value → Value → Value → Value → Value → AH → Option β) → Option β
  | 0, _, _, _, _, _, _, _ => none
  | j + 1, x0, x1, x2, x9, x10, h, ke2 =>
    bnd (pBin Try.prog Go.BinOp.lss 3 (Go.Operand.tmp 45) (Go.Operand.tmp 46) x10 x1) fun x47 =>
    brV x47
    (F18_lrlrllrllrlrrrrr inv k k x0 x1 x2 x9 x10 (Go.Value.int Go.IntKind.u64 0) (Go.Value.int Go.IntKind.i64 0) h
    (fun y0 y1 y2 y9 y10 y11 y12 y52 h =>
    bnd (pBuildSlice Try.prog 22 1 #[(0, y11)] h) fun x78 =>
    bnd (pAppend Try.prog #[22, 22] y9 x78.1 x78.2) fun x79 =>
    bnd (pBin Try.prog Go.BinOp.add 3 (Go.Operand.tmp 48) (Go.Operand.const (Go.Value.int Go.IntKind.i64 1)) y10 (Go.Value.int Go.IntKind.i64 1)) fun x49 =>
    F18_lrlrrrrr inv k j y0 y1 y2 x79.1 x49 x79.2 ke2))
    (ke2 x0 x1 x2 x9 x10 x47 h)
theorem F18_lrlrrrrr_j {β : Type} {inv : Inv} {k : Nat} (j : Nat) {x0 x1 x2 x9 x10 : Value} {h : AH} {K : XE → Act → AH → Option β} : kLoop (kCode env 18 false inv k (cl (cl (cr (cl (cr (cr (cr (cr (cr c18)))))))))) j (act 81 [(0, x0), (1, x1), (2, x2), (9, x9), (10, x10)]) h K = F18_lrlrrrrr inv k j x0 x1 x2 x9 x10 h (fun y0 y1 y2 y9 y10 y47 h => K (.exit 2) (act 81 [(0, y0), (1, y1), (2, y2), (9, y9), (10, y10), (47, y47)]) h) := by
      induction j generalizing x0 x1 x2 x9 x10 h with
      | zero => rfl
      | succ j ih =>
        unfold F18_lrlrrrrr
        simp only [kLoop, k_seq (E := env) (f := 18) (c := (cl (cl (cr (cl (cr (cr (cr (cr (cr c18)))))))))) (by kernel_rfl), k_seq (E := env) (f := 18) (c := (cl (cl (cl (cr (cl (cr (cr (cr (cr (cr c18))))))))))) (by kernel_rfl), r18_12, b18_rlllrlrrrrr, k_skip (E := env) (f := 18) (c := (cl (cr (cl (cl (cl (cr (cl (cr (cr (cr (cr (cr c18))))))))))))) (by kernel_rfl), k_seq (E := env) (f := 18) (c := (cr (cl (cl (cr (cl (cr (cr (cr (cr (cr c18))))))))))) (by kernel_rfl), k_block (E := env) (f := 18) (c := (cl (cr (cl (cl (cr (cl (cr (cr (cr (cr (cr c18)))))))))))) (id := 3) (by kernel_rfl), k_seq (E := env) (f := 18) (c := (cl (cl (cr (cl (cl (cr (cl (cr (cr (cr (cr (cr c18))))))))))))) (by kernel_rfl), r18_14, k_seq (E := env) (f := 18) (c := (cr (cl (cl (cr (cl (cl (cr (cl (cr (cr (cr (cr (cr c18)))))))))))))) (by kernel_rfl), k_seq (E := env) (f := 18) (c := (cl (cr (cl (cl (cr (cl (cl (cr (cl (cr (cr (cr (cr (cr c18))))))))))))))) (by kernel_rfl), r18_15, k_block (E := env) (f := 18) (c := (cr (cl (cr (cl (cl (cr (cl (cl (cr (cl (cr (cr (cr (cr (cr c18)))))))))))))))) (id := 4) (by kernel_rfl), F18_lrlrllrllrlrrrrr_eq, r18_20, r18_13, k_exit (E := env) (f := 18) (c := (cr (cr (cl (cl (cl (cr (cl (cr (cr (cr (cr (cr c18))))))))))))) (id := 2) (by kernel_rfl), ih, reduceIte, reduceCtorEq, XE.exit.injEq, Nat.reduceEqDiff] <;> kernel_rfl
theorem F18_lrlrrrrr_eq {β : Type} {inv : Inv} {k : Nat} {x0 x1 x2 x9 x10 : Value} {h : AH} {K : XE → Act → AH → Option β} : kCode env 18 false inv k (cl (cr (cl (cr (cr (cr (cr (cr c18)))))))) (act 81 [(0, x0), (1, x1), (2, x2), (9, x9), (10, x10)]) h K = F18_lrlrrrrr inv k k x0 x1 x2 x9 x10 h (fun y0 y1 y2 y9 y10 y47 h => K (.exit 2) (act 81 [(0, y0), (1, y1), (2, y2), (9, y9), (10, y10), (47, y47)]) h) := (k_loop (by kernel_rfl)).trans (F18_lrlrrrrr_j k)
theorem r18_21 {β : Type} {inv : Inv} {k : Nat} {x0 x1 x2 x9 x10 x47 : Value} {h : AH} {K : XE → Act → AH → Option β} : kCode env 18 false inv k (cl (cr (cr (cr (cr (cr (cr c18))))))) (act 81 [(0, x0), (1, x1), (2, x2), (9, x9), (10, x10), (47, x47)]) h K =
    K .normal (act 81 [(6, x9), (7, (Go.Value.int Go.IntKind.i64 0))]) h := (k_reg (by kernel_rfl)).trans (by kernel_rfl)
/-- shadowbook/shadowbookref05.Get -/
noncomputable def F18 (inv : Inv) (k : Nat) (x0 x1 x2 : Value) (h : AH) : Option (Value × AH) :=
    bnd (inv (.func 27) #[] #[x1, x2] h) fun x16 =>
    bnd (pUn Try.prog Go.UnOp.not x16.1) fun x17 =>
    brV x17
    (some (.tuple #[(Go.Value.slice none 0 0), (Go.Value.int Go.IntKind.i64 2)], x16.2))
    (bnd (pLen Try.prog #[25] x0 x16.2) fun x19 =>
    bnd (inv (.func 21) #[] #[x1, x2] x16.2) fun x22 =>
    bnd (pBin Try.prog Go.BinOp.neq 3 (Go.Operand.tmp 19) (Go.Operand.tmp 22) x19 x22.1) fun x23 =>
    brV x23
    (some (.tuple #[(Go.Value.slice none 0 0), (Go.Value.int Go.IntKind.i64 4)], x22.2))
    (bnd (pBin Try.prog Go.BinOp.mul 3 (Go.Operand.tmp 24) (Go.Operand.tmp 25) x1 x2) fun x26 =>
    F18_lrlrrr inv k k x0 x1 x2 x26 x22.2
    (fun y0 y1 y2 y8 y31 h =>
    F18_lrlrrrrr inv k k y0 y1 y2 (Go.Value.slice none 0 0) (Go.Value.int Go.IntKind.i64 0) h
    (fun y0_1 y1_2 y2_3 y9 y10 y47 h_4 =>
    some (.tuple #[y9, (Go.Value.int Go.IntKind.i64 0)], h_4)))
    (fun y6 y7 h_5 =>
    some (.tuple #[y6, y7], h_5))))
theorem F18_eq {inv : Inv} {k : Nat} {x0 x1 x2 : Value} {h : AH} : eFun env k inv 18 #[x0, x1, x2] h = F18 inv k x0 x1 x2 h := by
      refine (eFun_k2 (by kernel_rfl) (by kernel_rfl) (by kernel_rfl) (a := act 81 [(0, x0), (1, x1), (2, x2)]) (c := c18) (by kernel_rfl) (by kernel_rfl)).trans ?_
      unfold F18
      simp only [k_seq (E := env) (f := 18) (c := c18) (by kernel_rfl), r18_0, k_seq (E := env) (f := 18) (c := (cr c18)) (by kernel_rfl), k_seq (E := env) (f := 18) (c := (cl (cr c18))) (by kernel_rfl), r18_1, b18_rlr, k_seq (E := env) (f := 18) (c := (cl (cr (cl (cr c18))))) (by kernel_rfl), r18_2, k_ret (E := env) (f := 18) (c := (cr (cl (cr (cl (cr c18)))))) (by kernel_rfl), res18_0, k_skip (E := env) (f := 18) (c := (cr (cr (cl (cr c18))))) (by kernel_rfl), k_seq (E := env) (f := 18) (c := (cr (cr c18))) (by kernel_rfl), k_seq (E := env) (f := 18) (c := (cl (cr (cr c18)))) (by kernel_rfl), r18_3, b18_rlrr, k_seq (E := env) (f := 18) (c := (cl (cr (cl (cr (cr c18)))))) (by kernel_rfl), r18_4, k_ret (E := env) (f := 18) (c := (cr (cl (cr (cl (cr (cr c18))))))) (by kernel_rfl), k_skip (E := env) (f := 18) (c := (cr (cr (cl (cr (cr c18)))))) (by kernel_rfl), k_seq (E := env) (f := 18) (c := (cr (cr (cr c18)))) (by kernel_rfl), k_seq (E := env) (f := 18) (c := (cl (cr (cr (cr c18))))) (by kernel_rfl), r18_5, k_block (E := env) (f := 18) (c := (cr (cl (cr (cr (cr c18)))))) (id := 0) (by kernel_rfl), F18_lrlrrr_eq, k_seq (E := env) (f := 18) (c := (cr (cr (cr (cr c18))))) (by kernel_rfl), r18_10, k_seq (E := env) (f := 18) (c := (cr (cr (cr (cr (cr c18)))))) (by kernel_rfl), k_seq (E := env) (f := 18) (c := (cl (cr (cr (cr (cr (cr c18))))))) (by kernel_rfl), r18_11, k_block (E := env) (f := 18) (c := (cr (cl (cr (cr (cr (cr (cr c18)))))))) (id := 2) (by kernel_rfl), F18_lrlrrrrr_eq, k_seq (E := env) (f := 18) (c := (cr (cr (cr (cr (cr (cr c18))))))) (by kernel_rfl), r18_21, k_ret (E := env) (f := 18) (c := (cr (cr (cr (cr (cr (cr (cr c18)))))))) (by kernel_rfl), reduceIte, reduceCtorEq, XE.exit.injEq, Nat.reduceEqDiff] <;> kernel_rfl
theorem F18_call {k : Nat} {x0 x1 x2 : Value} {h : AH} : eInv env (k + 1) (.func 18) #[] #[x0, x1, x2] h = F18 (eInv env k) k x0 x1 x2 h := (inv_func (by kernel_rfl)).trans F18_eq
end Go.Proofs.Ytodokclcffejfaa.Sh
