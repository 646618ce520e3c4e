/- Shallow functions, part 1. Printed by a program of the prover's own from the loaded program; Lean checks it. -/
import Derived.Test.YtodokclcffejfaaSz0
set_option linter.unusedVariables false
set_option linter.unusedSimpArgs false
set_option maxRecDepth 100000
namespace Go.Proofs.Ytodokclcffejfaa.Sh
open Go Go.RowKit Go.Proofs.Ev
noncomputable def c3 : Code := codeOf Try.prog 3
theorem r3_0 {β : Type} {inv : Inv} {k : Nat} {x0 x1 x2 : Value} {h : AH} {K : XE → Act → AH → Option β} : kCode env 3 false inv k (cl c3) (act 70 [(0, x0), (1, x1), (2, x2)]) h K =
    K .normal (act 70 [(0, x0), (1, x1), (2, x2)]) h := (k_reg (by kernel_rfl)).trans (by kernel_rfl)
theorem r3_1 {β : Type} {inv : Inv} {k : Nat} {x0 x1 x2 : Value} {h : AH} {K : XE → Act → AH → Option β} : kCode env 3 false inv k (cl (cl (cr c3))) (act 70 [(0, x0), (1, x1), (2, x2)]) h K =
    bnd (inv (.func 8) #[] #[] h) fun x13 =>
    bnd (pUn Try.prog Go.UnOp.not x13.1) fun x14 =>
    K .normal (act 70 [(0, x0), (1, x1), (2, x2), (14, x14)]) x13.2 := (k_reg (by kernel_rfl)).trans (by kernel_rfl)
theorem b3_rlr {β : Type} {inv : Inv} {k : Nat} {x0 x1 x2 x14 : Value} {h : AH} {K : XE → Act → AH → Option β} : kCode env 3 false inv k (cr (cl (cr c3))) (act 70 [(0, x0), (1, x1), (2, x2), (14, x14)]) h K = brV x14 (kCode env 3 false inv k (cl (cr (cl (cr c3)))) (act 70 [(0, x0), (1, x1), (2, x2), (14, x14)]) h K) (kCode env 3 false inv k (cr (cr (cl (cr c3)))) (act 70 [(0, x0), (1, x1), (2, x2), (14, x14)]) h K) := (k_cond (by kernel_rfl)).trans (by kernel_rfl)
theorem r3_2 {β : Type} {inv : Inv} {k : Nat} {x0 x1 x2 x14 : Value} {h : AH} {K : XE → Act → AH → Option β} : kCode env 3 false inv k (cl (cl (cr (cl (cr c3))))) (act 70 [(0, x0), (1, x1), (2, x2), (14, x14)]) h K =
    K .normal (act 70 [(6, (Go.Value.bool false))]) h := (k_reg (by kernel_rfl)).trans (by kernel_rfl)
theorem res3_0 {x6 : Value} {h : AH} : resOfFn env.P 3 .ret (act 70 [(6, x6)]) h = some (x6, h) := (resOfFn_k (by kernel_rfl) (by kernel_rfl)).trans (by kernel_rfl)
theorem r3_3 {β : Type} {inv : Inv} {k : Nat} {x0 x1 x2 x14 : Value} {h : AH} {K : XE → Act → AH → Option β} : kCode env 3 false inv k (cl (cl (cr (cr c3)))) (act 70 [(0, x0), (1, x1), (2, x2), (14, x14)]) h K =
    bnd (pLen Try.prog #[22] x0 h) fun x16 =>
    bnd (pBin Try.prog Go.BinOp.gtr 3 (Go.Operand.tmp 16) (Go.Operand.const (Go.Value.int Go.IntKind.i64 100)) x16 (Go.Value.int Go.IntKind.i64 100)) fun x17 =>
    bnd (gd (some x17) false h (some (x1, h))) fun x19 =>
    bnd (gd (some x17) false x19.2 (lt (pLen Try.prog #[22] x19.1 x19.2) x19.2)) fun x20 =>
    bnd (gd (some x17) false x20.2 (lt (pBin Try.prog Go.BinOp.gtr 3 (Go.Operand.tmp 20) (Go.Operand.const (Go.Value.int Go.IntKind.i64 100)) x20.1 (Go.Value.int Go.IntKind.i64 100)) x20.2)) fun x21 =>
    bnd (pickV x17 (Go.Value.bool true) x21.1) fun x22 =>
    K .normal (act 70 [(0, x0), (1, x1), (2, x2), (22, x22)]) x21.2 := (k_reg (by kernel_rfl)).trans (by kernel_rfl)
theorem b3_rlrr {β : Type} {inv : Inv} {k : Nat} {x0 x1 x2 x22 : Value} {h : AH} {K : XE → Act → AH → Option β} : kCode env 3 false inv k (cr (cl (cr (cr c3)))) (act 70 [(0, x0), (1, x1), (2, x2), (22, x22)]) h K = brV x22 (kCode env 3 false inv k (cl (cr (cl (cr (cr c3))))) (act 70 [(0, x0), (1, x1), (2, x2), (22, x22)]) h K) (kCode env 3 false inv k (cr (cr (cl (cr (cr c3))))) (act 70 [(0, x0), (1, x1), (2, x2), (22, x22)]) h K) := (k_cond (by kernel_rfl)).trans (by kernel_rfl)
theorem r3_4 {β : Type} {inv : Inv} {k : Nat} {x0 x1 x2 x22 : Value} {h : AH} {K : XE → Act → AH → Option β} : kCode env 3 false inv k (cl (cl (cr (cl (cr (cr c3)))))) (act 70 [(0, x0), (1, x1), (2, x2), (22, x22)]) h K =
    K .normal (act 70 [(6, (Go.Value.bool true))]) h := (k_reg (by kernel_rfl)).trans (by kernel_rfl)
theorem r3_5 {β : Type} {inv : Inv} {k : Nat} {x0 x1 x2 x22 : Value} {h : AH} {K : XE → Act → AH → Option β} : kCode env 3 false inv k (cl (cr (cr (cr c3)))) (act 70 [(0, x0), (1, x1), (2, x2), (22, x22)]) h K =
    bnd (inv (.func 9) #[] #[x2, (Go.Value.int Go.IntKind.i64 65)] h) fun x24 =>
    K .normal (act 70 [(0, x0), (1, x1), (2, x24.1)]) x24.2 := (k_reg (by kernel_rfl)).trans (by kernel_rfl)
theorem r3_6 {β : Type} {inv : Inv} {k : Nat} {x0 x1 x2 : Value} {h : AH} {K : XE → Act → AH → Option β} : kCode env 3 false inv k (cl (cr (cr (cr (cr c3))))) (act 70 [(0, x0), (1, x1), (2, x2)]) h K =
    bnd (inv (.func 10) #[] #[x0, x2] h) fun x28 =>
    bnd (pExtract x28.1 0) fun x29 =>
    bnd (pExtract x28.1 1) fun x30 =>
    K .normal (act 70 [(0, x0), (1, x1), (2, x2), (7, x29), (8, x30)]) x28.2 := (k_reg (by kernel_rfl)).trans (by kernel_rfl)
theorem r3_7 {β : Type} {inv : Inv} {k : Nat} {x0 x1 x2 x7 x8 : Value} {h : AH} {K : XE → Act → AH → Option β} : kCode env 3 false inv k (cl (cr (cr (cr (cr (cr c3)))))) (act 70 [(0, x0), (1, x1), (2, x2), (7, x7), (8, x8)]) h K =
    bnd (inv (.func 10) #[] #[x1, x2] h) fun x34 =>
    bnd (pExtract x34.1 0) fun x35 =>
    bnd (pExtract x34.1 1) fun x36 =>
    K .normal (act 70 [(0, x0), (1, x1), (2, x2), (7, x7), (8, x8), (9, x35), (10, x36)]) x34.2 := (k_reg (by kernel_rfl)).trans (by kernel_rfl)
theorem r3_8 {β : Type} {inv : Inv} {k : Nat} {x0 x1 x2 x7 x8 x9 x10 : Value} {h : AH} {K : XE → Act → AH → Option β} : kCode env 3 false inv k (cl (cr (cr (cr (cr (cr (cr c3))))))) (act 70 [(0, x0), (1, x1), (2, x2), (7, x7), (8, x8), (9, x9), (10, x10)]) h K =
    bnd (inv (.func 11) #[] #[x0] h) fun x39 =>
    bnd (pAppend Try.prog #[22, 22] x39.1 x1 x39.2) fun x41 =>
    bnd (inv (.func 10) #[] #[x41.1, x2] x41.2) fun x43 =>
    bnd (pExtract x43.1 0) fun x44 =>
    bnd (pExtract x43.1 1) fun x45 =>
    K .normal (act 70 [(0, x0), (2, x2), (7, x7), (8, x8), (9, x9), (10, x10), (11, x44), (12, x45)]) x43.2 := (k_reg (by kernel_rfl)).trans (by kernel_rfl)
theorem r3_9 {β : Type} {inv : Inv} {k : Nat} {x0 x2 x7 x8 x9 x10 x11 x12 : Value} {h : AH} {K : XE → Act → AH → Option β} : kCode env 3 false inv k (cl (cl (cr (cr (cr (cr (cr (cr (cr c3))))))))) (act 70 [(0, x0), (2, x2), (7, x7), (8, x8), (9, x9), (10, x10), (11, x11), (12, x12)]) h K =
    bnd (pBin Try.prog Go.BinOp.eql 26 (Go.Operand.tmp 46) (Go.Operand.const (Go.Value.int Go.IntKind.i64 0)) x8 (Go.Value.int Go.IntKind.i64 0)) fun x47 =>
    bnd (gd (some x47) true h (some (x10, h))) fun x49 =>
    bnd (gd (some x47) true x49.2 (lt (pBin Try.prog Go.BinOp.eql 26 (Go.Operand.tmp 49) (Go.Operand.const (Go.Value.int Go.IntKind.i64 0)) x49.1 (Go.Value.int Go.IntKind.i64 0)) x49.2)) fun x50 =>
    bnd (pickV x47 x50.1 (Go.Value.bool false)) fun x51 =>
    bnd (pBin Try.prog Go.BinOp.eql 26 (Go.Operand.tmp 52) (Go.Operand.const (Go.Value.int Go.IntKind.i64 0)) x12 (Go.Value.int Go.IntKind.i64 0)) fun x53 =>
    bnd (pBin Try.prog Go.BinOp.neq 4 (Go.Operand.tmp 51) (Go.Operand.tmp 53) x51 x53) fun x54 =>
    K .normal (act 70 [(0, x0), (2, x2), (7, x7), (9, x9), (11, x11), (12, x12), (54, x54)]) x50.2 := (k_reg (by kernel_rfl)).trans (by kernel_rfl)
theorem b3_rlrrrrrrr {β : Type} {inv : Inv} {k : Nat} {x0 x2 x7 x9 x11 x12 x54 : Value} {h : AH} {K : XE → Act → AH → Option β} : kCode env 3 false inv k (cr (cl (cr (cr (cr (cr (cr (cr (cr c3))))))))) (act 70 [(0, x0), (2, x2), (7, x7), (9, x9), (11, x11), (12, x12), (54, x54)]) h K = brV x54 (kCode env 3 false inv k (cl (cr (cl (cr (cr (cr (cr (cr (cr (cr c3)))))))))) (act 70 [(0, x0), (2, x2), (7, x7), (9, x9), (11, x11), (12, x12), (54, x54)]) h K) (kCode env 3 false inv k (cr (cr (cl (cr (cr (cr (cr (cr (cr (cr c3)))))))))) (act 70 [(0, x0), (2, x2), (7, x7), (9, x9), (11, x11), (12, x12), (54, x54)]) h K) := (k_cond (by kernel_rfl)).trans (by kernel_rfl)
theorem r3_10 {β : Type} {inv : Inv} {k : Nat} {x0 x2 x7 x9 x11 x12 x54 : Value} {h : AH} {K : XE → Act → AH → Option β} : kCode env 3 false inv k (cl (cl (cr (cl (cr (cr (cr (cr (cr (cr (cr c3))))))))))) (act 70 [(0, x0), (2, x2), (7, x7), (9, x9), (11, x11), (12, x12), (54, x54)]) h K =
    K .normal (act 70 [(6, (Go.Value.bool false))]) h := (k_reg (by kernel_rfl)).trans (by kernel_rfl)
theorem r3_11 {β : Type} {inv : Inv} {k : Nat} {x0 x2 x7 x9 x11 x12 x54 : Value} {h : AH} {K : XE → Act → AH → Option β} : kCode env 3 false inv k (cl (cl (cr (cr (cr (cr (cr (cr (cr (cr c3)))))))))) (act 70 [(0, x0), (2, x2), (7, x7), (9, x9), (11, x11), (12, x12), (54, x54)]) h K =
    bnd (pBin Try.prog Go.BinOp.neq 26 (Go.Operand.tmp 55) (Go.Operand.const (Go.Value.int Go.IntKind.i64 0)) x12 (Go.Value.int Go.IntKind.i64 0)) fun x56 =>
    bnd (gd (some x56) false h (some (x0, h))) fun x58 =>
    bnd (gd (some x56) false x58.2 (lt (pLen Try.prog #[22] x58.1 x58.2) x58.2)) fun x59 =>
    bnd (gd (some x56) false x59.2 (some (x2, x59.2))) fun x60 =>
    bnd (gd (some x56) false x60.2 (lt (pBin Try.prog Go.BinOp.mul 3 (Go.Operand.tmp 59) (Go.Operand.tmp 60) x59.1 x60.1) x60.2)) fun x61 =>
    bnd (gd (some x56) false x61.2 (lt (pBin Try.prog Go.BinOp.rem 3 (Go.Operand.tmp 61) (Go.Operand.const (Go.Value.int Go.IntKind.i64 8)) x61.1 (Go.Value.int Go.IntKind.i64 8)) x61.2)) fun x62 =>
    bnd (gd (some x56) false x62.2 (lt (pBin Try.prog Go.BinOp.neq 3 (Go.Operand.tmp 62) (Go.Operand.const (Go.Value.int Go.IntKind.i64 0)) x62.1 (Go.Value.int Go.IntKind.i64 0)) x62.2)) fun x63 =>
    bnd (pickV x56 (Go.Value.bool true) x63.1) fun x64 =>
    K .normal (act 70 [(7, x7), (9, x9), (11, x11), (64, x64)]) x63.2 := (k_reg (by kernel_rfl)).trans (by kernel_rfl)
theorem b3_rlrrrrrrrr {β : Type} {inv : Inv} {k : Nat} {x7 x9 x11 x64 : Value} {h : AH} {K : XE → Act → AH → Option β} : kCode env 3 false inv k (cr (cl (cr (cr (cr (cr (cr (cr (cr (cr c3)))))))))) (act 70 [(7, x7), (9, x9), (11, x11), (64, x64)]) h K = brV x64 (kCode env 3 false inv k (cl (cr (cl (cr (cr (cr (cr (cr (cr (cr (cr c3))))))))))) (act 70 [(7, x7), (9, x9), (11, x11), (64, x64)]) h K) (kCode env 3 false inv k (cr (cr (cl (cr (cr (cr (cr (cr (cr (cr (cr c3))))))))))) (act 70 [(7, x7), (9, x9), (11, x11), (64, x64)]) h K) := (k_cond (by kernel_rfl)).trans (by kernel_rfl)
theorem r3_12 {β : Type} {inv : Inv} {k : Nat} {x7 x9 x11 x64 : Value} {h : AH} {K : XE → Act → AH → Option β} : kCode env 3 false inv k (cl (cl (cr (cl (cr (cr (cr (cr (cr (cr (cr (cr c3)))))))))))) (act 70 [(7, x7), (9, x9), (11, x11), (64, x64)]) h K =
    K .normal (act 70 [(6, (Go.Value.bool true))]) h := (k_reg (by kernel_rfl)).trans (by kernel_rfl)
theorem r3_13 {β : Type} {inv : Inv} {k : Nat} {x7 x9 x11 x64 : Value} {h : AH} {K : XE → Act → AH → Option β} : kCode env 3 false inv k (cl (cr (cr (cr (cr (cr (cr (cr (cr (cr c3)))))))))) (act 70 [(7, x7), (9, x9), (11, x11), (64, x64)]) h K =
    bnd (pAppend Try.prog #[25, 25] x7 x9 h) fun x68 =>
    bnd (inv (.func 12) #[] #[x11, x68.1] x68.2) fun x69 =>
    K .normal (act 70 [(6, x69.1)]) x69.2 := (k_reg (by kernel_rfl)).trans (by kernel_rfl)
/-- shadowbook/shadowbooklaw05.PacksJoins -/
noncomputable def F3 (inv : Inv) (k : Nat) (x0 x1 x2 : Value) (h : AH) : Option (Value × AH) :=
    bnd (inv (.func 8) #[] #[] h) fun x13 =>
    bnd (pUn Try.prog Go.UnOp.not x13.1) fun x14 =>
    brV x14
    (some ((Go.Value.bool false), x13.2))
    (bnd (pLen Try.prog #[22] x0 x13.2) fun x16 =>
    bnd (pBin Try.prog Go.BinOp.gtr 3 (Go.Operand.tmp 16) (Go.Operand.const (Go.Value.int Go.IntKind.i64 100)) x16 (Go.Value.int Go.IntKind.i64 100)) fun x17 =>
    bnd (gd (some x17) false x13.2 (some (x1, x13.2))) fun x19 =>
    bnd (gd (some x17) false x19.2 (lt (pLen Try.prog #[22] x19.1 x19.2) x19.2)) fun x20 =>
    bnd (gd (some x17) false x20.2 (lt (pBin Try.prog Go.BinOp.gtr 3 (Go.Operand.tmp 20) (Go.Operand.const (Go.Value.int Go.IntKind.i64 100)) x20.1 (Go.Value.int Go.IntKind.i64 100)) x20.2)) fun x21 =>
    bnd (pickV x17 (Go.Value.bool true) x21.1) fun x22 =>
    brV x22
    (some ((Go.Value.bool true), x21.2))
    (bnd (inv (.func 9) #[] #[x2, (Go.Value.int Go.IntKind.i64 65)] x21.2) fun x24 =>
    bnd (inv (.func 10) #[] #[x0, x24.1] x24.2) fun x28 =>
    bnd (pExtract x28.1 0) fun x29 =>
    bnd (pExtract x28.1 1) fun x30 =>
    bnd (inv (.func 10) #[] #[x1, x24.1] x28.2) fun x34 =>
    bnd (pExtract x34.1 0) fun x35 =>
    bnd (pExtract x34.1 1) fun x36 =>
    bnd (inv (.func 11) #[] #[x0] x34.2) fun x39 =>
    bnd (pAppend Try.prog #[22, 22] x39.1 x1 x39.2) fun x41 =>
    bnd (inv (.func 10) #[] #[x41.1, x24.1] x41.2) fun x43 =>
    bnd (pExtract x43.1 0) fun x44 =>
    bnd (pExtract x43.1 1) fun x45 =>
    bnd (pBin Try.prog Go.BinOp.eql 26 (Go.Operand.tmp 46) (Go.Operand.const (Go.Value.int Go.IntKind.i64 0)) x30 (Go.Value.int Go.IntKind.i64 0)) fun x47 =>
    bnd (gd (some x47) true x43.2 (some (x36, x43.2))) fun x49 =>
    bnd (gd (some x47) true x49.2 (lt (pBin Try.prog Go.BinOp.eql 26 (Go.Operand.tmp 49) (Go.Operand.const (Go.Value.int Go.IntKind.i64 0)) x49.1 (Go.Value.int Go.IntKind.i64 0)) x49.2)) fun x50 =>
    bnd (pickV x47 x50.1 (Go.Value.bool false)) fun x51 =>
    bnd (pBin Try.prog Go.BinOp.eql 26 (Go.Operand.tmp 52) (Go.Operand.const (Go.Value.int Go.IntKind.i64 0)) x45 (Go.Value.int Go.IntKind.i64 0)) fun x53 =>
    bnd (pBin Try.prog Go.BinOp.neq 4 (Go.Operand.tmp 51) (Go.Operand.tmp 53) x51 x53) fun x54 =>
    brV x54
    (some ((Go.Value.bool false), x50.2))
    (bnd (pBin Try.prog Go.BinOp.neq 26 (Go.Operand.tmp 55) (Go.Operand.const (Go.Value.int Go.IntKind.i64 0)) x45 (Go.Value.int Go.IntKind.i64 0)) fun x56 =>
    bnd (gd (some x56) false x50.2 (some (x0, x50.2))) fun x58 =>
    bnd (gd (some x56) false x58.2 (lt (pLen Try.prog #[22] x58.1 x58.2) x58.2)) fun x59 =>
    bnd (gd (some x56) false x59.2 (some (x24.1, x59.2))) fun x60 =>
    bnd (gd (some x56) false x60.2 (lt (pBin Try.prog Go.BinOp.mul 3 (Go.Operand.tmp 59) (Go.Operand.tmp 60) x59.1 x60.1) x60.2)) fun x61 =>
    bnd (gd (some x56) false x61.2 (lt (pBin Try.prog Go.BinOp.rem 3 (Go.Operand.tmp 61) (Go.Operand.const (Go.Value.int Go.IntKind.i64 8)) x61.1 (Go.Value.int Go.IntKind.i64 8)) x61.2)) fun x62 =>
    bnd (gd (some x56) false x62.2 (lt (pBin Try.prog Go.BinOp.neq 3 (Go.Operand.tmp 62) (Go.Operand.const (Go.Value.int Go.IntKind.i64 0)) x62.1 (Go.Value.int Go.IntKind.i64 0)) x62.2)) fun x63 =>
    bnd (pickV x56 (Go.Value.bool true) x63.1) fun x64 =>
    brV x64
    (some ((Go.Value.bool true), x63.2))
    (bnd (pAppend Try.prog #[25, 25] x29 x35 x63.2) fun x68 =>
    bnd (inv (.func 12) #[] #[x44, x68.1] x68.2) fun x69 =>
    some (x69.1, x69.2)))))
theorem F3_eq {inv : Inv} {k : Nat} {x0 x1 x2 : Value} {h : AH} : eFun env k inv 3 #[x0, x1, x2] h = F3 inv k x0 x1 x2 h := by
      refine (eFun_k2 (by kernel_rfl) (by kernel_rfl) (by kernel_rfl) (a := act 70 [(0, x0), (1, x1), (2, x2)]) (c := c3) (by kernel_rfl) (by kernel_rfl)).trans ?_
      unfold F3
      simp only [k_seq (E := env) (f := 3) (c := c3) (by kernel_rfl), r3_0, k_seq (E := env) (f := 3) (c := (cr c3)) (by kernel_rfl), k_seq (E := env) (f := 3) (c := (cl (cr c3))) (by kernel_rfl), r3_1, b3_rlr, k_seq (E := env) (f := 3) (c := (cl (cr (cl (cr c3))))) (by kernel_rfl), r3_2, k_ret (E := env) (f := 3) (c := (cr (cl (cr (cl (cr c3)))))) (by kernel_rfl), res3_0, k_skip (E := env) (f := 3) (c := (cr (cr (cl (cr c3))))) (by kernel_rfl), k_seq (E := env) (f := 3) (c := (cr (cr c3))) (by kernel_rfl), k_seq (E := env) (f := 3) (c := (cl (cr (cr c3)))) (by kernel_rfl), r3_3, b3_rlrr, k_seq (E := env) (f := 3) (c := (cl (cr (cl (cr (cr c3)))))) (by kernel_rfl), r3_4, k_ret (E := env) (f := 3) (c := (cr (cl (cr (cl (cr (cr c3))))))) (by kernel_rfl), k_skip (E := env) (f := 3) (c := (cr (cr (cl (cr (cr c3)))))) (by kernel_rfl), k_seq (E := env) (f := 3) (c := (cr (cr (cr c3)))) (by kernel_rfl), r3_5, k_seq (E := env) (f := 3) (c := (cr (cr (cr (cr c3))))) (by kernel_rfl), r3_6, k_seq (E := env) (f := 3) (c := (cr (cr (cr (cr (cr c3)))))) (by kernel_rfl), r3_7, k_seq (E := env) (f := 3) (c := (cr (cr (cr (cr (cr (cr c3))))))) (by kernel_rfl), r3_8, k_seq (E := env) (f := 3) (c := (cr (cr (cr (cr (cr (cr (cr c3)))))))) (by kernel_rfl), k_seq (E := env) (f := 3) (c := (cl (cr (cr (cr (cr (cr (cr (cr c3))))))))) (by kernel_rfl), r3_9, b3_rlrrrrrrr, k_seq (E := env) (f := 3) (c := (cl (cr (cl (cr (cr (cr (cr (cr (cr (cr c3))))))))))) (by kernel_rfl), r3_10, k_ret (E := env) (f := 3) (c := (cr (cl (cr (cl (cr (cr (cr (cr (cr (cr (cr c3)))))))))))) (by kernel_rfl), k_skip (E := env) (f := 3) (c := (cr (cr (cl (cr (cr (cr (cr (cr (cr (cr c3))))))))))) (by kernel_rfl), k_seq (E := env) (f := 3) (c := (cr (cr (cr (cr (cr (cr (cr (cr c3))))))))) (by kernel_rfl), k_seq (E := env) (f := 3) (c := (cl (cr (cr (cr (cr (cr (cr (cr (cr c3)))))))))) (by kernel_rfl), r3_11, b3_rlrrrrrrrr, k_seq (E := env) (f := 3) (c := (cl (cr (cl (cr (cr (cr (cr (cr (cr (cr (cr c3)))))))))))) (by kernel_rfl), r3_12, k_ret (E := env) (f := 3) (c := (cr (cl (cr (cl (cr (cr (cr (cr (cr (cr (cr (cr c3))))))))))))) (by kernel_rfl), k_skip (E := env) (f := 3) (c := (cr (cr (cl (cr (cr (cr (cr (cr (cr (cr (cr c3)))))))))))) (by kernel_rfl), k_seq (E := env) (f := 3) (c := (cr (cr (cr (cr (cr (cr (cr (cr (cr c3)))))))))) (by kernel_rfl), r3_13, k_ret (E := env) (f := 3) (c := (cr (cr (cr (cr (cr (cr (cr (cr (cr (cr c3))))))))))) (by kernel_rfl), reduceIte, reduceCtorEq, XE.exit.injEq, Nat.reduceEqDiff] <;> kernel_rfl
theorem F3_call {k : Nat} {x0 x1 x2 : Value} {h : AH} : eInv env (k + 1) (.func 3) #[] #[x0, x1, x2] h = F3 (eInv env k) k x0 x1 x2 h := (inv_func (by kernel_rfl)).trans F3_eq
noncomputable def c9 : Code := codeOf Try.prog 9
theorem r9_0 {β : Type} {inv : Inv} {k : Nat} {x0 x1 : Value} {h : AH} {K : XE → Act → AH → Option β} : kCode env 9 false inv k (cl c9) (act 17 [(0, x0), (1, x1)]) h K =
    K .normal (act 17 [(0, x0), (1, x1)]) h := (k_reg (by kernel_rfl)).trans (by kernel_rfl)
theorem r9_1 {β : Type} {inv : Inv} {k : Nat} {x0 x1 : Value} {h : AH} {K : XE → Act → AH → Option β} : kCode env 9 false inv k (cl (cl (cr c9))) (act 17 [(0, x0), (1, x1)]) h K =
    bnd (pBin Try.prog Go.BinOp.lss 3 (Go.Operand.tmp 6) (Go.Operand.const (Go.Value.int Go.IntKind.i64 1)) x1 (Go.Value.int Go.IntKind.i64 1)) fun x7 =>
    K .normal (act 17 [(0, x0), (1, x1), (7, x7)]) h := (k_reg (by kernel_rfl)).trans (by kernel_rfl)
theorem b9_rlr {β : Type} {inv : Inv} {k : Nat} {x0 x1 x7 : Value} {h : AH} {K : XE → Act → AH → Option β} : kCode env 9 false inv k (cr (cl (cr c9))) (act 17 [(0, x0), (1, x1), (7, x7)]) h K = brV x7 (kCode env 9 false inv k (cl (cr (cl (cr c9)))) (act 17 [(0, x0), (1, x1), (7, x7)]) h K) (kCode env 9 false inv k (cr (cr (cl (cr c9)))) (act 17 [(0, x0), (1, x1), (7, x7)]) h K) := (k_cond (by kernel_rfl)).trans (by kernel_rfl)
theorem r9_2 {β : Type} {inv : Inv} {k : Nat} {x0 x1 x7 : Value} {h : AH} {K : XE → Act → AH → Option β} : kCode env 9 false inv k (cl (cl (cr (cl (cr c9))))) (act 17 [(0, x0), (1, x1), (7, x7)]) h K =
    K .normal (act 17 [(4, (Go.Value.int Go.IntKind.i64 0))]) h := (k_reg (by kernel_rfl)).trans (by kernel_rfl)
theorem res9_0 {x4 : Value} {h : AH} : resOfFn env.P 9 .ret (act 17 [(4, x4)]) h = some (x4, h) := (resOfFn_k (by kernel_rfl) (by kernel_rfl)).trans (by kernel_rfl)
theorem r9_3 {β : Type} {inv : Inv} {k : Nat} {x0 x1 x7 : Value} {h : AH} {K : XE → Act → AH → Option β} : kCode env 9 false inv k (cl (cr (cr c9))) (act 17 [(0, x0), (1, x1), (7, x7)]) h K =
    bnd (pBin Try.prog Go.BinOp.rem 3 (Go.Operand.tmp 8) (Go.Operand.tmp 9) x0 x1) fun x10 =>
    K .normal (act 17 [(1, x1), (5, x10)]) h := (k_reg (by kernel_rfl)).trans (by kernel_rfl)
theorem r9_4 {β : Type} {inv : Inv} {k : Nat} {x1 x5 : Value} {h : AH} {K : XE → Act → AH → Option β} : kCode env 9 false inv k (cl (cl (cr (cr (cr c9))))) (act 17 [(1, x1), (5, x5)]) h K =
    bnd (pBin Try.prog Go.BinOp.lss 3 (Go.Operand.tmp 11) (Go.Operand.const (Go.Value.int Go.IntKind.i64 0)) x5 (Go.Value.int Go.IntKind.i64 0)) fun x12 =>
    K .normal (act 17 [(1, x1), (5, x5), (12, x12)]) h := (k_reg (by kernel_rfl)).trans (by kernel_rfl)
theorem b9_rlrrr {β : Type} {inv : Inv} {k : Nat} {x1 x5 x12 : Value} {h : AH} {K : XE → Act → AH → Option β} : kCode env 9 false inv k (cr (cl (cr (cr (cr c9))))) (act 17 [(1, x1), (5, x5), (12, x12)]) h K = brV x12 (kCode env 9 false inv k (cl (cr (cl (cr (cr (cr c9)))))) (act 17 [(1, x1), (5, x5), (12, x12)]) h K) (kCode env 9 false inv k (cr (cr (cl (cr (cr (cr c9)))))) (act 17 [(1, x1), (5, x5), (12, x12)]) h K) := (k_cond (by kernel_rfl)).trans (by kernel_rfl)
theorem r9_5 {β : Type} {inv : Inv} {k : Nat} {x1 x5 x12 : Value} {h : AH} {K : XE → Act → AH → Option β} : kCode env 9 false inv k (cl (cr (cl (cr (cr (cr c9)))))) (act 17 [(1, x1), (5, x5), (12, x12)]) h K =
    bnd (pBin Try.prog Go.BinOp.add 3 (Go.Operand.tmp 13) (Go.Operand.tmp 14) x5 x1) fun x15 =>
    K .normal (act 17 [(5, x15)]) h := (k_reg (by kernel_rfl)).trans (by kernel_rfl)
noncomputable def F9_rlrrr {β : Type} (inv : Inv) (k : Nat) (x1 x5 x12 : Value) (h : AH) (kn : (Value → Value → Value → AH → Option β)) : Option β :=
    brV x12
    (bnd (pBin Try.prog Go.BinOp.add 3 (Go.Operand.tmp 13) (Go.Operand.tmp 14) x5 x1) fun x15 =>
    kn unk x15 unk h)
    (kn x1 x5 x12 h)
theorem F9_rlrrr_eq {β : Type} {inv : Inv} {k : Nat} {x1 x5 x12 : Value} {h : AH} {K : XE → Act → AH → Option β} : kCode env 9 false inv k (cr (cl (cr (cr (cr c9))))) (act 17 [(1, x1), (5, x5), (12, x12)]) h K = F9_rlrrr inv k x1 x5 x12 h (fun y1 y5 y12 h => K .normal (act 17 [(1, y1), (5, y5), (12, y12)]) h) := by
      unfold F9_rlrrr
      simp only [b9_rlrrr, r9_5, k_skip (E := env) (f := 9) (c := (cr (cr (cl (cr (cr (cr c9))))))) (by kernel_rfl), reduceIte, reduceCtorEq, XE.exit.injEq, Nat.reduceEqDiff] <;> kernel_rfl
theorem r9_6 {β : Type} {inv : Inv} {k : Nat} {x1 x5 x12 : Value} {h : AH} {K : XE → Act → AH → Option β} : kCode env 9 false inv k (cl (cr (cr (cr (cr c9))))) (act 17 [(1, x1), (5, x5), (12, x12)]) h K =
    K .normal (act 17 [(4, x5)]) h := (k_reg (by kernel_rfl)).trans (by kernel_rfl)
/-- shadowbook/shadowbookkit.Pick -/
noncomputable def F9 (inv : Inv) (k : Nat) (x0 x1 : Value) (h : AH) : Option (Value × AH) :=
    bnd (pBin Try.prog Go.BinOp.lss 3 (Go.Operand.tmp 6) (Go.Operand.const (Go.Value.int Go.IntKind.i64 1)) x1 (Go.Value.int Go.IntKind.i64 1)) fun x7 =>
    brV x7
    (some ((Go.Value.int Go.IntKind.i64 0), h))
    (bnd (pBin Try.prog Go.BinOp.rem 3 (Go.Operand.tmp 8) (Go.Operand.tmp 9) x0 x1) fun x10 =>
    bnd (pBin Try.prog Go.BinOp.lss 3 (Go.Operand.tmp 11) (Go.Operand.const (Go.Value.int Go.IntKind.i64 0)) x10 (Go.Value.int Go.IntKind.i64 0)) fun x12 =>
    F9_rlrrr inv k x1 x10 x12 h
    (fun y1 y5 y12 h =>
    some (y5, h)))
theorem F9_eq {inv : Inv} {k : Nat} {x0 x1 : Value} {h : AH} : eFun env k inv 9 #[x0, x1] h = F9 inv k x0 x1 h := by
      refine (eFun_k2 (by kernel_rfl) (by kernel_rfl) (by kernel_rfl) (a := act 17 [(0, x0), (1, x1)]) (c := c9) (by kernel_rfl) (by kernel_rfl)).trans ?_
      unfold F9
      simp only [k_seq (E := env) (f := 9) (c := c9) (by kernel_rfl), r9_0, k_seq (E := env) (f := 9) (c := (cr c9)) (by kernel_rfl), k_seq (E := env) (f := 9) (c := (cl (cr c9))) (by kernel_rfl), r9_1, b9_rlr, k_seq (E := env) (f := 9) (c := (cl (cr (cl (cr c9))))) (by kernel_rfl), r9_2, k_ret (E := env) (f := 9) (c := (cr (cl (cr (cl (cr c9)))))) (by kernel_rfl), res9_0, k_skip (E := env) (f := 9) (c := (cr (cr (cl (cr c9))))) (by kernel_rfl), k_seq (E := env) (f := 9) (c := (cr (cr c9))) (by kernel_rfl), r9_3, k_seq (E := env) (f := 9) (c := (cr (cr (cr c9)))) (by kernel_rfl), k_seq (E := env) (f := 9) (c := (cl (cr (cr (cr c9))))) (by kernel_rfl), r9_4, F9_rlrrr_eq, k_seq (E := env) (f := 9) (c := (cr (cr (cr (cr c9))))) (by kernel_rfl), r9_6, k_ret (E := env) (f := 9) (c := (cr (cr (cr (cr (cr c9)))))) (by kernel_rfl), reduceIte, reduceCtorEq, XE.exit.injEq, Nat.reduceEqDiff] <;> kernel_rfl
theorem F9_call {k : Nat} {x0 x1 : Value} {h : AH} : eInv env (k + 1) (.func 9) #[] #[x0, x1] h = F9 (eInv env k) k x0 x1 h := (inv_func (by kernel_rfl)).trans F9_eq
noncomputable def c10 : Code := codeOf Try.prog 10
theorem r10_0 {β : Type} {inv : Inv} {k : Nat} {x0 x1 : Value} {h : AH} {K : XE → Act → AH → Option β} : kCode env 10 false inv k (cl c10) (act 54 [(0, x0), (1, x1)]) h K =
    K .normal (act 54 [(0, x0), (1, x1)]) h := (k_reg (by kernel_rfl)).trans (by kernel_rfl)
theorem r10_1 {β : Type} {inv : Inv} {k : Nat} {x0 x1 : Value} {h : AH} {K : XE → Act → AH → Option β} : kCode env 10 false inv k (cl (cl (cl (cr c10)))) (act 54 [(0, x0), (1, x1)]) h K =
    bnd (pLen Try.prog #[22] x0 h) fun x14 =>
    bnd (inv (.func 23) #[] #[x14, x1] h) fun x16 =>
    bnd (pUn Try.prog Go.UnOp.not x16.1) fun x17 =>
    K .normal (act 54 [(0, x0), (1, x1), (12, x17)]) x16.2 := (k_reg (by kernel_rfl)).trans (by kernel_rfl)
theorem b10_rllr {β : Type} {inv : Inv} {k : Nat} {x0 x1 x12 : Value} {h : AH} {K : XE → Act → AH → Option β} : kCode env 10 false inv k (cr (cl (cl (cr c10)))) (act 54 [(0, x0), (1, x1), (12, x12)]) h K = brV x12 (kCode env 10 false inv k (cl (cr (cl (cl (cr c10))))) (act 54 [(0, x0), (1, x1), (12, x12)]) h K) (kCode env 10 false inv k (cr (cr (cl (cl (cr c10))))) (act 54 [(0, x0), (1, x1), (12, x12)]) h K) := (k_cond (by kernel_rfl)).trans (by kernel_rfl)
theorem r10_2 {β : Type} {inv : Inv} {k : Nat} {x0 x1 x12 : Value} {h : AH} {K : XE → Act → AH → Option β} : kCode env 10 false inv k (cl (cl (cr (cl (cl (cr c10)))))) (act 54 [(0, x0), (1, x1), (12, x12)]) h K =
    K .normal (act 54 [(4, (Go.Value.slice none 0 0)), (5, (Go.Value.int Go.IntKind.i64 2))]) h := (k_reg (by kernel_rfl)).trans (by kernel_rfl)
theorem res10_0 {x4 x5 : Value} {h : AH} : resOfFn env.P 10 .ret (act 54 [(4, x4), (5, x5)]) h = some (.tuple #[x4, x5], h) := (resOfFn_k (by kernel_rfl) (by kernel_rfl)).trans (by kernel_rfl)
theorem r10_3 {β : Type} {inv : Inv} {k : Nat} {x0 x1 x12 : Value} {h : AH} {K : XE → Act → AH → Option β} : kCode env 10 false inv k (cl (cr (cr (cl (cl (cr c10)))))) (act 54 [(0, x0), (1, x1), (12, x12)]) h K =
    bnd (inv (.func 15) #[] #[x0] h) fun x20 =>
    bnd (pBin Try.prog Go.BinOp.gtr 3 (Go.Operand.tmp 20) (Go.Operand.tmp 21) x20.1 x1) fun x22 =>
    K .normal (act 54 [(0, x0), (1, x1), (18, x22)]) x20.2 := (k_reg (by kernel_rfl)).trans (by kernel_rfl)
theorem b10_rrrllr {β : Type} {inv : Inv} {k : Nat} {x0 x1 x18 : Value} {h : AH} {K : XE → Act → AH → Option β} : kCode env 10 false inv k (cr (cr (cr (cl (cl (cr c10)))))) (act 54 [(0, x0), (1, x1), (18, x18)]) h K = brV x18 (kCode env 10 false inv k (cl (cr (cr (cr (cl (cl (cr c10))))))) (act 54 [(0, x0), (1, x1), (18, x18)]) h K) (kCode env 10 false inv k (cr (cr (cr (cr (cl (cl (cr c10))))))) (act 54 [(0, x0), (1, x1), (18, x18)]) h K) := (k_cond (by kernel_rfl)).trans (by kernel_rfl)
theorem r10_4 {β : Type} {inv : Inv} {k : Nat} {x0 x1 x18 : Value} {h : AH} {K : XE → Act → AH → Option β} : kCode env 10 false inv k (cl (cl (cr (cr (cr (cl (cl (cr c10)))))))) (act 54 [(0, x0), (1, x1), (18, x18)]) h K =
    K .normal (act 54 [(4, (Go.Value.slice none 0 0)), (5, (Go.Value.int Go.IntKind.i64 3))]) h := (k_reg (by kernel_rfl)).trans (by kernel_rfl)
theorem r10_5 {β : Type} {inv : Inv} {k : Nat} {x0 x1 x18 : Value} {h : AH} {K : XE → Act → AH → Option β} : kCode env 10 false inv k (cl (cr (cr c10))) (act 54 [(0, x0), (1, x1), (18, x18)]) h K =
    bnd (pLen Try.prog #[22] x0 h) fun x24 =>
    bnd (inv (.func 16) #[] #[x24, x1] h) fun x26 =>
    bnd (pMakeSlice Try.prog 25 (Go.Value.int Go.IntKind.i64 0) x26.1 x26.2) fun x27 =>
    bnd (pAlloc Try.prog 25 x27.2) fun x6 =>
    bnd (kSt (pStore Try.prog 25 x6.1 x27.1 x6.2)) fun u =>
    K .normal (act 54 [(0, x0), (1, x1), (6, x6.1)]) u.2 := (k_reg (by kernel_rfl)).trans (by kernel_rfl)
theorem r10_6 {β : Type} {inv : Inv} {k : Nat} {x0 x1 x6 : Value} {h : AH} {K : XE → Act → AH → Option β} : kCode env 10 false inv k (cl (cr (cr (cr c10)))) (act 54 [(0, x0), (1, x1), (6, x6)]) h K =
    bnd (pAlloc Try.prog 5 h) fun x7 =>
    K .normal (act 54 [(0, x0), (1, x1), (6, x6), (7, x7.1)]) x7.2 := (k_reg (by kernel_rfl)).trans (by kernel_rfl)
theorem r10_7 {β : Type} {inv : Inv} {k : Nat} {x0 x1 x6 x7 : Value} {h : AH} {K : XE → Act → AH → Option β} : kCode env 10 false inv k (cl (cr (cr (cr (cr c10))))) (act 54 [(0, x0), (1, x1), (6, x6), (7, x7)]) h K =
    bnd (pAlloc Try.prog 3 h) fun x8 =>
    bnd (kSt (pStore Try.prog 3 x8.1 (Go.Value.int Go.IntKind.i64 0) x8.2)) fun u =>
    K .normal (act 54 [(0, x0), (1, x1), (6, x6), (7, x7), (8, x8.1)]) u.2 := (k_reg (by kernel_rfl)).trans (by kernel_rfl)
theorem r10_8 {β : Type} {inv : Inv} {k : Nat} {x0 x1 x6 x7 x8 : Value} {h : AH} {K : XE → Act → AH → Option β} : kCode env 10 false inv k (cl (cr (cr (cr (cr (cr c10)))))) (act 54 [(0, x0), (1, x1), (6, x6), (7, x7), (8, x8)]) h K =
    bnd (pMakeFunc (Go.Fn.func 24) #[] #[x7, x8, x6]) fun x28 =>
    K .normal (act 54 [(0, x0), (1, x1), (6, x6), (7, x7), (8, x8), (9, x28)]) h := (k_reg (by kernel_rfl)).trans (by kernel_rfl)
theorem r10_9 {β : Type} {inv : Inv} {k : Nat} {x0 x1 x6 x7 x8 x9 : Value} {h : AH} {K : XE → Act → AH → Option β} : kCode env 10 false inv k (cl (cl (cr (cr (cr (cr (cr (cr c10)))))))) (act 54 [(0, x0), (1, x1), (6, x6), (7, x7), (8, x8), (9, x9)]) h K =
    bnd (pLen Try.prog #[22] x0 h) fun x30 =>
    K .normal (act 54 [(1, x1), (6, x6), (7, x7), (8, x8), (9, x9), (29, x0), (30, x30), (31, (Go.Value.int Go.IntKind.i64 0))]) h := (k_reg (by kernel_rfl)).trans (by kernel_rfl)
theorem r10_10 {β : Type} {inv : Inv} {k : Nat} {x1 x6 x7 x8 x9 x29 x30 x31 : Value} {h : AH} {K : XE → Act → AH → Option β} : kCode env 10 false inv k (cl (cl (cl (cr (cl (cr (cr (cr (cr (cr (cr c10))))))))))) (act 54 [(1, x1), (6, x6), (7, x7), (8, x8), (9, x9), (29, x29), (30, x30), (31, x31)]) h K =
    bnd (pBin Try.prog Go.BinOp.lss 3 (Go.Operand.tmp 31) (Go.Operand.tmp 30) x31 x30) fun x32 =>
    K .normal (act 54 [(1, x1), (6, x6), (7, x7), (8, x8), (9, x9), (29, x29), (30, x30), (31, x31), (32, x32)]) h := (k_reg (by kernel_rfl)).trans (by kernel_rfl)
theorem b10_lrllrlrrrrrr {β : Type} {inv : Inv} {k : Nat} {x1 x6 x7 x8 x9 x29 x30 x31 x32 : Value} {h : AH} {K : XE → Act → AH → Option β} : kCode env 10 false inv k (cl (cr (cl (cl (cr (cl (cr (cr (cr (cr (cr (cr c10)))))))))))) (act 54 [(1, x1), (6, x6), (7, x7), (8, x8), (9, x9), (29, x29), (30, x30), (31, x31), (32, x32)]) h K = brV x32 (kCode env 10 false inv k (cl (cl (cr (cl (cl (cr (cl (cr (cr (cr (cr (cr (cr c10))))))))))))) (act 54 [(1, x1), (6, x6), (7, x7), (8, x8), (9, x9), (29, x29), (30, x30), (31, x31), (32, x32)]) h K) (kCode env 10 false inv k (cr (cl (cr (cl (cl (cr (cl (cr (cr (cr (cr (cr (cr c10))))))))))))) (act 54 [(1, x1), (6, x6), (7, x7), (8, x8), (9, x9), (29, x29), (30, x30), (31, x31), (32, x32)]) h K) := (k_cond (by kernel_rfl)).trans (by kernel_rfl)
theorem r10_11 {β : Type} {inv : Inv} {k : Nat} {x1 x6 x7 x8 x9 x29 x30 x31 x32 : Value} {h : AH} {K : XE → Act → AH → Option β} : kCode env 10 false inv k (cl (cl (cl (cr (cr (cl (cl (cr (cl (cr (cr (cr (cr (cr (cr c10))))))))))))))) (act 54 [(1, x1), (6, x6), (7, x7), (8, x8), (9, x9), (29, x29), (30, x30), (31, x31), (32, x32)]) h K =
    bnd (pIndexAddr Try.prog 22 x29 x31) fun x33 =>
    bnd (pLoad Try.prog 30 x33 h) fun x34 =>
    K .normal (act 54 [(1, x1), (6, x6), (7, x7), (8, x8), (9, x9), (11, x34), (29, x29), (30, x30), (31, x31)]) h := (k_reg (by kernel_rfl)).trans (by kernel_rfl)
theorem r10_12 {β : Type} {inv : Inv} {k : Nat} {x1 x6 x7 x8 x9 x11 x29 x30 x31 : Value} {h : AH} {K : XE → Act → AH → Option β} : kCode env 10 false inv k (cl (cr (cl (cl (cr (cr (cl (cl (cr (cl (cr (cr (cr (cr (cr (cr c10)))))))))))))))) (act 54 [(1, x1), (6, x6), (7, x7), (8, x8), (9, x9), (11, x11), (29, x29), (30, x30), (31, x31)]) h K =
    K .normal (act 54 [(1, x1), (6, x6), (7, x7), (8, x8), (9, x9), (11, x11), (29, x29), (30, x30), (31, x31), (35, x1), (36, (Go.Value.int Go.IntKind.i64 0))]) h := (k_reg (by kernel_rfl)).trans (by kernel_rfl)
theorem r10_13 {β : Type} {inv : Inv} {k : Nat} {x1 x6 x7 x8 x9 x11 x29 x30 x31 x35 x36 : Value} {h : AH} {K : XE → Act → AH → Option β} : kCode env 10 false inv k (cl (cl (cl (cr (cr (cl (cl (cr (cr (cl (cl (cr (cl (cr (cr (cr (cr (cr (cr c10))))))))))))))))))) (act 54 [(1, x1), (6, x6), (7, x7), (8, x8), (9, x9), (11, x11), (29, x29), (30, x30), (31, x31), (35, x35), (36, x36)]) h K =
    bnd (pBin Try.prog Go.BinOp.lss 3 (Go.Operand.tmp 36) (Go.Operand.tmp 35) x36 x35) fun x37 =>
    K .normal (act 54 [(1, x1), (6, x6), (7, x7), (8, x8), (9, x9), (11, x11), (29, x29), (30, x30), (31, x31), (35, x35), (36, x36), (37, x37)]) h := (k_reg (by kernel_rfl)).trans (by kernel_rfl)
theorem b10_lrllrrllrrllrlrrrrrr {β : Type} {inv : Inv} {k : Nat} {x1 x6 x7 x8 x9 x11 x29 x30 x31 x35 x36 x37 : Value} {h : AH} {K : XE → Act → AH → Option β} : kCode env 10 false inv k (cl (cr (cl (cl (cr (cr (cl (cl (cr (cr (cl (cl (cr (cl (cr (cr (cr (cr (cr (cr c10)))))))))))))))))))) (act 54 [(1, x1), (6, x6), (7, x7), (8, x8), (9, x9), (11, x11), (29, x29), (30, x30), (31, x31), (35, x35), (36, x36), (37, x37)]) h K = brV x37 (kCode env 10 false inv k (cl (cl (cr (cl (cl (cr (cr (cl (cl (cr (cr (cl (cl (cr (cl (cr (cr (cr (cr (cr (cr c10))))))))))))))))))))) (act 54 [(1, x1), (6, x6), (7, x7), (8, x8), (9, x9), (11, x11), (29, x29), (30, x30), (31, x31), (35, x35), (36, x36), (37, x37)]) h K) (kCode env 10 false inv k (cr (cl (cr (cl (cl (cr (cr (cl (cl (cr (cr (cl (cl (cr (cl (cr (cr (cr (cr (cr (cr c10))))))))))))))))))))) (act 54 [(1, x1), (6, x6), (7, x7), (8, x8), (9, x9), (11, x11), (29, x29), (30, x30), (31, x31), (35, x35), (36, x36), (37, x37)]) h K) := (k_cond (by kernel_rfl)).trans (by kernel_rfl)
theorem r10_14 {β : Type} {inv : Inv} {k : Nat} {x1 x6 x7 x8 x9 x11 x29 x30 x31 x35 x36 x37 : Value} {h : AH} {K : XE → Act → AH → Option β} : kCode env 10 false inv k (cl (cl (cl (cr (cr (cl (cl (cr (cr (cl (cl (cr (cr (cl (cl (cr (cl (cr (cr (cr (cr (cr (cr c10))))))))))))))))))))))) (act 54 [(1, x1), (6, x6), (7, x7), (8, x8), (9, x9), (11, x11), (29, x29), (30, x30), (31, x31), (35, x35), (36, x36), (37, x37)]) h K =
    bnd (pBin Try.prog Go.BinOp.and 30 (Go.Operand.tmp 39) (Go.Operand.const (Go.Value.int Go.IntKind.u64 1)) x11 (Go.Value.int Go.IntKind.u64 1)) fun x40 =>
    bnd (pConv Try.prog 30 5 x40 h) fun x41 =>
    bnd (callV inv x9 #[x41] h) fun x42 =>
    K .normal (act 54 [(1, x1), (6, x6), (7, x7), (8, x8), (9, x9), (11, x11), (29, x29), (30, x30), (31, x31), (35, x35), (36, x36)]) x42.2 := (k_reg (by kernel_rfl)).trans (by kernel_rfl)
theorem r10_15 {β : Type} {inv : Inv} {k : Nat} {x1 x6 x7 x8 x9 x11 x29 x30 x31 x35 x36 : Value} {h : AH} {K : XE → Act → AH → Option β} : kCode env 10 false inv k (cr (cl (cl (cr (cr (cl (cl (cr (cr (cl (cl (cr (cr (cl (cl (cr (cl (cr (cr (cr (cr (cr (cr c10))))))))))))))))))))))) (act 54 [(1, x1), (6, x6), (7, x7), (8, x8), (9, x9), (11, x11), (29, x29), (30, x30), (31, x31), (35, x35), (36, x36)]) h K =
    bnd (pBin Try.prog Go.BinOp.shr 30 (Go.Operand.tmp 43) (Go.Operand.const (Go.Value.int Go.IntKind.u64 1)) x11 (Go.Value.int Go.IntKind.u64 1)) fun x44 =>
    K .normal (act 54 [(1, x1), (6, x6), (7, x7), (8, x8), (9, x9), (11, x44), (29, x29), (30, x30), (31, x31), (35, x35), (36, x36)]) h := (k_reg (by kernel_rfl)).trans (by kernel_rfl)
theorem r10_16 {β : Type} {inv : Inv} {k : Nat} {x1 x6 x7 x8 x9 x11 x29 x30 x31 x35 x36 : Value} {h : AH} {K : XE → Act → AH → Option β} : kCode env 10 false inv k (cr (cr (cr (cl (cl (cr (cr (cl (cl (cr (cr (cl (cl (cr (cl (cr (cr (cr (cr (cr (cr c10))))))))))))))))))))) (act 54 [(1, x1), (6, x6), (7, x7), (8, x8), (9, x9), (11, x11), (29, x29), (30, x30), (31, x31), (35, x35), (36, x36)]) h K =
    bnd (pBin Try.prog Go.BinOp.add 3 (Go.Operand.tmp 36) (Go.Operand.const (Go.Value.int Go.IntKind.i64 1)) x36 (Go.Value.int Go.IntKind.i64 1)) fun x45 =>
    K .normal (act 54 [(1, x1), (6, x6), (7, x7), (8, x8), (9, x9), (11, x11), (29, x29), (30, x30), (31, x31), (35, x35), (36, x45)]) h := (k_reg (by kernel_rfl)).trans (by kernel_rfl)
noncomputable def F10_lrrllrrllrlrrrrrr {β : Type} (inv : Inv) (k : Nat) : Nat → Value → Value → Value → Value → Value → Value → Value → Value → Value → Value → Value → AH → (Value → Value → Value → Value → Value → Value → Value → Value → Value → Value → Value → Value → AH → Option β) → Option β
  | 0, _, _, _, _, _, _, _, _, _, _, _, _, _ => none
  | j + 1, x1, x6, x7, x8, x9, x11, x29, x30, x31, x35, x36, h, ke3 =>
    bnd (pBin Try.prog Go.BinOp.lss 3 (Go.Operand.tmp 36) (Go.Operand.tmp 35) x36 x35) fun x37 =>
    brV x37
    (bnd (pBin Try.prog Go.BinOp.and 30 (Go.Operand.tmp 39) (Go.Operand.const (Go.Value.int Go.IntKind.u64 1)) x11 (Go.Value.int Go.IntKind.u64 1)) fun x40 =>
    bnd (pConv Try.prog 30 5 x40 h) fun x41 =>
    bnd (callV inv x9 #[x41] h) fun x42 =>
    bnd (pBin Try.prog Go.BinOp.shr 30 (Go.Operand.tmp 43) (Go.Operand.const (Go.Value.int Go.IntKind.u64 1)) x11 (Go.Value.int Go.IntKind.u64 1)) fun x44 =>
    bnd (pBin Try.prog Go.BinOp.add 3 (Go.Operand.tmp 36) (Go.Operand.const (Go.Value.int Go.IntKind.i64 1)) x36 (Go.Value.int Go.IntKind.i64 1)) fun x45 =>
    F10_lrrllrrllrlrrrrrr inv k j x1 x6 x7 x8 x9 x44 x29 x30 x31 x35 x45 x42.2 ke3)
    (ke3 x1 x6 x7 x8 x9 x11 x29 x30 x31 x35 x36 x37 h)
theorem F10_lrrllrrllrlrrrrrr_j {β : Type} {inv : Inv} {k : Nat} (j : Nat) {x1 x6 x7 x8 x9 x11 x29 x30 x31 x35 x36 : Value} {h : AH} {K : XE → Act → AH → Option β} : kLoop (kCode env 10 false inv k (cl (cl (cr (cr (cl (cl (cr (cr (cl (cl (cr (cl (cr (cr (cr (cr (cr (cr c10))))))))))))))))))) j (act 54 [(1, x1), (6, x6), (7, x7), (8, x8), (9, x9), (11, x11), (29, x29), (30, x30), (31, x31), (35, x35), (36, x36)]) h K = F10_lrrllrrllrlrrrrrr inv k j x1 x6 x7 x8 x9 x11 x29 x30 x31 x35 x36 h (fun y1 y6 y7 y8 y9 y11 y29 y30 y31 y35 y36 y37 h => K (.exit 3) (act 54 [(1, y1), (6, y6), (7, y7), (8, y8), (9, y9), (11, y11), (29, y29), (30, y30), (31, y31), (35, y35), (36, y36), (37, y37)]) h) := by
      induction j generalizing x1 x6 x7 x8 x9 x11 x29 x30 x31 x35 x36 h with
      | zero => rfl
      | succ j ih =>
        unfold F10_lrrllrrllrlrrrrrr
        simp only [kLoop, k_seq (E := env) (f := 10) (c := (cl (cl (cr (cr (cl (cl (cr (cr (cl (cl (cr (cl (cr (cr (cr (cr (cr (cr c10))))))))))))))))))) (by kernel_rfl), r10_13, k_seq (E := env) (f := 10) (c := (cr (cl (cl (cr (cr (cl (cl (cr (cr (cl (cl (cr (cl (cr (cr (cr (cr (cr (cr c10)))))))))))))))))))) (by kernel_rfl), b10_lrllrrllrrllrlrrrrrr, k_skip (E := env) (f := 10) (c := (cl (cl (cr (cl (cl (cr (cr (cl (cl (cr (cr (cl (cl (cr (cl (cr (cr (cr (cr (cr (cr c10)))))))))))))))))))))) (by kernel_rfl), k_seq (E := env) (f := 10) (c := (cr (cr (cl (cl (cr (cr (cl (cl (cr (cr (cl (cl (cr (cl (cr (cr (cr (cr (cr (cr c10))))))))))))))))))))) (by kernel_rfl), k_block (E := env) (f := 10) (c := (cl (cr (cr (cl (cl (cr (cr (cl (cl (cr (cr (cl (cl (cr (cl (cr (cr (cr (cr (cr (cr c10)))))))))))))))))))))) (id := 4) (by kernel_rfl), k_seq (E := env) (f := 10) (c := (cl (cl (cr (cr (cl (cl (cr (cr (cl (cl (cr (cr (cl (cl (cr (cl (cr (cr (cr (cr (cr (cr c10))))))))))))))))))))))) (by kernel_rfl), r10_14, r10_15, r10_16, k_exit (E := env) (f := 10) (c := (cr (cl (cr (cl (cl (cr (cr (cl (cl (cr (cr (cl (cl (cr (cl (cr (cr (cr (cr (cr (cr c10)))))))))))))))))))))) (id := 3) (by kernel_rfl), ih, reduceIte, reduceCtorEq, XE.exit.injEq, Nat.reduceEqDiff] <;> kernel_rfl
theorem F10_lrrllrrllrlrrrrrr_eq {β : Type} {inv : Inv} {k : Nat} {x1 x6 x7 x8 x9 x11 x29 x30 x31 x35 x36 : Value} {h : AH} {K : XE → Act → AH → Option β} : kCode env 10 false inv k (cl (cr (cr (cl (cl (cr (cr (cl (cl (cr (cl (cr (cr (cr (cr (cr (cr c10))))))))))))))))) (act 54 [(1, x1), (6, x6), (7, x7), (8, x8), (9, x9), (11, x11), (29, x29), (30, x30), (31, x31), (35, x35), (36, x36)]) h K = F10_lrrllrrllrlrrrrrr inv k k x1 x6 x7 x8 x9 x11 x29 x30 x31 x35 x36 h (fun y1 y6 y7 y8 y9 y11 y29 y30 y31 y35 y36 y37 h => K (.exit 3) (act 54 [(1, y1), (6, y6), (7, y7), (8, y8), (9, y9), (11, y11), (29, y29), (30, y30), (31, y31), (35, y35), (36, y36), (37, y37)]) h) := (k_loop (by kernel_rfl)).trans (F10_lrrllrrllrlrrrrrr_j k)
theorem r10_17 {β : Type} {inv : Inv} {k : Nat} {x1 x6 x7 x8 x9 x11 x29 x30 x31 x35 x36 x37 : Value} {h : AH} {K : XE → Act → AH → Option β} : kCode env 10 false inv k (cr (cr (cr (cl (cl (cr (cl (cr (cr (cr (cr (cr (cr c10))))))))))))) (act 54 [(1, x1), (6, x6), (7, x7), (8, x8), (9, x9), (11, x11), (29, x29), (30, x30), (31, x31), (35, x35), (36, x36), (37, x37)]) h K =
    bnd (pBin Try.prog Go.BinOp.add 3 (Go.Operand.tmp 31) (Go.Operand.const (Go.Value.int Go.IntKind.i64 1)) x31 (Go.Value.int Go.IntKind.i64 1)) fun x46 =>
    K .normal (act 54 [(1, x1), (6, x6), (7, x7), (8, x8), (9, x9), (29, x29), (30, x30), (31, x46)]) h := (k_reg (by kernel_rfl)).trans (by kernel_rfl)
noncomputable def F10_lrlrrrrrr {β : Type} (inv : Inv) (k : Nat) : Nat → Value → Value → Value → Value → Value → Value → Value → Value → AH → (Value → Value → Value → Value → Value → Value → Value → Value → Value → AH → Option β) → Option β
  | 0, _, _, _, _, _, _, _, _, _, _ => none
  | j + 1, x1, x6, x7, x8, x9, x29, x30, x31, h, ke1 =>
    bnd (pBin Try.prog Go.BinOp.lss 3 (Go.Operand.tmp 31) (Go.Operand.tmp 30) x31 x30) fun x32 =>
    brV x32
    (bnd (pIndexAddr Try.prog 22 x29 x31) fun x33 =>
    bnd (pLoad Try.prog 30 x33 h) fun x34 =>
    F10_lrrllrrllrlrrrrrr inv k k x1 x6 x7 x8 x9 x34 x29 x30 x31 x1 (Go.Value.int Go.IntKind.i64 0) h
    (fun y1 y6 y7 y8 y9 y11 y29 y30 y31 y35 y36 y37 h =>
    bnd (pBin Try.prog Go.BinOp.add 3 (Go.Operand.tmp 31) (Go.Operand.const (Go.Value.int Go.IntKind.i64 1)) y31 (Go.Value.int Go.IntKind.i64 1)) fun x46 =>
    F10_lrlrrrrrr inv k j y1 y6 y7 y8 y9 y29 y30 x46 h ke1))
    (ke1 x1 x6 x7 x8 x9 x29 x30 x31 x32 h)
theorem F10_lrlrrrrrr_j {β : Type} {inv : Inv} {k : Nat} (j : Nat) {x1 x6 x7 x8 x9 x29 x30 x31 : Value} {h : AH} {K : XE → Act → AH → Option β} : kLoop (kCode env 10 false inv k (cl (cl (cr (cl (cr (cr (cr (cr (cr (cr c10))))))))))) j (act 54 [(1, x1), (6, x6), (7, x7), (8, x8), (9, x9), (29, x29), (30, x30), (31, x31)]) h K = F10_lrlrrrrrr inv k j x1 x6 x7 x8 x9 x29 x30 x31 h (fun y1 y6 y7 y8 y9 y29 y30 y31 y32 h => K (.exit 1) (act 54 [(1, y1), (6, y6), (7, y7), (8, y8), (9, y9), (29, y29), (30, y30), (31, y31), (32, y32)]) h) := by
      induction j generalizing x1 x6 x7 x8 x9 x29 x30 x31 h with
      | zero => rfl
      | succ j ih =>
        unfold F10_lrlrrrrrr
        simp only [kLoop, k_seq (E := env) (f := 10) (c := (cl (cl (cr (cl (cr (cr (cr (cr (cr (cr c10))))))))))) (by kernel_rfl), r10_10, k_seq (E := env) (f := 10) (c := (cr (cl (cl (cr (cl (cr (cr (cr (cr (cr (cr c10)))))))))))) (by kernel_rfl), b10_lrllrlrrrrrr, k_skip (E := env) (f := 10) (c := (cl (cl (cr (cl (cl (cr (cl (cr (cr (cr (cr (cr (cr c10)))))))))))))) (by kernel_rfl), k_seq (E := env) (f := 10) (c := (cr (cr (cl (cl (cr (cl (cr (cr (cr (cr (cr (cr c10))))))))))))) (by kernel_rfl), k_block (E := env) (f := 10) (c := (cl (cr (cr (cl (cl (cr (cl (cr (cr (cr (cr (cr (cr c10)))))))))))))) (id := 2) (by kernel_rfl), k_seq (E := env) (f := 10) (c := (cl (cl (cr (cr (cl (cl (cr (cl (cr (cr (cr (cr (cr (cr c10))))))))))))))) (by kernel_rfl), r10_11, k_seq (E := env) (f := 10) (c := (cr (cl (cl (cr (cr (cl (cl (cr (cl (cr (cr (cr (cr (cr (cr c10)))))))))))))))) (by kernel_rfl), r10_12, k_block (E := env) (f := 10) (c := (cr (cr (cl (cl (cr (cr (cl (cl (cr (cl (cr (cr (cr (cr (cr (cr c10))))))))))))))))) (id := 3) (by kernel_rfl), F10_lrrllrrllrlrrrrrr_eq, r10_17, k_exit (E := env) (f := 10) (c := (cr (cl (cr (cl (cl (cr (cl (cr (cr (cr (cr (cr (cr c10)))))))))))))) (id := 1) (by kernel_rfl), ih, reduceIte, reduceCtorEq, XE.exit.injEq, Nat.reduceEqDiff] <;> kernel_rfl
theorem F10_lrlrrrrrr_eq {β : Type} {inv : Inv} {k : Nat} {x1 x6 x7 x8 x9 x29 x30 x31 : Value} {h : AH} {K : XE → Act → AH → Option β} : kCode env 10 false inv k (cl (cr (cl (cr (cr (cr (cr (cr (cr c10))))))))) (act 54 [(1, x1), (6, x6), (7, x7), (8, x8), (9, x9), (29, x29), (30, x30), (31, x31)]) h K = F10_lrlrrrrrr inv k k x1 x6 x7 x8 x9 x29 x30 x31 h (fun y1 y6 y7 y8 y9 y29 y30 y31 y32 h => K (.exit 1) (act 54 [(1, y1), (6, y6), (7, y7), (8, y8), (9, y9), (29, y29), (30, y30), (31, y31), (32, y32)]) h) := (k_loop (by kernel_rfl)).trans (F10_lrlrrrrrr_j k)
theorem r10_18 {β : Type} {inv : Inv} {k : Nat} {x1 x6 x7 x8 x9 x29 x30 x31 x32 : Value} {h : AH} {K : XE → Act → AH → Option β} : kCode env 10 false inv k (cl (cl (cr (cr (cr (cr (cr (cr (cr c10))))))))) (act 54 [(1, x1), (6, x6), (7, x7), (8, x8), (9, x9), (29, x29), (30, x30), (31, x31), (32, x32)]) h K =
    bnd (pLoad Try.prog 3 x8 h) fun x47 =>
    bnd (pBin Try.prog Go.BinOp.gtr 3 (Go.Operand.tmp 47) (Go.Operand.const (Go.Value.int Go.IntKind.i64 0)) x47 (Go.Value.int Go.IntKind.i64 0)) fun x48 =>
    K .normal (act 54 [(6, x6), (7, x7), (48, x48)]) h := (k_reg (by kernel_rfl)).trans (by kernel_rfl)
theorem b10_rlrrrrrrr {β : Type} {inv : Inv} {k : Nat} {x6 x7 x48 : Value} {h : AH} {K : XE → Act → AH → Option β} : kCode env 10 false inv k (cr (cl (cr (cr (cr (cr (cr (cr (cr c10))))))))) (act 54 [(6, x6), (7, x7), (48, x48)]) h K = brV x48 (kCode env 10 false inv k (cl (cr (cl (cr (cr (cr (cr (cr (cr (cr c10)))))))))) (act 54 [(6, x6), (7, x7), (48, x48)]) h K) (kCode env 10 false inv k (cr (cr (cl (cr (cr (cr (cr (cr (cr (cr c10)))))))))) (act 54 [(6, x6), (7, x7), (48, x48)]) h K) := (k_cond (by kernel_rfl)).trans (by kernel_rfl)
theorem r10_19 {β : Type} {inv : Inv} {k : Nat} {x6 x7 x48 : Value} {h : AH} {K : XE → Act → AH → Option β} : kCode env 10 false inv k (cl (cr (cl (cr (cr (cr (cr (cr (cr (cr c10)))))))))) (act 54 [(6, x6), (7, x7), (48, x48)]) h K =
    bnd (pLoad Try.prog 25 x6 h) fun x49 =>
    bnd (pLoad Try.prog 5 x7 h) fun x50 =>
    bnd (pBuildSlice Try.prog 25 1 #[(0, x50)] h) fun x51 =>
    bnd (pAppend Try.prog #[25, 25] x49 x51.1 x51.2) fun x52 =>
    bnd (kSt (pStore Try.prog 25 x6 x52.1 x52.2)) fun u =>
    K .normal (act 54 [(6, x6)]) u.2 := (k_reg (by kernel_rfl)).trans (by kernel_rfl)
noncomputable def F10_rlrrrrrrr {β : Type} (inv : Inv) (k : Nat) (x6 x7 x48 : Value) (h : AH) (kn : (Value → Value → Value → AH → Option β)) : Option β :=
    brV x48
    (bnd (pLoad Try.prog 25 x6 h) fun x49 =>
    bnd (pLoad Try.prog 5 x7 h) fun x50 =>
    bnd (pBuildSlice Try.prog 25 1 #[(0, x50)] h) fun x51 =>
    bnd (pAppend Try.prog #[25, 25] x49 x51.1 x51.2) fun x52 =>
    bnd (kSt (pStore Try.prog 25 x6 x52.1 x52.2)) fun u =>
    kn x6 unk unk u.2)
    (kn x6 x7 x48 h)
theorem F10_rlrrrrrrr_eq {β : Type} {inv : Inv} {k : Nat} {x6 x7 x48 : Value} {h : AH} {K : XE → Act → AH → Option β} : kCode env 10 false inv k (cr (cl (cr (cr (cr (cr (cr (cr (cr c10))))))))) (act 54 [(6, x6), (7, x7), (48, x48)]) h K = F10_rlrrrrrrr inv k x6 x7 x48 h (fun y6 y7 y48 h => K .normal (act 54 [(6, y6), (7, y7), (48, y48)]) h) := by
      unfold F10_rlrrrrrrr
      simp only [b10_rlrrrrrrr, r10_19, k_skip (E := env) (f := 10) (c := (cr (cr (cl (cr (cr (cr (cr (cr (cr (cr c10))))))))))) (by kernel_rfl), reduceIte, reduceCtorEq, XE.exit.injEq, Nat.reduceEqDiff] <;> kernel_rfl
theorem r10_20 {β : Type} {inv : Inv} {k : Nat} {x6 x7 x48 : Value} {h : AH} {K : XE → Act → AH → Option β} : kCode env 10 false inv k (cl (cr (cr (cr (cr (cr (cr (cr (cr c10))))))))) (act 54 [(6, x6), (7, x7), (48, x48)]) h K =
    bnd (pLoad Try.prog 25 x6 h) fun x53 =>
    K .normal (act 54 [(4, x53), (5, (Go.Value.int Go.IntKind.i64 0))]) h := (k_reg (by kernel_rfl)).trans (by kernel_rfl)
/-- shadowbook/packs.Put -/
noncomputable def F10 (inv : Inv) (k : Nat) (x0 x1 : Value) (h : AH) : Option (Value × AH) :=
    bnd (pLen Try.prog #[22] x0 h) fun x14 =>
    bnd (inv (.func 23) #[] #[x14, x1] h) fun x16 =>
    bnd (pUn Try.prog Go.UnOp.not x16.1) fun x17 =>
    brV x17
    (some (.tuple #[(Go.Value.slice none 0 0), (Go.Value.int Go.IntKind.i64 2)], x16.2))
    (bnd (inv (.func 15) #[] #[x0] x16.2) fun x20 =>
    bnd (pBin Try.prog Go.BinOp.gtr 3 (Go.Operand.tmp 20) (Go.Operand.tmp 21) x20.1 x1) fun x22 =>
    brV x22
    (some (.tuple #[(Go.Value.slice none 0 0), (Go.Value.int Go.IntKind.i64 3)], x20.2))
    (bnd (pLen Try.prog #[22] x0 x20.2) fun x24 =>
    bnd (inv (.func 16) #[] #[x24, x1] x20.2) fun x26 =>
    bnd (pMakeSlice Try.prog 25 (Go.Value.int Go.IntKind.i64 0) x26.1 x26.2) fun x27 =>
    bnd (pAlloc Try.prog 25 x27.2) fun x6 =>
    bnd (kSt (pStore Try.prog 25 x6.1 x27.1 x6.2)) fun u =>
    bnd (pAlloc Try.prog 5 u.2) fun x7 =>
    bnd (pAlloc Try.prog 3 x7.2) fun x8 =>
    bnd (kSt (pStore Try.prog 3 x8.1 (Go.Value.int Go.IntKind.i64 0) x8.2)) fun u_1 =>
    bnd (pMakeFunc (Go.Fn.func 24) #[] #[x7.1, x8.1, x6.1]) fun x28 =>
    bnd (pLen Try.prog #[22] x0 u_1.2) fun x30 =>
    F10_lrlrrrrrr inv k k x1 x6.1 x7.1 x8.1 x28 x0 x30 (Go.Value.int Go.IntKind.i64 0) u_1.2
    (fun y1 y6 y7 y8 y9 y29 y30 y31 y32 h =>
    bnd (pLoad Try.prog 3 y8 h) fun x47 =>
    bnd (pBin Try.prog Go.BinOp.gtr 3 (Go.Operand.tmp 47) (Go.Operand.const (Go.Value.int Go.IntKind.i64 0)) x47 (Go.Value.int Go.IntKind.i64 0)) fun x48 =>
    F10_rlrrrrrrr inv k y6 y7 x48 h
    (fun y6_2 y7_3 y48 h_4 =>
    bnd (pLoad Try.prog 25 y6_2 h_4) fun x53 =>
    some (.tuple #[x53, (Go.Value.int Go.IntKind.i64 0)], h_4)))))
theorem F10_eq {inv : Inv} {k : Nat} {x0 x1 : Value} {h : AH} : eFun env k inv 10 #[x0, x1] h = F10 inv k x0 x1 h := by
      refine (eFun_k2 (by kernel_rfl) (by kernel_rfl) (by kernel_rfl) (a := act 54 [(0, x0), (1, x1)]) (c := c10) (by kernel_rfl) (by kernel_rfl)).trans ?_
      unfold F10
      simp only [k_seq (E := env) (f := 10) (c := c10) (by kernel_rfl), r10_0, k_seq (E := env) (f := 10) (c := (cr c10)) (by kernel_rfl), k_block (E := env) (f := 10) (c := (cl (cr c10))) (id := 0) (by kernel_rfl), k_seq (E := env) (f := 10) (c := (cl (cl (cr c10)))) (by kernel_rfl), r10_1, b10_rllr, k_seq (E := env) (f := 10) (c := (cl (cr (cl (cl (cr c10)))))) (by kernel_rfl), r10_2, k_ret (E := env) (f := 10) (c := (cr (cl (cr (cl (cl (cr c10))))))) (by kernel_rfl), res10_0, k_seq (E := env) (f := 10) (c := (cr (cr (cl (cl (cr c10)))))) (by kernel_rfl), r10_3, b10_rrrllr, k_seq (E := env) (f := 10) (c := (cl (cr (cr (cr (cl (cl (cr c10)))))))) (by kernel_rfl), r10_4, k_ret (E := env) (f := 10) (c := (cr (cl (cr (cr (cr (cl (cl (cr c10))))))))) (by kernel_rfl), k_skip (E := env) (f := 10) (c := (cr (cr (cr (cr (cl (cl (cr c10)))))))) (by kernel_rfl), k_seq (E := env) (f := 10) (c := (cr (cr c10))) (by kernel_rfl), r10_5, k_seq (E := env) (f := 10) (c := (cr (cr (cr c10)))) (by kernel_rfl), r10_6, k_seq (E := env) (f := 10) (c := (cr (cr (cr (cr c10))))) (by kernel_rfl), r10_7, k_seq (E := env) (f := 10) (c := (cr (cr (cr (cr (cr c10)))))) (by kernel_rfl), r10_8, k_seq (E := env) (f := 10) (c := (cr (cr (cr (cr (cr (cr c10))))))) (by kernel_rfl), k_seq (E := env) (f := 10) (c := (cl (cr (cr (cr (cr (cr (cr c10)))))))) (by kernel_rfl), r10_9, k_block (E := env) (f := 10) (c := (cr (cl (cr (cr (cr (cr (cr (cr c10))))))))) (id := 1) (by kernel_rfl), F10_lrlrrrrrr_eq, k_seq (E := env) (f := 10) (c := (cr (cr (cr (cr (cr (cr (cr c10)))))))) (by kernel_rfl), k_seq (E := env) (f := 10) (c := (cl (cr (cr (cr (cr (cr (cr (cr c10))))))))) (by kernel_rfl), r10_18, F10_rlrrrrrrr_eq, k_seq (E := env) (f := 10) (c := (cr (cr (cr (cr (cr (cr (cr (cr c10))))))))) (by kernel_rfl), r10_20, k_ret (E := env) (f := 10) (c := (cr (cr (cr (cr (cr (cr (cr (cr (cr c10)))))))))) (by kernel_rfl), reduceIte, reduceCtorEq, XE.exit.injEq, Nat.reduceEqDiff] <;> kernel_rfl
theorem F10_call {k : Nat} {x0 x1 : Value} {h : AH} : eInv env (k + 1) (.func 10) #[] #[x0, x1] h = F10 (eInv env k) k x0 x1 h := (inv_func (by kernel_rfl)).trans F10_eq
noncomputable def c11 : Code := codeOf Try.prog 11
theorem r11_0 {β : Type} {inv : Inv} {k : Nat} {x0 : Value} {h : AH} {K : XE → Act → AH → Option β} : kCode env 11 false inv k (cl c11) (act 6 [(0, x0)]) h K =
    K .normal (act 6 [(0, x0)]) h := (k_reg (by kernel_rfl)).trans (by kernel_rfl)
theorem r11_1 {β : Type} {inv : Inv} {k : Nat} {x0 : Value} {h : AH} {K : XE → Act → AH → Option β} : kCode env 11 false inv k (cl (cr c11)) (act 6 [(0, x0)]) h K =
    bnd (pBuildSlice Try.prog 22 0 #[] h) fun x3 =>
    bnd (pAppend Try.prog #[22, 22] x3.1 x0 x3.2) fun x5 =>
    K .normal (act 6 [(2, x5.1)]) x5.2 := (k_reg (by kernel_rfl)).trans (by kernel_rfl)
theorem res11_0 {x2 : Value} {h : AH} : resOfFn env.P 11 .ret (act 6 [(2, x2)]) h = some (x2, h) := (resOfFn_k (by kernel_rfl) (by kernel_rfl)).trans (by kernel_rfl)
/-- shadowbook/shadowbookkit.Own[uint64] -/
noncomputable def F11 (inv : Inv) (k : Nat) (x0 : Value) (h : AH) : Option (Value × AH) :=
    bnd (pBuildSlice Try.prog 22 0 #[] h) fun x3 =>
    bnd (pAppend Try.prog #[22, 22] x3.1 x0 x3.2) fun x5 =>
    some (x5.1, x5.2)
theorem F11_eq {inv : Inv} {k : Nat} {x0 : Value} {h : AH} : eFun env k inv 11 #[x0] h = F11 inv k x0 h := by
      refine (eFun_k2 (by kernel_rfl) (by kernel_rfl) (by kernel_rfl) (a := act 6 [(0, x0)]) (c := c11) (by kernel_rfl) (by kernel_rfl)).trans ?_
      unfold F11
      simp only [k_seq (E := env) (f := 11) (c := c11) (by kernel_rfl), r11_0, k_seq (E := env) (f := 11) (c := (cr c11)) (by kernel_rfl), r11_1, k_ret (E := env) (f := 11) (c := (cr (cr c11))) (by kernel_rfl), res11_0, reduceIte, reduceCtorEq, XE.exit.injEq, Nat.reduceEqDiff] <;> kernel_rfl
theorem F11_call {k : Nat} {x0 : Value} {h : AH} : eInv env (k + 1) (.func 11) #[] #[x0] h = F11 (eInv env k) k x0 h := (inv_func (by kernel_rfl)).trans F11_eq
noncomputable def c12 : Code := codeOf Try.prog 12
theorem r12_0 {β : Type} {inv : Inv} {k : Nat} {x0 x1 : Value} {h : AH} {K : XE → Act → AH → Option β} : kCode env 12 false inv k (cl c12) (act 26 [(0, x0), (1, x1)]) h K =
    K .normal (act 26 [(0, x0), (1, x1)]) h := (k_reg (by kernel_rfl)).trans (by kernel_rfl)
theorem r12_1 {β : Type} {inv : Inv} {k : Nat} {x0 x1 : Value} {h : AH} {K : XE → Act → AH → Option β} : kCode env 12 false inv k (cl (cl (cr c12))) (act 26 [(0, x0), (1, x1)]) h K =
    bnd (pLen Try.prog #[25] x0 h) fun x7 =>
    bnd (pLen Try.prog #[25] x1 h) fun x9 =>
    bnd (pBin Try.prog Go.BinOp.neq 3 (Go.Operand.tmp 7) (Go.Operand.tmp 9) x7 x9) fun x10 =>
    K .normal (act 26 [(0, x0), (1, x1), (10, x10)]) h := (k_reg (by kernel_rfl)).trans (by kernel_rfl)
theorem b12_rlr {β : Type} {inv : Inv} {k : Nat} {x0 x1 x10 : Value} {h : AH} {K : XE → Act → AH → Option β} : kCode env 12 false inv k (cr (cl (cr c12))) (act 26 [(0, x0), (1, x1), (10, x10)]) h K = brV x10 (kCode env 12 false inv k (cl (cr (cl (cr c12)))) (act 26 [(0, x0), (1, x1), (10, x10)]) h K) (kCode env 12 false inv k (cr (cr (cl (cr c12)))) (act 26 [(0, x0), (1, x1), (10, x10)]) h K) := (k_cond (by kernel_rfl)).trans (by kernel_rfl)
theorem r12_2 {β : Type} {inv : Inv} {k : Nat} {x0 x1 x10 : Value} {h : AH} {K : XE → Act → AH → Option β} : kCode env 12 false inv k (cl (cl (cr (cl (cr c12))))) (act 26 [(0, x0), (1, x1), (10, x10)]) h K =
    K .normal (act 26 [(4, (Go.Value.bool false))]) h := (k_reg (by kernel_rfl)).trans (by kernel_rfl)
theorem res12_0 {x4 : Value} {h : AH} : resOfFn env.P 12 .ret (act 26 [(4, x4)]) h = some (x4, h) := (resOfFn_k (by kernel_rfl) (by kernel_rfl)).trans (by kernel_rfl)
theorem r12_3 {β : Type} {inv : Inv} {k : Nat} {x0 x1 x10 : Value} {h : AH} {K : XE → Act → AH → Option β} : kCode env 12 false inv k (cl (cl (cr (cr c12)))) (act 26 [(0, x0), (1, x1), (10, x10)]) h K =
    K .normal (act 26 [(0, x0), (1, x1), (5, (Go.Value.int Go.IntKind.i64 0))]) h := (k_reg (by kernel_rfl)).trans (by kernel_rfl)
theorem r12_4 {β : Type} {inv : Inv} {k : Nat} {x0 x1 x5 : Value} {h : AH} {K : XE → Act → AH → Option β} : kCode env 12 false inv k (cl (cl (cl (cl (cr (cl (cr (cr c12)))))))) (act 26 [(0, x0), (1, x1), (5, x5)]) h K =
    bnd (pLen Try.prog #[25] x0 h) fun x13 =>
    bnd (pBin Try.prog Go.BinOp.lss 3 (Go.Operand.tmp 11) (Go.Operand.tmp 13) x5 x13) fun x14 =>
    K .normal (act 26 [(0, x0), (1, x1), (5, x5), (14, x14)]) h := (k_reg (by kernel_rfl)).trans (by kernel_rfl)
theorem b12_rlllrlrr {β : Type} {inv : Inv} {k : Nat} {x0 x1 x5 x14 : Value} {h : AH} {K : XE → Act → AH → Option β} : kCode env 12 false inv k (cr (cl (cl (cl (cr (cl (cr (cr c12)))))))) (act 26 [(0, x0), (1, x1), (5, x5), (14, x14)]) h K = brV x14 (kCode env 12 false inv k (cl (cr (cl (cl (cl (cr (cl (cr (cr c12))))))))) (act 26 [(0, x0), (1, x1), (5, x5), (14, x14)]) h K) (kCode env 12 false inv k (cr (cr (cl (cl (cl (cr (cl (cr (cr c12))))))))) (act 26 [(0, x0), (1, x1), (5, x5), (14, x14)]) h K) := (k_cond (by kernel_rfl)).trans (by kernel_rfl)
theorem r12_6 {β : Type} {inv : Inv} {k : Nat} {x0 x1 x5 x14 : Value} {h : AH} {K : XE → Act → AH → Option β} : kCode env 12 false inv k (cl (cl (cl (cr (cl (cl (cr (cl (cr (cr c12)))))))))) (act 26 [(0, x0), (1, x1), (5, x5), (14, x14)]) h K =
    bnd (pIndexAddr Try.prog 25 x0 x5) fun x19 =>
    bnd (pLoad Try.prog 5 x19 h) fun x20 =>
    bnd (pIndexAddr Try.prog 25 x1 x5) fun x23 =>
    bnd (pLoad Try.prog 5 x23 h) fun x24 =>
    bnd (pBin Try.prog Go.BinOp.neq 5 (Go.Operand.tmp 20) (Go.Operand.tmp 24) x20 x24) fun x25 =>
    K .normal (act 26 [(0, x0), (1, x1), (5, x5), (25, x25)]) h := (k_draw (by kernel_rfl)).trans (by kernel_rfl)
theorem b12_rllrllrlrr {β : Type} {inv : Inv} {k : Nat} {x0 x1 x5 x25 : Value} {h : AH} {K : XE → Act → AH → Option β} : kCode env 12 false inv k (cr (cl (cl (cr (cl (cl (cr (cl (cr (cr c12)))))))))) (act 26 [(0, x0), (1, x1), (5, x5), (25, x25)]) h K = brV x25 (kCode env 12 false inv k (cl (cr (cl (cl (cr (cl (cl (cr (cl (cr (cr c12))))))))))) (act 26 [(0, x0), (1, x1), (5, x5), (25, x25)]) h K) (kCode env 12 false inv k (cr (cr (cl (cl (cr (cl (cl (cr (cl (cr (cr c12))))))))))) (act 26 [(0, x0), (1, x1), (5, x5), (25, x25)]) h K) := (k_cond (by kernel_rfl)).trans (by kernel_rfl)
theorem r12_7 {β : Type} {inv : Inv} {k : Nat} {x0 x1 x5 x25 : Value} {h : AH} {K : XE → Act → AH → Option β} : kCode env 12 false inv k (cl (cl (cr (cl (cl (cr (cl (cl (cr (cl (cr (cr c12)))))))))))) (act 26 [(0, x0), (1, x1), (5, x5), (25, x25)]) h K =
    K .normal (act 26 [(4, (Go.Value.bool false))]) h := (k_reg (by kernel_rfl)).trans (by kernel_rfl)
theorem r12_5 {β : Type} {inv : Inv} {k : Nat} {x0 x1 x5 x25 : Value} {h : AH} {K : XE → Act → AH → Option β} : kCode env 12 false inv k (cr (cr (cl (cl (cr (cl (cr (cr c12)))))))) (act 26 [(0, x0), (1, x1), (5, x5), (25, x25)]) h K =
    bnd (pBin Try.prog Go.BinOp.add 3 (Go.Operand.tmp 15) (Go.Operand.const (Go.Value.int Go.IntKind.i64 1)) x5 (Go.Value.int Go.IntKind.i64 1)) fun x16 =>
    K .normal (act 26 [(0, x0), (1, x1), (5, x16)]) h := (k_reg (by kernel_rfl)).trans (by kernel_rfl)
noncomputable def F12_lrlrr {β : Type} (inv : Inv) (k : Nat) : Nat → Value → Value → Value → AH → (Value → Value → Value → Value → AH → Option β) → (Value → AH → Option β) → Option β
  | 0, _, _, _, _, _, _ => none
  | j + 1, x0, x1, x5, h, ke0, kr =>
    bnd (pLen Try.prog #[25] x0 h) fun x13 =>
    bnd (pBin Try.prog Go.BinOp.lss 3 (Go.Operand.tmp 11) (Go.Operand.tmp 13) x5 x13) fun x14 =>
    brV x14
    (bnd (pIndexAddr Try.prog 25 x0 x5) fun x19 =>
    bnd (pLoad Try.prog 5 x19 h) fun x20 =>
    bnd (pIndexAddr Try.prog 25 x1 x5) fun x23 =>
    bnd (pLoad Try.prog 5 x23 h) fun x24 =>
    bnd (pBin Try.prog Go.BinOp.neq 5 (Go.Operand.tmp 20) (Go.Operand.tmp 24) x20 x24) fun x25 =>
    brV x25
    (kr (Go.Value.bool false) h)
    (bnd (pBin Try.prog Go.BinOp.add 3 (Go.Operand.tmp 15) (Go.Operand.const (Go.Value.int Go.IntKind.i64 1)) x5 (Go.Value.int Go.IntKind.i64 1)) fun x16 =>
    F12_lrlrr inv k j x0 x1 x16 h ke0 kr))
    (ke0 x0 x1 x5 x14 h)
theorem F12_lrlrr_j {β : Type} {inv : Inv} {k : Nat} (j : Nat) {x0 x1 x5 : Value} {h : AH} {K : XE → Act → AH → Option β} : kLoop (kCode env 12 false inv k (cl (cl (cr (cl (cr (cr c12))))))) j (act 26 [(0, x0), (1, x1), (5, x5)]) h K = F12_lrlrr inv k j x0 x1 x5 h (fun y0 y1 y5 y14 h => K (.exit 0) (act 26 [(0, y0), (1, y1), (5, y5), (14, y14)]) h) (fun y4 h => K .ret (act 26 [(4, y4)]) h) := by
      induction j generalizing x0 x1 x5 h with
      | zero => rfl
      | succ j ih =>
        unfold F12_lrlrr
        simp only [kLoop, k_seq (E := env) (f := 12) (c := (cl (cl (cr (cl (cr (cr c12))))))) (by kernel_rfl), k_seq (E := env) (f := 12) (c := (cl (cl (cl (cr (cl (cr (cr c12)))))))) (by kernel_rfl), r12_4, b12_rlllrlrr, k_skip (E := env) (f := 12) (c := (cl (cr (cl (cl (cl (cr (cl (cr (cr c12)))))))))) (by kernel_rfl), k_seq (E := env) (f := 12) (c := (cr (cl (cl (cr (cl (cr (cr c12)))))))) (by kernel_rfl), k_block (E := env) (f := 12) (c := (cl (cr (cl (cl (cr (cl (cr (cr c12))))))))) (id := 1) (by kernel_rfl), k_seq (E := env) (f := 12) (c := (cl (cl (cr (cl (cl (cr (cl (cr (cr c12)))))))))) (by kernel_rfl), r12_6, b12_rllrllrlrr, k_seq (E := env) (f := 12) (c := (cl (cr (cl (cl (cr (cl (cl (cr (cl (cr (cr c12)))))))))))) (by kernel_rfl), r12_7, k_ret (E := env) (f := 12) (c := (cr (cl (cr (cl (cl (cr (cl (cl (cr (cl (cr (cr c12))))))))))))) (by kernel_rfl), k_skip (E := env) (f := 12) (c := (cr (cr (cl (cl (cr (cl (cl (cr (cl (cr (cr c12)))))))))))) (by kernel_rfl), r12_5, k_exit (E := env) (f := 12) (c := (cr (cr (cl (cl (cl (cr (cl (cr (cr c12)))))))))) (id := 0) (by kernel_rfl), ih, reduceIte, reduceCtorEq, XE.exit.injEq, Nat.reduceEqDiff] <;> kernel_rfl
theorem F12_lrlrr_eq {β : Type} {inv : Inv} {k : Nat} {x0 x1 x5 : Value} {h : AH} {K : XE → Act → AH → Option β} : kCode env 12 false inv k (cl (cr (cl (cr (cr c12))))) (act 26 [(0, x0), (1, x1), (5, x5)]) h K = F12_lrlrr inv k k x0 x1 x5 h (fun y0 y1 y5 y14 h => K (.exit 0) (act 26 [(0, y0), (1, y1), (5, y5), (14, y14)]) h) (fun y4 h => K .ret (act 26 [(4, y4)]) h) := (k_loop (by kernel_rfl)).trans (F12_lrlrr_j k)
theorem r12_8 {β : Type} {inv : Inv} {k : Nat} {x0 x1 x5 x14 : Value} {h : AH} {K : XE → Act → AH → Option β} : kCode env 12 false inv k (cl (cr (cr (cr c12)))) (act 26 [(0, x0), (1, x1), (5, x5), (14, x14)]) h K =
    K .normal (act 26 [(4, (Go.Value.bool true))]) h := (k_reg (by kernel_rfl)).trans (by kernel_rfl)
/-- shadowbook/shadowbookkit.Same[byte] -/
noncomputable def F12 (inv : Inv) (k : Nat) (x0 x1 : Value) (h : AH) : Option (Value × AH) :=
    bnd (pLen Try.prog #[25] x0 h) fun x7 =>
    bnd (pLen Try.prog #[25] x1 h) fun x9 =>
    bnd (pBin Try.prog Go.BinOp.neq 3 (Go.Operand.tmp 7) (Go.Operand.tmp 9) x7 x9) fun x10 =>
    brV x10
    (some ((Go.Value.bool false), h))
    (F12_lrlrr inv k k x0 x1 (Go.Value.int Go.IntKind.i64 0) h
    (fun y0 y1 y5 y14 h =>
    some ((Go.Value.bool true), h))
    (fun y4 h_1 =>
    some (y4, h_1)))
theorem F12_eq {inv : Inv} {k : Nat} {x0 x1 : Value} {h : AH} : eFun env k inv 12 #[x0, x1] h = F12 inv k x0 x1 h := by
      refine (eFun_k2 (by kernel_rfl) (by kernel_rfl) (by kernel_rfl) (a := act 26 [(0, x0), (1, x1)]) (c := c12) (by kernel_rfl) (by kernel_rfl)).trans ?_
      unfold F12
      simp only [k_seq (E := env) (f := 12) (c := c12) (by kernel_rfl), r12_0, k_seq (E := env) (f := 12) (c := (cr c12)) (by kernel_rfl), k_seq (E := env) (f := 12) (c := (cl (cr c12))) (by kernel_rfl), r12_1, b12_rlr, k_seq (E := env) (f := 12) (c := (cl (cr (cl (cr c12))))) (by kernel_rfl), r12_2, k_ret (E := env) (f := 12) (c := (cr (cl (cr (cl (cr c12)))))) (by kernel_rfl), res12_0, k_skip (E := env) (f := 12) (c := (cr (cr (cl (cr c12))))) (by kernel_rfl), k_seq (E := env) (f := 12) (c := (cr (cr c12))) (by kernel_rfl), k_seq (E := env) (f := 12) (c := (cl (cr (cr c12)))) (by kernel_rfl), r12_3, k_block (E := env) (f := 12) (c := (cr (cl (cr (cr c12))))) (id := 0) (by kernel_rfl), F12_lrlrr_eq, k_seq (E := env) (f := 12) (c := (cr (cr (cr c12)))) (by kernel_rfl), r12_8, k_ret (E := env) (f := 12) (c := (cr (cr (cr (cr c12))))) (by kernel_rfl), reduceIte, reduceCtorEq, XE.exit.injEq, Nat.reduceEqDiff] <;> kernel_rfl
theorem F12_call {k : Nat} {x0 x1 : Value} {h : AH} : eInv env (k + 1) (.func 12) #[] #[x0, x1] h = F12 (eInv env k) k x0 x1 h := (inv_func (by kernel_rfl)).trans F12_eq
noncomputable def c15 : Code := codeOf Try.prog 15
theorem r15_0 {β : Type} {inv : Inv} {k : Nat} {x0 : Value} {h : AH} {K : XE → Act → AH → Option β} : kCode env 15 false inv k (cl c15) (act 18 [(0, x0)]) h K =
    K .normal (act 18 [(0, x0)]) h := (k_reg (by kernel_rfl)).trans (by kernel_rfl)
theorem r15_1 {β : Type} {inv : Inv} {k : Nat} {x0 : Value} {h : AH} {K : XE → Act → AH → Option β} : kCode env 15 false inv k (cl (cr c15)) (act 18 [(0, x0)]) h K =
    K .normal (act 18 [(0, x0), (3, (Go.Value.int Go.IntKind.u64 0))]) h := (k_reg (by kernel_rfl)).trans (by kernel_rfl)
theorem r15_2 {β : Type} {inv : Inv} {k : Nat} {x0 x3 : Value} {h : AH} {K : XE → Act → AH → Option β} : kCode env 15 false inv k (cl (cl (cr (cr c15)))) (act 18 [(0, x0), (3, x3)]) h K =
    bnd (pLen Try.prog #[22] x0 h) fun x7 =>
    K .normal (act 18 [(3, x3), (6, x0), (7, x7), (8, (Go.Value.int Go.IntKind.i64 0))]) h := (k_reg (by kernel_rfl)).trans (by kernel_rfl)
theorem r15_3 {β : Type} {inv : Inv} {k : Nat} {x3 x6 x7 x8 : Value} {h : AH} {K : XE → Act → AH → Option β} : kCode env 15 false inv k (cl (cl (cl (cr (cl (cr (cr c15))))))) (act 18 [(3, x3), (6, x6), (7, x7), (8, x8)]) h K =
    bnd (pBin Try.prog Go.BinOp.lss 3 (Go.Operand.tmp 8) (Go.Operand.tmp 7) x8 x7) fun x9 =>
    K .normal (act 18 [(3, x3), (6, x6), (7, x7), (8, x8), (9, x9)]) h := (k_reg (by kernel_rfl)).trans (by kernel_rfl)
theorem b15_lrllrlrr {β : Type} {inv : Inv} {k : Nat} {x3 x6 x7 x8 x9 : Value} {h : AH} {K : XE → Act → AH → Option β} : kCode env 15 false inv k (cl (cr (cl (cl (cr (cl (cr (cr c15)))))))) (act 18 [(3, x3), (6, x6), (7, x7), (8, x8), (9, x9)]) h K = brV x9 (kCode env 15 false inv k (cl (cl (cr (cl (cl (cr (cl (cr (cr c15))))))))) (act 18 [(3, x3), (6, x6), (7, x7), (8, x8), (9, x9)]) h K) (kCode env 15 false inv k (cr (cl (cr (cl (cl (cr (cl (cr (cr c15))))))))) (act 18 [(3, x3), (6, x6), (7, x7), (8, x8), (9, x9)]) h K) := (k_cond (by kernel_rfl)).trans (by kernel_rfl)
theorem r15_4 {β : Type} {inv : Inv} {k : Nat} {x3 x6 x7 x8 x9 : Value} {h : AH} {K : XE → Act → AH → Option β} : kCode env 15 false inv k (cl (cl (cl (cr (cr (cl (cl (cr (cl (cr (cr c15))))))))))) (act 18 [(3, x3), (6, x6), (7, x7), (8, x8), (9, x9)]) h K =
    bnd (pIndexAddr Try.prog 22 x6 x8) fun x10 =>
    bnd (pLoad Try.prog 30 x10 h) fun x11 =>
    K .normal (act 18 [(3, x3), (5, x11), (6, x6), (7, x7), (8, x8)]) h := (k_reg (by kernel_rfl)).trans (by kernel_rfl)
theorem r15_5 {β : Type} {inv : Inv} {k : Nat} {x3 x5 x6 x7 x8 : Value} {h : AH} {K : XE → Act → AH → Option β} : kCode env 15 false inv k (cr (cl (cl (cr (cr (cl (cl (cr (cl (cr (cr c15))))))))))) (act 18 [(3, x3), (5, x5), (6, x6), (7, x7), (8, x8)]) h K =
    bnd (pBin Try.prog Go.BinOp.or 30 (Go.Operand.tmp 12) (Go.Operand.tmp 13) x3 x5) fun x14 =>
    K .normal (act 18 [(3, x14), (6, x6), (7, x7), (8, x8)]) h := (k_reg (by kernel_rfl)).trans (by kernel_rfl)
theorem r15_6 {β : Type} {inv : Inv} {k : Nat} {x3 x6 x7 x8 : Value} {h : AH} {K : XE → Act → AH → Option β} : kCode env 15 false inv k (cr (cr (cr (cl (cl (cr (cl (cr (cr c15))))))))) (act 18 [(3, x3), (6, x6), (7, x7), (8, x8)]) h K =
    bnd (pBin Try.prog Go.BinOp.add 3 (Go.Operand.tmp 8) (Go.Operand.const (Go.Value.int Go.IntKind.i64 1)) x8 (Go.Value.int Go.IntKind.i64 1)) fun x15 =>
    K .normal (act 18 [(3, x3), (6, x6), (7, x7), (8, x15)]) h := (k_reg (by kernel_rfl)).trans (by kernel_rfl)
noncomputable def F15_lrlrr {β : Type} (inv : Inv) (k : Nat) : Nat → Value → Value → Value → Value → AH → (Value → Value → Value → Value → Value → AH → Option β) → Option β
  | 0, _, _, _, _, _, _ => none
  | j + 1, x3, x6, x7, x8, h, ke0 =>
    bnd (pBin Try.prog Go.BinOp.lss 3 (Go.Operand.tmp 8) (Go.Operand.tmp 7) x8 x7) fun x9 =>
    brV x9
    (bnd (pIndexAddr Try.prog 22 x6 x8) fun x10 =>
    bnd (pLoad Try.prog 30 x10 h) fun x11 =>
    bnd (pBin Try.prog Go.BinOp.or 30 (Go.Operand.tmp 12) (Go.Operand.tmp 13) x3 x11) fun x14 =>
    bnd (pBin Try.prog Go.BinOp.add 3 (Go.Operand.tmp 8) (Go.Operand.const (Go.Value.int Go.IntKind.i64 1)) x8 (Go.Value.int Go.IntKind.i64 1)) fun x15 =>
    F15_lrlrr inv k j x14 x6 x7 x15 h ke0)
    (ke0 x3 x6 x7 x8 x9 h)
theorem F15_lrlrr_j {β : Type} {inv : Inv} {k : Nat} (j : Nat) {x3 x6 x7 x8 : Value} {h : AH} {K : XE → Act → AH → Option β} : kLoop (kCode env 15 false inv k (cl (cl (cr (cl (cr (cr c15))))))) j (act 18 [(3, x3), (6, x6), (7, x7), (8, x8)]) h K = F15_lrlrr inv k j x3 x6 x7 x8 h (fun y3 y6 y7 y8 y9 h => K (.exit 0) (act 18 [(3, y3), (6, y6), (7, y7), (8, y8), (9, y9)]) h) := by
      induction j generalizing x3 x6 x7 x8 h with
      | zero => rfl
      | succ j ih =>
        unfold F15_lrlrr
        simp only [kLoop, k_seq (E := env) (f := 15) (c := (cl (cl (cr (cl (cr (cr c15))))))) (by kernel_rfl), r15_3, k_seq (E := env) (f := 15) (c := (cr (cl (cl (cr (cl (cr (cr c15)))))))) (by kernel_rfl), b15_lrllrlrr, k_skip (E := env) (f := 15) (c := (cl (cl (cr (cl (cl (cr (cl (cr (cr c15)))))))))) (by kernel_rfl), k_seq (E := env) (f := 15) (c := (cr (cr (cl (cl (cr (cl (cr (cr c15))))))))) (by kernel_rfl), k_block (E := env) (f := 15) (c := (cl (cr (cr (cl (cl (cr (cl (cr (cr c15)))))))))) (id := 1) (by kernel_rfl), k_seq (E := env) (f := 15) (c := (cl (cl (cr (cr (cl (cl (cr (cl (cr (cr c15))))))))))) (by kernel_rfl), r15_4, r15_5, r15_6, k_exit (E := env) (f := 15) (c := (cr (cl (cr (cl (cl (cr (cl (cr (cr c15)))))))))) (id := 0) (by kernel_rfl), ih, reduceIte, reduceCtorEq, XE.exit.injEq, Nat.reduceEqDiff] <;> kernel_rfl
theorem F15_lrlrr_eq {β : Type} {inv : Inv} {k : Nat} {x3 x6 x7 x8 : Value} {h : AH} {K : XE → Act → AH → Option β} : kCode env 15 false inv k (cl (cr (cl (cr (cr c15))))) (act 18 [(3, x3), (6, x6), (7, x7), (8, x8)]) h K = F15_lrlrr inv k k x3 x6 x7 x8 h (fun y3 y6 y7 y8 y9 h => K (.exit 0) (act 18 [(3, y3), (6, y6), (7, y7), (8, y8), (9, y9)]) h) := (k_loop (by kernel_rfl)).trans (F15_lrlrr_j k)
theorem r15_7 {β : Type} {inv : Inv} {k : Nat} {x3 x6 x7 x8 x9 : Value} {h : AH} {K : XE → Act → AH → Option β} : kCode env 15 false inv k (cl (cr (cr (cr c15)))) (act 18 [(3, x3), (6, x6), (7, x7), (8, x8), (9, x9)]) h K =
    bnd (inv (.func 26) #[] #[x3] h) fun x17 =>
    K .normal (act 18 [(2, x17.1)]) x17.2 := (k_reg (by kernel_rfl)).trans (by kernel_rfl)
theorem res15_0 {x2 : Value} {h : AH} : resOfFn env.P 15 .ret (act 18 [(2, x2)]) h = some (x2, h) := (resOfFn_k (by kernel_rfl) (by kernel_rfl)).trans (by kernel_rfl)
/-- shadowbook/packs.Width -/
noncomputable def F15 (inv : Inv) (k : Nat) (x0 : Value) (h : AH) : Option (Value × AH) :=
    bnd (pLen Try.prog #[22] x0 h) fun x7 =>
    F15_lrlrr inv k k (Go.Value.int Go.IntKind.u64 0) x0 x7 (Go.Value.int Go.IntKind.i64 0) h
    (fun y3 y6 y7 y8 y9 h =>
    bnd (inv (.func 26) #[] #[y3] h) fun x17 =>
    some (x17.1, x17.2))
theorem F15_eq {inv : Inv} {k : Nat} {x0 : Value} {h : AH} : eFun env k inv 15 #[x0] h = F15 inv k x0 h := by
      refine (eFun_k2 (by kernel_rfl) (by kernel_rfl) (by kernel_rfl) (a := act 18 [(0, x0)]) (c := c15) (by kernel_rfl) (by kernel_rfl)).trans ?_
      unfold F15
      simp only [k_seq (E := env) (f := 15) (c := c15) (by kernel_rfl), r15_0, k_seq (E := env) (f := 15) (c := (cr c15)) (by kernel_rfl), r15_1, k_seq (E := env) (f := 15) (c := (cr (cr c15))) (by kernel_rfl), k_seq (E := env) (f := 15) (c := (cl (cr (cr c15)))) (by kernel_rfl), r15_2, k_block (E := env) (f := 15) (c := (cr (cl (cr (cr c15))))) (id := 0) (by kernel_rfl), F15_lrlrr_eq, k_seq (E := env) (f := 15) (c := (cr (cr (cr c15)))) (by kernel_rfl), r15_7, k_ret (E := env) (f := 15) (c := (cr (cr (cr (cr c15))))) (by kernel_rfl), res15_0, reduceIte, reduceCtorEq, XE.exit.injEq, Nat.reduceEqDiff] <;> kernel_rfl
theorem F15_call {k : Nat} {x0 : Value} {h : AH} : eInv env (k + 1) (.func 15) #[] #[x0] h = F15 (eInv env k) k x0 h := (inv_func (by kernel_rfl)).trans F15_eq
noncomputable def c16 : Code := codeOf Try.prog 16
theorem r16_0 {β : Type} {inv : Inv} {k : Nat} {x0 x1 : Value} {h : AH} {K : XE → Act → AH → Option β} : kCode env 16 false inv k (cl c16) (act 15 [(0, x0), (1, x1)]) h K =
    K .normal (act 15 [(0, x0), (1, x1)]) h := (k_reg (by kernel_rfl)).trans (by kernel_rfl)
theorem r16_1 {β : Type} {inv : Inv} {k : Nat} {x0 x1 : Value} {h : AH} {K : XE → Act → AH → Option β} : kCode env 16 false inv k (cl (cl (cr c16))) (act 15 [(0, x0), (1, x1)]) h K =
    bnd (inv (.func 23) #[] #[x0, x1] h) fun x7 =>
    bnd (pUn Try.prog Go.UnOp.not x7.1) fun x8 =>
    K .normal (act 15 [(0, x0), (1, x1), (8, x8)]) x7.2 := (k_reg (by kernel_rfl)).trans (by kernel_rfl)
theorem b16_rlr {β : Type} {inv : Inv} {k : Nat} {x0 x1 x8 : Value} {h : AH} {K : XE → Act → AH → Option β} : kCode env 16 false inv k (cr (cl (cr c16))) (act 15 [(0, x0), (1, x1), (8, x8)]) h K = brV x8 (kCode env 16 false inv k (cl (cr (cl (cr c16)))) (act 15 [(0, x0), (1, x1), (8, x8)]) h K) (kCode env 16 false inv k (cr (cr (cl (cr c16)))) (act 15 [(0, x0), (1, x1), (8, x8)]) h K) := (k_cond (by kernel_rfl)).trans (by kernel_rfl)
theorem r16_2 {β : Type} {inv : Inv} {k : Nat} {x0 x1 x8 : Value} {h : AH} {K : XE → Act → AH → Option β} : kCode env 16 false inv k (cl (cl (cr (cl (cr c16))))) (act 15 [(0, x0), (1, x1), (8, x8)]) h K =
    K .normal (act 15 [(4, (Go.Value.int Go.IntKind.i64 0))]) h := (k_reg (by kernel_rfl)).trans (by kernel_rfl)
theorem res16_0 {x4 : Value} {h : AH} : resOfFn env.P 16 .ret (act 15 [(4, x4)]) h = some (x4, h) := (resOfFn_k (by kernel_rfl) (by kernel_rfl)).trans (by kernel_rfl)
theorem r16_3 {β : Type} {inv : Inv} {k : Nat} {x0 x1 x8 : Value} {h : AH} {K : XE → Act → AH → Option β} : kCode env 16 false inv k (cl (cr (cr c16))) (act 15 [(0, x0), (1, x1), (8, x8)]) h K =
    bnd (pBin Try.prog Go.BinOp.mul 3 (Go.Operand.tmp 9) (Go.Operand.tmp 10) x0 x1) fun x11 =>
    bnd (pBin Try.prog Go.BinOp.add 3 (Go.Operand.tmp 11) (Go.Operand.const (Go.Value.int Go.IntKind.i64 8)) x11 (Go.Value.int Go.IntKind.i64 8)) fun x12 =>
    bnd (pBin Try.prog Go.BinOp.sub 3 (Go.Operand.tmp 12) (Go.Operand.const (Go.Value.int Go.IntKind.i64 1)) x12 (Go.Value.int Go.IntKind.i64 1)) fun x13 =>
    bnd (pBin Try.prog Go.BinOp.quo 3 (Go.Operand.tmp 13) (Go.Operand.const (Go.Value.int Go.IntKind.i64 8)) x13 (Go.Value.int Go.IntKind.i64 8)) fun x14 =>
    K .normal (act 15 [(4, x14)]) h := (k_reg (by kernel_rfl)).trans (by kernel_rfl)
/-- shadowbook/packs.Size -/
noncomputable def F16 (inv : Inv) (k : Nat) (x0 x1 : Value) (h : AH) : Option (Value × AH) :=
    bnd (inv (.func 23) #[] #[x0, x1] h) fun x7 =>
    bnd (pUn Try.prog Go.UnOp.not x7.1) fun x8 =>
    brV x8
    (some ((Go.Value.int Go.IntKind.i64 0), x7.2))
    (bnd (pBin Try.prog Go.BinOp.mul 3 (Go.Operand.tmp 9) (Go.Operand.tmp 10) x0 x1) fun x11 =>
    bnd (pBin Try.prog Go.BinOp.add 3 (Go.Operand.tmp 11) (Go.Operand.const (Go.Value.int Go.IntKind.i64 8)) x11 (Go.Value.int Go.IntKind.i64 8)) fun x12 =>
    bnd (pBin Try.prog Go.BinOp.sub 3 (Go.Operand.tmp 12) (Go.Operand.const (Go.Value.int Go.IntKind.i64 1)) x12 (Go.Value.int Go.IntKind.i64 1)) fun x13 =>
    bnd (pBin Try.prog Go.BinOp.quo 3 (Go.Operand.tmp 13) (Go.Operand.const (Go.Value.int Go.IntKind.i64 8)) x13 (Go.Value.int Go.IntKind.i64 8)) fun x14 =>
    some (x14, x7.2))
theorem F16_eq {inv : Inv} {k : Nat} {x0 x1 : Value} {h : AH} : eFun env k inv 16 #[x0, x1] h = F16 inv k x0 x1 h := by
      refine (eFun_k2 (by kernel_rfl) (by kernel_rfl) (by kernel_rfl) (a := act 15 [(0, x0), (1, x1)]) (c := c16) (by kernel_rfl) (by kernel_rfl)).trans ?_
      unfold F16
      simp only [k_seq (E := env) (f := 16) (c := c16) (by kernel_rfl), r16_0, k_seq (E := env) (f := 16) (c := (cr c16)) (by kernel_rfl), k_seq (E := env) (f := 16) (c := (cl (cr c16))) (by kernel_rfl), r16_1, b16_rlr, k_seq (E := env) (f := 16) (c := (cl (cr (cl (cr c16))))) (by kernel_rfl), r16_2, k_ret (E := env) (f := 16) (c := (cr (cl (cr (cl (cr c16)))))) (by kernel_rfl), res16_0, k_skip (E := env) (f := 16) (c := (cr (cr (cl (cr c16))))) (by kernel_rfl), k_seq (E := env) (f := 16) (c := (cr (cr c16))) (by kernel_rfl), r16_3, k_ret (E := env) (f := 16) (c := (cr (cr (cr c16)))) (by kernel_rfl), reduceIte, reduceCtorEq, XE.exit.injEq, Nat.reduceEqDiff] <;> kernel_rfl
theorem F16_call {k : Nat} {x0 x1 : Value} {h : AH} : eInv env (k + 1) (.func 16) #[] #[x0, x1] h = F16 (eInv env k) k x0 x1 h := (inv_func (by kernel_rfl)).trans F16_eq
noncomputable def c23 : Code := codeOf Try.prog 23
theorem r23_0 {β : Type} {inv : Inv} {k : Nat} {x0 x1 : Value} {h : AH} {K : XE → Act → AH → Option β} : kCode env 23 false inv k (cl c23) (act 19 [(0, x0), (1, x1)]) h K =
    K .normal (act 19 [(0, x0), (1, x1)]) h := (k_reg (by kernel_rfl)).trans (by kernel_rfl)
theorem r23_1 {β : Type} {inv : Inv} {k : Nat} {x0 x1 : Value} {h : AH} {K : XE → Act → AH → Option β} : kCode env 23 false inv k (cl (cr c23)) (act 19 [(0, x0), (1, x1)]) h K =
    bnd (pBin Try.prog Go.BinOp.geq 3 (Go.Operand.tmp 5) (Go.Operand.const (Go.Value.int Go.IntKind.i64 0)) x0 (Go.Value.int Go.IntKind.i64 0)) fun x6 =>
    bnd (gd (some x6) true h (some (x0, h))) fun x8 =>
    bnd (gd (some x6) true x8.2 (lt (pBin Try.prog Go.BinOp.leq 3 (Go.Operand.tmp 8) (Go.Operand.const (Go.Value.int Go.IntKind.i64 65536)) x8.1 (Go.Value.int Go.IntKind.i64 65536)) x8.2)) fun x9 =>
    bnd (pickV x6 x9.1 (Go.Value.bool false)) fun x10 =>
    bnd (gd (some x10) true x9.2 (some (x1, x9.2))) fun x12 =>
    bnd (gd (some x10) true x12.2 (lt (pBin Try.prog Go.BinOp.geq 3 (Go.Operand.tmp 12) (Go.Operand.const (Go.Value.int Go.IntKind.i64 0)) x12.1 (Go.Value.int Go.IntKind.i64 0)) x12.2)) fun x13 =>
    bnd (pickV x10 x13.1 (Go.Value.bool false)) fun x14 =>
    bnd (gd (some x14) true x13.2 (some (x1, x13.2))) fun x16 =>
    bnd (gd (some x14) true x16.2 (lt (pBin Try.prog Go.BinOp.leq 3 (Go.Operand.tmp 16) (Go.Operand.const (Go.Value.int Go.IntKind.i64 64)) x16.1 (Go.Value.int Go.IntKind.i64 64)) x16.2)) fun x17 =>
    bnd (pickV x14 x17.1 (Go.Value.bool false)) fun x18 =>
    K .normal (act 19 [(4, x18)]) x17.2 := (k_reg (by kernel_rfl)).trans (by kernel_rfl)
theorem res23_0 {x4 : Value} {h : AH} : resOfFn env.P 23 .ret (act 19 [(4, x4)]) h = some (x4, h) := (resOfFn_k (by kernel_rfl) (by kernel_rfl)).trans (by kernel_rfl)
/-- shadowbook/packs.may -/
noncomputable def F23 (inv : Inv) (k : Nat) (x0 x1 : Value) (h : AH) : Option (Value × AH) :=
    bnd (pBin Try.prog Go.BinOp.geq 3 (Go.Operand.tmp 5) (Go.Operand.const (Go.Value.int Go.IntKind.i64 0)) x0 (Go.Value.int Go.IntKind.i64 0)) fun x6 =>
    bnd (gd (some x6) true h (some (x0, h))) fun x8 =>
    bnd (gd (some x6) true x8.2 (lt (pBin Try.prog Go.BinOp.leq 3 (Go.Operand.tmp 8) (Go.Operand.const (Go.Value.int Go.IntKind.i64 65536)) x8.1 (Go.Value.int Go.IntKind.i64 65536)) x8.2)) fun x9 =>
    bnd (pickV x6 x9.1 (Go.Value.bool false)) fun x10 =>
    bnd (gd (some x10) true x9.2 (some (x1, x9.2))) fun x12 =>
    bnd (gd (some x10) true x12.2 (lt (pBin Try.prog Go.BinOp.geq 3 (Go.Operand.tmp 12) (Go.Operand.const (Go.Value.int Go.IntKind.i64 0)) x12.1 (Go.Value.int Go.IntKind.i64 0)) x12.2)) fun x13 =>
    bnd (pickV x10 x13.1 (Go.Value.bool false)) fun x14 =>
    bnd (gd (some x14) true x13.2 (some (x1, x13.2))) fun x16 =>
    bnd (gd (some x14) true x16.2 (lt (pBin Try.prog Go.BinOp.leq 3 (Go.Operand.tmp 16) (Go.Operand.const (Go.Value.int Go.IntKind.i64 64)) x16.1 (Go.Value.int Go.IntKind.i64 64)) x16.2)) fun x17 =>
    bnd (pickV x14 x17.1 (Go.Value.bool false)) fun x18 =>
    some (x18, x17.2)
theorem F23_eq {inv : Inv} {k : Nat} {x0 x1 : Value} {h : AH} : eFun env k inv 23 #[x0, x1] h = F23 inv k x0 x1 h := by
      refine (eFun_k2 (by kernel_rfl) (by kernel_rfl) (by kernel_rfl) (a := act 19 [(0, x0), (1, x1)]) (c := c23) (by kernel_rfl) (by kernel_rfl)).trans ?_
      unfold F23
      simp only [k_seq (E := env) (f := 23) (c := c23) (by kernel_rfl), r23_0, k_seq (E := env) (f := 23) (c := (cr c23)) (by kernel_rfl), r23_1, k_ret (E := env) (f := 23) (c := (cr (cr c23))) (by kernel_rfl), res23_0, reduceIte, reduceCtorEq, XE.exit.injEq, Nat.reduceEqDiff] <;> kernel_rfl
theorem F23_call {k : Nat} {x0 x1 : Value} {h : AH} : eInv env (k + 1) (.func 23) #[] #[x0, x1] h = F23 (eInv env k) k x0 x1 h := (inv_func (by kernel_rfl)).trans F23_eq
noncomputable def c24 : Code := codeOf Try.prog 24
theorem r24_0 {β : Type} {inv : Inv} {k : Nat} {x0 x1 x2 x3 : Value} {h : AH} {K : XE → Act → AH → Option β} : kCode env 24 false inv k (cl c24) (act 18 [(0, x0), (1, x1), (2, x2), (3, x3)]) h K =
    bnd (pLoad Try.prog 5 x1 h) fun x5 =>
    bnd (pLoad Try.prog 3 x2 h) fun x7 =>
    bnd (pBin Try.prog Go.BinOp.shl 5 (Go.Operand.tmp 6) (Go.Operand.tmp 7) x0 x7) fun x8 =>
    bnd (pBin Try.prog Go.BinOp.or 5 (Go.Operand.tmp 5) (Go.Operand.tmp 8) x5 x8) fun x9 =>
    bnd (kSt (pStore Try.prog 5 x1 x9 h)) fun u =>
    K .normal (act 18 [(1, x1), (2, x2), (3, x3)]) u.2 := (k_draw (by kernel_rfl)).trans (by kernel_rfl)
theorem r24_1 {β : Type} {inv : Inv} {k : Nat} {x1 x2 x3 : Value} {h : AH} {K : XE → Act → AH → Option β} : kCode env 24 false inv k (cl (cr c24)) (act 18 [(1, x1), (2, x2), (3, x3)]) h K =
    bnd (pLoad Try.prog 3 x2 h) fun x10 =>
    bnd (pBin Try.prog Go.BinOp.add 3 (Go.Operand.tmp 10) (Go.Operand.const (Go.Value.int Go.IntKind.i64 1)) x10 (Go.Value.int Go.IntKind.i64 1)) fun x11 =>
    bnd (kSt (pStore Try.prog 3 x2 x11 h)) fun u =>
    K .normal (act 18 [(1, x1), (2, x2), (3, x3)]) u.2 := (k_reg (by kernel_rfl)).trans (by kernel_rfl)
theorem r24_2 {β : Type} {inv : Inv} {k : Nat} {x1 x2 x3 : Value} {h : AH} {K : XE → Act → AH → Option β} : kCode env 24 false inv k (cl (cr (cr c24))) (act 18 [(1, x1), (2, x2), (3, x3)]) h K =
    bnd (pLoad Try.prog 3 x2 h) fun x12 =>
    bnd (pBin Try.prog Go.BinOp.eql 3 (Go.Operand.tmp 12) (Go.Operand.const (Go.Value.int Go.IntKind.i64 8)) x12 (Go.Value.int Go.IntKind.i64 8)) fun x13 =>
    K .normal (act 18 [(1, x1), (2, x2), (3, x3), (13, x13)]) h := (k_reg (by kernel_rfl)).trans (by kernel_rfl)
theorem b24_rrr {β : Type} {inv : Inv} {k : Nat} {x1 x2 x3 x13 : Value} {h : AH} {K : XE → Act → AH → Option β} : kCode env 24 false inv k (cr (cr (cr c24))) (act 18 [(1, x1), (2, x2), (3, x3), (13, x13)]) h K = brV x13 (kCode env 24 false inv k (cl (cr (cr (cr c24)))) (act 18 [(1, x1), (2, x2), (3, x3), (13, x13)]) h K) (kCode env 24 false inv k (cr (cr (cr (cr c24)))) (act 18 [(1, x1), (2, x2), (3, x3), (13, x13)]) h K) := (k_cond (by kernel_rfl)).trans (by kernel_rfl)
theorem r24_3 {β : Type} {inv : Inv} {k : Nat} {x1 x2 x3 x13 : Value} {h : AH} {K : XE → Act → AH → Option β} : kCode env 24 false inv k (cl (cl (cr (cr (cr c24))))) (act 18 [(1, x1), (2, x2), (3, x3), (13, x13)]) h K =
    bnd (pLoad Try.prog 25 x3 h) fun x14 =>
    bnd (pLoad Try.prog 5 x1 h) fun x15 =>
    bnd (pBuildSlice Try.prog 25 1 #[(0, x15)] h) fun x16 =>
    bnd (pAppend Try.prog #[25, 25] x14 x16.1 x16.2) fun x17 =>
    bnd (kSt (pStore Try.prog 25 x3 x17.1 x17.2)) fun u =>
    K .normal (act 18 [(1, x1), (2, x2)]) u.2 := (k_reg (by kernel_rfl)).trans (by kernel_rfl)
theorem r24_4 {β : Type} {inv : Inv} {k : Nat} {x1 x2 : Value} {h : AH} {K : XE → Act → AH → Option β} : kCode env 24 false inv k (cr (cl (cr (cr (cr c24))))) (act 18 [(1, x1), (2, x2)]) h K =
    bnd (kSt (pStore Try.prog 5 x1 (Go.Value.int Go.IntKind.u8 0) h)) fun u =>
    bnd (kSt (pStore Try.prog 3 x2 (Go.Value.int Go.IntKind.i64 0) u.2)) fun u_3 =>
    K .normal (act 18 []) u_3.2 := (k_reg (by kernel_rfl)).trans (by kernel_rfl)
theorem res24_0 {h : AH} : resOfFn env.P 24 .normal (act 18 []) h = some (.tuple #[], h) := (resOfFn_k (by kernel_rfl) (by kernel_rfl)).trans (by kernel_rfl)
theorem res24_1 {x1 x2 x3 x13 : Value} {h : AH} : resOfFn env.P 24 .normal (act 18 [(1, x1), (2, x2), (3, x3), (13, x13)]) h = some (.tuple #[], h) := (resOfFn_k (by kernel_rfl) (by kernel_rfl)).trans (by kernel_rfl)
/-- shadowbook/packs.Put$1 -/
noncomputable def F24 (inv : Inv) (k : Nat) (x0 x1 x2 x3 : Value) (h : AH) : Option (Value × AH) :=
    bnd (pLoad Try.prog 5 x1 h) fun x5 =>
    bnd (pLoad Try.prog 3 x2 h) fun x7 =>
    bnd (pBin Try.prog Go.BinOp.shl 5 (Go.Operand.tmp 6) (Go.Operand.tmp 7) x0 x7) fun x8 =>
    bnd (pBin Try.prog Go.BinOp.or 5 (Go.Operand.tmp 5) (Go.Operand.tmp 8) x5 x8) fun x9 =>
    bnd (kSt (pStore Try.prog 5 x1 x9 h)) fun u =>
    bnd (pLoad Try.prog 3 x2 u.2) fun x10 =>
    bnd (pBin Try.prog Go.BinOp.add 3 (Go.Operand.tmp 10) (Go.Operand.const (Go.Value.int Go.IntKind.i64 1)) x10 (Go.Value.int Go.IntKind.i64 1)) fun x11 =>
    bnd (kSt (pStore Try.prog 3 x2 x11 u.2)) fun u_1 =>
    bnd (pLoad Try.prog 3 x2 u_1.2) fun x12 =>
    bnd (pBin Try.prog Go.BinOp.eql 3 (Go.Operand.tmp 12) (Go.Operand.const (Go.Value.int Go.IntKind.i64 8)) x12 (Go.Value.int Go.IntKind.i64 8)) fun x13 =>
    brV x13
    (bnd (pLoad Try.prog 25 x3 u_1.2) fun x14 =>
    bnd (pLoad Try.prog 5 x1 u_1.2) fun x15 =>
    bnd (pBuildSlice Try.prog 25 1 #[(0, x15)] u_1.2) fun x16 =>
    bnd (pAppend Try.prog #[25, 25] x14 x16.1 x16.2) fun x17 =>
    bnd (kSt (pStore Try.prog 25 x3 x17.1 x17.2)) fun u_2 =>
    bnd (kSt (pStore Try.prog 5 x1 (Go.Value.int Go.IntKind.u8 0) u_2.2)) fun u_4 =>
    bnd (kSt (pStore Try.prog 3 x2 (Go.Value.int Go.IntKind.i64 0) u_4.2)) fun u_5 =>
    some (.tuple #[], u_5.2))
    (some (.tuple #[], u_1.2))
theorem F24_eq {inv : Inv} {k : Nat} {x0 x1 x2 x3 : Value} {h : AH} : eFun env k inv 24 #[x0, x1, x2, x3] h = F24 inv k x0 x1 x2 x3 h := by
      refine (eFun_k2 (by kernel_rfl) (by kernel_rfl) (by kernel_rfl) (a := act 18 [(0, x0), (1, x1), (2, x2), (3, x3)]) (c := c24) (by kernel_rfl) (by kernel_rfl)).trans ?_
      unfold F24
      simp only [k_seq (E := env) (f := 24) (c := c24) (by kernel_rfl), r24_0, k_seq (E := env) (f := 24) (c := (cr c24)) (by kernel_rfl), r24_1, k_seq (E := env) (f := 24) (c := (cr (cr c24))) (by kernel_rfl), r24_2, b24_rrr, k_seq (E := env) (f := 24) (c := (cl (cr (cr (cr c24))))) (by kernel_rfl), r24_3, r24_4, res24_0, k_skip (E := env) (f := 24) (c := (cr (cr (cr (cr c24))))) (by kernel_rfl), res24_1, reduceIte, reduceCtorEq, XE.exit.injEq, Nat.reduceEqDiff] <;> kernel_rfl
theorem F24_call {k : Nat} {x0 x1 x2 x3 : Value} {h : AH} : eInv env (k + 1) (.func 24) #[] #[x0, x1, x2, x3] h = F24 (eInv env k) k x0 x1 x2 x3 h := (inv_func (by kernel_rfl)).trans F24_eq
noncomputable def c26 : Code := codeOf Try.prog 26
theorem r26_0 {β : Type} {inv : Inv} {k : Nat} {x0 : Value} {h : AH} {K : XE → Act → AH → Option β} : kCode env 26 false inv k (cl c26) (act 25 [(0, x0)]) h K =
    K .normal (act 25 [(0, x0), (2, (Go.Value.int Go.IntKind.i64 0))]) h := (k_reg (by kernel_rfl)).trans (by kernel_rfl)
theorem r26_1 {β : Type} {inv : Inv} {k : Nat} {x0 x2 : Value} {h : AH} {K : XE → Act → AH → Option β} : kCode env 26 false inv k (cl (cl (cr c26))) (act 25 [(0, x0), (2, x2)]) h K =
    bnd (pBin Try.prog Go.BinOp.geq 30 (Go.Operand.tmp 3) (Go.Operand.const (Go.Value.int Go.IntKind.u64 4294967296)) x0 (Go.Value.int Go.IntKind.u64 4294967296)) fun x4 =>
    K .normal (act 25 [(0, x0), (2, x2), (4, x4)]) h := (k_reg (by kernel_rfl)).trans (by kernel_rfl)
theorem b26_rlr {β : Type} {inv : Inv} {k : Nat} {x0 x2 x4 : Value} {h : AH} {K : XE → Act → AH → Option β} : kCode env 26 false inv k (cr (cl (cr c26))) (act 25 [(0, x0), (2, x2), (4, x4)]) h K = brV x4 (kCode env 26 false inv k (cl (cr (cl (cr c26)))) (act 25 [(0, x0), (2, x2), (4, x4)]) h K) (kCode env 26 false inv k (cr (cr (cl (cr c26)))) (act 25 [(0, x0), (2, x2), (4, x4)]) h K) := (k_cond (by kernel_rfl)).trans (by kernel_rfl)
theorem r26_2 {β : Type} {inv : Inv} {k : Nat} {x0 x2 x4 : Value} {h : AH} {K : XE → Act → AH → Option β} : kCode env 26 false inv k (cl (cl (cr (cl (cr c26))))) (act 25 [(0, x0), (2, x2), (4, x4)]) h K =
    bnd (pBin Try.prog Go.BinOp.shr 30 (Go.Operand.tmp 5) (Go.Operand.const (Go.Value.int Go.IntKind.u64 32)) x0 (Go.Value.int Go.IntKind.u64 32)) fun x6 =>
    K .normal (act 25 [(0, x6)]) h := (k_reg (by kernel_rfl)).trans (by kernel_rfl)
theorem r26_3 {β : Type} {inv : Inv} {k : Nat} {x0 : Value} {h : AH} {K : XE → Act → AH → Option β} : kCode env 26 false inv k (cr (cl (cr (cl (cr c26))))) (act 25 [(0, x0)]) h K =
    K .normal (act 25 [(0, x0), (2, (Go.Value.int Go.IntKind.i64 32))]) h := (k_reg (by kernel_rfl)).trans (by kernel_rfl)
noncomputable def F26_rlr {β : Type} (inv : Inv) (k : Nat) (x0 x2 x4 : Value) (h : AH) (kn : (Value → Value → Value → AH → Option β)) : Option β :=
    brV x4
    (bnd (pBin Try.prog Go.BinOp.shr 30 (Go.Operand.tmp 5) (Go.Operand.const (Go.Value.int Go.IntKind.u64 32)) x0 (Go.Value.int Go.IntKind.u64 32)) fun x6 =>
    kn x6 (Go.Value.int Go.IntKind.i64 32) unk h)
    (kn x0 x2 x4 h)
theorem F26_rlr_eq {β : Type} {inv : Inv} {k : Nat} {x0 x2 x4 : Value} {h : AH} {K : XE → Act → AH → Option β} : kCode env 26 false inv k (cr (cl (cr c26))) (act 25 [(0, x0), (2, x2), (4, x4)]) h K = F26_rlr inv k x0 x2 x4 h (fun y0 y2 y4 h => K .normal (act 25 [(0, y0), (2, y2), (4, y4)]) h) := by
      unfold F26_rlr
      simp only [b26_rlr, k_seq (E := env) (f := 26) (c := (cl (cr (cl (cr c26))))) (by kernel_rfl), r26_2, r26_3, k_skip (E := env) (f := 26) (c := (cr (cr (cl (cr c26))))) (by kernel_rfl), reduceIte, reduceCtorEq, XE.exit.injEq, Nat.reduceEqDiff] <;> kernel_rfl
theorem r26_4 {β : Type} {inv : Inv} {k : Nat} {x0 x2 x4 : Value} {h : AH} {K : XE → Act → AH → Option β} : kCode env 26 false inv k (cl (cl (cr (cr c26)))) (act 25 [(0, x0), (2, x2), (4, x4)]) h K =
    bnd (pBin Try.prog Go.BinOp.geq 30 (Go.Operand.tmp 7) (Go.Operand.const (Go.Value.int Go.IntKind.u64 65536)) x0 (Go.Value.int Go.IntKind.u64 65536)) fun x8 =>
    K .normal (act 25 [(0, x0), (2, x2), (8, x8)]) h := (k_reg (by kernel_rfl)).trans (by kernel_rfl)
theorem b26_rlrr {β : Type} {inv : Inv} {k : Nat} {x0 x2 x8 : Value} {h : AH} {K : XE → Act → AH → Option β} : kCode env 26 false inv k (cr (cl (cr (cr c26)))) (act 25 [(0, x0), (2, x2), (8, x8)]) h K = brV x8 (kCode env 26 false inv k (cl (cr (cl (cr (cr c26))))) (act 25 [(0, x0), (2, x2), (8, x8)]) h K) (kCode env 26 false inv k (cr (cr (cl (cr (cr c26))))) (act 25 [(0, x0), (2, x2), (8, x8)]) h K) := (k_cond (by kernel_rfl)).trans (by kernel_rfl)
theorem r26_5 {β : Type} {inv : Inv} {k : Nat} {x0 x2 x8 : Value} {h : AH} {K : XE → Act → AH → Option β} : kCode env 26 false inv k (cl (cl (cr (cl (cr (cr c26)))))) (act 25 [(0, x0), (2, x2), (8, x8)]) h K =
    bnd (pBin Try.prog Go.BinOp.shr 30 (Go.Operand.tmp 9) (Go.Operand.const (Go.Value.int Go.IntKind.u64 16)) x0 (Go.Value.int Go.IntKind.u64 16)) fun x10 =>
    K .normal (act 25 [(0, x10), (2, x2)]) h := (k_reg (by kernel_rfl)).trans (by kernel_rfl)
theorem r26_6 {β : Type} {inv : Inv} {k : Nat} {x0 x2 : Value} {h : AH} {K : XE → Act → AH → Option β} : kCode env 26 false inv k (cr (cl (cr (cl (cr (cr c26)))))) (act 25 [(0, x0), (2, x2)]) h K =
    bnd (pBin Try.prog Go.BinOp.add 3 (Go.Operand.tmp 11) (Go.Operand.const (Go.Value.int Go.IntKind.i64 16)) x2 (Go.Value.int Go.IntKind.i64 16)) fun x12 =>
    K .normal (act 25 [(0, x0), (2, x12)]) h := (k_reg (by kernel_rfl)).trans (by kernel_rfl)
noncomputable def F26_rlrr {β : Type} (inv : Inv) (k : Nat) (x0 x2 x8 : Value) (h : AH) (kn : (Value → Value → Value → AH → Option β)) : Option β :=
    brV x8
    (bnd (pBin Try.prog Go.BinOp.shr 30 (Go.Operand.tmp 9) (Go.Operand.const (Go.Value.int Go.IntKind.u64 16)) x0 (Go.Value.int Go.IntKind.u64 16)) fun x10 =>
    bnd (pBin Try.prog Go.BinOp.add 3 (Go.Operand.tmp 11) (Go.Operand.const (Go.Value.int Go.IntKind.i64 16)) x2 (Go.Value.int Go.IntKind.i64 16)) fun x12 =>
    kn x10 x12 unk h)
    (kn x0 x2 x8 h)
theorem F26_rlrr_eq {β : Type} {inv : Inv} {k : Nat} {x0 x2 x8 : Value} {h : AH} {K : XE → Act → AH → Option β} : kCode env 26 false inv k (cr (cl (cr (cr c26)))) (act 25 [(0, x0), (2, x2), (8, x8)]) h K = F26_rlrr inv k x0 x2 x8 h (fun y0 y2 y8 h => K .normal (act 25 [(0, y0), (2, y2), (8, y8)]) h) := by
      unfold F26_rlrr
      simp only [b26_rlrr, k_seq (E := env) (f := 26) (c := (cl (cr (cl (cr (cr c26)))))) (by kernel_rfl), r26_5, r26_6, k_skip (E := env) (f := 26) (c := (cr (cr (cl (cr (cr c26)))))) (by kernel_rfl), reduceIte, reduceCtorEq, XE.exit.injEq, Nat.reduceEqDiff] <;> kernel_rfl
theorem r26_7 {β : Type} {inv : Inv} {k : Nat} {x0 x2 x8 : Value} {h : AH} {K : XE → Act → AH → Option β} : kCode env 26 false inv k (cl (cl (cr (cr (cr c26))))) (act 25 [(0, x0), (2, x2), (8, x8)]) h K =
    bnd (pBin Try.prog Go.BinOp.geq 30 (Go.Operand.tmp 13) (Go.Operand.const (Go.Value.int Go.IntKind.u64 256)) x0 (Go.Value.int Go.IntKind.u64 256)) fun x14 =>
    K .normal (act 25 [(0, x0), (2, x2), (14, x14)]) h := (k_reg (by kernel_rfl)).trans (by kernel_rfl)
theorem b26_rlrrr {β : Type} {inv : Inv} {k : Nat} {x0 x2 x14 : Value} {h : AH} {K : XE → Act → AH → Option β} : kCode env 26 false inv k (cr (cl (cr (cr (cr c26))))) (act 25 [(0, x0), (2, x2), (14, x14)]) h K = brV x14 (kCode env 26 false inv k (cl (cr (cl (cr (cr (cr c26)))))) (act 25 [(0, x0), (2, x2), (14, x14)]) h K) (kCode env 26 false inv k (cr (cr (cl (cr (cr (cr c26)))))) (act 25 [(0, x0), (2, x2), (14, x14)]) h K) := (k_cond (by kernel_rfl)).trans (by kernel_rfl)
theorem r26_8 {β : Type} {inv : Inv} {k : Nat} {x0 x2 x14 : Value} {h : AH} {K : XE → Act → AH → Option β} : kCode env 26 false inv k (cl (cl (cr (cl (cr (cr (cr c26))))))) (act 25 [(0, x0), (2, x2), (14, x14)]) h K =
    bnd (pBin Try.prog Go.BinOp.shr 30 (Go.Operand.tmp 15) (Go.Operand.const (Go.Value.int Go.IntKind.u64 8)) x0 (Go.Value.int Go.IntKind.u64 8)) fun x16 =>
    K .normal (act 25 [(0, x16), (2, x2)]) h := (k_reg (by kernel_rfl)).trans (by kernel_rfl)
theorem r26_9 {β : Type} {inv : Inv} {k : Nat} {x0 x2 : Value} {h : AH} {K : XE → Act → AH → Option β} : kCode env 26 false inv k (cr (cl (cr (cl (cr (cr (cr c26))))))) (act 25 [(0, x0), (2, x2)]) h K =
    bnd (pBin Try.prog Go.BinOp.add 3 (Go.Operand.tmp 17) (Go.Operand.const (Go.Value.int Go.IntKind.i64 8)) x2 (Go.Value.int Go.IntKind.i64 8)) fun x18 =>
    K .normal (act 25 [(0, x0), (2, x18)]) h := (k_reg (by kernel_rfl)).trans (by kernel_rfl)
noncomputable def F26_rlrrr {β : Type} (inv : Inv) (k : Nat) (x0 x2 x14 : Value) (h : AH) (kn : (Value → Value → Value → AH → Option β)) : Option β :=
    brV x14
    (bnd (pBin Try.prog Go.BinOp.shr 30 (Go.Operand.tmp 15) (Go.Operand.const (Go.Value.int Go.IntKind.u64 8)) x0 (Go.Value.int Go.IntKind.u64 8)) fun x16 =>
    bnd (pBin Try.prog Go.BinOp.add 3 (Go.Operand.tmp 17) (Go.Operand.const (Go.Value.int Go.IntKind.i64 8)) x2 (Go.Value.int Go.IntKind.i64 8)) fun x18 =>
    kn x16 x18 unk h)
    (kn x0 x2 x14 h)
theorem F26_rlrrr_eq {β : Type} {inv : Inv} {k : Nat} {x0 x2 x14 : Value} {h : AH} {K : XE → Act → AH → Option β} : kCode env 26 false inv k (cr (cl (cr (cr (cr c26))))) (act 25 [(0, x0), (2, x2), (14, x14)]) h K = F26_rlrrr inv k x0 x2 x14 h (fun y0 y2 y14 h => K .normal (act 25 [(0, y0), (2, y2), (14, y14)]) h) := by
      unfold F26_rlrrr
      simp only [b26_rlrrr, k_seq (E := env) (f := 26) (c := (cl (cr (cl (cr (cr (cr c26))))))) (by kernel_rfl), r26_8, r26_9, k_skip (E := env) (f := 26) (c := (cr (cr (cl (cr (cr (cr c26))))))) (by kernel_rfl), reduceIte, reduceCtorEq, XE.exit.injEq, Nat.reduceEqDiff] <;> kernel_rfl
theorem r26_10 {β : Type} {inv : Inv} {k : Nat} {x0 x2 x14 : Value} {h : AH} {K : XE → Act → AH → Option β} : kCode env 26 false inv k (cl (cr (cr (cr (cr c26))))) (act 25 [(0, x0), (2, x2), (14, x14)]) h K =
    bnd (pConv Try.prog 30 5 x0 h) fun x21 =>
    bnd (pIndex Try.prog 9 (Go.Value.string { data := #[0, 1, 2, 2, 3, 3, 3, 3, 4, 4, 4, 4, 4, 4, 4, 4, 5, 5, 5, 5, 5, 5, 5, 5, 5, 5, 5, 5, 5, 5, 5, 5, 6, 6, 6, 6, 6, 6, 6, 6, 6, 6, 6, 6, 6, 6, 6, 6, 6, 6, 6, 6, 6, 6, 6, 6, 6, 6, 6, 6, 6, 6, 6, 6, 7, 7, 7, 7, 7, 7, 7, 7, 7, 7, 7, 7, 7, 7, 7, 7, 7, 7, 7, 7, 7, 7, 7, 7, 7, 7, 7, 7, 7, 7, 7, 7, 7, 7, 7, 7, 7, 7, 7, 7, 7, 7, 7, 7, 7, 7, 7, 7, 7, 7, 7, 7, 7, 7, 7, 7, 7, 7, 7, 7, 7, 7, 7, 7, 8, 8, 8, 8, 8, 8, 8, 8, 8, 8, 8, 8, 8, 8, 8, 8, 8, 8, 8, 8, 8, 8, 8, 8, 8, 8, 8, 8, 8, 8, 8, 8, 8, 8, 8, 8, 8, 8, 8, 8, 8, 8, 8, 8, 8, 8, 8, 8, 8, 8, 8, 8, 8, 8, 8, 8, 8, 8, 8, 8, 8, 8, 8, 8, 8, 8, 8, 8, 8, 8, 8, 8, 8, 8, 8, 8, 8, 8, 8, 8, 8, 8, 8, 8, 8, 8, 8, 8, 8, 8, 8, 8, 8, 8, 8, 8, 8, 8, 8, 8, 8, 8, 8, 8, 8, 8, 8, 8, 8, 8, 8, 8, 8, 8, 8, 8, 8, 8, 8, 8, 8, 8, 8, 8, 8, 8, 8, 8] }) x21) fun x22 =>
    bnd (pConv Try.prog 5 3 x22 h) fun x23 =>
    bnd (pBin Try.prog Go.BinOp.add 3 (Go.Operand.tmp 19) (Go.Operand.tmp 23) x2 x23) fun x24 =>
    K .normal (act 25 [(2, x24)]) h := (k_reg (by kernel_rfl)).trans (by kernel_rfl)
theorem res26_0 {x2 : Value} {h : AH} : resOfFn env.P 26 .ret (act 25 [(2, x2)]) h = some (x2, h) := (resOfFn_k (by kernel_rfl) (by kernel_rfl)).trans (by kernel_rfl)
/-- math/bits.Len64 -/
noncomputable def F26 (inv : Inv) (k : Nat) (x0 : Value) (h : AH) : Option (Value × AH) :=
    bnd (pBin Try.prog Go.BinOp.geq 30 (Go.Operand.tmp 3) (Go.Operand.const (Go.Value.int Go.IntKind.u64 4294967296)) x0 (Go.Value.int Go.IntKind.u64 4294967296)) fun x4 =>
    F26_rlr inv k x0 (Go.Value.int Go.IntKind.i64 0) x4 h
    (fun y0 y2 y4 h =>
    bnd (pBin Try.prog Go.BinOp.geq 30 (Go.Operand.tmp 7) (Go.Operand.const (Go.Value.int Go.IntKind.u64 65536)) y0 (Go.Value.int Go.IntKind.u64 65536)) fun x8 =>
    F26_rlrr inv k y0 y2 x8 h
    (fun y0_1 y2_2 y8 h_3 =>
    bnd (pBin Try.prog Go.BinOp.geq 30 (Go.Operand.tmp 13) (Go.Operand.const (Go.Value.int Go.IntKind.u64 256)) y0_1 (Go.Value.int Go.IntKind.u64 256)) fun x14 =>
    F26_rlrrr inv k y0_1 y2_2 x14 h_3
    (fun y0_4 y2_5 y14 h_6 =>
    bnd (pConv Try.prog 30 5 y0_4 h_6) fun x21 =>
    bnd (pIndex Try.prog 9 (Go.Value.string { data := #[0, 1, 2, 2, 3, 3, 3, 3, 4, 4, 4, 4, 4, 4, 4, 4, 5, 5, 5, 5, 5, 5, 5, 5, 5, 5, 5, 5, 5, 5, 5, 5, 6, 6, 6, 6, 6, 6, 6, 6, 6, 6, 6, 6, 6, 6, 6, 6, 6, 6, 6, 6, 6, 6, 6, 6, 6, 6, 6, 6, 6, 6, 6, 6, 7, 7, 7, 7, 7, 7, 7, 7, 7, 7, 7, 7, 7, 7, 7, 7, 7, 7, 7, 7, 7, 7, 7, 7, 7, 7, 7, 7, 7, 7, 7, 7, 7, 7, 7, 7, 7, 7, 7, 7, 7, 7, 7, 7, 7, 7, 7, 7, 7, 7, 7, 7, 7, 7, 7, 7, 7, 7, 7, 7, 7, 7, 7, 7, 8, 8, 8, 8, 8, 8, 8, 8, 8, 8, 8, 8, 8, 8, 8, 8, 8, 8, 8, 8, 8, 8, 8, 8, 8, 8, 8, 8, 8, 8, 8, 8, 8, 8, 8, 8, 8, 8, 8, 8, 8, 8, 8, 8, 8, 8, 8, 8, 8, 8, 8, 8, 8, 8, 8, 8, 8, 8, 8, 8, 8, 8, 8, 8, 8, 8, 8, 8, 8, 8, 8, 8, 8, 8, 8, 8, 8, 8, 8, 8, 8, 8, 8, 8, 8, 8, 8, 8, 8, 8, 8, 8, 8, 8, 8, 8, 8, 8, 8, 8, 8, 8, 8, 8, 8, 8, 8, 8, 8, 8, 8, 8, 8, 8, 8, 8, 8, 8, 8, 8, 8, 8, 8, 8, 8, 8, 8, 8] }) x21) fun x22 =>
    bnd (pConv Try.prog 5 3 x22 h_6) fun x23 =>
    bnd (pBin Try.prog Go.BinOp.add 3 (Go.Operand.tmp 19) (Go.Operand.tmp 23) y2_5 x23) fun x24 =>
    some (x24, h_6))))
theorem F26_eq {inv : Inv} {k : Nat} {x0 : Value} {h : AH} : eFun env k inv 26 #[x0] h = F26 inv k x0 h := by
      refine (eFun_k2 (by kernel_rfl) (by kernel_rfl) (by kernel_rfl) (a := act 25 [(0, x0)]) (c := c26) (by kernel_rfl) (by kernel_rfl)).trans ?_
      unfold F26
      simp only [k_seq (E := env) (f := 26) (c := c26) (by kernel_rfl), r26_0, k_seq (E := env) (f := 26) (c := (cr c26)) (by kernel_rfl), k_seq (E := env) (f := 26) (c := (cl (cr c26))) (by kernel_rfl), r26_1, F26_rlr_eq, k_seq (E := env) (f := 26) (c := (cr (cr c26))) (by kernel_rfl), k_seq (E := env) (f := 26) (c := (cl (cr (cr c26)))) (by kernel_rfl), r26_4, F26_rlrr_eq, k_seq (E := env) (f := 26) (c := (cr (cr (cr c26)))) (by kernel_rfl), k_seq (E := env) (f := 26) (c := (cl (cr (cr (cr c26))))) (by kernel_rfl), r26_7, F26_rlrrr_eq, k_seq (E := env) (f := 26) (c := (cr (cr (cr (cr c26))))) (by kernel_rfl), r26_10, k_ret (E := env) (f := 26) (c := (cr (cr (cr (cr (cr c26)))))) (by kernel_rfl), res26_0, reduceIte, reduceCtorEq, XE.exit.injEq, Nat.reduceEqDiff] <;> kernel_rfl
theorem F26_call {k : Nat} {x0 : Value} {h : AH} : eInv env (k + 1) (.func 26) #[] #[x0] h = F26 (eInv env k) k x0 h := (inv_func (by kernel_rfl)).trans F26_eq
end Go.Proofs.Ytodokclcffejfaa.Sh
