/- Shallow functions, part 1. Printed by a program of the prover's own from the loaded program; Lean checks it. -/
import Derived.Test.YtoleebigheobcaaSz0
set_option linter.unusedVariables false
set_option linter.unusedSimpArgs false
set_option maxRecDepth 100000
namespace Go.Proofs.Ytoleebigheobcaa.Sh
open Go Go.RowKit Go.Proofs.Ev
noncomputable def c3 : Code := codeOf Try.prog 3
theorem r3_0 {β : Type} {inv : Inv} {k : Nat} {x0 : Value} {h : AH} {K : XE → Act → AH → Option β} : kCode env 3 false inv k (cl c3) (act 143 [(0, x0)]) h K =
    K .normal (act 143 [(0, x0)]) h := (k_reg (by kernel_rfl)).trans (by kernel_rfl)
theorem r3_1 {β : Type} {inv : Inv} {k : Nat} {x0 : Value} {h : AH} {K : XE → Act → AH → Option β} : kCode env 3 false inv k (cl (cl (cr c3))) (act 143 [(0, x0)]) h K =
    bnd (inv (.func 8) #[] #[] h) fun x13 =>
    bnd (pUn Try.prog Go.UnOp.not x13.1) fun x14 =>
    K .normal (act 143 [(0, x0), (14, x14)]) x13.2 := (k_reg (by kernel_rfl)).trans (by kernel_rfl)
theorem b3_rlr {β : Type} {inv : Inv} {k : Nat} {x0 x14 : Value} {h : AH} {K : XE → Act → AH → Option β} : kCode env 3 false inv k (cr (cl (cr c3))) (act 143 [(0, x0), (14, x14)]) h K = brV x14 (kCode env 3 false inv k (cl (cr (cl (cr c3)))) (act 143 [(0, x0), (14, x14)]) h K) (kCode env 3 false inv k (cr (cr (cl (cr c3)))) (act 143 [(0, x0), (14, x14)]) h K) := (k_cond (by kernel_rfl)).trans (by kernel_rfl)
theorem r3_2 {β : Type} {inv : Inv} {k : Nat} {x0 x14 : Value} {h : AH} {K : XE → Act → AH → Option β} : kCode env 3 false inv k (cl (cl (cr (cl (cr c3))))) (act 143 [(0, x0), (14, x14)]) h K =
    K .normal (act 143 [(2, (Go.Value.bool false))]) h := (k_reg (by kernel_rfl)).trans (by kernel_rfl)
theorem res3_0 {x2 : Value} {h : AH} : resOfFn env.P 3 .ret (act 143 [(2, x2)]) h = some (x2, h) := (resOfFn_k (by kernel_rfl) (by kernel_rfl)).trans (by kernel_rfl)
theorem r3_3 {β : Type} {inv : Inv} {k : Nat} {x0 x14 : Value} {h : AH} {K : XE → Act → AH → Option β} : kCode env 3 false inv k (cl (cl (cr (cr c3)))) (act 143 [(0, x0), (14, x14)]) h K =
    bnd (pLen Try.prog #[22] x0 h) fun x16 =>
    bnd (pBin Try.prog Go.BinOp.gtr 3 (Go.Operand.tmp 16) (Go.Operand.const (Go.Value.int Go.IntKind.i64 300)) x16 (Go.Value.int Go.IntKind.i64 300)) fun x17 =>
    K .normal (act 143 [(0, x0), (17, x17)]) h := (k_reg (by kernel_rfl)).trans (by kernel_rfl)
theorem b3_rlrr {β : Type} {inv : Inv} {k : Nat} {x0 x17 : Value} {h : AH} {K : XE → Act → AH → Option β} : kCode env 3 false inv k (cr (cl (cr (cr c3)))) (act 143 [(0, x0), (17, x17)]) h K = brV x17 (kCode env 3 false inv k (cl (cr (cl (cr (cr c3))))) (act 143 [(0, x0), (17, x17)]) h K) (kCode env 3 false inv k (cr (cr (cl (cr (cr c3))))) (act 143 [(0, x0), (17, x17)]) h K) := (k_cond (by kernel_rfl)).trans (by kernel_rfl)
theorem r3_4 {β : Type} {inv : Inv} {k : Nat} {x0 x17 : Value} {h : AH} {K : XE → Act → AH → Option β} : kCode env 3 false inv k (cl (cl (cr (cl (cr (cr c3)))))) (act 143 [(0, x0), (17, x17)]) h K =
    K .normal (act 143 [(2, (Go.Value.bool true))]) h := (k_reg (by kernel_rfl)).trans (by kernel_rfl)
theorem r3_5 {β : Type} {inv : Inv} {k : Nat} {x0 x17 : Value} {h : AH} {K : XE → Act → AH → Option β} : kCode env 3 false inv k (cl (cr (cr (cr c3)))) (act 143 [(0, x0), (17, x17)]) h K =
    bnd (inv (.func 9) #[] #[x0] h) fun x19 =>
    K .normal (act 143 [(0, x0), (3, x19.1)]) x19.2 := (k_reg (by kernel_rfl)).trans (by kernel_rfl)
theorem r3_6 {β : Type} {inv : Inv} {k : Nat} {x0 x3 : Value} {h : AH} {K : XE → Act → AH → Option β} : kCode env 3 false inv k (cl (cr (cr (cr (cr c3))))) (act 143 [(0, x0), (3, x3)]) h K =
    bnd (pLen Try.prog #[22] x0 h) fun x22 =>
    bnd (pBin Try.prog Go.BinOp.sub 3 (Go.Operand.tmp 22) (Go.Operand.tmp 23) x22 x3) fun x24 =>
    bnd (inv (.func 10) #[] #[x0, x24] h) fun x25 =>
    K .normal (act 143 [(0, x0), (3, x3), (4, x25.1)]) x25.2 := (k_reg (by kernel_rfl)).trans (by kernel_rfl)
theorem r3_7 {β : Type} {inv : Inv} {k : Nat} {x0 x3 x4 : Value} {h : AH} {K : XE → Act → AH → Option β} : kCode env 3 false inv k (cl (cl (cr (cr (cr (cr (cr c3))))))) (act 143 [(0, x0), (3, x3), (4, x4)]) h K =
    bnd (pLen Try.prog #[25] x4 h) fun x27 =>
    bnd (pLen Try.prog #[22] x0 h) fun x29 =>
    bnd (pBin Try.prog Go.BinOp.neq 3 (Go.Operand.tmp 27) (Go.Operand.tmp 29) x27 x29) fun x30 =>
    bnd (gd (some x30) false h (some (x3, h))) fun x32 =>
    bnd (gd (some x30) false x32.2 (lt (pBin Try.prog Go.BinOp.lss 3 (Go.Operand.tmp 32) (Go.Operand.const (Go.Value.int Go.IntKind.i64 0)) x32.1 (Go.Value.int Go.IntKind.i64 0)) x32.2)) fun x33 =>
    bnd (pickV x30 (Go.Value.bool true) x33.1) fun x34 =>
    bnd (gd (some x34) false x33.2 (some (x3, x33.2))) fun x36 =>
    bnd (gd (some x34) false x36.2 (some (x0, x36.2))) fun x37 =>
    bnd (gd (some x34) false x37.2 (lt (pLen Try.prog #[22] x37.1 x37.2) x37.2)) fun x38 =>
    bnd (gd (some x34) false x38.2 (lt (pBin Try.prog Go.BinOp.gtr 3 (Go.Operand.tmp 36) (Go.Operand.tmp 38) x36.1 x38.1) x38.2)) fun x39 =>
    bnd (pickV x34 (Go.Value.bool true) x39.1) fun x40 =>
    K .normal (act 143 [(0, x0), (4, x4), (40, x40)]) x39.2 := (k_reg (by kernel_rfl)).trans (by kernel_rfl)
theorem b3_rlrrrrr {β : Type} {inv : Inv} {k : Nat} {x0 x4 x40 : Value} {h : AH} {K : XE → Act → AH → Option β} : kCode env 3 false inv k (cr (cl (cr (cr (cr (cr (cr c3))))))) (act 143 [(0, x0), (4, x4), (40, x40)]) h K = brV x40 (kCode env 3 false inv k (cl (cr (cl (cr (cr (cr (cr (cr c3)))))))) (act 143 [(0, x0), (4, x4), (40, x40)]) h K) (kCode env 3 false inv k (cr (cr (cl (cr (cr (cr (cr (cr c3)))))))) (act 143 [(0, x0), (4, x4), (40, x40)]) h K) := (k_cond (by kernel_rfl)).trans (by kernel_rfl)
theorem r3_8 {β : Type} {inv : Inv} {k : Nat} {x0 x4 x40 : Value} {h : AH} {K : XE → Act → AH → Option β} : kCode env 3 false inv k (cl (cl (cr (cl (cr (cr (cr (cr (cr c3))))))))) (act 143 [(0, x0), (4, x4), (40, x40)]) h K =
    K .normal (act 143 [(2, (Go.Value.bool false))]) h := (k_reg (by kernel_rfl)).trans (by kernel_rfl)
theorem r3_9 {β : Type} {inv : Inv} {k : Nat} {x0 x4 x40 : Value} {h : AH} {K : XE → Act → AH → Option β} : kCode env 3 false inv k (cl (cr (cr (cr (cr (cr (cr c3))))))) (act 143 [(0, x0), (4, x4), (40, x40)]) h K =
    K .normal (act 143 [(0, x0), (4, x4), (5, (Go.Value.int Go.IntKind.i64 0))]) h := (k_reg (by kernel_rfl)).trans (by kernel_rfl)
theorem r3_10 {β : Type} {inv : Inv} {k : Nat} {x0 x4 x5 : Value} {h : AH} {K : XE → Act → AH → Option β} : kCode env 3 false inv k (cl (cl (cr (cr (cr (cr (cr (cr (cr c3))))))))) (act 143 [(0, x0), (4, x4), (5, x5)]) h K =
    K .normal (act 143 [(0, x0), (4, x4), (5, x5), (6, (Go.Value.int Go.IntKind.i64 0))]) h := (k_reg (by kernel_rfl)).trans (by kernel_rfl)
theorem r3_11 {β : Type} {inv : Inv} {k : Nat} {x0 x4 x5 x6 : Value} {h : AH} {K : XE → Act → AH → Option β} : kCode env 3 false inv k (cl (cl (cl (cl (cr (cl (cr (cr (cr (cr (cr (cr (cr c3))))))))))))) (act 143 [(0, x0), (4, x4), (5, x5), (6, x6)]) h K =
    bnd (pLen Try.prog #[22] x0 h) fun x43 =>
    bnd (pBin Try.prog Go.BinOp.lss 3 (Go.Operand.tmp 41) (Go.Operand.tmp 43) x6 x43) fun x44 =>
    K .normal (act 143 [(0, x0), (4, x4), (5, x5), (6, x6), (44, x44)]) h := (k_reg (by kernel_rfl)).trans (by kernel_rfl)
theorem b3_rlllrlrrrrrrr {β : Type} {inv : Inv} {k : Nat} {x0 x4 x5 x6 x44 : Value} {h : AH} {K : XE → Act → AH → Option β} : kCode env 3 false inv k (cr (cl (cl (cl (cr (cl (cr (cr (cr (cr (cr (cr (cr c3))))))))))))) (act 143 [(0, x0), (4, x4), (5, x5), (6, x6), (44, x44)]) h K = brV x44 (kCode env 3 false inv k (cl (cr (cl (cl (cl (cr (cl (cr (cr (cr (cr (cr (cr (cr c3)))))))))))))) (act 143 [(0, x0), (4, x4), (5, x5), (6, x6), (44, x44)]) h K) (kCode env 3 false inv k (cr (cr (cl (cl (cl (cr (cl (cr (cr (cr (cr (cr (cr (cr c3)))))))))))))) (act 143 [(0, x0), (4, x4), (5, x5), (6, x6), (44, x44)]) h K) := (k_cond (by kernel_rfl)).trans (by kernel_rfl)
theorem r3_13 {β : Type} {inv : Inv} {k : Nat} {x0 x4 x5 x6 x44 : Value} {h : AH} {K : XE → Act → AH → Option β} : kCode env 3 false inv k (cl (cl (cl (cl (cr (cl (cl (cr (cl (cr (cr (cr (cr (cr (cr (cr c3)))))))))))))))) (act 143 [(0, x0), (4, x4), (5, x5), (6, x6), (44, x44)]) h K =
    bnd (pIndexAddr Try.prog 22 x0 x6) fun x49 =>
    bnd (pLoad Try.prog 4 x49 h) fun x50 =>
    bnd (gd (some x50) true h (some (x4, h))) fun x52 =>
    bnd (gd (some x50) true x52.2 (some (x6, x52.2))) fun x53 =>
    bnd (gd (some x50) true x53.2 (lt (pIndexAddr Try.prog 25 x52.1 x53.1) x53.2)) fun x54 =>
    bnd (gd (some x50) true x54.2 (lt (pLoad Try.prog 3 x54.1 x54.2) x54.2)) fun x55 =>
    bnd (gd (some x50) true x55.2 (lt (pBin Try.prog Go.BinOp.neq 3 (Go.Operand.tmp 55) (Go.Operand.const (Go.Value.int Go.IntKind.i64 (-1))) x55.1 (Go.Value.int Go.IntKind.i64 (-1))) x55.2)) fun x56 =>
    bnd (pickV x50 x56.1 (Go.Value.bool false)) fun x57 =>
    bnd (gd (some x57) false x56.2 (some (x0, x56.2))) fun x59 =>
    bnd (gd (some x57) false x59.2 (some (x6, x59.2))) fun x60 =>
    bnd (gd (some x57) false x60.2 (lt (pIndexAddr Try.prog 22 x59.1 x60.1) x60.2)) fun x61 =>
    bnd (gd (some x57) false x61.2 (lt (pLoad Try.prog 4 x61.1 x61.2) x61.2)) fun x62 =>
    bnd (gd (some x57) false x62.2 (lt (pUn Try.prog Go.UnOp.not x62.1) x62.2)) fun x63 =>
    bnd (gd (some x57) false x63.2 (some (x63.1, x63.2))) fun x64 =>
    bnd (gd (some x64.1) true x64.2 (some (x4, x64.2))) fun x65 =>
    bnd (gd (some x64.1) true x65.2 (some (x6, x65.2))) fun x66 =>
    bnd (gd (some x64.1) true x66.2 (lt (pIndexAddr Try.prog 25 x65.1 x66.1) x66.2)) fun x67 =>
    bnd (gd (some x64.1) true x67.2 (lt (pLoad Try.prog 3 x67.1 x67.2) x67.2)) fun x68 =>
    bnd (gd (some x64.1) true x68.2 (some (x5, x68.2))) fun x69 =>
    bnd (gd (some x64.1) true x69.2 (lt (pBin Try.prog Go.BinOp.neq 3 (Go.Operand.tmp 68) (Go.Operand.tmp 69) x68.1 x69.1) x69.2)) fun x70 =>
    bnd (gd (some x57) false x70.2 (lt (pickV x64.1 x70.1 (Go.Value.bool false)) x70.2)) fun x71 =>
    bnd (pickV x57 (Go.Value.bool true) x71.1) fun x72 =>
    K .normal (act 143 [(0, x0), (4, x4), (5, x5), (6, x6), (72, x72)]) x71.2 := (k_reg (by kernel_rfl)).trans (by kernel_rfl)
theorem b3_rlllrllrlrrrrrrr {β : Type} {inv : Inv} {k : Nat} {x0 x4 x5 x6 x72 : Value} {h : AH} {K : XE → Act → AH → Option β} : kCode env 3 false inv k (cr (cl (cl (cl (cr (cl (cl (cr (cl (cr (cr (cr (cr (cr (cr (cr c3)))))))))))))))) (act 143 [(0, x0), (4, x4), (5, x5), (6, x6), (72, x72)]) h K = brV x72 (kCode env 3 false inv k (cl (cr (cl (cl (cl (cr (cl (cl (cr (cl (cr (cr (cr (cr (cr (cr (cr c3))))))))))))))))) (act 143 [(0, x0), (4, x4), (5, x5), (6, x6), (72, x72)]) h K) (kCode env 3 false inv k (cr (cr (cl (cl (cl (cr (cl (cl (cr (cl (cr (cr (cr (cr (cr (cr (cr c3))))))))))))))))) (act 143 [(0, x0), (4, x4), (5, x5), (6, x6), (72, x72)]) h K) := (k_cond (by kernel_rfl)).trans (by kernel_rfl)
theorem r3_14 {β : Type} {inv : Inv} {k : Nat} {x0 x4 x5 x6 x72 : Value} {h : AH} {K : XE → Act → AH → Option β} : kCode env 3 false inv k (cl (cl (cr (cl (cl (cl (cr (cl (cl (cr (cl (cr (cr (cr (cr (cr (cr (cr c3)))))))))))))))))) (act 143 [(0, x0), (4, x4), (5, x5), (6, x6), (72, x72)]) h K =
    K .normal (act 143 [(2, (Go.Value.bool false))]) h := (k_reg (by kernel_rfl)).trans (by kernel_rfl)
theorem r3_15 {β : Type} {inv : Inv} {k : Nat} {x0 x4 x5 x6 x72 : Value} {h : AH} {K : XE → Act → AH → Option β} : kCode env 3 false inv k (cl (cr (cl (cl (cr (cl (cl (cr (cl (cr (cr (cr (cr (cr (cr (cr c3)))))))))))))))) (act 143 [(0, x0), (4, x4), (5, x5), (6, x6), (72, x72)]) h K =
    bnd (pIndexAddr Try.prog 22 x0 x6) fun x75 =>
    bnd (pLoad Try.prog 4 x75 h) fun x76 =>
    bnd (pUn Try.prog Go.UnOp.not x76) fun x77 =>
    K .normal (act 143 [(0, x0), (4, x4), (5, x5), (6, x6), (77, x77)]) h := (k_reg (by kernel_rfl)).trans (by kernel_rfl)
theorem b3_rrllrllrlrrrrrrr {β : Type} {inv : Inv} {k : Nat} {x0 x4 x5 x6 x77 : Value} {h : AH} {K : XE → Act → AH → Option β} : kCode env 3 false inv k (cr (cr (cl (cl (cr (cl (cl (cr (cl (cr (cr (cr (cr (cr (cr (cr c3)))))))))))))))) (act 143 [(0, x0), (4, x4), (5, x5), (6, x6), (77, x77)]) h K = brV x77 (kCode env 3 false inv k (cl (cr (cr (cl (cl (cr (cl (cl (cr (cl (cr (cr (cr (cr (cr (cr (cr c3))))))))))))))))) (act 143 [(0, x0), (4, x4), (5, x5), (6, x6), (77, x77)]) h K) (kCode env 3 false inv k (cr (cr (cr (cl (cl (cr (cl (cl (cr (cl (cr (cr (cr (cr (cr (cr (cr c3))))))))))))))))) (act 143 [(0, x0), (4, x4), (5, x5), (6, x6), (77, x77)]) h K) := (k_cond (by kernel_rfl)).trans (by kernel_rfl)
theorem r3_16 {β : Type} {inv : Inv} {k : Nat} {x0 x4 x5 x6 x77 : Value} {h : AH} {K : XE → Act → AH → Option β} : kCode env 3 false inv k (cl (cr (cr (cl (cl (cr (cl (cl (cr (cl (cr (cr (cr (cr (cr (cr (cr c3))))))))))))))))) (act 143 [(0, x0), (4, x4), (5, x5), (6, x6), (77, x77)]) h K =
    bnd (pBin Try.prog Go.BinOp.add 3 (Go.Operand.tmp 78) (Go.Operand.const (Go.Value.int Go.IntKind.i64 1)) x5 (Go.Value.int Go.IntKind.i64 1)) fun x79 =>
    K .normal (act 143 [(0, x0), (4, x4), (5, x79), (6, x6)]) h := (k_reg (by kernel_rfl)).trans (by kernel_rfl)
noncomputable def F3_lrllrlrrrrrrr {β : Type} (inv : Inv) (k : Nat) (x0 x4 x5 x6 x44 : Value) (h : AH) (kn : (Value → Value → Value → Value → Value → AH → Option β)) (kr : (Value → AH → Option β)) : Option β :=
    bnd (pIndexAddr Try.prog 22 x0 x6) fun x49 =>
    bnd (pLoad Try.prog 4 x49 h) fun x50 =>
    bnd (gd (some x50) true h (some (x4, h))) fun x52 =>
    bnd (gd (some x50) true x52.2 (some (x6, x52.2))) fun x53 =>
    bnd (gd (some x50) true x53.2 (lt (pIndexAddr Try.prog 25 x52.1 x53.1) x53.2)) fun x54 =>
    bnd (gd (some x50) true x54.2 (lt (pLoad Try.prog 3 x54.1 x54.2) x54.2)) fun x55 =>
    bnd (gd (some x50) true x55.2 (lt (pBin Try.prog Go.BinOp.neq 3 (Go.Operand.tmp 55) (Go.Operand.const (Go.Value.int Go.IntKind.i64 (-1))) x55.1 (Go.Value.int Go.IntKind.i64 (-1))) x55.2)) fun x56 =>
    bnd (pickV x50 x56.1 (Go.Value.bool false)) fun x57 =>
    bnd (gd (some x57) false x56.2 (some (x0, x56.2))) fun x59 =>
    bnd (gd (some x57) false x59.2 (some (x6, x59.2))) fun x60 =>
    bnd (gd (some x57) false x60.2 (lt (pIndexAddr Try.prog 22 x59.1 x60.1) x60.2)) fun x61 =>
    bnd (gd (some x57) false x61.2 (lt (pLoad Try.prog 4 x61.1 x61.2) x61.2)) fun x62 =>
    bnd (gd (some x57) false x62.2 (lt (pUn Try.prog Go.UnOp.not x62.1) x62.2)) fun x63 =>
    bnd (gd (some x57) false x63.2 (some (x63.1, x63.2))) fun x64 =>
    bnd (gd (some x64.1) true x64.2 (some (x4, x64.2))) fun x65 =>
    bnd (gd (some x64.1) true x65.2 (some (x6, x65.2))) fun x66 =>
    bnd (gd (some x64.1) true x66.2 (lt (pIndexAddr Try.prog 25 x65.1 x66.1) x66.2)) fun x67 =>
    bnd (gd (some x64.1) true x67.2 (lt (pLoad Try.prog 3 x67.1 x67.2) x67.2)) fun x68 =>
    bnd (gd (some x64.1) true x68.2 (some (x5, x68.2))) fun x69 =>
    bnd (gd (some x64.1) true x69.2 (lt (pBin Try.prog Go.BinOp.neq 3 (Go.Operand.tmp 68) (Go.Operand.tmp 69) x68.1 x69.1) x69.2)) fun x70 =>
    bnd (gd (some x57) false x70.2 (lt (pickV x64.1 x70.1 (Go.Value.bool false)) x70.2)) fun x71 =>
    bnd (pickV x57 (Go.Value.bool true) x71.1) fun x72 =>
    brV x72
    (kr (Go.Value.bool false) x71.2)
    (bnd (pIndexAddr Try.prog 22 x0 x6) fun x75 =>
    bnd (pLoad Try.prog 4 x75 x71.2) fun x76 =>
    bnd (pUn Try.prog Go.UnOp.not x76) fun x77 =>
    brV x77
    (bnd (pBin Try.prog Go.BinOp.add 3 (Go.Operand.tmp 78) (Go.Operand.const (Go.Value.int Go.IntKind.i64 1)) x5 (Go.Value.int Go.IntKind.i64 1)) fun x79 =>
    kn x0 x4 x79 x6 unk x71.2)
    (kn x0 x4 x5 x6 x77 x71.2))
theorem F3_lrllrlrrrrrrr_eq {β : Type} {inv : Inv} {k : Nat} {x0 x4 x5 x6 x44 : Value} {h : AH} {K : XE → Act → AH → Option β} : kCode env 3 false inv k (cl (cr (cl (cl (cr (cl (cr (cr (cr (cr (cr (cr (cr c3))))))))))))) (act 143 [(0, x0), (4, x4), (5, x5), (6, x6), (44, x44)]) h K = F3_lrllrlrrrrrrr inv k x0 x4 x5 x6 x44 h (fun y0 y4 y5 y6 y77 h => K .normal (act 143 [(0, y0), (4, y4), (5, y5), (6, y6), (77, y77)]) h) (fun y2 h => K .ret (act 143 [(2, y2)]) h) := by
      unfold F3_lrllrlrrrrrrr
      simp only [k_block (E := env) (f := 3) (c := (cl (cr (cl (cl (cr (cl (cr (cr (cr (cr (cr (cr (cr c3)))))))))))))) (id := 1) (by kernel_rfl), k_seq (E := env) (f := 3) (c := (cl (cl (cr (cl (cl (cr (cl (cr (cr (cr (cr (cr (cr (cr c3))))))))))))))) (by kernel_rfl), k_seq (E := env) (f := 3) (c := (cl (cl (cl (cr (cl (cl (cr (cl (cr (cr (cr (cr (cr (cr (cr c3)))))))))))))))) (by kernel_rfl), r3_13, b3_rlllrllrlrrrrrrr, k_seq (E := env) (f := 3) (c := (cl (cr (cl (cl (cl (cr (cl (cl (cr (cl (cr (cr (cr (cr (cr (cr (cr c3)))))))))))))))))) (by kernel_rfl), r3_14, k_ret (E := env) (f := 3) (c := (cr (cl (cr (cl (cl (cl (cr (cl (cl (cr (cl (cr (cr (cr (cr (cr (cr (cr c3))))))))))))))))))) (by kernel_rfl), k_skip (E := env) (f := 3) (c := (cr (cr (cl (cl (cl (cr (cl (cl (cr (cl (cr (cr (cr (cr (cr (cr (cr c3)))))))))))))))))) (by kernel_rfl), k_seq (E := env) (f := 3) (c := (cr (cl (cl (cr (cl (cl (cr (cl (cr (cr (cr (cr (cr (cr (cr c3)))))))))))))))) (by kernel_rfl), r3_15, b3_rrllrllrlrrrrrrr, r3_16, k_skip (E := env) (f := 3) (c := (cr (cr (cr (cl (cl (cr (cl (cl (cr (cl (cr (cr (cr (cr (cr (cr (cr c3)))))))))))))))))) (by kernel_rfl), reduceIte, reduceCtorEq, XE.exit.injEq, Nat.reduceEqDiff] <;> kernel_rfl
theorem r3_12 {β : Type} {inv : Inv} {k : Nat} {x0 x4 x5 x6 x77 : Value} {h : AH} {K : XE → Act → AH → Option β} : kCode env 3 false inv k (cr (cr (cl (cl (cr (cl (cr (cr (cr (cr (cr (cr (cr c3))))))))))))) (act 143 [(0, x0), (4, x4), (5, x5), (6, x6), (77, x77)]) h K =
    bnd (pBin Try.prog Go.BinOp.add 3 (Go.Operand.tmp 45) (Go.Operand.const (Go.Value.int Go.IntKind.i64 1)) x6 (Go.Value.int Go.IntKind.i64 1)) fun x46 =>
    K .normal (act 143 [(0, x0), (4, x4), (5, x5), (6, x46)]) h := (k_reg (by kernel_rfl)).trans (by kernel_rfl)
noncomputable def F3_lrlrrrrrrr {β : Type} (inv : Inv) (k : Nat) : Nat → Value → Value → Value → Value → AH → (Value → Value → Value → Value → Value → AH → Option β) → (Value → AH → Option β) → Option β
  | 0, _, _, _, _, _, _, _ => none
  | j + 1, x0, x4, x5, x6, h, ke0, kr =>
    bnd (pLen Try.prog #[22] x0 h) fun x43 =>
    bnd (pBin Try.prog Go.BinOp.lss 3 (Go.Operand.tmp 41) (Go.Operand.tmp 43) x6 x43) fun x44 =>
    brV x44
    (F3_lrllrlrrrrrrr inv k x0 x4 x5 x6 x44 h
    (fun y0 y4 y5 y6 y77 h =>
    bnd (pBin Try.prog Go.BinOp.add 3 (Go.Operand.tmp 45) (Go.Operand.const (Go.Value.int Go.IntKind.i64 1)) y6 (Go.Value.int Go.IntKind.i64 1)) fun x46 =>
    F3_lrlrrrrrrr inv k j y0 y4 y5 x46 h ke0 kr)
    (fun y2 h_1 =>
    kr y2 h_1))
    (ke0 x0 x4 x5 x6 x44 h)
theorem F3_lrlrrrrrrr_j {β : Type} {inv : Inv} {k : Nat} (j : Nat) {x0 x4 x5 x6 : Value} {h : AH} {K : XE → Act → AH → Option β} : kLoop (kCode env 3 false inv k (cl (cl (cr (cl (cr (cr (cr (cr (cr (cr (cr c3)))))))))))) j (act 143 [(0, x0), (4, x4), (5, x5), (6, x6)]) h K = F3_lrlrrrrrrr inv k j x0 x4 x5 x6 h (fun y0 y4 y5 y6 y44 h => K (.exit 0) (act 143 [(0, y0), (4, y4), (5, y5), (6, y6), (44, y44)]) h) (fun y2 h => K .ret (act 143 [(2, y2)]) h) := by
      induction j generalizing x0 x4 x5 x6 h with
      | zero => rfl
      | succ j ih =>
        unfold F3_lrlrrrrrrr
        simp only [kLoop, k_seq (E := env) (f := 3) (c := (cl (cl (cr (cl (cr (cr (cr (cr (cr (cr (cr c3)))))))))))) (by kernel_rfl), k_seq (E := env) (f := 3) (c := (cl (cl (cl (cr (cl (cr (cr (cr (cr (cr (cr (cr c3))))))))))))) (by kernel_rfl), r3_11, b3_rlllrlrrrrrrr, k_skip (E := env) (f := 3) (c := (cl (cr (cl (cl (cl (cr (cl (cr (cr (cr (cr (cr (cr (cr c3))))))))))))))) (by kernel_rfl), k_seq (E := env) (f := 3) (c := (cr (cl (cl (cr (cl (cr (cr (cr (cr (cr (cr (cr c3))))))))))))) (by kernel_rfl), F3_lrllrlrrrrrrr_eq, r3_12, k_exit (E := env) (f := 3) (c := (cr (cr (cl (cl (cl (cr (cl (cr (cr (cr (cr (cr (cr (cr c3))))))))))))))) (id := 0) (by kernel_rfl), ih, reduceIte, reduceCtorEq, XE.exit.injEq, Nat.reduceEqDiff] <;> kernel_rfl
theorem F3_lrlrrrrrrr_eq {β : Type} {inv : Inv} {k : Nat} {x0 x4 x5 x6 : Value} {h : AH} {K : XE → Act → AH → Option β} : kCode env 3 false inv k (cl (cr (cl (cr (cr (cr (cr (cr (cr (cr c3)))))))))) (act 143 [(0, x0), (4, x4), (5, x5), (6, x6)]) h K = F3_lrlrrrrrrr inv k k x0 x4 x5 x6 h (fun y0 y4 y5 y6 y44 h => K (.exit 0) (act 143 [(0, y0), (4, y4), (5, y5), (6, y6), (44, y44)]) h) (fun y2 h => K .ret (act 143 [(2, y2)]) h) := (k_loop (by kernel_rfl)).trans (F3_lrlrrrrrrr_j k)
theorem r3_17 {β : Type} {inv : Inv} {k : Nat} {x0 x4 x5 x6 x44 : Value} {h : AH} {K : XE → Act → AH → Option β} : kCode env 3 false inv k (cl (cr (cr (cr (cr (cr (cr (cr (cr c3))))))))) (act 143 [(0, x0), (4, x4), (5, x5), (6, x6), (44, x44)]) h K =
    bnd (inv (.func 11) #[] #[x0] h) fun x82 =>
    bnd (pExtract x82.1 0) fun x83 =>
    bnd (pExtract x82.1 1) fun x84 =>
    bnd (pExtract x82.1 2) fun x85 =>
    K .normal (act 143 [(0, x0), (7, x83), (8, x84), (9, x85)]) x82.2 := (k_reg (by kernel_rfl)).trans (by kernel_rfl)
theorem r3_18 {β : Type} {inv : Inv} {k : Nat} {x0 x7 x8 x9 : Value} {h : AH} {K : XE → Act → AH → Option β} : kCode env 3 false inv k (cl (cr (cr (cr (cr (cr (cr (cr (cr (cr c3)))))))))) (act 143 [(0, x0), (7, x7), (8, x8), (9, x9)]) h K =
    K .normal (act 143 [(0, x0), (7, x7), (8, x8), (9, x9), (10, (Go.Value.slice none 0 0))]) h := (k_reg (by kernel_rfl)).trans (by kernel_rfl)
theorem r3_19 {β : Type} {inv : Inv} {k : Nat} {x0 x7 x8 x9 x10 : Value} {h : AH} {K : XE → Act → AH → Option β} : kCode env 3 false inv k (cl (cl (cr (cr (cr (cr (cr (cr (cr (cr (cr (cr c3)))))))))))) (act 143 [(0, x0), (7, x7), (8, x8), (9, x9), (10, x10)]) h K =
    K .normal (act 143 [(0, x0), (7, x7), (8, x8), (9, x9), (10, x10), (11, (Go.Value.int Go.IntKind.i64 0))]) h := (k_reg (by kernel_rfl)).trans (by kernel_rfl)
theorem r3_20 {β : Type} {inv : Inv} {k : Nat} {x0 x7 x8 x9 x10 x11 : Value} {h : AH} {K : XE → Act → AH → Option β} : kCode env 3 false inv k (cl (cl (cl (cl (cr (cl (cr (cr (cr (cr (cr (cr (cr (cr (cr (cr c3)))))))))))))))) (act 143 [(0, x0), (7, x7), (8, x8), (9, x9), (10, x10), (11, x11)]) h K =
    bnd (pLen Try.prog #[25] x7 h) fun x88 =>
    bnd (pBin Try.prog Go.BinOp.lss 3 (Go.Operand.tmp 86) (Go.Operand.tmp 88) x11 x88) fun x89 =>
    K .normal (act 143 [(0, x0), (7, x7), (8, x8), (9, x9), (10, x10), (11, x11), (89, x89)]) h := (k_reg (by kernel_rfl)).trans (by kernel_rfl)
theorem b3_rlllrlrrrrrrrrrr {β : Type} {inv : Inv} {k : Nat} {x0 x7 x8 x9 x10 x11 x89 : Value} {h : AH} {K : XE → Act → AH → Option β} : kCode env 3 false inv k (cr (cl (cl (cl (cr (cl (cr (cr (cr (cr (cr (cr (cr (cr (cr (cr c3)))))))))))))))) (act 143 [(0, x0), (7, x7), (8, x8), (9, x9), (10, x10), (11, x11), (89, x89)]) h K = brV x89 (kCode env 3 false inv k (cl (cr (cl (cl (cl (cr (cl (cr (cr (cr (cr (cr (cr (cr (cr (cr (cr c3))))))))))))))))) (act 143 [(0, x0), (7, x7), (8, x8), (9, x9), (10, x10), (11, x11), (89, x89)]) h K) (kCode env 3 false inv k (cr (cr (cl (cl (cl (cr (cl (cr (cr (cr (cr (cr (cr (cr (cr (cr (cr c3))))))))))))))))) (act 143 [(0, x0), (7, x7), (8, x8), (9, x9), (10, x10), (11, x11), (89, x89)]) h K) := (k_cond (by kernel_rfl)).trans (by kernel_rfl)
theorem r3_22 {β : Type} {inv : Inv} {k : Nat} {x0 x7 x8 x9 x10 x11 x89 : Value} {h : AH} {K : XE → Act → AH → Option β} : kCode env 3 false inv k (cl (cl (cl (cl (cr (cl (cl (cr (cl (cr (cr (cr (cr (cr (cr (cr (cr (cr (cr c3))))))))))))))))))) (act 143 [(0, x0), (7, x7), (8, x8), (9, x9), (10, x10), (11, x11), (89, x89)]) h K =
    bnd (pIndexAddr Try.prog 25 x7 x11) fun x94 =>
    bnd (pLoad Try.prog 3 x94 h) fun x95 =>
    bnd (pBin Try.prog Go.BinOp.lss 3 (Go.Operand.tmp 95) (Go.Operand.const (Go.Value.int Go.IntKind.i64 1)) x95 (Go.Value.int Go.IntKind.i64 1)) fun x96 =>
    bnd (gd3 (some x96) false h (some (x7, h))) fun x98 =>
    bnd (gd3 (some x96) false x98.2.1 (some (x11, x98.2.1))) fun x99 =>
    bnd (gd3 (some x96) false x99.2.1 (lt (pIndexAddr Try.prog 25 x98.1 x99.1) x99.2.1)) fun x100 =>
    bnd (gd3 (some x96) false x100.2.1 (lt (pLoad Try.prog 3 x100.1 x100.2.1) x100.2.1)) fun x101 =>
    bnd (gd3 (some x96) false x101.2.1 (some (x0, x101.2.1))) fun x102 =>
    bnd (gd3 (some x96) false x102.2.1 (lt (pLen Try.prog #[22] x102.1 x102.2.1) x102.2.1)) fun x103 =>
    bnd (gd3 (some x96) false x103.2.1 (lt (pBin Try.prog Go.BinOp.gtr 3 (Go.Operand.tmp 101) (Go.Operand.tmp 103) x101.1 x103.1) x103.2.1)) fun x104 =>
    bnd (pickV x96 (Go.Value.bool true) x104.1) fun x105 =>
    bnd (gd3 (some x105) false x104.2.1 (some (x11, x104.2.1))) fun x107 =>
    bnd (gd3 (some x105) false x107.2.1 (lt (pBin Try.prog Go.BinOp.gtr 3 (Go.Operand.tmp 107) (Go.Operand.const (Go.Value.int Go.IntKind.i64 0)) x107.1 (Go.Value.int Go.IntKind.i64 0)) x107.2.1)) fun x108 =>
    bnd (gd3 (some x105) false x108.2.1 (some (x108.1, x108.2.1))) fun x109 =>
    bnd (gd3 (some x109.1) true x109.2.1 (some (x8, x109.2.1))) fun x110 =>
    bnd (gd3 (some x109.1) true x110.2.1 (some (x11, x110.2.1))) fun x111 =>
    bnd (gd3 (some x109.1) true x111.2.1 (lt (pIndexAddr Try.prog 22 x110.1 x111.1) x111.2.1)) fun x112 =>
    bnd (gd3 (some x109.1) true x112.2.1 (lt (pLoad Try.prog 4 x112.1 x112.2.1) x112.2.1)) fun x113 =>
    bnd (gd3 (some x109.1) true x113.2.1 (some (x8, x113.2.1))) fun x114 =>
    bnd (gd3 (some x109.1) true x114.2.1 (some (x11, x114.2.1))) fun x115 =>
    bnd (gd3 (some x109.1) true x115.2.1 (lt (pBin Try.prog Go.BinOp.sub 3 (Go.Operand.tmp 115) (Go.Operand.const (Go.Value.int Go.IntKind.i64 1)) x115.1 (Go.Value.int Go.IntKind.i64 1)) x115.2.1)) fun x116 =>
    bnd (gd3 (some x109.1) true x116.2.1 (lt (pIndexAddr Try.prog 22 x114.1 x116.1) x116.2.1)) fun x117 =>
    bnd (gd3 (some x109.1) true x117.2.1 (lt (pLoad Try.prog 4 x117.1 x117.2.1) x117.2.1)) fun x118 =>
    bnd (gd3 (some x109.1) true x118.2.1 (lt (pBin Try.prog Go.BinOp.eql 4 (Go.Operand.tmp 113) (Go.Operand.tmp 118) x113.1 x118.1) x118.2.1)) fun x119 =>
    bnd (gd3 (some x105) false x119.2.1 (lt (pickV x109.1 x119.1 (Go.Value.bool false)) x119.2.1)) fun x120 =>
    bnd (pickV x105 (Go.Value.bool true) x120.1) fun x121 =>
    K .normal (act 143 [(0, x0), (7, x7), (8, x8), (9, x9), (10, x10), (11, x11), (121, x121)]) x120.2.1 := (k_draw (by kernel_rfl)).trans (by kernel_rfl)
theorem b3_rlllrllrlrrrrrrrrrr {β : Type} {inv : Inv} {k : Nat} {x0 x7 x8 x9 x10 x11 x121 : Value} {h : AH} {K : XE → Act → AH → Option β} : kCode env 3 false inv k (cr (cl (cl (cl (cr (cl (cl (cr (cl (cr (cr (cr (cr (cr (cr (cr (cr (cr (cr c3))))))))))))))))))) (act 143 [(0, x0), (7, x7), (8, x8), (9, x9), (10, x10), (11, x11), (121, x121)]) h K = brV x121 (kCode env 3 false inv k (cl (cr (cl (cl (cl (cr (cl (cl (cr (cl (cr (cr (cr (cr (cr (cr (cr (cr (cr (cr c3)))))))))))))))))))) (act 143 [(0, x0), (7, x7), (8, x8), (9, x9), (10, x10), (11, x11), (121, x121)]) h K) (kCode env 3 false inv k (cr (cr (cl (cl (cl (cr (cl (cl (cr (cl (cr (cr (cr (cr (cr (cr (cr (cr (cr (cr c3)))))))))))))))))))) (act 143 [(0, x0), (7, x7), (8, x8), (9, x9), (10, x10), (11, x11), (121, x121)]) h K) := (k_cond (by kernel_rfl)).trans (by kernel_rfl)
theorem r3_23 {β : Type} {inv : Inv} {k : Nat} {x0 x7 x8 x9 x10 x11 x121 : Value} {h : AH} {K : XE → Act → AH → Option β} : kCode env 3 false inv k (cl (cl (cr (cl (cl (cl (cr (cl (cl (cr (cl (cr (cr (cr (cr (cr (cr (cr (cr (cr (cr c3))))))))))))))))))))) (act 143 [(0, x0), (7, x7), (8, x8), (9, x9), (10, x10), (11, x11), (121, x121)]) h K =
    K .normal (act 143 [(2, (Go.Value.bool false))]) h := (k_reg (by kernel_rfl)).trans (by kernel_rfl)
theorem r3_24 {β : Type} {inv : Inv} {k : Nat} {x0 x7 x8 x9 x10 x11 x121 : Value} {h : AH} {K : XE → Act → AH → Option β} : kCode env 3 false inv k (cl (cr (cl (cl (cr (cl (cl (cr (cl (cr (cr (cr (cr (cr (cr (cr (cr (cr (cr c3))))))))))))))))))) (act 143 [(0, x0), (7, x7), (8, x8), (9, x9), (10, x10), (11, x11), (121, x121)]) h K =
    K .normal (act 143 [(0, x0), (7, x7), (8, x8), (9, x9), (10, x10), (11, x11), (12, (Go.Value.int Go.IntKind.i64 0))]) h := (k_reg (by kernel_rfl)).trans (by kernel_rfl)
theorem r3_25 {β : Type} {inv : Inv} {k : Nat} {x0 x7 x8 x9 x10 x11 x12 : Value} {h : AH} {K : XE → Act → AH → Option β} : kCode env 3 false inv k (cl (cl (cl (cl (cr (cr (cl (cl (cr (cl (cl (cr (cl (cr (cr (cr (cr (cr (cr (cr (cr (cr (cr c3))))))))))))))))))))))) (act 143 [(0, x0), (7, x7), (8, x8), (9, x9), (10, x10), (11, x11), (12, x12)]) h K =
    bnd (pIndexAddr Try.prog 25 x7 x11) fun x125 =>
    bnd (pLoad Try.prog 3 x125 h) fun x126 =>
    bnd (pBin Try.prog Go.BinOp.lss 3 (Go.Operand.tmp 122) (Go.Operand.tmp 126) x12 x126) fun x127 =>
    K .normal (act 143 [(0, x0), (7, x7), (8, x8), (9, x9), (10, x10), (11, x11), (12, x12), (127, x127)]) h := (k_reg (by kernel_rfl)).trans (by kernel_rfl)
theorem b3_rlllrrllrllrlrrrrrrrrrr {β : Type} {inv : Inv} {k : Nat} {x0 x7 x8 x9 x10 x11 x12 x127 : Value} {h : AH} {K : XE → Act → AH → Option β} : kCode env 3 false inv k (cr (cl (cl (cl (cr (cr (cl (cl (cr (cl (cl (cr (cl (cr (cr (cr (cr (cr (cr (cr (cr (cr (cr c3))))))))))))))))))))))) (act 143 [(0, x0), (7, x7), (8, x8), (9, x9), (10, x10), (11, x11), (12, x12), (127, x127)]) h K = brV x127 (kCode env 3 false inv k (cl (cr (cl (cl (cl (cr (cr (cl (cl (cr (cl (cl (cr (cl (cr (cr (cr (cr (cr (cr (cr (cr (cr (cr c3)))))))))))))))))))))))) (act 143 [(0, x0), (7, x7), (8, x8), (9, x9), (10, x10), (11, x11), (12, x12), (127, x127)]) h K) (kCode env 3 false inv k (cr (cr (cl (cl (cl (cr (cr (cl (cl (cr (cl (cl (cr (cl (cr (cr (cr (cr (cr (cr (cr (cr (cr (cr c3)))))))))))))))))))))))) (act 143 [(0, x0), (7, x7), (8, x8), (9, x9), (10, x10), (11, x11), (12, x12), (127, x127)]) h K) := (k_cond (by kernel_rfl)).trans (by kernel_rfl)
theorem r3_27 {β : Type} {inv : Inv} {k : Nat} {x0 x7 x8 x9 x10 x11 x12 x127 : Value} {h : AH} {K : XE → Act → AH → Option β} : kCode env 3 false inv k (cl (cl (cr (cl (cl (cr (cr (cl (cl (cr (cl (cl (cr (cl (cr (cr (cr (cr (cr (cr (cr (cr (cr (cr c3)))))))))))))))))))))))) (act 143 [(0, x0), (7, x7), (8, x8), (9, x9), (10, x10), (11, x11), (12, x12), (127, x127)]) h K =
    bnd (pIndexAddr Try.prog 22 x8 x11) fun x133 =>
    bnd (pLoad Try.prog 4 x133 h) fun x134 =>
    bnd (pBuildSlice Try.prog 22 1 #[(0, x134)] h) fun x135 =>
    bnd (pAppend Try.prog #[22, 22] x10 x135.1 x135.2) fun x136 =>
    K .normal (act 143 [(0, x0), (7, x7), (8, x8), (9, x9), (10, x136.1), (11, x11), (12, x12)]) x136.2 := (k_reg (by kernel_rfl)).trans (by kernel_rfl)
theorem r3_26 {β : Type} {inv : Inv} {k : Nat} {x0 x7 x8 x9 x10 x11 x12 : Value} {h : AH} {K : XE → Act → AH → Option β} : kCode env 3 false inv k (cr (cr (cl (cl (cr (cr (cl (cl (cr (cl (cl (cr (cl (cr (cr (cr (cr (cr (cr (cr (cr (cr (cr c3))))))))))))))))))))))) (act 143 [(0, x0), (7, x7), (8, x8), (9, x9), (10, x10), (11, x11), (12, x12)]) h K =
    bnd (pBin Try.prog Go.BinOp.add 3 (Go.Operand.tmp 128) (Go.Operand.const (Go.Value.int Go.IntKind.i64 1)) x12 (Go.Value.int Go.IntKind.i64 1)) fun x129 =>
    K .normal (act 143 [(0, x0), (7, x7), (8, x8), (9, x9), (10, x10), (11, x11), (12, x129)]) h := (k_reg (by kernel_rfl)).trans (by kernel_rfl)
noncomputable def F3_lrrllrllrlrrrrrrrrrr {β : Type} (inv : Inv) (k : Nat) : Nat → Value → Value → Value → Value → Value → Value → Value → AH → (Value → Value → Value → Value → Value → Value → Value → Value → AH → Option β) → Option β
  | 0, _, _, _, _, _, _, _, _, _ => none
  | j + 1, x0, x7, x8, x9, x10, x11, x12, h, ke4 =>
    bnd (pIndexAddr Try.prog 25 x7 x11) fun x125 =>
    bnd (pLoad Try.prog 3 x125 h) fun x126 =>
    bnd (pBin Try.prog Go.BinOp.lss 3 (Go.Operand.tmp 122) (Go.Operand.tmp 126) x12 x126) fun x127 =>
    brV x127
    (bnd (pIndexAddr Try.prog 22 x8 x11) fun x133 =>
    bnd (pLoad Try.prog 4 x133 h) fun x134 =>
    bnd (pBuildSlice Try.prog 22 1 #[(0, x134)] h) fun x135 =>
    bnd (pAppend Try.prog #[22, 22] x10 x135.1 x135.2) fun x136 =>
    bnd (pBin Try.prog Go.BinOp.add 3 (Go.Operand.tmp 128) (Go.Operand.const (Go.Value.int Go.IntKind.i64 1)) x12 (Go.Value.int Go.IntKind.i64 1)) fun x129 =>
    F3_lrrllrllrlrrrrrrrrrr inv k j x0 x7 x8 x9 x136.1 x11 x129 x136.2 ke4)
    (ke4 x0 x7 x8 x9 x10 x11 x12 x127 h)
theorem F3_lrrllrllrlrrrrrrrrrr_j {β : Type} {inv : Inv} {k : Nat} (j : Nat) {x0 x7 x8 x9 x10 x11 x12 : Value} {h : AH} {K : XE → Act → AH → Option β} : kLoop (kCode env 3 false inv k (cl (cl (cr (cr (cl (cl (cr (cl (cl (cr (cl (cr (cr (cr (cr (cr (cr (cr (cr (cr (cr c3)))))))))))))))))))))) j (act 143 [(0, x0), (7, x7), (8, x8), (9, x9), (10, x10), (11, x11), (12, x12)]) h K = F3_lrrllrllrlrrrrrrrrrr inv k j x0 x7 x8 x9 x10 x11 x12 h (fun y0 y7 y8 y9 y10 y11 y12 y127 h => K (.exit 4) (act 143 [(0, y0), (7, y7), (8, y8), (9, y9), (10, y10), (11, y11), (12, y12), (127, y127)]) h) := by
      induction j generalizing x0 x7 x8 x9 x10 x11 x12 h with
      | zero => rfl
      | succ j ih =>
        unfold F3_lrrllrllrlrrrrrrrrrr
        simp only [kLoop, k_seq (E := env) (f := 3) (c := (cl (cl (cr (cr (cl (cl (cr (cl (cl (cr (cl (cr (cr (cr (cr (cr (cr (cr (cr (cr (cr c3)))))))))))))))))))))) (by kernel_rfl), k_seq (E := env) (f := 3) (c := (cl (cl (cl (cr (cr (cl (cl (cr (cl (cl (cr (cl (cr (cr (cr (cr (cr (cr (cr (cr (cr (cr c3))))))))))))))))))))))) (by kernel_rfl), r3_25, b3_rlllrrllrllrlrrrrrrrrrr, k_skip (E := env) (f := 3) (c := (cl (cr (cl (cl (cl (cr (cr (cl (cl (cr (cl (cl (cr (cl (cr (cr (cr (cr (cr (cr (cr (cr (cr (cr c3))))))))))))))))))))))))) (by kernel_rfl), k_seq (E := env) (f := 3) (c := (cr (cl (cl (cr (cr (cl (cl (cr (cl (cl (cr (cl (cr (cr (cr (cr (cr (cr (cr (cr (cr (cr c3))))))))))))))))))))))) (by kernel_rfl), k_block (E := env) (f := 3) (c := (cl (cr (cl (cl (cr (cr (cl (cl (cr (cl (cl (cr (cl (cr (cr (cr (cr (cr (cr (cr (cr (cr (cr c3)))))))))))))))))))))))) (id := 5) (by kernel_rfl), r3_27, r3_26, k_exit (E := env) (f := 3) (c := (cr (cr (cl (cl (cl (cr (cr (cl (cl (cr (cl (cl (cr (cl (cr (cr (cr (cr (cr (cr (cr (cr (cr (cr c3))))))))))))))))))))))))) (id := 4) (by kernel_rfl), ih, reduceIte, reduceCtorEq, XE.exit.injEq, Nat.reduceEqDiff] <;> kernel_rfl
theorem F3_lrrllrllrlrrrrrrrrrr_eq {β : Type} {inv : Inv} {k : Nat} {x0 x7 x8 x9 x10 x11 x12 : Value} {h : AH} {K : XE → Act → AH → Option β} : kCode env 3 false inv k (cl (cr (cr (cl (cl (cr (cl (cl (cr (cl (cr (cr (cr (cr (cr (cr (cr (cr (cr (cr c3)))))))))))))))))))) (act 143 [(0, x0), (7, x7), (8, x8), (9, x9), (10, x10), (11, x11), (12, x12)]) h K = F3_lrrllrllrlrrrrrrrrrr inv k k x0 x7 x8 x9 x10 x11 x12 h (fun y0 y7 y8 y9 y10 y11 y12 y127 h => K (.exit 4) (act 143 [(0, y0), (7, y7), (8, y8), (9, y9), (10, y10), (11, y11), (12, y12), (127, y127)]) h) := (k_loop (by kernel_rfl)).trans (F3_lrrllrllrlrrrrrrrrrr_j k)
theorem r3_21 {β : Type} {inv : Inv} {k : Nat} {x0 x7 x8 x9 x10 x11 x12 x127 : Value} {h : AH} {K : XE → Act → AH → Option β} : kCode env 3 false inv k (cr (cr (cl (cl (cr (cl (cr (cr (cr (cr (cr (cr (cr (cr (cr (cr c3)))))))))))))))) (act 143 [(0, x0), (7, x7), (8, x8), (9, x9), (10, x10), (11, x11), (12, x12), (127, x127)]) h K =
    bnd (pBin Try.prog Go.BinOp.add 3 (Go.Operand.tmp 90) (Go.Operand.const (Go.Value.int Go.IntKind.i64 1)) x11 (Go.Value.int Go.IntKind.i64 1)) fun x91 =>
    K .normal (act 143 [(0, x0), (7, x7), (8, x8), (9, x9), (10, x10), (11, x91)]) h := (k_reg (by kernel_rfl)).trans (by kernel_rfl)
noncomputable def F3_lrlrrrrrrrrrr {β : Type} (inv : Inv) (k : Nat) : Nat → Value → Value → Value → Value → Value → Value → AH → (Value → Value → Value → Value → Value → Value → Value → AH → Option β) → (Value → AH → Option β) → Option β
  | 0, _, _, _, _, _, _, _, _, _ => none
  | j + 1, x0, x7, x8, x9, x10, x11, h, ke2, kr =>
    bnd (pLen Try.prog #[25] x7 h) fun x88 =>
    bnd (pBin Try.prog Go.BinOp.lss 3 (Go.Operand.tmp 86) (Go.Operand.tmp 88) x11 x88) fun x89 =>
    brV x89
    (bnd (pIndexAddr Try.prog 25 x7 x11) fun x94 =>
    bnd (pLoad Try.prog 3 x94 h) fun x95 =>
    bnd (pBin Try.prog Go.BinOp.lss 3 (Go.Operand.tmp 95) (Go.Operand.const (Go.Value.int Go.IntKind.i64 1)) x95 (Go.Value.int Go.IntKind.i64 1)) fun x96 =>
    bnd (gd3 (some x96) false h (some (x7, h))) fun x98 =>
    bnd (gd3 (some x96) false x98.2.1 (some (x11, x98.2.1))) fun x99 =>
    bnd (gd3 (some x96) false x99.2.1 (lt (pIndexAddr Try.prog 25 x98.1 x99.1) x99.2.1)) fun x100 =>
    bnd (gd3 (some x96) false x100.2.1 (lt (pLoad Try.prog 3 x100.1 x100.2.1) x100.2.1)) fun x101 =>
    bnd (gd3 (some x96) false x101.2.1 (some (x0, x101.2.1))) fun x102 =>
    bnd (gd3 (some x96) false x102.2.1 (lt (pLen Try.prog #[22] x102.1 x102.2.1) x102.2.1)) fun x103 =>
    bnd (gd3 (some x96) false x103.2.1 (lt (pBin Try.prog Go.BinOp.gtr 3 (Go.Operand.tmp 101) (Go.Operand.tmp 103) x101.1 x103.1) x103.2.1)) fun x104 =>
    bnd (pickV x96 (Go.Value.bool true) x104.1) fun x105 =>
    bnd (gd3 (some x105) false x104.2.1 (some (x11, x104.2.1))) fun x107 =>
    bnd (gd3 (some x105) false x107.2.1 (lt (pBin Try.prog Go.BinOp.gtr 3 (Go.Operand.tmp 107) (Go.Operand.const (Go.Value.int Go.IntKind.i64 0)) x107.1 (Go.Value.int Go.IntKind.i64 0)) x107.2.1)) fun x108 =>
    bnd (gd3 (some x105) false x108.2.1 (some (x108.1, x108.2.1))) fun x109 =>
    bnd (gd3 (some x109.1) true x109.2.1 (some (x8, x109.2.1))) fun x110 =>
    bnd (gd3 (some x109.1) true x110.2.1 (some (x11, x110.2.1))) fun x111 =>
    bnd (gd3 (some x109.1) true x111.2.1 (lt (pIndexAddr Try.prog 22 x110.1 x111.1) x111.2.1)) fun x112 =>
    bnd (gd3 (some x109.1) true x112.2.1 (lt (pLoad Try.prog 4 x112.1 x112.2.1) x112.2.1)) fun x113 =>
    bnd (gd3 (some x109.1) true x113.2.1 (some (x8, x113.2.1))) fun x114 =>
    bnd (gd3 (some x109.1) true x114.2.1 (some (x11, x114.2.1))) fun x115 =>
    bnd (gd3 (some x109.1) true x115.2.1 (lt (pBin Try.prog Go.BinOp.sub 3 (Go.Operand.tmp 115) (Go.Operand.const (Go.Value.int Go.IntKind.i64 1)) x115.1 (Go.Value.int Go.IntKind.i64 1)) x115.2.1)) fun x116 =>
    bnd (gd3 (some x109.1) true x116.2.1 (lt (pIndexAddr Try.prog 22 x114.1 x116.1) x116.2.1)) fun x117 =>
    bnd (gd3 (some x109.1) true x117.2.1 (lt (pLoad Try.prog 4 x117.1 x117.2.1) x117.2.1)) fun x118 =>
    bnd (gd3 (some x109.1) true x118.2.1 (lt (pBin Try.prog Go.BinOp.eql 4 (Go.Operand.tmp 113) (Go.Operand.tmp 118) x113.1 x118.1) x118.2.1)) fun x119 =>
    bnd (gd3 (some x105) false x119.2.1 (lt (pickV x109.1 x119.1 (Go.Value.bool false)) x119.2.1)) fun x120 =>
    bnd (pickV x105 (Go.Value.bool true) x120.1) fun x121 =>
    brV x121
    (kr (Go.Value.bool false) x120.2.1)
    (F3_lrrllrllrlrrrrrrrrrr inv k k x0 x7 x8 x9 x10 x11 (Go.Value.int Go.IntKind.i64 0) x120.2.1
    (fun y0 y7 y8 y9 y10 y11 y12 y127 h =>
    bnd (pBin Try.prog Go.BinOp.add 3 (Go.Operand.tmp 90) (Go.Operand.const (Go.Value.int Go.IntKind.i64 1)) y11 (Go.Value.int Go.IntKind.i64 1)) fun x91 =>
    F3_lrlrrrrrrrrrr inv k j y0 y7 y8 y9 y10 x91 h ke2 kr)))
    (ke2 x0 x7 x8 x9 x10 x11 x89 h)
theorem F3_lrlrrrrrrrrrr_j {β : Type} {inv : Inv} {k : Nat} (j : Nat) {x0 x7 x8 x9 x10 x11 : Value} {h : AH} {K : XE → Act → AH → Option β} : kLoop (kCode env 3 false inv k (cl (cl (cr (cl (cr (cr (cr (cr (cr (cr (cr (cr (cr (cr c3))))))))))))))) j (act 143 [(0, x0), (7, x7), (8, x8), (9, x9), (10, x10), (11, x11)]) h K = F3_lrlrrrrrrrrrr inv k j x0 x7 x8 x9 x10 x11 h (fun y0 y7 y8 y9 y10 y11 y89 h => K (.exit 2) (act 143 [(0, y0), (7, y7), (8, y8), (9, y9), (10, y10), (11, y11), (89, y89)]) h) (fun y2 h => K .ret (act 143 [(2, y2)]) h) := by
      induction j generalizing x0 x7 x8 x9 x10 x11 h with
      | zero => rfl
      | succ j ih =>
        unfold F3_lrlrrrrrrrrrr
        simp only [kLoop, k_seq (E := env) (f := 3) (c := (cl (cl (cr (cl (cr (cr (cr (cr (cr (cr (cr (cr (cr (cr c3))))))))))))))) (by kernel_rfl), k_seq (E := env) (f := 3) (c := (cl (cl (cl (cr (cl (cr (cr (cr (cr (cr (cr (cr (cr (cr (cr c3)))))))))))))))) (by kernel_rfl), r3_20, b3_rlllrlrrrrrrrrrr, k_skip (E := env) (f := 3) (c := (cl (cr (cl (cl (cl (cr (cl (cr (cr (cr (cr (cr (cr (cr (cr (cr (cr c3)))))))))))))))))) (by kernel_rfl), k_seq (E := env) (f := 3) (c := (cr (cl (cl (cr (cl (cr (cr (cr (cr (cr (cr (cr (cr (cr (cr c3)))))))))))))))) (by kernel_rfl), k_block (E := env) (f := 3) (c := (cl (cr (cl (cl (cr (cl (cr (cr (cr (cr (cr (cr (cr (cr (cr (cr c3))))))))))))))))) (id := 3) (by kernel_rfl), k_seq (E := env) (f := 3) (c := (cl (cl (cr (cl (cl (cr (cl (cr (cr (cr (cr (cr (cr (cr (cr (cr (cr c3)))))))))))))))))) (by kernel_rfl), k_seq (E := env) (f := 3) (c := (cl (cl (cl (cr (cl (cl (cr (cl (cr (cr (cr (cr (cr (cr (cr (cr (cr (cr c3))))))))))))))))))) (by kernel_rfl), r3_22, b3_rlllrllrlrrrrrrrrrr, k_seq (E := env) (f := 3) (c := (cl (cr (cl (cl (cl (cr (cl (cl (cr (cl (cr (cr (cr (cr (cr (cr (cr (cr (cr (cr c3))))))))))))))))))))) (by kernel_rfl), r3_23, k_ret (E := env) (f := 3) (c := (cr (cl (cr (cl (cl (cl (cr (cl (cl (cr (cl (cr (cr (cr (cr (cr (cr (cr (cr (cr (cr c3)))))))))))))))))))))) (by kernel_rfl), k_skip (E := env) (f := 3) (c := (cr (cr (cl (cl (cl (cr (cl (cl (cr (cl (cr (cr (cr (cr (cr (cr (cr (cr (cr (cr c3))))))))))))))))))))) (by kernel_rfl), k_seq (E := env) (f := 3) (c := (cr (cl (cl (cr (cl (cl (cr (cl (cr (cr (cr (cr (cr (cr (cr (cr (cr (cr c3))))))))))))))))))) (by kernel_rfl), r3_24, k_block (E := env) (f := 3) (c := (cr (cr (cl (cl (cr (cl (cl (cr (cl (cr (cr (cr (cr (cr (cr (cr (cr (cr (cr c3)))))))))))))))))))) (id := 4) (by kernel_rfl), F3_lrrllrllrlrrrrrrrrrr_eq, r3_21, k_exit (E := env) (f := 3) (c := (cr (cr (cl (cl (cl (cr (cl (cr (cr (cr (cr (cr (cr (cr (cr (cr (cr c3)))))))))))))))))) (id := 2) (by kernel_rfl), ih, reduceIte, reduceCtorEq, XE.exit.injEq, Nat.reduceEqDiff] <;> kernel_rfl
theorem F3_lrlrrrrrrrrrr_eq {β : Type} {inv : Inv} {k : Nat} {x0 x7 x8 x9 x10 x11 : Value} {h : AH} {K : XE → Act → AH → Option β} : kCode env 3 false inv k (cl (cr (cl (cr (cr (cr (cr (cr (cr (cr (cr (cr (cr c3))))))))))))) (act 143 [(0, x0), (7, x7), (8, x8), (9, x9), (10, x10), (11, x11)]) h K = F3_lrlrrrrrrrrrr inv k k x0 x7 x8 x9 x10 x11 h (fun y0 y7 y8 y9 y10 y11 y89 h => K (.exit 2) (act 143 [(0, y0), (7, y7), (8, y8), (9, y9), (10, y10), (11, y11), (89, y89)]) h) (fun y2 h => K .ret (act 143 [(2, y2)]) h) := (k_loop (by kernel_rfl)).trans (F3_lrlrrrrrrrrrr_j k)
theorem r3_28 {β : Type} {inv : Inv} {k : Nat} {x0 x7 x8 x9 x10 x11 x89 : Value} {h : AH} {K : XE → Act → AH → Option β} : kCode env 3 false inv k (cl (cr (cr (cr (cr (cr (cr (cr (cr (cr (cr (cr c3)))))))))))) (act 143 [(0, x0), (7, x7), (8, x8), (9, x9), (10, x10), (11, x11), (89, x89)]) h K =
    bnd (gd (some x9) true h (some (x10, h))) fun x139 =>
    bnd (gd (some x9) true x139.2 (some (x0, x139.2))) fun x140 =>
    bnd (gd (some x9) true x140.2 (inv (.func 12) #[] #[x139.1, x140.1] x140.2)) fun x141 =>
    bnd (pickV x9 x141.1 (Go.Value.bool false)) fun x142 =>
    K .normal (act 143 [(2, x142)]) x141.2 := (k_reg (by kernel_rfl)).trans (by kernel_rfl)
/-- shadowbook/shadowbooklaw08.NullsSpread -/
noncomputable def F3 (inv : Inv) (k : Nat) (x0 : Value) (h : AH) : Option (Value × AH) :=
    bnd (inv (.func 8) #[] #[] h) fun x13 =>
    bnd (pUn Try.prog Go.UnOp.not x13.1) fun x14 =>
    brV x14
    (some ((Go.Value.bool false), x13.2))
    (bnd (pLen Try.prog #[22] x0 x13.2) fun x16 =>
    bnd (pBin Try.prog Go.BinOp.gtr 3 (Go.Operand.tmp 16) (Go.Operand.const (Go.Value.int Go.IntKind.i64 300)) x16 (Go.Value.int Go.IntKind.i64 300)) fun x17 =>
    brV x17
    (some ((Go.Value.bool true), x13.2))
    (bnd (inv (.func 9) #[] #[x0] x13.2) fun x19 =>
    bnd (pLen Try.prog #[22] x0 x19.2) fun x22 =>
    bnd (pBin Try.prog Go.BinOp.sub 3 (Go.Operand.tmp 22) (Go.Operand.tmp 23) x22 x19.1) fun x24 =>
    bnd (inv (.func 10) #[] #[x0, x24] x19.2) fun x25 =>
    bnd (pLen Try.prog #[25] x25.1 x25.2) fun x27 =>
    bnd (pLen Try.prog #[22] x0 x25.2) fun x29 =>
    bnd (pBin Try.prog Go.BinOp.neq 3 (Go.Operand.tmp 27) (Go.Operand.tmp 29) x27 x29) fun x30 =>
    bnd (gd (some x30) false x25.2 (some (x19.1, x25.2))) fun x32 =>
    bnd (gd (some x30) false x32.2 (lt (pBin Try.prog Go.BinOp.lss 3 (Go.Operand.tmp 32) (Go.Operand.const (Go.Value.int Go.IntKind.i64 0)) x32.1 (Go.Value.int Go.IntKind.i64 0)) x32.2)) fun x33 =>
    bnd (pickV x30 (Go.Value.bool true) x33.1) fun x34 =>
    bnd (gd (some x34) false x33.2 (some (x19.1, x33.2))) fun x36 =>
    bnd (gd (some x34) false x36.2 (some (x0, x36.2))) fun x37 =>
    bnd (gd (some x34) false x37.2 (lt (pLen Try.prog #[22] x37.1 x37.2) x37.2)) fun x38 =>
    bnd (gd (some x34) false x38.2 (lt (pBin Try.prog Go.BinOp.gtr 3 (Go.Operand.tmp 36) (Go.Operand.tmp 38) x36.1 x38.1) x38.2)) fun x39 =>
    bnd (pickV x34 (Go.Value.bool true) x39.1) fun x40 =>
    brV x40
    (some ((Go.Value.bool false), x39.2))
    (F3_lrlrrrrrrr inv k k x0 x25.1 (Go.Value.int Go.IntKind.i64 0) (Go.Value.int Go.IntKind.i64 0) x39.2
    (fun y0 y4 y5 y6 y44 h =>
    bnd (inv (.func 11) #[] #[y0] h) fun x82 =>
    bnd (pExtract x82.1 0) fun x83 =>
    bnd (pExtract x82.1 1) fun x84 =>
    bnd (pExtract x82.1 2) fun x85 =>
    F3_lrlrrrrrrrrrr inv k k y0 x83 x84 x85 (Go.Value.slice none 0 0) (Go.Value.int Go.IntKind.i64 0) x82.2
    (fun y0_2 y7 y8 y9 y10 y11 y89 h_3 =>
    bnd (gd (some y9) true h_3 (some (y10, h_3))) fun x139 =>
    bnd (gd (some y9) true x139.2 (some (y0_2, x139.2))) fun x140 =>
    bnd (gd (some y9) true x140.2 (inv (.func 12) #[] #[x139.1, x140.1] x140.2)) fun x141 =>
    bnd (pickV y9 x141.1 (Go.Value.bool false)) fun x142 =>
    some (x142, x141.2))
    (fun y2 h_4 =>
    some (y2, h_4)))
    (fun y2_5 h_6 =>
    some (y2_5, h_6)))))
theorem F3_eq {inv : Inv} {k : Nat} {x0 : Value} {h : AH} : eFun env k inv 3 #[x0] h = F3 inv k x0 h := by
      refine (eFun_k2 (by kernel_rfl) (by kernel_rfl) (by kernel_rfl) (a := act 143 [(0, x0)]) (c := c3) (by kernel_rfl) (by kernel_rfl)).trans ?_
      unfold F3
      simp only [k_seq (E := env) (f := 3) (c := c3) (by kernel_rfl), r3_0, k_seq (E := env) (f := 3) (c := (cr c3)) (by kernel_rfl), k_seq (E := env) (f := 3) (c := (cl (cr c3))) (by kernel_rfl), r3_1, b3_rlr, k_seq (E := env) (f := 3) (c := (cl (cr (cl (cr c3))))) (by kernel_rfl), r3_2, k_ret (E := env) (f := 3) (c := (cr (cl (cr (cl (cr c3)))))) (by kernel_rfl), res3_0, k_skip (E := env) (f := 3) (c := (cr (cr (cl (cr c3))))) (by kernel_rfl), k_seq (E := env) (f := 3) (c := (cr (cr c3))) (by kernel_rfl), k_seq (E := env) (f := 3) (c := (cl (cr (cr c3)))) (by kernel_rfl), r3_3, b3_rlrr, k_seq (E := env) (f := 3) (c := (cl (cr (cl (cr (cr c3)))))) (by kernel_rfl), r3_4, k_ret (E := env) (f := 3) (c := (cr (cl (cr (cl (cr (cr c3))))))) (by kernel_rfl), k_skip (E := env) (f := 3) (c := (cr (cr (cl (cr (cr c3)))))) (by kernel_rfl), k_seq (E := env) (f := 3) (c := (cr (cr (cr c3)))) (by kernel_rfl), r3_5, k_seq (E := env) (f := 3) (c := (cr (cr (cr (cr c3))))) (by kernel_rfl), r3_6, k_seq (E := env) (f := 3) (c := (cr (cr (cr (cr (cr c3)))))) (by kernel_rfl), k_seq (E := env) (f := 3) (c := (cl (cr (cr (cr (cr (cr c3))))))) (by kernel_rfl), r3_7, b3_rlrrrrr, k_seq (E := env) (f := 3) (c := (cl (cr (cl (cr (cr (cr (cr (cr c3))))))))) (by kernel_rfl), r3_8, k_ret (E := env) (f := 3) (c := (cr (cl (cr (cl (cr (cr (cr (cr (cr c3)))))))))) (by kernel_rfl), k_skip (E := env) (f := 3) (c := (cr (cr (cl (cr (cr (cr (cr (cr c3))))))))) (by kernel_rfl), k_seq (E := env) (f := 3) (c := (cr (cr (cr (cr (cr (cr c3))))))) (by kernel_rfl), r3_9, k_seq (E := env) (f := 3) (c := (cr (cr (cr (cr (cr (cr (cr c3)))))))) (by kernel_rfl), k_seq (E := env) (f := 3) (c := (cl (cr (cr (cr (cr (cr (cr (cr c3))))))))) (by kernel_rfl), r3_10, k_block (E := env) (f := 3) (c := (cr (cl (cr (cr (cr (cr (cr (cr (cr c3)))))))))) (id := 0) (by kernel_rfl), F3_lrlrrrrrrr_eq, k_seq (E := env) (f := 3) (c := (cr (cr (cr (cr (cr (cr (cr (cr c3))))))))) (by kernel_rfl), r3_17, k_seq (E := env) (f := 3) (c := (cr (cr (cr (cr (cr (cr (cr (cr (cr c3)))))))))) (by kernel_rfl), r3_18, k_seq (E := env) (f := 3) (c := (cr (cr (cr (cr (cr (cr (cr (cr (cr (cr c3))))))))))) (by kernel_rfl), k_seq (E := env) (f := 3) (c := (cl (cr (cr (cr (cr (cr (cr (cr (cr (cr (cr c3)))))))))))) (by kernel_rfl), r3_19, k_block (E := env) (f := 3) (c := (cr (cl (cr (cr (cr (cr (cr (cr (cr (cr (cr (cr c3))))))))))))) (id := 2) (by kernel_rfl), F3_lrlrrrrrrrrrr_eq, k_seq (E := env) (f := 3) (c := (cr (cr (cr (cr (cr (cr (cr (cr (cr (cr (cr c3)))))))))))) (by kernel_rfl), r3_28, k_ret (E := env) (f := 3) (c := (cr (cr (cr (cr (cr (cr (cr (cr (cr (cr (cr (cr c3))))))))))))) (by kernel_rfl), reduceIte, reduceCtorEq, XE.exit.injEq, Nat.reduceEqDiff] <;> kernel_rfl
theorem F3_call {k : Nat} {x0 : Value} {h : AH} : eInv env (k + 1) (.func 3) #[] #[x0] h = F3 (eInv env k) k x0 h := (inv_func (by kernel_rfl)).trans F3_eq
noncomputable def c4 : Code := codeOf Try.prog 4
theorem r4_0 {β : Type} {inv : Inv} {k : Nat} {x0 : Value} {h : AH} {K : XE → Act → AH → Option β} : kCode env 4 false inv k (cl c4) (act 107 [(0, x0)]) h K =
    K .normal (act 107 [(0, x0)]) h := (k_reg (by kernel_rfl)).trans (by kernel_rfl)
theorem r4_1 {β : Type} {inv : Inv} {k : Nat} {x0 : Value} {h : AH} {K : XE → Act → AH → Option β} : kCode env 4 false inv k (cl (cl (cr c4))) (act 107 [(0, x0)]) h K =
    bnd (inv (.func 8) #[] #[] h) fun x15 =>
    bnd (pUn Try.prog Go.UnOp.not x15.1) fun x16 =>
    K .normal (act 107 [(0, x0), (16, x16)]) x15.2 := (k_reg (by kernel_rfl)).trans (by kernel_rfl)
theorem b4_rlr {β : Type} {inv : Inv} {k : Nat} {x0 x16 : Value} {h : AH} {K : XE → Act → AH → Option β} : kCode env 4 false inv k (cr (cl (cr c4))) (act 107 [(0, x0), (16, x16)]) h K = brV x16 (kCode env 4 false inv k (cl (cr (cl (cr c4)))) (act 107 [(0, x0), (16, x16)]) h K) (kCode env 4 false inv k (cr (cr (cl (cr c4)))) (act 107 [(0, x0), (16, x16)]) h K) := (k_cond (by kernel_rfl)).trans (by kernel_rfl)
theorem r4_2 {β : Type} {inv : Inv} {k : Nat} {x0 x16 : Value} {h : AH} {K : XE → Act → AH → Option β} : kCode env 4 false inv k (cl (cl (cr (cl (cr c4))))) (act 107 [(0, x0), (16, x16)]) h K =
    K .normal (act 107 [(2, (Go.Value.bool false))]) h := (k_reg (by kernel_rfl)).trans (by kernel_rfl)
theorem res4_0 {x2 : Value} {h : AH} : resOfFn env.P 4 .ret (act 107 [(2, x2)]) h = some (x2, h) := (resOfFn_k (by kernel_rfl) (by kernel_rfl)).trans (by kernel_rfl)
theorem r4_3 {β : Type} {inv : Inv} {k : Nat} {x0 x16 : Value} {h : AH} {K : XE → Act → AH → Option β} : kCode env 4 false inv k (cl (cl (cr (cr c4)))) (act 107 [(0, x0), (16, x16)]) h K =
    bnd (pLen Try.prog #[22] x0 h) fun x18 =>
    bnd (pBin Try.prog Go.BinOp.gtr 3 (Go.Operand.tmp 18) (Go.Operand.const (Go.Value.int Go.IntKind.i64 300)) x18 (Go.Value.int Go.IntKind.i64 300)) fun x19 =>
    K .normal (act 107 [(0, x0), (19, x19)]) h := (k_reg (by kernel_rfl)).trans (by kernel_rfl)
theorem b4_rlrr {β : Type} {inv : Inv} {k : Nat} {x0 x19 : Value} {h : AH} {K : XE → Act → AH → Option β} : kCode env 4 false inv k (cr (cl (cr (cr c4)))) (act 107 [(0, x0), (19, x19)]) h K = brV x19 (kCode env 4 false inv k (cl (cr (cl (cr (cr c4))))) (act 107 [(0, x0), (19, x19)]) h K) (kCode env 4 false inv k (cr (cr (cl (cr (cr c4))))) (act 107 [(0, x0), (19, x19)]) h K) := (k_cond (by kernel_rfl)).trans (by kernel_rfl)
theorem r4_4 {β : Type} {inv : Inv} {k : Nat} {x0 x19 : Value} {h : AH} {K : XE → Act → AH → Option β} : kCode env 4 false inv k (cl (cl (cr (cl (cr (cr c4)))))) (act 107 [(0, x0), (19, x19)]) h K =
    K .normal (act 107 [(2, (Go.Value.bool true))]) h := (k_reg (by kernel_rfl)).trans (by kernel_rfl)
theorem r4_5 {β : Type} {inv : Inv} {k : Nat} {x0 x19 : Value} {h : AH} {K : XE → Act → AH → Option β} : kCode env 4 false inv k (cl (cr (cr (cr c4)))) (act 107 [(0, x0), (19, x19)]) h K =
    bnd (pLen Try.prog #[22] x0 h) fun x21 =>
    bnd (pMakeSlice Try.prog 22 x21 x21 h) fun x22 =>
    K .normal (act 107 [(0, x0), (3, x22.1)]) x22.2 := (k_reg (by kernel_rfl)).trans (by kernel_rfl)
theorem r4_6 {β : Type} {inv : Inv} {k : Nat} {x0 x3 : Value} {h : AH} {K : XE → Act → AH → Option β} : kCode env 4 false inv k (cl (cl (cr (cr (cr (cr c4)))))) (act 107 [(0, x0), (3, x3)]) h K =
    K .normal (act 107 [(0, x0), (3, x3), (4, (Go.Value.int Go.IntKind.i64 0))]) h := (k_reg (by kernel_rfl)).trans (by kernel_rfl)
theorem r4_7 {β : Type} {inv : Inv} {k : Nat} {x0 x3 x4 : Value} {h : AH} {K : XE → Act → AH → Option β} : kCode env 4 false inv k (cl (cl (cl (cl (cr (cl (cr (cr (cr (cr c4)))))))))) (act 107 [(0, x0), (3, x3), (4, x4)]) h K =
    bnd (pLen Try.prog #[22] x0 h) fun x25 =>
    bnd (pBin Try.prog Go.BinOp.lss 3 (Go.Operand.tmp 23) (Go.Operand.tmp 25) x4 x25) fun x26 =>
    K .normal (act 107 [(0, x0), (3, x3), (4, x4), (26, x26)]) h := (k_reg (by kernel_rfl)).trans (by kernel_rfl)
theorem b4_rlllrlrrrr {β : Type} {inv : Inv} {k : Nat} {x0 x3 x4 x26 : Value} {h : AH} {K : XE → Act → AH → Option β} : kCode env 4 false inv k (cr (cl (cl (cl (cr (cl (cr (cr (cr (cr c4)))))))))) (act 107 [(0, x0), (3, x3), (4, x4), (26, x26)]) h K = brV x26 (kCode env 4 false inv k (cl (cr (cl (cl (cl (cr (cl (cr (cr (cr (cr c4))))))))))) (act 107 [(0, x0), (3, x3), (4, x4), (26, x26)]) h K) (kCode env 4 false inv k (cr (cr (cl (cl (cl (cr (cl (cr (cr (cr (cr c4))))))))))) (act 107 [(0, x0), (3, x3), (4, x4), (26, x26)]) h K) := (k_cond (by kernel_rfl)).trans (by kernel_rfl)
theorem r4_9 {β : Type} {inv : Inv} {k : Nat} {x0 x3 x4 x26 : Value} {h : AH} {K : XE → Act → AH → Option β} : kCode env 4 false inv k (cl (cl (cr (cl (cl (cr (cl (cr (cr (cr (cr c4))))))))))) (act 107 [(0, x0), (3, x3), (4, x4), (26, x26)]) h K =
    bnd (pIndexAddr Try.prog 22 x0 x4) fun x33 =>
    bnd (pLoad Try.prog 4 x33 h) fun x34 =>
    bnd (pUn Try.prog Go.UnOp.not x34) fun x35 =>
    bnd (pIndexAddr Try.prog 22 x3 x4) fun x36 =>
    bnd (kSt (pStore Try.prog 4 x36 x35 h)) fun u =>
    K .normal (act 107 [(0, x0), (3, x3), (4, x4)]) u.2 := (k_reg (by kernel_rfl)).trans (by kernel_rfl)
theorem r4_8 {β : Type} {inv : Inv} {k : Nat} {x0 x3 x4 : Value} {h : AH} {K : XE → Act → AH → Option β} : kCode env 4 false inv k (cr (cr (cl (cl (cr (cl (cr (cr (cr (cr c4)))))))))) (act 107 [(0, x0), (3, x3), (4, x4)]) h K =
    bnd (pBin Try.prog Go.BinOp.add 3 (Go.Operand.tmp 27) (Go.Operand.const (Go.Value.int Go.IntKind.i64 1)) x4 (Go.Value.int Go.IntKind.i64 1)) fun x28 =>
    K .normal (act 107 [(0, x0), (3, x3), (4, x28)]) h := (k_reg (by kernel_rfl)).trans (by kernel_rfl)
noncomputable def F4_lrlrrrr {β : Type} (inv : Inv) (k : Nat) : Nat → Value → Value → Value → AH → (Value → Value → Value → Value → AH → Option β) → Option β
  | 0, _, _, _, _, _ => none
  | j + 1, x0, x3, x4, h, ke0 =>
    bnd (pLen Try.prog #[22] x0 h) fun x25 =>
    bnd (pBin Try.prog Go.BinOp.lss 3 (Go.Operand.tmp 23) (Go.Operand.tmp 25) x4 x25) fun x26 =>
    brV x26
    (bnd (pIndexAddr Try.prog 22 x0 x4) fun x33 =>
    bnd (pLoad Try.prog 4 x33 h) fun x34 =>
    bnd (pUn Try.prog Go.UnOp.not x34) fun x35 =>
    bnd (pIndexAddr Try.prog 22 x3 x4) fun x36 =>
    bnd (kSt (pStore Try.prog 4 x36 x35 h)) fun u =>
    bnd (pBin Try.prog Go.BinOp.add 3 (Go.Operand.tmp 27) (Go.Operand.const (Go.Value.int Go.IntKind.i64 1)) x4 (Go.Value.int Go.IntKind.i64 1)) fun x28 =>
    F4_lrlrrrr inv k j x0 x3 x28 u.2 ke0)
    (ke0 x0 x3 x4 x26 h)
theorem F4_lrlrrrr_j {β : Type} {inv : Inv} {k : Nat} (j : Nat) {x0 x3 x4 : Value} {h : AH} {K : XE → Act → AH → Option β} : kLoop (kCode env 4 false inv k (cl (cl (cr (cl (cr (cr (cr (cr c4))))))))) j (act 107 [(0, x0), (3, x3), (4, x4)]) h K = F4_lrlrrrr inv k j x0 x3 x4 h (fun y0 y3 y4 y26 h => K (.exit 0) (act 107 [(0, y0), (3, y3), (4, y4), (26, y26)]) h) := by
      induction j generalizing x0 x3 x4 h with
      | zero => rfl
      | succ j ih =>
        unfold F4_lrlrrrr
        simp only [kLoop, k_seq (E := env) (f := 4) (c := (cl (cl (cr (cl (cr (cr (cr (cr c4))))))))) (by kernel_rfl), k_seq (E := env) (f := 4) (c := (cl (cl (cl (cr (cl (cr (cr (cr (cr c4)))))))))) (by kernel_rfl), r4_7, b4_rlllrlrrrr, k_skip (E := env) (f := 4) (c := (cl (cr (cl (cl (cl (cr (cl (cr (cr (cr (cr c4)))))))))))) (by kernel_rfl), k_seq (E := env) (f := 4) (c := (cr (cl (cl (cr (cl (cr (cr (cr (cr c4)))))))))) (by kernel_rfl), k_block (E := env) (f := 4) (c := (cl (cr (cl (cl (cr (cl (cr (cr (cr (cr c4))))))))))) (id := 1) (by kernel_rfl), r4_9, r4_8, k_exit (E := env) (f := 4) (c := (cr (cr (cl (cl (cl (cr (cl (cr (cr (cr (cr c4)))))))))))) (id := 0) (by kernel_rfl), ih, reduceIte, reduceCtorEq, XE.exit.injEq, Nat.reduceEqDiff] <;> kernel_rfl
theorem F4_lrlrrrr_eq {β : Type} {inv : Inv} {k : Nat} {x0 x3 x4 : Value} {h : AH} {K : XE → Act → AH → Option β} : kCode env 4 false inv k (cl (cr (cl (cr (cr (cr (cr c4))))))) (act 107 [(0, x0), (3, x3), (4, x4)]) h K = F4_lrlrrrr inv k k x0 x3 x4 h (fun y0 y3 y4 y26 h => K (.exit 0) (act 107 [(0, y0), (3, y3), (4, y4), (26, y26)]) h) := (k_loop (by kernel_rfl)).trans (F4_lrlrrrr_j k)
theorem r4_10 {β : Type} {inv : Inv} {k : Nat} {x0 x3 x4 x26 : Value} {h : AH} {K : XE → Act → AH → Option β} : kCode env 4 false inv k (cl (cr (cr (cr (cr (cr c4)))))) (act 107 [(0, x0), (3, x3), (4, x4), (26, x26)]) h K =
    bnd (inv (.func 9) #[] #[x0] h) fun x38 =>
    K .normal (act 107 [(0, x0), (3, x3), (5, x38.1)]) x38.2 := (k_reg (by kernel_rfl)).trans (by kernel_rfl)
theorem r4_11 {β : Type} {inv : Inv} {k : Nat} {x0 x3 x5 : Value} {h : AH} {K : XE → Act → AH → Option β} : kCode env 4 false inv k (cl (cr (cr (cr (cr (cr (cr c4))))))) (act 107 [(0, x0), (3, x3), (5, x5)]) h K =
    bnd (pLen Try.prog #[22] x0 h) fun x41 =>
    bnd (pBin Try.prog Go.BinOp.sub 3 (Go.Operand.tmp 41) (Go.Operand.tmp 42) x41 x5) fun x43 =>
    bnd (inv (.func 10) #[] #[x0, x43] h) fun x44 =>
    bnd (inv (.func 10) #[] #[x3, x5] x44.2) fun x47 =>
    K .normal (act 107 [(0, x0), (3, x3), (5, x5), (6, x44.1), (7, x47.1)]) x47.2 := (k_reg (by kernel_rfl)).trans (by kernel_rfl)
theorem r4_12 {β : Type} {inv : Inv} {k : Nat} {x0 x3 x5 x6 x7 : Value} {h : AH} {K : XE → Act → AH → Option β} : kCode env 4 false inv k (cl (cl (cr (cr (cr (cr (cr (cr (cr c4))))))))) (act 107 [(0, x0), (3, x3), (5, x5), (6, x6), (7, x7)]) h K =
    bnd (inv (.func 9) #[] #[x3] h) fun x49 =>
    bnd (pLen Try.prog #[22] x0 x49.2) fun x51 =>
    bnd (pBin Try.prog Go.BinOp.sub 3 (Go.Operand.tmp 51) (Go.Operand.tmp 52) x51 x5) fun x53 =>
    bnd (pBin Try.prog Go.BinOp.neq 3 (Go.Operand.tmp 49) (Go.Operand.tmp 53) x49.1 x53) fun x54 =>
    bnd (gd (some x54) false x49.2 (some (x6, x49.2))) fun x56 =>
    bnd (gd (some x54) false x56.2 (lt (pLen Try.prog #[25] x56.1 x56.2) x56.2)) fun x57 =>
    bnd (gd (some x54) false x57.2 (some (x0, x57.2))) fun x58 =>
    bnd (gd (some x54) false x58.2 (lt (pLen Try.prog #[22] x58.1 x58.2) x58.2)) fun x59 =>
    bnd (gd (some x54) false x59.2 (lt (pBin Try.prog Go.BinOp.neq 3 (Go.Operand.tmp 57) (Go.Operand.tmp 59) x57.1 x59.1) x59.2)) fun x60 =>
    bnd (pickV x54 (Go.Value.bool true) x60.1) fun x61 =>
    bnd (gd (some x61) false x60.2 (some (x7, x60.2))) fun x63 =>
    bnd (gd (some x61) false x63.2 (lt (pLen Try.prog #[25] x63.1 x63.2) x63.2)) fun x64 =>
    bnd (gd (some x61) false x64.2 (some (x0, x64.2))) fun x65 =>
    bnd (gd (some x61) false x65.2 (lt (pLen Try.prog #[22] x65.1 x65.2) x65.2)) fun x66 =>
    bnd (gd (some x61) false x66.2 (lt (pBin Try.prog Go.BinOp.neq 3 (Go.Operand.tmp 64) (Go.Operand.tmp 66) x64.1 x66.1) x66.2)) fun x67 =>
    bnd (pickV x61 (Go.Value.bool true) x67.1) fun x68 =>
    K .normal (act 107 [(0, x0), (3, x3), (6, x6), (7, x7), (68, x68)]) x67.2 := (k_reg (by kernel_rfl)).trans (by kernel_rfl)
theorem b4_rlrrrrrrr {β : Type} {inv : Inv} {k : Nat} {x0 x3 x6 x7 x68 : Value} {h : AH} {K : XE → Act → AH → Option β} : kCode env 4 false inv k (cr (cl (cr (cr (cr (cr (cr (cr (cr c4))))))))) (act 107 [(0, x0), (3, x3), (6, x6), (7, x7), (68, x68)]) h K = brV x68 (kCode env 4 false inv k (cl (cr (cl (cr (cr (cr (cr (cr (cr (cr c4)))))))))) (act 107 [(0, x0), (3, x3), (6, x6), (7, x7), (68, x68)]) h K) (kCode env 4 false inv k (cr (cr (cl (cr (cr (cr (cr (cr (cr (cr c4)))))))))) (act 107 [(0, x0), (3, x3), (6, x6), (7, x7), (68, x68)]) h K) := (k_cond (by kernel_rfl)).trans (by kernel_rfl)
theorem r4_13 {β : Type} {inv : Inv} {k : Nat} {x0 x3 x6 x7 x68 : Value} {h : AH} {K : XE → Act → AH → Option β} : kCode env 4 false inv k (cl (cl (cr (cl (cr (cr (cr (cr (cr (cr (cr c4))))))))))) (act 107 [(0, x0), (3, x3), (6, x6), (7, x7), (68, x68)]) h K =
    K .normal (act 107 [(2, (Go.Value.bool false))]) h := (k_reg (by kernel_rfl)).trans (by kernel_rfl)
theorem r4_14 {β : Type} {inv : Inv} {k : Nat} {x0 x3 x6 x7 x68 : Value} {h : AH} {K : XE → Act → AH → Option β} : kCode env 4 false inv k (cl (cl (cr (cr (cr (cr (cr (cr (cr (cr c4)))))))))) (act 107 [(0, x0), (3, x3), (6, x6), (7, x7), (68, x68)]) h K =
    K .normal (act 107 [(0, x0), (3, x3), (6, x6), (7, x7), (8, (Go.Value.int Go.IntKind.i64 0))]) h := (k_reg (by kernel_rfl)).trans (by kernel_rfl)
theorem r4_15 {β : Type} {inv : Inv} {k : Nat} {x0 x3 x6 x7 x8 : Value} {h : AH} {K : XE → Act → AH → Option β} : kCode env 4 false inv k (cl (cl (cl (cl (cr (cl (cr (cr (cr (cr (cr (cr (cr (cr c4)))))))))))))) (act 107 [(0, x0), (3, x3), (6, x6), (7, x7), (8, x8)]) h K =
    bnd (pLen Try.prog #[22] x0 h) fun x71 =>
    bnd (pBin Try.prog Go.BinOp.lss 3 (Go.Operand.tmp 69) (Go.Operand.tmp 71) x8 x71) fun x72 =>
    K .normal (act 107 [(0, x0), (3, x3), (6, x6), (7, x7), (8, x8), (72, x72)]) h := (k_reg (by kernel_rfl)).trans (by kernel_rfl)
theorem b4_rlllrlrrrrrrrr {β : Type} {inv : Inv} {k : Nat} {x0 x3 x6 x7 x8 x72 : Value} {h : AH} {K : XE → Act → AH → Option β} : kCode env 4 false inv k (cr (cl (cl (cl (cr (cl (cr (cr (cr (cr (cr (cr (cr (cr c4)))))))))))))) (act 107 [(0, x0), (3, x3), (6, x6), (7, x7), (8, x8), (72, x72)]) h K = brV x72 (kCode env 4 false inv k (cl (cr (cl (cl (cl (cr (cl (cr (cr (cr (cr (cr (cr (cr (cr c4))))))))))))))) (act 107 [(0, x0), (3, x3), (6, x6), (7, x7), (8, x8), (72, x72)]) h K) (kCode env 4 false inv k (cr (cr (cl (cl (cl (cr (cl (cr (cr (cr (cr (cr (cr (cr (cr c4))))))))))))))) (act 107 [(0, x0), (3, x3), (6, x6), (7, x7), (8, x8), (72, x72)]) h K) := (k_cond (by kernel_rfl)).trans (by kernel_rfl)
theorem r4_17 {β : Type} {inv : Inv} {k : Nat} {x0 x3 x6 x7 x8 x72 : Value} {h : AH} {K : XE → Act → AH → Option β} : kCode env 4 false inv k (cl (cl (cl (cr (cl (cl (cr (cl (cr (cr (cr (cr (cr (cr (cr (cr c4)))))))))))))))) (act 107 [(0, x0), (3, x3), (6, x6), (7, x7), (8, x8), (72, x72)]) h K =
    bnd (pIndexAddr Try.prog 25 x6 x8) fun x77 =>
    bnd (pLoad Try.prog 3 x77 h) fun x78 =>
    bnd (pBin Try.prog Go.BinOp.lss 3 (Go.Operand.tmp 78) (Go.Operand.const (Go.Value.int Go.IntKind.i64 0)) x78 (Go.Value.int Go.IntKind.i64 0)) fun x79 =>
    bnd (pIndexAddr Try.prog 25 x7 x8) fun x82 =>
    bnd (pLoad Try.prog 3 x82 h) fun x83 =>
    bnd (pBin Try.prog Go.BinOp.lss 3 (Go.Operand.tmp 83) (Go.Operand.const (Go.Value.int Go.IntKind.i64 0)) x83 (Go.Value.int Go.IntKind.i64 0)) fun x84 =>
    bnd (pBin Try.prog Go.BinOp.eql 4 (Go.Operand.tmp 79) (Go.Operand.tmp 84) x79 x84) fun x85 =>
    K .normal (act 107 [(0, x0), (3, x3), (6, x6), (7, x7), (8, x8), (85, x85)]) h := (k_draw (by kernel_rfl)).trans (by kernel_rfl)
theorem b4_rllrllrlrrrrrrrr {β : Type} {inv : Inv} {k : Nat} {x0 x3 x6 x7 x8 x85 : Value} {h : AH} {K : XE → Act → AH → Option β} : kCode env 4 false inv k (cr (cl (cl (cr (cl (cl (cr (cl (cr (cr (cr (cr (cr (cr (cr (cr c4)))))))))))))))) (act 107 [(0, x0), (3, x3), (6, x6), (7, x7), (8, x8), (85, x85)]) h K = brV x85 (kCode env 4 false inv k (cl (cr (cl (cl (cr (cl (cl (cr (cl (cr (cr (cr (cr (cr (cr (cr (cr c4))))))))))))))))) (act 107 [(0, x0), (3, x3), (6, x6), (7, x7), (8, x8), (85, x85)]) h K) (kCode env 4 false inv k (cr (cr (cl (cl (cr (cl (cl (cr (cl (cr (cr (cr (cr (cr (cr (cr (cr c4))))))))))))))))) (act 107 [(0, x0), (3, x3), (6, x6), (7, x7), (8, x8), (85, x85)]) h K) := (k_cond (by kernel_rfl)).trans (by kernel_rfl)
theorem r4_18 {β : Type} {inv : Inv} {k : Nat} {x0 x3 x6 x7 x8 x85 : Value} {h : AH} {K : XE → Act → AH → Option β} : kCode env 4 false inv k (cl (cl (cr (cl (cl (cr (cl (cl (cr (cl (cr (cr (cr (cr (cr (cr (cr (cr c4)))))))))))))))))) (act 107 [(0, x0), (3, x3), (6, x6), (7, x7), (8, x8), (85, x85)]) h K =
    K .normal (act 107 [(2, (Go.Value.bool false))]) h := (k_reg (by kernel_rfl)).trans (by kernel_rfl)
theorem r4_16 {β : Type} {inv : Inv} {k : Nat} {x0 x3 x6 x7 x8 x85 : Value} {h : AH} {K : XE → Act → AH → Option β} : kCode env 4 false inv k (cr (cr (cl (cl (cr (cl (cr (cr (cr (cr (cr (cr (cr (cr c4)))))))))))))) (act 107 [(0, x0), (3, x3), (6, x6), (7, x7), (8, x8), (85, x85)]) h K =
    bnd (pBin Try.prog Go.BinOp.add 3 (Go.Operand.tmp 73) (Go.Operand.const (Go.Value.int Go.IntKind.i64 1)) x8 (Go.Value.int Go.IntKind.i64 1)) fun x74 =>
    K .normal (act 107 [(0, x0), (3, x3), (6, x6), (7, x7), (8, x74)]) h := (k_reg (by kernel_rfl)).trans (by kernel_rfl)
noncomputable def F4_lrlrrrrrrrr {β : Type} (inv : Inv) (k : Nat) : Nat → Value → Value → Value → Value → Value → AH → (Value → Value → Value → Value → Value → Value → AH → Option β) → (Value → AH → Option β) → Option β
  | 0, _, _, _, _, _, _, _, _ => none
  | j + 1, x0, x3, x6, x7, x8, h, ke2, kr =>
    bnd (pLen Try.prog #[22] x0 h) fun x71 =>
    bnd (pBin Try.prog Go.BinOp.lss 3 (Go.Operand.tmp 69) (Go.Operand.tmp 71) x8 x71) fun x72 =>
    brV x72
    (bnd (pIndexAddr Try.prog 25 x6 x8) fun x77 =>
    bnd (pLoad Try.prog 3 x77 h) fun x78 =>
    bnd (pBin Try.prog Go.BinOp.lss 3 (Go.Operand.tmp 78) (Go.Operand.const (Go.Value.int Go.IntKind.i64 0)) x78 (Go.Value.int Go.IntKind.i64 0)) fun x79 =>
    bnd (pIndexAddr Try.prog 25 x7 x8) fun x82 =>
    bnd (pLoad Try.prog 3 x82 h) fun x83 =>
    bnd (pBin Try.prog Go.BinOp.lss 3 (Go.Operand.tmp 83) (Go.Operand.const (Go.Value.int Go.IntKind.i64 0)) x83 (Go.Value.int Go.IntKind.i64 0)) fun x84 =>
    bnd (pBin Try.prog Go.BinOp.eql 4 (Go.Operand.tmp 79) (Go.Operand.tmp 84) x79 x84) fun x85 =>
    brV x85
    (kr (Go.Value.bool false) h)
    (bnd (pBin Try.prog Go.BinOp.add 3 (Go.Operand.tmp 73) (Go.Operand.const (Go.Value.int Go.IntKind.i64 1)) x8 (Go.Value.int Go.IntKind.i64 1)) fun x74 =>
    F4_lrlrrrrrrrr inv k j x0 x3 x6 x7 x74 h ke2 kr))
    (ke2 x0 x3 x6 x7 x8 x72 h)
theorem F4_lrlrrrrrrrr_j {β : Type} {inv : Inv} {k : Nat} (j : Nat) {x0 x3 x6 x7 x8 : Value} {h : AH} {K : XE → Act → AH → Option β} : kLoop (kCode env 4 false inv k (cl (cl (cr (cl (cr (cr (cr (cr (cr (cr (cr (cr c4))))))))))))) j (act 107 [(0, x0), (3, x3), (6, x6), (7, x7), (8, x8)]) h K = F4_lrlrrrrrrrr inv k j x0 x3 x6 x7 x8 h (fun y0 y3 y6 y7 y8 y72 h => K (.exit 2) (act 107 [(0, y0), (3, y3), (6, y6), (7, y7), (8, y8), (72, y72)]) h) (fun y2 h => K .ret (act 107 [(2, y2)]) h) := by
      induction j generalizing x0 x3 x6 x7 x8 h with
      | zero => rfl
      | succ j ih =>
        unfold F4_lrlrrrrrrrr
        simp only [kLoop, k_seq (E := env) (f := 4) (c := (cl (cl (cr (cl (cr (cr (cr (cr (cr (cr (cr (cr c4))))))))))))) (by kernel_rfl), k_seq (E := env) (f := 4) (c := (cl (cl (cl (cr (cl (cr (cr (cr (cr (cr (cr (cr (cr c4)))))))))))))) (by kernel_rfl), r4_15, b4_rlllrlrrrrrrrr, k_skip (E := env) (f := 4) (c := (cl (cr (cl (cl (cl (cr (cl (cr (cr (cr (cr (cr (cr (cr (cr c4)))))))))))))))) (by kernel_rfl), k_seq (E := env) (f := 4) (c := (cr (cl (cl (cr (cl (cr (cr (cr (cr (cr (cr (cr (cr c4)))))))))))))) (by kernel_rfl), k_block (E := env) (f := 4) (c := (cl (cr (cl (cl (cr (cl (cr (cr (cr (cr (cr (cr (cr (cr c4))))))))))))))) (id := 3) (by kernel_rfl), k_seq (E := env) (f := 4) (c := (cl (cl (cr (cl (cl (cr (cl (cr (cr (cr (cr (cr (cr (cr (cr c4)))))))))))))))) (by kernel_rfl), r4_17, b4_rllrllrlrrrrrrrr, k_seq (E := env) (f := 4) (c := (cl (cr (cl (cl (cr (cl (cl (cr (cl (cr (cr (cr (cr (cr (cr (cr (cr c4)))))))))))))))))) (by kernel_rfl), r4_18, k_ret (E := env) (f := 4) (c := (cr (cl (cr (cl (cl (cr (cl (cl (cr (cl (cr (cr (cr (cr (cr (cr (cr (cr c4))))))))))))))))))) (by kernel_rfl), k_skip (E := env) (f := 4) (c := (cr (cr (cl (cl (cr (cl (cl (cr (cl (cr (cr (cr (cr (cr (cr (cr (cr c4)))))))))))))))))) (by kernel_rfl), r4_16, k_exit (E := env) (f := 4) (c := (cr (cr (cl (cl (cl (cr (cl (cr (cr (cr (cr (cr (cr (cr (cr c4)))))))))))))))) (id := 2) (by kernel_rfl), ih, reduceIte, reduceCtorEq, XE.exit.injEq, Nat.reduceEqDiff] <;> kernel_rfl
theorem F4_lrlrrrrrrrr_eq {β : Type} {inv : Inv} {k : Nat} {x0 x3 x6 x7 x8 : Value} {h : AH} {K : XE → Act → AH → Option β} : kCode env 4 false inv k (cl (cr (cl (cr (cr (cr (cr (cr (cr (cr (cr c4))))))))))) (act 107 [(0, x0), (3, x3), (6, x6), (7, x7), (8, x8)]) h K = F4_lrlrrrrrrrr inv k k x0 x3 x6 x7 x8 h (fun y0 y3 y6 y7 y8 y72 h => K (.exit 2) (act 107 [(0, y0), (3, y3), (6, y6), (7, y7), (8, y8), (72, y72)]) h) (fun y2 h => K .ret (act 107 [(2, y2)]) h) := (k_loop (by kernel_rfl)).trans (F4_lrlrrrrrrrr_j k)
theorem r4_19 {β : Type} {inv : Inv} {k : Nat} {x0 x3 x6 x7 x8 x72 : Value} {h : AH} {K : XE → Act → AH → Option β} : kCode env 4 false inv k (cl (cr (cr (cr (cr (cr (cr (cr (cr (cr c4)))))))))) (act 107 [(0, x0), (3, x3), (6, x6), (7, x7), (8, x8), (72, x72)]) h K =
    bnd (inv (.func 11) #[] #[x0] h) fun x88 =>
    bnd (pExtract x88.1 0) fun x89 =>
    bnd (pExtract x88.1 1) fun x90 =>
    bnd (pExtract x88.1 2) fun x91 =>
    K .normal (act 107 [(3, x3), (9, x89), (11, x91)]) x88.2 := (k_reg (by kernel_rfl)).trans (by kernel_rfl)
theorem r4_20 {β : Type} {inv : Inv} {k : Nat} {x3 x9 x11 : Value} {h : AH} {K : XE → Act → AH → Option β} : kCode env 4 false inv k (cl (cr (cr (cr (cr (cr (cr (cr (cr (cr (cr c4))))))))))) (act 107 [(3, x3), (9, x9), (11, x11)]) h K =
    bnd (inv (.func 11) #[] #[x3] h) fun x94 =>
    bnd (pExtract x94.1 0) fun x95 =>
    bnd (pExtract x94.1 1) fun x96 =>
    bnd (pExtract x94.1 2) fun x97 =>
    K .normal (act 107 [(9, x9), (11, x11), (12, x95), (14, x97)]) x94.2 := (k_reg (by kernel_rfl)).trans (by kernel_rfl)
theorem r4_21 {β : Type} {inv : Inv} {k : Nat} {x9 x11 x12 x14 : Value} {h : AH} {K : XE → Act → AH → Option β} : kCode env 4 false inv k (cl (cr (cr (cr (cr (cr (cr (cr (cr (cr (cr (cr c4)))))))))))) (act 107 [(9, x9), (11, x11), (12, x12), (14, x14)]) h K =
    bnd (gd (some x11) true h (some (x14, h))) fun x100 =>
    bnd (pickV x11 x100.1 (Go.Value.bool false)) fun x101 =>
    bnd (gd (some x101) true x100.2 (some (x9, x100.2))) fun x103 =>
    bnd (gd (some x101) true x103.2 (some (x12, x103.2))) fun x104 =>
    bnd (gd (some x101) true x104.2 (inv (.func 13) #[] #[x103.1, x104.1] x104.2)) fun x105 =>
    bnd (pickV x101 x105.1 (Go.Value.bool false)) fun x106 =>
    K .normal (act 107 [(2, x106)]) x105.2 := (k_reg (by kernel_rfl)).trans (by kernel_rfl)
/-- shadowbook/shadowbooklaw08.NullsTurned -/
noncomputable def F4 (inv : Inv) (k : Nat) (x0 : Value) (h : AH) : Option (Value × AH) :=
    bnd (inv (.func 8) #[] #[] h) fun x15 =>
    bnd (pUn Try.prog Go.UnOp.not x15.1) fun x16 =>
    brV x16
    (some ((Go.Value.bool false), x15.2))
    (bnd (pLen Try.prog #[22] x0 x15.2) fun x18 =>
    bnd (pBin Try.prog Go.BinOp.gtr 3 (Go.Operand.tmp 18) (Go.Operand.const (Go.Value.int Go.IntKind.i64 300)) x18 (Go.Value.int Go.IntKind.i64 300)) fun x19 =>
    brV x19
    (some ((Go.Value.bool true), x15.2))
    (bnd (pLen Try.prog #[22] x0 x15.2) fun x21 =>
    bnd (pMakeSlice Try.prog 22 x21 x21 x15.2) fun x22 =>
    F4_lrlrrrr inv k k x0 x22.1 (Go.Value.int Go.IntKind.i64 0) x22.2
    (fun y0 y3 y4 y26 h =>
    bnd (inv (.func 9) #[] #[y0] h) fun x38 =>
    bnd (pLen Try.prog #[22] y0 x38.2) fun x41 =>
    bnd (pBin Try.prog Go.BinOp.sub 3 (Go.Operand.tmp 41) (Go.Operand.tmp 42) x41 x38.1) fun x43 =>
    bnd (inv (.func 10) #[] #[y0, x43] x38.2) fun x44 =>
    bnd (inv (.func 10) #[] #[y3, x38.1] x44.2) fun x47 =>
    bnd (inv (.func 9) #[] #[y3] x47.2) fun x49 =>
    bnd (pLen Try.prog #[22] y0 x49.2) fun x51 =>
    bnd (pBin Try.prog Go.BinOp.sub 3 (Go.Operand.tmp 51) (Go.Operand.tmp 52) x51 x38.1) fun x53 =>
    bnd (pBin Try.prog Go.BinOp.neq 3 (Go.Operand.tmp 49) (Go.Operand.tmp 53) x49.1 x53) fun x54 =>
    bnd (gd (some x54) false x49.2 (some (x44.1, x49.2))) fun x56 =>
    bnd (gd (some x54) false x56.2 (lt (pLen Try.prog #[25] x56.1 x56.2) x56.2)) fun x57 =>
    bnd (gd (some x54) false x57.2 (some (y0, x57.2))) fun x58 =>
    bnd (gd (some x54) false x58.2 (lt (pLen Try.prog #[22] x58.1 x58.2) x58.2)) fun x59 =>
    bnd (gd (some x54) false x59.2 (lt (pBin Try.prog Go.BinOp.neq 3 (Go.Operand.tmp 57) (Go.Operand.tmp 59) x57.1 x59.1) x59.2)) fun x60 =>
    bnd (pickV x54 (Go.Value.bool true) x60.1) fun x61 =>
    bnd (gd (some x61) false x60.2 (some (x47.1, x60.2))) fun x63 =>
    bnd (gd (some x61) false x63.2 (lt (pLen Try.prog #[25] x63.1 x63.2) x63.2)) fun x64 =>
    bnd (gd (some x61) false x64.2 (some (y0, x64.2))) fun x65 =>
    bnd (gd (some x61) false x65.2 (lt (pLen Try.prog #[22] x65.1 x65.2) x65.2)) fun x66 =>
    bnd (gd (some x61) false x66.2 (lt (pBin Try.prog Go.BinOp.neq 3 (Go.Operand.tmp 64) (Go.Operand.tmp 66) x64.1 x66.1) x66.2)) fun x67 =>
    bnd (pickV x61 (Go.Value.bool true) x67.1) fun x68 =>
    brV x68
    (some ((Go.Value.bool false), x67.2))
    (F4_lrlrrrrrrrr inv k k y0 y3 x44.1 x47.1 (Go.Value.int Go.IntKind.i64 0) x67.2
    (fun y0_1 y3_2 y6 y7 y8 y72 h_3 =>
    bnd (inv (.func 11) #[] #[y0_1] h_3) fun x88 =>
    bnd (pExtract x88.1 0) fun x89 =>
    bnd (pExtract x88.1 1) fun x90 =>
    bnd (pExtract x88.1 2) fun x91 =>
    bnd (inv (.func 11) #[] #[y3_2] x88.2) fun x94 =>
    bnd (pExtract x94.1 0) fun x95 =>
    bnd (pExtract x94.1 1) fun x96 =>
    bnd (pExtract x94.1 2) fun x97 =>
    bnd (gd (some x91) true x94.2 (some (x97, x94.2))) fun x100 =>
    bnd (pickV x91 x100.1 (Go.Value.bool false)) fun x101 =>
    bnd (gd (some x101) true x100.2 (some (x89, x100.2))) fun x103 =>
    bnd (gd (some x101) true x103.2 (some (x95, x103.2))) fun x104 =>
    bnd (gd (some x101) true x104.2 (inv (.func 13) #[] #[x103.1, x104.1] x104.2)) fun x105 =>
    bnd (pickV x101 x105.1 (Go.Value.bool false)) fun x106 =>
    some (x106, x105.2))
    (fun y2 h_4 =>
    some (y2, h_4))))))
theorem F4_eq {inv : Inv} {k : Nat} {x0 : Value} {h : AH} : eFun env k inv 4 #[x0] h = F4 inv k x0 h := by
      refine (eFun_k2 (by kernel_rfl) (by kernel_rfl) (by kernel_rfl) (a := act 107 [(0, x0)]) (c := c4) (by kernel_rfl) (by kernel_rfl)).trans ?_
      unfold F4
      simp only [k_seq (E := env) (f := 4) (c := c4) (by kernel_rfl), r4_0, k_seq (E := env) (f := 4) (c := (cr c4)) (by kernel_rfl), k_seq (E := env) (f := 4) (c := (cl (cr c4))) (by kernel_rfl), r4_1, b4_rlr, k_seq (E := env) (f := 4) (c := (cl (cr (cl (cr c4))))) (by kernel_rfl), r4_2, k_ret (E := env) (f := 4) (c := (cr (cl (cr (cl (cr c4)))))) (by kernel_rfl), res4_0, k_skip (E := env) (f := 4) (c := (cr (cr (cl (cr c4))))) (by kernel_rfl), k_seq (E := env) (f := 4) (c := (cr (cr c4))) (by kernel_rfl), k_seq (E := env) (f := 4) (c := (cl (cr (cr c4)))) (by kernel_rfl), r4_3, b4_rlrr, k_seq (E := env) (f := 4) (c := (cl (cr (cl (cr (cr c4)))))) (by kernel_rfl), r4_4, k_ret (E := env) (f := 4) (c := (cr (cl (cr (cl (cr (cr c4))))))) (by kernel_rfl), k_skip (E := env) (f := 4) (c := (cr (cr (cl (cr (cr c4)))))) (by kernel_rfl), k_seq (E := env) (f := 4) (c := (cr (cr (cr c4)))) (by kernel_rfl), r4_5, k_seq (E := env) (f := 4) (c := (cr (cr (cr (cr c4))))) (by kernel_rfl), k_seq (E := env) (f := 4) (c := (cl (cr (cr (cr (cr c4)))))) (by kernel_rfl), r4_6, k_block (E := env) (f := 4) (c := (cr (cl (cr (cr (cr (cr c4))))))) (id := 0) (by kernel_rfl), F4_lrlrrrr_eq, k_seq (E := env) (f := 4) (c := (cr (cr (cr (cr (cr c4)))))) (by kernel_rfl), r4_10, k_seq (E := env) (f := 4) (c := (cr (cr (cr (cr (cr (cr c4))))))) (by kernel_rfl), r4_11, k_seq (E := env) (f := 4) (c := (cr (cr (cr (cr (cr (cr (cr c4)))))))) (by kernel_rfl), k_seq (E := env) (f := 4) (c := (cl (cr (cr (cr (cr (cr (cr (cr c4))))))))) (by kernel_rfl), r4_12, b4_rlrrrrrrr, k_seq (E := env) (f := 4) (c := (cl (cr (cl (cr (cr (cr (cr (cr (cr (cr c4))))))))))) (by kernel_rfl), r4_13, k_ret (E := env) (f := 4) (c := (cr (cl (cr (cl (cr (cr (cr (cr (cr (cr (cr c4)))))))))))) (by kernel_rfl), k_skip (E := env) (f := 4) (c := (cr (cr (cl (cr (cr (cr (cr (cr (cr (cr c4))))))))))) (by kernel_rfl), k_seq (E := env) (f := 4) (c := (cr (cr (cr (cr (cr (cr (cr (cr c4))))))))) (by kernel_rfl), k_seq (E := env) (f := 4) (c := (cl (cr (cr (cr (cr (cr (cr (cr (cr c4)))))))))) (by kernel_rfl), r4_14, k_block (E := env) (f := 4) (c := (cr (cl (cr (cr (cr (cr (cr (cr (cr (cr c4))))))))))) (id := 2) (by kernel_rfl), F4_lrlrrrrrrrr_eq, k_seq (E := env) (f := 4) (c := (cr (cr (cr (cr (cr (cr (cr (cr (cr c4)))))))))) (by kernel_rfl), r4_19, k_seq (E := env) (f := 4) (c := (cr (cr (cr (cr (cr (cr (cr (cr (cr (cr c4))))))))))) (by kernel_rfl), r4_20, k_seq (E := env) (f := 4) (c := (cr (cr (cr (cr (cr (cr (cr (cr (cr (cr (cr c4)))))))))))) (by kernel_rfl), r4_21, k_ret (E := env) (f := 4) (c := (cr (cr (cr (cr (cr (cr (cr (cr (cr (cr (cr (cr c4))))))))))))) (by kernel_rfl), reduceIte, reduceCtorEq, XE.exit.injEq, Nat.reduceEqDiff] <;> kernel_rfl
theorem F4_call {k : Nat} {x0 : Value} {h : AH} : eInv env (k + 1) (.func 4) #[] #[x0] h = F4 (eInv env k) k x0 h := (inv_func (by kernel_rfl)).trans F4_eq
noncomputable def c9 : Code := codeOf Try.prog 9
theorem r9_0 {β : Type} {inv : Inv} {k : Nat} {x0 : Value} {h : AH} {K : XE → Act → AH → Option β} : kCode env 9 false inv k (cl c9) (act 5 [(0, x0)]) h K =
    K .normal (act 5 [(0, x0)]) h := (k_reg (by kernel_rfl)).trans (by kernel_rfl)
theorem r9_1 {β : Type} {inv : Inv} {k : Nat} {x0 : Value} {h : AH} {K : XE → Act → AH → Option β} : kCode env 9 false inv k (cl (cr c9)) (act 5 [(0, x0)]) h K =
    bnd (inv (.func 23) #[] #[x0] h) fun x4 =>
    K .normal (act 5 [(2, x4.1)]) x4.2 := (k_reg (by kernel_rfl)).trans (by kernel_rfl)
theorem res9_0 {x2 : Value} {h : AH} : resOfFn env.P 9 .ret (act 5 [(2, x2)]) h = some (x2, h) := (resOfFn_k (by kernel_rfl) (by kernel_rfl)).trans (by kernel_rfl)
/-- shadowbook/nulls.Count -/
noncomputable def F9 (inv : Inv) (k : Nat) (x0 : Value) (h : AH) : Option (Value × AH) :=
    bnd (inv (.func 23) #[] #[x0] h) fun x4 =>
    some (x4.1, x4.2)
theorem F9_eq {inv : Inv} {k : Nat} {x0 : Value} {h : AH} : eFun env k inv 9 #[x0] h = F9 inv k x0 h := by
      refine (eFun_k2 (by kernel_rfl) (by kernel_rfl) (by kernel_rfl) (a := act 5 [(0, x0)]) (c := c9) (by kernel_rfl) (by kernel_rfl)).trans ?_
      unfold F9
      simp only [k_seq (E := env) (f := 9) (c := c9) (by kernel_rfl), r9_0, k_seq (E := env) (f := 9) (c := (cr c9)) (by kernel_rfl), r9_1, k_ret (E := env) (f := 9) (c := (cr (cr c9))) (by kernel_rfl), res9_0, reduceIte, reduceCtorEq, XE.exit.injEq, Nat.reduceEqDiff] <;> kernel_rfl
theorem F9_call {k : Nat} {x0 : Value} {h : AH} : eInv env (k + 1) (.func 9) #[] #[x0] h = F9 (eInv env k) k x0 h := (inv_func (by kernel_rfl)).trans F9_eq
noncomputable def c10 : Code := codeOf Try.prog 10
theorem r10_0 {β : Type} {inv : Inv} {k : Nat} {x0 x1 : Value} {h : AH} {K : XE → Act → AH → Option β} : kCode env 10 false inv k (cl c10) (act 34 [(0, x0), (1, x1)]) h K =
    K .normal (act 34 [(0, x0), (1, x1)]) h := (k_reg (by kernel_rfl)).trans (by kernel_rfl)
theorem r10_1 {β : Type} {inv : Inv} {k : Nat} {x0 x1 : Value} {h : AH} {K : XE → Act → AH → Option β} : kCode env 10 false inv k (cl (cl (cr c10))) (act 34 [(0, x0), (1, x1)]) h K =
    bnd (pLen Try.prog #[22] x0 h) fun x10 =>
    bnd (inv (.func 9) #[] #[x0] h) fun x12 =>
    bnd (pBin Try.prog Go.BinOp.sub 3 (Go.Operand.tmp 10) (Go.Operand.tmp 12) x10 x12.1) fun x13 =>
    bnd (pBin Try.prog Go.BinOp.neq 3 (Go.Operand.tmp 13) (Go.Operand.tmp 14) x13 x1) fun x15 =>
    K .normal (act 34 [(0, x0), (15, x15)]) x12.2 := (k_reg (by kernel_rfl)).trans (by kernel_rfl)
theorem b10_rlr {β : Type} {inv : Inv} {k : Nat} {x0 x15 : Value} {h : AH} {K : XE → Act → AH → Option β} : kCode env 10 false inv k (cr (cl (cr c10))) (act 34 [(0, x0), (15, x15)]) h K = brV x15 (kCode env 10 false inv k (cl (cr (cl (cr c10)))) (act 34 [(0, x0), (15, x15)]) h K) (kCode env 10 false inv k (cr (cr (cl (cr c10)))) (act 34 [(0, x0), (15, x15)]) h K) := (k_cond (by kernel_rfl)).trans (by kernel_rfl)
theorem r10_2 {β : Type} {inv : Inv} {k : Nat} {x0 x15 : Value} {h : AH} {K : XE → Act → AH → Option β} : kCode env 10 false inv k (cl (cl (cr (cl (cr c10))))) (act 34 [(0, x0), (15, x15)]) h K =
    K .normal (act 34 [(4, (Go.Value.slice none 0 0))]) h := (k_reg (by kernel_rfl)).trans (by kernel_rfl)
theorem res10_0 {x4 : Value} {h : AH} : resOfFn env.P 10 .ret (act 34 [(4, x4)]) h = some (x4, h) := (resOfFn_k (by kernel_rfl) (by kernel_rfl)).trans (by kernel_rfl)
theorem r10_3 {β : Type} {inv : Inv} {k : Nat} {x0 x15 : Value} {h : AH} {K : XE → Act → AH → Option β} : kCode env 10 false inv k (cl (cr (cr c10))) (act 34 [(0, x0), (15, x15)]) h K =
    K .normal (act 34 [(0, x0), (5, (Go.Value.slice none 0 0))]) h := (k_reg (by kernel_rfl)).trans (by kernel_rfl)
theorem r10_4 {β : Type} {inv : Inv} {k : Nat} {x0 x5 : Value} {h : AH} {K : XE → Act → AH → Option β} : kCode env 10 false inv k (cl (cr (cr (cr c10)))) (act 34 [(0, x0), (5, x5)]) h K =
    K .normal (act 34 [(0, x0), (5, x5), (6, (Go.Value.int Go.IntKind.i64 0))]) h := (k_reg (by kernel_rfl)).trans (by kernel_rfl)
theorem r10_5 {β : Type} {inv : Inv} {k : Nat} {x0 x5 x6 : Value} {h : AH} {K : XE → Act → AH → Option β} : kCode env 10 false inv k (cl (cl (cr (cr (cr (cr c10)))))) (act 34 [(0, x0), (5, x5), (6, x6)]) h K =
    bnd (pLen Try.prog #[22] x0 h) fun x17 =>
    K .normal (act 34 [(5, x5), (6, x6), (16, x0), (17, x17), (18, (Go.Value.int Go.IntKind.i64 0))]) h := (k_reg (by kernel_rfl)).trans (by kernel_rfl)
theorem r10_6 {β : Type} {inv : Inv} {k : Nat} {x5 x6 x16 x17 x18 : Value} {h : AH} {K : XE → Act → AH → Option β} : kCode env 10 false inv k (cl (cl (cl (cr (cl (cr (cr (cr (cr c10))))))))) (act 34 [(5, x5), (6, x6), (16, x16), (17, x17), (18, x18)]) h K =
    bnd (pBin Try.prog Go.BinOp.lss 3 (Go.Operand.tmp 18) (Go.Operand.tmp 17) x18 x17) fun x19 =>
    K .normal (act 34 [(5, x5), (6, x6), (16, x16), (17, x17), (18, x18), (19, x19)]) h := (k_reg (by kernel_rfl)).trans (by kernel_rfl)
theorem b10_lrllrlrrrr {β : Type} {inv : Inv} {k : Nat} {x5 x6 x16 x17 x18 x19 : Value} {h : AH} {K : XE → Act → AH → Option β} : kCode env 10 false inv k (cl (cr (cl (cl (cr (cl (cr (cr (cr (cr c10)))))))))) (act 34 [(5, x5), (6, x6), (16, x16), (17, x17), (18, x18), (19, x19)]) h K = brV x19 (kCode env 10 false inv k (cl (cl (cr (cl (cl (cr (cl (cr (cr (cr (cr c10))))))))))) (act 34 [(5, x5), (6, x6), (16, x16), (17, x17), (18, x18), (19, x19)]) h K) (kCode env 10 false inv k (cr (cl (cr (cl (cl (cr (cl (cr (cr (cr (cr c10))))))))))) (act 34 [(5, x5), (6, x6), (16, x16), (17, x17), (18, x18), (19, x19)]) h K) := (k_cond (by kernel_rfl)).trans (by kernel_rfl)
theorem r10_7 {β : Type} {inv : Inv} {k : Nat} {x5 x6 x16 x17 x18 x19 : Value} {h : AH} {K : XE → Act → AH → Option β} : kCode env 10 false inv k (cl (cl (cl (cr (cr (cl (cl (cr (cl (cr (cr (cr (cr c10))))))))))))) (act 34 [(5, x5), (6, x6), (16, x16), (17, x17), (18, x18), (19, x19)]) h K =
    bnd (pIndexAddr Try.prog 22 x16 x18) fun x20 =>
    bnd (pLoad Try.prog 4 x20 h) fun x21 =>
    K .normal (act 34 [(5, x5), (6, x6), (8, x21), (16, x16), (17, x17), (18, x18)]) h := (k_reg (by kernel_rfl)).trans (by kernel_rfl)
theorem r10_8 {β : Type} {inv : Inv} {k : Nat} {x5 x6 x8 x16 x17 x18 : Value} {h : AH} {K : XE → Act → AH → Option β} : kCode env 10 false inv k (cl (cl (cr (cl (cl (cr (cr (cl (cl (cr (cl (cr (cr (cr (cr c10))))))))))))))) (act 34 [(5, x5), (6, x6), (8, x8), (16, x16), (17, x17), (18, x18)]) h K =
    K .normal (act 34 [(5, x5), (6, x6), (16, x16), (17, x17), (18, x18), (22, x8)]) h := (k_reg (by kernel_rfl)).trans (by kernel_rfl)
theorem b10_rlrllrrllrlrrrr {β : Type} {inv : Inv} {k : Nat} {x5 x6 x16 x17 x18 x22 : Value} {h : AH} {K : XE → Act → AH → Option β} : kCode env 10 false inv k (cr (cl (cr (cl (cl (cr (cr (cl (cl (cr (cl (cr (cr (cr (cr c10))))))))))))))) (act 34 [(5, x5), (6, x6), (16, x16), (17, x17), (18, x18), (22, x22)]) h K = brV x22 (kCode env 10 false inv k (cl (cr (cl (cr (cl (cl (cr (cr (cl (cl (cr (cl (cr (cr (cr (cr c10)))))))))))))))) (act 34 [(5, x5), (6, x6), (16, x16), (17, x17), (18, x18), (22, x22)]) h K) (kCode env 10 false inv k (cr (cr (cl (cr (cl (cl (cr (cr (cl (cl (cr (cl (cr (cr (cr (cr c10)))))))))))))))) (act 34 [(5, x5), (6, x6), (16, x16), (17, x17), (18, x18), (22, x22)]) h K) := (k_cond (by kernel_rfl)).trans (by kernel_rfl)
theorem r10_9 {β : Type} {inv : Inv} {k : Nat} {x5 x6 x16 x17 x18 x22 : Value} {h : AH} {K : XE → Act → AH → Option β} : kCode env 10 false inv k (cl (cl (cr (cl (cr (cl (cl (cr (cr (cl (cl (cr (cl (cr (cr (cr (cr c10))))))))))))))))) (act 34 [(5, x5), (6, x6), (16, x16), (17, x17), (18, x18), (22, x22)]) h K =
    bnd (pBuildSlice Try.prog 25 1 #[(0, (Go.Value.int Go.IntKind.i64 (-1)))] h) fun x24 =>
    bnd (pAppend Try.prog #[25, 25] x5 x24.1 x24.2) fun x25 =>
    K .normal (act 34 [(5, x25.1), (6, x6), (16, x16), (17, x17), (18, x18)]) x25.2 := (k_reg (by kernel_rfl)).trans (by kernel_rfl)
theorem r10_10 {β : Type} {inv : Inv} {k : Nat} {x5 x6 x16 x17 x18 x22 : Value} {h : AH} {K : XE → Act → AH → Option β} : kCode env 10 false inv k (cl (cr (cr (cl (cl (cr (cr (cl (cl (cr (cl (cr (cr (cr (cr c10))))))))))))))) (act 34 [(5, x5), (6, x6), (16, x16), (17, x17), (18, x18), (22, x22)]) h K =
    bnd (pBuildSlice Try.prog 25 1 #[(0, x6)] h) fun x28 =>
    bnd (pAppend Try.prog #[25, 25] x5 x28.1 x28.2) fun x29 =>
    K .normal (act 34 [(5, x29.1), (6, x6), (16, x16), (17, x17), (18, x18)]) x29.2 := (k_reg (by kernel_rfl)).trans (by kernel_rfl)
theorem r10_11 {β : Type} {inv : Inv} {k : Nat} {x5 x6 x16 x17 x18 : Value} {h : AH} {K : XE → Act → AH → Option β} : kCode env 10 false inv k (cr (cr (cr (cl (cl (cr (cr (cl (cl (cr (cl (cr (cr (cr (cr c10))))))))))))))) (act 34 [(5, x5), (6, x6), (16, x16), (17, x17), (18, x18)]) h K =
    bnd (pBin Try.prog Go.BinOp.add 3 (Go.Operand.tmp 30) (Go.Operand.const (Go.Value.int Go.IntKind.i64 1)) x6 (Go.Value.int Go.IntKind.i64 1)) fun x31 =>
    K .normal (act 34 [(5, x5), (6, x31), (16, x16), (17, x17), (18, x18)]) h := (k_reg (by kernel_rfl)).trans (by kernel_rfl)
noncomputable def F10_lrrllrlrrrr {β : Type} (inv : Inv) (k : Nat) (x5 x6 x16 x17 x18 x19 : Value) (h : AH) (kn : (Value → Value → Value → Value → Value → AH → Option β)) : Option β :=
    bnd (pIndexAddr Try.prog 22 x16 x18) fun x20 =>
    bnd (pLoad Try.prog 4 x20 h) fun x21 =>
    brV x21
    (bnd (pBuildSlice Try.prog 25 1 #[(0, (Go.Value.int Go.IntKind.i64 (-1)))] h) fun x24 =>
    bnd (pAppend Try.prog #[25, 25] x5 x24.1 x24.2) fun x25 =>
    kn x25.1 x6 x16 x17 x18 x25.2)
    (bnd (pBuildSlice Try.prog 25 1 #[(0, x6)] h) fun x28 =>
    bnd (pAppend Try.prog #[25, 25] x5 x28.1 x28.2) fun x29 =>
    bnd (pBin Try.prog Go.BinOp.add 3 (Go.Operand.tmp 30) (Go.Operand.const (Go.Value.int Go.IntKind.i64 1)) x6 (Go.Value.int Go.IntKind.i64 1)) fun x31 =>
    kn x29.1 x31 x16 x17 x18 x29.2)
theorem F10_lrrllrlrrrr_eq {β : Type} {inv : Inv} {k : Nat} {x5 x6 x16 x17 x18 x19 : Value} {h : AH} {K : XE → Act → AH → Option β} : kCode env 10 false inv k (cl (cr (cr (cl (cl (cr (cl (cr (cr (cr (cr c10))))))))))) (act 34 [(5, x5), (6, x6), (16, x16), (17, x17), (18, x18), (19, x19)]) h K = F10_lrrllrlrrrr inv k x5 x6 x16 x17 x18 x19 h (fun y5 y6 y16 y17 y18 h => K .normal (act 34 [(5, y5), (6, y6), (16, y16), (17, y17), (18, y18)]) h) := by
      unfold F10_lrrllrlrrrr
      simp only [k_block (E := env) (f := 10) (c := (cl (cr (cr (cl (cl (cr (cl (cr (cr (cr (cr c10)))))))))))) (id := 1) (by kernel_rfl), k_seq (E := env) (f := 10) (c := (cl (cl (cr (cr (cl (cl (cr (cl (cr (cr (cr (cr c10))))))))))))) (by kernel_rfl), r10_7, k_seq (E := env) (f := 10) (c := (cr (cl (cl (cr (cr (cl (cl (cr (cl (cr (cr (cr (cr c10)))))))))))))) (by kernel_rfl), k_seq (E := env) (f := 10) (c := (cl (cr (cl (cl (cr (cr (cl (cl (cr (cl (cr (cr (cr (cr c10))))))))))))))) (by kernel_rfl), r10_8, b10_rlrllrrllrlrrrr, k_seq (E := env) (f := 10) (c := (cl (cr (cl (cr (cl (cl (cr (cr (cl (cl (cr (cl (cr (cr (cr (cr c10))))))))))))))))) (by kernel_rfl), r10_9, k_exit (E := env) (f := 10) (c := (cr (cl (cr (cl (cr (cl (cl (cr (cr (cl (cl (cr (cl (cr (cr (cr (cr c10)))))))))))))))))) (id := 1) (by kernel_rfl), k_skip (E := env) (f := 10) (c := (cr (cr (cl (cr (cl (cl (cr (cr (cl (cl (cr (cl (cr (cr (cr (cr c10))))))))))))))))) (by kernel_rfl), k_seq (E := env) (f := 10) (c := (cr (cr (cl (cl (cr (cr (cl (cl (cr (cl (cr (cr (cr (cr c10))))))))))))))) (by kernel_rfl), r10_10, r10_11, reduceIte, reduceCtorEq, XE.exit.injEq, Nat.reduceEqDiff] <;> kernel_rfl
theorem r10_12 {β : Type} {inv : Inv} {k : Nat} {x5 x6 x16 x17 x18 : Value} {h : AH} {K : XE → Act → AH → Option β} : kCode env 10 false inv k (cr (cr (cr (cl (cl (cr (cl (cr (cr (cr (cr c10))))))))))) (act 34 [(5, x5), (6, x6), (16, x16), (17, x17), (18, x18)]) h K =
    bnd (pBin Try.prog Go.BinOp.add 3 (Go.Operand.tmp 18) (Go.Operand.const (Go.Value.int Go.IntKind.i64 1)) x18 (Go.Value.int Go.IntKind.i64 1)) fun x32 =>
    K .normal (act 34 [(5, x5), (6, x6), (16, x16), (17, x17), (18, x32)]) h := (k_reg (by kernel_rfl)).trans (by kernel_rfl)
noncomputable def F10_lrlrrrr {β : Type} (inv : Inv) (k : Nat) : Nat → Value → Value → Value → Value → Value → AH → (Value → Value → Value → Value → Value → Value → AH → Option β) → Option β
  | 0, _, _, _, _, _, _, _ => none
  | j + 1, x5, x6, x16, x17, x18, h, ke0 =>
    bnd (pBin Try.prog Go.BinOp.lss 3 (Go.Operand.tmp 18) (Go.Operand.tmp 17) x18 x17) fun x19 =>
    brV x19
    (F10_lrrllrlrrrr inv k x5 x6 x16 x17 x18 x19 h
    (fun y5 y6 y16 y17 y18 h =>
    bnd (pBin Try.prog Go.BinOp.add 3 (Go.Operand.tmp 18) (Go.Operand.const (Go.Value.int Go.IntKind.i64 1)) y18 (Go.Value.int Go.IntKind.i64 1)) fun x32 =>
    F10_lrlrrrr inv k j y5 y6 y16 y17 x32 h ke0))
    (ke0 x5 x6 x16 x17 x18 x19 h)
theorem F10_lrlrrrr_j {β : Type} {inv : Inv} {k : Nat} (j : Nat) {x5 x6 x16 x17 x18 : Value} {h : AH} {K : XE → Act → AH → Option β} : kLoop (kCode env 10 false inv k (cl (cl (cr (cl (cr (cr (cr (cr c10))))))))) j (act 34 [(5, x5), (6, x6), (16, x16), (17, x17), (18, x18)]) h K = F10_lrlrrrr inv k j x5 x6 x16 x17 x18 h (fun y5 y6 y16 y17 y18 y19 h => K (.exit 0) (act 34 [(5, y5), (6, y6), (16, y16), (17, y17), (18, y18), (19, y19)]) h) := by
      induction j generalizing x5 x6 x16 x17 x18 h with
      | zero => rfl
      | succ j ih =>
        unfold F10_lrlrrrr
        simp only [kLoop, k_seq (E := env) (f := 10) (c := (cl (cl (cr (cl (cr (cr (cr (cr c10))))))))) (by kernel_rfl), r10_6, k_seq (E := env) (f := 10) (c := (cr (cl (cl (cr (cl (cr (cr (cr (cr c10)))))))))) (by kernel_rfl), b10_lrllrlrrrr, k_skip (E := env) (f := 10) (c := (cl (cl (cr (cl (cl (cr (cl (cr (cr (cr (cr c10)))))))))))) (by kernel_rfl), k_seq (E := env) (f := 10) (c := (cr (cr (cl (cl (cr (cl (cr (cr (cr (cr c10))))))))))) (by kernel_rfl), F10_lrrllrlrrrr_eq, r10_12, k_exit (E := env) (f := 10) (c := (cr (cl (cr (cl (cl (cr (cl (cr (cr (cr (cr c10)))))))))))) (id := 0) (by kernel_rfl), ih, reduceIte, reduceCtorEq, XE.exit.injEq, Nat.reduceEqDiff] <;> kernel_rfl
theorem F10_lrlrrrr_eq {β : Type} {inv : Inv} {k : Nat} {x5 x6 x16 x17 x18 : Value} {h : AH} {K : XE → Act → AH → Option β} : kCode env 10 false inv k (cl (cr (cl (cr (cr (cr (cr c10))))))) (act 34 [(5, x5), (6, x6), (16, x16), (17, x17), (18, x18)]) h K = F10_lrlrrrr inv k k x5 x6 x16 x17 x18 h (fun y5 y6 y16 y17 y18 y19 h => K (.exit 0) (act 34 [(5, y5), (6, y6), (16, y16), (17, y17), (18, y18), (19, y19)]) h) := (k_loop (by kernel_rfl)).trans (F10_lrlrrrr_j k)
theorem r10_13 {β : Type} {inv : Inv} {k : Nat} {x5 x6 x16 x17 x18 x19 : Value} {h : AH} {K : XE → Act → AH → Option β} : kCode env 10 false inv k (cl (cr (cr (cr (cr (cr c10)))))) (act 34 [(5, x5), (6, x6), (16, x16), (17, x17), (18, x18), (19, x19)]) h K =
    K .normal (act 34 [(4, x5)]) h := (k_reg (by kernel_rfl)).trans (by kernel_rfl)
/-- shadowbook/nulls.Spread -/
noncomputable def F10 (inv : Inv) (k : Nat) (x0 x1 : Value) (h : AH) : Option (Value × AH) :=
    bnd (pLen Try.prog #[22] x0 h) fun x10 =>
    bnd (inv (.func 9) #[] #[x0] h) fun x12 =>
    bnd (pBin Try.prog Go.BinOp.sub 3 (Go.Operand.tmp 10) (Go.Operand.tmp 12) x10 x12.1) fun x13 =>
    bnd (pBin Try.prog Go.BinOp.neq 3 (Go.Operand.tmp 13) (Go.Operand.tmp 14) x13 x1) fun x15 =>
    brV x15
    (some ((Go.Value.slice none 0 0), x12.2))
    (bnd (pLen Try.prog #[22] x0 x12.2) fun x17 =>
    F10_lrlrrrr inv k k (Go.Value.slice none 0 0) (Go.Value.int Go.IntKind.i64 0) x0 x17 (Go.Value.int Go.IntKind.i64 0) x12.2
    (fun y5 y6 y16 y17 y18 y19 h =>
    some (y5, h)))
theorem F10_eq {inv : Inv} {k : Nat} {x0 x1 : Value} {h : AH} : eFun env k inv 10 #[x0, x1] h = F10 inv k x0 x1 h := by
      refine (eFun_k2 (by kernel_rfl) (by kernel_rfl) (by kernel_rfl) (a := act 34 [(0, x0), (1, x1)]) (c := c10) (by kernel_rfl) (by kernel_rfl)).trans ?_
      unfold F10
      simp only [k_seq (E := env) (f := 10) (c := c10) (by kernel_rfl), r10_0, k_seq (E := env) (f := 10) (c := (cr c10)) (by kernel_rfl), k_seq (E := env) (f := 10) (c := (cl (cr c10))) (by kernel_rfl), r10_1, b10_rlr, k_seq (E := env) (f := 10) (c := (cl (cr (cl (cr c10))))) (by kernel_rfl), r10_2, k_ret (E := env) (f := 10) (c := (cr (cl (cr (cl (cr c10)))))) (by kernel_rfl), res10_0, k_skip (E := env) (f := 10) (c := (cr (cr (cl (cr c10))))) (by kernel_rfl), k_seq (E := env) (f := 10) (c := (cr (cr c10))) (by kernel_rfl), r10_3, k_seq (E := env) (f := 10) (c := (cr (cr (cr c10)))) (by kernel_rfl), r10_4, k_seq (E := env) (f := 10) (c := (cr (cr (cr (cr c10))))) (by kernel_rfl), k_seq (E := env) (f := 10) (c := (cl (cr (cr (cr (cr c10)))))) (by kernel_rfl), r10_5, k_block (E := env) (f := 10) (c := (cr (cl (cr (cr (cr (cr c10))))))) (id := 0) (by kernel_rfl), F10_lrlrrrr_eq, k_seq (E := env) (f := 10) (c := (cr (cr (cr (cr (cr c10)))))) (by kernel_rfl), r10_13, k_ret (E := env) (f := 10) (c := (cr (cr (cr (cr (cr (cr c10))))))) (by kernel_rfl), reduceIte, reduceCtorEq, XE.exit.injEq, Nat.reduceEqDiff] <;> kernel_rfl
theorem F10_call {k : Nat} {x0 x1 : Value} {h : AH} : eInv env (k + 1) (.func 10) #[] #[x0, x1] h = F10 (eInv env k) k x0 x1 h := (inv_func (by kernel_rfl)).trans F10_eq
noncomputable def c11 : Code := codeOf Try.prog 11
theorem r11_0 {β : Type} {inv : Inv} {k : Nat} {x0 : Value} {h : AH} {K : XE → Act → AH → Option β} : kCode env 11 false inv k (cl c11) (act 32 [(0, x0)]) h K =
    bnd (pBox Try.prog 22 x0 h) fun x1 =>
    bnd (pAlloc Try.prog 25 x1.2) fun x2 =>
    bnd (pAlloc Try.prog 22 x2.2) fun x3 =>
    bnd (pAlloc Try.prog 4 x3.2) fun x4 =>
    K .normal (act 32 [(1, x1.1), (2, x2.1), (3, x3.1), (4, x4.1)]) x4.2 := (k_reg (by kernel_rfl)).trans (by kernel_rfl)
theorem r11_1 {β : Type} {inv : Inv} {k : Nat} {x1 x2 x3 x4 : Value} {h : AH} {K : XE → Act → AH → Option β} : kCode env 11 false inv k (cl (cr c11)) (act 32 [(1, x1), (2, x2), (3, x3), (4, x4)]) h K =
    bnd (pLoad Try.prog 22 x1 h) fun x10 =>
    bnd (inv (.func 24) #[] #[x10] h) fun x11 =>
    K .normal (act 32 [(1, x1), (2, x2), (3, x3), (4, x4), (5, x11.1)]) x11.2 := (k_reg (by kernel_rfl)).trans (by kernel_rfl)
theorem r11_2 {β : Type} {inv : Inv} {k : Nat} {x1 x2 x3 x4 x5 : Value} {h : AH} {K : XE → Act → AH → Option β} : kCode env 11 false inv k (cl (cl (cr (cr c11)))) (act 32 [(1, x1), (2, x2), (3, x3), (4, x4), (5, x5)]) h K =
    bnd (pBin Try.prog Go.BinOp.eql 46 (Go.Operand.tmp 12) (Go.Operand.const Go.Value.nilFunc) x5 Go.Value.nilFunc) fun x13 =>
    K .normal (act 32 [(1, x1), (2, x2), (3, x3), (4, x4), (5, x5), (13, x13)]) h := (k_reg (by kernel_rfl)).trans (by kernel_rfl)
theorem b11_rlrr {β : Type} {inv : Inv} {k : Nat} {x1 x2 x3 x4 x5 x13 : Value} {h : AH} {K : XE → Act → AH → Option β} : kCode env 11 false inv k (cr (cl (cr (cr c11)))) (act 32 [(1, x1), (2, x2), (3, x3), (4, x4), (5, x5), (13, x13)]) h K = brV x13 (kCode env 11 false inv k (cl (cr (cl (cr (cr c11))))) (act 32 [(1, x1), (2, x2), (3, x3), (4, x4), (5, x5), (13, x13)]) h K) (kCode env 11 false inv k (cr (cr (cl (cr (cr c11))))) (act 32 [(1, x1), (2, x2), (3, x3), (4, x4), (5, x5), (13, x13)]) h K) := (k_cond (by kernel_rfl)).trans (by kernel_rfl)
theorem r11_3 {β : Type} {inv : Inv} {k : Nat} {x1 x2 x3 x4 x5 x13 : Value} {h : AH} {K : XE → Act → AH → Option β} : kCode env 11 false inv k (cl (cl (cr (cl (cr (cr c11)))))) (act 32 [(1, x1), (2, x2), (3, x3), (4, x4), (5, x5), (13, x13)]) h K =
    bnd (kSt (pStore Try.prog 25 x2 (Go.Value.slice none 0 0) h)) fun u =>
    bnd (kSt (pStore Try.prog 22 x3 (Go.Value.slice none 0 0) u.2)) fun u_1 =>
    bnd (kSt (pStore Try.prog 4 x4 (Go.Value.bool false) u_1.2)) fun u_2 =>
    K .normal (act 32 [(2, x2), (3, x3), (4, x4)]) u_2.2 := (k_reg (by kernel_rfl)).trans (by kernel_rfl)
theorem res11_0 {x2 x3 x4 : Value} {h : AH} : resOfFn env.P 11 .ret (act 32 [(2, x2), (3, x3), (4, x4)]) h = bnd (pLoad Try.prog 25 x2 h) fun q0 =>
    bnd (pLoad Try.prog 22 x3 h) fun q1 =>
    bnd (pLoad Try.prog 4 x4 h) fun q2 =>
    some (.tuple #[q0, q1, q2], h) := (resOfFn_k (by kernel_rfl) (by kernel_rfl)).trans (by kernel_rfl)
theorem r11_4 {β : Type} {inv : Inv} {k : Nat} {x1 x2 x3 x4 x5 x13 : Value} {h : AH} {K : XE → Act → AH → Option β} : kCode env 11 false inv k (cl (cr (cr (cr c11)))) (act 32 [(1, x1), (2, x2), (3, x3), (4, x4), (5, x5), (13, x13)]) h K =
    bnd (pAlloc Try.prog 25 h) fun x6 =>
    K .normal (act 32 [(1, x1), (2, x2), (3, x3), (4, x4), (5, x5), (6, x6.1)]) x6.2 := (k_reg (by kernel_rfl)).trans (by kernel_rfl)
theorem r11_5 {β : Type} {inv : Inv} {k : Nat} {x1 x2 x3 x4 x5 x6 : Value} {h : AH} {K : XE → Act → AH → Option β} : kCode env 11 false inv k (cl (cr (cr (cr (cr c11))))) (act 32 [(1, x1), (2, x2), (3, x3), (4, x4), (5, x5), (6, x6)]) h K =
    bnd (pAlloc Try.prog 22 h) fun x7 =>
    K .normal (act 32 [(1, x1), (2, x2), (3, x3), (4, x4), (5, x5), (6, x6), (7, x7.1)]) x7.2 := (k_reg (by kernel_rfl)).trans (by kernel_rfl)
theorem r11_6 {β : Type} {inv : Inv} {k : Nat} {x1 x2 x3 x4 x5 x6 x7 : Value} {h : AH} {K : XE → Act → AH → Option β} : kCode env 11 false inv k (cl (cl (cr (cr (cr (cr (cr c11))))))) (act 32 [(1, x1), (2, x2), (3, x3), (4, x4), (5, x5), (6, x6), (7, x7)]) h K =
    K .normal (act 32 [(1, x1), (2, x2), (3, x3), (4, x4), (6, x6), (7, x7), (14, x5)]) h := (k_reg (by kernel_rfl)).trans (by kernel_rfl)
theorem g11_lrlrrrrr {β : Type} {inv : Inv} {k : Nat} {x1 x2 x3 x4 x6 x7 x14 : Value} {h : AH} {K : XE → Act → AH → Option β} : kCode env 11 false inv k (cl (cr (cl (cr (cr (cr (cr (cr c11)))))))) (act 32 [(1, x1), (2, x2), (3, x3), (4, x4), (6, x6), (7, x7), (14, x14)]) h K = kRange env 11 inv x14 (psOf (cl (cr (cl (cr (cr (cr (cr (cr c11))))))))) (cl (cl (cr (cl (cr (cr (cr (cr (cr c11))))))))) (cr (cl (cr (cl (cr (cr (cr (cr (cr c11))))))))) (act 32 [(1, x1), (2, x2), (3, x3), (4, x4), (6, x6), (7, x7), (14, x14)]) h fun e h => sw e (K .normal (act 32 [(1, x1), (2, x2), (3, x3), (4, x4), (6, x6), (7, x7), (14, x14)]) h) (K .ret (act 32 [(1, x1), (2, x2), (3, x3), (4, x4), (6, x6), (7, x7), (14, x14)]) h) [] := (k_range (g := x14) (ids := []) (by kernel_rfl) (by kernel_rfl) (by kernel_rfl)).trans (by kernel_rfl)
noncomputable def F11_rlrrrrr {β : Type} (inv : Inv) (k : Nat) (x1 x2 x3 x4 x6 x7 x14 : Value) (h : AH) (kn : (Value → Value → Value → Value → Value → Value → Value → AH → Option β)) (kr : (Value → Value → Value → Value → Value → Value → Value → AH → Option β)) : Option β :=
    kRange env 11 inv x14 (psOf (cl (cr (cl (cr (cr (cr (cr (cr c11))))))))) (cl (cl (cr (cl (cr (cr (cr (cr (cr c11))))))))) (cr (cl (cr (cl (cr (cr (cr (cr (cr c11))))))))) (act 32 [(1, x1), (2, x2), (3, x3), (4, x4), (6, x6), (7, x7), (14, x14)]) h fun e h => sw e
    (kn x1 x2 x3 x4 x6 x7 x14 h)
    (kr x1 x2 x3 x4 x6 x7 x14 h) []
theorem F11_rlrrrrr_eq {β : Type} {inv : Inv} {k : Nat} {x1 x2 x3 x4 x6 x7 x14 : Value} {h : AH} {K : XE → Act → AH → Option β} : kCode env 11 false inv k (cr (cl (cr (cr (cr (cr (cr c11))))))) (act 32 [(1, x1), (2, x2), (3, x3), (4, x4), (6, x6), (7, x7), (14, x14)]) h K = F11_rlrrrrr inv k x1 x2 x3 x4 x6 x7 x14 h (fun y1 y2 y3 y4 y6 y7 y14 h => K .normal (act 32 [(1, y1), (2, y2), (3, y3), (4, y4), (6, y6), (7, y7), (14, y14)]) h) (fun y1 y2 y3 y4 y6 y7 y14 h => K .ret (act 32 [(1, y1), (2, y2), (3, y3), (4, y4), (6, y6), (7, y7), (14, y14)]) h) := by
      unfold F11_rlrrrrr
      simp only [k_block (E := env) (f := 11) (c := (cr (cl (cr (cr (cr (cr (cr c11)))))))) (id := 0) (by kernel_rfl), g11_lrlrrrrr, reduceIte, reduceCtorEq, XE.exit.injEq, Nat.reduceEqDiff] <;> kernel_rfl
theorem r11_12 {β : Type} {inv : Inv} {k : Nat} {x1 x2 x3 x4 x6 x7 x14 : Value} {h : AH} {K : XE → Act → AH → Option β} : kCode env 11 false inv k (cl (cr (cr (cr (cr (cr (cr c11))))))) (act 32 [(1, x1), (2, x2), (3, x3), (4, x4), (6, x6), (7, x7), (14, x14)]) h K =
    bnd (pLoad Try.prog 25 x6 h) fun x30 =>
    bnd (pLoad Try.prog 22 x7 h) fun x31 =>
    bnd (kSt (pStore Try.prog 25 x2 x30 h)) fun u =>
    bnd (kSt (pStore Try.prog 22 x3 x31 u.2)) fun u_5 =>
    bnd (kSt (pStore Try.prog 4 x4 (Go.Value.bool true) u_5.2)) fun u_6 =>
    chkK ((!true || !true || (sameO (pLoad Try.prog 22 x7 h) x31 && sameO (pLoad Try.prog 22 x7 u.2) x31)) && true) <|
    K .normal (act 32 [(2, x2), (3, x3), (4, x4)]) u_6.2 := (k_draw (by kernel_rfl)).trans (by kernel_rfl)
theorem res11_1 {x1 x2 x3 x4 x6 x7 x14 : Value} {h : AH} : resOfFn env.P 11 .ret (act 32 [(1, x1), (2, x2), (3, x3), (4, x4), (6, x6), (7, x7), (14, x14)]) h = bnd (pLoad Try.prog 25 x2 h) fun q0 =>
    bnd (pLoad Try.prog 22 x3 h) fun q1 =>
    bnd (pLoad Try.prog 4 x4 h) fun q2 =>
    some (.tuple #[q0, q1, q2], h) := (resOfFn_k (by kernel_rfl) (by kernel_rfl)).trans (by kernel_rfl)
/-- shadowbook/shadowbooklaw08.runs -/
noncomputable def F11 (inv : Inv) (k : Nat) (x0 : Value) (h : AH) : Option (Value × AH) :=
    bnd (pBox Try.prog 22 x0 h) fun x1 =>
    bnd (pAlloc Try.prog 25 x1.2) fun x2 =>
    bnd (pAlloc Try.prog 22 x2.2) fun x3 =>
    bnd (pAlloc Try.prog 4 x3.2) fun x4 =>
    bnd (pLoad Try.prog 22 x1.1 x4.2) fun x10 =>
    bnd (inv (.func 24) #[] #[x10] x4.2) fun x11 =>
    bnd (pBin Try.prog Go.BinOp.eql 46 (Go.Operand.tmp 12) (Go.Operand.const Go.Value.nilFunc) x11.1 Go.Value.nilFunc) fun x13 =>
    brV x13
    (bnd (kSt (pStore Try.prog 25 x2.1 (Go.Value.slice none 0 0) x11.2)) fun u =>
    bnd (kSt (pStore Try.prog 22 x3.1 (Go.Value.slice none 0 0) u.2)) fun u_3 =>
    bnd (kSt (pStore Try.prog 4 x4.1 (Go.Value.bool false) u_3.2)) fun u_4 =>
    bnd (pLoad Try.prog 25 x2.1 u_4.2) fun q0 =>
    bnd (pLoad Try.prog 22 x3.1 u_4.2) fun q1 =>
    bnd (pLoad Try.prog 4 x4.1 u_4.2) fun q2 =>
    some (.tuple #[q0, q1, q2], u_4.2))
    (bnd (pAlloc Try.prog 25 x11.2) fun x6 =>
    bnd (pAlloc Try.prog 22 x6.2) fun x7 =>
    F11_rlrrrrr inv k x1.1 x2.1 x3.1 x4.1 x6.1 x7.1 x11.1 x7.2
    (fun y1 y2 y3 y4 y6 y7 y14 h =>
    bnd (pLoad Try.prog 25 y6 h) fun x30 =>
    bnd (pLoad Try.prog 22 y7 h) fun x31 =>
    bnd (kSt (pStore Try.prog 25 y2 x30 h)) fun u_7 =>
    bnd (kSt (pStore Try.prog 22 y3 x31 u_7.2)) fun u_8 =>
    bnd (kSt (pStore Try.prog 4 y4 (Go.Value.bool true) u_8.2)) fun u_9 =>
    chkK ((!true || !true || (sameO (pLoad Try.prog 22 y7 h) x31 && sameO (pLoad Try.prog 22 y7 u_7.2) x31)) && true) <|
    bnd (pLoad Try.prog 25 y2 u_9.2) fun q0 =>
    bnd (pLoad Try.prog 22 y3 u_9.2) fun q1 =>
    bnd (pLoad Try.prog 4 y4 u_9.2) fun q2 =>
    some (.tuple #[q0, q1, q2], u_9.2))
    (fun y1_10 y2_11 y3_12 y4_13 y6_14 y7_15 y14_16 h_17 =>
    bnd (pLoad Try.prog 25 y2_11 h_17) fun q0 =>
    bnd (pLoad Try.prog 22 y3_12 h_17) fun q1 =>
    bnd (pLoad Try.prog 4 y4_13 h_17) fun q2 =>
    some (.tuple #[q0, q1, q2], h_17)))
theorem F11_eq {inv : Inv} {k : Nat} {x0 : Value} {h : AH} : eFun env k inv 11 #[x0] h = F11 inv k x0 h := by
      refine (eFun_k2 (by kernel_rfl) (by kernel_rfl) (by kernel_rfl) (a := act 32 [(0, x0)]) (c := c11) (by kernel_rfl) (by kernel_rfl)).trans ?_
      unfold F11
      simp only [k_seq (E := env) (f := 11) (c := c11) (by kernel_rfl), r11_0, k_seq (E := env) (f := 11) (c := (cr c11)) (by kernel_rfl), r11_1, k_seq (E := env) (f := 11) (c := (cr (cr c11))) (by kernel_rfl), k_seq (E := env) (f := 11) (c := (cl (cr (cr c11)))) (by kernel_rfl), r11_2, b11_rlrr, k_seq (E := env) (f := 11) (c := (cl (cr (cl (cr (cr c11)))))) (by kernel_rfl), r11_3, k_ret (E := env) (f := 11) (c := (cr (cl (cr (cl (cr (cr c11))))))) (by kernel_rfl), res11_0, k_skip (E := env) (f := 11) (c := (cr (cr (cl (cr (cr c11)))))) (by kernel_rfl), k_seq (E := env) (f := 11) (c := (cr (cr (cr c11)))) (by kernel_rfl), r11_4, k_seq (E := env) (f := 11) (c := (cr (cr (cr (cr c11))))) (by kernel_rfl), r11_5, k_seq (E := env) (f := 11) (c := (cr (cr (cr (cr (cr c11)))))) (by kernel_rfl), k_seq (E := env) (f := 11) (c := (cl (cr (cr (cr (cr (cr c11))))))) (by kernel_rfl), r11_6, F11_rlrrrrr_eq, k_seq (E := env) (f := 11) (c := (cr (cr (cr (cr (cr (cr c11))))))) (by kernel_rfl), r11_12, k_ret (E := env) (f := 11) (c := (cr (cr (cr (cr (cr (cr (cr c11)))))))) (by kernel_rfl), res11_1, reduceIte, reduceCtorEq, XE.exit.injEq, Nat.reduceEqDiff] <;> kernel_rfl
theorem F11_call {k : Nat} {x0 : Value} {h : AH} : eInv env (k + 1) (.func 11) #[] #[x0] h = F11 (eInv env k) k x0 h := (inv_func (by kernel_rfl)).trans F11_eq
theorem r11_7 {β : Type} {inv : Inv} {k : Nat} {x1 x2 x3 x4 x6 x7 x14 x15 x16 : Value} {h : AH} {K : XE → Act → AH → Option β} : kCode env 11 true inv k (cl (cl (cl (cr (cl (cr (cr (cr (cr (cr c11)))))))))) (act 32 [(1, x1), (2, x2), (3, x3), (4, x4), (6, x6), (7, x7), (14, x14), (15, x15), (16, x16)]) h K =
    K .normal (act 32 [(1, x1), (2, x2), (3, x3), (4, x4), (6, x6), (7, x7), (8, x15), (16, x16)]) h := (k_reg (by kernel_rfl)).trans (by kernel_rfl)
theorem r11_8 {β : Type} {inv : Inv} {k : Nat} {x1 x2 x3 x4 x6 x7 x8 x16 : Value} {h : AH} {K : XE → Act → AH → Option β} : kCode env 11 true inv k (cr (cl (cl (cr (cl (cr (cr (cr (cr (cr c11)))))))))) (act 32 [(1, x1), (2, x2), (3, x3), (4, x4), (6, x6), (7, x7), (8, x8), (16, x16)]) h K =
    K .normal (act 32 [(1, x1), (2, x2), (3, x3), (4, x4), (6, x6), (7, x7), (8, x8), (9, x16)]) h := (k_reg (by kernel_rfl)).trans (by kernel_rfl)
theorem r11_9 {β : Type} {inv : Inv} {k : Nat} {x1 x2 x3 x4 x6 x7 x8 x9 : Value} {h : AH} {K : XE → Act → AH → Option β} : kCode env 11 true inv k (cl (cl (cl (cr (cl (cr (cl (cr (cr (cr (cr (cr c11)))))))))))) (act 32 [(1, x1), (2, x2), (3, x3), (4, x4), (6, x6), (7, x7), (8, x8), (9, x9)]) h K =
    bnd (pLoad Try.prog 25 x6 h) fun x17 =>
    bnd (pLen Try.prog #[25] x17 h) fun x18 =>
    bnd (pLoad Try.prog 22 x1 h) fun x19 =>
    bnd (pLen Try.prog #[22] x19 h) fun x20 =>
    bnd (pBin Try.prog Go.BinOp.gtr 3 (Go.Operand.tmp 18) (Go.Operand.tmp 20) x18 x20) fun x21 =>
    K .normal (act 32 [(2, x2), (3, x3), (4, x4), (6, x6), (7, x7), (8, x8), (9, x9), (21, x21)]) h := (k_reg (by kernel_rfl)).trans (by kernel_rfl)
theorem b11_rllrlrlrrrrr {β : Type} {inv : Inv} {k : Nat} {x2 x3 x4 x6 x7 x8 x9 x21 : Value} {h : AH} {K : XE → Act → AH → Option β} : kCode env 11 true inv k (cr (cl (cl (cr (cl (cr (cl (cr (cr (cr (cr (cr c11)))))))))))) (act 32 [(2, x2), (3, x3), (4, x4), (6, x6), (7, x7), (8, x8), (9, x9), (21, x21)]) h K = brV x21 (kCode env 11 true inv k (cl (cr (cl (cl (cr (cl (cr (cl (cr (cr (cr (cr (cr c11))))))))))))) (act 32 [(2, x2), (3, x3), (4, x4), (6, x6), (7, x7), (8, x8), (9, x9), (21, x21)]) h K) (kCode env 11 true inv k (cr (cr (cl (cl (cr (cl (cr (cl (cr (cr (cr (cr (cr c11))))))))))))) (act 32 [(2, x2), (3, x3), (4, x4), (6, x6), (7, x7), (8, x8), (9, x9), (21, x21)]) h K) := (k_cond (by kernel_rfl)).trans (by kernel_rfl)
theorem r11_10 {β : Type} {inv : Inv} {k : Nat} {x2 x3 x4 x6 x7 x8 x9 x21 : Value} {h : AH} {K : XE → Act → AH → Option β} : kCode env 11 true inv k (cl (cl (cr (cl (cl (cr (cl (cr (cl (cr (cr (cr (cr (cr c11)))))))))))))) (act 32 [(2, x2), (3, x3), (4, x4), (6, x6), (7, x7), (8, x8), (9, x9), (21, x21)]) h K =
    bnd (kSt (pStore Try.prog 25 x2 (Go.Value.slice none 0 0) h)) fun u =>
    bnd (kSt (pStore Try.prog 22 x3 (Go.Value.slice none 0 0) u.2)) fun u_18 =>
    bnd (kSt (pStore Try.prog 4 x4 (Go.Value.bool false) u_18.2)) fun u_19 =>
    K .normal (act 32 [(2, x2), (3, x3), (4, x4)]) u_19.2 := (k_reg (by kernel_rfl)).trans (by kernel_rfl)
theorem r11_11 {β : Type} {inv : Inv} {k : Nat} {x2 x3 x4 x6 x7 x8 x9 x21 : Value} {h : AH} {K : XE → Act → AH → Option β} : kCode env 11 true inv k (cr (cl (cr (cl (cr (cl (cr (cr (cr (cr (cr c11))))))))))) (act 32 [(2, x2), (3, x3), (4, x4), (6, x6), (7, x7), (8, x8), (9, x9), (21, x21)]) h K =
    bnd (pBuildSlice Try.prog 25 1 #[(0, x8)] h) fun x24 =>
    bnd (pBuildSlice Try.prog 22 1 #[(0, x9)] x24.2) fun x28 =>
    bnd (pLoad Try.prog 25 x6 x28.2) fun x22 =>
    bnd (pAppend Try.prog #[25, 25] x22 x24.1 x28.2) fun x25 =>
    bnd (pLoad Try.prog 22 x7 x25.2) fun x26 =>
    bnd (pAppend Try.prog #[22, 22] x26 x28.1 x25.2) fun x29 =>
    bnd (kSt (pStore Try.prog 25 x6 x25.1 x29.2)) fun u =>
    bnd (kSt (pStore Try.prog 22 x7 x29.1 u.2)) fun u_22 =>
    chkK ((!true || !true || (sameO (pLoad Try.prog 25 x6 h) x22 && sameO (pLoad Try.prog 25 x6 x24.2) x22)) && ((!true || !true || (sameO (pLoad Try.prog 25 x6 x24.2) x22 && sameO (pLoad Try.prog 25 x6 x28.2) x22)) && ((!true || !true || (sameO (pLoad Try.prog 22 x7 h) x26 && sameO (pLoad Try.prog 22 x7 x24.2) x26)) && ((!true || !true || (sameO (pLoad Try.prog 22 x7 x24.2) x26 && sameO (pLoad Try.prog 22 x7 x28.2) x26)) && ((!true || !true || (sameO (pLoad Try.prog 22 x7 x28.2) x26 && sameO (pLoad Try.prog 22 x7 x25.2) x26)) && true))))) <|
    K .normal (act 32 []) u_22.2 := (k_draw (by kernel_rfl)).trans (by kernel_rfl)
noncomputable def R11_lrlrrrrr (inv : Inv) (k l : Nat) (x1 x2 x3 x4 x6 x7 x14 z0 z1 : Value) (h : AH) : Option (Value × AH) :=
    rdBegin l h fun h =>
    bnd (pLoad Try.prog 25 x6 h) fun x17 =>
    bnd (pLen Try.prog #[25] x17 h) fun x18 =>
    bnd (pLoad Try.prog 22 x1 h) fun x19 =>
    bnd (pLen Try.prog #[22] x19 h) fun x20 =>
    bnd (pBin Try.prog Go.BinOp.gtr 3 (Go.Operand.tmp 18) (Go.Operand.tmp 20) x18 x20) fun x21 =>
    brV x21
    (bnd (kSt (pStore Try.prog 25 x2 (Go.Value.slice none 0 0) h)) fun u =>
    bnd (kSt (pStore Try.prog 22 x3 (Go.Value.slice none 0 0) u.2)) fun u_20 =>
    bnd (kSt (pStore Try.prog 4 x4 (Go.Value.bool false) u_20.2)) fun u_21 =>
    rdEnd l .ret u_21.2)
    (bnd (pBuildSlice Try.prog 25 1 #[(0, z0)] h) fun x24 =>
    bnd (pBuildSlice Try.prog 22 1 #[(0, z1)] x24.2) fun x28 =>
    bnd (pLoad Try.prog 25 x6 x28.2) fun x22 =>
    bnd (pAppend Try.prog #[25, 25] x22 x24.1 x28.2) fun x25 =>
    bnd (pLoad Try.prog 22 x7 x25.2) fun x26 =>
    bnd (pAppend Try.prog #[22, 22] x26 x28.1 x25.2) fun x29 =>
    bnd (kSt (pStore Try.prog 25 x6 x25.1 x29.2)) fun u_23 =>
    bnd (kSt (pStore Try.prog 22 x7 x29.1 u_23.2)) fun u_24 =>
    chkK ((!true || !true || (sameO (pLoad Try.prog 25 x6 h) x22 && sameO (pLoad Try.prog 25 x6 x24.2) x22)) && ((!true || !true || (sameO (pLoad Try.prog 25 x6 x24.2) x22 && sameO (pLoad Try.prog 25 x6 x28.2) x22)) && ((!true || !true || (sameO (pLoad Try.prog 22 x7 h) x26 && sameO (pLoad Try.prog 22 x7 x24.2) x26)) && ((!true || !true || (sameO (pLoad Try.prog 22 x7 x24.2) x26 && sameO (pLoad Try.prog 22 x7 x28.2) x26)) && ((!true || !true || (sameO (pLoad Try.prog 22 x7 x28.2) x26 && sameO (pLoad Try.prog 22 x7 x25.2) x26)) && true))))) <|
    rdEnd l .normal u_24.2)
theorem R11_lrlrrrrr_eq {inv : Inv} {k l : Nat} {pd : Option Code} {x1 x2 x3 x4 x6 x7 x14 z0 z1 : Value} {h : AH} (hl : h.get l = some (.loop .ready pd 11 (act 32 [(1, x1), (2, x2), (3, x3), (4, x4), (6, x6), (7, x7), (14, x14)]).tmps (psOf (cl (cr (cl (cr (cr (cr (cr (cr c11))))))))) (cl (cl (cr (cl (cr (cr (cr (cr (cr c11))))))))) (cr (cl (cr (cl (cr (cr (cr (cr (cr c11))))))))))) : eRound env k inv l #[z0, z1] h = R11_lrlrrrrr inv k l x1 x2 x3 x4 x6 x7 x14 z0 z1 h := by
      refine (eRound_k (a := act 32 [(1, x1), (2, x2), (3, x3), (4, x4), (6, x6), (7, x7), (14, x14), (15, z0), (16, z1)]) hl (by kernel_rfl) (by kernel_rfl)).trans ?_
      unfold R11_lrlrrrrr
      simp only [k_seq (E := env) (f := 11) (c := (cl (cl (cr (cl (cr (cr (cr (cr (cr c11)))))))))) (by kernel_rfl), r11_7, r11_8, k_block (E := env) (f := 11) (c := (cr (cl (cr (cl (cr (cr (cr (cr (cr c11)))))))))) (id := 1) (by kernel_rfl), k_seq (E := env) (f := 11) (c := (cl (cr (cl (cr (cl (cr (cr (cr (cr (cr c11))))))))))) (by kernel_rfl), k_seq (E := env) (f := 11) (c := (cl (cl (cr (cl (cr (cl (cr (cr (cr (cr (cr c11)))))))))))) (by kernel_rfl), r11_9, b11_rllrlrlrrrrr, k_seq (E := env) (f := 11) (c := (cl (cr (cl (cl (cr (cl (cr (cl (cr (cr (cr (cr (cr c11)))))))))))))) (by kernel_rfl), r11_10, k_ret (E := env) (f := 11) (c := (cr (cl (cr (cl (cl (cr (cl (cr (cl (cr (cr (cr (cr (cr c11))))))))))))))) (by kernel_rfl), k_skip (E := env) (f := 11) (c := (cr (cr (cl (cl (cr (cl (cr (cl (cr (cr (cr (cr (cr c11)))))))))))))) (by kernel_rfl), r11_11, reduceIte, reduceCtorEq, XE.exit.injEq, Nat.reduceEqDiff] <;> kernel_rfl
noncomputable def c12 : Code := codeOf Try.prog 12
theorem r12_0 {β : Type} {inv : Inv} {k : Nat} {x0 x1 : Value} {h : AH} {K : XE → Act → AH → Option β} : kCode env 12 false inv k (cl c12) (act 26 [(0, x0), (1, x1)]) h K =
    K .normal (act 26 [(0, x0), (1, x1)]) h := (k_reg (by kernel_rfl)).trans (by kernel_rfl)
theorem r12_1 {β : Type} {inv : Inv} {k : Nat} {x0 x1 : Value} {h : AH} {K : XE → Act → AH → Option β} : kCode env 12 false inv k (cl (cl (cr c12))) (act 26 [(0, x0), (1, x1)]) h K =
    bnd (pLen Try.prog #[22] x0 h) fun x7 =>
    bnd (pLen Try.prog #[22] x1 h) fun x9 =>
    bnd (pBin Try.prog Go.BinOp.neq 3 (Go.Operand.tmp 7) (Go.Operand.tmp 9) x7 x9) fun x10 =>
    K .normal (act 26 [(0, x0), (1, x1), (10, x10)]) h := (k_reg (by kernel_rfl)).trans (by kernel_rfl)
theorem b12_rlr {β : Type} {inv : Inv} {k : Nat} {x0 x1 x10 : Value} {h : AH} {K : XE → Act → AH → Option β} : kCode env 12 false inv k (cr (cl (cr c12))) (act 26 [(0, x0), (1, x1), (10, x10)]) h K = brV x10 (kCode env 12 false inv k (cl (cr (cl (cr c12)))) (act 26 [(0, x0), (1, x1), (10, x10)]) h K) (kCode env 12 false inv k (cr (cr (cl (cr c12)))) (act 26 [(0, x0), (1, x1), (10, x10)]) h K) := (k_cond (by kernel_rfl)).trans (by kernel_rfl)
theorem r12_2 {β : Type} {inv : Inv} {k : Nat} {x0 x1 x10 : Value} {h : AH} {K : XE → Act → AH → Option β} : kCode env 12 false inv k (cl (cl (cr (cl (cr c12))))) (act 26 [(0, x0), (1, x1), (10, x10)]) h K =
    K .normal (act 26 [(4, (Go.Value.bool false))]) h := (k_reg (by kernel_rfl)).trans (by kernel_rfl)
theorem res12_0 {x4 : Value} {h : AH} : resOfFn env.P 12 .ret (act 26 [(4, x4)]) h = some (x4, h) := (resOfFn_k (by kernel_rfl) (by kernel_rfl)).trans (by kernel_rfl)
theorem r12_3 {β : Type} {inv : Inv} {k : Nat} {x0 x1 x10 : Value} {h : AH} {K : XE → Act → AH → Option β} : kCode env 12 false inv k (cl (cl (cr (cr c12)))) (act 26 [(0, x0), (1, x1), (10, x10)]) h K =
    K .normal (act 26 [(0, x0), (1, x1), (5, (Go.Value.int Go.IntKind.i64 0))]) h := (k_reg (by kernel_rfl)).trans (by kernel_rfl)
theorem r12_4 {β : Type} {inv : Inv} {k : Nat} {x0 x1 x5 : Value} {h : AH} {K : XE → Act → AH → Option β} : kCode env 12 false inv k (cl (cl (cl (cl (cr (cl (cr (cr c12)))))))) (act 26 [(0, x0), (1, x1), (5, x5)]) h K =
    bnd (pLen Try.prog #[22] x0 h) fun x13 =>
    bnd (pBin Try.prog Go.BinOp.lss 3 (Go.Operand.tmp 11) (Go.Operand.tmp 13) x5 x13) fun x14 =>
    K .normal (act 26 [(0, x0), (1, x1), (5, x5), (14, x14)]) h := (k_reg (by kernel_rfl)).trans (by kernel_rfl)
theorem b12_rlllrlrr {β : Type} {inv : Inv} {k : Nat} {x0 x1 x5 x14 : Value} {h : AH} {K : XE → Act → AH → Option β} : kCode env 12 false inv k (cr (cl (cl (cl (cr (cl (cr (cr c12)))))))) (act 26 [(0, x0), (1, x1), (5, x5), (14, x14)]) h K = brV x14 (kCode env 12 false inv k (cl (cr (cl (cl (cl (cr (cl (cr (cr c12))))))))) (act 26 [(0, x0), (1, x1), (5, x5), (14, x14)]) h K) (kCode env 12 false inv k (cr (cr (cl (cl (cl (cr (cl (cr (cr c12))))))))) (act 26 [(0, x0), (1, x1), (5, x5), (14, x14)]) h K) := (k_cond (by kernel_rfl)).trans (by kernel_rfl)
theorem r12_6 {β : Type} {inv : Inv} {k : Nat} {x0 x1 x5 x14 : Value} {h : AH} {K : XE → Act → AH → Option β} : kCode env 12 false inv k (cl (cl (cl (cr (cl (cl (cr (cl (cr (cr c12)))))))))) (act 26 [(0, x0), (1, x1), (5, x5), (14, x14)]) h K =
    bnd (pIndexAddr Try.prog 22 x0 x5) fun x19 =>
    bnd (pLoad Try.prog 4 x19 h) fun x20 =>
    bnd (pIndexAddr Try.prog 22 x1 x5) fun x23 =>
    bnd (pLoad Try.prog 4 x23 h) fun x24 =>
    bnd (pBin Try.prog Go.BinOp.neq 4 (Go.Operand.tmp 20) (Go.Operand.tmp 24) x20 x24) fun x25 =>
    K .normal (act 26 [(0, x0), (1, x1), (5, x5), (25, x25)]) h := (k_draw (by kernel_rfl)).trans (by kernel_rfl)
theorem b12_rllrllrlrr {β : Type} {inv : Inv} {k : Nat} {x0 x1 x5 x25 : Value} {h : AH} {K : XE → Act → AH → Option β} : kCode env 12 false inv k (cr (cl (cl (cr (cl (cl (cr (cl (cr (cr c12)))))))))) (act 26 [(0, x0), (1, x1), (5, x5), (25, x25)]) h K = brV x25 (kCode env 12 false inv k (cl (cr (cl (cl (cr (cl (cl (cr (cl (cr (cr c12))))))))))) (act 26 [(0, x0), (1, x1), (5, x5), (25, x25)]) h K) (kCode env 12 false inv k (cr (cr (cl (cl (cr (cl (cl (cr (cl (cr (cr c12))))))))))) (act 26 [(0, x0), (1, x1), (5, x5), (25, x25)]) h K) := (k_cond (by kernel_rfl)).trans (by kernel_rfl)
theorem r12_7 {β : Type} {inv : Inv} {k : Nat} {x0 x1 x5 x25 : Value} {h : AH} {K : XE → Act → AH → Option β} : kCode env 12 false inv k (cl (cl (cr (cl (cl (cr (cl (cl (cr (cl (cr (cr c12)))))))))))) (act 26 [(0, x0), (1, x1), (5, x5), (25, x25)]) h K =
    K .normal (act 26 [(4, (Go.Value.bool false))]) h := (k_reg (by kernel_rfl)).trans (by kernel_rfl)
theorem r12_5 {β : Type} {inv : Inv} {k : Nat} {x0 x1 x5 x25 : Value} {h : AH} {K : XE → Act → AH → Option β} : kCode env 12 false inv k (cr (cr (cl (cl (cr (cl (cr (cr c12)))))))) (act 26 [(0, x0), (1, x1), (5, x5), (25, x25)]) h K =
    bnd (pBin Try.prog Go.BinOp.add 3 (Go.Operand.tmp 15) (Go.Operand.const (Go.Value.int Go.IntKind.i64 1)) x5 (Go.Value.int Go.IntKind.i64 1)) fun x16 =>
    K .normal (act 26 [(0, x0), (1, x1), (5, x16)]) h := (k_reg (by kernel_rfl)).trans (by kernel_rfl)
noncomputable def F12_lrlrr {β : Type} (inv : Inv) (k : Nat) : Nat → Value → Value → Value → AH → (Value → Value → Value → Value → AH → Option β) → (Value → AH → Option β) → Option β
  | 0, _, _, _, _, _, _ => none
  | j + 1, x0, x1, x5, h, ke0, kr =>
    bnd (pLen Try.prog #[22] x0 h) fun x13 =>
    bnd (pBin Try.prog Go.BinOp.lss 3 (Go.Operand.tmp 11) (Go.Operand.tmp 13) x5 x13) fun x14 =>
    brV x14
    (bnd (pIndexAddr Try.prog 22 x0 x5) fun x19 =>
    bnd (pLoad Try.prog 4 x19 h) fun x20 =>
    bnd (pIndexAddr Try.prog 22 x1 x5) fun x23 =>
    bnd (pLoad Try.prog 4 x23 h) fun x24 =>
    bnd (pBin Try.prog Go.BinOp.neq 4 (Go.Operand.tmp 20) (Go.Operand.tmp 24) x20 x24) fun x25 =>
    brV x25
    (kr (Go.Value.bool false) h)
    (bnd (pBin Try.prog Go.BinOp.add 3 (Go.Operand.tmp 15) (Go.Operand.const (Go.Value.int Go.IntKind.i64 1)) x5 (Go.Value.int Go.IntKind.i64 1)) fun x16 =>
    F12_lrlrr inv k j x0 x1 x16 h ke0 kr))
    (ke0 x0 x1 x5 x14 h)
theorem F12_lrlrr_j {β : Type} {inv : Inv} {k : Nat} (j : Nat) {x0 x1 x5 : Value} {h : AH} {K : XE → Act → AH → Option β} : kLoop (kCode env 12 false inv k (cl (cl (cr (cl (cr (cr c12))))))) j (act 26 [(0, x0), (1, x1), (5, x5)]) h K = F12_lrlrr inv k j x0 x1 x5 h (fun y0 y1 y5 y14 h => K (.exit 0) (act 26 [(0, y0), (1, y1), (5, y5), (14, y14)]) h) (fun y4 h => K .ret (act 26 [(4, y4)]) h) := by
      induction j generalizing x0 x1 x5 h with
      | zero => rfl
      | succ j ih =>
        unfold F12_lrlrr
        simp only [kLoop, k_seq (E := env) (f := 12) (c := (cl (cl (cr (cl (cr (cr c12))))))) (by kernel_rfl), k_seq (E := env) (f := 12) (c := (cl (cl (cl (cr (cl (cr (cr c12)))))))) (by kernel_rfl), r12_4, b12_rlllrlrr, k_skip (E := env) (f := 12) (c := (cl (cr (cl (cl (cl (cr (cl (cr (cr c12)))))))))) (by kernel_rfl), k_seq (E := env) (f := 12) (c := (cr (cl (cl (cr (cl (cr (cr c12)))))))) (by kernel_rfl), k_block (E := env) (f := 12) (c := (cl (cr (cl (cl (cr (cl (cr (cr c12))))))))) (id := 1) (by kernel_rfl), k_seq (E := env) (f := 12) (c := (cl (cl (cr (cl (cl (cr (cl (cr (cr c12)))))))))) (by kernel_rfl), r12_6, b12_rllrllrlrr, k_seq (E := env) (f := 12) (c := (cl (cr (cl (cl (cr (cl (cl (cr (cl (cr (cr c12)))))))))))) (by kernel_rfl), r12_7, k_ret (E := env) (f := 12) (c := (cr (cl (cr (cl (cl (cr (cl (cl (cr (cl (cr (cr c12))))))))))))) (by kernel_rfl), k_skip (E := env) (f := 12) (c := (cr (cr (cl (cl (cr (cl (cl (cr (cl (cr (cr c12)))))))))))) (by kernel_rfl), r12_5, k_exit (E := env) (f := 12) (c := (cr (cr (cl (cl (cl (cr (cl (cr (cr c12)))))))))) (id := 0) (by kernel_rfl), ih, reduceIte, reduceCtorEq, XE.exit.injEq, Nat.reduceEqDiff] <;> kernel_rfl
theorem F12_lrlrr_eq {β : Type} {inv : Inv} {k : Nat} {x0 x1 x5 : Value} {h : AH} {K : XE → Act → AH → Option β} : kCode env 12 false inv k (cl (cr (cl (cr (cr c12))))) (act 26 [(0, x0), (1, x1), (5, x5)]) h K = F12_lrlrr inv k k x0 x1 x5 h (fun y0 y1 y5 y14 h => K (.exit 0) (act 26 [(0, y0), (1, y1), (5, y5), (14, y14)]) h) (fun y4 h => K .ret (act 26 [(4, y4)]) h) := (k_loop (by kernel_rfl)).trans (F12_lrlrr_j k)
theorem r12_8 {β : Type} {inv : Inv} {k : Nat} {x0 x1 x5 x14 : Value} {h : AH} {K : XE → Act → AH → Option β} : kCode env 12 false inv k (cl (cr (cr (cr c12)))) (act 26 [(0, x0), (1, x1), (5, x5), (14, x14)]) h K =
    K .normal (act 26 [(4, (Go.Value.bool true))]) h := (k_reg (by kernel_rfl)).trans (by kernel_rfl)
/-- shadowbook/shadowbookkit.Same[bool] -/
noncomputable def F12 (inv : Inv) (k : Nat) (x0 x1 : Value) (h : AH) : Option (Value × AH) :=
    bnd (pLen Try.prog #[22] x0 h) fun x7 =>
    bnd (pLen Try.prog #[22] x1 h) fun x9 =>
    bnd (pBin Try.prog Go.BinOp.neq 3 (Go.Operand.tmp 7) (Go.Operand.tmp 9) x7 x9) fun x10 =>
    brV x10
    (some ((Go.Value.bool false), h))
    (F12_lrlrr inv k k x0 x1 (Go.Value.int Go.IntKind.i64 0) h
    (fun y0 y1 y5 y14 h =>
    some ((Go.Value.bool true), h))
    (fun y4 h_1 =>
    some (y4, h_1)))
theorem F12_eq {inv : Inv} {k : Nat} {x0 x1 : Value} {h : AH} : eFun env k inv 12 #[x0, x1] h = F12 inv k x0 x1 h := by
      refine (eFun_k2 (by kernel_rfl) (by kernel_rfl) (by kernel_rfl) (a := act 26 [(0, x0), (1, x1)]) (c := c12) (by kernel_rfl) (by kernel_rfl)).trans ?_
      unfold F12
      simp only [k_seq (E := env) (f := 12) (c := c12) (by kernel_rfl), r12_0, k_seq (E := env) (f := 12) (c := (cr c12)) (by kernel_rfl), k_seq (E := env) (f := 12) (c := (cl (cr c12))) (by kernel_rfl), r12_1, b12_rlr, k_seq (E := env) (f := 12) (c := (cl (cr (cl (cr c12))))) (by kernel_rfl), r12_2, k_ret (E := env) (f := 12) (c := (cr (cl (cr (cl (cr c12)))))) (by kernel_rfl), res12_0, k_skip (E := env) (f := 12) (c := (cr (cr (cl (cr c12))))) (by kernel_rfl), k_seq (E := env) (f := 12) (c := (cr (cr c12))) (by kernel_rfl), k_seq (E := env) (f := 12) (c := (cl (cr (cr c12)))) (by kernel_rfl), r12_3, k_block (E := env) (f := 12) (c := (cr (cl (cr (cr c12))))) (id := 0) (by kernel_rfl), F12_lrlrr_eq, k_seq (E := env) (f := 12) (c := (cr (cr (cr c12)))) (by kernel_rfl), r12_8, k_ret (E := env) (f := 12) (c := (cr (cr (cr (cr c12))))) (by kernel_rfl), reduceIte, reduceCtorEq, XE.exit.injEq, Nat.reduceEqDiff] <;> kernel_rfl
theorem F12_call {k : Nat} {x0 x1 : Value} {h : AH} : eInv env (k + 1) (.func 12) #[] #[x0, x1] h = F12 (eInv env k) k x0 x1 h := (inv_func (by kernel_rfl)).trans F12_eq
noncomputable def c13 : Code := codeOf Try.prog 13
theorem r13_0 {β : Type} {inv : Inv} {k : Nat} {x0 x1 : Value} {h : AH} {K : XE → Act → AH → Option β} : kCode env 13 false inv k (cl c13) (act 26 [(0, x0), (1, x1)]) h K =
    K .normal (act 26 [(0, x0), (1, x1)]) h := (k_reg (by kernel_rfl)).trans (by kernel_rfl)
theorem r13_1 {β : Type} {inv : Inv} {k : Nat} {x0 x1 : Value} {h : AH} {K : XE → Act → AH → Option β} : kCode env 13 false inv k (cl (cl (cr c13))) (act 26 [(0, x0), (1, x1)]) h K =
    bnd (pLen Try.prog #[25] x0 h) fun x7 =>
    bnd (pLen Try.prog #[25] x1 h) fun x9 =>
    bnd (pBin Try.prog Go.BinOp.neq 3 (Go.Operand.tmp 7) (Go.Operand.tmp 9) x7 x9) fun x10 =>
    K .normal (act 26 [(0, x0), (1, x1), (10, x10)]) h := (k_reg (by kernel_rfl)).trans (by kernel_rfl)
theorem b13_rlr {β : Type} {inv : Inv} {k : Nat} {x0 x1 x10 : Value} {h : AH} {K : XE → Act → AH → Option β} : kCode env 13 false inv k (cr (cl (cr c13))) (act 26 [(0, x0), (1, x1), (10, x10)]) h K = brV x10 (kCode env 13 false inv k (cl (cr (cl (cr c13)))) (act 26 [(0, x0), (1, x1), (10, x10)]) h K) (kCode env 13 false inv k (cr (cr (cl (cr c13)))) (act 26 [(0, x0), (1, x1), (10, x10)]) h K) := (k_cond (by kernel_rfl)).trans (by kernel_rfl)
theorem r13_2 {β : Type} {inv : Inv} {k : Nat} {x0 x1 x10 : Value} {h : AH} {K : XE → Act → AH → Option β} : kCode env 13 false inv k (cl (cl (cr (cl (cr c13))))) (act 26 [(0, x0), (1, x1), (10, x10)]) h K =
    K .normal (act 26 [(4, (Go.Value.bool false))]) h := (k_reg (by kernel_rfl)).trans (by kernel_rfl)
theorem res13_0 {x4 : Value} {h : AH} : resOfFn env.P 13 .ret (act 26 [(4, x4)]) h = some (x4, h) := (resOfFn_k (by kernel_rfl) (by kernel_rfl)).trans (by kernel_rfl)
theorem r13_3 {β : Type} {inv : Inv} {k : Nat} {x0 x1 x10 : Value} {h : AH} {K : XE → Act → AH → Option β} : kCode env 13 false inv k (cl (cl (cr (cr c13)))) (act 26 [(0, x0), (1, x1), (10, x10)]) h K =
    K .normal (act 26 [(0, x0), (1, x1), (5, (Go.Value.int Go.IntKind.i64 0))]) h := (k_reg (by kernel_rfl)).trans (by kernel_rfl)
theorem r13_4 {β : Type} {inv : Inv} {k : Nat} {x0 x1 x5 : Value} {h : AH} {K : XE → Act → AH → Option β} : kCode env 13 false inv k (cl (cl (cl (cl (cr (cl (cr (cr c13)))))))) (act 26 [(0, x0), (1, x1), (5, x5)]) h K =
    bnd (pLen Try.prog #[25] x0 h) fun x13 =>
    bnd (pBin Try.prog Go.BinOp.lss 3 (Go.Operand.tmp 11) (Go.Operand.tmp 13) x5 x13) fun x14 =>
    K .normal (act 26 [(0, x0), (1, x1), (5, x5), (14, x14)]) h := (k_reg (by kernel_rfl)).trans (by kernel_rfl)
theorem b13_rlllrlrr {β : Type} {inv : Inv} {k : Nat} {x0 x1 x5 x14 : Value} {h : AH} {K : XE → Act → AH → Option β} : kCode env 13 false inv k (cr (cl (cl (cl (cr (cl (cr (cr c13)))))))) (act 26 [(0, x0), (1, x1), (5, x5), (14, x14)]) h K = brV x14 (kCode env 13 false inv k (cl (cr (cl (cl (cl (cr (cl (cr (cr c13))))))))) (act 26 [(0, x0), (1, x1), (5, x5), (14, x14)]) h K) (kCode env 13 false inv k (cr (cr (cl (cl (cl (cr (cl (cr (cr c13))))))))) (act 26 [(0, x0), (1, x1), (5, x5), (14, x14)]) h K) := (k_cond (by kernel_rfl)).trans (by kernel_rfl)
theorem r13_6 {β : Type} {inv : Inv} {k : Nat} {x0 x1 x5 x14 : Value} {h : AH} {K : XE → Act → AH → Option β} : kCode env 13 false inv k (cl (cl (cl (cr (cl (cl (cr (cl (cr (cr c13)))))))))) (act 26 [(0, x0), (1, x1), (5, x5), (14, x14)]) h K =
    bnd (pIndexAddr Try.prog 25 x0 x5) fun x19 =>
    bnd (pLoad Try.prog 3 x19 h) fun x20 =>
    bnd (pIndexAddr Try.prog 25 x1 x5) fun x23 =>
    bnd (pLoad Try.prog 3 x23 h) fun x24 =>
    bnd (pBin Try.prog Go.BinOp.neq 3 (Go.Operand.tmp 20) (Go.Operand.tmp 24) x20 x24) fun x25 =>
    K .normal (act 26 [(0, x0), (1, x1), (5, x5), (25, x25)]) h := (k_draw (by kernel_rfl)).trans (by kernel_rfl)
theorem b13_rllrllrlrr {β : Type} {inv : Inv} {k : Nat} {x0 x1 x5 x25 : Value} {h : AH} {K : XE → Act → AH → Option β} : kCode env 13 false inv k (cr (cl (cl (cr (cl (cl (cr (cl (cr (cr c13)))))))))) (act 26 [(0, x0), (1, x1), (5, x5), (25, x25)]) h K = brV x25 (kCode env 13 false inv k (cl (cr (cl (cl (cr (cl (cl (cr (cl (cr (cr c13))))))))))) (act 26 [(0, x0), (1, x1), (5, x5), (25, x25)]) h K) (kCode env 13 false inv k (cr (cr (cl (cl (cr (cl (cl (cr (cl (cr (cr c13))))))))))) (act 26 [(0, x0), (1, x1), (5, x5), (25, x25)]) h K) := (k_cond (by kernel_rfl)).trans (by kernel_rfl)
theorem r13_7 {β : Type} {inv : Inv} {k : Nat} {x0 x1 x5 x25 : Value} {h : AH} {K : XE → Act → AH → Option β} : kCode env 13 false inv k (cl (cl (cr (cl (cl (cr (cl (cl (cr (cl (cr (cr c13)))))))))))) (act 26 [(0, x0), (1, x1), (5, x5), (25, x25)]) h K =
    K .normal (act 26 [(4, (Go.Value.bool false))]) h := (k_reg (by kernel_rfl)).trans (by kernel_rfl)
theorem r13_5 {β : Type} {inv : Inv} {k : Nat} {x0 x1 x5 x25 : Value} {h : AH} {K : XE → Act → AH → Option β} : kCode env 13 false inv k (cr (cr (cl (cl (cr (cl (cr (cr c13)))))))) (act 26 [(0, x0), (1, x1), (5, x5), (25, x25)]) h K =
    bnd (pBin Try.prog Go.BinOp.add 3 (Go.Operand.tmp 15) (Go.Operand.const (Go.Value.int Go.IntKind.i64 1)) x5 (Go.Value.int Go.IntKind.i64 1)) fun x16 =>
    K .normal (act 26 [(0, x0), (1, x1), (5, x16)]) h := (k_reg (by kernel_rfl)).trans (by kernel_rfl)
noncomputable def F13_lrlrr {β : Type} (inv : Inv) (k : Nat) : Nat → Value → Value → Value → AH → (Value → Value → Value → Value → AH → Option β) → (Value → AH → Option β) → Option β
  | 0, _, _, _, _, _, _ => none
  | j + 1, x0, x1, x5, h, ke0, kr =>
    bnd (pLen Try.prog #[25] x0 h) fun x13 =>
    bnd (pBin Try.prog Go.BinOp.lss 3 (Go.Operand.tmp 11) (Go.Operand.tmp 13) x5 x13) fun x14 =>
    brV x14
    (bnd (pIndexAddr Try.prog 25 x0 x5) fun x19 =>
    bnd (pLoad Try.prog 3 x19 h) fun x20 =>
    bnd (pIndexAddr Try.prog 25 x1 x5) fun x23 =>
    bnd (pLoad Try.prog 3 x23 h) fun x24 =>
    bnd (pBin Try.prog Go.BinOp.neq 3 (Go.Operand.tmp 20) (Go.Operand.tmp 24) x20 x24) fun x25 =>
    brV x25
    (kr (Go.Value.bool false) h)
    (bnd (pBin Try.prog Go.BinOp.add 3 (Go.Operand.tmp 15) (Go.Operand.const (Go.Value.int Go.IntKind.i64 1)) x5 (Go.Value.int Go.IntKind.i64 1)) fun x16 =>
    F13_lrlrr inv k j x0 x1 x16 h ke0 kr))
    (ke0 x0 x1 x5 x14 h)
theorem F13_lrlrr_j {β : Type} {inv : Inv} {k : Nat} (j : Nat) {x0 x1 x5 : Value} {h : AH} {K : XE → Act → AH → Option β} : kLoop (kCode env 13 false inv k (cl (cl (cr (cl (cr (cr c13))))))) j (act 26 [(0, x0), (1, x1), (5, x5)]) h K = F13_lrlrr inv k j x0 x1 x5 h (fun y0 y1 y5 y14 h => K (.exit 0) (act 26 [(0, y0), (1, y1), (5, y5), (14, y14)]) h) (fun y4 h => K .ret (act 26 [(4, y4)]) h) := by
      induction j generalizing x0 x1 x5 h with
      | zero => rfl
      | succ j ih =>
        unfold F13_lrlrr
        simp only [kLoop, k_seq (E := env) (f := 13) (c := (cl (cl (cr (cl (cr (cr c13))))))) (by kernel_rfl), k_seq (E := env) (f := 13) (c := (cl (cl (cl (cr (cl (cr (cr c13)))))))) (by kernel_rfl), r13_4, b13_rlllrlrr, k_skip (E := env) (f := 13) (c := (cl (cr (cl (cl (cl (cr (cl (cr (cr c13)))))))))) (by kernel_rfl), k_seq (E := env) (f := 13) (c := (cr (cl (cl (cr (cl (cr (cr c13)))))))) (by kernel_rfl), k_block (E := env) (f := 13) (c := (cl (cr (cl (cl (cr (cl (cr (cr c13))))))))) (id := 1) (by kernel_rfl), k_seq (E := env) (f := 13) (c := (cl (cl (cr (cl (cl (cr (cl (cr (cr c13)))))))))) (by kernel_rfl), r13_6, b13_rllrllrlrr, k_seq (E := env) (f := 13) (c := (cl (cr (cl (cl (cr (cl (cl (cr (cl (cr (cr c13)))))))))))) (by kernel_rfl), r13_7, k_ret (E := env) (f := 13) (c := (cr (cl (cr (cl (cl (cr (cl (cl (cr (cl (cr (cr c13))))))))))))) (by kernel_rfl), k_skip (E := env) (f := 13) (c := (cr (cr (cl (cl (cr (cl (cl (cr (cl (cr (cr c13)))))))))))) (by kernel_rfl), r13_5, k_exit (E := env) (f := 13) (c := (cr (cr (cl (cl (cl (cr (cl (cr (cr c13)))))))))) (id := 0) (by kernel_rfl), ih, reduceIte, reduceCtorEq, XE.exit.injEq, Nat.reduceEqDiff] <;> kernel_rfl
theorem F13_lrlrr_eq {β : Type} {inv : Inv} {k : Nat} {x0 x1 x5 : Value} {h : AH} {K : XE → Act → AH → Option β} : kCode env 13 false inv k (cl (cr (cl (cr (cr c13))))) (act 26 [(0, x0), (1, x1), (5, x5)]) h K = F13_lrlrr inv k k x0 x1 x5 h (fun y0 y1 y5 y14 h => K (.exit 0) (act 26 [(0, y0), (1, y1), (5, y5), (14, y14)]) h) (fun y4 h => K .ret (act 26 [(4, y4)]) h) := (k_loop (by kernel_rfl)).trans (F13_lrlrr_j k)
theorem r13_8 {β : Type} {inv : Inv} {k : Nat} {x0 x1 x5 x14 : Value} {h : AH} {K : XE → Act → AH → Option β} : kCode env 13 false inv k (cl (cr (cr (cr c13)))) (act 26 [(0, x0), (1, x1), (5, x5), (14, x14)]) h K =
    K .normal (act 26 [(4, (Go.Value.bool true))]) h := (k_reg (by kernel_rfl)).trans (by kernel_rfl)
/-- shadowbook/shadowbookkit.Same[int] -/
noncomputable def F13 (inv : Inv) (k : Nat) (x0 x1 : Value) (h : AH) : Option (Value × AH) :=
    bnd (pLen Try.prog #[25] x0 h) fun x7 =>
    bnd (pLen Try.prog #[25] x1 h) fun x9 =>
    bnd (pBin Try.prog Go.BinOp.neq 3 (Go.Operand.tmp 7) (Go.Operand.tmp 9) x7 x9) fun x10 =>
    brV x10
    (some ((Go.Value.bool false), h))
    (F13_lrlrr inv k k x0 x1 (Go.Value.int Go.IntKind.i64 0) h
    (fun y0 y1 y5 y14 h =>
    some ((Go.Value.bool true), h))
    (fun y4 h_1 =>
    some (y4, h_1)))
theorem F13_eq {inv : Inv} {k : Nat} {x0 x1 : Value} {h : AH} : eFun env k inv 13 #[x0, x1] h = F13 inv k x0 x1 h := by
      refine (eFun_k2 (by kernel_rfl) (by kernel_rfl) (by kernel_rfl) (a := act 26 [(0, x0), (1, x1)]) (c := c13) (by kernel_rfl) (by kernel_rfl)).trans ?_
      unfold F13
      simp only [k_seq (E := env) (f := 13) (c := c13) (by kernel_rfl), r13_0, k_seq (E := env) (f := 13) (c := (cr c13)) (by kernel_rfl), k_seq (E := env) (f := 13) (c := (cl (cr c13))) (by kernel_rfl), r13_1, b13_rlr, k_seq (E := env) (f := 13) (c := (cl (cr (cl (cr c13))))) (by kernel_rfl), r13_2, k_ret (E := env) (f := 13) (c := (cr (cl (cr (cl (cr c13)))))) (by kernel_rfl), res13_0, k_skip (E := env) (f := 13) (c := (cr (cr (cl (cr c13))))) (by kernel_rfl), k_seq (E := env) (f := 13) (c := (cr (cr c13))) (by kernel_rfl), k_seq (E := env) (f := 13) (c := (cl (cr (cr c13)))) (by kernel_rfl), r13_3, k_block (E := env) (f := 13) (c := (cr (cl (cr (cr c13))))) (id := 0) (by kernel_rfl), F13_lrlrr_eq, k_seq (E := env) (f := 13) (c := (cr (cr (cr c13)))) (by kernel_rfl), r13_8, k_ret (E := env) (f := 13) (c := (cr (cr (cr (cr c13))))) (by kernel_rfl), reduceIte, reduceCtorEq, XE.exit.injEq, Nat.reduceEqDiff] <;> kernel_rfl
theorem F13_call {k : Nat} {x0 x1 : Value} {h : AH} : eInv env (k + 1) (.func 13) #[] #[x0, x1] h = F13 (eInv env k) k x0 x1 h := (inv_func (by kernel_rfl)).trans F13_eq
noncomputable def c23 : Code := codeOf Try.prog 23
theorem r23_0 {β : Type} {inv : Inv} {k : Nat} {x0 : Value} {h : AH} {K : XE → Act → AH → Option β} : kCode env 23 false inv k (cl c23) (act 16 [(0, x0)]) h K =
    K .normal (act 16 [(0, x0), (2, (Go.Value.int Go.IntKind.i64 0))]) h := (k_reg (by kernel_rfl)).trans (by kernel_rfl)
theorem r23_1 {β : Type} {inv : Inv} {k : Nat} {x0 x2 : Value} {h : AH} {K : XE → Act → AH → Option β} : kCode env 23 false inv k (cl (cl (cr c23))) (act 16 [(0, x0), (2, x2)]) h K =
    bnd (pLen Try.prog #[43] x0 h) fun x6 =>
    K .normal (act 16 [(2, x2), (5, x0), (6, x6), (7, (Go.Value.int Go.IntKind.i64 0))]) h := (k_reg (by kernel_rfl)).trans (by kernel_rfl)
theorem r23_2 {β : Type} {inv : Inv} {k : Nat} {x2 x5 x6 x7 : Value} {h : AH} {K : XE → Act → AH → Option β} : kCode env 23 false inv k (cl (cl (cl (cr (cl (cr c23)))))) (act 16 [(2, x2), (5, x5), (6, x6), (7, x7)]) h K =
    bnd (pBin Try.prog Go.BinOp.lss 3 (Go.Operand.tmp 7) (Go.Operand.tmp 6) x7 x6) fun x8 =>
    K .normal (act 16 [(2, x2), (5, x5), (6, x6), (7, x7), (8, x8)]) h := (k_reg (by kernel_rfl)).trans (by kernel_rfl)
theorem b23_lrllrlr {β : Type} {inv : Inv} {k : Nat} {x2 x5 x6 x7 x8 : Value} {h : AH} {K : XE → Act → AH → Option β} : kCode env 23 false inv k (cl (cr (cl (cl (cr (cl (cr c23))))))) (act 16 [(2, x2), (5, x5), (6, x6), (7, x7), (8, x8)]) h K = brV x8 (kCode env 23 false inv k (cl (cl (cr (cl (cl (cr (cl (cr c23)))))))) (act 16 [(2, x2), (5, x5), (6, x6), (7, x7), (8, x8)]) h K) (kCode env 23 false inv k (cr (cl (cr (cl (cl (cr (cl (cr c23)))))))) (act 16 [(2, x2), (5, x5), (6, x6), (7, x7), (8, x8)]) h K) := (k_cond (by kernel_rfl)).trans (by kernel_rfl)
theorem r23_3 {β : Type} {inv : Inv} {k : Nat} {x2 x5 x6 x7 x8 : Value} {h : AH} {K : XE → Act → AH → Option β} : kCode env 23 false inv k (cl (cl (cl (cr (cr (cl (cl (cr (cl (cr c23)))))))))) (act 16 [(2, x2), (5, x5), (6, x6), (7, x7), (8, x8)]) h K =
    bnd (pIndexAddr Try.prog 43 x5 x7) fun x9 =>
    bnd (pLoad Try.prog 4 x9 h) fun x10 =>
    K .normal (act 16 [(2, x2), (4, x10), (5, x5), (6, x6), (7, x7)]) h := (k_reg (by kernel_rfl)).trans (by kernel_rfl)
theorem r23_4 {β : Type} {inv : Inv} {k : Nat} {x2 x4 x5 x6 x7 : Value} {h : AH} {K : XE → Act → AH → Option β} : kCode env 23 false inv k (cl (cr (cl (cl (cr (cr (cl (cl (cr (cl (cr c23))))))))))) (act 16 [(2, x2), (4, x4), (5, x5), (6, x6), (7, x7)]) h K =
    K .normal (act 16 [(2, x2), (5, x5), (6, x6), (7, x7), (11, x4)]) h := (k_reg (by kernel_rfl)).trans (by kernel_rfl)
theorem b23_rrllrrllrlr {β : Type} {inv : Inv} {k : Nat} {x2 x5 x6 x7 x11 : Value} {h : AH} {K : XE → Act → AH → Option β} : kCode env 23 false inv k (cr (cr (cl (cl (cr (cr (cl (cl (cr (cl (cr c23))))))))))) (act 16 [(2, x2), (5, x5), (6, x6), (7, x7), (11, x11)]) h K = brV x11 (kCode env 23 false inv k (cl (cr (cr (cl (cl (cr (cr (cl (cl (cr (cl (cr c23)))))))))))) (act 16 [(2, x2), (5, x5), (6, x6), (7, x7), (11, x11)]) h K) (kCode env 23 false inv k (cr (cr (cr (cl (cl (cr (cr (cl (cl (cr (cl (cr c23)))))))))))) (act 16 [(2, x2), (5, x5), (6, x6), (7, x7), (11, x11)]) h K) := (k_cond (by kernel_rfl)).trans (by kernel_rfl)
theorem r23_5 {β : Type} {inv : Inv} {k : Nat} {x2 x5 x6 x7 x11 : Value} {h : AH} {K : XE → Act → AH → Option β} : kCode env 23 false inv k (cl (cr (cr (cl (cl (cr (cr (cl (cl (cr (cl (cr c23)))))))))))) (act 16 [(2, x2), (5, x5), (6, x6), (7, x7), (11, x11)]) h K =
    bnd (pBin Try.prog Go.BinOp.add 3 (Go.Operand.tmp 12) (Go.Operand.const (Go.Value.int Go.IntKind.i64 1)) x2 (Go.Value.int Go.IntKind.i64 1)) fun x13 =>
    K .normal (act 16 [(2, x13), (5, x5), (6, x6), (7, x7)]) h := (k_reg (by kernel_rfl)).trans (by kernel_rfl)
noncomputable def F23_lrrllrlr {β : Type} (inv : Inv) (k : Nat) (x2 x5 x6 x7 x8 : Value) (h : AH) (kn : (Value → Value → Value → Value → Value → AH → Option β)) : Option β :=
    bnd (pIndexAddr Try.prog 43 x5 x7) fun x9 =>
    bnd (pLoad Try.prog 4 x9 h) fun x10 =>
    brV x10
    (bnd (pBin Try.prog Go.BinOp.add 3 (Go.Operand.tmp 12) (Go.Operand.const (Go.Value.int Go.IntKind.i64 1)) x2 (Go.Value.int Go.IntKind.i64 1)) fun x13 =>
    kn x13 x5 x6 x7 unk h)
    (kn x2 x5 x6 x7 x10 h)
theorem F23_lrrllrlr_eq {β : Type} {inv : Inv} {k : Nat} {x2 x5 x6 x7 x8 : Value} {h : AH} {K : XE → Act → AH → Option β} : kCode env 23 false inv k (cl (cr (cr (cl (cl (cr (cl (cr c23)))))))) (act 16 [(2, x2), (5, x5), (6, x6), (7, x7), (8, x8)]) h K = F23_lrrllrlr inv k x2 x5 x6 x7 x8 h (fun y2 y5 y6 y7 y11 h => K .normal (act 16 [(2, y2), (5, y5), (6, y6), (7, y7), (11, y11)]) h) := by
      unfold F23_lrrllrlr
      simp only [k_block (E := env) (f := 23) (c := (cl (cr (cr (cl (cl (cr (cl (cr c23))))))))) (id := 1) (by kernel_rfl), k_seq (E := env) (f := 23) (c := (cl (cl (cr (cr (cl (cl (cr (cl (cr c23)))))))))) (by kernel_rfl), r23_3, k_seq (E := env) (f := 23) (c := (cr (cl (cl (cr (cr (cl (cl (cr (cl (cr c23))))))))))) (by kernel_rfl), r23_4, b23_rrllrrllrlr, r23_5, k_skip (E := env) (f := 23) (c := (cr (cr (cr (cl (cl (cr (cr (cl (cl (cr (cl (cr c23))))))))))))) (by kernel_rfl), reduceIte, reduceCtorEq, XE.exit.injEq, Nat.reduceEqDiff] <;> kernel_rfl
theorem r23_6 {β : Type} {inv : Inv} {k : Nat} {x2 x5 x6 x7 x11 : Value} {h : AH} {K : XE → Act → AH → Option β} : kCode env 23 false inv k (cr (cr (cr (cl (cl (cr (cl (cr c23)))))))) (act 16 [(2, x2), (5, x5), (6, x6), (7, x7), (11, x11)]) h K =
    bnd (pBin Try.prog Go.BinOp.add 3 (Go.Operand.tmp 7) (Go.Operand.const (Go.Value.int Go.IntKind.i64 1)) x7 (Go.Value.int Go.IntKind.i64 1)) fun x14 =>
    K .normal (act 16 [(2, x2), (5, x5), (6, x6), (7, x14)]) h := (k_reg (by kernel_rfl)).trans (by kernel_rfl)
noncomputable def F23_lrlr {β : Type} (inv : Inv) (k : Nat) : Nat → Value → Value → Value → Value → AH → (Value → Value → Value → Value → Value → AH → Option β) → Option β
  | 0, _, _, _, _, _, _ => none
  | j + 1, x2, x5, x6, x7, h, ke0 =>
    bnd (pBin Try.prog Go.BinOp.lss 3 (Go.Operand.tmp 7) (Go.Operand.tmp 6) x7 x6) fun x8 =>
    brV x8
    (F23_lrrllrlr inv k x2 x5 x6 x7 x8 h
    (fun y2 y5 y6 y7 y11 h =>
    bnd (pBin Try.prog Go.BinOp.add 3 (Go.Operand.tmp 7) (Go.Operand.const (Go.Value.int Go.IntKind.i64 1)) y7 (Go.Value.int Go.IntKind.i64 1)) fun x14 =>
    F23_lrlr inv k j y2 y5 y6 x14 h ke0))
    (ke0 x2 x5 x6 x7 x8 h)
theorem F23_lrlr_j {β : Type} {inv : Inv} {k : Nat} (j : Nat) {x2 x5 x6 x7 : Value} {h : AH} {K : XE → Act → AH → Option β} : kLoop (kCode env 23 false inv k (cl (cl (cr (cl (cr c23)))))) j (act 16 [(2, x2), (5, x5), (6, x6), (7, x7)]) h K = F23_lrlr inv k j x2 x5 x6 x7 h (fun y2 y5 y6 y7 y8 h => K (.exit 0) (act 16 [(2, y2), (5, y5), (6, y6), (7, y7), (8, y8)]) h) := by
      induction j generalizing x2 x5 x6 x7 h with
      | zero => rfl
      | succ j ih =>
        unfold F23_lrlr
        simp only [kLoop, k_seq (E := env) (f := 23) (c := (cl (cl (cr (cl (cr c23)))))) (by kernel_rfl), r23_2, k_seq (E := env) (f := 23) (c := (cr (cl (cl (cr (cl (cr c23))))))) (by kernel_rfl), b23_lrllrlr, k_skip (E := env) (f := 23) (c := (cl (cl (cr (cl (cl (cr (cl (cr c23))))))))) (by kernel_rfl), k_seq (E := env) (f := 23) (c := (cr (cr (cl (cl (cr (cl (cr c23)))))))) (by kernel_rfl), F23_lrrllrlr_eq, r23_6, k_exit (E := env) (f := 23) (c := (cr (cl (cr (cl (cl (cr (cl (cr c23))))))))) (id := 0) (by kernel_rfl), ih, reduceIte, reduceCtorEq, XE.exit.injEq, Nat.reduceEqDiff] <;> kernel_rfl
theorem F23_lrlr_eq {β : Type} {inv : Inv} {k : Nat} {x2 x5 x6 x7 : Value} {h : AH} {K : XE → Act → AH → Option β} : kCode env 23 false inv k (cl (cr (cl (cr c23)))) (act 16 [(2, x2), (5, x5), (6, x6), (7, x7)]) h K = F23_lrlr inv k k x2 x5 x6 x7 h (fun y2 y5 y6 y7 y8 h => K (.exit 0) (act 16 [(2, y2), (5, y5), (6, y6), (7, y7), (8, y8)]) h) := (k_loop (by kernel_rfl)).trans (F23_lrlr_j k)
theorem r23_7 {β : Type} {inv : Inv} {k : Nat} {x2 x5 x6 x7 x8 : Value} {h : AH} {K : XE → Act → AH → Option β} : kCode env 23 false inv k (cl (cr (cr c23))) (act 16 [(2, x2), (5, x5), (6, x6), (7, x7), (8, x8)]) h K =
    K .normal (act 16 [(2, x2)]) h := (k_reg (by kernel_rfl)).trans (by kernel_rfl)
theorem res23_0 {x2 : Value} {h : AH} : resOfFn env.P 23 .ret (act 16 [(2, x2)]) h = some (x2, h) := (resOfFn_k (by kernel_rfl) (by kernel_rfl)).trans (by kernel_rfl)
/-- (shadowbook/nulls.flags).count -/
noncomputable def F23 (inv : Inv) (k : Nat) (x0 : Value) (h : AH) : Option (Value × AH) :=
    bnd (pLen Try.prog #[43] x0 h) fun x6 =>
    F23_lrlr inv k k (Go.Value.int Go.IntKind.i64 0) x0 x6 (Go.Value.int Go.IntKind.i64 0) h
    (fun y2 y5 y6 y7 y8 h =>
    some (y2, h))
theorem F23_eq {inv : Inv} {k : Nat} {x0 : Value} {h : AH} : eFun env k inv 23 #[x0] h = F23 inv k x0 h := by
      refine (eFun_k2 (by kernel_rfl) (by kernel_rfl) (by kernel_rfl) (a := act 16 [(0, x0)]) (c := c23) (by kernel_rfl) (by kernel_rfl)).trans ?_
      unfold F23
      simp only [k_seq (E := env) (f := 23) (c := c23) (by kernel_rfl), r23_0, k_seq (E := env) (f := 23) (c := (cr c23)) (by kernel_rfl), k_seq (E := env) (f := 23) (c := (cl (cr c23))) (by kernel_rfl), r23_1, k_block (E := env) (f := 23) (c := (cr (cl (cr c23)))) (id := 0) (by kernel_rfl), F23_lrlr_eq, k_seq (E := env) (f := 23) (c := (cr (cr c23))) (by kernel_rfl), r23_7, k_ret (E := env) (f := 23) (c := (cr (cr (cr c23)))) (by kernel_rfl), res23_0, reduceIte, reduceCtorEq, XE.exit.injEq, Nat.reduceEqDiff] <;> kernel_rfl
theorem F23_call {k : Nat} {x0 : Value} {h : AH} : eInv env (k + 1) (.func 23) #[] #[x0] h = F23 (eInv env k) k x0 h := (inv_func (by kernel_rfl)).trans F23_eq
noncomputable def c24 : Code := codeOf Try.prog 24
theorem r24_0 {β : Type} {inv : Inv} {k : Nat} {x0 : Value} {h : AH} {K : XE → Act → AH → Option β} : kCode env 24 false inv k (cl c24) (act 4 [(0, x0)]) h K =
    bnd (pBox Try.prog 22 x0 h) fun x1 =>
    K .normal (act 4 [(1, x1.1)]) x1.2 := (k_reg (by kernel_rfl)).trans (by kernel_rfl)
theorem r24_1 {β : Type} {inv : Inv} {k : Nat} {x1 : Value} {h : AH} {K : XE → Act → AH → Option β} : kCode env 24 false inv k (cl (cr c24)) (act 4 [(1, x1)]) h K =
    bnd (pMakeFunc (Go.Fn.func 48) #[] #[x1]) fun x3 =>
    K .normal (act 4 [(2, x3)]) h := (k_reg (by kernel_rfl)).trans (by kernel_rfl)
theorem res24_0 {x2 : Value} {h : AH} : resOfFn env.P 24 .ret (act 4 [(2, x2)]) h = some (x2, h) := (resOfFn_k (by kernel_rfl) (by kernel_rfl)).trans (by kernel_rfl)
/-- shadowbook/nulls.Runs -/
noncomputable def F24 (inv : Inv) (k : Nat) (x0 : Value) (h : AH) : Option (Value × AH) :=
    bnd (pBox Try.prog 22 x0 h) fun x1 =>
    bnd (pMakeFunc (Go.Fn.func 48) #[] #[x1.1]) fun x3 =>
    some (x3, x1.2)
theorem F24_eq {inv : Inv} {k : Nat} {x0 : Value} {h : AH} : eFun env k inv 24 #[x0] h = F24 inv k x0 h := by
      refine (eFun_k2 (by kernel_rfl) (by kernel_rfl) (by kernel_rfl) (a := act 4 [(0, x0)]) (c := c24) (by kernel_rfl) (by kernel_rfl)).trans ?_
      unfold F24
      simp only [k_seq (E := env) (f := 24) (c := c24) (by kernel_rfl), r24_0, k_seq (E := env) (f := 24) (c := (cr c24)) (by kernel_rfl), r24_1, k_ret (E := env) (f := 24) (c := (cr (cr c24))) (by kernel_rfl), res24_0, reduceIte, reduceCtorEq, XE.exit.injEq, Nat.reduceEqDiff] <;> kernel_rfl
theorem F24_call {k : Nat} {x0 : Value} {h : AH} : eInv env (k + 1) (.func 24) #[] #[x0] h = F24 (eInv env k) k x0 h := (inv_func (by kernel_rfl)).trans F24_eq
noncomputable def c48 : Code := codeOf Try.prog 48
theorem r48_0 {β : Type} {inv : Inv} {k : Nat} {x0 x1 : Value} {h : AH} {K : XE → Act → AH → Option β} : kCode env 48 false inv k (cl (cl c48)) (act 38 [(0, x0), (1, x1)]) h K =
    K .normal (act 38 [(0, x0), (1, x1), (3, (Go.Value.int Go.IntKind.i64 0))]) h := (k_reg (by kernel_rfl)).trans (by kernel_rfl)
theorem r48_1 {β : Type} {inv : Inv} {k : Nat} {x0 x1 x3 : Value} {h : AH} {K : XE → Act → AH → Option β} : kCode env 48 false inv k (cl (cr (cr (cl c48)))) (act 38 [(0, x0), (1, x1), (3, x3)]) h K =
    bnd (pLoad Try.prog 22 x1 h) fun x6 =>
    bnd (pLen Try.prog #[22] x6 h) fun x7 =>
    K .normal (act 38 [(0, x0), (1, x1), (3, x3), (6, x6), (7, x7), (8, (Go.Value.int Go.IntKind.i64 0))]) h := (k_reg (by kernel_rfl)).trans (by kernel_rfl)
theorem r48_2 {β : Type} {inv : Inv} {k : Nat} {x0 x1 x3 x6 x7 x8 : Value} {h : AH} {K : XE → Act → AH → Option β} : kCode env 48 false inv k (cl (cl (cl (cr (cr (cr (cl c48))))))) (act 38 [(0, x0), (1, x1), (3, x3), (6, x6), (7, x7), (8, x8)]) h K =
    bnd (pBin Try.prog Go.BinOp.lss 3 (Go.Operand.tmp 8) (Go.Operand.tmp 7) x8 x7) fun x9 =>
    K .normal (act 38 [(0, x0), (1, x1), (3, x3), (6, x6), (7, x7), (8, x8), (9, x9)]) h := (k_reg (by kernel_rfl)).trans (by kernel_rfl)
theorem b48_lrllrrrl {β : Type} {inv : Inv} {k : Nat} {x0 x1 x3 x6 x7 x8 x9 : Value} {h : AH} {K : XE → Act → AH → Option β} : kCode env 48 false inv k (cl (cr (cl (cl (cr (cr (cr (cl c48)))))))) (act 38 [(0, x0), (1, x1), (3, x3), (6, x6), (7, x7), (8, x8), (9, x9)]) h K = brV x9 (kCode env 48 false inv k (cl (cl (cr (cl (cl (cr (cr (cr (cl c48))))))))) (act 38 [(0, x0), (1, x1), (3, x3), (6, x6), (7, x7), (8, x8), (9, x9)]) h K) (kCode env 48 false inv k (cr (cl (cr (cl (cl (cr (cr (cr (cl c48))))))))) (act 38 [(0, x0), (1, x1), (3, x3), (6, x6), (7, x7), (8, x8), (9, x9)]) h K) := (k_cond (by kernel_rfl)).trans (by kernel_rfl)
theorem r48_3 {β : Type} {inv : Inv} {k : Nat} {x0 x1 x3 x6 x7 x8 x9 : Value} {h : AH} {K : XE → Act → AH → Option β} : kCode env 48 false inv k (cl (cl (cl (cr (cr (cl (cl (cr (cr (cr (cl c48))))))))))) (act 38 [(0, x0), (1, x1), (3, x3), (6, x6), (7, x7), (8, x8), (9, x9)]) h K =
    bnd (pIndexAddr Try.prog 22 x6 x8) fun x11 =>
    bnd (pLoad Try.prog 4 x11 h) fun x12 =>
    K .normal (act 38 [(0, x0), (1, x1), (3, x3), (4, x8), (5, x12), (6, x6), (7, x7), (8, x8)]) h := (k_reg (by kernel_rfl)).trans (by kernel_rfl)
theorem r48_4 {β : Type} {inv : Inv} {k : Nat} {x0 x1 x3 x4 x5 x6 x7 x8 : Value} {h : AH} {K : XE → Act → AH → Option β} : kCode env 48 false inv k (cl (cl (cr (cl (cl (cr (cr (cl (cl (cr (cr (cr (cl c48))))))))))))) (act 38 [(0, x0), (1, x1), (3, x3), (4, x4), (5, x5), (6, x6), (7, x7), (8, x8)]) h K =
    bnd (pBin Try.prog Go.BinOp.add 3 (Go.Operand.tmp 13) (Go.Operand.const (Go.Value.int Go.IntKind.i64 1)) x4 (Go.Value.int Go.IntKind.i64 1)) fun x14 =>
    bnd (pLoad Try.prog 22 x1 h) fun x15 =>
    bnd (pLen Try.prog #[22] x15 h) fun x16 =>
    bnd (pBin Try.prog Go.BinOp.lss 3 (Go.Operand.tmp 14) (Go.Operand.tmp 16) x14 x16) fun x17 =>
    bnd (gd (some x17) true h (lt (pLoad Try.prog 22 x1 h) h)) fun x19 =>
    bnd (gd (some x17) true x19.2 (some (x4, x19.2))) fun x20 =>
    bnd (gd (some x17) true x20.2 (lt (pBin Try.prog Go.BinOp.add 3 (Go.Operand.tmp 20) (Go.Operand.const (Go.Value.int Go.IntKind.i64 1)) x20.1 (Go.Value.int Go.IntKind.i64 1)) x20.2)) fun x21 =>
    bnd (gd (some x17) true x21.2 (lt (pIndexAddr Try.prog 22 x19.1 x21.1) x21.2)) fun x22 =>
    bnd (gd (some x17) true x22.2 (lt (pLoad Try.prog 4 x22.1 x22.2) x22.2)) fun x23 =>
    bnd (gd (some x17) true x23.2 (some (x5, x23.2))) fun x24 =>
    bnd (gd (some x17) true x24.2 (lt (pBin Try.prog Go.BinOp.eql 4 (Go.Operand.tmp 23) (Go.Operand.tmp 24) x23.1 x24.1) x24.2)) fun x25 =>
    bnd (pickV x17 x25.1 (Go.Value.bool false)) fun x26 =>
    K .normal (act 38 [(0, x0), (1, x1), (3, x3), (4, x4), (5, x5), (6, x6), (7, x7), (8, x8), (26, x26)]) x25.2 := (k_reg (by kernel_rfl)).trans (by kernel_rfl)
theorem b48_rlrllrrllrrrl {β : Type} {inv : Inv} {k : Nat} {x0 x1 x3 x4 x5 x6 x7 x8 x26 : Value} {h : AH} {K : XE → Act → AH → Option β} : kCode env 48 false inv k (cr (cl (cr (cl (cl (cr (cr (cl (cl (cr (cr (cr (cl c48))))))))))))) (act 38 [(0, x0), (1, x1), (3, x3), (4, x4), (5, x5), (6, x6), (7, x7), (8, x8), (26, x26)]) h K = brV x26 (kCode env 48 false inv k (cl (cr (cl (cr (cl (cl (cr (cr (cl (cl (cr (cr (cr (cl c48)))))))))))))) (act 38 [(0, x0), (1, x1), (3, x3), (4, x4), (5, x5), (6, x6), (7, x7), (8, x8), (26, x26)]) h K) (kCode env 48 false inv k (cr (cr (cl (cr (cl (cl (cr (cr (cl (cl (cr (cr (cr (cl c48)))))))))))))) (act 38 [(0, x0), (1, x1), (3, x3), (4, x4), (5, x5), (6, x6), (7, x7), (8, x8), (26, x26)]) h K) := (k_cond (by kernel_rfl)).trans (by kernel_rfl)
theorem r48_5 {β : Type} {inv : Inv} {k : Nat} {x0 x1 x3 x4 x5 x6 x7 x8 x26 : Value} {h : AH} {K : XE → Act → AH → Option β} : kCode env 48 false inv k (cl (cl (cr (cr (cl (cl (cr (cr (cl (cl (cr (cr (cr (cl c48)))))))))))))) (act 38 [(0, x0), (1, x1), (3, x3), (4, x4), (5, x5), (6, x6), (7, x7), (8, x8), (26, x26)]) h K =
    bnd (pBin Try.prog Go.BinOp.add 3 (Go.Operand.tmp 28) (Go.Operand.const (Go.Value.int Go.IntKind.i64 1)) x4 (Go.Value.int Go.IntKind.i64 1)) fun x29 =>
    bnd (pBin Try.prog Go.BinOp.sub 3 (Go.Operand.tmp 29) (Go.Operand.tmp 30) x29 x3) fun x31 =>
    bnd (callV inv x0 #[x31, x5] h) fun x33 =>
    bnd (pUn Try.prog Go.UnOp.not x33.1) fun x34 =>
    K .normal (act 38 [(0, x0), (1, x1), (4, x4), (6, x6), (7, x7), (8, x8), (34, x34)]) x33.2 := (k_reg (by kernel_rfl)).trans (by kernel_rfl)
theorem b48_rlrrllrrllrrrl {β : Type} {inv : Inv} {k : Nat} {x0 x1 x4 x6 x7 x8 x34 : Value} {h : AH} {K : XE → Act → AH → Option β} : kCode env 48 false inv k (cr (cl (cr (cr (cl (cl (cr (cr (cl (cl (cr (cr (cr (cl c48)))))))))))))) (act 38 [(0, x0), (1, x1), (4, x4), (6, x6), (7, x7), (8, x8), (34, x34)]) h K = brV x34 (kCode env 48 false inv k (cl (cr (cl (cr (cr (cl (cl (cr (cr (cl (cl (cr (cr (cr (cl c48))))))))))))))) (act 38 [(0, x0), (1, x1), (4, x4), (6, x6), (7, x7), (8, x8), (34, x34)]) h K) (kCode env 48 false inv k (cr (cr (cl (cr (cr (cl (cl (cr (cr (cl (cl (cr (cr (cr (cl c48))))))))))))))) (act 38 [(0, x0), (1, x1), (4, x4), (6, x6), (7, x7), (8, x8), (34, x34)]) h K) := (k_cond (by kernel_rfl)).trans (by kernel_rfl)
theorem r48_6 {β : Type} {inv : Inv} {k : Nat} {x0 x1 x4 x6 x7 x8 x34 : Value} {h : AH} {K : XE → Act → AH → Option β} : kCode env 48 false inv k (cr (cr (cr (cl (cl (cr (cr (cl (cl (cr (cr (cr (cl c48))))))))))))) (act 38 [(0, x0), (1, x1), (4, x4), (6, x6), (7, x7), (8, x8), (34, x34)]) h K =
    bnd (pBin Try.prog Go.BinOp.add 3 (Go.Operand.tmp 35) (Go.Operand.const (Go.Value.int Go.IntKind.i64 1)) x4 (Go.Value.int Go.IntKind.i64 1)) fun x36 =>
    K .normal (act 38 [(0, x0), (1, x1), (3, x36), (6, x6), (7, x7), (8, x8)]) h := (k_reg (by kernel_rfl)).trans (by kernel_rfl)
noncomputable def F48_lrrllrrrl {β : Type} (inv : Inv) (k : Nat) (x0 x1 x3 x6 x7 x8 x9 : Value) (h : AH) (kn : (Value → Value → Value → Value → Value → Value → Value → Value → Value → AH → Option β)) (kr : (Value → Value → Value → Value → Value → Value → Value → AH → Option β)) : Option β :=
    bnd (pIndexAddr Try.prog 22 x6 x8) fun x11 =>
    bnd (pLoad Try.prog 4 x11 h) fun x12 =>
    bnd (pBin Try.prog Go.BinOp.add 3 (Go.Operand.tmp 13) (Go.Operand.const (Go.Value.int Go.IntKind.i64 1)) x8 (Go.Value.int Go.IntKind.i64 1)) fun x14 =>
    bnd (pLoad Try.prog 22 x1 h) fun x15 =>
    bnd (pLen Try.prog #[22] x15 h) fun x16 =>
    bnd (pBin Try.prog Go.BinOp.lss 3 (Go.Operand.tmp 14) (Go.Operand.tmp 16) x14 x16) fun x17 =>
    bnd (gd (some x17) true h (lt (pLoad Try.prog 22 x1 h) h)) fun x19 =>
    bnd (gd (some x17) true x19.2 (some (x8, x19.2))) fun x20 =>
    bnd (gd (some x17) true x20.2 (lt (pBin Try.prog Go.BinOp.add 3 (Go.Operand.tmp 20) (Go.Operand.const (Go.Value.int Go.IntKind.i64 1)) x20.1 (Go.Value.int Go.IntKind.i64 1)) x20.2)) fun x21 =>
    bnd (gd (some x17) true x21.2 (lt (pIndexAddr Try.prog 22 x19.1 x21.1) x21.2)) fun x22 =>
    bnd (gd (some x17) true x22.2 (lt (pLoad Try.prog 4 x22.1 x22.2) x22.2)) fun x23 =>
    bnd (gd (some x17) true x23.2 (some (x12, x23.2))) fun x24 =>
    bnd (gd (some x17) true x24.2 (lt (pBin Try.prog Go.BinOp.eql 4 (Go.Operand.tmp 23) (Go.Operand.tmp 24) x23.1 x24.1) x24.2)) fun x25 =>
    bnd (pickV x17 x25.1 (Go.Value.bool false)) fun x26 =>
    brV x26
    (kn x0 x1 x3 x8 x12 x6 x7 x8 x26 x25.2)
    (bnd (pBin Try.prog Go.BinOp.add 3 (Go.Operand.tmp 28) (Go.Operand.const (Go.Value.int Go.IntKind.i64 1)) x8 (Go.Value.int Go.IntKind.i64 1)) fun x29 =>
    bnd (pBin Try.prog Go.BinOp.sub 3 (Go.Operand.tmp 29) (Go.Operand.tmp 30) x29 x3) fun x31 =>
    bnd (callV inv x0 #[x31, x12] x25.2) fun x33 =>
    bnd (pUn Try.prog Go.UnOp.not x33.1) fun x34 =>
    brV x34
    (kr x0 x1 x8 x6 x7 x8 x34 x33.2)
    (bnd (pBin Try.prog Go.BinOp.add 3 (Go.Operand.tmp 35) (Go.Operand.const (Go.Value.int Go.IntKind.i64 1)) x8 (Go.Value.int Go.IntKind.i64 1)) fun x36 =>
    kn x0 x1 x36 unk unk x6 x7 x8 unk x33.2))
theorem F48_lrrllrrrl_eq {β : Type} {inv : Inv} {k : Nat} {x0 x1 x3 x6 x7 x8 x9 : Value} {h : AH} {K : XE → Act → AH → Option β} : kCode env 48 false inv k (cl (cr (cr (cl (cl (cr (cr (cr (cl c48))))))))) (act 38 [(0, x0), (1, x1), (3, x3), (6, x6), (7, x7), (8, x8), (9, x9)]) h K = F48_lrrllrrrl inv k x0 x1 x3 x6 x7 x8 x9 h (fun y0 y1 y3 y4 y5 y6 y7 y8 y26 h => K .normal (act 38 [(0, y0), (1, y1), (3, y3), (4, y4), (5, y5), (6, y6), (7, y7), (8, y8), (26, y26)]) h) (fun y0 y1 y4 y6 y7 y8 y34 h => K .ret (act 38 [(0, y0), (1, y1), (4, y4), (6, y6), (7, y7), (8, y8), (34, y34)]) h) := by
      unfold F48_lrrllrrrl
      simp only [k_block (E := env) (f := 48) (c := (cl (cr (cr (cl (cl (cr (cr (cr (cl c48)))))))))) (id := 1) (by kernel_rfl), k_seq (E := env) (f := 48) (c := (cl (cl (cr (cr (cl (cl (cr (cr (cr (cl c48))))))))))) (by kernel_rfl), r48_3, k_seq (E := env) (f := 48) (c := (cr (cl (cl (cr (cr (cl (cl (cr (cr (cr (cl c48)))))))))))) (by kernel_rfl), k_seq (E := env) (f := 48) (c := (cl (cr (cl (cl (cr (cr (cl (cl (cr (cr (cr (cl c48))))))))))))) (by kernel_rfl), r48_4, b48_rlrllrrllrrrl, k_exit (E := env) (f := 48) (c := (cl (cr (cl (cr (cl (cl (cr (cr (cl (cl (cr (cr (cr (cl c48))))))))))))))) (id := 1) (by kernel_rfl), k_skip (E := env) (f := 48) (c := (cr (cr (cl (cr (cl (cl (cr (cr (cl (cl (cr (cr (cr (cl c48))))))))))))))) (by kernel_rfl), k_seq (E := env) (f := 48) (c := (cr (cr (cl (cl (cr (cr (cl (cl (cr (cr (cr (cl c48))))))))))))) (by kernel_rfl), k_seq (E := env) (f := 48) (c := (cl (cr (cr (cl (cl (cr (cr (cl (cl (cr (cr (cr (cl c48)))))))))))))) (by kernel_rfl), r48_5, b48_rlrrllrrllrrrl, k_ret (E := env) (f := 48) (c := (cl (cr (cl (cr (cr (cl (cl (cr (cr (cl (cl (cr (cr (cr (cl c48)))))))))))))))) (by kernel_rfl), k_skip (E := env) (f := 48) (c := (cr (cr (cl (cr (cr (cl (cl (cr (cr (cl (cl (cr (cr (cr (cl c48)))))))))))))))) (by kernel_rfl), r48_6, reduceIte, reduceCtorEq, XE.exit.injEq, Nat.reduceEqDiff] <;> kernel_rfl
theorem r48_7 {β : Type} {inv : Inv} {k : Nat} {x0 x1 x3 x4 x5 x6 x7 x8 x26 : Value} {h : AH} {K : XE → Act → AH → Option β} : kCode env 48 false inv k (cr (cr (cr (cl (cl (cr (cr (cr (cl c48))))))))) (act 38 [(0, x0), (1, x1), (3, x3), (4, x4), (5, x5), (6, x6), (7, x7), (8, x8), (26, x26)]) h K =
    bnd (pBin Try.prog Go.BinOp.add 3 (Go.Operand.tmp 8) (Go.Operand.const (Go.Value.int Go.IntKind.i64 1)) x8 (Go.Value.int Go.IntKind.i64 1)) fun x37 =>
    K .normal (act 38 [(0, x0), (1, x1), (3, x3), (6, x6), (7, x7), (8, x37)]) h := (k_reg (by kernel_rfl)).trans (by kernel_rfl)
noncomputable def F48_lrrrl {β : Type} (inv : Inv) (k : Nat) : Nat → Value → Value → Value → Value → Value → Value → AH → (Value → Value → Value → Value → Value → Value → Value → AH → Option β) → (Value → Value → Value → Value → Value → Value → Value → AH → Option β) → Option β
  | 0, _, _, _, _, _, _, _, _, _ => none
  | j + 1, x0, x1, x3, x6, x7, x8, h, ke0, kr =>
    bnd (pBin Try.prog Go.BinOp.lss 3 (Go.Operand.tmp 8) (Go.Operand.tmp 7) x8 x7) fun x9 =>
    brV x9
    (F48_lrrllrrrl inv k x0 x1 x3 x6 x7 x8 x9 h
    (fun y0 y1 y3 y4 y5 y6 y7 y8 y26 h =>
    bnd (pBin Try.prog Go.BinOp.add 3 (Go.Operand.tmp 8) (Go.Operand.const (Go.Value.int Go.IntKind.i64 1)) y8 (Go.Value.int Go.IntKind.i64 1)) fun x37 =>
    F48_lrrrl inv k j y0 y1 y3 y6 y7 x37 h ke0 kr)
    (fun y0_1 y1_2 y4_3 y6_4 y7_5 y8_6 y34 h_7 =>
    kr y0_1 y1_2 y4_3 y6_4 y7_5 y8_6 y34 h_7))
    (ke0 x0 x1 x3 x6 x7 x8 x9 h)
theorem F48_lrrrl_j {β : Type} {inv : Inv} {k : Nat} (j : Nat) {x0 x1 x3 x6 x7 x8 : Value} {h : AH} {K : XE → Act → AH → Option β} : kLoop (kCode env 48 false inv k (cl (cl (cr (cr (cr (cl c48))))))) j (act 38 [(0, x0), (1, x1), (3, x3), (6, x6), (7, x7), (8, x8)]) h K = F48_lrrrl inv k j x0 x1 x3 x6 x7 x8 h (fun y0 y1 y3 y6 y7 y8 y9 h => K (.exit 0) (act 38 [(0, y0), (1, y1), (3, y3), (6, y6), (7, y7), (8, y8), (9, y9)]) h) (fun y0 y1 y4 y6 y7 y8 y34 h => K .ret (act 38 [(0, y0), (1, y1), (4, y4), (6, y6), (7, y7), (8, y8), (34, y34)]) h) := by
      induction j generalizing x0 x1 x3 x6 x7 x8 h with
      | zero => rfl
      | succ j ih =>
        unfold F48_lrrrl
        simp only [kLoop, k_seq (E := env) (f := 48) (c := (cl (cl (cr (cr (cr (cl c48))))))) (by kernel_rfl), r48_2, k_seq (E := env) (f := 48) (c := (cr (cl (cl (cr (cr (cr (cl c48)))))))) (by kernel_rfl), b48_lrllrrrl, k_skip (E := env) (f := 48) (c := (cl (cl (cr (cl (cl (cr (cr (cr (cl c48)))))))))) (by kernel_rfl), k_seq (E := env) (f := 48) (c := (cr (cr (cl (cl (cr (cr (cr (cl c48))))))))) (by kernel_rfl), F48_lrrllrrrl_eq, r48_7, k_exit (E := env) (f := 48) (c := (cr (cl (cr (cl (cl (cr (cr (cr (cl c48)))))))))) (id := 0) (by kernel_rfl), ih, reduceIte, reduceCtorEq, XE.exit.injEq, Nat.reduceEqDiff] <;> kernel_rfl
theorem F48_lrrrl_eq {β : Type} {inv : Inv} {k : Nat} {x0 x1 x3 x6 x7 x8 : Value} {h : AH} {K : XE → Act → AH → Option β} : kCode env 48 false inv k (cl (cr (cr (cr (cl c48))))) (act 38 [(0, x0), (1, x1), (3, x3), (6, x6), (7, x7), (8, x8)]) h K = F48_lrrrl inv k k x0 x1 x3 x6 x7 x8 h (fun y0 y1 y3 y6 y7 y8 y9 h => K (.exit 0) (act 38 [(0, y0), (1, y1), (3, y3), (6, y6), (7, y7), (8, y8), (9, y9)]) h) (fun y0 y1 y4 y6 y7 y8 y34 h => K .ret (act 38 [(0, y0), (1, y1), (4, y4), (6, y6), (7, y7), (8, y8), (34, y34)]) h) := (k_loop (by kernel_rfl)).trans (F48_lrrrl_j k)
theorem res48_0 {x0 x1 x3 x6 x7 x8 x9 : Value} {h : AH} : resOfFn env.P 48 .normal (act 38 [(0, x0), (1, x1), (3, x3), (6, x6), (7, x7), (8, x8), (9, x9)]) h = some (.tuple #[], h) := (resOfFn_k (by kernel_rfl) (by kernel_rfl)).trans (by kernel_rfl)
theorem res48_1 {x0 x1 x4 x6 x7 x8 x34 : Value} {h : AH} : resOfFn env.P 48 .ret (act 38 [(0, x0), (1, x1), (4, x4), (6, x6), (7, x7), (8, x8), (34, x34)]) h = some (.tuple #[], h) := (resOfFn_k (by kernel_rfl) (by kernel_rfl)).trans (by kernel_rfl)
/-- shadowbook/nulls.Runs$1 -/
noncomputable def F48 (inv : Inv) (k : Nat) (x0 x1 : Value) (h : AH) : Option (Value × AH) :=
    bnd (pLoad Try.prog 22 x1 h) fun x6 =>
    bnd (pLen Try.prog #[22] x6 h) fun x7 =>
    F48_lrrrl inv k k x0 x1 (Go.Value.int Go.IntKind.i64 0) x6 x7 (Go.Value.int Go.IntKind.i64 0) h
    (fun y0 y1 y3 y6 y7 y8 y9 h =>
    some (.tuple #[], h))
    (fun y0_8 y1_9 y4 y6_10 y7_11 y8_12 y34 h_13 =>
    some (.tuple #[], h_13))
theorem F48_eq {inv : Inv} {k : Nat} {x0 x1 : Value} {h : AH} : eFun env k inv 48 #[x0, x1] h = F48 inv k x0 x1 h := by
      refine (eFun_k2 (by kernel_rfl) (by kernel_rfl) (by kernel_rfl) (a := act 38 [(0, x0), (1, x1)]) (c := c48) (by kernel_rfl) (by kernel_rfl)).trans ?_
      unfold F48
      simp only [k_scope (E := env) (f := 48) (c := c48) (by kernel_rfl), k_seq (E := env) (f := 48) (c := (cl c48)) (by kernel_rfl), r48_0, k_seq (E := env) (f := 48) (c := (cr (cl c48))) (by kernel_rfl), k_label (E := env) (f := 48) (c := (cl (cr (cl c48)))) (by kernel_rfl), k_seq (E := env) (f := 48) (c := (cr (cr (cl c48)))) (by kernel_rfl), r48_1, k_block (E := env) (f := 48) (c := (cr (cr (cr (cl c48))))) (id := 0) (by kernel_rfl), F48_lrrrl_eq, res48_0, res48_1, reduceIte, reduceCtorEq, XE.exit.injEq, Nat.reduceEqDiff] <;> kernel_rfl
theorem F48_call {k : Nat} {x0 x1 : Value} {h : AH} : eInv env (k + 1) (.func 48) #[] #[x0, x1] h = F48 (eInv env k) k x0 x1 h := (inv_func (by kernel_rfl)).trans F48_eq
end Go.Proofs.Ytoleebigheobcaa.Sh
