/- Shallow functions, part 1. Printed by a program of the prover's own from the loaded program; Lean checks it. -/
import Derived.Test.YtpiibdegmimckaaSz0
set_option linter.unusedVariables false
set_option linter.unusedSimpArgs false
set_option maxRecDepth 100000
namespace Go.Proofs.Ytpiibdegmimckaa.Sh
open Go Go.RowKit Go.Proofs.Ev
noncomputable def c3 : Code := codeOf Try.prog 3
theorem r3_0 {β : Type} {inv : Inv} {k : Nat} {x0 x1 x2 : Value} {h : AH} {K : XE → Act → AH → Option β} : kCode env 3 false inv k (cl c3) (act 67 [(0, x0), (1, x1), (2, x2)]) h K =
    K .normal (act 67 [(0, x0), (1, x1), (2, x2)]) h := (k_reg (by kernel_rfl)).trans (by kernel_rfl)
theorem r3_1 {β : Type} {inv : Inv} {k : Nat} {x0 x1 x2 : Value} {h : AH} {K : XE → Act → AH → Option β} : kCode env 3 false inv k (cl (cl (cr c3))) (act 67 [(0, x0), (1, x1), (2, x2)]) h K =
    bnd (inv (.func 8) #[] #[] h) fun x11 =>
    bnd (pUn Try.prog Go.UnOp.not x11.1) fun x12 =>
    K .normal (act 67 [(0, x0), (1, x1), (2, x2), (12, x12)]) x11.2 := (k_reg (by kernel_rfl)).trans (by kernel_rfl)
theorem b3_rlr {β : Type} {inv : Inv} {k : Nat} {x0 x1 x2 x12 : Value} {h : AH} {K : XE → Act → AH → Option β} : kCode env 3 false inv k (cr (cl (cr c3))) (act 67 [(0, x0), (1, x1), (2, x2), (12, x12)]) h K = brV x12 (kCode env 3 false inv k (cl (cr (cl (cr c3)))) (act 67 [(0, x0), (1, x1), (2, x2), (12, x12)]) h K) (kCode env 3 false inv k (cr (cr (cl (cr c3)))) (act 67 [(0, x0), (1, x1), (2, x2), (12, x12)]) h K) := (k_cond (by kernel_rfl)).trans (by kernel_rfl)
theorem r3_2 {β : Type} {inv : Inv} {k : Nat} {x0 x1 x2 x12 : Value} {h : AH} {K : XE → Act → AH → Option β} : kCode env 3 false inv k (cl (cl (cr (cl (cr c3))))) (act 67 [(0, x0), (1, x1), (2, x2), (12, x12)]) h K =
    K .normal (act 67 [(6, (Go.Value.bool false))]) h := (k_reg (by kernel_rfl)).trans (by kernel_rfl)
theorem res3_0 {x6 : Value} {h : AH} : resOfFn env.P 3 .ret (act 67 [(6, x6)]) h = some (x6, h) := (resOfFn_k (by kernel_rfl) (by kernel_rfl)).trans (by kernel_rfl)
theorem r3_3 {β : Type} {inv : Inv} {k : Nat} {x0 x1 x2 x12 : Value} {h : AH} {K : XE → Act → AH → Option β} : kCode env 3 false inv k (cl (cl (cr (cr c3)))) (act 67 [(0, x0), (1, x1), (2, x2), (12, x12)]) h K =
    bnd (inv (.func 9) #[] #[x0] h) fun x14 =>
    bnd (pUn Try.prog Go.UnOp.not x14.1) fun x15 =>
    bnd (gd (some x15) false x14.2 (some (x1, x14.2))) fun x17 =>
    bnd (gd (some x15) false x17.2 (inv (.func 9) #[] #[x17.1] x17.2)) fun x18 =>
    bnd (gd (some x15) false x18.2 (lt (pUn Try.prog Go.UnOp.not x18.1) x18.2)) fun x19 =>
    bnd (pickV x15 (Go.Value.bool true) x19.1) fun x20 =>
    bnd (gd (some x20) false x19.2 (some (x2, x19.2))) fun x22 =>
    bnd (gd (some x20) false x22.2 (inv (.func 9) #[] #[x22.1] x22.2)) fun x23 =>
    bnd (gd (some x20) false x23.2 (lt (pUn Try.prog Go.UnOp.not x23.1) x23.2)) fun x24 =>
    bnd (pickV x20 (Go.Value.bool true) x24.1) fun x25 =>
    K .normal (act 67 [(0, x0), (1, x1), (2, x2), (25, x25)]) x24.2 := (k_reg (by kernel_rfl)).trans (by kernel_rfl)
theorem b3_rlrr {β : Type} {inv : Inv} {k : Nat} {x0 x1 x2 x25 : Value} {h : AH} {K : XE → Act → AH → Option β} : kCode env 3 false inv k (cr (cl (cr (cr c3)))) (act 67 [(0, x0), (1, x1), (2, x2), (25, x25)]) h K = brV x25 (kCode env 3 false inv k (cl (cr (cl (cr (cr c3))))) (act 67 [(0, x0), (1, x1), (2, x2), (25, x25)]) h K) (kCode env 3 false inv k (cr (cr (cl (cr (cr c3))))) (act 67 [(0, x0), (1, x1), (2, x2), (25, x25)]) h K) := (k_cond (by kernel_rfl)).trans (by kernel_rfl)
theorem r3_4 {β : Type} {inv : Inv} {k : Nat} {x0 x1 x2 x25 : Value} {h : AH} {K : XE → Act → AH → Option β} : kCode env 3 false inv k (cl (cl (cr (cl (cr (cr c3)))))) (act 67 [(0, x0), (1, x1), (2, x2), (25, x25)]) h K =
    K .normal (act 67 [(6, (Go.Value.bool true))]) h := (k_reg (by kernel_rfl)).trans (by kernel_rfl)
theorem r3_5 {β : Type} {inv : Inv} {k : Nat} {x0 x1 x2 x25 : Value} {h : AH} {K : XE → Act → AH → Option β} : kCode env 3 false inv k (cl (cr (cr (cr c3)))) (act 67 [(0, x0), (1, x1), (2, x2), (25, x25)]) h K =
    bnd (inv (.func 10) #[] #[x0] h) fun x27 =>
    bnd (inv (.func 10) #[] #[x1] x27.2) fun x29 =>
    bnd (inv (.func 10) #[] #[x2] x29.2) fun x31 =>
    bnd (pAlloc Try.prog 28 x31.2) fun x7 =>
    bnd (pAlloc Try.prog 28 x7.2) fun x8 =>
    bnd (pAlloc Try.prog 28 x8.2) fun x9 =>
    bnd (kSt (pStore Try.prog 28 x7.1 x27.1 x9.2)) fun u =>
    bnd (kSt (pStore Try.prog 28 x8.1 x29.1 u.2)) fun u_1 =>
    bnd (kSt (pStore Try.prog 28 x9.1 x31.1 u_1.2)) fun u_2 =>
    K .normal (act 67 [(0, x0), (1, x1), (7, x7.1), (8, x8.1), (9, x9.1)]) u_2.2 := (k_reg (by kernel_rfl)).trans (by kernel_rfl)
theorem r3_6 {β : Type} {inv : Inv} {k : Nat} {x0 x1 x7 x8 x9 : Value} {h : AH} {K : XE → Act → AH → Option β} : kCode env 3 false inv k (cl (cr (cr (cr (cr c3))))) (act 67 [(0, x0), (1, x1), (7, x7), (8, x8), (9, x9)]) h K =
    bnd (pLoad Try.prog 28 x7 h) fun x32 =>
    bnd (pLoad Try.prog 28 x8 h) fun x33 =>
    bnd (inv (.func 11) #[] #[x32, x33] h) fun x34 =>
    bnd (pAlloc Try.prog 28 x34.2) fun x10 =>
    bnd (kSt (pStore Try.prog 28 x10.1 x34.1 x10.2)) fun u =>
    K .normal (act 67 [(0, x0), (1, x1), (7, x7), (8, x8), (9, x9), (10, x10.1)]) u.2 := (k_reg (by kernel_rfl)).trans (by kernel_rfl)
theorem r3_7 {β : Type} {inv : Inv} {k : Nat} {x0 x1 x7 x8 x9 x10 : Value} {h : AH} {K : XE → Act → AH → Option β} : kCode env 3 false inv k (cl (cr (cr (cr (cr (cr c3)))))) (act 67 [(0, x0), (1, x1), (7, x7), (8, x8), (9, x9), (10, x10)]) h K =
    bnd (pLoad Try.prog 28 x10 h) fun x35 =>
    bnd (inv (.func 12) #[] #[x0] h) fun x37 =>
    bnd (pAppend Try.prog #[22, 22] x37.1 x1 x37.2) fun x39 =>
    bnd (inv (.func 10) #[] #[x39.1] x39.2) fun x40 =>
    bnd (pBin Try.prog Go.BinOp.eql 28 (Go.Operand.tmp 35) (Go.Operand.tmp 40) x35 x40.1) fun x41 =>
    bnd (gd3 (some x41) true x40.2 (lt (pLoad Try.prog 28 x10 x40.2) x40.2)) fun x43 =>
    bnd (gd3 (some x41) true x43.2.1 (lt (pLoad Try.prog 28 x8 x43.2.1) x43.2.1)) fun x44 =>
    bnd (gd3 (some x41) true x44.2.1 (lt (pLoad Try.prog 28 x7 x44.2.1) x44.2.1)) fun x45 =>
    bnd (gd3 (some x41) true x45.2.1 (inv (.func 11) #[] #[x44.1, x45.1] x45.2.1)) fun x46 =>
    bnd (gd3 (some x41) true x46.2.1 (lt (pBin Try.prog Go.BinOp.eql 28 (Go.Operand.tmp 43) (Go.Operand.tmp 46) x43.1 x46.1) x46.2.1)) fun x47 =>
    bnd (pickV x41 x47.1 (Go.Value.bool false)) fun x48 =>
    bnd (gd3 (some x48) true x47.2.1 (lt (pLoad Try.prog 28 x10 x47.2.1) x47.2.1)) fun x50 =>
    bnd (gd3 (some x48) true x50.2.1 (lt (pLoad Try.prog 28 x9 x50.2.1) x50.2.1)) fun x51 =>
    bnd (gd3 (some x48) true x51.2.1 (inv (.func 11) #[] #[x50.1, x51.1] x51.2.1)) fun x52 =>
    bnd (gd3 (some x48) true x52.2.1 (lt (pLoad Try.prog 28 x7 x52.2.1) x52.2.1)) fun x53 =>
    bnd (gd3 (some x48) true x53.2.1 (lt (pLoad Try.prog 28 x8 x53.2.1) x53.2.1)) fun x54 =>
    bnd (gd3 (some x48) true x54.2.1 (lt (pLoad Try.prog 28 x9 x54.2.1) x54.2.1)) fun x55 =>
    bnd (gd3 (some x48) true x55.2.1 (inv (.func 11) #[] #[x54.1, x55.1] x55.2.1)) fun x56 =>
    bnd (gd3 (some x48) true x56.2.1 (inv (.func 11) #[] #[x53.1, x56.1] x56.2.1)) fun x57 =>
    bnd (gd3 (some x48) true x57.2.1 (lt (pBin Try.prog Go.BinOp.eql 28 (Go.Operand.tmp 52) (Go.Operand.tmp 57) x52.1 x57.1) x57.2.1)) fun x58 =>
    bnd (pickV x48 x58.1 (Go.Value.bool false)) fun x59 =>
    bnd (gd3 (some x59) true x58.2.1 (lt (pLoad Try.prog 28 x7 x58.2.1) x58.2.1)) fun x61 =>
    bnd (gd3 (some x59) true x61.2.1 (inv (.func 10) #[] #[(Go.Value.slice none 0 0)] x61.2.1)) fun x62 =>
    bnd (gd3 (some x59) true x62.2.1 (inv (.func 11) #[] #[x61.1, x62.1] x62.2.1)) fun x63 =>
    bnd (gd3 (some x59) true x63.2.1 (lt (pLoad Try.prog 28 x7 x63.2.1) x63.2.1)) fun x64 =>
    bnd (gd3 (some x59) true x64.2.1 (lt (pBin Try.prog Go.BinOp.eql 28 (Go.Operand.tmp 63) (Go.Operand.tmp 64) x63.1 x64.1) x64.2.1)) fun x65 =>
    bnd (pickV x59 x65.1 (Go.Value.bool false)) fun x66 =>
    chkK ((!true || !true || (sameO (pLoad Try.prog 28 x10 h) x35 && sameO (pLoad Try.prog 28 x10 x37.2) x35)) && ((!true || !true || (sameO (pLoad Try.prog 28 x10 x37.2) x35 && sameO (pLoad Try.prog 28 x10 x39.2) x35)) && ((!true || !true || (sameO (pLoad Try.prog 28 x10 x39.2) x35 && sameO (pLoad Try.prog 28 x10 x40.2) x35)) && ((!x43.2.2 || !x46.2.2 || (sameO (pLoad Try.prog 28 x10 x45.2.1) x43.1 && sameO (pLoad Try.prog 28 x10 x46.2.1) x43.1)) && ((!x53.2.2 || !x52.2.2 || (sameO (pLoad Try.prog 28 x7 x51.2.1) x53.1 && sameO (pLoad Try.prog 28 x7 x52.2.1) x53.1)) && ((!x53.2.2 || !x56.2.2 || (sameO (pLoad Try.prog 28 x7 x55.2.1) x53.1 && sameO (pLoad Try.prog 28 x7 x56.2.1) x53.1)) && ((!x54.2.2 || !x52.2.2 || (sameO (pLoad Try.prog 28 x8 x51.2.1) x54.1 && sameO (pLoad Try.prog 28 x8 x52.2.1) x54.1)) && ((!x55.2.2 || !x52.2.2 || (sameO (pLoad Try.prog 28 x9 x51.2.1) x55.1 && sameO (pLoad Try.prog 28 x9 x52.2.1) x55.1)) && ((!x61.2.2 || !x62.2.2 || (sameO (pLoad Try.prog 28 x7 x61.2.1) x61.1 && sameO (pLoad Try.prog 28 x7 x62.2.1) x61.1)) && ((!x64.2.2 || !x62.2.2 || (sameO (pLoad Try.prog 28 x7 x61.2.1) x64.1 && sameO (pLoad Try.prog 28 x7 x62.2.1) x64.1)) && ((!x64.2.2 || !x63.2.2 || (sameO (pLoad Try.prog 28 x7 x62.2.1) x64.1 && sameO (pLoad Try.prog 28 x7 x63.2.1) x64.1)) && true))))))))))) <|
    K .normal (act 67 [(6, x66)]) x65.2.1 := (k_draw (by kernel_rfl)).trans (by kernel_rfl)
/-- shadowbook/shadowbooklaw09.ZoneJoin -/
noncomputable def F3 (inv : Inv) (k : Nat) (x0 x1 x2 : Value) (h : AH) : Option (Value × AH) :=
    bnd (inv (.func 8) #[] #[] h) fun x11 =>
    bnd (pUn Try.prog Go.UnOp.not x11.1) fun x12 =>
    brV x12
    (some ((Go.Value.bool false), x11.2))
    (bnd (inv (.func 9) #[] #[x0] x11.2) fun x14 =>
    bnd (pUn Try.prog Go.UnOp.not x14.1) fun x15 =>
    bnd (gd (some x15) false x14.2 (some (x1, x14.2))) fun x17 =>
    bnd (gd (some x15) false x17.2 (inv (.func 9) #[] #[x17.1] x17.2)) fun x18 =>
    bnd (gd (some x15) false x18.2 (lt (pUn Try.prog Go.UnOp.not x18.1) x18.2)) fun x19 =>
    bnd (pickV x15 (Go.Value.bool true) x19.1) fun x20 =>
    bnd (gd (some x20) false x19.2 (some (x2, x19.2))) fun x22 =>
    bnd (gd (some x20) false x22.2 (inv (.func 9) #[] #[x22.1] x22.2)) fun x23 =>
    bnd (gd (some x20) false x23.2 (lt (pUn Try.prog Go.UnOp.not x23.1) x23.2)) fun x24 =>
    bnd (pickV x20 (Go.Value.bool true) x24.1) fun x25 =>
    brV x25
    (some ((Go.Value.bool true), x24.2))
    (bnd (inv (.func 10) #[] #[x0] x24.2) fun x27 =>
    bnd (inv (.func 10) #[] #[x1] x27.2) fun x29 =>
    bnd (inv (.func 10) #[] #[x2] x29.2) fun x31 =>
    bnd (pAlloc Try.prog 28 x31.2) fun x7 =>
    bnd (pAlloc Try.prog 28 x7.2) fun x8 =>
    bnd (pAlloc Try.prog 28 x8.2) fun x9 =>
    bnd (kSt (pStore Try.prog 28 x7.1 x27.1 x9.2)) fun u =>
    bnd (kSt (pStore Try.prog 28 x8.1 x29.1 u.2)) fun u_3 =>
    bnd (kSt (pStore Try.prog 28 x9.1 x31.1 u_3.2)) fun u_4 =>
    bnd (pLoad Try.prog 28 x7.1 u_4.2) fun x32 =>
    bnd (pLoad Try.prog 28 x8.1 u_4.2) fun x33 =>
    bnd (inv (.func 11) #[] #[x32, x33] u_4.2) fun x34 =>
    bnd (pAlloc Try.prog 28 x34.2) fun x10 =>
    bnd (kSt (pStore Try.prog 28 x10.1 x34.1 x10.2)) fun u_5 =>
    bnd (pLoad Try.prog 28 x10.1 u_5.2) fun x35 =>
    bnd (inv (.func 12) #[] #[x0] u_5.2) fun x37 =>
    bnd (pAppend Try.prog #[22, 22] x37.1 x1 x37.2) fun x39 =>
    bnd (inv (.func 10) #[] #[x39.1] x39.2) fun x40 =>
    bnd (pBin Try.prog Go.BinOp.eql 28 (Go.Operand.tmp 35) (Go.Operand.tmp 40) x35 x40.1) fun x41 =>
    bnd (gd3 (some x41) true x40.2 (lt (pLoad Try.prog 28 x10.1 x40.2) x40.2)) fun x43 =>
    bnd (gd3 (some x41) true x43.2.1 (lt (pLoad Try.prog 28 x8.1 x43.2.1) x43.2.1)) fun x44 =>
    bnd (gd3 (some x41) true x44.2.1 (lt (pLoad Try.prog 28 x7.1 x44.2.1) x44.2.1)) fun x45 =>
    bnd (gd3 (some x41) true x45.2.1 (inv (.func 11) #[] #[x44.1, x45.1] x45.2.1)) fun x46 =>
    bnd (gd3 (some x41) true x46.2.1 (lt (pBin Try.prog Go.BinOp.eql 28 (Go.Operand.tmp 43) (Go.Operand.tmp 46) x43.1 x46.1) x46.2.1)) fun x47 =>
    bnd (pickV x41 x47.1 (Go.Value.bool false)) fun x48 =>
    bnd (gd3 (some x48) true x47.2.1 (lt (pLoad Try.prog 28 x10.1 x47.2.1) x47.2.1)) fun x50 =>
    bnd (gd3 (some x48) true x50.2.1 (lt (pLoad Try.prog 28 x9.1 x50.2.1) x50.2.1)) fun x51 =>
    bnd (gd3 (some x48) true x51.2.1 (inv (.func 11) #[] #[x50.1, x51.1] x51.2.1)) fun x52 =>
    bnd (gd3 (some x48) true x52.2.1 (lt (pLoad Try.prog 28 x7.1 x52.2.1) x52.2.1)) fun x53 =>
    bnd (gd3 (some x48) true x53.2.1 (lt (pLoad Try.prog 28 x8.1 x53.2.1) x53.2.1)) fun x54 =>
    bnd (gd3 (some x48) true x54.2.1 (lt (pLoad Try.prog 28 x9.1 x54.2.1) x54.2.1)) fun x55 =>
    bnd (gd3 (some x48) true x55.2.1 (inv (.func 11) #[] #[x54.1, x55.1] x55.2.1)) fun x56 =>
    bnd (gd3 (some x48) true x56.2.1 (inv (.func 11) #[] #[x53.1, x56.1] x56.2.1)) fun x57 =>
    bnd (gd3 (some x48) true x57.2.1 (lt (pBin Try.prog Go.BinOp.eql 28 (Go.Operand.tmp 52) (Go.Operand.tmp 57) x52.1 x57.1) x57.2.1)) fun x58 =>
    bnd (pickV x48 x58.1 (Go.Value.bool false)) fun x59 =>
    bnd (gd3 (some x59) true x58.2.1 (lt (pLoad Try.prog 28 x7.1 x58.2.1) x58.2.1)) fun x61 =>
    bnd (gd3 (some x59) true x61.2.1 (inv (.func 10) #[] #[(Go.Value.slice none 0 0)] x61.2.1)) fun x62 =>
    bnd (gd3 (some x59) true x62.2.1 (inv (.func 11) #[] #[x61.1, x62.1] x62.2.1)) fun x63 =>
    bnd (gd3 (some x59) true x63.2.1 (lt (pLoad Try.prog 28 x7.1 x63.2.1) x63.2.1)) fun x64 =>
    bnd (gd3 (some x59) true x64.2.1 (lt (pBin Try.prog Go.BinOp.eql 28 (Go.Operand.tmp 63) (Go.Operand.tmp 64) x63.1 x64.1) x64.2.1)) fun x65 =>
    bnd (pickV x59 x65.1 (Go.Value.bool false)) fun x66 =>
    chkK ((!true || !true || (sameO (pLoad Try.prog 28 x10.1 u_5.2) x35 && sameO (pLoad Try.prog 28 x10.1 x37.2) x35)) && ((!true || !true || (sameO (pLoad Try.prog 28 x10.1 x37.2) x35 && sameO (pLoad Try.prog 28 x10.1 x39.2) x35)) && ((!true || !true || (sameO (pLoad Try.prog 28 x10.1 x39.2) x35 && sameO (pLoad Try.prog 28 x10.1 x40.2) x35)) && ((!x43.2.2 || !x46.2.2 || (sameO (pLoad Try.prog 28 x10.1 x45.2.1) x43.1 && sameO (pLoad Try.prog 28 x10.1 x46.2.1) x43.1)) && ((!x53.2.2 || !x52.2.2 || (sameO (pLoad Try.prog 28 x7.1 x51.2.1) x53.1 && sameO (pLoad Try.prog 28 x7.1 x52.2.1) x53.1)) && ((!x53.2.2 || !x56.2.2 || (sameO (pLoad Try.prog 28 x7.1 x55.2.1) x53.1 && sameO (pLoad Try.prog 28 x7.1 x56.2.1) x53.1)) && ((!x54.2.2 || !x52.2.2 || (sameO (pLoad Try.prog 28 x8.1 x51.2.1) x54.1 && sameO (pLoad Try.prog 28 x8.1 x52.2.1) x54.1)) && ((!x55.2.2 || !x52.2.2 || (sameO (pLoad Try.prog 28 x9.1 x51.2.1) x55.1 && sameO (pLoad Try.prog 28 x9.1 x52.2.1) x55.1)) && ((!x61.2.2 || !x62.2.2 || (sameO (pLoad Try.prog 28 x7.1 x61.2.1) x61.1 && sameO (pLoad Try.prog 28 x7.1 x62.2.1) x61.1)) && ((!x64.2.2 || !x62.2.2 || (sameO (pLoad Try.prog 28 x7.1 x61.2.1) x64.1 && sameO (pLoad Try.prog 28 x7.1 x62.2.1) x64.1)) && ((!x64.2.2 || !x63.2.2 || (sameO (pLoad Try.prog 28 x7.1 x62.2.1) x64.1 && sameO (pLoad Try.prog 28 x7.1 x63.2.1) x64.1)) && true))))))))))) <|
    some (x66, x65.2.1)))
theorem F3_eq {inv : Inv} {k : Nat} {x0 x1 x2 : Value} {h : AH} : eFun env k inv 3 #[x0, x1, x2] h = F3 inv k x0 x1 x2 h := by
      refine (eFun_k2 (by kernel_rfl) (by kernel_rfl) (by kernel_rfl) (a := act 67 [(0, x0), (1, x1), (2, x2)]) (c := c3) (by kernel_rfl) (by kernel_rfl)).trans ?_
      unfold F3
      simp only [k_seq (E := env) (f := 3) (c := c3) (by kernel_rfl), r3_0, k_seq (E := env) (f := 3) (c := (cr c3)) (by kernel_rfl), k_seq (E := env) (f := 3) (c := (cl (cr c3))) (by kernel_rfl), r3_1, b3_rlr, k_seq (E := env) (f := 3) (c := (cl (cr (cl (cr c3))))) (by kernel_rfl), r3_2, k_ret (E := env) (f := 3) (c := (cr (cl (cr (cl (cr c3)))))) (by kernel_rfl), res3_0, k_skip (E := env) (f := 3) (c := (cr (cr (cl (cr c3))))) (by kernel_rfl), k_seq (E := env) (f := 3) (c := (cr (cr c3))) (by kernel_rfl), k_seq (E := env) (f := 3) (c := (cl (cr (cr c3)))) (by kernel_rfl), r3_3, b3_rlrr, k_seq (E := env) (f := 3) (c := (cl (cr (cl (cr (cr c3)))))) (by kernel_rfl), r3_4, k_ret (E := env) (f := 3) (c := (cr (cl (cr (cl (cr (cr c3))))))) (by kernel_rfl), k_skip (E := env) (f := 3) (c := (cr (cr (cl (cr (cr c3)))))) (by kernel_rfl), k_seq (E := env) (f := 3) (c := (cr (cr (cr c3)))) (by kernel_rfl), r3_5, k_seq (E := env) (f := 3) (c := (cr (cr (cr (cr c3))))) (by kernel_rfl), r3_6, k_seq (E := env) (f := 3) (c := (cr (cr (cr (cr (cr c3)))))) (by kernel_rfl), r3_7, k_ret (E := env) (f := 3) (c := (cr (cr (cr (cr (cr (cr c3))))))) (by kernel_rfl), reduceIte, reduceCtorEq, XE.exit.injEq, Nat.reduceEqDiff] <;> kernel_rfl
theorem F3_call {k : Nat} {x0 x1 x2 : Value} {h : AH} : eInv env (k + 1) (.func 3) #[] #[x0, x1, x2] h = F3 (eInv env k) k x0 x1 x2 h := (inv_func (by kernel_rfl)).trans F3_eq
noncomputable def c4 : Code := codeOf Try.prog 4
theorem r4_0 {β : Type} {inv : Inv} {k : Nat} {x0 x1 x2 x3 x4 : Value} {h : AH} {K : XE → Act → AH → Option β} : kCode env 4 false inv k (cl c4) (act 115 [(0, x0), (1, x1), (2, x2), (3, x3), (4, x4)]) h K =
    bnd (pBox Try.prog 26 x4 h) fun x9 =>
    K .normal (act 115 [(0, x0), (1, x1), (2, x2), (3, x3), (9, x9.1)]) x9.2 := (k_reg (by kernel_rfl)).trans (by kernel_rfl)
theorem r4_1 {β : Type} {inv : Inv} {k : Nat} {x0 x1 x2 x3 x9 : Value} {h : AH} {K : XE → Act → AH → Option β} : kCode env 4 false inv k (cl (cl (cr c4))) (act 115 [(0, x0), (1, x1), (2, x2), (3, x3), (9, x9)]) h K =
    bnd (inv (.func 8) #[] #[] h) fun x17 =>
    bnd (pUn Try.prog Go.UnOp.not x17.1) fun x18 =>
    K .normal (act 115 [(0, x0), (1, x1), (2, x2), (3, x3), (9, x9), (18, x18)]) x17.2 := (k_reg (by kernel_rfl)).trans (by kernel_rfl)
theorem b4_rlr {β : Type} {inv : Inv} {k : Nat} {x0 x1 x2 x3 x9 x18 : Value} {h : AH} {K : XE → Act → AH → Option β} : kCode env 4 false inv k (cr (cl (cr c4))) (act 115 [(0, x0), (1, x1), (2, x2), (3, x3), (9, x9), (18, x18)]) h K = brV x18 (kCode env 4 false inv k (cl (cr (cl (cr c4)))) (act 115 [(0, x0), (1, x1), (2, x2), (3, x3), (9, x9), (18, x18)]) h K) (kCode env 4 false inv k (cr (cr (cl (cr c4)))) (act 115 [(0, x0), (1, x1), (2, x2), (3, x3), (9, x9), (18, x18)]) h K) := (k_cond (by kernel_rfl)).trans (by kernel_rfl)
theorem r4_2 {β : Type} {inv : Inv} {k : Nat} {x0 x1 x2 x3 x9 x18 : Value} {h : AH} {K : XE → Act → AH → Option β} : kCode env 4 false inv k (cl (cl (cr (cl (cr c4))))) (act 115 [(0, x0), (1, x1), (2, x2), (3, x3), (9, x9), (18, x18)]) h K =
    K .normal (act 115 [(10, (Go.Value.bool false))]) h := (k_reg (by kernel_rfl)).trans (by kernel_rfl)
theorem res4_0 {x10 : Value} {h : AH} : resOfFn env.P 4 .ret (act 115 [(10, x10)]) h = some (x10, h) := (resOfFn_k (by kernel_rfl) (by kernel_rfl)).trans (by kernel_rfl)
theorem r4_3 {β : Type} {inv : Inv} {k : Nat} {x0 x1 x2 x3 x9 x18 : Value} {h : AH} {K : XE → Act → AH → Option β} : kCode env 4 false inv k (cl (cl (cr (cr c4)))) (act 115 [(0, x0), (1, x1), (2, x2), (3, x3), (9, x9), (18, x18)]) h K =
    bnd (inv (.func 9) #[] #[x1] h) fun x20 =>
    bnd (pUn Try.prog Go.UnOp.not x20.1) fun x21 =>
    K .normal (act 115 [(0, x0), (1, x1), (2, x2), (3, x3), (9, x9), (21, x21)]) x20.2 := (k_reg (by kernel_rfl)).trans (by kernel_rfl)
theorem b4_rlrr {β : Type} {inv : Inv} {k : Nat} {x0 x1 x2 x3 x9 x21 : Value} {h : AH} {K : XE → Act → AH → Option β} : kCode env 4 false inv k (cr (cl (cr (cr c4)))) (act 115 [(0, x0), (1, x1), (2, x2), (3, x3), (9, x9), (21, x21)]) h K = brV x21 (kCode env 4 false inv k (cl (cr (cl (cr (cr c4))))) (act 115 [(0, x0), (1, x1), (2, x2), (3, x3), (9, x9), (21, x21)]) h K) (kCode env 4 false inv k (cr (cr (cl (cr (cr c4))))) (act 115 [(0, x0), (1, x1), (2, x2), (3, x3), (9, x9), (21, x21)]) h K) := (k_cond (by kernel_rfl)).trans (by kernel_rfl)
theorem r4_4 {β : Type} {inv : Inv} {k : Nat} {x0 x1 x2 x3 x9 x21 : Value} {h : AH} {K : XE → Act → AH → Option β} : kCode env 4 false inv k (cl (cl (cr (cl (cr (cr c4)))))) (act 115 [(0, x0), (1, x1), (2, x2), (3, x3), (9, x9), (21, x21)]) h K =
    K .normal (act 115 [(10, (Go.Value.bool true))]) h := (k_reg (by kernel_rfl)).trans (by kernel_rfl)
theorem r4_5 {β : Type} {inv : Inv} {k : Nat} {x0 x1 x2 x3 x9 x21 : Value} {h : AH} {K : XE → Act → AH → Option β} : kCode env 4 false inv k (cl (cl (cr (cr (cr c4))))) (act 115 [(0, x0), (1, x1), (2, x2), (3, x3), (9, x9), (21, x21)]) h K =
    K .normal (act 115 [(0, x0), (1, x1), (2, x2), (3, x3), (9, x9), (11, (Go.Value.int Go.IntKind.i64 0))]) h := (k_reg (by kernel_rfl)).trans (by kernel_rfl)
theorem r4_6 {β : Type} {inv : Inv} {k : Nat} {x0 x1 x2 x3 x9 x11 : Value} {h : AH} {K : XE → Act → AH → Option β} : kCode env 4 false inv k (cl (cl (cl (cl (cr (cl (cr (cr (cr c4))))))))) (act 115 [(0, x0), (1, x1), (2, x2), (3, x3), (9, x9), (11, x11)]) h K =
    bnd (pLen Try.prog #[22] x1 h) fun x24 =>
    bnd (pBin Try.prog Go.BinOp.lss 3 (Go.Operand.tmp 22) (Go.Operand.tmp 24) x11 x24) fun x25 =>
    K .normal (act 115 [(0, x0), (1, x1), (2, x2), (3, x3), (9, x9), (11, x11), (25, x25)]) h := (k_reg (by kernel_rfl)).trans (by kernel_rfl)
theorem b4_rlllrlrrr {β : Type} {inv : Inv} {k : Nat} {x0 x1 x2 x3 x9 x11 x25 : Value} {h : AH} {K : XE → Act → AH → Option β} : kCode env 4 false inv k (cr (cl (cl (cl (cr (cl (cr (cr (cr c4))))))))) (act 115 [(0, x0), (1, x1), (2, x2), (3, x3), (9, x9), (11, x11), (25, x25)]) h K = brV x25 (kCode env 4 false inv k (cl (cr (cl (cl (cl (cr (cl (cr (cr (cr c4)))))))))) (act 115 [(0, x0), (1, x1), (2, x2), (3, x3), (9, x9), (11, x11), (25, x25)]) h K) (kCode env 4 false inv k (cr (cr (cl (cl (cl (cr (cl (cr (cr (cr c4)))))))))) (act 115 [(0, x0), (1, x1), (2, x2), (3, x3), (9, x9), (11, x11), (25, x25)]) h K) := (k_cond (by kernel_rfl)).trans (by kernel_rfl)
theorem r4_8 {β : Type} {inv : Inv} {k : Nat} {x0 x1 x2 x3 x9 x11 x25 : Value} {h : AH} {K : XE → Act → AH → Option β} : kCode env 4 false inv k (cl (cl (cl (cr (cl (cl (cr (cl (cr (cr (cr c4))))))))))) (act 115 [(0, x0), (1, x1), (2, x2), (3, x3), (9, x9), (11, x11), (25, x25)]) h K =
    bnd (pIndexAddr Try.prog 22 x1 x11) fun x30 =>
    bnd (pFieldAddr Try.prog 26 x30 0) fun x31 =>
    bnd (pLoad Try.prog 3 x31 h) fun x32 =>
    bnd (pBin Try.prog Go.BinOp.neq 3 (Go.Operand.tmp 32) (Go.Operand.const (Go.Value.int Go.IntKind.i64 0)) x32 (Go.Value.int Go.IntKind.i64 0)) fun x33 =>
    bnd (gd (some x33) true h (some (x1, h))) fun x35 =>
    bnd (gd (some x33) true x35.2 (some (x11, x35.2))) fun x36 =>
    bnd (gd (some x33) true x36.2 (lt (pIndexAddr Try.prog 22 x35.1 x36.1) x36.2)) fun x37 =>
    bnd (gd (some x33) true x37.2 (lt (pFieldAddr Try.prog 26 x37.1 0) x37.2)) fun x38 =>
    bnd (gd (some x33) true x38.2 (lt (pLoad Try.prog 3 x38.1 x38.2) x38.2)) fun x39 =>
    bnd (gd (some x33) true x39.2 (some (x0, x39.2))) fun x40 =>
    bnd (gd (some x33) true x40.2 (lt (pBin Try.prog Go.BinOp.neq 3 (Go.Operand.tmp 39) (Go.Operand.tmp 40) x39.1 x40.1) x40.2)) fun x41 =>
    bnd (pickV x33 x41.1 (Go.Value.bool false)) fun x42 =>
    K .normal (act 115 [(0, x0), (1, x1), (2, x2), (3, x3), (9, x9), (11, x11), (42, x42)]) x41.2 := (k_reg (by kernel_rfl)).trans (by kernel_rfl)
theorem b4_rllrllrlrrr {β : Type} {inv : Inv} {k : Nat} {x0 x1 x2 x3 x9 x11 x42 : Value} {h : AH} {K : XE → Act → AH → Option β} : kCode env 4 false inv k (cr (cl (cl (cr (cl (cl (cr (cl (cr (cr (cr c4))))))))))) (act 115 [(0, x0), (1, x1), (2, x2), (3, x3), (9, x9), (11, x11), (42, x42)]) h K = brV x42 (kCode env 4 false inv k (cl (cr (cl (cl (cr (cl (cl (cr (cl (cr (cr (cr c4)))))))))))) (act 115 [(0, x0), (1, x1), (2, x2), (3, x3), (9, x9), (11, x11), (42, x42)]) h K) (kCode env 4 false inv k (cr (cr (cl (cl (cr (cl (cl (cr (cl (cr (cr (cr c4)))))))))))) (act 115 [(0, x0), (1, x1), (2, x2), (3, x3), (9, x9), (11, x11), (42, x42)]) h K) := (k_cond (by kernel_rfl)).trans (by kernel_rfl)
theorem r4_9 {β : Type} {inv : Inv} {k : Nat} {x0 x1 x2 x3 x9 x11 x42 : Value} {h : AH} {K : XE → Act → AH → Option β} : kCode env 4 false inv k (cl (cl (cr (cl (cl (cr (cl (cl (cr (cl (cr (cr (cr c4))))))))))))) (act 115 [(0, x0), (1, x1), (2, x2), (3, x3), (9, x9), (11, x11), (42, x42)]) h K =
    K .normal (act 115 [(10, (Go.Value.bool true))]) h := (k_reg (by kernel_rfl)).trans (by kernel_rfl)
theorem r4_7 {β : Type} {inv : Inv} {k : Nat} {x0 x1 x2 x3 x9 x11 x42 : Value} {h : AH} {K : XE → Act → AH → Option β} : kCode env 4 false inv k (cr (cr (cl (cl (cr (cl (cr (cr (cr c4))))))))) (act 115 [(0, x0), (1, x1), (2, x2), (3, x3), (9, x9), (11, x11), (42, x42)]) h K =
    bnd (pBin Try.prog Go.BinOp.add 3 (Go.Operand.tmp 26) (Go.Operand.const (Go.Value.int Go.IntKind.i64 1)) x11 (Go.Value.int Go.IntKind.i64 1)) fun x27 =>
    K .normal (act 115 [(0, x0), (1, x1), (2, x2), (3, x3), (9, x9), (11, x27)]) h := (k_reg (by kernel_rfl)).trans (by kernel_rfl)
noncomputable def F4_lrlrrr {β : Type} (inv : Inv) (k : Nat) : Nat → Value → Value → Value → Value → Value → Value → AH → (Value → Value → Value → Value → Value → Value → Value → AH → Option β) → (Value → AH → Option β) → Option β
  | 0, _, _, _, _, _, _, _, _, _ => none
  | j + 1, x0, x1, x2, x3, x9, x11, h, ke0, kr =>
    bnd (pLen Try.prog #[22] x1 h) fun x24 =>
    bnd (pBin Try.prog Go.BinOp.lss 3 (Go.Operand.tmp 22) (Go.Operand.tmp 24) x11 x24) fun x25 =>
    brV x25
    (bnd (pIndexAddr Try.prog 22 x1 x11) fun x30 =>
    bnd (pFieldAddr Try.prog 26 x30 0) fun x31 =>
    bnd (pLoad Try.prog 3 x31 h) fun x32 =>
    bnd (pBin Try.prog Go.BinOp.neq 3 (Go.Operand.tmp 32) (Go.Operand.const (Go.Value.int Go.IntKind.i64 0)) x32 (Go.Value.int Go.IntKind.i64 0)) fun x33 =>
    bnd (gd (some x33) true h (some (x1, h))) fun x35 =>
    bnd (gd (some x33) true x35.2 (some (x11, x35.2))) fun x36 =>
    bnd (gd (some x33) true x36.2 (lt (pIndexAddr Try.prog 22 x35.1 x36.1) x36.2)) fun x37 =>
    bnd (gd (some x33) true x37.2 (lt (pFieldAddr Try.prog 26 x37.1 0) x37.2)) fun x38 =>
    bnd (gd (some x33) true x38.2 (lt (pLoad Try.prog 3 x38.1 x38.2) x38.2)) fun x39 =>
    bnd (gd (some x33) true x39.2 (some (x0, x39.2))) fun x40 =>
    bnd (gd (some x33) true x40.2 (lt (pBin Try.prog Go.BinOp.neq 3 (Go.Operand.tmp 39) (Go.Operand.tmp 40) x39.1 x40.1) x40.2)) fun x41 =>
    bnd (pickV x33 x41.1 (Go.Value.bool false)) fun x42 =>
    brV x42
    (kr (Go.Value.bool true) x41.2)
    (bnd (pBin Try.prog Go.BinOp.add 3 (Go.Operand.tmp 26) (Go.Operand.const (Go.Value.int Go.IntKind.i64 1)) x11 (Go.Value.int Go.IntKind.i64 1)) fun x27 =>
    F4_lrlrrr inv k j x0 x1 x2 x3 x9 x27 x41.2 ke0 kr))
    (ke0 x0 x1 x2 x3 x9 x11 x25 h)
theorem F4_lrlrrr_j {β : Type} {inv : Inv} {k : Nat} (j : Nat) {x0 x1 x2 x3 x9 x11 : Value} {h : AH} {K : XE → Act → AH → Option β} : kLoop (kCode env 4 false inv k (cl (cl (cr (cl (cr (cr (cr c4)))))))) j (act 115 [(0, x0), (1, x1), (2, x2), (3, x3), (9, x9), (11, x11)]) h K = F4_lrlrrr inv k j x0 x1 x2 x3 x9 x11 h (fun y0 y1 y2 y3 y9 y11 y25 h => K (.exit 0) (act 115 [(0, y0), (1, y1), (2, y2), (3, y3), (9, y9), (11, y11), (25, y25)]) h) (fun y10 h => K .ret (act 115 [(10, y10)]) h) := by
      induction j generalizing x0 x1 x2 x3 x9 x11 h with
      | zero => rfl
      | succ j ih =>
        unfold F4_lrlrrr
        simp only [kLoop, k_seq (E := env) (f := 4) (c := (cl (cl (cr (cl (cr (cr (cr c4)))))))) (by kernel_rfl), k_seq (E := env) (f := 4) (c := (cl (cl (cl (cr (cl (cr (cr (cr c4))))))))) (by kernel_rfl), r4_6, b4_rlllrlrrr, k_skip (E := env) (f := 4) (c := (cl (cr (cl (cl (cl (cr (cl (cr (cr (cr c4))))))))))) (by kernel_rfl), k_seq (E := env) (f := 4) (c := (cr (cl (cl (cr (cl (cr (cr (cr c4))))))))) (by kernel_rfl), k_block (E := env) (f := 4) (c := (cl (cr (cl (cl (cr (cl (cr (cr (cr c4)))))))))) (id := 1) (by kernel_rfl), k_seq (E := env) (f := 4) (c := (cl (cl (cr (cl (cl (cr (cl (cr (cr (cr c4))))))))))) (by kernel_rfl), r4_8, b4_rllrllrlrrr, k_seq (E := env) (f := 4) (c := (cl (cr (cl (cl (cr (cl (cl (cr (cl (cr (cr (cr c4))))))))))))) (by kernel_rfl), r4_9, k_ret (E := env) (f := 4) (c := (cr (cl (cr (cl (cl (cr (cl (cl (cr (cl (cr (cr (cr c4)))))))))))))) (by kernel_rfl), k_skip (E := env) (f := 4) (c := (cr (cr (cl (cl (cr (cl (cl (cr (cl (cr (cr (cr c4))))))))))))) (by kernel_rfl), r4_7, k_exit (E := env) (f := 4) (c := (cr (cr (cl (cl (cl (cr (cl (cr (cr (cr c4))))))))))) (id := 0) (by kernel_rfl), ih, reduceIte, reduceCtorEq, XE.exit.injEq, Nat.reduceEqDiff] <;> kernel_rfl
theorem F4_lrlrrr_eq {β : Type} {inv : Inv} {k : Nat} {x0 x1 x2 x3 x9 x11 : Value} {h : AH} {K : XE → Act → AH → Option β} : kCode env 4 false inv k (cl (cr (cl (cr (cr (cr c4)))))) (act 115 [(0, x0), (1, x1), (2, x2), (3, x3), (9, x9), (11, x11)]) h K = F4_lrlrrr inv k k x0 x1 x2 x3 x9 x11 h (fun y0 y1 y2 y3 y9 y11 y25 h => K (.exit 0) (act 115 [(0, y0), (1, y1), (2, y2), (3, y3), (9, y9), (11, y11), (25, y25)]) h) (fun y10 h => K .ret (act 115 [(10, y10)]) h) := (k_loop (by kernel_rfl)).trans (F4_lrlrrr_j k)
theorem r4_10 {β : Type} {inv : Inv} {k : Nat} {x0 x1 x2 x3 x9 x11 x25 : Value} {h : AH} {K : XE → Act → AH → Option β} : kCode env 4 false inv k (cl (cr (cr (cr (cr c4))))) (act 115 [(0, x0), (1, x1), (2, x2), (3, x3), (9, x9), (11, x11), (25, x25)]) h K =
    bnd (pLen Try.prog #[22] x1 h) fun x45 =>
    bnd (pBin Try.prog Go.BinOp.add 3 (Go.Operand.tmp 45) (Go.Operand.const (Go.Value.int Go.IntKind.i64 1)) x45 (Go.Value.int Go.IntKind.i64 1)) fun x46 =>
    bnd (inv (.func 13) #[] #[x2, x46] h) fun x47 =>
    K .normal (act 115 [(1, x1), (2, x47.1), (3, x3), (9, x9)]) x47.2 := (k_reg (by kernel_rfl)).trans (by kernel_rfl)
theorem r4_11 {β : Type} {inv : Inv} {k : Nat} {x1 x2 x3 x9 : Value} {h : AH} {K : XE → Act → AH → Option β} : kCode env 4 false inv k (cl (cr (cr (cr (cr (cr c4)))))) (act 115 [(1, x1), (2, x2), (3, x3), (9, x9)]) h K =
    bnd (pAlloc Try.prog 28 h) fun x12 =>
    bnd (pAlloc Try.prog 28 x12.2) fun x13 =>
    bnd (pAlloc Try.prog 28 x13.2) fun x14 =>
    bnd (inv (.func 10) #[] #[x1] x14.2) fun x49 =>
    bnd (pSlice Try.prog 22 x1 none (some x2) none x49.2) fun x52 =>
    bnd (inv (.func 10) #[] #[x52] x49.2) fun x53 =>
    bnd (pSlice Try.prog 22 x1 (some x2) none none x53.2) fun x56 =>
    bnd (inv (.func 10) #[] #[x56] x53.2) fun x57 =>
    bnd (kSt (pStore Try.prog 28 x12.1 x49.1 x57.2)) fun u =>
    bnd (kSt (pStore Try.prog 28 x13.1 x53.1 u.2)) fun u_1 =>
    bnd (kSt (pStore Try.prog 28 x14.1 x57.1 u_1.2)) fun u_2 =>
    chkK ((!true || !true || (sameO (pSlice Try.prog 22 x1 none (some x2) none h) x52 && sameO (pSlice Try.prog 22 x1 none (some x2) none x12.2) x52)) && ((!true || !true || (sameO (pSlice Try.prog 22 x1 none (some x2) none x12.2) x52 && sameO (pSlice Try.prog 22 x1 none (some x2) none x13.2) x52)) && ((!true || !true || (sameO (pSlice Try.prog 22 x1 none (some x2) none x13.2) x52 && sameO (pSlice Try.prog 22 x1 none (some x2) none x14.2) x52)) && ((!true || !true || (sameO (pSlice Try.prog 22 x1 none (some x2) none x14.2) x52 && sameO (pSlice Try.prog 22 x1 none (some x2) none x49.2) x52)) && ((!true || !true || (sameO (pSlice Try.prog 22 x1 (some x2) none none h) x56 && sameO (pSlice Try.prog 22 x1 (some x2) none none x12.2) x56)) && ((!true || !true || (sameO (pSlice Try.prog 22 x1 (some x2) none none x12.2) x56 && sameO (pSlice Try.prog 22 x1 (some x2) none none x13.2) x56)) && ((!true || !true || (sameO (pSlice Try.prog 22 x1 (some x2) none none x13.2) x56 && sameO (pSlice Try.prog 22 x1 (some x2) none none x14.2) x56)) && ((!true || !true || (sameO (pSlice Try.prog 22 x1 (some x2) none none x14.2) x56 && sameO (pSlice Try.prog 22 x1 (some x2) none none x49.2) x56)) && ((!true || !true || (sameO (pSlice Try.prog 22 x1 (some x2) none none x49.2) x56 && sameO (pSlice Try.prog 22 x1 (some x2) none none x53.2) x56)) && true))))))))) <|
    K .normal (act 115 [(1, x1), (3, x3), (9, x9), (12, x12.1), (13, x13.1), (14, x14.1)]) u_2.2 := (k_draw (by kernel_rfl)).trans (by kernel_rfl)
theorem r4_12 {β : Type} {inv : Inv} {k : Nat} {x1 x3 x9 x12 x13 x14 : Value} {h : AH} {K : XE → Act → AH → Option β} : kCode env 4 false inv k (cl (cr (cr (cr (cr (cr (cr c4))))))) (act 115 [(1, x1), (3, x3), (9, x9), (12, x12), (13, x13), (14, x14)]) h K =
    bnd (pLoad Try.prog 28 x13 h) fun x58 =>
    bnd (pLoad Try.prog 26 x9 h) fun x60 =>
    bnd (inv (.func 14) #[] #[x58, x3, x60] h) fun x61 =>
    bnd (gd (some x61.1) false x61.2 (lt (pLoad Try.prog 28 x14 x61.2) x61.2)) fun x63 =>
    bnd (gd (some x61.1) false x63.2 (some (x3, x63.2))) fun x64 =>
    bnd (gd (some x61.1) false x64.2 (lt (pLoad Try.prog 26 x9 x64.2) x64.2)) fun x65 =>
    bnd (gd (some x61.1) false x65.2 (inv (.func 14) #[] #[x63.1, x64.1, x65.1] x65.2)) fun x66 =>
    bnd (pickV x61.1 (Go.Value.bool true) x66.1) fun x67 =>
    K .normal (act 115 [(1, x1), (3, x3), (9, x9), (12, x12), (15, x67)]) x66.2 := (k_reg (by kernel_rfl)).trans (by kernel_rfl)
theorem r4_13 {β : Type} {inv : Inv} {k : Nat} {x1 x3 x9 x12 x15 : Value} {h : AH} {K : XE → Act → AH → Option β} : kCode env 4 false inv k (cl (cl (cr (cr (cr (cr (cr (cr (cr c4))))))))) (act 115 [(1, x1), (3, x3), (9, x9), (12, x12), (15, x15)]) h K =
    K .normal (act 115 [(1, x1), (3, x3), (9, x9), (12, x12), (15, x15), (16, (Go.Value.int Go.IntKind.i64 0))]) h := (k_reg (by kernel_rfl)).trans (by kernel_rfl)
theorem r4_14 {β : Type} {inv : Inv} {k : Nat} {x1 x3 x9 x12 x15 x16 : Value} {h : AH} {K : XE → Act → AH → Option β} : kCode env 4 false inv k (cl (cl (cl (cl (cr (cl (cr (cr (cr (cr (cr (cr (cr c4))))))))))))) (act 115 [(1, x1), (3, x3), (9, x9), (12, x12), (15, x15), (16, x16)]) h K =
    bnd (pLen Try.prog #[22] x1 h) fun x70 =>
    bnd (pBin Try.prog Go.BinOp.lss 3 (Go.Operand.tmp 68) (Go.Operand.tmp 70) x16 x70) fun x71 =>
    K .normal (act 115 [(1, x1), (3, x3), (9, x9), (12, x12), (15, x15), (16, x16), (71, x71)]) h := (k_reg (by kernel_rfl)).trans (by kernel_rfl)
theorem b4_rlllrlrrrrrrr {β : Type} {inv : Inv} {k : Nat} {x1 x3 x9 x12 x15 x16 x71 : Value} {h : AH} {K : XE → Act → AH → Option β} : kCode env 4 false inv k (cr (cl (cl (cl (cr (cl (cr (cr (cr (cr (cr (cr (cr c4))))))))))))) (act 115 [(1, x1), (3, x3), (9, x9), (12, x12), (15, x15), (16, x16), (71, x71)]) h K = brV x71 (kCode env 4 false inv k (cl (cr (cl (cl (cl (cr (cl (cr (cr (cr (cr (cr (cr (cr c4)))))))))))))) (act 115 [(1, x1), (3, x3), (9, x9), (12, x12), (15, x15), (16, x16), (71, x71)]) h K) (kCode env 4 false inv k (cr (cr (cl (cl (cl (cr (cl (cr (cr (cr (cr (cr (cr (cr c4)))))))))))))) (act 115 [(1, x1), (3, x3), (9, x9), (12, x12), (15, x15), (16, x16), (71, x71)]) h K) := (k_cond (by kernel_rfl)).trans (by kernel_rfl)
theorem r4_16 {β : Type} {inv : Inv} {k : Nat} {x1 x3 x9 x12 x15 x16 x71 : Value} {h : AH} {K : XE → Act → AH → Option β} : kCode env 4 false inv k (cl (cl (cl (cr (cl (cl (cr (cl (cr (cr (cr (cr (cr (cr (cr c4))))))))))))))) (act 115 [(1, x1), (3, x3), (9, x9), (12, x12), (15, x15), (16, x16), (71, x71)]) h K =
    bnd (pIndexAddr Try.prog 22 x1 x16) fun x76 =>
    bnd (pFieldAddr Try.prog 26 x76 0) fun x77 =>
    bnd (pLoad Try.prog 3 x77 h) fun x78 =>
    bnd (pBin Try.prog Go.BinOp.neq 3 (Go.Operand.tmp 78) (Go.Operand.const (Go.Value.int Go.IntKind.i64 0)) x78 (Go.Value.int Go.IntKind.i64 0)) fun x79 =>
    bnd (gd3 (some x79) true h (lt (pLoad Try.prog 28 x12 h) h)) fun x81 =>
    bnd (gd3 (some x79) true x81.2.1 (some (x1, x81.2.1))) fun x82 =>
    bnd (gd3 (some x79) true x82.2.1 (some (x16, x82.2.1))) fun x83 =>
    bnd (gd3 (some x79) true x83.2.1 (lt (pIndexAddr Try.prog 22 x82.1 x83.1) x83.2.1)) fun x84 =>
    bnd (gd3 (some x79) true x84.2.1 (lt (pLoad Try.prog 26 x84.1 x84.2.1) x84.2.1)) fun x85 =>
    bnd (gd3 (some x79) true x85.2.1 (inv (.func 14) #[] #[x81.1, (Go.Value.int Go.IntKind.i64 1), x85.1] x85.2.1)) fun x86 =>
    bnd (gd3 (some x79) true x86.2.1 (lt (pUn Try.prog Go.UnOp.not x86.1) x86.2.1)) fun x87 =>
    bnd (gd3 (some x79) true x87.2.1 (some (x87.1, x87.2.1))) fun x88 =>
    bnd (gd3 (some x88.1) false x88.2.1 (lt (pLoad Try.prog 28 x12 x88.2.1) x88.2.1)) fun x89 =>
    bnd (gd3 (some x88.1) false x89.2.1 (some (x1, x89.2.1))) fun x90 =>
    bnd (gd3 (some x88.1) false x90.2.1 (some (x16, x90.2.1))) fun x91 =>
    bnd (gd3 (some x88.1) false x91.2.1 (lt (pIndexAddr Try.prog 22 x90.1 x91.1) x91.2.1)) fun x92 =>
    bnd (gd3 (some x88.1) false x92.2.1 (lt (pLoad Try.prog 26 x92.1 x92.2.1) x92.2.1)) fun x93 =>
    bnd (gd3 (some x88.1) false x93.2.1 (inv (.func 14) #[] #[x89.1, (Go.Value.int Go.IntKind.i64 4), x93.1] x93.2.1)) fun x94 =>
    bnd (gd3 (some x88.1) false x94.2.1 (lt (pUn Try.prog Go.UnOp.not x94.1) x94.2.1)) fun x95 =>
    bnd (gd3 (some x79) true x95.2.1 (lt (pickV x88.1 (Go.Value.bool true) x95.1) x95.2.1)) fun x96 =>
    bnd (gd3 (some x79) true x96.2.1 (some (x96.1, x96.2.1))) fun x97 =>
    bnd (gd3 (some x97.1) false x97.2.1 (lt (pLoad Try.prog 28 x12 x97.2.1) x97.2.1)) fun x98 =>
    bnd (gd3 (some x97.1) false x98.2.1 (some (x1, x98.2.1))) fun x99 =>
    bnd (gd3 (some x97.1) false x99.2.1 (some (x16, x99.2.1))) fun x100 =>
    bnd (gd3 (some x97.1) false x100.2.1 (lt (pIndexAddr Try.prog 22 x99.1 x100.1) x100.2.1)) fun x101 =>
    bnd (gd3 (some x97.1) false x101.2.1 (lt (pLoad Try.prog 26 x101.1 x101.2.1) x101.2.1)) fun x102 =>
    bnd (gd3 (some x97.1) false x102.2.1 (inv (.func 14) #[] #[x98.1, (Go.Value.int Go.IntKind.i64 6), x102.1] x102.2.1)) fun x103 =>
    bnd (gd3 (some x97.1) false x103.2.1 (lt (pUn Try.prog Go.UnOp.not x103.1) x103.2.1)) fun x104 =>
    bnd (gd3 (some x79) true x104.2.1 (lt (pickV x97.1 (Go.Value.bool true) x104.1) x104.2.1)) fun x105 =>
    bnd (pickV x79 x105.1 (Go.Value.bool false)) fun x106 =>
    K .normal (act 115 [(1, x1), (3, x3), (9, x9), (12, x12), (15, x15), (16, x16), (106, x106)]) x105.2.1 := (k_draw (by kernel_rfl)).trans (by kernel_rfl)
theorem b4_rllrllrlrrrrrrr {β : Type} {inv : Inv} {k : Nat} {x1 x3 x9 x12 x15 x16 x106 : Value} {h : AH} {K : XE → Act → AH → Option β} : kCode env 4 false inv k (cr (cl (cl (cr (cl (cl (cr (cl (cr (cr (cr (cr (cr (cr (cr c4))))))))))))))) (act 115 [(1, x1), (3, x3), (9, x9), (12, x12), (15, x15), (16, x16), (106, x106)]) h K = brV x106 (kCode env 4 false inv k (cl (cr (cl (cl (cr (cl (cl (cr (cl (cr (cr (cr (cr (cr (cr (cr c4)))))))))))))))) (act 115 [(1, x1), (3, x3), (9, x9), (12, x12), (15, x15), (16, x16), (106, x106)]) h K) (kCode env 4 false inv k (cr (cr (cl (cl (cr (cl (cl (cr (cl (cr (cr (cr (cr (cr (cr (cr c4)))))))))))))))) (act 115 [(1, x1), (3, x3), (9, x9), (12, x12), (15, x15), (16, x16), (106, x106)]) h K) := (k_cond (by kernel_rfl)).trans (by kernel_rfl)
theorem r4_17 {β : Type} {inv : Inv} {k : Nat} {x1 x3 x9 x12 x15 x16 x106 : Value} {h : AH} {K : XE → Act → AH → Option β} : kCode env 4 false inv k (cl (cl (cr (cl (cl (cr (cl (cl (cr (cl (cr (cr (cr (cr (cr (cr (cr c4))))))))))))))))) (act 115 [(1, x1), (3, x3), (9, x9), (12, x12), (15, x15), (16, x16), (106, x106)]) h K =
    K .normal (act 115 [(10, (Go.Value.bool false))]) h := (k_reg (by kernel_rfl)).trans (by kernel_rfl)
theorem r4_15 {β : Type} {inv : Inv} {k : Nat} {x1 x3 x9 x12 x15 x16 x106 : Value} {h : AH} {K : XE → Act → AH → Option β} : kCode env 4 false inv k (cr (cr (cl (cl (cr (cl (cr (cr (cr (cr (cr (cr (cr c4))))))))))))) (act 115 [(1, x1), (3, x3), (9, x9), (12, x12), (15, x15), (16, x16), (106, x106)]) h K =
    bnd (pBin Try.prog Go.BinOp.add 3 (Go.Operand.tmp 72) (Go.Operand.const (Go.Value.int Go.IntKind.i64 1)) x16 (Go.Value.int Go.IntKind.i64 1)) fun x73 =>
    K .normal (act 115 [(1, x1), (3, x3), (9, x9), (12, x12), (15, x15), (16, x73)]) h := (k_reg (by kernel_rfl)).trans (by kernel_rfl)
noncomputable def F4_lrlrrrrrrr {β : Type} (inv : Inv) (k : Nat) : Nat → Value → Value → Value → Value → Value → Value → AH → (Value → Value → Value → Value → Value → Value → Value → AH → Option β) → (Value → AH → Option β) → Option β
  | 0, _, _, _, _, _, _, _, _, _ => none
  | j + 1, x1, x3, x9, x12, x15, x16, h, ke2, kr =>
    bnd (pLen Try.prog #[22] x1 h) fun x70 =>
    bnd (pBin Try.prog Go.BinOp.lss 3 (Go.Operand.tmp 68) (Go.Operand.tmp 70) x16 x70) fun x71 =>
    brV x71
    (bnd (pIndexAddr Try.prog 22 x1 x16) fun x76 =>
    bnd (pFieldAddr Try.prog 26 x76 0) fun x77 =>
    bnd (pLoad Try.prog 3 x77 h) fun x78 =>
    bnd (pBin Try.prog Go.BinOp.neq 3 (Go.Operand.tmp 78) (Go.Operand.const (Go.Value.int Go.IntKind.i64 0)) x78 (Go.Value.int Go.IntKind.i64 0)) fun x79 =>
    bnd (gd3 (some x79) true h (lt (pLoad Try.prog 28 x12 h) h)) fun x81 =>
    bnd (gd3 (some x79) true x81.2.1 (some (x1, x81.2.1))) fun x82 =>
    bnd (gd3 (some x79) true x82.2.1 (some (x16, x82.2.1))) fun x83 =>
    bnd (gd3 (some x79) true x83.2.1 (lt (pIndexAddr Try.prog 22 x82.1 x83.1) x83.2.1)) fun x84 =>
    bnd (gd3 (some x79) true x84.2.1 (lt (pLoad Try.prog 26 x84.1 x84.2.1) x84.2.1)) fun x85 =>
    bnd (gd3 (some x79) true x85.2.1 (inv (.func 14) #[] #[x81.1, (Go.Value.int Go.IntKind.i64 1), x85.1] x85.2.1)) fun x86 =>
    bnd (gd3 (some x79) true x86.2.1 (lt (pUn Try.prog Go.UnOp.not x86.1) x86.2.1)) fun x87 =>
    bnd (gd3 (some x79) true x87.2.1 (some (x87.1, x87.2.1))) fun x88 =>
    bnd (gd3 (some x88.1) false x88.2.1 (lt (pLoad Try.prog 28 x12 x88.2.1) x88.2.1)) fun x89 =>
    bnd (gd3 (some x88.1) false x89.2.1 (some (x1, x89.2.1))) fun x90 =>
    bnd (gd3 (some x88.1) false x90.2.1 (some (x16, x90.2.1))) fun x91 =>
    bnd (gd3 (some x88.1) false x91.2.1 (lt (pIndexAddr Try.prog 22 x90.1 x91.1) x91.2.1)) fun x92 =>
    bnd (gd3 (some x88.1) false x92.2.1 (lt (pLoad Try.prog 26 x92.1 x92.2.1) x92.2.1)) fun x93 =>
    bnd (gd3 (some x88.1) false x93.2.1 (inv (.func 14) #[] #[x89.1, (Go.Value.int Go.IntKind.i64 4), x93.1] x93.2.1)) fun x94 =>
    bnd (gd3 (some x88.1) false x94.2.1 (lt (pUn Try.prog Go.UnOp.not x94.1) x94.2.1)) fun x95 =>
    bnd (gd3 (some x79) true x95.2.1 (lt (pickV x88.1 (Go.Value.bool true) x95.1) x95.2.1)) fun x96 =>
    bnd (gd3 (some x79) true x96.2.1 (some (x96.1, x96.2.1))) fun x97 =>
    bnd (gd3 (some x97.1) false x97.2.1 (lt (pLoad Try.prog 28 x12 x97.2.1) x97.2.1)) fun x98 =>
    bnd (gd3 (some x97.1) false x98.2.1 (some (x1, x98.2.1))) fun x99 =>
    bnd (gd3 (some x97.1) false x99.2.1 (some (x16, x99.2.1))) fun x100 =>
    bnd (gd3 (some x97.1) false x100.2.1 (lt (pIndexAddr Try.prog 22 x99.1 x100.1) x100.2.1)) fun x101 =>
    bnd (gd3 (some x97.1) false x101.2.1 (lt (pLoad Try.prog 26 x101.1 x101.2.1) x101.2.1)) fun x102 =>
    bnd (gd3 (some x97.1) false x102.2.1 (inv (.func 14) #[] #[x98.1, (Go.Value.int Go.IntKind.i64 6), x102.1] x102.2.1)) fun x103 =>
    bnd (gd3 (some x97.1) false x103.2.1 (lt (pUn Try.prog Go.UnOp.not x103.1) x103.2.1)) fun x104 =>
    bnd (gd3 (some x79) true x104.2.1 (lt (pickV x97.1 (Go.Value.bool true) x104.1) x104.2.1)) fun x105 =>
    bnd (pickV x79 x105.1 (Go.Value.bool false)) fun x106 =>
    brV x106
    (kr (Go.Value.bool false) x105.2.1)
    (bnd (pBin Try.prog Go.BinOp.add 3 (Go.Operand.tmp 72) (Go.Operand.const (Go.Value.int Go.IntKind.i64 1)) x16 (Go.Value.int Go.IntKind.i64 1)) fun x73 =>
    F4_lrlrrrrrrr inv k j x1 x3 x9 x12 x15 x73 x105.2.1 ke2 kr))
    (ke2 x1 x3 x9 x12 x15 x16 x71 h)
theorem F4_lrlrrrrrrr_j {β : Type} {inv : Inv} {k : Nat} (j : Nat) {x1 x3 x9 x12 x15 x16 : Value} {h : AH} {K : XE → Act → AH → Option β} : kLoop (kCode env 4 false inv k (cl (cl (cr (cl (cr (cr (cr (cr (cr (cr (cr c4)))))))))))) j (act 115 [(1, x1), (3, x3), (9, x9), (12, x12), (15, x15), (16, x16)]) h K = F4_lrlrrrrrrr inv k j x1 x3 x9 x12 x15 x16 h (fun y1 y3 y9 y12 y15 y16 y71 h => K (.exit 2) (act 115 [(1, y1), (3, y3), (9, y9), (12, y12), (15, y15), (16, y16), (71, y71)]) h) (fun y10 h => K .ret (act 115 [(10, y10)]) h) := by
      induction j generalizing x1 x3 x9 x12 x15 x16 h with
      | zero => rfl
      | succ j ih =>
        unfold F4_lrlrrrrrrr
        simp only [kLoop, k_seq (E := env) (f := 4) (c := (cl (cl (cr (cl (cr (cr (cr (cr (cr (cr (cr c4)))))))))))) (by kernel_rfl), k_seq (E := env) (f := 4) (c := (cl (cl (cl (cr (cl (cr (cr (cr (cr (cr (cr (cr c4))))))))))))) (by kernel_rfl), r4_14, b4_rlllrlrrrrrrr, k_skip (E := env) (f := 4) (c := (cl (cr (cl (cl (cl (cr (cl (cr (cr (cr (cr (cr (cr (cr c4))))))))))))))) (by kernel_rfl), k_seq (E := env) (f := 4) (c := (cr (cl (cl (cr (cl (cr (cr (cr (cr (cr (cr (cr c4))))))))))))) (by kernel_rfl), k_block (E := env) (f := 4) (c := (cl (cr (cl (cl (cr (cl (cr (cr (cr (cr (cr (cr (cr c4)))))))))))))) (id := 3) (by kernel_rfl), k_seq (E := env) (f := 4) (c := (cl (cl (cr (cl (cl (cr (cl (cr (cr (cr (cr (cr (cr (cr c4))))))))))))))) (by kernel_rfl), r4_16, b4_rllrllrlrrrrrrr, k_seq (E := env) (f := 4) (c := (cl (cr (cl (cl (cr (cl (cl (cr (cl (cr (cr (cr (cr (cr (cr (cr c4))))))))))))))))) (by kernel_rfl), r4_17, k_ret (E := env) (f := 4) (c := (cr (cl (cr (cl (cl (cr (cl (cl (cr (cl (cr (cr (cr (cr (cr (cr (cr c4)))))))))))))))))) (by kernel_rfl), k_skip (E := env) (f := 4) (c := (cr (cr (cl (cl (cr (cl (cl (cr (cl (cr (cr (cr (cr (cr (cr (cr c4))))))))))))))))) (by kernel_rfl), r4_15, k_exit (E := env) (f := 4) (c := (cr (cr (cl (cl (cl (cr (cl (cr (cr (cr (cr (cr (cr (cr c4))))))))))))))) (id := 2) (by kernel_rfl), ih, reduceIte, reduceCtorEq, XE.exit.injEq, Nat.reduceEqDiff] <;> kernel_rfl
theorem F4_lrlrrrrrrr_eq {β : Type} {inv : Inv} {k : Nat} {x1 x3 x9 x12 x15 x16 : Value} {h : AH} {K : XE → Act → AH → Option β} : kCode env 4 false inv k (cl (cr (cl (cr (cr (cr (cr (cr (cr (cr c4)))))))))) (act 115 [(1, x1), (3, x3), (9, x9), (12, x12), (15, x15), (16, x16)]) h K = F4_lrlrrrrrrr inv k k x1 x3 x9 x12 x15 x16 h (fun y1 y3 y9 y12 y15 y16 y71 h => K (.exit 2) (act 115 [(1, y1), (3, y3), (9, y9), (12, y12), (15, y15), (16, y16), (71, y71)]) h) (fun y10 h => K .ret (act 115 [(10, y10)]) h) := (k_loop (by kernel_rfl)).trans (F4_lrlrrrrrrr_j k)
theorem r4_18 {β : Type} {inv : Inv} {k : Nat} {x1 x3 x9 x12 x15 x16 x71 : Value} {h : AH} {K : XE → Act → AH → Option β} : kCode env 4 false inv k (cl (cr (cr (cr (cr (cr (cr (cr (cr c4))))))))) (act 115 [(1, x1), (3, x3), (9, x9), (12, x12), (15, x15), (16, x16), (71, x71)]) h K =
    bnd (pUn Try.prog Go.UnOp.not x15) fun x108 =>
    bnd (gd (some x108) false h (lt (pLoad Try.prog 28 x12 h) h)) fun x110 =>
    bnd (gd (some x108) false x110.2 (some (x3, x110.2))) fun x111 =>
    bnd (gd (some x108) false x111.2 (lt (pLoad Try.prog 26 x9 x111.2) x111.2)) fun x112 =>
    bnd (gd (some x108) false x112.2 (inv (.func 14) #[] #[x110.1, x111.1, x112.1] x112.2)) fun x113 =>
    bnd (pickV x108 (Go.Value.bool true) x113.1) fun x114 =>
    K .normal (act 115 [(10, x114)]) x113.2 := (k_reg (by kernel_rfl)).trans (by kernel_rfl)
/-- shadowbook/shadowbooklaw09.ZoneParts -/
noncomputable def F4 (inv : Inv) (k : Nat) (x0 x1 x2 x3 x4 : Value) (h : AH) : Option (Value × AH) :=
    bnd (pBox Try.prog 26 x4 h) fun x9 =>
    bnd (inv (.func 8) #[] #[] x9.2) fun x17 =>
    bnd (pUn Try.prog Go.UnOp.not x17.1) fun x18 =>
    brV x18
    (some ((Go.Value.bool false), x17.2))
    (bnd (inv (.func 9) #[] #[x1] x17.2) fun x20 =>
    bnd (pUn Try.prog Go.UnOp.not x20.1) fun x21 =>
    brV x21
    (some ((Go.Value.bool true), x20.2))
    (F4_lrlrrr inv k k x0 x1 x2 x3 x9.1 (Go.Value.int Go.IntKind.i64 0) x20.2
    (fun y0 y1 y2 y3 y9 y11 y25 h =>
    bnd (pLen Try.prog #[22] y1 h) fun x45 =>
    bnd (pBin Try.prog Go.BinOp.add 3 (Go.Operand.tmp 45) (Go.Operand.const (Go.Value.int Go.IntKind.i64 1)) x45 (Go.Value.int Go.IntKind.i64 1)) fun x46 =>
    bnd (inv (.func 13) #[] #[y2, x46] h) fun x47 =>
    bnd (pAlloc Try.prog 28 x47.2) fun x12 =>
    bnd (pAlloc Try.prog 28 x12.2) fun x13 =>
    bnd (pAlloc Try.prog 28 x13.2) fun x14 =>
    bnd (inv (.func 10) #[] #[y1] x14.2) fun x49 =>
    bnd (pSlice Try.prog 22 y1 none (some x47.1) none x49.2) fun x52 =>
    bnd (inv (.func 10) #[] #[x52] x49.2) fun x53 =>
    bnd (pSlice Try.prog 22 y1 (some x47.1) none none x53.2) fun x56 =>
    bnd (inv (.func 10) #[] #[x56] x53.2) fun x57 =>
    bnd (kSt (pStore Try.prog 28 x12.1 x49.1 x57.2)) fun u =>
    bnd (kSt (pStore Try.prog 28 x13.1 x53.1 u.2)) fun u_3 =>
    bnd (kSt (pStore Try.prog 28 x14.1 x57.1 u_3.2)) fun u_4 =>
    chkK ((!true || !true || (sameO (pSlice Try.prog 22 y1 none (some x47.1) none x47.2) x52 && sameO (pSlice Try.prog 22 y1 none (some x47.1) none x12.2) x52)) && ((!true || !true || (sameO (pSlice Try.prog 22 y1 none (some x47.1) none x12.2) x52 && sameO (pSlice Try.prog 22 y1 none (some x47.1) none x13.2) x52)) && ((!true || !true || (sameO (pSlice Try.prog 22 y1 none (some x47.1) none x13.2) x52 && sameO (pSlice Try.prog 22 y1 none (some x47.1) none x14.2) x52)) && ((!true || !true || (sameO (pSlice Try.prog 22 y1 none (some x47.1) none x14.2) x52 && sameO (pSlice Try.prog 22 y1 none (some x47.1) none x49.2) x52)) && ((!true || !true || (sameO (pSlice Try.prog 22 y1 (some x47.1) none none x47.2) x56 && sameO (pSlice Try.prog 22 y1 (some x47.1) none none x12.2) x56)) && ((!true || !true || (sameO (pSlice Try.prog 22 y1 (some x47.1) none none x12.2) x56 && sameO (pSlice Try.prog 22 y1 (some x47.1) none none x13.2) x56)) && ((!true || !true || (sameO (pSlice Try.prog 22 y1 (some x47.1) none none x13.2) x56 && sameO (pSlice Try.prog 22 y1 (some x47.1) none none x14.2) x56)) && ((!true || !true || (sameO (pSlice Try.prog 22 y1 (some x47.1) none none x14.2) x56 && sameO (pSlice Try.prog 22 y1 (some x47.1) none none x49.2) x56)) && ((!true || !true || (sameO (pSlice Try.prog 22 y1 (some x47.1) none none x49.2) x56 && sameO (pSlice Try.prog 22 y1 (some x47.1) none none x53.2) x56)) && true))))))))) <|
    bnd (pLoad Try.prog 28 x13.1 u_4.2) fun x58 =>
    bnd (pLoad Try.prog 26 y9 u_4.2) fun x60 =>
    bnd (inv (.func 14) #[] #[x58, y3, x60] u_4.2) fun x61 =>
    bnd (gd (some x61.1) false x61.2 (lt (pLoad Try.prog 28 x14.1 x61.2) x61.2)) fun x63 =>
    bnd (gd (some x61.1) false x63.2 (some (y3, x63.2))) fun x64 =>
    bnd (gd (some x61.1) false x64.2 (lt (pLoad Try.prog 26 y9 x64.2) x64.2)) fun x65 =>
    bnd (gd (some x61.1) false x65.2 (inv (.func 14) #[] #[x63.1, x64.1, x65.1] x65.2)) fun x66 =>
    bnd (pickV x61.1 (Go.Value.bool true) x66.1) fun x67 =>
    F4_lrlrrrrrrr inv k k y1 y3 y9 x12.1 x67 (Go.Value.int Go.IntKind.i64 0) x66.2
    (fun y1_5 y3_6 y9_7 y12 y15 y16 y71 h_8 =>
    bnd (pUn Try.prog Go.UnOp.not y15) fun x108 =>
    bnd (gd (some x108) false h_8 (lt (pLoad Try.prog 28 y12 h_8) h_8)) fun x110 =>
    bnd (gd (some x108) false x110.2 (some (y3_6, x110.2))) fun x111 =>
    bnd (gd (some x108) false x111.2 (lt (pLoad Try.prog 26 y9_7 x111.2) x111.2)) fun x112 =>
    bnd (gd (some x108) false x112.2 (inv (.func 14) #[] #[x110.1, x111.1, x112.1] x112.2)) fun x113 =>
    bnd (pickV x108 (Go.Value.bool true) x113.1) fun x114 =>
    some (x114, x113.2))
    (fun y10 h_9 =>
    some (y10, h_9)))
    (fun y10_10 h_11 =>
    some (y10_10, h_11))))
theorem F4_eq {inv : Inv} {k : Nat} {x0 x1 x2 x3 x4 : Value} {h : AH} : eFun env k inv 4 #[x0, x1, x2, x3, x4] h = F4 inv k x0 x1 x2 x3 x4 h := by
      refine (eFun_k2 (by kernel_rfl) (by kernel_rfl) (by kernel_rfl) (a := act 115 [(0, x0), (1, x1), (2, x2), (3, x3), (4, x4)]) (c := c4) (by kernel_rfl) (by kernel_rfl)).trans ?_
      unfold F4
      simp only [k_seq (E := env) (f := 4) (c := c4) (by kernel_rfl), r4_0, k_seq (E := env) (f := 4) (c := (cr c4)) (by kernel_rfl), k_seq (E := env) (f := 4) (c := (cl (cr c4))) (by kernel_rfl), r4_1, b4_rlr, k_seq (E := env) (f := 4) (c := (cl (cr (cl (cr c4))))) (by kernel_rfl), r4_2, k_ret (E := env) (f := 4) (c := (cr (cl (cr (cl (cr c4)))))) (by kernel_rfl), res4_0, k_skip (E := env) (f := 4) (c := (cr (cr (cl (cr c4))))) (by kernel_rfl), k_seq (E := env) (f := 4) (c := (cr (cr c4))) (by kernel_rfl), k_seq (E := env) (f := 4) (c := (cl (cr (cr c4)))) (by kernel_rfl), r4_3, b4_rlrr, k_seq (E := env) (f := 4) (c := (cl (cr (cl (cr (cr c4)))))) (by kernel_rfl), r4_4, k_ret (E := env) (f := 4) (c := (cr (cl (cr (cl (cr (cr c4))))))) (by kernel_rfl), k_skip (E := env) (f := 4) (c := (cr (cr (cl (cr (cr c4)))))) (by kernel_rfl), k_seq (E := env) (f := 4) (c := (cr (cr (cr c4)))) (by kernel_rfl), k_seq (E := env) (f := 4) (c := (cl (cr (cr (cr c4))))) (by kernel_rfl), r4_5, k_block (E := env) (f := 4) (c := (cr (cl (cr (cr (cr c4)))))) (id := 0) (by kernel_rfl), F4_lrlrrr_eq, k_seq (E := env) (f := 4) (c := (cr (cr (cr (cr c4))))) (by kernel_rfl), r4_10, k_seq (E := env) (f := 4) (c := (cr (cr (cr (cr (cr c4)))))) (by kernel_rfl), r4_11, k_seq (E := env) (f := 4) (c := (cr (cr (cr (cr (cr (cr c4))))))) (by kernel_rfl), r4_12, k_seq (E := env) (f := 4) (c := (cr (cr (cr (cr (cr (cr (cr c4)))))))) (by kernel_rfl), k_seq (E := env) (f := 4) (c := (cl (cr (cr (cr (cr (cr (cr (cr c4))))))))) (by kernel_rfl), r4_13, k_block (E := env) (f := 4) (c := (cr (cl (cr (cr (cr (cr (cr (cr (cr c4)))))))))) (id := 2) (by kernel_rfl), F4_lrlrrrrrrr_eq, k_seq (E := env) (f := 4) (c := (cr (cr (cr (cr (cr (cr (cr (cr c4))))))))) (by kernel_rfl), r4_18, k_ret (E := env) (f := 4) (c := (cr (cr (cr (cr (cr (cr (cr (cr (cr c4)))))))))) (by kernel_rfl), reduceIte, reduceCtorEq, XE.exit.injEq, Nat.reduceEqDiff] <;> kernel_rfl
theorem F4_call {k : Nat} {x0 x1 x2 x3 x4 : Value} {h : AH} : eInv env (k + 1) (.func 4) #[] #[x0, x1, x2, x3, x4] h = F4 (eInv env k) k x0 x1 x2 x3 x4 h := (inv_func (by kernel_rfl)).trans F4_eq
noncomputable def c5 : Code := codeOf Try.prog 5
theorem r5_0 {β : Type} {inv : Inv} {k : Nat} {x0 x1 x2 : Value} {h : AH} {K : XE → Act → AH → Option β} : kCode env 5 false inv k (cl c5) (act 117 [(0, x0), (1, x1), (2, x2)]) h K =
    bnd (pBox Try.prog 26 x0 h) fun x3 =>
    bnd (pBox Try.prog 26 x1 x3.2) fun x4 =>
    bnd (pBox Try.prog 26 x2 x4.2) fun x5 =>
    K .normal (act 117 [(3, x3.1), (4, x4.1), (5, x5.1)]) x5.2 := (k_reg (by kernel_rfl)).trans (by kernel_rfl)
theorem r5_1 {β : Type} {inv : Inv} {k : Nat} {x3 x4 x5 : Value} {h : AH} {K : XE → Act → AH → Option β} : kCode env 5 false inv k (cl (cl (cr c5))) (act 117 [(3, x3), (4, x4), (5, x5)]) h K =
    bnd (inv (.func 8) #[] #[] h) fun x13 =>
    bnd (pUn Try.prog Go.UnOp.not x13.1) fun x14 =>
    K .normal (act 117 [(3, x3), (4, x4), (5, x5), (14, x14)]) x13.2 := (k_reg (by kernel_rfl)).trans (by kernel_rfl)
theorem b5_rlr {β : Type} {inv : Inv} {k : Nat} {x3 x4 x5 x14 : Value} {h : AH} {K : XE → Act → AH → Option β} : kCode env 5 false inv k (cr (cl (cr c5))) (act 117 [(3, x3), (4, x4), (5, x5), (14, x14)]) h K = brV x14 (kCode env 5 false inv k (cl (cr (cl (cr c5)))) (act 117 [(3, x3), (4, x4), (5, x5), (14, x14)]) h K) (kCode env 5 false inv k (cr (cr (cl (cr c5)))) (act 117 [(3, x3), (4, x4), (5, x5), (14, x14)]) h K) := (k_cond (by kernel_rfl)).trans (by kernel_rfl)
theorem r5_2 {β : Type} {inv : Inv} {k : Nat} {x3 x4 x5 x14 : Value} {h : AH} {K : XE → Act → AH → Option β} : kCode env 5 false inv k (cl (cl (cr (cl (cr c5))))) (act 117 [(3, x3), (4, x4), (5, x5), (14, x14)]) h K =
    K .normal (act 117 [(6, (Go.Value.bool false))]) h := (k_reg (by kernel_rfl)).trans (by kernel_rfl)
theorem res5_0 {x6 : Value} {h : AH} : resOfFn env.P 5 .ret (act 117 [(6, x6)]) h = some (x6, h) := (resOfFn_k (by kernel_rfl) (by kernel_rfl)).trans (by kernel_rfl)
theorem r5_3 {β : Type} {inv : Inv} {k : Nat} {x3 x4 x5 x14 : Value} {h : AH} {K : XE → Act → AH → Option β} : kCode env 5 false inv k (cl (cr (cr c5))) (act 117 [(3, x3), (4, x4), (5, x5), (14, x14)]) h K =
    bnd (pLoad Try.prog 26 x3 h) fun x15 =>
    bnd (pLoad Try.prog 26 x4 h) fun x16 =>
    bnd (inv (.func 15) #[] #[x15, x16] h) fun x17 =>
    bnd (pLoad Try.prog 26 x4 x17.2) fun x18 =>
    bnd (pLoad Try.prog 26 x5 x17.2) fun x19 =>
    bnd (inv (.func 15) #[] #[x18, x19] x17.2) fun x20 =>
    bnd (pLoad Try.prog 26 x3 x20.2) fun x21 =>
    bnd (pLoad Try.prog 26 x5 x20.2) fun x22 =>
    bnd (inv (.func 15) #[] #[x21, x22] x20.2) fun x23 =>
    chkK ((!true || !true || (sameO (pLoad Try.prog 26 x4 h) x18 && sameO (pLoad Try.prog 26 x4 x17.2) x18)) && ((!true || !true || (sameO (pLoad Try.prog 26 x5 h) x19 && sameO (pLoad Try.prog 26 x5 x17.2) x19)) && ((!true || !true || (sameO (pLoad Try.prog 26 x3 h) x21 && sameO (pLoad Try.prog 26 x3 x17.2) x21)) && ((!true || !true || (sameO (pLoad Try.prog 26 x3 x17.2) x21 && sameO (pLoad Try.prog 26 x3 x20.2) x21)) && ((!true || !true || (sameO (pLoad Try.prog 26 x5 h) x22 && sameO (pLoad Try.prog 26 x5 x17.2) x22)) && ((!true || !true || (sameO (pLoad Try.prog 26 x5 x17.2) x22 && sameO (pLoad Try.prog 26 x5 x20.2) x22)) && true)))))) <|
    K .normal (act 117 [(3, x3), (4, x4), (7, x17.1), (8, x20.1), (9, x23.1)]) x23.2 := (k_draw (by kernel_rfl)).trans (by kernel_rfl)
theorem r5_4 {β : Type} {inv : Inv} {k : Nat} {x3 x4 x7 x8 x9 : Value} {h : AH} {K : XE → Act → AH → Option β} : kCode env 5 false inv k (cl (cr (cr (cr c5)))) (act 117 [(3, x3), (4, x4), (7, x7), (8, x8), (9, x9)]) h K =
    K .normal (act 117 [(3, x3), (4, x4), (7, x7), (8, x8), (9, x9), (10, (Go.Value.int Go.IntKind.i64 0))]) h := (k_reg (by kernel_rfl)).trans (by kernel_rfl)
theorem r5_5 {β : Type} {inv : Inv} {k : Nat} {x3 x4 x7 x8 x9 x10 : Value} {h : AH} {K : XE → Act → AH → Option β} : kCode env 5 false inv k (cl (cl (cr (cr (cr (cr c5)))))) (act 117 [(3, x3), (4, x4), (7, x7), (8, x8), (9, x9), (10, x10)]) h K =
    K .normal (act 117 [(3, x3), (4, x4), (7, x7), (8, x8), (9, x9), (10, x10), (11, (Go.Value.int Go.IntKind.i64 1))]) h := (k_reg (by kernel_rfl)).trans (by kernel_rfl)
theorem r5_6 {β : Type} {inv : Inv} {k : Nat} {x3 x4 x7 x8 x9 x10 x11 : Value} {h : AH} {K : XE → Act → AH → Option β} : kCode env 5 false inv k (cl (cl (cl (cl (cr (cl (cr (cr (cr (cr c5)))))))))) (act 117 [(3, x3), (4, x4), (7, x7), (8, x8), (9, x9), (10, x10), (11, x11)]) h K =
    bnd (pBin Try.prog Go.BinOp.leq 3 (Go.Operand.tmp 24) (Go.Operand.const (Go.Value.int Go.IntKind.i64 6)) x11 (Go.Value.int Go.IntKind.i64 6)) fun x25 =>
    K .normal (act 117 [(3, x3), (4, x4), (7, x7), (8, x8), (9, x9), (10, x10), (11, x11), (25, x25)]) h := (k_reg (by kernel_rfl)).trans (by kernel_rfl)
theorem b5_rlllrlrrrr {β : Type} {inv : Inv} {k : Nat} {x3 x4 x7 x8 x9 x10 x11 x25 : Value} {h : AH} {K : XE → Act → AH → Option β} : kCode env 5 false inv k (cr (cl (cl (cl (cr (cl (cr (cr (cr (cr c5)))))))))) (act 117 [(3, x3), (4, x4), (7, x7), (8, x8), (9, x9), (10, x10), (11, x11), (25, x25)]) h K = brV x25 (kCode env 5 false inv k (cl (cr (cl (cl (cl (cr (cl (cr (cr (cr (cr c5))))))))))) (act 117 [(3, x3), (4, x4), (7, x7), (8, x8), (9, x9), (10, x10), (11, x11), (25, x25)]) h K) (kCode env 5 false inv k (cr (cr (cl (cl (cl (cr (cl (cr (cr (cr (cr c5))))))))))) (act 117 [(3, x3), (4, x4), (7, x7), (8, x8), (9, x9), (10, x10), (11, x11), (25, x25)]) h K) := (k_cond (by kernel_rfl)).trans (by kernel_rfl)
theorem r5_8 {β : Type} {inv : Inv} {k : Nat} {x3 x4 x7 x8 x9 x10 x11 x25 : Value} {h : AH} {K : XE → Act → AH → Option β} : kCode env 5 false inv k (cl (cl (cl (cr (cl (cl (cr (cl (cr (cr (cr (cr c5)))))))))))) (act 117 [(3, x3), (4, x4), (7, x7), (8, x8), (9, x9), (10, x10), (11, x11), (25, x25)]) h K =
    bnd (pLoad Try.prog 26 x3 h) fun x29 =>
    bnd (pLoad Try.prog 26 x4 h) fun x30 =>
    bnd (inv (.func 16) #[] #[x11, x29, x30] h) fun x31 =>
    K .normal (act 117 [(3, x3), (4, x4), (7, x7), (8, x8), (9, x9), (10, x10), (11, x11), (31, x31.1)]) x31.2 := (k_reg (by kernel_rfl)).trans (by kernel_rfl)
theorem b5_rllrllrlrrrr {β : Type} {inv : Inv} {k : Nat} {x3 x4 x7 x8 x9 x10 x11 x31 : Value} {h : AH} {K : XE → Act → AH → Option β} : kCode env 5 false inv k (cr (cl (cl (cr (cl (cl (cr (cl (cr (cr (cr (cr c5)))))))))))) (act 117 [(3, x3), (4, x4), (7, x7), (8, x8), (9, x9), (10, x10), (11, x11), (31, x31)]) h K = brV x31 (kCode env 5 false inv k (cl (cr (cl (cl (cr (cl (cl (cr (cl (cr (cr (cr (cr c5))))))))))))) (act 117 [(3, x3), (4, x4), (7, x7), (8, x8), (9, x9), (10, x10), (11, x11), (31, x31)]) h K) (kCode env 5 false inv k (cr (cr (cl (cl (cr (cl (cl (cr (cl (cr (cr (cr (cr c5))))))))))))) (act 117 [(3, x3), (4, x4), (7, x7), (8, x8), (9, x9), (10, x10), (11, x11), (31, x31)]) h K) := (k_cond (by kernel_rfl)).trans (by kernel_rfl)
theorem r5_9 {β : Type} {inv : Inv} {k : Nat} {x3 x4 x7 x8 x9 x10 x11 x31 : Value} {h : AH} {K : XE → Act → AH → Option β} : kCode env 5 false inv k (cl (cr (cl (cl (cr (cl (cl (cr (cl (cr (cr (cr (cr c5))))))))))))) (act 117 [(3, x3), (4, x4), (7, x7), (8, x8), (9, x9), (10, x10), (11, x11), (31, x31)]) h K =
    bnd (pBin Try.prog Go.BinOp.add 3 (Go.Operand.tmp 32) (Go.Operand.const (Go.Value.int Go.IntKind.i64 1)) x10 (Go.Value.int Go.IntKind.i64 1)) fun x33 =>
    K .normal (act 117 [(3, x3), (4, x4), (7, x7), (8, x8), (9, x9), (10, x33), (11, x11)]) h := (k_reg (by kernel_rfl)).trans (by kernel_rfl)
noncomputable def F5_lrllrlrrrr {β : Type} (inv : Inv) (k : Nat) (x3 x4 x7 x8 x9 x10 x11 x25 : Value) (h : AH) (kn : (Value → Value → Value → Value → Value → Value → Value → Value → AH → Option β)) : Option β :=
    bnd (pLoad Try.prog 26 x3 h) fun x29 =>
    bnd (pLoad Try.prog 26 x4 h) fun x30 =>
    bnd (inv (.func 16) #[] #[x11, x29, x30] h) fun x31 =>
    brV x31.1
    (bnd (pBin Try.prog Go.BinOp.add 3 (Go.Operand.tmp 32) (Go.Operand.const (Go.Value.int Go.IntKind.i64 1)) x10 (Go.Value.int Go.IntKind.i64 1)) fun x33 =>
    kn x3 x4 x7 x8 x9 x33 x11 unk x31.2)
    (kn x3 x4 x7 x8 x9 x10 x11 x31.1 x31.2)
theorem F5_lrllrlrrrr_eq {β : Type} {inv : Inv} {k : Nat} {x3 x4 x7 x8 x9 x10 x11 x25 : Value} {h : AH} {K : XE → Act → AH → Option β} : kCode env 5 false inv k (cl (cr (cl (cl (cr (cl (cr (cr (cr (cr c5)))))))))) (act 117 [(3, x3), (4, x4), (7, x7), (8, x8), (9, x9), (10, x10), (11, x11), (25, x25)]) h K = F5_lrllrlrrrr inv k x3 x4 x7 x8 x9 x10 x11 x25 h (fun y3 y4 y7 y8 y9 y10 y11 y31 h => K .normal (act 117 [(3, y3), (4, y4), (7, y7), (8, y8), (9, y9), (10, y10), (11, y11), (31, y31)]) h) := by
      unfold F5_lrllrlrrrr
      simp only [k_block (E := env) (f := 5) (c := (cl (cr (cl (cl (cr (cl (cr (cr (cr (cr c5))))))))))) (id := 1) (by kernel_rfl), k_seq (E := env) (f := 5) (c := (cl (cl (cr (cl (cl (cr (cl (cr (cr (cr (cr c5)))))))))))) (by kernel_rfl), r5_8, b5_rllrllrlrrrr, r5_9, k_skip (E := env) (f := 5) (c := (cr (cr (cl (cl (cr (cl (cl (cr (cl (cr (cr (cr (cr c5)))))))))))))) (by kernel_rfl), reduceIte, reduceCtorEq, XE.exit.injEq, Nat.reduceEqDiff] <;> kernel_rfl
theorem r5_7 {β : Type} {inv : Inv} {k : Nat} {x3 x4 x7 x8 x9 x10 x11 x31 : Value} {h : AH} {K : XE → Act → AH → Option β} : kCode env 5 false inv k (cr (cr (cl (cl (cr (cl (cr (cr (cr (cr c5)))))))))) (act 117 [(3, x3), (4, x4), (7, x7), (8, x8), (9, x9), (10, x10), (11, x11), (31, x31)]) h K =
    bnd (pBin Try.prog Go.BinOp.add 3 (Go.Operand.tmp 26) (Go.Operand.const (Go.Value.int Go.IntKind.i64 1)) x11 (Go.Value.int Go.IntKind.i64 1)) fun x27 =>
    K .normal (act 117 [(3, x3), (4, x4), (7, x7), (8, x8), (9, x9), (10, x10), (11, x27)]) h := (k_reg (by kernel_rfl)).trans (by kernel_rfl)
noncomputable def F5_lrlrrrr {β : Type} (inv : Inv) (k : Nat) : Nat → Value → Value → Value → Value → Value → Value → Value → AH → (Value → Value → Value → Value → Value → Value → Value → Value → AH → Option β) → Option β
  | 0, _, _, _, _, _, _, _, _, _ => none
  | j + 1, x3, x4, x7, x8, x9, x10, x11, h, ke0 =>
    bnd (pBin Try.prog Go.BinOp.leq 3 (Go.Operand.tmp 24) (Go.Operand.const (Go.Value.int Go.IntKind.i64 6)) x11 (Go.Value.int Go.IntKind.i64 6)) fun x25 =>
    brV x25
    (F5_lrllrlrrrr inv k x3 x4 x7 x8 x9 x10 x11 x25 h
    (fun y3 y4 y7 y8 y9 y10 y11 y31 h =>
    bnd (pBin Try.prog Go.BinOp.add 3 (Go.Operand.tmp 26) (Go.Operand.const (Go.Value.int Go.IntKind.i64 1)) y11 (Go.Value.int Go.IntKind.i64 1)) fun x27 =>
    F5_lrlrrrr inv k j y3 y4 y7 y8 y9 y10 x27 h ke0))
    (ke0 x3 x4 x7 x8 x9 x10 x11 x25 h)
theorem F5_lrlrrrr_j {β : Type} {inv : Inv} {k : Nat} (j : Nat) {x3 x4 x7 x8 x9 x10 x11 : Value} {h : AH} {K : XE → Act → AH → Option β} : kLoop (kCode env 5 false inv k (cl (cl (cr (cl (cr (cr (cr (cr c5))))))))) j (act 117 [(3, x3), (4, x4), (7, x7), (8, x8), (9, x9), (10, x10), (11, x11)]) h K = F5_lrlrrrr inv k j x3 x4 x7 x8 x9 x10 x11 h (fun y3 y4 y7 y8 y9 y10 y11 y25 h => K (.exit 0) (act 117 [(3, y3), (4, y4), (7, y7), (8, y8), (9, y9), (10, y10), (11, y11), (25, y25)]) h) := by
      induction j generalizing x3 x4 x7 x8 x9 x10 x11 h with
      | zero => rfl
      | succ j ih =>
        unfold F5_lrlrrrr
        simp only [kLoop, k_seq (E := env) (f := 5) (c := (cl (cl (cr (cl (cr (cr (cr (cr c5))))))))) (by kernel_rfl), k_seq (E := env) (f := 5) (c := (cl (cl (cl (cr (cl (cr (cr (cr (cr c5)))))))))) (by kernel_rfl), r5_6, b5_rlllrlrrrr, k_skip (E := env) (f := 5) (c := (cl (cr (cl (cl (cl (cr (cl (cr (cr (cr (cr c5)))))))))))) (by kernel_rfl), k_seq (E := env) (f := 5) (c := (cr (cl (cl (cr (cl (cr (cr (cr (cr c5)))))))))) (by kernel_rfl), F5_lrllrlrrrr_eq, r5_7, k_exit (E := env) (f := 5) (c := (cr (cr (cl (cl (cl (cr (cl (cr (cr (cr (cr c5)))))))))))) (id := 0) (by kernel_rfl), ih, reduceIte, reduceCtorEq, XE.exit.injEq, Nat.reduceEqDiff] <;> kernel_rfl
theorem F5_lrlrrrr_eq {β : Type} {inv : Inv} {k : Nat} {x3 x4 x7 x8 x9 x10 x11 : Value} {h : AH} {K : XE → Act → AH → Option β} : kCode env 5 false inv k (cl (cr (cl (cr (cr (cr (cr c5))))))) (act 117 [(3, x3), (4, x4), (7, x7), (8, x8), (9, x9), (10, x10), (11, x11)]) h K = F5_lrlrrrr inv k k x3 x4 x7 x8 x9 x10 x11 h (fun y3 y4 y7 y8 y9 y10 y11 y25 h => K (.exit 0) (act 117 [(3, y3), (4, y4), (7, y7), (8, y8), (9, y9), (10, y10), (11, y11), (25, y25)]) h) := (k_loop (by kernel_rfl)).trans (F5_lrlrrrr_j k)
theorem r5_10 {β : Type} {inv : Inv} {k : Nat} {x3 x4 x7 x8 x9 x10 x11 x25 : Value} {h : AH} {K : XE → Act → AH → Option β} : kCode env 5 false inv k (cl (cr (cr (cr (cr (cr c5)))))) (act 117 [(3, x3), (4, x4), (7, x7), (8, x8), (9, x9), (10, x10), (11, x11), (25, x25)]) h K =
    bnd (pFieldAddr Try.prog 26 x3 0) fun x34 =>
    bnd (pLoad Try.prog 3 x34 h) fun x35 =>
    bnd (pFieldAddr Try.prog 26 x4 0) fun x36 =>
    bnd (pLoad Try.prog 3 x36 h) fun x37 =>
    bnd (pBin Try.prog Go.BinOp.eql 3 (Go.Operand.tmp 35) (Go.Operand.tmp 37) x35 x37) fun x38 =>
    bnd (gd (some x38) true h (lt (pFieldAddr Try.prog 26 x3 0) h)) fun x40 =>
    bnd (gd (some x38) true x40.2 (lt (pLoad Try.prog 3 x40.1 x40.2) x40.2)) fun x41 =>
    bnd (gd (some x38) true x41.2 (lt (pBin Try.prog Go.BinOp.neq 3 (Go.Operand.tmp 41) (Go.Operand.const (Go.Value.int Go.IntKind.i64 0)) x41.1 (Go.Value.int Go.IntKind.i64 0)) x41.2)) fun x42 =>
    bnd (pickV x38 x42.1 (Go.Value.bool false)) fun x43 =>
    K .normal (act 117 [(3, x3), (4, x4), (7, x7), (8, x8), (9, x9), (10, x10), (12, x43)]) x42.2 := (k_reg (by kernel_rfl)).trans (by kernel_rfl)
theorem r5_11 {β : Type} {inv : Inv} {k : Nat} {x3 x4 x7 x8 x9 x10 x12 : Value} {h : AH} {K : XE → Act → AH → Option β} : kCode env 5 false inv k (cl (cr (cr (cr (cr (cr (cr c5))))))) (act 117 [(3, x3), (4, x4), (7, x7), (8, x8), (9, x9), (10, x10), (12, x12)]) h K =
    bnd (pLoad Try.prog 26 x4 h) fun x45 =>
    bnd (pLoad Try.prog 26 x3 h) fun x46 =>
    bnd (inv (.func 15) #[] #[x45, x46] h) fun x47 =>
    bnd (pUn Try.prog Go.UnOp.neg x47.1) fun x48 =>
    bnd (pBin Try.prog Go.BinOp.eql 3 (Go.Operand.tmp 44) (Go.Operand.tmp 48) x7 x48) fun x49 =>
    bnd (gd3 (some x49) true x47.2 (some (x7, x47.2))) fun x51 =>
    bnd (gd3 (some x49) true x51.2.1 (lt (pBin Try.prog Go.BinOp.eql 3 (Go.Operand.tmp 51) (Go.Operand.const (Go.Value.int Go.IntKind.i64 0)) x51.1 (Go.Value.int Go.IntKind.i64 0)) x51.2.1)) fun x52 =>
    bnd (gd3 (some x49) true x52.2.1 (lt (pLoad Try.prog 26 x3 x52.2.1) x52.2.1)) fun x53 =>
    bnd (gd3 (some x49) true x53.2.1 (lt (pLoad Try.prog 26 x4 x53.2.1) x53.2.1)) fun x54 =>
    bnd (gd3 (some x49) true x54.2.1 (lt (pBin Try.prog Go.BinOp.eql 26 (Go.Operand.tmp 53) (Go.Operand.tmp 54) x53.1 x54.1) x54.2.1)) fun x55 =>
    bnd (gd3 (some x49) true x55.2.1 (lt (pBin Try.prog Go.BinOp.eql 4 (Go.Operand.tmp 52) (Go.Operand.tmp 55) x52.1 x55.1) x55.2.1)) fun x56 =>
    bnd (pickV x49 x56.1 (Go.Value.bool false)) fun x57 =>
    bnd (gd3 (some x57) true x56.2.1 (some (x7, x56.2.1))) fun x59 =>
    bnd (gd3 (some x57) true x59.2.1 (lt (pBin Try.prog Go.BinOp.gtr 3 (Go.Operand.tmp 59) (Go.Operand.const (Go.Value.int Go.IntKind.i64 0)) x59.1 (Go.Value.int Go.IntKind.i64 0)) x59.2.1)) fun x60 =>
    bnd (gd3 (some x57) true x60.2.1 (some (x60.1, x60.2.1))) fun x61 =>
    bnd (gd3 (some x61.1) false x61.2.1 (some (x8, x61.2.1))) fun x62 =>
    bnd (gd3 (some x61.1) false x62.2.1 (lt (pBin Try.prog Go.BinOp.gtr 3 (Go.Operand.tmp 62) (Go.Operand.const (Go.Value.int Go.IntKind.i64 0)) x62.1 (Go.Value.int Go.IntKind.i64 0)) x62.2.1)) fun x63 =>
    bnd (gd3 (some x57) true x63.2.1 (lt (pickV x61.1 (Go.Value.bool true) x63.1) x63.2.1)) fun x64 =>
    bnd (gd3 (some x57) true x64.2.1 (some (x64.1, x64.2.1))) fun x65 =>
    bnd (gd3 (some x65.1) false x65.2.1 (some (x9, x65.2.1))) fun x66 =>
    bnd (gd3 (some x65.1) false x66.2.1 (lt (pBin Try.prog Go.BinOp.leq 3 (Go.Operand.tmp 66) (Go.Operand.const (Go.Value.int Go.IntKind.i64 0)) x66.1 (Go.Value.int Go.IntKind.i64 0)) x66.2.1)) fun x67 =>
    bnd (gd3 (some x57) true x67.2.1 (lt (pickV x65.1 (Go.Value.bool true) x67.1) x67.2.1)) fun x68 =>
    bnd (pickV x57 x68.1 (Go.Value.bool false)) fun x69 =>
    bnd (gd3 (some x69) true x68.2.1 (some (x7, x68.2.1))) fun x71 =>
    bnd (gd3 (some x69) true x71.2.1 (lt (pBin Try.prog Go.BinOp.neq 3 (Go.Operand.tmp 71) (Go.Operand.const (Go.Value.int Go.IntKind.i64 0)) x71.1 (Go.Value.int Go.IntKind.i64 0)) x71.2.1)) fun x72 =>
    bnd (gd3 (some x69) true x72.2.1 (some (x72.1, x72.2.1))) fun x73 =>
    bnd (gd3 (some x73.1) false x73.2.1 (some (x9, x73.2.1))) fun x74 =>
    bnd (gd3 (some x73.1) false x74.2.1 (some (x8, x74.2.1))) fun x75 =>
    bnd (gd3 (some x73.1) false x75.2.1 (lt (pBin Try.prog Go.BinOp.eql 3 (Go.Operand.tmp 74) (Go.Operand.tmp 75) x74.1 x75.1) x75.2.1)) fun x76 =>
    bnd (gd3 (some x69) true x76.2.1 (lt (pickV x73.1 (Go.Value.bool true) x76.1) x76.2.1)) fun x77 =>
    bnd (pickV x69 x77.1 (Go.Value.bool false)) fun x78 =>
    bnd (gd3 (some x78) true x77.2.1 (some (x12, x77.2.1))) fun x80 =>
    bnd (gd3 (some x78) true x80.2.1 (some (x80.1, x80.2.1))) fun x81 =>
    bnd (gd3 (some x81.1) true x81.2.1 (some (x10, x81.2.1))) fun x82 =>
    bnd (gd3 (some x81.1) true x82.2.1 (lt (pBin Try.prog Go.BinOp.eql 3 (Go.Operand.tmp 82) (Go.Operand.const (Go.Value.int Go.IntKind.i64 3)) x82.1 (Go.Value.int Go.IntKind.i64 3)) x82.2.1)) fun x83 =>
    bnd (gd3 (some x78) true x83.2.1 (lt (pickV x81.1 x83.1 (Go.Value.bool false)) x83.2.1)) fun x84 =>
    bnd (gd3 (some x78) true x84.2.1 (some (x84.1, x84.2.1))) fun x85 =>
    bnd (gd3 (some x85.1) false x85.2.1 (some (x12, x85.2.1))) fun x86 =>
    bnd (gd3 (some x85.1) false x86.2.1 (lt (pUn Try.prog Go.UnOp.not x86.1) x86.2.1)) fun x87 =>
    bnd (gd3 (some x85.1) false x87.2.1 (some (x87.1, x87.2.1))) fun x88 =>
    bnd (gd3 (some x88.1) true x88.2.1 (some (x10, x88.2.1))) fun x89 =>
    bnd (gd3 (some x88.1) true x89.2.1 (lt (pBin Try.prog Go.BinOp.eql 3 (Go.Operand.tmp 89) (Go.Operand.const (Go.Value.int Go.IntKind.i64 0)) x89.1 (Go.Value.int Go.IntKind.i64 0)) x89.2.1)) fun x90 =>
    bnd (gd3 (some x85.1) false x90.2.1 (lt (pickV x88.1 x90.1 (Go.Value.bool false)) x90.2.1)) fun x91 =>
    bnd (gd3 (some x78) true x91.2.1 (lt (pickV x85.1 (Go.Value.bool true) x91.1) x91.2.1)) fun x92 =>
    bnd (pickV x78 x92.1 (Go.Value.bool false)) fun x93 =>
    bnd (gd3 (some x93) true x92.2.1 (lt (pLoad Try.prog 26 x3 x92.2.1) x92.2.1)) fun x95 =>
    bnd (gd3 (some x93) true x95.2.1 (lt (pLoad Try.prog 26 x4 x95.2.1) x95.2.1)) fun x96 =>
    bnd (gd3 (some x93) true x96.2.1 (inv (.func 16) #[] #[(Go.Value.int Go.IntKind.i64 4), x95.1, x96.1] x96.2.1)) fun x97 =>
    bnd (gd3 (some x93) true x97.2.1 (lt (pLoad Try.prog 26 x3 x97.2.1) x97.2.1)) fun x98 =>
    bnd (gd3 (some x93) true x98.2.1 (lt (pLoad Try.prog 26 x4 x98.2.1) x98.2.1)) fun x99 =>
    bnd (gd3 (some x93) true x99.2.1 (inv (.func 16) #[] #[(Go.Value.int Go.IntKind.i64 3), x98.1, x99.1] x99.2.1)) fun x100 =>
    bnd (gd3 (some x93) true x100.2.1 (some (x100.1, x100.2.1))) fun x101 =>
    bnd (gd3 (some x101.1) false x101.2.1 (lt (pLoad Try.prog 26 x3 x101.2.1) x101.2.1)) fun x102 =>
    bnd (gd3 (some x101.1) false x102.2.1 (lt (pLoad Try.prog 26 x4 x102.2.1) x102.2.1)) fun x103 =>
    bnd (gd3 (some x101.1) false x103.2.1 (inv (.func 16) #[] #[(Go.Value.int Go.IntKind.i64 1), x102.1, x103.1] x103.2.1)) fun x104 =>
    bnd (gd3 (some x93) true x104.2.1 (lt (pickV x101.1 (Go.Value.bool true) x104.1) x104.2.1)) fun x105 =>
    bnd (gd3 (some x93) true x105.2.1 (lt (pBin Try.prog Go.BinOp.eql 4 (Go.Operand.tmp 97) (Go.Operand.tmp 105) x97.1 x105.1) x105.2.1)) fun x106 =>
    bnd (pickV x93 x106.1 (Go.Value.bool false)) fun x107 =>
    bnd (gd3 (some x107) true x106.2.1 (lt (pLoad Try.prog 26 x3 x106.2.1) x106.2.1)) fun x109 =>
    bnd (gd3 (some x107) true x109.2.1 (lt (pLoad Try.prog 26 x4 x109.2.1) x109.2.1)) fun x110 =>
    bnd (gd3 (some x107) true x110.2.1 (inv (.func 16) #[] #[(Go.Value.int Go.IntKind.i64 5), x109.1, x110.1] x110.2.1)) fun x111 =>
    bnd (gd3 (some x107) true x111.2.1 (lt (pLoad Try.prog 26 x4 x111.2.1) x111.2.1)) fun x112 =>
    bnd (gd3 (some x107) true x112.2.1 (lt (pLoad Try.prog 26 x3 x112.2.1) x112.2.1)) fun x113 =>
    bnd (gd3 (some x107) true x113.2.1 (inv (.func 16) #[] #[(Go.Value.int Go.IntKind.i64 3), x112.1, x113.1] x113.2.1)) fun x114 =>
    bnd (gd3 (some x107) true x114.2.1 (lt (pBin Try.prog Go.BinOp.eql 4 (Go.Operand.tmp 111) (Go.Operand.tmp 114) x111.1 x114.1) x114.2.1)) fun x115 =>
    bnd (pickV x107 x115.1 (Go.Value.bool false)) fun x116 =>
    chkK ((!x98.2.2 || !x97.2.2 || (sameO (pLoad Try.prog 26 x3 x96.2.1) x98.1 && sameO (pLoad Try.prog 26 x3 x97.2.1) x98.1)) && ((!x99.2.2 || !x97.2.2 || (sameO (pLoad Try.prog 26 x4 x96.2.1) x99.1 && sameO (pLoad Try.prog 26 x4 x97.2.1) x99.1)) && ((!x112.2.2 || !x111.2.2 || (sameO (pLoad Try.prog 26 x4 x110.2.1) x112.1 && sameO (pLoad Try.prog 26 x4 x111.2.1) x112.1)) && ((!x113.2.2 || !x111.2.2 || (sameO (pLoad Try.prog 26 x3 x110.2.1) x113.1 && sameO (pLoad Try.prog 26 x3 x111.2.1) x113.1)) && true)))) <|
    K .normal (act 117 [(6, x116)]) x115.2.1 := (k_draw (by kernel_rfl)).trans (by kernel_rfl)
/-- shadowbook/shadowbooklaw09.ZoneOrder -/
noncomputable def F5 (inv : Inv) (k : Nat) (x0 x1 x2 : Value) (h : AH) : Option (Value × AH) :=
    bnd (pBox Try.prog 26 x0 h) fun x3 =>
    bnd (pBox Try.prog 26 x1 x3.2) fun x4 =>
    bnd (pBox Try.prog 26 x2 x4.2) fun x5 =>
    bnd (inv (.func 8) #[] #[] x5.2) fun x13 =>
    bnd (pUn Try.prog Go.UnOp.not x13.1) fun x14 =>
    brV x14
    (some ((Go.Value.bool false), x13.2))
    (bnd (pLoad Try.prog 26 x3.1 x13.2) fun x15 =>
    bnd (pLoad Try.prog 26 x4.1 x13.2) fun x16 =>
    bnd (inv (.func 15) #[] #[x15, x16] x13.2) fun x17 =>
    bnd (pLoad Try.prog 26 x4.1 x17.2) fun x18 =>
    bnd (pLoad Try.prog 26 x5.1 x17.2) fun x19 =>
    bnd (inv (.func 15) #[] #[x18, x19] x17.2) fun x20 =>
    bnd (pLoad Try.prog 26 x3.1 x20.2) fun x21 =>
    bnd (pLoad Try.prog 26 x5.1 x20.2) fun x22 =>
    bnd (inv (.func 15) #[] #[x21, x22] x20.2) fun x23 =>
    chkK ((!true || !true || (sameO (pLoad Try.prog 26 x4.1 x13.2) x18 && sameO (pLoad Try.prog 26 x4.1 x17.2) x18)) && ((!true || !true || (sameO (pLoad Try.prog 26 x5.1 x13.2) x19 && sameO (pLoad Try.prog 26 x5.1 x17.2) x19)) && ((!true || !true || (sameO (pLoad Try.prog 26 x3.1 x13.2) x21 && sameO (pLoad Try.prog 26 x3.1 x17.2) x21)) && ((!true || !true || (sameO (pLoad Try.prog 26 x3.1 x17.2) x21 && sameO (pLoad Try.prog 26 x3.1 x20.2) x21)) && ((!true || !true || (sameO (pLoad Try.prog 26 x5.1 x13.2) x22 && sameO (pLoad Try.prog 26 x5.1 x17.2) x22)) && ((!true || !true || (sameO (pLoad Try.prog 26 x5.1 x17.2) x22 && sameO (pLoad Try.prog 26 x5.1 x20.2) x22)) && true)))))) <|
    F5_lrlrrrr inv k k x3.1 x4.1 x17.1 x20.1 x23.1 (Go.Value.int Go.IntKind.i64 0) (Go.Value.int Go.IntKind.i64 1) x23.2
    (fun y3 y4 y7 y8 y9 y10 y11 y25 h =>
    bnd (pFieldAddr Try.prog 26 y3 0) fun x34 =>
    bnd (pLoad Try.prog 3 x34 h) fun x35 =>
    bnd (pFieldAddr Try.prog 26 y4 0) fun x36 =>
    bnd (pLoad Try.prog 3 x36 h) fun x37 =>
    bnd (pBin Try.prog Go.BinOp.eql 3 (Go.Operand.tmp 35) (Go.Operand.tmp 37) x35 x37) fun x38 =>
    bnd (gd (some x38) true h (lt (pFieldAddr Try.prog 26 y3 0) h)) fun x40 =>
    bnd (gd (some x38) true x40.2 (lt (pLoad Try.prog 3 x40.1 x40.2) x40.2)) fun x41 =>
    bnd (gd (some x38) true x41.2 (lt (pBin Try.prog Go.BinOp.neq 3 (Go.Operand.tmp 41) (Go.Operand.const (Go.Value.int Go.IntKind.i64 0)) x41.1 (Go.Value.int Go.IntKind.i64 0)) x41.2)) fun x42 =>
    bnd (pickV x38 x42.1 (Go.Value.bool false)) fun x43 =>
    bnd (pLoad Try.prog 26 y4 x42.2) fun x45 =>
    bnd (pLoad Try.prog 26 y3 x42.2) fun x46 =>
    bnd (inv (.func 15) #[] #[x45, x46] x42.2) fun x47 =>
    bnd (pUn Try.prog Go.UnOp.neg x47.1) fun x48 =>
    bnd (pBin Try.prog Go.BinOp.eql 3 (Go.Operand.tmp 44) (Go.Operand.tmp 48) y7 x48) fun x49 =>
    bnd (gd3 (some x49) true x47.2 (some (y7, x47.2))) fun x51 =>
    bnd (gd3 (some x49) true x51.2.1 (lt (pBin Try.prog Go.BinOp.eql 3 (Go.Operand.tmp 51) (Go.Operand.const (Go.Value.int Go.IntKind.i64 0)) x51.1 (Go.Value.int Go.IntKind.i64 0)) x51.2.1)) fun x52 =>
    bnd (gd3 (some x49) true x52.2.1 (lt (pLoad Try.prog 26 y3 x52.2.1) x52.2.1)) fun x53 =>
    bnd (gd3 (some x49) true x53.2.1 (lt (pLoad Try.prog 26 y4 x53.2.1) x53.2.1)) fun x54 =>
    bnd (gd3 (some x49) true x54.2.1 (lt (pBin Try.prog Go.BinOp.eql 26 (Go.Operand.tmp 53) (Go.Operand.tmp 54) x53.1 x54.1) x54.2.1)) fun x55 =>
    bnd (gd3 (some x49) true x55.2.1 (lt (pBin Try.prog Go.BinOp.eql 4 (Go.Operand.tmp 52) (Go.Operand.tmp 55) x52.1 x55.1) x55.2.1)) fun x56 =>
    bnd (pickV x49 x56.1 (Go.Value.bool false)) fun x57 =>
    bnd (gd3 (some x57) true x56.2.1 (some (y7, x56.2.1))) fun x59 =>
    bnd (gd3 (some x57) true x59.2.1 (lt (pBin Try.prog Go.BinOp.gtr 3 (Go.Operand.tmp 59) (Go.Operand.const (Go.Value.int Go.IntKind.i64 0)) x59.1 (Go.Value.int Go.IntKind.i64 0)) x59.2.1)) fun x60 =>
    bnd (gd3 (some x57) true x60.2.1 (some (x60.1, x60.2.1))) fun x61 =>
    bnd (gd3 (some x61.1) false x61.2.1 (some (y8, x61.2.1))) fun x62 =>
    bnd (gd3 (some x61.1) false x62.2.1 (lt (pBin Try.prog Go.BinOp.gtr 3 (Go.Operand.tmp 62) (Go.Operand.const (Go.Value.int Go.IntKind.i64 0)) x62.1 (Go.Value.int Go.IntKind.i64 0)) x62.2.1)) fun x63 =>
    bnd (gd3 (some x57) true x63.2.1 (lt (pickV x61.1 (Go.Value.bool true) x63.1) x63.2.1)) fun x64 =>
    bnd (gd3 (some x57) true x64.2.1 (some (x64.1, x64.2.1))) fun x65 =>
    bnd (gd3 (some x65.1) false x65.2.1 (some (y9, x65.2.1))) fun x66 =>
    bnd (gd3 (some x65.1) false x66.2.1 (lt (pBin Try.prog Go.BinOp.leq 3 (Go.Operand.tmp 66) (Go.Operand.const (Go.Value.int Go.IntKind.i64 0)) x66.1 (Go.Value.int Go.IntKind.i64 0)) x66.2.1)) fun x67 =>
    bnd (gd3 (some x57) true x67.2.1 (lt (pickV x65.1 (Go.Value.bool true) x67.1) x67.2.1)) fun x68 =>
    bnd (pickV x57 x68.1 (Go.Value.bool false)) fun x69 =>
    bnd (gd3 (some x69) true x68.2.1 (some (y7, x68.2.1))) fun x71 =>
    bnd (gd3 (some x69) true x71.2.1 (lt (pBin Try.prog Go.BinOp.neq 3 (Go.Operand.tmp 71) (Go.Operand.const (Go.Value.int Go.IntKind.i64 0)) x71.1 (Go.Value.int Go.IntKind.i64 0)) x71.2.1)) fun x72 =>
    bnd (gd3 (some x69) true x72.2.1 (some (x72.1, x72.2.1))) fun x73 =>
    bnd (gd3 (some x73.1) false x73.2.1 (some (y9, x73.2.1))) fun x74 =>
    bnd (gd3 (some x73.1) false x74.2.1 (some (y8, x74.2.1))) fun x75 =>
    bnd (gd3 (some x73.1) false x75.2.1 (lt (pBin Try.prog Go.BinOp.eql 3 (Go.Operand.tmp 74) (Go.Operand.tmp 75) x74.1 x75.1) x75.2.1)) fun x76 =>
    bnd (gd3 (some x69) true x76.2.1 (lt (pickV x73.1 (Go.Value.bool true) x76.1) x76.2.1)) fun x77 =>
    bnd (pickV x69 x77.1 (Go.Value.bool false)) fun x78 =>
    bnd (gd3 (some x78) true x77.2.1 (some (x43, x77.2.1))) fun x80 =>
    bnd (gd3 (some x78) true x80.2.1 (some (x80.1, x80.2.1))) fun x81 =>
    bnd (gd3 (some x81.1) true x81.2.1 (some (y10, x81.2.1))) fun x82 =>
    bnd (gd3 (some x81.1) true x82.2.1 (lt (pBin Try.prog Go.BinOp.eql 3 (Go.Operand.tmp 82) (Go.Operand.const (Go.Value.int Go.IntKind.i64 3)) x82.1 (Go.Value.int Go.IntKind.i64 3)) x82.2.1)) fun x83 =>
    bnd (gd3 (some x78) true x83.2.1 (lt (pickV x81.1 x83.1 (Go.Value.bool false)) x83.2.1)) fun x84 =>
    bnd (gd3 (some x78) true x84.2.1 (some (x84.1, x84.2.1))) fun x85 =>
    bnd (gd3 (some x85.1) false x85.2.1 (some (x43, x85.2.1))) fun x86 =>
    bnd (gd3 (some x85.1) false x86.2.1 (lt (pUn Try.prog Go.UnOp.not x86.1) x86.2.1)) fun x87 =>
    bnd (gd3 (some x85.1) false x87.2.1 (some (x87.1, x87.2.1))) fun x88 =>
    bnd (gd3 (some x88.1) true x88.2.1 (some (y10, x88.2.1))) fun x89 =>
    bnd (gd3 (some x88.1) true x89.2.1 (lt (pBin Try.prog Go.BinOp.eql 3 (Go.Operand.tmp 89) (Go.Operand.const (Go.Value.int Go.IntKind.i64 0)) x89.1 (Go.Value.int Go.IntKind.i64 0)) x89.2.1)) fun x90 =>
    bnd (gd3 (some x85.1) false x90.2.1 (lt (pickV x88.1 x90.1 (Go.Value.bool false)) x90.2.1)) fun x91 =>
    bnd (gd3 (some x78) true x91.2.1 (lt (pickV x85.1 (Go.Value.bool true) x91.1) x91.2.1)) fun x92 =>
    bnd (pickV x78 x92.1 (Go.Value.bool false)) fun x93 =>
    bnd (gd3 (some x93) true x92.2.1 (lt (pLoad Try.prog 26 y3 x92.2.1) x92.2.1)) fun x95 =>
    bnd (gd3 (some x93) true x95.2.1 (lt (pLoad Try.prog 26 y4 x95.2.1) x95.2.1)) fun x96 =>
    bnd (gd3 (some x93) true x96.2.1 (inv (.func 16) #[] #[(Go.Value.int Go.IntKind.i64 4), x95.1, x96.1] x96.2.1)) fun x97 =>
    bnd (gd3 (some x93) true x97.2.1 (lt (pLoad Try.prog 26 y3 x97.2.1) x97.2.1)) fun x98 =>
    bnd (gd3 (some x93) true x98.2.1 (lt (pLoad Try.prog 26 y4 x98.2.1) x98.2.1)) fun x99 =>
    bnd (gd3 (some x93) true x99.2.1 (inv (.func 16) #[] #[(Go.Value.int Go.IntKind.i64 3), x98.1, x99.1] x99.2.1)) fun x100 =>
    bnd (gd3 (some x93) true x100.2.1 (some (x100.1, x100.2.1))) fun x101 =>
    bnd (gd3 (some x101.1) false x101.2.1 (lt (pLoad Try.prog 26 y3 x101.2.1) x101.2.1)) fun x102 =>
    bnd (gd3 (some x101.1) false x102.2.1 (lt (pLoad Try.prog 26 y4 x102.2.1) x102.2.1)) fun x103 =>
    bnd (gd3 (some x101.1) false x103.2.1 (inv (.func 16) #[] #[(Go.Value.int Go.IntKind.i64 1), x102.1, x103.1] x103.2.1)) fun x104 =>
    bnd (gd3 (some x93) true x104.2.1 (lt (pickV x101.1 (Go.Value.bool true) x104.1) x104.2.1)) fun x105 =>
    bnd (gd3 (some x93) true x105.2.1 (lt (pBin Try.prog Go.BinOp.eql 4 (Go.Operand.tmp 97) (Go.Operand.tmp 105) x97.1 x105.1) x105.2.1)) fun x106 =>
    bnd (pickV x93 x106.1 (Go.Value.bool false)) fun x107 =>
    bnd (gd3 (some x107) true x106.2.1 (lt (pLoad Try.prog 26 y3 x106.2.1) x106.2.1)) fun x109 =>
    bnd (gd3 (some x107) true x109.2.1 (lt (pLoad Try.prog 26 y4 x109.2.1) x109.2.1)) fun x110 =>
    bnd (gd3 (some x107) true x110.2.1 (inv (.func 16) #[] #[(Go.Value.int Go.IntKind.i64 5), x109.1, x110.1] x110.2.1)) fun x111 =>
    bnd (gd3 (some x107) true x111.2.1 (lt (pLoad Try.prog 26 y4 x111.2.1) x111.2.1)) fun x112 =>
    bnd (gd3 (some x107) true x112.2.1 (lt (pLoad Try.prog 26 y3 x112.2.1) x112.2.1)) fun x113 =>
    bnd (gd3 (some x107) true x113.2.1 (inv (.func 16) #[] #[(Go.Value.int Go.IntKind.i64 3), x112.1, x113.1] x113.2.1)) fun x114 =>
    bnd (gd3 (some x107) true x114.2.1 (lt (pBin Try.prog Go.BinOp.eql 4 (Go.Operand.tmp 111) (Go.Operand.tmp 114) x111.1 x114.1) x114.2.1)) fun x115 =>
    bnd (pickV x107 x115.1 (Go.Value.bool false)) fun x116 =>
    chkK ((!x98.2.2 || !x97.2.2 || (sameO (pLoad Try.prog 26 y3 x96.2.1) x98.1 && sameO (pLoad Try.prog 26 y3 x97.2.1) x98.1)) && ((!x99.2.2 || !x97.2.2 || (sameO (pLoad Try.prog 26 y4 x96.2.1) x99.1 && sameO (pLoad Try.prog 26 y4 x97.2.1) x99.1)) && ((!x112.2.2 || !x111.2.2 || (sameO (pLoad Try.prog 26 y4 x110.2.1) x112.1 && sameO (pLoad Try.prog 26 y4 x111.2.1) x112.1)) && ((!x113.2.2 || !x111.2.2 || (sameO (pLoad Try.prog 26 y3 x110.2.1) x113.1 && sameO (pLoad Try.prog 26 y3 x111.2.1) x113.1)) && true)))) <|
    some (x116, x115.2.1)))
theorem F5_eq {inv : Inv} {k : Nat} {x0 x1 x2 : Value} {h : AH} : eFun env k inv 5 #[x0, x1, x2] h = F5 inv k x0 x1 x2 h := by
      refine (eFun_k2 (by kernel_rfl) (by kernel_rfl) (by kernel_rfl) (a := act 117 [(0, x0), (1, x1), (2, x2)]) (c := c5) (by kernel_rfl) (by kernel_rfl)).trans ?_
      unfold F5
      simp only [k_seq (E := env) (f := 5) (c := c5) (by kernel_rfl), r5_0, k_seq (E := env) (f := 5) (c := (cr c5)) (by kernel_rfl), k_seq (E := env) (f := 5) (c := (cl (cr c5))) (by kernel_rfl), r5_1, b5_rlr, k_seq (E := env) (f := 5) (c := (cl (cr (cl (cr c5))))) (by kernel_rfl), r5_2, k_ret (E := env) (f := 5) (c := (cr (cl (cr (cl (cr c5)))))) (by kernel_rfl), res5_0, k_skip (E := env) (f := 5) (c := (cr (cr (cl (cr c5))))) (by kernel_rfl), k_seq (E := env) (f := 5) (c := (cr (cr c5))) (by kernel_rfl), r5_3, k_seq (E := env) (f := 5) (c := (cr (cr (cr c5)))) (by kernel_rfl), r5_4, k_seq (E := env) (f := 5) (c := (cr (cr (cr (cr c5))))) (by kernel_rfl), k_seq (E := env) (f := 5) (c := (cl (cr (cr (cr (cr c5)))))) (by kernel_rfl), r5_5, k_block (E := env) (f := 5) (c := (cr (cl (cr (cr (cr (cr c5))))))) (id := 0) (by kernel_rfl), F5_lrlrrrr_eq, k_seq (E := env) (f := 5) (c := (cr (cr (cr (cr (cr c5)))))) (by kernel_rfl), r5_10, k_seq (E := env) (f := 5) (c := (cr (cr (cr (cr (cr (cr c5))))))) (by kernel_rfl), r5_11, k_ret (E := env) (f := 5) (c := (cr (cr (cr (cr (cr (cr (cr c5)))))))) (by kernel_rfl), reduceIte, reduceCtorEq, XE.exit.injEq, Nat.reduceEqDiff] <;> kernel_rfl
theorem F5_call {k : Nat} {x0 x1 x2 : Value} {h : AH} : eInv env (k + 1) (.func 5) #[] #[x0, x1, x2] h = F5 (eInv env k) k x0 x1 x2 h := (inv_func (by kernel_rfl)).trans F5_eq
noncomputable def c7 : Code := codeOf Try.prog 7
theorem r7_0 {β : Type} {inv : Inv} {k : Nat} {x0 x1 x2 x3 : Value} {h : AH} {K : XE → Act → AH → Option β} : kCode env 7 false inv k (cl c7) (act 115 [(0, x0), (1, x1), (2, x2), (3, x3)]) h K =
    bnd (pBox Try.prog 26 x3 h) fun x7 =>
    K .normal (act 115 [(0, x0), (1, x1), (2, x2), (7, x7.1)]) x7.2 := (k_reg (by kernel_rfl)).trans (by kernel_rfl)
theorem r7_1 {β : Type} {inv : Inv} {k : Nat} {x0 x1 x2 x7 : Value} {h : AH} {K : XE → Act → AH → Option β} : kCode env 7 false inv k (cl (cl (cr c7))) (act 115 [(0, x0), (1, x1), (2, x2), (7, x7)]) h K =
    bnd (inv (.func 8) #[] #[] h) fun x13 =>
    bnd (pUn Try.prog Go.UnOp.not x13.1) fun x14 =>
    K .normal (act 115 [(0, x0), (1, x1), (2, x2), (7, x7), (14, x14)]) x13.2 := (k_reg (by kernel_rfl)).trans (by kernel_rfl)
theorem b7_rlr {β : Type} {inv : Inv} {k : Nat} {x0 x1 x2 x7 x14 : Value} {h : AH} {K : XE → Act → AH → Option β} : kCode env 7 false inv k (cr (cl (cr c7))) (act 115 [(0, x0), (1, x1), (2, x2), (7, x7), (14, x14)]) h K = brV x14 (kCode env 7 false inv k (cl (cr (cl (cr c7)))) (act 115 [(0, x0), (1, x1), (2, x2), (7, x7), (14, x14)]) h K) (kCode env 7 false inv k (cr (cr (cl (cr c7)))) (act 115 [(0, x0), (1, x1), (2, x2), (7, x7), (14, x14)]) h K) := (k_cond (by kernel_rfl)).trans (by kernel_rfl)
theorem r7_2 {β : Type} {inv : Inv} {k : Nat} {x0 x1 x2 x7 x14 : Value} {h : AH} {K : XE → Act → AH → Option β} : kCode env 7 false inv k (cl (cl (cr (cl (cr c7))))) (act 115 [(0, x0), (1, x1), (2, x2), (7, x7), (14, x14)]) h K =
    K .normal (act 115 [(8, (Go.Value.bool false))]) h := (k_reg (by kernel_rfl)).trans (by kernel_rfl)
theorem res7_0 {x8 : Value} {h : AH} : resOfFn env.P 7 .ret (act 115 [(8, x8)]) h = some (x8, h) := (resOfFn_k (by kernel_rfl) (by kernel_rfl)).trans (by kernel_rfl)
theorem r7_3 {β : Type} {inv : Inv} {k : Nat} {x0 x1 x2 x7 x14 : Value} {h : AH} {K : XE → Act → AH → Option β} : kCode env 7 false inv k (cl (cl (cr (cr c7)))) (act 115 [(0, x0), (1, x1), (2, x2), (7, x7), (14, x14)]) h K =
    bnd (inv (.func 9) #[] #[x1] h) fun x16 =>
    bnd (pUn Try.prog Go.UnOp.not x16.1) fun x17 =>
    K .normal (act 115 [(0, x0), (1, x1), (2, x2), (7, x7), (17, x17)]) x16.2 := (k_reg (by kernel_rfl)).trans (by kernel_rfl)
theorem b7_rlrr {β : Type} {inv : Inv} {k : Nat} {x0 x1 x2 x7 x17 : Value} {h : AH} {K : XE → Act → AH → Option β} : kCode env 7 false inv k (cr (cl (cr (cr c7)))) (act 115 [(0, x0), (1, x1), (2, x2), (7, x7), (17, x17)]) h K = brV x17 (kCode env 7 false inv k (cl (cr (cl (cr (cr c7))))) (act 115 [(0, x0), (1, x1), (2, x2), (7, x7), (17, x17)]) h K) (kCode env 7 false inv k (cr (cr (cl (cr (cr c7))))) (act 115 [(0, x0), (1, x1), (2, x2), (7, x7), (17, x17)]) h K) := (k_cond (by kernel_rfl)).trans (by kernel_rfl)
theorem r7_4 {β : Type} {inv : Inv} {k : Nat} {x0 x1 x2 x7 x17 : Value} {h : AH} {K : XE → Act → AH → Option β} : kCode env 7 false inv k (cl (cl (cr (cl (cr (cr c7)))))) (act 115 [(0, x0), (1, x1), (2, x2), (7, x7), (17, x17)]) h K =
    K .normal (act 115 [(8, (Go.Value.bool true))]) h := (k_reg (by kernel_rfl)).trans (by kernel_rfl)
theorem r7_5 {β : Type} {inv : Inv} {k : Nat} {x0 x1 x2 x7 x17 : Value} {h : AH} {K : XE → Act → AH → Option β} : kCode env 7 false inv k (cl (cl (cr (cr (cr c7))))) (act 115 [(0, x0), (1, x1), (2, x2), (7, x7), (17, x17)]) h K =
    K .normal (act 115 [(0, x0), (1, x1), (2, x2), (7, x7), (9, (Go.Value.int Go.IntKind.i64 0))]) h := (k_reg (by kernel_rfl)).trans (by kernel_rfl)
theorem r7_6 {β : Type} {inv : Inv} {k : Nat} {x0 x1 x2 x7 x9 : Value} {h : AH} {K : XE → Act → AH → Option β} : kCode env 7 false inv k (cl (cl (cl (cl (cr (cl (cr (cr (cr c7))))))))) (act 115 [(0, x0), (1, x1), (2, x2), (7, x7), (9, x9)]) h K =
    bnd (pLen Try.prog #[22] x1 h) fun x20 =>
    bnd (pBin Try.prog Go.BinOp.lss 3 (Go.Operand.tmp 18) (Go.Operand.tmp 20) x9 x20) fun x21 =>
    K .normal (act 115 [(0, x0), (1, x1), (2, x2), (7, x7), (9, x9), (21, x21)]) h := (k_reg (by kernel_rfl)).trans (by kernel_rfl)
theorem b7_rlllrlrrr {β : Type} {inv : Inv} {k : Nat} {x0 x1 x2 x7 x9 x21 : Value} {h : AH} {K : XE → Act → AH → Option β} : kCode env 7 false inv k (cr (cl (cl (cl (cr (cl (cr (cr (cr c7))))))))) (act 115 [(0, x0), (1, x1), (2, x2), (7, x7), (9, x9), (21, x21)]) h K = brV x21 (kCode env 7 false inv k (cl (cr (cl (cl (cl (cr (cl (cr (cr (cr c7)))))))))) (act 115 [(0, x0), (1, x1), (2, x2), (7, x7), (9, x9), (21, x21)]) h K) (kCode env 7 false inv k (cr (cr (cl (cl (cl (cr (cl (cr (cr (cr c7)))))))))) (act 115 [(0, x0), (1, x1), (2, x2), (7, x7), (9, x9), (21, x21)]) h K) := (k_cond (by kernel_rfl)).trans (by kernel_rfl)
theorem r7_8 {β : Type} {inv : Inv} {k : Nat} {x0 x1 x2 x7 x9 x21 : Value} {h : AH} {K : XE → Act → AH → Option β} : kCode env 7 false inv k (cl (cl (cl (cr (cl (cl (cr (cl (cr (cr (cr c7))))))))))) (act 115 [(0, x0), (1, x1), (2, x2), (7, x7), (9, x9), (21, x21)]) h K =
    bnd (pIndexAddr Try.prog 22 x1 x9) fun x26 =>
    bnd (pFieldAddr Try.prog 26 x26 0) fun x27 =>
    bnd (pLoad Try.prog 3 x27 h) fun x28 =>
    bnd (pBin Try.prog Go.BinOp.neq 3 (Go.Operand.tmp 28) (Go.Operand.const (Go.Value.int Go.IntKind.i64 0)) x28 (Go.Value.int Go.IntKind.i64 0)) fun x29 =>
    bnd (gd (some x29) true h (some (x1, h))) fun x31 =>
    bnd (gd (some x29) true x31.2 (some (x9, x31.2))) fun x32 =>
    bnd (gd (some x29) true x32.2 (lt (pIndexAddr Try.prog 22 x31.1 x32.1) x32.2)) fun x33 =>
    bnd (gd (some x29) true x33.2 (lt (pFieldAddr Try.prog 26 x33.1 0) x33.2)) fun x34 =>
    bnd (gd (some x29) true x34.2 (lt (pLoad Try.prog 3 x34.1 x34.2) x34.2)) fun x35 =>
    bnd (gd (some x29) true x35.2 (some (x0, x35.2))) fun x36 =>
    bnd (gd (some x29) true x36.2 (lt (pBin Try.prog Go.BinOp.neq 3 (Go.Operand.tmp 35) (Go.Operand.tmp 36) x35.1 x36.1) x36.2)) fun x37 =>
    bnd (pickV x29 x37.1 (Go.Value.bool false)) fun x38 =>
    bnd (gd (some x38) false x37.2 (some (x1, x37.2))) fun x40 =>
    bnd (gd (some x38) false x40.2 (some (x9, x40.2))) fun x41 =>
    bnd (gd (some x38) false x41.2 (lt (pIndexAddr Try.prog 22 x40.1 x41.1) x41.2)) fun x42 =>
    bnd (gd (some x38) false x42.2 (lt (pLoad Try.prog 26 x42.1 x42.2) x42.2)) fun x43 =>
    bnd (gd (some x38) false x43.2 (inv (.func 19) #[] #[x43.1] x43.2)) fun x44 =>
    bnd (gd (some x38) false x44.2 (lt (pBin Try.prog Go.BinOp.neq 41 (Go.Operand.tmp 44) (Go.Operand.const (Go.Value.int Go.IntKind.i64 0)) x44.1 (Go.Value.int Go.IntKind.i64 0)) x44.2)) fun x45 =>
    bnd (pickV x38 (Go.Value.bool true) x45.1) fun x46 =>
    K .normal (act 115 [(0, x0), (1, x1), (2, x2), (7, x7), (9, x9), (46, x46)]) x45.2 := (k_reg (by kernel_rfl)).trans (by kernel_rfl)
theorem b7_rllrllrlrrr {β : Type} {inv : Inv} {k : Nat} {x0 x1 x2 x7 x9 x46 : Value} {h : AH} {K : XE → Act → AH → Option β} : kCode env 7 false inv k (cr (cl (cl (cr (cl (cl (cr (cl (cr (cr (cr c7))))))))))) (act 115 [(0, x0), (1, x1), (2, x2), (7, x7), (9, x9), (46, x46)]) h K = brV x46 (kCode env 7 false inv k (cl (cr (cl (cl (cr (cl (cl (cr (cl (cr (cr (cr c7)))))))))))) (act 115 [(0, x0), (1, x1), (2, x2), (7, x7), (9, x9), (46, x46)]) h K) (kCode env 7 false inv k (cr (cr (cl (cl (cr (cl (cl (cr (cl (cr (cr (cr c7)))))))))))) (act 115 [(0, x0), (1, x1), (2, x2), (7, x7), (9, x9), (46, x46)]) h K) := (k_cond (by kernel_rfl)).trans (by kernel_rfl)
theorem r7_9 {β : Type} {inv : Inv} {k : Nat} {x0 x1 x2 x7 x9 x46 : Value} {h : AH} {K : XE → Act → AH → Option β} : kCode env 7 false inv k (cl (cl (cr (cl (cl (cr (cl (cl (cr (cl (cr (cr (cr c7))))))))))))) (act 115 [(0, x0), (1, x1), (2, x2), (7, x7), (9, x9), (46, x46)]) h K =
    K .normal (act 115 [(8, (Go.Value.bool true))]) h := (k_reg (by kernel_rfl)).trans (by kernel_rfl)
theorem r7_7 {β : Type} {inv : Inv} {k : Nat} {x0 x1 x2 x7 x9 x46 : Value} {h : AH} {K : XE → Act → AH → Option β} : kCode env 7 false inv k (cr (cr (cl (cl (cr (cl (cr (cr (cr c7))))))))) (act 115 [(0, x0), (1, x1), (2, x2), (7, x7), (9, x9), (46, x46)]) h K =
    bnd (pBin Try.prog Go.BinOp.add 3 (Go.Operand.tmp 22) (Go.Operand.const (Go.Value.int Go.IntKind.i64 1)) x9 (Go.Value.int Go.IntKind.i64 1)) fun x23 =>
    K .normal (act 115 [(0, x0), (1, x1), (2, x2), (7, x7), (9, x23)]) h := (k_reg (by kernel_rfl)).trans (by kernel_rfl)
noncomputable def F7_lrlrrr {β : Type} (inv : Inv) (k : Nat) : Nat → Value → Value → Value → Value → Value → AH → (Value → Value → Value → Value → Value → Value → AH → Option β) → (Value → AH → Option β) → Option β
  | 0, _, _, _, _, _, _, _, _ => none
  | j + 1, x0, x1, x2, x7, x9, h, ke0, kr =>
    bnd (pLen Try.prog #[22] x1 h) fun x20 =>
    bnd (pBin Try.prog Go.BinOp.lss 3 (Go.Operand.tmp 18) (Go.Operand.tmp 20) x9 x20) fun x21 =>
    brV x21
    (bnd (pIndexAddr Try.prog 22 x1 x9) fun x26 =>
    bnd (pFieldAddr Try.prog 26 x26 0) fun x27 =>
    bnd (pLoad Try.prog 3 x27 h) fun x28 =>
    bnd (pBin Try.prog Go.BinOp.neq 3 (Go.Operand.tmp 28) (Go.Operand.const (Go.Value.int Go.IntKind.i64 0)) x28 (Go.Value.int Go.IntKind.i64 0)) fun x29 =>
    bnd (gd (some x29) true h (some (x1, h))) fun x31 =>
    bnd (gd (some x29) true x31.2 (some (x9, x31.2))) fun x32 =>
    bnd (gd (some x29) true x32.2 (lt (pIndexAddr Try.prog 22 x31.1 x32.1) x32.2)) fun x33 =>
    bnd (gd (some x29) true x33.2 (lt (pFieldAddr Try.prog 26 x33.1 0) x33.2)) fun x34 =>
    bnd (gd (some x29) true x34.2 (lt (pLoad Try.prog 3 x34.1 x34.2) x34.2)) fun x35 =>
    bnd (gd (some x29) true x35.2 (some (x0, x35.2))) fun x36 =>
    bnd (gd (some x29) true x36.2 (lt (pBin Try.prog Go.BinOp.neq 3 (Go.Operand.tmp 35) (Go.Operand.tmp 36) x35.1 x36.1) x36.2)) fun x37 =>
    bnd (pickV x29 x37.1 (Go.Value.bool false)) fun x38 =>
    bnd (gd (some x38) false x37.2 (some (x1, x37.2))) fun x40 =>
    bnd (gd (some x38) false x40.2 (some (x9, x40.2))) fun x41 =>
    bnd (gd (some x38) false x41.2 (lt (pIndexAddr Try.prog 22 x40.1 x41.1) x41.2)) fun x42 =>
    bnd (gd (some x38) false x42.2 (lt (pLoad Try.prog 26 x42.1 x42.2) x42.2)) fun x43 =>
    bnd (gd (some x38) false x43.2 (inv (.func 19) #[] #[x43.1] x43.2)) fun x44 =>
    bnd (gd (some x38) false x44.2 (lt (pBin Try.prog Go.BinOp.neq 41 (Go.Operand.tmp 44) (Go.Operand.const (Go.Value.int Go.IntKind.i64 0)) x44.1 (Go.Value.int Go.IntKind.i64 0)) x44.2)) fun x45 =>
    bnd (pickV x38 (Go.Value.bool true) x45.1) fun x46 =>
    brV x46
    (kr (Go.Value.bool true) x45.2)
    (bnd (pBin Try.prog Go.BinOp.add 3 (Go.Operand.tmp 22) (Go.Operand.const (Go.Value.int Go.IntKind.i64 1)) x9 (Go.Value.int Go.IntKind.i64 1)) fun x23 =>
    F7_lrlrrr inv k j x0 x1 x2 x7 x23 x45.2 ke0 kr))
    (ke0 x0 x1 x2 x7 x9 x21 h)
theorem F7_lrlrrr_j {β : Type} {inv : Inv} {k : Nat} (j : Nat) {x0 x1 x2 x7 x9 : Value} {h : AH} {K : XE → Act → AH → Option β} : kLoop (kCode env 7 false inv k (cl (cl (cr (cl (cr (cr (cr c7)))))))) j (act 115 [(0, x0), (1, x1), (2, x2), (7, x7), (9, x9)]) h K = F7_lrlrrr inv k j x0 x1 x2 x7 x9 h (fun y0 y1 y2 y7 y9 y21 h => K (.exit 0) (act 115 [(0, y0), (1, y1), (2, y2), (7, y7), (9, y9), (21, y21)]) h) (fun y8 h => K .ret (act 115 [(8, y8)]) h) := by
      induction j generalizing x0 x1 x2 x7 x9 h with
      | zero => rfl
      | succ j ih =>
        unfold F7_lrlrrr
        simp only [kLoop, k_seq (E := env) (f := 7) (c := (cl (cl (cr (cl (cr (cr (cr c7)))))))) (by kernel_rfl), k_seq (E := env) (f := 7) (c := (cl (cl (cl (cr (cl (cr (cr (cr c7))))))))) (by kernel_rfl), r7_6, b7_rlllrlrrr, k_skip (E := env) (f := 7) (c := (cl (cr (cl (cl (cl (cr (cl (cr (cr (cr c7))))))))))) (by kernel_rfl), k_seq (E := env) (f := 7) (c := (cr (cl (cl (cr (cl (cr (cr (cr c7))))))))) (by kernel_rfl), k_block (E := env) (f := 7) (c := (cl (cr (cl (cl (cr (cl (cr (cr (cr c7)))))))))) (id := 1) (by kernel_rfl), k_seq (E := env) (f := 7) (c := (cl (cl (cr (cl (cl (cr (cl (cr (cr (cr c7))))))))))) (by kernel_rfl), r7_8, b7_rllrllrlrrr, k_seq (E := env) (f := 7) (c := (cl (cr (cl (cl (cr (cl (cl (cr (cl (cr (cr (cr c7))))))))))))) (by kernel_rfl), r7_9, k_ret (E := env) (f := 7) (c := (cr (cl (cr (cl (cl (cr (cl (cl (cr (cl (cr (cr (cr c7)))))))))))))) (by kernel_rfl), k_skip (E := env) (f := 7) (c := (cr (cr (cl (cl (cr (cl (cl (cr (cl (cr (cr (cr c7))))))))))))) (by kernel_rfl), r7_7, k_exit (E := env) (f := 7) (c := (cr (cr (cl (cl (cl (cr (cl (cr (cr (cr c7))))))))))) (id := 0) (by kernel_rfl), ih, reduceIte, reduceCtorEq, XE.exit.injEq, Nat.reduceEqDiff] <;> kernel_rfl
theorem F7_lrlrrr_eq {β : Type} {inv : Inv} {k : Nat} {x0 x1 x2 x7 x9 : Value} {h : AH} {K : XE → Act → AH → Option β} : kCode env 7 false inv k (cl (cr (cl (cr (cr (cr c7)))))) (act 115 [(0, x0), (1, x1), (2, x2), (7, x7), (9, x9)]) h K = F7_lrlrrr inv k k x0 x1 x2 x7 x9 h (fun y0 y1 y2 y7 y9 y21 h => K (.exit 0) (act 115 [(0, y0), (1, y1), (2, y2), (7, y7), (9, y9), (21, y21)]) h) (fun y8 h => K .ret (act 115 [(8, y8)]) h) := (k_loop (by kernel_rfl)).trans (F7_lrlrrr_j k)
theorem r7_10 {β : Type} {inv : Inv} {k : Nat} {x0 x1 x2 x7 x9 x21 : Value} {h : AH} {K : XE → Act → AH → Option β} : kCode env 7 false inv k (cl (cr (cr (cr (cr c7))))) (act 115 [(0, x0), (1, x1), (2, x2), (7, x7), (9, x9), (21, x21)]) h K =
    bnd (inv (.func 10) #[] #[x1] h) fun x48 =>
    bnd (pAlloc Try.prog 28 x48.2) fun x10 =>
    bnd (kSt (pStore Try.prog 28 x10.1 x48.1 x10.2)) fun u =>
    K .normal (act 115 [(0, x0), (1, x1), (2, x2), (7, x7), (10, x10.1)]) u.2 := (k_reg (by kernel_rfl)).trans (by kernel_rfl)
theorem r7_11 {β : Type} {inv : Inv} {k : Nat} {x0 x1 x2 x7 x10 : Value} {h : AH} {K : XE → Act → AH → Option β} : kCode env 7 false inv k (cl (cr (cr (cr (cr (cr c7)))))) (act 115 [(0, x0), (1, x1), (2, x2), (7, x7), (10, x10)]) h K =
    bnd (pLoad Try.prog 28 x10 h) fun x49 =>
    bnd (pLoad Try.prog 26 x7 h) fun x51 =>
    bnd (inv (.func 14) #[] #[x49, x2, x51] h) fun x52 =>
    K .normal (act 115 [(0, x0), (1, x1), (2, x2), (7, x7), (10, x10), (11, x52.1)]) x52.2 := (k_reg (by kernel_rfl)).trans (by kernel_rfl)
theorem r7_12 {β : Type} {inv : Inv} {k : Nat} {x0 x1 x2 x7 x10 x11 : Value} {h : AH} {K : XE → Act → AH → Option β} : kCode env 7 false inv k (cl (cl (cr (cr (cr (cr (cr (cr c7)))))))) (act 115 [(0, x0), (1, x1), (2, x2), (7, x7), (10, x10), (11, x11)]) h K =
    K .normal (act 115 [(0, x0), (1, x1), (2, x2), (7, x7), (10, x10), (11, x11), (12, (Go.Value.int Go.IntKind.i64 0))]) h := (k_reg (by kernel_rfl)).trans (by kernel_rfl)
theorem r7_13 {β : Type} {inv : Inv} {k : Nat} {x0 x1 x2 x7 x10 x11 x12 : Value} {h : AH} {K : XE → Act → AH → Option β} : kCode env 7 false inv k (cl (cl (cl (cl (cr (cl (cr (cr (cr (cr (cr (cr c7)))))))))))) (act 115 [(0, x0), (1, x1), (2, x2), (7, x7), (10, x10), (11, x11), (12, x12)]) h K =
    bnd (pLen Try.prog #[22] x1 h) fun x55 =>
    bnd (pBin Try.prog Go.BinOp.lss 3 (Go.Operand.tmp 53) (Go.Operand.tmp 55) x12 x55) fun x56 =>
    K .normal (act 115 [(0, x0), (1, x1), (2, x2), (7, x7), (10, x10), (11, x11), (12, x12), (56, x56)]) h := (k_reg (by kernel_rfl)).trans (by kernel_rfl)
theorem b7_rlllrlrrrrrr {β : Type} {inv : Inv} {k : Nat} {x0 x1 x2 x7 x10 x11 x12 x56 : Value} {h : AH} {K : XE → Act → AH → Option β} : kCode env 7 false inv k (cr (cl (cl (cl (cr (cl (cr (cr (cr (cr (cr (cr c7)))))))))))) (act 115 [(0, x0), (1, x1), (2, x2), (7, x7), (10, x10), (11, x11), (12, x12), (56, x56)]) h K = brV x56 (kCode env 7 false inv k (cl (cr (cl (cl (cl (cr (cl (cr (cr (cr (cr (cr (cr c7))))))))))))) (act 115 [(0, x0), (1, x1), (2, x2), (7, x7), (10, x10), (11, x11), (12, x12), (56, x56)]) h K) (kCode env 7 false inv k (cr (cr (cl (cl (cl (cr (cl (cr (cr (cr (cr (cr (cr c7))))))))))))) (act 115 [(0, x0), (1, x1), (2, x2), (7, x7), (10, x10), (11, x11), (12, x12), (56, x56)]) h K) := (k_cond (by kernel_rfl)).trans (by kernel_rfl)
theorem r7_15 {β : Type} {inv : Inv} {k : Nat} {x0 x1 x2 x7 x10 x11 x12 x56 : Value} {h : AH} {K : XE → Act → AH → Option β} : kCode env 7 false inv k (cl (cl (cl (cl (cr (cl (cl (cr (cl (cr (cr (cr (cr (cr (cr c7))))))))))))))) (act 115 [(0, x0), (1, x1), (2, x2), (7, x7), (10, x10), (11, x11), (12, x12), (56, x56)]) h K =
    bnd (pIndexAddr Try.prog 22 x1 x12) fun x62 =>
    bnd (pLoad Try.prog 26 x62 h) fun x63 =>
    bnd (pLoad Try.prog 26 x7 h) fun x64 =>
    bnd (inv (.func 16) #[] #[x2, x63, x64] h) fun x65 =>
    bnd (gd3 (some x65.1) true x65.2 (some (x11, x65.2))) fun x67 =>
    bnd (gd3 (some x65.1) true x67.2.1 (lt (pUn Try.prog Go.UnOp.not x67.1) x67.2.1)) fun x68 =>
    bnd (pickV x65.1 x68.1 (Go.Value.bool false)) fun x69 =>
    K .normal (act 115 [(0, x0), (1, x1), (2, x2), (7, x7), (10, x10), (11, x11), (12, x12), (69, x69)]) x68.2.1 := (k_draw (by kernel_rfl)).trans (by kernel_rfl)
theorem b7_rlllrllrlrrrrrr {β : Type} {inv : Inv} {k : Nat} {x0 x1 x2 x7 x10 x11 x12 x69 : Value} {h : AH} {K : XE → Act → AH → Option β} : kCode env 7 false inv k (cr (cl (cl (cl (cr (cl (cl (cr (cl (cr (cr (cr (cr (cr (cr c7))))))))))))))) (act 115 [(0, x0), (1, x1), (2, x2), (7, x7), (10, x10), (11, x11), (12, x12), (69, x69)]) h K = brV x69 (kCode env 7 false inv k (cl (cr (cl (cl (cl (cr (cl (cl (cr (cl (cr (cr (cr (cr (cr (cr c7)))))))))))))))) (act 115 [(0, x0), (1, x1), (2, x2), (7, x7), (10, x10), (11, x11), (12, x12), (69, x69)]) h K) (kCode env 7 false inv k (cr (cr (cl (cl (cl (cr (cl (cl (cr (cl (cr (cr (cr (cr (cr (cr c7)))))))))))))))) (act 115 [(0, x0), (1, x1), (2, x2), (7, x7), (10, x10), (11, x11), (12, x12), (69, x69)]) h K) := (k_cond (by kernel_rfl)).trans (by kernel_rfl)
theorem r7_16 {β : Type} {inv : Inv} {k : Nat} {x0 x1 x2 x7 x10 x11 x12 x69 : Value} {h : AH} {K : XE → Act → AH → Option β} : kCode env 7 false inv k (cl (cl (cr (cl (cl (cl (cr (cl (cl (cr (cl (cr (cr (cr (cr (cr (cr c7))))))))))))))))) (act 115 [(0, x0), (1, x1), (2, x2), (7, x7), (10, x10), (11, x11), (12, x12), (69, x69)]) h K =
    K .normal (act 115 [(8, (Go.Value.bool false))]) h := (k_reg (by kernel_rfl)).trans (by kernel_rfl)
theorem r7_17 {β : Type} {inv : Inv} {k : Nat} {x0 x1 x2 x7 x10 x11 x12 x69 : Value} {h : AH} {K : XE → Act → AH → Option β} : kCode env 7 false inv k (cl (cr (cl (cl (cr (cl (cl (cr (cl (cr (cr (cr (cr (cr (cr c7))))))))))))))) (act 115 [(0, x0), (1, x1), (2, x2), (7, x7), (10, x10), (11, x11), (12, x12), (69, x69)]) h K =
    bnd (pIndexAddr Try.prog 22 x1 x12) fun x72 =>
    bnd (pFieldAddr Try.prog 26 x72 0) fun x73 =>
    bnd (pLoad Try.prog 3 x73 h) fun x74 =>
    bnd (pBin Try.prog Go.BinOp.neq 3 (Go.Operand.tmp 74) (Go.Operand.const (Go.Value.int Go.IntKind.i64 0)) x74 (Go.Value.int Go.IntKind.i64 0)) fun x75 =>
    bnd (gd3 (some x75) true h (some (x1, h))) fun x77 =>
    bnd (gd3 (some x75) true x77.2.1 (some (x12, x77.2.1))) fun x78 =>
    bnd (gd3 (some x75) true x78.2.1 (lt (pIndexAddr Try.prog 22 x77.1 x78.1) x78.2.1)) fun x79 =>
    bnd (gd3 (some x75) true x79.2.1 (lt (pLoad Try.prog 26 x79.1 x79.2.1) x79.2.1)) fun x80 =>
    bnd (gd3 (some x75) true x80.2.1 (lt (pFieldAddr Try.prog 28 x10 2) x80.2.1)) fun x81 =>
    bnd (gd3 (some x75) true x81.2.1 (lt (pLoad Try.prog 26 x81.1 x81.2.1) x81.2.1)) fun x82 =>
    bnd (gd3 (some x75) true x82.2.1 (inv (.func 15) #[] #[x80.1, x82.1] x82.2.1)) fun x83 =>
    bnd (gd3 (some x75) true x83.2.1 (lt (pBin Try.prog Go.BinOp.lss 3 (Go.Operand.tmp 83) (Go.Operand.const (Go.Value.int Go.IntKind.i64 0)) x83.1 (Go.Value.int Go.IntKind.i64 0)) x83.2.1)) fun x84 =>
    bnd (gd3 (some x75) true x84.2.1 (some (x84.1, x84.2.1))) fun x85 =>
    bnd (gd3 (some x85.1) false x85.2.1 (some (x1, x85.2.1))) fun x86 =>
    bnd (gd3 (some x85.1) false x86.2.1 (some (x12, x86.2.1))) fun x87 =>
    bnd (gd3 (some x85.1) false x87.2.1 (lt (pIndexAddr Try.prog 22 x86.1 x87.1) x87.2.1)) fun x88 =>
    bnd (gd3 (some x85.1) false x88.2.1 (lt (pLoad Try.prog 26 x88.1 x88.2.1) x88.2.1)) fun x89 =>
    bnd (gd3 (some x85.1) false x89.2.1 (lt (pFieldAddr Try.prog 28 x10 3) x89.2.1)) fun x90 =>
    bnd (gd3 (some x85.1) false x90.2.1 (lt (pLoad Try.prog 26 x90.1 x90.2.1) x90.2.1)) fun x91 =>
    bnd (gd3 (some x85.1) false x91.2.1 (inv (.func 15) #[] #[x89.1, x91.1] x91.2.1)) fun x92 =>
    bnd (gd3 (some x85.1) false x92.2.1 (lt (pBin Try.prog Go.BinOp.gtr 3 (Go.Operand.tmp 92) (Go.Operand.const (Go.Value.int Go.IntKind.i64 0)) x92.1 (Go.Value.int Go.IntKind.i64 0)) x92.2.1)) fun x93 =>
    bnd (gd3 (some x75) true x93.2.1 (lt (pickV x85.1 (Go.Value.bool true) x93.1) x93.2.1)) fun x94 =>
    bnd (pickV x75 x94.1 (Go.Value.bool false)) fun x95 =>
    K .normal (act 115 [(0, x0), (1, x1), (2, x2), (7, x7), (10, x10), (11, x11), (12, x12), (95, x95)]) x94.2.1 := (k_draw (by kernel_rfl)).trans (by kernel_rfl)
theorem b7_rrllrllrlrrrrrr {β : Type} {inv : Inv} {k : Nat} {x0 x1 x2 x7 x10 x11 x12 x95 : Value} {h : AH} {K : XE → Act → AH → Option β} : kCode env 7 false inv k (cr (cr (cl (cl (cr (cl (cl (cr (cl (cr (cr (cr (cr (cr (cr c7))))))))))))))) (act 115 [(0, x0), (1, x1), (2, x2), (7, x7), (10, x10), (11, x11), (12, x12), (95, x95)]) h K = brV x95 (kCode env 7 false inv k (cl (cr (cr (cl (cl (cr (cl (cl (cr (cl (cr (cr (cr (cr (cr (cr c7)))))))))))))))) (act 115 [(0, x0), (1, x1), (2, x2), (7, x7), (10, x10), (11, x11), (12, x12), (95, x95)]) h K) (kCode env 7 false inv k (cr (cr (cr (cl (cl (cr (cl (cl (cr (cl (cr (cr (cr (cr (cr (cr c7)))))))))))))))) (act 115 [(0, x0), (1, x1), (2, x2), (7, x7), (10, x10), (11, x11), (12, x12), (95, x95)]) h K) := (k_cond (by kernel_rfl)).trans (by kernel_rfl)
theorem r7_18 {β : Type} {inv : Inv} {k : Nat} {x0 x1 x2 x7 x10 x11 x12 x95 : Value} {h : AH} {K : XE → Act → AH → Option β} : kCode env 7 false inv k (cl (cl (cr (cr (cl (cl (cr (cl (cl (cr (cl (cr (cr (cr (cr (cr (cr c7))))))))))))))))) (act 115 [(0, x0), (1, x1), (2, x2), (7, x7), (10, x10), (11, x11), (12, x12), (95, x95)]) h K =
    K .normal (act 115 [(8, (Go.Value.bool false))]) h := (k_reg (by kernel_rfl)).trans (by kernel_rfl)
theorem r7_14 {β : Type} {inv : Inv} {k : Nat} {x0 x1 x2 x7 x10 x11 x12 x95 : Value} {h : AH} {K : XE → Act → AH → Option β} : kCode env 7 false inv k (cr (cr (cl (cl (cr (cl (cr (cr (cr (cr (cr (cr c7)))))))))))) (act 115 [(0, x0), (1, x1), (2, x2), (7, x7), (10, x10), (11, x11), (12, x12), (95, x95)]) h K =
    bnd (pBin Try.prog Go.BinOp.add 3 (Go.Operand.tmp 57) (Go.Operand.const (Go.Value.int Go.IntKind.i64 1)) x12 (Go.Value.int Go.IntKind.i64 1)) fun x58 =>
    K .normal (act 115 [(0, x0), (1, x1), (2, x2), (7, x7), (10, x10), (11, x11), (12, x58)]) h := (k_reg (by kernel_rfl)).trans (by kernel_rfl)
noncomputable def F7_lrlrrrrrr {β : Type} (inv : Inv) (k : Nat) : Nat → Value → Value → Value → Value → Value → Value → Value → AH → (Value → Value → Value → Value → Value → Value → Value → Value → AH → Option β) → (Value → AH → Option β) → Option β
  | 0, _, _, _, _, _, _, _, _, _, _ => none
  | j + 1, x0, x1, x2, x7, x10, x11, x12, h, ke2, kr =>
    bnd (pLen Try.prog #[22] x1 h) fun x55 =>
    bnd (pBin Try.prog Go.BinOp.lss 3 (Go.Operand.tmp 53) (Go.Operand.tmp 55) x12 x55) fun x56 =>
    brV x56
    (bnd (pIndexAddr Try.prog 22 x1 x12) fun x62 =>
    bnd (pLoad Try.prog 26 x62 h) fun x63 =>
    bnd (pLoad Try.prog 26 x7 h) fun x64 =>
    bnd (inv (.func 16) #[] #[x2, x63, x64] h) fun x65 =>
    bnd (gd3 (some x65.1) true x65.2 (some (x11, x65.2))) fun x67 =>
    bnd (gd3 (some x65.1) true x67.2.1 (lt (pUn Try.prog Go.UnOp.not x67.1) x67.2.1)) fun x68 =>
    bnd (pickV x65.1 x68.1 (Go.Value.bool false)) fun x69 =>
    brV x69
    (kr (Go.Value.bool false) x68.2.1)
    (bnd (pIndexAddr Try.prog 22 x1 x12) fun x72 =>
    bnd (pFieldAddr Try.prog 26 x72 0) fun x73 =>
    bnd (pLoad Try.prog 3 x73 x68.2.1) fun x74 =>
    bnd (pBin Try.prog Go.BinOp.neq 3 (Go.Operand.tmp 74) (Go.Operand.const (Go.Value.int Go.IntKind.i64 0)) x74 (Go.Value.int Go.IntKind.i64 0)) fun x75 =>
    bnd (gd3 (some x75) true x68.2.1 (some (x1, x68.2.1))) fun x77 =>
    bnd (gd3 (some x75) true x77.2.1 (some (x12, x77.2.1))) fun x78 =>
    bnd (gd3 (some x75) true x78.2.1 (lt (pIndexAddr Try.prog 22 x77.1 x78.1) x78.2.1)) fun x79 =>
    bnd (gd3 (some x75) true x79.2.1 (lt (pLoad Try.prog 26 x79.1 x79.2.1) x79.2.1)) fun x80 =>
    bnd (gd3 (some x75) true x80.2.1 (lt (pFieldAddr Try.prog 28 x10 2) x80.2.1)) fun x81 =>
    bnd (gd3 (some x75) true x81.2.1 (lt (pLoad Try.prog 26 x81.1 x81.2.1) x81.2.1)) fun x82 =>
    bnd (gd3 (some x75) true x82.2.1 (inv (.func 15) #[] #[x80.1, x82.1] x82.2.1)) fun x83 =>
    bnd (gd3 (some x75) true x83.2.1 (lt (pBin Try.prog Go.BinOp.lss 3 (Go.Operand.tmp 83) (Go.Operand.const (Go.Value.int Go.IntKind.i64 0)) x83.1 (Go.Value.int Go.IntKind.i64 0)) x83.2.1)) fun x84 =>
    bnd (gd3 (some x75) true x84.2.1 (some (x84.1, x84.2.1))) fun x85 =>
    bnd (gd3 (some x85.1) false x85.2.1 (some (x1, x85.2.1))) fun x86 =>
    bnd (gd3 (some x85.1) false x86.2.1 (some (x12, x86.2.1))) fun x87 =>
    bnd (gd3 (some x85.1) false x87.2.1 (lt (pIndexAddr Try.prog 22 x86.1 x87.1) x87.2.1)) fun x88 =>
    bnd (gd3 (some x85.1) false x88.2.1 (lt (pLoad Try.prog 26 x88.1 x88.2.1) x88.2.1)) fun x89 =>
    bnd (gd3 (some x85.1) false x89.2.1 (lt (pFieldAddr Try.prog 28 x10 3) x89.2.1)) fun x90 =>
    bnd (gd3 (some x85.1) false x90.2.1 (lt (pLoad Try.prog 26 x90.1 x90.2.1) x90.2.1)) fun x91 =>
    bnd (gd3 (some x85.1) false x91.2.1 (inv (.func 15) #[] #[x89.1, x91.1] x91.2.1)) fun x92 =>
    bnd (gd3 (some x85.1) false x92.2.1 (lt (pBin Try.prog Go.BinOp.gtr 3 (Go.Operand.tmp 92) (Go.Operand.const (Go.Value.int Go.IntKind.i64 0)) x92.1 (Go.Value.int Go.IntKind.i64 0)) x92.2.1)) fun x93 =>
    bnd (gd3 (some x75) true x93.2.1 (lt (pickV x85.1 (Go.Value.bool true) x93.1) x93.2.1)) fun x94 =>
    bnd (pickV x75 x94.1 (Go.Value.bool false)) fun x95 =>
    brV x95
    (kr (Go.Value.bool false) x94.2.1)
    (bnd (pBin Try.prog Go.BinOp.add 3 (Go.Operand.tmp 57) (Go.Operand.const (Go.Value.int Go.IntKind.i64 1)) x12 (Go.Value.int Go.IntKind.i64 1)) fun x58 =>
    F7_lrlrrrrrr inv k j x0 x1 x2 x7 x10 x11 x58 x94.2.1 ke2 kr)))
    (ke2 x0 x1 x2 x7 x10 x11 x12 x56 h)
theorem F7_lrlrrrrrr_j {β : Type} {inv : Inv} {k : Nat} (j : Nat) {x0 x1 x2 x7 x10 x11 x12 : Value} {h : AH} {K : XE → Act → AH → Option β} : kLoop (kCode env 7 false inv k (cl (cl (cr (cl (cr (cr (cr (cr (cr (cr c7))))))))))) j (act 115 [(0, x0), (1, x1), (2, x2), (7, x7), (10, x10), (11, x11), (12, x12)]) h K = F7_lrlrrrrrr inv k j x0 x1 x2 x7 x10 x11 x12 h (fun y0 y1 y2 y7 y10 y11 y12 y56 h => K (.exit 2) (act 115 [(0, y0), (1, y1), (2, y2), (7, y7), (10, y10), (11, y11), (12, y12), (56, y56)]) h) (fun y8 h => K .ret (act 115 [(8, y8)]) h) := by
      induction j generalizing x0 x1 x2 x7 x10 x11 x12 h with
      | zero => rfl
      | succ j ih =>
        unfold F7_lrlrrrrrr
        simp only [kLoop, k_seq (E := env) (f := 7) (c := (cl (cl (cr (cl (cr (cr (cr (cr (cr (cr c7))))))))))) (by kernel_rfl), k_seq (E := env) (f := 7) (c := (cl (cl (cl (cr (cl (cr (cr (cr (cr (cr (cr c7)))))))))))) (by kernel_rfl), r7_13, b7_rlllrlrrrrrr, k_skip (E := env) (f := 7) (c := (cl (cr (cl (cl (cl (cr (cl (cr (cr (cr (cr (cr (cr c7)))))))))))))) (by kernel_rfl), k_seq (E := env) (f := 7) (c := (cr (cl (cl (cr (cl (cr (cr (cr (cr (cr (cr c7)))))))))))) (by kernel_rfl), k_block (E := env) (f := 7) (c := (cl (cr (cl (cl (cr (cl (cr (cr (cr (cr (cr (cr c7))))))))))))) (id := 3) (by kernel_rfl), k_seq (E := env) (f := 7) (c := (cl (cl (cr (cl (cl (cr (cl (cr (cr (cr (cr (cr (cr c7)))))))))))))) (by kernel_rfl), k_seq (E := env) (f := 7) (c := (cl (cl (cl (cr (cl (cl (cr (cl (cr (cr (cr (cr (cr (cr c7))))))))))))))) (by kernel_rfl), r7_15, b7_rlllrllrlrrrrrr, k_seq (E := env) (f := 7) (c := (cl (cr (cl (cl (cl (cr (cl (cl (cr (cl (cr (cr (cr (cr (cr (cr c7))))))))))))))))) (by kernel_rfl), r7_16, k_ret (E := env) (f := 7) (c := (cr (cl (cr (cl (cl (cl (cr (cl (cl (cr (cl (cr (cr (cr (cr (cr (cr c7)))))))))))))))))) (by kernel_rfl), k_skip (E := env) (f := 7) (c := (cr (cr (cl (cl (cl (cr (cl (cl (cr (cl (cr (cr (cr (cr (cr (cr c7))))))))))))))))) (by kernel_rfl), k_seq (E := env) (f := 7) (c := (cr (cl (cl (cr (cl (cl (cr (cl (cr (cr (cr (cr (cr (cr c7))))))))))))))) (by kernel_rfl), r7_17, b7_rrllrllrlrrrrrr, k_seq (E := env) (f := 7) (c := (cl (cr (cr (cl (cl (cr (cl (cl (cr (cl (cr (cr (cr (cr (cr (cr c7))))))))))))))))) (by kernel_rfl), r7_18, k_ret (E := env) (f := 7) (c := (cr (cl (cr (cr (cl (cl (cr (cl (cl (cr (cl (cr (cr (cr (cr (cr (cr c7)))))))))))))))))) (by kernel_rfl), k_skip (E := env) (f := 7) (c := (cr (cr (cr (cl (cl (cr (cl (cl (cr (cl (cr (cr (cr (cr (cr (cr c7))))))))))))))))) (by kernel_rfl), r7_14, k_exit (E := env) (f := 7) (c := (cr (cr (cl (cl (cl (cr (cl (cr (cr (cr (cr (cr (cr c7)))))))))))))) (id := 2) (by kernel_rfl), ih, reduceIte, reduceCtorEq, XE.exit.injEq, Nat.reduceEqDiff] <;> kernel_rfl
theorem F7_lrlrrrrrr_eq {β : Type} {inv : Inv} {k : Nat} {x0 x1 x2 x7 x10 x11 x12 : Value} {h : AH} {K : XE → Act → AH → Option β} : kCode env 7 false inv k (cl (cr (cl (cr (cr (cr (cr (cr (cr c7))))))))) (act 115 [(0, x0), (1, x1), (2, x2), (7, x7), (10, x10), (11, x11), (12, x12)]) h K = F7_lrlrrrrrr inv k k x0 x1 x2 x7 x10 x11 x12 h (fun y0 y1 y2 y7 y10 y11 y12 y56 h => K (.exit 2) (act 115 [(0, y0), (1, y1), (2, y2), (7, y7), (10, y10), (11, y11), (12, y12), (56, y56)]) h) (fun y8 h => K .ret (act 115 [(8, y8)]) h) := (k_loop (by kernel_rfl)).trans (F7_lrlrrrrrr_j k)
theorem r7_19 {β : Type} {inv : Inv} {k : Nat} {x0 x1 x2 x7 x10 x11 x12 x56 : Value} {h : AH} {K : XE → Act → AH → Option β} : kCode env 7 false inv k (cl (cr (cr (cr (cr (cr (cr (cr c7)))))))) (act 115 [(0, x0), (1, x1), (2, x2), (7, x7), (10, x10), (11, x11), (12, x12), (56, x56)]) h K =
    bnd (pFieldAddr Try.prog 28 x10 0) fun x96 =>
    bnd (pLoad Try.prog 3 x96 h) fun x97 =>
    bnd (pLen Try.prog #[22] x1 h) fun x99 =>
    bnd (pBin Try.prog Go.BinOp.eql 3 (Go.Operand.tmp 97) (Go.Operand.tmp 99) x97 x99) fun x100 =>
    bnd (gd (some x100) true h (some (x0, h))) fun x102 =>
    bnd (gd (some x100) true x102.2 (lt (pBin Try.prog Go.BinOp.lss 3 (Go.Operand.tmp 102) (Go.Operand.const (Go.Value.int Go.IntKind.i64 1)) x102.1 (Go.Value.int Go.IntKind.i64 1)) x102.2)) fun x103 =>
    bnd (gd (some x100) true x103.2 (some (x103.1, x103.2))) fun x104 =>
    bnd (gd (some x104.1) false x104.2 (some (x0, x104.2))) fun x105 =>
    bnd (gd (some x104.1) false x105.2 (lt (pBin Try.prog Go.BinOp.gtr 3 (Go.Operand.tmp 105) (Go.Operand.const (Go.Value.int Go.IntKind.i64 3)) x105.1 (Go.Value.int Go.IntKind.i64 3)) x105.2)) fun x106 =>
    bnd (gd (some x100) true x106.2 (lt (pickV x104.1 (Go.Value.bool true) x106.1) x106.2)) fun x107 =>
    bnd (gd (some x100) true x107.2 (some (x107.1, x107.2))) fun x108 =>
    bnd (gd (some x108.1) false x108.2 (lt (pLoad Try.prog 28 x10 x108.2) x108.2)) fun x109 =>
    bnd (gd (some x108.1) false x109.2 (some (x0, x109.2))) fun x110 =>
    bnd (gd (some x108.1) false x110.2 (inv (.func 21) #[] #[x109.1, x110.1] x110.2)) fun x111 =>
    bnd (gd (some x108.1) false x111.2 (lt (pBin Try.prog Go.BinOp.eql 41 (Go.Operand.tmp 111) (Go.Operand.const (Go.Value.int Go.IntKind.i64 0)) x111.1 (Go.Value.int Go.IntKind.i64 0)) x111.2)) fun x112 =>
    bnd (gd (some x100) true x112.2 (lt (pickV x108.1 (Go.Value.bool true) x112.1) x112.2)) fun x113 =>
    bnd (pickV x100 x113.1 (Go.Value.bool false)) fun x114 =>
    K .normal (act 115 [(8, x114)]) x113.2 := (k_reg (by kernel_rfl)).trans (by kernel_rfl)
/-- shadowbook/shadowbooklaw09.ZoneMay -/
noncomputable def F7 (inv : Inv) (k : Nat) (x0 x1 x2 x3 : Value) (h : AH) : Option (Value × AH) :=
    bnd (pBox Try.prog 26 x3 h) fun x7 =>
    bnd (inv (.func 8) #[] #[] x7.2) fun x13 =>
    bnd (pUn Try.prog Go.UnOp.not x13.1) fun x14 =>
    brV x14
    (some ((Go.Value.bool false), x13.2))
    (bnd (inv (.func 9) #[] #[x1] x13.2) fun x16 =>
    bnd (pUn Try.prog Go.UnOp.not x16.1) fun x17 =>
    brV x17
    (some ((Go.Value.bool true), x16.2))
    (F7_lrlrrr inv k k x0 x1 x2 x7.1 (Go.Value.int Go.IntKind.i64 0) x16.2
    (fun y0 y1 y2 y7 y9 y21 h =>
    bnd (inv (.func 10) #[] #[y1] h) fun x48 =>
    bnd (pAlloc Try.prog 28 x48.2) fun x10 =>
    bnd (kSt (pStore Try.prog 28 x10.1 x48.1 x10.2)) fun u =>
    bnd (pLoad Try.prog 28 x10.1 u.2) fun x49 =>
    bnd (pLoad Try.prog 26 y7 u.2) fun x51 =>
    bnd (inv (.func 14) #[] #[x49, y2, x51] u.2) fun x52 =>
    F7_lrlrrrrrr inv k k y0 y1 y2 y7 x10.1 x52.1 (Go.Value.int Go.IntKind.i64 0) x52.2
    (fun y0_1 y1_2 y2_3 y7_4 y10 y11 y12 y56 h_5 =>
    bnd (pFieldAddr Try.prog 28 y10 0) fun x96 =>
    bnd (pLoad Try.prog 3 x96 h_5) fun x97 =>
    bnd (pLen Try.prog #[22] y1_2 h_5) fun x99 =>
    bnd (pBin Try.prog Go.BinOp.eql 3 (Go.Operand.tmp 97) (Go.Operand.tmp 99) x97 x99) fun x100 =>
    bnd (gd (some x100) true h_5 (some (y0_1, h_5))) fun x102 =>
    bnd (gd (some x100) true x102.2 (lt (pBin Try.prog Go.BinOp.lss 3 (Go.Operand.tmp 102) (Go.Operand.const (Go.Value.int Go.IntKind.i64 1)) x102.1 (Go.Value.int Go.IntKind.i64 1)) x102.2)) fun x103 =>
    bnd (gd (some x100) true x103.2 (some (x103.1, x103.2))) fun x104 =>
    bnd (gd (some x104.1) false x104.2 (some (y0_1, x104.2))) fun x105 =>
    bnd (gd (some x104.1) false x105.2 (lt (pBin Try.prog Go.BinOp.gtr 3 (Go.Operand.tmp 105) (Go.Operand.const (Go.Value.int Go.IntKind.i64 3)) x105.1 (Go.Value.int Go.IntKind.i64 3)) x105.2)) fun x106 =>
    bnd (gd (some x100) true x106.2 (lt (pickV x104.1 (Go.Value.bool true) x106.1) x106.2)) fun x107 =>
    bnd (gd (some x100) true x107.2 (some (x107.1, x107.2))) fun x108 =>
    bnd (gd (some x108.1) false x108.2 (lt (pLoad Try.prog 28 y10 x108.2) x108.2)) fun x109 =>
    bnd (gd (some x108.1) false x109.2 (some (y0_1, x109.2))) fun x110 =>
    bnd (gd (some x108.1) false x110.2 (inv (.func 21) #[] #[x109.1, x110.1] x110.2)) fun x111 =>
    bnd (gd (some x108.1) false x111.2 (lt (pBin Try.prog Go.BinOp.eql 41 (Go.Operand.tmp 111) (Go.Operand.const (Go.Value.int Go.IntKind.i64 0)) x111.1 (Go.Value.int Go.IntKind.i64 0)) x111.2)) fun x112 =>
    bnd (gd (some x100) true x112.2 (lt (pickV x108.1 (Go.Value.bool true) x112.1) x112.2)) fun x113 =>
    bnd (pickV x100 x113.1 (Go.Value.bool false)) fun x114 =>
    some (x114, x113.2))
    (fun y8 h_6 =>
    some (y8, h_6)))
    (fun y8_7 h_8 =>
    some (y8_7, h_8))))
theorem F7_eq {inv : Inv} {k : Nat} {x0 x1 x2 x3 : Value} {h : AH} : eFun env k inv 7 #[x0, x1, x2, x3] h = F7 inv k x0 x1 x2 x3 h := by
      refine (eFun_k2 (by kernel_rfl) (by kernel_rfl) (by kernel_rfl) (a := act 115 [(0, x0), (1, x1), (2, x2), (3, x3)]) (c := c7) (by kernel_rfl) (by kernel_rfl)).trans ?_
      unfold F7
      simp only [k_seq (E := env) (f := 7) (c := c7) (by kernel_rfl), r7_0, k_seq (E := env) (f := 7) (c := (cr c7)) (by kernel_rfl), k_seq (E := env) (f := 7) (c := (cl (cr c7))) (by kernel_rfl), r7_1, b7_rlr, k_seq (E := env) (f := 7) (c := (cl (cr (cl (cr c7))))) (by kernel_rfl), r7_2, k_ret (E := env) (f := 7) (c := (cr (cl (cr (cl (cr c7)))))) (by kernel_rfl), res7_0, k_skip (E := env) (f := 7) (c := (cr (cr (cl (cr c7))))) (by kernel_rfl), k_seq (E := env) (f := 7) (c := (cr (cr c7))) (by kernel_rfl), k_seq (E := env) (f := 7) (c := (cl (cr (cr c7)))) (by kernel_rfl), r7_3, b7_rlrr, k_seq (E := env) (f := 7) (c := (cl (cr (cl (cr (cr c7)))))) (by kernel_rfl), r7_4, k_ret (E := env) (f := 7) (c := (cr (cl (cr (cl (cr (cr c7))))))) (by kernel_rfl), k_skip (E := env) (f := 7) (c := (cr (cr (cl (cr (cr c7)))))) (by kernel_rfl), k_seq (E := env) (f := 7) (c := (cr (cr (cr c7)))) (by kernel_rfl), k_seq (E := env) (f := 7) (c := (cl (cr (cr (cr c7))))) (by kernel_rfl), r7_5, k_block (E := env) (f := 7) (c := (cr (cl (cr (cr (cr c7)))))) (id := 0) (by kernel_rfl), F7_lrlrrr_eq, k_seq (E := env) (f := 7) (c := (cr (cr (cr (cr c7))))) (by kernel_rfl), r7_10, k_seq (E := env) (f := 7) (c := (cr (cr (cr (cr (cr c7)))))) (by kernel_rfl), r7_11, k_seq (E := env) (f := 7) (c := (cr (cr (cr (cr (cr (cr c7))))))) (by kernel_rfl), k_seq (E := env) (f := 7) (c := (cl (cr (cr (cr (cr (cr (cr c7)))))))) (by kernel_rfl), r7_12, k_block (E := env) (f := 7) (c := (cr (cl (cr (cr (cr (cr (cr (cr c7))))))))) (id := 2) (by kernel_rfl), F7_lrlrrrrrr_eq, k_seq (E := env) (f := 7) (c := (cr (cr (cr (cr (cr (cr (cr c7)))))))) (by kernel_rfl), r7_19, k_ret (E := env) (f := 7) (c := (cr (cr (cr (cr (cr (cr (cr (cr c7))))))))) (by kernel_rfl), reduceIte, reduceCtorEq, XE.exit.injEq, Nat.reduceEqDiff] <;> kernel_rfl
theorem F7_call {k : Nat} {x0 x1 x2 x3 : Value} {h : AH} : eInv env (k + 1) (.func 7) #[] #[x0, x1, x2, x3] h = F7 (eInv env k) k x0 x1 x2 x3 h := (inv_func (by kernel_rfl)).trans F7_eq
noncomputable def c9 : Code := codeOf Try.prog 9
theorem r9_0 {β : Type} {inv : Inv} {k : Nat} {x0 : Value} {h : AH} {K : XE → Act → AH → Option β} : kCode env 9 false inv k (cl c9) (act 5 [(0, x0)]) h K =
    K .normal (act 5 [(0, x0)]) h := (k_reg (by kernel_rfl)).trans (by kernel_rfl)
theorem r9_1 {β : Type} {inv : Inv} {k : Nat} {x0 : Value} {h : AH} {K : XE → Act → AH → Option β} : kCode env 9 false inv k (cl (cr c9)) (act 5 [(0, x0)]) h K =
    bnd (inv (.func 22) #[] #[x0, (Go.Value.int Go.IntKind.i64 60), (Go.Value.int Go.IntKind.i64 600)] h) fun x4 =>
    K .normal (act 5 [(2, x4.1)]) x4.2 := (k_reg (by kernel_rfl)).trans (by kernel_rfl)
theorem res9_0 {x2 : Value} {h : AH} : resOfFn env.P 9 .ret (act 5 [(2, x2)]) h = some (x2, h) := (resOfFn_k (by kernel_rfl) (by kernel_rfl)).trans (by kernel_rfl)
/-- shadowbook/shadowbooklaw09.light -/
noncomputable def F9 (inv : Inv) (k : Nat) (x0 : Value) (h : AH) : Option (Value × AH) :=
    bnd (inv (.func 22) #[] #[x0, (Go.Value.int Go.IntKind.i64 60), (Go.Value.int Go.IntKind.i64 600)] h) fun x4 =>
    some (x4.1, x4.2)
theorem F9_eq {inv : Inv} {k : Nat} {x0 : Value} {h : AH} : eFun env k inv 9 #[x0] h = F9 inv k x0 h := by
      refine (eFun_k2 (by kernel_rfl) (by kernel_rfl) (by kernel_rfl) (a := act 5 [(0, x0)]) (c := c9) (by kernel_rfl) (by kernel_rfl)).trans ?_
      unfold F9
      simp only [k_seq (E := env) (f := 9) (c := c9) (by kernel_rfl), r9_0, k_seq (E := env) (f := 9) (c := (cr c9)) (by kernel_rfl), r9_1, k_ret (E := env) (f := 9) (c := (cr (cr c9))) (by kernel_rfl), res9_0, reduceIte, reduceCtorEq, XE.exit.injEq, Nat.reduceEqDiff] <;> kernel_rfl
theorem F9_call {k : Nat} {x0 : Value} {h : AH} : eInv env (k + 1) (.func 9) #[] #[x0] h = F9 (eInv env k) k x0 h := (inv_func (by kernel_rfl)).trans F9_eq
noncomputable def c10 : Code := codeOf Try.prog 10
theorem r10_0 {β : Type} {inv : Inv} {k : Nat} {x0 : Value} {h : AH} {K : XE → Act → AH → Option β} : kCode env 10 false inv k (cl c10) (act 17 [(0, x0)]) h K =
    bnd (pAlloc Try.prog 28 h) fun x2 =>
    K .normal (act 17 [(0, x0), (2, x2.1)]) x2.2 := (k_reg (by kernel_rfl)).trans (by kernel_rfl)
theorem r10_1 {β : Type} {inv : Inv} {k : Nat} {x0 x2 : Value} {h : AH} {K : XE → Act → AH → Option β} : kCode env 10 false inv k (cl (cl (cr c10))) (act 17 [(0, x0), (2, x2)]) h K =
    bnd (pLen Try.prog #[22] x0 h) fun x6 =>
    K .normal (act 17 [(2, x2), (5, x0), (6, x6), (7, (Go.Value.int Go.IntKind.i64 0))]) h := (k_reg (by kernel_rfl)).trans (by kernel_rfl)
theorem r10_2 {β : Type} {inv : Inv} {k : Nat} {x2 x5 x6 x7 : Value} {h : AH} {K : XE → Act → AH → Option β} : kCode env 10 false inv k (cl (cl (cl (cr (cl (cr c10)))))) (act 17 [(2, x2), (5, x5), (6, x6), (7, x7)]) h K =
    bnd (pBin Try.prog Go.BinOp.lss 3 (Go.Operand.tmp 7) (Go.Operand.tmp 6) x7 x6) fun x8 =>
    K .normal (act 17 [(2, x2), (5, x5), (6, x6), (7, x7), (8, x8)]) h := (k_reg (by kernel_rfl)).trans (by kernel_rfl)
theorem b10_lrllrlr {β : Type} {inv : Inv} {k : Nat} {x2 x5 x6 x7 x8 : Value} {h : AH} {K : XE → Act → AH → Option β} : kCode env 10 false inv k (cl (cr (cl (cl (cr (cl (cr c10))))))) (act 17 [(2, x2), (5, x5), (6, x6), (7, x7), (8, x8)]) h K = brV x8 (kCode env 10 false inv k (cl (cl (cr (cl (cl (cr (cl (cr c10)))))))) (act 17 [(2, x2), (5, x5), (6, x6), (7, x7), (8, x8)]) h K) (kCode env 10 false inv k (cr (cl (cr (cl (cl (cr (cl (cr c10)))))))) (act 17 [(2, x2), (5, x5), (6, x6), (7, x7), (8, x8)]) h K) := (k_cond (by kernel_rfl)).trans (by kernel_rfl)
theorem r10_3 {β : Type} {inv : Inv} {k : Nat} {x2 x5 x6 x7 x8 : Value} {h : AH} {K : XE → Act → AH → Option β} : kCode env 10 false inv k (cl (cl (cl (cr (cr (cl (cl (cr (cl (cr c10)))))))))) (act 17 [(2, x2), (5, x5), (6, x6), (7, x7), (8, x8)]) h K =
    bnd (pIndexAddr Try.prog 22 x5 x7) fun x9 =>
    bnd (pLoad Try.prog 26 x9 h) fun x10 =>
    bnd (pAlloc Try.prog 26 h) fun x4 =>
    bnd (kSt (pStore Try.prog 26 x4.1 x10 x4.2)) fun u =>
    K .normal (act 17 [(2, x2), (4, x4.1), (5, x5), (6, x6), (7, x7)]) u.2 := (k_reg (by kernel_rfl)).trans (by kernel_rfl)
theorem r10_4 {β : Type} {inv : Inv} {k : Nat} {x2 x4 x5 x6 x7 : Value} {h : AH} {K : XE → Act → AH → Option β} : kCode env 10 false inv k (cr (cl (cl (cr (cr (cl (cl (cr (cl (cr c10)))))))))) (act 17 [(2, x2), (4, x4), (5, x5), (6, x6), (7, x7)]) h K =
    bnd (pLoad Try.prog 28 x2 h) fun x11 =>
    bnd (pLoad Try.prog 26 x4 h) fun x12 =>
    bnd (inv (.func 23) #[] #[x12] h) fun x13 =>
    bnd (inv (.func 11) #[] #[x11, x13.1] x13.2) fun x14 =>
    bnd (kSt (pStore Try.prog 28 x2 x14.1 x14.2)) fun u =>
    chkK ((!true || !true || (sameO (pLoad Try.prog 28 x2 h) x11 && sameO (pLoad Try.prog 28 x2 x13.2) x11)) && true) <|
    K .normal (act 17 [(2, x2), (5, x5), (6, x6), (7, x7)]) u.2 := (k_draw (by kernel_rfl)).trans (by kernel_rfl)
theorem r10_5 {β : Type} {inv : Inv} {k : Nat} {x2 x5 x6 x7 : Value} {h : AH} {K : XE → Act → AH → Option β} : kCode env 10 false inv k (cr (cr (cr (cl (cl (cr (cl (cr c10)))))))) (act 17 [(2, x2), (5, x5), (6, x6), (7, x7)]) h K =
    bnd (pBin Try.prog Go.BinOp.add 3 (Go.Operand.tmp 7) (Go.Operand.const (Go.Value.int Go.IntKind.i64 1)) x7 (Go.Value.int Go.IntKind.i64 1)) fun x15 =>
    K .normal (act 17 [(2, x2), (5, x5), (6, x6), (7, x15)]) h := (k_reg (by kernel_rfl)).trans (by kernel_rfl)
noncomputable def F10_lrlr {β : Type} (inv : Inv) (k : Nat) : Nat → Value → Value → Value → Value → AH → (Value → Value → Value → Value → Value → AH → Option β) → Option β
  | 0, _, _, _, _, _, _ => none
  | j + 1, x2, x5, x6, x7, h, ke0 =>
    bnd (pBin Try.prog Go.BinOp.lss 3 (Go.Operand.tmp 7) (Go.Operand.tmp 6) x7 x6) fun x8 =>
    brV x8
    (bnd (pIndexAddr Try.prog 22 x5 x7) fun x9 =>
    bnd (pLoad Try.prog 26 x9 h) fun x10 =>
    bnd (pAlloc Try.prog 26 h) fun x4 =>
    bnd (kSt (pStore Try.prog 26 x4.1 x10 x4.2)) fun u =>
    bnd (pLoad Try.prog 28 x2 u.2) fun x11 =>
    bnd (pLoad Try.prog 26 x4.1 u.2) fun x12 =>
    bnd (inv (.func 23) #[] #[x12] u.2) fun x13 =>
    bnd (inv (.func 11) #[] #[x11, x13.1] x13.2) fun x14 =>
    bnd (kSt (pStore Try.prog 28 x2 x14.1 x14.2)) fun u_1 =>
    chkK ((!true || !true || (sameO (pLoad Try.prog 28 x2 u.2) x11 && sameO (pLoad Try.prog 28 x2 x13.2) x11)) && true) <|
    bnd (pBin Try.prog Go.BinOp.add 3 (Go.Operand.tmp 7) (Go.Operand.const (Go.Value.int Go.IntKind.i64 1)) x7 (Go.Value.int Go.IntKind.i64 1)) fun x15 =>
    F10_lrlr inv k j x2 x5 x6 x15 u_1.2 ke0)
    (ke0 x2 x5 x6 x7 x8 h)
theorem F10_lrlr_j {β : Type} {inv : Inv} {k : Nat} (j : Nat) {x2 x5 x6 x7 : Value} {h : AH} {K : XE → Act → AH → Option β} : kLoop (kCode env 10 false inv k (cl (cl (cr (cl (cr c10)))))) j (act 17 [(2, x2), (5, x5), (6, x6), (7, x7)]) h K = F10_lrlr inv k j x2 x5 x6 x7 h (fun y2 y5 y6 y7 y8 h => K (.exit 0) (act 17 [(2, y2), (5, y5), (6, y6), (7, y7), (8, y8)]) h) := by
      induction j generalizing x2 x5 x6 x7 h with
      | zero => rfl
      | succ j ih =>
        unfold F10_lrlr
        simp only [kLoop, k_seq (E := env) (f := 10) (c := (cl (cl (cr (cl (cr c10)))))) (by kernel_rfl), r10_2, k_seq (E := env) (f := 10) (c := (cr (cl (cl (cr (cl (cr c10))))))) (by kernel_rfl), b10_lrllrlr, k_skip (E := env) (f := 10) (c := (cl (cl (cr (cl (cl (cr (cl (cr c10))))))))) (by kernel_rfl), k_seq (E := env) (f := 10) (c := (cr (cr (cl (cl (cr (cl (cr c10)))))))) (by kernel_rfl), k_block (E := env) (f := 10) (c := (cl (cr (cr (cl (cl (cr (cl (cr c10))))))))) (id := 1) (by kernel_rfl), k_seq (E := env) (f := 10) (c := (cl (cl (cr (cr (cl (cl (cr (cl (cr c10)))))))))) (by kernel_rfl), r10_3, r10_4, r10_5, k_exit (E := env) (f := 10) (c := (cr (cl (cr (cl (cl (cr (cl (cr c10))))))))) (id := 0) (by kernel_rfl), ih, reduceIte, reduceCtorEq, XE.exit.injEq, Nat.reduceEqDiff] <;> kernel_rfl
theorem F10_lrlr_eq {β : Type} {inv : Inv} {k : Nat} {x2 x5 x6 x7 : Value} {h : AH} {K : XE → Act → AH → Option β} : kCode env 10 false inv k (cl (cr (cl (cr c10)))) (act 17 [(2, x2), (5, x5), (6, x6), (7, x7)]) h K = F10_lrlr inv k k x2 x5 x6 x7 h (fun y2 y5 y6 y7 y8 h => K (.exit 0) (act 17 [(2, y2), (5, y5), (6, y6), (7, y7), (8, y8)]) h) := (k_loop (by kernel_rfl)).trans (F10_lrlr_j k)
theorem r10_6 {β : Type} {inv : Inv} {k : Nat} {x2 x5 x6 x7 x8 : Value} {h : AH} {K : XE → Act → AH → Option β} : kCode env 10 false inv k (cl (cr (cr c10))) (act 17 [(2, x2), (5, x5), (6, x6), (7, x7), (8, x8)]) h K =
    bnd (pLoad Try.prog 28 x2 h) fun x16 =>
    bnd (kSt (pStore Try.prog 28 x2 x16 h)) fun u =>
    K .normal (act 17 [(2, x2)]) u.2 := (k_reg (by kernel_rfl)).trans (by kernel_rfl)
theorem res10_0 {x2 : Value} {h : AH} : resOfFn env.P 10 .ret (act 17 [(2, x2)]) h = bnd (pLoad Try.prog 28 x2 h) fun q0 =>
    some (q0, h) := (resOfFn_k (by kernel_rfl) (by kernel_rfl)).trans (by kernel_rfl)
/-- shadowbook/zone.Of -/
noncomputable def F10 (inv : Inv) (k : Nat) (x0 : Value) (h : AH) : Option (Value × AH) :=
    bnd (pAlloc Try.prog 28 h) fun x2 =>
    bnd (pLen Try.prog #[22] x0 x2.2) fun x6 =>
    F10_lrlr inv k k x2.1 x0 x6 (Go.Value.int Go.IntKind.i64 0) x2.2
    (fun y2 y5 y6 y7 y8 h =>
    bnd (pLoad Try.prog 28 y2 h) fun x16 =>
    bnd (kSt (pStore Try.prog 28 y2 x16 h)) fun u =>
    bnd (pLoad Try.prog 28 y2 u.2) fun q0 =>
    some (q0, u.2))
theorem F10_eq {inv : Inv} {k : Nat} {x0 : Value} {h : AH} : eFun env k inv 10 #[x0] h = F10 inv k x0 h := by
      refine (eFun_k2 (by kernel_rfl) (by kernel_rfl) (by kernel_rfl) (a := act 17 [(0, x0)]) (c := c10) (by kernel_rfl) (by kernel_rfl)).trans ?_
      unfold F10
      simp only [k_seq (E := env) (f := 10) (c := c10) (by kernel_rfl), r10_0, k_seq (E := env) (f := 10) (c := (cr c10)) (by kernel_rfl), k_seq (E := env) (f := 10) (c := (cl (cr c10))) (by kernel_rfl), r10_1, k_block (E := env) (f := 10) (c := (cr (cl (cr c10)))) (id := 0) (by kernel_rfl), F10_lrlr_eq, k_seq (E := env) (f := 10) (c := (cr (cr c10))) (by kernel_rfl), r10_6, k_ret (E := env) (f := 10) (c := (cr (cr (cr c10)))) (by kernel_rfl), res10_0, reduceIte, reduceCtorEq, XE.exit.injEq, Nat.reduceEqDiff] <;> kernel_rfl
theorem F10_call {k : Nat} {x0 : Value} {h : AH} : eInv env (k + 1) (.func 10) #[] #[x0] h = F10 (eInv env k) k x0 h := (inv_func (by kernel_rfl)).trans F10_eq
noncomputable def c11 : Code := codeOf Try.prog 11
theorem r11_0 {β : Type} {inv : Inv} {k : Nat} {x0 x1 : Value} {h : AH} {K : XE → Act → AH → Option β} : kCode env 11 false inv k (cl c11) (act 58 [(0, x0), (1, x1)]) h K =
    bnd (pBox Try.prog 28 x0 h) fun x2 =>
    bnd (pBox Try.prog 28 x1 x2.2) fun x3 =>
    bnd (pAlloc Try.prog 28 x3.2) fun x4 =>
    K .normal (act 58 [(2, x2.1), (3, x3.1), (4, x4.1)]) x4.2 := (k_reg (by kernel_rfl)).trans (by kernel_rfl)
theorem r11_1 {β : Type} {inv : Inv} {k : Nat} {x2 x3 x4 : Value} {h : AH} {K : XE → Act → AH → Option β} : kCode env 11 false inv k (cl (cr c11)) (act 58 [(2, x2), (3, x3), (4, x4)]) h K =
    bnd (pFieldAddr Try.prog 28 x2 0) fun x6 =>
    bnd (pLoad Try.prog 3 x6 h) fun x7 =>
    bnd (pFieldAddr Try.prog 28 x3 0) fun x8 =>
    bnd (pLoad Try.prog 3 x8 h) fun x9 =>
    bnd (pBin Try.prog Go.BinOp.add 3 (Go.Operand.tmp 7) (Go.Operand.tmp 9) x7 x9) fun x10 =>
    bnd (pFieldAddr Try.prog 28 x2 1) fun x11 =>
    bnd (pLoad Try.prog 3 x11 h) fun x12 =>
    bnd (pFieldAddr Try.prog 28 x3 1) fun x13 =>
    bnd (pLoad Try.prog 3 x13 h) fun x14 =>
    bnd (pBin Try.prog Go.BinOp.add 3 (Go.Operand.tmp 12) (Go.Operand.tmp 14) x12 x14) fun x15 =>
    bnd (pFieldAddr Try.prog 28 x2 2) fun x16 =>
    bnd (pLoad Try.prog 26 x16 h) fun x17 =>
    bnd (pFieldAddr Try.prog 28 x2 3) fun x18 =>
    bnd (pLoad Try.prog 26 x18 h) fun x19 =>
    bnd (pBuild Try.prog 28 #[(0, x10), (1, x15), (2, x17), (3, x19)]) fun x20 =>
    bnd (pAlloc Try.prog 28 h) fun x5 =>
    bnd (kSt (pStore Try.prog 28 x5.1 x20 x5.2)) fun u =>
    K .normal (act 58 [(2, x2), (3, x3), (4, x4), (5, x5.1)]) u.2 := (k_reg (by kernel_rfl)).trans (by kernel_rfl)
theorem r11_2 {β : Type} {inv : Inv} {k : Nat} {x2 x3 x4 x5 : Value} {h : AH} {K : XE → Act → AH → Option β} : kCode env 11 false inv k (cl (cl (cl (cr (cr c11))))) (act 58 [(2, x2), (3, x3), (4, x4), (5, x5)]) h K =
    bnd (pFieldAddr Try.prog 28 x2 0) fun x22 =>
    bnd (pLoad Try.prog 3 x22 h) fun x23 =>
    bnd (pFieldAddr Try.prog 28 x2 1) fun x24 =>
    bnd (pLoad Try.prog 3 x24 h) fun x25 =>
    bnd (pBin Try.prog Go.BinOp.eql 3 (Go.Operand.tmp 23) (Go.Operand.tmp 25) x23 x25) fun x26 =>
    K .normal (act 58 [(3, x3), (4, x4), (5, x5), (21, x26)]) h := (k_reg (by kernel_rfl)).trans (by kernel_rfl)
theorem b11_rllrr {β : Type} {inv : Inv} {k : Nat} {x3 x4 x5 x21 : Value} {h : AH} {K : XE → Act → AH → Option β} : kCode env 11 false inv k (cr (cl (cl (cr (cr c11))))) (act 58 [(3, x3), (4, x4), (5, x5), (21, x21)]) h K = brV x21 (kCode env 11 false inv k (cl (cr (cl (cl (cr (cr c11)))))) (act 58 [(3, x3), (4, x4), (5, x5), (21, x21)]) h K) (kCode env 11 false inv k (cr (cr (cl (cl (cr (cr c11)))))) (act 58 [(3, x3), (4, x4), (5, x5), (21, x21)]) h K) := (k_cond (by kernel_rfl)).trans (by kernel_rfl)
theorem r11_3 {β : Type} {inv : Inv} {k : Nat} {x3 x4 x5 x21 : Value} {h : AH} {K : XE → Act → AH → Option β} : kCode env 11 false inv k (cl (cr (cl (cl (cr (cr c11)))))) (act 58 [(3, x3), (4, x4), (5, x5), (21, x21)]) h K =
    bnd (pFieldAddr Try.prog 28 x3 2) fun x27 =>
    bnd (pLoad Try.prog 26 x27 h) fun x28 =>
    bnd (pFieldAddr Try.prog 28 x3 3) fun x29 =>
    bnd (pLoad Try.prog 26 x29 h) fun x30 =>
    bnd (pFieldAddr Try.prog 28 x5 2) fun x31 =>
    bnd (kSt (pStore Try.prog 26 x31 x28 h)) fun u =>
    bnd (pFieldAddr Try.prog 28 x5 3) fun x32 =>
    bnd (kSt (pStore Try.prog 26 x32 x30 u.2)) fun u_1 =>
    chkK ((!true || !true || (sameO (pLoad Try.prog 26 x29 h) x30 && sameO (pLoad Try.prog 26 x29 u.2) x30)) && true) <|
    K .normal (act 58 [(4, x4), (5, x5)]) u_1.2 := (k_draw (by kernel_rfl)).trans (by kernel_rfl)
theorem r11_4 {β : Type} {inv : Inv} {k : Nat} {x3 x4 x5 x21 : Value} {h : AH} {K : XE → Act → AH → Option β} : kCode env 11 false inv k (cl (cr (cr (cl (cl (cr (cr c11))))))) (act 58 [(3, x3), (4, x4), (5, x5), (21, x21)]) h K =
    bnd (pFieldAddr Try.prog 28 x3 0) fun x34 =>
    bnd (pLoad Try.prog 3 x34 h) fun x35 =>
    bnd (pFieldAddr Try.prog 28 x3 1) fun x36 =>
    bnd (pLoad Try.prog 3 x36 h) fun x37 =>
    bnd (pBin Try.prog Go.BinOp.neq 3 (Go.Operand.tmp 35) (Go.Operand.tmp 37) x35 x37) fun x38 =>
    K .normal (act 58 [(3, x3), (4, x4), (5, x5), (33, x38)]) h := (k_reg (by kernel_rfl)).trans (by kernel_rfl)
theorem b11_rrrllrr {β : Type} {inv : Inv} {k : Nat} {x3 x4 x5 x33 : Value} {h : AH} {K : XE → Act → AH → Option β} : kCode env 11 false inv k (cr (cr (cr (cl (cl (cr (cr c11))))))) (act 58 [(3, x3), (4, x4), (5, x5), (33, x33)]) h K = brV x33 (kCode env 11 false inv k (cl (cr (cr (cr (cl (cl (cr (cr c11)))))))) (act 58 [(3, x3), (4, x4), (5, x5), (33, x33)]) h K) (kCode env 11 false inv k (cr (cr (cr (cr (cl (cl (cr (cr c11)))))))) (act 58 [(3, x3), (4, x4), (5, x5), (33, x33)]) h K) := (k_cond (by kernel_rfl)).trans (by kernel_rfl)
theorem r11_5 {β : Type} {inv : Inv} {k : Nat} {x3 x4 x5 x33 : Value} {h : AH} {K : XE → Act → AH → Option β} : kCode env 11 false inv k (cl (cl (cl (cr (cr (cr (cl (cl (cr (cr c11)))))))))) (act 58 [(3, x3), (4, x4), (5, x5), (33, x33)]) h K =
    bnd (pFieldAddr Try.prog 28 x3 2) fun x39 =>
    bnd (pLoad Try.prog 26 x39 h) fun x40 =>
    bnd (pFieldAddr Try.prog 28 x5 2) fun x41 =>
    bnd (pLoad Try.prog 26 x41 h) fun x42 =>
    bnd (inv (.func 15) #[] #[x40, x42] h) fun x43 =>
    bnd (pBin Try.prog Go.BinOp.lss 3 (Go.Operand.tmp 43) (Go.Operand.const (Go.Value.int Go.IntKind.i64 0)) x43.1 (Go.Value.int Go.IntKind.i64 0)) fun x44 =>
    K .normal (act 58 [(3, x3), (4, x4), (5, x5), (44, x44)]) x43.2 := (k_reg (by kernel_rfl)).trans (by kernel_rfl)
theorem b11_rllrrrllrr {β : Type} {inv : Inv} {k : Nat} {x3 x4 x5 x44 : Value} {h : AH} {K : XE → Act → AH → Option β} : kCode env 11 false inv k (cr (cl (cl (cr (cr (cr (cl (cl (cr (cr c11)))))))))) (act 58 [(3, x3), (4, x4), (5, x5), (44, x44)]) h K = brV x44 (kCode env 11 false inv k (cl (cr (cl (cl (cr (cr (cr (cl (cl (cr (cr c11))))))))))) (act 58 [(3, x3), (4, x4), (5, x5), (44, x44)]) h K) (kCode env 11 false inv k (cr (cr (cl (cl (cr (cr (cr (cl (cl (cr (cr c11))))))))))) (act 58 [(3, x3), (4, x4), (5, x5), (44, x44)]) h K) := (k_cond (by kernel_rfl)).trans (by kernel_rfl)
theorem r11_6 {β : Type} {inv : Inv} {k : Nat} {x3 x4 x5 x44 : Value} {h : AH} {K : XE → Act → AH → Option β} : kCode env 11 false inv k (cl (cr (cl (cl (cr (cr (cr (cl (cl (cr (cr c11))))))))))) (act 58 [(3, x3), (4, x4), (5, x5), (44, x44)]) h K =
    bnd (pFieldAddr Try.prog 28 x3 2) fun x45 =>
    bnd (pLoad Try.prog 26 x45 h) fun x46 =>
    bnd (pFieldAddr Try.prog 28 x5 2) fun x47 =>
    bnd (kSt (pStore Try.prog 26 x47 x46 h)) fun u =>
    K .normal (act 58 [(3, x3), (4, x4), (5, x5)]) u.2 := (k_reg (by kernel_rfl)).trans (by kernel_rfl)
noncomputable def F11_rllrrrllrr {β : Type} (inv : Inv) (k : Nat) (x3 x4 x5 x44 : Value) (h : AH) (kn : (Value → Value → Value → Value → AH → Option β)) : Option β :=
    brV x44
    (bnd (pFieldAddr Try.prog 28 x3 2) fun x45 =>
    bnd (pLoad Try.prog 26 x45 h) fun x46 =>
    bnd (pFieldAddr Try.prog 28 x5 2) fun x47 =>
    bnd (kSt (pStore Try.prog 26 x47 x46 h)) fun u =>
    kn x3 x4 x5 unk u.2)
    (kn x3 x4 x5 x44 h)
theorem F11_rllrrrllrr_eq {β : Type} {inv : Inv} {k : Nat} {x3 x4 x5 x44 : Value} {h : AH} {K : XE → Act → AH → Option β} : kCode env 11 false inv k (cr (cl (cl (cr (cr (cr (cl (cl (cr (cr c11)))))))))) (act 58 [(3, x3), (4, x4), (5, x5), (44, x44)]) h K = F11_rllrrrllrr inv k x3 x4 x5 x44 h (fun y3 y4 y5 y44 h => K .normal (act 58 [(3, y3), (4, y4), (5, y5), (44, y44)]) h) := by
      unfold F11_rllrrrllrr
      simp only [b11_rllrrrllrr, r11_6, k_skip (E := env) (f := 11) (c := (cr (cr (cl (cl (cr (cr (cr (cl (cl (cr (cr c11)))))))))))) (by kernel_rfl), reduceIte, reduceCtorEq, XE.exit.injEq, Nat.reduceEqDiff] <;> kernel_rfl
theorem r11_7 {β : Type} {inv : Inv} {k : Nat} {x3 x4 x5 x44 : Value} {h : AH} {K : XE → Act → AH → Option β} : kCode env 11 false inv k (cl (cr (cl (cr (cr (cr (cl (cl (cr (cr c11)))))))))) (act 58 [(3, x3), (4, x4), (5, x5), (44, x44)]) h K =
    bnd (pFieldAddr Try.prog 28 x3 3) fun x48 =>
    bnd (pLoad Try.prog 26 x48 h) fun x49 =>
    bnd (pFieldAddr Try.prog 28 x5 3) fun x50 =>
    bnd (pLoad Try.prog 26 x50 h) fun x51 =>
    bnd (inv (.func 15) #[] #[x49, x51] h) fun x52 =>
    bnd (pBin Try.prog Go.BinOp.gtr 3 (Go.Operand.tmp 52) (Go.Operand.const (Go.Value.int Go.IntKind.i64 0)) x52.1 (Go.Value.int Go.IntKind.i64 0)) fun x53 =>
    K .normal (act 58 [(3, x3), (4, x4), (5, x5), (53, x53)]) x52.2 := (k_reg (by kernel_rfl)).trans (by kernel_rfl)
theorem b11_rrlrrrllrr {β : Type} {inv : Inv} {k : Nat} {x3 x4 x5 x53 : Value} {h : AH} {K : XE → Act → AH → Option β} : kCode env 11 false inv k (cr (cr (cl (cr (cr (cr (cl (cl (cr (cr c11)))))))))) (act 58 [(3, x3), (4, x4), (5, x5), (53, x53)]) h K = brV x53 (kCode env 11 false inv k (cl (cr (cr (cl (cr (cr (cr (cl (cl (cr (cr c11))))))))))) (act 58 [(3, x3), (4, x4), (5, x5), (53, x53)]) h K) (kCode env 11 false inv k (cr (cr (cr (cl (cr (cr (cr (cl (cl (cr (cr c11))))))))))) (act 58 [(3, x3), (4, x4), (5, x5), (53, x53)]) h K) := (k_cond (by kernel_rfl)).trans (by kernel_rfl)
theorem r11_8 {β : Type} {inv : Inv} {k : Nat} {x3 x4 x5 x53 : Value} {h : AH} {K : XE → Act → AH → Option β} : kCode env 11 false inv k (cl (cr (cr (cl (cr (cr (cr (cl (cl (cr (cr c11))))))))))) (act 58 [(3, x3), (4, x4), (5, x5), (53, x53)]) h K =
    bnd (pFieldAddr Try.prog 28 x3 3) fun x54 =>
    bnd (pLoad Try.prog 26 x54 h) fun x55 =>
    bnd (pFieldAddr Try.prog 28 x5 3) fun x56 =>
    bnd (kSt (pStore Try.prog 26 x56 x55 h)) fun u =>
    K .normal (act 58 [(4, x4), (5, x5)]) u.2 := (k_reg (by kernel_rfl)).trans (by kernel_rfl)
noncomputable def F11_lrr {β : Type} (inv : Inv) (k : Nat) (x2 x3 x4 x5 : Value) (h : AH) (kn : (Value → Value → Value → Value → Value → AH → Option β)) : Option β :=
    bnd (pFieldAddr Try.prog 28 x2 0) fun x22 =>
    bnd (pLoad Try.prog 3 x22 h) fun x23 =>
    bnd (pFieldAddr Try.prog 28 x2 1) fun x24 =>
    bnd (pLoad Try.prog 3 x24 h) fun x25 =>
    bnd (pBin Try.prog Go.BinOp.eql 3 (Go.Operand.tmp 23) (Go.Operand.tmp 25) x23 x25) fun x26 =>
    brV x26
    (bnd (pFieldAddr Try.prog 28 x3 2) fun x27 =>
    bnd (pLoad Try.prog 26 x27 h) fun x28 =>
    bnd (pFieldAddr Try.prog 28 x3 3) fun x29 =>
    bnd (pLoad Try.prog 26 x29 h) fun x30 =>
    bnd (pFieldAddr Try.prog 28 x5 2) fun x31 =>
    bnd (kSt (pStore Try.prog 26 x31 x28 h)) fun u =>
    bnd (pFieldAddr Try.prog 28 x5 3) fun x32 =>
    bnd (kSt (pStore Try.prog 26 x32 x30 u.2)) fun u_2 =>
    chkK ((!true || !true || (sameO (pLoad Try.prog 26 x29 h) x30 && sameO (pLoad Try.prog 26 x29 u.2) x30)) && true) <|
    kn unk x4 x5 unk unk u_2.2)
    (bnd (pFieldAddr Try.prog 28 x3 0) fun x34 =>
    bnd (pLoad Try.prog 3 x34 h) fun x35 =>
    bnd (pFieldAddr Try.prog 28 x3 1) fun x36 =>
    bnd (pLoad Try.prog 3 x36 h) fun x37 =>
    bnd (pBin Try.prog Go.BinOp.neq 3 (Go.Operand.tmp 35) (Go.Operand.tmp 37) x35 x37) fun x38 =>
    brV x38
    (bnd (pFieldAddr Try.prog 28 x3 2) fun x39 =>
    bnd (pLoad Try.prog 26 x39 h) fun x40 =>
    bnd (pFieldAddr Try.prog 28 x5 2) fun x41 =>
    bnd (pLoad Try.prog 26 x41 h) fun x42 =>
    bnd (inv (.func 15) #[] #[x40, x42] h) fun x43 =>
    bnd (pBin Try.prog Go.BinOp.lss 3 (Go.Operand.tmp 43) (Go.Operand.const (Go.Value.int Go.IntKind.i64 0)) x43.1 (Go.Value.int Go.IntKind.i64 0)) fun x44 =>
    F11_rllrrrllrr inv k x3 x4 x5 x44 x43.2
    (fun y3 y4 y5 y44 h =>
    bnd (pFieldAddr Try.prog 28 y3 3) fun x48 =>
    bnd (pLoad Try.prog 26 x48 h) fun x49 =>
    bnd (pFieldAddr Try.prog 28 y5 3) fun x50 =>
    bnd (pLoad Try.prog 26 x50 h) fun x51 =>
    bnd (inv (.func 15) #[] #[x49, x51] h) fun x52 =>
    bnd (pBin Try.prog Go.BinOp.gtr 3 (Go.Operand.tmp 52) (Go.Operand.const (Go.Value.int Go.IntKind.i64 0)) x52.1 (Go.Value.int Go.IntKind.i64 0)) fun x53 =>
    brV x53
    (bnd (pFieldAddr Try.prog 28 y3 3) fun x54 =>
    bnd (pLoad Try.prog 26 x54 x52.2) fun x55 =>
    bnd (pFieldAddr Try.prog 28 y5 3) fun x56 =>
    bnd (kSt (pStore Try.prog 26 x56 x55 x52.2)) fun u_3 =>
    kn unk y4 y5 unk unk u_3.2)
    (kn y3 y4 y5 unk x53 x52.2)))
    (kn x3 x4 x5 x38 unk h))
theorem F11_lrr_eq {β : Type} {inv : Inv} {k : Nat} {x2 x3 x4 x5 : Value} {h : AH} {K : XE → Act → AH → Option β} : kCode env 11 false inv k (cl (cr (cr c11))) (act 58 [(2, x2), (3, x3), (4, x4), (5, x5)]) h K = F11_lrr inv k x2 x3 x4 x5 h (fun y3 y4 y5 y33 y53 h => K .normal (act 58 [(3, y3), (4, y4), (5, y5), (33, y33), (53, y53)]) h) := by
      unfold F11_lrr
      simp only [k_block (E := env) (f := 11) (c := (cl (cr (cr c11)))) (id := 0) (by kernel_rfl), k_seq (E := env) (f := 11) (c := (cl (cl (cr (cr c11))))) (by kernel_rfl), r11_2, b11_rllrr, r11_3, k_seq (E := env) (f := 11) (c := (cr (cr (cl (cl (cr (cr c11))))))) (by kernel_rfl), r11_4, b11_rrrllrr, k_seq (E := env) (f := 11) (c := (cl (cr (cr (cr (cl (cl (cr (cr c11))))))))) (by kernel_rfl), k_seq (E := env) (f := 11) (c := (cl (cl (cr (cr (cr (cl (cl (cr (cr c11)))))))))) (by kernel_rfl), r11_5, F11_rllrrrllrr_eq, k_seq (E := env) (f := 11) (c := (cr (cl (cr (cr (cr (cl (cl (cr (cr c11)))))))))) (by kernel_rfl), r11_7, b11_rrlrrrllrr, r11_8, k_skip (E := env) (f := 11) (c := (cr (cr (cr (cl (cr (cr (cr (cl (cl (cr (cr c11)))))))))))) (by kernel_rfl), k_skip (E := env) (f := 11) (c := (cr (cr (cr (cr (cl (cl (cr (cr c11))))))))) (by kernel_rfl), reduceIte, reduceCtorEq, XE.exit.injEq, Nat.reduceEqDiff] <;> kernel_rfl
theorem r11_9 {β : Type} {inv : Inv} {k : Nat} {x3 x4 x5 x33 x53 : Value} {h : AH} {K : XE → Act → AH → Option β} : kCode env 11 false inv k (cl (cr (cr (cr c11)))) (act 58 [(3, x3), (4, x4), (5, x5), (33, x33), (53, x53)]) h K =
    bnd (pLoad Try.prog 28 x5 h) fun x57 =>
    bnd (kSt (pStore Try.prog 28 x4 x57 h)) fun u =>
    K .normal (act 58 [(4, x4)]) u.2 := (k_reg (by kernel_rfl)).trans (by kernel_rfl)
theorem res11_0 {x4 : Value} {h : AH} : resOfFn env.P 11 .ret (act 58 [(4, x4)]) h = bnd (pLoad Try.prog 28 x4 h) fun q0 =>
    some (q0, h) := (resOfFn_k (by kernel_rfl) (by kernel_rfl)).trans (by kernel_rfl)
/-- shadowbook/zone.Join -/
noncomputable def F11 (inv : Inv) (k : Nat) (x0 x1 : Value) (h : AH) : Option (Value × AH) :=
    bnd (pBox Try.prog 28 x0 h) fun x2 =>
    bnd (pBox Try.prog 28 x1 x2.2) fun x3 =>
    bnd (pAlloc Try.prog 28 x3.2) fun x4 =>
    bnd (pFieldAddr Try.prog 28 x2.1 0) fun x6 =>
    bnd (pLoad Try.prog 3 x6 x4.2) fun x7 =>
    bnd (pFieldAddr Try.prog 28 x3.1 0) fun x8 =>
    bnd (pLoad Try.prog 3 x8 x4.2) fun x9 =>
    bnd (pBin Try.prog Go.BinOp.add 3 (Go.Operand.tmp 7) (Go.Operand.tmp 9) x7 x9) fun x10 =>
    bnd (pFieldAddr Try.prog 28 x2.1 1) fun x11 =>
    bnd (pLoad Try.prog 3 x11 x4.2) fun x12 =>
    bnd (pFieldAddr Try.prog 28 x3.1 1) fun x13 =>
    bnd (pLoad Try.prog 3 x13 x4.2) fun x14 =>
    bnd (pBin Try.prog Go.BinOp.add 3 (Go.Operand.tmp 12) (Go.Operand.tmp 14) x12 x14) fun x15 =>
    bnd (pFieldAddr Try.prog 28 x2.1 2) fun x16 =>
    bnd (pLoad Try.prog 26 x16 x4.2) fun x17 =>
    bnd (pFieldAddr Try.prog 28 x2.1 3) fun x18 =>
    bnd (pLoad Try.prog 26 x18 x4.2) fun x19 =>
    bnd (pBuild Try.prog 28 #[(0, x10), (1, x15), (2, x17), (3, x19)]) fun x20 =>
    bnd (pAlloc Try.prog 28 x4.2) fun x5 =>
    bnd (kSt (pStore Try.prog 28 x5.1 x20 x5.2)) fun u =>
    F11_lrr inv k x2.1 x3.1 x4.1 x5.1 u.2
    (fun y3 y4 y5 y33 y53 h =>
    bnd (pLoad Try.prog 28 y5 h) fun x57 =>
    bnd (kSt (pStore Try.prog 28 y4 x57 h)) fun u_4 =>
    bnd (pLoad Try.prog 28 y4 u_4.2) fun q0 =>
    some (q0, u_4.2))
theorem F11_eq {inv : Inv} {k : Nat} {x0 x1 : Value} {h : AH} : eFun env k inv 11 #[x0, x1] h = F11 inv k x0 x1 h := by
      refine (eFun_k2 (by kernel_rfl) (by kernel_rfl) (by kernel_rfl) (a := act 58 [(0, x0), (1, x1)]) (c := c11) (by kernel_rfl) (by kernel_rfl)).trans ?_
      unfold F11
      simp only [k_seq (E := env) (f := 11) (c := c11) (by kernel_rfl), r11_0, k_seq (E := env) (f := 11) (c := (cr c11)) (by kernel_rfl), r11_1, k_seq (E := env) (f := 11) (c := (cr (cr c11))) (by kernel_rfl), F11_lrr_eq, k_seq (E := env) (f := 11) (c := (cr (cr (cr c11)))) (by kernel_rfl), r11_9, k_ret (E := env) (f := 11) (c := (cr (cr (cr (cr c11))))) (by kernel_rfl), res11_0, reduceIte, reduceCtorEq, XE.exit.injEq, Nat.reduceEqDiff] <;> kernel_rfl
theorem F11_call {k : Nat} {x0 x1 : Value} {h : AH} : eInv env (k + 1) (.func 11) #[] #[x0, x1] h = F11 (eInv env k) k x0 x1 h := (inv_func (by kernel_rfl)).trans F11_eq
noncomputable def c12 : Code := codeOf Try.prog 12
theorem r12_0 {β : Type} {inv : Inv} {k : Nat} {x0 : Value} {h : AH} {K : XE → Act → AH → Option β} : kCode env 12 false inv k (cl c12) (act 6 [(0, x0)]) h K =
    K .normal (act 6 [(0, x0)]) h := (k_reg (by kernel_rfl)).trans (by kernel_rfl)
theorem r12_1 {β : Type} {inv : Inv} {k : Nat} {x0 : Value} {h : AH} {K : XE → Act → AH → Option β} : kCode env 12 false inv k (cl (cr c12)) (act 6 [(0, x0)]) h K =
    bnd (pBuildSlice Try.prog 22 0 #[] h) fun x3 =>
    bnd (pAppend Try.prog #[22, 22] x3.1 x0 x3.2) fun x5 =>
    K .normal (act 6 [(2, x5.1)]) x5.2 := (k_reg (by kernel_rfl)).trans (by kernel_rfl)
theorem res12_0 {x2 : Value} {h : AH} : resOfFn env.P 12 .ret (act 6 [(2, x2)]) h = some (x2, h) := (resOfFn_k (by kernel_rfl) (by kernel_rfl)).trans (by kernel_rfl)
/-- shadowbook/shadowbookkit.Own[shadowbook/api.Cell] -/
noncomputable def F12 (inv : Inv) (k : Nat) (x0 : Value) (h : AH) : Option (Value × AH) :=
    bnd (pBuildSlice Try.prog 22 0 #[] h) fun x3 =>
    bnd (pAppend Try.prog #[22, 22] x3.1 x0 x3.2) fun x5 =>
    some (x5.1, x5.2)
theorem F12_eq {inv : Inv} {k : Nat} {x0 : Value} {h : AH} : eFun env k inv 12 #[x0] h = F12 inv k x0 h := by
      refine (eFun_k2 (by kernel_rfl) (by kernel_rfl) (by kernel_rfl) (a := act 6 [(0, x0)]) (c := c12) (by kernel_rfl) (by kernel_rfl)).trans ?_
      unfold F12
      simp only [k_seq (E := env) (f := 12) (c := c12) (by kernel_rfl), r12_0, k_seq (E := env) (f := 12) (c := (cr c12)) (by kernel_rfl), r12_1, k_ret (E := env) (f := 12) (c := (cr (cr c12))) (by kernel_rfl), res12_0, reduceIte, reduceCtorEq, XE.exit.injEq, Nat.reduceEqDiff] <;> kernel_rfl
theorem F12_call {k : Nat} {x0 : Value} {h : AH} : eInv env (k + 1) (.func 12) #[] #[x0] h = F12 (eInv env k) k x0 h := (inv_func (by kernel_rfl)).trans F12_eq
noncomputable def c13 : Code := codeOf Try.prog 13
theorem r13_0 {β : Type} {inv : Inv} {k : Nat} {x0 x1 : Value} {h : AH} {K : XE → Act → AH → Option β} : kCode env 13 false inv k (cl c13) (act 17 [(0, x0), (1, x1)]) h K =
    K .normal (act 17 [(0, x0), (1, x1)]) h := (k_reg (by kernel_rfl)).trans (by kernel_rfl)
theorem r13_1 {β : Type} {inv : Inv} {k : Nat} {x0 x1 : Value} {h : AH} {K : XE → Act → AH → Option β} : kCode env 13 false inv k (cl (cl (cr c13))) (act 17 [(0, x0), (1, x1)]) h K =
    bnd (pBin Try.prog Go.BinOp.lss 3 (Go.Operand.tmp 6) (Go.Operand.const (Go.Value.int Go.IntKind.i64 1)) x1 (Go.Value.int Go.IntKind.i64 1)) fun x7 =>
    K .normal (act 17 [(0, x0), (1, x1), (7, x7)]) h := (k_reg (by kernel_rfl)).trans (by kernel_rfl)
theorem b13_rlr {β : Type} {inv : Inv} {k : Nat} {x0 x1 x7 : Value} {h : AH} {K : XE → Act → AH → Option β} : kCode env 13 false inv k (cr (cl (cr c13))) (act 17 [(0, x0), (1, x1), (7, x7)]) h K = brV x7 (kCode env 13 false inv k (cl (cr (cl (cr c13)))) (act 17 [(0, x0), (1, x1), (7, x7)]) h K) (kCode env 13 false inv k (cr (cr (cl (cr c13)))) (act 17 [(0, x0), (1, x1), (7, x7)]) h K) := (k_cond (by kernel_rfl)).trans (by kernel_rfl)
theorem r13_2 {β : Type} {inv : Inv} {k : Nat} {x0 x1 x7 : Value} {h : AH} {K : XE → Act → AH → Option β} : kCode env 13 false inv k (cl (cl (cr (cl (cr c13))))) (act 17 [(0, x0), (1, x1), (7, x7)]) h K =
    K .normal (act 17 [(4, (Go.Value.int Go.IntKind.i64 0))]) h := (k_reg (by kernel_rfl)).trans (by kernel_rfl)
theorem res13_0 {x4 : Value} {h : AH} : resOfFn env.P 13 .ret (act 17 [(4, x4)]) h = some (x4, h) := (resOfFn_k (by kernel_rfl) (by kernel_rfl)).trans (by kernel_rfl)
theorem r13_3 {β : Type} {inv : Inv} {k : Nat} {x0 x1 x7 : Value} {h : AH} {K : XE → Act → AH → Option β} : kCode env 13 false inv k (cl (cr (cr c13))) (act 17 [(0, x0), (1, x1), (7, x7)]) h K =
    bnd (pBin Try.prog Go.BinOp.rem 3 (Go.Operand.tmp 8) (Go.Operand.tmp 9) x0 x1) fun x10 =>
    K .normal (act 17 [(1, x1), (5, x10)]) h := (k_reg (by kernel_rfl)).trans (by kernel_rfl)
theorem r13_4 {β : Type} {inv : Inv} {k : Nat} {x1 x5 : Value} {h : AH} {K : XE → Act → AH → Option β} : kCode env 13 false inv k (cl (cl (cr (cr (cr c13))))) (act 17 [(1, x1), (5, x5)]) h K =
    bnd (pBin Try.prog Go.BinOp.lss 3 (Go.Operand.tmp 11) (Go.Operand.const (Go.Value.int Go.IntKind.i64 0)) x5 (Go.Value.int Go.IntKind.i64 0)) fun x12 =>
    K .normal (act 17 [(1, x1), (5, x5), (12, x12)]) h := (k_reg (by kernel_rfl)).trans (by kernel_rfl)
theorem b13_rlrrr {β : Type} {inv : Inv} {k : Nat} {x1 x5 x12 : Value} {h : AH} {K : XE → Act → AH → Option β} : kCode env 13 false inv k (cr (cl (cr (cr (cr c13))))) (act 17 [(1, x1), (5, x5), (12, x12)]) h K = brV x12 (kCode env 13 false inv k (cl (cr (cl (cr (cr (cr c13)))))) (act 17 [(1, x1), (5, x5), (12, x12)]) h K) (kCode env 13 false inv k (cr (cr (cl (cr (cr (cr c13)))))) (act 17 [(1, x1), (5, x5), (12, x12)]) h K) := (k_cond (by kernel_rfl)).trans (by kernel_rfl)
theorem r13_5 {β : Type} {inv : Inv} {k : Nat} {x1 x5 x12 : Value} {h : AH} {K : XE → Act → AH → Option β} : kCode env 13 false inv k (cl (cr (cl (cr (cr (cr c13)))))) (act 17 [(1, x1), (5, x5), (12, x12)]) h K =
    bnd (pBin Try.prog Go.BinOp.add 3 (Go.Operand.tmp 13) (Go.Operand.tmp 14) x5 x1) fun x15 =>
    K .normal (act 17 [(5, x15)]) h := (k_reg (by kernel_rfl)).trans (by kernel_rfl)
noncomputable def F13_rlrrr {β : Type} (inv : Inv) (k : Nat) (x1 x5 x12 : Value) (h : AH) (kn : (Value → Value → Value → AH → Option β)) : Option β :=
    brV x12
    (bnd (pBin Try.prog Go.BinOp.add 3 (Go.Operand.tmp 13) (Go.Operand.tmp 14) x5 x1) fun x15 =>
    kn unk x15 unk h)
    (kn x1 x5 x12 h)
theorem F13_rlrrr_eq {β : Type} {inv : Inv} {k : Nat} {x1 x5 x12 : Value} {h : AH} {K : XE → Act → AH → Option β} : kCode env 13 false inv k (cr (cl (cr (cr (cr c13))))) (act 17 [(1, x1), (5, x5), (12, x12)]) h K = F13_rlrrr inv k x1 x5 x12 h (fun y1 y5 y12 h => K .normal (act 17 [(1, y1), (5, y5), (12, y12)]) h) := by
      unfold F13_rlrrr
      simp only [b13_rlrrr, r13_5, k_skip (E := env) (f := 13) (c := (cr (cr (cl (cr (cr (cr c13))))))) (by kernel_rfl), reduceIte, reduceCtorEq, XE.exit.injEq, Nat.reduceEqDiff] <;> kernel_rfl
theorem r13_6 {β : Type} {inv : Inv} {k : Nat} {x1 x5 x12 : Value} {h : AH} {K : XE → Act → AH → Option β} : kCode env 13 false inv k (cl (cr (cr (cr (cr c13))))) (act 17 [(1, x1), (5, x5), (12, x12)]) h K =
    K .normal (act 17 [(4, x5)]) h := (k_reg (by kernel_rfl)).trans (by kernel_rfl)
/-- shadowbook/shadowbookkit.Pick -/
noncomputable def F13 (inv : Inv) (k : Nat) (x0 x1 : Value) (h : AH) : Option (Value × AH) :=
    bnd (pBin Try.prog Go.BinOp.lss 3 (Go.Operand.tmp 6) (Go.Operand.const (Go.Value.int Go.IntKind.i64 1)) x1 (Go.Value.int Go.IntKind.i64 1)) fun x7 =>
    brV x7
    (some ((Go.Value.int Go.IntKind.i64 0), h))
    (bnd (pBin Try.prog Go.BinOp.rem 3 (Go.Operand.tmp 8) (Go.Operand.tmp 9) x0 x1) fun x10 =>
    bnd (pBin Try.prog Go.BinOp.lss 3 (Go.Operand.tmp 11) (Go.Operand.const (Go.Value.int Go.IntKind.i64 0)) x10 (Go.Value.int Go.IntKind.i64 0)) fun x12 =>
    F13_rlrrr inv k x1 x10 x12 h
    (fun y1 y5 y12 h =>
    some (y5, h)))
theorem F13_eq {inv : Inv} {k : Nat} {x0 x1 : Value} {h : AH} : eFun env k inv 13 #[x0, x1] h = F13 inv k x0 x1 h := by
      refine (eFun_k2 (by kernel_rfl) (by kernel_rfl) (by kernel_rfl) (a := act 17 [(0, x0), (1, x1)]) (c := c13) (by kernel_rfl) (by kernel_rfl)).trans ?_
      unfold F13
      simp only [k_seq (E := env) (f := 13) (c := c13) (by kernel_rfl), r13_0, k_seq (E := env) (f := 13) (c := (cr c13)) (by kernel_rfl), k_seq (E := env) (f := 13) (c := (cl (cr c13))) (by kernel_rfl), r13_1, b13_rlr, k_seq (E := env) (f := 13) (c := (cl (cr (cl (cr c13))))) (by kernel_rfl), r13_2, k_ret (E := env) (f := 13) (c := (cr (cl (cr (cl (cr c13)))))) (by kernel_rfl), res13_0, k_skip (E := env) (f := 13) (c := (cr (cr (cl (cr c13))))) (by kernel_rfl), k_seq (E := env) (f := 13) (c := (cr (cr c13))) (by kernel_rfl), r13_3, k_seq (E := env) (f := 13) (c := (cr (cr (cr c13)))) (by kernel_rfl), k_seq (E := env) (f := 13) (c := (cl (cr (cr (cr c13))))) (by kernel_rfl), r13_4, F13_rlrrr_eq, k_seq (E := env) (f := 13) (c := (cr (cr (cr (cr c13))))) (by kernel_rfl), r13_6, k_ret (E := env) (f := 13) (c := (cr (cr (cr (cr (cr c13)))))) (by kernel_rfl), reduceIte, reduceCtorEq, XE.exit.injEq, Nat.reduceEqDiff] <;> kernel_rfl
theorem F13_call {k : Nat} {x0 x1 : Value} {h : AH} : eInv env (k + 1) (.func 13) #[] #[x0, x1] h = F13 (eInv env k) k x0 x1 h := (inv_func (by kernel_rfl)).trans F13_eq
noncomputable def c14 : Code := codeOf Try.prog 14
theorem r14_0 {β : Type} {inv : Inv} {k : Nat} {x0 x1 x2 : Value} {h : AH} {K : XE → Act → AH → Option β} : kCode env 14 false inv k (cl c14) (act 61 [(0, x0), (1, x1), (2, x2)]) h K =
    bnd (pBox Try.prog 28 x0 h) fun x3 =>
    bnd (pBox Try.prog 26 x2 x3.2) fun x5 =>
    K .normal (act 61 [(1, x1), (3, x3.1), (5, x5.1)]) x5.2 := (k_reg (by kernel_rfl)).trans (by kernel_rfl)
theorem r14_1 {β : Type} {inv : Inv} {k : Nat} {x1 x3 x5 : Value} {h : AH} {K : XE → Act → AH → Option β} : kCode env 14 false inv k (cl (cl (cr c14))) (act 61 [(1, x1), (3, x3), (5, x5)]) h K =
    bnd (pFieldAddr Try.prog 26 x5 0) fun x9 =>
    bnd (pLoad Try.prog 3 x9 h) fun x10 =>
    bnd (pBin Try.prog Go.BinOp.eql 3 (Go.Operand.tmp 10) (Go.Operand.const (Go.Value.int Go.IntKind.i64 0)) x10 (Go.Value.int Go.IntKind.i64 0)) fun x11 =>
    bnd (gd (some x11) false h (lt (pFieldAddr Try.prog 28 x3 0) h)) fun x13 =>
    bnd (gd (some x11) false x13.2 (lt (pLoad Try.prog 3 x13.1 x13.2) x13.2)) fun x14 =>
    bnd (gd (some x11) false x14.2 (lt (pFieldAddr Try.prog 28 x3 1) x14.2)) fun x15 =>
    bnd (gd (some x11) false x15.2 (lt (pLoad Try.prog 3 x15.1 x15.2) x15.2)) fun x16 =>
    bnd (gd (some x11) false x16.2 (lt (pBin Try.prog Go.BinOp.eql 3 (Go.Operand.tmp 14) (Go.Operand.tmp 16) x14.1 x16.1) x16.2)) fun x17 =>
    bnd (pickV x11 (Go.Value.bool true) x17.1) fun x18 =>
    bnd (gd (some x18) false x17.2 (lt (pFieldAddr Try.prog 26 x5 0) x17.2)) fun x20 =>
    bnd (gd (some x18) false x20.2 (lt (pLoad Try.prog 3 x20.1 x20.2) x20.2)) fun x21 =>
    bnd (gd (some x18) false x21.2 (lt (pFieldAddr Try.prog 28 x3 2) x21.2)) fun x22 =>
    bnd (gd (some x18) false x22.2 (lt (pFieldAddr Try.prog 26 x22.1 0) x22.2)) fun x23 =>
    bnd (gd (some x18) false x23.2 (lt (pLoad Try.prog 3 x23.1 x23.2) x23.2)) fun x24 =>
    bnd (gd (some x18) false x24.2 (lt (pBin Try.prog Go.BinOp.neq 3 (Go.Operand.tmp 21) (Go.Operand.tmp 24) x21.1 x24.1) x24.2)) fun x25 =>
    bnd (pickV x18 (Go.Value.bool true) x25.1) fun x26 =>
    K .normal (act 61 [(1, x1), (3, x3), (5, x5), (26, x26)]) x25.2 := (k_reg (by kernel_rfl)).trans (by kernel_rfl)
theorem b14_rlr {β : Type} {inv : Inv} {k : Nat} {x1 x3 x5 x26 : Value} {h : AH} {K : XE → Act → AH → Option β} : kCode env 14 false inv k (cr (cl (cr c14))) (act 61 [(1, x1), (3, x3), (5, x5), (26, x26)]) h K = brV x26 (kCode env 14 false inv k (cl (cr (cl (cr c14)))) (act 61 [(1, x1), (3, x3), (5, x5), (26, x26)]) h K) (kCode env 14 false inv k (cr (cr (cl (cr c14)))) (act 61 [(1, x1), (3, x3), (5, x5), (26, x26)]) h K) := (k_cond (by kernel_rfl)).trans (by kernel_rfl)
theorem r14_2 {β : Type} {inv : Inv} {k : Nat} {x1 x3 x5 x26 : Value} {h : AH} {K : XE → Act → AH → Option β} : kCode env 14 false inv k (cl (cl (cr (cl (cr c14))))) (act 61 [(1, x1), (3, x3), (5, x5), (26, x26)]) h K =
    K .normal (act 61 [(6, (Go.Value.bool false))]) h := (k_reg (by kernel_rfl)).trans (by kernel_rfl)
theorem res14_0 {x6 : Value} {h : AH} : resOfFn env.P 14 .ret (act 61 [(6, x6)]) h = some (x6, h) := (resOfFn_k (by kernel_rfl) (by kernel_rfl)).trans (by kernel_rfl)
theorem r14_3 {β : Type} {inv : Inv} {k : Nat} {x1 x3 x5 x26 : Value} {h : AH} {K : XE → Act → AH → Option β} : kCode env 14 false inv k (cl (cr (cr c14))) (act 61 [(1, x1), (3, x3), (5, x5), (26, x26)]) h K =
    bnd (pFieldAddr Try.prog 28 x3 2) fun x27 =>
    bnd (pLoad Try.prog 26 x27 h) fun x28 =>
    bnd (pLoad Try.prog 26 x5 h) fun x29 =>
    bnd (inv (.func 15) #[] #[x28, x29] h) fun x30 =>
    bnd (pFieldAddr Try.prog 28 x3 3) fun x31 =>
    bnd (pLoad Try.prog 26 x31 x30.2) fun x32 =>
    bnd (pLoad Try.prog 26 x5 x30.2) fun x33 =>
    bnd (inv (.func 15) #[] #[x32, x33] x30.2) fun x34 =>
    chkK ((!true || !true || (sameO (pLoad Try.prog 26 x31 h) x32 && sameO (pLoad Try.prog 26 x31 x30.2) x32)) && ((!true || !true || (sameO (pLoad Try.prog 26 x5 h) x33 && sameO (pLoad Try.prog 26 x5 x30.2) x33)) && true)) <|
    K .normal (act 61 [(1, x1), (7, x30.1), (8, x34.1)]) x34.2 := (k_draw (by kernel_rfl)).trans (by kernel_rfl)
theorem r14_4 {β : Type} {inv : Inv} {k : Nat} {x1 x7 x8 : Value} {h : AH} {K : XE → Act → AH → Option β} : kCode env 14 false inv k (cl (cl (cr (cr (cr c14))))) (act 61 [(1, x1), (7, x7), (8, x8)]) h K =
    K .normal (act 61 [(1, x1), (7, x7), (8, x8), (35, x1)]) h := (k_reg (by kernel_rfl)).trans (by kernel_rfl)
theorem r14_5 {β : Type} {inv : Inv} {k : Nat} {x1 x7 x8 x35 : Value} {h : AH} {K : XE → Act → AH → Option β} : kCode env 14 false inv k (cl (cl (cr (cl (cr (cr (cr c14))))))) (act 61 [(1, x1), (7, x7), (8, x8), (35, x35)]) h K =
    bnd (pBin Try.prog Go.BinOp.eql 3 (Go.Operand.tmp 35) (Go.Operand.const (Go.Value.int Go.IntKind.i64 1)) x35 (Go.Value.int Go.IntKind.i64 1)) fun x37 =>
    K .normal (act 61 [(1, x1), (7, x7), (8, x8), (35, x35), (36, x37)]) h := (k_reg (by kernel_rfl)).trans (by kernel_rfl)
theorem b14_rlrlrrr {β : Type} {inv : Inv} {k : Nat} {x1 x7 x8 x35 x36 : Value} {h : AH} {K : XE → Act → AH → Option β} : kCode env 14 false inv k (cr (cl (cr (cl (cr (cr (cr c14))))))) (act 61 [(1, x1), (7, x7), (8, x8), (35, x35), (36, x36)]) h K = brV x36 (kCode env 14 false inv k (cl (cr (cl (cr (cl (cr (cr (cr c14)))))))) (act 61 [(1, x1), (7, x7), (8, x8), (35, x35), (36, x36)]) h K) (kCode env 14 false inv k (cr (cr (cl (cr (cl (cr (cr (cr c14)))))))) (act 61 [(1, x1), (7, x7), (8, x8), (35, x35), (36, x36)]) h K) := (k_cond (by kernel_rfl)).trans (by kernel_rfl)
theorem r14_6 {β : Type} {inv : Inv} {k : Nat} {x1 x7 x8 x35 x36 : Value} {h : AH} {K : XE → Act → AH → Option β} : kCode env 14 false inv k (cl (cl (cr (cl (cr (cl (cr (cr (cr c14))))))))) (act 61 [(1, x1), (7, x7), (8, x8), (35, x35), (36, x36)]) h K =
    bnd (inv (.func 24) #[] #[x7] h) fun x39 =>
    bnd (gd (some x39.1) true x39.2 (some (x8, x39.2))) fun x41 =>
    bnd (gd (some x39.1) true x41.2 (inv (.func 25) #[] #[x41.1] x41.2)) fun x42 =>
    bnd (pickV x39.1 x42.1 (Go.Value.bool false)) fun x43 =>
    K .normal (act 61 [(6, x43)]) x42.2 := (k_reg (by kernel_rfl)).trans (by kernel_rfl)
theorem r14_7 {β : Type} {inv : Inv} {k : Nat} {x1 x7 x8 x35 x36 : Value} {h : AH} {K : XE → Act → AH → Option β} : kCode env 14 false inv k (cl (cr (cr (cl (cr (cl (cr (cr (cr c14))))))))) (act 61 [(1, x1), (7, x7), (8, x8), (35, x35), (36, x36)]) h K =
    bnd (pBin Try.prog Go.BinOp.eql 3 (Go.Operand.tmp 35) (Go.Operand.const (Go.Value.int Go.IntKind.i64 2)) x35 (Go.Value.int Go.IntKind.i64 2)) fun x45 =>
    K .normal (act 61 [(1, x1), (7, x7), (8, x8), (35, x35), (44, x45)]) h := (k_reg (by kernel_rfl)).trans (by kernel_rfl)
theorem b14_rrrlrlrrr {β : Type} {inv : Inv} {k : Nat} {x1 x7 x8 x35 x44 : Value} {h : AH} {K : XE → Act → AH → Option β} : kCode env 14 false inv k (cr (cr (cr (cl (cr (cl (cr (cr (cr c14))))))))) (act 61 [(1, x1), (7, x7), (8, x8), (35, x35), (44, x44)]) h K = brV x44 (kCode env 14 false inv k (cl (cr (cr (cr (cl (cr (cl (cr (cr (cr c14)))))))))) (act 61 [(1, x1), (7, x7), (8, x8), (35, x35), (44, x44)]) h K) (kCode env 14 false inv k (cr (cr (cr (cr (cl (cr (cl (cr (cr (cr c14)))))))))) (act 61 [(1, x1), (7, x7), (8, x8), (35, x35), (44, x44)]) h K) := (k_cond (by kernel_rfl)).trans (by kernel_rfl)
theorem r14_8 {β : Type} {inv : Inv} {k : Nat} {x1 x7 x8 x35 x44 : Value} {h : AH} {K : XE → Act → AH → Option β} : kCode env 14 false inv k (cl (cl (cr (cr (cr (cl (cr (cl (cr (cr (cr c14))))))))))) (act 61 [(1, x1), (7, x7), (8, x8), (35, x35), (44, x44)]) h K =
    bnd (inv (.func 26) #[] #[x7] h) fun x47 =>
    bnd (gd (some x47.1) false x47.2 (some (x8, x47.2))) fun x49 =>
    bnd (gd (some x47.1) false x49.2 (inv (.func 26) #[] #[x49.1] x49.2)) fun x50 =>
    bnd (pickV x47.1 (Go.Value.bool true) x50.1) fun x51 =>
    K .normal (act 61 [(6, x51)]) x50.2 := (k_reg (by kernel_rfl)).trans (by kernel_rfl)
theorem r14_9 {β : Type} {inv : Inv} {k : Nat} {x1 x7 x8 x35 x44 : Value} {h : AH} {K : XE → Act → AH → Option β} : kCode env 14 false inv k (cl (cl (cr (cr (cr (cr (cl (cr (cl (cr (cr (cr c14)))))))))))) (act 61 [(1, x1), (7, x7), (8, x8), (35, x35), (44, x44)]) h K =
    bnd (pBin Try.prog Go.BinOp.eql 3 (Go.Operand.tmp 35) (Go.Operand.const (Go.Value.int Go.IntKind.i64 3)) x35 (Go.Value.int Go.IntKind.i64 3)) fun x53 =>
    K .normal (act 61 [(1, x1), (7, x7), (8, x8), (35, x35), (52, x53)]) h := (k_reg (by kernel_rfl)).trans (by kernel_rfl)
theorem b14_rlrrrrlrlrrr {β : Type} {inv : Inv} {k : Nat} {x1 x7 x8 x35 x52 : Value} {h : AH} {K : XE → Act → AH → Option β} : kCode env 14 false inv k (cr (cl (cr (cr (cr (cr (cl (cr (cl (cr (cr (cr c14)))))))))))) (act 61 [(1, x1), (7, x7), (8, x8), (35, x35), (52, x52)]) h K = brV x52 (kCode env 14 false inv k (cl (cr (cl (cr (cr (cr (cr (cl (cr (cl (cr (cr (cr c14))))))))))))) (act 61 [(1, x1), (7, x7), (8, x8), (35, x35), (52, x52)]) h K) (kCode env 14 false inv k (cr (cr (cl (cr (cr (cr (cr (cl (cr (cl (cr (cr (cr c14))))))))))))) (act 61 [(1, x1), (7, x7), (8, x8), (35, x35), (52, x52)]) h K) := (k_cond (by kernel_rfl)).trans (by kernel_rfl)
theorem r14_10 {β : Type} {inv : Inv} {k : Nat} {x1 x7 x8 x35 x52 : Value} {h : AH} {K : XE → Act → AH → Option β} : kCode env 14 false inv k (cr (cr (cl (cr (cr (cr (cr (cl (cr (cl (cr (cr (cr c14))))))))))))) (act 61 [(1, x1), (7, x7), (8, x8), (35, x35), (52, x52)]) h K =
    bnd (pBin Try.prog Go.BinOp.eql 3 (Go.Operand.tmp 35) (Go.Operand.const (Go.Value.int Go.IntKind.i64 4)) x35 (Go.Value.int Go.IntKind.i64 4)) fun x54 =>
    K .normal (act 61 [(1, x1), (7, x7), (8, x8), (52, x54)]) h := (k_reg (by kernel_rfl)).trans (by kernel_rfl)
noncomputable def F14_rlrrrrlrlrrr {β : Type} (inv : Inv) (k : Nat) (x1 x7 x8 x35 x52 : Value) (h : AH) (kn : (Value → Value → Value → Value → Value → AH → Option β)) : Option β :=
    brV x52
    (kn x1 x7 x8 x35 x52 h)
    (bnd (pBin Try.prog Go.BinOp.eql 3 (Go.Operand.tmp 35) (Go.Operand.const (Go.Value.int Go.IntKind.i64 4)) x35 (Go.Value.int Go.IntKind.i64 4)) fun x54 =>
    kn x1 x7 x8 unk x54 h)
theorem F14_rlrrrrlrlrrr_eq {β : Type} {inv : Inv} {k : Nat} {x1 x7 x8 x35 x52 : Value} {h : AH} {K : XE → Act → AH → Option β} : kCode env 14 false inv k (cr (cl (cr (cr (cr (cr (cl (cr (cl (cr (cr (cr c14)))))))))))) (act 61 [(1, x1), (7, x7), (8, x8), (35, x35), (52, x52)]) h K = F14_rlrrrrlrlrrr inv k x1 x7 x8 x35 x52 h (fun y1 y7 y8 y35 y52 h => K .normal (act 61 [(1, y1), (7, y7), (8, y8), (35, y35), (52, y52)]) h) := by
      unfold F14_rlrrrrlrlrrr
      simp only [b14_rlrrrrlrlrrr, k_skip (E := env) (f := 14) (c := (cl (cr (cl (cr (cr (cr (cr (cl (cr (cl (cr (cr (cr c14)))))))))))))) (by kernel_rfl), r14_10, reduceIte, reduceCtorEq, XE.exit.injEq, Nat.reduceEqDiff] <;> kernel_rfl
theorem b14_rrrrrlrlrrr {β : Type} {inv : Inv} {k : Nat} {x1 x7 x8 x35 x52 : Value} {h : AH} {K : XE → Act → AH → Option β} : kCode env 14 false inv k (cr (cr (cr (cr (cr (cl (cr (cl (cr (cr (cr c14))))))))))) (act 61 [(1, x1), (7, x7), (8, x8), (35, x35), (52, x52)]) h K = brV x52 (kCode env 14 false inv k (cl (cr (cr (cr (cr (cr (cl (cr (cl (cr (cr (cr c14)))))))))))) (act 61 [(1, x1), (7, x7), (8, x8), (35, x35), (52, x52)]) h K) (kCode env 14 false inv k (cr (cr (cr (cr (cr (cr (cl (cr (cl (cr (cr (cr c14)))))))))))) (act 61 [(1, x1), (7, x7), (8, x8), (35, x35), (52, x52)]) h K) := (k_cond (by kernel_rfl)).trans (by kernel_rfl)
theorem r14_11 {β : Type} {inv : Inv} {k : Nat} {x1 x7 x8 x35 x52 : Value} {h : AH} {K : XE → Act → AH → Option β} : kCode env 14 false inv k (cl (cl (cr (cr (cr (cr (cr (cl (cr (cl (cr (cr (cr c14))))))))))))) (act 61 [(1, x1), (7, x7), (8, x8), (35, x35), (52, x52)]) h K =
    bnd (inv (.func 27) #[] #[x1, x7] h) fun x57 =>
    K .normal (act 61 [(6, x57.1)]) x57.2 := (k_reg (by kernel_rfl)).trans (by kernel_rfl)
theorem r14_12 {β : Type} {inv : Inv} {k : Nat} {x1 x7 x8 x35 x52 : Value} {h : AH} {K : XE → Act → AH → Option β} : kCode env 14 false inv k (cl (cr (cr (cr (cr c14))))) (act 61 [(1, x1), (7, x7), (8, x8), (35, x35), (52, x52)]) h K =
    bnd (inv (.func 27) #[] #[x1, x8] h) fun x60 =>
    K .normal (act 61 [(6, x60.1)]) x60.2 := (k_reg (by kernel_rfl)).trans (by kernel_rfl)
/-- shadowbook/zone.May -/
noncomputable def F14 (inv : Inv) (k : Nat) (x0 x1 x2 : Value) (h : AH) : Option (Value × AH) :=
    bnd (pBox Try.prog 28 x0 h) fun x3 =>
    bnd (pBox Try.prog 26 x2 x3.2) fun x5 =>
    bnd (pFieldAddr Try.prog 26 x5.1 0) fun x9 =>
    bnd (pLoad Try.prog 3 x9 x5.2) fun x10 =>
    bnd (pBin Try.prog Go.BinOp.eql 3 (Go.Operand.tmp 10) (Go.Operand.const (Go.Value.int Go.IntKind.i64 0)) x10 (Go.Value.int Go.IntKind.i64 0)) fun x11 =>
    bnd (gd (some x11) false x5.2 (lt (pFieldAddr Try.prog 28 x3.1 0) x5.2)) fun x13 =>
    bnd (gd (some x11) false x13.2 (lt (pLoad Try.prog 3 x13.1 x13.2) x13.2)) fun x14 =>
    bnd (gd (some x11) false x14.2 (lt (pFieldAddr Try.prog 28 x3.1 1) x14.2)) fun x15 =>
    bnd (gd (some x11) false x15.2 (lt (pLoad Try.prog 3 x15.1 x15.2) x15.2)) fun x16 =>
    bnd (gd (some x11) false x16.2 (lt (pBin Try.prog Go.BinOp.eql 3 (Go.Operand.tmp 14) (Go.Operand.tmp 16) x14.1 x16.1) x16.2)) fun x17 =>
    bnd (pickV x11 (Go.Value.bool true) x17.1) fun x18 =>
    bnd (gd (some x18) false x17.2 (lt (pFieldAddr Try.prog 26 x5.1 0) x17.2)) fun x20 =>
    bnd (gd (some x18) false x20.2 (lt (pLoad Try.prog 3 x20.1 x20.2) x20.2)) fun x21 =>
    bnd (gd (some x18) false x21.2 (lt (pFieldAddr Try.prog 28 x3.1 2) x21.2)) fun x22 =>
    bnd (gd (some x18) false x22.2 (lt (pFieldAddr Try.prog 26 x22.1 0) x22.2)) fun x23 =>
    bnd (gd (some x18) false x23.2 (lt (pLoad Try.prog 3 x23.1 x23.2) x23.2)) fun x24 =>
    bnd (gd (some x18) false x24.2 (lt (pBin Try.prog Go.BinOp.neq 3 (Go.Operand.tmp 21) (Go.Operand.tmp 24) x21.1 x24.1) x24.2)) fun x25 =>
    bnd (pickV x18 (Go.Value.bool true) x25.1) fun x26 =>
    brV x26
    (some ((Go.Value.bool false), x25.2))
    (bnd (pFieldAddr Try.prog 28 x3.1 2) fun x27 =>
    bnd (pLoad Try.prog 26 x27 x25.2) fun x28 =>
    bnd (pLoad Try.prog 26 x5.1 x25.2) fun x29 =>
    bnd (inv (.func 15) #[] #[x28, x29] x25.2) fun x30 =>
    bnd (pFieldAddr Try.prog 28 x3.1 3) fun x31 =>
    bnd (pLoad Try.prog 26 x31 x30.2) fun x32 =>
    bnd (pLoad Try.prog 26 x5.1 x30.2) fun x33 =>
    bnd (inv (.func 15) #[] #[x32, x33] x30.2) fun x34 =>
    chkK ((!true || !true || (sameO (pLoad Try.prog 26 x31 x25.2) x32 && sameO (pLoad Try.prog 26 x31 x30.2) x32)) && ((!true || !true || (sameO (pLoad Try.prog 26 x5.1 x25.2) x33 && sameO (pLoad Try.prog 26 x5.1 x30.2) x33)) && true)) <|
    bnd (pBin Try.prog Go.BinOp.eql 3 (Go.Operand.tmp 35) (Go.Operand.const (Go.Value.int Go.IntKind.i64 1)) x1 (Go.Value.int Go.IntKind.i64 1)) fun x37 =>
    brV x37
    (bnd (inv (.func 24) #[] #[x30.1] x34.2) fun x39 =>
    bnd (gd (some x39.1) true x39.2 (some (x34.1, x39.2))) fun x41 =>
    bnd (gd (some x39.1) true x41.2 (inv (.func 25) #[] #[x41.1] x41.2)) fun x42 =>
    bnd (pickV x39.1 x42.1 (Go.Value.bool false)) fun x43 =>
    some (x43, x42.2))
    (bnd (pBin Try.prog Go.BinOp.eql 3 (Go.Operand.tmp 35) (Go.Operand.const (Go.Value.int Go.IntKind.i64 2)) x1 (Go.Value.int Go.IntKind.i64 2)) fun x45 =>
    brV x45
    (bnd (inv (.func 26) #[] #[x30.1] x34.2) fun x47 =>
    bnd (gd (some x47.1) false x47.2 (some (x34.1, x47.2))) fun x49 =>
    bnd (gd (some x47.1) false x49.2 (inv (.func 26) #[] #[x49.1] x49.2)) fun x50 =>
    bnd (pickV x47.1 (Go.Value.bool true) x50.1) fun x51 =>
    some (x51, x50.2))
    (bnd (pBin Try.prog Go.BinOp.eql 3 (Go.Operand.tmp 35) (Go.Operand.const (Go.Value.int Go.IntKind.i64 3)) x1 (Go.Value.int Go.IntKind.i64 3)) fun x53 =>
    F14_rlrrrrlrlrrr inv k x1 x30.1 x34.1 x1 x53 x34.2
    (fun y1 y7 y8 y35 y52 h =>
    brV y52
    (bnd (inv (.func 27) #[] #[y1, y7] h) fun x57 =>
    some (x57.1, x57.2))
    (bnd (inv (.func 27) #[] #[y1, y8] h) fun x60 =>
    some (x60.1, x60.2))))))
theorem F14_eq {inv : Inv} {k : Nat} {x0 x1 x2 : Value} {h : AH} : eFun env k inv 14 #[x0, x1, x2] h = F14 inv k x0 x1 x2 h := by
      refine (eFun_k2 (by kernel_rfl) (by kernel_rfl) (by kernel_rfl) (a := act 61 [(0, x0), (1, x1), (2, x2)]) (c := c14) (by kernel_rfl) (by kernel_rfl)).trans ?_
      unfold F14
      simp only [k_seq (E := env) (f := 14) (c := c14) (by kernel_rfl), r14_0, k_seq (E := env) (f := 14) (c := (cr c14)) (by kernel_rfl), k_seq (E := env) (f := 14) (c := (cl (cr c14))) (by kernel_rfl), r14_1, b14_rlr, k_seq (E := env) (f := 14) (c := (cl (cr (cl (cr c14))))) (by kernel_rfl), r14_2, k_ret (E := env) (f := 14) (c := (cr (cl (cr (cl (cr c14)))))) (by kernel_rfl), res14_0, k_skip (E := env) (f := 14) (c := (cr (cr (cl (cr c14))))) (by kernel_rfl), k_seq (E := env) (f := 14) (c := (cr (cr c14))) (by kernel_rfl), r14_3, k_seq (E := env) (f := 14) (c := (cr (cr (cr c14)))) (by kernel_rfl), k_seq (E := env) (f := 14) (c := (cl (cr (cr (cr c14))))) (by kernel_rfl), r14_4, k_block (E := env) (f := 14) (c := (cr (cl (cr (cr (cr c14)))))) (id := 0) (by kernel_rfl), k_seq (E := env) (f := 14) (c := (cl (cr (cl (cr (cr (cr c14))))))) (by kernel_rfl), r14_5, b14_rlrlrrr, k_seq (E := env) (f := 14) (c := (cl (cr (cl (cr (cl (cr (cr (cr c14))))))))) (by kernel_rfl), r14_6, k_ret (E := env) (f := 14) (c := (cr (cl (cr (cl (cr (cl (cr (cr (cr c14)))))))))) (by kernel_rfl), k_seq (E := env) (f := 14) (c := (cr (cr (cl (cr (cl (cr (cr (cr c14))))))))) (by kernel_rfl), r14_7, b14_rrrlrlrrr, k_seq (E := env) (f := 14) (c := (cl (cr (cr (cr (cl (cr (cl (cr (cr (cr c14))))))))))) (by kernel_rfl), r14_8, k_ret (E := env) (f := 14) (c := (cr (cl (cr (cr (cr (cl (cr (cl (cr (cr (cr c14)))))))))))) (by kernel_rfl), k_seq (E := env) (f := 14) (c := (cr (cr (cr (cr (cl (cr (cl (cr (cr (cr c14))))))))))) (by kernel_rfl), k_seq (E := env) (f := 14) (c := (cl (cr (cr (cr (cr (cl (cr (cl (cr (cr (cr c14)))))))))))) (by kernel_rfl), r14_9, F14_rlrrrrlrlrrr_eq, b14_rrrrrlrlrrr, k_seq (E := env) (f := 14) (c := (cl (cr (cr (cr (cr (cr (cl (cr (cl (cr (cr (cr c14))))))))))))) (by kernel_rfl), r14_11, k_ret (E := env) (f := 14) (c := (cr (cl (cr (cr (cr (cr (cr (cl (cr (cl (cr (cr (cr c14)))))))))))))) (by kernel_rfl), k_skip (E := env) (f := 14) (c := (cr (cr (cr (cr (cr (cr (cl (cr (cl (cr (cr (cr c14))))))))))))) (by kernel_rfl), k_seq (E := env) (f := 14) (c := (cr (cr (cr (cr c14))))) (by kernel_rfl), r14_12, k_ret (E := env) (f := 14) (c := (cr (cr (cr (cr (cr c14)))))) (by kernel_rfl), reduceIte, reduceCtorEq, XE.exit.injEq, Nat.reduceEqDiff] <;> kernel_rfl
theorem F14_call {k : Nat} {x0 x1 x2 : Value} {h : AH} : eInv env (k + 1) (.func 14) #[] #[x0, x1, x2] h = F14 (eInv env k) k x0 x1 x2 h := (inv_func (by kernel_rfl)).trans F14_eq
noncomputable def c15 : Code := codeOf Try.prog 15
theorem r15_0 {β : Type} {inv : Inv} {k : Nat} {x0 x1 : Value} {h : AH} {K : XE → Act → AH → Option β} : kCode env 15 false inv k (cl c15) (act 22 [(0, x0), (1, x1)]) h K =
    bnd (pBox Try.prog 26 x0 h) fun x2 =>
    bnd (pBox Try.prog 26 x1 x2.2) fun x3 =>
    K .normal (act 22 [(2, x2.1), (3, x3.1)]) x3.2 := (k_reg (by kernel_rfl)).trans (by kernel_rfl)
theorem r15_1 {β : Type} {inv : Inv} {k : Nat} {x2 x3 : Value} {h : AH} {K : XE → Act → AH → Option β} : kCode env 15 false inv k (cl (cr c15)) (act 22 [(2, x2), (3, x3)]) h K =
    bnd (pFieldAddr Try.prog 26 x2 0) fun x5 =>
    bnd (pLoad Try.prog 3 x5 h) fun x6 =>
    bnd (pFieldAddr Try.prog 26 x3 0) fun x7 =>
    bnd (pLoad Try.prog 3 x7 h) fun x8 =>
    bnd (inv (.func 29) #[] #[x6, x8] h) fun x9 =>
    bnd (pFieldAddr Try.prog 26 x2 1) fun x10 =>
    bnd (pLoad Try.prog 2 x10 x9.2) fun x11 =>
    bnd (pFieldAddr Try.prog 26 x3 1) fun x12 =>
    bnd (pLoad Try.prog 2 x12 x9.2) fun x13 =>
    bnd (inv (.func 30) #[] #[x11, x13] x9.2) fun x14 =>
    bnd (pFieldAddr Try.prog 26 x2 2) fun x15 =>
    bnd (pLoad Try.prog 9 x15 x14.2) fun x16 =>
    bnd (pFieldAddr Try.prog 26 x3 2) fun x17 =>
    bnd (pLoad Try.prog 9 x17 x14.2) fun x18 =>
    bnd (inv (.func 31) #[] #[x16, x18] x14.2) fun x19 =>
    bnd (pBuildSlice Try.prog 55 3 #[(0, x9.1), (1, x14.1), (2, x19.1)] x19.2) fun x20 =>
    bnd (inv (.func 28) #[] #[x20.1] x20.2) fun x21 =>
    chkK ((!true || !true || (sameO (pLoad Try.prog 2 x10 h) x11 && sameO (pLoad Try.prog 2 x10 x9.2) x11)) && ((!true || !true || (sameO (pLoad Try.prog 2 x12 h) x13 && sameO (pLoad Try.prog 2 x12 x9.2) x13)) && ((!true || !true || (sameO (pLoad Try.prog 9 x15 h) x16 && sameO (pLoad Try.prog 9 x15 x9.2) x16)) && ((!true || !true || (sameO (pLoad Try.prog 9 x15 x9.2) x16 && sameO (pLoad Try.prog 9 x15 x14.2) x16)) && ((!true || !true || (sameO (pLoad Try.prog 9 x17 h) x18 && sameO (pLoad Try.prog 9 x17 x9.2) x18)) && ((!true || !true || (sameO (pLoad Try.prog 9 x17 x9.2) x18 && sameO (pLoad Try.prog 9 x17 x14.2) x18)) && true)))))) <|
    K .normal (act 22 [(4, x21.1)]) x21.2 := (k_draw (by kernel_rfl)).trans (by kernel_rfl)
theorem res15_0 {x4 : Value} {h : AH} : resOfFn env.P 15 .ret (act 22 [(4, x4)]) h = some (x4, h) := (resOfFn_k (by kernel_rfl) (by kernel_rfl)).trans (by kernel_rfl)
/-- shadowbook/zone.Compare -/
noncomputable def F15 (inv : Inv) (k : Nat) (x0 x1 : Value) (h : AH) : Option (Value × AH) :=
    bnd (pBox Try.prog 26 x0 h) fun x2 =>
    bnd (pBox Try.prog 26 x1 x2.2) fun x3 =>
    bnd (pFieldAddr Try.prog 26 x2.1 0) fun x5 =>
    bnd (pLoad Try.prog 3 x5 x3.2) fun x6 =>
    bnd (pFieldAddr Try.prog 26 x3.1 0) fun x7 =>
    bnd (pLoad Try.prog 3 x7 x3.2) fun x8 =>
    bnd (inv (.func 29) #[] #[x6, x8] x3.2) fun x9 =>
    bnd (pFieldAddr Try.prog 26 x2.1 1) fun x10 =>
    bnd (pLoad Try.prog 2 x10 x9.2) fun x11 =>
    bnd (pFieldAddr Try.prog 26 x3.1 1) fun x12 =>
    bnd (pLoad Try.prog 2 x12 x9.2) fun x13 =>
    bnd (inv (.func 30) #[] #[x11, x13] x9.2) fun x14 =>
    bnd (pFieldAddr Try.prog 26 x2.1 2) fun x15 =>
    bnd (pLoad Try.prog 9 x15 x14.2) fun x16 =>
    bnd (pFieldAddr Try.prog 26 x3.1 2) fun x17 =>
    bnd (pLoad Try.prog 9 x17 x14.2) fun x18 =>
    bnd (inv (.func 31) #[] #[x16, x18] x14.2) fun x19 =>
    bnd (pBuildSlice Try.prog 55 3 #[(0, x9.1), (1, x14.1), (2, x19.1)] x19.2) fun x20 =>
    bnd (inv (.func 28) #[] #[x20.1] x20.2) fun x21 =>
    chkK ((!true || !true || (sameO (pLoad Try.prog 2 x10 x3.2) x11 && sameO (pLoad Try.prog 2 x10 x9.2) x11)) && ((!true || !true || (sameO (pLoad Try.prog 2 x12 x3.2) x13 && sameO (pLoad Try.prog 2 x12 x9.2) x13)) && ((!true || !true || (sameO (pLoad Try.prog 9 x15 x3.2) x16 && sameO (pLoad Try.prog 9 x15 x9.2) x16)) && ((!true || !true || (sameO (pLoad Try.prog 9 x15 x9.2) x16 && sameO (pLoad Try.prog 9 x15 x14.2) x16)) && ((!true || !true || (sameO (pLoad Try.prog 9 x17 x3.2) x18 && sameO (pLoad Try.prog 9 x17 x9.2) x18)) && ((!true || !true || (sameO (pLoad Try.prog 9 x17 x9.2) x18 && sameO (pLoad Try.prog 9 x17 x14.2) x18)) && true)))))) <|
    some (x21.1, x21.2)
theorem F15_eq {inv : Inv} {k : Nat} {x0 x1 : Value} {h : AH} : eFun env k inv 15 #[x0, x1] h = F15 inv k x0 x1 h := by
      refine (eFun_k2 (by kernel_rfl) (by kernel_rfl) (by kernel_rfl) (a := act 22 [(0, x0), (1, x1)]) (c := c15) (by kernel_rfl) (by kernel_rfl)).trans ?_
      unfold F15
      simp only [k_seq (E := env) (f := 15) (c := c15) (by kernel_rfl), r15_0, k_seq (E := env) (f := 15) (c := (cr c15)) (by kernel_rfl), r15_1, k_ret (E := env) (f := 15) (c := (cr (cr c15))) (by kernel_rfl), res15_0, reduceIte, reduceCtorEq, XE.exit.injEq, Nat.reduceEqDiff] <;> kernel_rfl
theorem F15_call {k : Nat} {x0 x1 : Value} {h : AH} : eInv env (k + 1) (.func 15) #[] #[x0, x1] h = F15 (eInv env k) k x0 x1 h := (inv_func (by kernel_rfl)).trans F15_eq
noncomputable def c16 : Code := codeOf Try.prog 16
theorem r16_0 {β : Type} {inv : Inv} {k : Nat} {x0 x1 x2 : Value} {h : AH} {K : XE → Act → AH → Option β} : kCode env 16 false inv k (cl c16) (act 24 [(0, x0), (1, x1), (2, x2)]) h K =
    bnd (pBox Try.prog 26 x1 h) fun x4 =>
    bnd (pBox Try.prog 26 x2 x4.2) fun x5 =>
    K .normal (act 24 [(0, x0), (4, x4.1), (5, x5.1)]) x5.2 := (k_reg (by kernel_rfl)).trans (by kernel_rfl)
theorem r16_1 {β : Type} {inv : Inv} {k : Nat} {x0 x4 x5 : Value} {h : AH} {K : XE → Act → AH → Option β} : kCode env 16 false inv k (cl (cr c16)) (act 24 [(0, x0), (4, x4), (5, x5)]) h K =
    bnd (pFieldAddr Try.prog 26 x4 0) fun x7 =>
    bnd (pLoad Try.prog 3 x7 h) fun x8 =>
    bnd (pFieldAddr Try.prog 26 x5 0) fun x9 =>
    bnd (pLoad Try.prog 3 x9 h) fun x10 =>
    bnd (pBin Try.prog Go.BinOp.eql 3 (Go.Operand.tmp 8) (Go.Operand.tmp 10) x8 x10) fun x11 =>
    bnd (gd (some x11) true h (lt (pFieldAddr Try.prog 26 x4 0) h)) fun x13 =>
    bnd (gd (some x11) true x13.2 (lt (pLoad Try.prog 3 x13.1 x13.2) x13.2)) fun x14 =>
    bnd (gd (some x11) true x14.2 (lt (pBin Try.prog Go.BinOp.neq 3 (Go.Operand.tmp 14) (Go.Operand.const (Go.Value.int Go.IntKind.i64 0)) x14.1 (Go.Value.int Go.IntKind.i64 0)) x14.2)) fun x15 =>
    bnd (pickV x11 x15.1 (Go.Value.bool false)) fun x16 =>
    bnd (gd (some x16) true x15.2 (some (x0, x15.2))) fun x18 =>
    bnd (gd (some x16) true x18.2 (lt (pLoad Try.prog 26 x4 x18.2) x18.2)) fun x19 =>
    bnd (gd (some x16) true x19.2 (lt (pLoad Try.prog 26 x5 x19.2) x19.2)) fun x20 =>
    bnd (gd (some x16) true x20.2 (inv (.func 15) #[] #[x19.1, x20.1] x20.2)) fun x21 =>
    bnd (gd (some x16) true x21.2 (inv (.func 27) #[] #[x18.1, x21.1] x21.2)) fun x22 =>
    bnd (pickV x16 x22.1 (Go.Value.bool false)) fun x23 =>
    K .normal (act 24 [(6, x23)]) x22.2 := (k_reg (by kernel_rfl)).trans (by kernel_rfl)
theorem res16_0 {x6 : Value} {h : AH} : resOfFn env.P 16 .ret (act 24 [(6, x6)]) h = some (x6, h) := (resOfFn_k (by kernel_rfl) (by kernel_rfl)).trans (by kernel_rfl)
/-- shadowbook/zone.Is -/
noncomputable def F16 (inv : Inv) (k : Nat) (x0 x1 x2 : Value) (h : AH) : Option (Value × AH) :=
    bnd (pBox Try.prog 26 x1 h) fun x4 =>
    bnd (pBox Try.prog 26 x2 x4.2) fun x5 =>
    bnd (pFieldAddr Try.prog 26 x4.1 0) fun x7 =>
    bnd (pLoad Try.prog 3 x7 x5.2) fun x8 =>
    bnd (pFieldAddr Try.prog 26 x5.1 0) fun x9 =>
    bnd (pLoad Try.prog 3 x9 x5.2) fun x10 =>
    bnd (pBin Try.prog Go.BinOp.eql 3 (Go.Operand.tmp 8) (Go.Operand.tmp 10) x8 x10) fun x11 =>
    bnd (gd (some x11) true x5.2 (lt (pFieldAddr Try.prog 26 x4.1 0) x5.2)) fun x13 =>
    bnd (gd (some x11) true x13.2 (lt (pLoad Try.prog 3 x13.1 x13.2) x13.2)) fun x14 =>
    bnd (gd (some x11) true x14.2 (lt (pBin Try.prog Go.BinOp.neq 3 (Go.Operand.tmp 14) (Go.Operand.const (Go.Value.int Go.IntKind.i64 0)) x14.1 (Go.Value.int Go.IntKind.i64 0)) x14.2)) fun x15 =>
    bnd (pickV x11 x15.1 (Go.Value.bool false)) fun x16 =>
    bnd (gd (some x16) true x15.2 (some (x0, x15.2))) fun x18 =>
    bnd (gd (some x16) true x18.2 (lt (pLoad Try.prog 26 x4.1 x18.2) x18.2)) fun x19 =>
    bnd (gd (some x16) true x19.2 (lt (pLoad Try.prog 26 x5.1 x19.2) x19.2)) fun x20 =>
    bnd (gd (some x16) true x20.2 (inv (.func 15) #[] #[x19.1, x20.1] x20.2)) fun x21 =>
    bnd (gd (some x16) true x21.2 (inv (.func 27) #[] #[x18.1, x21.1] x21.2)) fun x22 =>
    bnd (pickV x16 x22.1 (Go.Value.bool false)) fun x23 =>
    some (x23, x22.2)
theorem F16_eq {inv : Inv} {k : Nat} {x0 x1 x2 : Value} {h : AH} : eFun env k inv 16 #[x0, x1, x2] h = F16 inv k x0 x1 x2 h := by
      refine (eFun_k2 (by kernel_rfl) (by kernel_rfl) (by kernel_rfl) (a := act 24 [(0, x0), (1, x1), (2, x2)]) (c := c16) (by kernel_rfl) (by kernel_rfl)).trans ?_
      unfold F16
      simp only [k_seq (E := env) (f := 16) (c := c16) (by kernel_rfl), r16_0, k_seq (E := env) (f := 16) (c := (cr c16)) (by kernel_rfl), r16_1, k_ret (E := env) (f := 16) (c := (cr (cr c16))) (by kernel_rfl), res16_0, reduceIte, reduceCtorEq, XE.exit.injEq, Nat.reduceEqDiff] <;> kernel_rfl
theorem F16_call {k : Nat} {x0 x1 x2 : Value} {h : AH} : eInv env (k + 1) (.func 16) #[] #[x0, x1, x2] h = F16 (eInv env k) k x0 x1 x2 h := (inv_func (by kernel_rfl)).trans F16_eq
noncomputable def c19 : Code := codeOf Try.prog 19
theorem r19_0 {β : Type} {inv : Inv} {k : Nat} {x0 : Value} {h : AH} {K : XE → Act → AH → Option β} : kCode env 19 false inv k (cl c19) (act 34 [(0, x0)]) h K =
    bnd (pBox Try.prog 26 x0 h) fun x1 =>
    K .normal (act 34 [(1, x1.1)]) x1.2 := (k_reg (by kernel_rfl)).trans (by kernel_rfl)
theorem r19_1 {β : Type} {inv : Inv} {k : Nat} {x1 : Value} {h : AH} {K : XE → Act → AH → Option β} : kCode env 19 false inv k (cl (cl (cr c19))) (act 34 [(1, x1)]) h K =
    bnd (pFieldAddr Try.prog 26 x1 2) fun x4 =>
    bnd (pLoad Try.prog 9 x4 h) fun x5 =>
    bnd (pLen Try.prog #[9] x5 h) fun x6 =>
    bnd (pBin Try.prog Go.BinOp.gtr 3 (Go.Operand.tmp 6) (Go.Operand.const (Go.Value.int Go.IntKind.i64 65536)) x6 (Go.Value.int Go.IntKind.i64 65536)) fun x7 =>
    K .normal (act 34 [(1, x1), (7, x7)]) h := (k_reg (by kernel_rfl)).trans (by kernel_rfl)
theorem b19_rlr {β : Type} {inv : Inv} {k : Nat} {x1 x7 : Value} {h : AH} {K : XE → Act → AH → Option β} : kCode env 19 false inv k (cr (cl (cr c19))) (act 34 [(1, x1), (7, x7)]) h K = brV x7 (kCode env 19 false inv k (cl (cr (cl (cr c19)))) (act 34 [(1, x1), (7, x7)]) h K) (kCode env 19 false inv k (cr (cr (cl (cr c19)))) (act 34 [(1, x1), (7, x7)]) h K) := (k_cond (by kernel_rfl)).trans (by kernel_rfl)
theorem r19_2 {β : Type} {inv : Inv} {k : Nat} {x1 x7 : Value} {h : AH} {K : XE → Act → AH → Option β} : kCode env 19 false inv k (cl (cl (cr (cl (cr c19))))) (act 34 [(1, x1), (7, x7)]) h K =
    K .normal (act 34 [(2, (Go.Value.int Go.IntKind.i64 3))]) h := (k_reg (by kernel_rfl)).trans (by kernel_rfl)
theorem res19_0 {x2 : Value} {h : AH} : resOfFn env.P 19 .ret (act 34 [(2, x2)]) h = some (x2, h) := (resOfFn_k (by kernel_rfl) (by kernel_rfl)).trans (by kernel_rfl)
theorem r19_3 {β : Type} {inv : Inv} {k : Nat} {x1 x7 : Value} {h : AH} {K : XE → Act → AH → Option β} : kCode env 19 false inv k (cl (cr (cr c19))) (act 34 [(1, x1), (7, x7)]) h K =
    bnd (pFieldAddr Try.prog 26 x1 0) fun x8 =>
    bnd (pLoad Try.prog 3 x8 h) fun x9 =>
    bnd (pBuild Try.prog 26 #[(0, x9)]) fun x10 =>
    bnd (pAlloc Try.prog 26 h) fun x3 =>
    bnd (kSt (pStore Try.prog 26 x3.1 x10 x3.2)) fun u =>
    K .normal (act 34 [(1, x1), (3, x3.1)]) u.2 := (k_reg (by kernel_rfl)).trans (by kernel_rfl)
theorem r19_4 {β : Type} {inv : Inv} {k : Nat} {x1 x3 : Value} {h : AH} {K : XE → Act → AH → Option β} : kCode env 19 false inv k (cl (cl (cr (cr (cr c19))))) (act 34 [(1, x1), (3, x3)]) h K =
    bnd (pFieldAddr Try.prog 26 x1 0) fun x11 =>
    bnd (pLoad Try.prog 3 x11 h) fun x12 =>
    K .normal (act 34 [(1, x1), (3, x3), (12, x12)]) h := (k_reg (by kernel_rfl)).trans (by kernel_rfl)
theorem r19_6 {β : Type} {inv : Inv} {k : Nat} {x1 x3 x12 : Value} {h : AH} {K : XE → Act → AH → Option β} : kCode env 19 false inv k (cl (cl (cr (cl (cr (cr (cr c19))))))) (act 34 [(1, x1), (3, x3), (12, x12)]) h K =
    bnd (pBin Try.prog Go.BinOp.eql 3 (Go.Operand.tmp 12) (Go.Operand.const (Go.Value.int Go.IntKind.i64 0)) x12 (Go.Value.int Go.IntKind.i64 0)) fun x14 =>
    K .normal (act 34 [(1, x1), (3, x3), (12, x12), (13, x14)]) h := (k_reg (by kernel_rfl)).trans (by kernel_rfl)
theorem b19_rlrlrrr {β : Type} {inv : Inv} {k : Nat} {x1 x3 x12 x13 : Value} {h : AH} {K : XE → Act → AH → Option β} : kCode env 19 false inv k (cr (cl (cr (cl (cr (cr (cr c19))))))) (act 34 [(1, x1), (3, x3), (12, x12), (13, x13)]) h K = brV x13 (kCode env 19 false inv k (cl (cr (cl (cr (cl (cr (cr (cr c19)))))))) (act 34 [(1, x1), (3, x3), (12, x12), (13, x13)]) h K) (kCode env 19 false inv k (cr (cr (cl (cr (cl (cr (cr (cr c19)))))))) (act 34 [(1, x1), (3, x3), (12, x12), (13, x13)]) h K) := (k_cond (by kernel_rfl)).trans (by kernel_rfl)
theorem r19_7 {β : Type} {inv : Inv} {k : Nat} {x1 x3 x12 x13 : Value} {h : AH} {K : XE → Act → AH → Option β} : kCode env 19 false inv k (cl (cr (cr (cl (cr (cl (cr (cr (cr c19))))))))) (act 34 [(1, x1), (3, x3), (12, x12), (13, x13)]) h K =
    bnd (pBin Try.prog Go.BinOp.eql 3 (Go.Operand.tmp 12) (Go.Operand.const (Go.Value.int Go.IntKind.i64 1)) x12 (Go.Value.int Go.IntKind.i64 1)) fun x16 =>
    K .normal (act 34 [(1, x1), (3, x3), (12, x12), (15, x16)]) h := (k_reg (by kernel_rfl)).trans (by kernel_rfl)
theorem b19_rrrlrlrrr {β : Type} {inv : Inv} {k : Nat} {x1 x3 x12 x15 : Value} {h : AH} {K : XE → Act → AH → Option β} : kCode env 19 false inv k (cr (cr (cr (cl (cr (cl (cr (cr (cr c19))))))))) (act 34 [(1, x1), (3, x3), (12, x12), (15, x15)]) h K = brV x15 (kCode env 19 false inv k (cl (cr (cr (cr (cl (cr (cl (cr (cr (cr c19)))))))))) (act 34 [(1, x1), (3, x3), (12, x12), (15, x15)]) h K) (kCode env 19 false inv k (cr (cr (cr (cr (cl (cr (cl (cr (cr (cr c19)))))))))) (act 34 [(1, x1), (3, x3), (12, x12), (15, x15)]) h K) := (k_cond (by kernel_rfl)).trans (by kernel_rfl)
theorem r19_8 {β : Type} {inv : Inv} {k : Nat} {x1 x3 x12 x15 : Value} {h : AH} {K : XE → Act → AH → Option β} : kCode env 19 false inv k (cl (cr (cr (cr (cl (cr (cl (cr (cr (cr c19)))))))))) (act 34 [(1, x1), (3, x3), (12, x12), (15, x15)]) h K =
    bnd (pFieldAddr Try.prog 26 x1 1) fun x17 =>
    bnd (pLoad Try.prog 2 x17 h) fun x18 =>
    bnd (pFieldAddr Try.prog 26 x3 1) fun x19 =>
    bnd (kSt (pStore Try.prog 2 x19 x18 h)) fun u =>
    K .normal (act 34 [(1, x1), (3, x3)]) u.2 := (k_reg (by kernel_rfl)).trans (by kernel_rfl)
theorem r19_9 {β : Type} {inv : Inv} {k : Nat} {x1 x3 x12 x15 : Value} {h : AH} {K : XE → Act → AH → Option β} : kCode env 19 false inv k (cl (cr (cr (cr (cr (cl (cr (cl (cr (cr (cr c19))))))))))) (act 34 [(1, x1), (3, x3), (12, x12), (15, x15)]) h K =
    bnd (pBin Try.prog Go.BinOp.eql 3 (Go.Operand.tmp 12) (Go.Operand.const (Go.Value.int Go.IntKind.i64 2)) x12 (Go.Value.int Go.IntKind.i64 2)) fun x21 =>
    K .normal (act 34 [(1, x1), (3, x3), (12, x12), (20, x21)]) h := (k_reg (by kernel_rfl)).trans (by kernel_rfl)
theorem b19_rrrrrlrlrrr {β : Type} {inv : Inv} {k : Nat} {x1 x3 x12 x20 : Value} {h : AH} {K : XE → Act → AH → Option β} : kCode env 19 false inv k (cr (cr (cr (cr (cr (cl (cr (cl (cr (cr (cr c19))))))))))) (act 34 [(1, x1), (3, x3), (12, x12), (20, x20)]) h K = brV x20 (kCode env 19 false inv k (cl (cr (cr (cr (cr (cr (cl (cr (cl (cr (cr (cr c19)))))))))))) (act 34 [(1, x1), (3, x3), (12, x12), (20, x20)]) h K) (kCode env 19 false inv k (cr (cr (cr (cr (cr (cr (cl (cr (cl (cr (cr (cr c19)))))))))))) (act 34 [(1, x1), (3, x3), (12, x12), (20, x20)]) h K) := (k_cond (by kernel_rfl)).trans (by kernel_rfl)
theorem r19_10 {β : Type} {inv : Inv} {k : Nat} {x1 x3 x12 x20 : Value} {h : AH} {K : XE → Act → AH → Option β} : kCode env 19 false inv k (cl (cr (cr (cr (cr (cr (cl (cr (cl (cr (cr (cr c19)))))))))))) (act 34 [(1, x1), (3, x3), (12, x12), (20, x20)]) h K =
    bnd (pFieldAddr Try.prog 26 x1 1) fun x22 =>
    bnd (pLoad Try.prog 2 x22 h) fun x23 =>
    bnd (pBin Try.prog Go.BinOp.and 2 (Go.Operand.tmp 23) (Go.Operand.const (Go.Value.int Go.IntKind.i64 1)) x23 (Go.Value.int Go.IntKind.i64 1)) fun x24 =>
    bnd (pFieldAddr Try.prog 26 x3 1) fun x25 =>
    bnd (kSt (pStore Try.prog 2 x25 x24 h)) fun u =>
    K .normal (act 34 [(1, x1), (3, x3)]) u.2 := (k_reg (by kernel_rfl)).trans (by kernel_rfl)
theorem r19_11 {β : Type} {inv : Inv} {k : Nat} {x1 x3 x12 x20 : Value} {h : AH} {K : XE → Act → AH → Option β} : kCode env 19 false inv k (cl (cr (cr (cr (cr (cr (cr (cl (cr (cl (cr (cr (cr c19))))))))))))) (act 34 [(1, x1), (3, x3), (12, x12), (20, x20)]) h K =
    bnd (pBin Try.prog Go.BinOp.eql 3 (Go.Operand.tmp 12) (Go.Operand.const (Go.Value.int Go.IntKind.i64 3)) x12 (Go.Value.int Go.IntKind.i64 3)) fun x27 =>
    K .normal (act 34 [(1, x1), (3, x3), (26, x27)]) h := (k_reg (by kernel_rfl)).trans (by kernel_rfl)
theorem b19_rrrrrrrlrlrrr {β : Type} {inv : Inv} {k : Nat} {x1 x3 x26 : Value} {h : AH} {K : XE → Act → AH → Option β} : kCode env 19 false inv k (cr (cr (cr (cr (cr (cr (cr (cl (cr (cl (cr (cr (cr c19))))))))))))) (act 34 [(1, x1), (3, x3), (26, x26)]) h K = brV x26 (kCode env 19 false inv k (cl (cr (cr (cr (cr (cr (cr (cr (cl (cr (cl (cr (cr (cr c19)))))))))))))) (act 34 [(1, x1), (3, x3), (26, x26)]) h K) (kCode env 19 false inv k (cr (cr (cr (cr (cr (cr (cr (cr (cl (cr (cl (cr (cr (cr c19)))))))))))))) (act 34 [(1, x1), (3, x3), (26, x26)]) h K) := (k_cond (by kernel_rfl)).trans (by kernel_rfl)
theorem r19_12 {β : Type} {inv : Inv} {k : Nat} {x1 x3 x26 : Value} {h : AH} {K : XE → Act → AH → Option β} : kCode env 19 false inv k (cl (cr (cr (cr (cr (cr (cr (cr (cl (cr (cl (cr (cr (cr c19)))))))))))))) (act 34 [(1, x1), (3, x3), (26, x26)]) h K =
    bnd (pFieldAddr Try.prog 26 x1 2) fun x28 =>
    bnd (pLoad Try.prog 9 x28 h) fun x29 =>
    bnd (pFieldAddr Try.prog 26 x3 2) fun x30 =>
    bnd (kSt (pStore Try.prog 9 x30 x29 h)) fun u =>
    K .normal (act 34 [(1, x1), (3, x3)]) u.2 := (k_reg (by kernel_rfl)).trans (by kernel_rfl)
theorem r19_5 {β : Type} {inv : Inv} {k : Nat} {x1 x3 x26 : Value} {h : AH} {K : XE → Act → AH → Option β} : kCode env 19 false inv k (cl (cr (cr (cr (cr (cr (cr (cr (cr (cl (cr (cl (cr (cr (cr c19))))))))))))))) (act 34 [(1, x1), (3, x3), (26, x26)]) h K =
    K .normal (act 34 [(2, (Go.Value.int Go.IntKind.i64 2))]) h := (k_reg (by kernel_rfl)).trans (by kernel_rfl)
noncomputable def F19_rlrrr {β : Type} (inv : Inv) (k : Nat) (x1 x3 x12 : Value) (h : AH) (kn : (Value → Value → Value → Value → AH → Option β)) (kr : (Value → AH → Option β)) : Option β :=
    bnd (pBin Try.prog Go.BinOp.eql 3 (Go.Operand.tmp 12) (Go.Operand.const (Go.Value.int Go.IntKind.i64 0)) x12 (Go.Value.int Go.IntKind.i64 0)) fun x14 =>
    brV x14
    (kn x1 x3 x12 x14 h)
    (bnd (pBin Try.prog Go.BinOp.eql 3 (Go.Operand.tmp 12) (Go.Operand.const (Go.Value.int Go.IntKind.i64 1)) x12 (Go.Value.int Go.IntKind.i64 1)) fun x16 =>
    brV x16
    (bnd (pFieldAddr Try.prog 26 x1 1) fun x17 =>
    bnd (pLoad Try.prog 2 x17 h) fun x18 =>
    bnd (pFieldAddr Try.prog 26 x3 1) fun x19 =>
    bnd (kSt (pStore Try.prog 2 x19 x18 h)) fun u =>
    kn x1 x3 unk unk u.2)
    (bnd (pBin Try.prog Go.BinOp.eql 3 (Go.Operand.tmp 12) (Go.Operand.const (Go.Value.int Go.IntKind.i64 2)) x12 (Go.Value.int Go.IntKind.i64 2)) fun x21 =>
    brV x21
    (bnd (pFieldAddr Try.prog 26 x1 1) fun x22 =>
    bnd (pLoad Try.prog 2 x22 h) fun x23 =>
    bnd (pBin Try.prog Go.BinOp.and 2 (Go.Operand.tmp 23) (Go.Operand.const (Go.Value.int Go.IntKind.i64 1)) x23 (Go.Value.int Go.IntKind.i64 1)) fun x24 =>
    bnd (pFieldAddr Try.prog 26 x3 1) fun x25 =>
    bnd (kSt (pStore Try.prog 2 x25 x24 h)) fun u_1 =>
    kn x1 x3 unk unk u_1.2)
    (bnd (pBin Try.prog Go.BinOp.eql 3 (Go.Operand.tmp 12) (Go.Operand.const (Go.Value.int Go.IntKind.i64 3)) x12 (Go.Value.int Go.IntKind.i64 3)) fun x27 =>
    brV x27
    (bnd (pFieldAddr Try.prog 26 x1 2) fun x28 =>
    bnd (pLoad Try.prog 9 x28 h) fun x29 =>
    bnd (pFieldAddr Try.prog 26 x3 2) fun x30 =>
    bnd (kSt (pStore Try.prog 9 x30 x29 h)) fun u_2 =>
    kn x1 x3 unk unk u_2.2)
    (kr (Go.Value.int Go.IntKind.i64 2) h))))
theorem F19_rlrrr_eq {β : Type} {inv : Inv} {k : Nat} {x1 x3 x12 : Value} {h : AH} {K : XE → Act → AH → Option β} : kCode env 19 false inv k (cr (cl (cr (cr (cr c19))))) (act 34 [(1, x1), (3, x3), (12, x12)]) h K = F19_rlrrr inv k x1 x3 x12 h (fun y1 y3 y12 y13 h => K .normal (act 34 [(1, y1), (3, y3), (12, y12), (13, y13)]) h) (fun y2 h => K .ret (act 34 [(2, y2)]) h) := by
      unfold F19_rlrrr
      simp only [k_block (E := env) (f := 19) (c := (cr (cl (cr (cr (cr c19)))))) (id := 0) (by kernel_rfl), k_seq (E := env) (f := 19) (c := (cl (cr (cl (cr (cr (cr c19))))))) (by kernel_rfl), r19_6, b19_rlrlrrr, k_skip (E := env) (f := 19) (c := (cl (cr (cl (cr (cl (cr (cr (cr c19))))))))) (by kernel_rfl), k_seq (E := env) (f := 19) (c := (cr (cr (cl (cr (cl (cr (cr (cr c19))))))))) (by kernel_rfl), r19_7, b19_rrrlrlrrr, r19_8, k_seq (E := env) (f := 19) (c := (cr (cr (cr (cr (cl (cr (cl (cr (cr (cr c19))))))))))) (by kernel_rfl), r19_9, b19_rrrrrlrlrrr, r19_10, k_seq (E := env) (f := 19) (c := (cr (cr (cr (cr (cr (cr (cl (cr (cl (cr (cr (cr c19))))))))))))) (by kernel_rfl), r19_11, b19_rrrrrrrlrlrrr, r19_12, k_seq (E := env) (f := 19) (c := (cr (cr (cr (cr (cr (cr (cr (cr (cl (cr (cl (cr (cr (cr c19))))))))))))))) (by kernel_rfl), r19_5, k_ret (E := env) (f := 19) (c := (cr (cr (cr (cr (cr (cr (cr (cr (cr (cl (cr (cl (cr (cr (cr c19)))))))))))))))) (by kernel_rfl), reduceIte, reduceCtorEq, XE.exit.injEq, Nat.reduceEqDiff] <;> kernel_rfl
theorem r19_13 {β : Type} {inv : Inv} {k : Nat} {x1 x3 x12 x13 : Value} {h : AH} {K : XE → Act → AH → Option β} : kCode env 19 false inv k (cl (cl (cr (cr (cr (cr c19)))))) (act 34 [(1, x1), (3, x3), (12, x12), (13, x13)]) h K =
    bnd (pLoad Try.prog 26 x3 h) fun x31 =>
    bnd (pLoad Try.prog 26 x1 h) fun x32 =>
    bnd (pBin Try.prog Go.BinOp.neq 26 (Go.Operand.tmp 31) (Go.Operand.tmp 32) x31 x32) fun x33 =>
    K .normal (act 34 [(33, x33)]) h := (k_reg (by kernel_rfl)).trans (by kernel_rfl)
theorem b19_rlrrrr {β : Type} {inv : Inv} {k : Nat} {x33 : Value} {h : AH} {K : XE → Act → AH → Option β} : kCode env 19 false inv k (cr (cl (cr (cr (cr (cr c19)))))) (act 34 [(33, x33)]) h K = brV x33 (kCode env 19 false inv k (cl (cr (cl (cr (cr (cr (cr c19))))))) (act 34 [(33, x33)]) h K) (kCode env 19 false inv k (cr (cr (cl (cr (cr (cr (cr c19))))))) (act 34 [(33, x33)]) h K) := (k_cond (by kernel_rfl)).trans (by kernel_rfl)
theorem r19_14 {β : Type} {inv : Inv} {k : Nat} {x33 : Value} {h : AH} {K : XE → Act → AH → Option β} : kCode env 19 false inv k (cl (cl (cr (cl (cr (cr (cr (cr c19)))))))) (act 34 [(33, x33)]) h K =
    K .normal (act 34 [(2, (Go.Value.int Go.IntKind.i64 2))]) h := (k_reg (by kernel_rfl)).trans (by kernel_rfl)
theorem r19_15 {β : Type} {inv : Inv} {k : Nat} {x33 : Value} {h : AH} {K : XE → Act → AH → Option β} : kCode env 19 false inv k (cl (cr (cr (cr (cr (cr c19)))))) (act 34 [(33, x33)]) h K =
    K .normal (act 34 [(2, (Go.Value.int Go.IntKind.i64 0))]) h := (k_reg (by kernel_rfl)).trans (by kernel_rfl)
/-- shadowbook/zone.Cell -/
noncomputable def F19 (inv : Inv) (k : Nat) (x0 : Value) (h : AH) : Option (Value × AH) :=
    bnd (pBox Try.prog 26 x0 h) fun x1 =>
    bnd (pFieldAddr Try.prog 26 x1.1 2) fun x4 =>
    bnd (pLoad Try.prog 9 x4 x1.2) fun x5 =>
    bnd (pLen Try.prog #[9] x5 x1.2) fun x6 =>
    bnd (pBin Try.prog Go.BinOp.gtr 3 (Go.Operand.tmp 6) (Go.Operand.const (Go.Value.int Go.IntKind.i64 65536)) x6 (Go.Value.int Go.IntKind.i64 65536)) fun x7 =>
    brV x7
    (some ((Go.Value.int Go.IntKind.i64 3), x1.2))
    (bnd (pFieldAddr Try.prog 26 x1.1 0) fun x8 =>
    bnd (pLoad Try.prog 3 x8 x1.2) fun x9 =>
    bnd (pBuild Try.prog 26 #[(0, x9)]) fun x10 =>
    bnd (pAlloc Try.prog 26 x1.2) fun x3 =>
    bnd (kSt (pStore Try.prog 26 x3.1 x10 x3.2)) fun u =>
    bnd (pFieldAddr Try.prog 26 x1.1 0) fun x11 =>
    bnd (pLoad Try.prog 3 x11 u.2) fun x12 =>
    F19_rlrrr inv k x1.1 x3.1 x12 u.2
    (fun y1 y3 y12 y13 h =>
    bnd (pLoad Try.prog 26 y3 h) fun x31 =>
    bnd (pLoad Try.prog 26 y1 h) fun x32 =>
    bnd (pBin Try.prog Go.BinOp.neq 26 (Go.Operand.tmp 31) (Go.Operand.tmp 32) x31 x32) fun x33 =>
    brV x33
    (some ((Go.Value.int Go.IntKind.i64 2), h))
    (some ((Go.Value.int Go.IntKind.i64 0), h)))
    (fun y2 h_3 =>
    some (y2, h_3)))
theorem F19_eq {inv : Inv} {k : Nat} {x0 : Value} {h : AH} : eFun env k inv 19 #[x0] h = F19 inv k x0 h := by
      refine (eFun_k2 (by kernel_rfl) (by kernel_rfl) (by kernel_rfl) (a := act 34 [(0, x0)]) (c := c19) (by kernel_rfl) (by kernel_rfl)).trans ?_
      unfold F19
      simp only [k_seq (E := env) (f := 19) (c := c19) (by kernel_rfl), r19_0, k_seq (E := env) (f := 19) (c := (cr c19)) (by kernel_rfl), k_seq (E := env) (f := 19) (c := (cl (cr c19))) (by kernel_rfl), r19_1, b19_rlr, k_seq (E := env) (f := 19) (c := (cl (cr (cl (cr c19))))) (by kernel_rfl), r19_2, k_ret (E := env) (f := 19) (c := (cr (cl (cr (cl (cr c19)))))) (by kernel_rfl), res19_0, k_skip (E := env) (f := 19) (c := (cr (cr (cl (cr c19))))) (by kernel_rfl), k_seq (E := env) (f := 19) (c := (cr (cr c19))) (by kernel_rfl), r19_3, k_seq (E := env) (f := 19) (c := (cr (cr (cr c19)))) (by kernel_rfl), k_seq (E := env) (f := 19) (c := (cl (cr (cr (cr c19))))) (by kernel_rfl), r19_4, F19_rlrrr_eq, k_seq (E := env) (f := 19) (c := (cr (cr (cr (cr c19))))) (by kernel_rfl), k_seq (E := env) (f := 19) (c := (cl (cr (cr (cr (cr c19)))))) (by kernel_rfl), r19_13, b19_rlrrrr, k_seq (E := env) (f := 19) (c := (cl (cr (cl (cr (cr (cr (cr c19)))))))) (by kernel_rfl), r19_14, k_ret (E := env) (f := 19) (c := (cr (cl (cr (cl (cr (cr (cr (cr c19))))))))) (by kernel_rfl), k_skip (E := env) (f := 19) (c := (cr (cr (cl (cr (cr (cr (cr c19)))))))) (by kernel_rfl), k_seq (E := env) (f := 19) (c := (cr (cr (cr (cr (cr c19)))))) (by kernel_rfl), r19_15, k_ret (E := env) (f := 19) (c := (cr (cr (cr (cr (cr (cr c19))))))) (by kernel_rfl), reduceIte, reduceCtorEq, XE.exit.injEq, Nat.reduceEqDiff] <;> kernel_rfl
theorem F19_call {k : Nat} {x0 : Value} {h : AH} : eInv env (k + 1) (.func 19) #[] #[x0] h = F19 (eInv env k) k x0 h := (inv_func (by kernel_rfl)).trans F19_eq
noncomputable def c21 : Code := codeOf Try.prog 21
theorem r21_0 {β : Type} {inv : Inv} {k : Nat} {x0 x1 : Value} {h : AH} {K : XE → Act → AH → Option β} : kCode env 21 false inv k (cl c21) (act 86 [(0, x0), (1, x1)]) h K =
    bnd (pBox Try.prog 28 x0 h) fun x2 =>
    K .normal (act 86 [(1, x1), (2, x2.1)]) x2.2 := (k_reg (by kernel_rfl)).trans (by kernel_rfl)
theorem r21_1 {β : Type} {inv : Inv} {k : Nat} {x1 x2 : Value} {h : AH} {K : XE → Act → AH → Option β} : kCode env 21 false inv k (cl (cl (cr c21))) (act 86 [(1, x1), (2, x2)]) h K =
    bnd (pBin Try.prog Go.BinOp.lss 3 (Go.Operand.tmp 6) (Go.Operand.const (Go.Value.int Go.IntKind.i64 1)) x1 (Go.Value.int Go.IntKind.i64 1)) fun x7 =>
    bnd (gd (some x7) false h (some (x1, h))) fun x9 =>
    bnd (gd (some x7) false x9.2 (lt (pBin Try.prog Go.BinOp.gtr 3 (Go.Operand.tmp 9) (Go.Operand.const (Go.Value.int Go.IntKind.i64 3)) x9.1 (Go.Value.int Go.IntKind.i64 3)) x9.2)) fun x10 =>
    bnd (pickV x7 (Go.Value.bool true) x10.1) fun x11 =>
    bnd (gd (some x11) false x10.2 (lt (pFieldAddr Try.prog 28 x2 0) x10.2)) fun x13 =>
    bnd (gd (some x11) false x13.2 (lt (pLoad Try.prog 3 x13.1 x13.2) x13.2)) fun x14 =>
    bnd (gd (some x11) false x14.2 (lt (pBin Try.prog Go.BinOp.lss 3 (Go.Operand.tmp 14) (Go.Operand.const (Go.Value.int Go.IntKind.i64 0)) x14.1 (Go.Value.int Go.IntKind.i64 0)) x14.2)) fun x15 =>
    bnd (pickV x11 (Go.Value.bool true) x15.1) fun x16 =>
    bnd (gd (some x16) false x15.2 (lt (pFieldAddr Try.prog 28 x2 1) x15.2)) fun x18 =>
    bnd (gd (some x16) false x18.2 (lt (pLoad Try.prog 3 x18.1 x18.2) x18.2)) fun x19 =>
    bnd (gd (some x16) false x19.2 (lt (pBin Try.prog Go.BinOp.lss 3 (Go.Operand.tmp 19) (Go.Operand.const (Go.Value.int Go.IntKind.i64 0)) x19.1 (Go.Value.int Go.IntKind.i64 0)) x19.2)) fun x20 =>
    bnd (pickV x16 (Go.Value.bool true) x20.1) fun x21 =>
    bnd (gd (some x21) false x20.2 (lt (pFieldAddr Try.prog 28 x2 1) x20.2)) fun x23 =>
    bnd (gd (some x21) false x23.2 (lt (pLoad Try.prog 3 x23.1 x23.2) x23.2)) fun x24 =>
    bnd (gd (some x21) false x24.2 (lt (pFieldAddr Try.prog 28 x2 0) x24.2)) fun x25 =>
    bnd (gd (some x21) false x25.2 (lt (pLoad Try.prog 3 x25.1 x25.2) x25.2)) fun x26 =>
    bnd (gd (some x21) false x26.2 (lt (pBin Try.prog Go.BinOp.gtr 3 (Go.Operand.tmp 24) (Go.Operand.tmp 26) x24.1 x26.1) x26.2)) fun x27 =>
    bnd (pickV x21 (Go.Value.bool true) x27.1) fun x28 =>
    K .normal (act 86 [(1, x1), (2, x2), (28, x28)]) x27.2 := (k_reg (by kernel_rfl)).trans (by kernel_rfl)
theorem b21_rlr {β : Type} {inv : Inv} {k : Nat} {x1 x2 x28 : Value} {h : AH} {K : XE → Act → AH → Option β} : kCode env 21 false inv k (cr (cl (cr c21))) (act 86 [(1, x1), (2, x2), (28, x28)]) h K = brV x28 (kCode env 21 false inv k (cl (cr (cl (cr c21)))) (act 86 [(1, x1), (2, x2), (28, x28)]) h K) (kCode env 21 false inv k (cr (cr (cl (cr c21)))) (act 86 [(1, x1), (2, x2), (28, x28)]) h K) := (k_cond (by kernel_rfl)).trans (by kernel_rfl)
theorem r21_2 {β : Type} {inv : Inv} {k : Nat} {x1 x2 x28 : Value} {h : AH} {K : XE → Act → AH → Option β} : kCode env 21 false inv k (cl (cl (cr (cl (cr c21))))) (act 86 [(1, x1), (2, x2), (28, x28)]) h K =
    K .normal (act 86 [(4, (Go.Value.int Go.IntKind.i64 2))]) h := (k_reg (by kernel_rfl)).trans (by kernel_rfl)
theorem res21_0 {x4 : Value} {h : AH} : resOfFn env.P 21 .ret (act 86 [(4, x4)]) h = some (x4, h) := (resOfFn_k (by kernel_rfl) (by kernel_rfl)).trans (by kernel_rfl)
theorem r21_3 {β : Type} {inv : Inv} {k : Nat} {x1 x2 x28 : Value} {h : AH} {K : XE → Act → AH → Option β} : kCode env 21 false inv k (cl (cr (cr c21))) (act 86 [(1, x1), (2, x2), (28, x28)]) h K =
    bnd (pFieldAddr Try.prog 28 x2 2) fun x29 =>
    bnd (pLoad Try.prog 26 x29 h) fun x30 =>
    bnd (pBuild Try.prog 26 #[]) fun x31 =>
    bnd (pBin Try.prog Go.BinOp.eql 26 (Go.Operand.tmp 30) (Go.Operand.tmp 31) x30 x31) fun x32 =>
    bnd (gd (some x32) true h (lt (pFieldAddr Try.prog 28 x2 3) h)) fun x34 =>
    bnd (gd (some x32) true x34.2 (lt (pLoad Try.prog 26 x34.1 x34.2) x34.2)) fun x35 =>
    bnd (gd (some x32) true x35.2 (lt (pBuild Try.prog 26 #[]) x35.2)) fun x36 =>
    bnd (gd (some x32) true x36.2 (lt (pBin Try.prog Go.BinOp.eql 26 (Go.Operand.tmp 35) (Go.Operand.tmp 36) x35.1 x36.1) x36.2)) fun x37 =>
    bnd (pickV x32 x37.1 (Go.Value.bool false)) fun x38 =>
    K .normal (act 86 [(1, x1), (2, x2), (5, x38)]) x37.2 := (k_reg (by kernel_rfl)).trans (by kernel_rfl)
theorem r21_4 {β : Type} {inv : Inv} {k : Nat} {x1 x2 x5 : Value} {h : AH} {K : XE → Act → AH → Option β} : kCode env 21 false inv k (cl (cl (cr (cr (cr c21))))) (act 86 [(1, x1), (2, x2), (5, x5)]) h K =
    bnd (pFieldAddr Try.prog 28 x2 1) fun x39 =>
    bnd (pLoad Try.prog 3 x39 h) fun x40 =>
    bnd (pFieldAddr Try.prog 28 x2 0) fun x41 =>
    bnd (pLoad Try.prog 3 x41 h) fun x42 =>
    bnd (pBin Try.prog Go.BinOp.eql 3 (Go.Operand.tmp 40) (Go.Operand.tmp 42) x40 x42) fun x43 =>
    bnd (gd (some x43) true h (some (x5, h))) fun x45 =>
    bnd (pickV x43 x45.1 (Go.Value.bool false)) fun x46 =>
    K .normal (act 86 [(1, x1), (2, x2), (46, x46)]) x45.2 := (k_reg (by kernel_rfl)).trans (by kernel_rfl)
theorem b21_rlrrr {β : Type} {inv : Inv} {k : Nat} {x1 x2 x46 : Value} {h : AH} {K : XE → Act → AH → Option β} : kCode env 21 false inv k (cr (cl (cr (cr (cr c21))))) (act 86 [(1, x1), (2, x2), (46, x46)]) h K = brV x46 (kCode env 21 false inv k (cl (cr (cl (cr (cr (cr c21)))))) (act 86 [(1, x1), (2, x2), (46, x46)]) h K) (kCode env 21 false inv k (cr (cr (cl (cr (cr (cr c21)))))) (act 86 [(1, x1), (2, x2), (46, x46)]) h K) := (k_cond (by kernel_rfl)).trans (by kernel_rfl)
theorem r21_5 {β : Type} {inv : Inv} {k : Nat} {x1 x2 x46 : Value} {h : AH} {K : XE → Act → AH → Option β} : kCode env 21 false inv k (cl (cl (cr (cl (cr (cr (cr c21))))))) (act 86 [(1, x1), (2, x2), (46, x46)]) h K =
    K .normal (act 86 [(4, (Go.Value.int Go.IntKind.i64 0))]) h := (k_reg (by kernel_rfl)).trans (by kernel_rfl)
theorem r21_6 {β : Type} {inv : Inv} {k : Nat} {x1 x2 x46 : Value} {h : AH} {K : XE → Act → AH → Option β} : kCode env 21 false inv k (cl (cl (cr (cr (cr (cr c21)))))) (act 86 [(1, x1), (2, x2), (46, x46)]) h K =
    bnd (pFieldAddr Try.prog 28 x2 1) fun x47 =>
    bnd (pLoad Try.prog 3 x47 h) fun x48 =>
    bnd (pFieldAddr Try.prog 28 x2 0) fun x49 =>
    bnd (pLoad Try.prog 3 x49 h) fun x50 =>
    bnd (pBin Try.prog Go.BinOp.eql 3 (Go.Operand.tmp 48) (Go.Operand.tmp 50) x48 x50) fun x51 =>
    bnd (gd (some x51) false h (lt (pFieldAddr Try.prog 28 x2 2) h)) fun x53 =>
    bnd (gd (some x51) false x53.2 (lt (pFieldAddr Try.prog 26 x53.1 0) x53.2)) fun x54 =>
    bnd (gd (some x51) false x54.2 (lt (pLoad Try.prog 3 x54.1 x54.2) x54.2)) fun x55 =>
    bnd (gd (some x51) false x55.2 (some (x1, x55.2))) fun x56 =>
    bnd (gd (some x51) false x56.2 (lt (pBin Try.prog Go.BinOp.neq 3 (Go.Operand.tmp 55) (Go.Operand.tmp 56) x55.1 x56.1) x56.2)) fun x57 =>
    bnd (pickV x51 (Go.Value.bool true) x57.1) fun x58 =>
    bnd (gd (some x58) false x57.2 (lt (pFieldAddr Try.prog 28 x2 3) x57.2)) fun x60 =>
    bnd (gd (some x58) false x60.2 (lt (pFieldAddr Try.prog 26 x60.1 0) x60.2)) fun x61 =>
    bnd (gd (some x58) false x61.2 (lt (pLoad Try.prog 3 x61.1 x61.2) x61.2)) fun x62 =>
    bnd (gd (some x58) false x62.2 (some (x1, x62.2))) fun x63 =>
    bnd (gd (some x58) false x63.2 (lt (pBin Try.prog Go.BinOp.neq 3 (Go.Operand.tmp 62) (Go.Operand.tmp 63) x62.1 x63.1) x63.2)) fun x64 =>
    bnd (pickV x58 (Go.Value.bool true) x64.1) fun x65 =>
    bnd (gd (some x65) false x64.2 (lt (pFieldAddr Try.prog 28 x2 2) x64.2)) fun x67 =>
    bnd (gd (some x65) false x67.2 (lt (pLoad Try.prog 26 x67.1 x67.2) x67.2)) fun x68 =>
    bnd (gd (some x65) false x68.2 (inv (.func 19) #[] #[x68.1] x68.2)) fun x69 =>
    bnd (gd (some x65) false x69.2 (lt (pBin Try.prog Go.BinOp.neq 41 (Go.Operand.tmp 69) (Go.Operand.const (Go.Value.int Go.IntKind.i64 0)) x69.1 (Go.Value.int Go.IntKind.i64 0)) x69.2)) fun x70 =>
    bnd (pickV x65 (Go.Value.bool true) x70.1) fun x71 =>
    bnd (gd (some x71) false x70.2 (lt (pFieldAddr Try.prog 28 x2 3) x70.2)) fun x73 =>
    bnd (gd (some x71) false x73.2 (lt (pLoad Try.prog 26 x73.1 x73.2) x73.2)) fun x74 =>
    bnd (gd (some x71) false x74.2 (inv (.func 19) #[] #[x74.1] x74.2)) fun x75 =>
    bnd (gd (some x71) false x75.2 (lt (pBin Try.prog Go.BinOp.neq 41 (Go.Operand.tmp 75) (Go.Operand.const (Go.Value.int Go.IntKind.i64 0)) x75.1 (Go.Value.int Go.IntKind.i64 0)) x75.2)) fun x76 =>
    bnd (pickV x71 (Go.Value.bool true) x76.1) fun x77 =>
    bnd (gd (some x77) false x76.2 (lt (pFieldAddr Try.prog 28 x2 2) x76.2)) fun x79 =>
    bnd (gd (some x77) false x79.2 (lt (pLoad Try.prog 26 x79.1 x79.2) x79.2)) fun x80 =>
    bnd (gd (some x77) false x80.2 (lt (pFieldAddr Try.prog 28 x2 3) x80.2)) fun x81 =>
    bnd (gd (some x77) false x81.2 (lt (pLoad Try.prog 26 x81.1 x81.2) x81.2)) fun x82 =>
    bnd (gd (some x77) false x82.2 (inv (.func 15) #[] #[x80.1, x82.1] x82.2)) fun x83 =>
    bnd (gd (some x77) false x83.2 (lt (pBin Try.prog Go.BinOp.gtr 3 (Go.Operand.tmp 83) (Go.Operand.const (Go.Value.int Go.IntKind.i64 0)) x83.1 (Go.Value.int Go.IntKind.i64 0)) x83.2)) fun x84 =>
    bnd (pickV x77 (Go.Value.bool true) x84.1) fun x85 =>
    K .normal (act 86 [(85, x85)]) x84.2 := (k_reg (by kernel_rfl)).trans (by kernel_rfl)
theorem b21_rlrrrr {β : Type} {inv : Inv} {k : Nat} {x85 : Value} {h : AH} {K : XE → Act → AH → Option β} : kCode env 21 false inv k (cr (cl (cr (cr (cr (cr c21)))))) (act 86 [(85, x85)]) h K = brV x85 (kCode env 21 false inv k (cl (cr (cl (cr (cr (cr (cr c21))))))) (act 86 [(85, x85)]) h K) (kCode env 21 false inv k (cr (cr (cl (cr (cr (cr (cr c21))))))) (act 86 [(85, x85)]) h K) := (k_cond (by kernel_rfl)).trans (by kernel_rfl)
theorem r21_7 {β : Type} {inv : Inv} {k : Nat} {x85 : Value} {h : AH} {K : XE → Act → AH → Option β} : kCode env 21 false inv k (cl (cl (cr (cl (cr (cr (cr (cr c21)))))))) (act 86 [(85, x85)]) h K =
    K .normal (act 86 [(4, (Go.Value.int Go.IntKind.i64 2))]) h := (k_reg (by kernel_rfl)).trans (by kernel_rfl)
theorem r21_8 {β : Type} {inv : Inv} {k : Nat} {x85 : Value} {h : AH} {K : XE → Act → AH → Option β} : kCode env 21 false inv k (cl (cr (cr (cr (cr (cr c21)))))) (act 86 [(85, x85)]) h K =
    K .normal (act 86 [(4, (Go.Value.int Go.IntKind.i64 0))]) h := (k_reg (by kernel_rfl)).trans (by kernel_rfl)
/-- shadowbook/zone.Check -/
noncomputable def F21 (inv : Inv) (k : Nat) (x0 x1 : Value) (h : AH) : Option (Value × AH) :=
    bnd (pBox Try.prog 28 x0 h) fun x2 =>
    bnd (pBin Try.prog Go.BinOp.lss 3 (Go.Operand.tmp 6) (Go.Operand.const (Go.Value.int Go.IntKind.i64 1)) x1 (Go.Value.int Go.IntKind.i64 1)) fun x7 =>
    bnd (gd (some x7) false x2.2 (some (x1, x2.2))) fun x9 =>
    bnd (gd (some x7) false x9.2 (lt (pBin Try.prog Go.BinOp.gtr 3 (Go.Operand.tmp 9) (Go.Operand.const (Go.Value.int Go.IntKind.i64 3)) x9.1 (Go.Value.int Go.IntKind.i64 3)) x9.2)) fun x10 =>
    bnd (pickV x7 (Go.Value.bool true) x10.1) fun x11 =>
    bnd (gd (some x11) false x10.2 (lt (pFieldAddr Try.prog 28 x2.1 0) x10.2)) fun x13 =>
    bnd (gd (some x11) false x13.2 (lt (pLoad Try.prog 3 x13.1 x13.2) x13.2)) fun x14 =>
    bnd (gd (some x11) false x14.2 (lt (pBin Try.prog Go.BinOp.lss 3 (Go.Operand.tmp 14) (Go.Operand.const (Go.Value.int Go.IntKind.i64 0)) x14.1 (Go.Value.int Go.IntKind.i64 0)) x14.2)) fun x15 =>
    bnd (pickV x11 (Go.Value.bool true) x15.1) fun x16 =>
    bnd (gd (some x16) false x15.2 (lt (pFieldAddr Try.prog 28 x2.1 1) x15.2)) fun x18 =>
    bnd (gd (some x16) false x18.2 (lt (pLoad Try.prog 3 x18.1 x18.2) x18.2)) fun x19 =>
    bnd (gd (some x16) false x19.2 (lt (pBin Try.prog Go.BinOp.lss 3 (Go.Operand.tmp 19) (Go.Operand.const (Go.Value.int Go.IntKind.i64 0)) x19.1 (Go.Value.int Go.IntKind.i64 0)) x19.2)) fun x20 =>
    bnd (pickV x16 (Go.Value.bool true) x20.1) fun x21 =>
    bnd (gd (some x21) false x20.2 (lt (pFieldAddr Try.prog 28 x2.1 1) x20.2)) fun x23 =>
    bnd (gd (some x21) false x23.2 (lt (pLoad Try.prog 3 x23.1 x23.2) x23.2)) fun x24 =>
    bnd (gd (some x21) false x24.2 (lt (pFieldAddr Try.prog 28 x2.1 0) x24.2)) fun x25 =>
    bnd (gd (some x21) false x25.2 (lt (pLoad Try.prog 3 x25.1 x25.2) x25.2)) fun x26 =>
    bnd (gd (some x21) false x26.2 (lt (pBin Try.prog Go.BinOp.gtr 3 (Go.Operand.tmp 24) (Go.Operand.tmp 26) x24.1 x26.1) x26.2)) fun x27 =>
    bnd (pickV x21 (Go.Value.bool true) x27.1) fun x28 =>
    brV x28
    (some ((Go.Value.int Go.IntKind.i64 2), x27.2))
    (bnd (pFieldAddr Try.prog 28 x2.1 2) fun x29 =>
    bnd (pLoad Try.prog 26 x29 x27.2) fun x30 =>
    bnd (pBuild Try.prog 26 #[]) fun x31 =>
    bnd (pBin Try.prog Go.BinOp.eql 26 (Go.Operand.tmp 30) (Go.Operand.tmp 31) x30 x31) fun x32 =>
    bnd (gd (some x32) true x27.2 (lt (pFieldAddr Try.prog 28 x2.1 3) x27.2)) fun x34 =>
    bnd (gd (some x32) true x34.2 (lt (pLoad Try.prog 26 x34.1 x34.2) x34.2)) fun x35 =>
    bnd (gd (some x32) true x35.2 (lt (pBuild Try.prog 26 #[]) x35.2)) fun x36 =>
    bnd (gd (some x32) true x36.2 (lt (pBin Try.prog Go.BinOp.eql 26 (Go.Operand.tmp 35) (Go.Operand.tmp 36) x35.1 x36.1) x36.2)) fun x37 =>
    bnd (pickV x32 x37.1 (Go.Value.bool false)) fun x38 =>
    bnd (pFieldAddr Try.prog 28 x2.1 1) fun x39 =>
    bnd (pLoad Try.prog 3 x39 x37.2) fun x40 =>
    bnd (pFieldAddr Try.prog 28 x2.1 0) fun x41 =>
    bnd (pLoad Try.prog 3 x41 x37.2) fun x42 =>
    bnd (pBin Try.prog Go.BinOp.eql 3 (Go.Operand.tmp 40) (Go.Operand.tmp 42) x40 x42) fun x43 =>
    bnd (gd (some x43) true x37.2 (some (x38, x37.2))) fun x45 =>
    bnd (pickV x43 x45.1 (Go.Value.bool false)) fun x46 =>
    brV x46
    (some ((Go.Value.int Go.IntKind.i64 0), x45.2))
    (bnd (pFieldAddr Try.prog 28 x2.1 1) fun x47 =>
    bnd (pLoad Try.prog 3 x47 x45.2) fun x48 =>
    bnd (pFieldAddr Try.prog 28 x2.1 0) fun x49 =>
    bnd (pLoad Try.prog 3 x49 x45.2) fun x50 =>
    bnd (pBin Try.prog Go.BinOp.eql 3 (Go.Operand.tmp 48) (Go.Operand.tmp 50) x48 x50) fun x51 =>
    bnd (gd (some x51) false x45.2 (lt (pFieldAddr Try.prog 28 x2.1 2) x45.2)) fun x53 =>
    bnd (gd (some x51) false x53.2 (lt (pFieldAddr Try.prog 26 x53.1 0) x53.2)) fun x54 =>
    bnd (gd (some x51) false x54.2 (lt (pLoad Try.prog 3 x54.1 x54.2) x54.2)) fun x55 =>
    bnd (gd (some x51) false x55.2 (some (x1, x55.2))) fun x56 =>
    bnd (gd (some x51) false x56.2 (lt (pBin Try.prog Go.BinOp.neq 3 (Go.Operand.tmp 55) (Go.Operand.tmp 56) x55.1 x56.1) x56.2)) fun x57 =>
    bnd (pickV x51 (Go.Value.bool true) x57.1) fun x58 =>
    bnd (gd (some x58) false x57.2 (lt (pFieldAddr Try.prog 28 x2.1 3) x57.2)) fun x60 =>
    bnd (gd (some x58) false x60.2 (lt (pFieldAddr Try.prog 26 x60.1 0) x60.2)) fun x61 =>
    bnd (gd (some x58) false x61.2 (lt (pLoad Try.prog 3 x61.1 x61.2) x61.2)) fun x62 =>
    bnd (gd (some x58) false x62.2 (some (x1, x62.2))) fun x63 =>
    bnd (gd (some x58) false x63.2 (lt (pBin Try.prog Go.BinOp.neq 3 (Go.Operand.tmp 62) (Go.Operand.tmp 63) x62.1 x63.1) x63.2)) fun x64 =>
    bnd (pickV x58 (Go.Value.bool true) x64.1) fun x65 =>
    bnd (gd (some x65) false x64.2 (lt (pFieldAddr Try.prog 28 x2.1 2) x64.2)) fun x67 =>
    bnd (gd (some x65) false x67.2 (lt (pLoad Try.prog 26 x67.1 x67.2) x67.2)) fun x68 =>
    bnd (gd (some x65) false x68.2 (inv (.func 19) #[] #[x68.1] x68.2)) fun x69 =>
    bnd (gd (some x65) false x69.2 (lt (pBin Try.prog Go.BinOp.neq 41 (Go.Operand.tmp 69) (Go.Operand.const (Go.Value.int Go.IntKind.i64 0)) x69.1 (Go.Value.int Go.IntKind.i64 0)) x69.2)) fun x70 =>
    bnd (pickV x65 (Go.Value.bool true) x70.1) fun x71 =>
    bnd (gd (some x71) false x70.2 (lt (pFieldAddr Try.prog 28 x2.1 3) x70.2)) fun x73 =>
    bnd (gd (some x71) false x73.2 (lt (pLoad Try.prog 26 x73.1 x73.2) x73.2)) fun x74 =>
    bnd (gd (some x71) false x74.2 (inv (.func 19) #[] #[x74.1] x74.2)) fun x75 =>
    bnd (gd (some x71) false x75.2 (lt (pBin Try.prog Go.BinOp.neq 41 (Go.Operand.tmp 75) (Go.Operand.const (Go.Value.int Go.IntKind.i64 0)) x75.1 (Go.Value.int Go.IntKind.i64 0)) x75.2)) fun x76 =>
    bnd (pickV x71 (Go.Value.bool true) x76.1) fun x77 =>
    bnd (gd (some x77) false x76.2 (lt (pFieldAddr Try.prog 28 x2.1 2) x76.2)) fun x79 =>
    bnd (gd (some x77) false x79.2 (lt (pLoad Try.prog 26 x79.1 x79.2) x79.2)) fun x80 =>
    bnd (gd (some x77) false x80.2 (lt (pFieldAddr Try.prog 28 x2.1 3) x80.2)) fun x81 =>
    bnd (gd (some x77) false x81.2 (lt (pLoad Try.prog 26 x81.1 x81.2) x81.2)) fun x82 =>
    bnd (gd (some x77) false x82.2 (inv (.func 15) #[] #[x80.1, x82.1] x82.2)) fun x83 =>
    bnd (gd (some x77) false x83.2 (lt (pBin Try.prog Go.BinOp.gtr 3 (Go.Operand.tmp 83) (Go.Operand.const (Go.Value.int Go.IntKind.i64 0)) x83.1 (Go.Value.int Go.IntKind.i64 0)) x83.2)) fun x84 =>
    bnd (pickV x77 (Go.Value.bool true) x84.1) fun x85 =>
    brV x85
    (some ((Go.Value.int Go.IntKind.i64 2), x84.2))
    (some ((Go.Value.int Go.IntKind.i64 0), x84.2))))
theorem F21_eq {inv : Inv} {k : Nat} {x0 x1 : Value} {h : AH} : eFun env k inv 21 #[x0, x1] h = F21 inv k x0 x1 h := by
      refine (eFun_k2 (by kernel_rfl) (by kernel_rfl) (by kernel_rfl) (a := act 86 [(0, x0), (1, x1)]) (c := c21) (by kernel_rfl) (by kernel_rfl)).trans ?_
      unfold F21
      simp only [k_seq (E := env) (f := 21) (c := c21) (by kernel_rfl), r21_0, k_seq (E := env) (f := 21) (c := (cr c21)) (by kernel_rfl), k_seq (E := env) (f := 21) (c := (cl (cr c21))) (by kernel_rfl), r21_1, b21_rlr, k_seq (E := env) (f := 21) (c := (cl (cr (cl (cr c21))))) (by kernel_rfl), r21_2, k_ret (E := env) (f := 21) (c := (cr (cl (cr (cl (cr c21)))))) (by kernel_rfl), res21_0, k_skip (E := env) (f := 21) (c := (cr (cr (cl (cr c21))))) (by kernel_rfl), k_seq (E := env) (f := 21) (c := (cr (cr c21))) (by kernel_rfl), r21_3, k_seq (E := env) (f := 21) (c := (cr (cr (cr c21)))) (by kernel_rfl), k_seq (E := env) (f := 21) (c := (cl (cr (cr (cr c21))))) (by kernel_rfl), r21_4, b21_rlrrr, k_seq (E := env) (f := 21) (c := (cl (cr (cl (cr (cr (cr c21))))))) (by kernel_rfl), r21_5, k_ret (E := env) (f := 21) (c := (cr (cl (cr (cl (cr (cr (cr c21)))))))) (by kernel_rfl), k_skip (E := env) (f := 21) (c := (cr (cr (cl (cr (cr (cr c21))))))) (by kernel_rfl), k_seq (E := env) (f := 21) (c := (cr (cr (cr (cr c21))))) (by kernel_rfl), k_seq (E := env) (f := 21) (c := (cl (cr (cr (cr (cr c21)))))) (by kernel_rfl), r21_6, b21_rlrrrr, k_seq (E := env) (f := 21) (c := (cl (cr (cl (cr (cr (cr (cr c21)))))))) (by kernel_rfl), r21_7, k_ret (E := env) (f := 21) (c := (cr (cl (cr (cl (cr (cr (cr (cr c21))))))))) (by kernel_rfl), k_skip (E := env) (f := 21) (c := (cr (cr (cl (cr (cr (cr (cr c21)))))))) (by kernel_rfl), k_seq (E := env) (f := 21) (c := (cr (cr (cr (cr (cr c21)))))) (by kernel_rfl), r21_8, k_ret (E := env) (f := 21) (c := (cr (cr (cr (cr (cr (cr c21))))))) (by kernel_rfl), reduceIte, reduceCtorEq, XE.exit.injEq, Nat.reduceEqDiff] <;> kernel_rfl
theorem F21_call {k : Nat} {x0 x1 : Value} {h : AH} : eInv env (k + 1) (.func 21) #[] #[x0, x1] h = F21 (eInv env k) k x0 x1 h := (inv_func (by kernel_rfl)).trans F21_eq
noncomputable def c22 : Code := codeOf Try.prog 22
theorem r22_0 {β : Type} {inv : Inv} {k : Nat} {x0 x1 x2 : Value} {h : AH} {K : XE → Act → AH → Option β} : kCode env 22 false inv k (cl c22) (act 30 [(0, x0), (1, x1), (2, x2)]) h K =
    K .normal (act 30 [(0, x0), (1, x1), (2, x2)]) h := (k_reg (by kernel_rfl)).trans (by kernel_rfl)
theorem r22_1 {β : Type} {inv : Inv} {k : Nat} {x0 x1 x2 : Value} {h : AH} {K : XE → Act → AH → Option β} : kCode env 22 false inv k (cl (cl (cr c22))) (act 30 [(0, x0), (1, x1), (2, x2)]) h K =
    bnd (pLen Try.prog #[22] x0 h) fun x10 =>
    bnd (pBin Try.prog Go.BinOp.gtr 3 (Go.Operand.tmp 10) (Go.Operand.tmp 11) x10 x1) fun x12 =>
    K .normal (act 30 [(0, x0), (2, x2), (12, x12)]) h := (k_reg (by kernel_rfl)).trans (by kernel_rfl)
theorem b22_rlr {β : Type} {inv : Inv} {k : Nat} {x0 x2 x12 : Value} {h : AH} {K : XE → Act → AH → Option β} : kCode env 22 false inv k (cr (cl (cr c22))) (act 30 [(0, x0), (2, x2), (12, x12)]) h K = brV x12 (kCode env 22 false inv k (cl (cr (cl (cr c22)))) (act 30 [(0, x0), (2, x2), (12, x12)]) h K) (kCode env 22 false inv k (cr (cr (cl (cr c22)))) (act 30 [(0, x0), (2, x2), (12, x12)]) h K) := (k_cond (by kernel_rfl)).trans (by kernel_rfl)
theorem r22_2 {β : Type} {inv : Inv} {k : Nat} {x0 x2 x12 : Value} {h : AH} {K : XE → Act → AH → Option β} : kCode env 22 false inv k (cl (cl (cr (cl (cr c22))))) (act 30 [(0, x0), (2, x2), (12, x12)]) h K =
    K .normal (act 30 [(6, (Go.Value.bool false))]) h := (k_reg (by kernel_rfl)).trans (by kernel_rfl)
theorem res22_0 {x6 : Value} {h : AH} : resOfFn env.P 22 .ret (act 30 [(6, x6)]) h = some (x6, h) := (resOfFn_k (by kernel_rfl) (by kernel_rfl)).trans (by kernel_rfl)
theorem r22_3 {β : Type} {inv : Inv} {k : Nat} {x0 x2 x12 : Value} {h : AH} {K : XE → Act → AH → Option β} : kCode env 22 false inv k (cl (cr (cr c22))) (act 30 [(0, x0), (2, x2), (12, x12)]) h K =
    K .normal (act 30 [(0, x0), (2, x2), (7, (Go.Value.int Go.IntKind.i64 0))]) h := (k_reg (by kernel_rfl)).trans (by kernel_rfl)
theorem r22_4 {β : Type} {inv : Inv} {k : Nat} {x0 x2 x7 : Value} {h : AH} {K : XE → Act → AH → Option β} : kCode env 22 false inv k (cl (cl (cr (cr (cr c22))))) (act 30 [(0, x0), (2, x2), (7, x7)]) h K =
    K .normal (act 30 [(0, x0), (2, x2), (7, x7), (8, (Go.Value.int Go.IntKind.i64 0))]) h := (k_reg (by kernel_rfl)).trans (by kernel_rfl)
theorem r22_5 {β : Type} {inv : Inv} {k : Nat} {x0 x2 x7 x8 : Value} {h : AH} {K : XE → Act → AH → Option β} : kCode env 22 false inv k (cl (cl (cl (cl (cr (cl (cr (cr (cr c22))))))))) (act 30 [(0, x0), (2, x2), (7, x7), (8, x8)]) h K =
    bnd (pLen Try.prog #[22] x0 h) fun x15 =>
    bnd (pBin Try.prog Go.BinOp.lss 3 (Go.Operand.tmp 13) (Go.Operand.tmp 15) x8 x15) fun x16 =>
    K .normal (act 30 [(0, x0), (2, x2), (7, x7), (8, x8), (16, x16)]) h := (k_reg (by kernel_rfl)).trans (by kernel_rfl)
theorem b22_rlllrlrrr {β : Type} {inv : Inv} {k : Nat} {x0 x2 x7 x8 x16 : Value} {h : AH} {K : XE → Act → AH → Option β} : kCode env 22 false inv k (cr (cl (cl (cl (cr (cl (cr (cr (cr c22))))))))) (act 30 [(0, x0), (2, x2), (7, x7), (8, x8), (16, x16)]) h K = brV x16 (kCode env 22 false inv k (cl (cr (cl (cl (cl (cr (cl (cr (cr (cr c22)))))))))) (act 30 [(0, x0), (2, x2), (7, x7), (8, x8), (16, x16)]) h K) (kCode env 22 false inv k (cr (cr (cl (cl (cl (cr (cl (cr (cr (cr c22)))))))))) (act 30 [(0, x0), (2, x2), (7, x7), (8, x8), (16, x16)]) h K) := (k_cond (by kernel_rfl)).trans (by kernel_rfl)
theorem r22_7 {β : Type} {inv : Inv} {k : Nat} {x0 x2 x7 x8 x16 : Value} {h : AH} {K : XE → Act → AH → Option β} : kCode env 22 false inv k (cl (cl (cl (cr (cl (cl (cr (cl (cr (cr (cr c22))))))))))) (act 30 [(0, x0), (2, x2), (7, x7), (8, x8), (16, x16)]) h K =
    bnd (pIndexAddr Try.prog 22 x0 x8) fun x22 =>
    bnd (pFieldAddr Try.prog 26 x22 2) fun x23 =>
    bnd (pLoad Try.prog 9 x23 h) fun x24 =>
    bnd (pLen Try.prog #[9] x24 h) fun x25 =>
    bnd (pBin Try.prog Go.BinOp.add 3 (Go.Operand.tmp 19) (Go.Operand.tmp 25) x7 x25) fun x26 =>
    K .normal (act 30 [(0, x0), (2, x2), (7, x26), (8, x8)]) h := (k_reg (by kernel_rfl)).trans (by kernel_rfl)
theorem r22_8 {β : Type} {inv : Inv} {k : Nat} {x0 x2 x7 x8 : Value} {h : AH} {K : XE → Act → AH → Option β} : kCode env 22 false inv k (cl (cr (cl (cl (cr (cl (cl (cr (cl (cr (cr (cr c22)))))))))))) (act 30 [(0, x0), (2, x2), (7, x7), (8, x8)]) h K =
    bnd (pBin Try.prog Go.BinOp.gtr 3 (Go.Operand.tmp 27) (Go.Operand.tmp 28) x7 x2) fun x29 =>
    K .normal (act 30 [(0, x0), (2, x2), (7, x7), (8, x8), (29, x29)]) h := (k_reg (by kernel_rfl)).trans (by kernel_rfl)
theorem b22_rrllrllrlrrr {β : Type} {inv : Inv} {k : Nat} {x0 x2 x7 x8 x29 : Value} {h : AH} {K : XE → Act → AH → Option β} : kCode env 22 false inv k (cr (cr (cl (cl (cr (cl (cl (cr (cl (cr (cr (cr c22)))))))))))) (act 30 [(0, x0), (2, x2), (7, x7), (8, x8), (29, x29)]) h K = brV x29 (kCode env 22 false inv k (cl (cr (cr (cl (cl (cr (cl (cl (cr (cl (cr (cr (cr c22))))))))))))) (act 30 [(0, x0), (2, x2), (7, x7), (8, x8), (29, x29)]) h K) (kCode env 22 false inv k (cr (cr (cr (cl (cl (cr (cl (cl (cr (cl (cr (cr (cr c22))))))))))))) (act 30 [(0, x0), (2, x2), (7, x7), (8, x8), (29, x29)]) h K) := (k_cond (by kernel_rfl)).trans (by kernel_rfl)
theorem r22_9 {β : Type} {inv : Inv} {k : Nat} {x0 x2 x7 x8 x29 : Value} {h : AH} {K : XE → Act → AH → Option β} : kCode env 22 false inv k (cl (cl (cr (cr (cl (cl (cr (cl (cl (cr (cl (cr (cr (cr c22)))))))))))))) (act 30 [(0, x0), (2, x2), (7, x7), (8, x8), (29, x29)]) h K =
    K .normal (act 30 [(6, (Go.Value.bool false))]) h := (k_reg (by kernel_rfl)).trans (by kernel_rfl)
theorem r22_6 {β : Type} {inv : Inv} {k : Nat} {x0 x2 x7 x8 x29 : Value} {h : AH} {K : XE → Act → AH → Option β} : kCode env 22 false inv k (cr (cr (cl (cl (cr (cl (cr (cr (cr c22))))))))) (act 30 [(0, x0), (2, x2), (7, x7), (8, x8), (29, x29)]) h K =
    bnd (pBin Try.prog Go.BinOp.add 3 (Go.Operand.tmp 17) (Go.Operand.const (Go.Value.int Go.IntKind.i64 1)) x8 (Go.Value.int Go.IntKind.i64 1)) fun x18 =>
    K .normal (act 30 [(0, x0), (2, x2), (7, x7), (8, x18)]) h := (k_reg (by kernel_rfl)).trans (by kernel_rfl)
noncomputable def F22_lrlrrr {β : Type} (inv : Inv) (k : Nat) : Nat → Value → Value → Value → Value → AH → (Value → Value → Value → Value → Value → AH → Option β) → (Value → AH → Option β) → Option β
  | 0, _, _, _, _, _, _, _ => none
  | j + 1, x0, x2, x7, x8, h, ke0, kr =>
    bnd (pLen Try.prog #[22] x0 h) fun x15 =>
    bnd (pBin Try.prog Go.BinOp.lss 3 (Go.Operand.tmp 13) (Go.Operand.tmp 15) x8 x15) fun x16 =>
    brV x16
    (bnd (pIndexAddr Try.prog 22 x0 x8) fun x22 =>
    bnd (pFieldAddr Try.prog 26 x22 2) fun x23 =>
    bnd (pLoad Try.prog 9 x23 h) fun x24 =>
    bnd (pLen Try.prog #[9] x24 h) fun x25 =>
    bnd (pBin Try.prog Go.BinOp.add 3 (Go.Operand.tmp 19) (Go.Operand.tmp 25) x7 x25) fun x26 =>
    bnd (pBin Try.prog Go.BinOp.gtr 3 (Go.Operand.tmp 27) (Go.Operand.tmp 28) x26 x2) fun x29 =>
    brV x29
    (kr (Go.Value.bool false) h)
    (bnd (pBin Try.prog Go.BinOp.add 3 (Go.Operand.tmp 17) (Go.Operand.const (Go.Value.int Go.IntKind.i64 1)) x8 (Go.Value.int Go.IntKind.i64 1)) fun x18 =>
    F22_lrlrrr inv k j x0 x2 x26 x18 h ke0 kr))
    (ke0 x0 x2 x7 x8 x16 h)
theorem F22_lrlrrr_j {β : Type} {inv : Inv} {k : Nat} (j : Nat) {x0 x2 x7 x8 : Value} {h : AH} {K : XE → Act → AH → Option β} : kLoop (kCode env 22 false inv k (cl (cl (cr (cl (cr (cr (cr c22)))))))) j (act 30 [(0, x0), (2, x2), (7, x7), (8, x8)]) h K = F22_lrlrrr inv k j x0 x2 x7 x8 h (fun y0 y2 y7 y8 y16 h => K (.exit 0) (act 30 [(0, y0), (2, y2), (7, y7), (8, y8), (16, y16)]) h) (fun y6 h => K .ret (act 30 [(6, y6)]) h) := by
      induction j generalizing x0 x2 x7 x8 h with
      | zero => rfl
      | succ j ih =>
        unfold F22_lrlrrr
        simp only [kLoop, k_seq (E := env) (f := 22) (c := (cl (cl (cr (cl (cr (cr (cr c22)))))))) (by kernel_rfl), k_seq (E := env) (f := 22) (c := (cl (cl (cl (cr (cl (cr (cr (cr c22))))))))) (by kernel_rfl), r22_5, b22_rlllrlrrr, k_skip (E := env) (f := 22) (c := (cl (cr (cl (cl (cl (cr (cl (cr (cr (cr c22))))))))))) (by kernel_rfl), k_seq (E := env) (f := 22) (c := (cr (cl (cl (cr (cl (cr (cr (cr c22))))))))) (by kernel_rfl), k_block (E := env) (f := 22) (c := (cl (cr (cl (cl (cr (cl (cr (cr (cr c22)))))))))) (id := 1) (by kernel_rfl), k_seq (E := env) (f := 22) (c := (cl (cl (cr (cl (cl (cr (cl (cr (cr (cr c22))))))))))) (by kernel_rfl), r22_7, k_seq (E := env) (f := 22) (c := (cr (cl (cl (cr (cl (cl (cr (cl (cr (cr (cr c22)))))))))))) (by kernel_rfl), r22_8, b22_rrllrllrlrrr, k_seq (E := env) (f := 22) (c := (cl (cr (cr (cl (cl (cr (cl (cl (cr (cl (cr (cr (cr c22)))))))))))))) (by kernel_rfl), r22_9, k_ret (E := env) (f := 22) (c := (cr (cl (cr (cr (cl (cl (cr (cl (cl (cr (cl (cr (cr (cr c22))))))))))))))) (by kernel_rfl), k_skip (E := env) (f := 22) (c := (cr (cr (cr (cl (cl (cr (cl (cl (cr (cl (cr (cr (cr c22)))))))))))))) (by kernel_rfl), r22_6, k_exit (E := env) (f := 22) (c := (cr (cr (cl (cl (cl (cr (cl (cr (cr (cr c22))))))))))) (id := 0) (by kernel_rfl), ih, reduceIte, reduceCtorEq, XE.exit.injEq, Nat.reduceEqDiff] <;> kernel_rfl
theorem F22_lrlrrr_eq {β : Type} {inv : Inv} {k : Nat} {x0 x2 x7 x8 : Value} {h : AH} {K : XE → Act → AH → Option β} : kCode env 22 false inv k (cl (cr (cl (cr (cr (cr c22)))))) (act 30 [(0, x0), (2, x2), (7, x7), (8, x8)]) h K = F22_lrlrrr inv k k x0 x2 x7 x8 h (fun y0 y2 y7 y8 y16 h => K (.exit 0) (act 30 [(0, y0), (2, y2), (7, y7), (8, y8), (16, y16)]) h) (fun y6 h => K .ret (act 30 [(6, y6)]) h) := (k_loop (by kernel_rfl)).trans (F22_lrlrrr_j k)
theorem r22_10 {β : Type} {inv : Inv} {k : Nat} {x0 x2 x7 x8 x16 : Value} {h : AH} {K : XE → Act → AH → Option β} : kCode env 22 false inv k (cl (cr (cr (cr (cr c22))))) (act 30 [(0, x0), (2, x2), (7, x7), (8, x8), (16, x16)]) h K =
    K .normal (act 30 [(6, (Go.Value.bool true))]) h := (k_reg (by kernel_rfl)).trans (by kernel_rfl)
/-- shadowbook/shadowbookkit.LightCells -/
noncomputable def F22 (inv : Inv) (k : Nat) (x0 x1 x2 : Value) (h : AH) : Option (Value × AH) :=
    bnd (pLen Try.prog #[22] x0 h) fun x10 =>
    bnd (pBin Try.prog Go.BinOp.gtr 3 (Go.Operand.tmp 10) (Go.Operand.tmp 11) x10 x1) fun x12 =>
    brV x12
    (some ((Go.Value.bool false), h))
    (F22_lrlrrr inv k k x0 x2 (Go.Value.int Go.IntKind.i64 0) (Go.Value.int Go.IntKind.i64 0) h
    (fun y0 y2 y7 y8 y16 h =>
    some ((Go.Value.bool true), h))
    (fun y6 h_1 =>
    some (y6, h_1)))
theorem F22_eq {inv : Inv} {k : Nat} {x0 x1 x2 : Value} {h : AH} : eFun env k inv 22 #[x0, x1, x2] h = F22 inv k x0 x1 x2 h := by
      refine (eFun_k2 (by kernel_rfl) (by kernel_rfl) (by kernel_rfl) (a := act 30 [(0, x0), (1, x1), (2, x2)]) (c := c22) (by kernel_rfl) (by kernel_rfl)).trans ?_
      unfold F22
      simp only [k_seq (E := env) (f := 22) (c := c22) (by kernel_rfl), r22_0, k_seq (E := env) (f := 22) (c := (cr c22)) (by kernel_rfl), k_seq (E := env) (f := 22) (c := (cl (cr c22))) (by kernel_rfl), r22_1, b22_rlr, k_seq (E := env) (f := 22) (c := (cl (cr (cl (cr c22))))) (by kernel_rfl), r22_2, k_ret (E := env) (f := 22) (c := (cr (cl (cr (cl (cr c22)))))) (by kernel_rfl), res22_0, k_skip (E := env) (f := 22) (c := (cr (cr (cl (cr c22))))) (by kernel_rfl), k_seq (E := env) (f := 22) (c := (cr (cr c22))) (by kernel_rfl), r22_3, k_seq (E := env) (f := 22) (c := (cr (cr (cr c22)))) (by kernel_rfl), k_seq (E := env) (f := 22) (c := (cl (cr (cr (cr c22))))) (by kernel_rfl), r22_4, k_block (E := env) (f := 22) (c := (cr (cl (cr (cr (cr c22)))))) (id := 0) (by kernel_rfl), F22_lrlrrr_eq, k_seq (E := env) (f := 22) (c := (cr (cr (cr (cr c22))))) (by kernel_rfl), r22_10, k_ret (E := env) (f := 22) (c := (cr (cr (cr (cr (cr c22)))))) (by kernel_rfl), reduceIte, reduceCtorEq, XE.exit.injEq, Nat.reduceEqDiff] <;> kernel_rfl
theorem F22_call {k : Nat} {x0 x1 x2 : Value} {h : AH} : eInv env (k + 1) (.func 22) #[] #[x0, x1, x2] h = F22 (eInv env k) k x0 x1 x2 h := (inv_func (by kernel_rfl)).trans F22_eq
noncomputable def c23 : Code := codeOf Try.prog 23
theorem r23_0 {β : Type} {inv : Inv} {k : Nat} {x0 : Value} {h : AH} {K : XE → Act → AH → Option β} : kCode env 23 false inv k (cl c23) (act 10 [(0, x0)]) h K =
    bnd (pBox Try.prog 26 x0 h) fun x1 =>
    bnd (pAlloc Try.prog 28 x1.2) fun x2 =>
    K .normal (act 10 [(1, x1.1), (2, x2.1)]) x2.2 := (k_reg (by kernel_rfl)).trans (by kernel_rfl)
theorem r23_1 {β : Type} {inv : Inv} {k : Nat} {x1 x2 : Value} {h : AH} {K : XE → Act → AH → Option β} : kCode env 23 false inv k (cl (cl (cr c23))) (act 10 [(1, x1), (2, x2)]) h K =
    bnd (pFieldAddr Try.prog 26 x1 0) fun x3 =>
    bnd (pLoad Try.prog 3 x3 h) fun x4 =>
    bnd (pBin Try.prog Go.BinOp.eql 3 (Go.Operand.tmp 4) (Go.Operand.const (Go.Value.int Go.IntKind.i64 0)) x4 (Go.Value.int Go.IntKind.i64 0)) fun x5 =>
    K .normal (act 10 [(1, x1), (2, x2), (5, x5)]) h := (k_reg (by kernel_rfl)).trans (by kernel_rfl)
theorem b23_rlr {β : Type} {inv : Inv} {k : Nat} {x1 x2 x5 : Value} {h : AH} {K : XE → Act → AH → Option β} : kCode env 23 false inv k (cr (cl (cr c23))) (act 10 [(1, x1), (2, x2), (5, x5)]) h K = brV x5 (kCode env 23 false inv k (cl (cr (cl (cr c23)))) (act 10 [(1, x1), (2, x2), (5, x5)]) h K) (kCode env 23 false inv k (cr (cr (cl (cr c23)))) (act 10 [(1, x1), (2, x2), (5, x5)]) h K) := (k_cond (by kernel_rfl)).trans (by kernel_rfl)
theorem r23_2 {β : Type} {inv : Inv} {k : Nat} {x1 x2 x5 : Value} {h : AH} {K : XE → Act → AH → Option β} : kCode env 23 false inv k (cl (cl (cr (cl (cr c23))))) (act 10 [(1, x1), (2, x2), (5, x5)]) h K =
    bnd (pBuild Try.prog 28 #[(0, (Go.Value.int Go.IntKind.i64 1)), (1, (Go.Value.int Go.IntKind.i64 1))]) fun x6 =>
    bnd (kSt (pStore Try.prog 28 x2 x6 h)) fun u =>
    K .normal (act 10 [(2, x2)]) u.2 := (k_reg (by kernel_rfl)).trans (by kernel_rfl)
theorem res23_0 {x2 : Value} {h : AH} : resOfFn env.P 23 .ret (act 10 [(2, x2)]) h = bnd (pLoad Try.prog 28 x2 h) fun q0 =>
    some (q0, h) := (resOfFn_k (by kernel_rfl) (by kernel_rfl)).trans (by kernel_rfl)
theorem r23_3 {β : Type} {inv : Inv} {k : Nat} {x1 x2 x5 : Value} {h : AH} {K : XE → Act → AH → Option β} : kCode env 23 false inv k (cl (cr (cr c23))) (act 10 [(1, x1), (2, x2), (5, x5)]) h K =
    bnd (pLoad Try.prog 26 x1 h) fun x7 =>
    bnd (pLoad Try.prog 26 x1 h) fun x8 =>
    bnd (pBuild Try.prog 28 #[(0, (Go.Value.int Go.IntKind.i64 1)), (2, x7), (3, x8)]) fun x9 =>
    bnd (kSt (pStore Try.prog 28 x2 x9 h)) fun u =>
    K .normal (act 10 [(2, x2)]) u.2 := (k_reg (by kernel_rfl)).trans (by kernel_rfl)
/-- shadowbook/zone.one -/
noncomputable def F23 (inv : Inv) (k : Nat) (x0 : Value) (h : AH) : Option (Value × AH) :=
    bnd (pBox Try.prog 26 x0 h) fun x1 =>
    bnd (pAlloc Try.prog 28 x1.2) fun x2 =>
    bnd (pFieldAddr Try.prog 26 x1.1 0) fun x3 =>
    bnd (pLoad Try.prog 3 x3 x2.2) fun x4 =>
    bnd (pBin Try.prog Go.BinOp.eql 3 (Go.Operand.tmp 4) (Go.Operand.const (Go.Value.int Go.IntKind.i64 0)) x4 (Go.Value.int Go.IntKind.i64 0)) fun x5 =>
    brV x5
    (bnd (pBuild Try.prog 28 #[(0, (Go.Value.int Go.IntKind.i64 1)), (1, (Go.Value.int Go.IntKind.i64 1))]) fun x6 =>
    bnd (kSt (pStore Try.prog 28 x2.1 x6 x2.2)) fun u =>
    bnd (pLoad Try.prog 28 x2.1 u.2) fun q0 =>
    some (q0, u.2))
    (bnd (pLoad Try.prog 26 x1.1 x2.2) fun x7 =>
    bnd (pLoad Try.prog 26 x1.1 x2.2) fun x8 =>
    bnd (pBuild Try.prog 28 #[(0, (Go.Value.int Go.IntKind.i64 1)), (2, x7), (3, x8)]) fun x9 =>
    bnd (kSt (pStore Try.prog 28 x2.1 x9 x2.2)) fun u_1 =>
    bnd (pLoad Try.prog 28 x2.1 u_1.2) fun q0 =>
    some (q0, u_1.2))
theorem F23_eq {inv : Inv} {k : Nat} {x0 : Value} {h : AH} : eFun env k inv 23 #[x0] h = F23 inv k x0 h := by
      refine (eFun_k2 (by kernel_rfl) (by kernel_rfl) (by kernel_rfl) (a := act 10 [(0, x0)]) (c := c23) (by kernel_rfl) (by kernel_rfl)).trans ?_
      unfold F23
      simp only [k_seq (E := env) (f := 23) (c := c23) (by kernel_rfl), r23_0, k_seq (E := env) (f := 23) (c := (cr c23)) (by kernel_rfl), k_seq (E := env) (f := 23) (c := (cl (cr c23))) (by kernel_rfl), r23_1, b23_rlr, k_seq (E := env) (f := 23) (c := (cl (cr (cl (cr c23))))) (by kernel_rfl), r23_2, k_ret (E := env) (f := 23) (c := (cr (cl (cr (cl (cr c23)))))) (by kernel_rfl), res23_0, k_skip (E := env) (f := 23) (c := (cr (cr (cl (cr c23))))) (by kernel_rfl), k_seq (E := env) (f := 23) (c := (cr (cr c23))) (by kernel_rfl), r23_3, k_ret (E := env) (f := 23) (c := (cr (cr (cr c23)))) (by kernel_rfl), reduceIte, reduceCtorEq, XE.exit.injEq, Nat.reduceEqDiff] <;> kernel_rfl
theorem F23_call {k : Nat} {x0 : Value} {h : AH} : eInv env (k + 1) (.func 23) #[] #[x0] h = F23 (eInv env k) k x0 h := (inv_func (by kernel_rfl)).trans F23_eq
end Go.Proofs.Ytpiibdegmimckaa.Sh
