/- Shallow functions, part 1. Printed by a program of the prover's own from the loaded program; Lean checks it. -/
import Derived.Test.YtcidbbkefpeahaaSh0
set_option linter.unusedVariables false
set_option linter.unusedSimpArgs false
set_option maxRecDepth 100000
namespace Go.Proofs.Ytcidbbkefpeahaa.Sh
open Go Go.RowKit Go.Proofs.Ev
noncomputable def c5 : Code := codeOf Try.prog 5
theorem r5_0 {β : Type} {inv : Inv} {k : Nat} {h : AH} {K : XE → Act → AH → Option β} : kCode env 5 false inv k (cl c5) (act 133 []) h K =
    K .normal (act 133 []) h := (k_reg (by kernel_rfl)).trans (by kernel_rfl)
theorem r5_1 {β : Type} {inv : Inv} {k : Nat} {h : AH} {K : XE → Act → AH → Option β} : kCode env 5 false inv k (cl (cl (cr c5))) (act 133 []) h K =
    bnd (inv (.func 8) #[] #[] h) fun x21 =>
    bnd (pUn Try.prog Go.UnOp.not x21.1) fun x22 =>
    K .normal (act 133 [(22, x22)]) x21.2 := (k_reg (by kernel_rfl)).trans (by kernel_rfl)
theorem b5_rlr {β : Type} {inv : Inv} {k : Nat} {x22 : Value} {h : AH} {K : XE → Act → AH → Option β} : kCode env 5 false inv k (cr (cl (cr c5))) (act 133 [(22, x22)]) h K = brV x22 (kCode env 5 false inv k (cl (cr (cl (cr c5)))) (act 133 [(22, x22)]) h K) (kCode env 5 false inv k (cr (cr (cl (cr c5)))) (act 133 [(22, x22)]) h K) := (k_cond (by kernel_rfl)).trans (by kernel_rfl)
theorem r5_2 {β : Type} {inv : Inv} {k : Nat} {x22 : Value} {h : AH} {K : XE → Act → AH → Option β} : kCode env 5 false inv k (cl (cl (cr (cl (cr c5))))) (act 133 [(22, x22)]) h K =
    K .normal (act 133 [(0, (Go.Value.bool false))]) h := (k_reg (by kernel_rfl)).trans (by kernel_rfl)
theorem res5_0 {x0 : Value} {h : AH} : resOfFn env.P 5 .ret (act 133 [(0, x0)]) h = some (x0, h) := (resOfFn_k (by kernel_rfl) (by kernel_rfl)).trans (by kernel_rfl)
theorem r5_3 {β : Type} {inv : Inv} {k : Nat} {x22 : Value} {h : AH} {K : XE → Act → AH → Option β} : kCode env 5 false inv k (cl (cr (cr c5))) (act 133 [(22, x22)]) h K =
    bnd (inv (.func 10) #[] #[(Go.Value.slice none 0 0)] h) fun x24 =>
    bnd (pExtract x24.1 0) fun x25 =>
    bnd (pExtract x24.1 1) fun x26 =>
    K .normal (act 133 [(1, x25)]) x24.2 := (k_reg (by kernel_rfl)).trans (by kernel_rfl)
theorem r5_4 {β : Type} {inv : Inv} {k : Nat} {x1 : Value} {h : AH} {K : XE → Act → AH → Option β} : kCode env 5 false inv k (cl (cr (cr (cr c5)))) (act 133 [(1, x1)]) h K =
    bnd (pBuildSlice Try.prog 25 3 #[(0, (Go.Value.int Go.IntKind.i64 1)), (1, (Go.Value.int Go.IntKind.i64 1)), (2, (Go.Value.int Go.IntKind.i64 (-1)))] h) fun x28 =>
    bnd (inv (.func 14) #[] #[x28.1] x28.2) fun x29 =>
    bnd (pExtract x29.1 0) fun x30 =>
    bnd (pExtract x29.1 1) fun x31 =>
    K .normal (act 133 [(1, x1), (3, x30)]) x29.2 := (k_reg (by kernel_rfl)).trans (by kernel_rfl)
theorem r5_5 {β : Type} {inv : Inv} {k : Nat} {x1 x3 : Value} {h : AH} {K : XE → Act → AH → Option β} : kCode env 5 false inv k (cl (cr (cr (cr (cr c5))))) (act 133 [(1, x1), (3, x3)]) h K =
    bnd (pBuildSlice Try.prog 26 2 #[(0, (Go.Value.int Go.IntKind.u8 4)), (1, (Go.Value.int Go.IntKind.u8 0))] h) fun x33 =>
    bnd (inv (.func 15) #[] #[x33.1] x33.2) fun x34 =>
    bnd (pExtract x34.1 0) fun x35 =>
    bnd (pExtract x34.1 1) fun x36 =>
    K .normal (act 133 [(1, x1), (3, x3), (6, x36)]) x34.2 := (k_reg (by kernel_rfl)).trans (by kernel_rfl)
theorem r5_6 {β : Type} {inv : Inv} {k : Nat} {x1 x3 x6 : Value} {h : AH} {K : XE → Act → AH → Option β} : kCode env 5 false inv k (cl (cr (cr (cr (cr (cr c5)))))) (act 133 [(1, x1), (3, x3), (6, x6)]) h K =
    bnd (inv (.func 15) #[] #[(Go.Value.slice none 0 0)] h) fun x38 =>
    bnd (pExtract x38.1 0) fun x39 =>
    bnd (pExtract x38.1 1) fun x40 =>
    K .normal (act 133 [(1, x1), (3, x3), (6, x6), (8, x40)]) x38.2 := (k_reg (by kernel_rfl)).trans (by kernel_rfl)
theorem r5_7 {β : Type} {inv : Inv} {k : Nat} {x1 x3 x6 x8 : Value} {h : AH} {K : XE → Act → AH → Option β} : kCode env 5 false inv k (cl (cr (cr (cr (cr (cr (cr c5))))))) (act 133 [(1, x1), (3, x3), (6, x6), (8, x8)]) h K =
    bnd (inv (.func 15) #[] #[x3] h) fun x43 =>
    bnd (pExtract x43.1 0) fun x44 =>
    bnd (pExtract x43.1 1) fun x45 =>
    K .normal (act 133 [(1, x1), (3, x3), (6, x6), (8, x8), (9, x44), (10, x45)]) x43.2 := (k_reg (by kernel_rfl)).trans (by kernel_rfl)
theorem r5_8 {β : Type} {inv : Inv} {k : Nat} {x1 x3 x6 x8 x9 x10 : Value} {h : AH} {K : XE → Act → AH → Option β} : kCode env 5 false inv k (cl (cr (cr (cr (cr (cr (cr (cr c5)))))))) (act 133 [(1, x1), (3, x3), (6, x6), (8, x8), (9, x9), (10, x10)]) h K =
    bnd (pMakeSlice Try.prog 25 (Go.Value.int Go.IntKind.i64 4097) (Go.Value.int Go.IntKind.i64 4097) h) fun x47 =>
    bnd (inv (.func 10) #[] #[x47.1] x47.2) fun x48 =>
    bnd (pExtract x48.1 0) fun x49 =>
    bnd (pExtract x48.1 1) fun x50 =>
    K .normal (act 133 [(1, x1), (3, x3), (6, x6), (8, x8), (9, x9), (10, x10), (12, x50)]) x48.2 := (k_reg (by kernel_rfl)).trans (by kernel_rfl)
theorem r5_9 {β : Type} {inv : Inv} {k : Nat} {x1 x3 x6 x8 x9 x10 x12 : Value} {h : AH} {K : XE → Act → AH → Option β} : kCode env 5 false inv k (cl (cr (cr (cr (cr (cr (cr (cr (cr c5))))))))) (act 133 [(1, x1), (3, x3), (6, x6), (8, x8), (9, x9), (10, x10), (12, x12)]) h K =
    bnd (inv (.func 16) #[] #[x3] h) fun x53 =>
    bnd (pExtract x53.1 0) fun x54 =>
    bnd (pExtract x53.1 1) fun x55 =>
    K .normal (act 133 [(1, x1), (3, x3), (6, x6), (8, x8), (9, x9), (10, x10), (12, x12), (13, x54), (14, x55)]) x53.2 := (k_reg (by kernel_rfl)).trans (by kernel_rfl)
theorem r5_10 {β : Type} {inv : Inv} {k : Nat} {x1 x3 x6 x8 x9 x10 x12 x13 x14 : Value} {h : AH} {K : XE → Act → AH → Option β} : kCode env 5 false inv k (cl (cr (cr (cr (cr (cr (cr (cr (cr (cr c5)))))))))) (act 133 [(1, x1), (3, x3), (6, x6), (8, x8), (9, x9), (10, x10), (12, x12), (13, x13), (14, x14)]) h K =
    bnd (pBuildSlice Try.prog 26 12 #[(0, (Go.Value.int Go.IntKind.u8 3)), (1, (Go.Value.int Go.IntKind.u8 2)), (2, (Go.Value.int Go.IntKind.u8 5)), (3, (Go.Value.int Go.IntKind.u8 0)), (4, (Go.Value.int Go.IntKind.u8 0)), (5, (Go.Value.int Go.IntKind.u8 0)), (6, (Go.Value.int Go.IntKind.u8 0)), (7, (Go.Value.int Go.IntKind.u8 0)), (8, (Go.Value.int Go.IntKind.u8 0)), (9, (Go.Value.int Go.IntKind.u8 0)), (10, (Go.Value.int Go.IntKind.u8 2)), (11, (Go.Value.int Go.IntKind.u8 4))] h) fun x57 =>
    bnd (pBytes Try.prog 26 26 x57.1 x57.2) fun x58 =>
    bnd (inv (.func 15) #[] #[x58.1] x58.2) fun x59 =>
    bnd (pExtract x59.1 0) fun x60 =>
    bnd (pExtract x59.1 1) fun x61 =>
    K .normal (act 133 [(1, x1), (3, x3), (6, x6), (8, x8), (9, x9), (10, x10), (12, x12), (13, x13), (14, x14), (16, x61)]) x59.2 := (k_reg (by kernel_rfl)).trans (by kernel_rfl)
theorem r5_11 {β : Type} {inv : Inv} {k : Nat} {x1 x3 x6 x8 x9 x10 x12 x13 x14 x16 : Value} {h : AH} {K : XE → Act → AH → Option β} : kCode env 5 false inv k (cl (cr (cr (cr (cr (cr (cr (cr (cr (cr (cr c5))))))))))) (act 133 [(1, x1), (3, x3), (6, x6), (8, x8), (9, x9), (10, x10), (12, x12), (13, x13), (14, x14), (16, x16)]) h K =
    bnd (pBuildSlice Try.prog 26 20 #[(0, (Go.Value.int Go.IntKind.u8 2)), (1, (Go.Value.int Go.IntKind.u8 2)), (2, (Go.Value.int Go.IntKind.u8 1)), (3, (Go.Value.int Go.IntKind.u8 5)), (4, (Go.Value.int Go.IntKind.u8 0)), (5, (Go.Value.int Go.IntKind.u8 0)), (6, (Go.Value.int Go.IntKind.u8 0)), (7, (Go.Value.int Go.IntKind.u8 0)), (8, (Go.Value.int Go.IntKind.u8 0)), (9, (Go.Value.int Go.IntKind.u8 0)), (10, (Go.Value.int Go.IntKind.u8 0)), (11, (Go.Value.int Go.IntKind.u8 1)), (12, (Go.Value.int Go.IntKind.u8 5)), (13, (Go.Value.int Go.IntKind.u8 0)), (14, (Go.Value.int Go.IntKind.u8 0)), (15, (Go.Value.int Go.IntKind.u8 0)), (16, (Go.Value.int Go.IntKind.u8 0)), (17, (Go.Value.int Go.IntKind.u8 0)), (18, (Go.Value.int Go.IntKind.u8 0)), (19, (Go.Value.int Go.IntKind.u8 0))] h) fun x63 =>
    bnd (pBytes Try.prog 26 26 x63.1 x63.2) fun x64 =>
    bnd (inv (.func 15) #[] #[x64.1] x64.2) fun x65 =>
    bnd (pExtract x65.1 0) fun x66 =>
    bnd (pExtract x65.1 1) fun x67 =>
    K .normal (act 133 [(1, x1), (3, x3), (6, x6), (8, x8), (9, x9), (10, x10), (12, x12), (13, x13), (14, x14), (16, x16), (18, x67)]) x65.2 := (k_reg (by kernel_rfl)).trans (by kernel_rfl)
theorem r5_12 {β : Type} {inv : Inv} {k : Nat} {x1 x3 x6 x8 x9 x10 x12 x13 x14 x16 x18 : Value} {h : AH} {K : XE → Act → AH → Option β} : kCode env 5 false inv k (cl (cr (cr (cr (cr (cr (cr (cr (cr (cr (cr (cr c5)))))))))))) (act 133 [(1, x1), (3, x3), (6, x6), (8, x8), (9, x9), (10, x10), (12, x12), (13, x13), (14, x14), (16, x16), (18, x18)]) h K =
    bnd (pBuildSlice Try.prog 25 2 #[(0, (Go.Value.int Go.IntKind.i64 (-9223372036854775808))), (1, (Go.Value.int Go.IntKind.i64 9223372036854775807))] h) fun x69 =>
    bnd (inv (.func 10) #[] #[x69.1] x69.2) fun x70 =>
    bnd (pExtract x70.1 0) fun x71 =>
    bnd (pExtract x70.1 1) fun x72 =>
    K .normal (act 133 [(1, x1), (3, x3), (6, x6), (8, x8), (9, x9), (10, x10), (12, x12), (13, x13), (14, x14), (16, x16), (18, x18), (19, x71), (20, x72)]) x70.2 := (k_reg (by kernel_rfl)).trans (by kernel_rfl)
theorem r5_13 {β : Type} {inv : Inv} {k : Nat} {x1 x3 x6 x8 x9 x10 x12 x13 x14 x16 x18 x19 x20 : Value} {h : AH} {K : XE → Act → AH → Option β} : kCode env 5 false inv k (cl (cr (cr (cr (cr (cr (cr (cr (cr (cr (cr (cr (cr c5))))))))))))) (act 133 [(1, x1), (3, x3), (6, x6), (8, x8), (9, x9), (10, x10), (12, x12), (13, x13), (14, x14), (16, x16), (18, x18), (19, x19), (20, x20)]) h K =
    bnd (pConv Try.prog 26 9 x1 h) fun x74 =>
    bnd (pBin Try.prog Go.BinOp.eql 9 (Go.Operand.tmp 74) (Go.Operand.const (Go.Value.string { data := #[1, 0] })) x74 (Go.Value.string { data := #[1, 0] })) fun x75 =>
    bnd (gd (some x75) true h (some (x3, h))) fun x77 =>
    bnd (gd (some x75) true x77.2 (lt (pConv Try.prog 26 9 x77.1 x77.2) x77.2)) fun x78 =>
    bnd (gd (some x75) true x78.2 (lt (pBin Try.prog Go.BinOp.eql 9 (Go.Operand.tmp 78) (Go.Operand.const (Go.Value.string { data := #[2, 3, 2, 1, 0, 0, 0, 0, 0, 0, 0, 1, 255, 255, 255, 255, 255, 255, 255, 255] })) x78.1 (Go.Value.string { data := #[2, 3, 2, 1, 0, 0, 0, 0, 0, 0, 0, 1, 255, 255, 255, 255, 255, 255, 255, 255] })) x78.2)) fun x79 =>
    bnd (pickV x75 x79.1 (Go.Value.bool false)) fun x80 =>
    bnd (gd (some x80) true x79.2 (some (x6, x79.2))) fun x82 =>
    bnd (gd (some x80) true x82.2 (lt (pBin Try.prog Go.BinOp.eql 27 (Go.Operand.tmp 82) (Go.Operand.const (Go.Value.int Go.IntKind.i64 4)) x82.1 (Go.Value.int Go.IntKind.i64 4)) x82.2)) fun x83 =>
    bnd (pickV x80 x83.1 (Go.Value.bool false)) fun x84 =>
    bnd (gd (some x84) true x83.2 (some (x8, x83.2))) fun x86 =>
    bnd (gd (some x84) true x86.2 (lt (pBin Try.prog Go.BinOp.eql 27 (Go.Operand.tmp 86) (Go.Operand.const (Go.Value.int Go.IntKind.i64 4)) x86.1 (Go.Value.int Go.IntKind.i64 4)) x86.2)) fun x87 =>
    bnd (pickV x84 x87.1 (Go.Value.bool false)) fun x88 =>
    bnd (gd (some x88) true x87.2 (some (x10, x87.2))) fun x90 =>
    bnd (gd (some x88) true x90.2 (lt (pBin Try.prog Go.BinOp.eql 27 (Go.Operand.tmp 90) (Go.Operand.const (Go.Value.int Go.IntKind.i64 0)) x90.1 (Go.Value.int Go.IntKind.i64 0)) x90.2)) fun x91 =>
    bnd (pickV x88 x91.1 (Go.Value.bool false)) fun x92 =>
    bnd (gd (some x92) true x91.2 (some (x9, x91.2))) fun x94 =>
    bnd (gd (some x92) true x94.2 (pBuildSlice Try.prog 25 3 #[(0, (Go.Value.int Go.IntKind.i64 1)), (1, (Go.Value.int Go.IntKind.i64 1)), (2, (Go.Value.int Go.IntKind.i64 (-1)))] x94.2)) fun x95 =>
    bnd (gd (some x92) true x95.2 (inv (.func 17) #[] #[x94.1, x95.1] x95.2)) fun x96 =>
    bnd (pickV x92 x96.1 (Go.Value.bool false)) fun x97 =>
    bnd (gd (some x97) true x96.2 (some (x12, x96.2))) fun x99 =>
    bnd (gd (some x97) true x99.2 (lt (pBin Try.prog Go.BinOp.eql 27 (Go.Operand.tmp 99) (Go.Operand.const (Go.Value.int Go.IntKind.i64 3)) x99.1 (Go.Value.int Go.IntKind.i64 3)) x99.2)) fun x100 =>
    bnd (pickV x97 x100.1 (Go.Value.bool false)) fun x101 =>
    bnd (gd (some x101) true x100.2 (some (x14, x100.2))) fun x103 =>
    bnd (gd (some x101) true x103.2 (lt (pBin Try.prog Go.BinOp.eql 27 (Go.Operand.tmp 103) (Go.Operand.const (Go.Value.int Go.IntKind.i64 0)) x103.1 (Go.Value.int Go.IntKind.i64 0)) x103.2)) fun x104 =>
    bnd (pickV x101 x104.1 (Go.Value.bool false)) fun x105 =>
    bnd (gd (some x105) true x104.2 (some (x13, x104.2))) fun x107 =>
    bnd (gd (some x105) true x107.2 (lt (pBin Try.prog Go.BinOp.eql 3 (Go.Operand.tmp 107) (Go.Operand.const (Go.Value.int Go.IntKind.i64 3)) x107.1 (Go.Value.int Go.IntKind.i64 3)) x107.2)) fun x108 =>
    bnd (pickV x105 x108.1 (Go.Value.bool false)) fun x109 =>
    bnd (gd (some x109) true x108.2 (some (x16, x108.2))) fun x111 =>
    bnd (gd (some x109) true x111.2 (lt (pBin Try.prog Go.BinOp.eql 27 (Go.Operand.tmp 111) (Go.Operand.const (Go.Value.int Go.IntKind.i64 4)) x111.1 (Go.Value.int Go.IntKind.i64 4)) x111.2)) fun x112 =>
    bnd (pickV x109 x112.1 (Go.Value.bool false)) fun x113 =>
    bnd (gd (some x113) true x112.2 (some (x18, x112.2))) fun x115 =>
    bnd (gd (some x113) true x115.2 (lt (pBin Try.prog Go.BinOp.eql 27 (Go.Operand.tmp 115) (Go.Operand.const (Go.Value.int Go.IntKind.i64 4)) x115.1 (Go.Value.int Go.IntKind.i64 4)) x115.2)) fun x116 =>
    bnd (pickV x113 x116.1 (Go.Value.bool false)) fun x117 =>
    bnd (gd (some x117) true x116.2 (some (x20, x116.2))) fun x119 =>
    bnd (gd (some x117) true x119.2 (lt (pBin Try.prog Go.BinOp.eql 27 (Go.Operand.tmp 119) (Go.Operand.const (Go.Value.int Go.IntKind.i64 0)) x119.1 (Go.Value.int Go.IntKind.i64 0)) x119.2)) fun x120 =>
    bnd (pickV x117 x120.1 (Go.Value.bool false)) fun x121 =>
    bnd (gd (some x121) true x120.2 (some (x19, x120.2))) fun x123 =>
    bnd (gd (some x121) true x123.2 (lt (pLen Try.prog #[26] x123.1 x123.2) x123.2)) fun x124 =>
    bnd (gd (some x121) true x124.2 (lt (pBin Try.prog Go.BinOp.gtr 3 (Go.Operand.tmp 124) (Go.Operand.const (Go.Value.int Go.IntKind.i64 0)) x124.1 (Go.Value.int Go.IntKind.i64 0)) x124.2)) fun x125 =>
    bnd (pickV x121 x125.1 (Go.Value.bool false)) fun x126 =>
    bnd (gd (some x126) true x125.2 (some (x19, x125.2))) fun x128 =>
    bnd (gd (some x126) true x128.2 (lt (pIndexAddr Try.prog 26 x128.1 (Go.Value.int Go.IntKind.i64 0)) x128.2)) fun x129 =>
    bnd (gd (some x126) true x129.2 (lt (pLoad Try.prog 5 x129.1 x129.2) x129.2)) fun x130 =>
    bnd (gd (some x126) true x130.2 (lt (pBin Try.prog Go.BinOp.eql 5 (Go.Operand.tmp 130) (Go.Operand.const (Go.Value.int Go.IntKind.u8 1)) x130.1 (Go.Value.int Go.IntKind.u8 1)) x130.2)) fun x131 =>
    bnd (pickV x126 x131.1 (Go.Value.bool false)) fun x132 =>
    K .normal (act 133 [(0, x132)]) x131.2 := (k_reg (by kernel_rfl)).trans (by kernel_rfl)
/-- shadowbook/shadowbooklaw06.IntsNames -/
noncomputable def F5 (inv : Inv) (k : Nat) (h : AH) : Option (Value × AH) :=
    bnd (inv (.func 8) #[] #[] h) fun x21 =>
    bnd (pUn Try.prog Go.UnOp.not x21.1) fun x22 =>
    brV x22
    (some ((Go.Value.bool false), x21.2))
    (bnd (inv (.func 10) #[] #[(Go.Value.slice none 0 0)] x21.2) fun x24 =>
    bnd (pExtract x24.1 0) fun x25 =>
    bnd (pExtract x24.1 1) fun x26 =>
    bnd (pBuildSlice Try.prog 25 3 #[(0, (Go.Value.int Go.IntKind.i64 1)), (1, (Go.Value.int Go.IntKind.i64 1)), (2, (Go.Value.int Go.IntKind.i64 (-1)))] x24.2) fun x28 =>
    bnd (inv (.func 14) #[] #[x28.1] x28.2) fun x29 =>
    bnd (pExtract x29.1 0) fun x30 =>
    bnd (pExtract x29.1 1) fun x31 =>
    bnd (pBuildSlice Try.prog 26 2 #[(0, (Go.Value.int Go.IntKind.u8 4)), (1, (Go.Value.int Go.IntKind.u8 0))] x29.2) fun x33 =>
    bnd (inv (.func 15) #[] #[x33.1] x33.2) fun x34 =>
    bnd (pExtract x34.1 0) fun x35 =>
    bnd (pExtract x34.1 1) fun x36 =>
    bnd (inv (.func 15) #[] #[(Go.Value.slice none 0 0)] x34.2) fun x38 =>
    bnd (pExtract x38.1 0) fun x39 =>
    bnd (pExtract x38.1 1) fun x40 =>
    bnd (inv (.func 15) #[] #[x30] x38.2) fun x43 =>
    bnd (pExtract x43.1 0) fun x44 =>
    bnd (pExtract x43.1 1) fun x45 =>
    bnd (pMakeSlice Try.prog 25 (Go.Value.int Go.IntKind.i64 4097) (Go.Value.int Go.IntKind.i64 4097) x43.2) fun x47 =>
    bnd (inv (.func 10) #[] #[x47.1] x47.2) fun x48 =>
    bnd (pExtract x48.1 0) fun x49 =>
    bnd (pExtract x48.1 1) fun x50 =>
    bnd (inv (.func 16) #[] #[x30] x48.2) fun x53 =>
    bnd (pExtract x53.1 0) fun x54 =>
    bnd (pExtract x53.1 1) fun x55 =>
    bnd (pBuildSlice Try.prog 26 12 #[(0, (Go.Value.int Go.IntKind.u8 3)), (1, (Go.Value.int Go.IntKind.u8 2)), (2, (Go.Value.int Go.IntKind.u8 5)), (3, (Go.Value.int Go.IntKind.u8 0)), (4, (Go.Value.int Go.IntKind.u8 0)), (5, (Go.Value.int Go.IntKind.u8 0)), (6, (Go.Value.int Go.IntKind.u8 0)), (7, (Go.Value.int Go.IntKind.u8 0)), (8, (Go.Value.int Go.IntKind.u8 0)), (9, (Go.Value.int Go.IntKind.u8 0)), (10, (Go.Value.int Go.IntKind.u8 2)), (11, (Go.Value.int Go.IntKind.u8 4))] x53.2) fun x57 =>
    bnd (pBytes Try.prog 26 26 x57.1 x57.2) fun x58 =>
    bnd (inv (.func 15) #[] #[x58.1] x58.2) fun x59 =>
    bnd (pExtract x59.1 0) fun x60 =>
    bnd (pExtract x59.1 1) fun x61 =>
    bnd (pBuildSlice Try.prog 26 20 #[(0, (Go.Value.int Go.IntKind.u8 2)), (1, (Go.Value.int Go.IntKind.u8 2)), (2, (Go.Value.int Go.IntKind.u8 1)), (3, (Go.Value.int Go.IntKind.u8 5)), (4, (Go.Value.int Go.IntKind.u8 0)), (5, (Go.Value.int Go.IntKind.u8 0)), (6, (Go.Value.int Go.IntKind.u8 0)), (7, (Go.Value.int Go.IntKind.u8 0)), (8, (Go.Value.int Go.IntKind.u8 0)), (9, (Go.Value.int Go.IntKind.u8 0)), (10, (Go.Value.int Go.IntKind.u8 0)), (11, (Go.Value.int Go.IntKind.u8 1)), (12, (Go.Value.int Go.IntKind.u8 5)), (13, (Go.Value.int Go.IntKind.u8 0)), (14, (Go.Value.int Go.IntKind.u8 0)), (15, (Go.Value.int Go.IntKind.u8 0)), (16, (Go.Value.int Go.IntKind.u8 0)), (17, (Go.Value.int Go.IntKind.u8 0)), (18, (Go.Value.int Go.IntKind.u8 0)), (19, (Go.Value.int Go.IntKind.u8 0))] x59.2) fun x63 =>
    bnd (pBytes Try.prog 26 26 x63.1 x63.2) fun x64 =>
    bnd (inv (.func 15) #[] #[x64.1] x64.2) fun x65 =>
    bnd (pExtract x65.1 0) fun x66 =>
    bnd (pExtract x65.1 1) fun x67 =>
    bnd (pBuildSlice Try.prog 25 2 #[(0, (Go.Value.int Go.IntKind.i64 (-9223372036854775808))), (1, (Go.Value.int Go.IntKind.i64 9223372036854775807))] x65.2) fun x69 =>
    bnd (inv (.func 10) #[] #[x69.1] x69.2) fun x70 =>
    bnd (pExtract x70.1 0) fun x71 =>
    bnd (pExtract x70.1 1) fun x72 =>
    bnd (pConv Try.prog 26 9 x25 x70.2) fun x74 =>
    bnd (pBin Try.prog Go.BinOp.eql 9 (Go.Operand.tmp 74) (Go.Operand.const (Go.Value.string { data := #[1, 0] })) x74 (Go.Value.string { data := #[1, 0] })) fun x75 =>
    bnd (gd (some x75) true x70.2 (some (x30, x70.2))) fun x77 =>
    bnd (gd (some x75) true x77.2 (lt (pConv Try.prog 26 9 x77.1 x77.2) x77.2)) fun x78 =>
    bnd (gd (some x75) true x78.2 (lt (pBin Try.prog Go.BinOp.eql 9 (Go.Operand.tmp 78) (Go.Operand.const (Go.Value.string { data := #[2, 3, 2, 1, 0, 0, 0, 0, 0, 0, 0, 1, 255, 255, 255, 255, 255, 255, 255, 255] })) x78.1 (Go.Value.string { data := #[2, 3, 2, 1, 0, 0, 0, 0, 0, 0, 0, 1, 255, 255, 255, 255, 255, 255, 255, 255] })) x78.2)) fun x79 =>
    bnd (pickV x75 x79.1 (Go.Value.bool false)) fun x80 =>
    bnd (gd (some x80) true x79.2 (some (x36, x79.2))) fun x82 =>
    bnd (gd (some x80) true x82.2 (lt (pBin Try.prog Go.BinOp.eql 27 (Go.Operand.tmp 82) (Go.Operand.const (Go.Value.int Go.IntKind.i64 4)) x82.1 (Go.Value.int Go.IntKind.i64 4)) x82.2)) fun x83 =>
    bnd (pickV x80 x83.1 (Go.Value.bool false)) fun x84 =>
    bnd (gd (some x84) true x83.2 (some (x40, x83.2))) fun x86 =>
    bnd (gd (some x84) true x86.2 (lt (pBin Try.prog Go.BinOp.eql 27 (Go.Operand.tmp 86) (Go.Operand.const (Go.Value.int Go.IntKind.i64 4)) x86.1 (Go.Value.int Go.IntKind.i64 4)) x86.2)) fun x87 =>
    bnd (pickV x84 x87.1 (Go.Value.bool false)) fun x88 =>
    bnd (gd (some x88) true x87.2 (some (x45, x87.2))) fun x90 =>
    bnd (gd (some x88) true x90.2 (lt (pBin Try.prog Go.BinOp.eql 27 (Go.Operand.tmp 90) (Go.Operand.const (Go.Value.int Go.IntKind.i64 0)) x90.1 (Go.Value.int Go.IntKind.i64 0)) x90.2)) fun x91 =>
    bnd (pickV x88 x91.1 (Go.Value.bool false)) fun x92 =>
    bnd (gd (some x92) true x91.2 (some (x44, x91.2))) fun x94 =>
    bnd (gd (some x92) true x94.2 (pBuildSlice Try.prog 25 3 #[(0, (Go.Value.int Go.IntKind.i64 1)), (1, (Go.Value.int Go.IntKind.i64 1)), (2, (Go.Value.int Go.IntKind.i64 (-1)))] x94.2)) fun x95 =>
    bnd (gd (some x92) true x95.2 (inv (.func 17) #[] #[x94.1, x95.1] x95.2)) fun x96 =>
    bnd (pickV x92 x96.1 (Go.Value.bool false)) fun x97 =>
    bnd (gd (some x97) true x96.2 (some (x50, x96.2))) fun x99 =>
    bnd (gd (some x97) true x99.2 (lt (pBin Try.prog Go.BinOp.eql 27 (Go.Operand.tmp 99) (Go.Operand.const (Go.Value.int Go.IntKind.i64 3)) x99.1 (Go.Value.int Go.IntKind.i64 3)) x99.2)) fun x100 =>
    bnd (pickV x97 x100.1 (Go.Value.bool false)) fun x101 =>
    bnd (gd (some x101) true x100.2 (some (x55, x100.2))) fun x103 =>
    bnd (gd (some x101) true x103.2 (lt (pBin Try.prog Go.BinOp.eql 27 (Go.Operand.tmp 103) (Go.Operand.const (Go.Value.int Go.IntKind.i64 0)) x103.1 (Go.Value.int Go.IntKind.i64 0)) x103.2)) fun x104 =>
    bnd (pickV x101 x104.1 (Go.Value.bool false)) fun x105 =>
    bnd (gd (some x105) true x104.2 (some (x54, x104.2))) fun x107 =>
    bnd (gd (some x105) true x107.2 (lt (pBin Try.prog Go.BinOp.eql 3 (Go.Operand.tmp 107) (Go.Operand.const (Go.Value.int Go.IntKind.i64 3)) x107.1 (Go.Value.int Go.IntKind.i64 3)) x107.2)) fun x108 =>
    bnd (pickV x105 x108.1 (Go.Value.bool false)) fun x109 =>
    bnd (gd (some x109) true x108.2 (some (x61, x108.2))) fun x111 =>
    bnd (gd (some x109) true x111.2 (lt (pBin Try.prog Go.BinOp.eql 27 (Go.Operand.tmp 111) (Go.Operand.const (Go.Value.int Go.IntKind.i64 4)) x111.1 (Go.Value.int Go.IntKind.i64 4)) x111.2)) fun x112 =>
    bnd (pickV x109 x112.1 (Go.Value.bool false)) fun x113 =>
    bnd (gd (some x113) true x112.2 (some (x67, x112.2))) fun x115 =>
    bnd (gd (some x113) true x115.2 (lt (pBin Try.prog Go.BinOp.eql 27 (Go.Operand.tmp 115) (Go.Operand.const (Go.Value.int Go.IntKind.i64 4)) x115.1 (Go.Value.int Go.IntKind.i64 4)) x115.2)) fun x116 =>
    bnd (pickV x113 x116.1 (Go.Value.bool false)) fun x117 =>
    bnd (gd (some x117) true x116.2 (some (x72, x116.2))) fun x119 =>
    bnd (gd (some x117) true x119.2 (lt (pBin Try.prog Go.BinOp.eql 27 (Go.Operand.tmp 119) (Go.Operand.const (Go.Value.int Go.IntKind.i64 0)) x119.1 (Go.Value.int Go.IntKind.i64 0)) x119.2)) fun x120 =>
    bnd (pickV x117 x120.1 (Go.Value.bool false)) fun x121 =>
    bnd (gd (some x121) true x120.2 (some (x71, x120.2))) fun x123 =>
    bnd (gd (some x121) true x123.2 (lt (pLen Try.prog #[26] x123.1 x123.2) x123.2)) fun x124 =>
    bnd (gd (some x121) true x124.2 (lt (pBin Try.prog Go.BinOp.gtr 3 (Go.Operand.tmp 124) (Go.Operand.const (Go.Value.int Go.IntKind.i64 0)) x124.1 (Go.Value.int Go.IntKind.i64 0)) x124.2)) fun x125 =>
    bnd (pickV x121 x125.1 (Go.Value.bool false)) fun x126 =>
    bnd (gd (some x126) true x125.2 (some (x71, x125.2))) fun x128 =>
    bnd (gd (some x126) true x128.2 (lt (pIndexAddr Try.prog 26 x128.1 (Go.Value.int Go.IntKind.i64 0)) x128.2)) fun x129 =>
    bnd (gd (some x126) true x129.2 (lt (pLoad Try.prog 5 x129.1 x129.2) x129.2)) fun x130 =>
    bnd (gd (some x126) true x130.2 (lt (pBin Try.prog Go.BinOp.eql 5 (Go.Operand.tmp 130) (Go.Operand.const (Go.Value.int Go.IntKind.u8 1)) x130.1 (Go.Value.int Go.IntKind.u8 1)) x130.2)) fun x131 =>
    bnd (pickV x126 x131.1 (Go.Value.bool false)) fun x132 =>
    some (x132, x131.2))
theorem F5_eq {inv : Inv} {k : Nat} {h : AH} : eFun env k inv 5 #[] h = F5 inv k  h := by
      refine (eFun_k2 (by kernel_rfl) (by kernel_rfl) (by kernel_rfl) (a := act 133 []) (c := c5) (by kernel_rfl) (by kernel_rfl)).trans ?_
      unfold F5
      simp only [k_seq (E := env) (f := 5) (c := c5) (by kernel_rfl), r5_0, k_seq (E := env) (f := 5) (c := (cr c5)) (by kernel_rfl), k_seq (E := env) (f := 5) (c := (cl (cr c5))) (by kernel_rfl), r5_1, b5_rlr, k_seq (E := env) (f := 5) (c := (cl (cr (cl (cr c5))))) (by kernel_rfl), r5_2, k_ret (E := env) (f := 5) (c := (cr (cl (cr (cl (cr c5)))))) (by kernel_rfl), res5_0, k_skip (E := env) (f := 5) (c := (cr (cr (cl (cr c5))))) (by kernel_rfl), k_seq (E := env) (f := 5) (c := (cr (cr c5))) (by kernel_rfl), r5_3, k_seq (E := env) (f := 5) (c := (cr (cr (cr c5)))) (by kernel_rfl), r5_4, k_seq (E := env) (f := 5) (c := (cr (cr (cr (cr c5))))) (by kernel_rfl), r5_5, k_seq (E := env) (f := 5) (c := (cr (cr (cr (cr (cr c5)))))) (by kernel_rfl), r5_6, k_seq (E := env) (f := 5) (c := (cr (cr (cr (cr (cr (cr c5))))))) (by kernel_rfl), r5_7, k_seq (E := env) (f := 5) (c := (cr (cr (cr (cr (cr (cr (cr c5)))))))) (by kernel_rfl), r5_8, k_seq (E := env) (f := 5) (c := (cr (cr (cr (cr (cr (cr (cr (cr c5))))))))) (by kernel_rfl), r5_9, k_seq (E := env) (f := 5) (c := (cr (cr (cr (cr (cr (cr (cr (cr (cr c5)))))))))) (by kernel_rfl), r5_10, k_seq (E := env) (f := 5) (c := (cr (cr (cr (cr (cr (cr (cr (cr (cr (cr c5))))))))))) (by kernel_rfl), r5_11, k_seq (E := env) (f := 5) (c := (cr (cr (cr (cr (cr (cr (cr (cr (cr (cr (cr c5)))))))))))) (by kernel_rfl), r5_12, k_seq (E := env) (f := 5) (c := (cr (cr (cr (cr (cr (cr (cr (cr (cr (cr (cr (cr c5))))))))))))) (by kernel_rfl), r5_13, k_ret (E := env) (f := 5) (c := (cr (cr (cr (cr (cr (cr (cr (cr (cr (cr (cr (cr (cr c5)))))))))))))) (by kernel_rfl), reduceIte, reduceCtorEq, XE.exit.injEq, Nat.reduceEqDiff] <;> kernel_rfl
noncomputable def c8 : Code := codeOf Try.prog 8
theorem r8_0 {β : Type} {inv : Inv} {k : Nat} {h : AH} {K : XE → Act → AH → Option β} : kCode env 8 false inv k (cl c8) (act 31 []) h K =
    K .normal (act 31 []) h := (k_reg (by kernel_rfl)).trans (by kernel_rfl)
theorem r8_1 {β : Type} {inv : Inv} {k : Nat} {h : AH} {K : XE → Act → AH → Option β} : kCode env 8 false inv k (cl (cr c8)) (act 31 []) h K =
    bnd (pBuildSlice Try.prog 25 4 #[(0, (Go.Value.int Go.IntKind.i64 7)), (1, (Go.Value.int Go.IntKind.i64 7)), (2, (Go.Value.int Go.IntKind.i64 7)), (3, (Go.Value.int Go.IntKind.i64 7))] h) fun x6 =>
    bnd (inv (.func 10) #[] #[x6.1] x6.2) fun x7 =>
    bnd (pExtract x7.1 0) fun x8 =>
    bnd (pExtract x7.1 1) fun x9 =>
    K .normal (act 31 [(1, x8), (2, x9)]) x7.2 := (k_reg (by kernel_rfl)).trans (by kernel_rfl)
theorem r8_2 {β : Type} {inv : Inv} {k : Nat} {x1 x2 : Value} {h : AH} {K : XE → Act → AH → Option β} : kCode env 8 false inv k (cl (cr (cr c8))) (act 31 [(1, x1), (2, x2)]) h K =
    bnd (pBuildSlice Try.prog 25 2 #[(0, (Go.Value.int Go.IntKind.i64 5)), (1, (Go.Value.int Go.IntKind.i64 6))] h) fun x11 =>
    bnd (inv (.func 10) #[] #[x11.1] x11.2) fun x12 =>
    bnd (pExtract x12.1 0) fun x13 =>
    bnd (pExtract x12.1 1) fun x14 =>
    K .normal (act 31 [(1, x1), (2, x2), (3, x13), (4, x14)]) x12.2 := (k_reg (by kernel_rfl)).trans (by kernel_rfl)
theorem r8_3 {β : Type} {inv : Inv} {k : Nat} {x1 x2 x3 x4 : Value} {h : AH} {K : XE → Act → AH → Option β} : kCode env 8 false inv k (cl (cr (cr (cr c8)))) (act 31 [(1, x1), (2, x2), (3, x3), (4, x4)]) h K =
    bnd (pBin Try.prog Go.BinOp.eql 27 (Go.Operand.tmp 15) (Go.Operand.const (Go.Value.int Go.IntKind.i64 0)) x2 (Go.Value.int Go.IntKind.i64 0)) fun x16 =>
    bnd (gd (some x16) true h (some (x1, h))) fun x18 =>
    bnd (gd (some x16) true x18.2 (lt (pConv Try.prog 26 9 x18.1 x18.2) x18.2)) fun x19 =>
    bnd (gd (some x16) true x19.2 (lt (pBin Try.prog Go.BinOp.eql 9 (Go.Operand.tmp 19) (Go.Operand.const (Go.Value.string { data := #[2, 4, 4, 7, 0, 0, 0, 0, 0, 0, 0] })) x19.1 (Go.Value.string { data := #[2, 4, 4, 7, 0, 0, 0, 0, 0, 0, 0] })) x19.2)) fun x20 =>
    bnd (pickV x16 x20.1 (Go.Value.bool false)) fun x21 =>
    bnd (gd (some x21) true x20.2 (some (x4, x20.2))) fun x23 =>
    bnd (gd (some x21) true x23.2 (lt (pBin Try.prog Go.BinOp.eql 27 (Go.Operand.tmp 23) (Go.Operand.const (Go.Value.int Go.IntKind.i64 0)) x23.1 (Go.Value.int Go.IntKind.i64 0)) x23.2)) fun x24 =>
    bnd (pickV x21 x24.1 (Go.Value.bool false)) fun x25 =>
    bnd (gd (some x25) true x24.2 (some (x3, x24.2))) fun x27 =>
    bnd (gd (some x25) true x27.2 (lt (pConv Try.prog 26 9 x27.1 x27.2) x27.2)) fun x28 =>
    bnd (gd (some x25) true x28.2 (lt (pBin Try.prog Go.BinOp.eql 9 (Go.Operand.tmp 28) (Go.Operand.const (Go.Value.string { data := #[3, 2, 5, 0, 0, 0, 0, 0, 0, 0, 1, 2] })) x28.1 (Go.Value.string { data := #[3, 2, 5, 0, 0, 0, 0, 0, 0, 0, 1, 2] })) x28.2)) fun x29 =>
    bnd (pickV x25 x29.1 (Go.Value.bool false)) fun x30 =>
    K .normal (act 31 [(0, x30)]) x29.2 := (k_reg (by kernel_rfl)).trans (by kernel_rfl)
theorem res8_0 {x0 : Value} {h : AH} : resOfFn env.P 8 .ret (act 31 [(0, x0)]) h = some (x0, h) := (resOfFn_k (by kernel_rfl) (by kernel_rfl)).trans (by kernel_rfl)
/-- shadowbook/shadowbooklaw06.lives -/
noncomputable def F8 (inv : Inv) (k : Nat) (h : AH) : Option (Value × AH) :=
    bnd (pBuildSlice Try.prog 25 4 #[(0, (Go.Value.int Go.IntKind.i64 7)), (1, (Go.Value.int Go.IntKind.i64 7)), (2, (Go.Value.int Go.IntKind.i64 7)), (3, (Go.Value.int Go.IntKind.i64 7))] h) fun x6 =>
    bnd (inv (.func 10) #[] #[x6.1] x6.2) fun x7 =>
    bnd (pExtract x7.1 0) fun x8 =>
    bnd (pExtract x7.1 1) fun x9 =>
    bnd (pBuildSlice Try.prog 25 2 #[(0, (Go.Value.int Go.IntKind.i64 5)), (1, (Go.Value.int Go.IntKind.i64 6))] x7.2) fun x11 =>
    bnd (inv (.func 10) #[] #[x11.1] x11.2) fun x12 =>
    bnd (pExtract x12.1 0) fun x13 =>
    bnd (pExtract x12.1 1) fun x14 =>
    bnd (pBin Try.prog Go.BinOp.eql 27 (Go.Operand.tmp 15) (Go.Operand.const (Go.Value.int Go.IntKind.i64 0)) x9 (Go.Value.int Go.IntKind.i64 0)) fun x16 =>
    bnd (gd (some x16) true x12.2 (some (x8, x12.2))) fun x18 =>
    bnd (gd (some x16) true x18.2 (lt (pConv Try.prog 26 9 x18.1 x18.2) x18.2)) fun x19 =>
    bnd (gd (some x16) true x19.2 (lt (pBin Try.prog Go.BinOp.eql 9 (Go.Operand.tmp 19) (Go.Operand.const (Go.Value.string { data := #[2, 4, 4, 7, 0, 0, 0, 0, 0, 0, 0] })) x19.1 (Go.Value.string { data := #[2, 4, 4, 7, 0, 0, 0, 0, 0, 0, 0] })) x19.2)) fun x20 =>
    bnd (pickV x16 x20.1 (Go.Value.bool false)) fun x21 =>
    bnd (gd (some x21) true x20.2 (some (x14, x20.2))) fun x23 =>
    bnd (gd (some x21) true x23.2 (lt (pBin Try.prog Go.BinOp.eql 27 (Go.Operand.tmp 23) (Go.Operand.const (Go.Value.int Go.IntKind.i64 0)) x23.1 (Go.Value.int Go.IntKind.i64 0)) x23.2)) fun x24 =>
    bnd (pickV x21 x24.1 (Go.Value.bool false)) fun x25 =>
    bnd (gd (some x25) true x24.2 (some (x13, x24.2))) fun x27 =>
    bnd (gd (some x25) true x27.2 (lt (pConv Try.prog 26 9 x27.1 x27.2) x27.2)) fun x28 =>
    bnd (gd (some x25) true x28.2 (lt (pBin Try.prog Go.BinOp.eql 9 (Go.Operand.tmp 28) (Go.Operand.const (Go.Value.string { data := #[3, 2, 5, 0, 0, 0, 0, 0, 0, 0, 1, 2] })) x28.1 (Go.Value.string { data := #[3, 2, 5, 0, 0, 0, 0, 0, 0, 0, 1, 2] })) x28.2)) fun x29 =>
    bnd (pickV x25 x29.1 (Go.Value.bool false)) fun x30 =>
    some (x30, x29.2)
theorem F8_eq {inv : Inv} {k : Nat} {h : AH} : eFun env k inv 8 #[] h = F8 inv k  h := by
      refine (eFun_k2 (by kernel_rfl) (by kernel_rfl) (by kernel_rfl) (a := act 31 []) (c := c8) (by kernel_rfl) (by kernel_rfl)).trans ?_
      unfold F8
      simp only [k_seq (E := env) (f := 8) (c := c8) (by kernel_rfl), r8_0, k_seq (E := env) (f := 8) (c := (cr c8)) (by kernel_rfl), r8_1, k_seq (E := env) (f := 8) (c := (cr (cr c8))) (by kernel_rfl), r8_2, k_seq (E := env) (f := 8) (c := (cr (cr (cr c8)))) (by kernel_rfl), r8_3, k_ret (E := env) (f := 8) (c := (cr (cr (cr (cr c8))))) (by kernel_rfl), res8_0, reduceIte, reduceCtorEq, XE.exit.injEq, Nat.reduceEqDiff] <;> kernel_rfl
noncomputable def c10 : Code := codeOf Try.prog 10
theorem r10_0 {β : Type} {inv : Inv} {k : Nat} {x0 : Value} {h : AH} {K : XE → Act → AH → Option β} : kCode env 10 false inv k (cl c10) (act 32 [(0, x0)]) h K =
    K .normal (act 32 [(0, x0)]) h := (k_reg (by kernel_rfl)).trans (by kernel_rfl)
theorem r10_1 {β : Type} {inv : Inv} {k : Nat} {x0 : Value} {h : AH} {K : XE → Act → AH → Option β} : kCode env 10 false inv k (cl (cr c10)) (act 32 [(0, x0)]) h K =
    K .normal (act 32 [(0, x0), (4, (Go.Value.slice none 0 0))]) h := (k_reg (by kernel_rfl)).trans (by kernel_rfl)
theorem r10_2 {β : Type} {inv : Inv} {k : Nat} {x0 x4 : Value} {h : AH} {K : XE → Act → AH → Option β} : kCode env 10 false inv k (cl (cl (cr (cr c10)))) (act 32 [(0, x0), (4, x4)]) h K =
    bnd (inv (.func 24) #[] #[] h) fun x9 =>
    bnd (pLen Try.prog #[42] x9.1 x9.2) fun x10 =>
    K .normal (act 32 [(0, x0), (4, x4), (9, x9.1), (10, x10), (11, (Go.Value.int Go.IntKind.i64 0))]) x9.2 := (k_reg (by kernel_rfl)).trans (by kernel_rfl)
theorem r10_3 {β : Type} {inv : Inv} {k : Nat} {x0 x4 x9 x10 x11 : Value} {h : AH} {K : XE → Act → AH → Option β} : kCode env 10 false inv k (cl (cl (cl (cr (cl (cr (cr c10))))))) (act 32 [(0, x0), (4, x4), (9, x9), (10, x10), (11, x11)]) h K =
    bnd (pBin Try.prog Go.BinOp.lss 3 (Go.Operand.tmp 11) (Go.Operand.tmp 10) x11 x10) fun x12 =>
    K .normal (act 32 [(0, x0), (4, x4), (9, x9), (10, x10), (11, x11), (12, x12)]) h := (k_reg (by kernel_rfl)).trans (by kernel_rfl)
theorem b10_lrllrlrr {β : Type} {inv : Inv} {k : Nat} {x0 x4 x9 x10 x11 x12 : Value} {h : AH} {K : XE → Act → AH → Option β} : kCode env 10 false inv k (cl (cr (cl (cl (cr (cl (cr (cr c10)))))))) (act 32 [(0, x0), (4, x4), (9, x9), (10, x10), (11, x11), (12, x12)]) h K = brV x12 (kCode env 10 false inv k (cl (cl (cr (cl (cl (cr (cl (cr (cr c10))))))))) (act 32 [(0, x0), (4, x4), (9, x9), (10, x10), (11, x11), (12, x12)]) h K) (kCode env 10 false inv k (cr (cl (cr (cl (cl (cr (cl (cr (cr c10))))))))) (act 32 [(0, x0), (4, x4), (9, x9), (10, x10), (11, x11), (12, x12)]) h K) := (k_cond (by kernel_rfl)).trans (by kernel_rfl)
theorem r10_4 {β : Type} {inv : Inv} {k : Nat} {x0 x4 x9 x10 x11 x12 : Value} {h : AH} {K : XE → Act → AH → Option β} : kCode env 10 false inv k (cl (cl (cl (cr (cr (cl (cl (cr (cl (cr (cr c10))))))))))) (act 32 [(0, x0), (4, x4), (9, x9), (10, x10), (11, x11), (12, x12)]) h K =
    bnd (pIndexAddr Try.prog 42 x9 x11) fun x13 =>
    bnd (pLoad Try.prog 46 x13 h) fun x14 =>
    bnd (pAlloc Try.prog 46 h) fun x6 =>
    bnd (kSt (pStore Try.prog 46 x6.1 x14 x6.2)) fun u =>
    K .normal (act 32 [(0, x0), (4, x4), (6, x6.1), (9, x9), (10, x10), (11, x11)]) u.2 := (k_reg (by kernel_rfl)).trans (by kernel_rfl)
theorem r10_5 {β : Type} {inv : Inv} {k : Nat} {x0 x4 x6 x9 x10 x11 : Value} {h : AH} {K : XE → Act → AH → Option β} : kCode env 10 false inv k (cl (cr (cl (cl (cr (cr (cl (cl (cr (cl (cr (cr c10)))))))))))) (act 32 [(0, x0), (4, x4), (6, x6), (9, x9), (10, x10), (11, x11)]) h K =
    bnd (pFieldAddr Try.prog 46 x6 1) fun x16 =>
    bnd (pLoad Try.prog 29 x16 h) fun x17 =>
    bnd (callV inv x17 #[x0] h) fun x19 =>
    bnd (pExtract x19.1 0) fun x20 =>
    bnd (pExtract x19.1 1) fun x21 =>
    K .normal (act 32 [(0, x0), (4, x4), (7, x20), (8, x21), (9, x9), (10, x10), (11, x11)]) x19.2 := (k_reg (by kernel_rfl)).trans (by kernel_rfl)
theorem r10_6 {β : Type} {inv : Inv} {k : Nat} {x0 x4 x7 x8 x9 x10 x11 : Value} {h : AH} {K : XE → Act → AH → Option β} : kCode env 10 false inv k (cl (cl (cr (cr (cl (cl (cr (cr (cl (cl (cr (cl (cr (cr c10)))))))))))))) (act 32 [(0, x0), (4, x4), (7, x7), (8, x8), (9, x9), (10, x10), (11, x11)]) h K =
    bnd (pBin Try.prog Go.BinOp.neq 27 (Go.Operand.tmp 22) (Go.Operand.const (Go.Value.int Go.IntKind.i64 0)) x8 (Go.Value.int Go.IntKind.i64 0)) fun x23 =>
    K .normal (act 32 [(0, x0), (4, x4), (7, x7), (8, x8), (9, x9), (10, x10), (11, x11), (23, x23)]) h := (k_reg (by kernel_rfl)).trans (by kernel_rfl)
theorem b10_rlrrllrrllrlrr {β : Type} {inv : Inv} {k : Nat} {x0 x4 x7 x8 x9 x10 x11 x23 : Value} {h : AH} {K : XE → Act → AH → Option β} : kCode env 10 false inv k (cr (cl (cr (cr (cl (cl (cr (cr (cl (cl (cr (cl (cr (cr c10)))))))))))))) (act 32 [(0, x0), (4, x4), (7, x7), (8, x8), (9, x9), (10, x10), (11, x11), (23, x23)]) h K = brV x23 (kCode env 10 false inv k (cl (cr (cl (cr (cr (cl (cl (cr (cr (cl (cl (cr (cl (cr (cr c10))))))))))))))) (act 32 [(0, x0), (4, x4), (7, x7), (8, x8), (9, x9), (10, x10), (11, x11), (23, x23)]) h K) (kCode env 10 false inv k (cr (cr (cl (cr (cr (cl (cl (cr (cr (cl (cl (cr (cl (cr (cr c10))))))))))))))) (act 32 [(0, x0), (4, x4), (7, x7), (8, x8), (9, x9), (10, x10), (11, x11), (23, x23)]) h K) := (k_cond (by kernel_rfl)).trans (by kernel_rfl)
theorem r10_7 {β : Type} {inv : Inv} {k : Nat} {x0 x4 x7 x8 x9 x10 x11 x23 : Value} {h : AH} {K : XE → Act → AH → Option β} : kCode env 10 false inv k (cl (cl (cr (cl (cr (cr (cl (cl (cr (cr (cl (cl (cr (cl (cr (cr c10)))))))))))))))) (act 32 [(0, x0), (4, x4), (7, x7), (8, x8), (9, x9), (10, x10), (11, x11), (23, x23)]) h K =
    K .normal (act 32 [(2, (Go.Value.slice none 0 0)), (3, x8)]) h := (k_reg (by kernel_rfl)).trans (by kernel_rfl)
theorem r10_8 {β : Type} {inv : Inv} {k : Nat} {x0 x4 x7 x8 x9 x10 x11 x23 : Value} {h : AH} {K : XE → Act → AH → Option β} : kCode env 10 false inv k (cr (cr (cr (cl (cl (cr (cr (cl (cl (cr (cl (cr (cr c10))))))))))))) (act 32 [(0, x0), (4, x4), (7, x7), (8, x8), (9, x9), (10, x10), (11, x11), (23, x23)]) h K =
    bnd (pBuildSlice Try.prog 41 1 #[(0, x7)] h) fun x27 =>
    bnd (pAppend Try.prog #[41, 41] x4 x27.1 x27.2) fun x28 =>
    K .normal (act 32 [(0, x0), (4, x28.1), (9, x9), (10, x10), (11, x11)]) x28.2 := (k_reg (by kernel_rfl)).trans (by kernel_rfl)
theorem r10_9 {β : Type} {inv : Inv} {k : Nat} {x0 x4 x9 x10 x11 : Value} {h : AH} {K : XE → Act → AH → Option β} : kCode env 10 false inv k (cr (cr (cr (cl (cl (cr (cl (cr (cr c10))))))))) (act 32 [(0, x0), (4, x4), (9, x9), (10, x10), (11, x11)]) h K =
    bnd (pBin Try.prog Go.BinOp.add 3 (Go.Operand.tmp 11) (Go.Operand.const (Go.Value.int Go.IntKind.i64 1)) x11 (Go.Value.int Go.IntKind.i64 1)) fun x29 =>
    K .normal (act 32 [(0, x0), (4, x4), (9, x9), (10, x10), (11, x29)]) h := (k_reg (by kernel_rfl)).trans (by kernel_rfl)
noncomputable def F10_lrlrr {β : Type} (inv : Inv) (k : Nat) : Nat → Value → Value → Value → Value → Value → AH → (Value → Value → Value → Value → Value → Value → AH → Option β) → (Value → Value → AH → Option β) → Option β
  | 0, _, _, _, _, _, _, _, _ => none
  | j + 1, x0, x4, x9, x10, x11, h, ke0, kr =>
    bnd (pBin Try.prog Go.BinOp.lss 3 (Go.Operand.tmp 11) (Go.Operand.tmp 10) x11 x10) fun x12 =>
    brV x12
    (bnd (pIndexAddr Try.prog 42 x9 x11) fun x13 =>
    bnd (pLoad Try.prog 46 x13 h) fun x14 =>
    bnd (pAlloc Try.prog 46 h) fun x6 =>
    bnd (kSt (pStore Try.prog 46 x6.1 x14 x6.2)) fun u =>
    bnd (pFieldAddr Try.prog 46 x6.1 1) fun x16 =>
    bnd (pLoad Try.prog 29 x16 u.2) fun x17 =>
    bnd (callV inv x17 #[x0] u.2) fun x19 =>
    bnd (pExtract x19.1 0) fun x20 =>
    bnd (pExtract x19.1 1) fun x21 =>
    bnd (pBin Try.prog Go.BinOp.neq 27 (Go.Operand.tmp 22) (Go.Operand.const (Go.Value.int Go.IntKind.i64 0)) x21 (Go.Value.int Go.IntKind.i64 0)) fun x23 =>
    brV x23
    (kr (Go.Value.slice none 0 0) x21 x19.2)
    (bnd (pBuildSlice Try.prog 41 1 #[(0, x20)] x19.2) fun x27 =>
    bnd (pAppend Try.prog #[41, 41] x4 x27.1 x27.2) fun x28 =>
    bnd (pBin Try.prog Go.BinOp.add 3 (Go.Operand.tmp 11) (Go.Operand.const (Go.Value.int Go.IntKind.i64 1)) x11 (Go.Value.int Go.IntKind.i64 1)) fun x29 =>
    F10_lrlrr inv k j x0 x28.1 x9 x10 x29 x28.2 ke0 kr))
    (ke0 x0 x4 x9 x10 x11 x12 h)
theorem F10_lrlrr_j {β : Type} {inv : Inv} {k : Nat} (j : Nat) {x0 x4 x9 x10 x11 : Value} {h : AH} {K : XE → Act → AH → Option β} : kLoop (kCode env 10 false inv k (cl (cl (cr (cl (cr (cr c10))))))) j (act 32 [(0, x0), (4, x4), (9, x9), (10, x10), (11, x11)]) h K = F10_lrlrr inv k j x0 x4 x9 x10 x11 h (fun y0 y4 y9 y10 y11 y12 h => K (.exit 0) (act 32 [(0, y0), (4, y4), (9, y9), (10, y10), (11, y11), (12, y12)]) h) (fun y2 y3 h => K .ret (act 32 [(2, y2), (3, y3)]) h) := by
      induction j generalizing x0 x4 x9 x10 x11 h with
      | zero => rfl
      | succ j ih =>
        unfold F10_lrlrr
        simp only [kLoop, k_seq (E := env) (f := 10) (c := (cl (cl (cr (cl (cr (cr c10))))))) (by kernel_rfl), r10_3, k_seq (E := env) (f := 10) (c := (cr (cl (cl (cr (cl (cr (cr c10)))))))) (by kernel_rfl), b10_lrllrlrr, k_skip (E := env) (f := 10) (c := (cl (cl (cr (cl (cl (cr (cl (cr (cr c10)))))))))) (by kernel_rfl), k_seq (E := env) (f := 10) (c := (cr (cr (cl (cl (cr (cl (cr (cr c10))))))))) (by kernel_rfl), k_block (E := env) (f := 10) (c := (cl (cr (cr (cl (cl (cr (cl (cr (cr c10)))))))))) (id := 1) (by kernel_rfl), k_seq (E := env) (f := 10) (c := (cl (cl (cr (cr (cl (cl (cr (cl (cr (cr c10))))))))))) (by kernel_rfl), r10_4, k_seq (E := env) (f := 10) (c := (cr (cl (cl (cr (cr (cl (cl (cr (cl (cr (cr c10)))))))))))) (by kernel_rfl), r10_5, k_seq (E := env) (f := 10) (c := (cr (cr (cl (cl (cr (cr (cl (cl (cr (cl (cr (cr c10))))))))))))) (by kernel_rfl), k_seq (E := env) (f := 10) (c := (cl (cr (cr (cl (cl (cr (cr (cl (cl (cr (cl (cr (cr c10)))))))))))))) (by kernel_rfl), r10_6, b10_rlrrllrrllrlrr, k_seq (E := env) (f := 10) (c := (cl (cr (cl (cr (cr (cl (cl (cr (cr (cl (cl (cr (cl (cr (cr c10)))))))))))))))) (by kernel_rfl), r10_7, k_ret (E := env) (f := 10) (c := (cr (cl (cr (cl (cr (cr (cl (cl (cr (cr (cl (cl (cr (cl (cr (cr c10))))))))))))))))) (by kernel_rfl), k_skip (E := env) (f := 10) (c := (cr (cr (cl (cr (cr (cl (cl (cr (cr (cl (cl (cr (cl (cr (cr c10)))))))))))))))) (by kernel_rfl), r10_8, r10_9, k_exit (E := env) (f := 10) (c := (cr (cl (cr (cl (cl (cr (cl (cr (cr c10)))))))))) (id := 0) (by kernel_rfl), ih, reduceIte, reduceCtorEq, XE.exit.injEq, Nat.reduceEqDiff] <;> kernel_rfl
theorem F10_lrlrr_eq {β : Type} {inv : Inv} {k : Nat} {x0 x4 x9 x10 x11 : Value} {h : AH} {K : XE → Act → AH → Option β} : kCode env 10 false inv k (cl (cr (cl (cr (cr c10))))) (act 32 [(0, x0), (4, x4), (9, x9), (10, x10), (11, x11)]) h K = F10_lrlrr inv k k x0 x4 x9 x10 x11 h (fun y0 y4 y9 y10 y11 y12 h => K (.exit 0) (act 32 [(0, y0), (4, y4), (9, y9), (10, y10), (11, y11), (12, y12)]) h) (fun y2 y3 h => K .ret (act 32 [(2, y2), (3, y3)]) h) := (k_loop (by kernel_rfl)).trans (F10_lrlrr_j k)
theorem r10_10 {β : Type} {inv : Inv} {k : Nat} {x0 x4 x9 x10 x11 x12 : Value} {h : AH} {K : XE → Act → AH → Option β} : kCode env 10 false inv k (cl (cr (cr (cr c10)))) (act 32 [(0, x0), (4, x4), (9, x9), (10, x10), (11, x11), (12, x12)]) h K =
    bnd (inv (.func 25) #[] #[x4, (.func (.func 26) #[] #[])] h) fun x31 =>
    K .normal (act 32 [(2, x31.1), (3, (Go.Value.int Go.IntKind.i64 0))]) x31.2 := (k_reg (by kernel_rfl)).trans (by kernel_rfl)
theorem res10_0 {x2 x3 : Value} {h : AH} : resOfFn env.P 10 .ret (act 32 [(2, x2), (3, x3)]) h = some (.tuple #[x2, x3], h) := (resOfFn_k (by kernel_rfl) (by kernel_rfl)).trans (by kernel_rfl)
/-- shadowbook/ints.Put -/
noncomputable def F10 (inv : Inv) (k : Nat) (x0 : Value) (h : AH) : Option (Value × AH) :=
    bnd (inv (.func 24) #[] #[] h) fun x9 =>
    bnd (pLen Try.prog #[42] x9.1 x9.2) fun x10 =>
    F10_lrlrr inv k k x0 (Go.Value.slice none 0 0) x9.1 x10 (Go.Value.int Go.IntKind.i64 0) x9.2
    (fun y0 y4 y9 y10 y11 y12 h =>
    bnd (inv (.func 25) #[] #[y4, (.func (.func 26) #[] #[])] h) fun x31 =>
    some (.tuple #[x31.1, (Go.Value.int Go.IntKind.i64 0)], x31.2))
    (fun y2 y3 h_1 =>
    some (.tuple #[y2, y3], h_1))
theorem F10_eq {inv : Inv} {k : Nat} {x0 : Value} {h : AH} : eFun env k inv 10 #[x0] h = F10 inv k x0 h := by
      refine (eFun_k2 (by kernel_rfl) (by kernel_rfl) (by kernel_rfl) (a := act 32 [(0, x0)]) (c := c10) (by kernel_rfl) (by kernel_rfl)).trans ?_
      unfold F10
      simp only [k_seq (E := env) (f := 10) (c := c10) (by kernel_rfl), r10_0, k_seq (E := env) (f := 10) (c := (cr c10)) (by kernel_rfl), r10_1, k_seq (E := env) (f := 10) (c := (cr (cr c10))) (by kernel_rfl), k_seq (E := env) (f := 10) (c := (cl (cr (cr c10)))) (by kernel_rfl), r10_2, k_block (E := env) (f := 10) (c := (cr (cl (cr (cr c10))))) (id := 0) (by kernel_rfl), F10_lrlrr_eq, k_seq (E := env) (f := 10) (c := (cr (cr (cr c10)))) (by kernel_rfl), r10_10, k_ret (E := env) (f := 10) (c := (cr (cr (cr (cr c10))))) (by kernel_rfl), res10_0, reduceIte, reduceCtorEq, XE.exit.injEq, Nat.reduceEqDiff] <;> kernel_rfl
noncomputable def c11 : Code := codeOf Try.prog 11
theorem r11_0 {β : Type} {inv : Inv} {k : Nat} {x0 : Value} {h : AH} {K : XE → Act → AH → Option β} : kCode env 11 false inv k (cl c11) (act 59 [(0, x0)]) h K =
    K .normal (act 59 [(0, x0)]) h := (k_reg (by kernel_rfl)).trans (by kernel_rfl)
theorem r11_1 {β : Type} {inv : Inv} {k : Nat} {x0 : Value} {h : AH} {K : XE → Act → AH → Option β} : kCode env 11 false inv k (cl (cl (cr c11))) (act 59 [(0, x0)]) h K =
    bnd (pLen Try.prog #[25] x0 h) fun x13 =>
    bnd (pBin Try.prog Go.BinOp.gtr 3 (Go.Operand.tmp 13) (Go.Operand.const (Go.Value.int Go.IntKind.i64 4096)) x13 (Go.Value.int Go.IntKind.i64 4096)) fun x14 =>
    K .normal (act 59 [(0, x0), (14, x14)]) h := (k_reg (by kernel_rfl)).trans (by kernel_rfl)
theorem b11_rlr {β : Type} {inv : Inv} {k : Nat} {x0 x14 : Value} {h : AH} {K : XE → Act → AH → Option β} : kCode env 11 false inv k (cr (cl (cr c11))) (act 59 [(0, x0), (14, x14)]) h K = brV x14 (kCode env 11 false inv k (cl (cr (cl (cr c11)))) (act 59 [(0, x0), (14, x14)]) h K) (kCode env 11 false inv k (cr (cr (cl (cr c11)))) (act 59 [(0, x0), (14, x14)]) h K) := (k_cond (by kernel_rfl)).trans (by kernel_rfl)
theorem r11_2 {β : Type} {inv : Inv} {k : Nat} {x0 x14 : Value} {h : AH} {K : XE → Act → AH → Option β} : kCode env 11 false inv k (cl (cl (cr (cl (cr c11))))) (act 59 [(0, x0), (14, x14)]) h K =
    K .normal (act 59 [(2, (Go.Value.slice none 0 0)), (3, (Go.Value.int Go.IntKind.i64 3))]) h := (k_reg (by kernel_rfl)).trans (by kernel_rfl)
theorem res11_0 {x2 x3 : Value} {h : AH} : resOfFn env.P 11 .ret (act 59 [(2, x2), (3, x3)]) h = some (.tuple #[x2, x3], h) := (resOfFn_k (by kernel_rfl) (by kernel_rfl)).trans (by kernel_rfl)
theorem r11_3 {β : Type} {inv : Inv} {k : Nat} {x0 x14 : Value} {h : AH} {K : XE → Act → AH → Option β} : kCode env 11 false inv k (cl (cr (cr c11))) (act 59 [(0, x0), (14, x14)]) h K =
    K .normal (act 59 [(0, x0), (4, (Go.Value.int Go.IntKind.i64 0))]) h := (k_reg (by kernel_rfl)).trans (by kernel_rfl)
theorem r11_4 {β : Type} {inv : Inv} {k : Nat} {x0 x4 : Value} {h : AH} {K : XE → Act → AH → Option β} : kCode env 11 false inv k (cl (cl (cr (cr (cr c11))))) (act 59 [(0, x0), (4, x4)]) h K =
    bnd (pLen Try.prog #[25] x0 h) fun x16 =>
    bnd (pBin Try.prog Go.BinOp.gtr 3 (Go.Operand.tmp 16) (Go.Operand.const (Go.Value.int Go.IntKind.i64 0)) x16 (Go.Value.int Go.IntKind.i64 0)) fun x17 =>
    K .normal (act 59 [(0, x0), (4, x4), (17, x17)]) h := (k_reg (by kernel_rfl)).trans (by kernel_rfl)
theorem b11_rlrrr {β : Type} {inv : Inv} {k : Nat} {x0 x4 x17 : Value} {h : AH} {K : XE → Act → AH → Option β} : kCode env 11 false inv k (cr (cl (cr (cr (cr c11))))) (act 59 [(0, x0), (4, x4), (17, x17)]) h K = brV x17 (kCode env 11 false inv k (cl (cr (cl (cr (cr (cr c11)))))) (act 59 [(0, x0), (4, x4), (17, x17)]) h K) (kCode env 11 false inv k (cr (cr (cl (cr (cr (cr c11)))))) (act 59 [(0, x0), (4, x4), (17, x17)]) h K) := (k_cond (by kernel_rfl)).trans (by kernel_rfl)
theorem r11_5 {β : Type} {inv : Inv} {k : Nat} {x0 x4 x17 : Value} {h : AH} {K : XE → Act → AH → Option β} : kCode env 11 false inv k (cl (cr (cl (cr (cr (cr c11)))))) (act 59 [(0, x0), (4, x4), (17, x17)]) h K =
    bnd (inv (.func 28) #[] #[x0] h) fun x19 =>
    K .normal (act 59 [(0, x0), (4, x19.1)]) x19.2 := (k_reg (by kernel_rfl)).trans (by kernel_rfl)
noncomputable def F11_rlrrr {β : Type} (inv : Inv) (k : Nat) (x0 x4 x17 : Value) (h : AH) (kn : (Value → Value → Value → AH → Option β)) : Option β :=
    brV x17
    (bnd (inv (.func 28) #[] #[x0] h) fun x19 =>
    kn x0 x19.1 unk x19.2)
    (kn x0 x4 x17 h)
theorem F11_rlrrr_eq {β : Type} {inv : Inv} {k : Nat} {x0 x4 x17 : Value} {h : AH} {K : XE → Act → AH → Option β} : kCode env 11 false inv k (cr (cl (cr (cr (cr c11))))) (act 59 [(0, x0), (4, x4), (17, x17)]) h K = F11_rlrrr inv k x0 x4 x17 h (fun y0 y4 y17 h => K .normal (act 59 [(0, y0), (4, y4), (17, y17)]) h) := by
      unfold F11_rlrrr
      simp only [b11_rlrrr, r11_5, k_skip (E := env) (f := 11) (c := (cr (cr (cl (cr (cr (cr c11))))))) (by kernel_rfl), reduceIte, reduceCtorEq, XE.exit.injEq, Nat.reduceEqDiff] <;> kernel_rfl
theorem r11_6 {β : Type} {inv : Inv} {k : Nat} {x0 x4 x17 : Value} {h : AH} {K : XE → Act → AH → Option β} : kCode env 11 false inv k (cl (cr (cr (cr (cr c11))))) (act 59 [(0, x0), (4, x4), (17, x17)]) h K =
    K .normal (act 59 [(0, x0), (4, x4), (5, (Go.Value.slice none 0 0))]) h := (k_reg (by kernel_rfl)).trans (by kernel_rfl)
theorem r11_7 {β : Type} {inv : Inv} {k : Nat} {x0 x4 x5 : Value} {h : AH} {K : XE → Act → AH → Option β} : kCode env 11 false inv k (cl (cl (cr (cr (cr (cr (cr c11))))))) (act 59 [(0, x0), (4, x4), (5, x5)]) h K =
    bnd (pLen Try.prog #[25] x0 h) fun x21 =>
    K .normal (act 59 [(0, x0), (4, x4), (5, x5), (20, x0), (21, x21), (22, (Go.Value.int Go.IntKind.i64 0))]) h := (k_reg (by kernel_rfl)).trans (by kernel_rfl)
theorem r11_8 {β : Type} {inv : Inv} {k : Nat} {x0 x4 x5 x20 x21 x22 : Value} {h : AH} {K : XE → Act → AH → Option β} : kCode env 11 false inv k (cl (cl (cl (cr (cl (cr (cr (cr (cr (cr c11)))))))))) (act 59 [(0, x0), (4, x4), (5, x5), (20, x20), (21, x21), (22, x22)]) h K =
    bnd (pBin Try.prog Go.BinOp.lss 3 (Go.Operand.tmp 22) (Go.Operand.tmp 21) x22 x21) fun x23 =>
    K .normal (act 59 [(0, x0), (4, x4), (5, x5), (20, x20), (21, x21), (22, x22), (23, x23)]) h := (k_reg (by kernel_rfl)).trans (by kernel_rfl)
theorem b11_lrllrlrrrrr {β : Type} {inv : Inv} {k : Nat} {x0 x4 x5 x20 x21 x22 x23 : Value} {h : AH} {K : XE → Act → AH → Option β} : kCode env 11 false inv k (cl (cr (cl (cl (cr (cl (cr (cr (cr (cr (cr c11))))))))))) (act 59 [(0, x0), (4, x4), (5, x5), (20, x20), (21, x21), (22, x22), (23, x23)]) h K = brV x23 (kCode env 11 false inv k (cl (cl (cr (cl (cl (cr (cl (cr (cr (cr (cr (cr c11)))))))))))) (act 59 [(0, x0), (4, x4), (5, x5), (20, x20), (21, x21), (22, x22), (23, x23)]) h K) (kCode env 11 false inv k (cr (cl (cr (cl (cl (cr (cl (cr (cr (cr (cr (cr c11)))))))))))) (act 59 [(0, x0), (4, x4), (5, x5), (20, x20), (21, x21), (22, x22), (23, x23)]) h K) := (k_cond (by kernel_rfl)).trans (by kernel_rfl)
theorem r11_9 {β : Type} {inv : Inv} {k : Nat} {x0 x4 x5 x20 x21 x22 x23 : Value} {h : AH} {K : XE → Act → AH → Option β} : kCode env 11 false inv k (cl (cl (cl (cr (cr (cl (cl (cr (cl (cr (cr (cr (cr (cr c11)))))))))))))) (act 59 [(0, x0), (4, x4), (5, x5), (20, x20), (21, x21), (22, x22), (23, x23)]) h K =
    bnd (pIndexAddr Try.prog 25 x20 x22) fun x24 =>
    bnd (pLoad Try.prog 2 x24 h) fun x25 =>
    K .normal (act 59 [(0, x0), (4, x4), (5, x5), (7, x25), (20, x20), (21, x21), (22, x22)]) h := (k_reg (by kernel_rfl)).trans (by kernel_rfl)
theorem r11_10 {β : Type} {inv : Inv} {k : Nat} {x0 x4 x5 x7 x20 x21 x22 : Value} {h : AH} {K : XE → Act → AH → Option β} : kCode env 11 false inv k (cr (cl (cl (cr (cr (cl (cl (cr (cl (cr (cr (cr (cr (cr c11)))))))))))))) (act 59 [(0, x0), (4, x4), (5, x5), (7, x7), (20, x20), (21, x21), (22, x22)]) h K =
    bnd (pConv Try.prog 2 51 x7 h) fun x28 =>
    bnd (pConv Try.prog 2 51 x4 h) fun x30 =>
    bnd (pBin Try.prog Go.BinOp.sub 51 (Go.Operand.tmp 28) (Go.Operand.tmp 30) x28 x30) fun x31 =>
    bnd (pBuildSlice Try.prog 50 1 #[(0, x31)] h) fun x32 =>
    bnd (pAppend Try.prog #[50, 50] x5 x32.1 x32.2) fun x33 =>
    K .normal (act 59 [(0, x0), (4, x4), (5, x33.1), (20, x20), (21, x21), (22, x22)]) x33.2 := (k_reg (by kernel_rfl)).trans (by kernel_rfl)
theorem r11_11 {β : Type} {inv : Inv} {k : Nat} {x0 x4 x5 x20 x21 x22 : Value} {h : AH} {K : XE → Act → AH → Option β} : kCode env 11 false inv k (cr (cr (cr (cl (cl (cr (cl (cr (cr (cr (cr (cr c11)))))))))))) (act 59 [(0, x0), (4, x4), (5, x5), (20, x20), (21, x21), (22, x22)]) h K =
    bnd (pBin Try.prog Go.BinOp.add 3 (Go.Operand.tmp 22) (Go.Operand.const (Go.Value.int Go.IntKind.i64 1)) x22 (Go.Value.int Go.IntKind.i64 1)) fun x34 =>
    K .normal (act 59 [(0, x0), (4, x4), (5, x5), (20, x20), (21, x21), (22, x34)]) h := (k_reg (by kernel_rfl)).trans (by kernel_rfl)
noncomputable def F11_lrlrrrrr {β : Type} (inv : Inv) (k : Nat) : Nat → Value → Value → Value → Value → Value → Value → AH → (Value → Value → Value → Value → Value → Value → Value → AH → Option β) → Option β
  | 0, _, _, _, _, _, _, _, _ => none
  | j + 1, x0, x4, x5, x20, x21, x22, h, ke0 =>
    bnd (pBin Try.prog Go.BinOp.lss 3 (Go.Operand.tmp 22) (Go.Operand.tmp 21) x22 x21) fun x23 =>
    brV x23
    (bnd (pIndexAddr Try.prog 25 x20 x22) fun x24 =>
    bnd (pLoad Try.prog 2 x24 h) fun x25 =>
    bnd (pConv Try.prog 2 51 x25 h) fun x28 =>
    bnd (pConv Try.prog 2 51 x4 h) fun x30 =>
    bnd (pBin Try.prog Go.BinOp.sub 51 (Go.Operand.tmp 28) (Go.Operand.tmp 30) x28 x30) fun x31 =>
    bnd (pBuildSlice Try.prog 50 1 #[(0, x31)] h) fun x32 =>
    bnd (pAppend Try.prog #[50, 50] x5 x32.1 x32.2) fun x33 =>
    bnd (pBin Try.prog Go.BinOp.add 3 (Go.Operand.tmp 22) (Go.Operand.const (Go.Value.int Go.IntKind.i64 1)) x22 (Go.Value.int Go.IntKind.i64 1)) fun x34 =>
    F11_lrlrrrrr inv k j x0 x4 x33.1 x20 x21 x34 x33.2 ke0)
    (ke0 x0 x4 x5 x20 x21 x22 x23 h)
theorem F11_lrlrrrrr_j {β : Type} {inv : Inv} {k : Nat} (j : Nat) {x0 x4 x5 x20 x21 x22 : Value} {h : AH} {K : XE → Act → AH → Option β} : kLoop (kCode env 11 false inv k (cl (cl (cr (cl (cr (cr (cr (cr (cr c11)))))))))) j (act 59 [(0, x0), (4, x4), (5, x5), (20, x20), (21, x21), (22, x22)]) h K = F11_lrlrrrrr inv k j x0 x4 x5 x20 x21 x22 h (fun y0 y4 y5 y20 y21 y22 y23 h => K (.exit 0) (act 59 [(0, y0), (4, y4), (5, y5), (20, y20), (21, y21), (22, y22), (23, y23)]) h) := by
      induction j generalizing x0 x4 x5 x20 x21 x22 h with
      | zero => rfl
      | succ j ih =>
        unfold F11_lrlrrrrr
        simp only [kLoop, k_seq (E := env) (f := 11) (c := (cl (cl (cr (cl (cr (cr (cr (cr (cr c11)))))))))) (by kernel_rfl), r11_8, k_seq (E := env) (f := 11) (c := (cr (cl (cl (cr (cl (cr (cr (cr (cr (cr c11))))))))))) (by kernel_rfl), b11_lrllrlrrrrr, k_skip (E := env) (f := 11) (c := (cl (cl (cr (cl (cl (cr (cl (cr (cr (cr (cr (cr c11))))))))))))) (by kernel_rfl), k_seq (E := env) (f := 11) (c := (cr (cr (cl (cl (cr (cl (cr (cr (cr (cr (cr c11)))))))))))) (by kernel_rfl), k_block (E := env) (f := 11) (c := (cl (cr (cr (cl (cl (cr (cl (cr (cr (cr (cr (cr c11))))))))))))) (id := 1) (by kernel_rfl), k_seq (E := env) (f := 11) (c := (cl (cl (cr (cr (cl (cl (cr (cl (cr (cr (cr (cr (cr c11)))))))))))))) (by kernel_rfl), r11_9, r11_10, r11_11, k_exit (E := env) (f := 11) (c := (cr (cl (cr (cl (cl (cr (cl (cr (cr (cr (cr (cr c11))))))))))))) (id := 0) (by kernel_rfl), ih, reduceIte, reduceCtorEq, XE.exit.injEq, Nat.reduceEqDiff] <;> kernel_rfl
theorem F11_lrlrrrrr_eq {β : Type} {inv : Inv} {k : Nat} {x0 x4 x5 x20 x21 x22 : Value} {h : AH} {K : XE → Act → AH → Option β} : kCode env 11 false inv k (cl (cr (cl (cr (cr (cr (cr (cr c11)))))))) (act 59 [(0, x0), (4, x4), (5, x5), (20, x20), (21, x21), (22, x22)]) h K = F11_lrlrrrrr inv k k x0 x4 x5 x20 x21 x22 h (fun y0 y4 y5 y20 y21 y22 y23 h => K (.exit 0) (act 59 [(0, y0), (4, y4), (5, y5), (20, y20), (21, y21), (22, y22), (23, y23)]) h) := (k_loop (by kernel_rfl)).trans (F11_lrlrrrrr_j k)
theorem r11_12 {β : Type} {inv : Inv} {k : Nat} {x0 x4 x5 x20 x21 x22 x23 : Value} {h : AH} {K : XE → Act → AH → Option β} : kCode env 11 false inv k (cl (cr (cr (cr (cr (cr (cr c11))))))) (act 59 [(0, x0), (4, x4), (5, x5), (20, x20), (21, x21), (22, x22), (23, x23)]) h K =
    bnd (inv (.func 29) #[] #[x5] h) fun x36 =>
    K .normal (act 59 [(0, x0), (4, x4), (5, x5), (8, x36.1)]) x36.2 := (k_reg (by kernel_rfl)).trans (by kernel_rfl)
theorem r11_13 {β : Type} {inv : Inv} {k : Nat} {x0 x4 x5 x8 : Value} {h : AH} {K : XE → Act → AH → Option β} : kCode env 11 false inv k (cl (cr (cr (cr (cr (cr (cr (cr c11)))))))) (act 59 [(0, x0), (4, x4), (5, x5), (8, x8)]) h K =
    bnd (inv (.func 30) #[] #[x5, x8] h) fun x40 =>
    bnd (pExtract x40.1 0) fun x41 =>
    bnd (pExtract x40.1 1) fun x42 =>
    K .normal (act 59 [(0, x0), (4, x4), (8, x8), (9, x41), (10, x42)]) x40.2 := (k_reg (by kernel_rfl)).trans (by kernel_rfl)
theorem r11_14 {β : Type} {inv : Inv} {k : Nat} {x0 x4 x8 x9 x10 : Value} {h : AH} {K : XE → Act → AH → Option β} : kCode env 11 false inv k (cl (cl (cr (cr (cr (cr (cr (cr (cr (cr c11)))))))))) (act 59 [(0, x0), (4, x4), (8, x8), (9, x9), (10, x10)]) h K =
    bnd (pBin Try.prog Go.BinOp.neq 27 (Go.Operand.tmp 43) (Go.Operand.const (Go.Value.int Go.IntKind.i64 0)) x10 (Go.Value.int Go.IntKind.i64 0)) fun x44 =>
    K .normal (act 59 [(0, x0), (4, x4), (8, x8), (9, x9), (10, x10), (44, x44)]) h := (k_reg (by kernel_rfl)).trans (by kernel_rfl)
theorem b11_rlrrrrrrrr {β : Type} {inv : Inv} {k : Nat} {x0 x4 x8 x9 x10 x44 : Value} {h : AH} {K : XE → Act → AH → Option β} : kCode env 11 false inv k (cr (cl (cr (cr (cr (cr (cr (cr (cr (cr c11)))))))))) (act 59 [(0, x0), (4, x4), (8, x8), (9, x9), (10, x10), (44, x44)]) h K = brV x44 (kCode env 11 false inv k (cl (cr (cl (cr (cr (cr (cr (cr (cr (cr (cr c11))))))))))) (act 59 [(0, x0), (4, x4), (8, x8), (9, x9), (10, x10), (44, x44)]) h K) (kCode env 11 false inv k (cr (cr (cl (cr (cr (cr (cr (cr (cr (cr (cr c11))))))))))) (act 59 [(0, x0), (4, x4), (8, x8), (9, x9), (10, x10), (44, x44)]) h K) := (k_cond (by kernel_rfl)).trans (by kernel_rfl)
theorem r11_15 {β : Type} {inv : Inv} {k : Nat} {x0 x4 x8 x9 x10 x44 : Value} {h : AH} {K : XE → Act → AH → Option β} : kCode env 11 false inv k (cl (cl (cr (cl (cr (cr (cr (cr (cr (cr (cr (cr c11)))))))))))) (act 59 [(0, x0), (4, x4), (8, x8), (9, x9), (10, x10), (44, x44)]) h K =
    K .normal (act 59 [(2, (Go.Value.slice none 0 0)), (3, x10)]) h := (k_reg (by kernel_rfl)).trans (by kernel_rfl)
theorem r11_16 {β : Type} {inv : Inv} {k : Nat} {x0 x4 x8 x9 x10 x44 : Value} {h : AH} {K : XE → Act → AH → Option β} : kCode env 11 false inv k (cl (cr (cr (cr (cr (cr (cr (cr (cr (cr c11)))))))))) (act 59 [(0, x0), (4, x4), (8, x8), (9, x9), (10, x10), (44, x44)]) h K =
    bnd (pLen Try.prog #[25] x0 h) fun x47 =>
    bnd (inv (.func 32) #[] #[(Go.Value.int Go.IntKind.u8 3), x47] h) fun x48 =>
    bnd (pConv Try.prog 2 51 x4 x48.2) fun x50 =>
    bnd (inv (.func 31) #[] #[x48.1, x50, (Go.Value.int Go.IntKind.i64 8)] x48.2) fun x51 =>
    K .normal (act 59 [(8, x8), (9, x9), (11, x51.1)]) x51.2 := (k_reg (by kernel_rfl)).trans (by kernel_rfl)
theorem r11_17 {β : Type} {inv : Inv} {k : Nat} {x8 x9 x11 : Value} {h : AH} {K : XE → Act → AH → Option β} : kCode env 11 false inv k (cl (cr (cr (cr (cr (cr (cr (cr (cr (cr (cr c11))))))))))) (act 59 [(8, x8), (9, x9), (11, x11)]) h K =
    bnd (pConv Try.prog 3 5 x8 h) fun x54 =>
    bnd (pBuildSlice Try.prog 26 1 #[(0, x54)] h) fun x55 =>
    bnd (pAppend Try.prog #[26, 26] x11 x55.1 x55.2) fun x56 =>
    bnd (pAppend Try.prog #[26, 26] x56.1 x9 x56.2) fun x58 =>
    K .normal (act 59 [(2, x58.1), (3, (Go.Value.int Go.IntKind.i64 0))]) x58.2 := (k_reg (by kernel_rfl)).trans (by kernel_rfl)
/-- shadowbook/ints.Packed -/
noncomputable def F11 (inv : Inv) (k : Nat) (x0 : Value) (h : AH) : Option (Value × AH) :=
    bnd (pLen Try.prog #[25] x0 h) fun x13 =>
    bnd (pBin Try.prog Go.BinOp.gtr 3 (Go.Operand.tmp 13) (Go.Operand.const (Go.Value.int Go.IntKind.i64 4096)) x13 (Go.Value.int Go.IntKind.i64 4096)) fun x14 =>
    brV x14
    (some (.tuple #[(Go.Value.slice none 0 0), (Go.Value.int Go.IntKind.i64 3)], h))
    (bnd (pLen Try.prog #[25] x0 h) fun x16 =>
    bnd (pBin Try.prog Go.BinOp.gtr 3 (Go.Operand.tmp 16) (Go.Operand.const (Go.Value.int Go.IntKind.i64 0)) x16 (Go.Value.int Go.IntKind.i64 0)) fun x17 =>
    F11_rlrrr inv k x0 (Go.Value.int Go.IntKind.i64 0) x17 h
    (fun y0 y4 y17 h =>
    bnd (pLen Try.prog #[25] y0 h) fun x21 =>
    F11_lrlrrrrr inv k k y0 y4 (Go.Value.slice none 0 0) y0 x21 (Go.Value.int Go.IntKind.i64 0) h
    (fun y0_1 y4_2 y5 y20 y21 y22 y23 h_3 =>
    bnd (inv (.func 29) #[] #[y5] h_3) fun x36 =>
    bnd (inv (.func 30) #[] #[y5, x36.1] x36.2) fun x40 =>
    bnd (pExtract x40.1 0) fun x41 =>
    bnd (pExtract x40.1 1) fun x42 =>
    bnd (pBin Try.prog Go.BinOp.neq 27 (Go.Operand.tmp 43) (Go.Operand.const (Go.Value.int Go.IntKind.i64 0)) x42 (Go.Value.int Go.IntKind.i64 0)) fun x44 =>
    brV x44
    (some (.tuple #[(Go.Value.slice none 0 0), x42], x40.2))
    (bnd (pLen Try.prog #[25] y0_1 x40.2) fun x47 =>
    bnd (inv (.func 32) #[] #[(Go.Value.int Go.IntKind.u8 3), x47] x40.2) fun x48 =>
    bnd (pConv Try.prog 2 51 y4_2 x48.2) fun x50 =>
    bnd (inv (.func 31) #[] #[x48.1, x50, (Go.Value.int Go.IntKind.i64 8)] x48.2) fun x51 =>
    bnd (pConv Try.prog 3 5 x36.1 x51.2) fun x54 =>
    bnd (pBuildSlice Try.prog 26 1 #[(0, x54)] x51.2) fun x55 =>
    bnd (pAppend Try.prog #[26, 26] x51.1 x55.1 x55.2) fun x56 =>
    bnd (pAppend Try.prog #[26, 26] x56.1 x41 x56.2) fun x58 =>
    some (.tuple #[x58.1, (Go.Value.int Go.IntKind.i64 0)], x58.2)))))
theorem F11_eq {inv : Inv} {k : Nat} {x0 : Value} {h : AH} : eFun env k inv 11 #[x0] h = F11 inv k x0 h := by
      refine (eFun_k2 (by kernel_rfl) (by kernel_rfl) (by kernel_rfl) (a := act 59 [(0, x0)]) (c := c11) (by kernel_rfl) (by kernel_rfl)).trans ?_
      unfold F11
      simp only [k_seq (E := env) (f := 11) (c := c11) (by kernel_rfl), r11_0, k_seq (E := env) (f := 11) (c := (cr c11)) (by kernel_rfl), k_seq (E := env) (f := 11) (c := (cl (cr c11))) (by kernel_rfl), r11_1, b11_rlr, k_seq (E := env) (f := 11) (c := (cl (cr (cl (cr c11))))) (by kernel_rfl), r11_2, k_ret (E := env) (f := 11) (c := (cr (cl (cr (cl (cr c11)))))) (by kernel_rfl), res11_0, k_skip (E := env) (f := 11) (c := (cr (cr (cl (cr c11))))) (by kernel_rfl), k_seq (E := env) (f := 11) (c := (cr (cr c11))) (by kernel_rfl), r11_3, k_seq (E := env) (f := 11) (c := (cr (cr (cr c11)))) (by kernel_rfl), k_seq (E := env) (f := 11) (c := (cl (cr (cr (cr c11))))) (by kernel_rfl), r11_4, F11_rlrrr_eq, k_seq (E := env) (f := 11) (c := (cr (cr (cr (cr c11))))) (by kernel_rfl), r11_6, k_seq (E := env) (f := 11) (c := (cr (cr (cr (cr (cr c11)))))) (by kernel_rfl), k_seq (E := env) (f := 11) (c := (cl (cr (cr (cr (cr (cr c11))))))) (by kernel_rfl), r11_7, k_block (E := env) (f := 11) (c := (cr (cl (cr (cr (cr (cr (cr c11)))))))) (id := 0) (by kernel_rfl), F11_lrlrrrrr_eq, k_seq (E := env) (f := 11) (c := (cr (cr (cr (cr (cr (cr c11))))))) (by kernel_rfl), r11_12, k_seq (E := env) (f := 11) (c := (cr (cr (cr (cr (cr (cr (cr c11)))))))) (by kernel_rfl), r11_13, k_seq (E := env) (f := 11) (c := (cr (cr (cr (cr (cr (cr (cr (cr c11))))))))) (by kernel_rfl), k_seq (E := env) (f := 11) (c := (cl (cr (cr (cr (cr (cr (cr (cr (cr c11)))))))))) (by kernel_rfl), r11_14, b11_rlrrrrrrrr, k_seq (E := env) (f := 11) (c := (cl (cr (cl (cr (cr (cr (cr (cr (cr (cr (cr c11)))))))))))) (by kernel_rfl), r11_15, k_ret (E := env) (f := 11) (c := (cr (cl (cr (cl (cr (cr (cr (cr (cr (cr (cr (cr c11))))))))))))) (by kernel_rfl), k_skip (E := env) (f := 11) (c := (cr (cr (cl (cr (cr (cr (cr (cr (cr (cr (cr c11)))))))))))) (by kernel_rfl), k_seq (E := env) (f := 11) (c := (cr (cr (cr (cr (cr (cr (cr (cr (cr c11)))))))))) (by kernel_rfl), r11_16, k_seq (E := env) (f := 11) (c := (cr (cr (cr (cr (cr (cr (cr (cr (cr (cr c11))))))))))) (by kernel_rfl), r11_17, k_ret (E := env) (f := 11) (c := (cr (cr (cr (cr (cr (cr (cr (cr (cr (cr (cr c11)))))))))))) (by kernel_rfl), reduceIte, reduceCtorEq, XE.exit.injEq, Nat.reduceEqDiff] <;> kernel_rfl
noncomputable def c13 : Code := codeOf Try.prog 13
theorem r13_0 {β : Type} {inv : Inv} {k : Nat} {x0 : Value} {h : AH} {K : XE → Act → AH → Option β} : kCode env 13 false inv k (cl c13) (act 25 [(0, x0)]) h K =
    K .normal (act 25 [(0, x0)]) h := (k_reg (by kernel_rfl)).trans (by kernel_rfl)
theorem r13_1 {β : Type} {inv : Inv} {k : Nat} {x0 : Value} {h : AH} {K : XE → Act → AH → Option β} : kCode env 13 false inv k (cl (cl (cr c13))) (act 25 [(0, x0)]) h K =
    bnd (pLen Try.prog #[25] x0 h) fun x8 =>
    bnd (pBin Try.prog Go.BinOp.gtr 3 (Go.Operand.tmp 8) (Go.Operand.const (Go.Value.int Go.IntKind.i64 4096)) x8 (Go.Value.int Go.IntKind.i64 4096)) fun x9 =>
    K .normal (act 25 [(0, x0), (9, x9)]) h := (k_reg (by kernel_rfl)).trans (by kernel_rfl)
theorem b13_rlr {β : Type} {inv : Inv} {k : Nat} {x0 x9 : Value} {h : AH} {K : XE → Act → AH → Option β} : kCode env 13 false inv k (cr (cl (cr c13))) (act 25 [(0, x0), (9, x9)]) h K = brV x9 (kCode env 13 false inv k (cl (cr (cl (cr c13)))) (act 25 [(0, x0), (9, x9)]) h K) (kCode env 13 false inv k (cr (cr (cl (cr c13)))) (act 25 [(0, x0), (9, x9)]) h K) := (k_cond (by kernel_rfl)).trans (by kernel_rfl)
theorem r13_2 {β : Type} {inv : Inv} {k : Nat} {x0 x9 : Value} {h : AH} {K : XE → Act → AH → Option β} : kCode env 13 false inv k (cl (cl (cr (cl (cr c13))))) (act 25 [(0, x0), (9, x9)]) h K =
    K .normal (act 25 [(2, (Go.Value.slice none 0 0)), (3, (Go.Value.int Go.IntKind.i64 3))]) h := (k_reg (by kernel_rfl)).trans (by kernel_rfl)
theorem res13_0 {x2 x3 : Value} {h : AH} : resOfFn env.P 13 .ret (act 25 [(2, x2), (3, x3)]) h = some (.tuple #[x2, x3], h) := (resOfFn_k (by kernel_rfl) (by kernel_rfl)).trans (by kernel_rfl)
theorem r13_3 {β : Type} {inv : Inv} {k : Nat} {x0 x9 : Value} {h : AH} {K : XE → Act → AH → Option β} : kCode env 13 false inv k (cl (cr (cr c13))) (act 25 [(0, x0), (9, x9)]) h K =
    bnd (pLen Try.prog #[25] x0 h) fun x11 =>
    bnd (inv (.func 32) #[] #[(Go.Value.int Go.IntKind.u8 1), x11] h) fun x12 =>
    K .normal (act 25 [(0, x0), (4, x12.1)]) x12.2 := (k_reg (by kernel_rfl)).trans (by kernel_rfl)
theorem r13_4 {β : Type} {inv : Inv} {k : Nat} {x0 x4 : Value} {h : AH} {K : XE → Act → AH → Option β} : kCode env 13 false inv k (cl (cl (cr (cr (cr c13))))) (act 25 [(0, x0), (4, x4)]) h K =
    bnd (pLen Try.prog #[25] x0 h) fun x14 =>
    K .normal (act 25 [(4, x4), (13, x0), (14, x14), (15, (Go.Value.int Go.IntKind.i64 0))]) h := (k_reg (by kernel_rfl)).trans (by kernel_rfl)
theorem r13_5 {β : Type} {inv : Inv} {k : Nat} {x4 x13 x14 x15 : Value} {h : AH} {K : XE → Act → AH → Option β} : kCode env 13 false inv k (cl (cl (cl (cr (cl (cr (cr (cr c13)))))))) (act 25 [(4, x4), (13, x13), (14, x14), (15, x15)]) h K =
    bnd (pBin Try.prog Go.BinOp.lss 3 (Go.Operand.tmp 15) (Go.Operand.tmp 14) x15 x14) fun x16 =>
    K .normal (act 25 [(4, x4), (13, x13), (14, x14), (15, x15), (16, x16)]) h := (k_reg (by kernel_rfl)).trans (by kernel_rfl)
theorem b13_lrllrlrrr {β : Type} {inv : Inv} {k : Nat} {x4 x13 x14 x15 x16 : Value} {h : AH} {K : XE → Act → AH → Option β} : kCode env 13 false inv k (cl (cr (cl (cl (cr (cl (cr (cr (cr c13))))))))) (act 25 [(4, x4), (13, x13), (14, x14), (15, x15), (16, x16)]) h K = brV x16 (kCode env 13 false inv k (cl (cl (cr (cl (cl (cr (cl (cr (cr (cr c13)))))))))) (act 25 [(4, x4), (13, x13), (14, x14), (15, x15), (16, x16)]) h K) (kCode env 13 false inv k (cr (cl (cr (cl (cl (cr (cl (cr (cr (cr c13)))))))))) (act 25 [(4, x4), (13, x13), (14, x14), (15, x15), (16, x16)]) h K) := (k_cond (by kernel_rfl)).trans (by kernel_rfl)
theorem r13_6 {β : Type} {inv : Inv} {k : Nat} {x4 x13 x14 x15 x16 : Value} {h : AH} {K : XE → Act → AH → Option β} : kCode env 13 false inv k (cl (cl (cl (cr (cr (cl (cl (cr (cl (cr (cr (cr c13)))))))))))) (act 25 [(4, x4), (13, x13), (14, x14), (15, x15), (16, x16)]) h K =
    bnd (pIndexAddr Try.prog 25 x13 x15) fun x17 =>
    bnd (pLoad Try.prog 2 x17 h) fun x18 =>
    K .normal (act 25 [(4, x4), (6, x18), (13, x13), (14, x14), (15, x15)]) h := (k_reg (by kernel_rfl)).trans (by kernel_rfl)
theorem r13_7 {β : Type} {inv : Inv} {k : Nat} {x4 x6 x13 x14 x15 : Value} {h : AH} {K : XE → Act → AH → Option β} : kCode env 13 false inv k (cr (cl (cl (cr (cr (cl (cl (cr (cl (cr (cr (cr c13)))))))))))) (act 25 [(4, x4), (6, x6), (13, x13), (14, x14), (15, x15)]) h K =
    bnd (pConv Try.prog 2 51 x6 h) fun x21 =>
    bnd (inv (.func 31) #[] #[x4, x21, (Go.Value.int Go.IntKind.i64 8)] h) fun x22 =>
    K .normal (act 25 [(4, x22.1), (13, x13), (14, x14), (15, x15)]) x22.2 := (k_reg (by kernel_rfl)).trans (by kernel_rfl)
theorem r13_8 {β : Type} {inv : Inv} {k : Nat} {x4 x13 x14 x15 : Value} {h : AH} {K : XE → Act → AH → Option β} : kCode env 13 false inv k (cr (cr (cr (cl (cl (cr (cl (cr (cr (cr c13)))))))))) (act 25 [(4, x4), (13, x13), (14, x14), (15, x15)]) h K =
    bnd (pBin Try.prog Go.BinOp.add 3 (Go.Operand.tmp 15) (Go.Operand.const (Go.Value.int Go.IntKind.i64 1)) x15 (Go.Value.int Go.IntKind.i64 1)) fun x23 =>
    K .normal (act 25 [(4, x4), (13, x13), (14, x14), (15, x23)]) h := (k_reg (by kernel_rfl)).trans (by kernel_rfl)
noncomputable def F13_lrlrrr {β : Type} (inv : Inv) (k : Nat) : Nat → Value → Value → Value → Value → AH → (Value → Value → Value → Value → Value → AH → Option β) → Option β
  | 0, _, _, _, _, _, _ => none
  | j + 1, x4, x13, x14, x15, h, ke0 =>
    bnd (pBin Try.prog Go.BinOp.lss 3 (Go.Operand.tmp 15) (Go.Operand.tmp 14) x15 x14) fun x16 =>
    brV x16
    (bnd (pIndexAddr Try.prog 25 x13 x15) fun x17 =>
    bnd (pLoad Try.prog 2 x17 h) fun x18 =>
    bnd (pConv Try.prog 2 51 x18 h) fun x21 =>
    bnd (inv (.func 31) #[] #[x4, x21, (Go.Value.int Go.IntKind.i64 8)] h) fun x22 =>
    bnd (pBin Try.prog Go.BinOp.add 3 (Go.Operand.tmp 15) (Go.Operand.const (Go.Value.int Go.IntKind.i64 1)) x15 (Go.Value.int Go.IntKind.i64 1)) fun x23 =>
    F13_lrlrrr inv k j x22.1 x13 x14 x23 x22.2 ke0)
    (ke0 x4 x13 x14 x15 x16 h)
theorem F13_lrlrrr_j {β : Type} {inv : Inv} {k : Nat} (j : Nat) {x4 x13 x14 x15 : Value} {h : AH} {K : XE → Act → AH → Option β} : kLoop (kCode env 13 false inv k (cl (cl (cr (cl (cr (cr (cr c13)))))))) j (act 25 [(4, x4), (13, x13), (14, x14), (15, x15)]) h K = F13_lrlrrr inv k j x4 x13 x14 x15 h (fun y4 y13 y14 y15 y16 h => K (.exit 0) (act 25 [(4, y4), (13, y13), (14, y14), (15, y15), (16, y16)]) h) := by
      induction j generalizing x4 x13 x14 x15 h with
      | zero => rfl
      | succ j ih =>
        unfold F13_lrlrrr
        simp only [kLoop, k_seq (E := env) (f := 13) (c := (cl (cl (cr (cl (cr (cr (cr c13)))))))) (by kernel_rfl), r13_5, k_seq (E := env) (f := 13) (c := (cr (cl (cl (cr (cl (cr (cr (cr c13))))))))) (by kernel_rfl), b13_lrllrlrrr, k_skip (E := env) (f := 13) (c := (cl (cl (cr (cl (cl (cr (cl (cr (cr (cr c13))))))))))) (by kernel_rfl), k_seq (E := env) (f := 13) (c := (cr (cr (cl (cl (cr (cl (cr (cr (cr c13)))))))))) (by kernel_rfl), k_block (E := env) (f := 13) (c := (cl (cr (cr (cl (cl (cr (cl (cr (cr (cr c13))))))))))) (id := 1) (by kernel_rfl), k_seq (E := env) (f := 13) (c := (cl (cl (cr (cr (cl (cl (cr (cl (cr (cr (cr c13)))))))))))) (by kernel_rfl), r13_6, r13_7, r13_8, k_exit (E := env) (f := 13) (c := (cr (cl (cr (cl (cl (cr (cl (cr (cr (cr c13))))))))))) (id := 0) (by kernel_rfl), ih, reduceIte, reduceCtorEq, XE.exit.injEq, Nat.reduceEqDiff] <;> kernel_rfl
theorem F13_lrlrrr_eq {β : Type} {inv : Inv} {k : Nat} {x4 x13 x14 x15 : Value} {h : AH} {K : XE → Act → AH → Option β} : kCode env 13 false inv k (cl (cr (cl (cr (cr (cr c13)))))) (act 25 [(4, x4), (13, x13), (14, x14), (15, x15)]) h K = F13_lrlrrr inv k k x4 x13 x14 x15 h (fun y4 y13 y14 y15 y16 h => K (.exit 0) (act 25 [(4, y4), (13, y13), (14, y14), (15, y15), (16, y16)]) h) := (k_loop (by kernel_rfl)).trans (F13_lrlrrr_j k)
theorem r13_9 {β : Type} {inv : Inv} {k : Nat} {x4 x13 x14 x15 x16 : Value} {h : AH} {K : XE → Act → AH → Option β} : kCode env 13 false inv k (cl (cr (cr (cr (cr c13))))) (act 25 [(4, x4), (13, x13), (14, x14), (15, x15), (16, x16)]) h K =
    K .normal (act 25 [(2, x4), (3, (Go.Value.int Go.IntKind.i64 0))]) h := (k_reg (by kernel_rfl)).trans (by kernel_rfl)
/-- shadowbook/ints.Plain -/
noncomputable def F13 (inv : Inv) (k : Nat) (x0 : Value) (h : AH) : Option (Value × AH) :=
    bnd (pLen Try.prog #[25] x0 h) fun x8 =>
    bnd (pBin Try.prog Go.BinOp.gtr 3 (Go.Operand.tmp 8) (Go.Operand.const (Go.Value.int Go.IntKind.i64 4096)) x8 (Go.Value.int Go.IntKind.i64 4096)) fun x9 =>
    brV x9
    (some (.tuple #[(Go.Value.slice none 0 0), (Go.Value.int Go.IntKind.i64 3)], h))
    (bnd (pLen Try.prog #[25] x0 h) fun x11 =>
    bnd (inv (.func 32) #[] #[(Go.Value.int Go.IntKind.u8 1), x11] h) fun x12 =>
    bnd (pLen Try.prog #[25] x0 x12.2) fun x14 =>
    F13_lrlrrr inv k k x12.1 x0 x14 (Go.Value.int Go.IntKind.i64 0) x12.2
    (fun y4 y13 y14 y15 y16 h =>
    some (.tuple #[y4, (Go.Value.int Go.IntKind.i64 0)], h)))
theorem F13_eq {inv : Inv} {k : Nat} {x0 : Value} {h : AH} : eFun env k inv 13 #[x0] h = F13 inv k x0 h := by
      refine (eFun_k2 (by kernel_rfl) (by kernel_rfl) (by kernel_rfl) (a := act 25 [(0, x0)]) (c := c13) (by kernel_rfl) (by kernel_rfl)).trans ?_
      unfold F13
      simp only [k_seq (E := env) (f := 13) (c := c13) (by kernel_rfl), r13_0, k_seq (E := env) (f := 13) (c := (cr c13)) (by kernel_rfl), k_seq (E := env) (f := 13) (c := (cl (cr c13))) (by kernel_rfl), r13_1, b13_rlr, k_seq (E := env) (f := 13) (c := (cl (cr (cl (cr c13))))) (by kernel_rfl), r13_2, k_ret (E := env) (f := 13) (c := (cr (cl (cr (cl (cr c13)))))) (by kernel_rfl), res13_0, k_skip (E := env) (f := 13) (c := (cr (cr (cl (cr c13))))) (by kernel_rfl), k_seq (E := env) (f := 13) (c := (cr (cr c13))) (by kernel_rfl), r13_3, k_seq (E := env) (f := 13) (c := (cr (cr (cr c13)))) (by kernel_rfl), k_seq (E := env) (f := 13) (c := (cl (cr (cr (cr c13))))) (by kernel_rfl), r13_4, k_block (E := env) (f := 13) (c := (cr (cl (cr (cr (cr c13)))))) (id := 0) (by kernel_rfl), F13_lrlrrr_eq, k_seq (E := env) (f := 13) (c := (cr (cr (cr (cr c13))))) (by kernel_rfl), r13_9, k_ret (E := env) (f := 13) (c := (cr (cr (cr (cr (cr c13)))))) (by kernel_rfl), reduceIte, reduceCtorEq, XE.exit.injEq, Nat.reduceEqDiff] <;> kernel_rfl
noncomputable def c14 : Code := codeOf Try.prog 14
theorem r14_0 {β : Type} {inv : Inv} {k : Nat} {x0 : Value} {h : AH} {K : XE → Act → AH → Option β} : kCode env 14 false inv k (cl c14) (act 52 [(0, x0)]) h K =
    K .normal (act 52 [(0, x0)]) h := (k_reg (by kernel_rfl)).trans (by kernel_rfl)
theorem r14_1 {β : Type} {inv : Inv} {k : Nat} {x0 : Value} {h : AH} {K : XE → Act → AH → Option β} : kCode env 14 false inv k (cl (cl (cl (cr c14)))) (act 52 [(0, x0)]) h K =
    bnd (pLen Try.prog #[25] x0 h) fun x8 =>
    bnd (pBin Try.prog Go.BinOp.gtr 3 (Go.Operand.tmp 8) (Go.Operand.const (Go.Value.int Go.IntKind.i64 4096)) x8 (Go.Value.int Go.IntKind.i64 4096)) fun x9 =>
    K .normal (act 52 [(0, x0), (9, x9)]) h := (k_reg (by kernel_rfl)).trans (by kernel_rfl)
theorem b14_rllr {β : Type} {inv : Inv} {k : Nat} {x0 x9 : Value} {h : AH} {K : XE → Act → AH → Option β} : kCode env 14 false inv k (cr (cl (cl (cr c14)))) (act 52 [(0, x0), (9, x9)]) h K = brV x9 (kCode env 14 false inv k (cl (cr (cl (cl (cr c14))))) (act 52 [(0, x0), (9, x9)]) h K) (kCode env 14 false inv k (cr (cr (cl (cl (cr c14))))) (act 52 [(0, x0), (9, x9)]) h K) := (k_cond (by kernel_rfl)).trans (by kernel_rfl)
theorem r14_2 {β : Type} {inv : Inv} {k : Nat} {x0 x9 : Value} {h : AH} {K : XE → Act → AH → Option β} : kCode env 14 false inv k (cl (cl (cr (cl (cl (cr c14)))))) (act 52 [(0, x0), (9, x9)]) h K =
    K .normal (act 52 [(2, (Go.Value.slice none 0 0)), (3, (Go.Value.int Go.IntKind.i64 3))]) h := (k_reg (by kernel_rfl)).trans (by kernel_rfl)
theorem res14_0 {x2 x3 : Value} {h : AH} : resOfFn env.P 14 .ret (act 52 [(2, x2), (3, x3)]) h = some (.tuple #[x2, x3], h) := (resOfFn_k (by kernel_rfl) (by kernel_rfl)).trans (by kernel_rfl)
theorem r14_3 {β : Type} {inv : Inv} {k : Nat} {x0 x9 : Value} {h : AH} {K : XE → Act → AH → Option β} : kCode env 14 false inv k (cl (cr (cl (cr c14)))) (act 52 [(0, x0), (9, x9)]) h K =
    bnd (pLen Try.prog #[25] x0 h) fun x11 =>
    bnd (inv (.func 32) #[] #[(Go.Value.int Go.IntKind.u8 2), x11] h) fun x12 =>
    K .normal (act 52 [(0, x0), (4, x12.1)]) x12.2 := (k_reg (by kernel_rfl)).trans (by kernel_rfl)
theorem r14_4 {β : Type} {inv : Inv} {k : Nat} {x0 x4 : Value} {h : AH} {K : XE → Act → AH → Option β} : kCode env 14 false inv k (cl (cr (cr (cl (cr c14))))) (act 52 [(0, x0), (4, x4)]) h K =
    K .normal (act 52 [(0, x0), (4, x4), (5, (Go.Value.int Go.IntKind.i64 0))]) h := (k_reg (by kernel_rfl)).trans (by kernel_rfl)
theorem r14_5 {β : Type} {inv : Inv} {k : Nat} {x0 x4 x5 : Value} {h : AH} {K : XE → Act → AH → Option β} : kCode env 14 false inv k (cl (cl (cr (cr (cr (cr (cl (cr c14)))))))) (act 52 [(0, x0), (4, x4), (5, x5)]) h K =
    bnd (pLen Try.prog #[25] x0 h) fun x14 =>
    K .normal (act 52 [(0, x0), (4, x4), (5, x5), (14, x14), (15, (Go.Value.int Go.IntKind.i64 0))]) h := (k_reg (by kernel_rfl)).trans (by kernel_rfl)
theorem r14_6 {β : Type} {inv : Inv} {k : Nat} {x0 x4 x5 x14 x15 : Value} {h : AH} {K : XE → Act → AH → Option β} : kCode env 14 false inv k (cl (cl (cl (cr (cl (cr (cr (cr (cr (cl (cr c14))))))))))) (act 52 [(0, x0), (4, x4), (5, x5), (14, x14), (15, x15)]) h K =
    bnd (pBin Try.prog Go.BinOp.lss 3 (Go.Operand.tmp 15) (Go.Operand.tmp 14) x15 x14) fun x16 =>
    K .normal (act 52 [(0, x0), (4, x4), (5, x5), (14, x14), (15, x15), (16, x16)]) h := (k_reg (by kernel_rfl)).trans (by kernel_rfl)
theorem b14_lrllrlrrrrlr {β : Type} {inv : Inv} {k : Nat} {x0 x4 x5 x14 x15 x16 : Value} {h : AH} {K : XE → Act → AH → Option β} : kCode env 14 false inv k (cl (cr (cl (cl (cr (cl (cr (cr (cr (cr (cl (cr c14)))))))))))) (act 52 [(0, x0), (4, x4), (5, x5), (14, x14), (15, x15), (16, x16)]) h K = brV x16 (kCode env 14 false inv k (cl (cl (cr (cl (cl (cr (cl (cr (cr (cr (cr (cl (cr c14))))))))))))) (act 52 [(0, x0), (4, x4), (5, x5), (14, x14), (15, x15), (16, x16)]) h K) (kCode env 14 false inv k (cr (cl (cr (cl (cl (cr (cl (cr (cr (cr (cr (cl (cr c14))))))))))))) (act 52 [(0, x0), (4, x4), (5, x5), (14, x14), (15, x15), (16, x16)]) h K) := (k_cond (by kernel_rfl)).trans (by kernel_rfl)
theorem r14_7 {β : Type} {inv : Inv} {k : Nat} {x0 x4 x5 x14 x15 x16 : Value} {h : AH} {K : XE → Act → AH → Option β} : kCode env 14 false inv k (cl (cl (cl (cr (cr (cl (cl (cr (cl (cr (cr (cr (cr (cl (cr c14))))))))))))))) (act 52 [(0, x0), (4, x4), (5, x5), (14, x14), (15, x15), (16, x16)]) h K =
    K .normal (act 52 [(0, x0), (4, x4), (5, x5), (6, x15), (14, x14), (15, x15)]) h := (k_reg (by kernel_rfl)).trans (by kernel_rfl)
theorem r14_8 {β : Type} {inv : Inv} {k : Nat} {x0 x4 x5 x6 x14 x15 : Value} {h : AH} {K : XE → Act → AH → Option β} : kCode env 14 false inv k (cl (cl (cr (cl (cl (cr (cr (cl (cl (cr (cl (cr (cr (cr (cr (cl (cr c14))))))))))))))))) (act 52 [(0, x0), (4, x4), (5, x5), (6, x6), (14, x14), (15, x15)]) h K =
    bnd (pBin Try.prog Go.BinOp.add 3 (Go.Operand.tmp 18) (Go.Operand.const (Go.Value.int Go.IntKind.i64 1)) x6 (Go.Value.int Go.IntKind.i64 1)) fun x19 =>
    bnd (pLen Try.prog #[25] x0 h) fun x21 =>
    bnd (pBin Try.prog Go.BinOp.lss 3 (Go.Operand.tmp 19) (Go.Operand.tmp 21) x19 x21) fun x22 =>
    bnd (gd3 (some x22) true h (some (x0, h))) fun x24 =>
    bnd (gd3 (some x22) true x24.2.1 (some (x6, x24.2.1))) fun x25 =>
    bnd (gd3 (some x22) true x25.2.1 (lt (pBin Try.prog Go.BinOp.add 3 (Go.Operand.tmp 25) (Go.Operand.const (Go.Value.int Go.IntKind.i64 1)) x25.1 (Go.Value.int Go.IntKind.i64 1)) x25.2.1)) fun x26 =>
    bnd (gd3 (some x22) true x26.2.1 (lt (pIndexAddr Try.prog 25 x24.1 x26.1) x26.2.1)) fun x27 =>
    bnd (gd3 (some x22) true x27.2.1 (lt (pLoad Try.prog 2 x27.1 x27.2.1) x27.2.1)) fun x28 =>
    bnd (gd3 (some x22) true x28.2.1 (some (x0, x28.2.1))) fun x29 =>
    bnd (gd3 (some x22) true x29.2.1 (some (x5, x29.2.1))) fun x30 =>
    bnd (gd3 (some x22) true x30.2.1 (lt (pIndexAddr Try.prog 25 x29.1 x30.1) x30.2.1)) fun x31 =>
    bnd (gd3 (some x22) true x31.2.1 (lt (pLoad Try.prog 2 x31.1 x31.2.1) x31.2.1)) fun x32 =>
    bnd (gd3 (some x22) true x32.2.1 (lt (pBin Try.prog Go.BinOp.eql 2 (Go.Operand.tmp 28) (Go.Operand.tmp 32) x28.1 x32.1) x32.2.1)) fun x33 =>
    bnd (pickV x22 x33.1 (Go.Value.bool false)) fun x34 =>
    K .normal (act 52 [(0, x0), (4, x4), (5, x5), (6, x6), (14, x14), (15, x15), (34, x34)]) x33.2.1 := (k_draw (by kernel_rfl)).trans (by kernel_rfl)
theorem b14_rlrllrrllrlrrrrlr {β : Type} {inv : Inv} {k : Nat} {x0 x4 x5 x6 x14 x15 x34 : Value} {h : AH} {K : XE → Act → AH → Option β} : kCode env 14 false inv k (cr (cl (cr (cl (cl (cr (cr (cl (cl (cr (cl (cr (cr (cr (cr (cl (cr c14))))))))))))))))) (act 52 [(0, x0), (4, x4), (5, x5), (6, x6), (14, x14), (15, x15), (34, x34)]) h K = brV x34 (kCode env 14 false inv k (cl (cr (cl (cr (cl (cl (cr (cr (cl (cl (cr (cl (cr (cr (cr (cr (cl (cr c14)))))))))))))))))) (act 52 [(0, x0), (4, x4), (5, x5), (6, x6), (14, x14), (15, x15), (34, x34)]) h K) (kCode env 14 false inv k (cr (cr (cl (cr (cl (cl (cr (cr (cl (cl (cr (cl (cr (cr (cr (cr (cl (cr c14)))))))))))))))))) (act 52 [(0, x0), (4, x4), (5, x5), (6, x6), (14, x14), (15, x15), (34, x34)]) h K) := (k_cond (by kernel_rfl)).trans (by kernel_rfl)
theorem r14_9 {β : Type} {inv : Inv} {k : Nat} {x0 x4 x5 x6 x14 x15 x34 : Value} {h : AH} {K : XE → Act → AH → Option β} : kCode env 14 false inv k (cl (cr (cr (cl (cl (cr (cr (cl (cl (cr (cl (cr (cr (cr (cr (cl (cr c14))))))))))))))))) (act 52 [(0, x0), (4, x4), (5, x5), (6, x6), (14, x14), (15, x15), (34, x34)]) h K =
    bnd (pBin Try.prog Go.BinOp.add 3 (Go.Operand.tmp 36) (Go.Operand.const (Go.Value.int Go.IntKind.i64 1)) x6 (Go.Value.int Go.IntKind.i64 1)) fun x37 =>
    bnd (pBin Try.prog Go.BinOp.sub 3 (Go.Operand.tmp 37) (Go.Operand.tmp 38) x37 x5) fun x39 =>
    bnd (pConv Try.prog 3 51 x39 h) fun x40 =>
    bnd (inv (.func 33) #[] #[x4, x40] h) fun x41 =>
    bnd (pIndexAddr Try.prog 25 x0 x6) fun x44 =>
    bnd (pLoad Try.prog 2 x44 x41.2) fun x45 =>
    bnd (pConv Try.prog 2 51 x45 x41.2) fun x46 =>
    bnd (inv (.func 31) #[] #[x41.1, x46, (Go.Value.int Go.IntKind.i64 8)] x41.2) fun x47 =>
    chkK ((!true || !true || (sameO (pLoad Try.prog 2 x44 h) x45 && sameO (pLoad Try.prog 2 x44 x41.2) x45)) && ((!true || !true || (sameO (pConv Try.prog 2 51 x45 h) x46 && sameO (pConv Try.prog 2 51 x45 x41.2) x46)) && true)) <|
    K .normal (act 52 [(0, x0), (4, x47.1), (6, x6), (14, x14), (15, x15)]) x47.2 := (k_draw (by kernel_rfl)).trans (by kernel_rfl)
theorem r14_10 {β : Type} {inv : Inv} {k : Nat} {x0 x4 x6 x14 x15 : Value} {h : AH} {K : XE → Act → AH → Option β} : kCode env 14 false inv k (cr (cr (cr (cl (cl (cr (cr (cl (cl (cr (cl (cr (cr (cr (cr (cl (cr c14))))))))))))))))) (act 52 [(0, x0), (4, x4), (6, x6), (14, x14), (15, x15)]) h K =
    bnd (pBin Try.prog Go.BinOp.add 3 (Go.Operand.tmp 48) (Go.Operand.const (Go.Value.int Go.IntKind.i64 1)) x6 (Go.Value.int Go.IntKind.i64 1)) fun x49 =>
    K .normal (act 52 [(0, x0), (4, x4), (5, x49), (14, x14), (15, x15)]) h := (k_reg (by kernel_rfl)).trans (by kernel_rfl)
noncomputable def F14_lrrllrlrrrrlr {β : Type} (inv : Inv) (k : Nat) (x0 x4 x5 x14 x15 x16 : Value) (h : AH) (kn : (Value → Value → Value → Value → Value → Value → Value → AH → Option β)) : Option β :=
    bnd (pBin Try.prog Go.BinOp.add 3 (Go.Operand.tmp 18) (Go.Operand.const (Go.Value.int Go.IntKind.i64 1)) x15 (Go.Value.int Go.IntKind.i64 1)) fun x19 =>
    bnd (pLen Try.prog #[25] x0 h) fun x21 =>
    bnd (pBin Try.prog Go.BinOp.lss 3 (Go.Operand.tmp 19) (Go.Operand.tmp 21) x19 x21) fun x22 =>
    bnd (gd3 (some x22) true h (some (x0, h))) fun x24 =>
    bnd (gd3 (some x22) true x24.2.1 (some (x15, x24.2.1))) fun x25 =>
    bnd (gd3 (some x22) true x25.2.1 (lt (pBin Try.prog Go.BinOp.add 3 (Go.Operand.tmp 25) (Go.Operand.const (Go.Value.int Go.IntKind.i64 1)) x25.1 (Go.Value.int Go.IntKind.i64 1)) x25.2.1)) fun x26 =>
    bnd (gd3 (some x22) true x26.2.1 (lt (pIndexAddr Try.prog 25 x24.1 x26.1) x26.2.1)) fun x27 =>
    bnd (gd3 (some x22) true x27.2.1 (lt (pLoad Try.prog 2 x27.1 x27.2.1) x27.2.1)) fun x28 =>
    bnd (gd3 (some x22) true x28.2.1 (some (x0, x28.2.1))) fun x29 =>
    bnd (gd3 (some x22) true x29.2.1 (some (x5, x29.2.1))) fun x30 =>
    bnd (gd3 (some x22) true x30.2.1 (lt (pIndexAddr Try.prog 25 x29.1 x30.1) x30.2.1)) fun x31 =>
    bnd (gd3 (some x22) true x31.2.1 (lt (pLoad Try.prog 2 x31.1 x31.2.1) x31.2.1)) fun x32 =>
    bnd (gd3 (some x22) true x32.2.1 (lt (pBin Try.prog Go.BinOp.eql 2 (Go.Operand.tmp 28) (Go.Operand.tmp 32) x28.1 x32.1) x32.2.1)) fun x33 =>
    bnd (pickV x22 x33.1 (Go.Value.bool false)) fun x34 =>
    brV x34
    (kn x0 x4 x5 x15 x14 x15 x34 x33.2.1)
    (bnd (pBin Try.prog Go.BinOp.add 3 (Go.Operand.tmp 36) (Go.Operand.const (Go.Value.int Go.IntKind.i64 1)) x15 (Go.Value.int Go.IntKind.i64 1)) fun x37 =>
    bnd (pBin Try.prog Go.BinOp.sub 3 (Go.Operand.tmp 37) (Go.Operand.tmp 38) x37 x5) fun x39 =>
    bnd (pConv Try.prog 3 51 x39 x33.2.1) fun x40 =>
    bnd (inv (.func 33) #[] #[x4, x40] x33.2.1) fun x41 =>
    bnd (pIndexAddr Try.prog 25 x0 x15) fun x44 =>
    bnd (pLoad Try.prog 2 x44 x41.2) fun x45 =>
    bnd (pConv Try.prog 2 51 x45 x41.2) fun x46 =>
    bnd (inv (.func 31) #[] #[x41.1, x46, (Go.Value.int Go.IntKind.i64 8)] x41.2) fun x47 =>
    chkK ((!true || !true || (sameO (pLoad Try.prog 2 x44 x33.2.1) x45 && sameO (pLoad Try.prog 2 x44 x41.2) x45)) && ((!true || !true || (sameO (pConv Try.prog 2 51 x45 x33.2.1) x46 && sameO (pConv Try.prog 2 51 x45 x41.2) x46)) && true)) <|
    bnd (pBin Try.prog Go.BinOp.add 3 (Go.Operand.tmp 48) (Go.Operand.const (Go.Value.int Go.IntKind.i64 1)) x15 (Go.Value.int Go.IntKind.i64 1)) fun x49 =>
    kn x0 x47.1 x49 unk x14 x15 unk x47.2)
theorem F14_lrrllrlrrrrlr_eq {β : Type} {inv : Inv} {k : Nat} {x0 x4 x5 x14 x15 x16 : Value} {h : AH} {K : XE → Act → AH → Option β} : kCode env 14 false inv k (cl (cr (cr (cl (cl (cr (cl (cr (cr (cr (cr (cl (cr c14))))))))))))) (act 52 [(0, x0), (4, x4), (5, x5), (14, x14), (15, x15), (16, x16)]) h K = F14_lrrllrlrrrrlr inv k x0 x4 x5 x14 x15 x16 h (fun y0 y4 y5 y6 y14 y15 y34 h => K .normal (act 52 [(0, y0), (4, y4), (5, y5), (6, y6), (14, y14), (15, y15), (34, y34)]) h) := by
      unfold F14_lrrllrlrrrrlr
      simp only [k_block (E := env) (f := 14) (c := (cl (cr (cr (cl (cl (cr (cl (cr (cr (cr (cr (cl (cr c14)))))))))))))) (id := 1) (by kernel_rfl), k_seq (E := env) (f := 14) (c := (cl (cl (cr (cr (cl (cl (cr (cl (cr (cr (cr (cr (cl (cr c14))))))))))))))) (by kernel_rfl), r14_7, k_seq (E := env) (f := 14) (c := (cr (cl (cl (cr (cr (cl (cl (cr (cl (cr (cr (cr (cr (cl (cr c14)))))))))))))))) (by kernel_rfl), k_seq (E := env) (f := 14) (c := (cl (cr (cl (cl (cr (cr (cl (cl (cr (cl (cr (cr (cr (cr (cl (cr c14))))))))))))))))) (by kernel_rfl), r14_8, b14_rlrllrrllrlrrrrlr, k_exit (E := env) (f := 14) (c := (cl (cr (cl (cr (cl (cl (cr (cr (cl (cl (cr (cl (cr (cr (cr (cr (cl (cr c14))))))))))))))))))) (id := 1) (by kernel_rfl), k_skip (E := env) (f := 14) (c := (cr (cr (cl (cr (cl (cl (cr (cr (cl (cl (cr (cl (cr (cr (cr (cr (cl (cr c14))))))))))))))))))) (by kernel_rfl), k_seq (E := env) (f := 14) (c := (cr (cr (cl (cl (cr (cr (cl (cl (cr (cl (cr (cr (cr (cr (cl (cr c14))))))))))))))))) (by kernel_rfl), r14_9, r14_10, reduceIte, reduceCtorEq, XE.exit.injEq, Nat.reduceEqDiff] <;> kernel_rfl
theorem r14_11 {β : Type} {inv : Inv} {k : Nat} {x0 x4 x5 x6 x14 x15 x34 : Value} {h : AH} {K : XE → Act → AH → Option β} : kCode env 14 false inv k (cr (cr (cr (cl (cl (cr (cl (cr (cr (cr (cr (cl (cr c14))))))))))))) (act 52 [(0, x0), (4, x4), (5, x5), (6, x6), (14, x14), (15, x15), (34, x34)]) h K =
    bnd (pBin Try.prog Go.BinOp.add 3 (Go.Operand.tmp 15) (Go.Operand.const (Go.Value.int Go.IntKind.i64 1)) x15 (Go.Value.int Go.IntKind.i64 1)) fun x50 =>
    K .normal (act 52 [(0, x0), (4, x4), (5, x5), (14, x14), (15, x50)]) h := (k_reg (by kernel_rfl)).trans (by kernel_rfl)
noncomputable def F14_lrlrrrrlr {β : Type} (inv : Inv) (k : Nat) : Nat → Value → Value → Value → Value → Value → AH → (Value → Value → Value → Value → Value → Value → AH → Option β) → Option β
  | 0, _, _, _, _, _, _, _ => none
  | j + 1, x0, x4, x5, x14, x15, h, ke0 =>
    bnd (pBin Try.prog Go.BinOp.lss 3 (Go.Operand.tmp 15) (Go.Operand.tmp 14) x15 x14) fun x16 =>
    brV x16
    (F14_lrrllrlrrrrlr inv k x0 x4 x5 x14 x15 x16 h
    (fun y0 y4 y5 y6 y14 y15 y34 h =>
    bnd (pBin Try.prog Go.BinOp.add 3 (Go.Operand.tmp 15) (Go.Operand.const (Go.Value.int Go.IntKind.i64 1)) y15 (Go.Value.int Go.IntKind.i64 1)) fun x50 =>
    F14_lrlrrrrlr inv k j y0 y4 y5 y14 x50 h ke0))
    (ke0 x0 x4 x5 x14 x15 x16 h)
theorem F14_lrlrrrrlr_j {β : Type} {inv : Inv} {k : Nat} (j : Nat) {x0 x4 x5 x14 x15 : Value} {h : AH} {K : XE → Act → AH → Option β} : kLoop (kCode env 14 false inv k (cl (cl (cr (cl (cr (cr (cr (cr (cl (cr c14))))))))))) j (act 52 [(0, x0), (4, x4), (5, x5), (14, x14), (15, x15)]) h K = F14_lrlrrrrlr inv k j x0 x4 x5 x14 x15 h (fun y0 y4 y5 y14 y15 y16 h => K (.exit 0) (act 52 [(0, y0), (4, y4), (5, y5), (14, y14), (15, y15), (16, y16)]) h) := by
      induction j generalizing x0 x4 x5 x14 x15 h with
      | zero => rfl
      | succ j ih =>
        unfold F14_lrlrrrrlr
        simp only [kLoop, k_seq (E := env) (f := 14) (c := (cl (cl (cr (cl (cr (cr (cr (cr (cl (cr c14))))))))))) (by kernel_rfl), r14_6, k_seq (E := env) (f := 14) (c := (cr (cl (cl (cr (cl (cr (cr (cr (cr (cl (cr c14)))))))))))) (by kernel_rfl), b14_lrllrlrrrrlr, k_skip (E := env) (f := 14) (c := (cl (cl (cr (cl (cl (cr (cl (cr (cr (cr (cr (cl (cr c14)))))))))))))) (by kernel_rfl), k_seq (E := env) (f := 14) (c := (cr (cr (cl (cl (cr (cl (cr (cr (cr (cr (cl (cr c14))))))))))))) (by kernel_rfl), F14_lrrllrlrrrrlr_eq, r14_11, k_exit (E := env) (f := 14) (c := (cr (cl (cr (cl (cl (cr (cl (cr (cr (cr (cr (cl (cr c14)))))))))))))) (id := 0) (by kernel_rfl), ih, reduceIte, reduceCtorEq, XE.exit.injEq, Nat.reduceEqDiff] <;> kernel_rfl
theorem F14_lrlrrrrlr_eq {β : Type} {inv : Inv} {k : Nat} {x0 x4 x5 x14 x15 : Value} {h : AH} {K : XE → Act → AH → Option β} : kCode env 14 false inv k (cl (cr (cl (cr (cr (cr (cr (cl (cr c14))))))))) (act 52 [(0, x0), (4, x4), (5, x5), (14, x14), (15, x15)]) h K = F14_lrlrrrrlr inv k k x0 x4 x5 x14 x15 h (fun y0 y4 y5 y14 y15 y16 h => K (.exit 0) (act 52 [(0, y0), (4, y4), (5, y5), (14, y14), (15, y15), (16, y16)]) h) := (k_loop (by kernel_rfl)).trans (F14_lrlrrrrlr_j k)
theorem r14_12 {β : Type} {inv : Inv} {k : Nat} {x0 x4 x5 x14 x15 x16 : Value} {h : AH} {K : XE → Act → AH → Option β} : kCode env 14 false inv k (cl (cr (cr (cr (cr (cr (cl (cr c14)))))))) (act 52 [(0, x0), (4, x4), (5, x5), (14, x14), (15, x15), (16, x16)]) h K =
    K .normal (act 52 [(2, x4), (3, (Go.Value.int Go.IntKind.i64 0))]) h := (k_reg (by kernel_rfl)).trans (by kernel_rfl)
/-- shadowbook/ints.Runs -/
noncomputable def F14 (inv : Inv) (k : Nat) (x0 : Value) (h : AH) : Option (Value × AH) :=
    bnd (pLen Try.prog #[25] x0 h) fun x8 =>
    bnd (pBin Try.prog Go.BinOp.gtr 3 (Go.Operand.tmp 8) (Go.Operand.const (Go.Value.int Go.IntKind.i64 4096)) x8 (Go.Value.int Go.IntKind.i64 4096)) fun x9 =>
    brV x9
    (some (.tuple #[(Go.Value.slice none 0 0), (Go.Value.int Go.IntKind.i64 3)], h))
    (bnd (pLen Try.prog #[25] x0 h) fun x11 =>
    bnd (inv (.func 32) #[] #[(Go.Value.int Go.IntKind.u8 2), x11] h) fun x12 =>
    bnd (pLen Try.prog #[25] x0 x12.2) fun x14 =>
    F14_lrlrrrrlr inv k k x0 x12.1 (Go.Value.int Go.IntKind.i64 0) x14 (Go.Value.int Go.IntKind.i64 0) x12.2
    (fun y0 y4 y5 y14 y15 y16 h =>
    some (.tuple #[y4, (Go.Value.int Go.IntKind.i64 0)], h)))
theorem F14_eq {inv : Inv} {k : Nat} {x0 : Value} {h : AH} : eFun env k inv 14 #[x0] h = F14 inv k x0 h := by
      refine (eFun_k2 (by kernel_rfl) (by kernel_rfl) (by kernel_rfl) (a := act 52 [(0, x0)]) (c := c14) (by kernel_rfl) (by kernel_rfl)).trans ?_
      unfold F14
      simp only [k_seq (E := env) (f := 14) (c := c14) (by kernel_rfl), r14_0, k_scope (E := env) (f := 14) (c := (cr c14)) (by kernel_rfl), k_seq (E := env) (f := 14) (c := (cl (cr c14))) (by kernel_rfl), k_seq (E := env) (f := 14) (c := (cl (cl (cr c14)))) (by kernel_rfl), r14_1, b14_rllr, k_seq (E := env) (f := 14) (c := (cl (cr (cl (cl (cr c14)))))) (by kernel_rfl), r14_2, k_ret (E := env) (f := 14) (c := (cr (cl (cr (cl (cl (cr c14))))))) (by kernel_rfl), res14_0, k_skip (E := env) (f := 14) (c := (cr (cr (cl (cl (cr c14)))))) (by kernel_rfl), k_seq (E := env) (f := 14) (c := (cr (cl (cr c14)))) (by kernel_rfl), r14_3, k_seq (E := env) (f := 14) (c := (cr (cr (cl (cr c14))))) (by kernel_rfl), r14_4, k_seq (E := env) (f := 14) (c := (cr (cr (cr (cl (cr c14)))))) (by kernel_rfl), k_label (E := env) (f := 14) (c := (cl (cr (cr (cr (cl (cr c14))))))) (by kernel_rfl), k_seq (E := env) (f := 14) (c := (cr (cr (cr (cr (cl (cr c14))))))) (by kernel_rfl), k_seq (E := env) (f := 14) (c := (cl (cr (cr (cr (cr (cl (cr c14)))))))) (by kernel_rfl), r14_5, k_block (E := env) (f := 14) (c := (cr (cl (cr (cr (cr (cr (cl (cr c14))))))))) (id := 0) (by kernel_rfl), F14_lrlrrrrlr_eq, k_seq (E := env) (f := 14) (c := (cr (cr (cr (cr (cr (cl (cr c14)))))))) (by kernel_rfl), r14_12, k_ret (E := env) (f := 14) (c := (cr (cr (cr (cr (cr (cr (cl (cr c14))))))))) (by kernel_rfl), reduceIte, reduceCtorEq, XE.exit.injEq, Nat.reduceEqDiff] <;> kernel_rfl
noncomputable def c15 : Code := codeOf Try.prog 15
theorem r15_0 {β : Type} {inv : Inv} {k : Nat} {x0 : Value} {h : AH} {K : XE → Act → AH → Option β} : kCode env 15 false inv k (cl c15) (act 69 [(0, x0)]) h K =
    K .normal (act 69 [(0, x0)]) h := (k_reg (by kernel_rfl)).trans (by kernel_rfl)
theorem r15_1 {β : Type} {inv : Inv} {k : Nat} {x0 : Value} {h : AH} {K : XE → Act → AH → Option β} : kCode env 15 false inv k (cl (cr c15)) (act 69 [(0, x0)]) h K =
    bnd (inv (.func 34) #[] #[x0] h) fun x14 =>
    K .normal (act 69 [(0, x0), (4, x14.1)]) x14.2 := (k_reg (by kernel_rfl)).trans (by kernel_rfl)
theorem r15_2 {β : Type} {inv : Inv} {k : Nat} {x0 x4 : Value} {h : AH} {K : XE → Act → AH → Option β} : kCode env 15 false inv k (cl (cr (cr c15))) (act 69 [(0, x0), (4, x4)]) h K =
    bnd (inv (.func 35) #[] #[x4, (Go.Value.int Go.IntKind.i64 1)] h) fun x17 =>
    bnd (pExtract x17.1 0) fun x18 =>
    bnd (pExtract x17.1 1) fun x19 =>
    bnd (pAlloc Try.prog 51 x17.2) fun x5 =>
    bnd (kSt (pStore Try.prog 51 x5.1 x18 x5.2)) fun u =>
    K .normal (act 69 [(0, x0), (4, x4), (5, x5.1), (6, x19)]) u.2 := (k_reg (by kernel_rfl)).trans (by kernel_rfl)
theorem r15_3 {β : Type} {inv : Inv} {k : Nat} {x0 x4 x5 x6 : Value} {h : AH} {K : XE → Act → AH → Option β} : kCode env 15 false inv k (cl (cl (cr (cr (cr c15))))) (act 69 [(0, x0), (4, x4), (5, x5), (6, x6)]) h K =
    bnd (pBin Try.prog Go.BinOp.neq 27 (Go.Operand.tmp 20) (Go.Operand.const (Go.Value.int Go.IntKind.i64 0)) x6 (Go.Value.int Go.IntKind.i64 0)) fun x21 =>
    K .normal (act 69 [(0, x0), (4, x4), (5, x5), (21, x21)]) h := (k_reg (by kernel_rfl)).trans (by kernel_rfl)
theorem b15_rlrrr {β : Type} {inv : Inv} {k : Nat} {x0 x4 x5 x21 : Value} {h : AH} {K : XE → Act → AH → Option β} : kCode env 15 false inv k (cr (cl (cr (cr (cr c15))))) (act 69 [(0, x0), (4, x4), (5, x5), (21, x21)]) h K = brV x21 (kCode env 15 false inv k (cl (cr (cl (cr (cr (cr c15)))))) (act 69 [(0, x0), (4, x4), (5, x5), (21, x21)]) h K) (kCode env 15 false inv k (cr (cr (cl (cr (cr (cr c15)))))) (act 69 [(0, x0), (4, x4), (5, x5), (21, x21)]) h K) := (k_cond (by kernel_rfl)).trans (by kernel_rfl)
theorem r15_4 {β : Type} {inv : Inv} {k : Nat} {x0 x4 x5 x21 : Value} {h : AH} {K : XE → Act → AH → Option β} : kCode env 15 false inv k (cl (cl (cr (cl (cr (cr (cr c15))))))) (act 69 [(0, x0), (4, x4), (5, x5), (21, x21)]) h K =
    K .normal (act 69 [(2, (Go.Value.slice none 0 0)), (3, (Go.Value.int Go.IntKind.i64 4))]) h := (k_reg (by kernel_rfl)).trans (by kernel_rfl)
theorem res15_0 {x2 x3 : Value} {h : AH} : resOfFn env.P 15 .ret (act 69 [(2, x2), (3, x3)]) h = some (.tuple #[x2, x3], h) := (resOfFn_k (by kernel_rfl) (by kernel_rfl)).trans (by kernel_rfl)
theorem r15_5 {β : Type} {inv : Inv} {k : Nat} {x0 x4 x5 x21 : Value} {h : AH} {K : XE → Act → AH → Option β} : kCode env 15 false inv k (cl (cr (cr (cr (cr c15))))) (act 69 [(0, x0), (4, x4), (5, x5), (21, x21)]) h K =
    bnd (inv (.func 36) #[] #[x4] h) fun x24 =>
    bnd (pExtract x24.1 0) fun x25 =>
    bnd (pExtract x24.1 1) fun x26 =>
    K .normal (act 69 [(0, x0), (4, x4), (5, x5), (6, x26), (7, x25)]) x24.2 := (k_reg (by kernel_rfl)).trans (by kernel_rfl)
theorem r15_6 {β : Type} {inv : Inv} {k : Nat} {x0 x4 x5 x6 x7 : Value} {h : AH} {K : XE → Act → AH → Option β} : kCode env 15 false inv k (cl (cl (cr (cr (cr (cr (cr c15))))))) (act 69 [(0, x0), (4, x4), (5, x5), (6, x6), (7, x7)]) h K =
    bnd (pBin Try.prog Go.BinOp.neq 27 (Go.Operand.tmp 27) (Go.Operand.const (Go.Value.int Go.IntKind.i64 0)) x6 (Go.Value.int Go.IntKind.i64 0)) fun x28 =>
    bnd (gd (some x28) false h (some (x7, h))) fun x30 =>
    bnd (gd (some x28) false x30.2 (lt (pBin Try.prog Go.BinOp.gtr 51 (Go.Operand.tmp 30) (Go.Operand.const (Go.Value.int Go.IntKind.u64 4096)) x30.1 (Go.Value.int Go.IntKind.u64 4096)) x30.2)) fun x31 =>
    bnd (pickV x28 (Go.Value.bool true) x31.1) fun x32 =>
    K .normal (act 69 [(0, x0), (4, x4), (5, x5), (7, x7), (32, x32)]) x31.2 := (k_reg (by kernel_rfl)).trans (by kernel_rfl)
theorem b15_rlrrrrr {β : Type} {inv : Inv} {k : Nat} {x0 x4 x5 x7 x32 : Value} {h : AH} {K : XE → Act → AH → Option β} : kCode env 15 false inv k (cr (cl (cr (cr (cr (cr (cr c15))))))) (act 69 [(0, x0), (4, x4), (5, x5), (7, x7), (32, x32)]) h K = brV x32 (kCode env 15 false inv k (cl (cr (cl (cr (cr (cr (cr (cr c15)))))))) (act 69 [(0, x0), (4, x4), (5, x5), (7, x7), (32, x32)]) h K) (kCode env 15 false inv k (cr (cr (cl (cr (cr (cr (cr (cr c15)))))))) (act 69 [(0, x0), (4, x4), (5, x5), (7, x7), (32, x32)]) h K) := (k_cond (by kernel_rfl)).trans (by kernel_rfl)
theorem r15_7 {β : Type} {inv : Inv} {k : Nat} {x0 x4 x5 x7 x32 : Value} {h : AH} {K : XE → Act → AH → Option β} : kCode env 15 false inv k (cl (cl (cr (cl (cr (cr (cr (cr (cr c15))))))))) (act 69 [(0, x0), (4, x4), (5, x5), (7, x7), (32, x32)]) h K =
    K .normal (act 69 [(2, (Go.Value.slice none 0 0)), (3, (Go.Value.int Go.IntKind.i64 4))]) h := (k_reg (by kernel_rfl)).trans (by kernel_rfl)
theorem r15_8 {β : Type} {inv : Inv} {k : Nat} {x0 x4 x5 x7 x32 : Value} {h : AH} {K : XE → Act → AH → Option β} : kCode env 15 false inv k (cl (cr (cr (cr (cr (cr (cr c15))))))) (act 69 [(0, x0), (4, x4), (5, x5), (7, x7), (32, x32)]) h K =
    bnd (inv (.func 24) #[] #[] h) fun x33 =>
    bnd (pMakeFunc (Go.Fn.func 38) #[] #[x5]) fun x34 =>
    bnd (inv (.func 37) #[] #[x33.1, x34] x33.2) fun x35 =>
    K .normal (act 69 [(0, x0), (4, x4), (7, x7), (8, x35.1)]) x35.2 := (k_reg (by kernel_rfl)).trans (by kernel_rfl)
theorem r15_9 {β : Type} {inv : Inv} {k : Nat} {x0 x4 x7 x8 : Value} {h : AH} {K : XE → Act → AH → Option β} : kCode env 15 false inv k (cl (cl (cr (cr (cr (cr (cr (cr (cr c15))))))))) (act 69 [(0, x0), (4, x4), (7, x7), (8, x8)]) h K =
    bnd (pBin Try.prog Go.BinOp.lss 3 (Go.Operand.tmp 36) (Go.Operand.const (Go.Value.int Go.IntKind.i64 0)) x8 (Go.Value.int Go.IntKind.i64 0)) fun x37 =>
    K .normal (act 69 [(0, x0), (4, x4), (7, x7), (8, x8), (37, x37)]) h := (k_reg (by kernel_rfl)).trans (by kernel_rfl)
theorem b15_rlrrrrrrr {β : Type} {inv : Inv} {k : Nat} {x0 x4 x7 x8 x37 : Value} {h : AH} {K : XE → Act → AH → Option β} : kCode env 15 false inv k (cr (cl (cr (cr (cr (cr (cr (cr (cr c15))))))))) (act 69 [(0, x0), (4, x4), (7, x7), (8, x8), (37, x37)]) h K = brV x37 (kCode env 15 false inv k (cl (cr (cl (cr (cr (cr (cr (cr (cr (cr c15)))))))))) (act 69 [(0, x0), (4, x4), (7, x7), (8, x8), (37, x37)]) h K) (kCode env 15 false inv k (cr (cr (cl (cr (cr (cr (cr (cr (cr (cr c15)))))))))) (act 69 [(0, x0), (4, x4), (7, x7), (8, x8), (37, x37)]) h K) := (k_cond (by kernel_rfl)).trans (by kernel_rfl)
theorem r15_10 {β : Type} {inv : Inv} {k : Nat} {x0 x4 x7 x8 x37 : Value} {h : AH} {K : XE → Act → AH → Option β} : kCode env 15 false inv k (cl (cl (cr (cl (cr (cr (cr (cr (cr (cr (cr c15))))))))))) (act 69 [(0, x0), (4, x4), (7, x7), (8, x8), (37, x37)]) h K =
    K .normal (act 69 [(2, (Go.Value.slice none 0 0)), (3, (Go.Value.int Go.IntKind.i64 4))]) h := (k_reg (by kernel_rfl)).trans (by kernel_rfl)
theorem r15_11 {β : Type} {inv : Inv} {k : Nat} {x0 x4 x7 x8 x37 : Value} {h : AH} {K : XE → Act → AH → Option β} : kCode env 15 false inv k (cl (cr (cr (cr (cr (cr (cr (cr (cr c15))))))))) (act 69 [(0, x0), (4, x4), (7, x7), (8, x8), (37, x37)]) h K =
    bnd (inv (.func 24) #[] #[] h) fun x38 =>
    bnd (pIndexAddr Try.prog 42 x38.1 x8) fun x40 =>
    bnd (pLoad Try.prog 46 x40 x38.2) fun x41 =>
    bnd (pAlloc Try.prog 46 x38.2) fun x9 =>
    bnd (kSt (pStore Try.prog 46 x9.1 x41 x9.2)) fun u =>
    K .normal (act 69 [(0, x0), (4, x4), (7, x7), (9, x9.1)]) u.2 := (k_reg (by kernel_rfl)).trans (by kernel_rfl)
theorem r15_12 {β : Type} {inv : Inv} {k : Nat} {x0 x4 x7 x9 : Value} {h : AH} {K : XE → Act → AH → Option β} : kCode env 15 false inv k (cl (cr (cr (cr (cr (cr (cr (cr (cr (cr c15)))))))))) (act 69 [(0, x0), (4, x4), (7, x7), (9, x9)]) h K =
    bnd (pFieldAddr Try.prog 46 x9 2) fun x43 =>
    bnd (pLoad Try.prog 44 x43 h) fun x44 =>
    bnd (pConv Try.prog 51 3 x7 h) fun x47 =>
    bnd (callV inv x44 #[x4, x47] h) fun x48 =>
    bnd (pExtract x48.1 0) fun x49 =>
    bnd (pExtract x48.1 1) fun x50 =>
    K .normal (act 69 [(0, x0), (6, x50), (9, x9), (10, x49)]) x48.2 := (k_reg (by kernel_rfl)).trans (by kernel_rfl)
theorem r15_13 {β : Type} {inv : Inv} {k : Nat} {x0 x6 x9 x10 : Value} {h : AH} {K : XE → Act → AH → Option β} : kCode env 15 false inv k (cl (cl (cr (cr (cr (cr (cr (cr (cr (cr (cr (cr c15)))))))))))) (act 69 [(0, x0), (6, x6), (9, x9), (10, x10)]) h K =
    bnd (pBin Try.prog Go.BinOp.neq 27 (Go.Operand.tmp 51) (Go.Operand.const (Go.Value.int Go.IntKind.i64 0)) x6 (Go.Value.int Go.IntKind.i64 0)) fun x52 =>
    K .normal (act 69 [(0, x0), (9, x9), (10, x10), (52, x52)]) h := (k_reg (by kernel_rfl)).trans (by kernel_rfl)
theorem b15_rlrrrrrrrrrr {β : Type} {inv : Inv} {k : Nat} {x0 x9 x10 x52 : Value} {h : AH} {K : XE → Act → AH → Option β} : kCode env 15 false inv k (cr (cl (cr (cr (cr (cr (cr (cr (cr (cr (cr (cr c15)))))))))))) (act 69 [(0, x0), (9, x9), (10, x10), (52, x52)]) h K = brV x52 (kCode env 15 false inv k (cl (cr (cl (cr (cr (cr (cr (cr (cr (cr (cr (cr (cr c15))))))))))))) (act 69 [(0, x0), (9, x9), (10, x10), (52, x52)]) h K) (kCode env 15 false inv k (cr (cr (cl (cr (cr (cr (cr (cr (cr (cr (cr (cr (cr c15))))))))))))) (act 69 [(0, x0), (9, x9), (10, x10), (52, x52)]) h K) := (k_cond (by kernel_rfl)).trans (by kernel_rfl)
theorem r15_14 {β : Type} {inv : Inv} {k : Nat} {x0 x9 x10 x52 : Value} {h : AH} {K : XE → Act → AH → Option β} : kCode env 15 false inv k (cl (cl (cr (cl (cr (cr (cr (cr (cr (cr (cr (cr (cr (cr c15)))))))))))))) (act 69 [(0, x0), (9, x9), (10, x10), (52, x52)]) h K =
    K .normal (act 69 [(2, (Go.Value.slice none 0 0)), (3, (Go.Value.int Go.IntKind.i64 4))]) h := (k_reg (by kernel_rfl)).trans (by kernel_rfl)
theorem r15_15 {β : Type} {inv : Inv} {k : Nat} {x0 x9 x10 x52 : Value} {h : AH} {K : XE → Act → AH → Option β} : kCode env 15 false inv k (cl (cl (cr (cr (cr (cr (cr (cr (cr (cr (cr (cr (cr c15))))))))))))) (act 69 [(0, x0), (9, x9), (10, x10), (52, x52)]) h K =
    bnd (pFieldAddr Try.prog 46 x9 1) fun x54 =>
    bnd (pLoad Try.prog 29 x54 h) fun x55 =>
    bnd (callV inv x55 #[x10] h) fun x57 =>
    bnd (pExtract x57.1 0) fun x58 =>
    bnd (pExtract x57.1 1) fun x59 =>
    K .normal (act 69 [(0, x0), (10, x10), (11, x58), (12, x59)]) x57.2 := (k_reg (by kernel_rfl)).trans (by kernel_rfl)
theorem r15_16 {β : Type} {inv : Inv} {k : Nat} {x0 x10 x11 x12 : Value} {h : AH} {K : XE → Act → AH → Option β} : kCode env 15 false inv k (cl (cr (cl (cr (cr (cr (cr (cr (cr (cr (cr (cr (cr (cr c15)))))))))))))) (act 69 [(0, x0), (10, x10), (11, x11), (12, x12)]) h K =
    bnd (pBin Try.prog Go.BinOp.neq 27 (Go.Operand.tmp 60) (Go.Operand.const (Go.Value.int Go.IntKind.i64 0)) x12 (Go.Value.int Go.IntKind.i64 0)) fun x61 =>
    bnd (gd (some x61) false h (some (x11, h))) fun x63 =>
    bnd (gd (some x61) false x63.2 (some (x0, x63.2))) fun x64 =>
    bnd (gd (some x61) false x64.2 (inv (.func 39) #[] #[x63.1, x64.1] x64.2)) fun x65 =>
    bnd (gd (some x61) false x65.2 (lt (pUn Try.prog Go.UnOp.not x65.1) x65.2)) fun x66 =>
    bnd (pickV x61 (Go.Value.bool true) x66.1) fun x67 =>
    K .normal (act 69 [(10, x10), (67, x67)]) x66.2 := (k_reg (by kernel_rfl)).trans (by kernel_rfl)
theorem b15_rrlrrrrrrrrrrr {β : Type} {inv : Inv} {k : Nat} {x10 x67 : Value} {h : AH} {K : XE → Act → AH → Option β} : kCode env 15 false inv k (cr (cr (cl (cr (cr (cr (cr (cr (cr (cr (cr (cr (cr (cr c15)))))))))))))) (act 69 [(10, x10), (67, x67)]) h K = brV x67 (kCode env 15 false inv k (cl (cr (cr (cl (cr (cr (cr (cr (cr (cr (cr (cr (cr (cr (cr c15))))))))))))))) (act 69 [(10, x10), (67, x67)]) h K) (kCode env 15 false inv k (cr (cr (cr (cl (cr (cr (cr (cr (cr (cr (cr (cr (cr (cr (cr c15))))))))))))))) (act 69 [(10, x10), (67, x67)]) h K) := (k_cond (by kernel_rfl)).trans (by kernel_rfl)
theorem r15_17 {β : Type} {inv : Inv} {k : Nat} {x10 x67 : Value} {h : AH} {K : XE → Act → AH → Option β} : kCode env 15 false inv k (cl (cl (cr (cr (cl (cr (cr (cr (cr (cr (cr (cr (cr (cr (cr (cr c15)))))))))))))))) (act 69 [(10, x10), (67, x67)]) h K =
    K .normal (act 69 [(2, (Go.Value.slice none 0 0)), (3, (Go.Value.int Go.IntKind.i64 4))]) h := (k_reg (by kernel_rfl)).trans (by kernel_rfl)
theorem r15_18 {β : Type} {inv : Inv} {k : Nat} {x10 x67 : Value} {h : AH} {K : XE → Act → AH → Option β} : kCode env 15 false inv k (cl (cr (cr (cr (cr (cr (cr (cr (cr (cr (cr (cr (cr c15))))))))))))) (act 69 [(10, x10), (67, x67)]) h K =
    K .normal (act 69 [(2, x10), (3, (Go.Value.int Go.IntKind.i64 0))]) h := (k_reg (by kernel_rfl)).trans (by kernel_rfl)
/-- shadowbook/ints.Get -/
noncomputable def F15 (inv : Inv) (k : Nat) (x0 : Value) (h : AH) : Option (Value × AH) :=
    bnd (inv (.func 34) #[] #[x0] h) fun x14 =>
    bnd (inv (.func 35) #[] #[x14.1, (Go.Value.int Go.IntKind.i64 1)] x14.2) fun x17 =>
    bnd (pExtract x17.1 0) fun x18 =>
    bnd (pExtract x17.1 1) fun x19 =>
    bnd (pAlloc Try.prog 51 x17.2) fun x5 =>
    bnd (kSt (pStore Try.prog 51 x5.1 x18 x5.2)) fun u =>
    bnd (pBin Try.prog Go.BinOp.neq 27 (Go.Operand.tmp 20) (Go.Operand.const (Go.Value.int Go.IntKind.i64 0)) x19 (Go.Value.int Go.IntKind.i64 0)) fun x21 =>
    brV x21
    (some (.tuple #[(Go.Value.slice none 0 0), (Go.Value.int Go.IntKind.i64 4)], u.2))
    (bnd (inv (.func 36) #[] #[x14.1] u.2) fun x24 =>
    bnd (pExtract x24.1 0) fun x25 =>
    bnd (pExtract x24.1 1) fun x26 =>
    bnd (pBin Try.prog Go.BinOp.neq 27 (Go.Operand.tmp 27) (Go.Operand.const (Go.Value.int Go.IntKind.i64 0)) x26 (Go.Value.int Go.IntKind.i64 0)) fun x28 =>
    bnd (gd (some x28) false x24.2 (some (x25, x24.2))) fun x30 =>
    bnd (gd (some x28) false x30.2 (lt (pBin Try.prog Go.BinOp.gtr 51 (Go.Operand.tmp 30) (Go.Operand.const (Go.Value.int Go.IntKind.u64 4096)) x30.1 (Go.Value.int Go.IntKind.u64 4096)) x30.2)) fun x31 =>
    bnd (pickV x28 (Go.Value.bool true) x31.1) fun x32 =>
    brV x32
    (some (.tuple #[(Go.Value.slice none 0 0), (Go.Value.int Go.IntKind.i64 4)], x31.2))
    (bnd (inv (.func 24) #[] #[] x31.2) fun x33 =>
    bnd (pMakeFunc (Go.Fn.func 38) #[] #[x5.1]) fun x34 =>
    bnd (inv (.func 37) #[] #[x33.1, x34] x33.2) fun x35 =>
    bnd (pBin Try.prog Go.BinOp.lss 3 (Go.Operand.tmp 36) (Go.Operand.const (Go.Value.int Go.IntKind.i64 0)) x35.1 (Go.Value.int Go.IntKind.i64 0)) fun x37 =>
    brV x37
    (some (.tuple #[(Go.Value.slice none 0 0), (Go.Value.int Go.IntKind.i64 4)], x35.2))
    (bnd (inv (.func 24) #[] #[] x35.2) fun x38 =>
    bnd (pIndexAddr Try.prog 42 x38.1 x35.1) fun x40 =>
    bnd (pLoad Try.prog 46 x40 x38.2) fun x41 =>
    bnd (pAlloc Try.prog 46 x38.2) fun x9 =>
    bnd (kSt (pStore Try.prog 46 x9.1 x41 x9.2)) fun u_1 =>
    bnd (pFieldAddr Try.prog 46 x9.1 2) fun x43 =>
    bnd (pLoad Try.prog 44 x43 u_1.2) fun x44 =>
    bnd (pConv Try.prog 51 3 x25 u_1.2) fun x47 =>
    bnd (callV inv x44 #[x14.1, x47] u_1.2) fun x48 =>
    bnd (pExtract x48.1 0) fun x49 =>
    bnd (pExtract x48.1 1) fun x50 =>
    bnd (pBin Try.prog Go.BinOp.neq 27 (Go.Operand.tmp 51) (Go.Operand.const (Go.Value.int Go.IntKind.i64 0)) x50 (Go.Value.int Go.IntKind.i64 0)) fun x52 =>
    brV x52
    (some (.tuple #[(Go.Value.slice none 0 0), (Go.Value.int Go.IntKind.i64 4)], x48.2))
    (bnd (pFieldAddr Try.prog 46 x9.1 1) fun x54 =>
    bnd (pLoad Try.prog 29 x54 x48.2) fun x55 =>
    bnd (callV inv x55 #[x49] x48.2) fun x57 =>
    bnd (pExtract x57.1 0) fun x58 =>
    bnd (pExtract x57.1 1) fun x59 =>
    bnd (pBin Try.prog Go.BinOp.neq 27 (Go.Operand.tmp 60) (Go.Operand.const (Go.Value.int Go.IntKind.i64 0)) x59 (Go.Value.int Go.IntKind.i64 0)) fun x61 =>
    bnd (gd (some x61) false x57.2 (some (x58, x57.2))) fun x63 =>
    bnd (gd (some x61) false x63.2 (some (x0, x63.2))) fun x64 =>
    bnd (gd (some x61) false x64.2 (inv (.func 39) #[] #[x63.1, x64.1] x64.2)) fun x65 =>
    bnd (gd (some x61) false x65.2 (lt (pUn Try.prog Go.UnOp.not x65.1) x65.2)) fun x66 =>
    bnd (pickV x61 (Go.Value.bool true) x66.1) fun x67 =>
    brV x67
    (some (.tuple #[(Go.Value.slice none 0 0), (Go.Value.int Go.IntKind.i64 4)], x66.2))
    (some (.tuple #[x49, (Go.Value.int Go.IntKind.i64 0)], x66.2))))))
theorem F15_eq {inv : Inv} {k : Nat} {x0 : Value} {h : AH} : eFun env k inv 15 #[x0] h = F15 inv k x0 h := by
      refine (eFun_k2 (by kernel_rfl) (by kernel_rfl) (by kernel_rfl) (a := act 69 [(0, x0)]) (c := c15) (by kernel_rfl) (by kernel_rfl)).trans ?_
      unfold F15
      simp only [k_seq (E := env) (f := 15) (c := c15) (by kernel_rfl), r15_0, k_seq (E := env) (f := 15) (c := (cr c15)) (by kernel_rfl), r15_1, k_seq (E := env) (f := 15) (c := (cr (cr c15))) (by kernel_rfl), r15_2, k_seq (E := env) (f := 15) (c := (cr (cr (cr c15)))) (by kernel_rfl), k_seq (E := env) (f := 15) (c := (cl (cr (cr (cr c15))))) (by kernel_rfl), r15_3, b15_rlrrr, k_seq (E := env) (f := 15) (c := (cl (cr (cl (cr (cr (cr c15))))))) (by kernel_rfl), r15_4, k_ret (E := env) (f := 15) (c := (cr (cl (cr (cl (cr (cr (cr c15)))))))) (by kernel_rfl), res15_0, k_skip (E := env) (f := 15) (c := (cr (cr (cl (cr (cr (cr c15))))))) (by kernel_rfl), k_seq (E := env) (f := 15) (c := (cr (cr (cr (cr c15))))) (by kernel_rfl), r15_5, k_seq (E := env) (f := 15) (c := (cr (cr (cr (cr (cr c15)))))) (by kernel_rfl), k_seq (E := env) (f := 15) (c := (cl (cr (cr (cr (cr (cr c15))))))) (by kernel_rfl), r15_6, b15_rlrrrrr, k_seq (E := env) (f := 15) (c := (cl (cr (cl (cr (cr (cr (cr (cr c15))))))))) (by kernel_rfl), r15_7, k_ret (E := env) (f := 15) (c := (cr (cl (cr (cl (cr (cr (cr (cr (cr c15)))))))))) (by kernel_rfl), k_skip (E := env) (f := 15) (c := (cr (cr (cl (cr (cr (cr (cr (cr c15))))))))) (by kernel_rfl), k_seq (E := env) (f := 15) (c := (cr (cr (cr (cr (cr (cr c15))))))) (by kernel_rfl), r15_8, k_seq (E := env) (f := 15) (c := (cr (cr (cr (cr (cr (cr (cr c15)))))))) (by kernel_rfl), k_seq (E := env) (f := 15) (c := (cl (cr (cr (cr (cr (cr (cr (cr c15))))))))) (by kernel_rfl), r15_9, b15_rlrrrrrrr, k_seq (E := env) (f := 15) (c := (cl (cr (cl (cr (cr (cr (cr (cr (cr (cr c15))))))))))) (by kernel_rfl), r15_10, k_ret (E := env) (f := 15) (c := (cr (cl (cr (cl (cr (cr (cr (cr (cr (cr (cr c15)))))))))))) (by kernel_rfl), k_skip (E := env) (f := 15) (c := (cr (cr (cl (cr (cr (cr (cr (cr (cr (cr c15))))))))))) (by kernel_rfl), k_seq (E := env) (f := 15) (c := (cr (cr (cr (cr (cr (cr (cr (cr c15))))))))) (by kernel_rfl), r15_11, k_seq (E := env) (f := 15) (c := (cr (cr (cr (cr (cr (cr (cr (cr (cr c15)))))))))) (by kernel_rfl), r15_12, k_seq (E := env) (f := 15) (c := (cr (cr (cr (cr (cr (cr (cr (cr (cr (cr c15))))))))))) (by kernel_rfl), k_seq (E := env) (f := 15) (c := (cl (cr (cr (cr (cr (cr (cr (cr (cr (cr (cr c15)))))))))))) (by kernel_rfl), r15_13, b15_rlrrrrrrrrrr, k_seq (E := env) (f := 15) (c := (cl (cr (cl (cr (cr (cr (cr (cr (cr (cr (cr (cr (cr c15)))))))))))))) (by kernel_rfl), r15_14, k_ret (E := env) (f := 15) (c := (cr (cl (cr (cl (cr (cr (cr (cr (cr (cr (cr (cr (cr (cr c15))))))))))))))) (by kernel_rfl), k_skip (E := env) (f := 15) (c := (cr (cr (cl (cr (cr (cr (cr (cr (cr (cr (cr (cr (cr c15)))))))))))))) (by kernel_rfl), k_seq (E := env) (f := 15) (c := (cr (cr (cr (cr (cr (cr (cr (cr (cr (cr (cr c15)))))))))))) (by kernel_rfl), k_seq (E := env) (f := 15) (c := (cl (cr (cr (cr (cr (cr (cr (cr (cr (cr (cr (cr c15))))))))))))) (by kernel_rfl), r15_15, k_seq (E := env) (f := 15) (c := (cr (cl (cr (cr (cr (cr (cr (cr (cr (cr (cr (cr (cr c15)))))))))))))) (by kernel_rfl), r15_16, b15_rrlrrrrrrrrrrr, k_seq (E := env) (f := 15) (c := (cl (cr (cr (cl (cr (cr (cr (cr (cr (cr (cr (cr (cr (cr (cr c15)))))))))))))))) (by kernel_rfl), r15_17, k_ret (E := env) (f := 15) (c := (cr (cl (cr (cr (cl (cr (cr (cr (cr (cr (cr (cr (cr (cr (cr (cr c15))))))))))))))))) (by kernel_rfl), k_skip (E := env) (f := 15) (c := (cr (cr (cr (cl (cr (cr (cr (cr (cr (cr (cr (cr (cr (cr (cr c15)))))))))))))))) (by kernel_rfl), k_seq (E := env) (f := 15) (c := (cr (cr (cr (cr (cr (cr (cr (cr (cr (cr (cr (cr c15))))))))))))) (by kernel_rfl), r15_18, k_ret (E := env) (f := 15) (c := (cr (cr (cr (cr (cr (cr (cr (cr (cr (cr (cr (cr (cr c15)))))))))))))) (by kernel_rfl), reduceIte, reduceCtorEq, XE.exit.injEq, Nat.reduceEqDiff] <;> kernel_rfl
noncomputable def c16 : Code := codeOf Try.prog 16
theorem r16_0 {β : Type} {inv : Inv} {k : Nat} {x0 : Value} {h : AH} {K : XE → Act → AH → Option β} : kCode env 16 false inv k (cl c16) (act 14 [(0, x0)]) h K =
    K .normal (act 14 [(0, x0)]) h := (k_reg (by kernel_rfl)).trans (by kernel_rfl)
theorem r16_1 {β : Type} {inv : Inv} {k : Nat} {x0 : Value} {h : AH} {K : XE → Act → AH → Option β} : kCode env 16 false inv k (cl (cr c16)) (act 14 [(0, x0)]) h K =
    bnd (inv (.func 15) #[] #[x0] h) fun x8 =>
    bnd (pExtract x8.1 0) fun x9 =>
    bnd (pExtract x8.1 1) fun x10 =>
    K .normal (act 14 [(4, x9), (5, x10)]) x8.2 := (k_reg (by kernel_rfl)).trans (by kernel_rfl)
theorem r16_2 {β : Type} {inv : Inv} {k : Nat} {x4 x5 : Value} {h : AH} {K : XE → Act → AH → Option β} : kCode env 16 false inv k (cl (cr (cr c16))) (act 14 [(4, x4), (5, x5)]) h K =
    bnd (pLen Try.prog #[25] x4 h) fun x12 =>
    K .normal (act 14 [(2, x12), (3, x5)]) h := (k_reg (by kernel_rfl)).trans (by kernel_rfl)
theorem res16_0 {x2 x3 : Value} {h : AH} : resOfFn env.P 16 .ret (act 14 [(2, x2), (3, x3)]) h = some (.tuple #[x2, x3], h) := (resOfFn_k (by kernel_rfl) (by kernel_rfl)).trans (by kernel_rfl)
/-- shadowbook/ints.Count -/
noncomputable def F16 (inv : Inv) (k : Nat) (x0 : Value) (h : AH) : Option (Value × AH) :=
    bnd (inv (.func 15) #[] #[x0] h) fun x8 =>
    bnd (pExtract x8.1 0) fun x9 =>
    bnd (pExtract x8.1 1) fun x10 =>
    bnd (pLen Try.prog #[25] x9 x8.2) fun x12 =>
    some (.tuple #[x12, x10], x8.2)
theorem F16_eq {inv : Inv} {k : Nat} {x0 : Value} {h : AH} : eFun env k inv 16 #[x0] h = F16 inv k x0 h := by
      refine (eFun_k2 (by kernel_rfl) (by kernel_rfl) (by kernel_rfl) (a := act 14 [(0, x0)]) (c := c16) (by kernel_rfl) (by kernel_rfl)).trans ?_
      unfold F16
      simp only [k_seq (E := env) (f := 16) (c := c16) (by kernel_rfl), r16_0, k_seq (E := env) (f := 16) (c := (cr c16)) (by kernel_rfl), r16_1, k_seq (E := env) (f := 16) (c := (cr (cr c16))) (by kernel_rfl), r16_2, k_ret (E := env) (f := 16) (c := (cr (cr (cr c16)))) (by kernel_rfl), res16_0, reduceIte, reduceCtorEq, XE.exit.injEq, Nat.reduceEqDiff] <;> kernel_rfl
noncomputable def c17 : Code := codeOf Try.prog 17
theorem r17_0 {β : Type} {inv : Inv} {k : Nat} {x0 x1 : Value} {h : AH} {K : XE → Act → AH → Option β} : kCode env 17 false inv k (cl c17) (act 26 [(0, x0), (1, x1)]) h K =
    K .normal (act 26 [(0, x0), (1, x1)]) h := (k_reg (by kernel_rfl)).trans (by kernel_rfl)
theorem r17_1 {β : Type} {inv : Inv} {k : Nat} {x0 x1 : Value} {h : AH} {K : XE → Act → AH → Option β} : kCode env 17 false inv k (cl (cl (cr c17))) (act 26 [(0, x0), (1, x1)]) h K =
    bnd (pLen Try.prog #[25] x0 h) fun x7 =>
    bnd (pLen Try.prog #[25] x1 h) fun x9 =>
    bnd (pBin Try.prog Go.BinOp.neq 3 (Go.Operand.tmp 7) (Go.Operand.tmp 9) x7 x9) fun x10 =>
    K .normal (act 26 [(0, x0), (1, x1), (10, x10)]) h := (k_reg (by kernel_rfl)).trans (by kernel_rfl)
theorem b17_rlr {β : Type} {inv : Inv} {k : Nat} {x0 x1 x10 : Value} {h : AH} {K : XE → Act → AH → Option β} : kCode env 17 false inv k (cr (cl (cr c17))) (act 26 [(0, x0), (1, x1), (10, x10)]) h K = brV x10 (kCode env 17 false inv k (cl (cr (cl (cr c17)))) (act 26 [(0, x0), (1, x1), (10, x10)]) h K) (kCode env 17 false inv k (cr (cr (cl (cr c17)))) (act 26 [(0, x0), (1, x1), (10, x10)]) h K) := (k_cond (by kernel_rfl)).trans (by kernel_rfl)
theorem r17_2 {β : Type} {inv : Inv} {k : Nat} {x0 x1 x10 : Value} {h : AH} {K : XE → Act → AH → Option β} : kCode env 17 false inv k (cl (cl (cr (cl (cr c17))))) (act 26 [(0, x0), (1, x1), (10, x10)]) h K =
    K .normal (act 26 [(4, (Go.Value.bool false))]) h := (k_reg (by kernel_rfl)).trans (by kernel_rfl)
theorem res17_0 {x4 : Value} {h : AH} : resOfFn env.P 17 .ret (act 26 [(4, x4)]) h = some (x4, h) := (resOfFn_k (by kernel_rfl) (by kernel_rfl)).trans (by kernel_rfl)
theorem r17_3 {β : Type} {inv : Inv} {k : Nat} {x0 x1 x10 : Value} {h : AH} {K : XE → Act → AH → Option β} : kCode env 17 false inv k (cl (cl (cr (cr c17)))) (act 26 [(0, x0), (1, x1), (10, x10)]) h K =
    K .normal (act 26 [(0, x0), (1, x1), (5, (Go.Value.int Go.IntKind.i64 0))]) h := (k_reg (by kernel_rfl)).trans (by kernel_rfl)
theorem r17_4 {β : Type} {inv : Inv} {k : Nat} {x0 x1 x5 : Value} {h : AH} {K : XE → Act → AH → Option β} : kCode env 17 false inv k (cl (cl (cl (cl (cr (cl (cr (cr c17)))))))) (act 26 [(0, x0), (1, x1), (5, x5)]) h K =
    bnd (pLen Try.prog #[25] x0 h) fun x13 =>
    bnd (pBin Try.prog Go.BinOp.lss 3 (Go.Operand.tmp 11) (Go.Operand.tmp 13) x5 x13) fun x14 =>
    K .normal (act 26 [(0, x0), (1, x1), (5, x5), (14, x14)]) h := (k_reg (by kernel_rfl)).trans (by kernel_rfl)
theorem b17_rlllrlrr {β : Type} {inv : Inv} {k : Nat} {x0 x1 x5 x14 : Value} {h : AH} {K : XE → Act → AH → Option β} : kCode env 17 false inv k (cr (cl (cl (cl (cr (cl (cr (cr c17)))))))) (act 26 [(0, x0), (1, x1), (5, x5), (14, x14)]) h K = brV x14 (kCode env 17 false inv k (cl (cr (cl (cl (cl (cr (cl (cr (cr c17))))))))) (act 26 [(0, x0), (1, x1), (5, x5), (14, x14)]) h K) (kCode env 17 false inv k (cr (cr (cl (cl (cl (cr (cl (cr (cr c17))))))))) (act 26 [(0, x0), (1, x1), (5, x5), (14, x14)]) h K) := (k_cond (by kernel_rfl)).trans (by kernel_rfl)
theorem r17_6 {β : Type} {inv : Inv} {k : Nat} {x0 x1 x5 x14 : Value} {h : AH} {K : XE → Act → AH → Option β} : kCode env 17 false inv k (cl (cl (cl (cr (cl (cl (cr (cl (cr (cr c17)))))))))) (act 26 [(0, x0), (1, x1), (5, x5), (14, x14)]) h K =
    bnd (pIndexAddr Try.prog 25 x0 x5) fun x19 =>
    bnd (pLoad Try.prog 2 x19 h) fun x20 =>
    bnd (pIndexAddr Try.prog 25 x1 x5) fun x23 =>
    bnd (pLoad Try.prog 2 x23 h) fun x24 =>
    bnd (pBin Try.prog Go.BinOp.neq 2 (Go.Operand.tmp 20) (Go.Operand.tmp 24) x20 x24) fun x25 =>
    K .normal (act 26 [(0, x0), (1, x1), (5, x5), (25, x25)]) h := (k_draw (by kernel_rfl)).trans (by kernel_rfl)
theorem b17_rllrllrlrr {β : Type} {inv : Inv} {k : Nat} {x0 x1 x5 x25 : Value} {h : AH} {K : XE → Act → AH → Option β} : kCode env 17 false inv k (cr (cl (cl (cr (cl (cl (cr (cl (cr (cr c17)))))))))) (act 26 [(0, x0), (1, x1), (5, x5), (25, x25)]) h K = brV x25 (kCode env 17 false inv k (cl (cr (cl (cl (cr (cl (cl (cr (cl (cr (cr c17))))))))))) (act 26 [(0, x0), (1, x1), (5, x5), (25, x25)]) h K) (kCode env 17 false inv k (cr (cr (cl (cl (cr (cl (cl (cr (cl (cr (cr c17))))))))))) (act 26 [(0, x0), (1, x1), (5, x5), (25, x25)]) h K) := (k_cond (by kernel_rfl)).trans (by kernel_rfl)
theorem r17_7 {β : Type} {inv : Inv} {k : Nat} {x0 x1 x5 x25 : Value} {h : AH} {K : XE → Act → AH → Option β} : kCode env 17 false inv k (cl (cl (cr (cl (cl (cr (cl (cl (cr (cl (cr (cr c17)))))))))))) (act 26 [(0, x0), (1, x1), (5, x5), (25, x25)]) h K =
    K .normal (act 26 [(4, (Go.Value.bool false))]) h := (k_reg (by kernel_rfl)).trans (by kernel_rfl)
theorem r17_5 {β : Type} {inv : Inv} {k : Nat} {x0 x1 x5 x25 : Value} {h : AH} {K : XE → Act → AH → Option β} : kCode env 17 false inv k (cr (cr (cl (cl (cr (cl (cr (cr c17)))))))) (act 26 [(0, x0), (1, x1), (5, x5), (25, x25)]) h K =
    bnd (pBin Try.prog Go.BinOp.add 3 (Go.Operand.tmp 15) (Go.Operand.const (Go.Value.int Go.IntKind.i64 1)) x5 (Go.Value.int Go.IntKind.i64 1)) fun x16 =>
    K .normal (act 26 [(0, x0), (1, x1), (5, x16)]) h := (k_reg (by kernel_rfl)).trans (by kernel_rfl)
noncomputable def F17_lrlrr {β : Type} (inv : Inv) (k : Nat) : Nat → Value → Value → Value → AH → (Value → Value → Value → Value → AH → Option β) → (Value → AH → Option β) → Option β
  | 0, _, _, _, _, _, _ => none
  | j + 1, x0, x1, x5, h, ke0, kr =>
    bnd (pLen Try.prog #[25] x0 h) fun x13 =>
    bnd (pBin Try.prog Go.BinOp.lss 3 (Go.Operand.tmp 11) (Go.Operand.tmp 13) x5 x13) fun x14 =>
    brV x14
    (bnd (pIndexAddr Try.prog 25 x0 x5) fun x19 =>
    bnd (pLoad Try.prog 2 x19 h) fun x20 =>
    bnd (pIndexAddr Try.prog 25 x1 x5) fun x23 =>
    bnd (pLoad Try.prog 2 x23 h) fun x24 =>
    bnd (pBin Try.prog Go.BinOp.neq 2 (Go.Operand.tmp 20) (Go.Operand.tmp 24) x20 x24) fun x25 =>
    brV x25
    (kr (Go.Value.bool false) h)
    (bnd (pBin Try.prog Go.BinOp.add 3 (Go.Operand.tmp 15) (Go.Operand.const (Go.Value.int Go.IntKind.i64 1)) x5 (Go.Value.int Go.IntKind.i64 1)) fun x16 =>
    F17_lrlrr inv k j x0 x1 x16 h ke0 kr))
    (ke0 x0 x1 x5 x14 h)
theorem F17_lrlrr_j {β : Type} {inv : Inv} {k : Nat} (j : Nat) {x0 x1 x5 : Value} {h : AH} {K : XE → Act → AH → Option β} : kLoop (kCode env 17 false inv k (cl (cl (cr (cl (cr (cr c17))))))) j (act 26 [(0, x0), (1, x1), (5, x5)]) h K = F17_lrlrr inv k j x0 x1 x5 h (fun y0 y1 y5 y14 h => K (.exit 0) (act 26 [(0, y0), (1, y1), (5, y5), (14, y14)]) h) (fun y4 h => K .ret (act 26 [(4, y4)]) h) := by
      induction j generalizing x0 x1 x5 h with
      | zero => rfl
      | succ j ih =>
        unfold F17_lrlrr
        simp only [kLoop, k_seq (E := env) (f := 17) (c := (cl (cl (cr (cl (cr (cr c17))))))) (by kernel_rfl), k_seq (E := env) (f := 17) (c := (cl (cl (cl (cr (cl (cr (cr c17)))))))) (by kernel_rfl), r17_4, b17_rlllrlrr, k_skip (E := env) (f := 17) (c := (cl (cr (cl (cl (cl (cr (cl (cr (cr c17)))))))))) (by kernel_rfl), k_seq (E := env) (f := 17) (c := (cr (cl (cl (cr (cl (cr (cr c17)))))))) (by kernel_rfl), k_block (E := env) (f := 17) (c := (cl (cr (cl (cl (cr (cl (cr (cr c17))))))))) (id := 1) (by kernel_rfl), k_seq (E := env) (f := 17) (c := (cl (cl (cr (cl (cl (cr (cl (cr (cr c17)))))))))) (by kernel_rfl), r17_6, b17_rllrllrlrr, k_seq (E := env) (f := 17) (c := (cl (cr (cl (cl (cr (cl (cl (cr (cl (cr (cr c17)))))))))))) (by kernel_rfl), r17_7, k_ret (E := env) (f := 17) (c := (cr (cl (cr (cl (cl (cr (cl (cl (cr (cl (cr (cr c17))))))))))))) (by kernel_rfl), k_skip (E := env) (f := 17) (c := (cr (cr (cl (cl (cr (cl (cl (cr (cl (cr (cr c17)))))))))))) (by kernel_rfl), r17_5, k_exit (E := env) (f := 17) (c := (cr (cr (cl (cl (cl (cr (cl (cr (cr c17)))))))))) (id := 0) (by kernel_rfl), ih, reduceIte, reduceCtorEq, XE.exit.injEq, Nat.reduceEqDiff] <;> kernel_rfl
theorem F17_lrlrr_eq {β : Type} {inv : Inv} {k : Nat} {x0 x1 x5 : Value} {h : AH} {K : XE → Act → AH → Option β} : kCode env 17 false inv k (cl (cr (cl (cr (cr c17))))) (act 26 [(0, x0), (1, x1), (5, x5)]) h K = F17_lrlrr inv k k x0 x1 x5 h (fun y0 y1 y5 y14 h => K (.exit 0) (act 26 [(0, y0), (1, y1), (5, y5), (14, y14)]) h) (fun y4 h => K .ret (act 26 [(4, y4)]) h) := (k_loop (by kernel_rfl)).trans (F17_lrlrr_j k)
theorem r17_8 {β : Type} {inv : Inv} {k : Nat} {x0 x1 x5 x14 : Value} {h : AH} {K : XE → Act → AH → Option β} : kCode env 17 false inv k (cl (cr (cr (cr c17)))) (act 26 [(0, x0), (1, x1), (5, x5), (14, x14)]) h K =
    K .normal (act 26 [(4, (Go.Value.bool true))]) h := (k_reg (by kernel_rfl)).trans (by kernel_rfl)
/-- shadowbook/shadowbookkit.Same[int64] -/
noncomputable def F17 (inv : Inv) (k : Nat) (x0 x1 : Value) (h : AH) : Option (Value × AH) :=
    bnd (pLen Try.prog #[25] x0 h) fun x7 =>
    bnd (pLen Try.prog #[25] x1 h) fun x9 =>
    bnd (pBin Try.prog Go.BinOp.neq 3 (Go.Operand.tmp 7) (Go.Operand.tmp 9) x7 x9) fun x10 =>
    brV x10
    (some ((Go.Value.bool false), h))
    (F17_lrlrr inv k k x0 x1 (Go.Value.int Go.IntKind.i64 0) h
    (fun y0 y1 y5 y14 h =>
    some ((Go.Value.bool true), h))
    (fun y4 h_1 =>
    some (y4, h_1)))
theorem F17_eq {inv : Inv} {k : Nat} {x0 x1 : Value} {h : AH} : eFun env k inv 17 #[x0, x1] h = F17 inv k x0 x1 h := by
      refine (eFun_k2 (by kernel_rfl) (by kernel_rfl) (by kernel_rfl) (a := act 26 [(0, x0), (1, x1)]) (c := c17) (by kernel_rfl) (by kernel_rfl)).trans ?_
      unfold F17
      simp only [k_seq (E := env) (f := 17) (c := c17) (by kernel_rfl), r17_0, k_seq (E := env) (f := 17) (c := (cr c17)) (by kernel_rfl), k_seq (E := env) (f := 17) (c := (cl (cr c17))) (by kernel_rfl), r17_1, b17_rlr, k_seq (E := env) (f := 17) (c := (cl (cr (cl (cr c17))))) (by kernel_rfl), r17_2, k_ret (E := env) (f := 17) (c := (cr (cl (cr (cl (cr c17)))))) (by kernel_rfl), res17_0, k_skip (E := env) (f := 17) (c := (cr (cr (cl (cr c17))))) (by kernel_rfl), k_seq (E := env) (f := 17) (c := (cr (cr c17))) (by kernel_rfl), k_seq (E := env) (f := 17) (c := (cl (cr (cr c17)))) (by kernel_rfl), r17_3, k_block (E := env) (f := 17) (c := (cr (cl (cr (cr c17))))) (id := 0) (by kernel_rfl), F17_lrlrr_eq, k_seq (E := env) (f := 17) (c := (cr (cr (cr c17)))) (by kernel_rfl), r17_8, k_ret (E := env) (f := 17) (c := (cr (cr (cr (cr c17))))) (by kernel_rfl), reduceIte, reduceCtorEq, XE.exit.injEq, Nat.reduceEqDiff] <;> kernel_rfl
noncomputable def c24 : Code := codeOf Try.prog 24
theorem r24_0 {β : Type} {inv : Inv} {k : Nat} {h : AH} {K : XE → Act → AH → Option β} : kCode env 24 false inv k (cl c24) (act 5 []) h K =
    K .normal (act 5 []) h := (k_reg (by kernel_rfl)).trans (by kernel_rfl)
theorem r24_1 {β : Type} {inv : Inv} {k : Nat} {h : AH} {K : XE → Act → AH → Option β} : kCode env 24 false inv k (cl (cr c24)) (act 5 []) h K =
    bnd (pBuild Try.prog 46 #[(0, (Go.Value.int Go.IntKind.u8 1)), (1, (.func (.func 13) #[] #[])), (2, (.func (.func 50) #[] #[]))]) fun x1 =>
    bnd (pBuild Try.prog 46 #[(0, (Go.Value.int Go.IntKind.u8 2)), (1, (.func (.func 14) #[] #[])), (2, (.func (.func 51) #[] #[]))]) fun x2 =>
    bnd (pBuild Try.prog 46 #[(0, (Go.Value.int Go.IntKind.u8 3)), (1, (.func (.func 11) #[] #[])), (2, (.func (.func 52) #[] #[]))]) fun x3 =>
    bnd (pBuildSlice Try.prog 42 3 #[(0, x1), (1, x2), (2, x3)] h) fun x4 =>
    K .normal (act 5 [(0, x4.1)]) x4.2 := (k_reg (by kernel_rfl)).trans (by kernel_rfl)
theorem res24_0 {x0 : Value} {h : AH} : resOfFn env.P 24 .ret (act 5 [(0, x0)]) h = some (x0, h) := (resOfFn_k (by kernel_rfl) (by kernel_rfl)).trans (by kernel_rfl)
/-- shadowbook/ints.forms -/
noncomputable def F24 (inv : Inv) (k : Nat) (h : AH) : Option (Value × AH) :=
    bnd (pBuild Try.prog 46 #[(0, (Go.Value.int Go.IntKind.u8 1)), (1, (.func (.func 13) #[] #[])), (2, (.func (.func 50) #[] #[]))]) fun x1 =>
    bnd (pBuild Try.prog 46 #[(0, (Go.Value.int Go.IntKind.u8 2)), (1, (.func (.func 14) #[] #[])), (2, (.func (.func 51) #[] #[]))]) fun x2 =>
    bnd (pBuild Try.prog 46 #[(0, (Go.Value.int Go.IntKind.u8 3)), (1, (.func (.func 11) #[] #[])), (2, (.func (.func 52) #[] #[]))]) fun x3 =>
    bnd (pBuildSlice Try.prog 42 3 #[(0, x1), (1, x2), (2, x3)] h) fun x4 =>
    some (x4.1, x4.2)
theorem F24_eq {inv : Inv} {k : Nat} {h : AH} : eFun env k inv 24 #[] h = F24 inv k  h := by
      refine (eFun_k2 (by kernel_rfl) (by kernel_rfl) (by kernel_rfl) (a := act 5 []) (c := c24) (by kernel_rfl) (by kernel_rfl)).trans ?_
      unfold F24
      simp only [k_seq (E := env) (f := 24) (c := c24) (by kernel_rfl), r24_0, k_seq (E := env) (f := 24) (c := (cr c24)) (by kernel_rfl), r24_1, k_ret (E := env) (f := 24) (c := (cr (cr c24))) (by kernel_rfl), res24_0, reduceIte, reduceCtorEq, XE.exit.injEq, Nat.reduceEqDiff] <;> kernel_rfl
noncomputable def c25 : Code := codeOf Try.prog 25
theorem r25_0 {β : Type} {inv : Inv} {k : Nat} {x0 x1 : Value} {h : AH} {K : XE → Act → AH → Option β} : kCode env 25 false inv k (cl c25) (act 33 [(0, x0), (1, x1)]) h K =
    K .normal (act 33 [(0, x0), (1, x1)]) h := (k_reg (by kernel_rfl)).trans (by kernel_rfl)
theorem r25_1 {β : Type} {inv : Inv} {k : Nat} {x0 x1 : Value} {h : AH} {K : XE → Act → AH → Option β} : kCode env 25 false inv k (cl (cl (cr c25))) (act 33 [(0, x0), (1, x1)]) h K =
    bnd (pLen Try.prog #[41] x0 h) fun x8 =>
    bnd (pBin Try.prog Go.BinOp.lss 3 (Go.Operand.tmp 8) (Go.Operand.const (Go.Value.int Go.IntKind.i64 1)) x8 (Go.Value.int Go.IntKind.i64 1)) fun x9 =>
    K .normal (act 33 [(0, x0), (1, x1), (9, x9)]) h := (k_reg (by kernel_rfl)).trans (by kernel_rfl)
theorem b25_rlr {β : Type} {inv : Inv} {k : Nat} {x0 x1 x9 : Value} {h : AH} {K : XE → Act → AH → Option β} : kCode env 25 false inv k (cr (cl (cr c25))) (act 33 [(0, x0), (1, x1), (9, x9)]) h K = brV x9 (kCode env 25 false inv k (cl (cr (cl (cr c25)))) (act 33 [(0, x0), (1, x1), (9, x9)]) h K) (kCode env 25 false inv k (cr (cr (cl (cr c25)))) (act 33 [(0, x0), (1, x1), (9, x9)]) h K) := (k_cond (by kernel_rfl)).trans (by kernel_rfl)
theorem r25_2 {β : Type} {inv : Inv} {k : Nat} {x0 x1 x9 : Value} {h : AH} {K : XE → Act → AH → Option β} : kCode env 25 false inv k (cl (cr (cl (cr c25)))) (act 33 [(0, x0), (1, x1), (9, x9)]) h K =
    bnd (pMakeIface Try.prog 9 (Go.Value.string { data := #[115, 108, 105, 99, 101, 115, 46, 77, 105, 110, 70, 117, 110, 99, 58, 32, 101, 109, 112, 116, 121, 32, 108, 105, 115, 116] })) fun x10 =>
    bnd ((none : Option (Value × AH))) fun u =>
    K .normal (act 33 [(0, x0), (1, x1)]) u.2 := (k_reg (by kernel_rfl)).trans (by kernel_rfl)
noncomputable def F25_rlr {β : Type} (inv : Inv) (k : Nat) (x0 x1 x9 : Value) (h : AH) (kn : (Value → Value → Value → AH → Option β)) : Option β :=
    brV x9
    (bnd (pMakeIface Try.prog 9 (Go.Value.string { data := #[115, 108, 105, 99, 101, 115, 46, 77, 105, 110, 70, 117, 110, 99, 58, 32, 101, 109, 112, 116, 121, 32, 108, 105, 115, 116] })) fun x10 =>
    bnd ((none : Option (Value × AH))) fun u =>
    kn x0 x1 unk u.2)
    (kn x0 x1 x9 h)
theorem F25_rlr_eq {β : Type} {inv : Inv} {k : Nat} {x0 x1 x9 : Value} {h : AH} {K : XE → Act → AH → Option β} : kCode env 25 false inv k (cr (cl (cr c25))) (act 33 [(0, x0), (1, x1), (9, x9)]) h K = F25_rlr inv k x0 x1 x9 h (fun y0 y1 y9 h => K .normal (act 33 [(0, y0), (1, y1), (9, y9)]) h) := by
      unfold F25_rlr
      simp only [b25_rlr, r25_2, k_skip (E := env) (f := 25) (c := (cr (cr (cl (cr c25))))) (by kernel_rfl), reduceIte, reduceCtorEq, XE.exit.injEq, Nat.reduceEqDiff] <;> kernel_rfl
theorem r25_3 {β : Type} {inv : Inv} {k : Nat} {x0 x1 x9 : Value} {h : AH} {K : XE → Act → AH → Option β} : kCode env 25 false inv k (cl (cr (cr c25))) (act 33 [(0, x0), (1, x1), (9, x9)]) h K =
    bnd (pIndexAddr Try.prog 41 x0 (Go.Value.int Go.IntKind.i64 0)) fun x12 =>
    bnd (pLoad Try.prog 26 x12 h) fun x13 =>
    K .normal (act 33 [(0, x0), (1, x1), (5, x13)]) h := (k_reg (by kernel_rfl)).trans (by kernel_rfl)
theorem r25_4 {β : Type} {inv : Inv} {k : Nat} {x0 x1 x5 : Value} {h : AH} {K : XE → Act → AH → Option β} : kCode env 25 false inv k (cl (cl (cr (cr (cr c25))))) (act 33 [(0, x0), (1, x1), (5, x5)]) h K =
    K .normal (act 33 [(0, x0), (1, x1), (5, x5), (6, (Go.Value.int Go.IntKind.i64 1))]) h := (k_reg (by kernel_rfl)).trans (by kernel_rfl)
theorem r25_5 {β : Type} {inv : Inv} {k : Nat} {x0 x1 x5 x6 : Value} {h : AH} {K : XE → Act → AH → Option β} : kCode env 25 false inv k (cl (cl (cl (cl (cr (cl (cr (cr (cr c25))))))))) (act 33 [(0, x0), (1, x1), (5, x5), (6, x6)]) h K =
    bnd (pLen Try.prog #[41] x0 h) fun x16 =>
    bnd (pBin Try.prog Go.BinOp.lss 3 (Go.Operand.tmp 14) (Go.Operand.tmp 16) x6 x16) fun x17 =>
    K .normal (act 33 [(0, x0), (1, x1), (5, x5), (6, x6), (17, x17)]) h := (k_reg (by kernel_rfl)).trans (by kernel_rfl)
theorem b25_rlllrlrrr {β : Type} {inv : Inv} {k : Nat} {x0 x1 x5 x6 x17 : Value} {h : AH} {K : XE → Act → AH → Option β} : kCode env 25 false inv k (cr (cl (cl (cl (cr (cl (cr (cr (cr c25))))))))) (act 33 [(0, x0), (1, x1), (5, x5), (6, x6), (17, x17)]) h K = brV x17 (kCode env 25 false inv k (cl (cr (cl (cl (cl (cr (cl (cr (cr (cr c25)))))))))) (act 33 [(0, x0), (1, x1), (5, x5), (6, x6), (17, x17)]) h K) (kCode env 25 false inv k (cr (cr (cl (cl (cl (cr (cl (cr (cr (cr c25)))))))))) (act 33 [(0, x0), (1, x1), (5, x5), (6, x6), (17, x17)]) h K) := (k_cond (by kernel_rfl)).trans (by kernel_rfl)
theorem r25_7 {β : Type} {inv : Inv} {k : Nat} {x0 x1 x5 x6 x17 : Value} {h : AH} {K : XE → Act → AH → Option β} : kCode env 25 false inv k (cl (cl (cl (cr (cl (cl (cr (cl (cr (cr (cr c25))))))))))) (act 33 [(0, x0), (1, x1), (5, x5), (6, x6), (17, x17)]) h K =
    bnd (pIndexAddr Try.prog 41 x0 x6) fun x23 =>
    bnd (pLoad Try.prog 26 x23 h) fun x24 =>
    bnd (callV inv x1 #[x24, x5] h) fun x26 =>
    bnd (pBin Try.prog Go.BinOp.lss 3 (Go.Operand.tmp 26) (Go.Operand.const (Go.Value.int Go.IntKind.i64 0)) x26.1 (Go.Value.int Go.IntKind.i64 0)) fun x27 =>
    K .normal (act 33 [(0, x0), (1, x1), (5, x5), (6, x6), (27, x27)]) x26.2 := (k_reg (by kernel_rfl)).trans (by kernel_rfl)
theorem b25_rllrllrlrrr {β : Type} {inv : Inv} {k : Nat} {x0 x1 x5 x6 x27 : Value} {h : AH} {K : XE → Act → AH → Option β} : kCode env 25 false inv k (cr (cl (cl (cr (cl (cl (cr (cl (cr (cr (cr c25))))))))))) (act 33 [(0, x0), (1, x1), (5, x5), (6, x6), (27, x27)]) h K = brV x27 (kCode env 25 false inv k (cl (cr (cl (cl (cr (cl (cl (cr (cl (cr (cr (cr c25)))))))))))) (act 33 [(0, x0), (1, x1), (5, x5), (6, x6), (27, x27)]) h K) (kCode env 25 false inv k (cr (cr (cl (cl (cr (cl (cl (cr (cl (cr (cr (cr c25)))))))))))) (act 33 [(0, x0), (1, x1), (5, x5), (6, x6), (27, x27)]) h K) := (k_cond (by kernel_rfl)).trans (by kernel_rfl)
theorem r25_8 {β : Type} {inv : Inv} {k : Nat} {x0 x1 x5 x6 x27 : Value} {h : AH} {K : XE → Act → AH → Option β} : kCode env 25 false inv k (cl (cr (cl (cl (cr (cl (cl (cr (cl (cr (cr (cr c25)))))))))))) (act 33 [(0, x0), (1, x1), (5, x5), (6, x6), (27, x27)]) h K =
    bnd (pIndexAddr Try.prog 41 x0 x6) fun x30 =>
    bnd (pLoad Try.prog 26 x30 h) fun x31 =>
    K .normal (act 33 [(0, x0), (1, x1), (5, x31), (6, x6)]) h := (k_reg (by kernel_rfl)).trans (by kernel_rfl)
noncomputable def F25_lrllrlrrr {β : Type} (inv : Inv) (k : Nat) (x0 x1 x5 x6 x17 : Value) (h : AH) (kn : (Value → Value → Value → Value → Value → AH → Option β)) : Option β :=
    bnd (pIndexAddr Try.prog 41 x0 x6) fun x23 =>
    bnd (pLoad Try.prog 26 x23 h) fun x24 =>
    bnd (callV inv x1 #[x24, x5] h) fun x26 =>
    bnd (pBin Try.prog Go.BinOp.lss 3 (Go.Operand.tmp 26) (Go.Operand.const (Go.Value.int Go.IntKind.i64 0)) x26.1 (Go.Value.int Go.IntKind.i64 0)) fun x27 =>
    brV x27
    (bnd (pIndexAddr Try.prog 41 x0 x6) fun x30 =>
    bnd (pLoad Try.prog 26 x30 x26.2) fun x31 =>
    kn x0 x1 x31 x6 unk x26.2)
    (kn x0 x1 x5 x6 x27 x26.2)
theorem F25_lrllrlrrr_eq {β : Type} {inv : Inv} {k : Nat} {x0 x1 x5 x6 x17 : Value} {h : AH} {K : XE → Act → AH → Option β} : kCode env 25 false inv k (cl (cr (cl (cl (cr (cl (cr (cr (cr c25))))))))) (act 33 [(0, x0), (1, x1), (5, x5), (6, x6), (17, x17)]) h K = F25_lrllrlrrr inv k x0 x1 x5 x6 x17 h (fun y0 y1 y5 y6 y27 h => K .normal (act 33 [(0, y0), (1, y1), (5, y5), (6, y6), (27, y27)]) h) := by
      unfold F25_lrllrlrrr
      simp only [k_block (E := env) (f := 25) (c := (cl (cr (cl (cl (cr (cl (cr (cr (cr c25)))))))))) (id := 1) (by kernel_rfl), k_seq (E := env) (f := 25) (c := (cl (cl (cr (cl (cl (cr (cl (cr (cr (cr c25))))))))))) (by kernel_rfl), r25_7, b25_rllrllrlrrr, r25_8, k_skip (E := env) (f := 25) (c := (cr (cr (cl (cl (cr (cl (cl (cr (cl (cr (cr (cr c25))))))))))))) (by kernel_rfl), reduceIte, reduceCtorEq, XE.exit.injEq, Nat.reduceEqDiff] <;> kernel_rfl
theorem r25_6 {β : Type} {inv : Inv} {k : Nat} {x0 x1 x5 x6 x27 : Value} {h : AH} {K : XE → Act → AH → Option β} : kCode env 25 false inv k (cr (cr (cl (cl (cr (cl (cr (cr (cr c25))))))))) (act 33 [(0, x0), (1, x1), (5, x5), (6, x6), (27, x27)]) h K =
    bnd (pBin Try.prog Go.BinOp.add 3 (Go.Operand.tmp 18) (Go.Operand.const (Go.Value.int Go.IntKind.i64 1)) x6 (Go.Value.int Go.IntKind.i64 1)) fun x19 =>
    K .normal (act 33 [(0, x0), (1, x1), (5, x5), (6, x19)]) h := (k_reg (by kernel_rfl)).trans (by kernel_rfl)
noncomputable def F25_lrlrrr {β : Type} (inv : Inv) (k : Nat) : Nat → Value → Value → Value → Value → AH → (Value → Value → Value → Value → Value → AH → Option β) → Option β
  | 0, _, _, _, _, _, _ => none
  | j + 1, x0, x1, x5, x6, h, ke0 =>
    bnd (pLen Try.prog #[41] x0 h) fun x16 =>
    bnd (pBin Try.prog Go.BinOp.lss 3 (Go.Operand.tmp 14) (Go.Operand.tmp 16) x6 x16) fun x17 =>
    brV x17
    (F25_lrllrlrrr inv k x0 x1 x5 x6 x17 h
    (fun y0 y1 y5 y6 y27 h =>
    bnd (pBin Try.prog Go.BinOp.add 3 (Go.Operand.tmp 18) (Go.Operand.const (Go.Value.int Go.IntKind.i64 1)) y6 (Go.Value.int Go.IntKind.i64 1)) fun x19 =>
    F25_lrlrrr inv k j y0 y1 y5 x19 h ke0))
    (ke0 x0 x1 x5 x6 x17 h)
theorem F25_lrlrrr_j {β : Type} {inv : Inv} {k : Nat} (j : Nat) {x0 x1 x5 x6 : Value} {h : AH} {K : XE → Act → AH → Option β} : kLoop (kCode env 25 false inv k (cl (cl (cr (cl (cr (cr (cr c25)))))))) j (act 33 [(0, x0), (1, x1), (5, x5), (6, x6)]) h K = F25_lrlrrr inv k j x0 x1 x5 x6 h (fun y0 y1 y5 y6 y17 h => K (.exit 0) (act 33 [(0, y0), (1, y1), (5, y5), (6, y6), (17, y17)]) h) := by
      induction j generalizing x0 x1 x5 x6 h with
      | zero => rfl
      | succ j ih =>
        unfold F25_lrlrrr
        simp only [kLoop, k_seq (E := env) (f := 25) (c := (cl (cl (cr (cl (cr (cr (cr c25)))))))) (by kernel_rfl), k_seq (E := env) (f := 25) (c := (cl (cl (cl (cr (cl (cr (cr (cr c25))))))))) (by kernel_rfl), r25_5, b25_rlllrlrrr, k_skip (E := env) (f := 25) (c := (cl (cr (cl (cl (cl (cr (cl (cr (cr (cr c25))))))))))) (by kernel_rfl), k_seq (E := env) (f := 25) (c := (cr (cl (cl (cr (cl (cr (cr (cr c25))))))))) (by kernel_rfl), F25_lrllrlrrr_eq, r25_6, k_exit (E := env) (f := 25) (c := (cr (cr (cl (cl (cl (cr (cl (cr (cr (cr c25))))))))))) (id := 0) (by kernel_rfl), ih, reduceIte, reduceCtorEq, XE.exit.injEq, Nat.reduceEqDiff] <;> kernel_rfl
theorem F25_lrlrrr_eq {β : Type} {inv : Inv} {k : Nat} {x0 x1 x5 x6 : Value} {h : AH} {K : XE → Act → AH → Option β} : kCode env 25 false inv k (cl (cr (cl (cr (cr (cr c25)))))) (act 33 [(0, x0), (1, x1), (5, x5), (6, x6)]) h K = F25_lrlrrr inv k k x0 x1 x5 x6 h (fun y0 y1 y5 y6 y17 h => K (.exit 0) (act 33 [(0, y0), (1, y1), (5, y5), (6, y6), (17, y17)]) h) := (k_loop (by kernel_rfl)).trans (F25_lrlrrr_j k)
theorem r25_9 {β : Type} {inv : Inv} {k : Nat} {x0 x1 x5 x6 x17 : Value} {h : AH} {K : XE → Act → AH → Option β} : kCode env 25 false inv k (cl (cr (cr (cr (cr c25))))) (act 33 [(0, x0), (1, x1), (5, x5), (6, x6), (17, x17)]) h K =
    K .normal (act 33 [(4, x5)]) h := (k_reg (by kernel_rfl)).trans (by kernel_rfl)
theorem res25_0 {x4 : Value} {h : AH} : resOfFn env.P 25 .ret (act 33 [(4, x4)]) h = some (x4, h) := (resOfFn_k (by kernel_rfl) (by kernel_rfl)).trans (by kernel_rfl)
/-- slices.MinFunc[[][]byte,[]byte] -/
noncomputable def F25 (inv : Inv) (k : Nat) (x0 x1 : Value) (h : AH) : Option (Value × AH) :=
    bnd (pLen Try.prog #[41] x0 h) fun x8 =>
    bnd (pBin Try.prog Go.BinOp.lss 3 (Go.Operand.tmp 8) (Go.Operand.const (Go.Value.int Go.IntKind.i64 1)) x8 (Go.Value.int Go.IntKind.i64 1)) fun x9 =>
    F25_rlr inv k x0 x1 x9 h
    (fun y0 y1 y9 h =>
    bnd (pIndexAddr Try.prog 41 y0 (Go.Value.int Go.IntKind.i64 0)) fun x12 =>
    bnd (pLoad Try.prog 26 x12 h) fun x13 =>
    F25_lrlrrr inv k k y0 y1 x13 (Go.Value.int Go.IntKind.i64 1) h
    (fun y0_1 y1_2 y5 y6 y17 h_3 =>
    some (y5, h_3)))
theorem F25_eq {inv : Inv} {k : Nat} {x0 x1 : Value} {h : AH} : eFun env k inv 25 #[x0, x1] h = F25 inv k x0 x1 h := by
      refine (eFun_k2 (by kernel_rfl) (by kernel_rfl) (by kernel_rfl) (a := act 33 [(0, x0), (1, x1)]) (c := c25) (by kernel_rfl) (by kernel_rfl)).trans ?_
      unfold F25
      simp only [k_seq (E := env) (f := 25) (c := c25) (by kernel_rfl), r25_0, k_seq (E := env) (f := 25) (c := (cr c25)) (by kernel_rfl), k_seq (E := env) (f := 25) (c := (cl (cr c25))) (by kernel_rfl), r25_1, F25_rlr_eq, k_seq (E := env) (f := 25) (c := (cr (cr c25))) (by kernel_rfl), r25_3, k_seq (E := env) (f := 25) (c := (cr (cr (cr c25)))) (by kernel_rfl), k_seq (E := env) (f := 25) (c := (cl (cr (cr (cr c25))))) (by kernel_rfl), r25_4, k_block (E := env) (f := 25) (c := (cr (cl (cr (cr (cr c25)))))) (id := 0) (by kernel_rfl), F25_lrlrrr_eq, k_seq (E := env) (f := 25) (c := (cr (cr (cr (cr c25))))) (by kernel_rfl), r25_9, k_ret (E := env) (f := 25) (c := (cr (cr (cr (cr (cr c25)))))) (by kernel_rfl), res25_0, reduceIte, reduceCtorEq, XE.exit.injEq, Nat.reduceEqDiff] <;> kernel_rfl
noncomputable def c26 : Code := codeOf Try.prog 26
theorem r26_0 {β : Type} {inv : Inv} {k : Nat} {x0 x1 : Value} {h : AH} {K : XE → Act → AH → Option β} : kCode env 26 false inv k (cl c26) (act 10 [(0, x0), (1, x1)]) h K =
    K .normal (act 10 [(0, x0), (1, x1)]) h := (k_reg (by kernel_rfl)).trans (by kernel_rfl)
theorem r26_1 {β : Type} {inv : Inv} {k : Nat} {x0 x1 : Value} {h : AH} {K : XE → Act → AH → Option β} : kCode env 26 false inv k (cl (cr c26)) (act 10 [(0, x0), (1, x1)]) h K =
    bnd (pLen Try.prog #[26] x0 h) fun x6 =>
    bnd (pLen Try.prog #[26] x1 h) fun x8 =>
    bnd (inv (.func 27) #[] #[x6, x8] h) fun x9 =>
    K .normal (act 10 [(4, x9.1)]) x9.2 := (k_reg (by kernel_rfl)).trans (by kernel_rfl)
theorem res26_0 {x4 : Value} {h : AH} : resOfFn env.P 26 .ret (act 10 [(4, x4)]) h = some (x4, h) := (resOfFn_k (by kernel_rfl) (by kernel_rfl)).trans (by kernel_rfl)
/-- shadowbook/ints.Put$1 -/
noncomputable def F26 (inv : Inv) (k : Nat) (x0 x1 : Value) (h : AH) : Option (Value × AH) :=
    bnd (pLen Try.prog #[26] x0 h) fun x6 =>
    bnd (pLen Try.prog #[26] x1 h) fun x8 =>
    bnd (inv (.func 27) #[] #[x6, x8] h) fun x9 =>
    some (x9.1, x9.2)
theorem F26_eq {inv : Inv} {k : Nat} {x0 x1 : Value} {h : AH} : eFun env k inv 26 #[x0, x1] h = F26 inv k x0 x1 h := by
      refine (eFun_k2 (by kernel_rfl) (by kernel_rfl) (by kernel_rfl) (a := act 10 [(0, x0), (1, x1)]) (c := c26) (by kernel_rfl) (by kernel_rfl)).trans ?_
      unfold F26
      simp only [k_seq (E := env) (f := 26) (c := c26) (by kernel_rfl), r26_0, k_seq (E := env) (f := 26) (c := (cr c26)) (by kernel_rfl), r26_1, k_ret (E := env) (f := 26) (c := (cr (cr c26))) (by kernel_rfl), res26_0, reduceIte, reduceCtorEq, XE.exit.injEq, Nat.reduceEqDiff] <;> kernel_rfl
noncomputable def c27 : Code := codeOf Try.prog 27
theorem r27_0 {β : Type} {inv : Inv} {k : Nat} {x0 x1 : Value} {h : AH} {K : XE → Act → AH → Option β} : kCode env 27 false inv k (cl c27) (act 20 [(0, x0), (1, x1)]) h K =
    K .normal (act 20 [(0, x0), (1, x1)]) h := (k_reg (by kernel_rfl)).trans (by kernel_rfl)
theorem r27_1 {β : Type} {inv : Inv} {k : Nat} {x0 x1 : Value} {h : AH} {K : XE → Act → AH → Option β} : kCode env 27 false inv k (cl (cr c27)) (act 20 [(0, x0), (1, x1)]) h K =
    bnd (inv (.func 53) #[] #[x0] h) fun x8 =>
    K .normal (act 20 [(0, x0), (1, x1), (5, x8.1)]) x8.2 := (k_reg (by kernel_rfl)).trans (by kernel_rfl)
theorem r27_2 {β : Type} {inv : Inv} {k : Nat} {x0 x1 x5 : Value} {h : AH} {K : XE → Act → AH → Option β} : kCode env 27 false inv k (cl (cr (cr c27))) (act 20 [(0, x0), (1, x1), (5, x5)]) h K =
    bnd (inv (.func 53) #[] #[x1] h) fun x10 =>
    K .normal (act 20 [(0, x0), (1, x1), (5, x5), (6, x10.1)]) x10.2 := (k_reg (by kernel_rfl)).trans (by kernel_rfl)
theorem r27_3 {β : Type} {inv : Inv} {k : Nat} {x0 x1 x5 x6 : Value} {h : AH} {K : XE → Act → AH → Option β} : kCode env 27 false inv k (cl (cl (cr (cr (cr c27))))) (act 20 [(0, x0), (1, x1), (5, x5), (6, x6)]) h K =
    K .normal (act 20 [(0, x0), (1, x1), (6, x6), (11, x5)]) h := (k_reg (by kernel_rfl)).trans (by kernel_rfl)
theorem b27_rlrrr {β : Type} {inv : Inv} {k : Nat} {x0 x1 x6 x11 : Value} {h : AH} {K : XE → Act → AH → Option β} : kCode env 27 false inv k (cr (cl (cr (cr (cr c27))))) (act 20 [(0, x0), (1, x1), (6, x6), (11, x11)]) h K = brV x11 (kCode env 27 false inv k (cl (cr (cl (cr (cr (cr c27)))))) (act 20 [(0, x0), (1, x1), (6, x6), (11, x11)]) h K) (kCode env 27 false inv k (cr (cr (cl (cr (cr (cr c27)))))) (act 20 [(0, x0), (1, x1), (6, x6), (11, x11)]) h K) := (k_cond (by kernel_rfl)).trans (by kernel_rfl)
theorem r27_4 {β : Type} {inv : Inv} {k : Nat} {x0 x1 x6 x11 : Value} {h : AH} {K : XE → Act → AH → Option β} : kCode env 27 false inv k (cl (cl (cl (cr (cl (cr (cr (cr c27)))))))) (act 20 [(0, x0), (1, x1), (6, x6), (11, x11)]) h K =
    K .normal (act 20 [(12, x6)]) h := (k_reg (by kernel_rfl)).trans (by kernel_rfl)
theorem b27_rllrlrrr {β : Type} {inv : Inv} {k : Nat} {x12 : Value} {h : AH} {K : XE → Act → AH → Option β} : kCode env 27 false inv k (cr (cl (cl (cr (cl (cr (cr (cr c27)))))))) (act 20 [(12, x12)]) h K = brV x12 (kCode env 27 false inv k (cl (cr (cl (cl (cr (cl (cr (cr (cr c27))))))))) (act 20 [(12, x12)]) h K) (kCode env 27 false inv k (cr (cr (cl (cl (cr (cl (cr (cr (cr c27))))))))) (act 20 [(12, x12)]) h K) := (k_cond (by kernel_rfl)).trans (by kernel_rfl)
theorem r27_5 {β : Type} {inv : Inv} {k : Nat} {x12 : Value} {h : AH} {K : XE → Act → AH → Option β} : kCode env 27 false inv k (cl (cl (cr (cl (cl (cr (cl (cr (cr (cr c27)))))))))) (act 20 [(12, x12)]) h K =
    K .normal (act 20 [(4, (Go.Value.int Go.IntKind.i64 0))]) h := (k_reg (by kernel_rfl)).trans (by kernel_rfl)
theorem res27_0 {x4 : Value} {h : AH} : resOfFn env.P 27 .ret (act 20 [(4, x4)]) h = some (x4, h) := (resOfFn_k (by kernel_rfl) (by kernel_rfl)).trans (by kernel_rfl)
theorem r27_6 {β : Type} {inv : Inv} {k : Nat} {x12 : Value} {h : AH} {K : XE → Act → AH → Option β} : kCode env 27 false inv k (cl (cr (cl (cr (cl (cr (cr (cr c27)))))))) (act 20 [(12, x12)]) h K =
    K .normal (act 20 [(4, (Go.Value.int Go.IntKind.i64 (-1)))]) h := (k_reg (by kernel_rfl)).trans (by kernel_rfl)
theorem r27_7 {β : Type} {inv : Inv} {k : Nat} {x0 x1 x6 x11 : Value} {h : AH} {K : XE → Act → AH → Option β} : kCode env 27 false inv k (cl (cl (cr (cr (cr (cr c27)))))) (act 20 [(0, x0), (1, x1), (6, x6), (11, x11)]) h K =
    K .normal (act 20 [(0, x0), (1, x1), (13, x6)]) h := (k_reg (by kernel_rfl)).trans (by kernel_rfl)
theorem b27_rlrrrr {β : Type} {inv : Inv} {k : Nat} {x0 x1 x13 : Value} {h : AH} {K : XE → Act → AH → Option β} : kCode env 27 false inv k (cr (cl (cr (cr (cr (cr c27)))))) (act 20 [(0, x0), (1, x1), (13, x13)]) h K = brV x13 (kCode env 27 false inv k (cl (cr (cl (cr (cr (cr (cr c27))))))) (act 20 [(0, x0), (1, x1), (13, x13)]) h K) (kCode env 27 false inv k (cr (cr (cl (cr (cr (cr (cr c27))))))) (act 20 [(0, x0), (1, x1), (13, x13)]) h K) := (k_cond (by kernel_rfl)).trans (by kernel_rfl)
theorem r27_8 {β : Type} {inv : Inv} {k : Nat} {x0 x1 x13 : Value} {h : AH} {K : XE → Act → AH → Option β} : kCode env 27 false inv k (cl (cl (cr (cl (cr (cr (cr (cr c27)))))))) (act 20 [(0, x0), (1, x1), (13, x13)]) h K =
    K .normal (act 20 [(4, (Go.Value.int Go.IntKind.i64 1))]) h := (k_reg (by kernel_rfl)).trans (by kernel_rfl)
theorem r27_9 {β : Type} {inv : Inv} {k : Nat} {x0 x1 x13 : Value} {h : AH} {K : XE → Act → AH → Option β} : kCode env 27 false inv k (cl (cl (cr (cr (cr (cr (cr c27))))))) (act 20 [(0, x0), (1, x1), (13, x13)]) h K =
    bnd (pBin Try.prog Go.BinOp.lss 3 (Go.Operand.tmp 14) (Go.Operand.tmp 15) x0 x1) fun x16 =>
    K .normal (act 20 [(0, x0), (1, x1), (16, x16)]) h := (k_reg (by kernel_rfl)).trans (by kernel_rfl)
theorem b27_rlrrrrr {β : Type} {inv : Inv} {k : Nat} {x0 x1 x16 : Value} {h : AH} {K : XE → Act → AH → Option β} : kCode env 27 false inv k (cr (cl (cr (cr (cr (cr (cr c27))))))) (act 20 [(0, x0), (1, x1), (16, x16)]) h K = brV x16 (kCode env 27 false inv k (cl (cr (cl (cr (cr (cr (cr (cr c27)))))))) (act 20 [(0, x0), (1, x1), (16, x16)]) h K) (kCode env 27 false inv k (cr (cr (cl (cr (cr (cr (cr (cr c27)))))))) (act 20 [(0, x0), (1, x1), (16, x16)]) h K) := (k_cond (by kernel_rfl)).trans (by kernel_rfl)
theorem r27_10 {β : Type} {inv : Inv} {k : Nat} {x0 x1 x16 : Value} {h : AH} {K : XE → Act → AH → Option β} : kCode env 27 false inv k (cl (cl (cr (cl (cr (cr (cr (cr (cr c27))))))))) (act 20 [(0, x0), (1, x1), (16, x16)]) h K =
    K .normal (act 20 [(4, (Go.Value.int Go.IntKind.i64 (-1)))]) h := (k_reg (by kernel_rfl)).trans (by kernel_rfl)
theorem r27_11 {β : Type} {inv : Inv} {k : Nat} {x0 x1 x16 : Value} {h : AH} {K : XE → Act → AH → Option β} : kCode env 27 false inv k (cl (cl (cr (cr (cr (cr (cr (cr c27)))))))) (act 20 [(0, x0), (1, x1), (16, x16)]) h K =
    bnd (pBin Try.prog Go.BinOp.gtr 3 (Go.Operand.tmp 17) (Go.Operand.tmp 18) x0 x1) fun x19 =>
    K .normal (act 20 [(19, x19)]) h := (k_reg (by kernel_rfl)).trans (by kernel_rfl)
theorem b27_rlrrrrrr {β : Type} {inv : Inv} {k : Nat} {x19 : Value} {h : AH} {K : XE → Act → AH → Option β} : kCode env 27 false inv k (cr (cl (cr (cr (cr (cr (cr (cr c27)))))))) (act 20 [(19, x19)]) h K = brV x19 (kCode env 27 false inv k (cl (cr (cl (cr (cr (cr (cr (cr (cr c27))))))))) (act 20 [(19, x19)]) h K) (kCode env 27 false inv k (cr (cr (cl (cr (cr (cr (cr (cr (cr c27))))))))) (act 20 [(19, x19)]) h K) := (k_cond (by kernel_rfl)).trans (by kernel_rfl)
theorem r27_12 {β : Type} {inv : Inv} {k : Nat} {x19 : Value} {h : AH} {K : XE → Act → AH → Option β} : kCode env 27 false inv k (cl (cl (cr (cl (cr (cr (cr (cr (cr (cr c27)))))))))) (act 20 [(19, x19)]) h K =
    K .normal (act 20 [(4, (Go.Value.int Go.IntKind.i64 1))]) h := (k_reg (by kernel_rfl)).trans (by kernel_rfl)
theorem r27_13 {β : Type} {inv : Inv} {k : Nat} {x19 : Value} {h : AH} {K : XE → Act → AH → Option β} : kCode env 27 false inv k (cl (cr (cr (cr (cr (cr (cr (cr c27)))))))) (act 20 [(19, x19)]) h K =
    K .normal (act 20 [(4, (Go.Value.int Go.IntKind.i64 0))]) h := (k_reg (by kernel_rfl)).trans (by kernel_rfl)
/-- cmp.Compare[int] -/
noncomputable def F27 (inv : Inv) (k : Nat) (x0 x1 : Value) (h : AH) : Option (Value × AH) :=
    bnd (inv (.func 53) #[] #[x0] h) fun x8 =>
    bnd (inv (.func 53) #[] #[x1] x8.2) fun x10 =>
    brV x8.1
    (brV x10.1
    (some ((Go.Value.int Go.IntKind.i64 0), x10.2))
    (some ((Go.Value.int Go.IntKind.i64 (-1)), x10.2)))
    (brV x10.1
    (some ((Go.Value.int Go.IntKind.i64 1), x10.2))
    (bnd (pBin Try.prog Go.BinOp.lss 3 (Go.Operand.tmp 14) (Go.Operand.tmp 15) x0 x1) fun x16 =>
    brV x16
    (some ((Go.Value.int Go.IntKind.i64 (-1)), x10.2))
    (bnd (pBin Try.prog Go.BinOp.gtr 3 (Go.Operand.tmp 17) (Go.Operand.tmp 18) x0 x1) fun x19 =>
    brV x19
    (some ((Go.Value.int Go.IntKind.i64 1), x10.2))
    (some ((Go.Value.int Go.IntKind.i64 0), x10.2)))))
theorem F27_eq {inv : Inv} {k : Nat} {x0 x1 : Value} {h : AH} : eFun env k inv 27 #[x0, x1] h = F27 inv k x0 x1 h := by
      refine (eFun_k2 (by kernel_rfl) (by kernel_rfl) (by kernel_rfl) (a := act 20 [(0, x0), (1, x1)]) (c := c27) (by kernel_rfl) (by kernel_rfl)).trans ?_
      unfold F27
      simp only [k_seq (E := env) (f := 27) (c := c27) (by kernel_rfl), r27_0, k_seq (E := env) (f := 27) (c := (cr c27)) (by kernel_rfl), r27_1, k_seq (E := env) (f := 27) (c := (cr (cr c27))) (by kernel_rfl), r27_2, k_seq (E := env) (f := 27) (c := (cr (cr (cr c27)))) (by kernel_rfl), k_seq (E := env) (f := 27) (c := (cl (cr (cr (cr c27))))) (by kernel_rfl), r27_3, b27_rlrrr, k_seq (E := env) (f := 27) (c := (cl (cr (cl (cr (cr (cr c27))))))) (by kernel_rfl), k_seq (E := env) (f := 27) (c := (cl (cl (cr (cl (cr (cr (cr c27)))))))) (by kernel_rfl), r27_4, b27_rllrlrrr, k_seq (E := env) (f := 27) (c := (cl (cr (cl (cl (cr (cl (cr (cr (cr c27)))))))))) (by kernel_rfl), r27_5, k_ret (E := env) (f := 27) (c := (cr (cl (cr (cl (cl (cr (cl (cr (cr (cr c27))))))))))) (by kernel_rfl), res27_0, k_skip (E := env) (f := 27) (c := (cr (cr (cl (cl (cr (cl (cr (cr (cr c27)))))))))) (by kernel_rfl), k_seq (E := env) (f := 27) (c := (cr (cl (cr (cl (cr (cr (cr c27)))))))) (by kernel_rfl), r27_6, k_ret (E := env) (f := 27) (c := (cr (cr (cl (cr (cl (cr (cr (cr c27))))))))) (by kernel_rfl), k_skip (E := env) (f := 27) (c := (cr (cr (cl (cr (cr (cr c27))))))) (by kernel_rfl), k_seq (E := env) (f := 27) (c := (cr (cr (cr (cr c27))))) (by kernel_rfl), k_seq (E := env) (f := 27) (c := (cl (cr (cr (cr (cr c27)))))) (by kernel_rfl), r27_7, b27_rlrrrr, k_seq (E := env) (f := 27) (c := (cl (cr (cl (cr (cr (cr (cr c27)))))))) (by kernel_rfl), r27_8, k_ret (E := env) (f := 27) (c := (cr (cl (cr (cl (cr (cr (cr (cr c27))))))))) (by kernel_rfl), k_skip (E := env) (f := 27) (c := (cr (cr (cl (cr (cr (cr (cr c27)))))))) (by kernel_rfl), k_seq (E := env) (f := 27) (c := (cr (cr (cr (cr (cr c27)))))) (by kernel_rfl), k_seq (E := env) (f := 27) (c := (cl (cr (cr (cr (cr (cr c27))))))) (by kernel_rfl), r27_9, b27_rlrrrrr, k_seq (E := env) (f := 27) (c := (cl (cr (cl (cr (cr (cr (cr (cr c27))))))))) (by kernel_rfl), r27_10, k_ret (E := env) (f := 27) (c := (cr (cl (cr (cl (cr (cr (cr (cr (cr c27)))))))))) (by kernel_rfl), k_skip (E := env) (f := 27) (c := (cr (cr (cl (cr (cr (cr (cr (cr c27))))))))) (by kernel_rfl), k_seq (E := env) (f := 27) (c := (cr (cr (cr (cr (cr (cr c27))))))) (by kernel_rfl), k_seq (E := env) (f := 27) (c := (cl (cr (cr (cr (cr (cr (cr c27)))))))) (by kernel_rfl), r27_11, b27_rlrrrrrr, k_seq (E := env) (f := 27) (c := (cl (cr (cl (cr (cr (cr (cr (cr (cr c27)))))))))) (by kernel_rfl), r27_12, k_ret (E := env) (f := 27) (c := (cr (cl (cr (cl (cr (cr (cr (cr (cr (cr c27))))))))))) (by kernel_rfl), k_skip (E := env) (f := 27) (c := (cr (cr (cl (cr (cr (cr (cr (cr (cr c27)))))))))) (by kernel_rfl), k_seq (E := env) (f := 27) (c := (cr (cr (cr (cr (cr (cr (cr c27)))))))) (by kernel_rfl), r27_13, k_ret (E := env) (f := 27) (c := (cr (cr (cr (cr (cr (cr (cr (cr c27))))))))) (by kernel_rfl), reduceIte, reduceCtorEq, XE.exit.injEq, Nat.reduceEqDiff] <;> kernel_rfl
noncomputable def c28 : Code := codeOf Try.prog 28
theorem r28_0 {β : Type} {inv : Inv} {k : Nat} {x0 : Value} {h : AH} {K : XE → Act → AH → Option β} : kCode env 28 false inv k (cl c28) (act 25 [(0, x0)]) h K =
    K .normal (act 25 [(0, x0)]) h := (k_reg (by kernel_rfl)).trans (by kernel_rfl)
theorem r28_1 {β : Type} {inv : Inv} {k : Nat} {x0 : Value} {h : AH} {K : XE → Act → AH → Option β} : kCode env 28 false inv k (cl (cl (cr c28))) (act 25 [(0, x0)]) h K =
    bnd (pLen Try.prog #[25] x0 h) fun x6 =>
    bnd (pBin Try.prog Go.BinOp.lss 3 (Go.Operand.tmp 6) (Go.Operand.const (Go.Value.int Go.IntKind.i64 1)) x6 (Go.Value.int Go.IntKind.i64 1)) fun x7 =>
    K .normal (act 25 [(0, x0), (7, x7)]) h := (k_reg (by kernel_rfl)).trans (by kernel_rfl)
theorem b28_rlr {β : Type} {inv : Inv} {k : Nat} {x0 x7 : Value} {h : AH} {K : XE → Act → AH → Option β} : kCode env 28 false inv k (cr (cl (cr c28))) (act 25 [(0, x0), (7, x7)]) h K = brV x7 (kCode env 28 false inv k (cl (cr (cl (cr c28)))) (act 25 [(0, x0), (7, x7)]) h K) (kCode env 28 false inv k (cr (cr (cl (cr c28)))) (act 25 [(0, x0), (7, x7)]) h K) := (k_cond (by kernel_rfl)).trans (by kernel_rfl)
theorem r28_2 {β : Type} {inv : Inv} {k : Nat} {x0 x7 : Value} {h : AH} {K : XE → Act → AH → Option β} : kCode env 28 false inv k (cl (cr (cl (cr c28)))) (act 25 [(0, x0), (7, x7)]) h K =
    bnd (pMakeIface Try.prog 9 (Go.Value.string { data := #[115, 108, 105, 99, 101, 115, 46, 77, 105, 110, 58, 32, 101, 109, 112, 116, 121, 32, 108, 105, 115, 116] })) fun x8 =>
    bnd ((none : Option (Value × AH))) fun u =>
    K .normal (act 25 [(0, x0)]) u.2 := (k_reg (by kernel_rfl)).trans (by kernel_rfl)
noncomputable def F28_rlr {β : Type} (inv : Inv) (k : Nat) (x0 x7 : Value) (h : AH) (kn : (Value → Value → AH → Option β)) : Option β :=
    brV x7
    (bnd (pMakeIface Try.prog 9 (Go.Value.string { data := #[115, 108, 105, 99, 101, 115, 46, 77, 105, 110, 58, 32, 101, 109, 112, 116, 121, 32, 108, 105, 115, 116] })) fun x8 =>
    bnd ((none : Option (Value × AH))) fun u =>
    kn x0 unk u.2)
    (kn x0 x7 h)
theorem F28_rlr_eq {β : Type} {inv : Inv} {k : Nat} {x0 x7 : Value} {h : AH} {K : XE → Act → AH → Option β} : kCode env 28 false inv k (cr (cl (cr c28))) (act 25 [(0, x0), (7, x7)]) h K = F28_rlr inv k x0 x7 h (fun y0 y7 h => K .normal (act 25 [(0, y0), (7, y7)]) h) := by
      unfold F28_rlr
      simp only [b28_rlr, r28_2, k_skip (E := env) (f := 28) (c := (cr (cr (cl (cr c28))))) (by kernel_rfl), reduceIte, reduceCtorEq, XE.exit.injEq, Nat.reduceEqDiff] <;> kernel_rfl
theorem r28_3 {β : Type} {inv : Inv} {k : Nat} {x0 x7 : Value} {h : AH} {K : XE → Act → AH → Option β} : kCode env 28 false inv k (cl (cr (cr c28))) (act 25 [(0, x0), (7, x7)]) h K =
    bnd (pIndexAddr Try.prog 25 x0 (Go.Value.int Go.IntKind.i64 0)) fun x10 =>
    bnd (pLoad Try.prog 2 x10 h) fun x11 =>
    K .normal (act 25 [(0, x0), (3, x11)]) h := (k_reg (by kernel_rfl)).trans (by kernel_rfl)
theorem r28_4 {β : Type} {inv : Inv} {k : Nat} {x0 x3 : Value} {h : AH} {K : XE → Act → AH → Option β} : kCode env 28 false inv k (cl (cl (cr (cr (cr c28))))) (act 25 [(0, x0), (3, x3)]) h K =
    K .normal (act 25 [(0, x0), (3, x3), (4, (Go.Value.int Go.IntKind.i64 1))]) h := (k_reg (by kernel_rfl)).trans (by kernel_rfl)
theorem r28_5 {β : Type} {inv : Inv} {k : Nat} {x0 x3 x4 : Value} {h : AH} {K : XE → Act → AH → Option β} : kCode env 28 false inv k (cl (cl (cl (cl (cr (cl (cr (cr (cr c28))))))))) (act 25 [(0, x0), (3, x3), (4, x4)]) h K =
    bnd (pLen Try.prog #[25] x0 h) fun x14 =>
    bnd (pBin Try.prog Go.BinOp.lss 3 (Go.Operand.tmp 12) (Go.Operand.tmp 14) x4 x14) fun x15 =>
    K .normal (act 25 [(0, x0), (3, x3), (4, x4), (15, x15)]) h := (k_reg (by kernel_rfl)).trans (by kernel_rfl)
theorem b28_rlllrlrrr {β : Type} {inv : Inv} {k : Nat} {x0 x3 x4 x15 : Value} {h : AH} {K : XE → Act → AH → Option β} : kCode env 28 false inv k (cr (cl (cl (cl (cr (cl (cr (cr (cr c28))))))))) (act 25 [(0, x0), (3, x3), (4, x4), (15, x15)]) h K = brV x15 (kCode env 28 false inv k (cl (cr (cl (cl (cl (cr (cl (cr (cr (cr c28)))))))))) (act 25 [(0, x0), (3, x3), (4, x4), (15, x15)]) h K) (kCode env 28 false inv k (cr (cr (cl (cl (cl (cr (cl (cr (cr (cr c28)))))))))) (act 25 [(0, x0), (3, x3), (4, x4), (15, x15)]) h K) := (k_cond (by kernel_rfl)).trans (by kernel_rfl)
theorem r28_7 {β : Type} {inv : Inv} {k : Nat} {x0 x3 x4 x15 : Value} {h : AH} {K : XE → Act → AH → Option β} : kCode env 28 false inv k (cl (cl (cr (cl (cl (cr (cl (cr (cr (cr c28)))))))))) (act 25 [(0, x0), (3, x3), (4, x4), (15, x15)]) h K =
    bnd (pIndexAddr Try.prog 25 x0 x4) fun x21 =>
    bnd (pLoad Try.prog 2 x21 h) fun x22 =>
    bnd (pMinMax Try.prog false #[x3, x22]) fun x23 =>
    K .normal (act 25 [(0, x0), (3, x23), (4, x4)]) h := (k_reg (by kernel_rfl)).trans (by kernel_rfl)
theorem r28_6 {β : Type} {inv : Inv} {k : Nat} {x0 x3 x4 : Value} {h : AH} {K : XE → Act → AH → Option β} : kCode env 28 false inv k (cr (cr (cl (cl (cr (cl (cr (cr (cr c28))))))))) (act 25 [(0, x0), (3, x3), (4, x4)]) h K =
    bnd (pBin Try.prog Go.BinOp.add 3 (Go.Operand.tmp 16) (Go.Operand.const (Go.Value.int Go.IntKind.i64 1)) x4 (Go.Value.int Go.IntKind.i64 1)) fun x17 =>
    K .normal (act 25 [(0, x0), (3, x3), (4, x17)]) h := (k_reg (by kernel_rfl)).trans (by kernel_rfl)
noncomputable def F28_lrlrrr {β : Type} (inv : Inv) (k : Nat) : Nat → Value → Value → Value → AH → (Value → Value → Value → Value → AH → Option β) → Option β
  | 0, _, _, _, _, _ => none
  | j + 1, x0, x3, x4, h, ke0 =>
    bnd (pLen Try.prog #[25] x0 h) fun x14 =>
    bnd (pBin Try.prog Go.BinOp.lss 3 (Go.Operand.tmp 12) (Go.Operand.tmp 14) x4 x14) fun x15 =>
    brV x15
    (bnd (pIndexAddr Try.prog 25 x0 x4) fun x21 =>
    bnd (pLoad Try.prog 2 x21 h) fun x22 =>
    bnd (pMinMax Try.prog false #[x3, x22]) fun x23 =>
    bnd (pBin Try.prog Go.BinOp.add 3 (Go.Operand.tmp 16) (Go.Operand.const (Go.Value.int Go.IntKind.i64 1)) x4 (Go.Value.int Go.IntKind.i64 1)) fun x17 =>
    F28_lrlrrr inv k j x0 x23 x17 h ke0)
    (ke0 x0 x3 x4 x15 h)
theorem F28_lrlrrr_j {β : Type} {inv : Inv} {k : Nat} (j : Nat) {x0 x3 x4 : Value} {h : AH} {K : XE → Act → AH → Option β} : kLoop (kCode env 28 false inv k (cl (cl (cr (cl (cr (cr (cr c28)))))))) j (act 25 [(0, x0), (3, x3), (4, x4)]) h K = F28_lrlrrr inv k j x0 x3 x4 h (fun y0 y3 y4 y15 h => K (.exit 0) (act 25 [(0, y0), (3, y3), (4, y4), (15, y15)]) h) := by
      induction j generalizing x0 x3 x4 h with
      | zero => rfl
      | succ j ih =>
        unfold F28_lrlrrr
        simp only [kLoop, k_seq (E := env) (f := 28) (c := (cl (cl (cr (cl (cr (cr (cr c28)))))))) (by kernel_rfl), k_seq (E := env) (f := 28) (c := (cl (cl (cl (cr (cl (cr (cr (cr c28))))))))) (by kernel_rfl), r28_5, b28_rlllrlrrr, k_skip (E := env) (f := 28) (c := (cl (cr (cl (cl (cl (cr (cl (cr (cr (cr c28))))))))))) (by kernel_rfl), k_seq (E := env) (f := 28) (c := (cr (cl (cl (cr (cl (cr (cr (cr c28))))))))) (by kernel_rfl), k_block (E := env) (f := 28) (c := (cl (cr (cl (cl (cr (cl (cr (cr (cr c28)))))))))) (id := 1) (by kernel_rfl), r28_7, r28_6, k_exit (E := env) (f := 28) (c := (cr (cr (cl (cl (cl (cr (cl (cr (cr (cr c28))))))))))) (id := 0) (by kernel_rfl), ih, reduceIte, reduceCtorEq, XE.exit.injEq, Nat.reduceEqDiff] <;> kernel_rfl
theorem F28_lrlrrr_eq {β : Type} {inv : Inv} {k : Nat} {x0 x3 x4 : Value} {h : AH} {K : XE → Act → AH → Option β} : kCode env 28 false inv k (cl (cr (cl (cr (cr (cr c28)))))) (act 25 [(0, x0), (3, x3), (4, x4)]) h K = F28_lrlrrr inv k k x0 x3 x4 h (fun y0 y3 y4 y15 h => K (.exit 0) (act 25 [(0, y0), (3, y3), (4, y4), (15, y15)]) h) := (k_loop (by kernel_rfl)).trans (F28_lrlrrr_j k)
theorem r28_8 {β : Type} {inv : Inv} {k : Nat} {x0 x3 x4 x15 : Value} {h : AH} {K : XE → Act → AH → Option β} : kCode env 28 false inv k (cl (cr (cr (cr (cr c28))))) (act 25 [(0, x0), (3, x3), (4, x4), (15, x15)]) h K =
    K .normal (act 25 [(2, x3)]) h := (k_reg (by kernel_rfl)).trans (by kernel_rfl)
theorem res28_0 {x2 : Value} {h : AH} : resOfFn env.P 28 .ret (act 25 [(2, x2)]) h = some (x2, h) := (resOfFn_k (by kernel_rfl) (by kernel_rfl)).trans (by kernel_rfl)
/-- slices.Min[[]int64,int64] -/
noncomputable def F28 (inv : Inv) (k : Nat) (x0 : Value) (h : AH) : Option (Value × AH) :=
    bnd (pLen Try.prog #[25] x0 h) fun x6 =>
    bnd (pBin Try.prog Go.BinOp.lss 3 (Go.Operand.tmp 6) (Go.Operand.const (Go.Value.int Go.IntKind.i64 1)) x6 (Go.Value.int Go.IntKind.i64 1)) fun x7 =>
    F28_rlr inv k x0 x7 h
    (fun y0 y7 h =>
    bnd (pIndexAddr Try.prog 25 y0 (Go.Value.int Go.IntKind.i64 0)) fun x10 =>
    bnd (pLoad Try.prog 2 x10 h) fun x11 =>
    F28_lrlrrr inv k k y0 x11 (Go.Value.int Go.IntKind.i64 1) h
    (fun y0_1 y3 y4 y15 h_2 =>
    some (y3, h_2)))
theorem F28_eq {inv : Inv} {k : Nat} {x0 : Value} {h : AH} : eFun env k inv 28 #[x0] h = F28 inv k x0 h := by
      refine (eFun_k2 (by kernel_rfl) (by kernel_rfl) (by kernel_rfl) (a := act 25 [(0, x0)]) (c := c28) (by kernel_rfl) (by kernel_rfl)).trans ?_
      unfold F28
      simp only [k_seq (E := env) (f := 28) (c := c28) (by kernel_rfl), r28_0, k_seq (E := env) (f := 28) (c := (cr c28)) (by kernel_rfl), k_seq (E := env) (f := 28) (c := (cl (cr c28))) (by kernel_rfl), r28_1, F28_rlr_eq, k_seq (E := env) (f := 28) (c := (cr (cr c28))) (by kernel_rfl), r28_3, k_seq (E := env) (f := 28) (c := (cr (cr (cr c28)))) (by kernel_rfl), k_seq (E := env) (f := 28) (c := (cl (cr (cr (cr c28))))) (by kernel_rfl), r28_4, k_block (E := env) (f := 28) (c := (cr (cl (cr (cr (cr c28)))))) (id := 0) (by kernel_rfl), F28_lrlrrr_eq, k_seq (E := env) (f := 28) (c := (cr (cr (cr (cr c28))))) (by kernel_rfl), r28_8, k_ret (E := env) (f := 28) (c := (cr (cr (cr (cr (cr c28)))))) (by kernel_rfl), res28_0, reduceIte, reduceCtorEq, XE.exit.injEq, Nat.reduceEqDiff] <;> kernel_rfl
noncomputable def c29 : Code := codeOf Try.prog 29
theorem r29_0 {β : Type} {inv : Inv} {k : Nat} {x0 : Value} {h : AH} {K : XE → Act → AH → Option β} : kCode env 29 false inv k (cl c29) (act 18 [(0, x0)]) h K =
    K .normal (act 18 [(0, x0)]) h := (k_reg (by kernel_rfl)).trans (by kernel_rfl)
theorem r29_1 {β : Type} {inv : Inv} {k : Nat} {x0 : Value} {h : AH} {K : XE → Act → AH → Option β} : kCode env 29 false inv k (cl (cr c29)) (act 18 [(0, x0)]) h K =
    K .normal (act 18 [(0, x0), (3, (Go.Value.int Go.IntKind.u64 0))]) h := (k_reg (by kernel_rfl)).trans (by kernel_rfl)
theorem r29_2 {β : Type} {inv : Inv} {k : Nat} {x0 x3 : Value} {h : AH} {K : XE → Act → AH → Option β} : kCode env 29 false inv k (cl (cl (cr (cr c29)))) (act 18 [(0, x0), (3, x3)]) h K =
    bnd (pLen Try.prog #[50] x0 h) fun x7 =>
    K .normal (act 18 [(3, x3), (6, x0), (7, x7), (8, (Go.Value.int Go.IntKind.i64 0))]) h := (k_reg (by kernel_rfl)).trans (by kernel_rfl)
theorem r29_3 {β : Type} {inv : Inv} {k : Nat} {x3 x6 x7 x8 : Value} {h : AH} {K : XE → Act → AH → Option β} : kCode env 29 false inv k (cl (cl (cl (cr (cl (cr (cr c29))))))) (act 18 [(3, x3), (6, x6), (7, x7), (8, x8)]) h K =
    bnd (pBin Try.prog Go.BinOp.lss 3 (Go.Operand.tmp 8) (Go.Operand.tmp 7) x8 x7) fun x9 =>
    K .normal (act 18 [(3, x3), (6, x6), (7, x7), (8, x8), (9, x9)]) h := (k_reg (by kernel_rfl)).trans (by kernel_rfl)
theorem b29_lrllrlrr {β : Type} {inv : Inv} {k : Nat} {x3 x6 x7 x8 x9 : Value} {h : AH} {K : XE → Act → AH → Option β} : kCode env 29 false inv k (cl (cr (cl (cl (cr (cl (cr (cr c29)))))))) (act 18 [(3, x3), (6, x6), (7, x7), (8, x8), (9, x9)]) h K = brV x9 (kCode env 29 false inv k (cl (cl (cr (cl (cl (cr (cl (cr (cr c29))))))))) (act 18 [(3, x3), (6, x6), (7, x7), (8, x8), (9, x9)]) h K) (kCode env 29 false inv k (cr (cl (cr (cl (cl (cr (cl (cr (cr c29))))))))) (act 18 [(3, x3), (6, x6), (7, x7), (8, x8), (9, x9)]) h K) := (k_cond (by kernel_rfl)).trans (by kernel_rfl)
theorem r29_4 {β : Type} {inv : Inv} {k : Nat} {x3 x6 x7 x8 x9 : Value} {h : AH} {K : XE → Act → AH → Option β} : kCode env 29 false inv k (cl (cl (cl (cr (cr (cl (cl (cr (cl (cr (cr c29))))))))))) (act 18 [(3, x3), (6, x6), (7, x7), (8, x8), (9, x9)]) h K =
    bnd (pIndexAddr Try.prog 50 x6 x8) fun x10 =>
    bnd (pLoad Try.prog 51 x10 h) fun x11 =>
    K .normal (act 18 [(3, x3), (5, x11), (6, x6), (7, x7), (8, x8)]) h := (k_reg (by kernel_rfl)).trans (by kernel_rfl)
theorem r29_5 {β : Type} {inv : Inv} {k : Nat} {x3 x5 x6 x7 x8 : Value} {h : AH} {K : XE → Act → AH → Option β} : kCode env 29 false inv k (cr (cl (cl (cr (cr (cl (cl (cr (cl (cr (cr c29))))))))))) (act 18 [(3, x3), (5, x5), (6, x6), (7, x7), (8, x8)]) h K =
    bnd (pBin Try.prog Go.BinOp.or 51 (Go.Operand.tmp 12) (Go.Operand.tmp 13) x3 x5) fun x14 =>
    K .normal (act 18 [(3, x14), (6, x6), (7, x7), (8, x8)]) h := (k_reg (by kernel_rfl)).trans (by kernel_rfl)
theorem r29_6 {β : Type} {inv : Inv} {k : Nat} {x3 x6 x7 x8 : Value} {h : AH} {K : XE → Act → AH → Option β} : kCode env 29 false inv k (cr (cr (cr (cl (cl (cr (cl (cr (cr c29))))))))) (act 18 [(3, x3), (6, x6), (7, x7), (8, x8)]) h K =
    bnd (pBin Try.prog Go.BinOp.add 3 (Go.Operand.tmp 8) (Go.Operand.const (Go.Value.int Go.IntKind.i64 1)) x8 (Go.Value.int Go.IntKind.i64 1)) fun x15 =>
    K .normal (act 18 [(3, x3), (6, x6), (7, x7), (8, x15)]) h := (k_reg (by kernel_rfl)).trans (by kernel_rfl)
noncomputable def F29_lrlrr {β : Type} (inv : Inv) (k : Nat) : Nat → Value → Value → Value → Value → AH → (Value → Value → Value → Value → Value → AH → Option β) → Option β
  | 0, _, _, _, _, _, _ => none
  | j + 1, x3, x6, x7, x8, h, ke0 =>
    bnd (pBin Try.prog Go.BinOp.lss 3 (Go.Operand.tmp 8) (Go.Operand.tmp 7) x8 x7) fun x9 =>
    brV x9
    (bnd (pIndexAddr Try.prog 50 x6 x8) fun x10 =>
    bnd (pLoad Try.prog 51 x10 h) fun x11 =>
    bnd (pBin Try.prog Go.BinOp.or 51 (Go.Operand.tmp 12) (Go.Operand.tmp 13) x3 x11) fun x14 =>
    bnd (pBin Try.prog Go.BinOp.add 3 (Go.Operand.tmp 8) (Go.Operand.const (Go.Value.int Go.IntKind.i64 1)) x8 (Go.Value.int Go.IntKind.i64 1)) fun x15 =>
    F29_lrlrr inv k j x14 x6 x7 x15 h ke0)
    (ke0 x3 x6 x7 x8 x9 h)
theorem F29_lrlrr_j {β : Type} {inv : Inv} {k : Nat} (j : Nat) {x3 x6 x7 x8 : Value} {h : AH} {K : XE → Act → AH → Option β} : kLoop (kCode env 29 false inv k (cl (cl (cr (cl (cr (cr c29))))))) j (act 18 [(3, x3), (6, x6), (7, x7), (8, x8)]) h K = F29_lrlrr inv k j x3 x6 x7 x8 h (fun y3 y6 y7 y8 y9 h => K (.exit 0) (act 18 [(3, y3), (6, y6), (7, y7), (8, y8), (9, y9)]) h) := by
      induction j generalizing x3 x6 x7 x8 h with
      | zero => rfl
      | succ j ih =>
        unfold F29_lrlrr
        simp only [kLoop, k_seq (E := env) (f := 29) (c := (cl (cl (cr (cl (cr (cr c29))))))) (by kernel_rfl), r29_3, k_seq (E := env) (f := 29) (c := (cr (cl (cl (cr (cl (cr (cr c29)))))))) (by kernel_rfl), b29_lrllrlrr, k_skip (E := env) (f := 29) (c := (cl (cl (cr (cl (cl (cr (cl (cr (cr c29)))))))))) (by kernel_rfl), k_seq (E := env) (f := 29) (c := (cr (cr (cl (cl (cr (cl (cr (cr c29))))))))) (by kernel_rfl), k_block (E := env) (f := 29) (c := (cl (cr (cr (cl (cl (cr (cl (cr (cr c29)))))))))) (id := 1) (by kernel_rfl), k_seq (E := env) (f := 29) (c := (cl (cl (cr (cr (cl (cl (cr (cl (cr (cr c29))))))))))) (by kernel_rfl), r29_4, r29_5, r29_6, k_exit (E := env) (f := 29) (c := (cr (cl (cr (cl (cl (cr (cl (cr (cr c29)))))))))) (id := 0) (by kernel_rfl), ih, reduceIte, reduceCtorEq, XE.exit.injEq, Nat.reduceEqDiff] <;> kernel_rfl
theorem F29_lrlrr_eq {β : Type} {inv : Inv} {k : Nat} {x3 x6 x7 x8 : Value} {h : AH} {K : XE → Act → AH → Option β} : kCode env 29 false inv k (cl (cr (cl (cr (cr c29))))) (act 18 [(3, x3), (6, x6), (7, x7), (8, x8)]) h K = F29_lrlrr inv k k x3 x6 x7 x8 h (fun y3 y6 y7 y8 y9 h => K (.exit 0) (act 18 [(3, y3), (6, y6), (7, y7), (8, y8), (9, y9)]) h) := (k_loop (by kernel_rfl)).trans (F29_lrlrr_j k)
theorem r29_7 {β : Type} {inv : Inv} {k : Nat} {x3 x6 x7 x8 x9 : Value} {h : AH} {K : XE → Act → AH → Option β} : kCode env 29 false inv k (cl (cr (cr (cr c29)))) (act 18 [(3, x3), (6, x6), (7, x7), (8, x8), (9, x9)]) h K =
    bnd (inv (.func 54) #[] #[x3] h) fun x17 =>
    K .normal (act 18 [(2, x17.1)]) x17.2 := (k_reg (by kernel_rfl)).trans (by kernel_rfl)
theorem res29_0 {x2 : Value} {h : AH} : resOfFn env.P 29 .ret (act 18 [(2, x2)]) h = some (x2, h) := (resOfFn_k (by kernel_rfl) (by kernel_rfl)).trans (by kernel_rfl)
/-- shadowbook/packs.Width -/
noncomputable def F29 (inv : Inv) (k : Nat) (x0 : Value) (h : AH) : Option (Value × AH) :=
    bnd (pLen Try.prog #[50] x0 h) fun x7 =>
    F29_lrlrr inv k k (Go.Value.int Go.IntKind.u64 0) x0 x7 (Go.Value.int Go.IntKind.i64 0) h
    (fun y3 y6 y7 y8 y9 h =>
    bnd (inv (.func 54) #[] #[y3] h) fun x17 =>
    some (x17.1, x17.2))
theorem F29_eq {inv : Inv} {k : Nat} {x0 : Value} {h : AH} : eFun env k inv 29 #[x0] h = F29 inv k x0 h := by
      refine (eFun_k2 (by kernel_rfl) (by kernel_rfl) (by kernel_rfl) (a := act 18 [(0, x0)]) (c := c29) (by kernel_rfl) (by kernel_rfl)).trans ?_
      unfold F29
      simp only [k_seq (E := env) (f := 29) (c := c29) (by kernel_rfl), r29_0, k_seq (E := env) (f := 29) (c := (cr c29)) (by kernel_rfl), r29_1, k_seq (E := env) (f := 29) (c := (cr (cr c29))) (by kernel_rfl), k_seq (E := env) (f := 29) (c := (cl (cr (cr c29)))) (by kernel_rfl), r29_2, k_block (E := env) (f := 29) (c := (cr (cl (cr (cr c29))))) (id := 0) (by kernel_rfl), F29_lrlrr_eq, k_seq (E := env) (f := 29) (c := (cr (cr (cr c29)))) (by kernel_rfl), r29_7, k_ret (E := env) (f := 29) (c := (cr (cr (cr (cr c29))))) (by kernel_rfl), res29_0, reduceIte, reduceCtorEq, XE.exit.injEq, Nat.reduceEqDiff] <;> kernel_rfl
noncomputable def c30 : Code := codeOf Try.prog 30
theorem r30_0 {β : Type} {inv : Inv} {k : Nat} {x0 x1 : Value} {h : AH} {K : XE → Act → AH → Option β} : kCode env 30 false inv k (cl c30) (act 54 [(0, x0), (1, x1)]) h K =
    K .normal (act 54 [(0, x0), (1, x1)]) h := (k_reg (by kernel_rfl)).trans (by kernel_rfl)
theorem r30_1 {β : Type} {inv : Inv} {k : Nat} {x0 x1 : Value} {h : AH} {K : XE → Act → AH → Option β} : kCode env 30 false inv k (cl (cl (cl (cr c30)))) (act 54 [(0, x0), (1, x1)]) h K =
    bnd (pLen Try.prog #[50] x0 h) fun x14 =>
    bnd (inv (.func 55) #[] #[x14, x1] h) fun x16 =>
    bnd (pUn Try.prog Go.UnOp.not x16.1) fun x17 =>
    K .normal (act 54 [(0, x0), (1, x1), (12, x17)]) x16.2 := (k_reg (by kernel_rfl)).trans (by kernel_rfl)
theorem b30_rllr {β : Type} {inv : Inv} {k : Nat} {x0 x1 x12 : Value} {h : AH} {K : XE → Act → AH → Option β} : kCode env 30 false inv k (cr (cl (cl (cr c30)))) (act 54 [(0, x0), (1, x1), (12, x12)]) h K = brV x12 (kCode env 30 false inv k (cl (cr (cl (cl (cr c30))))) (act 54 [(0, x0), (1, x1), (12, x12)]) h K) (kCode env 30 false inv k (cr (cr (cl (cl (cr c30))))) (act 54 [(0, x0), (1, x1), (12, x12)]) h K) := (k_cond (by kernel_rfl)).trans (by kernel_rfl)
theorem r30_2 {β : Type} {inv : Inv} {k : Nat} {x0 x1 x12 : Value} {h : AH} {K : XE → Act → AH → Option β} : kCode env 30 false inv k (cl (cl (cr (cl (cl (cr c30)))))) (act 54 [(0, x0), (1, x1), (12, x12)]) h K =
    K .normal (act 54 [(4, (Go.Value.slice none 0 0)), (5, (Go.Value.int Go.IntKind.i64 2))]) h := (k_reg (by kernel_rfl)).trans (by kernel_rfl)
theorem res30_0 {x4 x5 : Value} {h : AH} : resOfFn env.P 30 .ret (act 54 [(4, x4), (5, x5)]) h = some (.tuple #[x4, x5], h) := (resOfFn_k (by kernel_rfl) (by kernel_rfl)).trans (by kernel_rfl)
theorem r30_3 {β : Type} {inv : Inv} {k : Nat} {x0 x1 x12 : Value} {h : AH} {K : XE → Act → AH → Option β} : kCode env 30 false inv k (cl (cr (cr (cl (cl (cr c30)))))) (act 54 [(0, x0), (1, x1), (12, x12)]) h K =
    bnd (inv (.func 29) #[] #[x0] h) fun x20 =>
    bnd (pBin Try.prog Go.BinOp.gtr 3 (Go.Operand.tmp 20) (Go.Operand.tmp 21) x20.1 x1) fun x22 =>
    K .normal (act 54 [(0, x0), (1, x1), (18, x22)]) x20.2 := (k_reg (by kernel_rfl)).trans (by kernel_rfl)
theorem b30_rrrllr {β : Type} {inv : Inv} {k : Nat} {x0 x1 x18 : Value} {h : AH} {K : XE → Act → AH → Option β} : kCode env 30 false inv k (cr (cr (cr (cl (cl (cr c30)))))) (act 54 [(0, x0), (1, x1), (18, x18)]) h K = brV x18 (kCode env 30 false inv k (cl (cr (cr (cr (cl (cl (cr c30))))))) (act 54 [(0, x0), (1, x1), (18, x18)]) h K) (kCode env 30 false inv k (cr (cr (cr (cr (cl (cl (cr c30))))))) (act 54 [(0, x0), (1, x1), (18, x18)]) h K) := (k_cond (by kernel_rfl)).trans (by kernel_rfl)
theorem r30_4 {β : Type} {inv : Inv} {k : Nat} {x0 x1 x18 : Value} {h : AH} {K : XE → Act → AH → Option β} : kCode env 30 false inv k (cl (cl (cr (cr (cr (cl (cl (cr c30)))))))) (act 54 [(0, x0), (1, x1), (18, x18)]) h K =
    K .normal (act 54 [(4, (Go.Value.slice none 0 0)), (5, (Go.Value.int Go.IntKind.i64 3))]) h := (k_reg (by kernel_rfl)).trans (by kernel_rfl)
theorem r30_5 {β : Type} {inv : Inv} {k : Nat} {x0 x1 x18 : Value} {h : AH} {K : XE → Act → AH → Option β} : kCode env 30 false inv k (cl (cr (cr c30))) (act 54 [(0, x0), (1, x1), (18, x18)]) h K =
    bnd (pLen Try.prog #[50] x0 h) fun x24 =>
    bnd (inv (.func 56) #[] #[x24, x1] h) fun x26 =>
    bnd (pMakeSlice Try.prog 26 (Go.Value.int Go.IntKind.i64 0) x26.1 x26.2) fun x27 =>
    bnd (pAlloc Try.prog 26 x27.2) fun x6 =>
    bnd (kSt (pStore Try.prog 26 x6.1 x27.1 x6.2)) fun u =>
    K .normal (act 54 [(0, x0), (1, x1), (6, x6.1)]) u.2 := (k_reg (by kernel_rfl)).trans (by kernel_rfl)
theorem r30_6 {β : Type} {inv : Inv} {k : Nat} {x0 x1 x6 : Value} {h : AH} {K : XE → Act → AH → Option β} : kCode env 30 false inv k (cl (cr (cr (cr c30)))) (act 54 [(0, x0), (1, x1), (6, x6)]) h K =
    bnd (pAlloc Try.prog 5 h) fun x7 =>
    K .normal (act 54 [(0, x0), (1, x1), (6, x6), (7, x7.1)]) x7.2 := (k_reg (by kernel_rfl)).trans (by kernel_rfl)
theorem r30_7 {β : Type} {inv : Inv} {k : Nat} {x0 x1 x6 x7 : Value} {h : AH} {K : XE → Act → AH → Option β} : kCode env 30 false inv k (cl (cr (cr (cr (cr c30))))) (act 54 [(0, x0), (1, x1), (6, x6), (7, x7)]) h K =
    bnd (pAlloc Try.prog 3 h) fun x8 =>
    bnd (kSt (pStore Try.prog 3 x8.1 (Go.Value.int Go.IntKind.i64 0) x8.2)) fun u =>
    K .normal (act 54 [(0, x0), (1, x1), (6, x6), (7, x7), (8, x8.1)]) u.2 := (k_reg (by kernel_rfl)).trans (by kernel_rfl)
theorem r30_8 {β : Type} {inv : Inv} {k : Nat} {x0 x1 x6 x7 x8 : Value} {h : AH} {K : XE → Act → AH → Option β} : kCode env 30 false inv k (cl (cr (cr (cr (cr (cr c30)))))) (act 54 [(0, x0), (1, x1), (6, x6), (7, x7), (8, x8)]) h K =
    bnd (pMakeFunc (Go.Fn.func 57) #[] #[x7, x8, x6]) fun x28 =>
    K .normal (act 54 [(0, x0), (1, x1), (6, x6), (7, x7), (8, x8), (9, x28)]) h := (k_reg (by kernel_rfl)).trans (by kernel_rfl)
theorem r30_9 {β : Type} {inv : Inv} {k : Nat} {x0 x1 x6 x7 x8 x9 : Value} {h : AH} {K : XE → Act → AH → Option β} : kCode env 30 false inv k (cl (cl (cr (cr (cr (cr (cr (cr c30)))))))) (act 54 [(0, x0), (1, x1), (6, x6), (7, x7), (8, x8), (9, x9)]) h K =
    bnd (pLen Try.prog #[50] x0 h) fun x30 =>
    K .normal (act 54 [(1, x1), (6, x6), (7, x7), (8, x8), (9, x9), (29, x0), (30, x30), (31, (Go.Value.int Go.IntKind.i64 0))]) h := (k_reg (by kernel_rfl)).trans (by kernel_rfl)
theorem r30_10 {β : Type} {inv : Inv} {k : Nat} {x1 x6 x7 x8 x9 x29 x30 x31 : Value} {h : AH} {K : XE → Act → AH → Option β} : kCode env 30 false inv k (cl (cl (cl (cr (cl (cr (cr (cr (cr (cr (cr c30))))))))))) (act 54 [(1, x1), (6, x6), (7, x7), (8, x8), (9, x9), (29, x29), (30, x30), (31, x31)]) h K =
    bnd (pBin Try.prog Go.BinOp.lss 3 (Go.Operand.tmp 31) (Go.Operand.tmp 30) x31 x30) fun x32 =>
    K .normal (act 54 [(1, x1), (6, x6), (7, x7), (8, x8), (9, x9), (29, x29), (30, x30), (31, x31), (32, x32)]) h := (k_reg (by kernel_rfl)).trans (by kernel_rfl)
theorem b30_lrllrlrrrrrr {β : Type} {inv : Inv} {k : Nat} {x1 x6 x7 x8 x9 x29 x30 x31 x32 : Value} {h : AH} {K : XE → Act → AH → Option β} : kCode env 30 false inv k (cl (cr (cl (cl (cr (cl (cr (cr (cr (cr (cr (cr c30)))))))))))) (act 54 [(1, x1), (6, x6), (7, x7), (8, x8), (9, x9), (29, x29), (30, x30), (31, x31), (32, x32)]) h K = brV x32 (kCode env 30 false inv k (cl (cl (cr (cl (cl (cr (cl (cr (cr (cr (cr (cr (cr c30))))))))))))) (act 54 [(1, x1), (6, x6), (7, x7), (8, x8), (9, x9), (29, x29), (30, x30), (31, x31), (32, x32)]) h K) (kCode env 30 false inv k (cr (cl (cr (cl (cl (cr (cl (cr (cr (cr (cr (cr (cr c30))))))))))))) (act 54 [(1, x1), (6, x6), (7, x7), (8, x8), (9, x9), (29, x29), (30, x30), (31, x31), (32, x32)]) h K) := (k_cond (by kernel_rfl)).trans (by kernel_rfl)
theorem r30_11 {β : Type} {inv : Inv} {k : Nat} {x1 x6 x7 x8 x9 x29 x30 x31 x32 : Value} {h : AH} {K : XE → Act → AH → Option β} : kCode env 30 false inv k (cl (cl (cl (cr (cr (cl (cl (cr (cl (cr (cr (cr (cr (cr (cr c30))))))))))))))) (act 54 [(1, x1), (6, x6), (7, x7), (8, x8), (9, x9), (29, x29), (30, x30), (31, x31), (32, x32)]) h K =
    bnd (pIndexAddr Try.prog 50 x29 x31) fun x33 =>
    bnd (pLoad Try.prog 51 x33 h) fun x34 =>
    K .normal (act 54 [(1, x1), (6, x6), (7, x7), (8, x8), (9, x9), (11, x34), (29, x29), (30, x30), (31, x31)]) h := (k_reg (by kernel_rfl)).trans (by kernel_rfl)
theorem r30_12 {β : Type} {inv : Inv} {k : Nat} {x1 x6 x7 x8 x9 x11 x29 x30 x31 : Value} {h : AH} {K : XE → Act → AH → Option β} : kCode env 30 false inv k (cl (cr (cl (cl (cr (cr (cl (cl (cr (cl (cr (cr (cr (cr (cr (cr c30)))))))))))))))) (act 54 [(1, x1), (6, x6), (7, x7), (8, x8), (9, x9), (11, x11), (29, x29), (30, x30), (31, x31)]) h K =
    K .normal (act 54 [(1, x1), (6, x6), (7, x7), (8, x8), (9, x9), (11, x11), (29, x29), (30, x30), (31, x31), (35, x1), (36, (Go.Value.int Go.IntKind.i64 0))]) h := (k_reg (by kernel_rfl)).trans (by kernel_rfl)
theorem r30_13 {β : Type} {inv : Inv} {k : Nat} {x1 x6 x7 x8 x9 x11 x29 x30 x31 x35 x36 : Value} {h : AH} {K : XE → Act → AH → Option β} : kCode env 30 false inv k (cl (cl (cl (cr (cr (cl (cl (cr (cr (cl (cl (cr (cl (cr (cr (cr (cr (cr (cr c30))))))))))))))))))) (act 54 [(1, x1), (6, x6), (7, x7), (8, x8), (9, x9), (11, x11), (29, x29), (30, x30), (31, x31), (35, x35), (36, x36)]) h K =
    bnd (pBin Try.prog Go.BinOp.lss 3 (Go.Operand.tmp 36) (Go.Operand.tmp 35) x36 x35) fun x37 =>
    K .normal (act 54 [(1, x1), (6, x6), (7, x7), (8, x8), (9, x9), (11, x11), (29, x29), (30, x30), (31, x31), (35, x35), (36, x36), (37, x37)]) h := (k_reg (by kernel_rfl)).trans (by kernel_rfl)
theorem b30_lrllrrllrrllrlrrrrrr {β : Type} {inv : Inv} {k : Nat} {x1 x6 x7 x8 x9 x11 x29 x30 x31 x35 x36 x37 : Value} {h : AH} {K : XE → Act → AH → Option β} : kCode env 30 false inv k (cl (cr (cl (cl (cr (cr (cl (cl (cr (cr (cl (cl (cr (cl (cr (cr (cr (cr (cr (cr c30)))))))))))))))))))) (act 54 [(1, x1), (6, x6), (7, x7), (8, x8), (9, x9), (11, x11), (29, x29), (30, x30), (31, x31), (35, x35), (36, x36), (37, x37)]) h K = brV x37 (kCode env 30 false inv k (cl (cl (cr (cl (cl (cr (cr (cl (cl (cr (cr (cl (cl (cr (cl (cr (cr (cr (cr (cr (cr c30))))))))))))))))))))) (act 54 [(1, x1), (6, x6), (7, x7), (8, x8), (9, x9), (11, x11), (29, x29), (30, x30), (31, x31), (35, x35), (36, x36), (37, x37)]) h K) (kCode env 30 false inv k (cr (cl (cr (cl (cl (cr (cr (cl (cl (cr (cr (cl (cl (cr (cl (cr (cr (cr (cr (cr (cr c30))))))))))))))))))))) (act 54 [(1, x1), (6, x6), (7, x7), (8, x8), (9, x9), (11, x11), (29, x29), (30, x30), (31, x31), (35, x35), (36, x36), (37, x37)]) h K) := (k_cond (by kernel_rfl)).trans (by kernel_rfl)
theorem r30_14 {β : Type} {inv : Inv} {k : Nat} {x1 x6 x7 x8 x9 x11 x29 x30 x31 x35 x36 x37 : Value} {h : AH} {K : XE → Act → AH → Option β} : kCode env 30 false inv k (cl (cl (cl (cr (cr (cl (cl (cr (cr (cl (cl (cr (cr (cl (cl (cr (cl (cr (cr (cr (cr (cr (cr c30))))))))))))))))))))))) (act 54 [(1, x1), (6, x6), (7, x7), (8, x8), (9, x9), (11, x11), (29, x29), (30, x30), (31, x31), (35, x35), (36, x36), (37, x37)]) h K =
    bnd (pBin Try.prog Go.BinOp.and 51 (Go.Operand.tmp 39) (Go.Operand.const (Go.Value.int Go.IntKind.u64 1)) x11 (Go.Value.int Go.IntKind.u64 1)) fun x40 =>
    bnd (pConv Try.prog 51 5 x40 h) fun x41 =>
    bnd (callV inv x9 #[x41] h) fun x42 =>
    K .normal (act 54 [(1, x1), (6, x6), (7, x7), (8, x8), (9, x9), (11, x11), (29, x29), (30, x30), (31, x31), (35, x35), (36, x36)]) x42.2 := (k_reg (by kernel_rfl)).trans (by kernel_rfl)
theorem r30_15 {β : Type} {inv : Inv} {k : Nat} {x1 x6 x7 x8 x9 x11 x29 x30 x31 x35 x36 : Value} {h : AH} {K : XE → Act → AH → Option β} : kCode env 30 false inv k (cr (cl (cl (cr (cr (cl (cl (cr (cr (cl (cl (cr (cr (cl (cl (cr (cl (cr (cr (cr (cr (cr (cr c30))))))))))))))))))))))) (act 54 [(1, x1), (6, x6), (7, x7), (8, x8), (9, x9), (11, x11), (29, x29), (30, x30), (31, x31), (35, x35), (36, x36)]) h K =
    bnd (pBin Try.prog Go.BinOp.shr 51 (Go.Operand.tmp 43) (Go.Operand.const (Go.Value.int Go.IntKind.u64 1)) x11 (Go.Value.int Go.IntKind.u64 1)) fun x44 =>
    K .normal (act 54 [(1, x1), (6, x6), (7, x7), (8, x8), (9, x9), (11, x44), (29, x29), (30, x30), (31, x31), (35, x35), (36, x36)]) h := (k_reg (by kernel_rfl)).trans (by kernel_rfl)
theorem r30_16 {β : Type} {inv : Inv} {k : Nat} {x1 x6 x7 x8 x9 x11 x29 x30 x31 x35 x36 : Value} {h : AH} {K : XE → Act → AH → Option β} : kCode env 30 false inv k (cr (cr (cr (cl (cl (cr (cr (cl (cl (cr (cr (cl (cl (cr (cl (cr (cr (cr (cr (cr (cr c30))))))))))))))))))))) (act 54 [(1, x1), (6, x6), (7, x7), (8, x8), (9, x9), (11, x11), (29, x29), (30, x30), (31, x31), (35, x35), (36, x36)]) h K =
    bnd (pBin Try.prog Go.BinOp.add 3 (Go.Operand.tmp 36) (Go.Operand.const (Go.Value.int Go.IntKind.i64 1)) x36 (Go.Value.int Go.IntKind.i64 1)) fun x45 =>
    K .normal (act 54 [(1, x1), (6, x6), (7, x7), (8, x8), (9, x9), (11, x11), (29, x29), (30, x30), (31, x31), (35, x35), (36, x45)]) h := (k_reg (by kernel_rfl)).trans (by kernel_rfl)
noncomputable def F30_lrrllrrllrlrrrrrr {β : Type} (inv : Inv) (k : Nat) : Nat → Value → Value → Value → Value → Value → Value → Value → Value → Value → Value → Value → AH → (Value → Value → Value → Value → Value → Value → Value → Value → Value → Value → Value → Value → AH → Option β) → Option β
  | 0, _, _, _, _, _, _, _, _, _, _, _, _, _ => none
  | j + 1, x1, x6, x7, x8, x9, x11, x29, x30, x31, x35, x36, h, ke3 =>
    bnd (pBin Try.prog Go.BinOp.lss 3 (Go.Operand.tmp 36) (Go.Operand.tmp 35) x36 x35) fun x37 =>
    brV x37
    (bnd (pBin Try.prog Go.BinOp.and 51 (Go.Operand.tmp 39) (Go.Operand.const (Go.Value.int Go.IntKind.u64 1)) x11 (Go.Value.int Go.IntKind.u64 1)) fun x40 =>
    bnd (pConv Try.prog 51 5 x40 h) fun x41 =>
    bnd (callV inv x9 #[x41] h) fun x42 =>
    bnd (pBin Try.prog Go.BinOp.shr 51 (Go.Operand.tmp 43) (Go.Operand.const (Go.Value.int Go.IntKind.u64 1)) x11 (Go.Value.int Go.IntKind.u64 1)) fun x44 =>
    bnd (pBin Try.prog Go.BinOp.add 3 (Go.Operand.tmp 36) (Go.Operand.const (Go.Value.int Go.IntKind.i64 1)) x36 (Go.Value.int Go.IntKind.i64 1)) fun x45 =>
    F30_lrrllrrllrlrrrrrr inv k j x1 x6 x7 x8 x9 x44 x29 x30 x31 x35 x45 x42.2 ke3)
    (ke3 x1 x6 x7 x8 x9 x11 x29 x30 x31 x35 x36 x37 h)
theorem F30_lrrllrrllrlrrrrrr_j {β : Type} {inv : Inv} {k : Nat} (j : Nat) {x1 x6 x7 x8 x9 x11 x29 x30 x31 x35 x36 : Value} {h : AH} {K : XE → Act → AH → Option β} : kLoop (kCode env 30 false inv k (cl (cl (cr (cr (cl (cl (cr (cr (cl (cl (cr (cl (cr (cr (cr (cr (cr (cr c30))))))))))))))))))) j (act 54 [(1, x1), (6, x6), (7, x7), (8, x8), (9, x9), (11, x11), (29, x29), (30, x30), (31, x31), (35, x35), (36, x36)]) h K = F30_lrrllrrllrlrrrrrr inv k j x1 x6 x7 x8 x9 x11 x29 x30 x31 x35 x36 h (fun y1 y6 y7 y8 y9 y11 y29 y30 y31 y35 y36 y37 h => K (.exit 3) (act 54 [(1, y1), (6, y6), (7, y7), (8, y8), (9, y9), (11, y11), (29, y29), (30, y30), (31, y31), (35, y35), (36, y36), (37, y37)]) h) := by
      induction j generalizing x1 x6 x7 x8 x9 x11 x29 x30 x31 x35 x36 h with
      | zero => rfl
      | succ j ih =>
        unfold F30_lrrllrrllrlrrrrrr
        simp only [kLoop, k_seq (E := env) (f := 30) (c := (cl (cl (cr (cr (cl (cl (cr (cr (cl (cl (cr (cl (cr (cr (cr (cr (cr (cr c30))))))))))))))))))) (by kernel_rfl), r30_13, k_seq (E := env) (f := 30) (c := (cr (cl (cl (cr (cr (cl (cl (cr (cr (cl (cl (cr (cl (cr (cr (cr (cr (cr (cr c30)))))))))))))))))))) (by kernel_rfl), b30_lrllrrllrrllrlrrrrrr, k_skip (E := env) (f := 30) (c := (cl (cl (cr (cl (cl (cr (cr (cl (cl (cr (cr (cl (cl (cr (cl (cr (cr (cr (cr (cr (cr c30)))))))))))))))))))))) (by kernel_rfl), k_seq (E := env) (f := 30) (c := (cr (cr (cl (cl (cr (cr (cl (cl (cr (cr (cl (cl (cr (cl (cr (cr (cr (cr (cr (cr c30))))))))))))))))))))) (by kernel_rfl), k_block (E := env) (f := 30) (c := (cl (cr (cr (cl (cl (cr (cr (cl (cl (cr (cr (cl (cl (cr (cl (cr (cr (cr (cr (cr (cr c30)))))))))))))))))))))) (id := 4) (by kernel_rfl), k_seq (E := env) (f := 30) (c := (cl (cl (cr (cr (cl (cl (cr (cr (cl (cl (cr (cr (cl (cl (cr (cl (cr (cr (cr (cr (cr (cr c30))))))))))))))))))))))) (by kernel_rfl), r30_14, r30_15, r30_16, k_exit (E := env) (f := 30) (c := (cr (cl (cr (cl (cl (cr (cr (cl (cl (cr (cr (cl (cl (cr (cl (cr (cr (cr (cr (cr (cr c30)))))))))))))))))))))) (id := 3) (by kernel_rfl), ih, reduceIte, reduceCtorEq, XE.exit.injEq, Nat.reduceEqDiff] <;> kernel_rfl
theorem F30_lrrllrrllrlrrrrrr_eq {β : Type} {inv : Inv} {k : Nat} {x1 x6 x7 x8 x9 x11 x29 x30 x31 x35 x36 : Value} {h : AH} {K : XE → Act → AH → Option β} : kCode env 30 false inv k (cl (cr (cr (cl (cl (cr (cr (cl (cl (cr (cl (cr (cr (cr (cr (cr (cr c30))))))))))))))))) (act 54 [(1, x1), (6, x6), (7, x7), (8, x8), (9, x9), (11, x11), (29, x29), (30, x30), (31, x31), (35, x35), (36, x36)]) h K = F30_lrrllrrllrlrrrrrr inv k k x1 x6 x7 x8 x9 x11 x29 x30 x31 x35 x36 h (fun y1 y6 y7 y8 y9 y11 y29 y30 y31 y35 y36 y37 h => K (.exit 3) (act 54 [(1, y1), (6, y6), (7, y7), (8, y8), (9, y9), (11, y11), (29, y29), (30, y30), (31, y31), (35, y35), (36, y36), (37, y37)]) h) := (k_loop (by kernel_rfl)).trans (F30_lrrllrrllrlrrrrrr_j k)
theorem r30_17 {β : Type} {inv : Inv} {k : Nat} {x1 x6 x7 x8 x9 x11 x29 x30 x31 x35 x36 x37 : Value} {h : AH} {K : XE → Act → AH → Option β} : kCode env 30 false inv k (cr (cr (cr (cl (cl (cr (cl (cr (cr (cr (cr (cr (cr c30))))))))))))) (act 54 [(1, x1), (6, x6), (7, x7), (8, x8), (9, x9), (11, x11), (29, x29), (30, x30), (31, x31), (35, x35), (36, x36), (37, x37)]) h K =
    bnd (pBin Try.prog Go.BinOp.add 3 (Go.Operand.tmp 31) (Go.Operand.const (Go.Value.int Go.IntKind.i64 1)) x31 (Go.Value.int Go.IntKind.i64 1)) fun x46 =>
    K .normal (act 54 [(1, x1), (6, x6), (7, x7), (8, x8), (9, x9), (29, x29), (30, x30), (31, x46)]) h := (k_reg (by kernel_rfl)).trans (by kernel_rfl)
noncomputable def F30_lrlrrrrrr {β : Type} (inv : Inv) (k : Nat) : Nat → Value → Value → Value → Value → Value → Value → Value → Value → AH → (Value → Value → Value → Value → Value → Value → Value → Value → Value → AH → Option β) → Option β
  | 0, _, _, _, _, _, _, _, _, _, _ => none
  | j + 1, x1, x6, x7, x8, x9, x29, x30, x31, h, ke1 =>
    bnd (pBin Try.prog Go.BinOp.lss 3 (Go.Operand.tmp 31) (Go.Operand.tmp 30) x31 x30) fun x32 =>
    brV x32
    (bnd (pIndexAddr Try.prog 50 x29 x31) fun x33 =>
    bnd (pLoad Try.prog 51 x33 h) fun x34 =>
    F30_lrrllrrllrlrrrrrr inv k k x1 x6 x7 x8 x9 x34 x29 x30 x31 x1 (Go.Value.int Go.IntKind.i64 0) h
    (fun y1 y6 y7 y8 y9 y11 y29 y30 y31 y35 y36 y37 h =>
    bnd (pBin Try.prog Go.BinOp.add 3 (Go.Operand.tmp 31) (Go.Operand.const (Go.Value.int Go.IntKind.i64 1)) y31 (Go.Value.int Go.IntKind.i64 1)) fun x46 =>
    F30_lrlrrrrrr inv k j y1 y6 y7 y8 y9 y29 y30 x46 h ke1))
    (ke1 x1 x6 x7 x8 x9 x29 x30 x31 x32 h)
theorem F30_lrlrrrrrr_j {β : Type} {inv : Inv} {k : Nat} (j : Nat) {x1 x6 x7 x8 x9 x29 x30 x31 : Value} {h : AH} {K : XE → Act → AH → Option β} : kLoop (kCode env 30 false inv k (cl (cl (cr (cl (cr (cr (cr (cr (cr (cr c30))))))))))) j (act 54 [(1, x1), (6, x6), (7, x7), (8, x8), (9, x9), (29, x29), (30, x30), (31, x31)]) h K = F30_lrlrrrrrr inv k j x1 x6 x7 x8 x9 x29 x30 x31 h (fun y1 y6 y7 y8 y9 y29 y30 y31 y32 h => K (.exit 1) (act 54 [(1, y1), (6, y6), (7, y7), (8, y8), (9, y9), (29, y29), (30, y30), (31, y31), (32, y32)]) h) := by
      induction j generalizing x1 x6 x7 x8 x9 x29 x30 x31 h with
      | zero => rfl
      | succ j ih =>
        unfold F30_lrlrrrrrr
        simp only [kLoop, k_seq (E := env) (f := 30) (c := (cl (cl (cr (cl (cr (cr (cr (cr (cr (cr c30))))))))))) (by kernel_rfl), r30_10, k_seq (E := env) (f := 30) (c := (cr (cl (cl (cr (cl (cr (cr (cr (cr (cr (cr c30)))))))))))) (by kernel_rfl), b30_lrllrlrrrrrr, k_skip (E := env) (f := 30) (c := (cl (cl (cr (cl (cl (cr (cl (cr (cr (cr (cr (cr (cr c30)))))))))))))) (by kernel_rfl), k_seq (E := env) (f := 30) (c := (cr (cr (cl (cl (cr (cl (cr (cr (cr (cr (cr (cr c30))))))))))))) (by kernel_rfl), k_block (E := env) (f := 30) (c := (cl (cr (cr (cl (cl (cr (cl (cr (cr (cr (cr (cr (cr c30)))))))))))))) (id := 2) (by kernel_rfl), k_seq (E := env) (f := 30) (c := (cl (cl (cr (cr (cl (cl (cr (cl (cr (cr (cr (cr (cr (cr c30))))))))))))))) (by kernel_rfl), r30_11, k_seq (E := env) (f := 30) (c := (cr (cl (cl (cr (cr (cl (cl (cr (cl (cr (cr (cr (cr (cr (cr c30)))))))))))))))) (by kernel_rfl), r30_12, k_block (E := env) (f := 30) (c := (cr (cr (cl (cl (cr (cr (cl (cl (cr (cl (cr (cr (cr (cr (cr (cr c30))))))))))))))))) (id := 3) (by kernel_rfl), F30_lrrllrrllrlrrrrrr_eq, r30_17, k_exit (E := env) (f := 30) (c := (cr (cl (cr (cl (cl (cr (cl (cr (cr (cr (cr (cr (cr c30)))))))))))))) (id := 1) (by kernel_rfl), ih, reduceIte, reduceCtorEq, XE.exit.injEq, Nat.reduceEqDiff] <;> kernel_rfl
theorem F30_lrlrrrrrr_eq {β : Type} {inv : Inv} {k : Nat} {x1 x6 x7 x8 x9 x29 x30 x31 : Value} {h : AH} {K : XE → Act → AH → Option β} : kCode env 30 false inv k (cl (cr (cl (cr (cr (cr (cr (cr (cr c30))))))))) (act 54 [(1, x1), (6, x6), (7, x7), (8, x8), (9, x9), (29, x29), (30, x30), (31, x31)]) h K = F30_lrlrrrrrr inv k k x1 x6 x7 x8 x9 x29 x30 x31 h (fun y1 y6 y7 y8 y9 y29 y30 y31 y32 h => K (.exit 1) (act 54 [(1, y1), (6, y6), (7, y7), (8, y8), (9, y9), (29, y29), (30, y30), (31, y31), (32, y32)]) h) := (k_loop (by kernel_rfl)).trans (F30_lrlrrrrrr_j k)
theorem r30_18 {β : Type} {inv : Inv} {k : Nat} {x1 x6 x7 x8 x9 x29 x30 x31 x32 : Value} {h : AH} {K : XE → Act → AH → Option β} : kCode env 30 false inv k (cl (cl (cr (cr (cr (cr (cr (cr (cr c30))))))))) (act 54 [(1, x1), (6, x6), (7, x7), (8, x8), (9, x9), (29, x29), (30, x30), (31, x31), (32, x32)]) h K =
    bnd (pLoad Try.prog 3 x8 h) fun x47 =>
    bnd (pBin Try.prog Go.BinOp.gtr 3 (Go.Operand.tmp 47) (Go.Operand.const (Go.Value.int Go.IntKind.i64 0)) x47 (Go.Value.int Go.IntKind.i64 0)) fun x48 =>
    K .normal (act 54 [(6, x6), (7, x7), (48, x48)]) h := (k_reg (by kernel_rfl)).trans (by kernel_rfl)
theorem b30_rlrrrrrrr {β : Type} {inv : Inv} {k : Nat} {x6 x7 x48 : Value} {h : AH} {K : XE → Act → AH → Option β} : kCode env 30 false inv k (cr (cl (cr (cr (cr (cr (cr (cr (cr c30))))))))) (act 54 [(6, x6), (7, x7), (48, x48)]) h K = brV x48 (kCode env 30 false inv k (cl (cr (cl (cr (cr (cr (cr (cr (cr (cr c30)))))))))) (act 54 [(6, x6), (7, x7), (48, x48)]) h K) (kCode env 30 false inv k (cr (cr (cl (cr (cr (cr (cr (cr (cr (cr c30)))))))))) (act 54 [(6, x6), (7, x7), (48, x48)]) h K) := (k_cond (by kernel_rfl)).trans (by kernel_rfl)
theorem r30_19 {β : Type} {inv : Inv} {k : Nat} {x6 x7 x48 : Value} {h : AH} {K : XE → Act → AH → Option β} : kCode env 30 false inv k (cl (cr (cl (cr (cr (cr (cr (cr (cr (cr c30)))))))))) (act 54 [(6, x6), (7, x7), (48, x48)]) h K =
    bnd (pLoad Try.prog 26 x6 h) fun x49 =>
    bnd (pLoad Try.prog 5 x7 h) fun x50 =>
    bnd (pBuildSlice Try.prog 26 1 #[(0, x50)] h) fun x51 =>
    bnd (pAppend Try.prog #[26, 26] x49 x51.1 x51.2) fun x52 =>
    bnd (kSt (pStore Try.prog 26 x6 x52.1 x52.2)) fun u =>
    K .normal (act 54 [(6, x6)]) u.2 := (k_reg (by kernel_rfl)).trans (by kernel_rfl)
noncomputable def F30_rlrrrrrrr {β : Type} (inv : Inv) (k : Nat) (x6 x7 x48 : Value) (h : AH) (kn : (Value → Value → Value → AH → Option β)) : Option β :=
    brV x48
    (bnd (pLoad Try.prog 26 x6 h) fun x49 =>
    bnd (pLoad Try.prog 5 x7 h) fun x50 =>
    bnd (pBuildSlice Try.prog 26 1 #[(0, x50)] h) fun x51 =>
    bnd (pAppend Try.prog #[26, 26] x49 x51.1 x51.2) fun x52 =>
    bnd (kSt (pStore Try.prog 26 x6 x52.1 x52.2)) fun u =>
    kn x6 unk unk u.2)
    (kn x6 x7 x48 h)
theorem F30_rlrrrrrrr_eq {β : Type} {inv : Inv} {k : Nat} {x6 x7 x48 : Value} {h : AH} {K : XE → Act → AH → Option β} : kCode env 30 false inv k (cr (cl (cr (cr (cr (cr (cr (cr (cr c30))))))))) (act 54 [(6, x6), (7, x7), (48, x48)]) h K = F30_rlrrrrrrr inv k x6 x7 x48 h (fun y6 y7 y48 h => K .normal (act 54 [(6, y6), (7, y7), (48, y48)]) h) := by
      unfold F30_rlrrrrrrr
      simp only [b30_rlrrrrrrr, r30_19, k_skip (E := env) (f := 30) (c := (cr (cr (cl (cr (cr (cr (cr (cr (cr (cr c30))))))))))) (by kernel_rfl), reduceIte, reduceCtorEq, XE.exit.injEq, Nat.reduceEqDiff] <;> kernel_rfl
theorem r30_20 {β : Type} {inv : Inv} {k : Nat} {x6 x7 x48 : Value} {h : AH} {K : XE → Act → AH → Option β} : kCode env 30 false inv k (cl (cr (cr (cr (cr (cr (cr (cr (cr c30))))))))) (act 54 [(6, x6), (7, x7), (48, x48)]) h K =
    bnd (pLoad Try.prog 26 x6 h) fun x53 =>
    K .normal (act 54 [(4, x53), (5, (Go.Value.int Go.IntKind.i64 0))]) h := (k_reg (by kernel_rfl)).trans (by kernel_rfl)
/-- shadowbook/packs.Put -/
noncomputable def F30 (inv : Inv) (k : Nat) (x0 x1 : Value) (h : AH) : Option (Value × AH) :=
    bnd (pLen Try.prog #[50] x0 h) fun x14 =>
    bnd (inv (.func 55) #[] #[x14, x1] h) fun x16 =>
    bnd (pUn Try.prog Go.UnOp.not x16.1) fun x17 =>
    brV x17
    (some (.tuple #[(Go.Value.slice none 0 0), (Go.Value.int Go.IntKind.i64 2)], x16.2))
    (bnd (inv (.func 29) #[] #[x0] x16.2) fun x20 =>
    bnd (pBin Try.prog Go.BinOp.gtr 3 (Go.Operand.tmp 20) (Go.Operand.tmp 21) x20.1 x1) fun x22 =>
    brV x22
    (some (.tuple #[(Go.Value.slice none 0 0), (Go.Value.int Go.IntKind.i64 3)], x20.2))
    (bnd (pLen Try.prog #[50] x0 x20.2) fun x24 =>
    bnd (inv (.func 56) #[] #[x24, x1] x20.2) fun x26 =>
    bnd (pMakeSlice Try.prog 26 (Go.Value.int Go.IntKind.i64 0) x26.1 x26.2) fun x27 =>
    bnd (pAlloc Try.prog 26 x27.2) fun x6 =>
    bnd (kSt (pStore Try.prog 26 x6.1 x27.1 x6.2)) fun u =>
    bnd (pAlloc Try.prog 5 u.2) fun x7 =>
    bnd (pAlloc Try.prog 3 x7.2) fun x8 =>
    bnd (kSt (pStore Try.prog 3 x8.1 (Go.Value.int Go.IntKind.i64 0) x8.2)) fun u_1 =>
    bnd (pMakeFunc (Go.Fn.func 57) #[] #[x7.1, x8.1, x6.1]) fun x28 =>
    bnd (pLen Try.prog #[50] x0 u_1.2) fun x30 =>
    F30_lrlrrrrrr inv k k x1 x6.1 x7.1 x8.1 x28 x0 x30 (Go.Value.int Go.IntKind.i64 0) u_1.2
    (fun y1 y6 y7 y8 y9 y29 y30 y31 y32 h =>
    bnd (pLoad Try.prog 3 y8 h) fun x47 =>
    bnd (pBin Try.prog Go.BinOp.gtr 3 (Go.Operand.tmp 47) (Go.Operand.const (Go.Value.int Go.IntKind.i64 0)) x47 (Go.Value.int Go.IntKind.i64 0)) fun x48 =>
    F30_rlrrrrrrr inv k y6 y7 x48 h
    (fun y6_2 y7_3 y48 h_4 =>
    bnd (pLoad Try.prog 26 y6_2 h_4) fun x53 =>
    some (.tuple #[x53, (Go.Value.int Go.IntKind.i64 0)], h_4)))))
theorem F30_eq {inv : Inv} {k : Nat} {x0 x1 : Value} {h : AH} : eFun env k inv 30 #[x0, x1] h = F30 inv k x0 x1 h := by
      refine (eFun_k2 (by kernel_rfl) (by kernel_rfl) (by kernel_rfl) (a := act 54 [(0, x0), (1, x1)]) (c := c30) (by kernel_rfl) (by kernel_rfl)).trans ?_
      unfold F30
      simp only [k_seq (E := env) (f := 30) (c := c30) (by kernel_rfl), r30_0, k_seq (E := env) (f := 30) (c := (cr c30)) (by kernel_rfl), k_block (E := env) (f := 30) (c := (cl (cr c30))) (id := 0) (by kernel_rfl), k_seq (E := env) (f := 30) (c := (cl (cl (cr c30)))) (by kernel_rfl), r30_1, b30_rllr, k_seq (E := env) (f := 30) (c := (cl (cr (cl (cl (cr c30)))))) (by kernel_rfl), r30_2, k_ret (E := env) (f := 30) (c := (cr (cl (cr (cl (cl (cr c30))))))) (by kernel_rfl), res30_0, k_seq (E := env) (f := 30) (c := (cr (cr (cl (cl (cr c30)))))) (by kernel_rfl), r30_3, b30_rrrllr, k_seq (E := env) (f := 30) (c := (cl (cr (cr (cr (cl (cl (cr c30)))))))) (by kernel_rfl), r30_4, k_ret (E := env) (f := 30) (c := (cr (cl (cr (cr (cr (cl (cl (cr c30))))))))) (by kernel_rfl), k_skip (E := env) (f := 30) (c := (cr (cr (cr (cr (cl (cl (cr c30)))))))) (by kernel_rfl), k_seq (E := env) (f := 30) (c := (cr (cr c30))) (by kernel_rfl), r30_5, k_seq (E := env) (f := 30) (c := (cr (cr (cr c30)))) (by kernel_rfl), r30_6, k_seq (E := env) (f := 30) (c := (cr (cr (cr (cr c30))))) (by kernel_rfl), r30_7, k_seq (E := env) (f := 30) (c := (cr (cr (cr (cr (cr c30)))))) (by kernel_rfl), r30_8, k_seq (E := env) (f := 30) (c := (cr (cr (cr (cr (cr (cr c30))))))) (by kernel_rfl), k_seq (E := env) (f := 30) (c := (cl (cr (cr (cr (cr (cr (cr c30)))))))) (by kernel_rfl), r30_9, k_block (E := env) (f := 30) (c := (cr (cl (cr (cr (cr (cr (cr (cr c30))))))))) (id := 1) (by kernel_rfl), F30_lrlrrrrrr_eq, k_seq (E := env) (f := 30) (c := (cr (cr (cr (cr (cr (cr (cr c30)))))))) (by kernel_rfl), k_seq (E := env) (f := 30) (c := (cl (cr (cr (cr (cr (cr (cr (cr c30))))))))) (by kernel_rfl), r30_18, F30_rlrrrrrrr_eq, k_seq (E := env) (f := 30) (c := (cr (cr (cr (cr (cr (cr (cr (cr c30))))))))) (by kernel_rfl), r30_20, k_ret (E := env) (f := 30) (c := (cr (cr (cr (cr (cr (cr (cr (cr (cr c30)))))))))) (by kernel_rfl), reduceIte, reduceCtorEq, XE.exit.injEq, Nat.reduceEqDiff] <;> kernel_rfl
noncomputable def c31 : Code := codeOf Try.prog 31
theorem r31_0 {β : Type} {inv : Inv} {k : Nat} {x0 x1 x2 : Value} {h : AH} {K : XE → Act → AH → Option β} : kCode env 31 false inv k (cl c31) (act 29 [(0, x0), (1, x1), (2, x2)]) h K =
    K .normal (act 29 [(0, x0), (1, x1), (2, x2)]) h := (k_reg (by kernel_rfl)).trans (by kernel_rfl)
theorem r31_1 {β : Type} {inv : Inv} {k : Nat} {x0 x1 x2 : Value} {h : AH} {K : XE → Act → AH → Option β} : kCode env 31 false inv k (cl (cl (cr c31))) (act 29 [(0, x0), (1, x1), (2, x2)]) h K =
    bnd (pBin Try.prog Go.BinOp.lss 3 (Go.Operand.tmp 8) (Go.Operand.const (Go.Value.int Go.IntKind.i64 1)) x2 (Go.Value.int Go.IntKind.i64 1)) fun x9 =>
    bnd (gd (some x9) false h (some (x2, h))) fun x11 =>
    bnd (gd (some x9) false x11.2 (lt (pBin Try.prog Go.BinOp.gtr 3 (Go.Operand.tmp 11) (Go.Operand.const (Go.Value.int Go.IntKind.i64 8)) x11.1 (Go.Value.int Go.IntKind.i64 8)) x11.2)) fun x12 =>
    bnd (pickV x9 (Go.Value.bool true) x12.1) fun x13 =>
    K .normal (act 29 [(0, x0), (1, x1), (2, x2), (13, x13)]) x12.2 := (k_reg (by kernel_rfl)).trans (by kernel_rfl)
theorem b31_rlr {β : Type} {inv : Inv} {k : Nat} {x0 x1 x2 x13 : Value} {h : AH} {K : XE → Act → AH → Option β} : kCode env 31 false inv k (cr (cl (cr c31))) (act 29 [(0, x0), (1, x1), (2, x2), (13, x13)]) h K = brV x13 (kCode env 31 false inv k (cl (cr (cl (cr c31)))) (act 29 [(0, x0), (1, x1), (2, x2), (13, x13)]) h K) (kCode env 31 false inv k (cr (cr (cl (cr c31)))) (act 29 [(0, x0), (1, x1), (2, x2), (13, x13)]) h K) := (k_cond (by kernel_rfl)).trans (by kernel_rfl)
theorem r31_2 {β : Type} {inv : Inv} {k : Nat} {x0 x1 x2 x13 : Value} {h : AH} {K : XE → Act → AH → Option β} : kCode env 31 false inv k (cl (cl (cr (cl (cr c31))))) (act 29 [(0, x0), (1, x1), (2, x2), (13, x13)]) h K =
    K .normal (act 29 [(6, x0)]) h := (k_reg (by kernel_rfl)).trans (by kernel_rfl)
theorem res31_0 {x6 : Value} {h : AH} : resOfFn env.P 31 .ret (act 29 [(6, x6)]) h = some (x6, h) := (resOfFn_k (by kernel_rfl) (by kernel_rfl)).trans (by kernel_rfl)
theorem r31_3 {β : Type} {inv : Inv} {k : Nat} {x0 x1 x2 x13 : Value} {h : AH} {K : XE → Act → AH → Option β} : kCode env 31 false inv k (cl (cl (cr (cr c31)))) (act 29 [(0, x0), (1, x1), (2, x2), (13, x13)]) h K =
    K .normal (act 29 [(0, x0), (1, x1), (15, x2), (16, (Go.Value.int Go.IntKind.i64 0))]) h := (k_reg (by kernel_rfl)).trans (by kernel_rfl)
theorem r31_4 {β : Type} {inv : Inv} {k : Nat} {x0 x1 x15 x16 : Value} {h : AH} {K : XE → Act → AH → Option β} : kCode env 31 false inv k (cl (cl (cl (cr (cl (cr (cr c31))))))) (act 29 [(0, x0), (1, x1), (15, x15), (16, x16)]) h K =
    bnd (pBin Try.prog Go.BinOp.lss 3 (Go.Operand.tmp 16) (Go.Operand.tmp 15) x16 x15) fun x17 =>
    K .normal (act 29 [(0, x0), (1, x1), (15, x15), (16, x16), (17, x17)]) h := (k_reg (by kernel_rfl)).trans (by kernel_rfl)
theorem b31_lrllrlrr {β : Type} {inv : Inv} {k : Nat} {x0 x1 x15 x16 x17 : Value} {h : AH} {K : XE → Act → AH → Option β} : kCode env 31 false inv k (cl (cr (cl (cl (cr (cl (cr (cr c31)))))))) (act 29 [(0, x0), (1, x1), (15, x15), (16, x16), (17, x17)]) h K = brV x17 (kCode env 31 false inv k (cl (cl (cr (cl (cl (cr (cl (cr (cr c31))))))))) (act 29 [(0, x0), (1, x1), (15, x15), (16, x16), (17, x17)]) h K) (kCode env 31 false inv k (cr (cl (cr (cl (cl (cr (cl (cr (cr c31))))))))) (act 29 [(0, x0), (1, x1), (15, x15), (16, x16), (17, x17)]) h K) := (k_cond (by kernel_rfl)).trans (by kernel_rfl)
theorem r31_5 {β : Type} {inv : Inv} {k : Nat} {x0 x1 x15 x16 x17 : Value} {h : AH} {K : XE → Act → AH → Option β} : kCode env 31 false inv k (cl (cl (cl (cr (cr (cl (cl (cr (cl (cr (cr c31))))))))))) (act 29 [(0, x0), (1, x1), (15, x15), (16, x16), (17, x17)]) h K =
    K .normal (act 29 [(0, x0), (1, x1), (7, x16), (15, x15), (16, x16)]) h := (k_reg (by kernel_rfl)).trans (by kernel_rfl)
theorem r31_6 {β : Type} {inv : Inv} {k : Nat} {x0 x1 x7 x15 x16 : Value} {h : AH} {K : XE → Act → AH → Option β} : kCode env 31 false inv k (cr (cl (cl (cr (cr (cl (cl (cr (cl (cr (cr c31))))))))))) (act 29 [(0, x0), (1, x1), (7, x7), (15, x15), (16, x16)]) h K =
    bnd (pBin Try.prog Go.BinOp.mul 3 (Go.Operand.const (Go.Value.int Go.IntKind.i64 8)) (Go.Operand.tmp 21) (Go.Value.int Go.IntKind.i64 8) x7) fun x22 =>
    bnd (pBin Try.prog Go.BinOp.shr 51 (Go.Operand.tmp 20) (Go.Operand.tmp 22) x1 x22) fun x23 =>
    bnd (pConv Try.prog 51 5 x23 h) fun x24 =>
    bnd (pBuildSlice Try.prog 26 1 #[(0, x24)] h) fun x25 =>
    bnd (pAppend Try.prog #[26, 26] x0 x25.1 x25.2) fun x26 =>
    K .normal (act 29 [(0, x26.1), (1, x1), (15, x15), (16, x16)]) x26.2 := (k_reg (by kernel_rfl)).trans (by kernel_rfl)
theorem r31_7 {β : Type} {inv : Inv} {k : Nat} {x0 x1 x15 x16 : Value} {h : AH} {K : XE → Act → AH → Option β} : kCode env 31 false inv k (cr (cr (cr (cl (cl (cr (cl (cr (cr c31))))))))) (act 29 [(0, x0), (1, x1), (15, x15), (16, x16)]) h K =
    bnd (pBin Try.prog Go.BinOp.add 3 (Go.Operand.tmp 16) (Go.Operand.const (Go.Value.int Go.IntKind.i64 1)) x16 (Go.Value.int Go.IntKind.i64 1)) fun x27 =>
    K .normal (act 29 [(0, x0), (1, x1), (15, x15), (16, x27)]) h := (k_reg (by kernel_rfl)).trans (by kernel_rfl)
noncomputable def F31_lrlrr {β : Type} (inv : Inv) (k : Nat) : Nat → Value → Value → Value → Value → AH → (Value → Value → Value → Value → Value → AH → Option β) → Option β
  | 0, _, _, _, _, _, _ => none
  | j + 1, x0, x1, x15, x16, h, ke0 =>
    bnd (pBin Try.prog Go.BinOp.lss 3 (Go.Operand.tmp 16) (Go.Operand.tmp 15) x16 x15) fun x17 =>
    brV x17
    (bnd (pBin Try.prog Go.BinOp.mul 3 (Go.Operand.const (Go.Value.int Go.IntKind.i64 8)) (Go.Operand.tmp 21) (Go.Value.int Go.IntKind.i64 8) x16) fun x22 =>
    bnd (pBin Try.prog Go.BinOp.shr 51 (Go.Operand.tmp 20) (Go.Operand.tmp 22) x1 x22) fun x23 =>
    bnd (pConv Try.prog 51 5 x23 h) fun x24 =>
    bnd (pBuildSlice Try.prog 26 1 #[(0, x24)] h) fun x25 =>
    bnd (pAppend Try.prog #[26, 26] x0 x25.1 x25.2) fun x26 =>
    bnd (pBin Try.prog Go.BinOp.add 3 (Go.Operand.tmp 16) (Go.Operand.const (Go.Value.int Go.IntKind.i64 1)) x16 (Go.Value.int Go.IntKind.i64 1)) fun x27 =>
    F31_lrlrr inv k j x26.1 x1 x15 x27 x26.2 ke0)
    (ke0 x0 x1 x15 x16 x17 h)
theorem F31_lrlrr_j {β : Type} {inv : Inv} {k : Nat} (j : Nat) {x0 x1 x15 x16 : Value} {h : AH} {K : XE → Act → AH → Option β} : kLoop (kCode env 31 false inv k (cl (cl (cr (cl (cr (cr c31))))))) j (act 29 [(0, x0), (1, x1), (15, x15), (16, x16)]) h K = F31_lrlrr inv k j x0 x1 x15 x16 h (fun y0 y1 y15 y16 y17 h => K (.exit 0) (act 29 [(0, y0), (1, y1), (15, y15), (16, y16), (17, y17)]) h) := by
      induction j generalizing x0 x1 x15 x16 h with
      | zero => rfl
      | succ j ih =>
        unfold F31_lrlrr
        simp only [kLoop, k_seq (E := env) (f := 31) (c := (cl (cl (cr (cl (cr (cr c31))))))) (by kernel_rfl), r31_4, k_seq (E := env) (f := 31) (c := (cr (cl (cl (cr (cl (cr (cr c31)))))))) (by kernel_rfl), b31_lrllrlrr, k_skip (E := env) (f := 31) (c := (cl (cl (cr (cl (cl (cr (cl (cr (cr c31)))))))))) (by kernel_rfl), k_seq (E := env) (f := 31) (c := (cr (cr (cl (cl (cr (cl (cr (cr c31))))))))) (by kernel_rfl), k_block (E := env) (f := 31) (c := (cl (cr (cr (cl (cl (cr (cl (cr (cr c31)))))))))) (id := 1) (by kernel_rfl), k_seq (E := env) (f := 31) (c := (cl (cl (cr (cr (cl (cl (cr (cl (cr (cr c31))))))))))) (by kernel_rfl), r31_5, r31_6, r31_7, k_exit (E := env) (f := 31) (c := (cr (cl (cr (cl (cl (cr (cl (cr (cr c31)))))))))) (id := 0) (by kernel_rfl), ih, reduceIte, reduceCtorEq, XE.exit.injEq, Nat.reduceEqDiff] <;> kernel_rfl
theorem F31_lrlrr_eq {β : Type} {inv : Inv} {k : Nat} {x0 x1 x15 x16 : Value} {h : AH} {K : XE → Act → AH → Option β} : kCode env 31 false inv k (cl (cr (cl (cr (cr c31))))) (act 29 [(0, x0), (1, x1), (15, x15), (16, x16)]) h K = F31_lrlrr inv k k x0 x1 x15 x16 h (fun y0 y1 y15 y16 y17 h => K (.exit 0) (act 29 [(0, y0), (1, y1), (15, y15), (16, y16), (17, y17)]) h) := (k_loop (by kernel_rfl)).trans (F31_lrlrr_j k)
theorem r31_8 {β : Type} {inv : Inv} {k : Nat} {x0 x1 x15 x16 x17 : Value} {h : AH} {K : XE → Act → AH → Option β} : kCode env 31 false inv k (cl (cr (cr (cr c31)))) (act 29 [(0, x0), (1, x1), (15, x15), (16, x16), (17, x17)]) h K =
    K .normal (act 29 [(6, x0)]) h := (k_reg (by kernel_rfl)).trans (by kernel_rfl)
/-- shadowbook/octet.Put -/
noncomputable def F31 (inv : Inv) (k : Nat) (x0 x1 x2 : Value) (h : AH) : Option (Value × AH) :=
    bnd (pBin Try.prog Go.BinOp.lss 3 (Go.Operand.tmp 8) (Go.Operand.const (Go.Value.int Go.IntKind.i64 1)) x2 (Go.Value.int Go.IntKind.i64 1)) fun x9 =>
    bnd (gd (some x9) false h (some (x2, h))) fun x11 =>
    bnd (gd (some x9) false x11.2 (lt (pBin Try.prog Go.BinOp.gtr 3 (Go.Operand.tmp 11) (Go.Operand.const (Go.Value.int Go.IntKind.i64 8)) x11.1 (Go.Value.int Go.IntKind.i64 8)) x11.2)) fun x12 =>
    bnd (pickV x9 (Go.Value.bool true) x12.1) fun x13 =>
    brV x13
    (some (x0, x12.2))
    (F31_lrlrr inv k k x0 x1 x2 (Go.Value.int Go.IntKind.i64 0) x12.2
    (fun y0 y1 y15 y16 y17 h =>
    some (y0, h)))
theorem F31_eq {inv : Inv} {k : Nat} {x0 x1 x2 : Value} {h : AH} : eFun env k inv 31 #[x0, x1, x2] h = F31 inv k x0 x1 x2 h := by
      refine (eFun_k2 (by kernel_rfl) (by kernel_rfl) (by kernel_rfl) (a := act 29 [(0, x0), (1, x1), (2, x2)]) (c := c31) (by kernel_rfl) (by kernel_rfl)).trans ?_
      unfold F31
      simp only [k_seq (E := env) (f := 31) (c := c31) (by kernel_rfl), r31_0, k_seq (E := env) (f := 31) (c := (cr c31)) (by kernel_rfl), k_seq (E := env) (f := 31) (c := (cl (cr c31))) (by kernel_rfl), r31_1, b31_rlr, k_seq (E := env) (f := 31) (c := (cl (cr (cl (cr c31))))) (by kernel_rfl), r31_2, k_ret (E := env) (f := 31) (c := (cr (cl (cr (cl (cr c31)))))) (by kernel_rfl), res31_0, k_skip (E := env) (f := 31) (c := (cr (cr (cl (cr c31))))) (by kernel_rfl), k_seq (E := env) (f := 31) (c := (cr (cr c31))) (by kernel_rfl), k_seq (E := env) (f := 31) (c := (cl (cr (cr c31)))) (by kernel_rfl), r31_3, k_block (E := env) (f := 31) (c := (cr (cl (cr (cr c31))))) (id := 0) (by kernel_rfl), F31_lrlrr_eq, k_seq (E := env) (f := 31) (c := (cr (cr (cr c31)))) (by kernel_rfl), r31_8, k_ret (E := env) (f := 31) (c := (cr (cr (cr (cr c31))))) (by kernel_rfl), reduceIte, reduceCtorEq, XE.exit.injEq, Nat.reduceEqDiff] <;> kernel_rfl
noncomputable def c32 : Code := codeOf Try.prog 32
theorem r32_0 {β : Type} {inv : Inv} {k : Nat} {x0 x1 : Value} {h : AH} {K : XE → Act → AH → Option β} : kCode env 32 false inv k (cl c32) (act 10 [(0, x0), (1, x1)]) h K =
    K .normal (act 10 [(0, x0), (1, x1)]) h := (k_reg (by kernel_rfl)).trans (by kernel_rfl)
theorem r32_1 {β : Type} {inv : Inv} {k : Nat} {x0 x1 : Value} {h : AH} {K : XE → Act → AH → Option β} : kCode env 32 false inv k (cl (cr c32)) (act 10 [(0, x0), (1, x1)]) h K =
    bnd (pBuildSlice Try.prog 26 1 #[(0, x0)] h) fun x6 =>
    bnd (pConv Try.prog 3 51 x1 x6.2) fun x8 =>
    bnd (inv (.func 33) #[] #[x6.1, x8] x6.2) fun x9 =>
    K .normal (act 10 [(4, x9.1)]) x9.2 := (k_reg (by kernel_rfl)).trans (by kernel_rfl)
theorem res32_0 {x4 : Value} {h : AH} : resOfFn env.P 32 .ret (act 10 [(4, x4)]) h = some (x4, h) := (resOfFn_k (by kernel_rfl) (by kernel_rfl)).trans (by kernel_rfl)
/-- shadowbook/ints.head -/
noncomputable def F32 (inv : Inv) (k : Nat) (x0 x1 : Value) (h : AH) : Option (Value × AH) :=
    bnd (pBuildSlice Try.prog 26 1 #[(0, x0)] h) fun x6 =>
    bnd (pConv Try.prog 3 51 x1 x6.2) fun x8 =>
    bnd (inv (.func 33) #[] #[x6.1, x8] x6.2) fun x9 =>
    some (x9.1, x9.2)
theorem F32_eq {inv : Inv} {k : Nat} {x0 x1 : Value} {h : AH} : eFun env k inv 32 #[x0, x1] h = F32 inv k x0 x1 h := by
      refine (eFun_k2 (by kernel_rfl) (by kernel_rfl) (by kernel_rfl) (a := act 10 [(0, x0), (1, x1)]) (c := c32) (by kernel_rfl) (by kernel_rfl)).trans ?_
      unfold F32
      simp only [k_seq (E := env) (f := 32) (c := c32) (by kernel_rfl), r32_0, k_seq (E := env) (f := 32) (c := (cr c32)) (by kernel_rfl), r32_1, k_ret (E := env) (f := 32) (c := (cr (cr c32))) (by kernel_rfl), res32_0, reduceIte, reduceCtorEq, XE.exit.injEq, Nat.reduceEqDiff] <;> kernel_rfl
noncomputable def c33 : Code := codeOf Try.prog 33
theorem r33_0 {β : Type} {inv : Inv} {k : Nat} {x0 x1 : Value} {h : AH} {K : XE → Act → AH → Option β} : kCode env 33 false inv k (cl c33) (act 20 [(0, x0), (1, x1)]) h K =
    K .normal (act 20 [(0, x0), (1, x1)]) h := (k_reg (by kernel_rfl)).trans (by kernel_rfl)
theorem r33_1 {β : Type} {inv : Inv} {k : Nat} {x0 x1 : Value} {h : AH} {K : XE → Act → AH → Option β} : kCode env 33 false inv k (cl (cl (cl (cl (cl (cr c33)))))) (act 20 [(0, x0), (1, x1)]) h K =
    bnd (pBin Try.prog Go.BinOp.geq 51 (Go.Operand.tmp 5) (Go.Operand.const (Go.Value.int Go.IntKind.u64 128)) x1 (Go.Value.int Go.IntKind.u64 128)) fun x6 =>
    K .normal (act 20 [(0, x0), (1, x1), (6, x6)]) h := (k_reg (by kernel_rfl)).trans (by kernel_rfl)
theorem b33_rllllr {β : Type} {inv : Inv} {k : Nat} {x0 x1 x6 : Value} {h : AH} {K : XE → Act → AH → Option β} : kCode env 33 false inv k (cr (cl (cl (cl (cl (cr c33)))))) (act 20 [(0, x0), (1, x1), (6, x6)]) h K = brV x6 (kCode env 33 false inv k (cl (cr (cl (cl (cl (cl (cr c33))))))) (act 20 [(0, x0), (1, x1), (6, x6)]) h K) (kCode env 33 false inv k (cr (cr (cl (cl (cl (cl (cr c33))))))) (act 20 [(0, x0), (1, x1), (6, x6)]) h K) := (k_cond (by kernel_rfl)).trans (by kernel_rfl)
theorem r33_3 {β : Type} {inv : Inv} {k : Nat} {x0 x1 x6 : Value} {h : AH} {K : XE → Act → AH → Option β} : kCode env 33 false inv k (cl (cl (cr (cl (cl (cl (cr c33))))))) (act 20 [(0, x0), (1, x1), (6, x6)]) h K =
    bnd (pConv Try.prog 51 5 x1 h) fun x11 =>
    bnd (pBin Try.prog Go.BinOp.or 5 (Go.Operand.tmp 11) (Go.Operand.const (Go.Value.int Go.IntKind.u8 128)) x11 (Go.Value.int Go.IntKind.u8 128)) fun x12 =>
    bnd (pBuildSlice Try.prog 26 1 #[(0, x12)] h) fun x13 =>
    bnd (pAppend Try.prog #[26, 26] x0 x13.1 x13.2) fun x14 =>
    K .normal (act 20 [(0, x14.1), (1, x1)]) x14.2 := (k_reg (by kernel_rfl)).trans (by kernel_rfl)
theorem r33_2 {β : Type} {inv : Inv} {k : Nat} {x0 x1 : Value} {h : AH} {K : XE → Act → AH → Option β} : kCode env 33 false inv k (cr (cr (cl (cl (cl (cr c33)))))) (act 20 [(0, x0), (1, x1)]) h K =
    bnd (pBin Try.prog Go.BinOp.shr 51 (Go.Operand.tmp 7) (Go.Operand.const (Go.Value.int Go.IntKind.u64 7)) x1 (Go.Value.int Go.IntKind.u64 7)) fun x8 =>
    K .normal (act 20 [(0, x0), (1, x8)]) h := (k_reg (by kernel_rfl)).trans (by kernel_rfl)
noncomputable def F33_llr {β : Type} (inv : Inv) (k : Nat) : Nat → Value → Value → AH → (Value → Value → Value → AH → Option β) → Option β
  | 0, _, _, _, _ => none
  | j + 1, x0, x1, h, ke0 =>
    bnd (pBin Try.prog Go.BinOp.geq 51 (Go.Operand.tmp 5) (Go.Operand.const (Go.Value.int Go.IntKind.u64 128)) x1 (Go.Value.int Go.IntKind.u64 128)) fun x6 =>
    brV x6
    (bnd (pConv Try.prog 51 5 x1 h) fun x11 =>
    bnd (pBin Try.prog Go.BinOp.or 5 (Go.Operand.tmp 11) (Go.Operand.const (Go.Value.int Go.IntKind.u8 128)) x11 (Go.Value.int Go.IntKind.u8 128)) fun x12 =>
    bnd (pBuildSlice Try.prog 26 1 #[(0, x12)] h) fun x13 =>
    bnd (pAppend Try.prog #[26, 26] x0 x13.1 x13.2) fun x14 =>
    bnd (pBin Try.prog Go.BinOp.shr 51 (Go.Operand.tmp 7) (Go.Operand.const (Go.Value.int Go.IntKind.u64 7)) x1 (Go.Value.int Go.IntKind.u64 7)) fun x8 =>
    F33_llr inv k j x14.1 x8 x14.2 ke0)
    (ke0 x0 x1 x6 h)
theorem F33_llr_j {β : Type} {inv : Inv} {k : Nat} (j : Nat) {x0 x1 : Value} {h : AH} {K : XE → Act → AH → Option β} : kLoop (kCode env 33 false inv k (cl (cl (cl (cr c33))))) j (act 20 [(0, x0), (1, x1)]) h K = F33_llr inv k j x0 x1 h (fun y0 y1 y6 h => K (.exit 0) (act 20 [(0, y0), (1, y1), (6, y6)]) h) := by
      induction j generalizing x0 x1 h with
      | zero => rfl
      | succ j ih =>
        unfold F33_llr
        simp only [kLoop, k_seq (E := env) (f := 33) (c := (cl (cl (cl (cr c33))))) (by kernel_rfl), k_seq (E := env) (f := 33) (c := (cl (cl (cl (cl (cr c33)))))) (by kernel_rfl), r33_1, b33_rllllr, k_skip (E := env) (f := 33) (c := (cl (cr (cl (cl (cl (cl (cr c33)))))))) (by kernel_rfl), k_seq (E := env) (f := 33) (c := (cr (cl (cl (cl (cr c33)))))) (by kernel_rfl), k_block (E := env) (f := 33) (c := (cl (cr (cl (cl (cl (cr c33))))))) (id := 1) (by kernel_rfl), r33_3, r33_2, k_exit (E := env) (f := 33) (c := (cr (cr (cl (cl (cl (cl (cr c33)))))))) (id := 0) (by kernel_rfl), ih, reduceIte, reduceCtorEq, XE.exit.injEq, Nat.reduceEqDiff] <;> kernel_rfl
theorem F33_llr_eq {β : Type} {inv : Inv} {k : Nat} {x0 x1 : Value} {h : AH} {K : XE → Act → AH → Option β} : kCode env 33 false inv k (cl (cl (cr c33))) (act 20 [(0, x0), (1, x1)]) h K = F33_llr inv k k x0 x1 h (fun y0 y1 y6 h => K (.exit 0) (act 20 [(0, y0), (1, y1), (6, y6)]) h) := (k_loop (by kernel_rfl)).trans (F33_llr_j k)
theorem r33_4 {β : Type} {inv : Inv} {k : Nat} {x0 x1 x6 : Value} {h : AH} {K : XE → Act → AH → Option β} : kCode env 33 false inv k (cl (cr (cr c33))) (act 20 [(0, x0), (1, x1), (6, x6)]) h K =
    bnd (pConv Try.prog 51 5 x1 h) fun x17 =>
    bnd (pBuildSlice Try.prog 26 1 #[(0, x17)] h) fun x18 =>
    bnd (pAppend Try.prog #[26, 26] x0 x18.1 x18.2) fun x19 =>
    K .normal (act 20 [(4, x19.1)]) x19.2 := (k_reg (by kernel_rfl)).trans (by kernel_rfl)
theorem res33_0 {x4 : Value} {h : AH} : resOfFn env.P 33 .ret (act 20 [(4, x4)]) h = some (x4, h) := (resOfFn_k (by kernel_rfl) (by kernel_rfl)).trans (by kernel_rfl)
/-- shadowbook/octet.PutVar -/
noncomputable def F33 (inv : Inv) (k : Nat) (x0 x1 : Value) (h : AH) : Option (Value × AH) :=
    F33_llr inv k k x0 x1 h
    (fun y0 y1 y6 h =>
    bnd (pConv Try.prog 51 5 y1 h) fun x17 =>
    bnd (pBuildSlice Try.prog 26 1 #[(0, x17)] h) fun x18 =>
    bnd (pAppend Try.prog #[26, 26] y0 x18.1 x18.2) fun x19 =>
    some (x19.1, x19.2))
theorem F33_eq {inv : Inv} {k : Nat} {x0 x1 : Value} {h : AH} : eFun env k inv 33 #[x0, x1] h = F33 inv k x0 x1 h := by
      refine (eFun_k2 (by kernel_rfl) (by kernel_rfl) (by kernel_rfl) (a := act 20 [(0, x0), (1, x1)]) (c := c33) (by kernel_rfl) (by kernel_rfl)).trans ?_
      unfold F33
      simp only [k_seq (E := env) (f := 33) (c := c33) (by kernel_rfl), r33_0, k_seq (E := env) (f := 33) (c := (cr c33)) (by kernel_rfl), k_block (E := env) (f := 33) (c := (cl (cr c33))) (id := 0) (by kernel_rfl), F33_llr_eq, k_seq (E := env) (f := 33) (c := (cr (cr c33))) (by kernel_rfl), r33_4, k_ret (E := env) (f := 33) (c := (cr (cr (cr c33)))) (by kernel_rfl), res33_0, reduceIte, reduceCtorEq, XE.exit.injEq, Nat.reduceEqDiff] <;> kernel_rfl
noncomputable def c34 : Code := codeOf Try.prog 34
theorem r34_0 {β : Type} {inv : Inv} {k : Nat} {x0 : Value} {h : AH} {K : XE → Act → AH → Option β} : kCode env 34 false inv k (cl c34) (act 7 [(0, x0)]) h K =
    K .normal (act 7 [(0, x0)]) h := (k_reg (by kernel_rfl)).trans (by kernel_rfl)
theorem r34_1 {β : Type} {inv : Inv} {k : Nat} {x0 : Value} {h : AH} {K : XE → Act → AH → Option β} : kCode env 34 false inv k (cl (cr c34)) (act 7 [(0, x0)]) h K =
    bnd (inv (.func 58) #[] #[x0] h) fun x4 =>
    bnd (pBuild Try.prog 79 #[(0, x4.1)]) fun x5 =>
    bnd (pBox Try.prog 79 x5 x4.2) fun x6 =>
    K .normal (act 7 [(2, x6.1)]) x6.2 := (k_reg (by kernel_rfl)).trans (by kernel_rfl)
theorem res34_0 {x2 : Value} {h : AH} : resOfFn env.P 34 .ret (act 7 [(2, x2)]) h = some (x2, h) := (resOfFn_k (by kernel_rfl) (by kernel_rfl)).trans (by kernel_rfl)
/-- shadowbook/octet.New -/
noncomputable def F34 (inv : Inv) (k : Nat) (x0 : Value) (h : AH) : Option (Value × AH) :=
    bnd (inv (.func 58) #[] #[x0] h) fun x4 =>
    bnd (pBuild Try.prog 79 #[(0, x4.1)]) fun x5 =>
    bnd (pBox Try.prog 79 x5 x4.2) fun x6 =>
    some (x6.1, x6.2)
theorem F34_eq {inv : Inv} {k : Nat} {x0 : Value} {h : AH} : eFun env k inv 34 #[x0] h = F34 inv k x0 h := by
      refine (eFun_k2 (by kernel_rfl) (by kernel_rfl) (by kernel_rfl) (a := act 7 [(0, x0)]) (c := c34) (by kernel_rfl) (by kernel_rfl)).trans ?_
      unfold F34
      simp only [k_seq (E := env) (f := 34) (c := c34) (by kernel_rfl), r34_0, k_seq (E := env) (f := 34) (c := (cr c34)) (by kernel_rfl), r34_1, k_ret (E := env) (f := 34) (c := (cr (cr c34))) (by kernel_rfl), res34_0, reduceIte, reduceCtorEq, XE.exit.injEq, Nat.reduceEqDiff] <;> kernel_rfl
noncomputable def c35 : Code := codeOf Try.prog 35
theorem r35_0 {β : Type} {inv : Inv} {k : Nat} {x0 x1 : Value} {h : AH} {K : XE → Act → AH → Option β} : kCode env 35 false inv k (cl c35) (act 27 [(0, x0), (1, x1)]) h K =
    K .normal (act 27 [(0, x0), (1, x1)]) h := (k_reg (by kernel_rfl)).trans (by kernel_rfl)
theorem r35_1 {β : Type} {inv : Inv} {k : Nat} {x0 x1 : Value} {h : AH} {K : XE → Act → AH → Option β} : kCode env 35 false inv k (cl (cl (cl (cr c35)))) (act 27 [(0, x0), (1, x1)]) h K =
    bnd (pBin Try.prog Go.BinOp.eql 57 (Go.Operand.tmp 9) (Go.Operand.const (Go.Value.pointer none)) x0 (Go.Value.pointer none)) fun x10 =>
    K .normal (act 27 [(0, x0), (1, x1), (8, x10)]) h := (k_reg (by kernel_rfl)).trans (by kernel_rfl)
theorem b35_rllr {β : Type} {inv : Inv} {k : Nat} {x0 x1 x8 : Value} {h : AH} {K : XE → Act → AH → Option β} : kCode env 35 false inv k (cr (cl (cl (cr c35)))) (act 27 [(0, x0), (1, x1), (8, x8)]) h K = brV x8 (kCode env 35 false inv k (cl (cr (cl (cl (cr c35))))) (act 27 [(0, x0), (1, x1), (8, x8)]) h K) (kCode env 35 false inv k (cr (cr (cl (cl (cr c35))))) (act 27 [(0, x0), (1, x1), (8, x8)]) h K) := (k_cond (by kernel_rfl)).trans (by kernel_rfl)
theorem r35_2 {β : Type} {inv : Inv} {k : Nat} {x0 x1 x8 : Value} {h : AH} {K : XE → Act → AH → Option β} : kCode env 35 false inv k (cl (cl (cr (cl (cl (cr c35)))))) (act 27 [(0, x0), (1, x1), (8, x8)]) h K =
    K .normal (act 27 [(4, (Go.Value.int Go.IntKind.u64 0)), (5, (Go.Value.int Go.IntKind.i64 1))]) h := (k_reg (by kernel_rfl)).trans (by kernel_rfl)
theorem res35_0 {x4 x5 : Value} {h : AH} : resOfFn env.P 35 .ret (act 27 [(4, x4), (5, x5)]) h = some (.tuple #[x4, x5], h) := (resOfFn_k (by kernel_rfl) (by kernel_rfl)).trans (by kernel_rfl)
theorem r35_3 {β : Type} {inv : Inv} {k : Nat} {x0 x1 x8 : Value} {h : AH} {K : XE → Act → AH → Option β} : kCode env 35 false inv k (cl (cr (cr (cl (cl (cr c35)))))) (act 27 [(0, x0), (1, x1), (8, x8)]) h K =
    bnd (pBin Try.prog Go.BinOp.lss 3 (Go.Operand.tmp 12) (Go.Operand.const (Go.Value.int Go.IntKind.i64 1)) x1 (Go.Value.int Go.IntKind.i64 1)) fun x13 =>
    bnd (gd (some x13) false h (some (x1, h))) fun x15 =>
    bnd (gd (some x13) false x15.2 (lt (pBin Try.prog Go.BinOp.gtr 3 (Go.Operand.tmp 15) (Go.Operand.const (Go.Value.int Go.IntKind.i64 8)) x15.1 (Go.Value.int Go.IntKind.i64 8)) x15.2)) fun x16 =>
    bnd (pickV x13 (Go.Value.bool true) x16.1) fun x17 =>
    K .normal (act 27 [(0, x0), (1, x1), (11, x17)]) x16.2 := (k_reg (by kernel_rfl)).trans (by kernel_rfl)
theorem b35_rrrllr {β : Type} {inv : Inv} {k : Nat} {x0 x1 x11 : Value} {h : AH} {K : XE → Act → AH → Option β} : kCode env 35 false inv k (cr (cr (cr (cl (cl (cr c35)))))) (act 27 [(0, x0), (1, x1), (11, x11)]) h K = brV x11 (kCode env 35 false inv k (cl (cr (cr (cr (cl (cl (cr c35))))))) (act 27 [(0, x0), (1, x1), (11, x11)]) h K) (kCode env 35 false inv k (cr (cr (cr (cr (cl (cl (cr c35))))))) (act 27 [(0, x0), (1, x1), (11, x11)]) h K) := (k_cond (by kernel_rfl)).trans (by kernel_rfl)
theorem r35_4 {β : Type} {inv : Inv} {k : Nat} {x0 x1 x11 : Value} {h : AH} {K : XE → Act → AH → Option β} : kCode env 35 false inv k (cl (cl (cr (cr (cr (cl (cl (cr c35)))))))) (act 27 [(0, x0), (1, x1), (11, x11)]) h K =
    K .normal (act 27 [(4, (Go.Value.int Go.IntKind.u64 0)), (5, (Go.Value.int Go.IntKind.i64 2))]) h := (k_reg (by kernel_rfl)).trans (by kernel_rfl)
theorem r35_5 {β : Type} {inv : Inv} {k : Nat} {x0 x1 x11 : Value} {h : AH} {K : XE → Act → AH → Option β} : kCode env 35 false inv k (cl (cr (cr c35))) (act 27 [(0, x0), (1, x1), (11, x11)]) h K =
    bnd (inv (.func 59) #[] #[x0, x1] h) fun x21 =>
    bnd (pExtract x21.1 0) fun x22 =>
    bnd (pExtract x21.1 1) fun x23 =>
    K .normal (act 27 [(6, x22), (7, x23)]) x21.2 := (k_reg (by kernel_rfl)).trans (by kernel_rfl)
theorem r35_6 {β : Type} {inv : Inv} {k : Nat} {x6 x7 : Value} {h : AH} {K : XE → Act → AH → Option β} : kCode env 35 false inv k (cl (cr (cr (cr c35)))) (act 27 [(6, x6), (7, x7)]) h K =
    bnd (inv (.func 60) #[] #[x6] h) fun x25 =>
    K .normal (act 27 [(4, x25.1), (5, x7)]) x25.2 := (k_reg (by kernel_rfl)).trans (by kernel_rfl)
/-- (*shadowbook/octet.Reader).Number -/
noncomputable def F35 (inv : Inv) (k : Nat) (x0 x1 : Value) (h : AH) : Option (Value × AH) :=
    bnd (pBin Try.prog Go.BinOp.eql 57 (Go.Operand.tmp 9) (Go.Operand.const (Go.Value.pointer none)) x0 (Go.Value.pointer none)) fun x10 =>
    brV x10
    (some (.tuple #[(Go.Value.int Go.IntKind.u64 0), (Go.Value.int Go.IntKind.i64 1)], h))
    (bnd (pBin Try.prog Go.BinOp.lss 3 (Go.Operand.tmp 12) (Go.Operand.const (Go.Value.int Go.IntKind.i64 1)) x1 (Go.Value.int Go.IntKind.i64 1)) fun x13 =>
    bnd (gd (some x13) false h (some (x1, h))) fun x15 =>
    bnd (gd (some x13) false x15.2 (lt (pBin Try.prog Go.BinOp.gtr 3 (Go.Operand.tmp 15) (Go.Operand.const (Go.Value.int Go.IntKind.i64 8)) x15.1 (Go.Value.int Go.IntKind.i64 8)) x15.2)) fun x16 =>
    bnd (pickV x13 (Go.Value.bool true) x16.1) fun x17 =>
    brV x17
    (some (.tuple #[(Go.Value.int Go.IntKind.u64 0), (Go.Value.int Go.IntKind.i64 2)], x16.2))
    (bnd (inv (.func 59) #[] #[x0, x1] x16.2) fun x21 =>
    bnd (pExtract x21.1 0) fun x22 =>
    bnd (pExtract x21.1 1) fun x23 =>
    bnd (inv (.func 60) #[] #[x22] x21.2) fun x25 =>
    some (.tuple #[x25.1, x23], x25.2)))
theorem F35_eq {inv : Inv} {k : Nat} {x0 x1 : Value} {h : AH} : eFun env k inv 35 #[x0, x1] h = F35 inv k x0 x1 h := by
      refine (eFun_k2 (by kernel_rfl) (by kernel_rfl) (by kernel_rfl) (a := act 27 [(0, x0), (1, x1)]) (c := c35) (by kernel_rfl) (by kernel_rfl)).trans ?_
      unfold F35
      simp only [k_seq (E := env) (f := 35) (c := c35) (by kernel_rfl), r35_0, k_seq (E := env) (f := 35) (c := (cr c35)) (by kernel_rfl), k_block (E := env) (f := 35) (c := (cl (cr c35))) (id := 0) (by kernel_rfl), k_seq (E := env) (f := 35) (c := (cl (cl (cr c35)))) (by kernel_rfl), r35_1, b35_rllr, k_seq (E := env) (f := 35) (c := (cl (cr (cl (cl (cr c35)))))) (by kernel_rfl), r35_2, k_ret (E := env) (f := 35) (c := (cr (cl (cr (cl (cl (cr c35))))))) (by kernel_rfl), res35_0, k_seq (E := env) (f := 35) (c := (cr (cr (cl (cl (cr c35)))))) (by kernel_rfl), r35_3, b35_rrrllr, k_seq (E := env) (f := 35) (c := (cl (cr (cr (cr (cl (cl (cr c35)))))))) (by kernel_rfl), r35_4, k_ret (E := env) (f := 35) (c := (cr (cl (cr (cr (cr (cl (cl (cr c35))))))))) (by kernel_rfl), k_skip (E := env) (f := 35) (c := (cr (cr (cr (cr (cl (cl (cr c35)))))))) (by kernel_rfl), k_seq (E := env) (f := 35) (c := (cr (cr c35))) (by kernel_rfl), r35_5, k_seq (E := env) (f := 35) (c := (cr (cr (cr c35)))) (by kernel_rfl), r35_6, k_ret (E := env) (f := 35) (c := (cr (cr (cr (cr c35))))) (by kernel_rfl), reduceIte, reduceCtorEq, XE.exit.injEq, Nat.reduceEqDiff] <;> kernel_rfl
end Go.Proofs.Ytcidbbkefpeahaa.Sh
