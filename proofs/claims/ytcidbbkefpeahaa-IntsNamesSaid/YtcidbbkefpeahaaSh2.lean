/- Shallow functions, part 2. Printed by a program of the prover's own from the loaded program; Lean checks it. -/
import Derived.Test.YtcidbbkefpeahaaSh0
set_option linter.unusedVariables false
set_option linter.unusedSimpArgs false
set_option maxRecDepth 100000
namespace Go.Proofs.Ytcidbbkefpeahaa.Sh
open Go Go.RowKit Go.Proofs.Ev
noncomputable def c36 : Code := codeOf Try.prog 36
theorem r36_0 {β : Type} {inv : Inv} {k : Nat} {x0 : Value} {h : AH} {K : XE → Act → AH → Option β} : kCode env 36 false inv k (cl c36) (act 58 [(0, x0)]) h K =
    K .normal (act 58 [(0, x0), (2, (Go.Value.int Go.IntKind.u64 0))]) h := (k_reg (by kernel_rfl)).trans (by kernel_rfl)
theorem r36_1 {β : Type} {inv : Inv} {k : Nat} {x0 x2 : Value} {h : AH} {K : XE → Act → AH → Option β} : kCode env 36 false inv k (cl (cl (cr c36))) (act 58 [(0, x0), (2, x2)]) h K =
    bnd (pBin Try.prog Go.BinOp.eql 57 (Go.Operand.tmp 7) (Go.Operand.const (Go.Value.pointer none)) x0 (Go.Value.pointer none)) fun x8 =>
    K .normal (act 58 [(0, x0), (2, x2), (8, x8)]) h := (k_reg (by kernel_rfl)).trans (by kernel_rfl)
theorem b36_rlr {β : Type} {inv : Inv} {k : Nat} {x0 x2 x8 : Value} {h : AH} {K : XE → Act → AH → Option β} : kCode env 36 false inv k (cr (cl (cr c36))) (act 58 [(0, x0), (2, x2), (8, x8)]) h K = brV x8 (kCode env 36 false inv k (cl (cr (cl (cr c36)))) (act 58 [(0, x0), (2, x2), (8, x8)]) h K) (kCode env 36 false inv k (cr (cr (cl (cr c36)))) (act 58 [(0, x0), (2, x2), (8, x8)]) h K) := (k_cond (by kernel_rfl)).trans (by kernel_rfl)
theorem r36_2 {β : Type} {inv : Inv} {k : Nat} {x0 x2 x8 : Value} {h : AH} {K : XE → Act → AH → Option β} : kCode env 36 false inv k (cl (cl (cr (cl (cr c36))))) (act 58 [(0, x0), (2, x2), (8, x8)]) h K =
    K .normal (act 58 [(2, (Go.Value.int Go.IntKind.u64 0)), (3, (Go.Value.int Go.IntKind.i64 1))]) h := (k_reg (by kernel_rfl)).trans (by kernel_rfl)
theorem res36_0 {x2 x3 : Value} {h : AH} : resOfFn env.P 36 .ret (act 58 [(2, x2), (3, x3)]) h = some (.tuple #[x2, x3], h) := (resOfFn_k (by kernel_rfl) (by kernel_rfl)).trans (by kernel_rfl)
theorem r36_3 {β : Type} {inv : Inv} {k : Nat} {x0 x2 x8 : Value} {h : AH} {K : XE → Act → AH → Option β} : kCode env 36 false inv k (cl (cl (cr (cr c36)))) (act 58 [(0, x0), (2, x2), (8, x8)]) h K =
    bnd (pNilCheck x0) fun x10 =>
    bnd (pFieldAddr Try.prog 79 x10 0) fun x11 =>
    bnd (pLoad Try.prog 26 x11 h) fun x12 =>
    bnd (pLen Try.prog #[26] x12 h) fun x13 =>
    K .normal (act 58 [(0, x0), (2, x2), (12, x12), (13, x13), (14, (Go.Value.int Go.IntKind.i64 0))]) h := (k_reg (by kernel_rfl)).trans (by kernel_rfl)
theorem r36_4 {β : Type} {inv : Inv} {k : Nat} {x0 x2 x12 x13 x14 : Value} {h : AH} {K : XE → Act → AH → Option β} : kCode env 36 false inv k (cl (cl (cl (cr (cl (cr (cr c36))))))) (act 58 [(0, x0), (2, x2), (12, x12), (13, x13), (14, x14)]) h K =
    bnd (pBin Try.prog Go.BinOp.lss 3 (Go.Operand.tmp 14) (Go.Operand.tmp 13) x14 x13) fun x15 =>
    K .normal (act 58 [(0, x0), (2, x2), (12, x12), (13, x13), (14, x14), (15, x15)]) h := (k_reg (by kernel_rfl)).trans (by kernel_rfl)
theorem b36_lrllrlrr {β : Type} {inv : Inv} {k : Nat} {x0 x2 x12 x13 x14 x15 : Value} {h : AH} {K : XE → Act → AH → Option β} : kCode env 36 false inv k (cl (cr (cl (cl (cr (cl (cr (cr c36)))))))) (act 58 [(0, x0), (2, x2), (12, x12), (13, x13), (14, x14), (15, x15)]) h K = brV x15 (kCode env 36 false inv k (cl (cl (cr (cl (cl (cr (cl (cr (cr c36))))))))) (act 58 [(0, x0), (2, x2), (12, x12), (13, x13), (14, x14), (15, x15)]) h K) (kCode env 36 false inv k (cr (cl (cr (cl (cl (cr (cl (cr (cr c36))))))))) (act 58 [(0, x0), (2, x2), (12, x12), (13, x13), (14, x14), (15, x15)]) h K) := (k_cond (by kernel_rfl)).trans (by kernel_rfl)
theorem r36_5 {β : Type} {inv : Inv} {k : Nat} {x0 x2 x12 x13 x14 x15 : Value} {h : AH} {K : XE → Act → AH → Option β} : kCode env 36 false inv k (cl (cl (cl (cr (cr (cl (cl (cr (cl (cr (cr c36))))))))))) (act 58 [(0, x0), (2, x2), (12, x12), (13, x13), (14, x14), (15, x15)]) h K =
    bnd (pIndexAddr Try.prog 26 x12 x14) fun x17 =>
    bnd (pLoad Try.prog 5 x17 h) fun x18 =>
    K .normal (act 58 [(0, x0), (2, x2), (4, x14), (5, x18), (12, x12), (13, x13), (14, x14)]) h := (k_reg (by kernel_rfl)).trans (by kernel_rfl)
theorem r36_6 {β : Type} {inv : Inv} {k : Nat} {x0 x2 x4 x5 x12 x13 x14 : Value} {h : AH} {K : XE → Act → AH → Option β} : kCode env 36 false inv k (cl (cl (cr (cl (cl (cr (cr (cl (cl (cr (cl (cr (cr c36))))))))))))) (act 58 [(0, x0), (2, x2), (4, x4), (5, x5), (12, x12), (13, x13), (14, x14)]) h K =
    bnd (pBin Try.prog Go.BinOp.eql 3 (Go.Operand.tmp 19) (Go.Operand.const (Go.Value.int Go.IntKind.i64 10)) x4 (Go.Value.int Go.IntKind.i64 10)) fun x20 =>
    K .normal (act 58 [(0, x0), (2, x2), (4, x4), (5, x5), (12, x12), (13, x13), (14, x14), (20, x20)]) h := (k_reg (by kernel_rfl)).trans (by kernel_rfl)
theorem b36_rlrllrrllrlrr {β : Type} {inv : Inv} {k : Nat} {x0 x2 x4 x5 x12 x13 x14 x20 : Value} {h : AH} {K : XE → Act → AH → Option β} : kCode env 36 false inv k (cr (cl (cr (cl (cl (cr (cr (cl (cl (cr (cl (cr (cr c36))))))))))))) (act 58 [(0, x0), (2, x2), (4, x4), (5, x5), (12, x12), (13, x13), (14, x14), (20, x20)]) h K = brV x20 (kCode env 36 false inv k (cl (cr (cl (cr (cl (cl (cr (cr (cl (cl (cr (cl (cr (cr c36)))))))))))))) (act 58 [(0, x0), (2, x2), (4, x4), (5, x5), (12, x12), (13, x13), (14, x14), (20, x20)]) h K) (kCode env 36 false inv k (cr (cr (cl (cr (cl (cl (cr (cr (cl (cl (cr (cl (cr (cr c36)))))))))))))) (act 58 [(0, x0), (2, x2), (4, x4), (5, x5), (12, x12), (13, x13), (14, x14), (20, x20)]) h K) := (k_cond (by kernel_rfl)).trans (by kernel_rfl)
theorem r36_7 {β : Type} {inv : Inv} {k : Nat} {x0 x2 x4 x5 x12 x13 x14 x20 : Value} {h : AH} {K : XE → Act → AH → Option β} : kCode env 36 false inv k (cl (cr (cr (cl (cl (cr (cr (cl (cl (cr (cl (cr (cr c36))))))))))))) (act 58 [(0, x0), (2, x2), (4, x4), (5, x5), (12, x12), (13, x13), (14, x14), (20, x20)]) h K =
    bnd (pBin Try.prog Go.BinOp.andNot 5 (Go.Operand.tmp 21) (Go.Operand.const (Go.Value.int Go.IntKind.u8 128)) x5 (Go.Value.int Go.IntKind.u8 128)) fun x22 =>
    bnd (pConv Try.prog 5 51 x22 h) fun x23 =>
    K .normal (act 58 [(0, x0), (2, x2), (4, x4), (5, x5), (6, x23), (12, x12), (13, x13), (14, x14)]) h := (k_reg (by kernel_rfl)).trans (by kernel_rfl)
theorem r36_8 {β : Type} {inv : Inv} {k : Nat} {x0 x2 x4 x5 x6 x12 x13 x14 : Value} {h : AH} {K : XE → Act → AH → Option β} : kCode env 36 false inv k (cl (cl (cr (cr (cr (cl (cl (cr (cr (cl (cl (cr (cl (cr (cr c36))))))))))))))) (act 58 [(0, x0), (2, x2), (4, x4), (5, x5), (6, x6), (12, x12), (13, x13), (14, x14)]) h K =
    bnd (pBin Try.prog Go.BinOp.eql 3 (Go.Operand.tmp 24) (Go.Operand.const (Go.Value.int Go.IntKind.i64 9)) x4 (Go.Value.int Go.IntKind.i64 9)) fun x25 =>
    bnd (gd (some x25) true h (some (x6, h))) fun x27 =>
    bnd (gd (some x25) true x27.2 (lt (pBin Try.prog Go.BinOp.gtr 51 (Go.Operand.tmp 27) (Go.Operand.const (Go.Value.int Go.IntKind.u64 1)) x27.1 (Go.Value.int Go.IntKind.u64 1)) x27.2)) fun x28 =>
    bnd (pickV x25 x28.1 (Go.Value.bool false)) fun x29 =>
    K .normal (act 58 [(0, x0), (2, x2), (4, x4), (5, x5), (6, x6), (12, x12), (13, x13), (14, x14), (29, x29)]) x28.2 := (k_reg (by kernel_rfl)).trans (by kernel_rfl)
theorem b36_rlrrrllrrllrlrr {β : Type} {inv : Inv} {k : Nat} {x0 x2 x4 x5 x6 x12 x13 x14 x29 : Value} {h : AH} {K : XE → Act → AH → Option β} : kCode env 36 false inv k (cr (cl (cr (cr (cr (cl (cl (cr (cr (cl (cl (cr (cl (cr (cr c36))))))))))))))) (act 58 [(0, x0), (2, x2), (4, x4), (5, x5), (6, x6), (12, x12), (13, x13), (14, x14), (29, x29)]) h K = brV x29 (kCode env 36 false inv k (cl (cr (cl (cr (cr (cr (cl (cl (cr (cr (cl (cl (cr (cl (cr (cr c36)))))))))))))))) (act 58 [(0, x0), (2, x2), (4, x4), (5, x5), (6, x6), (12, x12), (13, x13), (14, x14), (29, x29)]) h K) (kCode env 36 false inv k (cr (cr (cl (cr (cr (cr (cl (cl (cr (cr (cl (cl (cr (cl (cr (cr c36)))))))))))))))) (act 58 [(0, x0), (2, x2), (4, x4), (5, x5), (6, x6), (12, x12), (13, x13), (14, x14), (29, x29)]) h K) := (k_cond (by kernel_rfl)).trans (by kernel_rfl)
theorem r36_9 {β : Type} {inv : Inv} {k : Nat} {x0 x2 x4 x5 x6 x12 x13 x14 x29 : Value} {h : AH} {K : XE → Act → AH → Option β} : kCode env 36 false inv k (cl (cr (cr (cr (cr (cl (cl (cr (cr (cl (cl (cr (cl (cr (cr c36))))))))))))))) (act 58 [(0, x0), (2, x2), (4, x4), (5, x5), (6, x6), (12, x12), (13, x13), (14, x14), (29, x29)]) h K =
    bnd (pBin Try.prog Go.BinOp.mul 3 (Go.Operand.const (Go.Value.int Go.IntKind.i64 7)) (Go.Operand.tmp 32) (Go.Value.int Go.IntKind.i64 7) x4) fun x33 =>
    bnd (pBin Try.prog Go.BinOp.shl 51 (Go.Operand.tmp 31) (Go.Operand.tmp 33) x6 x33) fun x34 =>
    bnd (pBin Try.prog Go.BinOp.or 51 (Go.Operand.tmp 30) (Go.Operand.tmp 34) x2 x34) fun x35 =>
    K .normal (act 58 [(0, x0), (2, x35), (4, x4), (5, x5), (6, x6), (12, x12), (13, x13), (14, x14)]) h := (k_reg (by kernel_rfl)).trans (by kernel_rfl)
theorem r36_10 {β : Type} {inv : Inv} {k : Nat} {x0 x2 x4 x5 x6 x12 x13 x14 : Value} {h : AH} {K : XE → Act → AH → Option β} : kCode env 36 false inv k (cl (cl (cr (cr (cr (cr (cr (cl (cl (cr (cr (cl (cl (cr (cl (cr (cr c36))))))))))))))))) (act 58 [(0, x0), (2, x2), (4, x4), (5, x5), (6, x6), (12, x12), (13, x13), (14, x14)]) h K =
    bnd (pBin Try.prog Go.BinOp.geq 5 (Go.Operand.tmp 36) (Go.Operand.const (Go.Value.int Go.IntKind.u8 128)) x5 (Go.Value.int Go.IntKind.u8 128)) fun x37 =>
    K .normal (act 58 [(0, x0), (2, x2), (4, x4), (6, x6), (12, x12), (13, x13), (14, x14), (37, x37)]) h := (k_reg (by kernel_rfl)).trans (by kernel_rfl)
theorem b36_rlrrrrrllrrllrlrr {β : Type} {inv : Inv} {k : Nat} {x0 x2 x4 x6 x12 x13 x14 x37 : Value} {h : AH} {K : XE → Act → AH → Option β} : kCode env 36 false inv k (cr (cl (cr (cr (cr (cr (cr (cl (cl (cr (cr (cl (cl (cr (cl (cr (cr c36))))))))))))))))) (act 58 [(0, x0), (2, x2), (4, x4), (6, x6), (12, x12), (13, x13), (14, x14), (37, x37)]) h K = brV x37 (kCode env 36 false inv k (cl (cr (cl (cr (cr (cr (cr (cr (cl (cl (cr (cr (cl (cl (cr (cl (cr (cr c36)))))))))))))))))) (act 58 [(0, x0), (2, x2), (4, x4), (6, x6), (12, x12), (13, x13), (14, x14), (37, x37)]) h K) (kCode env 36 false inv k (cr (cr (cl (cr (cr (cr (cr (cr (cl (cl (cr (cr (cl (cl (cr (cl (cr (cr c36)))))))))))))))))) (act 58 [(0, x0), (2, x2), (4, x4), (6, x6), (12, x12), (13, x13), (14, x14), (37, x37)]) h K) := (k_cond (by kernel_rfl)).trans (by kernel_rfl)
theorem r36_14 {β : Type} {inv : Inv} {k : Nat} {x0 x2 x4 x6 x12 x13 x14 x37 : Value} {h : AH} {K : XE → Act → AH → Option β} : kCode env 36 false inv k (cr (cr (cr (cl (cl (cr (cl (cr (cr c36))))))))) (act 58 [(0, x0), (2, x2), (4, x4), (6, x6), (12, x12), (13, x13), (14, x14), (37, x37)]) h K =
    bnd (pBin Try.prog Go.BinOp.add 3 (Go.Operand.tmp 14) (Go.Operand.const (Go.Value.int Go.IntKind.i64 1)) x14 (Go.Value.int Go.IntKind.i64 1)) fun x55 =>
    K .normal (act 58 [(0, x0), (2, x2), (12, x12), (13, x13), (14, x55)]) h := (k_reg (by kernel_rfl)).trans (by kernel_rfl)
theorem r36_11 {β : Type} {inv : Inv} {k : Nat} {x0 x2 x4 x6 x12 x13 x14 x37 : Value} {h : AH} {K : XE → Act → AH → Option β} : kCode env 36 false inv k (cl (cl (cr (cr (cr (cr (cr (cr (cl (cl (cr (cr (cl (cl (cr (cl (cr (cr c36)))))))))))))))))) (act 58 [(0, x0), (2, x2), (4, x4), (6, x6), (12, x12), (13, x13), (14, x14), (37, x37)]) h K =
    bnd (pBin Try.prog Go.BinOp.eql 51 (Go.Operand.tmp 38) (Go.Operand.const (Go.Value.int Go.IntKind.u64 0)) x6 (Go.Value.int Go.IntKind.u64 0)) fun x39 =>
    bnd (gd (some x39) true h (some (x4, h))) fun x41 =>
    bnd (gd (some x39) true x41.2 (lt (pBin Try.prog Go.BinOp.gtr 3 (Go.Operand.tmp 41) (Go.Operand.const (Go.Value.int Go.IntKind.i64 0)) x41.1 (Go.Value.int Go.IntKind.i64 0)) x41.2)) fun x42 =>
    bnd (pickV x39 x42.1 (Go.Value.bool false)) fun x43 =>
    K .normal (act 58 [(0, x0), (2, x2), (4, x4), (43, x43)]) x42.2 := (k_reg (by kernel_rfl)).trans (by kernel_rfl)
theorem b36_rlrrrrrrllrrllrlrr {β : Type} {inv : Inv} {k : Nat} {x0 x2 x4 x43 : Value} {h : AH} {K : XE → Act → AH → Option β} : kCode env 36 false inv k (cr (cl (cr (cr (cr (cr (cr (cr (cl (cl (cr (cr (cl (cl (cr (cl (cr (cr c36)))))))))))))))))) (act 58 [(0, x0), (2, x2), (4, x4), (43, x43)]) h K = brV x43 (kCode env 36 false inv k (cl (cr (cl (cr (cr (cr (cr (cr (cr (cl (cl (cr (cr (cl (cl (cr (cl (cr (cr c36))))))))))))))))))) (act 58 [(0, x0), (2, x2), (4, x4), (43, x43)]) h K) (kCode env 36 false inv k (cr (cr (cl (cr (cr (cr (cr (cr (cr (cl (cl (cr (cr (cl (cl (cr (cl (cr (cr c36))))))))))))))))))) (act 58 [(0, x0), (2, x2), (4, x4), (43, x43)]) h K) := (k_cond (by kernel_rfl)).trans (by kernel_rfl)
theorem r36_12 {β : Type} {inv : Inv} {k : Nat} {x0 x2 x4 x43 : Value} {h : AH} {K : XE → Act → AH → Option β} : kCode env 36 false inv k (cl (cr (cr (cr (cr (cr (cr (cr (cl (cl (cr (cr (cl (cl (cr (cl (cr (cr c36)))))))))))))))))) (act 58 [(0, x0), (2, x2), (4, x4), (43, x43)]) h K =
    bnd (pNilCheck x0) fun x46 =>
    bnd (pFieldAddr Try.prog 79 x46 0) fun x47 =>
    bnd (pLoad Try.prog 26 x47 h) fun x48 =>
    bnd (pBin Try.prog Go.BinOp.add 3 (Go.Operand.tmp 49) (Go.Operand.const (Go.Value.int Go.IntKind.i64 1)) x4 (Go.Value.int Go.IntKind.i64 1)) fun x50 =>
    bnd (pSlice Try.prog 26 x48 (some x50) none none h) fun x51 =>
    bnd (pNilCheck x0) fun x52 =>
    bnd (pFieldAddr Try.prog 79 x52 0) fun x53 =>
    bnd (kSt (pStore Try.prog 26 x53 x51 h)) fun u =>
    K .normal (act 58 [(2, x2)]) u.2 := (k_reg (by kernel_rfl)).trans (by kernel_rfl)
theorem r36_13 {β : Type} {inv : Inv} {k : Nat} {x2 : Value} {h : AH} {K : XE → Act → AH → Option β} : kCode env 36 false inv k (cl (cr (cr (cr (cr (cr (cr (cr (cr (cl (cl (cr (cr (cl (cl (cr (cl (cr (cr c36))))))))))))))))))) (act 58 [(2, x2)]) h K =
    K .normal (act 58 [(2, x2), (3, (Go.Value.int Go.IntKind.i64 0))]) h := (k_reg (by kernel_rfl)).trans (by kernel_rfl)
noncomputable def F36_lrlrr {β : Type} (inv : Inv) (k : Nat) : Nat → Value → Value → Value → Value → Value → AH → (Value → Value → Value → Value → Value → Value → Value → Value → Value → Value → Value → Value → AH → Option β) → (Value → Value → AH → Option β) → Option β
  | 0, _, _, _, _, _, _, _, _ => none
  | j + 1, x0, x2, x12, x13, x14, h, ke0, kr =>
    bnd (pBin Try.prog Go.BinOp.lss 3 (Go.Operand.tmp 14) (Go.Operand.tmp 13) x14 x13) fun x15 =>
    brV x15
    (bnd (pIndexAddr Try.prog 26 x12 x14) fun x17 =>
    bnd (pLoad Try.prog 5 x17 h) fun x18 =>
    bnd (pBin Try.prog Go.BinOp.eql 3 (Go.Operand.tmp 19) (Go.Operand.const (Go.Value.int Go.IntKind.i64 10)) x14 (Go.Value.int Go.IntKind.i64 10)) fun x20 =>
    brV x20
    (ke0 x0 x2 x14 x18 unk x12 x13 x14 unk x20 unk unk h)
    (bnd (pBin Try.prog Go.BinOp.andNot 5 (Go.Operand.tmp 21) (Go.Operand.const (Go.Value.int Go.IntKind.u8 128)) x18 (Go.Value.int Go.IntKind.u8 128)) fun x22 =>
    bnd (pConv Try.prog 5 51 x22 h) fun x23 =>
    bnd (pBin Try.prog Go.BinOp.eql 3 (Go.Operand.tmp 24) (Go.Operand.const (Go.Value.int Go.IntKind.i64 9)) x14 (Go.Value.int Go.IntKind.i64 9)) fun x25 =>
    bnd (gd (some x25) true h (some (x23, h))) fun x27 =>
    bnd (gd (some x25) true x27.2 (lt (pBin Try.prog Go.BinOp.gtr 51 (Go.Operand.tmp 27) (Go.Operand.const (Go.Value.int Go.IntKind.u64 1)) x27.1 (Go.Value.int Go.IntKind.u64 1)) x27.2)) fun x28 =>
    bnd (pickV x25 x28.1 (Go.Value.bool false)) fun x29 =>
    brV x29
    (ke0 x0 x2 x14 x18 x23 x12 x13 x14 unk unk x29 unk x28.2)
    (bnd (pBin Try.prog Go.BinOp.mul 3 (Go.Operand.const (Go.Value.int Go.IntKind.i64 7)) (Go.Operand.tmp 32) (Go.Value.int Go.IntKind.i64 7) x14) fun x33 =>
    bnd (pBin Try.prog Go.BinOp.shl 51 (Go.Operand.tmp 31) (Go.Operand.tmp 33) x23 x33) fun x34 =>
    bnd (pBin Try.prog Go.BinOp.or 51 (Go.Operand.tmp 30) (Go.Operand.tmp 34) x2 x34) fun x35 =>
    bnd (pBin Try.prog Go.BinOp.geq 5 (Go.Operand.tmp 36) (Go.Operand.const (Go.Value.int Go.IntKind.u8 128)) x18 (Go.Value.int Go.IntKind.u8 128)) fun x37 =>
    brV x37
    (bnd (pBin Try.prog Go.BinOp.add 3 (Go.Operand.tmp 14) (Go.Operand.const (Go.Value.int Go.IntKind.i64 1)) x14 (Go.Value.int Go.IntKind.i64 1)) fun x55 =>
    F36_lrlrr inv k j x0 x35 x12 x13 x55 x28.2 ke0 kr)
    (bnd (pBin Try.prog Go.BinOp.eql 51 (Go.Operand.tmp 38) (Go.Operand.const (Go.Value.int Go.IntKind.u64 0)) x23 (Go.Value.int Go.IntKind.u64 0)) fun x39 =>
    bnd (gd (some x39) true x28.2 (some (x14, x28.2))) fun x41 =>
    bnd (gd (some x39) true x41.2 (lt (pBin Try.prog Go.BinOp.gtr 3 (Go.Operand.tmp 41) (Go.Operand.const (Go.Value.int Go.IntKind.i64 0)) x41.1 (Go.Value.int Go.IntKind.i64 0)) x41.2)) fun x42 =>
    bnd (pickV x39 x42.1 (Go.Value.bool false)) fun x43 =>
    brV x43
    (ke0 x0 x35 x14 unk unk unk unk unk unk unk unk x43 x42.2)
    (bnd (pNilCheck x0) fun x46 =>
    bnd (pFieldAddr Try.prog 79 x46 0) fun x47 =>
    bnd (pLoad Try.prog 26 x47 x42.2) fun x48 =>
    bnd (pBin Try.prog Go.BinOp.add 3 (Go.Operand.tmp 49) (Go.Operand.const (Go.Value.int Go.IntKind.i64 1)) x14 (Go.Value.int Go.IntKind.i64 1)) fun x50 =>
    bnd (pSlice Try.prog 26 x48 (some x50) none none x42.2) fun x51 =>
    bnd (pNilCheck x0) fun x52 =>
    bnd (pFieldAddr Try.prog 79 x52 0) fun x53 =>
    bnd (kSt (pStore Try.prog 26 x53 x51 x42.2)) fun u =>
    kr x35 (Go.Value.int Go.IntKind.i64 0) u.2)))))
    (ke0 x0 x2 unk unk unk x12 x13 x14 x15 unk unk unk h)
theorem F36_lrlrr_j {β : Type} {inv : Inv} {k : Nat} (j : Nat) {x0 x2 x12 x13 x14 : Value} {h : AH} {K : XE → Act → AH → Option β} : kLoop (kCode env 36 false inv k (cl (cl (cr (cl (cr (cr c36))))))) j (act 58 [(0, x0), (2, x2), (12, x12), (13, x13), (14, x14)]) h K = F36_lrlrr inv k j x0 x2 x12 x13 x14 h (fun y0 y2 y4 y5 y6 y12 y13 y14 y15 y20 y29 y43 h => K (.exit 0) (act 58 [(0, y0), (2, y2), (4, y4), (5, y5), (6, y6), (12, y12), (13, y13), (14, y14), (15, y15), (20, y20), (29, y29), (43, y43)]) h) (fun y2 y3 h => K .ret (act 58 [(2, y2), (3, y3)]) h) := by
      induction j generalizing x0 x2 x12 x13 x14 h with
      | zero => rfl
      | succ j ih =>
        unfold F36_lrlrr
        simp only [kLoop, k_seq (E := env) (f := 36) (c := (cl (cl (cr (cl (cr (cr c36))))))) (by kernel_rfl), r36_4, k_seq (E := env) (f := 36) (c := (cr (cl (cl (cr (cl (cr (cr c36)))))))) (by kernel_rfl), b36_lrllrlrr, k_skip (E := env) (f := 36) (c := (cl (cl (cr (cl (cl (cr (cl (cr (cr c36)))))))))) (by kernel_rfl), k_seq (E := env) (f := 36) (c := (cr (cr (cl (cl (cr (cl (cr (cr c36))))))))) (by kernel_rfl), k_block (E := env) (f := 36) (c := (cl (cr (cr (cl (cl (cr (cl (cr (cr c36)))))))))) (id := 1) (by kernel_rfl), k_seq (E := env) (f := 36) (c := (cl (cl (cr (cr (cl (cl (cr (cl (cr (cr c36))))))))))) (by kernel_rfl), r36_5, k_seq (E := env) (f := 36) (c := (cr (cl (cl (cr (cr (cl (cl (cr (cl (cr (cr c36)))))))))))) (by kernel_rfl), k_seq (E := env) (f := 36) (c := (cl (cr (cl (cl (cr (cr (cl (cl (cr (cl (cr (cr c36))))))))))))) (by kernel_rfl), r36_6, b36_rlrllrrllrlrr, k_exit (E := env) (f := 36) (c := (cl (cr (cl (cr (cl (cl (cr (cr (cl (cl (cr (cl (cr (cr c36))))))))))))))) (id := 0) (by kernel_rfl), k_skip (E := env) (f := 36) (c := (cr (cr (cl (cr (cl (cl (cr (cr (cl (cl (cr (cl (cr (cr c36))))))))))))))) (by kernel_rfl), k_seq (E := env) (f := 36) (c := (cr (cr (cl (cl (cr (cr (cl (cl (cr (cl (cr (cr c36))))))))))))) (by kernel_rfl), r36_7, k_seq (E := env) (f := 36) (c := (cr (cr (cr (cl (cl (cr (cr (cl (cl (cr (cl (cr (cr c36)))))))))))))) (by kernel_rfl), k_seq (E := env) (f := 36) (c := (cl (cr (cr (cr (cl (cl (cr (cr (cl (cl (cr (cl (cr (cr c36))))))))))))))) (by kernel_rfl), r36_8, b36_rlrrrllrrllrlrr, k_exit (E := env) (f := 36) (c := (cl (cr (cl (cr (cr (cr (cl (cl (cr (cr (cl (cl (cr (cl (cr (cr c36))))))))))))))))) (id := 0) (by kernel_rfl), k_skip (E := env) (f := 36) (c := (cr (cr (cl (cr (cr (cr (cl (cl (cr (cr (cl (cl (cr (cl (cr (cr c36))))))))))))))))) (by kernel_rfl), k_seq (E := env) (f := 36) (c := (cr (cr (cr (cr (cl (cl (cr (cr (cl (cl (cr (cl (cr (cr c36))))))))))))))) (by kernel_rfl), r36_9, k_seq (E := env) (f := 36) (c := (cr (cr (cr (cr (cr (cl (cl (cr (cr (cl (cl (cr (cl (cr (cr c36)))))))))))))))) (by kernel_rfl), k_seq (E := env) (f := 36) (c := (cl (cr (cr (cr (cr (cr (cl (cl (cr (cr (cl (cl (cr (cl (cr (cr c36))))))))))))))))) (by kernel_rfl), r36_10, b36_rlrrrrrllrrllrlrr, k_exit (E := env) (f := 36) (c := (cl (cr (cl (cr (cr (cr (cr (cr (cl (cl (cr (cr (cl (cl (cr (cl (cr (cr c36))))))))))))))))))) (id := 1) (by kernel_rfl), r36_14, k_skip (E := env) (f := 36) (c := (cr (cr (cl (cr (cr (cr (cr (cr (cl (cl (cr (cr (cl (cl (cr (cl (cr (cr c36))))))))))))))))))) (by kernel_rfl), k_seq (E := env) (f := 36) (c := (cr (cr (cr (cr (cr (cr (cl (cl (cr (cr (cl (cl (cr (cl (cr (cr c36))))))))))))))))) (by kernel_rfl), k_seq (E := env) (f := 36) (c := (cl (cr (cr (cr (cr (cr (cr (cl (cl (cr (cr (cl (cl (cr (cl (cr (cr c36)))))))))))))))))) (by kernel_rfl), r36_11, b36_rlrrrrrrllrrllrlrr, k_exit (E := env) (f := 36) (c := (cl (cr (cl (cr (cr (cr (cr (cr (cr (cl (cl (cr (cr (cl (cl (cr (cl (cr (cr c36)))))))))))))))))))) (id := 0) (by kernel_rfl), k_skip (E := env) (f := 36) (c := (cr (cr (cl (cr (cr (cr (cr (cr (cr (cl (cl (cr (cr (cl (cl (cr (cl (cr (cr c36)))))))))))))))))))) (by kernel_rfl), k_seq (E := env) (f := 36) (c := (cr (cr (cr (cr (cr (cr (cr (cl (cl (cr (cr (cl (cl (cr (cl (cr (cr c36)))))))))))))))))) (by kernel_rfl), r36_12, k_seq (E := env) (f := 36) (c := (cr (cr (cr (cr (cr (cr (cr (cr (cl (cl (cr (cr (cl (cl (cr (cl (cr (cr c36))))))))))))))))))) (by kernel_rfl), r36_13, k_ret (E := env) (f := 36) (c := (cr (cr (cr (cr (cr (cr (cr (cr (cr (cl (cl (cr (cr (cl (cl (cr (cl (cr (cr c36)))))))))))))))))))) (by kernel_rfl), k_exit (E := env) (f := 36) (c := (cr (cl (cr (cl (cl (cr (cl (cr (cr c36)))))))))) (id := 0) (by kernel_rfl), ih, reduceIte, reduceCtorEq, XE.exit.injEq, Nat.reduceEqDiff] <;> kernel_rfl
theorem F36_lrlrr_eq {β : Type} {inv : Inv} {k : Nat} {x0 x2 x12 x13 x14 : Value} {h : AH} {K : XE → Act → AH → Option β} : kCode env 36 false inv k (cl (cr (cl (cr (cr c36))))) (act 58 [(0, x0), (2, x2), (12, x12), (13, x13), (14, x14)]) h K = F36_lrlrr inv k k x0 x2 x12 x13 x14 h (fun y0 y2 y4 y5 y6 y12 y13 y14 y15 y20 y29 y43 h => K (.exit 0) (act 58 [(0, y0), (2, y2), (4, y4), (5, y5), (6, y6), (12, y12), (13, y13), (14, y14), (15, y15), (20, y20), (29, y29), (43, y43)]) h) (fun y2 y3 h => K .ret (act 58 [(2, y2), (3, y3)]) h) := (k_loop (by kernel_rfl)).trans (F36_lrlrr_j k)
noncomputable def F36_rlrr {β : Type} (inv : Inv) (k : Nat) (x0 x2 x12 x13 x14 : Value) (h : AH) (kn : (Value → Value → Value → Value → Value → Value → Value → Value → Value → Value → Value → Value → AH → Option β)) (kr : (Value → Value → AH → Option β)) : Option β :=
    F36_lrlrr inv k k x0 x2 x12 x13 x14 h
    (fun y0 y2 y4 y5 y6 y12 y13 y14 y15 y20 y29 y43 h =>
    kn y0 y2 y4 y5 y6 y12 y13 y14 y15 y20 y29 y43 h)
    (fun y2_1 y3 h_2 =>
    kr y2_1 y3 h_2)
theorem F36_rlrr_eq {β : Type} {inv : Inv} {k : Nat} {x0 x2 x12 x13 x14 : Value} {h : AH} {K : XE → Act → AH → Option β} : kCode env 36 false inv k (cr (cl (cr (cr c36)))) (act 58 [(0, x0), (2, x2), (12, x12), (13, x13), (14, x14)]) h K = F36_rlrr inv k x0 x2 x12 x13 x14 h (fun y0 y2 y4 y5 y6 y12 y13 y14 y15 y20 y29 y43 h => K .normal (act 58 [(0, y0), (2, y2), (4, y4), (5, y5), (6, y6), (12, y12), (13, y13), (14, y14), (15, y15), (20, y20), (29, y29), (43, y43)]) h) (fun y2 y3 h => K .ret (act 58 [(2, y2), (3, y3)]) h) := by
      unfold F36_rlrr
      simp only [k_block (E := env) (f := 36) (c := (cr (cl (cr (cr c36))))) (id := 0) (by kernel_rfl), F36_lrlrr_eq, reduceIte, reduceCtorEq, XE.exit.injEq, Nat.reduceEqDiff] <;> kernel_rfl
theorem r36_15 {β : Type} {inv : Inv} {k : Nat} {x0 x2 x4 x5 x6 x12 x13 x14 x15 x20 x29 x43 : Value} {h : AH} {K : XE → Act → AH → Option β} : kCode env 36 false inv k (cl (cl (cr (cr (cr c36))))) (act 58 [(0, x0), (2, x2), (4, x4), (5, x5), (6, x6), (12, x12), (13, x13), (14, x14), (15, x15), (20, x20), (29, x29), (43, x43)]) h K =
    bnd (inv (.func 61) #[] #[x0] h) fun x57 =>
    K .normal (act 58 [(57, x57.1)]) x57.2 := (k_reg (by kernel_rfl)).trans (by kernel_rfl)
theorem b36_rlrrr {β : Type} {inv : Inv} {k : Nat} {x57 : Value} {h : AH} {K : XE → Act → AH → Option β} : kCode env 36 false inv k (cr (cl (cr (cr (cr c36))))) (act 58 [(57, x57)]) h K = brV x57 (kCode env 36 false inv k (cl (cr (cl (cr (cr (cr c36)))))) (act 58 [(57, x57)]) h K) (kCode env 36 false inv k (cr (cr (cl (cr (cr (cr c36)))))) (act 58 [(57, x57)]) h K) := (k_cond (by kernel_rfl)).trans (by kernel_rfl)
theorem r36_16 {β : Type} {inv : Inv} {k : Nat} {x57 : Value} {h : AH} {K : XE → Act → AH → Option β} : kCode env 36 false inv k (cl (cl (cr (cl (cr (cr (cr c36))))))) (act 58 [(57, x57)]) h K =
    K .normal (act 58 [(2, (Go.Value.int Go.IntKind.u64 0)), (3, (Go.Value.int Go.IntKind.i64 7))]) h := (k_reg (by kernel_rfl)).trans (by kernel_rfl)
theorem r36_17 {β : Type} {inv : Inv} {k : Nat} {x57 : Value} {h : AH} {K : XE → Act → AH → Option β} : kCode env 36 false inv k (cl (cr (cr (cr (cr c36))))) (act 58 [(57, x57)]) h K =
    K .normal (act 58 [(2, (Go.Value.int Go.IntKind.u64 0)), (3, (Go.Value.int Go.IntKind.i64 4))]) h := (k_reg (by kernel_rfl)).trans (by kernel_rfl)
/-- (*shadowbook/octet.Reader).Var -/
noncomputable def F36 (inv : Inv) (k : Nat) (x0 : Value) (h : AH) : Option (Value × AH) :=
    bnd (pBin Try.prog Go.BinOp.eql 57 (Go.Operand.tmp 7) (Go.Operand.const (Go.Value.pointer none)) x0 (Go.Value.pointer none)) fun x8 =>
    brV x8
    (some (.tuple #[(Go.Value.int Go.IntKind.u64 0), (Go.Value.int Go.IntKind.i64 1)], h))
    (bnd (pNilCheck x0) fun x10 =>
    bnd (pFieldAddr Try.prog 79 x10 0) fun x11 =>
    bnd (pLoad Try.prog 26 x11 h) fun x12 =>
    bnd (pLen Try.prog #[26] x12 h) fun x13 =>
    F36_rlrr inv k x0 (Go.Value.int Go.IntKind.u64 0) x12 x13 (Go.Value.int Go.IntKind.i64 0) h
    (fun y0 y2 y4 y5 y6 y12 y13 y14 y15 y20 y29 y43 h =>
    bnd (inv (.func 61) #[] #[y0] h) fun x57 =>
    brV x57.1
    (some (.tuple #[(Go.Value.int Go.IntKind.u64 0), (Go.Value.int Go.IntKind.i64 7)], x57.2))
    (some (.tuple #[(Go.Value.int Go.IntKind.u64 0), (Go.Value.int Go.IntKind.i64 4)], x57.2)))
    (fun y2_3 y3 h_4 =>
    some (.tuple #[y2_3, y3], h_4)))
theorem F36_eq {inv : Inv} {k : Nat} {x0 : Value} {h : AH} : eFun env k inv 36 #[x0] h = F36 inv k x0 h := by
      refine (eFun_k2 (by kernel_rfl) (by kernel_rfl) (by kernel_rfl) (a := act 58 [(0, x0)]) (c := c36) (by kernel_rfl) (by kernel_rfl)).trans ?_
      unfold F36
      simp only [k_seq (E := env) (f := 36) (c := c36) (by kernel_rfl), r36_0, k_seq (E := env) (f := 36) (c := (cr c36)) (by kernel_rfl), k_seq (E := env) (f := 36) (c := (cl (cr c36))) (by kernel_rfl), r36_1, b36_rlr, k_seq (E := env) (f := 36) (c := (cl (cr (cl (cr c36))))) (by kernel_rfl), r36_2, k_ret (E := env) (f := 36) (c := (cr (cl (cr (cl (cr c36)))))) (by kernel_rfl), res36_0, k_skip (E := env) (f := 36) (c := (cr (cr (cl (cr c36))))) (by kernel_rfl), k_seq (E := env) (f := 36) (c := (cr (cr c36))) (by kernel_rfl), k_seq (E := env) (f := 36) (c := (cl (cr (cr c36)))) (by kernel_rfl), r36_3, F36_rlrr_eq, k_seq (E := env) (f := 36) (c := (cr (cr (cr c36)))) (by kernel_rfl), k_seq (E := env) (f := 36) (c := (cl (cr (cr (cr c36))))) (by kernel_rfl), r36_15, b36_rlrrr, k_seq (E := env) (f := 36) (c := (cl (cr (cl (cr (cr (cr c36))))))) (by kernel_rfl), r36_16, k_ret (E := env) (f := 36) (c := (cr (cl (cr (cl (cr (cr (cr c36)))))))) (by kernel_rfl), k_skip (E := env) (f := 36) (c := (cr (cr (cl (cr (cr (cr c36))))))) (by kernel_rfl), k_seq (E := env) (f := 36) (c := (cr (cr (cr (cr c36))))) (by kernel_rfl), r36_17, k_ret (E := env) (f := 36) (c := (cr (cr (cr (cr (cr c36)))))) (by kernel_rfl), reduceIte, reduceCtorEq, XE.exit.injEq, Nat.reduceEqDiff] <;> kernel_rfl
noncomputable def c37 : Code := codeOf Try.prog 37
theorem r37_0 {β : Type} {inv : Inv} {k : Nat} {x0 x1 : Value} {h : AH} {K : XE → Act → AH → Option β} : kCode env 37 false inv k (cl c37) (act 19 [(0, x0), (1, x1)]) h K =
    K .normal (act 19 [(0, x0), (1, x1)]) h := (k_reg (by kernel_rfl)).trans (by kernel_rfl)
theorem r37_1 {β : Type} {inv : Inv} {k : Nat} {x0 x1 : Value} {h : AH} {K : XE → Act → AH → Option β} : kCode env 37 false inv k (cl (cl (cr c37))) (act 19 [(0, x0), (1, x1)]) h K =
    bnd (pLen Try.prog #[42] x0 h) fun x7 =>
    K .normal (act 19 [(0, x0), (1, x1), (7, x7), (8, (Go.Value.int Go.IntKind.i64 0))]) h := (k_reg (by kernel_rfl)).trans (by kernel_rfl)
theorem r37_2 {β : Type} {inv : Inv} {k : Nat} {x0 x1 x7 x8 : Value} {h : AH} {K : XE → Act → AH → Option β} : kCode env 37 false inv k (cl (cl (cl (cr (cl (cr c37)))))) (act 19 [(0, x0), (1, x1), (7, x7), (8, x8)]) h K =
    bnd (pBin Try.prog Go.BinOp.lss 3 (Go.Operand.tmp 8) (Go.Operand.tmp 7) x8 x7) fun x9 =>
    K .normal (act 19 [(0, x0), (1, x1), (7, x7), (8, x8), (9, x9)]) h := (k_reg (by kernel_rfl)).trans (by kernel_rfl)
theorem b37_lrllrlr {β : Type} {inv : Inv} {k : Nat} {x0 x1 x7 x8 x9 : Value} {h : AH} {K : XE → Act → AH → Option β} : kCode env 37 false inv k (cl (cr (cl (cl (cr (cl (cr c37))))))) (act 19 [(0, x0), (1, x1), (7, x7), (8, x8), (9, x9)]) h K = brV x9 (kCode env 37 false inv k (cl (cl (cr (cl (cl (cr (cl (cr c37)))))))) (act 19 [(0, x0), (1, x1), (7, x7), (8, x8), (9, x9)]) h K) (kCode env 37 false inv k (cr (cl (cr (cl (cl (cr (cl (cr c37)))))))) (act 19 [(0, x0), (1, x1), (7, x7), (8, x8), (9, x9)]) h K) := (k_cond (by kernel_rfl)).trans (by kernel_rfl)
theorem r37_3 {β : Type} {inv : Inv} {k : Nat} {x0 x1 x7 x8 x9 : Value} {h : AH} {K : XE → Act → AH → Option β} : kCode env 37 false inv k (cl (cl (cl (cr (cr (cl (cl (cr (cl (cr c37)))))))))) (act 19 [(0, x0), (1, x1), (7, x7), (8, x8), (9, x9)]) h K =
    K .normal (act 19 [(0, x0), (1, x1), (5, x8), (7, x7), (8, x8)]) h := (k_reg (by kernel_rfl)).trans (by kernel_rfl)
theorem r37_4 {β : Type} {inv : Inv} {k : Nat} {x0 x1 x5 x7 x8 : Value} {h : AH} {K : XE → Act → AH → Option β} : kCode env 37 false inv k (cl (cr (cl (cl (cr (cr (cl (cl (cr (cl (cr c37))))))))))) (act 19 [(0, x0), (1, x1), (5, x5), (7, x7), (8, x8)]) h K =
    bnd (pIndexAddr Try.prog 42 x0 x5) fun x14 =>
    bnd (pLoad Try.prog 46 x14 h) fun x15 =>
    bnd (callV inv x1 #[x15] h) fun x16 =>
    K .normal (act 19 [(0, x0), (1, x1), (5, x5), (7, x7), (8, x8), (16, x16.1)]) x16.2 := (k_reg (by kernel_rfl)).trans (by kernel_rfl)
theorem b37_rrllrrllrlr {β : Type} {inv : Inv} {k : Nat} {x0 x1 x5 x7 x8 x16 : Value} {h : AH} {K : XE → Act → AH → Option β} : kCode env 37 false inv k (cr (cr (cl (cl (cr (cr (cl (cl (cr (cl (cr c37))))))))))) (act 19 [(0, x0), (1, x1), (5, x5), (7, x7), (8, x8), (16, x16)]) h K = brV x16 (kCode env 37 false inv k (cl (cr (cr (cl (cl (cr (cr (cl (cl (cr (cl (cr c37)))))))))))) (act 19 [(0, x0), (1, x1), (5, x5), (7, x7), (8, x8), (16, x16)]) h K) (kCode env 37 false inv k (cr (cr (cr (cl (cl (cr (cr (cl (cl (cr (cl (cr c37)))))))))))) (act 19 [(0, x0), (1, x1), (5, x5), (7, x7), (8, x8), (16, x16)]) h K) := (k_cond (by kernel_rfl)).trans (by kernel_rfl)
theorem r37_5 {β : Type} {inv : Inv} {k : Nat} {x0 x1 x5 x7 x8 x16 : Value} {h : AH} {K : XE → Act → AH → Option β} : kCode env 37 false inv k (cl (cl (cr (cr (cl (cl (cr (cr (cl (cl (cr (cl (cr c37))))))))))))) (act 19 [(0, x0), (1, x1), (5, x5), (7, x7), (8, x8), (16, x16)]) h K =
    K .normal (act 19 [(4, x5)]) h := (k_reg (by kernel_rfl)).trans (by kernel_rfl)
theorem r37_6 {β : Type} {inv : Inv} {k : Nat} {x0 x1 x5 x7 x8 x16 : Value} {h : AH} {K : XE → Act → AH → Option β} : kCode env 37 false inv k (cr (cr (cr (cl (cl (cr (cl (cr c37)))))))) (act 19 [(0, x0), (1, x1), (5, x5), (7, x7), (8, x8), (16, x16)]) h K =
    bnd (pBin Try.prog Go.BinOp.add 3 (Go.Operand.tmp 8) (Go.Operand.const (Go.Value.int Go.IntKind.i64 1)) x8 (Go.Value.int Go.IntKind.i64 1)) fun x18 =>
    K .normal (act 19 [(0, x0), (1, x1), (7, x7), (8, x18)]) h := (k_reg (by kernel_rfl)).trans (by kernel_rfl)
noncomputable def F37_lrlr {β : Type} (inv : Inv) (k : Nat) : Nat → Value → Value → Value → Value → AH → (Value → Value → Value → Value → Value → AH → Option β) → (Value → AH → Option β) → Option β
  | 0, _, _, _, _, _, _, _ => none
  | j + 1, x0, x1, x7, x8, h, ke0, kr =>
    bnd (pBin Try.prog Go.BinOp.lss 3 (Go.Operand.tmp 8) (Go.Operand.tmp 7) x8 x7) fun x9 =>
    brV x9
    (bnd (pIndexAddr Try.prog 42 x0 x8) fun x14 =>
    bnd (pLoad Try.prog 46 x14 h) fun x15 =>
    bnd (callV inv x1 #[x15] h) fun x16 =>
    brV x16.1
    (kr x8 x16.2)
    (bnd (pBin Try.prog Go.BinOp.add 3 (Go.Operand.tmp 8) (Go.Operand.const (Go.Value.int Go.IntKind.i64 1)) x8 (Go.Value.int Go.IntKind.i64 1)) fun x18 =>
    F37_lrlr inv k j x0 x1 x7 x18 x16.2 ke0 kr))
    (ke0 x0 x1 x7 x8 x9 h)
theorem F37_lrlr_j {β : Type} {inv : Inv} {k : Nat} (j : Nat) {x0 x1 x7 x8 : Value} {h : AH} {K : XE → Act → AH → Option β} : kLoop (kCode env 37 false inv k (cl (cl (cr (cl (cr c37)))))) j (act 19 [(0, x0), (1, x1), (7, x7), (8, x8)]) h K = F37_lrlr inv k j x0 x1 x7 x8 h (fun y0 y1 y7 y8 y9 h => K (.exit 0) (act 19 [(0, y0), (1, y1), (7, y7), (8, y8), (9, y9)]) h) (fun y4 h => K .ret (act 19 [(4, y4)]) h) := by
      induction j generalizing x0 x1 x7 x8 h with
      | zero => rfl
      | succ j ih =>
        unfold F37_lrlr
        simp only [kLoop, k_seq (E := env) (f := 37) (c := (cl (cl (cr (cl (cr c37)))))) (by kernel_rfl), r37_2, k_seq (E := env) (f := 37) (c := (cr (cl (cl (cr (cl (cr c37))))))) (by kernel_rfl), b37_lrllrlr, k_skip (E := env) (f := 37) (c := (cl (cl (cr (cl (cl (cr (cl (cr c37))))))))) (by kernel_rfl), k_seq (E := env) (f := 37) (c := (cr (cr (cl (cl (cr (cl (cr c37)))))))) (by kernel_rfl), k_block (E := env) (f := 37) (c := (cl (cr (cr (cl (cl (cr (cl (cr c37))))))))) (id := 1) (by kernel_rfl), k_seq (E := env) (f := 37) (c := (cl (cl (cr (cr (cl (cl (cr (cl (cr c37)))))))))) (by kernel_rfl), r37_3, k_seq (E := env) (f := 37) (c := (cr (cl (cl (cr (cr (cl (cl (cr (cl (cr c37))))))))))) (by kernel_rfl), r37_4, b37_rrllrrllrlr, k_seq (E := env) (f := 37) (c := (cl (cr (cr (cl (cl (cr (cr (cl (cl (cr (cl (cr c37))))))))))))) (by kernel_rfl), r37_5, k_ret (E := env) (f := 37) (c := (cr (cl (cr (cr (cl (cl (cr (cr (cl (cl (cr (cl (cr c37)))))))))))))) (by kernel_rfl), k_skip (E := env) (f := 37) (c := (cr (cr (cr (cl (cl (cr (cr (cl (cl (cr (cl (cr c37))))))))))))) (by kernel_rfl), r37_6, k_exit (E := env) (f := 37) (c := (cr (cl (cr (cl (cl (cr (cl (cr c37))))))))) (id := 0) (by kernel_rfl), ih, reduceIte, reduceCtorEq, XE.exit.injEq, Nat.reduceEqDiff] <;> kernel_rfl
theorem F37_lrlr_eq {β : Type} {inv : Inv} {k : Nat} {x0 x1 x7 x8 : Value} {h : AH} {K : XE → Act → AH → Option β} : kCode env 37 false inv k (cl (cr (cl (cr c37)))) (act 19 [(0, x0), (1, x1), (7, x7), (8, x8)]) h K = F37_lrlr inv k k x0 x1 x7 x8 h (fun y0 y1 y7 y8 y9 h => K (.exit 0) (act 19 [(0, y0), (1, y1), (7, y7), (8, y8), (9, y9)]) h) (fun y4 h => K .ret (act 19 [(4, y4)]) h) := (k_loop (by kernel_rfl)).trans (F37_lrlr_j k)
theorem r37_7 {β : Type} {inv : Inv} {k : Nat} {x0 x1 x7 x8 x9 : Value} {h : AH} {K : XE → Act → AH → Option β} : kCode env 37 false inv k (cl (cr (cr c37))) (act 19 [(0, x0), (1, x1), (7, x7), (8, x8), (9, x9)]) h K =
    K .normal (act 19 [(4, (Go.Value.int Go.IntKind.i64 (-1)))]) h := (k_reg (by kernel_rfl)).trans (by kernel_rfl)
theorem res37_0 {x4 : Value} {h : AH} : resOfFn env.P 37 .ret (act 19 [(4, x4)]) h = some (x4, h) := (resOfFn_k (by kernel_rfl) (by kernel_rfl)).trans (by kernel_rfl)
/-- slices.IndexFunc[[]shadowbook/ints.form,shadowbook/ints.form] -/
noncomputable def F37 (inv : Inv) (k : Nat) (x0 x1 : Value) (h : AH) : Option (Value × AH) :=
    bnd (pLen Try.prog #[42] x0 h) fun x7 =>
    F37_lrlr inv k k x0 x1 x7 (Go.Value.int Go.IntKind.i64 0) h
    (fun y0 y1 y7 y8 y9 h =>
    some ((Go.Value.int Go.IntKind.i64 (-1)), h))
    (fun y4 h_1 =>
    some (y4, h_1))
theorem F37_eq {inv : Inv} {k : Nat} {x0 x1 : Value} {h : AH} : eFun env k inv 37 #[x0, x1] h = F37 inv k x0 x1 h := by
      refine (eFun_k2 (by kernel_rfl) (by kernel_rfl) (by kernel_rfl) (a := act 19 [(0, x0), (1, x1)]) (c := c37) (by kernel_rfl) (by kernel_rfl)).trans ?_
      unfold F37
      simp only [k_seq (E := env) (f := 37) (c := c37) (by kernel_rfl), r37_0, k_seq (E := env) (f := 37) (c := (cr c37)) (by kernel_rfl), k_seq (E := env) (f := 37) (c := (cl (cr c37))) (by kernel_rfl), r37_1, k_block (E := env) (f := 37) (c := (cr (cl (cr c37)))) (id := 0) (by kernel_rfl), F37_lrlr_eq, k_seq (E := env) (f := 37) (c := (cr (cr c37))) (by kernel_rfl), r37_7, k_ret (E := env) (f := 37) (c := (cr (cr (cr c37)))) (by kernel_rfl), res37_0, reduceIte, reduceCtorEq, XE.exit.injEq, Nat.reduceEqDiff] <;> kernel_rfl
noncomputable def c38 : Code := codeOf Try.prog 38
theorem r38_0 {β : Type} {inv : Inv} {k : Nat} {x0 x1 : Value} {h : AH} {K : XE → Act → AH → Option β} : kCode env 38 false inv k (cl c38) (act 9 [(0, x0), (1, x1)]) h K =
    bnd (pBox Try.prog 46 x0 h) fun x2 =>
    K .normal (act 9 [(1, x1), (2, x2.1)]) x2.2 := (k_reg (by kernel_rfl)).trans (by kernel_rfl)
theorem r38_1 {β : Type} {inv : Inv} {k : Nat} {x1 x2 : Value} {h : AH} {K : XE → Act → AH → Option β} : kCode env 38 false inv k (cl (cr c38)) (act 9 [(1, x1), (2, x2)]) h K =
    bnd (pFieldAddr Try.prog 46 x2 0) fun x4 =>
    bnd (pLoad Try.prog 5 x4 h) fun x5 =>
    bnd (pConv Try.prog 5 51 x5 h) fun x6 =>
    bnd (pLoad Try.prog 51 x1 h) fun x7 =>
    bnd (pBin Try.prog Go.BinOp.eql 51 (Go.Operand.tmp 6) (Go.Operand.tmp 7) x6 x7) fun x8 =>
    K .normal (act 9 [(3, x8)]) h := (k_reg (by kernel_rfl)).trans (by kernel_rfl)
theorem res38_0 {x3 : Value} {h : AH} : resOfFn env.P 38 .ret (act 9 [(3, x3)]) h = some (x3, h) := (resOfFn_k (by kernel_rfl) (by kernel_rfl)).trans (by kernel_rfl)
/-- shadowbook/ints.Get$1 -/
noncomputable def F38 (inv : Inv) (k : Nat) (x0 x1 : Value) (h : AH) : Option (Value × AH) :=
    bnd (pBox Try.prog 46 x0 h) fun x2 =>
    bnd (pFieldAddr Try.prog 46 x2.1 0) fun x4 =>
    bnd (pLoad Try.prog 5 x4 x2.2) fun x5 =>
    bnd (pConv Try.prog 5 51 x5 x2.2) fun x6 =>
    bnd (pLoad Try.prog 51 x1 x2.2) fun x7 =>
    bnd (pBin Try.prog Go.BinOp.eql 51 (Go.Operand.tmp 6) (Go.Operand.tmp 7) x6 x7) fun x8 =>
    some (x8, x2.2)
theorem F38_eq {inv : Inv} {k : Nat} {x0 x1 : Value} {h : AH} : eFun env k inv 38 #[x0, x1] h = F38 inv k x0 x1 h := by
      refine (eFun_k2 (by kernel_rfl) (by kernel_rfl) (by kernel_rfl) (a := act 9 [(0, x0), (1, x1)]) (c := c38) (by kernel_rfl) (by kernel_rfl)).trans ?_
      unfold F38
      simp only [k_seq (E := env) (f := 38) (c := c38) (by kernel_rfl), r38_0, k_seq (E := env) (f := 38) (c := (cr c38)) (by kernel_rfl), r38_1, k_ret (E := env) (f := 38) (c := (cr (cr c38))) (by kernel_rfl), res38_0, reduceIte, reduceCtorEq, XE.exit.injEq, Nat.reduceEqDiff] <;> kernel_rfl
noncomputable def c39 : Code := codeOf Try.prog 39
theorem r39_0 {β : Type} {inv : Inv} {k : Nat} {x0 x1 : Value} {h : AH} {K : XE → Act → AH → Option β} : kCode env 39 false inv k (cl c39) (act 10 [(0, x0), (1, x1)]) h K =
    K .normal (act 10 [(0, x0), (1, x1)]) h := (k_reg (by kernel_rfl)).trans (by kernel_rfl)
theorem r39_1 {β : Type} {inv : Inv} {k : Nat} {x0 x1 : Value} {h : AH} {K : XE → Act → AH → Option β} : kCode env 39 false inv k (cl (cr c39)) (act 10 [(0, x0), (1, x1)]) h K =
    bnd (pConv Try.prog 26 9 x0 h) fun x6 =>
    bnd (pConv Try.prog 26 9 x1 h) fun x8 =>
    bnd (pBin Try.prog Go.BinOp.eql 9 (Go.Operand.tmp 6) (Go.Operand.tmp 8) x6 x8) fun x9 =>
    K .normal (act 10 [(4, x9)]) h := (k_reg (by kernel_rfl)).trans (by kernel_rfl)
theorem res39_0 {x4 : Value} {h : AH} : resOfFn env.P 39 .ret (act 10 [(4, x4)]) h = some (x4, h) := (resOfFn_k (by kernel_rfl) (by kernel_rfl)).trans (by kernel_rfl)
/-- bytes.Equal -/
noncomputable def F39 (inv : Inv) (k : Nat) (x0 x1 : Value) (h : AH) : Option (Value × AH) :=
    bnd (pConv Try.prog 26 9 x0 h) fun x6 =>
    bnd (pConv Try.prog 26 9 x1 h) fun x8 =>
    bnd (pBin Try.prog Go.BinOp.eql 9 (Go.Operand.tmp 6) (Go.Operand.tmp 8) x6 x8) fun x9 =>
    some (x9, h)
theorem F39_eq {inv : Inv} {k : Nat} {x0 x1 : Value} {h : AH} : eFun env k inv 39 #[x0, x1] h = F39 inv k x0 x1 h := by
      refine (eFun_k2 (by kernel_rfl) (by kernel_rfl) (by kernel_rfl) (a := act 10 [(0, x0), (1, x1)]) (c := c39) (by kernel_rfl) (by kernel_rfl)).trans ?_
      unfold F39
      simp only [k_seq (E := env) (f := 39) (c := c39) (by kernel_rfl), r39_0, k_seq (E := env) (f := 39) (c := (cr c39)) (by kernel_rfl), r39_1, k_ret (E := env) (f := 39) (c := (cr (cr c39))) (by kernel_rfl), res39_0, reduceIte, reduceCtorEq, XE.exit.injEq, Nat.reduceEqDiff] <;> kernel_rfl
noncomputable def c50 : Code := codeOf Try.prog 50
theorem r50_0 {β : Type} {inv : Inv} {k : Nat} {x0 x1 : Value} {h : AH} {K : XE → Act → AH → Option β} : kCode env 50 false inv k (cl c50) (act 26 [(0, x0), (1, x1)]) h K =
    K .normal (act 26 [(0, x0), (1, x1), (4, (Go.Value.slice none 0 0))]) h := (k_reg (by kernel_rfl)).trans (by kernel_rfl)
theorem r50_1 {β : Type} {inv : Inv} {k : Nat} {x0 x1 x4 : Value} {h : AH} {K : XE → Act → AH → Option β} : kCode env 50 false inv k (cl (cl (cr c50))) (act 26 [(0, x0), (1, x1), (4, x4)]) h K =
    K .normal (act 26 [(0, x0), (4, x4), (8, x1), (9, (Go.Value.int Go.IntKind.i64 0))]) h := (k_reg (by kernel_rfl)).trans (by kernel_rfl)
theorem r50_2 {β : Type} {inv : Inv} {k : Nat} {x0 x4 x8 x9 : Value} {h : AH} {K : XE → Act → AH → Option β} : kCode env 50 false inv k (cl (cl (cl (cr (cl (cr c50)))))) (act 26 [(0, x0), (4, x4), (8, x8), (9, x9)]) h K =
    bnd (pBin Try.prog Go.BinOp.lss 3 (Go.Operand.tmp 9) (Go.Operand.tmp 8) x9 x8) fun x10 =>
    K .normal (act 26 [(0, x0), (4, x4), (8, x8), (9, x9), (10, x10)]) h := (k_reg (by kernel_rfl)).trans (by kernel_rfl)
theorem b50_lrllrlr {β : Type} {inv : Inv} {k : Nat} {x0 x4 x8 x9 x10 : Value} {h : AH} {K : XE → Act → AH → Option β} : kCode env 50 false inv k (cl (cr (cl (cl (cr (cl (cr c50))))))) (act 26 [(0, x0), (4, x4), (8, x8), (9, x9), (10, x10)]) h K = brV x10 (kCode env 50 false inv k (cl (cl (cr (cl (cl (cr (cl (cr c50)))))))) (act 26 [(0, x0), (4, x4), (8, x8), (9, x9), (10, x10)]) h K) (kCode env 50 false inv k (cr (cl (cr (cl (cl (cr (cl (cr c50)))))))) (act 26 [(0, x0), (4, x4), (8, x8), (9, x9), (10, x10)]) h K) := (k_cond (by kernel_rfl)).trans (by kernel_rfl)
theorem r50_3 {β : Type} {inv : Inv} {k : Nat} {x0 x4 x8 x9 x10 : Value} {h : AH} {K : XE → Act → AH → Option β} : kCode env 50 false inv k (cl (cl (cl (cr (cr (cl (cl (cr (cl (cr c50)))))))))) (act 26 [(0, x0), (4, x4), (8, x8), (9, x9), (10, x10)]) h K =
    bnd (inv (.func 35) #[] #[x0, (Go.Value.int Go.IntKind.i64 8)] h) fun x13 =>
    bnd (pExtract x13.1 0) fun x14 =>
    bnd (pExtract x13.1 1) fun x15 =>
    K .normal (act 26 [(0, x0), (4, x4), (6, x14), (7, x15), (8, x8), (9, x9)]) x13.2 := (k_reg (by kernel_rfl)).trans (by kernel_rfl)
theorem r50_4 {β : Type} {inv : Inv} {k : Nat} {x0 x4 x6 x7 x8 x9 : Value} {h : AH} {K : XE → Act → AH → Option β} : kCode env 50 false inv k (cl (cl (cr (cl (cl (cr (cr (cl (cl (cr (cl (cr c50)))))))))))) (act 26 [(0, x0), (4, x4), (6, x6), (7, x7), (8, x8), (9, x9)]) h K =
    bnd (pBin Try.prog Go.BinOp.neq 27 (Go.Operand.tmp 16) (Go.Operand.const (Go.Value.int Go.IntKind.i64 0)) x7 (Go.Value.int Go.IntKind.i64 0)) fun x17 =>
    K .normal (act 26 [(0, x0), (4, x4), (6, x6), (7, x7), (8, x8), (9, x9), (17, x17)]) h := (k_reg (by kernel_rfl)).trans (by kernel_rfl)
theorem b50_rlrllrrllrlr {β : Type} {inv : Inv} {k : Nat} {x0 x4 x6 x7 x8 x9 x17 : Value} {h : AH} {K : XE → Act → AH → Option β} : kCode env 50 false inv k (cr (cl (cr (cl (cl (cr (cr (cl (cl (cr (cl (cr c50)))))))))))) (act 26 [(0, x0), (4, x4), (6, x6), (7, x7), (8, x8), (9, x9), (17, x17)]) h K = brV x17 (kCode env 50 false inv k (cl (cr (cl (cr (cl (cl (cr (cr (cl (cl (cr (cl (cr c50))))))))))))) (act 26 [(0, x0), (4, x4), (6, x6), (7, x7), (8, x8), (9, x9), (17, x17)]) h K) (kCode env 50 false inv k (cr (cr (cl (cr (cl (cl (cr (cr (cl (cl (cr (cl (cr c50))))))))))))) (act 26 [(0, x0), (4, x4), (6, x6), (7, x7), (8, x8), (9, x9), (17, x17)]) h K) := (k_cond (by kernel_rfl)).trans (by kernel_rfl)
theorem r50_5 {β : Type} {inv : Inv} {k : Nat} {x0 x4 x6 x7 x8 x9 x17 : Value} {h : AH} {K : XE → Act → AH → Option β} : kCode env 50 false inv k (cl (cl (cr (cl (cr (cl (cl (cr (cr (cl (cl (cr (cl (cr c50)))))))))))))) (act 26 [(0, x0), (4, x4), (6, x6), (7, x7), (8, x8), (9, x9), (17, x17)]) h K =
    K .normal (act 26 [(4, (Go.Value.slice none 0 0)), (5, x7)]) h := (k_reg (by kernel_rfl)).trans (by kernel_rfl)
theorem r50_6 {β : Type} {inv : Inv} {k : Nat} {x0 x4 x6 x7 x8 x9 x17 : Value} {h : AH} {K : XE → Act → AH → Option β} : kCode env 50 false inv k (cr (cr (cl (cl (cr (cr (cl (cl (cr (cl (cr c50))))))))))) (act 26 [(0, x0), (4, x4), (6, x6), (7, x7), (8, x8), (9, x9), (17, x17)]) h K =
    bnd (pConv Try.prog 51 2 x6 h) fun x21 =>
    bnd (pBuildSlice Try.prog 25 1 #[(0, x21)] h) fun x22 =>
    bnd (pAppend Try.prog #[25, 25] x4 x22.1 x22.2) fun x23 =>
    K .normal (act 26 [(0, x0), (4, x23.1), (8, x8), (9, x9)]) x23.2 := (k_reg (by kernel_rfl)).trans (by kernel_rfl)
theorem r50_7 {β : Type} {inv : Inv} {k : Nat} {x0 x4 x8 x9 : Value} {h : AH} {K : XE → Act → AH → Option β} : kCode env 50 false inv k (cr (cr (cr (cl (cl (cr (cl (cr c50)))))))) (act 26 [(0, x0), (4, x4), (8, x8), (9, x9)]) h K =
    bnd (pBin Try.prog Go.BinOp.add 3 (Go.Operand.tmp 9) (Go.Operand.const (Go.Value.int Go.IntKind.i64 1)) x9 (Go.Value.int Go.IntKind.i64 1)) fun x24 =>
    K .normal (act 26 [(0, x0), (4, x4), (8, x8), (9, x24)]) h := (k_reg (by kernel_rfl)).trans (by kernel_rfl)
noncomputable def F50_lrlr {β : Type} (inv : Inv) (k : Nat) : Nat → Value → Value → Value → Value → AH → (Value → Value → Value → Value → Value → AH → Option β) → (Value → Value → AH → Option β) → Option β
  | 0, _, _, _, _, _, _, _ => none
  | j + 1, x0, x4, x8, x9, h, ke0, kr =>
    bnd (pBin Try.prog Go.BinOp.lss 3 (Go.Operand.tmp 9) (Go.Operand.tmp 8) x9 x8) fun x10 =>
    brV x10
    (bnd (inv (.func 35) #[] #[x0, (Go.Value.int Go.IntKind.i64 8)] h) fun x13 =>
    bnd (pExtract x13.1 0) fun x14 =>
    bnd (pExtract x13.1 1) fun x15 =>
    bnd (pBin Try.prog Go.BinOp.neq 27 (Go.Operand.tmp 16) (Go.Operand.const (Go.Value.int Go.IntKind.i64 0)) x15 (Go.Value.int Go.IntKind.i64 0)) fun x17 =>
    brV x17
    (kr (Go.Value.slice none 0 0) x15 x13.2)
    (bnd (pConv Try.prog 51 2 x14 x13.2) fun x21 =>
    bnd (pBuildSlice Try.prog 25 1 #[(0, x21)] x13.2) fun x22 =>
    bnd (pAppend Try.prog #[25, 25] x4 x22.1 x22.2) fun x23 =>
    bnd (pBin Try.prog Go.BinOp.add 3 (Go.Operand.tmp 9) (Go.Operand.const (Go.Value.int Go.IntKind.i64 1)) x9 (Go.Value.int Go.IntKind.i64 1)) fun x24 =>
    F50_lrlr inv k j x0 x23.1 x8 x24 x23.2 ke0 kr))
    (ke0 x0 x4 x8 x9 x10 h)
theorem F50_lrlr_j {β : Type} {inv : Inv} {k : Nat} (j : Nat) {x0 x4 x8 x9 : Value} {h : AH} {K : XE → Act → AH → Option β} : kLoop (kCode env 50 false inv k (cl (cl (cr (cl (cr c50)))))) j (act 26 [(0, x0), (4, x4), (8, x8), (9, x9)]) h K = F50_lrlr inv k j x0 x4 x8 x9 h (fun y0 y4 y8 y9 y10 h => K (.exit 0) (act 26 [(0, y0), (4, y4), (8, y8), (9, y9), (10, y10)]) h) (fun y4 y5 h => K .ret (act 26 [(4, y4), (5, y5)]) h) := by
      induction j generalizing x0 x4 x8 x9 h with
      | zero => rfl
      | succ j ih =>
        unfold F50_lrlr
        simp only [kLoop, k_seq (E := env) (f := 50) (c := (cl (cl (cr (cl (cr c50)))))) (by kernel_rfl), r50_2, k_seq (E := env) (f := 50) (c := (cr (cl (cl (cr (cl (cr c50))))))) (by kernel_rfl), b50_lrllrlr, k_skip (E := env) (f := 50) (c := (cl (cl (cr (cl (cl (cr (cl (cr c50))))))))) (by kernel_rfl), k_seq (E := env) (f := 50) (c := (cr (cr (cl (cl (cr (cl (cr c50)))))))) (by kernel_rfl), k_block (E := env) (f := 50) (c := (cl (cr (cr (cl (cl (cr (cl (cr c50))))))))) (id := 1) (by kernel_rfl), k_seq (E := env) (f := 50) (c := (cl (cl (cr (cr (cl (cl (cr (cl (cr c50)))))))))) (by kernel_rfl), r50_3, k_seq (E := env) (f := 50) (c := (cr (cl (cl (cr (cr (cl (cl (cr (cl (cr c50))))))))))) (by kernel_rfl), k_seq (E := env) (f := 50) (c := (cl (cr (cl (cl (cr (cr (cl (cl (cr (cl (cr c50)))))))))))) (by kernel_rfl), r50_4, b50_rlrllrrllrlr, k_seq (E := env) (f := 50) (c := (cl (cr (cl (cr (cl (cl (cr (cr (cl (cl (cr (cl (cr c50)))))))))))))) (by kernel_rfl), r50_5, k_ret (E := env) (f := 50) (c := (cr (cl (cr (cl (cr (cl (cl (cr (cr (cl (cl (cr (cl (cr c50))))))))))))))) (by kernel_rfl), k_skip (E := env) (f := 50) (c := (cr (cr (cl (cr (cl (cl (cr (cr (cl (cl (cr (cl (cr c50)))))))))))))) (by kernel_rfl), r50_6, r50_7, k_exit (E := env) (f := 50) (c := (cr (cl (cr (cl (cl (cr (cl (cr c50))))))))) (id := 0) (by kernel_rfl), ih, reduceIte, reduceCtorEq, XE.exit.injEq, Nat.reduceEqDiff] <;> kernel_rfl
theorem F50_lrlr_eq {β : Type} {inv : Inv} {k : Nat} {x0 x4 x8 x9 : Value} {h : AH} {K : XE → Act → AH → Option β} : kCode env 50 false inv k (cl (cr (cl (cr c50)))) (act 26 [(0, x0), (4, x4), (8, x8), (9, x9)]) h K = F50_lrlr inv k k x0 x4 x8 x9 h (fun y0 y4 y8 y9 y10 h => K (.exit 0) (act 26 [(0, y0), (4, y4), (8, y8), (9, y9), (10, y10)]) h) (fun y4 y5 h => K .ret (act 26 [(4, y4), (5, y5)]) h) := (k_loop (by kernel_rfl)).trans (F50_lrlr_j k)
theorem r50_8 {β : Type} {inv : Inv} {k : Nat} {x0 x4 x8 x9 x10 : Value} {h : AH} {K : XE → Act → AH → Option β} : kCode env 50 false inv k (cl (cr (cr c50))) (act 26 [(0, x0), (4, x4), (8, x8), (9, x9), (10, x10)]) h K =
    K .normal (act 26 [(4, x4), (5, (Go.Value.int Go.IntKind.i64 0))]) h := (k_reg (by kernel_rfl)).trans (by kernel_rfl)
theorem res50_0 {x4 x5 : Value} {h : AH} : resOfFn env.P 50 .ret (act 26 [(4, x4), (5, x5)]) h = some (.tuple #[x4, x5], h) := (resOfFn_k (by kernel_rfl) (by kernel_rfl)).trans (by kernel_rfl)
/-- shadowbook/ints.plain -/
noncomputable def F50 (inv : Inv) (k : Nat) (x0 x1 : Value) (h : AH) : Option (Value × AH) :=
    F50_lrlr inv k k x0 (Go.Value.slice none 0 0) x1 (Go.Value.int Go.IntKind.i64 0) h
    (fun y0 y4 y8 y9 y10 h =>
    some (.tuple #[y4, (Go.Value.int Go.IntKind.i64 0)], h))
    (fun y4_1 y5 h_2 =>
    some (.tuple #[y4_1, y5], h_2))
theorem F50_eq {inv : Inv} {k : Nat} {x0 x1 : Value} {h : AH} : eFun env k inv 50 #[x0, x1] h = F50 inv k x0 x1 h := by
      refine (eFun_k2 (by kernel_rfl) (by kernel_rfl) (by kernel_rfl) (a := act 26 [(0, x0), (1, x1)]) (c := c50) (by kernel_rfl) (by kernel_rfl)).trans ?_
      unfold F50
      simp only [k_seq (E := env) (f := 50) (c := c50) (by kernel_rfl), r50_0, k_seq (E := env) (f := 50) (c := (cr c50)) (by kernel_rfl), k_seq (E := env) (f := 50) (c := (cl (cr c50))) (by kernel_rfl), r50_1, k_block (E := env) (f := 50) (c := (cr (cl (cr c50)))) (id := 0) (by kernel_rfl), F50_lrlr_eq, k_seq (E := env) (f := 50) (c := (cr (cr c50))) (by kernel_rfl), r50_8, k_ret (E := env) (f := 50) (c := (cr (cr (cr c50)))) (by kernel_rfl), res50_0, reduceIte, reduceCtorEq, XE.exit.injEq, Nat.reduceEqDiff] <;> kernel_rfl
noncomputable def c51 : Code := codeOf Try.prog 51
theorem r51_0 {β : Type} {inv : Inv} {k : Nat} {x0 x1 : Value} {h : AH} {K : XE → Act → AH → Option β} : kCode env 51 false inv k (cl c51) (act 50 [(0, x0), (1, x1)]) h K =
    K .normal (act 50 [(0, x0), (1, x1), (4, (Go.Value.slice none 0 0))]) h := (k_reg (by kernel_rfl)).trans (by kernel_rfl)
theorem r51_1 {β : Type} {inv : Inv} {k : Nat} {x0 x1 x4 : Value} {h : AH} {K : XE → Act → AH → Option β} : kCode env 51 false inv k (cl (cl (cl (cl (cl (cr c51)))))) (act 50 [(0, x0), (1, x1), (4, x4)]) h K =
    bnd (pLen Try.prog #[25] x4 h) fun x10 =>
    bnd (pBin Try.prog Go.BinOp.lss 3 (Go.Operand.tmp 10) (Go.Operand.tmp 11) x10 x1) fun x12 =>
    K .normal (act 50 [(0, x0), (1, x1), (4, x4), (12, x12)]) h := (k_reg (by kernel_rfl)).trans (by kernel_rfl)
theorem b51_rllllr {β : Type} {inv : Inv} {k : Nat} {x0 x1 x4 x12 : Value} {h : AH} {K : XE → Act → AH → Option β} : kCode env 51 false inv k (cr (cl (cl (cl (cl (cr c51)))))) (act 50 [(0, x0), (1, x1), (4, x4), (12, x12)]) h K = brV x12 (kCode env 51 false inv k (cl (cr (cl (cl (cl (cl (cr c51))))))) (act 50 [(0, x0), (1, x1), (4, x4), (12, x12)]) h K) (kCode env 51 false inv k (cr (cr (cl (cl (cl (cl (cr c51))))))) (act 50 [(0, x0), (1, x1), (4, x4), (12, x12)]) h K) := (k_cond (by kernel_rfl)).trans (by kernel_rfl)
theorem r51_2 {β : Type} {inv : Inv} {k : Nat} {x0 x1 x4 x12 : Value} {h : AH} {K : XE → Act → AH → Option β} : kCode env 51 false inv k (cl (cl (cr (cl (cl (cl (cr c51))))))) (act 50 [(0, x0), (1, x1), (4, x4), (12, x12)]) h K =
    bnd (inv (.func 36) #[] #[x0] h) fun x15 =>
    bnd (pExtract x15.1 0) fun x16 =>
    bnd (pExtract x15.1 1) fun x17 =>
    K .normal (act 50 [(0, x0), (1, x1), (4, x4), (6, x16), (7, x17)]) x15.2 := (k_reg (by kernel_rfl)).trans (by kernel_rfl)
theorem r51_3 {β : Type} {inv : Inv} {k : Nat} {x0 x1 x4 x6 x7 : Value} {h : AH} {K : XE → Act → AH → Option β} : kCode env 51 false inv k (cl (cl (cr (cl (cr (cl (cl (cl (cr c51))))))))) (act 50 [(0, x0), (1, x1), (4, x4), (6, x6), (7, x7)]) h K =
    bnd (pBin Try.prog Go.BinOp.neq 27 (Go.Operand.tmp 18) (Go.Operand.const (Go.Value.int Go.IntKind.i64 0)) x7 (Go.Value.int Go.IntKind.i64 0)) fun x19 =>
    K .normal (act 50 [(0, x0), (1, x1), (4, x4), (6, x6), (7, x7), (19, x19)]) h := (k_reg (by kernel_rfl)).trans (by kernel_rfl)
theorem b51_rlrlrlllr {β : Type} {inv : Inv} {k : Nat} {x0 x1 x4 x6 x7 x19 : Value} {h : AH} {K : XE → Act → AH → Option β} : kCode env 51 false inv k (cr (cl (cr (cl (cr (cl (cl (cl (cr c51))))))))) (act 50 [(0, x0), (1, x1), (4, x4), (6, x6), (7, x7), (19, x19)]) h K = brV x19 (kCode env 51 false inv k (cl (cr (cl (cr (cl (cr (cl (cl (cl (cr c51)))))))))) (act 50 [(0, x0), (1, x1), (4, x4), (6, x6), (7, x7), (19, x19)]) h K) (kCode env 51 false inv k (cr (cr (cl (cr (cl (cr (cl (cl (cl (cr c51)))))))))) (act 50 [(0, x0), (1, x1), (4, x4), (6, x6), (7, x7), (19, x19)]) h K) := (k_cond (by kernel_rfl)).trans (by kernel_rfl)
theorem r51_4 {β : Type} {inv : Inv} {k : Nat} {x0 x1 x4 x6 x7 x19 : Value} {h : AH} {K : XE → Act → AH → Option β} : kCode env 51 false inv k (cl (cl (cr (cl (cr (cl (cr (cl (cl (cl (cr c51))))))))))) (act 50 [(0, x0), (1, x1), (4, x4), (6, x6), (7, x7), (19, x19)]) h K =
    K .normal (act 50 [(4, (Go.Value.slice none 0 0)), (5, x7)]) h := (k_reg (by kernel_rfl)).trans (by kernel_rfl)
theorem r51_5 {β : Type} {inv : Inv} {k : Nat} {x0 x1 x4 x6 x7 x19 : Value} {h : AH} {K : XE → Act → AH → Option β} : kCode env 51 false inv k (cl (cr (cr (cl (cr (cl (cl (cl (cr c51))))))))) (act 50 [(0, x0), (1, x1), (4, x4), (6, x6), (7, x7), (19, x19)]) h K =
    bnd (inv (.func 35) #[] #[x0, (Go.Value.int Go.IntKind.i64 8)] h) fun x23 =>
    bnd (pExtract x23.1 0) fun x24 =>
    bnd (pExtract x23.1 1) fun x25 =>
    K .normal (act 50 [(0, x0), (1, x1), (4, x4), (6, x6), (7, x25), (8, x24)]) x23.2 := (k_reg (by kernel_rfl)).trans (by kernel_rfl)
theorem r51_6 {β : Type} {inv : Inv} {k : Nat} {x0 x1 x4 x6 x7 x8 : Value} {h : AH} {K : XE → Act → AH → Option β} : kCode env 51 false inv k (cl (cl (cr (cr (cr (cl (cr (cl (cl (cl (cr c51))))))))))) (act 50 [(0, x0), (1, x1), (4, x4), (6, x6), (7, x7), (8, x8)]) h K =
    bnd (pBin Try.prog Go.BinOp.neq 27 (Go.Operand.tmp 26) (Go.Operand.const (Go.Value.int Go.IntKind.i64 0)) x7 (Go.Value.int Go.IntKind.i64 0)) fun x27 =>
    bnd (gd (some x27) false h (some (x6, h))) fun x29 =>
    bnd (gd (some x27) false x29.2 (lt (pBin Try.prog Go.BinOp.lss 51 (Go.Operand.tmp 29) (Go.Operand.const (Go.Value.int Go.IntKind.u64 1)) x29.1 (Go.Value.int Go.IntKind.u64 1)) x29.2)) fun x30 =>
    bnd (pickV x27 (Go.Value.bool true) x30.1) fun x31 =>
    bnd (gd (some x31) false x30.2 (some (x6, x30.2))) fun x33 =>
    bnd (gd (some x31) false x33.2 (some (x1, x33.2))) fun x34 =>
    bnd (gd (some x31) false x34.2 (some (x4, x34.2))) fun x35 =>
    bnd (gd (some x31) false x35.2 (lt (pLen Try.prog #[25] x35.1 x35.2) x35.2)) fun x36 =>
    bnd (gd (some x31) false x36.2 (lt (pBin Try.prog Go.BinOp.sub 3 (Go.Operand.tmp 34) (Go.Operand.tmp 36) x34.1 x36.1) x36.2)) fun x37 =>
    bnd (gd (some x31) false x37.2 (lt (pConv Try.prog 3 51 x37.1 x37.2) x37.2)) fun x38 =>
    bnd (gd (some x31) false x38.2 (lt (pBin Try.prog Go.BinOp.gtr 51 (Go.Operand.tmp 33) (Go.Operand.tmp 38) x33.1 x38.1) x38.2)) fun x39 =>
    bnd (pickV x31 (Go.Value.bool true) x39.1) fun x40 =>
    K .normal (act 50 [(0, x0), (1, x1), (4, x4), (6, x6), (8, x8), (40, x40)]) x39.2 := (k_reg (by kernel_rfl)).trans (by kernel_rfl)
theorem b51_rlrrrlrlllr {β : Type} {inv : Inv} {k : Nat} {x0 x1 x4 x6 x8 x40 : Value} {h : AH} {K : XE → Act → AH → Option β} : kCode env 51 false inv k (cr (cl (cr (cr (cr (cl (cr (cl (cl (cl (cr c51))))))))))) (act 50 [(0, x0), (1, x1), (4, x4), (6, x6), (8, x8), (40, x40)]) h K = brV x40 (kCode env 51 false inv k (cl (cr (cl (cr (cr (cr (cl (cr (cl (cl (cl (cr c51)))))))))))) (act 50 [(0, x0), (1, x1), (4, x4), (6, x6), (8, x8), (40, x40)]) h K) (kCode env 51 false inv k (cr (cr (cl (cr (cr (cr (cl (cr (cl (cl (cl (cr c51)))))))))))) (act 50 [(0, x0), (1, x1), (4, x4), (6, x6), (8, x8), (40, x40)]) h K) := (k_cond (by kernel_rfl)).trans (by kernel_rfl)
theorem r51_7 {β : Type} {inv : Inv} {k : Nat} {x0 x1 x4 x6 x8 x40 : Value} {h : AH} {K : XE → Act → AH → Option β} : kCode env 51 false inv k (cl (cl (cr (cl (cr (cr (cr (cl (cr (cl (cl (cl (cr c51))))))))))))) (act 50 [(0, x0), (1, x1), (4, x4), (6, x6), (8, x8), (40, x40)]) h K =
    K .normal (act 50 [(4, (Go.Value.slice none 0 0)), (5, (Go.Value.int Go.IntKind.i64 4))]) h := (k_reg (by kernel_rfl)).trans (by kernel_rfl)
theorem r51_8 {β : Type} {inv : Inv} {k : Nat} {x0 x1 x4 x6 x8 x40 : Value} {h : AH} {K : XE → Act → AH → Option β} : kCode env 51 false inv k (cr (cr (cr (cr (cl (cr (cl (cl (cl (cr c51)))))))))) (act 50 [(0, x0), (1, x1), (4, x4), (6, x6), (8, x8), (40, x40)]) h K =
    bnd (pConv Try.prog 51 2 x8 h) fun x43 =>
    bnd (pBuildSlice Try.prog 25 1 #[(0, x43)] h) fun x44 =>
    bnd (pConv Try.prog 51 3 x6 x44.2) fun x46 =>
    bnd (inv (.func 66) #[] #[x44.1, x46] x44.2) fun x47 =>
    bnd (pAppend Try.prog #[25, 25] x4 x47.1 x47.2) fun x48 =>
    K .normal (act 50 [(0, x0), (1, x1), (4, x48.1)]) x48.2 := (k_reg (by kernel_rfl)).trans (by kernel_rfl)
noncomputable def F51_llr {β : Type} (inv : Inv) (k : Nat) : Nat → Value → Value → Value → AH → (Value → Value → Value → Value → AH → Option β) → (Value → Value → AH → Option β) → Option β
  | 0, _, _, _, _, _, _ => none
  | j + 1, x0, x1, x4, h, ke0, kr =>
    bnd (pLen Try.prog #[25] x4 h) fun x10 =>
    bnd (pBin Try.prog Go.BinOp.lss 3 (Go.Operand.tmp 10) (Go.Operand.tmp 11) x10 x1) fun x12 =>
    brV x12
    (bnd (inv (.func 36) #[] #[x0] h) fun x15 =>
    bnd (pExtract x15.1 0) fun x16 =>
    bnd (pExtract x15.1 1) fun x17 =>
    bnd (pBin Try.prog Go.BinOp.neq 27 (Go.Operand.tmp 18) (Go.Operand.const (Go.Value.int Go.IntKind.i64 0)) x17 (Go.Value.int Go.IntKind.i64 0)) fun x19 =>
    brV x19
    (kr (Go.Value.slice none 0 0) x17 x15.2)
    (bnd (inv (.func 35) #[] #[x0, (Go.Value.int Go.IntKind.i64 8)] x15.2) fun x23 =>
    bnd (pExtract x23.1 0) fun x24 =>
    bnd (pExtract x23.1 1) fun x25 =>
    bnd (pBin Try.prog Go.BinOp.neq 27 (Go.Operand.tmp 26) (Go.Operand.const (Go.Value.int Go.IntKind.i64 0)) x25 (Go.Value.int Go.IntKind.i64 0)) fun x27 =>
    bnd (gd (some x27) false x23.2 (some (x16, x23.2))) fun x29 =>
    bnd (gd (some x27) false x29.2 (lt (pBin Try.prog Go.BinOp.lss 51 (Go.Operand.tmp 29) (Go.Operand.const (Go.Value.int Go.IntKind.u64 1)) x29.1 (Go.Value.int Go.IntKind.u64 1)) x29.2)) fun x30 =>
    bnd (pickV x27 (Go.Value.bool true) x30.1) fun x31 =>
    bnd (gd (some x31) false x30.2 (some (x16, x30.2))) fun x33 =>
    bnd (gd (some x31) false x33.2 (some (x1, x33.2))) fun x34 =>
    bnd (gd (some x31) false x34.2 (some (x4, x34.2))) fun x35 =>
    bnd (gd (some x31) false x35.2 (lt (pLen Try.prog #[25] x35.1 x35.2) x35.2)) fun x36 =>
    bnd (gd (some x31) false x36.2 (lt (pBin Try.prog Go.BinOp.sub 3 (Go.Operand.tmp 34) (Go.Operand.tmp 36) x34.1 x36.1) x36.2)) fun x37 =>
    bnd (gd (some x31) false x37.2 (lt (pConv Try.prog 3 51 x37.1 x37.2) x37.2)) fun x38 =>
    bnd (gd (some x31) false x38.2 (lt (pBin Try.prog Go.BinOp.gtr 51 (Go.Operand.tmp 33) (Go.Operand.tmp 38) x33.1 x38.1) x38.2)) fun x39 =>
    bnd (pickV x31 (Go.Value.bool true) x39.1) fun x40 =>
    brV x40
    (kr (Go.Value.slice none 0 0) (Go.Value.int Go.IntKind.i64 4) x39.2)
    (bnd (pConv Try.prog 51 2 x24 x39.2) fun x43 =>
    bnd (pBuildSlice Try.prog 25 1 #[(0, x43)] x39.2) fun x44 =>
    bnd (pConv Try.prog 51 3 x16 x44.2) fun x46 =>
    bnd (inv (.func 66) #[] #[x44.1, x46] x44.2) fun x47 =>
    bnd (pAppend Try.prog #[25, 25] x4 x47.1 x47.2) fun x48 =>
    F51_llr inv k j x0 x1 x48.1 x48.2 ke0 kr)))
    (ke0 x0 x1 x4 x12 h)
theorem F51_llr_j {β : Type} {inv : Inv} {k : Nat} (j : Nat) {x0 x1 x4 : Value} {h : AH} {K : XE → Act → AH → Option β} : kLoop (kCode env 51 false inv k (cl (cl (cl (cr c51))))) j (act 50 [(0, x0), (1, x1), (4, x4)]) h K = F51_llr inv k j x0 x1 x4 h (fun y0 y1 y4 y12 h => K (.exit 0) (act 50 [(0, y0), (1, y1), (4, y4), (12, y12)]) h) (fun y4 y5 h => K .ret (act 50 [(4, y4), (5, y5)]) h) := by
      induction j generalizing x0 x1 x4 h with
      | zero => rfl
      | succ j ih =>
        unfold F51_llr
        simp only [kLoop, k_seq (E := env) (f := 51) (c := (cl (cl (cl (cr c51))))) (by kernel_rfl), k_seq (E := env) (f := 51) (c := (cl (cl (cl (cl (cr c51)))))) (by kernel_rfl), r51_1, b51_rllllr, k_skip (E := env) (f := 51) (c := (cl (cr (cl (cl (cl (cl (cr c51)))))))) (by kernel_rfl), k_block (E := env) (f := 51) (c := (cr (cl (cl (cl (cr c51)))))) (id := 1) (by kernel_rfl), k_seq (E := env) (f := 51) (c := (cl (cr (cl (cl (cl (cr c51))))))) (by kernel_rfl), r51_2, k_seq (E := env) (f := 51) (c := (cr (cl (cr (cl (cl (cl (cr c51)))))))) (by kernel_rfl), k_seq (E := env) (f := 51) (c := (cl (cr (cl (cr (cl (cl (cl (cr c51))))))))) (by kernel_rfl), r51_3, b51_rlrlrlllr, k_seq (E := env) (f := 51) (c := (cl (cr (cl (cr (cl (cr (cl (cl (cl (cr c51))))))))))) (by kernel_rfl), r51_4, k_ret (E := env) (f := 51) (c := (cr (cl (cr (cl (cr (cl (cr (cl (cl (cl (cr c51)))))))))))) (by kernel_rfl), k_skip (E := env) (f := 51) (c := (cr (cr (cl (cr (cl (cr (cl (cl (cl (cr c51))))))))))) (by kernel_rfl), k_seq (E := env) (f := 51) (c := (cr (cr (cl (cr (cl (cl (cl (cr c51))))))))) (by kernel_rfl), r51_5, k_seq (E := env) (f := 51) (c := (cr (cr (cr (cl (cr (cl (cl (cl (cr c51)))))))))) (by kernel_rfl), k_seq (E := env) (f := 51) (c := (cl (cr (cr (cr (cl (cr (cl (cl (cl (cr c51))))))))))) (by kernel_rfl), r51_6, b51_rlrrrlrlllr, k_seq (E := env) (f := 51) (c := (cl (cr (cl (cr (cr (cr (cl (cr (cl (cl (cl (cr c51))))))))))))) (by kernel_rfl), r51_7, k_ret (E := env) (f := 51) (c := (cr (cl (cr (cl (cr (cr (cr (cl (cr (cl (cl (cl (cr c51)))))))))))))) (by kernel_rfl), k_skip (E := env) (f := 51) (c := (cr (cr (cl (cr (cr (cr (cl (cr (cl (cl (cl (cr c51))))))))))))) (by kernel_rfl), r51_8, k_exit (E := env) (f := 51) (c := (cr (cr (cl (cl (cl (cl (cr c51)))))))) (id := 0) (by kernel_rfl), ih, reduceIte, reduceCtorEq, XE.exit.injEq, Nat.reduceEqDiff] <;> kernel_rfl
theorem F51_llr_eq {β : Type} {inv : Inv} {k : Nat} {x0 x1 x4 : Value} {h : AH} {K : XE → Act → AH → Option β} : kCode env 51 false inv k (cl (cl (cr c51))) (act 50 [(0, x0), (1, x1), (4, x4)]) h K = F51_llr inv k k x0 x1 x4 h (fun y0 y1 y4 y12 h => K (.exit 0) (act 50 [(0, y0), (1, y1), (4, y4), (12, y12)]) h) (fun y4 y5 h => K .ret (act 50 [(4, y4), (5, y5)]) h) := (k_loop (by kernel_rfl)).trans (F51_llr_j k)
theorem r51_9 {β : Type} {inv : Inv} {k : Nat} {x0 x1 x4 x12 : Value} {h : AH} {K : XE → Act → AH → Option β} : kCode env 51 false inv k (cl (cr (cr c51))) (act 50 [(0, x0), (1, x1), (4, x4), (12, x12)]) h K =
    K .normal (act 50 [(4, x4), (5, (Go.Value.int Go.IntKind.i64 0))]) h := (k_reg (by kernel_rfl)).trans (by kernel_rfl)
theorem res51_0 {x4 x5 : Value} {h : AH} : resOfFn env.P 51 .ret (act 50 [(4, x4), (5, x5)]) h = some (.tuple #[x4, x5], h) := (resOfFn_k (by kernel_rfl) (by kernel_rfl)).trans (by kernel_rfl)
/-- shadowbook/ints.runs -/
noncomputable def F51 (inv : Inv) (k : Nat) (x0 x1 : Value) (h : AH) : Option (Value × AH) :=
    F51_llr inv k k x0 x1 (Go.Value.slice none 0 0) h
    (fun y0 y1 y4 y12 h =>
    some (.tuple #[y4, (Go.Value.int Go.IntKind.i64 0)], h))
    (fun y4_1 y5 h_2 =>
    some (.tuple #[y4_1, y5], h_2))
theorem F51_eq {inv : Inv} {k : Nat} {x0 x1 : Value} {h : AH} : eFun env k inv 51 #[x0, x1] h = F51 inv k x0 x1 h := by
      refine (eFun_k2 (by kernel_rfl) (by kernel_rfl) (by kernel_rfl) (a := act 50 [(0, x0), (1, x1)]) (c := c51) (by kernel_rfl) (by kernel_rfl)).trans ?_
      unfold F51
      simp only [k_seq (E := env) (f := 51) (c := c51) (by kernel_rfl), r51_0, k_seq (E := env) (f := 51) (c := (cr c51)) (by kernel_rfl), k_block (E := env) (f := 51) (c := (cl (cr c51))) (id := 0) (by kernel_rfl), F51_llr_eq, k_seq (E := env) (f := 51) (c := (cr (cr c51))) (by kernel_rfl), r51_9, k_ret (E := env) (f := 51) (c := (cr (cr (cr c51)))) (by kernel_rfl), res51_0, reduceIte, reduceCtorEq, XE.exit.injEq, Nat.reduceEqDiff] <;> kernel_rfl
noncomputable def c52 : Code := codeOf Try.prog 52
theorem r52_0 {β : Type} {inv : Inv} {k : Nat} {x0 x1 : Value} {h : AH} {K : XE → Act → AH → Option β} : kCode env 52 false inv k (cl c52) (act 62 [(0, x0), (1, x1)]) h K =
    K .normal (act 62 [(0, x0), (1, x1), (4, (Go.Value.slice none 0 0))]) h := (k_reg (by kernel_rfl)).trans (by kernel_rfl)
theorem r52_1 {β : Type} {inv : Inv} {k : Nat} {x0 x1 x4 : Value} {h : AH} {K : XE → Act → AH → Option β} : kCode env 52 false inv k (cl (cr c52)) (act 62 [(0, x0), (1, x1), (4, x4)]) h K =
    bnd (inv (.func 35) #[] #[x0, (Go.Value.int Go.IntKind.i64 8)] h) fun x14 =>
    bnd (pExtract x14.1 0) fun x15 =>
    bnd (pExtract x14.1 1) fun x16 =>
    K .normal (act 62 [(0, x0), (1, x1), (4, x4), (5, x16), (6, x15)]) x14.2 := (k_reg (by kernel_rfl)).trans (by kernel_rfl)
theorem r52_2 {β : Type} {inv : Inv} {k : Nat} {x0 x1 x4 x5 x6 : Value} {h : AH} {K : XE → Act → AH → Option β} : kCode env 52 false inv k (cl (cl (cr (cr c52)))) (act 62 [(0, x0), (1, x1), (4, x4), (5, x5), (6, x6)]) h K =
    bnd (pBin Try.prog Go.BinOp.neq 27 (Go.Operand.tmp 17) (Go.Operand.const (Go.Value.int Go.IntKind.i64 0)) x5 (Go.Value.int Go.IntKind.i64 0)) fun x18 =>
    K .normal (act 62 [(0, x0), (1, x1), (4, x4), (5, x5), (6, x6), (18, x18)]) h := (k_reg (by kernel_rfl)).trans (by kernel_rfl)
theorem b52_rlrr {β : Type} {inv : Inv} {k : Nat} {x0 x1 x4 x5 x6 x18 : Value} {h : AH} {K : XE → Act → AH → Option β} : kCode env 52 false inv k (cr (cl (cr (cr c52)))) (act 62 [(0, x0), (1, x1), (4, x4), (5, x5), (6, x6), (18, x18)]) h K = brV x18 (kCode env 52 false inv k (cl (cr (cl (cr (cr c52))))) (act 62 [(0, x0), (1, x1), (4, x4), (5, x5), (6, x6), (18, x18)]) h K) (kCode env 52 false inv k (cr (cr (cl (cr (cr c52))))) (act 62 [(0, x0), (1, x1), (4, x4), (5, x5), (6, x6), (18, x18)]) h K) := (k_cond (by kernel_rfl)).trans (by kernel_rfl)
theorem r52_3 {β : Type} {inv : Inv} {k : Nat} {x0 x1 x4 x5 x6 x18 : Value} {h : AH} {K : XE → Act → AH → Option β} : kCode env 52 false inv k (cl (cl (cr (cl (cr (cr c52)))))) (act 62 [(0, x0), (1, x1), (4, x4), (5, x5), (6, x6), (18, x18)]) h K =
    K .normal (act 62 [(4, (Go.Value.slice none 0 0)), (5, x5)]) h := (k_reg (by kernel_rfl)).trans (by kernel_rfl)
theorem res52_0 {x4 x5 : Value} {h : AH} : resOfFn env.P 52 .ret (act 62 [(4, x4), (5, x5)]) h = some (.tuple #[x4, x5], h) := (resOfFn_k (by kernel_rfl) (by kernel_rfl)).trans (by kernel_rfl)
theorem r52_4 {β : Type} {inv : Inv} {k : Nat} {x0 x1 x4 x5 x6 x18 : Value} {h : AH} {K : XE → Act → AH → Option β} : kCode env 52 false inv k (cl (cr (cr (cr c52)))) (act 62 [(0, x0), (1, x1), (4, x4), (5, x5), (6, x6), (18, x18)]) h K =
    bnd (inv (.func 35) #[] #[x0, (Go.Value.int Go.IntKind.i64 1)] h) fun x22 =>
    bnd (pExtract x22.1 0) fun x23 =>
    bnd (pExtract x22.1 1) fun x24 =>
    K .normal (act 62 [(0, x0), (1, x1), (4, x4), (5, x24), (6, x6), (7, x23)]) x22.2 := (k_reg (by kernel_rfl)).trans (by kernel_rfl)
theorem r52_5 {β : Type} {inv : Inv} {k : Nat} {x0 x1 x4 x5 x6 x7 : Value} {h : AH} {K : XE → Act → AH → Option β} : kCode env 52 false inv k (cl (cl (cr (cr (cr (cr c52)))))) (act 62 [(0, x0), (1, x1), (4, x4), (5, x5), (6, x6), (7, x7)]) h K =
    bnd (pBin Try.prog Go.BinOp.neq 27 (Go.Operand.tmp 25) (Go.Operand.const (Go.Value.int Go.IntKind.i64 0)) x5 (Go.Value.int Go.IntKind.i64 0)) fun x26 =>
    K .normal (act 62 [(0, x0), (1, x1), (4, x4), (5, x5), (6, x6), (7, x7), (26, x26)]) h := (k_reg (by kernel_rfl)).trans (by kernel_rfl)
theorem b52_rlrrrr {β : Type} {inv : Inv} {k : Nat} {x0 x1 x4 x5 x6 x7 x26 : Value} {h : AH} {K : XE → Act → AH → Option β} : kCode env 52 false inv k (cr (cl (cr (cr (cr (cr c52)))))) (act 62 [(0, x0), (1, x1), (4, x4), (5, x5), (6, x6), (7, x7), (26, x26)]) h K = brV x26 (kCode env 52 false inv k (cl (cr (cl (cr (cr (cr (cr c52))))))) (act 62 [(0, x0), (1, x1), (4, x4), (5, x5), (6, x6), (7, x7), (26, x26)]) h K) (kCode env 52 false inv k (cr (cr (cl (cr (cr (cr (cr c52))))))) (act 62 [(0, x0), (1, x1), (4, x4), (5, x5), (6, x6), (7, x7), (26, x26)]) h K) := (k_cond (by kernel_rfl)).trans (by kernel_rfl)
theorem r52_6 {β : Type} {inv : Inv} {k : Nat} {x0 x1 x4 x5 x6 x7 x26 : Value} {h : AH} {K : XE → Act → AH → Option β} : kCode env 52 false inv k (cl (cl (cr (cl (cr (cr (cr (cr c52)))))))) (act 62 [(0, x0), (1, x1), (4, x4), (5, x5), (6, x6), (7, x7), (26, x26)]) h K =
    K .normal (act 62 [(4, (Go.Value.slice none 0 0)), (5, x5)]) h := (k_reg (by kernel_rfl)).trans (by kernel_rfl)
theorem r52_7 {β : Type} {inv : Inv} {k : Nat} {x0 x1 x4 x5 x6 x7 x26 : Value} {h : AH} {K : XE → Act → AH → Option β} : kCode env 52 false inv k (cl (cr (cr (cr (cr (cr c52)))))) (act 62 [(0, x0), (1, x1), (4, x4), (5, x5), (6, x6), (7, x7), (26, x26)]) h K =
    bnd (inv (.func 68) #[] #[x0] h) fun x31 =>
    bnd (inv (.func 67) #[] #[x0, x31.1] x31.2) fun x32 =>
    bnd (pExtract x32.1 0) fun x33 =>
    bnd (pExtract x32.1 1) fun x34 =>
    K .normal (act 62 [(1, x1), (4, x4), (5, x34), (6, x6), (7, x7), (8, x33)]) x32.2 := (k_reg (by kernel_rfl)).trans (by kernel_rfl)
theorem r52_8 {β : Type} {inv : Inv} {k : Nat} {x1 x4 x5 x6 x7 x8 : Value} {h : AH} {K : XE → Act → AH → Option β} : kCode env 52 false inv k (cl (cl (cr (cr (cr (cr (cr (cr c52)))))))) (act 62 [(1, x1), (4, x4), (5, x5), (6, x6), (7, x7), (8, x8)]) h K =
    bnd (pBin Try.prog Go.BinOp.neq 27 (Go.Operand.tmp 35) (Go.Operand.const (Go.Value.int Go.IntKind.i64 0)) x5 (Go.Value.int Go.IntKind.i64 0)) fun x36 =>
    K .normal (act 62 [(1, x1), (4, x4), (5, x5), (6, x6), (7, x7), (8, x8), (36, x36)]) h := (k_reg (by kernel_rfl)).trans (by kernel_rfl)
theorem b52_rlrrrrrr {β : Type} {inv : Inv} {k : Nat} {x1 x4 x5 x6 x7 x8 x36 : Value} {h : AH} {K : XE → Act → AH → Option β} : kCode env 52 false inv k (cr (cl (cr (cr (cr (cr (cr (cr c52)))))))) (act 62 [(1, x1), (4, x4), (5, x5), (6, x6), (7, x7), (8, x8), (36, x36)]) h K = brV x36 (kCode env 52 false inv k (cl (cr (cl (cr (cr (cr (cr (cr (cr c52))))))))) (act 62 [(1, x1), (4, x4), (5, x5), (6, x6), (7, x7), (8, x8), (36, x36)]) h K) (kCode env 52 false inv k (cr (cr (cl (cr (cr (cr (cr (cr (cr c52))))))))) (act 62 [(1, x1), (4, x4), (5, x5), (6, x6), (7, x7), (8, x8), (36, x36)]) h K) := (k_cond (by kernel_rfl)).trans (by kernel_rfl)
theorem r52_9 {β : Type} {inv : Inv} {k : Nat} {x1 x4 x5 x6 x7 x8 x36 : Value} {h : AH} {K : XE → Act → AH → Option β} : kCode env 52 false inv k (cl (cl (cr (cl (cr (cr (cr (cr (cr (cr c52)))))))))) (act 62 [(1, x1), (4, x4), (5, x5), (6, x6), (7, x7), (8, x8), (36, x36)]) h K =
    K .normal (act 62 [(4, (Go.Value.slice none 0 0)), (5, x5)]) h := (k_reg (by kernel_rfl)).trans (by kernel_rfl)
theorem r52_10 {β : Type} {inv : Inv} {k : Nat} {x1 x4 x5 x6 x7 x8 x36 : Value} {h : AH} {K : XE → Act → AH → Option β} : kCode env 52 false inv k (cl (cr (cr (cr (cr (cr (cr (cr c52)))))))) (act 62 [(1, x1), (4, x4), (5, x5), (6, x6), (7, x7), (8, x8), (36, x36)]) h K =
    bnd (pConv Try.prog 51 3 x7 h) fun x42 =>
    bnd (inv (.func 69) #[] #[x8, x1, x42] h) fun x43 =>
    bnd (pExtract x43.1 0) fun x44 =>
    bnd (pExtract x43.1 1) fun x45 =>
    K .normal (act 62 [(4, x4), (5, x45), (6, x6), (9, x44)]) x43.2 := (k_reg (by kernel_rfl)).trans (by kernel_rfl)
theorem r52_11 {β : Type} {inv : Inv} {k : Nat} {x4 x5 x6 x9 : Value} {h : AH} {K : XE → Act → AH → Option β} : kCode env 52 false inv k (cl (cl (cr (cr (cr (cr (cr (cr (cr (cr c52)))))))))) (act 62 [(4, x4), (5, x5), (6, x6), (9, x9)]) h K =
    bnd (pLen Try.prog #[50] x9 h) fun x47 =>
    K .normal (act 62 [(4, x4), (5, x5), (6, x6), (46, x9), (47, x47), (48, (Go.Value.int Go.IntKind.i64 0))]) h := (k_reg (by kernel_rfl)).trans (by kernel_rfl)
theorem r52_12 {β : Type} {inv : Inv} {k : Nat} {x4 x5 x6 x46 x47 x48 : Value} {h : AH} {K : XE → Act → AH → Option β} : kCode env 52 false inv k (cl (cl (cl (cr (cl (cr (cr (cr (cr (cr (cr (cr (cr c52))))))))))))) (act 62 [(4, x4), (5, x5), (6, x6), (46, x46), (47, x47), (48, x48)]) h K =
    bnd (pBin Try.prog Go.BinOp.lss 3 (Go.Operand.tmp 48) (Go.Operand.tmp 47) x48 x47) fun x49 =>
    K .normal (act 62 [(4, x4), (5, x5), (6, x6), (46, x46), (47, x47), (48, x48), (49, x49)]) h := (k_reg (by kernel_rfl)).trans (by kernel_rfl)
theorem b52_lrllrlrrrrrrrr {β : Type} {inv : Inv} {k : Nat} {x4 x5 x6 x46 x47 x48 x49 : Value} {h : AH} {K : XE → Act → AH → Option β} : kCode env 52 false inv k (cl (cr (cl (cl (cr (cl (cr (cr (cr (cr (cr (cr (cr (cr c52)))))))))))))) (act 62 [(4, x4), (5, x5), (6, x6), (46, x46), (47, x47), (48, x48), (49, x49)]) h K = brV x49 (kCode env 52 false inv k (cl (cl (cr (cl (cl (cr (cl (cr (cr (cr (cr (cr (cr (cr (cr c52))))))))))))))) (act 62 [(4, x4), (5, x5), (6, x6), (46, x46), (47, x47), (48, x48), (49, x49)]) h K) (kCode env 52 false inv k (cr (cl (cr (cl (cl (cr (cl (cr (cr (cr (cr (cr (cr (cr (cr c52))))))))))))))) (act 62 [(4, x4), (5, x5), (6, x6), (46, x46), (47, x47), (48, x48), (49, x49)]) h K) := (k_cond (by kernel_rfl)).trans (by kernel_rfl)
theorem r52_13 {β : Type} {inv : Inv} {k : Nat} {x4 x5 x6 x46 x47 x48 x49 : Value} {h : AH} {K : XE → Act → AH → Option β} : kCode env 52 false inv k (cl (cl (cl (cr (cr (cl (cl (cr (cl (cr (cr (cr (cr (cr (cr (cr (cr c52))))))))))))))))) (act 62 [(4, x4), (5, x5), (6, x6), (46, x46), (47, x47), (48, x48), (49, x49)]) h K =
    bnd (pIndexAddr Try.prog 50 x46 x48) fun x50 =>
    bnd (pLoad Try.prog 51 x50 h) fun x51 =>
    K .normal (act 62 [(4, x4), (5, x5), (6, x6), (11, x51), (46, x46), (47, x47), (48, x48)]) h := (k_reg (by kernel_rfl)).trans (by kernel_rfl)
theorem r52_14 {β : Type} {inv : Inv} {k : Nat} {x4 x5 x6 x11 x46 x47 x48 : Value} {h : AH} {K : XE → Act → AH → Option β} : kCode env 52 false inv k (cr (cl (cl (cr (cr (cl (cl (cr (cl (cr (cr (cr (cr (cr (cr (cr (cr c52))))))))))))))))) (act 62 [(4, x4), (5, x5), (6, x6), (11, x11), (46, x46), (47, x47), (48, x48)]) h K =
    bnd (pBin Try.prog Go.BinOp.add 51 (Go.Operand.tmp 53) (Go.Operand.tmp 54) x6 x11) fun x55 =>
    bnd (pConv Try.prog 51 2 x55 h) fun x56 =>
    bnd (pBuildSlice Try.prog 25 1 #[(0, x56)] h) fun x57 =>
    bnd (pAppend Try.prog #[25, 25] x4 x57.1 x57.2) fun x58 =>
    K .normal (act 62 [(4, x58.1), (5, x5), (6, x6), (46, x46), (47, x47), (48, x48)]) x58.2 := (k_reg (by kernel_rfl)).trans (by kernel_rfl)
theorem r52_15 {β : Type} {inv : Inv} {k : Nat} {x4 x5 x6 x46 x47 x48 : Value} {h : AH} {K : XE → Act → AH → Option β} : kCode env 52 false inv k (cr (cr (cr (cl (cl (cr (cl (cr (cr (cr (cr (cr (cr (cr (cr c52))))))))))))))) (act 62 [(4, x4), (5, x5), (6, x6), (46, x46), (47, x47), (48, x48)]) h K =
    bnd (pBin Try.prog Go.BinOp.add 3 (Go.Operand.tmp 48) (Go.Operand.const (Go.Value.int Go.IntKind.i64 1)) x48 (Go.Value.int Go.IntKind.i64 1)) fun x59 =>
    K .normal (act 62 [(4, x4), (5, x5), (6, x6), (46, x46), (47, x47), (48, x59)]) h := (k_reg (by kernel_rfl)).trans (by kernel_rfl)
noncomputable def F52_lrlrrrrrrrr {β : Type} (inv : Inv) (k : Nat) : Nat → Value → Value → Value → Value → Value → Value → AH → (Value → Value → Value → Value → Value → Value → Value → AH → Option β) → Option β
  | 0, _, _, _, _, _, _, _, _ => none
  | j + 1, x4, x5, x6, x46, x47, x48, h, ke0 =>
    bnd (pBin Try.prog Go.BinOp.lss 3 (Go.Operand.tmp 48) (Go.Operand.tmp 47) x48 x47) fun x49 =>
    brV x49
    (bnd (pIndexAddr Try.prog 50 x46 x48) fun x50 =>
    bnd (pLoad Try.prog 51 x50 h) fun x51 =>
    bnd (pBin Try.prog Go.BinOp.add 51 (Go.Operand.tmp 53) (Go.Operand.tmp 54) x6 x51) fun x55 =>
    bnd (pConv Try.prog 51 2 x55 h) fun x56 =>
    bnd (pBuildSlice Try.prog 25 1 #[(0, x56)] h) fun x57 =>
    bnd (pAppend Try.prog #[25, 25] x4 x57.1 x57.2) fun x58 =>
    bnd (pBin Try.prog Go.BinOp.add 3 (Go.Operand.tmp 48) (Go.Operand.const (Go.Value.int Go.IntKind.i64 1)) x48 (Go.Value.int Go.IntKind.i64 1)) fun x59 =>
    F52_lrlrrrrrrrr inv k j x58.1 x5 x6 x46 x47 x59 x58.2 ke0)
    (ke0 x4 x5 x6 x46 x47 x48 x49 h)
theorem F52_lrlrrrrrrrr_j {β : Type} {inv : Inv} {k : Nat} (j : Nat) {x4 x5 x6 x46 x47 x48 : Value} {h : AH} {K : XE → Act → AH → Option β} : kLoop (kCode env 52 false inv k (cl (cl (cr (cl (cr (cr (cr (cr (cr (cr (cr (cr c52))))))))))))) j (act 62 [(4, x4), (5, x5), (6, x6), (46, x46), (47, x47), (48, x48)]) h K = F52_lrlrrrrrrrr inv k j x4 x5 x6 x46 x47 x48 h (fun y4 y5 y6 y46 y47 y48 y49 h => K (.exit 0) (act 62 [(4, y4), (5, y5), (6, y6), (46, y46), (47, y47), (48, y48), (49, y49)]) h) := by
      induction j generalizing x4 x5 x6 x46 x47 x48 h with
      | zero => rfl
      | succ j ih =>
        unfold F52_lrlrrrrrrrr
        simp only [kLoop, k_seq (E := env) (f := 52) (c := (cl (cl (cr (cl (cr (cr (cr (cr (cr (cr (cr (cr c52))))))))))))) (by kernel_rfl), r52_12, k_seq (E := env) (f := 52) (c := (cr (cl (cl (cr (cl (cr (cr (cr (cr (cr (cr (cr (cr c52)))))))))))))) (by kernel_rfl), b52_lrllrlrrrrrrrr, k_skip (E := env) (f := 52) (c := (cl (cl (cr (cl (cl (cr (cl (cr (cr (cr (cr (cr (cr (cr (cr c52)))))))))))))))) (by kernel_rfl), k_seq (E := env) (f := 52) (c := (cr (cr (cl (cl (cr (cl (cr (cr (cr (cr (cr (cr (cr (cr c52))))))))))))))) (by kernel_rfl), k_block (E := env) (f := 52) (c := (cl (cr (cr (cl (cl (cr (cl (cr (cr (cr (cr (cr (cr (cr (cr c52)))))))))))))))) (id := 1) (by kernel_rfl), k_seq (E := env) (f := 52) (c := (cl (cl (cr (cr (cl (cl (cr (cl (cr (cr (cr (cr (cr (cr (cr (cr c52))))))))))))))))) (by kernel_rfl), r52_13, r52_14, r52_15, k_exit (E := env) (f := 52) (c := (cr (cl (cr (cl (cl (cr (cl (cr (cr (cr (cr (cr (cr (cr (cr c52)))))))))))))))) (id := 0) (by kernel_rfl), ih, reduceIte, reduceCtorEq, XE.exit.injEq, Nat.reduceEqDiff] <;> kernel_rfl
theorem F52_lrlrrrrrrrr_eq {β : Type} {inv : Inv} {k : Nat} {x4 x5 x6 x46 x47 x48 : Value} {h : AH} {K : XE → Act → AH → Option β} : kCode env 52 false inv k (cl (cr (cl (cr (cr (cr (cr (cr (cr (cr (cr c52))))))))))) (act 62 [(4, x4), (5, x5), (6, x6), (46, x46), (47, x47), (48, x48)]) h K = F52_lrlrrrrrrrr inv k k x4 x5 x6 x46 x47 x48 h (fun y4 y5 y6 y46 y47 y48 y49 h => K (.exit 0) (act 62 [(4, y4), (5, y5), (6, y6), (46, y46), (47, y47), (48, y48), (49, y49)]) h) := (k_loop (by kernel_rfl)).trans (F52_lrlrrrrrrrr_j k)
theorem r52_16 {β : Type} {inv : Inv} {k : Nat} {x4 x5 x6 x46 x47 x48 x49 : Value} {h : AH} {K : XE → Act → AH → Option β} : kCode env 52 false inv k (cl (cr (cr (cr (cr (cr (cr (cr (cr (cr c52)))))))))) (act 62 [(4, x4), (5, x5), (6, x6), (46, x46), (47, x47), (48, x48), (49, x49)]) h K =
    K .normal (act 62 [(4, x4), (5, x5)]) h := (k_reg (by kernel_rfl)).trans (by kernel_rfl)
/-- shadowbook/ints.packed -/
noncomputable def F52 (inv : Inv) (k : Nat) (x0 x1 : Value) (h : AH) : Option (Value × AH) :=
    bnd (inv (.func 35) #[] #[x0, (Go.Value.int Go.IntKind.i64 8)] h) fun x14 =>
    bnd (pExtract x14.1 0) fun x15 =>
    bnd (pExtract x14.1 1) fun x16 =>
    bnd (pBin Try.prog Go.BinOp.neq 27 (Go.Operand.tmp 17) (Go.Operand.const (Go.Value.int Go.IntKind.i64 0)) x16 (Go.Value.int Go.IntKind.i64 0)) fun x18 =>
    brV x18
    (some (.tuple #[(Go.Value.slice none 0 0), x16], x14.2))
    (bnd (inv (.func 35) #[] #[x0, (Go.Value.int Go.IntKind.i64 1)] x14.2) fun x22 =>
    bnd (pExtract x22.1 0) fun x23 =>
    bnd (pExtract x22.1 1) fun x24 =>
    bnd (pBin Try.prog Go.BinOp.neq 27 (Go.Operand.tmp 25) (Go.Operand.const (Go.Value.int Go.IntKind.i64 0)) x24 (Go.Value.int Go.IntKind.i64 0)) fun x26 =>
    brV x26
    (some (.tuple #[(Go.Value.slice none 0 0), x24], x22.2))
    (bnd (inv (.func 68) #[] #[x0] x22.2) fun x31 =>
    bnd (inv (.func 67) #[] #[x0, x31.1] x31.2) fun x32 =>
    bnd (pExtract x32.1 0) fun x33 =>
    bnd (pExtract x32.1 1) fun x34 =>
    bnd (pBin Try.prog Go.BinOp.neq 27 (Go.Operand.tmp 35) (Go.Operand.const (Go.Value.int Go.IntKind.i64 0)) x34 (Go.Value.int Go.IntKind.i64 0)) fun x36 =>
    brV x36
    (some (.tuple #[(Go.Value.slice none 0 0), x34], x32.2))
    (bnd (pConv Try.prog 51 3 x23 x32.2) fun x42 =>
    bnd (inv (.func 69) #[] #[x33, x1, x42] x32.2) fun x43 =>
    bnd (pExtract x43.1 0) fun x44 =>
    bnd (pExtract x43.1 1) fun x45 =>
    bnd (pLen Try.prog #[50] x44 x43.2) fun x47 =>
    F52_lrlrrrrrrrr inv k k (Go.Value.slice none 0 0) x45 x15 x44 x47 (Go.Value.int Go.IntKind.i64 0) x43.2
    (fun y4 y5 y6 y46 y47 y48 y49 h =>
    some (.tuple #[y4, y5], h)))))
theorem F52_eq {inv : Inv} {k : Nat} {x0 x1 : Value} {h : AH} : eFun env k inv 52 #[x0, x1] h = F52 inv k x0 x1 h := by
      refine (eFun_k2 (by kernel_rfl) (by kernel_rfl) (by kernel_rfl) (a := act 62 [(0, x0), (1, x1)]) (c := c52) (by kernel_rfl) (by kernel_rfl)).trans ?_
      unfold F52
      simp only [k_seq (E := env) (f := 52) (c := c52) (by kernel_rfl), r52_0, k_seq (E := env) (f := 52) (c := (cr c52)) (by kernel_rfl), r52_1, k_seq (E := env) (f := 52) (c := (cr (cr c52))) (by kernel_rfl), k_seq (E := env) (f := 52) (c := (cl (cr (cr c52)))) (by kernel_rfl), r52_2, b52_rlrr, k_seq (E := env) (f := 52) (c := (cl (cr (cl (cr (cr c52)))))) (by kernel_rfl), r52_3, k_ret (E := env) (f := 52) (c := (cr (cl (cr (cl (cr (cr c52))))))) (by kernel_rfl), res52_0, k_skip (E := env) (f := 52) (c := (cr (cr (cl (cr (cr c52)))))) (by kernel_rfl), k_seq (E := env) (f := 52) (c := (cr (cr (cr c52)))) (by kernel_rfl), r52_4, k_seq (E := env) (f := 52) (c := (cr (cr (cr (cr c52))))) (by kernel_rfl), k_seq (E := env) (f := 52) (c := (cl (cr (cr (cr (cr c52)))))) (by kernel_rfl), r52_5, b52_rlrrrr, k_seq (E := env) (f := 52) (c := (cl (cr (cl (cr (cr (cr (cr c52)))))))) (by kernel_rfl), r52_6, k_ret (E := env) (f := 52) (c := (cr (cl (cr (cl (cr (cr (cr (cr c52))))))))) (by kernel_rfl), k_skip (E := env) (f := 52) (c := (cr (cr (cl (cr (cr (cr (cr c52)))))))) (by kernel_rfl), k_seq (E := env) (f := 52) (c := (cr (cr (cr (cr (cr c52)))))) (by kernel_rfl), r52_7, k_seq (E := env) (f := 52) (c := (cr (cr (cr (cr (cr (cr c52))))))) (by kernel_rfl), k_seq (E := env) (f := 52) (c := (cl (cr (cr (cr (cr (cr (cr c52)))))))) (by kernel_rfl), r52_8, b52_rlrrrrrr, k_seq (E := env) (f := 52) (c := (cl (cr (cl (cr (cr (cr (cr (cr (cr c52)))))))))) (by kernel_rfl), r52_9, k_ret (E := env) (f := 52) (c := (cr (cl (cr (cl (cr (cr (cr (cr (cr (cr c52))))))))))) (by kernel_rfl), k_skip (E := env) (f := 52) (c := (cr (cr (cl (cr (cr (cr (cr (cr (cr c52)))))))))) (by kernel_rfl), k_seq (E := env) (f := 52) (c := (cr (cr (cr (cr (cr (cr (cr c52)))))))) (by kernel_rfl), r52_10, k_seq (E := env) (f := 52) (c := (cr (cr (cr (cr (cr (cr (cr (cr c52))))))))) (by kernel_rfl), k_seq (E := env) (f := 52) (c := (cl (cr (cr (cr (cr (cr (cr (cr (cr c52)))))))))) (by kernel_rfl), r52_11, k_block (E := env) (f := 52) (c := (cr (cl (cr (cr (cr (cr (cr (cr (cr (cr c52))))))))))) (id := 0) (by kernel_rfl), F52_lrlrrrrrrrr_eq, k_seq (E := env) (f := 52) (c := (cr (cr (cr (cr (cr (cr (cr (cr (cr c52)))))))))) (by kernel_rfl), r52_16, k_ret (E := env) (f := 52) (c := (cr (cr (cr (cr (cr (cr (cr (cr (cr (cr c52))))))))))) (by kernel_rfl), reduceIte, reduceCtorEq, XE.exit.injEq, Nat.reduceEqDiff] <;> kernel_rfl
noncomputable def c53 : Code := codeOf Try.prog 53
theorem r53_0 {β : Type} {inv : Inv} {k : Nat} {x0 : Value} {h : AH} {K : XE → Act → AH → Option β} : kCode env 53 false inv k (cl c53) (act 6 [(0, x0)]) h K =
    K .normal (act 6 [(0, x0)]) h := (k_reg (by kernel_rfl)).trans (by kernel_rfl)
theorem r53_1 {β : Type} {inv : Inv} {k : Nat} {x0 : Value} {h : AH} {K : XE → Act → AH → Option β} : kCode env 53 false inv k (cl (cr c53)) (act 6 [(0, x0)]) h K =
    bnd (pBin Try.prog Go.BinOp.neq 3 (Go.Operand.tmp 3) (Go.Operand.tmp 4) x0 x0) fun x5 =>
    K .normal (act 6 [(2, x5)]) h := (k_reg (by kernel_rfl)).trans (by kernel_rfl)
theorem res53_0 {x2 : Value} {h : AH} : resOfFn env.P 53 .ret (act 6 [(2, x2)]) h = some (x2, h) := (resOfFn_k (by kernel_rfl) (by kernel_rfl)).trans (by kernel_rfl)
/-- cmp.isNaN[int] -/
noncomputable def F53 (inv : Inv) (k : Nat) (x0 : Value) (h : AH) : Option (Value × AH) :=
    bnd (pBin Try.prog Go.BinOp.neq 3 (Go.Operand.tmp 3) (Go.Operand.tmp 4) x0 x0) fun x5 =>
    some (x5, h)
theorem F53_eq {inv : Inv} {k : Nat} {x0 : Value} {h : AH} : eFun env k inv 53 #[x0] h = F53 inv k x0 h := by
      refine (eFun_k2 (by kernel_rfl) (by kernel_rfl) (by kernel_rfl) (a := act 6 [(0, x0)]) (c := c53) (by kernel_rfl) (by kernel_rfl)).trans ?_
      unfold F53
      simp only [k_seq (E := env) (f := 53) (c := c53) (by kernel_rfl), r53_0, k_seq (E := env) (f := 53) (c := (cr c53)) (by kernel_rfl), r53_1, k_ret (E := env) (f := 53) (c := (cr (cr c53))) (by kernel_rfl), res53_0, reduceIte, reduceCtorEq, XE.exit.injEq, Nat.reduceEqDiff] <;> kernel_rfl
noncomputable def c54 : Code := codeOf Try.prog 54
theorem r54_0 {β : Type} {inv : Inv} {k : Nat} {x0 : Value} {h : AH} {K : XE → Act → AH → Option β} : kCode env 54 false inv k (cl c54) (act 25 [(0, x0)]) h K =
    K .normal (act 25 [(0, x0), (2, (Go.Value.int Go.IntKind.i64 0))]) h := (k_reg (by kernel_rfl)).trans (by kernel_rfl)
theorem r54_1 {β : Type} {inv : Inv} {k : Nat} {x0 x2 : Value} {h : AH} {K : XE → Act → AH → Option β} : kCode env 54 false inv k (cl (cl (cr c54))) (act 25 [(0, x0), (2, x2)]) h K =
    bnd (pBin Try.prog Go.BinOp.geq 51 (Go.Operand.tmp 3) (Go.Operand.const (Go.Value.int Go.IntKind.u64 4294967296)) x0 (Go.Value.int Go.IntKind.u64 4294967296)) fun x4 =>
    K .normal (act 25 [(0, x0), (2, x2), (4, x4)]) h := (k_reg (by kernel_rfl)).trans (by kernel_rfl)
theorem b54_rlr {β : Type} {inv : Inv} {k : Nat} {x0 x2 x4 : Value} {h : AH} {K : XE → Act → AH → Option β} : kCode env 54 false inv k (cr (cl (cr c54))) (act 25 [(0, x0), (2, x2), (4, x4)]) h K = brV x4 (kCode env 54 false inv k (cl (cr (cl (cr c54)))) (act 25 [(0, x0), (2, x2), (4, x4)]) h K) (kCode env 54 false inv k (cr (cr (cl (cr c54)))) (act 25 [(0, x0), (2, x2), (4, x4)]) h K) := (k_cond (by kernel_rfl)).trans (by kernel_rfl)
theorem r54_2 {β : Type} {inv : Inv} {k : Nat} {x0 x2 x4 : Value} {h : AH} {K : XE → Act → AH → Option β} : kCode env 54 false inv k (cl (cl (cr (cl (cr c54))))) (act 25 [(0, x0), (2, x2), (4, x4)]) h K =
    bnd (pBin Try.prog Go.BinOp.shr 51 (Go.Operand.tmp 5) (Go.Operand.const (Go.Value.int Go.IntKind.u64 32)) x0 (Go.Value.int Go.IntKind.u64 32)) fun x6 =>
    K .normal (act 25 [(0, x6)]) h := (k_reg (by kernel_rfl)).trans (by kernel_rfl)
theorem r54_3 {β : Type} {inv : Inv} {k : Nat} {x0 : Value} {h : AH} {K : XE → Act → AH → Option β} : kCode env 54 false inv k (cr (cl (cr (cl (cr c54))))) (act 25 [(0, x0)]) h K =
    K .normal (act 25 [(0, x0), (2, (Go.Value.int Go.IntKind.i64 32))]) h := (k_reg (by kernel_rfl)).trans (by kernel_rfl)
noncomputable def F54_rlr {β : Type} (inv : Inv) (k : Nat) (x0 x2 x4 : Value) (h : AH) (kn : (Value → Value → Value → AH → Option β)) : Option β :=
    brV x4
    (bnd (pBin Try.prog Go.BinOp.shr 51 (Go.Operand.tmp 5) (Go.Operand.const (Go.Value.int Go.IntKind.u64 32)) x0 (Go.Value.int Go.IntKind.u64 32)) fun x6 =>
    kn x6 (Go.Value.int Go.IntKind.i64 32) unk h)
    (kn x0 x2 x4 h)
theorem F54_rlr_eq {β : Type} {inv : Inv} {k : Nat} {x0 x2 x4 : Value} {h : AH} {K : XE → Act → AH → Option β} : kCode env 54 false inv k (cr (cl (cr c54))) (act 25 [(0, x0), (2, x2), (4, x4)]) h K = F54_rlr inv k x0 x2 x4 h (fun y0 y2 y4 h => K .normal (act 25 [(0, y0), (2, y2), (4, y4)]) h) := by
      unfold F54_rlr
      simp only [b54_rlr, k_seq (E := env) (f := 54) (c := (cl (cr (cl (cr c54))))) (by kernel_rfl), r54_2, r54_3, k_skip (E := env) (f := 54) (c := (cr (cr (cl (cr c54))))) (by kernel_rfl), reduceIte, reduceCtorEq, XE.exit.injEq, Nat.reduceEqDiff] <;> kernel_rfl
theorem r54_4 {β : Type} {inv : Inv} {k : Nat} {x0 x2 x4 : Value} {h : AH} {K : XE → Act → AH → Option β} : kCode env 54 false inv k (cl (cl (cr (cr c54)))) (act 25 [(0, x0), (2, x2), (4, x4)]) h K =
    bnd (pBin Try.prog Go.BinOp.geq 51 (Go.Operand.tmp 7) (Go.Operand.const (Go.Value.int Go.IntKind.u64 65536)) x0 (Go.Value.int Go.IntKind.u64 65536)) fun x8 =>
    K .normal (act 25 [(0, x0), (2, x2), (8, x8)]) h := (k_reg (by kernel_rfl)).trans (by kernel_rfl)
theorem b54_rlrr {β : Type} {inv : Inv} {k : Nat} {x0 x2 x8 : Value} {h : AH} {K : XE → Act → AH → Option β} : kCode env 54 false inv k (cr (cl (cr (cr c54)))) (act 25 [(0, x0), (2, x2), (8, x8)]) h K = brV x8 (kCode env 54 false inv k (cl (cr (cl (cr (cr c54))))) (act 25 [(0, x0), (2, x2), (8, x8)]) h K) (kCode env 54 false inv k (cr (cr (cl (cr (cr c54))))) (act 25 [(0, x0), (2, x2), (8, x8)]) h K) := (k_cond (by kernel_rfl)).trans (by kernel_rfl)
theorem r54_5 {β : Type} {inv : Inv} {k : Nat} {x0 x2 x8 : Value} {h : AH} {K : XE → Act → AH → Option β} : kCode env 54 false inv k (cl (cl (cr (cl (cr (cr c54)))))) (act 25 [(0, x0), (2, x2), (8, x8)]) h K =
    bnd (pBin Try.prog Go.BinOp.shr 51 (Go.Operand.tmp 9) (Go.Operand.const (Go.Value.int Go.IntKind.u64 16)) x0 (Go.Value.int Go.IntKind.u64 16)) fun x10 =>
    K .normal (act 25 [(0, x10), (2, x2)]) h := (k_reg (by kernel_rfl)).trans (by kernel_rfl)
theorem r54_6 {β : Type} {inv : Inv} {k : Nat} {x0 x2 : Value} {h : AH} {K : XE → Act → AH → Option β} : kCode env 54 false inv k (cr (cl (cr (cl (cr (cr c54)))))) (act 25 [(0, x0), (2, x2)]) h K =
    bnd (pBin Try.prog Go.BinOp.add 3 (Go.Operand.tmp 11) (Go.Operand.const (Go.Value.int Go.IntKind.i64 16)) x2 (Go.Value.int Go.IntKind.i64 16)) fun x12 =>
    K .normal (act 25 [(0, x0), (2, x12)]) h := (k_reg (by kernel_rfl)).trans (by kernel_rfl)
noncomputable def F54_rlrr {β : Type} (inv : Inv) (k : Nat) (x0 x2 x8 : Value) (h : AH) (kn : (Value → Value → Value → AH → Option β)) : Option β :=
    brV x8
    (bnd (pBin Try.prog Go.BinOp.shr 51 (Go.Operand.tmp 9) (Go.Operand.const (Go.Value.int Go.IntKind.u64 16)) x0 (Go.Value.int Go.IntKind.u64 16)) fun x10 =>
    bnd (pBin Try.prog Go.BinOp.add 3 (Go.Operand.tmp 11) (Go.Operand.const (Go.Value.int Go.IntKind.i64 16)) x2 (Go.Value.int Go.IntKind.i64 16)) fun x12 =>
    kn x10 x12 unk h)
    (kn x0 x2 x8 h)
theorem F54_rlrr_eq {β : Type} {inv : Inv} {k : Nat} {x0 x2 x8 : Value} {h : AH} {K : XE → Act → AH → Option β} : kCode env 54 false inv k (cr (cl (cr (cr c54)))) (act 25 [(0, x0), (2, x2), (8, x8)]) h K = F54_rlrr inv k x0 x2 x8 h (fun y0 y2 y8 h => K .normal (act 25 [(0, y0), (2, y2), (8, y8)]) h) := by
      unfold F54_rlrr
      simp only [b54_rlrr, k_seq (E := env) (f := 54) (c := (cl (cr (cl (cr (cr c54)))))) (by kernel_rfl), r54_5, r54_6, k_skip (E := env) (f := 54) (c := (cr (cr (cl (cr (cr c54)))))) (by kernel_rfl), reduceIte, reduceCtorEq, XE.exit.injEq, Nat.reduceEqDiff] <;> kernel_rfl
theorem r54_7 {β : Type} {inv : Inv} {k : Nat} {x0 x2 x8 : Value} {h : AH} {K : XE → Act → AH → Option β} : kCode env 54 false inv k (cl (cl (cr (cr (cr c54))))) (act 25 [(0, x0), (2, x2), (8, x8)]) h K =
    bnd (pBin Try.prog Go.BinOp.geq 51 (Go.Operand.tmp 13) (Go.Operand.const (Go.Value.int Go.IntKind.u64 256)) x0 (Go.Value.int Go.IntKind.u64 256)) fun x14 =>
    K .normal (act 25 [(0, x0), (2, x2), (14, x14)]) h := (k_reg (by kernel_rfl)).trans (by kernel_rfl)
theorem b54_rlrrr {β : Type} {inv : Inv} {k : Nat} {x0 x2 x14 : Value} {h : AH} {K : XE → Act → AH → Option β} : kCode env 54 false inv k (cr (cl (cr (cr (cr c54))))) (act 25 [(0, x0), (2, x2), (14, x14)]) h K = brV x14 (kCode env 54 false inv k (cl (cr (cl (cr (cr (cr c54)))))) (act 25 [(0, x0), (2, x2), (14, x14)]) h K) (kCode env 54 false inv k (cr (cr (cl (cr (cr (cr c54)))))) (act 25 [(0, x0), (2, x2), (14, x14)]) h K) := (k_cond (by kernel_rfl)).trans (by kernel_rfl)
theorem r54_8 {β : Type} {inv : Inv} {k : Nat} {x0 x2 x14 : Value} {h : AH} {K : XE → Act → AH → Option β} : kCode env 54 false inv k (cl (cl (cr (cl (cr (cr (cr c54))))))) (act 25 [(0, x0), (2, x2), (14, x14)]) h K =
    bnd (pBin Try.prog Go.BinOp.shr 51 (Go.Operand.tmp 15) (Go.Operand.const (Go.Value.int Go.IntKind.u64 8)) x0 (Go.Value.int Go.IntKind.u64 8)) fun x16 =>
    K .normal (act 25 [(0, x16), (2, x2)]) h := (k_reg (by kernel_rfl)).trans (by kernel_rfl)
theorem r54_9 {β : Type} {inv : Inv} {k : Nat} {x0 x2 : Value} {h : AH} {K : XE → Act → AH → Option β} : kCode env 54 false inv k (cr (cl (cr (cl (cr (cr (cr c54))))))) (act 25 [(0, x0), (2, x2)]) h K =
    bnd (pBin Try.prog Go.BinOp.add 3 (Go.Operand.tmp 17) (Go.Operand.const (Go.Value.int Go.IntKind.i64 8)) x2 (Go.Value.int Go.IntKind.i64 8)) fun x18 =>
    K .normal (act 25 [(0, x0), (2, x18)]) h := (k_reg (by kernel_rfl)).trans (by kernel_rfl)
noncomputable def F54_rlrrr {β : Type} (inv : Inv) (k : Nat) (x0 x2 x14 : Value) (h : AH) (kn : (Value → Value → Value → AH → Option β)) : Option β :=
    brV x14
    (bnd (pBin Try.prog Go.BinOp.shr 51 (Go.Operand.tmp 15) (Go.Operand.const (Go.Value.int Go.IntKind.u64 8)) x0 (Go.Value.int Go.IntKind.u64 8)) fun x16 =>
    bnd (pBin Try.prog Go.BinOp.add 3 (Go.Operand.tmp 17) (Go.Operand.const (Go.Value.int Go.IntKind.i64 8)) x2 (Go.Value.int Go.IntKind.i64 8)) fun x18 =>
    kn x16 x18 unk h)
    (kn x0 x2 x14 h)
theorem F54_rlrrr_eq {β : Type} {inv : Inv} {k : Nat} {x0 x2 x14 : Value} {h : AH} {K : XE → Act → AH → Option β} : kCode env 54 false inv k (cr (cl (cr (cr (cr c54))))) (act 25 [(0, x0), (2, x2), (14, x14)]) h K = F54_rlrrr inv k x0 x2 x14 h (fun y0 y2 y14 h => K .normal (act 25 [(0, y0), (2, y2), (14, y14)]) h) := by
      unfold F54_rlrrr
      simp only [b54_rlrrr, k_seq (E := env) (f := 54) (c := (cl (cr (cl (cr (cr (cr c54))))))) (by kernel_rfl), r54_8, r54_9, k_skip (E := env) (f := 54) (c := (cr (cr (cl (cr (cr (cr c54))))))) (by kernel_rfl), reduceIte, reduceCtorEq, XE.exit.injEq, Nat.reduceEqDiff] <;> kernel_rfl
theorem r54_10 {β : Type} {inv : Inv} {k : Nat} {x0 x2 x14 : Value} {h : AH} {K : XE → Act → AH → Option β} : kCode env 54 false inv k (cl (cr (cr (cr (cr c54))))) (act 25 [(0, x0), (2, x2), (14, x14)]) h K =
    bnd (pConv Try.prog 51 5 x0 h) fun x21 =>
    bnd (pIndex Try.prog 9 (Go.Value.string { data := #[0, 1, 2, 2, 3, 3, 3, 3, 4, 4, 4, 4, 4, 4, 4, 4, 5, 5, 5, 5, 5, 5, 5, 5, 5, 5, 5, 5, 5, 5, 5, 5, 6, 6, 6, 6, 6, 6, 6, 6, 6, 6, 6, 6, 6, 6, 6, 6, 6, 6, 6, 6, 6, 6, 6, 6, 6, 6, 6, 6, 6, 6, 6, 6, 7, 7, 7, 7, 7, 7, 7, 7, 7, 7, 7, 7, 7, 7, 7, 7, 7, 7, 7, 7, 7, 7, 7, 7, 7, 7, 7, 7, 7, 7, 7, 7, 7, 7, 7, 7, 7, 7, 7, 7, 7, 7, 7, 7, 7, 7, 7, 7, 7, 7, 7, 7, 7, 7, 7, 7, 7, 7, 7, 7, 7, 7, 7, 7, 8, 8, 8, 8, 8, 8, 8, 8, 8, 8, 8, 8, 8, 8, 8, 8, 8, 8, 8, 8, 8, 8, 8, 8, 8, 8, 8, 8, 8, 8, 8, 8, 8, 8, 8, 8, 8, 8, 8, 8, 8, 8, 8, 8, 8, 8, 8, 8, 8, 8, 8, 8, 8, 8, 8, 8, 8, 8, 8, 8, 8, 8, 8, 8, 8, 8, 8, 8, 8, 8, 8, 8, 8, 8, 8, 8, 8, 8, 8, 8, 8, 8, 8, 8, 8, 8, 8, 8, 8, 8, 8, 8, 8, 8, 8, 8, 8, 8, 8, 8, 8, 8, 8, 8, 8, 8, 8, 8, 8, 8, 8, 8, 8, 8, 8, 8, 8, 8, 8, 8, 8, 8, 8, 8, 8, 8, 8, 8] }) x21) fun x22 =>
    bnd (pConv Try.prog 5 3 x22 h) fun x23 =>
    bnd (pBin Try.prog Go.BinOp.add 3 (Go.Operand.tmp 19) (Go.Operand.tmp 23) x2 x23) fun x24 =>
    K .normal (act 25 [(2, x24)]) h := (k_reg (by kernel_rfl)).trans (by kernel_rfl)
theorem res54_0 {x2 : Value} {h : AH} : resOfFn env.P 54 .ret (act 25 [(2, x2)]) h = some (x2, h) := (resOfFn_k (by kernel_rfl) (by kernel_rfl)).trans (by kernel_rfl)
/-- math/bits.Len64 -/
noncomputable def F54 (inv : Inv) (k : Nat) (x0 : Value) (h : AH) : Option (Value × AH) :=
    bnd (pBin Try.prog Go.BinOp.geq 51 (Go.Operand.tmp 3) (Go.Operand.const (Go.Value.int Go.IntKind.u64 4294967296)) x0 (Go.Value.int Go.IntKind.u64 4294967296)) fun x4 =>
    F54_rlr inv k x0 (Go.Value.int Go.IntKind.i64 0) x4 h
    (fun y0 y2 y4 h =>
    bnd (pBin Try.prog Go.BinOp.geq 51 (Go.Operand.tmp 7) (Go.Operand.const (Go.Value.int Go.IntKind.u64 65536)) y0 (Go.Value.int Go.IntKind.u64 65536)) fun x8 =>
    F54_rlrr inv k y0 y2 x8 h
    (fun y0_1 y2_2 y8 h_3 =>
    bnd (pBin Try.prog Go.BinOp.geq 51 (Go.Operand.tmp 13) (Go.Operand.const (Go.Value.int Go.IntKind.u64 256)) y0_1 (Go.Value.int Go.IntKind.u64 256)) fun x14 =>
    F54_rlrrr inv k y0_1 y2_2 x14 h_3
    (fun y0_4 y2_5 y14 h_6 =>
    bnd (pConv Try.prog 51 5 y0_4 h_6) fun x21 =>
    bnd (pIndex Try.prog 9 (Go.Value.string { data := #[0, 1, 2, 2, 3, 3, 3, 3, 4, 4, 4, 4, 4, 4, 4, 4, 5, 5, 5, 5, 5, 5, 5, 5, 5, 5, 5, 5, 5, 5, 5, 5, 6, 6, 6, 6, 6, 6, 6, 6, 6, 6, 6, 6, 6, 6, 6, 6, 6, 6, 6, 6, 6, 6, 6, 6, 6, 6, 6, 6, 6, 6, 6, 6, 7, 7, 7, 7, 7, 7, 7, 7, 7, 7, 7, 7, 7, 7, 7, 7, 7, 7, 7, 7, 7, 7, 7, 7, 7, 7, 7, 7, 7, 7, 7, 7, 7, 7, 7, 7, 7, 7, 7, 7, 7, 7, 7, 7, 7, 7, 7, 7, 7, 7, 7, 7, 7, 7, 7, 7, 7, 7, 7, 7, 7, 7, 7, 7, 8, 8, 8, 8, 8, 8, 8, 8, 8, 8, 8, 8, 8, 8, 8, 8, 8, 8, 8, 8, 8, 8, 8, 8, 8, 8, 8, 8, 8, 8, 8, 8, 8, 8, 8, 8, 8, 8, 8, 8, 8, 8, 8, 8, 8, 8, 8, 8, 8, 8, 8, 8, 8, 8, 8, 8, 8, 8, 8, 8, 8, 8, 8, 8, 8, 8, 8, 8, 8, 8, 8, 8, 8, 8, 8, 8, 8, 8, 8, 8, 8, 8, 8, 8, 8, 8, 8, 8, 8, 8, 8, 8, 8, 8, 8, 8, 8, 8, 8, 8, 8, 8, 8, 8, 8, 8, 8, 8, 8, 8, 8, 8, 8, 8, 8, 8, 8, 8, 8, 8, 8, 8, 8, 8, 8, 8, 8, 8] }) x21) fun x22 =>
    bnd (pConv Try.prog 5 3 x22 h_6) fun x23 =>
    bnd (pBin Try.prog Go.BinOp.add 3 (Go.Operand.tmp 19) (Go.Operand.tmp 23) y2_5 x23) fun x24 =>
    some (x24, h_6))))
theorem F54_eq {inv : Inv} {k : Nat} {x0 : Value} {h : AH} : eFun env k inv 54 #[x0] h = F54 inv k x0 h := by
      refine (eFun_k2 (by kernel_rfl) (by kernel_rfl) (by kernel_rfl) (a := act 25 [(0, x0)]) (c := c54) (by kernel_rfl) (by kernel_rfl)).trans ?_
      unfold F54
      simp only [k_seq (E := env) (f := 54) (c := c54) (by kernel_rfl), r54_0, k_seq (E := env) (f := 54) (c := (cr c54)) (by kernel_rfl), k_seq (E := env) (f := 54) (c := (cl (cr c54))) (by kernel_rfl), r54_1, F54_rlr_eq, k_seq (E := env) (f := 54) (c := (cr (cr c54))) (by kernel_rfl), k_seq (E := env) (f := 54) (c := (cl (cr (cr c54)))) (by kernel_rfl), r54_4, F54_rlrr_eq, k_seq (E := env) (f := 54) (c := (cr (cr (cr c54)))) (by kernel_rfl), k_seq (E := env) (f := 54) (c := (cl (cr (cr (cr c54))))) (by kernel_rfl), r54_7, F54_rlrrr_eq, k_seq (E := env) (f := 54) (c := (cr (cr (cr (cr c54))))) (by kernel_rfl), r54_10, k_ret (E := env) (f := 54) (c := (cr (cr (cr (cr (cr c54)))))) (by kernel_rfl), res54_0, reduceIte, reduceCtorEq, XE.exit.injEq, Nat.reduceEqDiff] <;> kernel_rfl
noncomputable def c55 : Code := codeOf Try.prog 55
theorem r55_0 {β : Type} {inv : Inv} {k : Nat} {x0 x1 : Value} {h : AH} {K : XE → Act → AH → Option β} : kCode env 55 false inv k (cl c55) (act 19 [(0, x0), (1, x1)]) h K =
    K .normal (act 19 [(0, x0), (1, x1)]) h := (k_reg (by kernel_rfl)).trans (by kernel_rfl)
theorem r55_1 {β : Type} {inv : Inv} {k : Nat} {x0 x1 : Value} {h : AH} {K : XE → Act → AH → Option β} : kCode env 55 false inv k (cl (cr c55)) (act 19 [(0, x0), (1, x1)]) h K =
    bnd (pBin Try.prog Go.BinOp.geq 3 (Go.Operand.tmp 5) (Go.Operand.const (Go.Value.int Go.IntKind.i64 0)) x0 (Go.Value.int Go.IntKind.i64 0)) fun x6 =>
    bnd (gd (some x6) true h (some (x0, h))) fun x8 =>
    bnd (gd (some x6) true x8.2 (lt (pBin Try.prog Go.BinOp.leq 3 (Go.Operand.tmp 8) (Go.Operand.const (Go.Value.int Go.IntKind.i64 65536)) x8.1 (Go.Value.int Go.IntKind.i64 65536)) x8.2)) fun x9 =>
    bnd (pickV x6 x9.1 (Go.Value.bool false)) fun x10 =>
    bnd (gd (some x10) true x9.2 (some (x1, x9.2))) fun x12 =>
    bnd (gd (some x10) true x12.2 (lt (pBin Try.prog Go.BinOp.geq 3 (Go.Operand.tmp 12) (Go.Operand.const (Go.Value.int Go.IntKind.i64 0)) x12.1 (Go.Value.int Go.IntKind.i64 0)) x12.2)) fun x13 =>
    bnd (pickV x10 x13.1 (Go.Value.bool false)) fun x14 =>
    bnd (gd (some x14) true x13.2 (some (x1, x13.2))) fun x16 =>
    bnd (gd (some x14) true x16.2 (lt (pBin Try.prog Go.BinOp.leq 3 (Go.Operand.tmp 16) (Go.Operand.const (Go.Value.int Go.IntKind.i64 64)) x16.1 (Go.Value.int Go.IntKind.i64 64)) x16.2)) fun x17 =>
    bnd (pickV x14 x17.1 (Go.Value.bool false)) fun x18 =>
    K .normal (act 19 [(4, x18)]) x17.2 := (k_reg (by kernel_rfl)).trans (by kernel_rfl)
theorem res55_0 {x4 : Value} {h : AH} : resOfFn env.P 55 .ret (act 19 [(4, x4)]) h = some (x4, h) := (resOfFn_k (by kernel_rfl) (by kernel_rfl)).trans (by kernel_rfl)
/-- shadowbook/packs.may -/
noncomputable def F55 (inv : Inv) (k : Nat) (x0 x1 : Value) (h : AH) : Option (Value × AH) :=
    bnd (pBin Try.prog Go.BinOp.geq 3 (Go.Operand.tmp 5) (Go.Operand.const (Go.Value.int Go.IntKind.i64 0)) x0 (Go.Value.int Go.IntKind.i64 0)) fun x6 =>
    bnd (gd (some x6) true h (some (x0, h))) fun x8 =>
    bnd (gd (some x6) true x8.2 (lt (pBin Try.prog Go.BinOp.leq 3 (Go.Operand.tmp 8) (Go.Operand.const (Go.Value.int Go.IntKind.i64 65536)) x8.1 (Go.Value.int Go.IntKind.i64 65536)) x8.2)) fun x9 =>
    bnd (pickV x6 x9.1 (Go.Value.bool false)) fun x10 =>
    bnd (gd (some x10) true x9.2 (some (x1, x9.2))) fun x12 =>
    bnd (gd (some x10) true x12.2 (lt (pBin Try.prog Go.BinOp.geq 3 (Go.Operand.tmp 12) (Go.Operand.const (Go.Value.int Go.IntKind.i64 0)) x12.1 (Go.Value.int Go.IntKind.i64 0)) x12.2)) fun x13 =>
    bnd (pickV x10 x13.1 (Go.Value.bool false)) fun x14 =>
    bnd (gd (some x14) true x13.2 (some (x1, x13.2))) fun x16 =>
    bnd (gd (some x14) true x16.2 (lt (pBin Try.prog Go.BinOp.leq 3 (Go.Operand.tmp 16) (Go.Operand.const (Go.Value.int Go.IntKind.i64 64)) x16.1 (Go.Value.int Go.IntKind.i64 64)) x16.2)) fun x17 =>
    bnd (pickV x14 x17.1 (Go.Value.bool false)) fun x18 =>
    some (x18, x17.2)
theorem F55_eq {inv : Inv} {k : Nat} {x0 x1 : Value} {h : AH} : eFun env k inv 55 #[x0, x1] h = F55 inv k x0 x1 h := by
      refine (eFun_k2 (by kernel_rfl) (by kernel_rfl) (by kernel_rfl) (a := act 19 [(0, x0), (1, x1)]) (c := c55) (by kernel_rfl) (by kernel_rfl)).trans ?_
      unfold F55
      simp only [k_seq (E := env) (f := 55) (c := c55) (by kernel_rfl), r55_0, k_seq (E := env) (f := 55) (c := (cr c55)) (by kernel_rfl), r55_1, k_ret (E := env) (f := 55) (c := (cr (cr c55))) (by kernel_rfl), res55_0, reduceIte, reduceCtorEq, XE.exit.injEq, Nat.reduceEqDiff] <;> kernel_rfl
noncomputable def c56 : Code := codeOf Try.prog 56
theorem r56_0 {β : Type} {inv : Inv} {k : Nat} {x0 x1 : Value} {h : AH} {K : XE → Act → AH → Option β} : kCode env 56 false inv k (cl c56) (act 15 [(0, x0), (1, x1)]) h K =
    K .normal (act 15 [(0, x0), (1, x1)]) h := (k_reg (by kernel_rfl)).trans (by kernel_rfl)
theorem r56_1 {β : Type} {inv : Inv} {k : Nat} {x0 x1 : Value} {h : AH} {K : XE → Act → AH → Option β} : kCode env 56 false inv k (cl (cl (cr c56))) (act 15 [(0, x0), (1, x1)]) h K =
    bnd (inv (.func 55) #[] #[x0, x1] h) fun x7 =>
    bnd (pUn Try.prog Go.UnOp.not x7.1) fun x8 =>
    K .normal (act 15 [(0, x0), (1, x1), (8, x8)]) x7.2 := (k_reg (by kernel_rfl)).trans (by kernel_rfl)
theorem b56_rlr {β : Type} {inv : Inv} {k : Nat} {x0 x1 x8 : Value} {h : AH} {K : XE → Act → AH → Option β} : kCode env 56 false inv k (cr (cl (cr c56))) (act 15 [(0, x0), (1, x1), (8, x8)]) h K = brV x8 (kCode env 56 false inv k (cl (cr (cl (cr c56)))) (act 15 [(0, x0), (1, x1), (8, x8)]) h K) (kCode env 56 false inv k (cr (cr (cl (cr c56)))) (act 15 [(0, x0), (1, x1), (8, x8)]) h K) := (k_cond (by kernel_rfl)).trans (by kernel_rfl)
theorem r56_2 {β : Type} {inv : Inv} {k : Nat} {x0 x1 x8 : Value} {h : AH} {K : XE → Act → AH → Option β} : kCode env 56 false inv k (cl (cl (cr (cl (cr c56))))) (act 15 [(0, x0), (1, x1), (8, x8)]) h K =
    K .normal (act 15 [(4, (Go.Value.int Go.IntKind.i64 0))]) h := (k_reg (by kernel_rfl)).trans (by kernel_rfl)
theorem res56_0 {x4 : Value} {h : AH} : resOfFn env.P 56 .ret (act 15 [(4, x4)]) h = some (x4, h) := (resOfFn_k (by kernel_rfl) (by kernel_rfl)).trans (by kernel_rfl)
theorem r56_3 {β : Type} {inv : Inv} {k : Nat} {x0 x1 x8 : Value} {h : AH} {K : XE → Act → AH → Option β} : kCode env 56 false inv k (cl (cr (cr c56))) (act 15 [(0, x0), (1, x1), (8, x8)]) h K =
    bnd (pBin Try.prog Go.BinOp.mul 3 (Go.Operand.tmp 9) (Go.Operand.tmp 10) x0 x1) fun x11 =>
    bnd (pBin Try.prog Go.BinOp.add 3 (Go.Operand.tmp 11) (Go.Operand.const (Go.Value.int Go.IntKind.i64 8)) x11 (Go.Value.int Go.IntKind.i64 8)) fun x12 =>
    bnd (pBin Try.prog Go.BinOp.sub 3 (Go.Operand.tmp 12) (Go.Operand.const (Go.Value.int Go.IntKind.i64 1)) x12 (Go.Value.int Go.IntKind.i64 1)) fun x13 =>
    bnd (pBin Try.prog Go.BinOp.quo 3 (Go.Operand.tmp 13) (Go.Operand.const (Go.Value.int Go.IntKind.i64 8)) x13 (Go.Value.int Go.IntKind.i64 8)) fun x14 =>
    K .normal (act 15 [(4, x14)]) h := (k_reg (by kernel_rfl)).trans (by kernel_rfl)
/-- shadowbook/packs.Size -/
noncomputable def F56 (inv : Inv) (k : Nat) (x0 x1 : Value) (h : AH) : Option (Value × AH) :=
    bnd (inv (.func 55) #[] #[x0, x1] h) fun x7 =>
    bnd (pUn Try.prog Go.UnOp.not x7.1) fun x8 =>
    brV x8
    (some ((Go.Value.int Go.IntKind.i64 0), x7.2))
    (bnd (pBin Try.prog Go.BinOp.mul 3 (Go.Operand.tmp 9) (Go.Operand.tmp 10) x0 x1) fun x11 =>
    bnd (pBin Try.prog Go.BinOp.add 3 (Go.Operand.tmp 11) (Go.Operand.const (Go.Value.int Go.IntKind.i64 8)) x11 (Go.Value.int Go.IntKind.i64 8)) fun x12 =>
    bnd (pBin Try.prog Go.BinOp.sub 3 (Go.Operand.tmp 12) (Go.Operand.const (Go.Value.int Go.IntKind.i64 1)) x12 (Go.Value.int Go.IntKind.i64 1)) fun x13 =>
    bnd (pBin Try.prog Go.BinOp.quo 3 (Go.Operand.tmp 13) (Go.Operand.const (Go.Value.int Go.IntKind.i64 8)) x13 (Go.Value.int Go.IntKind.i64 8)) fun x14 =>
    some (x14, x7.2))
theorem F56_eq {inv : Inv} {k : Nat} {x0 x1 : Value} {h : AH} : eFun env k inv 56 #[x0, x1] h = F56 inv k x0 x1 h := by
      refine (eFun_k2 (by kernel_rfl) (by kernel_rfl) (by kernel_rfl) (a := act 15 [(0, x0), (1, x1)]) (c := c56) (by kernel_rfl) (by kernel_rfl)).trans ?_
      unfold F56
      simp only [k_seq (E := env) (f := 56) (c := c56) (by kernel_rfl), r56_0, k_seq (E := env) (f := 56) (c := (cr c56)) (by kernel_rfl), k_seq (E := env) (f := 56) (c := (cl (cr c56))) (by kernel_rfl), r56_1, b56_rlr, k_seq (E := env) (f := 56) (c := (cl (cr (cl (cr c56))))) (by kernel_rfl), r56_2, k_ret (E := env) (f := 56) (c := (cr (cl (cr (cl (cr c56)))))) (by kernel_rfl), res56_0, k_skip (E := env) (f := 56) (c := (cr (cr (cl (cr c56))))) (by kernel_rfl), k_seq (E := env) (f := 56) (c := (cr (cr c56))) (by kernel_rfl), r56_3, k_ret (E := env) (f := 56) (c := (cr (cr (cr c56)))) (by kernel_rfl), reduceIte, reduceCtorEq, XE.exit.injEq, Nat.reduceEqDiff] <;> kernel_rfl
noncomputable def c57 : Code := codeOf Try.prog 57
theorem r57_0 {β : Type} {inv : Inv} {k : Nat} {x0 x1 x2 x3 : Value} {h : AH} {K : XE → Act → AH → Option β} : kCode env 57 false inv k (cl c57) (act 18 [(0, x0), (1, x1), (2, x2), (3, x3)]) h K =
    bnd (pLoad Try.prog 5 x1 h) fun x5 =>
    bnd (pLoad Try.prog 3 x2 h) fun x7 =>
    bnd (pBin Try.prog Go.BinOp.shl 5 (Go.Operand.tmp 6) (Go.Operand.tmp 7) x0 x7) fun x8 =>
    bnd (pBin Try.prog Go.BinOp.or 5 (Go.Operand.tmp 5) (Go.Operand.tmp 8) x5 x8) fun x9 =>
    bnd (kSt (pStore Try.prog 5 x1 x9 h)) fun u =>
    K .normal (act 18 [(1, x1), (2, x2), (3, x3)]) u.2 := (k_draw (by kernel_rfl)).trans (by kernel_rfl)
theorem r57_1 {β : Type} {inv : Inv} {k : Nat} {x1 x2 x3 : Value} {h : AH} {K : XE → Act → AH → Option β} : kCode env 57 false inv k (cl (cr c57)) (act 18 [(1, x1), (2, x2), (3, x3)]) h K =
    bnd (pLoad Try.prog 3 x2 h) fun x10 =>
    bnd (pBin Try.prog Go.BinOp.add 3 (Go.Operand.tmp 10) (Go.Operand.const (Go.Value.int Go.IntKind.i64 1)) x10 (Go.Value.int Go.IntKind.i64 1)) fun x11 =>
    bnd (kSt (pStore Try.prog 3 x2 x11 h)) fun u =>
    K .normal (act 18 [(1, x1), (2, x2), (3, x3)]) u.2 := (k_reg (by kernel_rfl)).trans (by kernel_rfl)
theorem r57_2 {β : Type} {inv : Inv} {k : Nat} {x1 x2 x3 : Value} {h : AH} {K : XE → Act → AH → Option β} : kCode env 57 false inv k (cl (cr (cr c57))) (act 18 [(1, x1), (2, x2), (3, x3)]) h K =
    bnd (pLoad Try.prog 3 x2 h) fun x12 =>
    bnd (pBin Try.prog Go.BinOp.eql 3 (Go.Operand.tmp 12) (Go.Operand.const (Go.Value.int Go.IntKind.i64 8)) x12 (Go.Value.int Go.IntKind.i64 8)) fun x13 =>
    K .normal (act 18 [(1, x1), (2, x2), (3, x3), (13, x13)]) h := (k_reg (by kernel_rfl)).trans (by kernel_rfl)
theorem b57_rrr {β : Type} {inv : Inv} {k : Nat} {x1 x2 x3 x13 : Value} {h : AH} {K : XE → Act → AH → Option β} : kCode env 57 false inv k (cr (cr (cr c57))) (act 18 [(1, x1), (2, x2), (3, x3), (13, x13)]) h K = brV x13 (kCode env 57 false inv k (cl (cr (cr (cr c57)))) (act 18 [(1, x1), (2, x2), (3, x3), (13, x13)]) h K) (kCode env 57 false inv k (cr (cr (cr (cr c57)))) (act 18 [(1, x1), (2, x2), (3, x3), (13, x13)]) h K) := (k_cond (by kernel_rfl)).trans (by kernel_rfl)
theorem r57_3 {β : Type} {inv : Inv} {k : Nat} {x1 x2 x3 x13 : Value} {h : AH} {K : XE → Act → AH → Option β} : kCode env 57 false inv k (cl (cl (cr (cr (cr c57))))) (act 18 [(1, x1), (2, x2), (3, x3), (13, x13)]) h K =
    bnd (pLoad Try.prog 26 x3 h) fun x14 =>
    bnd (pLoad Try.prog 5 x1 h) fun x15 =>
    bnd (pBuildSlice Try.prog 26 1 #[(0, x15)] h) fun x16 =>
    bnd (pAppend Try.prog #[26, 26] x14 x16.1 x16.2) fun x17 =>
    bnd (kSt (pStore Try.prog 26 x3 x17.1 x17.2)) fun u =>
    K .normal (act 18 [(1, x1), (2, x2)]) u.2 := (k_reg (by kernel_rfl)).trans (by kernel_rfl)
theorem r57_4 {β : Type} {inv : Inv} {k : Nat} {x1 x2 : Value} {h : AH} {K : XE → Act → AH → Option β} : kCode env 57 false inv k (cr (cl (cr (cr (cr c57))))) (act 18 [(1, x1), (2, x2)]) h K =
    bnd (kSt (pStore Try.prog 5 x1 (Go.Value.int Go.IntKind.u8 0) h)) fun u =>
    bnd (kSt (pStore Try.prog 3 x2 (Go.Value.int Go.IntKind.i64 0) u.2)) fun u_3 =>
    K .normal (act 18 []) u_3.2 := (k_reg (by kernel_rfl)).trans (by kernel_rfl)
theorem res57_0 {h : AH} : resOfFn env.P 57 .normal (act 18 []) h = some (.tuple #[], h) := (resOfFn_k (by kernel_rfl) (by kernel_rfl)).trans (by kernel_rfl)
theorem res57_1 {x1 x2 x3 x13 : Value} {h : AH} : resOfFn env.P 57 .normal (act 18 [(1, x1), (2, x2), (3, x3), (13, x13)]) h = some (.tuple #[], h) := (resOfFn_k (by kernel_rfl) (by kernel_rfl)).trans (by kernel_rfl)
/-- shadowbook/packs.Put$1 -/
noncomputable def F57 (inv : Inv) (k : Nat) (x0 x1 x2 x3 : Value) (h : AH) : Option (Value × AH) :=
    bnd (pLoad Try.prog 5 x1 h) fun x5 =>
    bnd (pLoad Try.prog 3 x2 h) fun x7 =>
    bnd (pBin Try.prog Go.BinOp.shl 5 (Go.Operand.tmp 6) (Go.Operand.tmp 7) x0 x7) fun x8 =>
    bnd (pBin Try.prog Go.BinOp.or 5 (Go.Operand.tmp 5) (Go.Operand.tmp 8) x5 x8) fun x9 =>
    bnd (kSt (pStore Try.prog 5 x1 x9 h)) fun u =>
    bnd (pLoad Try.prog 3 x2 u.2) fun x10 =>
    bnd (pBin Try.prog Go.BinOp.add 3 (Go.Operand.tmp 10) (Go.Operand.const (Go.Value.int Go.IntKind.i64 1)) x10 (Go.Value.int Go.IntKind.i64 1)) fun x11 =>
    bnd (kSt (pStore Try.prog 3 x2 x11 u.2)) fun u_1 =>
    bnd (pLoad Try.prog 3 x2 u_1.2) fun x12 =>
    bnd (pBin Try.prog Go.BinOp.eql 3 (Go.Operand.tmp 12) (Go.Operand.const (Go.Value.int Go.IntKind.i64 8)) x12 (Go.Value.int Go.IntKind.i64 8)) fun x13 =>
    brV x13
    (bnd (pLoad Try.prog 26 x3 u_1.2) fun x14 =>
    bnd (pLoad Try.prog 5 x1 u_1.2) fun x15 =>
    bnd (pBuildSlice Try.prog 26 1 #[(0, x15)] u_1.2) fun x16 =>
    bnd (pAppend Try.prog #[26, 26] x14 x16.1 x16.2) fun x17 =>
    bnd (kSt (pStore Try.prog 26 x3 x17.1 x17.2)) fun u_2 =>
    bnd (kSt (pStore Try.prog 5 x1 (Go.Value.int Go.IntKind.u8 0) u_2.2)) fun u_4 =>
    bnd (kSt (pStore Try.prog 3 x2 (Go.Value.int Go.IntKind.i64 0) u_4.2)) fun u_5 =>
    some (.tuple #[], u_5.2))
    (some (.tuple #[], u_1.2))
theorem F57_eq {inv : Inv} {k : Nat} {x0 x1 x2 x3 : Value} {h : AH} : eFun env k inv 57 #[x0, x1, x2, x3] h = F57 inv k x0 x1 x2 x3 h := by
      refine (eFun_k2 (by kernel_rfl) (by kernel_rfl) (by kernel_rfl) (a := act 18 [(0, x0), (1, x1), (2, x2), (3, x3)]) (c := c57) (by kernel_rfl) (by kernel_rfl)).trans ?_
      unfold F57
      simp only [k_seq (E := env) (f := 57) (c := c57) (by kernel_rfl), r57_0, k_seq (E := env) (f := 57) (c := (cr c57)) (by kernel_rfl), r57_1, k_seq (E := env) (f := 57) (c := (cr (cr c57))) (by kernel_rfl), r57_2, b57_rrr, k_seq (E := env) (f := 57) (c := (cl (cr (cr (cr c57))))) (by kernel_rfl), r57_3, r57_4, res57_0, k_skip (E := env) (f := 57) (c := (cr (cr (cr (cr c57))))) (by kernel_rfl), res57_1, reduceIte, reduceCtorEq, XE.exit.injEq, Nat.reduceEqDiff] <;> kernel_rfl
noncomputable def c58 : Code := codeOf Try.prog 58
theorem r58_0 {β : Type} {inv : Inv} {k : Nat} {x0 : Value} {h : AH} {K : XE → Act → AH → Option β} : kCode env 58 false inv k (cl c58) (act 8 [(0, x0)]) h K =
    K .normal (act 8 [(0, x0)]) h := (k_reg (by kernel_rfl)).trans (by kernel_rfl)
theorem r58_1 {β : Type} {inv : Inv} {k : Nat} {x0 : Value} {h : AH} {K : XE → Act → AH → Option β} : kCode env 58 false inv k (cl (cl (cr c58))) (act 8 [(0, x0)]) h K =
    bnd (pBin Try.prog Go.BinOp.eql 26 (Go.Operand.tmp 3) (Go.Operand.const (Go.Value.slice none 0 0)) x0 (Go.Value.slice none 0 0)) fun x4 =>
    K .normal (act 8 [(0, x0), (4, x4)]) h := (k_reg (by kernel_rfl)).trans (by kernel_rfl)
theorem b58_rlr {β : Type} {inv : Inv} {k : Nat} {x0 x4 : Value} {h : AH} {K : XE → Act → AH → Option β} : kCode env 58 false inv k (cr (cl (cr c58))) (act 8 [(0, x0), (4, x4)]) h K = brV x4 (kCode env 58 false inv k (cl (cr (cl (cr c58)))) (act 8 [(0, x0), (4, x4)]) h K) (kCode env 58 false inv k (cr (cr (cl (cr c58)))) (act 8 [(0, x0), (4, x4)]) h K) := (k_cond (by kernel_rfl)).trans (by kernel_rfl)
theorem r58_2 {β : Type} {inv : Inv} {k : Nat} {x0 x4 : Value} {h : AH} {K : XE → Act → AH → Option β} : kCode env 58 false inv k (cl (cl (cr (cl (cr c58))))) (act 8 [(0, x0), (4, x4)]) h K =
    K .normal (act 8 [(2, (Go.Value.slice none 0 0))]) h := (k_reg (by kernel_rfl)).trans (by kernel_rfl)
theorem res58_0 {x2 : Value} {h : AH} : resOfFn env.P 58 .ret (act 8 [(2, x2)]) h = some (x2, h) := (resOfFn_k (by kernel_rfl) (by kernel_rfl)).trans (by kernel_rfl)
theorem r58_3 {β : Type} {inv : Inv} {k : Nat} {x0 x4 : Value} {h : AH} {K : XE → Act → AH → Option β} : kCode env 58 false inv k (cl (cr (cr c58))) (act 8 [(0, x0), (4, x4)]) h K =
    bnd (pBuildSlice Try.prog 26 0 #[] h) fun x5 =>
    bnd (pAppend Try.prog #[26, 26] x5.1 x0 x5.2) fun x7 =>
    K .normal (act 8 [(2, x7.1)]) x7.2 := (k_reg (by kernel_rfl)).trans (by kernel_rfl)
/-- slices.Clone[[]byte,byte] -/
noncomputable def F58 (inv : Inv) (k : Nat) (x0 : Value) (h : AH) : Option (Value × AH) :=
    bnd (pBin Try.prog Go.BinOp.eql 26 (Go.Operand.tmp 3) (Go.Operand.const (Go.Value.slice none 0 0)) x0 (Go.Value.slice none 0 0)) fun x4 =>
    brV x4
    (some ((Go.Value.slice none 0 0), h))
    (bnd (pBuildSlice Try.prog 26 0 #[] h) fun x5 =>
    bnd (pAppend Try.prog #[26, 26] x5.1 x0 x5.2) fun x7 =>
    some (x7.1, x7.2))
theorem F58_eq {inv : Inv} {k : Nat} {x0 : Value} {h : AH} : eFun env k inv 58 #[x0] h = F58 inv k x0 h := by
      refine (eFun_k2 (by kernel_rfl) (by kernel_rfl) (by kernel_rfl) (a := act 8 [(0, x0)]) (c := c58) (by kernel_rfl) (by kernel_rfl)).trans ?_
      unfold F58
      simp only [k_seq (E := env) (f := 58) (c := c58) (by kernel_rfl), r58_0, k_seq (E := env) (f := 58) (c := (cr c58)) (by kernel_rfl), k_seq (E := env) (f := 58) (c := (cl (cr c58))) (by kernel_rfl), r58_1, b58_rlr, k_seq (E := env) (f := 58) (c := (cl (cr (cl (cr c58))))) (by kernel_rfl), r58_2, k_ret (E := env) (f := 58) (c := (cr (cl (cr (cl (cr c58)))))) (by kernel_rfl), res58_0, k_skip (E := env) (f := 58) (c := (cr (cr (cl (cr c58))))) (by kernel_rfl), k_seq (E := env) (f := 58) (c := (cr (cr c58))) (by kernel_rfl), r58_3, k_ret (E := env) (f := 58) (c := (cr (cr (cr c58)))) (by kernel_rfl), reduceIte, reduceCtorEq, XE.exit.injEq, Nat.reduceEqDiff] <;> kernel_rfl
noncomputable def c59 : Code := codeOf Try.prog 59
theorem r59_0 {β : Type} {inv : Inv} {k : Nat} {x0 x1 : Value} {h : AH} {K : XE → Act → AH → Option β} : kCode env 59 false inv k (cl c59) (act 31 [(0, x0), (1, x1)]) h K =
    K .normal (act 31 [(0, x0), (1, x1)]) h := (k_reg (by kernel_rfl)).trans (by kernel_rfl)
theorem r59_1 {β : Type} {inv : Inv} {k : Nat} {x0 x1 : Value} {h : AH} {K : XE → Act → AH → Option β} : kCode env 59 false inv k (cl (cl (cr c59))) (act 31 [(0, x0), (1, x1)]) h K =
    bnd (pNilCheck x0) fun x8 =>
    bnd (pFieldAddr Try.prog 79 x8 0) fun x9 =>
    bnd (pLoad Try.prog 26 x9 h) fun x10 =>
    bnd (pLen Try.prog #[26] x10 h) fun x11 =>
    bnd (pBin Try.prog Go.BinOp.lss 3 (Go.Operand.tmp 11) (Go.Operand.tmp 12) x11 x1) fun x13 =>
    K .normal (act 31 [(0, x0), (1, x1), (13, x13)]) h := (k_reg (by kernel_rfl)).trans (by kernel_rfl)
theorem b59_rlr {β : Type} {inv : Inv} {k : Nat} {x0 x1 x13 : Value} {h : AH} {K : XE → Act → AH → Option β} : kCode env 59 false inv k (cr (cl (cr c59))) (act 31 [(0, x0), (1, x1), (13, x13)]) h K = brV x13 (kCode env 59 false inv k (cl (cr (cl (cr c59)))) (act 31 [(0, x0), (1, x1), (13, x13)]) h K) (kCode env 59 false inv k (cr (cr (cl (cr c59)))) (act 31 [(0, x0), (1, x1), (13, x13)]) h K) := (k_cond (by kernel_rfl)).trans (by kernel_rfl)
theorem r59_2 {β : Type} {inv : Inv} {k : Nat} {x0 x1 x13 : Value} {h : AH} {K : XE → Act → AH → Option β} : kCode env 59 false inv k (cl (cl (cr (cl (cr c59))))) (act 31 [(0, x0), (1, x1), (13, x13)]) h K =
    K .normal (act 31 [(4, (Go.Value.slice none 0 0)), (5, (Go.Value.int Go.IntKind.i64 7))]) h := (k_reg (by kernel_rfl)).trans (by kernel_rfl)
theorem res59_0 {x4 x5 : Value} {h : AH} : resOfFn env.P 59 .ret (act 31 [(4, x4), (5, x5)]) h = some (.tuple #[x4, x5], h) := (resOfFn_k (by kernel_rfl) (by kernel_rfl)).trans (by kernel_rfl)
theorem r59_3 {β : Type} {inv : Inv} {k : Nat} {x0 x1 x13 : Value} {h : AH} {K : XE → Act → AH → Option β} : kCode env 59 false inv k (cl (cr (cr c59))) (act 31 [(0, x0), (1, x1), (13, x13)]) h K =
    bnd (pNilCheck x0) fun x15 =>
    bnd (pFieldAddr Try.prog 79 x15 0) fun x16 =>
    bnd (pLoad Try.prog 26 x16 h) fun x17 =>
    bnd (pSlice Try.prog 26 x17 none (some x1) (some x1) h) fun x20 =>
    K .normal (act 31 [(0, x0), (1, x1), (6, x20)]) h := (k_reg (by kernel_rfl)).trans (by kernel_rfl)
theorem r59_4 {β : Type} {inv : Inv} {k : Nat} {x0 x1 x6 : Value} {h : AH} {K : XE → Act → AH → Option β} : kCode env 59 false inv k (cl (cr (cr (cr c59)))) (act 31 [(0, x0), (1, x1), (6, x6)]) h K =
    bnd (pNilCheck x0) fun x23 =>
    bnd (pFieldAddr Try.prog 79 x23 0) fun x24 =>
    bnd (pLoad Try.prog 26 x24 h) fun x25 =>
    bnd (pSlice Try.prog 26 x25 (some x1) none none h) fun x27 =>
    bnd (pNilCheck x0) fun x28 =>
    bnd (pFieldAddr Try.prog 79 x28 0) fun x29 =>
    bnd (kSt (pStore Try.prog 26 x29 x27 h)) fun u =>
    K .normal (act 31 [(6, x6)]) u.2 := (k_reg (by kernel_rfl)).trans (by kernel_rfl)
theorem r59_5 {β : Type} {inv : Inv} {k : Nat} {x6 : Value} {h : AH} {K : XE → Act → AH → Option β} : kCode env 59 false inv k (cl (cr (cr (cr (cr c59))))) (act 31 [(6, x6)]) h K =
    K .normal (act 31 [(4, x6), (5, (Go.Value.int Go.IntKind.i64 0))]) h := (k_reg (by kernel_rfl)).trans (by kernel_rfl)
/-- (*shadowbook/octet.Reader).take -/
noncomputable def F59 (inv : Inv) (k : Nat) (x0 x1 : Value) (h : AH) : Option (Value × AH) :=
    bnd (pNilCheck x0) fun x8 =>
    bnd (pFieldAddr Try.prog 79 x8 0) fun x9 =>
    bnd (pLoad Try.prog 26 x9 h) fun x10 =>
    bnd (pLen Try.prog #[26] x10 h) fun x11 =>
    bnd (pBin Try.prog Go.BinOp.lss 3 (Go.Operand.tmp 11) (Go.Operand.tmp 12) x11 x1) fun x13 =>
    brV x13
    (some (.tuple #[(Go.Value.slice none 0 0), (Go.Value.int Go.IntKind.i64 7)], h))
    (bnd (pNilCheck x0) fun x15 =>
    bnd (pFieldAddr Try.prog 79 x15 0) fun x16 =>
    bnd (pLoad Try.prog 26 x16 h) fun x17 =>
    bnd (pSlice Try.prog 26 x17 none (some x1) (some x1) h) fun x20 =>
    bnd (pNilCheck x0) fun x23 =>
    bnd (pFieldAddr Try.prog 79 x23 0) fun x24 =>
    bnd (pLoad Try.prog 26 x24 h) fun x25 =>
    bnd (pSlice Try.prog 26 x25 (some x1) none none h) fun x27 =>
    bnd (pNilCheck x0) fun x28 =>
    bnd (pFieldAddr Try.prog 79 x28 0) fun x29 =>
    bnd (kSt (pStore Try.prog 26 x29 x27 h)) fun u =>
    some (.tuple #[x20, (Go.Value.int Go.IntKind.i64 0)], u.2))
theorem F59_eq {inv : Inv} {k : Nat} {x0 x1 : Value} {h : AH} : eFun env k inv 59 #[x0, x1] h = F59 inv k x0 x1 h := by
      refine (eFun_k2 (by kernel_rfl) (by kernel_rfl) (by kernel_rfl) (a := act 31 [(0, x0), (1, x1)]) (c := c59) (by kernel_rfl) (by kernel_rfl)).trans ?_
      unfold F59
      simp only [k_seq (E := env) (f := 59) (c := c59) (by kernel_rfl), r59_0, k_seq (E := env) (f := 59) (c := (cr c59)) (by kernel_rfl), k_seq (E := env) (f := 59) (c := (cl (cr c59))) (by kernel_rfl), r59_1, b59_rlr, k_seq (E := env) (f := 59) (c := (cl (cr (cl (cr c59))))) (by kernel_rfl), r59_2, k_ret (E := env) (f := 59) (c := (cr (cl (cr (cl (cr c59)))))) (by kernel_rfl), res59_0, k_skip (E := env) (f := 59) (c := (cr (cr (cl (cr c59))))) (by kernel_rfl), k_seq (E := env) (f := 59) (c := (cr (cr c59))) (by kernel_rfl), r59_3, k_seq (E := env) (f := 59) (c := (cr (cr (cr c59)))) (by kernel_rfl), r59_4, k_seq (E := env) (f := 59) (c := (cr (cr (cr (cr c59))))) (by kernel_rfl), r59_5, k_ret (E := env) (f := 59) (c := (cr (cr (cr (cr (cr c59)))))) (by kernel_rfl), reduceIte, reduceCtorEq, XE.exit.injEq, Nat.reduceEqDiff] <;> kernel_rfl
noncomputable def c60 : Code := codeOf Try.prog 60
theorem r60_0 {β : Type} {inv : Inv} {k : Nat} {x0 : Value} {h : AH} {K : XE → Act → AH → Option β} : kCode env 60 false inv k (cl c60) (act 18 [(0, x0)]) h K =
    bnd (pAlloc Try.prog 51 h) fun x2 =>
    K .normal (act 18 [(0, x0), (2, x2.1)]) x2.2 := (k_reg (by kernel_rfl)).trans (by kernel_rfl)
theorem r60_1 {β : Type} {inv : Inv} {k : Nat} {x0 x2 : Value} {h : AH} {K : XE → Act → AH → Option β} : kCode env 60 false inv k (cl (cl (cr c60))) (act 18 [(0, x0), (2, x2)]) h K =
    bnd (pLen Try.prog #[26] x0 h) fun x6 =>
    bnd (pBin Try.prog Go.BinOp.gtr 3 (Go.Operand.tmp 6) (Go.Operand.const (Go.Value.int Go.IntKind.i64 8)) x6 (Go.Value.int Go.IntKind.i64 8)) fun x7 =>
    K .normal (act 18 [(0, x0), (2, x2), (7, x7)]) h := (k_reg (by kernel_rfl)).trans (by kernel_rfl)
theorem b60_rlr {β : Type} {inv : Inv} {k : Nat} {x0 x2 x7 : Value} {h : AH} {K : XE → Act → AH → Option β} : kCode env 60 false inv k (cr (cl (cr c60))) (act 18 [(0, x0), (2, x2), (7, x7)]) h K = brV x7 (kCode env 60 false inv k (cl (cr (cl (cr c60)))) (act 18 [(0, x0), (2, x2), (7, x7)]) h K) (kCode env 60 false inv k (cr (cr (cl (cr c60)))) (act 18 [(0, x0), (2, x2), (7, x7)]) h K) := (k_cond (by kernel_rfl)).trans (by kernel_rfl)
theorem r60_2 {β : Type} {inv : Inv} {k : Nat} {x0 x2 x7 : Value} {h : AH} {K : XE → Act → AH → Option β} : kCode env 60 false inv k (cl (cl (cr (cl (cr c60))))) (act 18 [(0, x0), (2, x2), (7, x7)]) h K =
    bnd (kSt (pStore Try.prog 51 x2 (Go.Value.int Go.IntKind.u64 0) h)) fun u =>
    K .normal (act 18 [(2, x2)]) u.2 := (k_reg (by kernel_rfl)).trans (by kernel_rfl)
theorem res60_0 {x2 : Value} {h : AH} : resOfFn env.P 60 .ret (act 18 [(2, x2)]) h = bnd (pLoad Try.prog 51 x2 h) fun q0 =>
    some (q0, h) := (resOfFn_k (by kernel_rfl) (by kernel_rfl)).trans (by kernel_rfl)
theorem r60_3 {β : Type} {inv : Inv} {k : Nat} {x0 x2 x7 : Value} {h : AH} {K : XE → Act → AH → Option β} : kCode env 60 false inv k (cl (cl (cr (cr c60)))) (act 18 [(0, x0), (2, x2), (7, x7)]) h K =
    bnd (inv (.func 70) #[] #[x0] h) fun x9 =>
    K .normal (act 18 [(2, x2), (9, x9.1)]) x9.2 := (k_reg (by kernel_rfl)).trans (by kernel_rfl)
theorem g60_lrlrr {β : Type} {inv : Inv} {k : Nat} {x2 x9 : Value} {h : AH} {K : XE → Act → AH → Option β} : kCode env 60 false inv k (cl (cr (cl (cr (cr c60))))) (act 18 [(2, x2), (9, x9)]) h K = kRange env 60 inv x9 (psOf (cl (cr (cl (cr (cr c60)))))) (cl (cl (cr (cl (cr (cr c60)))))) (cr (cl (cr (cl (cr (cr c60)))))) (act 18 [(2, x2), (9, x9)]) h fun e h => sw e (K .normal (act 18 [(2, x2), (9, x9)]) h) (none) [] := (k_range (g := x9) (ids := []) (by kernel_rfl) (by kernel_rfl) (by kernel_rfl)).trans (by kernel_rfl)
noncomputable def F60_rlrr {β : Type} (inv : Inv) (k : Nat) (x2 x9 : Value) (h : AH) (kn : (Value → Value → AH → Option β)) : Option β :=
    kRange env 60 inv x9 (psOf (cl (cr (cl (cr (cr c60)))))) (cl (cl (cr (cl (cr (cr c60)))))) (cr (cl (cr (cl (cr (cr c60)))))) (act 18 [(2, x2), (9, x9)]) h fun e h => sw e
    (kn x2 x9 h)
    none []
theorem F60_rlrr_eq {β : Type} {inv : Inv} {k : Nat} {x2 x9 : Value} {h : AH} {K : XE → Act → AH → Option β} : kCode env 60 false inv k (cr (cl (cr (cr c60)))) (act 18 [(2, x2), (9, x9)]) h K = F60_rlrr inv k x2 x9 h (fun y2 y9 h => K .normal (act 18 [(2, y2), (9, y9)]) h) := by
      unfold F60_rlrr
      simp only [k_block (E := env) (f := 60) (c := (cr (cl (cr (cr c60))))) (id := 0) (by kernel_rfl), g60_lrlrr, reduceIte, reduceCtorEq, XE.exit.injEq, Nat.reduceEqDiff] <;> kernel_rfl
theorem r60_6 {β : Type} {inv : Inv} {k : Nat} {x2 x9 : Value} {h : AH} {K : XE → Act → AH → Option β} : kCode env 60 false inv k (cl (cr (cr (cr c60)))) (act 18 [(2, x2), (9, x9)]) h K =
    bnd (pLoad Try.prog 51 x2 h) fun x17 =>
    bnd (kSt (pStore Try.prog 51 x2 x17 h)) fun u =>
    K .normal (act 18 [(2, x2)]) u.2 := (k_reg (by kernel_rfl)).trans (by kernel_rfl)
/-- shadowbook/octet.Of -/
noncomputable def F60 (inv : Inv) (k : Nat) (x0 : Value) (h : AH) : Option (Value × AH) :=
    bnd (pAlloc Try.prog 51 h) fun x2 =>
    bnd (pLen Try.prog #[26] x0 x2.2) fun x6 =>
    bnd (pBin Try.prog Go.BinOp.gtr 3 (Go.Operand.tmp 6) (Go.Operand.const (Go.Value.int Go.IntKind.i64 8)) x6 (Go.Value.int Go.IntKind.i64 8)) fun x7 =>
    brV x7
    (bnd (kSt (pStore Try.prog 51 x2.1 (Go.Value.int Go.IntKind.u64 0) x2.2)) fun u =>
    bnd (pLoad Try.prog 51 x2.1 u.2) fun q0 =>
    some (q0, u.2))
    (bnd (inv (.func 70) #[] #[x0] x2.2) fun x9 =>
    F60_rlrr inv k x2.1 x9.1 x9.2
    (fun y2 y9 h =>
    bnd (pLoad Try.prog 51 y2 h) fun x17 =>
    bnd (kSt (pStore Try.prog 51 y2 x17 h)) fun u_1 =>
    bnd (pLoad Try.prog 51 y2 u_1.2) fun q0 =>
    some (q0, u_1.2)))
theorem F60_eq {inv : Inv} {k : Nat} {x0 : Value} {h : AH} : eFun env k inv 60 #[x0] h = F60 inv k x0 h := by
      refine (eFun_k2 (by kernel_rfl) (by kernel_rfl) (by kernel_rfl) (a := act 18 [(0, x0)]) (c := c60) (by kernel_rfl) (by kernel_rfl)).trans ?_
      unfold F60
      simp only [k_seq (E := env) (f := 60) (c := c60) (by kernel_rfl), r60_0, k_seq (E := env) (f := 60) (c := (cr c60)) (by kernel_rfl), k_seq (E := env) (f := 60) (c := (cl (cr c60))) (by kernel_rfl), r60_1, b60_rlr, k_seq (E := env) (f := 60) (c := (cl (cr (cl (cr c60))))) (by kernel_rfl), r60_2, k_ret (E := env) (f := 60) (c := (cr (cl (cr (cl (cr c60)))))) (by kernel_rfl), res60_0, k_skip (E := env) (f := 60) (c := (cr (cr (cl (cr c60))))) (by kernel_rfl), k_seq (E := env) (f := 60) (c := (cr (cr c60))) (by kernel_rfl), k_seq (E := env) (f := 60) (c := (cl (cr (cr c60)))) (by kernel_rfl), r60_3, F60_rlrr_eq, k_seq (E := env) (f := 60) (c := (cr (cr (cr c60)))) (by kernel_rfl), r60_6, k_ret (E := env) (f := 60) (c := (cr (cr (cr (cr c60))))) (by kernel_rfl), reduceIte, reduceCtorEq, XE.exit.injEq, Nat.reduceEqDiff] <;> kernel_rfl
theorem r60_4 {β : Type} {inv : Inv} {k : Nat} {x2 x9 x10 x11 : Value} {h : AH} {K : XE → Act → AH → Option β} : kCode env 60 true inv k (cl (cl (cr (cl (cr (cr c60)))))) (act 18 [(2, x2), (9, x9), (10, x10), (11, x11)]) h K =
    K .normal (act 18 [(2, x2), (4, x11)]) h := (k_reg (by kernel_rfl)).trans (by kernel_rfl)
theorem r60_5 {β : Type} {inv : Inv} {k : Nat} {x2 x4 : Value} {h : AH} {K : XE → Act → AH → Option β} : kCode env 60 true inv k (cl (cr (cl (cr (cl (cr (cr c60))))))) (act 18 [(2, x2), (4, x4)]) h K =
    bnd (pLoad Try.prog 51 x2 h) fun x12 =>
    bnd (pBin Try.prog Go.BinOp.shl 51 (Go.Operand.tmp 12) (Go.Operand.const (Go.Value.int Go.IntKind.u64 8)) x12 (Go.Value.int Go.IntKind.u64 8)) fun x13 =>
    bnd (pConv Try.prog 5 51 x4 h) fun x15 =>
    bnd (pBin Try.prog Go.BinOp.or 51 (Go.Operand.tmp 13) (Go.Operand.tmp 15) x13 x15) fun x16 =>
    bnd (kSt (pStore Try.prog 51 x2 x16 h)) fun u =>
    K .normal (act 18 []) u.2 := (k_reg (by kernel_rfl)).trans (by kernel_rfl)
noncomputable def R60_lrlrr (inv : Inv) (k l : Nat) (x2 x9 z0 z1 : Value) (h : AH) : Option (Value × AH) :=
    rdBegin l h fun h =>
    bnd (pLoad Try.prog 51 x2 h) fun x12 =>
    bnd (pBin Try.prog Go.BinOp.shl 51 (Go.Operand.tmp 12) (Go.Operand.const (Go.Value.int Go.IntKind.u64 8)) x12 (Go.Value.int Go.IntKind.u64 8)) fun x13 =>
    bnd (pConv Try.prog 5 51 z1 h) fun x15 =>
    bnd (pBin Try.prog Go.BinOp.or 51 (Go.Operand.tmp 13) (Go.Operand.tmp 15) x13 x15) fun x16 =>
    bnd (kSt (pStore Try.prog 51 x2 x16 h)) fun u =>
    rdEnd l .normal u.2
theorem R60_lrlrr_eq {inv : Inv} {k l : Nat} {pd : Option Code} {x2 x9 z0 z1 : Value} {h : AH} (hl : h.get l = some (.loop .ready pd 60 (act 18 [(2, x2), (9, x9)]).tmps (psOf (cl (cr (cl (cr (cr c60)))))) (cl (cl (cr (cl (cr (cr c60)))))) (cr (cl (cr (cl (cr (cr c60)))))))) : eRound env k inv l #[z0, z1] h = R60_lrlrr inv k l x2 x9 z0 z1 h := by
      refine (eRound_k (a := act 18 [(2, x2), (9, x9), (10, z0), (11, z1)]) hl (by kernel_rfl) (by kernel_rfl)).trans ?_
      unfold R60_lrlrr
      simp only [r60_4, k_block (E := env) (f := 60) (c := (cr (cl (cr (cl (cr (cr c60))))))) (id := 1) (by kernel_rfl), r60_5, reduceIte, reduceCtorEq, XE.exit.injEq, Nat.reduceEqDiff] <;> kernel_rfl
noncomputable def c61 : Code := codeOf Try.prog 61
theorem r61_0 {β : Type} {inv : Inv} {k : Nat} {x0 : Value} {h : AH} {K : XE → Act → AH → Option β} : kCode env 61 false inv k (cl c61) (act 15 [(0, x0)]) h K =
    K .normal (act 15 [(0, x0)]) h := (k_reg (by kernel_rfl)).trans (by kernel_rfl)
theorem r61_1 {β : Type} {inv : Inv} {k : Nat} {x0 : Value} {h : AH} {K : XE → Act → AH → Option β} : kCode env 61 false inv k (cl (cl (cr c61))) (act 15 [(0, x0)]) h K =
    bnd (pNilCheck x0) fun x4 =>
    bnd (pFieldAddr Try.prog 79 x4 0) fun x5 =>
    bnd (pLoad Try.prog 26 x5 h) fun x6 =>
    bnd (pLen Try.prog #[26] x6 h) fun x7 =>
    bnd (pBin Try.prog Go.BinOp.geq 3 (Go.Operand.tmp 7) (Go.Operand.const (Go.Value.int Go.IntKind.i64 10)) x7 (Go.Value.int Go.IntKind.i64 10)) fun x8 =>
    K .normal (act 15 [(0, x0), (8, x8)]) h := (k_reg (by kernel_rfl)).trans (by kernel_rfl)
theorem b61_rlr {β : Type} {inv : Inv} {k : Nat} {x0 x8 : Value} {h : AH} {K : XE → Act → AH → Option β} : kCode env 61 false inv k (cr (cl (cr c61))) (act 15 [(0, x0), (8, x8)]) h K = brV x8 (kCode env 61 false inv k (cl (cr (cl (cr c61)))) (act 15 [(0, x0), (8, x8)]) h K) (kCode env 61 false inv k (cr (cr (cl (cr c61)))) (act 15 [(0, x0), (8, x8)]) h K) := (k_cond (by kernel_rfl)).trans (by kernel_rfl)
theorem r61_2 {β : Type} {inv : Inv} {k : Nat} {x0 x8 : Value} {h : AH} {K : XE → Act → AH → Option β} : kCode env 61 false inv k (cl (cl (cr (cl (cr c61))))) (act 15 [(0, x0), (8, x8)]) h K =
    K .normal (act 15 [(2, (Go.Value.bool false))]) h := (k_reg (by kernel_rfl)).trans (by kernel_rfl)
theorem res61_0 {x2 : Value} {h : AH} : resOfFn env.P 61 .ret (act 15 [(2, x2)]) h = some (x2, h) := (resOfFn_k (by kernel_rfl) (by kernel_rfl)).trans (by kernel_rfl)
theorem r61_3 {β : Type} {inv : Inv} {k : Nat} {x0 x8 : Value} {h : AH} {K : XE → Act → AH → Option β} : kCode env 61 false inv k (cl (cr (cr c61))) (act 15 [(0, x0), (8, x8)]) h K =
    bnd (pNilCheck x0) fun x10 =>
    bnd (pFieldAddr Try.prog 79 x10 0) fun x11 =>
    bnd (pLoad Try.prog 26 x11 h) fun x12 =>
    bnd (inv (.func 71) #[] #[x12, (.func (.func 72) #[] #[])] h) fun x13 =>
    bnd (pUn Try.prog Go.UnOp.not x13.1) fun x14 =>
    K .normal (act 15 [(2, x14)]) x13.2 := (k_reg (by kernel_rfl)).trans (by kernel_rfl)
/-- (*shadowbook/octet.Reader).ends -/
noncomputable def F61 (inv : Inv) (k : Nat) (x0 : Value) (h : AH) : Option (Value × AH) :=
    bnd (pNilCheck x0) fun x4 =>
    bnd (pFieldAddr Try.prog 79 x4 0) fun x5 =>
    bnd (pLoad Try.prog 26 x5 h) fun x6 =>
    bnd (pLen Try.prog #[26] x6 h) fun x7 =>
    bnd (pBin Try.prog Go.BinOp.geq 3 (Go.Operand.tmp 7) (Go.Operand.const (Go.Value.int Go.IntKind.i64 10)) x7 (Go.Value.int Go.IntKind.i64 10)) fun x8 =>
    brV x8
    (some ((Go.Value.bool false), h))
    (bnd (pNilCheck x0) fun x10 =>
    bnd (pFieldAddr Try.prog 79 x10 0) fun x11 =>
    bnd (pLoad Try.prog 26 x11 h) fun x12 =>
    bnd (inv (.func 71) #[] #[x12, (.func (.func 72) #[] #[])] h) fun x13 =>
    bnd (pUn Try.prog Go.UnOp.not x13.1) fun x14 =>
    some (x14, x13.2))
theorem F61_eq {inv : Inv} {k : Nat} {x0 : Value} {h : AH} : eFun env k inv 61 #[x0] h = F61 inv k x0 h := by
      refine (eFun_k2 (by kernel_rfl) (by kernel_rfl) (by kernel_rfl) (a := act 15 [(0, x0)]) (c := c61) (by kernel_rfl) (by kernel_rfl)).trans ?_
      unfold F61
      simp only [k_seq (E := env) (f := 61) (c := c61) (by kernel_rfl), r61_0, k_seq (E := env) (f := 61) (c := (cr c61)) (by kernel_rfl), k_seq (E := env) (f := 61) (c := (cl (cr c61))) (by kernel_rfl), r61_1, b61_rlr, k_seq (E := env) (f := 61) (c := (cl (cr (cl (cr c61))))) (by kernel_rfl), r61_2, k_ret (E := env) (f := 61) (c := (cr (cl (cr (cl (cr c61)))))) (by kernel_rfl), res61_0, k_skip (E := env) (f := 61) (c := (cr (cr (cl (cr c61))))) (by kernel_rfl), k_seq (E := env) (f := 61) (c := (cr (cr c61))) (by kernel_rfl), r61_3, k_ret (E := env) (f := 61) (c := (cr (cr (cr c61)))) (by kernel_rfl), reduceIte, reduceCtorEq, XE.exit.injEq, Nat.reduceEqDiff] <;> kernel_rfl
noncomputable def c66 : Code := codeOf Try.prog 66
theorem r66_0 {β : Type} {inv : Inv} {k : Nat} {x0 x1 : Value} {h : AH} {K : XE → Act → AH → Option β} : kCode env 66 false inv k (cl c66) (act 48 [(0, x0), (1, x1)]) h K =
    K .normal (act 48 [(0, x0), (1, x1)]) h := (k_reg (by kernel_rfl)).trans (by kernel_rfl)
theorem r66_1 {β : Type} {inv : Inv} {k : Nat} {x0 x1 : Value} {h : AH} {K : XE → Act → AH → Option β} : kCode env 66 false inv k (cl (cl (cr c66))) (act 48 [(0, x0), (1, x1)]) h K =
    bnd (pBin Try.prog Go.BinOp.lss 3 (Go.Operand.tmp 9) (Go.Operand.const (Go.Value.int Go.IntKind.i64 0)) x1 (Go.Value.int Go.IntKind.i64 0)) fun x10 =>
    K .normal (act 48 [(0, x0), (1, x1), (10, x10)]) h := (k_reg (by kernel_rfl)).trans (by kernel_rfl)
theorem b66_rlr {β : Type} {inv : Inv} {k : Nat} {x0 x1 x10 : Value} {h : AH} {K : XE → Act → AH → Option β} : kCode env 66 false inv k (cr (cl (cr c66))) (act 48 [(0, x0), (1, x1), (10, x10)]) h K = brV x10 (kCode env 66 false inv k (cl (cr (cl (cr c66)))) (act 48 [(0, x0), (1, x1), (10, x10)]) h K) (kCode env 66 false inv k (cr (cr (cl (cr c66)))) (act 48 [(0, x0), (1, x1), (10, x10)]) h K) := (k_cond (by kernel_rfl)).trans (by kernel_rfl)
theorem r66_2 {β : Type} {inv : Inv} {k : Nat} {x0 x1 x10 : Value} {h : AH} {K : XE → Act → AH → Option β} : kCode env 66 false inv k (cl (cr (cl (cr c66)))) (act 48 [(0, x0), (1, x1), (10, x10)]) h K =
    bnd (pMakeIface Try.prog 9 (Go.Value.string { data := #[99, 97, 110, 110, 111, 116, 32, 98, 101, 32, 110, 101, 103, 97, 116, 105, 118, 101] })) fun x11 =>
    bnd ((none : Option (Value × AH))) fun u =>
    K .normal (act 48 [(0, x0), (1, x1)]) u.2 := (k_reg (by kernel_rfl)).trans (by kernel_rfl)
noncomputable def F66_rlr {β : Type} (inv : Inv) (k : Nat) (x0 x1 x10 : Value) (h : AH) (kn : (Value → Value → Value → AH → Option β)) : Option β :=
    brV x10
    (bnd (pMakeIface Try.prog 9 (Go.Value.string { data := #[99, 97, 110, 110, 111, 116, 32, 98, 101, 32, 110, 101, 103, 97, 116, 105, 118, 101] })) fun x11 =>
    bnd ((none : Option (Value × AH))) fun u =>
    kn x0 x1 unk u.2)
    (kn x0 x1 x10 h)
theorem F66_rlr_eq {β : Type} {inv : Inv} {k : Nat} {x0 x1 x10 : Value} {h : AH} {K : XE → Act → AH → Option β} : kCode env 66 false inv k (cr (cl (cr c66))) (act 48 [(0, x0), (1, x1), (10, x10)]) h K = F66_rlr inv k x0 x1 x10 h (fun y0 y1 y10 h => K .normal (act 48 [(0, y0), (1, y1), (10, y10)]) h) := by
      unfold F66_rlr
      simp only [b66_rlr, r66_2, k_skip (E := env) (f := 66) (c := (cr (cr (cl (cr c66))))) (by kernel_rfl), reduceIte, reduceCtorEq, XE.exit.injEq, Nat.reduceEqDiff] <;> kernel_rfl
theorem r66_3 {β : Type} {inv : Inv} {k : Nat} {x0 x1 x10 : Value} {h : AH} {K : XE → Act → AH → Option β} : kCode env 66 false inv k (cl (cr (cr c66))) (act 48 [(0, x0), (1, x1), (10, x10)]) h K =
    bnd (pLen Try.prog #[25] x0 h) fun x14 =>
    bnd (pConv Try.prog 3 76 x14 h) fun x15 =>
    bnd (pConv Try.prog 3 76 x1 h) fun x17 =>
    bnd (inv (.func 73) #[] #[x15, x17] h) fun x18 =>
    bnd (pExtract x18.1 0) fun x19 =>
    bnd (pExtract x18.1 1) fun x20 =>
    K .normal (act 48 [(0, x0), (5, x19), (6, x20)]) x18.2 := (k_reg (by kernel_rfl)).trans (by kernel_rfl)
theorem r66_4 {β : Type} {inv : Inv} {k : Nat} {x0 x5 x6 : Value} {h : AH} {K : XE → Act → AH → Option β} : kCode env 66 false inv k (cl (cl (cr (cr (cr c66))))) (act 48 [(0, x0), (5, x5), (6, x6)]) h K =
    bnd (pBin Try.prog Go.BinOp.gtr 76 (Go.Operand.tmp 21) (Go.Operand.const (Go.Value.int Go.IntKind.u64 0)) x5 (Go.Value.int Go.IntKind.u64 0)) fun x22 =>
    bnd (gd (some x22) false h (some (x6, h))) fun x24 =>
    bnd (gd (some x22) false x24.2 (lt (pBin Try.prog Go.BinOp.gtr 76 (Go.Operand.tmp 24) (Go.Operand.const (Go.Value.int Go.IntKind.u64 9223372036854775807)) x24.1 (Go.Value.int Go.IntKind.u64 9223372036854775807)) x24.2)) fun x25 =>
    bnd (pickV x22 (Go.Value.bool true) x25.1) fun x26 =>
    K .normal (act 48 [(0, x0), (6, x6), (26, x26)]) x25.2 := (k_reg (by kernel_rfl)).trans (by kernel_rfl)
theorem b66_rlrrr {β : Type} {inv : Inv} {k : Nat} {x0 x6 x26 : Value} {h : AH} {K : XE → Act → AH → Option β} : kCode env 66 false inv k (cr (cl (cr (cr (cr c66))))) (act 48 [(0, x0), (6, x6), (26, x26)]) h K = brV x26 (kCode env 66 false inv k (cl (cr (cl (cr (cr (cr c66)))))) (act 48 [(0, x0), (6, x6), (26, x26)]) h K) (kCode env 66 false inv k (cr (cr (cl (cr (cr (cr c66)))))) (act 48 [(0, x0), (6, x6), (26, x26)]) h K) := (k_cond (by kernel_rfl)).trans (by kernel_rfl)
theorem r66_5 {β : Type} {inv : Inv} {k : Nat} {x0 x6 x26 : Value} {h : AH} {K : XE → Act → AH → Option β} : kCode env 66 false inv k (cl (cr (cl (cr (cr (cr c66)))))) (act 48 [(0, x0), (6, x6), (26, x26)]) h K =
    bnd (pMakeIface Try.prog 9 (Go.Value.string { data := #[116, 104, 101, 32, 114, 101, 115, 117, 108, 116, 32, 111, 102, 32, 40, 108, 101, 110, 40, 120, 41, 32, 42, 32, 99, 111, 117, 110, 116, 41, 32, 111, 118, 101, 114, 102, 108, 111, 119, 115] })) fun x27 =>
    bnd ((none : Option (Value × AH))) fun u =>
    K .normal (act 48 [(0, x0), (6, x6)]) u.2 := (k_reg (by kernel_rfl)).trans (by kernel_rfl)
noncomputable def F66_rlrrr {β : Type} (inv : Inv) (k : Nat) (x0 x6 x26 : Value) (h : AH) (kn : (Value → Value → Value → AH → Option β)) : Option β :=
    brV x26
    (bnd (pMakeIface Try.prog 9 (Go.Value.string { data := #[116, 104, 101, 32, 114, 101, 115, 117, 108, 116, 32, 111, 102, 32, 40, 108, 101, 110, 40, 120, 41, 32, 42, 32, 99, 111, 117, 110, 116, 41, 32, 111, 118, 101, 114, 102, 108, 111, 119, 115] })) fun x27 =>
    bnd ((none : Option (Value × AH))) fun u =>
    kn x0 x6 unk u.2)
    (kn x0 x6 x26 h)
theorem F66_rlrrr_eq {β : Type} {inv : Inv} {k : Nat} {x0 x6 x26 : Value} {h : AH} {K : XE → Act → AH → Option β} : kCode env 66 false inv k (cr (cl (cr (cr (cr c66))))) (act 48 [(0, x0), (6, x6), (26, x26)]) h K = F66_rlrrr inv k x0 x6 x26 h (fun y0 y6 y26 h => K .normal (act 48 [(0, y0), (6, y6), (26, y26)]) h) := by
      unfold F66_rlrrr
      simp only [b66_rlrrr, r66_5, k_skip (E := env) (f := 66) (c := (cr (cr (cl (cr (cr (cr c66))))))) (by kernel_rfl), reduceIte, reduceCtorEq, XE.exit.injEq, Nat.reduceEqDiff] <;> kernel_rfl
theorem r66_6 {β : Type} {inv : Inv} {k : Nat} {x0 x6 x26 : Value} {h : AH} {K : XE → Act → AH → Option β} : kCode env 66 false inv k (cl (cr (cr (cr (cr c66))))) (act 48 [(0, x0), (6, x6), (26, x26)]) h K =
    bnd (pConv Try.prog 76 3 x6 h) fun x29 =>
    bnd (pMakeSlice Try.prog 25 x29 x29 h) fun x30 =>
    K .normal (act 48 [(0, x0), (7, x30.1)]) x30.2 := (k_reg (by kernel_rfl)).trans (by kernel_rfl)
theorem r66_7 {β : Type} {inv : Inv} {k : Nat} {x0 x7 : Value} {h : AH} {K : XE → Act → AH → Option β} : kCode env 66 false inv k (cl (cr (cr (cr (cr (cr c66)))))) (act 48 [(0, x0), (7, x7)]) h K =
    bnd (pCopy Try.prog #[25, 25] x7 x0 h) fun x33 =>
    K .normal (act 48 [(7, x7), (8, x33.1)]) x33.2 := (k_reg (by kernel_rfl)).trans (by kernel_rfl)
theorem r66_8 {β : Type} {inv : Inv} {k : Nat} {x7 x8 : Value} {h : AH} {K : XE → Act → AH → Option β} : kCode env 66 false inv k (cl (cl (cl (cl (cl (cr (cr (cr (cr (cr (cr c66))))))))))) (act 48 [(7, x7), (8, x8)]) h K =
    bnd (pLen Try.prog #[25] x7 h) fun x36 =>
    bnd (pBin Try.prog Go.BinOp.lss 3 (Go.Operand.tmp 34) (Go.Operand.tmp 36) x8 x36) fun x37 =>
    K .normal (act 48 [(7, x7), (8, x8), (37, x37)]) h := (k_reg (by kernel_rfl)).trans (by kernel_rfl)
theorem b66_rllllrrrrrr {β : Type} {inv : Inv} {k : Nat} {x7 x8 x37 : Value} {h : AH} {K : XE → Act → AH → Option β} : kCode env 66 false inv k (cr (cl (cl (cl (cl (cr (cr (cr (cr (cr (cr c66))))))))))) (act 48 [(7, x7), (8, x8), (37, x37)]) h K = brV x37 (kCode env 66 false inv k (cl (cr (cl (cl (cl (cl (cr (cr (cr (cr (cr (cr c66)))))))))))) (act 48 [(7, x7), (8, x8), (37, x37)]) h K) (kCode env 66 false inv k (cr (cr (cl (cl (cl (cl (cr (cr (cr (cr (cr (cr c66)))))))))))) (act 48 [(7, x7), (8, x8), (37, x37)]) h K) := (k_cond (by kernel_rfl)).trans (by kernel_rfl)
theorem r66_9 {β : Type} {inv : Inv} {k : Nat} {x7 x8 x37 : Value} {h : AH} {K : XE → Act → AH → Option β} : kCode env 66 false inv k (cl (cr (cl (cl (cl (cr (cr (cr (cr (cr (cr c66))))))))))) (act 48 [(7, x7), (8, x8), (37, x37)]) h K =
    bnd (pSlice Try.prog 25 x7 (some x8) none none h) fun x41 =>
    bnd (pSlice Try.prog 25 x7 none (some x8) none h) fun x44 =>
    bnd (pCopy Try.prog #[25, 25] x41 x44 h) fun x45 =>
    bnd (pBin Try.prog Go.BinOp.add 3 (Go.Operand.tmp 38) (Go.Operand.tmp 45) x8 x45.1) fun x46 =>
    K .normal (act 48 [(7, x7), (8, x46)]) x45.2 := (k_draw (by kernel_rfl)).trans (by kernel_rfl)
noncomputable def F66_llrrrrrr {β : Type} (inv : Inv) (k : Nat) : Nat → Value → Value → AH → (Value → Value → Value → AH → Option β) → Option β
  | 0, _, _, _, _ => none
  | j + 1, x7, x8, h, ke0 =>
    bnd (pLen Try.prog #[25] x7 h) fun x36 =>
    bnd (pBin Try.prog Go.BinOp.lss 3 (Go.Operand.tmp 34) (Go.Operand.tmp 36) x8 x36) fun x37 =>
    brV x37
    (bnd (pSlice Try.prog 25 x7 (some x8) none none h) fun x41 =>
    bnd (pSlice Try.prog 25 x7 none (some x8) none h) fun x44 =>
    bnd (pCopy Try.prog #[25, 25] x41 x44 h) fun x45 =>
    bnd (pBin Try.prog Go.BinOp.add 3 (Go.Operand.tmp 38) (Go.Operand.tmp 45) x8 x45.1) fun x46 =>
    F66_llrrrrrr inv k j x7 x46 x45.2 ke0)
    (ke0 x7 x8 x37 h)
theorem F66_llrrrrrr_j {β : Type} {inv : Inv} {k : Nat} (j : Nat) {x7 x8 : Value} {h : AH} {K : XE → Act → AH → Option β} : kLoop (kCode env 66 false inv k (cl (cl (cl (cr (cr (cr (cr (cr (cr c66)))))))))) j (act 48 [(7, x7), (8, x8)]) h K = F66_llrrrrrr inv k j x7 x8 h (fun y7 y8 y37 h => K (.exit 0) (act 48 [(7, y7), (8, y8), (37, y37)]) h) := by
      induction j generalizing x7 x8 h with
      | zero => rfl
      | succ j ih =>
        unfold F66_llrrrrrr
        simp only [kLoop, k_seq (E := env) (f := 66) (c := (cl (cl (cl (cr (cr (cr (cr (cr (cr c66)))))))))) (by kernel_rfl), k_seq (E := env) (f := 66) (c := (cl (cl (cl (cl (cr (cr (cr (cr (cr (cr c66))))))))))) (by kernel_rfl), r66_8, b66_rllllrrrrrr, k_skip (E := env) (f := 66) (c := (cl (cr (cl (cl (cl (cl (cr (cr (cr (cr (cr (cr c66))))))))))))) (by kernel_rfl), k_block (E := env) (f := 66) (c := (cr (cl (cl (cl (cr (cr (cr (cr (cr (cr c66))))))))))) (id := 1) (by kernel_rfl), r66_9, k_exit (E := env) (f := 66) (c := (cr (cr (cl (cl (cl (cl (cr (cr (cr (cr (cr (cr c66))))))))))))) (id := 0) (by kernel_rfl), ih, reduceIte, reduceCtorEq, XE.exit.injEq, Nat.reduceEqDiff] <;> kernel_rfl
theorem F66_llrrrrrr_eq {β : Type} {inv : Inv} {k : Nat} {x7 x8 : Value} {h : AH} {K : XE → Act → AH → Option β} : kCode env 66 false inv k (cl (cl (cr (cr (cr (cr (cr (cr c66)))))))) (act 48 [(7, x7), (8, x8)]) h K = F66_llrrrrrr inv k k x7 x8 h (fun y7 y8 y37 h => K (.exit 0) (act 48 [(7, y7), (8, y8), (37, y37)]) h) := (k_loop (by kernel_rfl)).trans (F66_llrrrrrr_j k)
theorem r66_10 {β : Type} {inv : Inv} {k : Nat} {x7 x8 x37 : Value} {h : AH} {K : XE → Act → AH → Option β} : kCode env 66 false inv k (cl (cr (cr (cr (cr (cr (cr (cr c66)))))))) (act 48 [(7, x7), (8, x8), (37, x37)]) h K =
    K .normal (act 48 [(4, x7)]) h := (k_reg (by kernel_rfl)).trans (by kernel_rfl)
theorem res66_0 {x4 : Value} {h : AH} : resOfFn env.P 66 .ret (act 48 [(4, x4)]) h = some (x4, h) := (resOfFn_k (by kernel_rfl) (by kernel_rfl)).trans (by kernel_rfl)
/-- slices.Repeat[[]int64,int64] -/
noncomputable def F66 (inv : Inv) (k : Nat) (x0 x1 : Value) (h : AH) : Option (Value × AH) :=
    bnd (pBin Try.prog Go.BinOp.lss 3 (Go.Operand.tmp 9) (Go.Operand.const (Go.Value.int Go.IntKind.i64 0)) x1 (Go.Value.int Go.IntKind.i64 0)) fun x10 =>
    F66_rlr inv k x0 x1 x10 h
    (fun y0 y1 y10 h =>
    bnd (pLen Try.prog #[25] y0 h) fun x14 =>
    bnd (pConv Try.prog 3 76 x14 h) fun x15 =>
    bnd (pConv Try.prog 3 76 y1 h) fun x17 =>
    bnd (inv (.func 73) #[] #[x15, x17] h) fun x18 =>
    bnd (pExtract x18.1 0) fun x19 =>
    bnd (pExtract x18.1 1) fun x20 =>
    bnd (pBin Try.prog Go.BinOp.gtr 76 (Go.Operand.tmp 21) (Go.Operand.const (Go.Value.int Go.IntKind.u64 0)) x19 (Go.Value.int Go.IntKind.u64 0)) fun x22 =>
    bnd (gd (some x22) false x18.2 (some (x20, x18.2))) fun x24 =>
    bnd (gd (some x22) false x24.2 (lt (pBin Try.prog Go.BinOp.gtr 76 (Go.Operand.tmp 24) (Go.Operand.const (Go.Value.int Go.IntKind.u64 9223372036854775807)) x24.1 (Go.Value.int Go.IntKind.u64 9223372036854775807)) x24.2)) fun x25 =>
    bnd (pickV x22 (Go.Value.bool true) x25.1) fun x26 =>
    F66_rlrrr inv k y0 x20 x26 x25.2
    (fun y0_1 y6 y26 h_2 =>
    bnd (pConv Try.prog 76 3 y6 h_2) fun x29 =>
    bnd (pMakeSlice Try.prog 25 x29 x29 h_2) fun x30 =>
    bnd (pCopy Try.prog #[25, 25] x30.1 y0_1 x30.2) fun x33 =>
    F66_llrrrrrr inv k k x30.1 x33.1 x33.2
    (fun y7 y8 y37 h_3 =>
    some (y7, h_3))))
theorem F66_eq {inv : Inv} {k : Nat} {x0 x1 : Value} {h : AH} : eFun env k inv 66 #[x0, x1] h = F66 inv k x0 x1 h := by
      refine (eFun_k2 (by kernel_rfl) (by kernel_rfl) (by kernel_rfl) (a := act 48 [(0, x0), (1, x1)]) (c := c66) (by kernel_rfl) (by kernel_rfl)).trans ?_
      unfold F66
      simp only [k_seq (E := env) (f := 66) (c := c66) (by kernel_rfl), r66_0, k_seq (E := env) (f := 66) (c := (cr c66)) (by kernel_rfl), k_seq (E := env) (f := 66) (c := (cl (cr c66))) (by kernel_rfl), r66_1, F66_rlr_eq, k_seq (E := env) (f := 66) (c := (cr (cr c66))) (by kernel_rfl), r66_3, k_seq (E := env) (f := 66) (c := (cr (cr (cr c66)))) (by kernel_rfl), k_seq (E := env) (f := 66) (c := (cl (cr (cr (cr c66))))) (by kernel_rfl), r66_4, F66_rlrrr_eq, k_seq (E := env) (f := 66) (c := (cr (cr (cr (cr c66))))) (by kernel_rfl), r66_6, k_seq (E := env) (f := 66) (c := (cr (cr (cr (cr (cr c66)))))) (by kernel_rfl), r66_7, k_seq (E := env) (f := 66) (c := (cr (cr (cr (cr (cr (cr c66))))))) (by kernel_rfl), k_block (E := env) (f := 66) (c := (cl (cr (cr (cr (cr (cr (cr c66)))))))) (id := 0) (by kernel_rfl), F66_llrrrrrr_eq, k_seq (E := env) (f := 66) (c := (cr (cr (cr (cr (cr (cr (cr c66)))))))) (by kernel_rfl), r66_10, k_ret (E := env) (f := 66) (c := (cr (cr (cr (cr (cr (cr (cr (cr c66))))))))) (by kernel_rfl), res66_0, reduceIte, reduceCtorEq, XE.exit.injEq, Nat.reduceEqDiff] <;> kernel_rfl
noncomputable def c67 : Code := codeOf Try.prog 67
theorem r67_0 {β : Type} {inv : Inv} {k : Nat} {x0 x1 : Value} {h : AH} {K : XE → Act → AH → Option β} : kCode env 67 false inv k (cl c67) (act 23 [(0, x0), (1, x1)]) h K =
    K .normal (act 23 [(0, x0), (1, x1)]) h := (k_reg (by kernel_rfl)).trans (by kernel_rfl)
theorem r67_1 {β : Type} {inv : Inv} {k : Nat} {x0 x1 : Value} {h : AH} {K : XE → Act → AH → Option β} : kCode env 67 false inv k (cl (cl (cl (cr c67)))) (act 23 [(0, x0), (1, x1)]) h K =
    bnd (pBin Try.prog Go.BinOp.eql 57 (Go.Operand.tmp 9) (Go.Operand.const (Go.Value.pointer none)) x0 (Go.Value.pointer none)) fun x10 =>
    K .normal (act 23 [(0, x0), (1, x1), (8, x10)]) h := (k_reg (by kernel_rfl)).trans (by kernel_rfl)
theorem b67_rllr {β : Type} {inv : Inv} {k : Nat} {x0 x1 x8 : Value} {h : AH} {K : XE → Act → AH → Option β} : kCode env 67 false inv k (cr (cl (cl (cr c67)))) (act 23 [(0, x0), (1, x1), (8, x8)]) h K = brV x8 (kCode env 67 false inv k (cl (cr (cl (cl (cr c67))))) (act 23 [(0, x0), (1, x1), (8, x8)]) h K) (kCode env 67 false inv k (cr (cr (cl (cl (cr c67))))) (act 23 [(0, x0), (1, x1), (8, x8)]) h K) := (k_cond (by kernel_rfl)).trans (by kernel_rfl)
theorem r67_2 {β : Type} {inv : Inv} {k : Nat} {x0 x1 x8 : Value} {h : AH} {K : XE → Act → AH → Option β} : kCode env 67 false inv k (cl (cl (cr (cl (cl (cr c67)))))) (act 23 [(0, x0), (1, x1), (8, x8)]) h K =
    K .normal (act 23 [(4, (Go.Value.slice none 0 0)), (5, (Go.Value.int Go.IntKind.i64 1))]) h := (k_reg (by kernel_rfl)).trans (by kernel_rfl)
theorem res67_0 {x4 x5 : Value} {h : AH} : resOfFn env.P 67 .ret (act 23 [(4, x4), (5, x5)]) h = some (.tuple #[x4, x5], h) := (resOfFn_k (by kernel_rfl) (by kernel_rfl)).trans (by kernel_rfl)
theorem r67_3 {β : Type} {inv : Inv} {k : Nat} {x0 x1 x8 : Value} {h : AH} {K : XE → Act → AH → Option β} : kCode env 67 false inv k (cl (cr (cr (cl (cl (cr c67)))))) (act 23 [(0, x0), (1, x1), (8, x8)]) h K =
    bnd (pBin Try.prog Go.BinOp.lss 3 (Go.Operand.tmp 12) (Go.Operand.const (Go.Value.int Go.IntKind.i64 0)) x1 (Go.Value.int Go.IntKind.i64 0)) fun x13 =>
    K .normal (act 23 [(0, x0), (1, x1), (11, x13)]) h := (k_reg (by kernel_rfl)).trans (by kernel_rfl)
theorem b67_rrrllr {β : Type} {inv : Inv} {k : Nat} {x0 x1 x11 : Value} {h : AH} {K : XE → Act → AH → Option β} : kCode env 67 false inv k (cr (cr (cr (cl (cl (cr c67)))))) (act 23 [(0, x0), (1, x1), (11, x11)]) h K = brV x11 (kCode env 67 false inv k (cl (cr (cr (cr (cl (cl (cr c67))))))) (act 23 [(0, x0), (1, x1), (11, x11)]) h K) (kCode env 67 false inv k (cr (cr (cr (cr (cl (cl (cr c67))))))) (act 23 [(0, x0), (1, x1), (11, x11)]) h K) := (k_cond (by kernel_rfl)).trans (by kernel_rfl)
theorem r67_4 {β : Type} {inv : Inv} {k : Nat} {x0 x1 x11 : Value} {h : AH} {K : XE → Act → AH → Option β} : kCode env 67 false inv k (cl (cl (cr (cr (cr (cl (cl (cr c67)))))))) (act 23 [(0, x0), (1, x1), (11, x11)]) h K =
    K .normal (act 23 [(4, (Go.Value.slice none 0 0)), (5, (Go.Value.int Go.IntKind.i64 2))]) h := (k_reg (by kernel_rfl)).trans (by kernel_rfl)
theorem r67_5 {β : Type} {inv : Inv} {k : Nat} {x0 x1 x11 : Value} {h : AH} {K : XE → Act → AH → Option β} : kCode env 67 false inv k (cl (cr (cr c67))) (act 23 [(0, x0), (1, x1), (11, x11)]) h K =
    bnd (inv (.func 59) #[] #[x0, x1] h) fun x17 =>
    bnd (pExtract x17.1 0) fun x18 =>
    bnd (pExtract x17.1 1) fun x19 =>
    K .normal (act 23 [(6, x18), (7, x19)]) x17.2 := (k_reg (by kernel_rfl)).trans (by kernel_rfl)
theorem r67_6 {β : Type} {inv : Inv} {k : Nat} {x6 x7 : Value} {h : AH} {K : XE → Act → AH → Option β} : kCode env 67 false inv k (cl (cr (cr (cr c67)))) (act 23 [(6, x6), (7, x7)]) h K =
    bnd (inv (.func 58) #[] #[x6] h) fun x21 =>
    K .normal (act 23 [(4, x21.1), (5, x7)]) x21.2 := (k_reg (by kernel_rfl)).trans (by kernel_rfl)
/-- (*shadowbook/octet.Reader).Bytes -/
noncomputable def F67 (inv : Inv) (k : Nat) (x0 x1 : Value) (h : AH) : Option (Value × AH) :=
    bnd (pBin Try.prog Go.BinOp.eql 57 (Go.Operand.tmp 9) (Go.Operand.const (Go.Value.pointer none)) x0 (Go.Value.pointer none)) fun x10 =>
    brV x10
    (some (.tuple #[(Go.Value.slice none 0 0), (Go.Value.int Go.IntKind.i64 1)], h))
    (bnd (pBin Try.prog Go.BinOp.lss 3 (Go.Operand.tmp 12) (Go.Operand.const (Go.Value.int Go.IntKind.i64 0)) x1 (Go.Value.int Go.IntKind.i64 0)) fun x13 =>
    brV x13
    (some (.tuple #[(Go.Value.slice none 0 0), (Go.Value.int Go.IntKind.i64 2)], h))
    (bnd (inv (.func 59) #[] #[x0, x1] h) fun x17 =>
    bnd (pExtract x17.1 0) fun x18 =>
    bnd (pExtract x17.1 1) fun x19 =>
    bnd (inv (.func 58) #[] #[x18] x17.2) fun x21 =>
    some (.tuple #[x21.1, x19], x21.2)))
theorem F67_eq {inv : Inv} {k : Nat} {x0 x1 : Value} {h : AH} : eFun env k inv 67 #[x0, x1] h = F67 inv k x0 x1 h := by
      refine (eFun_k2 (by kernel_rfl) (by kernel_rfl) (by kernel_rfl) (a := act 23 [(0, x0), (1, x1)]) (c := c67) (by kernel_rfl) (by kernel_rfl)).trans ?_
      unfold F67
      simp only [k_seq (E := env) (f := 67) (c := c67) (by kernel_rfl), r67_0, k_seq (E := env) (f := 67) (c := (cr c67)) (by kernel_rfl), k_block (E := env) (f := 67) (c := (cl (cr c67))) (id := 0) (by kernel_rfl), k_seq (E := env) (f := 67) (c := (cl (cl (cr c67)))) (by kernel_rfl), r67_1, b67_rllr, k_seq (E := env) (f := 67) (c := (cl (cr (cl (cl (cr c67)))))) (by kernel_rfl), r67_2, k_ret (E := env) (f := 67) (c := (cr (cl (cr (cl (cl (cr c67))))))) (by kernel_rfl), res67_0, k_seq (E := env) (f := 67) (c := (cr (cr (cl (cl (cr c67)))))) (by kernel_rfl), r67_3, b67_rrrllr, k_seq (E := env) (f := 67) (c := (cl (cr (cr (cr (cl (cl (cr c67)))))))) (by kernel_rfl), r67_4, k_ret (E := env) (f := 67) (c := (cr (cl (cr (cr (cr (cl (cl (cr c67))))))))) (by kernel_rfl), k_skip (E := env) (f := 67) (c := (cr (cr (cr (cr (cl (cl (cr c67)))))))) (by kernel_rfl), k_seq (E := env) (f := 67) (c := (cr (cr c67))) (by kernel_rfl), r67_5, k_seq (E := env) (f := 67) (c := (cr (cr (cr c67)))) (by kernel_rfl), r67_6, k_ret (E := env) (f := 67) (c := (cr (cr (cr (cr c67))))) (by kernel_rfl), reduceIte, reduceCtorEq, XE.exit.injEq, Nat.reduceEqDiff] <;> kernel_rfl
noncomputable def c68 : Code := codeOf Try.prog 68
theorem r68_0 {β : Type} {inv : Inv} {k : Nat} {x0 : Value} {h : AH} {K : XE → Act → AH → Option β} : kCode env 68 false inv k (cl c68) (act 10 [(0, x0)]) h K =
    K .normal (act 10 [(0, x0)]) h := (k_reg (by kernel_rfl)).trans (by kernel_rfl)
theorem r68_1 {β : Type} {inv : Inv} {k : Nat} {x0 : Value} {h : AH} {K : XE → Act → AH → Option β} : kCode env 68 false inv k (cl (cl (cr c68))) (act 10 [(0, x0)]) h K =
    bnd (pBin Try.prog Go.BinOp.eql 57 (Go.Operand.tmp 3) (Go.Operand.const (Go.Value.pointer none)) x0 (Go.Value.pointer none)) fun x4 =>
    K .normal (act 10 [(0, x0), (4, x4)]) h := (k_reg (by kernel_rfl)).trans (by kernel_rfl)
theorem b68_rlr {β : Type} {inv : Inv} {k : Nat} {x0 x4 : Value} {h : AH} {K : XE → Act → AH → Option β} : kCode env 68 false inv k (cr (cl (cr c68))) (act 10 [(0, x0), (4, x4)]) h K = brV x4 (kCode env 68 false inv k (cl (cr (cl (cr c68)))) (act 10 [(0, x0), (4, x4)]) h K) (kCode env 68 false inv k (cr (cr (cl (cr c68)))) (act 10 [(0, x0), (4, x4)]) h K) := (k_cond (by kernel_rfl)).trans (by kernel_rfl)
theorem r68_2 {β : Type} {inv : Inv} {k : Nat} {x0 x4 : Value} {h : AH} {K : XE → Act → AH → Option β} : kCode env 68 false inv k (cl (cl (cr (cl (cr c68))))) (act 10 [(0, x0), (4, x4)]) h K =
    K .normal (act 10 [(2, (Go.Value.int Go.IntKind.i64 0))]) h := (k_reg (by kernel_rfl)).trans (by kernel_rfl)
theorem res68_0 {x2 : Value} {h : AH} : resOfFn env.P 68 .ret (act 10 [(2, x2)]) h = some (x2, h) := (resOfFn_k (by kernel_rfl) (by kernel_rfl)).trans (by kernel_rfl)
theorem r68_3 {β : Type} {inv : Inv} {k : Nat} {x0 x4 : Value} {h : AH} {K : XE → Act → AH → Option β} : kCode env 68 false inv k (cl (cr (cr c68))) (act 10 [(0, x0), (4, x4)]) h K =
    bnd (pNilCheck x0) fun x6 =>
    bnd (pFieldAddr Try.prog 79 x6 0) fun x7 =>
    bnd (pLoad Try.prog 26 x7 h) fun x8 =>
    bnd (pLen Try.prog #[26] x8 h) fun x9 =>
    K .normal (act 10 [(2, x9)]) h := (k_reg (by kernel_rfl)).trans (by kernel_rfl)
/-- (*shadowbook/octet.Reader).Left -/
noncomputable def F68 (inv : Inv) (k : Nat) (x0 : Value) (h : AH) : Option (Value × AH) :=
    bnd (pBin Try.prog Go.BinOp.eql 57 (Go.Operand.tmp 3) (Go.Operand.const (Go.Value.pointer none)) x0 (Go.Value.pointer none)) fun x4 =>
    brV x4
    (some ((Go.Value.int Go.IntKind.i64 0), h))
    (bnd (pNilCheck x0) fun x6 =>
    bnd (pFieldAddr Try.prog 79 x6 0) fun x7 =>
    bnd (pLoad Try.prog 26 x7 h) fun x8 =>
    bnd (pLen Try.prog #[26] x8 h) fun x9 =>
    some (x9, h))
theorem F68_eq {inv : Inv} {k : Nat} {x0 : Value} {h : AH} : eFun env k inv 68 #[x0] h = F68 inv k x0 h := by
      refine (eFun_k2 (by kernel_rfl) (by kernel_rfl) (by kernel_rfl) (a := act 10 [(0, x0)]) (c := c68) (by kernel_rfl) (by kernel_rfl)).trans ?_
      unfold F68
      simp only [k_seq (E := env) (f := 68) (c := c68) (by kernel_rfl), r68_0, k_seq (E := env) (f := 68) (c := (cr c68)) (by kernel_rfl), k_seq (E := env) (f := 68) (c := (cl (cr c68))) (by kernel_rfl), r68_1, b68_rlr, k_seq (E := env) (f := 68) (c := (cl (cr (cl (cr c68))))) (by kernel_rfl), r68_2, k_ret (E := env) (f := 68) (c := (cr (cl (cr (cl (cr c68)))))) (by kernel_rfl), res68_0, k_skip (E := env) (f := 68) (c := (cr (cr (cl (cr c68))))) (by kernel_rfl), k_seq (E := env) (f := 68) (c := (cr (cr c68))) (by kernel_rfl), r68_3, k_ret (E := env) (f := 68) (c := (cr (cr (cr c68)))) (by kernel_rfl), reduceIte, reduceCtorEq, XE.exit.injEq, Nat.reduceEqDiff] <;> kernel_rfl
noncomputable def c69 : Code := codeOf Try.prog 69
theorem r69_0 {β : Type} {inv : Inv} {k : Nat} {x0 x1 x2 : Value} {h : AH} {K : XE → Act → AH → Option β} : kCode env 69 false inv k (cl c69) (act 30 [(0, x0), (1, x1), (2, x2)]) h K =
    K .normal (act 30 [(0, x0), (1, x1), (2, x2), (6, (Go.Value.slice none 0 0)), (7, (Go.Value.int Go.IntKind.i64 0))]) h := (k_reg (by kernel_rfl)).trans (by kernel_rfl)
theorem r69_1 {β : Type} {inv : Inv} {k : Nat} {x0 x1 x2 x6 x7 : Value} {h : AH} {K : XE → Act → AH → Option β} : kCode env 69 false inv k (cl (cl (cr c69))) (act 30 [(0, x0), (1, x1), (2, x2), (6, x6), (7, x7)]) h K =
    bnd (inv (.func 74) #[] #[x0, x1, x2] h) fun x15 =>
    K .normal (act 30 [(0, x0), (1, x1), (2, x2), (6, x6), (7, x7), (8, x15.1)]) x15.2 := (k_reg (by kernel_rfl)).trans (by kernel_rfl)
theorem r69_2 {β : Type} {inv : Inv} {k : Nat} {x0 x1 x2 x6 x7 x8 : Value} {h : AH} {K : XE → Act → AH → Option β} : kCode env 69 false inv k (cl (cr (cl (cr c69)))) (act 30 [(0, x0), (1, x1), (2, x2), (6, x6), (7, x7), (8, x8)]) h K =
    bnd (pBin Try.prog Go.BinOp.neq 27 (Go.Operand.tmp 16) (Go.Operand.const (Go.Value.int Go.IntKind.i64 0)) x8 (Go.Value.int Go.IntKind.i64 0)) fun x17 =>
    K .normal (act 30 [(0, x0), (1, x1), (2, x2), (6, x6), (7, x7), (8, x8), (17, x17)]) h := (k_reg (by kernel_rfl)).trans (by kernel_rfl)
theorem b69_rrlr {β : Type} {inv : Inv} {k : Nat} {x0 x1 x2 x6 x7 x8 x17 : Value} {h : AH} {K : XE → Act → AH → Option β} : kCode env 69 false inv k (cr (cr (cl (cr c69)))) (act 30 [(0, x0), (1, x1), (2, x2), (6, x6), (7, x7), (8, x8), (17, x17)]) h K = brV x17 (kCode env 69 false inv k (cl (cr (cr (cl (cr c69))))) (act 30 [(0, x0), (1, x1), (2, x2), (6, x6), (7, x7), (8, x8), (17, x17)]) h K) (kCode env 69 false inv k (cr (cr (cr (cl (cr c69))))) (act 30 [(0, x0), (1, x1), (2, x2), (6, x6), (7, x7), (8, x8), (17, x17)]) h K) := (k_cond (by kernel_rfl)).trans (by kernel_rfl)
theorem r69_3 {β : Type} {inv : Inv} {k : Nat} {x0 x1 x2 x6 x7 x8 x17 : Value} {h : AH} {K : XE → Act → AH → Option β} : kCode env 69 false inv k (cl (cl (cr (cr (cl (cr c69)))))) (act 30 [(0, x0), (1, x1), (2, x2), (6, x6), (7, x7), (8, x8), (17, x17)]) h K =
    K .normal (act 30 [(6, (Go.Value.slice none 0 0)), (7, x8)]) h := (k_reg (by kernel_rfl)).trans (by kernel_rfl)
theorem res69_0 {x6 x7 : Value} {h : AH} : resOfFn env.P 69 .ret (act 30 [(6, x6), (7, x7)]) h = some (.tuple #[x6, x7], h) := (resOfFn_k (by kernel_rfl) (by kernel_rfl)).trans (by kernel_rfl)
theorem r69_4 {β : Type} {inv : Inv} {k : Nat} {x0 x1 x2 x6 x7 x8 x17 : Value} {h : AH} {K : XE → Act → AH → Option β} : kCode env 69 false inv k (cl (cr (cr c69))) (act 30 [(0, x0), (1, x1), (2, x2), (6, x6), (7, x7), (8, x8), (17, x17)]) h K =
    bnd (pAlloc Try.prog 50 h) fun x9 =>
    K .normal (act 30 [(0, x0), (1, x1), (2, x2), (6, x6), (7, x7), (9, x9.1)]) x9.2 := (k_reg (by kernel_rfl)).trans (by kernel_rfl)
theorem r69_5 {β : Type} {inv : Inv} {k : Nat} {x0 x1 x2 x6 x7 x9 : Value} {h : AH} {K : XE → Act → AH → Option β} : kCode env 69 false inv k (cl (cl (cr (cr (cr c69))))) (act 30 [(0, x0), (1, x1), (2, x2), (6, x6), (7, x7), (9, x9)]) h K =
    bnd (inv (.func 75) #[] #[x0, x1, x2] h) fun x22 =>
    K .normal (act 30 [(6, x6), (7, x7), (9, x9), (22, x22.1)]) x22.2 := (k_reg (by kernel_rfl)).trans (by kernel_rfl)
theorem g69_lrlrrr {β : Type} {inv : Inv} {k : Nat} {x6 x7 x9 x22 : Value} {h : AH} {K : XE → Act → AH → Option β} : kCode env 69 false inv k (cl (cr (cl (cr (cr (cr c69)))))) (act 30 [(6, x6), (7, x7), (9, x9), (22, x22)]) h K = kRange env 69 inv x22 (psOf (cl (cr (cl (cr (cr (cr c69))))))) (cl (cl (cr (cl (cr (cr (cr c69))))))) (cr (cl (cr (cl (cr (cr (cr c69))))))) (act 30 [(6, x6), (7, x7), (9, x9), (22, x22)]) h fun e h => sw e (K .normal (act 30 [(6, x6), (7, x7), (9, x9), (22, x22)]) h) (none) [] := (k_range (g := x22) (ids := []) (by kernel_rfl) (by kernel_rfl) (by kernel_rfl)).trans (by kernel_rfl)
noncomputable def F69_rlrrr {β : Type} (inv : Inv) (k : Nat) (x6 x7 x9 x22 : Value) (h : AH) (kn : (Value → Value → Value → Value → AH → Option β)) : Option β :=
    kRange env 69 inv x22 (psOf (cl (cr (cl (cr (cr (cr c69))))))) (cl (cl (cr (cl (cr (cr (cr c69))))))) (cr (cl (cr (cl (cr (cr (cr c69))))))) (act 30 [(6, x6), (7, x7), (9, x9), (22, x22)]) h fun e h => sw e
    (kn x6 x7 x9 x22 h)
    none []
theorem F69_rlrrr_eq {β : Type} {inv : Inv} {k : Nat} {x6 x7 x9 x22 : Value} {h : AH} {K : XE → Act → AH → Option β} : kCode env 69 false inv k (cr (cl (cr (cr (cr c69))))) (act 30 [(6, x6), (7, x7), (9, x9), (22, x22)]) h K = F69_rlrrr inv k x6 x7 x9 x22 h (fun y6 y7 y9 y22 h => K .normal (act 30 [(6, y6), (7, y7), (9, y9), (22, y22)]) h) := by
      unfold F69_rlrrr
      simp only [k_block (E := env) (f := 69) (c := (cr (cl (cr (cr (cr c69)))))) (id := 0) (by kernel_rfl), g69_lrlrrr, reduceIte, reduceCtorEq, XE.exit.injEq, Nat.reduceEqDiff] <;> kernel_rfl
theorem r69_8 {β : Type} {inv : Inv} {k : Nat} {x6 x7 x9 x22 : Value} {h : AH} {K : XE → Act → AH → Option β} : kCode env 69 false inv k (cl (cr (cr (cr (cr c69))))) (act 30 [(6, x6), (7, x7), (9, x9), (22, x22)]) h K =
    bnd (pLoad Try.prog 50 x9 h) fun x29 =>
    K .normal (act 30 [(6, x29), (7, (Go.Value.int Go.IntKind.i64 0))]) h := (k_reg (by kernel_rfl)).trans (by kernel_rfl)
/-- shadowbook/packs.Get -/
noncomputable def F69 (inv : Inv) (k : Nat) (x0 x1 x2 : Value) (h : AH) : Option (Value × AH) :=
    bnd (inv (.func 74) #[] #[x0, x1, x2] h) fun x15 =>
    bnd (pBin Try.prog Go.BinOp.neq 27 (Go.Operand.tmp 16) (Go.Operand.const (Go.Value.int Go.IntKind.i64 0)) x15.1 (Go.Value.int Go.IntKind.i64 0)) fun x17 =>
    brV x17
    (some (.tuple #[(Go.Value.slice none 0 0), x15.1], x15.2))
    (bnd (pAlloc Try.prog 50 x15.2) fun x9 =>
    bnd (inv (.func 75) #[] #[x0, x1, x2] x9.2) fun x22 =>
    F69_rlrrr inv k (Go.Value.slice none 0 0) (Go.Value.int Go.IntKind.i64 0) x9.1 x22.1 x22.2
    (fun y6 y7 y9 y22 h =>
    bnd (pLoad Try.prog 50 y9 h) fun x29 =>
    some (.tuple #[x29, (Go.Value.int Go.IntKind.i64 0)], h)))
theorem F69_eq {inv : Inv} {k : Nat} {x0 x1 x2 : Value} {h : AH} : eFun env k inv 69 #[x0, x1, x2] h = F69 inv k x0 x1 x2 h := by
      refine (eFun_k2 (by kernel_rfl) (by kernel_rfl) (by kernel_rfl) (a := act 30 [(0, x0), (1, x1), (2, x2)]) (c := c69) (by kernel_rfl) (by kernel_rfl)).trans ?_
      unfold F69
      simp only [k_seq (E := env) (f := 69) (c := c69) (by kernel_rfl), r69_0, k_seq (E := env) (f := 69) (c := (cr c69)) (by kernel_rfl), k_seq (E := env) (f := 69) (c := (cl (cr c69))) (by kernel_rfl), r69_1, k_seq (E := env) (f := 69) (c := (cr (cl (cr c69)))) (by kernel_rfl), r69_2, b69_rrlr, k_seq (E := env) (f := 69) (c := (cl (cr (cr (cl (cr c69)))))) (by kernel_rfl), r69_3, k_ret (E := env) (f := 69) (c := (cr (cl (cr (cr (cl (cr c69))))))) (by kernel_rfl), res69_0, k_skip (E := env) (f := 69) (c := (cr (cr (cr (cl (cr c69)))))) (by kernel_rfl), k_seq (E := env) (f := 69) (c := (cr (cr c69))) (by kernel_rfl), r69_4, k_seq (E := env) (f := 69) (c := (cr (cr (cr c69)))) (by kernel_rfl), k_seq (E := env) (f := 69) (c := (cl (cr (cr (cr c69))))) (by kernel_rfl), r69_5, F69_rlrrr_eq, k_seq (E := env) (f := 69) (c := (cr (cr (cr (cr c69))))) (by kernel_rfl), r69_8, k_ret (E := env) (f := 69) (c := (cr (cr (cr (cr (cr c69)))))) (by kernel_rfl), reduceIte, reduceCtorEq, XE.exit.injEq, Nat.reduceEqDiff] <;> kernel_rfl
theorem r69_6 {β : Type} {inv : Inv} {k : Nat} {x6 x7 x9 x22 x23 x24 : Value} {h : AH} {K : XE → Act → AH → Option β} : kCode env 69 true inv k (cl (cl (cr (cl (cr (cr (cr c69))))))) (act 30 [(6, x6), (7, x7), (9, x9), (22, x22), (23, x23), (24, x24)]) h K =
    K .normal (act 30 [(9, x9), (11, x24)]) h := (k_reg (by kernel_rfl)).trans (by kernel_rfl)
theorem r69_7 {β : Type} {inv : Inv} {k : Nat} {x9 x11 : Value} {h : AH} {K : XE → Act → AH → Option β} : kCode env 69 true inv k (cl (cr (cl (cr (cl (cr (cr (cr c69)))))))) (act 30 [(9, x9), (11, x11)]) h K =
    bnd (pLoad Try.prog 50 x9 h) fun x25 =>
    bnd (pBuildSlice Try.prog 50 1 #[(0, x11)] h) fun x27 =>
    bnd (pAppend Try.prog #[50, 50] x25 x27.1 x27.2) fun x28 =>
    bnd (kSt (pStore Try.prog 50 x9 x28.1 x28.2)) fun u =>
    K .normal (act 30 []) u.2 := (k_reg (by kernel_rfl)).trans (by kernel_rfl)
noncomputable def R69_lrlrrr (inv : Inv) (k l : Nat) (x6 x7 x9 x22 z0 z1 : Value) (h : AH) : Option (Value × AH) :=
    rdBegin l h fun h =>
    bnd (pLoad Try.prog 50 x9 h) fun x25 =>
    bnd (pBuildSlice Try.prog 50 1 #[(0, z1)] h) fun x27 =>
    bnd (pAppend Try.prog #[50, 50] x25 x27.1 x27.2) fun x28 =>
    bnd (kSt (pStore Try.prog 50 x9 x28.1 x28.2)) fun u =>
    rdEnd l .normal u.2
theorem R69_lrlrrr_eq {inv : Inv} {k l : Nat} {pd : Option Code} {x6 x7 x9 x22 z0 z1 : Value} {h : AH} (hl : h.get l = some (.loop .ready pd 69 (act 30 [(6, x6), (7, x7), (9, x9), (22, x22)]).tmps (psOf (cl (cr (cl (cr (cr (cr c69))))))) (cl (cl (cr (cl (cr (cr (cr c69))))))) (cr (cl (cr (cl (cr (cr (cr c69))))))))) : eRound env k inv l #[z0, z1] h = R69_lrlrrr inv k l x6 x7 x9 x22 z0 z1 h := by
      refine (eRound_k (a := act 30 [(6, x6), (7, x7), (9, x9), (22, x22), (23, z0), (24, z1)]) hl (by kernel_rfl) (by kernel_rfl)).trans ?_
      unfold R69_lrlrrr
      simp only [r69_6, k_block (E := env) (f := 69) (c := (cr (cl (cr (cl (cr (cr (cr c69)))))))) (id := 1) (by kernel_rfl), r69_7, reduceIte, reduceCtorEq, XE.exit.injEq, Nat.reduceEqDiff] <;> kernel_rfl
noncomputable def c70 : Code := codeOf Try.prog 70
theorem r70_0 {β : Type} {inv : Inv} {k : Nat} {x0 : Value} {h : AH} {K : XE → Act → AH → Option β} : kCode env 70 false inv k (cl c70) (act 4 [(0, x0)]) h K =
    bnd (pBox Try.prog 26 x0 h) fun x1 =>
    K .normal (act 4 [(1, x1.1)]) x1.2 := (k_reg (by kernel_rfl)).trans (by kernel_rfl)
theorem r70_1 {β : Type} {inv : Inv} {k : Nat} {x1 : Value} {h : AH} {K : XE → Act → AH → Option β} : kCode env 70 false inv k (cl (cr c70)) (act 4 [(1, x1)]) h K =
    bnd (pMakeFunc (Go.Fn.func 76) #[] #[x1]) fun x3 =>
    K .normal (act 4 [(2, x3)]) h := (k_reg (by kernel_rfl)).trans (by kernel_rfl)
theorem res70_0 {x2 : Value} {h : AH} : resOfFn env.P 70 .ret (act 4 [(2, x2)]) h = some (x2, h) := (resOfFn_k (by kernel_rfl) (by kernel_rfl)).trans (by kernel_rfl)
/-- slices.Backward[[]byte,byte] -/
noncomputable def F70 (inv : Inv) (k : Nat) (x0 : Value) (h : AH) : Option (Value × AH) :=
    bnd (pBox Try.prog 26 x0 h) fun x1 =>
    bnd (pMakeFunc (Go.Fn.func 76) #[] #[x1.1]) fun x3 =>
    some (x3, x1.2)
theorem F70_eq {inv : Inv} {k : Nat} {x0 : Value} {h : AH} : eFun env k inv 70 #[x0] h = F70 inv k x0 h := by
      refine (eFun_k2 (by kernel_rfl) (by kernel_rfl) (by kernel_rfl) (a := act 4 [(0, x0)]) (c := c70) (by kernel_rfl) (by kernel_rfl)).trans ?_
      unfold F70
      simp only [k_seq (E := env) (f := 70) (c := c70) (by kernel_rfl), r70_0, k_seq (E := env) (f := 70) (c := (cr c70)) (by kernel_rfl), r70_1, k_ret (E := env) (f := 70) (c := (cr (cr c70))) (by kernel_rfl), res70_0, reduceIte, reduceCtorEq, XE.exit.injEq, Nat.reduceEqDiff] <;> kernel_rfl
noncomputable def c71 : Code := codeOf Try.prog 71
theorem r71_0 {β : Type} {inv : Inv} {k : Nat} {x0 x1 : Value} {h : AH} {K : XE → Act → AH → Option β} : kCode env 71 false inv k (cl c71) (act 9 [(0, x0), (1, x1)]) h K =
    K .normal (act 9 [(0, x0), (1, x1)]) h := (k_reg (by kernel_rfl)).trans (by kernel_rfl)
theorem r71_1 {β : Type} {inv : Inv} {k : Nat} {x0 x1 : Value} {h : AH} {K : XE → Act → AH → Option β} : kCode env 71 false inv k (cl (cr c71)) (act 9 [(0, x0), (1, x1)]) h K =
    bnd (inv (.func 77) #[] #[x0, x1] h) fun x7 =>
    bnd (pBin Try.prog Go.BinOp.geq 3 (Go.Operand.tmp 7) (Go.Operand.const (Go.Value.int Go.IntKind.i64 0)) x7.1 (Go.Value.int Go.IntKind.i64 0)) fun x8 =>
    K .normal (act 9 [(4, x8)]) x7.2 := (k_reg (by kernel_rfl)).trans (by kernel_rfl)
theorem res71_0 {x4 : Value} {h : AH} : resOfFn env.P 71 .ret (act 9 [(4, x4)]) h = some (x4, h) := (resOfFn_k (by kernel_rfl) (by kernel_rfl)).trans (by kernel_rfl)
/-- slices.ContainsFunc[[]byte,byte] -/
noncomputable def F71 (inv : Inv) (k : Nat) (x0 x1 : Value) (h : AH) : Option (Value × AH) :=
    bnd (inv (.func 77) #[] #[x0, x1] h) fun x7 =>
    bnd (pBin Try.prog Go.BinOp.geq 3 (Go.Operand.tmp 7) (Go.Operand.const (Go.Value.int Go.IntKind.i64 0)) x7.1 (Go.Value.int Go.IntKind.i64 0)) fun x8 =>
    some (x8, x7.2)
theorem F71_eq {inv : Inv} {k : Nat} {x0 x1 : Value} {h : AH} : eFun env k inv 71 #[x0, x1] h = F71 inv k x0 x1 h := by
      refine (eFun_k2 (by kernel_rfl) (by kernel_rfl) (by kernel_rfl) (a := act 9 [(0, x0), (1, x1)]) (c := c71) (by kernel_rfl) (by kernel_rfl)).trans ?_
      unfold F71
      simp only [k_seq (E := env) (f := 71) (c := c71) (by kernel_rfl), r71_0, k_seq (E := env) (f := 71) (c := (cr c71)) (by kernel_rfl), r71_1, k_ret (E := env) (f := 71) (c := (cr (cr c71))) (by kernel_rfl), res71_0, reduceIte, reduceCtorEq, XE.exit.injEq, Nat.reduceEqDiff] <;> kernel_rfl
noncomputable def c72 : Code := codeOf Try.prog 72
theorem r72_0 {β : Type} {inv : Inv} {k : Nat} {x0 : Value} {h : AH} {K : XE → Act → AH → Option β} : kCode env 72 false inv k (cl c72) (act 5 [(0, x0)]) h K =
    K .normal (act 5 [(0, x0)]) h := (k_reg (by kernel_rfl)).trans (by kernel_rfl)
theorem r72_1 {β : Type} {inv : Inv} {k : Nat} {x0 : Value} {h : AH} {K : XE → Act → AH → Option β} : kCode env 72 false inv k (cl (cr c72)) (act 5 [(0, x0)]) h K =
    bnd (pBin Try.prog Go.BinOp.lss 5 (Go.Operand.tmp 3) (Go.Operand.const (Go.Value.int Go.IntKind.u8 128)) x0 (Go.Value.int Go.IntKind.u8 128)) fun x4 =>
    K .normal (act 5 [(2, x4)]) h := (k_reg (by kernel_rfl)).trans (by kernel_rfl)
theorem res72_0 {x2 : Value} {h : AH} : resOfFn env.P 72 .ret (act 5 [(2, x2)]) h = some (x2, h) := (resOfFn_k (by kernel_rfl) (by kernel_rfl)).trans (by kernel_rfl)
/-- (*shadowbook/octet.Reader).ends$1 -/
noncomputable def F72 (inv : Inv) (k : Nat) (x0 : Value) (h : AH) : Option (Value × AH) :=
    bnd (pBin Try.prog Go.BinOp.lss 5 (Go.Operand.tmp 3) (Go.Operand.const (Go.Value.int Go.IntKind.u8 128)) x0 (Go.Value.int Go.IntKind.u8 128)) fun x4 =>
    some (x4, h)
theorem F72_eq {inv : Inv} {k : Nat} {x0 : Value} {h : AH} : eFun env k inv 72 #[x0] h = F72 inv k x0 h := by
      refine (eFun_k2 (by kernel_rfl) (by kernel_rfl) (by kernel_rfl) (a := act 5 [(0, x0)]) (c := c72) (by kernel_rfl) (by kernel_rfl)).trans ?_
      unfold F72
      simp only [k_seq (E := env) (f := 72) (c := c72) (by kernel_rfl), r72_0, k_seq (E := env) (f := 72) (c := (cr c72)) (by kernel_rfl), r72_1, k_ret (E := env) (f := 72) (c := (cr (cr c72))) (by kernel_rfl), res72_0, reduceIte, reduceCtorEq, XE.exit.injEq, Nat.reduceEqDiff] <;> kernel_rfl
noncomputable def c73 : Code := codeOf Try.prog 73
theorem r73_0 {β : Type} {inv : Inv} {k : Nat} {x0 x1 : Value} {h : AH} {K : XE → Act → AH → Option β} : kCode env 73 false inv k (cl c73) (act 30 [(0, x0), (1, x1)]) h K =
    K .normal (act 30 [(0, x0), (1, x1)]) h := (k_reg (by kernel_rfl)).trans (by kernel_rfl)
theorem b73_lr {β : Type} {inv : Inv} {k : Nat} {x0 x1 : Value} {h : AH} {K : XE → Act → AH → Option β} : kCode env 73 false inv k (cl (cr c73)) (act 30 [(0, x0), (1, x1)]) h K = brV (Go.Value.bool false) (kCode env 73 false inv k (cl (cl (cr c73))) (act 30 [(0, x0), (1, x1)]) h K) (kCode env 73 false inv k (cr (cl (cr c73))) (act 30 [(0, x0), (1, x1)]) h K) := (k_cond (by kernel_rfl)).trans (by kernel_rfl)
theorem r73_1 {β : Type} {inv : Inv} {k : Nat} {x0 x1 : Value} {h : AH} {K : XE → Act → AH → Option β} : kCode env 73 false inv k (cl (cl (cl (cr c73)))) (act 30 [(0, x0), (1, x1)]) h K =
    bnd (pConv Try.prog 76 97 x0 h) fun x12 =>
    bnd (pConv Try.prog 76 97 x1 h) fun x14 =>
    bnd (inv (.func 78) #[] #[x12, x14] h) fun x15 =>
    bnd (pExtract x15.1 0) fun x16 =>
    bnd (pExtract x15.1 1) fun x17 =>
    K .normal (act 30 [(6, x16), (7, x17)]) x15.2 := (k_reg (by kernel_rfl)).trans (by kernel_rfl)
theorem r73_2 {β : Type} {inv : Inv} {k : Nat} {x6 x7 : Value} {h : AH} {K : XE → Act → AH → Option β} : kCode env 73 false inv k (cl (cr (cl (cl (cr c73))))) (act 30 [(6, x6), (7, x7)]) h K =
    bnd (pConv Try.prog 97 76 x6 h) fun x19 =>
    bnd (pConv Try.prog 97 76 x7 h) fun x21 =>
    K .normal (act 30 [(4, x19), (5, x21)]) h := (k_reg (by kernel_rfl)).trans (by kernel_rfl)
theorem res73_0 {x4 x5 : Value} {h : AH} : resOfFn env.P 73 .ret (act 30 [(4, x4), (5, x5)]) h = some (.tuple #[x4, x5], h) := (resOfFn_k (by kernel_rfl) (by kernel_rfl)).trans (by kernel_rfl)
theorem r73_3 {β : Type} {inv : Inv} {k : Nat} {x0 x1 : Value} {h : AH} {K : XE → Act → AH → Option β} : kCode env 73 false inv k (cl (cr (cr c73))) (act 30 [(0, x0), (1, x1)]) h K =
    bnd (inv (.func 79) #[] #[x0, x1] h) fun x25 =>
    bnd (pExtract x25.1 0) fun x26 =>
    bnd (pExtract x25.1 1) fun x27 =>
    K .normal (act 30 [(8, x26), (9, x27)]) x25.2 := (k_reg (by kernel_rfl)).trans (by kernel_rfl)
theorem r73_4 {β : Type} {inv : Inv} {k : Nat} {x8 x9 : Value} {h : AH} {K : XE → Act → AH → Option β} : kCode env 73 false inv k (cl (cr (cr (cr c73)))) (act 30 [(8, x8), (9, x9)]) h K =
    K .normal (act 30 [(4, x8), (5, x9)]) h := (k_reg (by kernel_rfl)).trans (by kernel_rfl)
/-- math/bits.Mul -/
noncomputable def F73 (inv : Inv) (k : Nat) (x0 x1 : Value) (h : AH) : Option (Value × AH) :=
    brV (Go.Value.bool false)
    (bnd (pConv Try.prog 76 97 x0 h) fun x12 =>
    bnd (pConv Try.prog 76 97 x1 h) fun x14 =>
    bnd (inv (.func 78) #[] #[x12, x14] h) fun x15 =>
    bnd (pExtract x15.1 0) fun x16 =>
    bnd (pExtract x15.1 1) fun x17 =>
    bnd (pConv Try.prog 97 76 x16 x15.2) fun x19 =>
    bnd (pConv Try.prog 97 76 x17 x15.2) fun x21 =>
    some (.tuple #[x19, x21], x15.2))
    (bnd (inv (.func 79) #[] #[x0, x1] h) fun x25 =>
    bnd (pExtract x25.1 0) fun x26 =>
    bnd (pExtract x25.1 1) fun x27 =>
    some (.tuple #[x26, x27], x25.2))
theorem F73_eq {inv : Inv} {k : Nat} {x0 x1 : Value} {h : AH} : eFun env k inv 73 #[x0, x1] h = F73 inv k x0 x1 h := by
      refine (eFun_k2 (by kernel_rfl) (by kernel_rfl) (by kernel_rfl) (a := act 30 [(0, x0), (1, x1)]) (c := c73) (by kernel_rfl) (by kernel_rfl)).trans ?_
      unfold F73
      simp only [k_seq (E := env) (f := 73) (c := c73) (by kernel_rfl), r73_0, k_seq (E := env) (f := 73) (c := (cr c73)) (by kernel_rfl), b73_lr, k_seq (E := env) (f := 73) (c := (cl (cl (cr c73)))) (by kernel_rfl), r73_1, k_seq (E := env) (f := 73) (c := (cr (cl (cl (cr c73))))) (by kernel_rfl), r73_2, k_ret (E := env) (f := 73) (c := (cr (cr (cl (cl (cr c73)))))) (by kernel_rfl), res73_0, k_skip (E := env) (f := 73) (c := (cr (cl (cr c73)))) (by kernel_rfl), k_seq (E := env) (f := 73) (c := (cr (cr c73))) (by kernel_rfl), r73_3, k_seq (E := env) (f := 73) (c := (cr (cr (cr c73)))) (by kernel_rfl), r73_4, k_ret (E := env) (f := 73) (c := (cr (cr (cr (cr c73))))) (by kernel_rfl), reduceIte, reduceCtorEq, XE.exit.injEq, Nat.reduceEqDiff] <;> kernel_rfl
noncomputable def c74 : Code := codeOf Try.prog 74
theorem r74_0 {β : Type} {inv : Inv} {k : Nat} {x0 x1 x2 : Value} {h : AH} {K : XE → Act → AH → Option β} : kCode env 74 false inv k (cl c74) (act 33 [(0, x0), (1, x1), (2, x2)]) h K =
    K .normal (act 33 [(0, x0), (1, x1), (2, x2)]) h := (k_reg (by kernel_rfl)).trans (by kernel_rfl)
theorem r74_1 {β : Type} {inv : Inv} {k : Nat} {x0 x1 x2 : Value} {h : AH} {K : XE → Act → AH → Option β} : kCode env 74 false inv k (cl (cl (cl (cr c74)))) (act 33 [(0, x0), (1, x1), (2, x2)]) h K =
    bnd (inv (.func 55) #[] #[x1, x2] h) fun x10 =>
    bnd (pUn Try.prog Go.UnOp.not x10.1) fun x11 =>
    K .normal (act 33 [(0, x0), (1, x1), (2, x2), (7, x11)]) x10.2 := (k_reg (by kernel_rfl)).trans (by kernel_rfl)
theorem b74_rllr {β : Type} {inv : Inv} {k : Nat} {x0 x1 x2 x7 : Value} {h : AH} {K : XE → Act → AH → Option β} : kCode env 74 false inv k (cr (cl (cl (cr c74)))) (act 33 [(0, x0), (1, x1), (2, x2), (7, x7)]) h K = brV x7 (kCode env 74 false inv k (cl (cr (cl (cl (cr c74))))) (act 33 [(0, x0), (1, x1), (2, x2), (7, x7)]) h K) (kCode env 74 false inv k (cr (cr (cl (cl (cr c74))))) (act 33 [(0, x0), (1, x1), (2, x2), (7, x7)]) h K) := (k_cond (by kernel_rfl)).trans (by kernel_rfl)
theorem r74_2 {β : Type} {inv : Inv} {k : Nat} {x0 x1 x2 x7 : Value} {h : AH} {K : XE → Act → AH → Option β} : kCode env 74 false inv k (cl (cl (cr (cl (cl (cr c74)))))) (act 33 [(0, x0), (1, x1), (2, x2), (7, x7)]) h K =
    K .normal (act 33 [(6, (Go.Value.int Go.IntKind.i64 2))]) h := (k_reg (by kernel_rfl)).trans (by kernel_rfl)
theorem res74_0 {x6 : Value} {h : AH} : resOfFn env.P 74 .ret (act 33 [(6, x6)]) h = some (x6, h) := (resOfFn_k (by kernel_rfl) (by kernel_rfl)).trans (by kernel_rfl)
theorem r74_3 {β : Type} {inv : Inv} {k : Nat} {x0 x1 x2 x7 : Value} {h : AH} {K : XE → Act → AH → Option β} : kCode env 74 false inv k (cl (cr (cr (cl (cl (cr c74)))))) (act 33 [(0, x0), (1, x1), (2, x2), (7, x7)]) h K =
    bnd (pLen Try.prog #[26] x0 h) fun x14 =>
    bnd (inv (.func 56) #[] #[x1, x2] h) fun x17 =>
    bnd (pBin Try.prog Go.BinOp.neq 3 (Go.Operand.tmp 14) (Go.Operand.tmp 17) x14 x17.1) fun x18 =>
    K .normal (act 33 [(0, x0), (1, x1), (2, x2), (12, x18)]) x17.2 := (k_reg (by kernel_rfl)).trans (by kernel_rfl)
theorem b74_rrrllr {β : Type} {inv : Inv} {k : Nat} {x0 x1 x2 x12 : Value} {h : AH} {K : XE → Act → AH → Option β} : kCode env 74 false inv k (cr (cr (cr (cl (cl (cr c74)))))) (act 33 [(0, x0), (1, x1), (2, x2), (12, x12)]) h K = brV x12 (kCode env 74 false inv k (cl (cr (cr (cr (cl (cl (cr c74))))))) (act 33 [(0, x0), (1, x1), (2, x2), (12, x12)]) h K) (kCode env 74 false inv k (cr (cr (cr (cr (cl (cl (cr c74))))))) (act 33 [(0, x0), (1, x1), (2, x2), (12, x12)]) h K) := (k_cond (by kernel_rfl)).trans (by kernel_rfl)
theorem r74_4 {β : Type} {inv : Inv} {k : Nat} {x0 x1 x2 x12 : Value} {h : AH} {K : XE → Act → AH → Option β} : kCode env 74 false inv k (cl (cl (cr (cr (cr (cl (cl (cr c74)))))))) (act 33 [(0, x0), (1, x1), (2, x2), (12, x12)]) h K =
    K .normal (act 33 [(6, (Go.Value.int Go.IntKind.i64 4))]) h := (k_reg (by kernel_rfl)).trans (by kernel_rfl)
theorem r74_5 {β : Type} {inv : Inv} {k : Nat} {x0 x1 x2 x12 : Value} {h : AH} {K : XE → Act → AH → Option β} : kCode env 74 false inv k (cl (cr (cr (cr (cr (cl (cl (cr c74)))))))) (act 33 [(0, x0), (1, x1), (2, x2), (12, x12)]) h K =
    bnd (pBin Try.prog Go.BinOp.mul 3 (Go.Operand.tmp 21) (Go.Operand.tmp 22) x1 x2) fun x23 =>
    bnd (pLen Try.prog #[26] x0 h) fun x25 =>
    bnd (pBin Try.prog Go.BinOp.mul 3 (Go.Operand.const (Go.Value.int Go.IntKind.i64 8)) (Go.Operand.tmp 25) (Go.Value.int Go.IntKind.i64 8) x25) fun x26 =>
    bnd (pBin Try.prog Go.BinOp.mul 3 (Go.Operand.tmp 27) (Go.Operand.tmp 28) x1 x2) fun x29 =>
    bnd (pBin Try.prog Go.BinOp.sub 3 (Go.Operand.tmp 26) (Go.Operand.tmp 29) x26 x29) fun x30 =>
    bnd (inv (.func 80) #[] #[x0, x23, x30] h) fun x31 =>
    bnd (pBin Try.prog Go.BinOp.neq 51 (Go.Operand.tmp 31) (Go.Operand.const (Go.Value.int Go.IntKind.u64 0)) x31.1 (Go.Value.int Go.IntKind.u64 0)) fun x32 =>
    K .normal (act 33 [(19, x32)]) x31.2 := (k_reg (by kernel_rfl)).trans (by kernel_rfl)
theorem b74_rrrrrllr {β : Type} {inv : Inv} {k : Nat} {x19 : Value} {h : AH} {K : XE → Act → AH → Option β} : kCode env 74 false inv k (cr (cr (cr (cr (cr (cl (cl (cr c74)))))))) (act 33 [(19, x19)]) h K = brV x19 (kCode env 74 false inv k (cl (cr (cr (cr (cr (cr (cl (cl (cr c74))))))))) (act 33 [(19, x19)]) h K) (kCode env 74 false inv k (cr (cr (cr (cr (cr (cr (cl (cl (cr c74))))))))) (act 33 [(19, x19)]) h K) := (k_cond (by kernel_rfl)).trans (by kernel_rfl)
theorem r74_6 {β : Type} {inv : Inv} {k : Nat} {x19 : Value} {h : AH} {K : XE → Act → AH → Option β} : kCode env 74 false inv k (cl (cl (cr (cr (cr (cr (cr (cl (cl (cr c74)))))))))) (act 33 [(19, x19)]) h K =
    K .normal (act 33 [(6, (Go.Value.int Go.IntKind.i64 4))]) h := (k_reg (by kernel_rfl)).trans (by kernel_rfl)
theorem r74_7 {β : Type} {inv : Inv} {k : Nat} {x19 : Value} {h : AH} {K : XE → Act → AH → Option β} : kCode env 74 false inv k (cl (cr (cr c74))) (act 33 [(19, x19)]) h K =
    K .normal (act 33 [(6, (Go.Value.int Go.IntKind.i64 0))]) h := (k_reg (by kernel_rfl)).trans (by kernel_rfl)
/-- shadowbook/packs.check -/
noncomputable def F74 (inv : Inv) (k : Nat) (x0 x1 x2 : Value) (h : AH) : Option (Value × AH) :=
    bnd (inv (.func 55) #[] #[x1, x2] h) fun x10 =>
    bnd (pUn Try.prog Go.UnOp.not x10.1) fun x11 =>
    brV x11
    (some ((Go.Value.int Go.IntKind.i64 2), x10.2))
    (bnd (pLen Try.prog #[26] x0 x10.2) fun x14 =>
    bnd (inv (.func 56) #[] #[x1, x2] x10.2) fun x17 =>
    bnd (pBin Try.prog Go.BinOp.neq 3 (Go.Operand.tmp 14) (Go.Operand.tmp 17) x14 x17.1) fun x18 =>
    brV x18
    (some ((Go.Value.int Go.IntKind.i64 4), x17.2))
    (bnd (pBin Try.prog Go.BinOp.mul 3 (Go.Operand.tmp 21) (Go.Operand.tmp 22) x1 x2) fun x23 =>
    bnd (pLen Try.prog #[26] x0 x17.2) fun x25 =>
    bnd (pBin Try.prog Go.BinOp.mul 3 (Go.Operand.const (Go.Value.int Go.IntKind.i64 8)) (Go.Operand.tmp 25) (Go.Value.int Go.IntKind.i64 8) x25) fun x26 =>
    bnd (pBin Try.prog Go.BinOp.mul 3 (Go.Operand.tmp 27) (Go.Operand.tmp 28) x1 x2) fun x29 =>
    bnd (pBin Try.prog Go.BinOp.sub 3 (Go.Operand.tmp 26) (Go.Operand.tmp 29) x26 x29) fun x30 =>
    bnd (inv (.func 80) #[] #[x0, x23, x30] x17.2) fun x31 =>
    bnd (pBin Try.prog Go.BinOp.neq 51 (Go.Operand.tmp 31) (Go.Operand.const (Go.Value.int Go.IntKind.u64 0)) x31.1 (Go.Value.int Go.IntKind.u64 0)) fun x32 =>
    brV x32
    (some ((Go.Value.int Go.IntKind.i64 4), x31.2))
    (some ((Go.Value.int Go.IntKind.i64 0), x31.2))))
theorem F74_eq {inv : Inv} {k : Nat} {x0 x1 x2 : Value} {h : AH} : eFun env k inv 74 #[x0, x1, x2] h = F74 inv k x0 x1 x2 h := by
      refine (eFun_k2 (by kernel_rfl) (by kernel_rfl) (by kernel_rfl) (a := act 33 [(0, x0), (1, x1), (2, x2)]) (c := c74) (by kernel_rfl) (by kernel_rfl)).trans ?_
      unfold F74
      simp only [k_seq (E := env) (f := 74) (c := c74) (by kernel_rfl), r74_0, k_seq (E := env) (f := 74) (c := (cr c74)) (by kernel_rfl), k_block (E := env) (f := 74) (c := (cl (cr c74))) (id := 0) (by kernel_rfl), k_seq (E := env) (f := 74) (c := (cl (cl (cr c74)))) (by kernel_rfl), r74_1, b74_rllr, k_seq (E := env) (f := 74) (c := (cl (cr (cl (cl (cr c74)))))) (by kernel_rfl), r74_2, k_ret (E := env) (f := 74) (c := (cr (cl (cr (cl (cl (cr c74))))))) (by kernel_rfl), res74_0, k_seq (E := env) (f := 74) (c := (cr (cr (cl (cl (cr c74)))))) (by kernel_rfl), r74_3, b74_rrrllr, k_seq (E := env) (f := 74) (c := (cl (cr (cr (cr (cl (cl (cr c74)))))))) (by kernel_rfl), r74_4, k_ret (E := env) (f := 74) (c := (cr (cl (cr (cr (cr (cl (cl (cr c74))))))))) (by kernel_rfl), k_seq (E := env) (f := 74) (c := (cr (cr (cr (cr (cl (cl (cr c74)))))))) (by kernel_rfl), r74_5, b74_rrrrrllr, k_seq (E := env) (f := 74) (c := (cl (cr (cr (cr (cr (cr (cl (cl (cr c74)))))))))) (by kernel_rfl), r74_6, k_ret (E := env) (f := 74) (c := (cr (cl (cr (cr (cr (cr (cr (cl (cl (cr c74))))))))))) (by kernel_rfl), k_skip (E := env) (f := 74) (c := (cr (cr (cr (cr (cr (cr (cl (cl (cr c74)))))))))) (by kernel_rfl), k_seq (E := env) (f := 74) (c := (cr (cr c74))) (by kernel_rfl), r74_7, k_ret (E := env) (f := 74) (c := (cr (cr (cr c74)))) (by kernel_rfl), reduceIte, reduceCtorEq, XE.exit.injEq, Nat.reduceEqDiff] <;> kernel_rfl
noncomputable def c75 : Code := codeOf Try.prog 75
theorem r75_0 {β : Type} {inv : Inv} {k : Nat} {x0 x1 x2 : Value} {h : AH} {K : XE → Act → AH → Option β} : kCode env 75 false inv k (cl c75) (act 8 [(0, x0), (1, x1), (2, x2)]) h K =
    bnd (pBox Try.prog 26 x0 h) fun x3 =>
    bnd (pBox Try.prog 3 x1 x3.2) fun x4 =>
    bnd (pBox Try.prog 3 x2 x4.2) fun x5 =>
    K .normal (act 8 [(3, x3.1), (4, x4.1), (5, x5.1)]) x5.2 := (k_reg (by kernel_rfl)).trans (by kernel_rfl)
theorem r75_1 {β : Type} {inv : Inv} {k : Nat} {x3 x4 x5 : Value} {h : AH} {K : XE → Act → AH → Option β} : kCode env 75 false inv k (cl (cr c75)) (act 8 [(3, x3), (4, x4), (5, x5)]) h K =
    bnd (pMakeFunc (Go.Fn.func 81) #[] #[x3, x4, x5]) fun x7 =>
    K .normal (act 8 [(6, x7)]) h := (k_reg (by kernel_rfl)).trans (by kernel_rfl)
theorem res75_0 {x6 : Value} {h : AH} : resOfFn env.P 75 .ret (act 8 [(6, x6)]) h = some (x6, h) := (resOfFn_k (by kernel_rfl) (by kernel_rfl)).trans (by kernel_rfl)
/-- shadowbook/packs.Each -/
noncomputable def F75 (inv : Inv) (k : Nat) (x0 x1 x2 : Value) (h : AH) : Option (Value × AH) :=
    bnd (pBox Try.prog 26 x0 h) fun x3 =>
    bnd (pBox Try.prog 3 x1 x3.2) fun x4 =>
    bnd (pBox Try.prog 3 x2 x4.2) fun x5 =>
    bnd (pMakeFunc (Go.Fn.func 81) #[] #[x3.1, x4.1, x5.1]) fun x7 =>
    some (x7, x5.2)
theorem F75_eq {inv : Inv} {k : Nat} {x0 x1 x2 : Value} {h : AH} : eFun env k inv 75 #[x0, x1, x2] h = F75 inv k x0 x1 x2 h := by
      refine (eFun_k2 (by kernel_rfl) (by kernel_rfl) (by kernel_rfl) (a := act 8 [(0, x0), (1, x1), (2, x2)]) (c := c75) (by kernel_rfl) (by kernel_rfl)).trans ?_
      unfold F75
      simp only [k_seq (E := env) (f := 75) (c := c75) (by kernel_rfl), r75_0, k_seq (E := env) (f := 75) (c := (cr c75)) (by kernel_rfl), r75_1, k_ret (E := env) (f := 75) (c := (cr (cr c75))) (by kernel_rfl), res75_0, reduceIte, reduceCtorEq, XE.exit.injEq, Nat.reduceEqDiff] <;> kernel_rfl
noncomputable def c76 : Code := codeOf Try.prog 76
theorem r76_0 {β : Type} {inv : Inv} {k : Nat} {x0 x1 : Value} {h : AH} {K : XE → Act → AH → Option β} : kCode env 76 false inv k (cl c76) (act 19 [(0, x0), (1, x1)]) h K =
    bnd (pLoad Try.prog 26 x1 h) fun x4 =>
    bnd (pLen Try.prog #[26] x4 h) fun x5 =>
    bnd (pBin Try.prog Go.BinOp.sub 3 (Go.Operand.tmp 5) (Go.Operand.const (Go.Value.int Go.IntKind.i64 1)) x5 (Go.Value.int Go.IntKind.i64 1)) fun x6 =>
    K .normal (act 19 [(0, x0), (1, x1), (3, x6)]) h := (k_reg (by kernel_rfl)).trans (by kernel_rfl)
theorem r76_1 {β : Type} {inv : Inv} {k : Nat} {x0 x1 x3 : Value} {h : AH} {K : XE → Act → AH → Option β} : kCode env 76 false inv k (cl (cl (cl (cl (cr c76))))) (act 19 [(0, x0), (1, x1), (3, x3)]) h K =
    bnd (pBin Try.prog Go.BinOp.geq 3 (Go.Operand.tmp 7) (Go.Operand.const (Go.Value.int Go.IntKind.i64 0)) x3 (Go.Value.int Go.IntKind.i64 0)) fun x8 =>
    K .normal (act 19 [(0, x0), (1, x1), (3, x3), (8, x8)]) h := (k_reg (by kernel_rfl)).trans (by kernel_rfl)
theorem b76_rlllr {β : Type} {inv : Inv} {k : Nat} {x0 x1 x3 x8 : Value} {h : AH} {K : XE → Act → AH → Option β} : kCode env 76 false inv k (cr (cl (cl (cl (cr c76))))) (act 19 [(0, x0), (1, x1), (3, x3), (8, x8)]) h K = brV x8 (kCode env 76 false inv k (cl (cr (cl (cl (cl (cr c76)))))) (act 19 [(0, x0), (1, x1), (3, x3), (8, x8)]) h K) (kCode env 76 false inv k (cr (cr (cl (cl (cl (cr c76)))))) (act 19 [(0, x0), (1, x1), (3, x3), (8, x8)]) h K) := (k_cond (by kernel_rfl)).trans (by kernel_rfl)
theorem r76_3 {β : Type} {inv : Inv} {k : Nat} {x0 x1 x3 x8 : Value} {h : AH} {K : XE → Act → AH → Option β} : kCode env 76 false inv k (cl (cl (cl (cr (cl (cl (cr c76))))))) (act 19 [(0, x0), (1, x1), (3, x3), (8, x8)]) h K =
    bnd (pLoad Try.prog 26 x1 h) fun x13 =>
    bnd (pIndexAddr Try.prog 26 x13 x3) fun x15 =>
    bnd (pLoad Try.prog 5 x15 h) fun x16 =>
    bnd (callV inv x0 #[x3, x16] h) fun x17 =>
    bnd (pUn Try.prog Go.UnOp.not x17.1) fun x18 =>
    K .normal (act 19 [(0, x0), (1, x1), (3, x3), (18, x18)]) x17.2 := (k_reg (by kernel_rfl)).trans (by kernel_rfl)
theorem b76_rllrllr {β : Type} {inv : Inv} {k : Nat} {x0 x1 x3 x18 : Value} {h : AH} {K : XE → Act → AH → Option β} : kCode env 76 false inv k (cr (cl (cl (cr (cl (cl (cr c76))))))) (act 19 [(0, x0), (1, x1), (3, x3), (18, x18)]) h K = brV x18 (kCode env 76 false inv k (cl (cr (cl (cl (cr (cl (cl (cr c76)))))))) (act 19 [(0, x0), (1, x1), (3, x3), (18, x18)]) h K) (kCode env 76 false inv k (cr (cr (cl (cl (cr (cl (cl (cr c76)))))))) (act 19 [(0, x0), (1, x1), (3, x3), (18, x18)]) h K) := (k_cond (by kernel_rfl)).trans (by kernel_rfl)
theorem r76_2 {β : Type} {inv : Inv} {k : Nat} {x0 x1 x3 x18 : Value} {h : AH} {K : XE → Act → AH → Option β} : kCode env 76 false inv k (cr (cr (cl (cl (cr c76))))) (act 19 [(0, x0), (1, x1), (3, x3), (18, x18)]) h K =
    bnd (pBin Try.prog Go.BinOp.sub 3 (Go.Operand.tmp 9) (Go.Operand.const (Go.Value.int Go.IntKind.i64 1)) x3 (Go.Value.int Go.IntKind.i64 1)) fun x10 =>
    K .normal (act 19 [(0, x0), (1, x1), (3, x10)]) h := (k_reg (by kernel_rfl)).trans (by kernel_rfl)
noncomputable def F76_lr {β : Type} (inv : Inv) (k : Nat) : Nat → Value → Value → Value → AH → (Value → Value → Value → Value → AH → Option β) → (Value → Value → Value → Value → AH → Option β) → Option β
  | 0, _, _, _, _, _, _ => none
  | j + 1, x0, x1, x3, h, ke0, kr =>
    bnd (pBin Try.prog Go.BinOp.geq 3 (Go.Operand.tmp 7) (Go.Operand.const (Go.Value.int Go.IntKind.i64 0)) x3 (Go.Value.int Go.IntKind.i64 0)) fun x8 =>
    brV x8
    (bnd (pLoad Try.prog 26 x1 h) fun x13 =>
    bnd (pIndexAddr Try.prog 26 x13 x3) fun x15 =>
    bnd (pLoad Try.prog 5 x15 h) fun x16 =>
    bnd (callV inv x0 #[x3, x16] h) fun x17 =>
    bnd (pUn Try.prog Go.UnOp.not x17.1) fun x18 =>
    brV x18
    (kr x0 x1 x3 x18 x17.2)
    (bnd (pBin Try.prog Go.BinOp.sub 3 (Go.Operand.tmp 9) (Go.Operand.const (Go.Value.int Go.IntKind.i64 1)) x3 (Go.Value.int Go.IntKind.i64 1)) fun x10 =>
    F76_lr inv k j x0 x1 x10 x17.2 ke0 kr))
    (ke0 x0 x1 x3 x8 h)
theorem F76_lr_j {β : Type} {inv : Inv} {k : Nat} (j : Nat) {x0 x1 x3 : Value} {h : AH} {K : XE → Act → AH → Option β} : kLoop (kCode env 76 false inv k (cl (cl (cr c76)))) j (act 19 [(0, x0), (1, x1), (3, x3)]) h K = F76_lr inv k j x0 x1 x3 h (fun y0 y1 y3 y8 h => K (.exit 0) (act 19 [(0, y0), (1, y1), (3, y3), (8, y8)]) h) (fun y0 y1 y3 y18 h => K .ret (act 19 [(0, y0), (1, y1), (3, y3), (18, y18)]) h) := by
      induction j generalizing x0 x1 x3 h with
      | zero => rfl
      | succ j ih =>
        unfold F76_lr
        simp only [kLoop, k_seq (E := env) (f := 76) (c := (cl (cl (cr c76)))) (by kernel_rfl), k_seq (E := env) (f := 76) (c := (cl (cl (cl (cr c76))))) (by kernel_rfl), r76_1, b76_rlllr, k_skip (E := env) (f := 76) (c := (cl (cr (cl (cl (cl (cr c76))))))) (by kernel_rfl), k_seq (E := env) (f := 76) (c := (cr (cl (cl (cr c76))))) (by kernel_rfl), k_block (E := env) (f := 76) (c := (cl (cr (cl (cl (cr c76)))))) (id := 1) (by kernel_rfl), k_seq (E := env) (f := 76) (c := (cl (cl (cr (cl (cl (cr c76))))))) (by kernel_rfl), r76_3, b76_rllrllr, k_ret (E := env) (f := 76) (c := (cl (cr (cl (cl (cr (cl (cl (cr c76))))))))) (by kernel_rfl), k_skip (E := env) (f := 76) (c := (cr (cr (cl (cl (cr (cl (cl (cr c76))))))))) (by kernel_rfl), r76_2, k_exit (E := env) (f := 76) (c := (cr (cr (cl (cl (cl (cr c76))))))) (id := 0) (by kernel_rfl), ih, reduceIte, reduceCtorEq, XE.exit.injEq, Nat.reduceEqDiff] <;> kernel_rfl
theorem F76_lr_eq {β : Type} {inv : Inv} {k : Nat} {x0 x1 x3 : Value} {h : AH} {K : XE → Act → AH → Option β} : kCode env 76 false inv k (cl (cr c76)) (act 19 [(0, x0), (1, x1), (3, x3)]) h K = F76_lr inv k k x0 x1 x3 h (fun y0 y1 y3 y8 h => K (.exit 0) (act 19 [(0, y0), (1, y1), (3, y3), (8, y8)]) h) (fun y0 y1 y3 y18 h => K .ret (act 19 [(0, y0), (1, y1), (3, y3), (18, y18)]) h) := (k_loop (by kernel_rfl)).trans (F76_lr_j k)
theorem res76_0 {x0 x1 x3 x8 : Value} {h : AH} : resOfFn env.P 76 .normal (act 19 [(0, x0), (1, x1), (3, x3), (8, x8)]) h = some (.tuple #[], h) := (resOfFn_k (by kernel_rfl) (by kernel_rfl)).trans (by kernel_rfl)
theorem res76_1 {x0 x1 x3 x18 : Value} {h : AH} : resOfFn env.P 76 .ret (act 19 [(0, x0), (1, x1), (3, x3), (18, x18)]) h = some (.tuple #[], h) := (resOfFn_k (by kernel_rfl) (by kernel_rfl)).trans (by kernel_rfl)
/-- slices.Backward[[]byte,byte]$1 -/
noncomputable def F76 (inv : Inv) (k : Nat) (x0 x1 : Value) (h : AH) : Option (Value × AH) :=
    bnd (pLoad Try.prog 26 x1 h) fun x4 =>
    bnd (pLen Try.prog #[26] x4 h) fun x5 =>
    bnd (pBin Try.prog Go.BinOp.sub 3 (Go.Operand.tmp 5) (Go.Operand.const (Go.Value.int Go.IntKind.i64 1)) x5 (Go.Value.int Go.IntKind.i64 1)) fun x6 =>
    F76_lr inv k k x0 x1 x6 h
    (fun y0 y1 y3 y8 h =>
    some (.tuple #[], h))
    (fun y0_1 y1_2 y3_3 y18 h_4 =>
    some (.tuple #[], h_4))
theorem F76_eq {inv : Inv} {k : Nat} {x0 x1 : Value} {h : AH} : eFun env k inv 76 #[x0, x1] h = F76 inv k x0 x1 h := by
      refine (eFun_k2 (by kernel_rfl) (by kernel_rfl) (by kernel_rfl) (a := act 19 [(0, x0), (1, x1)]) (c := c76) (by kernel_rfl) (by kernel_rfl)).trans ?_
      unfold F76
      simp only [k_seq (E := env) (f := 76) (c := c76) (by kernel_rfl), r76_0, k_block (E := env) (f := 76) (c := (cr c76)) (id := 0) (by kernel_rfl), F76_lr_eq, res76_0, res76_1, reduceIte, reduceCtorEq, XE.exit.injEq, Nat.reduceEqDiff] <;> kernel_rfl
noncomputable def c77 : Code := codeOf Try.prog 77
theorem r77_0 {β : Type} {inv : Inv} {k : Nat} {x0 x1 : Value} {h : AH} {K : XE → Act → AH → Option β} : kCode env 77 false inv k (cl c77) (act 19 [(0, x0), (1, x1)]) h K =
    K .normal (act 19 [(0, x0), (1, x1)]) h := (k_reg (by kernel_rfl)).trans (by kernel_rfl)
theorem r77_1 {β : Type} {inv : Inv} {k : Nat} {x0 x1 : Value} {h : AH} {K : XE → Act → AH → Option β} : kCode env 77 false inv k (cl (cl (cr c77))) (act 19 [(0, x0), (1, x1)]) h K =
    bnd (pLen Try.prog #[26] x0 h) fun x7 =>
    K .normal (act 19 [(0, x0), (1, x1), (7, x7), (8, (Go.Value.int Go.IntKind.i64 0))]) h := (k_reg (by kernel_rfl)).trans (by kernel_rfl)
theorem r77_2 {β : Type} {inv : Inv} {k : Nat} {x0 x1 x7 x8 : Value} {h : AH} {K : XE → Act → AH → Option β} : kCode env 77 false inv k (cl (cl (cl (cr (cl (cr c77)))))) (act 19 [(0, x0), (1, x1), (7, x7), (8, x8)]) h K =
    bnd (pBin Try.prog Go.BinOp.lss 3 (Go.Operand.tmp 8) (Go.Operand.tmp 7) x8 x7) fun x9 =>
    K .normal (act 19 [(0, x0), (1, x1), (7, x7), (8, x8), (9, x9)]) h := (k_reg (by kernel_rfl)).trans (by kernel_rfl)
theorem b77_lrllrlr {β : Type} {inv : Inv} {k : Nat} {x0 x1 x7 x8 x9 : Value} {h : AH} {K : XE → Act → AH → Option β} : kCode env 77 false inv k (cl (cr (cl (cl (cr (cl (cr c77))))))) (act 19 [(0, x0), (1, x1), (7, x7), (8, x8), (9, x9)]) h K = brV x9 (kCode env 77 false inv k (cl (cl (cr (cl (cl (cr (cl (cr c77)))))))) (act 19 [(0, x0), (1, x1), (7, x7), (8, x8), (9, x9)]) h K) (kCode env 77 false inv k (cr (cl (cr (cl (cl (cr (cl (cr c77)))))))) (act 19 [(0, x0), (1, x1), (7, x7), (8, x8), (9, x9)]) h K) := (k_cond (by kernel_rfl)).trans (by kernel_rfl)
theorem r77_3 {β : Type} {inv : Inv} {k : Nat} {x0 x1 x7 x8 x9 : Value} {h : AH} {K : XE → Act → AH → Option β} : kCode env 77 false inv k (cl (cl (cl (cr (cr (cl (cl (cr (cl (cr c77)))))))))) (act 19 [(0, x0), (1, x1), (7, x7), (8, x8), (9, x9)]) h K =
    K .normal (act 19 [(0, x0), (1, x1), (5, x8), (7, x7), (8, x8)]) h := (k_reg (by kernel_rfl)).trans (by kernel_rfl)
theorem r77_4 {β : Type} {inv : Inv} {k : Nat} {x0 x1 x5 x7 x8 : Value} {h : AH} {K : XE → Act → AH → Option β} : kCode env 77 false inv k (cl (cr (cl (cl (cr (cr (cl (cl (cr (cl (cr c77))))))))))) (act 19 [(0, x0), (1, x1), (5, x5), (7, x7), (8, x8)]) h K =
    bnd (pIndexAddr Try.prog 26 x0 x5) fun x14 =>
    bnd (pLoad Try.prog 5 x14 h) fun x15 =>
    bnd (callV inv x1 #[x15] h) fun x16 =>
    K .normal (act 19 [(0, x0), (1, x1), (5, x5), (7, x7), (8, x8), (16, x16.1)]) x16.2 := (k_reg (by kernel_rfl)).trans (by kernel_rfl)
theorem b77_rrllrrllrlr {β : Type} {inv : Inv} {k : Nat} {x0 x1 x5 x7 x8 x16 : Value} {h : AH} {K : XE → Act → AH → Option β} : kCode env 77 false inv k (cr (cr (cl (cl (cr (cr (cl (cl (cr (cl (cr c77))))))))))) (act 19 [(0, x0), (1, x1), (5, x5), (7, x7), (8, x8), (16, x16)]) h K = brV x16 (kCode env 77 false inv k (cl (cr (cr (cl (cl (cr (cr (cl (cl (cr (cl (cr c77)))))))))))) (act 19 [(0, x0), (1, x1), (5, x5), (7, x7), (8, x8), (16, x16)]) h K) (kCode env 77 false inv k (cr (cr (cr (cl (cl (cr (cr (cl (cl (cr (cl (cr c77)))))))))))) (act 19 [(0, x0), (1, x1), (5, x5), (7, x7), (8, x8), (16, x16)]) h K) := (k_cond (by kernel_rfl)).trans (by kernel_rfl)
theorem r77_5 {β : Type} {inv : Inv} {k : Nat} {x0 x1 x5 x7 x8 x16 : Value} {h : AH} {K : XE → Act → AH → Option β} : kCode env 77 false inv k (cl (cl (cr (cr (cl (cl (cr (cr (cl (cl (cr (cl (cr c77))))))))))))) (act 19 [(0, x0), (1, x1), (5, x5), (7, x7), (8, x8), (16, x16)]) h K =
    K .normal (act 19 [(4, x5)]) h := (k_reg (by kernel_rfl)).trans (by kernel_rfl)
theorem r77_6 {β : Type} {inv : Inv} {k : Nat} {x0 x1 x5 x7 x8 x16 : Value} {h : AH} {K : XE → Act → AH → Option β} : kCode env 77 false inv k (cr (cr (cr (cl (cl (cr (cl (cr c77)))))))) (act 19 [(0, x0), (1, x1), (5, x5), (7, x7), (8, x8), (16, x16)]) h K =
    bnd (pBin Try.prog Go.BinOp.add 3 (Go.Operand.tmp 8) (Go.Operand.const (Go.Value.int Go.IntKind.i64 1)) x8 (Go.Value.int Go.IntKind.i64 1)) fun x18 =>
    K .normal (act 19 [(0, x0), (1, x1), (7, x7), (8, x18)]) h := (k_reg (by kernel_rfl)).trans (by kernel_rfl)
noncomputable def F77_lrlr {β : Type} (inv : Inv) (k : Nat) : Nat → Value → Value → Value → Value → AH → (Value → Value → Value → Value → Value → AH → Option β) → (Value → AH → Option β) → Option β
  | 0, _, _, _, _, _, _, _ => none
  | j + 1, x0, x1, x7, x8, h, ke0, kr =>
    bnd (pBin Try.prog Go.BinOp.lss 3 (Go.Operand.tmp 8) (Go.Operand.tmp 7) x8 x7) fun x9 =>
    brV x9
    (bnd (pIndexAddr Try.prog 26 x0 x8) fun x14 =>
    bnd (pLoad Try.prog 5 x14 h) fun x15 =>
    bnd (callV inv x1 #[x15] h) fun x16 =>
    brV x16.1
    (kr x8 x16.2)
    (bnd (pBin Try.prog Go.BinOp.add 3 (Go.Operand.tmp 8) (Go.Operand.const (Go.Value.int Go.IntKind.i64 1)) x8 (Go.Value.int Go.IntKind.i64 1)) fun x18 =>
    F77_lrlr inv k j x0 x1 x7 x18 x16.2 ke0 kr))
    (ke0 x0 x1 x7 x8 x9 h)
theorem F77_lrlr_j {β : Type} {inv : Inv} {k : Nat} (j : Nat) {x0 x1 x7 x8 : Value} {h : AH} {K : XE → Act → AH → Option β} : kLoop (kCode env 77 false inv k (cl (cl (cr (cl (cr c77)))))) j (act 19 [(0, x0), (1, x1), (7, x7), (8, x8)]) h K = F77_lrlr inv k j x0 x1 x7 x8 h (fun y0 y1 y7 y8 y9 h => K (.exit 0) (act 19 [(0, y0), (1, y1), (7, y7), (8, y8), (9, y9)]) h) (fun y4 h => K .ret (act 19 [(4, y4)]) h) := by
      induction j generalizing x0 x1 x7 x8 h with
      | zero => rfl
      | succ j ih =>
        unfold F77_lrlr
        simp only [kLoop, k_seq (E := env) (f := 77) (c := (cl (cl (cr (cl (cr c77)))))) (by kernel_rfl), r77_2, k_seq (E := env) (f := 77) (c := (cr (cl (cl (cr (cl (cr c77))))))) (by kernel_rfl), b77_lrllrlr, k_skip (E := env) (f := 77) (c := (cl (cl (cr (cl (cl (cr (cl (cr c77))))))))) (by kernel_rfl), k_seq (E := env) (f := 77) (c := (cr (cr (cl (cl (cr (cl (cr c77)))))))) (by kernel_rfl), k_block (E := env) (f := 77) (c := (cl (cr (cr (cl (cl (cr (cl (cr c77))))))))) (id := 1) (by kernel_rfl), k_seq (E := env) (f := 77) (c := (cl (cl (cr (cr (cl (cl (cr (cl (cr c77)))))))))) (by kernel_rfl), r77_3, k_seq (E := env) (f := 77) (c := (cr (cl (cl (cr (cr (cl (cl (cr (cl (cr c77))))))))))) (by kernel_rfl), r77_4, b77_rrllrrllrlr, k_seq (E := env) (f := 77) (c := (cl (cr (cr (cl (cl (cr (cr (cl (cl (cr (cl (cr c77))))))))))))) (by kernel_rfl), r77_5, k_ret (E := env) (f := 77) (c := (cr (cl (cr (cr (cl (cl (cr (cr (cl (cl (cr (cl (cr c77)))))))))))))) (by kernel_rfl), k_skip (E := env) (f := 77) (c := (cr (cr (cr (cl (cl (cr (cr (cl (cl (cr (cl (cr c77))))))))))))) (by kernel_rfl), r77_6, k_exit (E := env) (f := 77) (c := (cr (cl (cr (cl (cl (cr (cl (cr c77))))))))) (id := 0) (by kernel_rfl), ih, reduceIte, reduceCtorEq, XE.exit.injEq, Nat.reduceEqDiff] <;> kernel_rfl
theorem F77_lrlr_eq {β : Type} {inv : Inv} {k : Nat} {x0 x1 x7 x8 : Value} {h : AH} {K : XE → Act → AH → Option β} : kCode env 77 false inv k (cl (cr (cl (cr c77)))) (act 19 [(0, x0), (1, x1), (7, x7), (8, x8)]) h K = F77_lrlr inv k k x0 x1 x7 x8 h (fun y0 y1 y7 y8 y9 h => K (.exit 0) (act 19 [(0, y0), (1, y1), (7, y7), (8, y8), (9, y9)]) h) (fun y4 h => K .ret (act 19 [(4, y4)]) h) := (k_loop (by kernel_rfl)).trans (F77_lrlr_j k)
theorem r77_7 {β : Type} {inv : Inv} {k : Nat} {x0 x1 x7 x8 x9 : Value} {h : AH} {K : XE → Act → AH → Option β} : kCode env 77 false inv k (cl (cr (cr c77))) (act 19 [(0, x0), (1, x1), (7, x7), (8, x8), (9, x9)]) h K =
    K .normal (act 19 [(4, (Go.Value.int Go.IntKind.i64 (-1)))]) h := (k_reg (by kernel_rfl)).trans (by kernel_rfl)
theorem res77_0 {x4 : Value} {h : AH} : resOfFn env.P 77 .ret (act 19 [(4, x4)]) h = some (x4, h) := (resOfFn_k (by kernel_rfl) (by kernel_rfl)).trans (by kernel_rfl)
/-- slices.IndexFunc[[]byte,byte] -/
noncomputable def F77 (inv : Inv) (k : Nat) (x0 x1 : Value) (h : AH) : Option (Value × AH) :=
    bnd (pLen Try.prog #[26] x0 h) fun x7 =>
    F77_lrlr inv k k x0 x1 x7 (Go.Value.int Go.IntKind.i64 0) h
    (fun y0 y1 y7 y8 y9 h =>
    some ((Go.Value.int Go.IntKind.i64 (-1)), h))
    (fun y4 h_1 =>
    some (y4, h_1))
theorem F77_eq {inv : Inv} {k : Nat} {x0 x1 : Value} {h : AH} : eFun env k inv 77 #[x0, x1] h = F77 inv k x0 x1 h := by
      refine (eFun_k2 (by kernel_rfl) (by kernel_rfl) (by kernel_rfl) (a := act 19 [(0, x0), (1, x1)]) (c := c77) (by kernel_rfl) (by kernel_rfl)).trans ?_
      unfold F77
      simp only [k_seq (E := env) (f := 77) (c := c77) (by kernel_rfl), r77_0, k_seq (E := env) (f := 77) (c := (cr c77)) (by kernel_rfl), k_seq (E := env) (f := 77) (c := (cl (cr c77))) (by kernel_rfl), r77_1, k_block (E := env) (f := 77) (c := (cr (cl (cr c77)))) (id := 0) (by kernel_rfl), F77_lrlr_eq, k_seq (E := env) (f := 77) (c := (cr (cr c77))) (by kernel_rfl), r77_7, k_ret (E := env) (f := 77) (c := (cr (cr (cr c77)))) (by kernel_rfl), res77_0, reduceIte, reduceCtorEq, XE.exit.injEq, Nat.reduceEqDiff] <;> kernel_rfl
noncomputable def c78 : Code := codeOf Try.prog 78
theorem r78_0 {β : Type} {inv : Inv} {k : Nat} {x0 x1 : Value} {h : AH} {K : XE → Act → AH → Option β} : kCode env 78 false inv k (cl c78) (act 17 [(0, x0), (1, x1)]) h K =
    K .normal (act 17 [(0, x0), (1, x1)]) h := (k_reg (by kernel_rfl)).trans (by kernel_rfl)
theorem r78_1 {β : Type} {inv : Inv} {k : Nat} {x0 x1 : Value} {h : AH} {K : XE → Act → AH → Option β} : kCode env 78 false inv k (cl (cr c78)) (act 17 [(0, x0), (1, x1)]) h K =
    bnd (pConv Try.prog 97 51 x0 h) fun x8 =>
    bnd (pConv Try.prog 97 51 x1 h) fun x10 =>
    bnd (pBin Try.prog Go.BinOp.mul 51 (Go.Operand.tmp 8) (Go.Operand.tmp 10) x8 x10) fun x11 =>
    K .normal (act 17 [(6, x11)]) h := (k_reg (by kernel_rfl)).trans (by kernel_rfl)
theorem r78_2 {β : Type} {inv : Inv} {k : Nat} {x6 : Value} {h : AH} {K : XE → Act → AH → Option β} : kCode env 78 false inv k (cl (cr (cr c78))) (act 17 [(6, x6)]) h K =
    bnd (pBin Try.prog Go.BinOp.shr 51 (Go.Operand.tmp 12) (Go.Operand.const (Go.Value.int Go.IntKind.u64 32)) x6 (Go.Value.int Go.IntKind.u64 32)) fun x13 =>
    bnd (pConv Try.prog 51 97 x13 h) fun x14 =>
    bnd (pConv Try.prog 51 97 x6 h) fun x16 =>
    K .normal (act 17 [(4, x14), (5, x16)]) h := (k_reg (by kernel_rfl)).trans (by kernel_rfl)
theorem res78_0 {x4 x5 : Value} {h : AH} : resOfFn env.P 78 .ret (act 17 [(4, x4), (5, x5)]) h = some (.tuple #[x4, x5], h) := (resOfFn_k (by kernel_rfl) (by kernel_rfl)).trans (by kernel_rfl)
/-- math/bits.Mul32 -/
noncomputable def F78 (inv : Inv) (k : Nat) (x0 x1 : Value) (h : AH) : Option (Value × AH) :=
    bnd (pConv Try.prog 97 51 x0 h) fun x8 =>
    bnd (pConv Try.prog 97 51 x1 h) fun x10 =>
    bnd (pBin Try.prog Go.BinOp.mul 51 (Go.Operand.tmp 8) (Go.Operand.tmp 10) x8 x10) fun x11 =>
    bnd (pBin Try.prog Go.BinOp.shr 51 (Go.Operand.tmp 12) (Go.Operand.const (Go.Value.int Go.IntKind.u64 32)) x11 (Go.Value.int Go.IntKind.u64 32)) fun x13 =>
    bnd (pConv Try.prog 51 97 x13 h) fun x14 =>
    bnd (pConv Try.prog 51 97 x11 h) fun x16 =>
    some (.tuple #[x14, x16], h)
theorem F78_eq {inv : Inv} {k : Nat} {x0 x1 : Value} {h : AH} : eFun env k inv 78 #[x0, x1] h = F78 inv k x0 x1 h := by
      refine (eFun_k2 (by kernel_rfl) (by kernel_rfl) (by kernel_rfl) (a := act 17 [(0, x0), (1, x1)]) (c := c78) (by kernel_rfl) (by kernel_rfl)).trans ?_
      unfold F78
      simp only [k_seq (E := env) (f := 78) (c := c78) (by kernel_rfl), r78_0, k_seq (E := env) (f := 78) (c := (cr c78)) (by kernel_rfl), r78_1, k_seq (E := env) (f := 78) (c := (cr (cr c78))) (by kernel_rfl), r78_2, k_ret (E := env) (f := 78) (c := (cr (cr (cr c78)))) (by kernel_rfl), res78_0, reduceIte, reduceCtorEq, XE.exit.injEq, Nat.reduceEqDiff] <;> kernel_rfl
noncomputable def c79 : Code := codeOf Try.prog 79
theorem r79_0 {β : Type} {inv : Inv} {k : Nat} {x0 x1 : Value} {h : AH} {K : XE → Act → AH → Option β} : kCode env 79 false inv k (cl c79) (act 51 [(0, x0), (1, x1)]) h K =
    K .normal (act 51 [(0, x0), (1, x1)]) h := (k_reg (by kernel_rfl)).trans (by kernel_rfl)
theorem r79_1 {β : Type} {inv : Inv} {k : Nat} {x0 x1 : Value} {h : AH} {K : XE → Act → AH → Option β} : kCode env 79 false inv k (cl (cr c79)) (act 51 [(0, x0), (1, x1)]) h K =
    bnd (pBin Try.prog Go.BinOp.and 51 (Go.Operand.tmp 14) (Go.Operand.const (Go.Value.int Go.IntKind.u64 4294967295)) x0 (Go.Value.int Go.IntKind.u64 4294967295)) fun x15 =>
    K .normal (act 51 [(0, x0), (1, x1), (6, x15)]) h := (k_reg (by kernel_rfl)).trans (by kernel_rfl)
theorem r79_2 {β : Type} {inv : Inv} {k : Nat} {x0 x1 x6 : Value} {h : AH} {K : XE → Act → AH → Option β} : kCode env 79 false inv k (cl (cr (cr c79))) (act 51 [(0, x0), (1, x1), (6, x6)]) h K =
    bnd (pBin Try.prog Go.BinOp.shr 51 (Go.Operand.tmp 16) (Go.Operand.const (Go.Value.int Go.IntKind.u64 32)) x0 (Go.Value.int Go.IntKind.u64 32)) fun x17 =>
    K .normal (act 51 [(0, x0), (1, x1), (6, x6), (7, x17)]) h := (k_reg (by kernel_rfl)).trans (by kernel_rfl)
theorem r79_3 {β : Type} {inv : Inv} {k : Nat} {x0 x1 x6 x7 : Value} {h : AH} {K : XE → Act → AH → Option β} : kCode env 79 false inv k (cl (cr (cr (cr c79)))) (act 51 [(0, x0), (1, x1), (6, x6), (7, x7)]) h K =
    bnd (pBin Try.prog Go.BinOp.and 51 (Go.Operand.tmp 18) (Go.Operand.const (Go.Value.int Go.IntKind.u64 4294967295)) x1 (Go.Value.int Go.IntKind.u64 4294967295)) fun x19 =>
    K .normal (act 51 [(0, x0), (1, x1), (6, x6), (7, x7), (8, x19)]) h := (k_reg (by kernel_rfl)).trans (by kernel_rfl)
theorem r79_4 {β : Type} {inv : Inv} {k : Nat} {x0 x1 x6 x7 x8 : Value} {h : AH} {K : XE → Act → AH → Option β} : kCode env 79 false inv k (cl (cr (cr (cr (cr c79))))) (act 51 [(0, x0), (1, x1), (6, x6), (7, x7), (8, x8)]) h K =
    bnd (pBin Try.prog Go.BinOp.shr 51 (Go.Operand.tmp 20) (Go.Operand.const (Go.Value.int Go.IntKind.u64 32)) x1 (Go.Value.int Go.IntKind.u64 32)) fun x21 =>
    K .normal (act 51 [(0, x0), (1, x1), (6, x6), (7, x7), (8, x8), (9, x21)]) h := (k_reg (by kernel_rfl)).trans (by kernel_rfl)
theorem r79_5 {β : Type} {inv : Inv} {k : Nat} {x0 x1 x6 x7 x8 x9 : Value} {h : AH} {K : XE → Act → AH → Option β} : kCode env 79 false inv k (cl (cr (cr (cr (cr (cr c79)))))) (act 51 [(0, x0), (1, x1), (6, x6), (7, x7), (8, x8), (9, x9)]) h K =
    bnd (pBin Try.prog Go.BinOp.mul 51 (Go.Operand.tmp 22) (Go.Operand.tmp 23) x6 x8) fun x24 =>
    K .normal (act 51 [(0, x0), (1, x1), (6, x6), (7, x7), (8, x8), (9, x9), (10, x24)]) h := (k_reg (by kernel_rfl)).trans (by kernel_rfl)
theorem r79_6 {β : Type} {inv : Inv} {k : Nat} {x0 x1 x6 x7 x8 x9 x10 : Value} {h : AH} {K : XE → Act → AH → Option β} : kCode env 79 false inv k (cl (cr (cr (cr (cr (cr (cr c79))))))) (act 51 [(0, x0), (1, x1), (6, x6), (7, x7), (8, x8), (9, x9), (10, x10)]) h K =
    bnd (pBin Try.prog Go.BinOp.mul 51 (Go.Operand.tmp 25) (Go.Operand.tmp 26) x7 x8) fun x27 =>
    bnd (pBin Try.prog Go.BinOp.shr 51 (Go.Operand.tmp 28) (Go.Operand.const (Go.Value.int Go.IntKind.u64 32)) x10 (Go.Value.int Go.IntKind.u64 32)) fun x29 =>
    bnd (pBin Try.prog Go.BinOp.add 51 (Go.Operand.tmp 27) (Go.Operand.tmp 29) x27 x29) fun x30 =>
    K .normal (act 51 [(0, x0), (1, x1), (6, x6), (7, x7), (9, x9), (11, x30)]) h := (k_reg (by kernel_rfl)).trans (by kernel_rfl)
theorem r79_7 {β : Type} {inv : Inv} {k : Nat} {x0 x1 x6 x7 x9 x11 : Value} {h : AH} {K : XE → Act → AH → Option β} : kCode env 79 false inv k (cl (cr (cr (cr (cr (cr (cr (cr c79)))))))) (act 51 [(0, x0), (1, x1), (6, x6), (7, x7), (9, x9), (11, x11)]) h K =
    bnd (pBin Try.prog Go.BinOp.and 51 (Go.Operand.tmp 31) (Go.Operand.const (Go.Value.int Go.IntKind.u64 4294967295)) x11 (Go.Value.int Go.IntKind.u64 4294967295)) fun x32 =>
    K .normal (act 51 [(0, x0), (1, x1), (6, x6), (7, x7), (9, x9), (11, x11), (12, x32)]) h := (k_reg (by kernel_rfl)).trans (by kernel_rfl)
theorem r79_8 {β : Type} {inv : Inv} {k : Nat} {x0 x1 x6 x7 x9 x11 x12 : Value} {h : AH} {K : XE → Act → AH → Option β} : kCode env 79 false inv k (cl (cr (cr (cr (cr (cr (cr (cr (cr c79))))))))) (act 51 [(0, x0), (1, x1), (6, x6), (7, x7), (9, x9), (11, x11), (12, x12)]) h K =
    bnd (pBin Try.prog Go.BinOp.shr 51 (Go.Operand.tmp 33) (Go.Operand.const (Go.Value.int Go.IntKind.u64 32)) x11 (Go.Value.int Go.IntKind.u64 32)) fun x34 =>
    K .normal (act 51 [(0, x0), (1, x1), (6, x6), (7, x7), (9, x9), (12, x12), (13, x34)]) h := (k_reg (by kernel_rfl)).trans (by kernel_rfl)
theorem r79_9 {β : Type} {inv : Inv} {k : Nat} {x0 x1 x6 x7 x9 x12 x13 : Value} {h : AH} {K : XE → Act → AH → Option β} : kCode env 79 false inv k (cl (cr (cr (cr (cr (cr (cr (cr (cr (cr c79)))))))))) (act 51 [(0, x0), (1, x1), (6, x6), (7, x7), (9, x9), (12, x12), (13, x13)]) h K =
    bnd (pBin Try.prog Go.BinOp.mul 51 (Go.Operand.tmp 36) (Go.Operand.tmp 37) x6 x9) fun x38 =>
    bnd (pBin Try.prog Go.BinOp.add 51 (Go.Operand.tmp 35) (Go.Operand.tmp 38) x12 x38) fun x39 =>
    K .normal (act 51 [(0, x0), (1, x1), (7, x7), (9, x9), (12, x39), (13, x13)]) h := (k_reg (by kernel_rfl)).trans (by kernel_rfl)
theorem r79_10 {β : Type} {inv : Inv} {k : Nat} {x0 x1 x7 x9 x12 x13 : Value} {h : AH} {K : XE → Act → AH → Option β} : kCode env 79 false inv k (cl (cr (cr (cr (cr (cr (cr (cr (cr (cr (cr c79))))))))))) (act 51 [(0, x0), (1, x1), (7, x7), (9, x9), (12, x12), (13, x13)]) h K =
    bnd (pBin Try.prog Go.BinOp.mul 51 (Go.Operand.tmp 40) (Go.Operand.tmp 41) x7 x9) fun x42 =>
    bnd (pBin Try.prog Go.BinOp.add 51 (Go.Operand.tmp 42) (Go.Operand.tmp 43) x42 x13) fun x44 =>
    bnd (pBin Try.prog Go.BinOp.shr 51 (Go.Operand.tmp 45) (Go.Operand.const (Go.Value.int Go.IntKind.u64 32)) x12 (Go.Value.int Go.IntKind.u64 32)) fun x46 =>
    bnd (pBin Try.prog Go.BinOp.add 51 (Go.Operand.tmp 44) (Go.Operand.tmp 46) x44 x46) fun x47 =>
    K .normal (act 51 [(0, x0), (1, x1), (4, x47)]) h := (k_reg (by kernel_rfl)).trans (by kernel_rfl)
theorem r79_11 {β : Type} {inv : Inv} {k : Nat} {x0 x1 x4 : Value} {h : AH} {K : XE → Act → AH → Option β} : kCode env 79 false inv k (cl (cr (cr (cr (cr (cr (cr (cr (cr (cr (cr (cr c79)))))))))))) (act 51 [(0, x0), (1, x1), (4, x4)]) h K =
    bnd (pBin Try.prog Go.BinOp.mul 51 (Go.Operand.tmp 48) (Go.Operand.tmp 49) x0 x1) fun x50 =>
    K .normal (act 51 [(4, x4), (5, x50)]) h := (k_reg (by kernel_rfl)).trans (by kernel_rfl)
theorem res79_0 {x4 x5 : Value} {h : AH} : resOfFn env.P 79 .ret (act 51 [(4, x4), (5, x5)]) h = some (.tuple #[x4, x5], h) := (resOfFn_k (by kernel_rfl) (by kernel_rfl)).trans (by kernel_rfl)
/-- math/bits.Mul64 -/
noncomputable def F79 (inv : Inv) (k : Nat) (x0 x1 : Value) (h : AH) : Option (Value × AH) :=
    bnd (pBin Try.prog Go.BinOp.and 51 (Go.Operand.tmp 14) (Go.Operand.const (Go.Value.int Go.IntKind.u64 4294967295)) x0 (Go.Value.int Go.IntKind.u64 4294967295)) fun x15 =>
    bnd (pBin Try.prog Go.BinOp.shr 51 (Go.Operand.tmp 16) (Go.Operand.const (Go.Value.int Go.IntKind.u64 32)) x0 (Go.Value.int Go.IntKind.u64 32)) fun x17 =>
    bnd (pBin Try.prog Go.BinOp.and 51 (Go.Operand.tmp 18) (Go.Operand.const (Go.Value.int Go.IntKind.u64 4294967295)) x1 (Go.Value.int Go.IntKind.u64 4294967295)) fun x19 =>
    bnd (pBin Try.prog Go.BinOp.shr 51 (Go.Operand.tmp 20) (Go.Operand.const (Go.Value.int Go.IntKind.u64 32)) x1 (Go.Value.int Go.IntKind.u64 32)) fun x21 =>
    bnd (pBin Try.prog Go.BinOp.mul 51 (Go.Operand.tmp 22) (Go.Operand.tmp 23) x15 x19) fun x24 =>
    bnd (pBin Try.prog Go.BinOp.mul 51 (Go.Operand.tmp 25) (Go.Operand.tmp 26) x17 x19) fun x27 =>
    bnd (pBin Try.prog Go.BinOp.shr 51 (Go.Operand.tmp 28) (Go.Operand.const (Go.Value.int Go.IntKind.u64 32)) x24 (Go.Value.int Go.IntKind.u64 32)) fun x29 =>
    bnd (pBin Try.prog Go.BinOp.add 51 (Go.Operand.tmp 27) (Go.Operand.tmp 29) x27 x29) fun x30 =>
    bnd (pBin Try.prog Go.BinOp.and 51 (Go.Operand.tmp 31) (Go.Operand.const (Go.Value.int Go.IntKind.u64 4294967295)) x30 (Go.Value.int Go.IntKind.u64 4294967295)) fun x32 =>
    bnd (pBin Try.prog Go.BinOp.shr 51 (Go.Operand.tmp 33) (Go.Operand.const (Go.Value.int Go.IntKind.u64 32)) x30 (Go.Value.int Go.IntKind.u64 32)) fun x34 =>
    bnd (pBin Try.prog Go.BinOp.mul 51 (Go.Operand.tmp 36) (Go.Operand.tmp 37) x15 x21) fun x38 =>
    bnd (pBin Try.prog Go.BinOp.add 51 (Go.Operand.tmp 35) (Go.Operand.tmp 38) x32 x38) fun x39 =>
    bnd (pBin Try.prog Go.BinOp.mul 51 (Go.Operand.tmp 40) (Go.Operand.tmp 41) x17 x21) fun x42 =>
    bnd (pBin Try.prog Go.BinOp.add 51 (Go.Operand.tmp 42) (Go.Operand.tmp 43) x42 x34) fun x44 =>
    bnd (pBin Try.prog Go.BinOp.shr 51 (Go.Operand.tmp 45) (Go.Operand.const (Go.Value.int Go.IntKind.u64 32)) x39 (Go.Value.int Go.IntKind.u64 32)) fun x46 =>
    bnd (pBin Try.prog Go.BinOp.add 51 (Go.Operand.tmp 44) (Go.Operand.tmp 46) x44 x46) fun x47 =>
    bnd (pBin Try.prog Go.BinOp.mul 51 (Go.Operand.tmp 48) (Go.Operand.tmp 49) x0 x1) fun x50 =>
    some (.tuple #[x47, x50], h)
theorem F79_eq {inv : Inv} {k : Nat} {x0 x1 : Value} {h : AH} : eFun env k inv 79 #[x0, x1] h = F79 inv k x0 x1 h := by
      refine (eFun_k2 (by kernel_rfl) (by kernel_rfl) (by kernel_rfl) (a := act 51 [(0, x0), (1, x1)]) (c := c79) (by kernel_rfl) (by kernel_rfl)).trans ?_
      unfold F79
      simp only [k_seq (E := env) (f := 79) (c := c79) (by kernel_rfl), r79_0, k_seq (E := env) (f := 79) (c := (cr c79)) (by kernel_rfl), r79_1, k_seq (E := env) (f := 79) (c := (cr (cr c79))) (by kernel_rfl), r79_2, k_seq (E := env) (f := 79) (c := (cr (cr (cr c79)))) (by kernel_rfl), r79_3, k_seq (E := env) (f := 79) (c := (cr (cr (cr (cr c79))))) (by kernel_rfl), r79_4, k_seq (E := env) (f := 79) (c := (cr (cr (cr (cr (cr c79)))))) (by kernel_rfl), r79_5, k_seq (E := env) (f := 79) (c := (cr (cr (cr (cr (cr (cr c79))))))) (by kernel_rfl), r79_6, k_seq (E := env) (f := 79) (c := (cr (cr (cr (cr (cr (cr (cr c79)))))))) (by kernel_rfl), r79_7, k_seq (E := env) (f := 79) (c := (cr (cr (cr (cr (cr (cr (cr (cr c79))))))))) (by kernel_rfl), r79_8, k_seq (E := env) (f := 79) (c := (cr (cr (cr (cr (cr (cr (cr (cr (cr c79)))))))))) (by kernel_rfl), r79_9, k_seq (E := env) (f := 79) (c := (cr (cr (cr (cr (cr (cr (cr (cr (cr (cr c79))))))))))) (by kernel_rfl), r79_10, k_seq (E := env) (f := 79) (c := (cr (cr (cr (cr (cr (cr (cr (cr (cr (cr (cr c79)))))))))))) (by kernel_rfl), r79_11, k_ret (E := env) (f := 79) (c := (cr (cr (cr (cr (cr (cr (cr (cr (cr (cr (cr (cr c79))))))))))))) (by kernel_rfl), res79_0, reduceIte, reduceCtorEq, XE.exit.injEq, Nat.reduceEqDiff] <;> kernel_rfl
noncomputable def c80 : Code := codeOf Try.prog 80
theorem r80_0 {β : Type} {inv : Inv} {k : Nat} {x0 x1 x2 : Value} {h : AH} {K : XE → Act → AH → Option β} : kCode env 80 false inv k (cl c80) (act 32 [(0, x0), (1, x1), (2, x2)]) h K =
    K .normal (act 32 [(0, x0), (1, x1), (2, x2), (6, (Go.Value.int Go.IntKind.u64 0))]) h := (k_reg (by kernel_rfl)).trans (by kernel_rfl)
theorem r80_1 {β : Type} {inv : Inv} {k : Nat} {x0 x1 x2 x6 : Value} {h : AH} {K : XE → Act → AH → Option β} : kCode env 80 false inv k (cl (cl (cr c80))) (act 32 [(0, x0), (1, x1), (2, x2), (6, x6)]) h K =
    K .normal (act 32 [(0, x0), (1, x1), (6, x6), (9, x2), (10, (Go.Value.int Go.IntKind.i64 0))]) h := (k_reg (by kernel_rfl)).trans (by kernel_rfl)
theorem r80_2 {β : Type} {inv : Inv} {k : Nat} {x0 x1 x6 x9 x10 : Value} {h : AH} {K : XE → Act → AH → Option β} : kCode env 80 false inv k (cl (cl (cl (cr (cl (cr c80)))))) (act 32 [(0, x0), (1, x1), (6, x6), (9, x9), (10, x10)]) h K =
    bnd (pBin Try.prog Go.BinOp.lss 3 (Go.Operand.tmp 10) (Go.Operand.tmp 9) x10 x9) fun x11 =>
    K .normal (act 32 [(0, x0), (1, x1), (6, x6), (9, x9), (10, x10), (11, x11)]) h := (k_reg (by kernel_rfl)).trans (by kernel_rfl)
theorem b80_lrllrlr {β : Type} {inv : Inv} {k : Nat} {x0 x1 x6 x9 x10 x11 : Value} {h : AH} {K : XE → Act → AH → Option β} : kCode env 80 false inv k (cl (cr (cl (cl (cr (cl (cr c80))))))) (act 32 [(0, x0), (1, x1), (6, x6), (9, x9), (10, x10), (11, x11)]) h K = brV x11 (kCode env 80 false inv k (cl (cl (cr (cl (cl (cr (cl (cr c80)))))))) (act 32 [(0, x0), (1, x1), (6, x6), (9, x9), (10, x10), (11, x11)]) h K) (kCode env 80 false inv k (cr (cl (cr (cl (cl (cr (cl (cr c80)))))))) (act 32 [(0, x0), (1, x1), (6, x6), (9, x9), (10, x10), (11, x11)]) h K) := (k_cond (by kernel_rfl)).trans (by kernel_rfl)
theorem r80_3 {β : Type} {inv : Inv} {k : Nat} {x0 x1 x6 x9 x10 x11 : Value} {h : AH} {K : XE → Act → AH → Option β} : kCode env 80 false inv k (cl (cl (cl (cr (cr (cl (cl (cr (cl (cr c80)))))))))) (act 32 [(0, x0), (1, x1), (6, x6), (9, x9), (10, x10), (11, x11)]) h K =
    K .normal (act 32 [(0, x0), (1, x1), (6, x6), (7, x10), (9, x9), (10, x10)]) h := (k_reg (by kernel_rfl)).trans (by kernel_rfl)
theorem r80_4 {β : Type} {inv : Inv} {k : Nat} {x0 x1 x6 x7 x9 x10 : Value} {h : AH} {K : XE → Act → AH → Option β} : kCode env 80 false inv k (cl (cr (cl (cl (cr (cr (cl (cl (cr (cl (cr c80))))))))))) (act 32 [(0, x0), (1, x1), (6, x6), (7, x7), (9, x9), (10, x10)]) h K =
    bnd (pBin Try.prog Go.BinOp.add 3 (Go.Operand.tmp 13) (Go.Operand.tmp 14) x1 x7) fun x15 =>
    K .normal (act 32 [(0, x0), (1, x1), (6, x6), (7, x7), (8, x15), (9, x9), (10, x10)]) h := (k_reg (by kernel_rfl)).trans (by kernel_rfl)
theorem r80_5 {β : Type} {inv : Inv} {k : Nat} {x0 x1 x6 x7 x8 x9 x10 : Value} {h : AH} {K : XE → Act → AH → Option β} : kCode env 80 false inv k (cr (cr (cl (cl (cr (cr (cl (cl (cr (cl (cr c80))))))))))) (act 32 [(0, x0), (1, x1), (6, x6), (7, x7), (8, x8), (9, x9), (10, x10)]) h K =
    bnd (pBin Try.prog Go.BinOp.quo 3 (Go.Operand.tmp 18) (Go.Operand.const (Go.Value.int Go.IntKind.i64 8)) x8 (Go.Value.int Go.IntKind.i64 8)) fun x19 =>
    bnd (pIndexAddr Try.prog 26 x0 x19) fun x20 =>
    bnd (pLoad Try.prog 5 x20 h) fun x21 =>
    bnd (pBin Try.prog Go.BinOp.rem 3 (Go.Operand.tmp 22) (Go.Operand.const (Go.Value.int Go.IntKind.i64 8)) x8 (Go.Value.int Go.IntKind.i64 8)) fun x23 =>
    bnd (pBin Try.prog Go.BinOp.shr 5 (Go.Operand.tmp 21) (Go.Operand.tmp 23) x21 x23) fun x24 =>
    bnd (pBin Try.prog Go.BinOp.and 5 (Go.Operand.tmp 24) (Go.Operand.const (Go.Value.int Go.IntKind.u8 1)) x24 (Go.Value.int Go.IntKind.u8 1)) fun x25 =>
    bnd (pConv Try.prog 5 51 x25 h) fun x26 =>
    bnd (pBin Try.prog Go.BinOp.shl 51 (Go.Operand.tmp 26) (Go.Operand.tmp 27) x26 x7) fun x28 =>
    bnd (pBin Try.prog Go.BinOp.or 51 (Go.Operand.tmp 16) (Go.Operand.tmp 28) x6 x28) fun x29 =>
    K .normal (act 32 [(0, x0), (1, x1), (6, x29), (9, x9), (10, x10)]) h := (k_reg (by kernel_rfl)).trans (by kernel_rfl)
theorem r80_6 {β : Type} {inv : Inv} {k : Nat} {x0 x1 x6 x9 x10 : Value} {h : AH} {K : XE → Act → AH → Option β} : kCode env 80 false inv k (cr (cr (cr (cl (cl (cr (cl (cr c80)))))))) (act 32 [(0, x0), (1, x1), (6, x6), (9, x9), (10, x10)]) h K =
    bnd (pBin Try.prog Go.BinOp.add 3 (Go.Operand.tmp 10) (Go.Operand.const (Go.Value.int Go.IntKind.i64 1)) x10 (Go.Value.int Go.IntKind.i64 1)) fun x30 =>
    K .normal (act 32 [(0, x0), (1, x1), (6, x6), (9, x9), (10, x30)]) h := (k_reg (by kernel_rfl)).trans (by kernel_rfl)
noncomputable def F80_lrlr {β : Type} (inv : Inv) (k : Nat) : Nat → Value → Value → Value → Value → Value → AH → (Value → Value → Value → Value → Value → Value → AH → Option β) → Option β
  | 0, _, _, _, _, _, _, _ => none
  | j + 1, x0, x1, x6, x9, x10, h, ke0 =>
    bnd (pBin Try.prog Go.BinOp.lss 3 (Go.Operand.tmp 10) (Go.Operand.tmp 9) x10 x9) fun x11 =>
    brV x11
    (bnd (pBin Try.prog Go.BinOp.add 3 (Go.Operand.tmp 13) (Go.Operand.tmp 14) x1 x10) fun x15 =>
    bnd (pBin Try.prog Go.BinOp.quo 3 (Go.Operand.tmp 18) (Go.Operand.const (Go.Value.int Go.IntKind.i64 8)) x15 (Go.Value.int Go.IntKind.i64 8)) fun x19 =>
    bnd (pIndexAddr Try.prog 26 x0 x19) fun x20 =>
    bnd (pLoad Try.prog 5 x20 h) fun x21 =>
    bnd (pBin Try.prog Go.BinOp.rem 3 (Go.Operand.tmp 22) (Go.Operand.const (Go.Value.int Go.IntKind.i64 8)) x15 (Go.Value.int Go.IntKind.i64 8)) fun x23 =>
    bnd (pBin Try.prog Go.BinOp.shr 5 (Go.Operand.tmp 21) (Go.Operand.tmp 23) x21 x23) fun x24 =>
    bnd (pBin Try.prog Go.BinOp.and 5 (Go.Operand.tmp 24) (Go.Operand.const (Go.Value.int Go.IntKind.u8 1)) x24 (Go.Value.int Go.IntKind.u8 1)) fun x25 =>
    bnd (pConv Try.prog 5 51 x25 h) fun x26 =>
    bnd (pBin Try.prog Go.BinOp.shl 51 (Go.Operand.tmp 26) (Go.Operand.tmp 27) x26 x10) fun x28 =>
    bnd (pBin Try.prog Go.BinOp.or 51 (Go.Operand.tmp 16) (Go.Operand.tmp 28) x6 x28) fun x29 =>
    bnd (pBin Try.prog Go.BinOp.add 3 (Go.Operand.tmp 10) (Go.Operand.const (Go.Value.int Go.IntKind.i64 1)) x10 (Go.Value.int Go.IntKind.i64 1)) fun x30 =>
    F80_lrlr inv k j x0 x1 x29 x9 x30 h ke0)
    (ke0 x0 x1 x6 x9 x10 x11 h)
theorem F80_lrlr_j {β : Type} {inv : Inv} {k : Nat} (j : Nat) {x0 x1 x6 x9 x10 : Value} {h : AH} {K : XE → Act → AH → Option β} : kLoop (kCode env 80 false inv k (cl (cl (cr (cl (cr c80)))))) j (act 32 [(0, x0), (1, x1), (6, x6), (9, x9), (10, x10)]) h K = F80_lrlr inv k j x0 x1 x6 x9 x10 h (fun y0 y1 y6 y9 y10 y11 h => K (.exit 0) (act 32 [(0, y0), (1, y1), (6, y6), (9, y9), (10, y10), (11, y11)]) h) := by
      induction j generalizing x0 x1 x6 x9 x10 h with
      | zero => rfl
      | succ j ih =>
        unfold F80_lrlr
        simp only [kLoop, k_seq (E := env) (f := 80) (c := (cl (cl (cr (cl (cr c80)))))) (by kernel_rfl), r80_2, k_seq (E := env) (f := 80) (c := (cr (cl (cl (cr (cl (cr c80))))))) (by kernel_rfl), b80_lrllrlr, k_skip (E := env) (f := 80) (c := (cl (cl (cr (cl (cl (cr (cl (cr c80))))))))) (by kernel_rfl), k_seq (E := env) (f := 80) (c := (cr (cr (cl (cl (cr (cl (cr c80)))))))) (by kernel_rfl), k_block (E := env) (f := 80) (c := (cl (cr (cr (cl (cl (cr (cl (cr c80))))))))) (id := 1) (by kernel_rfl), k_seq (E := env) (f := 80) (c := (cl (cl (cr (cr (cl (cl (cr (cl (cr c80)))))))))) (by kernel_rfl), r80_3, k_seq (E := env) (f := 80) (c := (cr (cl (cl (cr (cr (cl (cl (cr (cl (cr c80))))))))))) (by kernel_rfl), r80_4, r80_5, r80_6, k_exit (E := env) (f := 80) (c := (cr (cl (cr (cl (cl (cr (cl (cr c80))))))))) (id := 0) (by kernel_rfl), ih, reduceIte, reduceCtorEq, XE.exit.injEq, Nat.reduceEqDiff] <;> kernel_rfl
theorem F80_lrlr_eq {β : Type} {inv : Inv} {k : Nat} {x0 x1 x6 x9 x10 : Value} {h : AH} {K : XE → Act → AH → Option β} : kCode env 80 false inv k (cl (cr (cl (cr c80)))) (act 32 [(0, x0), (1, x1), (6, x6), (9, x9), (10, x10)]) h K = F80_lrlr inv k k x0 x1 x6 x9 x10 h (fun y0 y1 y6 y9 y10 y11 h => K (.exit 0) (act 32 [(0, y0), (1, y1), (6, y6), (9, y9), (10, y10), (11, y11)]) h) := (k_loop (by kernel_rfl)).trans (F80_lrlr_j k)
theorem r80_7 {β : Type} {inv : Inv} {k : Nat} {x0 x1 x6 x9 x10 x11 : Value} {h : AH} {K : XE → Act → AH → Option β} : kCode env 80 false inv k (cl (cr (cr c80))) (act 32 [(0, x0), (1, x1), (6, x6), (9, x9), (10, x10), (11, x11)]) h K =
    K .normal (act 32 [(6, x6)]) h := (k_reg (by kernel_rfl)).trans (by kernel_rfl)
theorem res80_0 {x6 : Value} {h : AH} : resOfFn env.P 80 .ret (act 32 [(6, x6)]) h = some (x6, h) := (resOfFn_k (by kernel_rfl) (by kernel_rfl)).trans (by kernel_rfl)
/-- shadowbook/packs.at -/
noncomputable def F80 (inv : Inv) (k : Nat) (x0 x1 x2 : Value) (h : AH) : Option (Value × AH) :=
    F80_lrlr inv k k x0 x1 (Go.Value.int Go.IntKind.u64 0) x2 (Go.Value.int Go.IntKind.i64 0) h
    (fun y0 y1 y6 y9 y10 y11 h =>
    some (y6, h))
theorem F80_eq {inv : Inv} {k : Nat} {x0 x1 x2 : Value} {h : AH} : eFun env k inv 80 #[x0, x1, x2] h = F80 inv k x0 x1 x2 h := by
      refine (eFun_k2 (by kernel_rfl) (by kernel_rfl) (by kernel_rfl) (a := act 32 [(0, x0), (1, x1), (2, x2)]) (c := c80) (by kernel_rfl) (by kernel_rfl)).trans ?_
      unfold F80
      simp only [k_seq (E := env) (f := 80) (c := c80) (by kernel_rfl), r80_0, k_seq (E := env) (f := 80) (c := (cr c80)) (by kernel_rfl), k_seq (E := env) (f := 80) (c := (cl (cr c80))) (by kernel_rfl), r80_1, k_block (E := env) (f := 80) (c := (cr (cl (cr c80)))) (id := 0) (by kernel_rfl), F80_lrlr_eq, k_seq (E := env) (f := 80) (c := (cr (cr c80))) (by kernel_rfl), r80_7, k_ret (E := env) (f := 80) (c := (cr (cr (cr c80)))) (by kernel_rfl), res80_0, reduceIte, reduceCtorEq, XE.exit.injEq, Nat.reduceEqDiff] <;> kernel_rfl
noncomputable def c81 : Code := codeOf Try.prog 81
theorem r81_0 {β : Type} {inv : Inv} {k : Nat} {x0 x1 x2 x3 : Value} {h : AH} {K : XE → Act → AH → Option β} : kCode env 81 false inv k (cl (cl c81)) (act 26 [(0, x0), (1, x1), (2, x2), (3, x3)]) h K =
    bnd (pLoad Try.prog 26 x1 h) fun x6 =>
    bnd (pLoad Try.prog 3 x2 h) fun x7 =>
    bnd (pLoad Try.prog 3 x3 h) fun x8 =>
    bnd (inv (.func 74) #[] #[x6, x7, x8] h) fun x9 =>
    bnd (pBin Try.prog Go.BinOp.neq 27 (Go.Operand.tmp 9) (Go.Operand.const (Go.Value.int Go.IntKind.i64 0)) x9.1 (Go.Value.int Go.IntKind.i64 0)) fun x10 =>
    K .normal (act 26 [(0, x0), (1, x1), (2, x2), (3, x3), (10, x10)]) x9.2 := (k_reg (by kernel_rfl)).trans (by kernel_rfl)
theorem b81_rl {β : Type} {inv : Inv} {k : Nat} {x0 x1 x2 x3 x10 : Value} {h : AH} {K : XE → Act → AH → Option β} : kCode env 81 false inv k (cr (cl c81)) (act 26 [(0, x0), (1, x1), (2, x2), (3, x3), (10, x10)]) h K = brV x10 (kCode env 81 false inv k (cl (cr (cl c81))) (act 26 [(0, x0), (1, x1), (2, x2), (3, x3), (10, x10)]) h K) (kCode env 81 false inv k (cr (cr (cl c81))) (act 26 [(0, x0), (1, x1), (2, x2), (3, x3), (10, x10)]) h K) := (k_cond (by kernel_rfl)).trans (by kernel_rfl)
theorem res81_0 {x0 x1 x2 x3 x10 : Value} {h : AH} : resOfFn env.P 81 .ret (act 26 [(0, x0), (1, x1), (2, x2), (3, x3), (10, x10)]) h = some (.tuple #[], h) := (resOfFn_k (by kernel_rfl) (by kernel_rfl)).trans (by kernel_rfl)
theorem r81_1 {β : Type} {inv : Inv} {k : Nat} {x0 x1 x2 x3 x10 : Value} {h : AH} {K : XE → Act → AH → Option β} : kCode env 81 false inv k (cl (cr c81)) (act 26 [(0, x0), (1, x1), (2, x2), (3, x3), (10, x10)]) h K =
    bnd (pLoad Try.prog 3 x2 h) fun x11 =>
    K .normal (act 26 [(0, x0), (1, x1), (3, x3), (11, x11), (12, (Go.Value.int Go.IntKind.i64 0))]) h := (k_reg (by kernel_rfl)).trans (by kernel_rfl)
theorem r81_2 {β : Type} {inv : Inv} {k : Nat} {x0 x1 x3 x11 x12 : Value} {h : AH} {K : XE → Act → AH → Option β} : kCode env 81 false inv k (cl (cl (cl (cr (cr c81))))) (act 26 [(0, x0), (1, x1), (3, x3), (11, x11), (12, x12)]) h K =
    bnd (pBin Try.prog Go.BinOp.lss 3 (Go.Operand.tmp 12) (Go.Operand.tmp 11) x12 x11) fun x13 =>
    K .normal (act 26 [(0, x0), (1, x1), (3, x3), (11, x11), (12, x12), (13, x13)]) h := (k_reg (by kernel_rfl)).trans (by kernel_rfl)
theorem b81_lrllrr {β : Type} {inv : Inv} {k : Nat} {x0 x1 x3 x11 x12 x13 : Value} {h : AH} {K : XE → Act → AH → Option β} : kCode env 81 false inv k (cl (cr (cl (cl (cr (cr c81)))))) (act 26 [(0, x0), (1, x1), (3, x3), (11, x11), (12, x12), (13, x13)]) h K = brV x13 (kCode env 81 false inv k (cl (cl (cr (cl (cl (cr (cr c81))))))) (act 26 [(0, x0), (1, x1), (3, x3), (11, x11), (12, x12), (13, x13)]) h K) (kCode env 81 false inv k (cr (cl (cr (cl (cl (cr (cr c81))))))) (act 26 [(0, x0), (1, x1), (3, x3), (11, x11), (12, x12), (13, x13)]) h K) := (k_cond (by kernel_rfl)).trans (by kernel_rfl)
theorem r81_3 {β : Type} {inv : Inv} {k : Nat} {x0 x1 x3 x11 x12 x13 : Value} {h : AH} {K : XE → Act → AH → Option β} : kCode env 81 false inv k (cl (cl (cl (cr (cr (cl (cl (cr (cr c81))))))))) (act 26 [(0, x0), (1, x1), (3, x3), (11, x11), (12, x12), (13, x13)]) h K =
    K .normal (act 26 [(0, x0), (1, x1), (3, x3), (5, x12), (11, x11), (12, x12)]) h := (k_reg (by kernel_rfl)).trans (by kernel_rfl)
theorem r81_4 {β : Type} {inv : Inv} {k : Nat} {x0 x1 x3 x5 x11 x12 : Value} {h : AH} {K : XE → Act → AH → Option β} : kCode env 81 false inv k (cl (cr (cl (cl (cr (cr (cl (cl (cr (cr c81)))))))))) (act 26 [(0, x0), (1, x1), (3, x3), (5, x5), (11, x11), (12, x12)]) h K =
    bnd (pLoad Try.prog 26 x1 h) fun x17 =>
    bnd (pLoad Try.prog 3 x3 h) fun x19 =>
    bnd (pBin Try.prog Go.BinOp.mul 3 (Go.Operand.tmp 18) (Go.Operand.tmp 19) x5 x19) fun x20 =>
    bnd (pLoad Try.prog 3 x3 h) fun x21 =>
    bnd (inv (.func 80) #[] #[x17, x20, x21] h) fun x22 =>
    bnd (callV inv x0 #[x5, x22.1] x22.2) fun x23 =>
    bnd (pUn Try.prog Go.UnOp.not x23.1) fun x24 =>
    K .normal (act 26 [(0, x0), (1, x1), (3, x3), (11, x11), (12, x12), (24, x24)]) x23.2 := (k_reg (by kernel_rfl)).trans (by kernel_rfl)
theorem b81_rrllrrllrr {β : Type} {inv : Inv} {k : Nat} {x0 x1 x3 x11 x12 x24 : Value} {h : AH} {K : XE → Act → AH → Option β} : kCode env 81 false inv k (cr (cr (cl (cl (cr (cr (cl (cl (cr (cr c81)))))))))) (act 26 [(0, x0), (1, x1), (3, x3), (11, x11), (12, x12), (24, x24)]) h K = brV x24 (kCode env 81 false inv k (cl (cr (cr (cl (cl (cr (cr (cl (cl (cr (cr c81))))))))))) (act 26 [(0, x0), (1, x1), (3, x3), (11, x11), (12, x12), (24, x24)]) h K) (kCode env 81 false inv k (cr (cr (cr (cl (cl (cr (cr (cl (cl (cr (cr c81))))))))))) (act 26 [(0, x0), (1, x1), (3, x3), (11, x11), (12, x12), (24, x24)]) h K) := (k_cond (by kernel_rfl)).trans (by kernel_rfl)
theorem r81_5 {β : Type} {inv : Inv} {k : Nat} {x0 x1 x3 x11 x12 x24 : Value} {h : AH} {K : XE → Act → AH → Option β} : kCode env 81 false inv k (cr (cr (cr (cl (cl (cr (cr c81))))))) (act 26 [(0, x0), (1, x1), (3, x3), (11, x11), (12, x12), (24, x24)]) h K =
    bnd (pBin Try.prog Go.BinOp.add 3 (Go.Operand.tmp 12) (Go.Operand.const (Go.Value.int Go.IntKind.i64 1)) x12 (Go.Value.int Go.IntKind.i64 1)) fun x25 =>
    K .normal (act 26 [(0, x0), (1, x1), (3, x3), (11, x11), (12, x25)]) h := (k_reg (by kernel_rfl)).trans (by kernel_rfl)
noncomputable def F81_lrr {β : Type} (inv : Inv) (k : Nat) : Nat → Value → Value → Value → Value → Value → AH → (Value → Value → Value → Value → Value → Value → AH → Option β) → (Value → Value → Value → Value → Value → Value → AH → Option β) → Option β
  | 0, _, _, _, _, _, _, _, _ => none
  | j + 1, x0, x1, x3, x11, x12, h, ke0, kr =>
    bnd (pBin Try.prog Go.BinOp.lss 3 (Go.Operand.tmp 12) (Go.Operand.tmp 11) x12 x11) fun x13 =>
    brV x13
    (bnd (pLoad Try.prog 26 x1 h) fun x17 =>
    bnd (pLoad Try.prog 3 x3 h) fun x19 =>
    bnd (pBin Try.prog Go.BinOp.mul 3 (Go.Operand.tmp 18) (Go.Operand.tmp 19) x12 x19) fun x20 =>
    bnd (pLoad Try.prog 3 x3 h) fun x21 =>
    bnd (inv (.func 80) #[] #[x17, x20, x21] h) fun x22 =>
    bnd (callV inv x0 #[x12, x22.1] x22.2) fun x23 =>
    bnd (pUn Try.prog Go.UnOp.not x23.1) fun x24 =>
    brV x24
    (kr x0 x1 x3 x11 x12 x24 x23.2)
    (bnd (pBin Try.prog Go.BinOp.add 3 (Go.Operand.tmp 12) (Go.Operand.const (Go.Value.int Go.IntKind.i64 1)) x12 (Go.Value.int Go.IntKind.i64 1)) fun x25 =>
    F81_lrr inv k j x0 x1 x3 x11 x25 x23.2 ke0 kr))
    (ke0 x0 x1 x3 x11 x12 x13 h)
theorem F81_lrr_j {β : Type} {inv : Inv} {k : Nat} (j : Nat) {x0 x1 x3 x11 x12 : Value} {h : AH} {K : XE → Act → AH → Option β} : kLoop (kCode env 81 false inv k (cl (cl (cr (cr c81))))) j (act 26 [(0, x0), (1, x1), (3, x3), (11, x11), (12, x12)]) h K = F81_lrr inv k j x0 x1 x3 x11 x12 h (fun y0 y1 y3 y11 y12 y13 h => K (.exit 0) (act 26 [(0, y0), (1, y1), (3, y3), (11, y11), (12, y12), (13, y13)]) h) (fun y0 y1 y3 y11 y12 y24 h => K .ret (act 26 [(0, y0), (1, y1), (3, y3), (11, y11), (12, y12), (24, y24)]) h) := by
      induction j generalizing x0 x1 x3 x11 x12 h with
      | zero => rfl
      | succ j ih =>
        unfold F81_lrr
        simp only [kLoop, k_seq (E := env) (f := 81) (c := (cl (cl (cr (cr c81))))) (by kernel_rfl), r81_2, k_seq (E := env) (f := 81) (c := (cr (cl (cl (cr (cr c81)))))) (by kernel_rfl), b81_lrllrr, k_skip (E := env) (f := 81) (c := (cl (cl (cr (cl (cl (cr (cr c81)))))))) (by kernel_rfl), k_seq (E := env) (f := 81) (c := (cr (cr (cl (cl (cr (cr c81))))))) (by kernel_rfl), k_block (E := env) (f := 81) (c := (cl (cr (cr (cl (cl (cr (cr c81)))))))) (id := 1) (by kernel_rfl), k_seq (E := env) (f := 81) (c := (cl (cl (cr (cr (cl (cl (cr (cr c81))))))))) (by kernel_rfl), r81_3, k_seq (E := env) (f := 81) (c := (cr (cl (cl (cr (cr (cl (cl (cr (cr c81)))))))))) (by kernel_rfl), r81_4, b81_rrllrrllrr, k_ret (E := env) (f := 81) (c := (cl (cr (cr (cl (cl (cr (cr (cl (cl (cr (cr c81)))))))))))) (by kernel_rfl), k_skip (E := env) (f := 81) (c := (cr (cr (cr (cl (cl (cr (cr (cl (cl (cr (cr c81)))))))))))) (by kernel_rfl), r81_5, k_exit (E := env) (f := 81) (c := (cr (cl (cr (cl (cl (cr (cr c81)))))))) (id := 0) (by kernel_rfl), ih, reduceIte, reduceCtorEq, XE.exit.injEq, Nat.reduceEqDiff] <;> kernel_rfl
theorem F81_lrr_eq {β : Type} {inv : Inv} {k : Nat} {x0 x1 x3 x11 x12 : Value} {h : AH} {K : XE → Act → AH → Option β} : kCode env 81 false inv k (cl (cr (cr c81))) (act 26 [(0, x0), (1, x1), (3, x3), (11, x11), (12, x12)]) h K = F81_lrr inv k k x0 x1 x3 x11 x12 h (fun y0 y1 y3 y11 y12 y13 h => K (.exit 0) (act 26 [(0, y0), (1, y1), (3, y3), (11, y11), (12, y12), (13, y13)]) h) (fun y0 y1 y3 y11 y12 y24 h => K .ret (act 26 [(0, y0), (1, y1), (3, y3), (11, y11), (12, y12), (24, y24)]) h) := (k_loop (by kernel_rfl)).trans (F81_lrr_j k)
theorem res81_1 {x0 x1 x3 x11 x12 x13 : Value} {h : AH} : resOfFn env.P 81 .normal (act 26 [(0, x0), (1, x1), (3, x3), (11, x11), (12, x12), (13, x13)]) h = some (.tuple #[], h) := (resOfFn_k (by kernel_rfl) (by kernel_rfl)).trans (by kernel_rfl)
theorem res81_2 {x0 x1 x3 x11 x12 x24 : Value} {h : AH} : resOfFn env.P 81 .ret (act 26 [(0, x0), (1, x1), (3, x3), (11, x11), (12, x12), (24, x24)]) h = some (.tuple #[], h) := (resOfFn_k (by kernel_rfl) (by kernel_rfl)).trans (by kernel_rfl)
/-- shadowbook/packs.Each$1 -/
noncomputable def F81 (inv : Inv) (k : Nat) (x0 x1 x2 x3 : Value) (h : AH) : Option (Value × AH) :=
    bnd (pLoad Try.prog 26 x1 h) fun x6 =>
    bnd (pLoad Try.prog 3 x2 h) fun x7 =>
    bnd (pLoad Try.prog 3 x3 h) fun x8 =>
    bnd (inv (.func 74) #[] #[x6, x7, x8] h) fun x9 =>
    bnd (pBin Try.prog Go.BinOp.neq 27 (Go.Operand.tmp 9) (Go.Operand.const (Go.Value.int Go.IntKind.i64 0)) x9.1 (Go.Value.int Go.IntKind.i64 0)) fun x10 =>
    brV x10
    (some (.tuple #[], x9.2))
    (bnd (pLoad Try.prog 3 x2 x9.2) fun x11 =>
    F81_lrr inv k k x0 x1 x3 x11 (Go.Value.int Go.IntKind.i64 0) x9.2
    (fun y0 y1 y3 y11 y12 y13 h =>
    some (.tuple #[], h))
    (fun y0_1 y1_2 y3_3 y11_4 y12_5 y24 h_6 =>
    some (.tuple #[], h_6)))
theorem F81_eq {inv : Inv} {k : Nat} {x0 x1 x2 x3 : Value} {h : AH} : eFun env k inv 81 #[x0, x1, x2, x3] h = F81 inv k x0 x1 x2 x3 h := by
      refine (eFun_k2 (by kernel_rfl) (by kernel_rfl) (by kernel_rfl) (a := act 26 [(0, x0), (1, x1), (2, x2), (3, x3)]) (c := c81) (by kernel_rfl) (by kernel_rfl)).trans ?_
      unfold F81
      simp only [k_seq (E := env) (f := 81) (c := c81) (by kernel_rfl), k_seq (E := env) (f := 81) (c := (cl c81)) (by kernel_rfl), r81_0, b81_rl, k_ret (E := env) (f := 81) (c := (cl (cr (cl c81)))) (by kernel_rfl), res81_0, k_skip (E := env) (f := 81) (c := (cr (cr (cl c81)))) (by kernel_rfl), k_seq (E := env) (f := 81) (c := (cr c81)) (by kernel_rfl), r81_1, k_block (E := env) (f := 81) (c := (cr (cr c81))) (id := 0) (by kernel_rfl), F81_lrr_eq, res81_1, res81_2, reduceIte, reduceCtorEq, XE.exit.injEq, Nat.reduceEqDiff] <;> kernel_rfl
end Go.Proofs.Ytcidbbkefpeahaa.Sh
