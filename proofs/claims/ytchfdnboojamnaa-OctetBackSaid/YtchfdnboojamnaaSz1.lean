/- Shallow functions, part 1. Printed by a program of the prover's own from the loaded program; Lean checks it. -/
import Derived.Test.YtchfdnboojamnaaSz0
set_option linter.unusedVariables false
set_option linter.unusedSimpArgs false
set_option maxRecDepth 100000
namespace Go.Proofs.Ytchfdnboojamnaa.Sh
open Go Go.RowKit Go.Proofs.Ev
noncomputable def c3 : Code := codeOf Try.prog 3
theorem r3_0 {β : Type} {inv : Inv} {k : Nat} {x0 x1 : Value} {h : AH} {K : XE → Act → AH → Option β} : kCode env 3 false inv k (cl c3) (act 76 [(0, x0), (1, x1)]) h K =
    K .normal (act 76 [(0, x0), (1, x1)]) h := (k_reg (by kernel_rfl)).trans (by kernel_rfl)
theorem r3_1 {β : Type} {inv : Inv} {k : Nat} {x0 x1 : Value} {h : AH} {K : XE → Act → AH → Option β} : kCode env 3 false inv k (cl (cl (cr c3))) (act 76 [(0, x0), (1, x1)]) h K =
    bnd (inv (.func 7) #[] #[] h) fun x11 =>
    bnd (pUn Try.prog Go.UnOp.not x11.1) fun x12 =>
    K .normal (act 76 [(0, x0), (1, x1), (12, x12)]) x11.2 := (k_reg (by kernel_rfl)).trans (by kernel_rfl)
theorem b3_rlr {β : Type} {inv : Inv} {k : Nat} {x0 x1 x12 : Value} {h : AH} {K : XE → Act → AH → Option β} : kCode env 3 false inv k (cr (cl (cr c3))) (act 76 [(0, x0), (1, x1), (12, x12)]) h K = brV x12 (kCode env 3 false inv k (cl (cr (cl (cr c3)))) (act 76 [(0, x0), (1, x1), (12, x12)]) h K) (kCode env 3 false inv k (cr (cr (cl (cr c3)))) (act 76 [(0, x0), (1, x1), (12, x12)]) h K) := (k_cond (by kernel_rfl)).trans (by kernel_rfl)
theorem r3_2 {β : Type} {inv : Inv} {k : Nat} {x0 x1 x12 : Value} {h : AH} {K : XE → Act → AH → Option β} : kCode env 3 false inv k (cl (cl (cr (cl (cr c3))))) (act 76 [(0, x0), (1, x1), (12, x12)]) h K =
    K .normal (act 76 [(4, (Go.Value.bool false))]) h := (k_reg (by kernel_rfl)).trans (by kernel_rfl)
theorem res3_0 {x4 : Value} {h : AH} : resOfFn env.P 3 .ret (act 76 [(4, x4)]) h = some (x4, h) := (resOfFn_k (by kernel_rfl) (by kernel_rfl)).trans (by kernel_rfl)
theorem r3_3 {β : Type} {inv : Inv} {k : Nat} {x0 x1 x12 : Value} {h : AH} {K : XE → Act → AH → Option β} : kCode env 3 false inv k (cl (cr (cr c3))) (act 76 [(0, x0), (1, x1), (12, x12)]) h K =
    bnd (inv (.func 8) #[] #[x0] h) fun x14 =>
    bnd (inv (.func 8) #[] #[x1] x14.2) fun x16 =>
    K .normal (act 76 [(0, x0), (1, x1), (5, x14.1), (6, x16.1)]) x16.2 := (k_reg (by kernel_rfl)).trans (by kernel_rfl)
theorem r3_4 {β : Type} {inv : Inv} {k : Nat} {x0 x1 x5 x6 : Value} {h : AH} {K : XE → Act → AH → Option β} : kCode env 3 false inv k (cl (cr (cr (cr c3)))) (act 76 [(0, x0), (1, x1), (5, x5), (6, x6)]) h K =
    bnd (inv (.func 9) #[] #[(Go.Value.slice none 0 0), x5] h) fun x18 =>
    bnd (inv (.func 9) #[] #[(Go.Value.slice none 0 0), x6] x18.2) fun x20 =>
    K .normal (act 76 [(0, x0), (1, x1), (5, x5), (6, x6), (7, x18.1), (8, x20.1)]) x20.2 := (k_reg (by kernel_rfl)).trans (by kernel_rfl)
theorem r3_5 {β : Type} {inv : Inv} {k : Nat} {x0 x1 x5 x6 x7 x8 : Value} {h : AH} {K : XE → Act → AH → Option β} : kCode env 3 false inv k (cl (cr (cr (cr (cr c3))))) (act 76 [(0, x0), (1, x1), (5, x5), (6, x6), (7, x7), (8, x8)]) h K =
    K .normal (act 76 [(0, x0), (1, x1), (5, x5), (6, x6), (7, x7), (8, x8), (9, (Go.Value.int Go.IntKind.i64 0))]) h := (k_reg (by kernel_rfl)).trans (by kernel_rfl)
theorem r3_6 {β : Type} {inv : Inv} {k : Nat} {x0 x1 x5 x6 x7 x8 x9 : Value} {h : AH} {K : XE → Act → AH → Option β} : kCode env 3 false inv k (cl (cl (cr (cr (cr (cr (cr c3))))))) (act 76 [(0, x0), (1, x1), (5, x5), (6, x6), (7, x7), (8, x8), (9, x9)]) h K =
    K .normal (act 76 [(0, x0), (1, x1), (5, x5), (6, x6), (7, x7), (8, x8), (9, x9), (10, x5)]) h := (k_reg (by kernel_rfl)).trans (by kernel_rfl)
theorem r3_7 {β : Type} {inv : Inv} {k : Nat} {x0 x1 x5 x6 x7 x8 x9 x10 : Value} {h : AH} {K : XE → Act → AH → Option β} : kCode env 3 false inv k (cl (cl (cl (cl (cr (cl (cr (cr (cr (cr (cr c3))))))))))) (act 76 [(0, x0), (1, x1), (5, x5), (6, x6), (7, x7), (8, x8), (9, x9), (10, x10)]) h K =
    bnd (pBin Try.prog Go.BinOp.gtr 23 (Go.Operand.tmp 22) (Go.Operand.const (Go.Value.int Go.IntKind.u64 0)) x10 (Go.Value.int Go.IntKind.u64 0)) fun x23 =>
    K .normal (act 76 [(0, x0), (1, x1), (5, x5), (6, x6), (7, x7), (8, x8), (9, x9), (10, x10), (23, x23)]) h := (k_reg (by kernel_rfl)).trans (by kernel_rfl)
theorem b3_rlllrlrrrrr {β : Type} {inv : Inv} {k : Nat} {x0 x1 x5 x6 x7 x8 x9 x10 x23 : Value} {h : AH} {K : XE → Act → AH → Option β} : kCode env 3 false inv k (cr (cl (cl (cl (cr (cl (cr (cr (cr (cr (cr c3))))))))))) (act 76 [(0, x0), (1, x1), (5, x5), (6, x6), (7, x7), (8, x8), (9, x9), (10, x10), (23, x23)]) h K = brV x23 (kCode env 3 false inv k (cl (cr (cl (cl (cl (cr (cl (cr (cr (cr (cr (cr c3)))))))))))) (act 76 [(0, x0), (1, x1), (5, x5), (6, x6), (7, x7), (8, x8), (9, x9), (10, x10), (23, x23)]) h K) (kCode env 3 false inv k (cr (cr (cl (cl (cl (cr (cl (cr (cr (cr (cr (cr c3)))))))))))) (act 76 [(0, x0), (1, x1), (5, x5), (6, x6), (7, x7), (8, x8), (9, x9), (10, x10), (23, x23)]) h K) := (k_cond (by kernel_rfl)).trans (by kernel_rfl)
theorem r3_9 {β : Type} {inv : Inv} {k : Nat} {x0 x1 x5 x6 x7 x8 x9 x10 x23 : Value} {h : AH} {K : XE → Act → AH → Option β} : kCode env 3 false inv k (cl (cl (cr (cl (cl (cr (cl (cr (cr (cr (cr (cr c3)))))))))))) (act 76 [(0, x0), (1, x1), (5, x5), (6, x6), (7, x7), (8, x8), (9, x9), (10, x10), (23, x23)]) h K =
    bnd (pBin Try.prog Go.BinOp.add 3 (Go.Operand.tmp 26) (Go.Operand.const (Go.Value.int Go.IntKind.i64 1)) x9 (Go.Value.int Go.IntKind.i64 1)) fun x27 =>
    K .normal (act 76 [(0, x0), (1, x1), (5, x5), (6, x6), (7, x7), (8, x8), (9, x27), (10, x10)]) h := (k_reg (by kernel_rfl)).trans (by kernel_rfl)
theorem r3_8 {β : Type} {inv : Inv} {k : Nat} {x0 x1 x5 x6 x7 x8 x9 x10 : Value} {h : AH} {K : XE → Act → AH → Option β} : kCode env 3 false inv k (cr (cr (cl (cl (cr (cl (cr (cr (cr (cr (cr c3))))))))))) (act 76 [(0, x0), (1, x1), (5, x5), (6, x6), (7, x7), (8, x8), (9, x9), (10, x10)]) h K =
    bnd (pBin Try.prog Go.BinOp.shr 23 (Go.Operand.tmp 24) (Go.Operand.const (Go.Value.int Go.IntKind.u64 1)) x10 (Go.Value.int Go.IntKind.u64 1)) fun x25 =>
    K .normal (act 76 [(0, x0), (1, x1), (5, x5), (6, x6), (7, x7), (8, x8), (9, x9), (10, x25)]) h := (k_reg (by kernel_rfl)).trans (by kernel_rfl)
noncomputable def F3_lrlrrrrr {β : Type} (inv : Inv) (k : Nat) : Nat → Value → Value → Value → Value → Value → Value → Value → Value → AH → (Value → Value → Value → Value → Value → Value → Value → Value → Value → AH → Option β) → Option β
  | 0, _, _, _, _, _, _, _, _, _, _ => none
  | j + 1, x0, x1, x5, x6, x7, x8, x9, x10, h, ke0 =>
    bnd (pBin Try.prog Go.BinOp.gtr 23 (Go.Operand.tmp 22) (Go.Operand.const (Go.Value.int Go.IntKind.u64 0)) x10 (Go.Value.int Go.IntKind.u64 0)) fun x23 =>
    brV x23
    (bnd (pBin Try.prog Go.BinOp.add 3 (Go.Operand.tmp 26) (Go.Operand.const (Go.Value.int Go.IntKind.i64 1)) x9 (Go.Value.int Go.IntKind.i64 1)) fun x27 =>
    bnd (pBin Try.prog Go.BinOp.shr 23 (Go.Operand.tmp 24) (Go.Operand.const (Go.Value.int Go.IntKind.u64 1)) x10 (Go.Value.int Go.IntKind.u64 1)) fun x25 =>
    F3_lrlrrrrr inv k j x0 x1 x5 x6 x7 x8 x27 x25 h ke0)
    (ke0 x0 x1 x5 x6 x7 x8 x9 x10 x23 h)
theorem F3_lrlrrrrr_j {β : Type} {inv : Inv} {k : Nat} (j : Nat) {x0 x1 x5 x6 x7 x8 x9 x10 : Value} {h : AH} {K : XE → Act → AH → Option β} : kLoop (kCode env 3 false inv k (cl (cl (cr (cl (cr (cr (cr (cr (cr c3)))))))))) j (act 76 [(0, x0), (1, x1), (5, x5), (6, x6), (7, x7), (8, x8), (9, x9), (10, x10)]) h K = F3_lrlrrrrr inv k j x0 x1 x5 x6 x7 x8 x9 x10 h (fun y0 y1 y5 y6 y7 y8 y9 y10 y23 h => K (.exit 0) (act 76 [(0, y0), (1, y1), (5, y5), (6, y6), (7, y7), (8, y8), (9, y9), (10, y10), (23, y23)]) h) := by
      induction j generalizing x0 x1 x5 x6 x7 x8 x9 x10 h with
      | zero => rfl
      | succ j ih =>
        unfold F3_lrlrrrrr
        simp only [kLoop, k_seq (E := env) (f := 3) (c := (cl (cl (cr (cl (cr (cr (cr (cr (cr c3)))))))))) (by kernel_rfl), k_seq (E := env) (f := 3) (c := (cl (cl (cl (cr (cl (cr (cr (cr (cr (cr c3))))))))))) (by kernel_rfl), r3_7, b3_rlllrlrrrrr, k_skip (E := env) (f := 3) (c := (cl (cr (cl (cl (cl (cr (cl (cr (cr (cr (cr (cr c3))))))))))))) (by kernel_rfl), k_seq (E := env) (f := 3) (c := (cr (cl (cl (cr (cl (cr (cr (cr (cr (cr c3))))))))))) (by kernel_rfl), k_block (E := env) (f := 3) (c := (cl (cr (cl (cl (cr (cl (cr (cr (cr (cr (cr c3)))))))))))) (id := 1) (by kernel_rfl), r3_9, r3_8, k_exit (E := env) (f := 3) (c := (cr (cr (cl (cl (cl (cr (cl (cr (cr (cr (cr (cr c3))))))))))))) (id := 0) (by kernel_rfl), ih, reduceIte, reduceCtorEq, XE.exit.injEq, Nat.reduceEqDiff] <;> kernel_rfl
theorem F3_lrlrrrrr_eq {β : Type} {inv : Inv} {k : Nat} {x0 x1 x5 x6 x7 x8 x9 x10 : Value} {h : AH} {K : XE → Act → AH → Option β} : kCode env 3 false inv k (cl (cr (cl (cr (cr (cr (cr (cr c3)))))))) (act 76 [(0, x0), (1, x1), (5, x5), (6, x6), (7, x7), (8, x8), (9, x9), (10, x10)]) h K = F3_lrlrrrrr inv k k x0 x1 x5 x6 x7 x8 x9 x10 h (fun y0 y1 y5 y6 y7 y8 y9 y10 y23 h => K (.exit 0) (act 76 [(0, y0), (1, y1), (5, y5), (6, y6), (7, y7), (8, y8), (9, y9), (10, y10), (23, y23)]) h) := (k_loop (by kernel_rfl)).trans (F3_lrlrrrrr_j k)
theorem r3_10 {β : Type} {inv : Inv} {k : Nat} {x0 x1 x5 x6 x7 x8 x9 x10 x23 : Value} {h : AH} {K : XE → Act → AH → Option β} : kCode env 3 false inv k (cl (cr (cr (cr (cr (cr (cr c3))))))) (act 76 [(0, x0), (1, x1), (5, x5), (6, x6), (7, x7), (8, x8), (9, x9), (10, x10), (23, x23)]) h K =
    bnd (inv (.func 10) #[] #[x5] h) fun x29 =>
    bnd (pBin Try.prog Go.BinOp.eql 2 (Go.Operand.tmp 29) (Go.Operand.tmp 30) x29.1 x0) fun x31 =>
    bnd (gd (some x31) true x29.2 (some (x6, x29.2))) fun x33 =>
    bnd (gd (some x31) true x33.2 (inv (.func 10) #[] #[x33.1] x33.2)) fun x34 =>
    bnd (gd (some x31) true x34.2 (some (x1, x34.2))) fun x35 =>
    bnd (gd (some x31) true x35.2 (lt (pBin Try.prog Go.BinOp.eql 2 (Go.Operand.tmp 34) (Go.Operand.tmp 35) x34.1 x35.1) x35.2)) fun x36 =>
    bnd (pickV x31 x36.1 (Go.Value.bool false)) fun x37 =>
    bnd (gd (some x37) true x36.2 (some (x7, x36.2))) fun x39 =>
    bnd (gd (some x37) true x39.2 (lt (pLen Try.prog #[25] x39.1 x39.2) x39.2)) fun x40 =>
    bnd (gd (some x37) true x40.2 (some (x9, x40.2))) fun x41 =>
    bnd (gd (some x37) true x41.2 (lt (pBin Try.prog Go.BinOp.add 3 (Go.Operand.tmp 41) (Go.Operand.const (Go.Value.int Go.IntKind.i64 6)) x41.1 (Go.Value.int Go.IntKind.i64 6)) x41.2)) fun x42 =>
    bnd (gd (some x37) true x42.2 (lt (pBin Try.prog Go.BinOp.quo 3 (Go.Operand.tmp 42) (Go.Operand.const (Go.Value.int Go.IntKind.i64 7)) x42.1 (Go.Value.int Go.IntKind.i64 7)) x42.2)) fun x43 =>
    bnd (gd (some x37) true x43.2 (lt (pMinMax Try.prog true #[(Go.Value.int Go.IntKind.i64 1), x43.1]) x43.2)) fun x44 =>
    bnd (gd (some x37) true x44.2 (lt (pBin Try.prog Go.BinOp.eql 3 (Go.Operand.tmp 40) (Go.Operand.tmp 44) x40.1 x44.1) x44.2)) fun x45 =>
    bnd (pickV x37 x45.1 (Go.Value.bool false)) fun x46 =>
    bnd (gd (some x46) true x45.2 (some (x5, x45.2))) fun x48 =>
    bnd (gd (some x46) true x48.2 (some (x6, x48.2))) fun x49 =>
    bnd (gd (some x46) true x49.2 (lt (pBin Try.prog Go.BinOp.gtr 23 (Go.Operand.tmp 48) (Go.Operand.tmp 49) x48.1 x49.1) x49.2)) fun x50 =>
    bnd (gd (some x46) true x50.2 (some (x50.1, x50.2))) fun x51 =>
    bnd (gd (some x51.1) false x51.2 (some (x7, x51.2))) fun x52 =>
    bnd (gd (some x51.1) false x52.2 (lt (pLen Try.prog #[25] x52.1 x52.2) x52.2)) fun x53 =>
    bnd (gd (some x51.1) false x53.2 (some (x8, x53.2))) fun x54 =>
    bnd (gd (some x51.1) false x54.2 (lt (pLen Try.prog #[25] x54.1 x54.2) x54.2)) fun x55 =>
    bnd (gd (some x51.1) false x55.2 (lt (pBin Try.prog Go.BinOp.leq 3 (Go.Operand.tmp 53) (Go.Operand.tmp 55) x53.1 x55.1) x55.2)) fun x56 =>
    bnd (gd (some x46) true x56.2 (lt (pickV x51.1 (Go.Value.bool true) x56.1) x56.2)) fun x57 =>
    bnd (pickV x46 x57.1 (Go.Value.bool false)) fun x58 =>
    bnd (gd (some x58) true x57.2 (some (x5, x57.2))) fun x60 =>
    bnd (gd (some x58) true x60.2 (some (x6, x60.2))) fun x61 =>
    bnd (gd (some x58) true x61.2 (lt (pBin Try.prog Go.BinOp.eql 23 (Go.Operand.tmp 60) (Go.Operand.tmp 61) x60.1 x61.1) x61.2)) fun x62 =>
    bnd (gd (some x58) true x62.2 (some (x0, x62.2))) fun x63 =>
    bnd (gd (some x58) true x63.2 (some (x1, x63.2))) fun x64 =>
    bnd (gd (some x58) true x64.2 (lt (pBin Try.prog Go.BinOp.eql 2 (Go.Operand.tmp 63) (Go.Operand.tmp 64) x63.1 x64.1) x64.2)) fun x65 =>
    bnd (gd (some x58) true x65.2 (lt (pBin Try.prog Go.BinOp.eql 4 (Go.Operand.tmp 62) (Go.Operand.tmp 65) x62.1 x65.1) x65.2)) fun x66 =>
    bnd (pickV x58 x66.1 (Go.Value.bool false)) fun x67 =>
    bnd (gd (some x67) true x66.2 (some (x0, x66.2))) fun x69 =>
    bnd (gd (some x67) true x69.2 (lt (pBin Try.prog Go.BinOp.lss 2 (Go.Operand.tmp 69) (Go.Operand.const (Go.Value.int Go.IntKind.i64 0)) x69.1 (Go.Value.int Go.IntKind.i64 0)) x69.2)) fun x70 =>
    bnd (gd (some x67) true x70.2 (some (x5, x70.2))) fun x71 =>
    bnd (gd (some x67) true x71.2 (lt (pBin Try.prog Go.BinOp.rem 23 (Go.Operand.tmp 71) (Go.Operand.const (Go.Value.int Go.IntKind.u64 2)) x71.1 (Go.Value.int Go.IntKind.u64 2)) x71.2)) fun x72 =>
    bnd (gd (some x67) true x72.2 (lt (pBin Try.prog Go.BinOp.eql 23 (Go.Operand.tmp 72) (Go.Operand.const (Go.Value.int Go.IntKind.u64 1)) x72.1 (Go.Value.int Go.IntKind.u64 1)) x72.2)) fun x73 =>
    bnd (gd (some x67) true x73.2 (lt (pBin Try.prog Go.BinOp.eql 4 (Go.Operand.tmp 70) (Go.Operand.tmp 73) x70.1 x73.1) x73.2)) fun x74 =>
    bnd (pickV x67 x74.1 (Go.Value.bool false)) fun x75 =>
    K .normal (act 76 [(4, x75)]) x74.2 := (k_reg (by kernel_rfl)).trans (by kernel_rfl)
/-- shadowbook/shadowbooklaw01.OctetLengths -/
noncomputable def F3 (inv : Inv) (k : Nat) (x0 x1 : Value) (h : AH) : Option (Value × AH) :=
    bnd (inv (.func 7) #[] #[] h) fun x11 =>
    bnd (pUn Try.prog Go.UnOp.not x11.1) fun x12 =>
    brV x12
    (some ((Go.Value.bool false), x11.2))
    (bnd (inv (.func 8) #[] #[x0] x11.2) fun x14 =>
    bnd (inv (.func 8) #[] #[x1] x14.2) fun x16 =>
    bnd (inv (.func 9) #[] #[(Go.Value.slice none 0 0), x14.1] x16.2) fun x18 =>
    bnd (inv (.func 9) #[] #[(Go.Value.slice none 0 0), x16.1] x18.2) fun x20 =>
    F3_lrlrrrrr inv k k x0 x1 x14.1 x16.1 x18.1 x20.1 (Go.Value.int Go.IntKind.i64 0) x14.1 x20.2
    (fun y0 y1 y5 y6 y7 y8 y9 y10 y23 h =>
    bnd (inv (.func 10) #[] #[y5] h) fun x29 =>
    bnd (pBin Try.prog Go.BinOp.eql 2 (Go.Operand.tmp 29) (Go.Operand.tmp 30) x29.1 y0) fun x31 =>
    bnd (gd (some x31) true x29.2 (some (y6, x29.2))) fun x33 =>
    bnd (gd (some x31) true x33.2 (inv (.func 10) #[] #[x33.1] x33.2)) fun x34 =>
    bnd (gd (some x31) true x34.2 (some (y1, x34.2))) fun x35 =>
    bnd (gd (some x31) true x35.2 (lt (pBin Try.prog Go.BinOp.eql 2 (Go.Operand.tmp 34) (Go.Operand.tmp 35) x34.1 x35.1) x35.2)) fun x36 =>
    bnd (pickV x31 x36.1 (Go.Value.bool false)) fun x37 =>
    bnd (gd (some x37) true x36.2 (some (y7, x36.2))) fun x39 =>
    bnd (gd (some x37) true x39.2 (lt (pLen Try.prog #[25] x39.1 x39.2) x39.2)) fun x40 =>
    bnd (gd (some x37) true x40.2 (some (y9, x40.2))) fun x41 =>
    bnd (gd (some x37) true x41.2 (lt (pBin Try.prog Go.BinOp.add 3 (Go.Operand.tmp 41) (Go.Operand.const (Go.Value.int Go.IntKind.i64 6)) x41.1 (Go.Value.int Go.IntKind.i64 6)) x41.2)) fun x42 =>
    bnd (gd (some x37) true x42.2 (lt (pBin Try.prog Go.BinOp.quo 3 (Go.Operand.tmp 42) (Go.Operand.const (Go.Value.int Go.IntKind.i64 7)) x42.1 (Go.Value.int Go.IntKind.i64 7)) x42.2)) fun x43 =>
    bnd (gd (some x37) true x43.2 (lt (pMinMax Try.prog true #[(Go.Value.int Go.IntKind.i64 1), x43.1]) x43.2)) fun x44 =>
    bnd (gd (some x37) true x44.2 (lt (pBin Try.prog Go.BinOp.eql 3 (Go.Operand.tmp 40) (Go.Operand.tmp 44) x40.1 x44.1) x44.2)) fun x45 =>
    bnd (pickV x37 x45.1 (Go.Value.bool false)) fun x46 =>
    bnd (gd (some x46) true x45.2 (some (y5, x45.2))) fun x48 =>
    bnd (gd (some x46) true x48.2 (some (y6, x48.2))) fun x49 =>
    bnd (gd (some x46) true x49.2 (lt (pBin Try.prog Go.BinOp.gtr 23 (Go.Operand.tmp 48) (Go.Operand.tmp 49) x48.1 x49.1) x49.2)) fun x50 =>
    bnd (gd (some x46) true x50.2 (some (x50.1, x50.2))) fun x51 =>
    bnd (gd (some x51.1) false x51.2 (some (y7, x51.2))) fun x52 =>
    bnd (gd (some x51.1) false x52.2 (lt (pLen Try.prog #[25] x52.1 x52.2) x52.2)) fun x53 =>
    bnd (gd (some x51.1) false x53.2 (some (y8, x53.2))) fun x54 =>
    bnd (gd (some x51.1) false x54.2 (lt (pLen Try.prog #[25] x54.1 x54.2) x54.2)) fun x55 =>
    bnd (gd (some x51.1) false x55.2 (lt (pBin Try.prog Go.BinOp.leq 3 (Go.Operand.tmp 53) (Go.Operand.tmp 55) x53.1 x55.1) x55.2)) fun x56 =>
    bnd (gd (some x46) true x56.2 (lt (pickV x51.1 (Go.Value.bool true) x56.1) x56.2)) fun x57 =>
    bnd (pickV x46 x57.1 (Go.Value.bool false)) fun x58 =>
    bnd (gd (some x58) true x57.2 (some (y5, x57.2))) fun x60 =>
    bnd (gd (some x58) true x60.2 (some (y6, x60.2))) fun x61 =>
    bnd (gd (some x58) true x61.2 (lt (pBin Try.prog Go.BinOp.eql 23 (Go.Operand.tmp 60) (Go.Operand.tmp 61) x60.1 x61.1) x61.2)) fun x62 =>
    bnd (gd (some x58) true x62.2 (some (y0, x62.2))) fun x63 =>
    bnd (gd (some x58) true x63.2 (some (y1, x63.2))) fun x64 =>
    bnd (gd (some x58) true x64.2 (lt (pBin Try.prog Go.BinOp.eql 2 (Go.Operand.tmp 63) (Go.Operand.tmp 64) x63.1 x64.1) x64.2)) fun x65 =>
    bnd (gd (some x58) true x65.2 (lt (pBin Try.prog Go.BinOp.eql 4 (Go.Operand.tmp 62) (Go.Operand.tmp 65) x62.1 x65.1) x65.2)) fun x66 =>
    bnd (pickV x58 x66.1 (Go.Value.bool false)) fun x67 =>
    bnd (gd (some x67) true x66.2 (some (y0, x66.2))) fun x69 =>
    bnd (gd (some x67) true x69.2 (lt (pBin Try.prog Go.BinOp.lss 2 (Go.Operand.tmp 69) (Go.Operand.const (Go.Value.int Go.IntKind.i64 0)) x69.1 (Go.Value.int Go.IntKind.i64 0)) x69.2)) fun x70 =>
    bnd (gd (some x67) true x70.2 (some (y5, x70.2))) fun x71 =>
    bnd (gd (some x67) true x71.2 (lt (pBin Try.prog Go.BinOp.rem 23 (Go.Operand.tmp 71) (Go.Operand.const (Go.Value.int Go.IntKind.u64 2)) x71.1 (Go.Value.int Go.IntKind.u64 2)) x71.2)) fun x72 =>
    bnd (gd (some x67) true x72.2 (lt (pBin Try.prog Go.BinOp.eql 23 (Go.Operand.tmp 72) (Go.Operand.const (Go.Value.int Go.IntKind.u64 1)) x72.1 (Go.Value.int Go.IntKind.u64 1)) x72.2)) fun x73 =>
    bnd (gd (some x67) true x73.2 (lt (pBin Try.prog Go.BinOp.eql 4 (Go.Operand.tmp 70) (Go.Operand.tmp 73) x70.1 x73.1) x73.2)) fun x74 =>
    bnd (pickV x67 x74.1 (Go.Value.bool false)) fun x75 =>
    some (x75, x74.2)))
theorem F3_eq {inv : Inv} {k : Nat} {x0 x1 : Value} {h : AH} : eFun env k inv 3 #[x0, x1] h = F3 inv k x0 x1 h := by
      refine (eFun_k2 (by kernel_rfl) (by kernel_rfl) (by kernel_rfl) (a := act 76 [(0, x0), (1, x1)]) (c := c3) (by kernel_rfl) (by kernel_rfl)).trans ?_
      unfold F3
      simp only [k_seq (E := env) (f := 3) (c := c3) (by kernel_rfl), r3_0, k_seq (E := env) (f := 3) (c := (cr c3)) (by kernel_rfl), k_seq (E := env) (f := 3) (c := (cl (cr c3))) (by kernel_rfl), r3_1, b3_rlr, k_seq (E := env) (f := 3) (c := (cl (cr (cl (cr c3))))) (by kernel_rfl), r3_2, k_ret (E := env) (f := 3) (c := (cr (cl (cr (cl (cr c3)))))) (by kernel_rfl), res3_0, k_skip (E := env) (f := 3) (c := (cr (cr (cl (cr c3))))) (by kernel_rfl), k_seq (E := env) (f := 3) (c := (cr (cr c3))) (by kernel_rfl), r3_3, k_seq (E := env) (f := 3) (c := (cr (cr (cr c3)))) (by kernel_rfl), r3_4, k_seq (E := env) (f := 3) (c := (cr (cr (cr (cr c3))))) (by kernel_rfl), r3_5, k_seq (E := env) (f := 3) (c := (cr (cr (cr (cr (cr c3)))))) (by kernel_rfl), k_seq (E := env) (f := 3) (c := (cl (cr (cr (cr (cr (cr c3))))))) (by kernel_rfl), r3_6, k_block (E := env) (f := 3) (c := (cr (cl (cr (cr (cr (cr (cr c3)))))))) (id := 0) (by kernel_rfl), F3_lrlrrrrr_eq, k_seq (E := env) (f := 3) (c := (cr (cr (cr (cr (cr (cr c3))))))) (by kernel_rfl), r3_10, k_ret (E := env) (f := 3) (c := (cr (cr (cr (cr (cr (cr (cr c3)))))))) (by kernel_rfl), reduceIte, reduceCtorEq, XE.exit.injEq, Nat.reduceEqDiff] <;> kernel_rfl
theorem F3_call {k : Nat} {x0 x1 : Value} {h : AH} : eInv env (k + 1) (.func 3) #[] #[x0, x1] h = F3 (eInv env k) k x0 x1 h := (inv_func (by kernel_rfl)).trans F3_eq
noncomputable def c4 : Code := codeOf Try.prog 4
theorem r4_0 {β : Type} {inv : Inv} {k : Nat} {x0 x1 : Value} {h : AH} {K : XE → Act → AH → Option β} : kCode env 4 false inv k (cl c4) (act 134 [(0, x0), (1, x1)]) h K =
    K .normal (act 134 [(0, x0), (1, x1)]) h := (k_reg (by kernel_rfl)).trans (by kernel_rfl)
theorem r4_1 {β : Type} {inv : Inv} {k : Nat} {x0 x1 : Value} {h : AH} {K : XE → Act → AH → Option β} : kCode env 4 false inv k (cl (cl (cr c4))) (act 134 [(0, x0), (1, x1)]) h K =
    bnd (inv (.func 7) #[] #[] h) fun x17 =>
    bnd (pUn Try.prog Go.UnOp.not x17.1) fun x18 =>
    K .normal (act 134 [(0, x0), (1, x1), (18, x18)]) x17.2 := (k_reg (by kernel_rfl)).trans (by kernel_rfl)
theorem b4_rlr {β : Type} {inv : Inv} {k : Nat} {x0 x1 x18 : Value} {h : AH} {K : XE → Act → AH → Option β} : kCode env 4 false inv k (cr (cl (cr c4))) (act 134 [(0, x0), (1, x1), (18, x18)]) h K = brV x18 (kCode env 4 false inv k (cl (cr (cl (cr c4)))) (act 134 [(0, x0), (1, x1), (18, x18)]) h K) (kCode env 4 false inv k (cr (cr (cl (cr c4)))) (act 134 [(0, x0), (1, x1), (18, x18)]) h K) := (k_cond (by kernel_rfl)).trans (by kernel_rfl)
theorem r4_2 {β : Type} {inv : Inv} {k : Nat} {x0 x1 x18 : Value} {h : AH} {K : XE → Act → AH → Option β} : kCode env 4 false inv k (cl (cl (cr (cl (cr c4))))) (act 134 [(0, x0), (1, x1), (18, x18)]) h K =
    K .normal (act 134 [(4, (Go.Value.bool false))]) h := (k_reg (by kernel_rfl)).trans (by kernel_rfl)
theorem res4_0 {x4 : Value} {h : AH} : resOfFn env.P 4 .ret (act 134 [(4, x4)]) h = some (x4, h) := (resOfFn_k (by kernel_rfl) (by kernel_rfl)).trans (by kernel_rfl)
theorem r4_3 {β : Type} {inv : Inv} {k : Nat} {x0 x1 x18 : Value} {h : AH} {K : XE → Act → AH → Option β} : kCode env 4 false inv k (cl (cl (cr (cr c4)))) (act 134 [(0, x0), (1, x1), (18, x18)]) h K =
    bnd (pLen Try.prog #[30] x0 h) fun x20 =>
    bnd (pBin Try.prog Go.BinOp.gtr 3 (Go.Operand.tmp 20) (Go.Operand.const (Go.Value.int Go.IntKind.i64 60)) x20 (Go.Value.int Go.IntKind.i64 60)) fun x21 =>
    bnd (gd (some x21) false h (some (x1, h))) fun x23 =>
    bnd (gd (some x21) false x23.2 (lt (pLen Try.prog #[25] x23.1 x23.2) x23.2)) fun x24 =>
    bnd (gd (some x21) false x24.2 (lt (pBin Try.prog Go.BinOp.gtr 3 (Go.Operand.tmp 24) (Go.Operand.const (Go.Value.int Go.IntKind.i64 200)) x24.1 (Go.Value.int Go.IntKind.i64 200)) x24.2)) fun x25 =>
    bnd (pickV x21 (Go.Value.bool true) x25.1) fun x26 =>
    K .normal (act 134 [(0, x0), (1, x1), (26, x26)]) x25.2 := (k_reg (by kernel_rfl)).trans (by kernel_rfl)
theorem b4_rlrr {β : Type} {inv : Inv} {k : Nat} {x0 x1 x26 : Value} {h : AH} {K : XE → Act → AH → Option β} : kCode env 4 false inv k (cr (cl (cr (cr c4)))) (act 134 [(0, x0), (1, x1), (26, x26)]) h K = brV x26 (kCode env 4 false inv k (cl (cr (cl (cr (cr c4))))) (act 134 [(0, x0), (1, x1), (26, x26)]) h K) (kCode env 4 false inv k (cr (cr (cl (cr (cr c4))))) (act 134 [(0, x0), (1, x1), (26, x26)]) h K) := (k_cond (by kernel_rfl)).trans (by kernel_rfl)
theorem r4_4 {β : Type} {inv : Inv} {k : Nat} {x0 x1 x26 : Value} {h : AH} {K : XE → Act → AH → Option β} : kCode env 4 false inv k (cl (cl (cr (cl (cr (cr c4)))))) (act 134 [(0, x0), (1, x1), (26, x26)]) h K =
    K .normal (act 134 [(4, (Go.Value.bool true))]) h := (k_reg (by kernel_rfl)).trans (by kernel_rfl)
theorem r4_5 {β : Type} {inv : Inv} {k : Nat} {x0 x1 x26 : Value} {h : AH} {K : XE → Act → AH → Option β} : kCode env 4 false inv k (cl (cr (cr (cr c4)))) (act 134 [(0, x0), (1, x1), (26, x26)]) h K =
    K .normal (act 134 [(0, x0), (1, x1), (5, (Go.Value.slice none 0 0))]) h := (k_reg (by kernel_rfl)).trans (by kernel_rfl)
theorem r4_6 {β : Type} {inv : Inv} {k : Nat} {x0 x1 x5 : Value} {h : AH} {K : XE → Act → AH → Option β} : kCode env 4 false inv k (cl (cl (cr (cr (cr (cr c4)))))) (act 134 [(0, x0), (1, x1), (5, x5)]) h K =
    K .normal (act 134 [(0, x0), (1, x1), (5, x5), (6, (Go.Value.int Go.IntKind.i64 0))]) h := (k_reg (by kernel_rfl)).trans (by kernel_rfl)
theorem r4_7 {β : Type} {inv : Inv} {k : Nat} {x0 x1 x5 x6 : Value} {h : AH} {K : XE → Act → AH → Option β} : kCode env 4 false inv k (cl (cl (cl (cl (cr (cl (cr (cr (cr (cr c4)))))))))) (act 134 [(0, x0), (1, x1), (5, x5), (6, x6)]) h K =
    bnd (pLen Try.prog #[30] x0 h) fun x29 =>
    bnd (pBin Try.prog Go.BinOp.lss 3 (Go.Operand.tmp 27) (Go.Operand.tmp 29) x6 x29) fun x30 =>
    K .normal (act 134 [(0, x0), (1, x1), (5, x5), (6, x6), (30, x30)]) h := (k_reg (by kernel_rfl)).trans (by kernel_rfl)
theorem b4_rlllrlrrrr {β : Type} {inv : Inv} {k : Nat} {x0 x1 x5 x6 x30 : Value} {h : AH} {K : XE → Act → AH → Option β} : kCode env 4 false inv k (cr (cl (cl (cl (cr (cl (cr (cr (cr (cr c4)))))))))) (act 134 [(0, x0), (1, x1), (5, x5), (6, x6), (30, x30)]) h K = brV x30 (kCode env 4 false inv k (cl (cr (cl (cl (cl (cr (cl (cr (cr (cr (cr c4))))))))))) (act 134 [(0, x0), (1, x1), (5, x5), (6, x6), (30, x30)]) h K) (kCode env 4 false inv k (cr (cr (cl (cl (cl (cr (cl (cr (cr (cr (cr c4))))))))))) (act 134 [(0, x0), (1, x1), (5, x5), (6, x6), (30, x30)]) h K) := (k_cond (by kernel_rfl)).trans (by kernel_rfl)
theorem r4_9 {β : Type} {inv : Inv} {k : Nat} {x0 x1 x5 x6 x30 : Value} {h : AH} {K : XE → Act → AH → Option β} : kCode env 4 false inv k (cl (cl (cr (cl (cl (cr (cl (cr (cr (cr (cr c4))))))))))) (act 134 [(0, x0), (1, x1), (5, x5), (6, x6), (30, x30)]) h K =
    bnd (pIndexAddr Try.prog 30 x0 x6) fun x36 =>
    bnd (pLoad Try.prog 23 x36 h) fun x37 =>
    bnd (inv (.func 9) #[] #[x5, x37] h) fun x38 =>
    bnd (pIndexAddr Try.prog 30 x0 x6) fun x41 =>
    bnd (pLoad Try.prog 23 x41 x38.2) fun x42 =>
    bnd (inv (.func 11) #[] #[x38.1, x42, (Go.Value.int Go.IntKind.i64 8)] x38.2) fun x43 =>
    chkK ((!true || !true || (sameO (pLoad Try.prog 23 x41 h) x42 && sameO (pLoad Try.prog 23 x41 x38.2) x42)) && true) <|
    K .normal (act 134 [(0, x0), (1, x1), (5, x43.1), (6, x6)]) x43.2 := (k_draw (by kernel_rfl)).trans (by kernel_rfl)
theorem r4_8 {β : Type} {inv : Inv} {k : Nat} {x0 x1 x5 x6 : Value} {h : AH} {K : XE → Act → AH → Option β} : kCode env 4 false inv k (cr (cr (cl (cl (cr (cl (cr (cr (cr (cr c4)))))))))) (act 134 [(0, x0), (1, x1), (5, x5), (6, x6)]) h K =
    bnd (pBin Try.prog Go.BinOp.add 3 (Go.Operand.tmp 31) (Go.Operand.const (Go.Value.int Go.IntKind.i64 1)) x6 (Go.Value.int Go.IntKind.i64 1)) fun x32 =>
    K .normal (act 134 [(0, x0), (1, x1), (5, x5), (6, x32)]) h := (k_reg (by kernel_rfl)).trans (by kernel_rfl)
noncomputable def F4_lrlrrrr {β : Type} (inv : Inv) (k : Nat) : Nat → Value → Value → Value → Value → AH → (Value → Value → Value → Value → Value → AH → Option β) → Option β
  | 0, _, _, _, _, _, _ => none
  | j + 1, x0, x1, x5, x6, h, ke0 =>
    bnd (pLen Try.prog #[30] x0 h) fun x29 =>
    bnd (pBin Try.prog Go.BinOp.lss 3 (Go.Operand.tmp 27) (Go.Operand.tmp 29) x6 x29) fun x30 =>
    brV x30
    (bnd (pIndexAddr Try.prog 30 x0 x6) fun x36 =>
    bnd (pLoad Try.prog 23 x36 h) fun x37 =>
    bnd (inv (.func 9) #[] #[x5, x37] h) fun x38 =>
    bnd (pIndexAddr Try.prog 30 x0 x6) fun x41 =>
    bnd (pLoad Try.prog 23 x41 x38.2) fun x42 =>
    bnd (inv (.func 11) #[] #[x38.1, x42, (Go.Value.int Go.IntKind.i64 8)] x38.2) fun x43 =>
    chkK ((!true || !true || (sameO (pLoad Try.prog 23 x41 h) x42 && sameO (pLoad Try.prog 23 x41 x38.2) x42)) && true) <|
    bnd (pBin Try.prog Go.BinOp.add 3 (Go.Operand.tmp 31) (Go.Operand.const (Go.Value.int Go.IntKind.i64 1)) x6 (Go.Value.int Go.IntKind.i64 1)) fun x32 =>
    F4_lrlrrrr inv k j x0 x1 x43.1 x32 x43.2 ke0)
    (ke0 x0 x1 x5 x6 x30 h)
theorem F4_lrlrrrr_j {β : Type} {inv : Inv} {k : Nat} (j : Nat) {x0 x1 x5 x6 : Value} {h : AH} {K : XE → Act → AH → Option β} : kLoop (kCode env 4 false inv k (cl (cl (cr (cl (cr (cr (cr (cr c4))))))))) j (act 134 [(0, x0), (1, x1), (5, x5), (6, x6)]) h K = F4_lrlrrrr inv k j x0 x1 x5 x6 h (fun y0 y1 y5 y6 y30 h => K (.exit 0) (act 134 [(0, y0), (1, y1), (5, y5), (6, y6), (30, y30)]) h) := by
      induction j generalizing x0 x1 x5 x6 h with
      | zero => rfl
      | succ j ih =>
        unfold F4_lrlrrrr
        simp only [kLoop, k_seq (E := env) (f := 4) (c := (cl (cl (cr (cl (cr (cr (cr (cr c4))))))))) (by kernel_rfl), k_seq (E := env) (f := 4) (c := (cl (cl (cl (cr (cl (cr (cr (cr (cr c4)))))))))) (by kernel_rfl), r4_7, b4_rlllrlrrrr, k_skip (E := env) (f := 4) (c := (cl (cr (cl (cl (cl (cr (cl (cr (cr (cr (cr c4)))))))))))) (by kernel_rfl), k_seq (E := env) (f := 4) (c := (cr (cl (cl (cr (cl (cr (cr (cr (cr c4)))))))))) (by kernel_rfl), k_block (E := env) (f := 4) (c := (cl (cr (cl (cl (cr (cl (cr (cr (cr (cr c4))))))))))) (id := 1) (by kernel_rfl), r4_9, r4_8, k_exit (E := env) (f := 4) (c := (cr (cr (cl (cl (cl (cr (cl (cr (cr (cr (cr c4)))))))))))) (id := 0) (by kernel_rfl), ih, reduceIte, reduceCtorEq, XE.exit.injEq, Nat.reduceEqDiff] <;> kernel_rfl
theorem F4_lrlrrrr_eq {β : Type} {inv : Inv} {k : Nat} {x0 x1 x5 x6 : Value} {h : AH} {K : XE → Act → AH → Option β} : kCode env 4 false inv k (cl (cr (cl (cr (cr (cr (cr c4))))))) (act 134 [(0, x0), (1, x1), (5, x5), (6, x6)]) h K = F4_lrlrrrr inv k k x0 x1 x5 x6 h (fun y0 y1 y5 y6 y30 h => K (.exit 0) (act 134 [(0, y0), (1, y1), (5, y5), (6, y6), (30, y30)]) h) := (k_loop (by kernel_rfl)).trans (F4_lrlrrrr_j k)
theorem r4_10 {β : Type} {inv : Inv} {k : Nat} {x0 x1 x5 x6 x30 : Value} {h : AH} {K : XE → Act → AH → Option β} : kCode env 4 false inv k (cl (cr (cr (cr (cr (cr c4)))))) (act 134 [(0, x0), (1, x1), (5, x5), (6, x6), (30, x30)]) h K =
    bnd (inv (.func 12) #[] #[x5] h) fun x45 =>
    K .normal (act 134 [(0, x0), (1, x1), (7, x45.1)]) x45.2 := (k_reg (by kernel_rfl)).trans (by kernel_rfl)
theorem r4_11 {β : Type} {inv : Inv} {k : Nat} {x0 x1 x7 : Value} {h : AH} {K : XE → Act → AH → Option β} : kCode env 4 false inv k (cl (cl (cr (cr (cr (cr (cr (cr c4)))))))) (act 134 [(0, x0), (1, x1), (7, x7)]) h K =
    K .normal (act 134 [(0, x0), (1, x1), (7, x7), (8, (Go.Value.int Go.IntKind.i64 0))]) h := (k_reg (by kernel_rfl)).trans (by kernel_rfl)
theorem r4_12 {β : Type} {inv : Inv} {k : Nat} {x0 x1 x7 x8 : Value} {h : AH} {K : XE → Act → AH → Option β} : kCode env 4 false inv k (cl (cl (cl (cl (cr (cl (cr (cr (cr (cr (cr (cr c4)))))))))))) (act 134 [(0, x0), (1, x1), (7, x7), (8, x8)]) h K =
    bnd (pLen Try.prog #[30] x0 h) fun x48 =>
    bnd (pBin Try.prog Go.BinOp.lss 3 (Go.Operand.tmp 46) (Go.Operand.tmp 48) x8 x48) fun x49 =>
    K .normal (act 134 [(0, x0), (1, x1), (7, x7), (8, x8), (49, x49)]) h := (k_reg (by kernel_rfl)).trans (by kernel_rfl)
theorem b4_rlllrlrrrrrr {β : Type} {inv : Inv} {k : Nat} {x0 x1 x7 x8 x49 : Value} {h : AH} {K : XE → Act → AH → Option β} : kCode env 4 false inv k (cr (cl (cl (cl (cr (cl (cr (cr (cr (cr (cr (cr c4)))))))))))) (act 134 [(0, x0), (1, x1), (7, x7), (8, x8), (49, x49)]) h K = brV x49 (kCode env 4 false inv k (cl (cr (cl (cl (cl (cr (cl (cr (cr (cr (cr (cr (cr c4))))))))))))) (act 134 [(0, x0), (1, x1), (7, x7), (8, x8), (49, x49)]) h K) (kCode env 4 false inv k (cr (cr (cl (cl (cl (cr (cl (cr (cr (cr (cr (cr (cr c4))))))))))))) (act 134 [(0, x0), (1, x1), (7, x7), (8, x8), (49, x49)]) h K) := (k_cond (by kernel_rfl)).trans (by kernel_rfl)
theorem r4_14 {β : Type} {inv : Inv} {k : Nat} {x0 x1 x7 x8 x49 : Value} {h : AH} {K : XE → Act → AH → Option β} : kCode env 4 false inv k (cl (cl (cl (cr (cl (cl (cr (cl (cr (cr (cr (cr (cr (cr c4)))))))))))))) (act 134 [(0, x0), (1, x1), (7, x7), (8, x8), (49, x49)]) h K =
    bnd (inv (.func 13) #[] #[x7] h) fun x54 =>
    bnd (pExtract x54.1 0) fun x55 =>
    bnd (pExtract x54.1 1) fun x56 =>
    K .normal (act 134 [(0, x0), (1, x1), (7, x7), (8, x8), (9, x55), (10, x56)]) x54.2 := (k_reg (by kernel_rfl)).trans (by kernel_rfl)
theorem r4_15 {β : Type} {inv : Inv} {k : Nat} {x0 x1 x7 x8 x9 x10 : Value} {h : AH} {K : XE → Act → AH → Option β} : kCode env 4 false inv k (cl (cr (cl (cl (cr (cl (cl (cr (cl (cr (cr (cr (cr (cr (cr c4))))))))))))))) (act 134 [(0, x0), (1, x1), (7, x7), (8, x8), (9, x9), (10, x10)]) h K =
    bnd (inv (.func 14) #[] #[x7, (Go.Value.int Go.IntKind.i64 8)] h) fun x59 =>
    bnd (pExtract x59.1 0) fun x60 =>
    bnd (pExtract x59.1 1) fun x61 =>
    K .normal (act 134 [(0, x0), (1, x1), (7, x7), (8, x8), (9, x9), (10, x10), (11, x60), (12, x61)]) x59.2 := (k_reg (by kernel_rfl)).trans (by kernel_rfl)
theorem r4_16 {β : Type} {inv : Inv} {k : Nat} {x0 x1 x7 x8 x9 x10 x11 x12 : Value} {h : AH} {K : XE → Act → AH → Option β} : kCode env 4 false inv k (cl (cr (cr (cl (cl (cr (cl (cl (cr (cl (cr (cr (cr (cr (cr (cr c4)))))))))))))))) (act 134 [(0, x0), (1, x1), (7, x7), (8, x8), (9, x9), (10, x10), (11, x11), (12, x12)]) h K =
    bnd (pBin Try.prog Go.BinOp.neq 34 (Go.Operand.tmp 62) (Go.Operand.const (Go.Value.int Go.IntKind.i64 0)) x10 (Go.Value.int Go.IntKind.i64 0)) fun x63 =>
    bnd (gd (some x63) false h (some (x12, h))) fun x65 =>
    bnd (gd (some x63) false x65.2 (lt (pBin Try.prog Go.BinOp.neq 34 (Go.Operand.tmp 65) (Go.Operand.const (Go.Value.int Go.IntKind.i64 0)) x65.1 (Go.Value.int Go.IntKind.i64 0)) x65.2)) fun x66 =>
    bnd (pickV x63 (Go.Value.bool true) x66.1) fun x67 =>
    bnd (gd (some x67) false x66.2 (some (x9, x66.2))) fun x69 =>
    bnd (gd (some x67) false x69.2 (some (x0, x69.2))) fun x70 =>
    bnd (gd (some x67) false x70.2 (some (x8, x70.2))) fun x71 =>
    bnd (gd (some x67) false x71.2 (lt (pIndexAddr Try.prog 30 x70.1 x71.1) x71.2)) fun x72 =>
    bnd (gd (some x67) false x72.2 (lt (pLoad Try.prog 23 x72.1 x72.2) x72.2)) fun x73 =>
    bnd (gd (some x67) false x73.2 (lt (pBin Try.prog Go.BinOp.neq 23 (Go.Operand.tmp 69) (Go.Operand.tmp 73) x69.1 x73.1) x73.2)) fun x74 =>
    bnd (pickV x67 (Go.Value.bool true) x74.1) fun x75 =>
    bnd (gd (some x75) false x74.2 (some (x11, x74.2))) fun x77 =>
    bnd (gd (some x75) false x77.2 (some (x0, x77.2))) fun x78 =>
    bnd (gd (some x75) false x78.2 (some (x8, x78.2))) fun x79 =>
    bnd (gd (some x75) false x79.2 (lt (pIndexAddr Try.prog 30 x78.1 x79.1) x79.2)) fun x80 =>
    bnd (gd (some x75) false x80.2 (lt (pLoad Try.prog 23 x80.1 x80.2) x80.2)) fun x81 =>
    bnd (gd (some x75) false x81.2 (lt (pBin Try.prog Go.BinOp.neq 23 (Go.Operand.tmp 77) (Go.Operand.tmp 81) x77.1 x81.1) x81.2)) fun x82 =>
    bnd (pickV x75 (Go.Value.bool true) x82.1) fun x83 =>
    bnd (gd (some x83) false x82.2 (some (x9, x82.2))) fun x85 =>
    bnd (gd (some x83) false x85.2 (inv (.func 10) #[] #[x85.1] x85.2)) fun x86 =>
    bnd (gd (some x83) false x86.2 (inv (.func 8) #[] #[x86.1] x86.2)) fun x87 =>
    bnd (gd (some x83) false x87.2 (some (x9, x87.2))) fun x88 =>
    bnd (gd (some x83) false x88.2 (lt (pBin Try.prog Go.BinOp.neq 23 (Go.Operand.tmp 87) (Go.Operand.tmp 88) x87.1 x88.1) x88.2)) fun x89 =>
    bnd (pickV x83 (Go.Value.bool true) x89.1) fun x90 =>
    K .normal (act 134 [(0, x0), (1, x1), (7, x7), (8, x8), (90, x90)]) x89.2 := (k_reg (by kernel_rfl)).trans (by kernel_rfl)
theorem b4_rrrllrllrlrrrrrr {β : Type} {inv : Inv} {k : Nat} {x0 x1 x7 x8 x90 : Value} {h : AH} {K : XE → Act → AH → Option β} : kCode env 4 false inv k (cr (cr (cr (cl (cl (cr (cl (cl (cr (cl (cr (cr (cr (cr (cr (cr c4)))))))))))))))) (act 134 [(0, x0), (1, x1), (7, x7), (8, x8), (90, x90)]) h K = brV x90 (kCode env 4 false inv k (cl (cr (cr (cr (cl (cl (cr (cl (cl (cr (cl (cr (cr (cr (cr (cr (cr c4))))))))))))))))) (act 134 [(0, x0), (1, x1), (7, x7), (8, x8), (90, x90)]) h K) (kCode env 4 false inv k (cr (cr (cr (cr (cl (cl (cr (cl (cl (cr (cl (cr (cr (cr (cr (cr (cr c4))))))))))))))))) (act 134 [(0, x0), (1, x1), (7, x7), (8, x8), (90, x90)]) h K) := (k_cond (by kernel_rfl)).trans (by kernel_rfl)
theorem r4_17 {β : Type} {inv : Inv} {k : Nat} {x0 x1 x7 x8 x90 : Value} {h : AH} {K : XE → Act → AH → Option β} : kCode env 4 false inv k (cl (cl (cr (cr (cr (cl (cl (cr (cl (cl (cr (cl (cr (cr (cr (cr (cr (cr c4)))))))))))))))))) (act 134 [(0, x0), (1, x1), (7, x7), (8, x8), (90, x90)]) h K =
    K .normal (act 134 [(4, (Go.Value.bool false))]) h := (k_reg (by kernel_rfl)).trans (by kernel_rfl)
theorem r4_13 {β : Type} {inv : Inv} {k : Nat} {x0 x1 x7 x8 x90 : Value} {h : AH} {K : XE → Act → AH → Option β} : kCode env 4 false inv k (cr (cr (cl (cl (cr (cl (cr (cr (cr (cr (cr (cr c4)))))))))))) (act 134 [(0, x0), (1, x1), (7, x7), (8, x8), (90, x90)]) h K =
    bnd (pBin Try.prog Go.BinOp.add 3 (Go.Operand.tmp 50) (Go.Operand.const (Go.Value.int Go.IntKind.i64 1)) x8 (Go.Value.int Go.IntKind.i64 1)) fun x51 =>
    K .normal (act 134 [(0, x0), (1, x1), (7, x7), (8, x51)]) h := (k_reg (by kernel_rfl)).trans (by kernel_rfl)
noncomputable def F4_lrlrrrrrr {β : Type} (inv : Inv) (k : Nat) : Nat → Value → Value → Value → Value → AH → (Value → Value → Value → Value → Value → AH → Option β) → (Value → AH → Option β) → Option β
  | 0, _, _, _, _, _, _, _ => none
  | j + 1, x0, x1, x7, x8, h, ke2, kr =>
    bnd (pLen Try.prog #[30] x0 h) fun x48 =>
    bnd (pBin Try.prog Go.BinOp.lss 3 (Go.Operand.tmp 46) (Go.Operand.tmp 48) x8 x48) fun x49 =>
    brV x49
    (bnd (inv (.func 13) #[] #[x7] h) fun x54 =>
    bnd (pExtract x54.1 0) fun x55 =>
    bnd (pExtract x54.1 1) fun x56 =>
    bnd (inv (.func 14) #[] #[x7, (Go.Value.int Go.IntKind.i64 8)] x54.2) fun x59 =>
    bnd (pExtract x59.1 0) fun x60 =>
    bnd (pExtract x59.1 1) fun x61 =>
    bnd (pBin Try.prog Go.BinOp.neq 34 (Go.Operand.tmp 62) (Go.Operand.const (Go.Value.int Go.IntKind.i64 0)) x56 (Go.Value.int Go.IntKind.i64 0)) fun x63 =>
    bnd (gd (some x63) false x59.2 (some (x61, x59.2))) fun x65 =>
    bnd (gd (some x63) false x65.2 (lt (pBin Try.prog Go.BinOp.neq 34 (Go.Operand.tmp 65) (Go.Operand.const (Go.Value.int Go.IntKind.i64 0)) x65.1 (Go.Value.int Go.IntKind.i64 0)) x65.2)) fun x66 =>
    bnd (pickV x63 (Go.Value.bool true) x66.1) fun x67 =>
    bnd (gd (some x67) false x66.2 (some (x55, x66.2))) fun x69 =>
    bnd (gd (some x67) false x69.2 (some (x0, x69.2))) fun x70 =>
    bnd (gd (some x67) false x70.2 (some (x8, x70.2))) fun x71 =>
    bnd (gd (some x67) false x71.2 (lt (pIndexAddr Try.prog 30 x70.1 x71.1) x71.2)) fun x72 =>
    bnd (gd (some x67) false x72.2 (lt (pLoad Try.prog 23 x72.1 x72.2) x72.2)) fun x73 =>
    bnd (gd (some x67) false x73.2 (lt (pBin Try.prog Go.BinOp.neq 23 (Go.Operand.tmp 69) (Go.Operand.tmp 73) x69.1 x73.1) x73.2)) fun x74 =>
    bnd (pickV x67 (Go.Value.bool true) x74.1) fun x75 =>
    bnd (gd (some x75) false x74.2 (some (x60, x74.2))) fun x77 =>
    bnd (gd (some x75) false x77.2 (some (x0, x77.2))) fun x78 =>
    bnd (gd (some x75) false x78.2 (some (x8, x78.2))) fun x79 =>
    bnd (gd (some x75) false x79.2 (lt (pIndexAddr Try.prog 30 x78.1 x79.1) x79.2)) fun x80 =>
    bnd (gd (some x75) false x80.2 (lt (pLoad Try.prog 23 x80.1 x80.2) x80.2)) fun x81 =>
    bnd (gd (some x75) false x81.2 (lt (pBin Try.prog Go.BinOp.neq 23 (Go.Operand.tmp 77) (Go.Operand.tmp 81) x77.1 x81.1) x81.2)) fun x82 =>
    bnd (pickV x75 (Go.Value.bool true) x82.1) fun x83 =>
    bnd (gd (some x83) false x82.2 (some (x55, x82.2))) fun x85 =>
    bnd (gd (some x83) false x85.2 (inv (.func 10) #[] #[x85.1] x85.2)) fun x86 =>
    bnd (gd (some x83) false x86.2 (inv (.func 8) #[] #[x86.1] x86.2)) fun x87 =>
    bnd (gd (some x83) false x87.2 (some (x55, x87.2))) fun x88 =>
    bnd (gd (some x83) false x88.2 (lt (pBin Try.prog Go.BinOp.neq 23 (Go.Operand.tmp 87) (Go.Operand.tmp 88) x87.1 x88.1) x88.2)) fun x89 =>
    bnd (pickV x83 (Go.Value.bool true) x89.1) fun x90 =>
    brV x90
    (kr (Go.Value.bool false) x89.2)
    (bnd (pBin Try.prog Go.BinOp.add 3 (Go.Operand.tmp 50) (Go.Operand.const (Go.Value.int Go.IntKind.i64 1)) x8 (Go.Value.int Go.IntKind.i64 1)) fun x51 =>
    F4_lrlrrrrrr inv k j x0 x1 x7 x51 x89.2 ke2 kr))
    (ke2 x0 x1 x7 x8 x49 h)
theorem F4_lrlrrrrrr_j {β : Type} {inv : Inv} {k : Nat} (j : Nat) {x0 x1 x7 x8 : Value} {h : AH} {K : XE → Act → AH → Option β} : kLoop (kCode env 4 false inv k (cl (cl (cr (cl (cr (cr (cr (cr (cr (cr c4))))))))))) j (act 134 [(0, x0), (1, x1), (7, x7), (8, x8)]) h K = F4_lrlrrrrrr inv k j x0 x1 x7 x8 h (fun y0 y1 y7 y8 y49 h => K (.exit 2) (act 134 [(0, y0), (1, y1), (7, y7), (8, y8), (49, y49)]) h) (fun y4 h => K .ret (act 134 [(4, y4)]) h) := by
      induction j generalizing x0 x1 x7 x8 h with
      | zero => rfl
      | succ j ih =>
        unfold F4_lrlrrrrrr
        simp only [kLoop, k_seq (E := env) (f := 4) (c := (cl (cl (cr (cl (cr (cr (cr (cr (cr (cr c4))))))))))) (by kernel_rfl), k_seq (E := env) (f := 4) (c := (cl (cl (cl (cr (cl (cr (cr (cr (cr (cr (cr c4)))))))))))) (by kernel_rfl), r4_12, b4_rlllrlrrrrrr, k_skip (E := env) (f := 4) (c := (cl (cr (cl (cl (cl (cr (cl (cr (cr (cr (cr (cr (cr c4)))))))))))))) (by kernel_rfl), k_seq (E := env) (f := 4) (c := (cr (cl (cl (cr (cl (cr (cr (cr (cr (cr (cr c4)))))))))))) (by kernel_rfl), k_block (E := env) (f := 4) (c := (cl (cr (cl (cl (cr (cl (cr (cr (cr (cr (cr (cr c4))))))))))))) (id := 3) (by kernel_rfl), k_seq (E := env) (f := 4) (c := (cl (cl (cr (cl (cl (cr (cl (cr (cr (cr (cr (cr (cr c4)))))))))))))) (by kernel_rfl), r4_14, k_seq (E := env) (f := 4) (c := (cr (cl (cl (cr (cl (cl (cr (cl (cr (cr (cr (cr (cr (cr c4))))))))))))))) (by kernel_rfl), r4_15, k_seq (E := env) (f := 4) (c := (cr (cr (cl (cl (cr (cl (cl (cr (cl (cr (cr (cr (cr (cr (cr c4)))))))))))))))) (by kernel_rfl), r4_16, b4_rrrllrllrlrrrrrr, k_seq (E := env) (f := 4) (c := (cl (cr (cr (cr (cl (cl (cr (cl (cl (cr (cl (cr (cr (cr (cr (cr (cr c4)))))))))))))))))) (by kernel_rfl), r4_17, k_ret (E := env) (f := 4) (c := (cr (cl (cr (cr (cr (cl (cl (cr (cl (cl (cr (cl (cr (cr (cr (cr (cr (cr c4))))))))))))))))))) (by kernel_rfl), k_skip (E := env) (f := 4) (c := (cr (cr (cr (cr (cl (cl (cr (cl (cl (cr (cl (cr (cr (cr (cr (cr (cr c4)))))))))))))))))) (by kernel_rfl), r4_13, k_exit (E := env) (f := 4) (c := (cr (cr (cl (cl (cl (cr (cl (cr (cr (cr (cr (cr (cr c4)))))))))))))) (id := 2) (by kernel_rfl), ih, reduceIte, reduceCtorEq, XE.exit.injEq, Nat.reduceEqDiff] <;> kernel_rfl
theorem F4_lrlrrrrrr_eq {β : Type} {inv : Inv} {k : Nat} {x0 x1 x7 x8 : Value} {h : AH} {K : XE → Act → AH → Option β} : kCode env 4 false inv k (cl (cr (cl (cr (cr (cr (cr (cr (cr c4))))))))) (act 134 [(0, x0), (1, x1), (7, x7), (8, x8)]) h K = F4_lrlrrrrrr inv k k x0 x1 x7 x8 h (fun y0 y1 y7 y8 y49 h => K (.exit 2) (act 134 [(0, y0), (1, y1), (7, y7), (8, y8), (49, y49)]) h) (fun y4 h => K .ret (act 134 [(4, y4)]) h) := (k_loop (by kernel_rfl)).trans (F4_lrlrrrrrr_j k)
theorem r4_18 {β : Type} {inv : Inv} {k : Nat} {x0 x1 x7 x8 x49 : Value} {h : AH} {K : XE → Act → AH → Option β} : kCode env 4 false inv k (cl (cr (cr (cr (cr (cr (cr (cr c4)))))))) (act 134 [(0, x0), (1, x1), (7, x7), (8, x8), (49, x49)]) h K =
    bnd (inv (.func 12) #[] #[x1] h) fun x92 =>
    K .normal (act 134 [(1, x1), (7, x7), (13, x92.1)]) x92.2 := (k_reg (by kernel_rfl)).trans (by kernel_rfl)
theorem r4_19 {β : Type} {inv : Inv} {k : Nat} {x1 x7 x13 : Value} {h : AH} {K : XE → Act → AH → Option β} : kCode env 4 false inv k (cl (cr (cr (cr (cr (cr (cr (cr (cr c4))))))))) (act 134 [(1, x1), (7, x7), (13, x13)]) h K =
    bnd (inv (.func 13) #[] #[x13] h) fun x95 =>
    bnd (pExtract x95.1 0) fun x96 =>
    bnd (pExtract x95.1 1) fun x97 =>
    K .normal (act 134 [(1, x1), (7, x7), (13, x13), (14, x96), (15, x97)]) x95.2 := (k_reg (by kernel_rfl)).trans (by kernel_rfl)
theorem r4_20 {β : Type} {inv : Inv} {k : Nat} {x1 x7 x13 x14 x15 : Value} {h : AH} {K : XE → Act → AH → Option β} : kCode env 4 false inv k (cl (cl (cr (cr (cr (cr (cr (cr (cr (cr (cr c4))))))))))) (act 134 [(1, x1), (7, x7), (13, x13), (14, x14), (15, x15)]) h K =
    bnd (pBin Try.prog Go.BinOp.eql 34 (Go.Operand.tmp 98) (Go.Operand.const (Go.Value.int Go.IntKind.i64 0)) x15 (Go.Value.int Go.IntKind.i64 0)) fun x99 =>
    K .normal (act 134 [(1, x1), (7, x7), (13, x13), (14, x14), (99, x99)]) h := (k_reg (by kernel_rfl)).trans (by kernel_rfl)
theorem b4_rlrrrrrrrrr {β : Type} {inv : Inv} {k : Nat} {x1 x7 x13 x14 x99 : Value} {h : AH} {K : XE → Act → AH → Option β} : kCode env 4 false inv k (cr (cl (cr (cr (cr (cr (cr (cr (cr (cr (cr c4))))))))))) (act 134 [(1, x1), (7, x7), (13, x13), (14, x14), (99, x99)]) h K = brV x99 (kCode env 4 false inv k (cl (cr (cl (cr (cr (cr (cr (cr (cr (cr (cr (cr c4)))))))))))) (act 134 [(1, x1), (7, x7), (13, x13), (14, x14), (99, x99)]) h K) (kCode env 4 false inv k (cr (cr (cl (cr (cr (cr (cr (cr (cr (cr (cr (cr c4)))))))))))) (act 134 [(1, x1), (7, x7), (13, x13), (14, x14), (99, x99)]) h K) := (k_cond (by kernel_rfl)).trans (by kernel_rfl)
theorem r4_21 {β : Type} {inv : Inv} {k : Nat} {x1 x7 x13 x14 x99 : Value} {h : AH} {K : XE → Act → AH → Option β} : kCode env 4 false inv k (cl (cl (cr (cl (cr (cr (cr (cr (cr (cr (cr (cr (cr c4))))))))))))) (act 134 [(1, x1), (7, x7), (13, x13), (14, x14), (99, x99)]) h K =
    bnd (inv (.func 9) #[] #[(Go.Value.slice none 0 0), x14] h) fun x101 =>
    K .normal (act 134 [(1, x1), (7, x7), (13, x13), (16, x101.1)]) x101.2 := (k_reg (by kernel_rfl)).trans (by kernel_rfl)
theorem r4_22 {β : Type} {inv : Inv} {k : Nat} {x1 x7 x13 x16 : Value} {h : AH} {K : XE → Act → AH → Option β} : kCode env 4 false inv k (cl (cr (cl (cr (cl (cr (cr (cr (cr (cr (cr (cr (cr (cr c4)))))))))))))) (act 134 [(1, x1), (7, x7), (13, x13), (16, x16)]) h K =
    bnd (pLen Try.prog #[25] x16 h) fun x103 =>
    bnd (pLen Try.prog #[25] x1 h) fun x105 =>
    bnd (pBin Try.prog Go.BinOp.gtr 3 (Go.Operand.tmp 103) (Go.Operand.tmp 105) x103 x105) fun x106 =>
    bnd (gd (some x106) false h (some (x16, h))) fun x108 =>
    bnd (gd (some x106) false x108.2 (lt (pLen Try.prog #[25] x108.1 x108.2) x108.2)) fun x109 =>
    bnd (gd (some x106) false x109.2 (some (x1, x109.2))) fun x110 =>
    bnd (gd (some x106) false x110.2 (lt (pLen Try.prog #[25] x110.1 x110.2) x110.2)) fun x111 =>
    bnd (gd (some x106) false x111.2 (some (x13, x111.2))) fun x112 =>
    bnd (gd (some x106) false x112.2 (inv (.func 15) #[] #[x112.1] x112.2)) fun x113 =>
    bnd (gd (some x106) false x113.2 (lt (pBin Try.prog Go.BinOp.sub 3 (Go.Operand.tmp 111) (Go.Operand.tmp 113) x111.1 x113.1) x113.2)) fun x114 =>
    bnd (gd (some x106) false x114.2 (lt (pBin Try.prog Go.BinOp.neq 3 (Go.Operand.tmp 109) (Go.Operand.tmp 114) x109.1 x114.1) x114.2)) fun x115 =>
    bnd (pickV x106 (Go.Value.bool true) x115.1) fun x116 =>
    bnd (gd (some x116) false x115.2 (some (x16, x115.2))) fun x118 =>
    bnd (gd (some x116) false x118.2 (some (x1, x118.2))) fun x119 =>
    bnd (gd (some x116) false x119.2 (some (x16, x119.2))) fun x120 =>
    bnd (gd (some x116) false x120.2 (lt (pLen Try.prog #[25] x120.1 x120.2) x120.2)) fun x121 =>
    bnd (gd (some x116) false x121.2 (lt (pSlice Try.prog 25 x119.1 none (some x121.1) none x121.2) x121.2)) fun x122 =>
    bnd (gd (some x116) false x122.2 (inv (.func 16) #[] #[x118.1, x122.1] x122.2)) fun x123 =>
    bnd (gd (some x116) false x123.2 (lt (pUn Try.prog Go.UnOp.not x123.1) x123.2)) fun x124 =>
    bnd (pickV x116 (Go.Value.bool true) x124.1) fun x125 =>
    K .normal (act 134 [(7, x7), (125, x125)]) x124.2 := (k_reg (by kernel_rfl)).trans (by kernel_rfl)
theorem b4_rrlrlrrrrrrrrr {β : Type} {inv : Inv} {k : Nat} {x7 x125 : Value} {h : AH} {K : XE → Act → AH → Option β} : kCode env 4 false inv k (cr (cr (cl (cr (cl (cr (cr (cr (cr (cr (cr (cr (cr (cr c4)))))))))))))) (act 134 [(7, x7), (125, x125)]) h K = brV x125 (kCode env 4 false inv k (cl (cr (cr (cl (cr (cl (cr (cr (cr (cr (cr (cr (cr (cr (cr c4))))))))))))))) (act 134 [(7, x7), (125, x125)]) h K) (kCode env 4 false inv k (cr (cr (cr (cl (cr (cl (cr (cr (cr (cr (cr (cr (cr (cr (cr c4))))))))))))))) (act 134 [(7, x7), (125, x125)]) h K) := (k_cond (by kernel_rfl)).trans (by kernel_rfl)
theorem r4_23 {β : Type} {inv : Inv} {k : Nat} {x7 x125 : Value} {h : AH} {K : XE → Act → AH → Option β} : kCode env 4 false inv k (cl (cl (cr (cr (cl (cr (cl (cr (cr (cr (cr (cr (cr (cr (cr (cr c4)))))))))))))))) (act 134 [(7, x7), (125, x125)]) h K =
    K .normal (act 134 [(4, (Go.Value.bool false))]) h := (k_reg (by kernel_rfl)).trans (by kernel_rfl)
theorem r4_24 {β : Type} {inv : Inv} {k : Nat} {x1 x7 x13 x14 x99 : Value} {h : AH} {K : XE → Act → AH → Option β} : kCode env 4 false inv k (cl (cr (cr (cl (cr (cr (cr (cr (cr (cr (cr (cr (cr c4))))))))))))) (act 134 [(1, x1), (7, x7), (13, x13), (14, x14), (99, x99)]) h K =
    bnd (inv (.func 15) #[] #[x13] h) fun x127 =>
    bnd (pLen Try.prog #[25] x1 x127.2) fun x129 =>
    bnd (pBin Try.prog Go.BinOp.neq 3 (Go.Operand.tmp 127) (Go.Operand.tmp 129) x127.1 x129) fun x130 =>
    K .normal (act 134 [(7, x7), (130, x130)]) x127.2 := (k_reg (by kernel_rfl)).trans (by kernel_rfl)
theorem b4_rrrlrrrrrrrrr {β : Type} {inv : Inv} {k : Nat} {x7 x130 : Value} {h : AH} {K : XE → Act → AH → Option β} : kCode env 4 false inv k (cr (cr (cr (cl (cr (cr (cr (cr (cr (cr (cr (cr (cr c4))))))))))))) (act 134 [(7, x7), (130, x130)]) h K = brV x130 (kCode env 4 false inv k (cl (cr (cr (cr (cl (cr (cr (cr (cr (cr (cr (cr (cr (cr c4)))))))))))))) (act 134 [(7, x7), (130, x130)]) h K) (kCode env 4 false inv k (cr (cr (cr (cr (cl (cr (cr (cr (cr (cr (cr (cr (cr (cr c4)))))))))))))) (act 134 [(7, x7), (130, x130)]) h K) := (k_cond (by kernel_rfl)).trans (by kernel_rfl)
theorem r4_25 {β : Type} {inv : Inv} {k : Nat} {x7 x130 : Value} {h : AH} {K : XE → Act → AH → Option β} : kCode env 4 false inv k (cl (cl (cr (cr (cr (cl (cr (cr (cr (cr (cr (cr (cr (cr (cr c4))))))))))))))) (act 134 [(7, x7), (130, x130)]) h K =
    K .normal (act 134 [(4, (Go.Value.bool false))]) h := (k_reg (by kernel_rfl)).trans (by kernel_rfl)
noncomputable def F4_rlrrrrrrrrr {β : Type} (inv : Inv) (k : Nat) (x1 x7 x13 x14 x99 : Value) (h : AH) (kn : (Value → Value → Value → AH → Option β)) (kr : (Value → AH → Option β)) : Option β :=
    brV x99
    (bnd (inv (.func 9) #[] #[(Go.Value.slice none 0 0), x14] h) fun x101 =>
    bnd (pLen Try.prog #[25] x101.1 x101.2) fun x103 =>
    bnd (pLen Try.prog #[25] x1 x101.2) fun x105 =>
    bnd (pBin Try.prog Go.BinOp.gtr 3 (Go.Operand.tmp 103) (Go.Operand.tmp 105) x103 x105) fun x106 =>
    bnd (gd (some x106) false x101.2 (some (x101.1, x101.2))) fun x108 =>
    bnd (gd (some x106) false x108.2 (lt (pLen Try.prog #[25] x108.1 x108.2) x108.2)) fun x109 =>
    bnd (gd (some x106) false x109.2 (some (x1, x109.2))) fun x110 =>
    bnd (gd (some x106) false x110.2 (lt (pLen Try.prog #[25] x110.1 x110.2) x110.2)) fun x111 =>
    bnd (gd (some x106) false x111.2 (some (x13, x111.2))) fun x112 =>
    bnd (gd (some x106) false x112.2 (inv (.func 15) #[] #[x112.1] x112.2)) fun x113 =>
    bnd (gd (some x106) false x113.2 (lt (pBin Try.prog Go.BinOp.sub 3 (Go.Operand.tmp 111) (Go.Operand.tmp 113) x111.1 x113.1) x113.2)) fun x114 =>
    bnd (gd (some x106) false x114.2 (lt (pBin Try.prog Go.BinOp.neq 3 (Go.Operand.tmp 109) (Go.Operand.tmp 114) x109.1 x114.1) x114.2)) fun x115 =>
    bnd (pickV x106 (Go.Value.bool true) x115.1) fun x116 =>
    bnd (gd (some x116) false x115.2 (some (x101.1, x115.2))) fun x118 =>
    bnd (gd (some x116) false x118.2 (some (x1, x118.2))) fun x119 =>
    bnd (gd (some x116) false x119.2 (some (x101.1, x119.2))) fun x120 =>
    bnd (gd (some x116) false x120.2 (lt (pLen Try.prog #[25] x120.1 x120.2) x120.2)) fun x121 =>
    bnd (gd (some x116) false x121.2 (lt (pSlice Try.prog 25 x119.1 none (some x121.1) none x121.2) x121.2)) fun x122 =>
    bnd (gd (some x116) false x122.2 (inv (.func 16) #[] #[x118.1, x122.1] x122.2)) fun x123 =>
    bnd (gd (some x116) false x123.2 (lt (pUn Try.prog Go.UnOp.not x123.1) x123.2)) fun x124 =>
    bnd (pickV x116 (Go.Value.bool true) x124.1) fun x125 =>
    brV x125
    (kr (Go.Value.bool false) x124.2)
    (kn x7 x125 unk x124.2))
    (bnd (inv (.func 15) #[] #[x13] h) fun x127 =>
    bnd (pLen Try.prog #[25] x1 x127.2) fun x129 =>
    bnd (pBin Try.prog Go.BinOp.neq 3 (Go.Operand.tmp 127) (Go.Operand.tmp 129) x127.1 x129) fun x130 =>
    brV x130
    (kr (Go.Value.bool false) x127.2)
    (kn x7 unk x130 x127.2))
theorem F4_rlrrrrrrrrr_eq {β : Type} {inv : Inv} {k : Nat} {x1 x7 x13 x14 x99 : Value} {h : AH} {K : XE → Act → AH → Option β} : kCode env 4 false inv k (cr (cl (cr (cr (cr (cr (cr (cr (cr (cr (cr c4))))))))))) (act 134 [(1, x1), (7, x7), (13, x13), (14, x14), (99, x99)]) h K = F4_rlrrrrrrrrr inv k x1 x7 x13 x14 x99 h (fun y7 y125 y130 h => K .normal (act 134 [(7, y7), (125, y125), (130, y130)]) h) (fun y4 h => K .ret (act 134 [(4, y4)]) h) := by
      unfold F4_rlrrrrrrrrr
      simp only [b4_rlrrrrrrrrr, k_seq (E := env) (f := 4) (c := (cl (cr (cl (cr (cr (cr (cr (cr (cr (cr (cr (cr c4))))))))))))) (by kernel_rfl), r4_21, k_seq (E := env) (f := 4) (c := (cr (cl (cr (cl (cr (cr (cr (cr (cr (cr (cr (cr (cr c4)))))))))))))) (by kernel_rfl), r4_22, b4_rrlrlrrrrrrrrr, k_seq (E := env) (f := 4) (c := (cl (cr (cr (cl (cr (cl (cr (cr (cr (cr (cr (cr (cr (cr (cr c4)))))))))))))))) (by kernel_rfl), r4_23, k_ret (E := env) (f := 4) (c := (cr (cl (cr (cr (cl (cr (cl (cr (cr (cr (cr (cr (cr (cr (cr (cr c4))))))))))))))))) (by kernel_rfl), k_skip (E := env) (f := 4) (c := (cr (cr (cr (cl (cr (cl (cr (cr (cr (cr (cr (cr (cr (cr (cr c4)))))))))))))))) (by kernel_rfl), k_seq (E := env) (f := 4) (c := (cr (cr (cl (cr (cr (cr (cr (cr (cr (cr (cr (cr c4))))))))))))) (by kernel_rfl), r4_24, b4_rrrlrrrrrrrrr, k_seq (E := env) (f := 4) (c := (cl (cr (cr (cr (cl (cr (cr (cr (cr (cr (cr (cr (cr (cr c4))))))))))))))) (by kernel_rfl), r4_25, k_ret (E := env) (f := 4) (c := (cr (cl (cr (cr (cr (cl (cr (cr (cr (cr (cr (cr (cr (cr (cr c4)))))))))))))))) (by kernel_rfl), k_skip (E := env) (f := 4) (c := (cr (cr (cr (cr (cl (cr (cr (cr (cr (cr (cr (cr (cr (cr c4))))))))))))))) (by kernel_rfl), reduceIte, reduceCtorEq, XE.exit.injEq, Nat.reduceEqDiff] <;> kernel_rfl
theorem r4_26 {β : Type} {inv : Inv} {k : Nat} {x7 x125 x130 : Value} {h : AH} {K : XE → Act → AH → Option β} : kCode env 4 false inv k (cl (cr (cr (cr (cr (cr (cr (cr (cr (cr (cr c4))))))))))) (act 134 [(7, x7), (125, x125), (130, x130)]) h K =
    bnd (inv (.func 15) #[] #[x7] h) fun x132 =>
    bnd (pBin Try.prog Go.BinOp.eql 3 (Go.Operand.tmp 132) (Go.Operand.const (Go.Value.int Go.IntKind.i64 0)) x132.1 (Go.Value.int Go.IntKind.i64 0)) fun x133 =>
    K .normal (act 134 [(4, x133)]) x132.2 := (k_reg (by kernel_rfl)).trans (by kernel_rfl)
/-- shadowbook/shadowbooklaw01.OctetBack -/
noncomputable def F4 (inv : Inv) (k : Nat) (x0 x1 : Value) (h : AH) : Option (Value × AH) :=
    bnd (inv (.func 7) #[] #[] h) fun x17 =>
    bnd (pUn Try.prog Go.UnOp.not x17.1) fun x18 =>
    brV x18
    (some ((Go.Value.bool false), x17.2))
    (bnd (pLen Try.prog #[30] x0 x17.2) fun x20 =>
    bnd (pBin Try.prog Go.BinOp.gtr 3 (Go.Operand.tmp 20) (Go.Operand.const (Go.Value.int Go.IntKind.i64 60)) x20 (Go.Value.int Go.IntKind.i64 60)) fun x21 =>
    bnd (gd (some x21) false x17.2 (some (x1, x17.2))) fun x23 =>
    bnd (gd (some x21) false x23.2 (lt (pLen Try.prog #[25] x23.1 x23.2) x23.2)) fun x24 =>
    bnd (gd (some x21) false x24.2 (lt (pBin Try.prog Go.BinOp.gtr 3 (Go.Operand.tmp 24) (Go.Operand.const (Go.Value.int Go.IntKind.i64 200)) x24.1 (Go.Value.int Go.IntKind.i64 200)) x24.2)) fun x25 =>
    bnd (pickV x21 (Go.Value.bool true) x25.1) fun x26 =>
    brV x26
    (some ((Go.Value.bool true), x25.2))
    (F4_lrlrrrr inv k k x0 x1 (Go.Value.slice none 0 0) (Go.Value.int Go.IntKind.i64 0) x25.2
    (fun y0 y1 y5 y6 y30 h =>
    bnd (inv (.func 12) #[] #[y5] h) fun x45 =>
    F4_lrlrrrrrr inv k k y0 y1 x45.1 (Go.Value.int Go.IntKind.i64 0) x45.2
    (fun y0_1 y1_2 y7 y8 y49 h_3 =>
    bnd (inv (.func 12) #[] #[y1_2] h_3) fun x92 =>
    bnd (inv (.func 13) #[] #[x92.1] x92.2) fun x95 =>
    bnd (pExtract x95.1 0) fun x96 =>
    bnd (pExtract x95.1 1) fun x97 =>
    bnd (pBin Try.prog Go.BinOp.eql 34 (Go.Operand.tmp 98) (Go.Operand.const (Go.Value.int Go.IntKind.i64 0)) x97 (Go.Value.int Go.IntKind.i64 0)) fun x99 =>
    F4_rlrrrrrrrrr inv k y1_2 y7 x92.1 x96 x99 x95.2
    (fun y7_4 y125 y130 h_5 =>
    bnd (inv (.func 15) #[] #[y7_4] h_5) fun x132 =>
    bnd (pBin Try.prog Go.BinOp.eql 3 (Go.Operand.tmp 132) (Go.Operand.const (Go.Value.int Go.IntKind.i64 0)) x132.1 (Go.Value.int Go.IntKind.i64 0)) fun x133 =>
    some (x133, x132.2))
    (fun y4 h_6 =>
    some (y4, h_6)))
    (fun y4_7 h_8 =>
    some (y4_7, h_8)))))
theorem F4_eq {inv : Inv} {k : Nat} {x0 x1 : Value} {h : AH} : eFun env k inv 4 #[x0, x1] h = F4 inv k x0 x1 h := by
      refine (eFun_k2 (by kernel_rfl) (by kernel_rfl) (by kernel_rfl) (a := act 134 [(0, x0), (1, x1)]) (c := c4) (by kernel_rfl) (by kernel_rfl)).trans ?_
      unfold F4
      simp only [k_seq (E := env) (f := 4) (c := c4) (by kernel_rfl), r4_0, k_seq (E := env) (f := 4) (c := (cr c4)) (by kernel_rfl), k_seq (E := env) (f := 4) (c := (cl (cr c4))) (by kernel_rfl), r4_1, b4_rlr, k_seq (E := env) (f := 4) (c := (cl (cr (cl (cr c4))))) (by kernel_rfl), r4_2, k_ret (E := env) (f := 4) (c := (cr (cl (cr (cl (cr c4)))))) (by kernel_rfl), res4_0, k_skip (E := env) (f := 4) (c := (cr (cr (cl (cr c4))))) (by kernel_rfl), k_seq (E := env) (f := 4) (c := (cr (cr c4))) (by kernel_rfl), k_seq (E := env) (f := 4) (c := (cl (cr (cr c4)))) (by kernel_rfl), r4_3, b4_rlrr, k_seq (E := env) (f := 4) (c := (cl (cr (cl (cr (cr c4)))))) (by kernel_rfl), r4_4, k_ret (E := env) (f := 4) (c := (cr (cl (cr (cl (cr (cr c4))))))) (by kernel_rfl), k_skip (E := env) (f := 4) (c := (cr (cr (cl (cr (cr c4)))))) (by kernel_rfl), k_seq (E := env) (f := 4) (c := (cr (cr (cr c4)))) (by kernel_rfl), r4_5, k_seq (E := env) (f := 4) (c := (cr (cr (cr (cr c4))))) (by kernel_rfl), k_seq (E := env) (f := 4) (c := (cl (cr (cr (cr (cr c4)))))) (by kernel_rfl), r4_6, k_block (E := env) (f := 4) (c := (cr (cl (cr (cr (cr (cr c4))))))) (id := 0) (by kernel_rfl), F4_lrlrrrr_eq, k_seq (E := env) (f := 4) (c := (cr (cr (cr (cr (cr c4)))))) (by kernel_rfl), r4_10, k_seq (E := env) (f := 4) (c := (cr (cr (cr (cr (cr (cr c4))))))) (by kernel_rfl), k_seq (E := env) (f := 4) (c := (cl (cr (cr (cr (cr (cr (cr c4)))))))) (by kernel_rfl), r4_11, k_block (E := env) (f := 4) (c := (cr (cl (cr (cr (cr (cr (cr (cr c4))))))))) (id := 2) (by kernel_rfl), F4_lrlrrrrrr_eq, k_seq (E := env) (f := 4) (c := (cr (cr (cr (cr (cr (cr (cr c4)))))))) (by kernel_rfl), r4_18, k_seq (E := env) (f := 4) (c := (cr (cr (cr (cr (cr (cr (cr (cr c4))))))))) (by kernel_rfl), r4_19, k_seq (E := env) (f := 4) (c := (cr (cr (cr (cr (cr (cr (cr (cr (cr c4)))))))))) (by kernel_rfl), k_seq (E := env) (f := 4) (c := (cl (cr (cr (cr (cr (cr (cr (cr (cr (cr c4))))))))))) (by kernel_rfl), r4_20, F4_rlrrrrrrrrr_eq, k_seq (E := env) (f := 4) (c := (cr (cr (cr (cr (cr (cr (cr (cr (cr (cr c4))))))))))) (by kernel_rfl), r4_26, k_ret (E := env) (f := 4) (c := (cr (cr (cr (cr (cr (cr (cr (cr (cr (cr (cr c4)))))))))))) (by kernel_rfl), reduceIte, reduceCtorEq, XE.exit.injEq, Nat.reduceEqDiff] <;> kernel_rfl
theorem F4_call {k : Nat} {x0 x1 : Value} {h : AH} : eInv env (k + 1) (.func 4) #[] #[x0, x1] h = F4 (eInv env k) k x0 x1 h := (inv_func (by kernel_rfl)).trans F4_eq
noncomputable def c5 : Code := codeOf Try.prog 5
theorem r5_0 {β : Type} {inv : Inv} {k : Nat} {x0 x1 : Value} {h : AH} {K : XE → Act → AH → Option β} : kCode env 5 false inv k (cl c5) (act 86 [(0, x0), (1, x1)]) h K =
    K .normal (act 86 [(0, x0), (1, x1)]) h := (k_reg (by kernel_rfl)).trans (by kernel_rfl)
theorem r5_1 {β : Type} {inv : Inv} {k : Nat} {x0 x1 : Value} {h : AH} {K : XE → Act → AH → Option β} : kCode env 5 false inv k (cl (cl (cr c5))) (act 86 [(0, x0), (1, x1)]) h K =
    bnd (inv (.func 7) #[] #[] h) fun x17 =>
    bnd (pUn Try.prog Go.UnOp.not x17.1) fun x18 =>
    K .normal (act 86 [(0, x0), (1, x1), (18, x18)]) x17.2 := (k_reg (by kernel_rfl)).trans (by kernel_rfl)
theorem b5_rlr {β : Type} {inv : Inv} {k : Nat} {x0 x1 x18 : Value} {h : AH} {K : XE → Act → AH → Option β} : kCode env 5 false inv k (cr (cl (cr c5))) (act 86 [(0, x0), (1, x1), (18, x18)]) h K = brV x18 (kCode env 5 false inv k (cl (cr (cl (cr c5)))) (act 86 [(0, x0), (1, x1), (18, x18)]) h K) (kCode env 5 false inv k (cr (cr (cl (cr c5)))) (act 86 [(0, x0), (1, x1), (18, x18)]) h K) := (k_cond (by kernel_rfl)).trans (by kernel_rfl)
theorem r5_2 {β : Type} {inv : Inv} {k : Nat} {x0 x1 x18 : Value} {h : AH} {K : XE → Act → AH → Option β} : kCode env 5 false inv k (cl (cl (cr (cl (cr c5))))) (act 86 [(0, x0), (1, x1), (18, x18)]) h K =
    K .normal (act 86 [(4, (Go.Value.bool false))]) h := (k_reg (by kernel_rfl)).trans (by kernel_rfl)
theorem res5_0 {x4 : Value} {h : AH} : resOfFn env.P 5 .ret (act 86 [(4, x4)]) h = some (x4, h) := (resOfFn_k (by kernel_rfl) (by kernel_rfl)).trans (by kernel_rfl)
theorem r5_3 {β : Type} {inv : Inv} {k : Nat} {x0 x1 x18 : Value} {h : AH} {K : XE → Act → AH → Option β} : kCode env 5 false inv k (cl (cl (cr (cr c5)))) (act 86 [(0, x0), (1, x1), (18, x18)]) h K =
    bnd (pLen Try.prog #[25] x0 h) fun x20 =>
    bnd (pBin Try.prog Go.BinOp.gtr 3 (Go.Operand.tmp 20) (Go.Operand.const (Go.Value.int Go.IntKind.i64 200)) x20 (Go.Value.int Go.IntKind.i64 200)) fun x21 =>
    K .normal (act 86 [(0, x0), (1, x1), (21, x21)]) h := (k_reg (by kernel_rfl)).trans (by kernel_rfl)
theorem b5_rlrr {β : Type} {inv : Inv} {k : Nat} {x0 x1 x21 : Value} {h : AH} {K : XE → Act → AH → Option β} : kCode env 5 false inv k (cr (cl (cr (cr c5)))) (act 86 [(0, x0), (1, x1), (21, x21)]) h K = brV x21 (kCode env 5 false inv k (cl (cr (cl (cr (cr c5))))) (act 86 [(0, x0), (1, x1), (21, x21)]) h K) (kCode env 5 false inv k (cr (cr (cl (cr (cr c5))))) (act 86 [(0, x0), (1, x1), (21, x21)]) h K) := (k_cond (by kernel_rfl)).trans (by kernel_rfl)
theorem r5_4 {β : Type} {inv : Inv} {k : Nat} {x0 x1 x21 : Value} {h : AH} {K : XE → Act → AH → Option β} : kCode env 5 false inv k (cl (cl (cr (cl (cr (cr c5)))))) (act 86 [(0, x0), (1, x1), (21, x21)]) h K =
    K .normal (act 86 [(4, (Go.Value.bool true))]) h := (k_reg (by kernel_rfl)).trans (by kernel_rfl)
theorem r5_5 {β : Type} {inv : Inv} {k : Nat} {x0 x1 x21 : Value} {h : AH} {K : XE → Act → AH → Option β} : kCode env 5 false inv k (cl (cr (cr (cr c5)))) (act 86 [(0, x0), (1, x1), (21, x21)]) h K =
    K .normal (act 86 [(0, x0), (1, x1), (5, (Go.Value.pointer none))]) h := (k_reg (by kernel_rfl)).trans (by kernel_rfl)
theorem r5_6 {β : Type} {inv : Inv} {k : Nat} {x0 x1 x5 : Value} {h : AH} {K : XE → Act → AH → Option β} : kCode env 5 false inv k (cl (cr (cr (cr (cr c5))))) (act 86 [(0, x0), (1, x1), (5, x5)]) h K =
    bnd (inv (.func 14) #[] #[x5, x1] h) fun x25 =>
    bnd (pExtract x25.1 0) fun x26 =>
    bnd (pExtract x25.1 1) fun x27 =>
    K .normal (act 86 [(0, x0), (1, x1), (5, x5), (7, x27)]) x25.2 := (k_reg (by kernel_rfl)).trans (by kernel_rfl)
theorem r5_7 {β : Type} {inv : Inv} {k : Nat} {x0 x1 x5 x7 : Value} {h : AH} {K : XE → Act → AH → Option β} : kCode env 5 false inv k (cl (cr (cr (cr (cr (cr c5)))))) (act 86 [(0, x0), (1, x1), (5, x5), (7, x7)]) h K =
    bnd (inv (.func 13) #[] #[x5] h) fun x30 =>
    bnd (pExtract x30.1 0) fun x31 =>
    bnd (pExtract x30.1 1) fun x32 =>
    K .normal (act 86 [(0, x0), (1, x1), (5, x5), (7, x7), (9, x32)]) x30.2 := (k_reg (by kernel_rfl)).trans (by kernel_rfl)
theorem r5_8 {β : Type} {inv : Inv} {k : Nat} {x0 x1 x5 x7 x9 : Value} {h : AH} {K : XE → Act → AH → Option β} : kCode env 5 false inv k (cl (cr (cr (cr (cr (cr (cr c5))))))) (act 86 [(0, x0), (1, x1), (5, x5), (7, x7), (9, x9)]) h K =
    bnd (inv (.func 17) #[] #[x5, x1] h) fun x36 =>
    bnd (pExtract x36.1 0) fun x37 =>
    bnd (pExtract x36.1 1) fun x38 =>
    K .normal (act 86 [(0, x0), (5, x5), (7, x7), (9, x9), (11, x38)]) x36.2 := (k_reg (by kernel_rfl)).trans (by kernel_rfl)
theorem r5_9 {β : Type} {inv : Inv} {k : Nat} {x0 x5 x7 x9 x11 : Value} {h : AH} {K : XE → Act → AH → Option β} : kCode env 5 false inv k (cl (cr (cr (cr (cr (cr (cr (cr c5)))))))) (act 86 [(0, x0), (5, x5), (7, x7), (9, x9), (11, x11)]) h K =
    bnd (inv (.func 18) #[] #[x0] h) fun x40 =>
    K .normal (act 86 [(0, x0), (5, x5), (7, x7), (9, x9), (11, x11), (12, x40.1)]) x40.2 := (k_reg (by kernel_rfl)).trans (by kernel_rfl)
theorem r5_10 {β : Type} {inv : Inv} {k : Nat} {x0 x5 x7 x9 x11 x12 : Value} {h : AH} {K : XE → Act → AH → Option β} : kCode env 5 false inv k (cl (cr (cr (cr (cr (cr (cr (cr (cr c5))))))))) (act 86 [(0, x0), (5, x5), (7, x7), (9, x9), (11, x11), (12, x12)]) h K =
    bnd (inv (.func 12) #[] #[x12] h) fun x42 =>
    K .normal (act 86 [(0, x0), (5, x5), (7, x7), (9, x9), (11, x11), (12, x12), (13, x42.1)]) x42.2 := (k_reg (by kernel_rfl)).trans (by kernel_rfl)
theorem r5_11 {β : Type} {inv : Inv} {k : Nat} {x0 x5 x7 x9 x11 x12 x13 : Value} {h : AH} {K : XE → Act → AH → Option β} : kCode env 5 false inv k (cl (cl (cr (cr (cr (cr (cr (cr (cr (cr (cr c5))))))))))) (act 86 [(0, x0), (5, x5), (7, x7), (9, x9), (11, x11), (12, x12), (13, x13)]) h K =
    K .normal (act 86 [(0, x0), (5, x5), (7, x7), (9, x9), (11, x11), (12, x12), (13, x13), (14, (Go.Value.int Go.IntKind.i64 0))]) h := (k_reg (by kernel_rfl)).trans (by kernel_rfl)
theorem r5_12 {β : Type} {inv : Inv} {k : Nat} {x0 x5 x7 x9 x11 x12 x13 x14 : Value} {h : AH} {K : XE → Act → AH → Option β} : kCode env 5 false inv k (cl (cl (cl (cl (cr (cl (cr (cr (cr (cr (cr (cr (cr (cr (cr c5))))))))))))))) (act 86 [(0, x0), (5, x5), (7, x7), (9, x9), (11, x11), (12, x12), (13, x13), (14, x14)]) h K =
    bnd (pLen Try.prog #[25] x12 h) fun x45 =>
    bnd (pBin Try.prog Go.BinOp.lss 3 (Go.Operand.tmp 43) (Go.Operand.tmp 45) x14 x45) fun x46 =>
    K .normal (act 86 [(0, x0), (5, x5), (7, x7), (9, x9), (11, x11), (12, x12), (13, x13), (14, x14), (46, x46)]) h := (k_reg (by kernel_rfl)).trans (by kernel_rfl)
theorem b5_rlllrlrrrrrrrrr {β : Type} {inv : Inv} {k : Nat} {x0 x5 x7 x9 x11 x12 x13 x14 x46 : Value} {h : AH} {K : XE → Act → AH → Option β} : kCode env 5 false inv k (cr (cl (cl (cl (cr (cl (cr (cr (cr (cr (cr (cr (cr (cr (cr c5))))))))))))))) (act 86 [(0, x0), (5, x5), (7, x7), (9, x9), (11, x11), (12, x12), (13, x13), (14, x14), (46, x46)]) h K = brV x46 (kCode env 5 false inv k (cl (cr (cl (cl (cl (cr (cl (cr (cr (cr (cr (cr (cr (cr (cr (cr c5)))))))))))))))) (act 86 [(0, x0), (5, x5), (7, x7), (9, x9), (11, x11), (12, x12), (13, x13), (14, x14), (46, x46)]) h K) (kCode env 5 false inv k (cr (cr (cl (cl (cl (cr (cl (cr (cr (cr (cr (cr (cr (cr (cr (cr c5)))))))))))))))) (act 86 [(0, x0), (5, x5), (7, x7), (9, x9), (11, x11), (12, x12), (13, x13), (14, x14), (46, x46)]) h K) := (k_cond (by kernel_rfl)).trans (by kernel_rfl)
theorem r5_14 {β : Type} {inv : Inv} {k : Nat} {x0 x5 x7 x9 x11 x12 x13 x14 x46 : Value} {h : AH} {K : XE → Act → AH → Option β} : kCode env 5 false inv k (cl (cl (cr (cl (cl (cr (cl (cr (cr (cr (cr (cr (cr (cr (cr (cr c5)))))))))))))))) (act 86 [(0, x0), (5, x5), (7, x7), (9, x9), (11, x11), (12, x12), (13, x13), (14, x14), (46, x46)]) h K =
    bnd (pIndexAddr Try.prog 25 x12 x14) fun x51 =>
    bnd (pLoad Try.prog 5 x51 h) fun x52 =>
    bnd (pBin Try.prog Go.BinOp.add 5 (Go.Operand.tmp 52) (Go.Operand.const (Go.Value.int Go.IntKind.u8 1)) x52 (Go.Value.int Go.IntKind.u8 1)) fun x53 =>
    bnd (pIndexAddr Try.prog 25 x12 x14) fun x54 =>
    bnd (kSt (pStore Try.prog 5 x54 x53 h)) fun u =>
    K .normal (act 86 [(0, x0), (5, x5), (7, x7), (9, x9), (11, x11), (12, x12), (13, x13), (14, x14)]) u.2 := (k_reg (by kernel_rfl)).trans (by kernel_rfl)
theorem r5_13 {β : Type} {inv : Inv} {k : Nat} {x0 x5 x7 x9 x11 x12 x13 x14 : Value} {h : AH} {K : XE → Act → AH → Option β} : kCode env 5 false inv k (cr (cr (cl (cl (cr (cl (cr (cr (cr (cr (cr (cr (cr (cr (cr c5))))))))))))))) (act 86 [(0, x0), (5, x5), (7, x7), (9, x9), (11, x11), (12, x12), (13, x13), (14, x14)]) h K =
    bnd (pBin Try.prog Go.BinOp.add 3 (Go.Operand.tmp 47) (Go.Operand.const (Go.Value.int Go.IntKind.i64 1)) x14 (Go.Value.int Go.IntKind.i64 1)) fun x48 =>
    K .normal (act 86 [(0, x0), (5, x5), (7, x7), (9, x9), (11, x11), (12, x12), (13, x13), (14, x48)]) h := (k_reg (by kernel_rfl)).trans (by kernel_rfl)
noncomputable def F5_lrlrrrrrrrrr {β : Type} (inv : Inv) (k : Nat) : Nat → Value → Value → Value → Value → Value → Value → Value → Value → AH → (Value → Value → Value → Value → Value → Value → Value → Value → Value → AH → Option β) → Option β
  | 0, _, _, _, _, _, _, _, _, _, _ => none
  | j + 1, x0, x5, x7, x9, x11, x12, x13, x14, h, ke0 =>
    bnd (pLen Try.prog #[25] x12 h) fun x45 =>
    bnd (pBin Try.prog Go.BinOp.lss 3 (Go.Operand.tmp 43) (Go.Operand.tmp 45) x14 x45) fun x46 =>
    brV x46
    (bnd (pIndexAddr Try.prog 25 x12 x14) fun x51 =>
    bnd (pLoad Try.prog 5 x51 h) fun x52 =>
    bnd (pBin Try.prog Go.BinOp.add 5 (Go.Operand.tmp 52) (Go.Operand.const (Go.Value.int Go.IntKind.u8 1)) x52 (Go.Value.int Go.IntKind.u8 1)) fun x53 =>
    bnd (pIndexAddr Try.prog 25 x12 x14) fun x54 =>
    bnd (kSt (pStore Try.prog 5 x54 x53 h)) fun u =>
    bnd (pBin Try.prog Go.BinOp.add 3 (Go.Operand.tmp 47) (Go.Operand.const (Go.Value.int Go.IntKind.i64 1)) x14 (Go.Value.int Go.IntKind.i64 1)) fun x48 =>
    F5_lrlrrrrrrrrr inv k j x0 x5 x7 x9 x11 x12 x13 x48 u.2 ke0)
    (ke0 x0 x5 x7 x9 x11 x12 x13 x14 x46 h)
theorem F5_lrlrrrrrrrrr_j {β : Type} {inv : Inv} {k : Nat} (j : Nat) {x0 x5 x7 x9 x11 x12 x13 x14 : Value} {h : AH} {K : XE → Act → AH → Option β} : kLoop (kCode env 5 false inv k (cl (cl (cr (cl (cr (cr (cr (cr (cr (cr (cr (cr (cr c5)))))))))))))) j (act 86 [(0, x0), (5, x5), (7, x7), (9, x9), (11, x11), (12, x12), (13, x13), (14, x14)]) h K = F5_lrlrrrrrrrrr inv k j x0 x5 x7 x9 x11 x12 x13 x14 h (fun y0 y5 y7 y9 y11 y12 y13 y14 y46 h => K (.exit 0) (act 86 [(0, y0), (5, y5), (7, y7), (9, y9), (11, y11), (12, y12), (13, y13), (14, y14), (46, y46)]) h) := by
      induction j generalizing x0 x5 x7 x9 x11 x12 x13 x14 h with
      | zero => rfl
      | succ j ih =>
        unfold F5_lrlrrrrrrrrr
        simp only [kLoop, k_seq (E := env) (f := 5) (c := (cl (cl (cr (cl (cr (cr (cr (cr (cr (cr (cr (cr (cr c5)))))))))))))) (by kernel_rfl), k_seq (E := env) (f := 5) (c := (cl (cl (cl (cr (cl (cr (cr (cr (cr (cr (cr (cr (cr (cr c5))))))))))))))) (by kernel_rfl), r5_12, b5_rlllrlrrrrrrrrr, k_skip (E := env) (f := 5) (c := (cl (cr (cl (cl (cl (cr (cl (cr (cr (cr (cr (cr (cr (cr (cr (cr c5))))))))))))))))) (by kernel_rfl), k_seq (E := env) (f := 5) (c := (cr (cl (cl (cr (cl (cr (cr (cr (cr (cr (cr (cr (cr (cr c5))))))))))))))) (by kernel_rfl), k_block (E := env) (f := 5) (c := (cl (cr (cl (cl (cr (cl (cr (cr (cr (cr (cr (cr (cr (cr (cr c5)))))))))))))))) (id := 1) (by kernel_rfl), r5_14, r5_13, k_exit (E := env) (f := 5) (c := (cr (cr (cl (cl (cl (cr (cl (cr (cr (cr (cr (cr (cr (cr (cr (cr c5))))))))))))))))) (id := 0) (by kernel_rfl), ih, reduceIte, reduceCtorEq, XE.exit.injEq, Nat.reduceEqDiff] <;> kernel_rfl
theorem F5_lrlrrrrrrrrr_eq {β : Type} {inv : Inv} {k : Nat} {x0 x5 x7 x9 x11 x12 x13 x14 : Value} {h : AH} {K : XE → Act → AH → Option β} : kCode env 5 false inv k (cl (cr (cl (cr (cr (cr (cr (cr (cr (cr (cr (cr c5)))))))))))) (act 86 [(0, x0), (5, x5), (7, x7), (9, x9), (11, x11), (12, x12), (13, x13), (14, x14)]) h K = F5_lrlrrrrrrrrr inv k k x0 x5 x7 x9 x11 x12 x13 x14 h (fun y0 y5 y7 y9 y11 y12 y13 y14 y46 h => K (.exit 0) (act 86 [(0, y0), (5, y5), (7, y7), (9, y9), (11, y11), (12, y12), (13, y13), (14, y14), (46, y46)]) h) := (k_loop (by kernel_rfl)).trans (F5_lrlrrrrrrrrr_j k)
theorem r5_15 {β : Type} {inv : Inv} {k : Nat} {x0 x5 x7 x9 x11 x12 x13 x14 x46 : Value} {h : AH} {K : XE → Act → AH → Option β} : kCode env 5 false inv k (cl (cr (cr (cr (cr (cr (cr (cr (cr (cr (cr c5))))))))))) (act 86 [(0, x0), (5, x5), (7, x7), (9, x9), (11, x11), (12, x12), (13, x13), (14, x14), (46, x46)]) h K =
    bnd (pLen Try.prog #[25] x0 h) fun x58 =>
    bnd (inv (.func 17) #[] #[x13, x58] h) fun x59 =>
    bnd (pExtract x59.1 0) fun x60 =>
    bnd (pExtract x59.1 1) fun x61 =>
    K .normal (act 86 [(0, x0), (5, x5), (7, x7), (9, x9), (11, x11), (15, x60), (16, x61)]) x59.2 := (k_reg (by kernel_rfl)).trans (by kernel_rfl)
theorem r5_16 {β : Type} {inv : Inv} {k : Nat} {x0 x5 x7 x9 x11 x15 x16 : Value} {h : AH} {K : XE → Act → AH → Option β} : kCode env 5 false inv k (cl (cr (cr (cr (cr (cr (cr (cr (cr (cr (cr (cr c5)))))))))))) (act 86 [(0, x0), (5, x5), (7, x7), (9, x9), (11, x11), (15, x15), (16, x16)]) h K =
    bnd (pBin Try.prog Go.BinOp.eql 34 (Go.Operand.tmp 62) (Go.Operand.const (Go.Value.int Go.IntKind.i64 1)) x7 (Go.Value.int Go.IntKind.i64 1)) fun x63 =>
    bnd (gd (some x63) true h (some (x9, h))) fun x65 =>
    bnd (gd (some x63) true x65.2 (lt (pBin Try.prog Go.BinOp.eql 34 (Go.Operand.tmp 65) (Go.Operand.const (Go.Value.int Go.IntKind.i64 1)) x65.1 (Go.Value.int Go.IntKind.i64 1)) x65.2)) fun x66 =>
    bnd (pickV x63 x66.1 (Go.Value.bool false)) fun x67 =>
    bnd (gd (some x67) true x66.2 (some (x11, x66.2))) fun x69 =>
    bnd (gd (some x67) true x69.2 (lt (pBin Try.prog Go.BinOp.eql 34 (Go.Operand.tmp 69) (Go.Operand.const (Go.Value.int Go.IntKind.i64 1)) x69.1 (Go.Value.int Go.IntKind.i64 1)) x69.2)) fun x70 =>
    bnd (pickV x67 x70.1 (Go.Value.bool false)) fun x71 =>
    bnd (gd (some x71) true x70.2 (some (x5, x70.2))) fun x73 =>
    bnd (gd (some x71) true x73.2 (inv (.func 15) #[] #[x73.1] x73.2)) fun x74 =>
    bnd (gd (some x71) true x74.2 (lt (pBin Try.prog Go.BinOp.eql 3 (Go.Operand.tmp 74) (Go.Operand.const (Go.Value.int Go.IntKind.i64 0)) x74.1 (Go.Value.int Go.IntKind.i64 0)) x74.2)) fun x75 =>
    bnd (pickV x71 x75.1 (Go.Value.bool false)) fun x76 =>
    bnd (gd (some x76) true x75.2 (some (x16, x75.2))) fun x78 =>
    bnd (gd (some x76) true x78.2 (lt (pBin Try.prog Go.BinOp.eql 34 (Go.Operand.tmp 78) (Go.Operand.const (Go.Value.int Go.IntKind.i64 0)) x78.1 (Go.Value.int Go.IntKind.i64 0)) x78.2)) fun x79 =>
    bnd (pickV x76 x79.1 (Go.Value.bool false)) fun x80 =>
    bnd (gd (some x80) true x79.2 (some (x15, x79.2))) fun x82 =>
    bnd (gd (some x80) true x82.2 (some (x0, x82.2))) fun x83 =>
    bnd (gd (some x80) true x83.2 (inv (.func 16) #[] #[x82.1, x83.1] x83.2)) fun x84 =>
    bnd (pickV x80 x84.1 (Go.Value.bool false)) fun x85 =>
    K .normal (act 86 [(4, x85)]) x84.2 := (k_reg (by kernel_rfl)).trans (by kernel_rfl)
/-- shadowbook/shadowbooklaw01.OctetOwn -/
noncomputable def F5 (inv : Inv) (k : Nat) (x0 x1 : Value) (h : AH) : Option (Value × AH) :=
    bnd (inv (.func 7) #[] #[] h) fun x17 =>
    bnd (pUn Try.prog Go.UnOp.not x17.1) fun x18 =>
    brV x18
    (some ((Go.Value.bool false), x17.2))
    (bnd (pLen Try.prog #[25] x0 x17.2) fun x20 =>
    bnd (pBin Try.prog Go.BinOp.gtr 3 (Go.Operand.tmp 20) (Go.Operand.const (Go.Value.int Go.IntKind.i64 200)) x20 (Go.Value.int Go.IntKind.i64 200)) fun x21 =>
    brV x21
    (some ((Go.Value.bool true), x17.2))
    (bnd (inv (.func 14) #[] #[(Go.Value.pointer none), x1] x17.2) fun x25 =>
    bnd (pExtract x25.1 0) fun x26 =>
    bnd (pExtract x25.1 1) fun x27 =>
    bnd (inv (.func 13) #[] #[(Go.Value.pointer none)] x25.2) fun x30 =>
    bnd (pExtract x30.1 0) fun x31 =>
    bnd (pExtract x30.1 1) fun x32 =>
    bnd (inv (.func 17) #[] #[(Go.Value.pointer none), x1] x30.2) fun x36 =>
    bnd (pExtract x36.1 0) fun x37 =>
    bnd (pExtract x36.1 1) fun x38 =>
    bnd (inv (.func 18) #[] #[x0] x36.2) fun x40 =>
    bnd (inv (.func 12) #[] #[x40.1] x40.2) fun x42 =>
    F5_lrlrrrrrrrrr inv k k x0 (Go.Value.pointer none) x27 x32 x38 x40.1 x42.1 (Go.Value.int Go.IntKind.i64 0) x42.2
    (fun y0 y5 y7 y9 y11 y12 y13 y14 y46 h =>
    bnd (pLen Try.prog #[25] y0 h) fun x58 =>
    bnd (inv (.func 17) #[] #[y13, x58] h) fun x59 =>
    bnd (pExtract x59.1 0) fun x60 =>
    bnd (pExtract x59.1 1) fun x61 =>
    bnd (pBin Try.prog Go.BinOp.eql 34 (Go.Operand.tmp 62) (Go.Operand.const (Go.Value.int Go.IntKind.i64 1)) y7 (Go.Value.int Go.IntKind.i64 1)) fun x63 =>
    bnd (gd (some x63) true x59.2 (some (y9, x59.2))) fun x65 =>
    bnd (gd (some x63) true x65.2 (lt (pBin Try.prog Go.BinOp.eql 34 (Go.Operand.tmp 65) (Go.Operand.const (Go.Value.int Go.IntKind.i64 1)) x65.1 (Go.Value.int Go.IntKind.i64 1)) x65.2)) fun x66 =>
    bnd (pickV x63 x66.1 (Go.Value.bool false)) fun x67 =>
    bnd (gd (some x67) true x66.2 (some (y11, x66.2))) fun x69 =>
    bnd (gd (some x67) true x69.2 (lt (pBin Try.prog Go.BinOp.eql 34 (Go.Operand.tmp 69) (Go.Operand.const (Go.Value.int Go.IntKind.i64 1)) x69.1 (Go.Value.int Go.IntKind.i64 1)) x69.2)) fun x70 =>
    bnd (pickV x67 x70.1 (Go.Value.bool false)) fun x71 =>
    bnd (gd (some x71) true x70.2 (some (y5, x70.2))) fun x73 =>
    bnd (gd (some x71) true x73.2 (inv (.func 15) #[] #[x73.1] x73.2)) fun x74 =>
    bnd (gd (some x71) true x74.2 (lt (pBin Try.prog Go.BinOp.eql 3 (Go.Operand.tmp 74) (Go.Operand.const (Go.Value.int Go.IntKind.i64 0)) x74.1 (Go.Value.int Go.IntKind.i64 0)) x74.2)) fun x75 =>
    bnd (pickV x71 x75.1 (Go.Value.bool false)) fun x76 =>
    bnd (gd (some x76) true x75.2 (some (x61, x75.2))) fun x78 =>
    bnd (gd (some x76) true x78.2 (lt (pBin Try.prog Go.BinOp.eql 34 (Go.Operand.tmp 78) (Go.Operand.const (Go.Value.int Go.IntKind.i64 0)) x78.1 (Go.Value.int Go.IntKind.i64 0)) x78.2)) fun x79 =>
    bnd (pickV x76 x79.1 (Go.Value.bool false)) fun x80 =>
    bnd (gd (some x80) true x79.2 (some (x60, x79.2))) fun x82 =>
    bnd (gd (some x80) true x82.2 (some (y0, x82.2))) fun x83 =>
    bnd (gd (some x80) true x83.2 (inv (.func 16) #[] #[x82.1, x83.1] x83.2)) fun x84 =>
    bnd (pickV x80 x84.1 (Go.Value.bool false)) fun x85 =>
    some (x85, x84.2))))
theorem F5_eq {inv : Inv} {k : Nat} {x0 x1 : Value} {h : AH} : eFun env k inv 5 #[x0, x1] h = F5 inv k x0 x1 h := by
      refine (eFun_k2 (by kernel_rfl) (by kernel_rfl) (by kernel_rfl) (a := act 86 [(0, x0), (1, x1)]) (c := c5) (by kernel_rfl) (by kernel_rfl)).trans ?_
      unfold F5
      simp only [k_seq (E := env) (f := 5) (c := c5) (by kernel_rfl), r5_0, k_seq (E := env) (f := 5) (c := (cr c5)) (by kernel_rfl), k_seq (E := env) (f := 5) (c := (cl (cr c5))) (by kernel_rfl), r5_1, b5_rlr, k_seq (E := env) (f := 5) (c := (cl (cr (cl (cr c5))))) (by kernel_rfl), r5_2, k_ret (E := env) (f := 5) (c := (cr (cl (cr (cl (cr c5)))))) (by kernel_rfl), res5_0, k_skip (E := env) (f := 5) (c := (cr (cr (cl (cr c5))))) (by kernel_rfl), k_seq (E := env) (f := 5) (c := (cr (cr c5))) (by kernel_rfl), k_seq (E := env) (f := 5) (c := (cl (cr (cr c5)))) (by kernel_rfl), r5_3, b5_rlrr, k_seq (E := env) (f := 5) (c := (cl (cr (cl (cr (cr c5)))))) (by kernel_rfl), r5_4, k_ret (E := env) (f := 5) (c := (cr (cl (cr (cl (cr (cr c5))))))) (by kernel_rfl), k_skip (E := env) (f := 5) (c := (cr (cr (cl (cr (cr c5)))))) (by kernel_rfl), k_seq (E := env) (f := 5) (c := (cr (cr (cr c5)))) (by kernel_rfl), r5_5, k_seq (E := env) (f := 5) (c := (cr (cr (cr (cr c5))))) (by kernel_rfl), r5_6, k_seq (E := env) (f := 5) (c := (cr (cr (cr (cr (cr c5)))))) (by kernel_rfl), r5_7, k_seq (E := env) (f := 5) (c := (cr (cr (cr (cr (cr (cr c5))))))) (by kernel_rfl), r5_8, k_seq (E := env) (f := 5) (c := (cr (cr (cr (cr (cr (cr (cr c5)))))))) (by kernel_rfl), r5_9, k_seq (E := env) (f := 5) (c := (cr (cr (cr (cr (cr (cr (cr (cr c5))))))))) (by kernel_rfl), r5_10, k_seq (E := env) (f := 5) (c := (cr (cr (cr (cr (cr (cr (cr (cr (cr c5)))))))))) (by kernel_rfl), k_seq (E := env) (f := 5) (c := (cl (cr (cr (cr (cr (cr (cr (cr (cr (cr c5))))))))))) (by kernel_rfl), r5_11, k_block (E := env) (f := 5) (c := (cr (cl (cr (cr (cr (cr (cr (cr (cr (cr (cr c5)))))))))))) (id := 0) (by kernel_rfl), F5_lrlrrrrrrrrr_eq, k_seq (E := env) (f := 5) (c := (cr (cr (cr (cr (cr (cr (cr (cr (cr (cr c5))))))))))) (by kernel_rfl), r5_15, k_seq (E := env) (f := 5) (c := (cr (cr (cr (cr (cr (cr (cr (cr (cr (cr (cr c5)))))))))))) (by kernel_rfl), r5_16, k_ret (E := env) (f := 5) (c := (cr (cr (cr (cr (cr (cr (cr (cr (cr (cr (cr (cr c5))))))))))))) (by kernel_rfl), reduceIte, reduceCtorEq, XE.exit.injEq, Nat.reduceEqDiff] <;> kernel_rfl
theorem F5_call {k : Nat} {x0 x1 : Value} {h : AH} : eInv env (k + 1) (.func 5) #[] #[x0, x1] h = F5 (eInv env k) k x0 x1 h := (inv_func (by kernel_rfl)).trans F5_eq
noncomputable def c8 : Code := codeOf Try.prog 8
theorem r8_0 {β : Type} {inv : Inv} {k : Nat} {x0 : Value} {h : AH} {K : XE → Act → AH → Option β} : kCode env 8 false inv k (cl c8) (act 10 [(0, x0)]) h K =
    K .normal (act 10 [(0, x0)]) h := (k_reg (by kernel_rfl)).trans (by kernel_rfl)
theorem r8_1 {β : Type} {inv : Inv} {k : Nat} {x0 : Value} {h : AH} {K : XE → Act → AH → Option β} : kCode env 8 false inv k (cl (cr c8)) (act 10 [(0, x0)]) h K =
    bnd (pConv Try.prog 2 23 x0 h) fun x4 =>
    bnd (pBin Try.prog Go.BinOp.shl 23 (Go.Operand.tmp 4) (Go.Operand.const (Go.Value.int Go.IntKind.u64 1)) x4 (Go.Value.int Go.IntKind.u64 1)) fun x5 =>
    bnd (pBin Try.prog Go.BinOp.shr 2 (Go.Operand.tmp 6) (Go.Operand.const (Go.Value.int Go.IntKind.u64 63)) x0 (Go.Value.int Go.IntKind.u64 63)) fun x7 =>
    bnd (pConv Try.prog 2 23 x7 h) fun x8 =>
    bnd (pBin Try.prog Go.BinOp.xor 23 (Go.Operand.tmp 5) (Go.Operand.tmp 8) x5 x8) fun x9 =>
    K .normal (act 10 [(2, x9)]) h := (k_reg (by kernel_rfl)).trans (by kernel_rfl)
theorem res8_0 {x2 : Value} {h : AH} : resOfFn env.P 8 .ret (act 10 [(2, x2)]) h = some (x2, h) := (resOfFn_k (by kernel_rfl) (by kernel_rfl)).trans (by kernel_rfl)
/-- shadowbook/octet.Zig -/
noncomputable def F8 (inv : Inv) (k : Nat) (x0 : Value) (h : AH) : Option (Value × AH) :=
    bnd (pConv Try.prog 2 23 x0 h) fun x4 =>
    bnd (pBin Try.prog Go.BinOp.shl 23 (Go.Operand.tmp 4) (Go.Operand.const (Go.Value.int Go.IntKind.u64 1)) x4 (Go.Value.int Go.IntKind.u64 1)) fun x5 =>
    bnd (pBin Try.prog Go.BinOp.shr 2 (Go.Operand.tmp 6) (Go.Operand.const (Go.Value.int Go.IntKind.u64 63)) x0 (Go.Value.int Go.IntKind.u64 63)) fun x7 =>
    bnd (pConv Try.prog 2 23 x7 h) fun x8 =>
    bnd (pBin Try.prog Go.BinOp.xor 23 (Go.Operand.tmp 5) (Go.Operand.tmp 8) x5 x8) fun x9 =>
    some (x9, h)
theorem F8_eq {inv : Inv} {k : Nat} {x0 : Value} {h : AH} : eFun env k inv 8 #[x0] h = F8 inv k x0 h := by
      refine (eFun_k2 (by kernel_rfl) (by kernel_rfl) (by kernel_rfl) (a := act 10 [(0, x0)]) (c := c8) (by kernel_rfl) (by kernel_rfl)).trans ?_
      unfold F8
      simp only [k_seq (E := env) (f := 8) (c := c8) (by kernel_rfl), r8_0, k_seq (E := env) (f := 8) (c := (cr c8)) (by kernel_rfl), r8_1, k_ret (E := env) (f := 8) (c := (cr (cr c8))) (by kernel_rfl), res8_0, reduceIte, reduceCtorEq, XE.exit.injEq, Nat.reduceEqDiff] <;> kernel_rfl
theorem F8_call {k : Nat} {x0 : Value} {h : AH} : eInv env (k + 1) (.func 8) #[] #[x0] h = F8 (eInv env k) k x0 h := (inv_func (by kernel_rfl)).trans F8_eq
noncomputable def c9 : Code := codeOf Try.prog 9
theorem r9_0 {β : Type} {inv : Inv} {k : Nat} {x0 x1 : Value} {h : AH} {K : XE → Act → AH → Option β} : kCode env 9 false inv k (cl c9) (act 20 [(0, x0), (1, x1)]) h K =
    K .normal (act 20 [(0, x0), (1, x1)]) h := (k_reg (by kernel_rfl)).trans (by kernel_rfl)
theorem r9_1 {β : Type} {inv : Inv} {k : Nat} {x0 x1 : Value} {h : AH} {K : XE → Act → AH → Option β} : kCode env 9 false inv k (cl (cl (cl (cl (cl (cr c9)))))) (act 20 [(0, x0), (1, x1)]) h K =
    bnd (pBin Try.prog Go.BinOp.geq 23 (Go.Operand.tmp 5) (Go.Operand.const (Go.Value.int Go.IntKind.u64 128)) x1 (Go.Value.int Go.IntKind.u64 128)) fun x6 =>
    K .normal (act 20 [(0, x0), (1, x1), (6, x6)]) h := (k_reg (by kernel_rfl)).trans (by kernel_rfl)
theorem b9_rllllr {β : Type} {inv : Inv} {k : Nat} {x0 x1 x6 : Value} {h : AH} {K : XE → Act → AH → Option β} : kCode env 9 false inv k (cr (cl (cl (cl (cl (cr c9)))))) (act 20 [(0, x0), (1, x1), (6, x6)]) h K = brV x6 (kCode env 9 false inv k (cl (cr (cl (cl (cl (cl (cr c9))))))) (act 20 [(0, x0), (1, x1), (6, x6)]) h K) (kCode env 9 false inv k (cr (cr (cl (cl (cl (cl (cr c9))))))) (act 20 [(0, x0), (1, x1), (6, x6)]) h K) := (k_cond (by kernel_rfl)).trans (by kernel_rfl)
theorem r9_3 {β : Type} {inv : Inv} {k : Nat} {x0 x1 x6 : Value} {h : AH} {K : XE → Act → AH → Option β} : kCode env 9 false inv k (cl (cl (cr (cl (cl (cl (cr c9))))))) (act 20 [(0, x0), (1, x1), (6, x6)]) h K =
    bnd (pConv Try.prog 23 5 x1 h) fun x11 =>
    bnd (pBin Try.prog Go.BinOp.or 5 (Go.Operand.tmp 11) (Go.Operand.const (Go.Value.int Go.IntKind.u8 128)) x11 (Go.Value.int Go.IntKind.u8 128)) fun x12 =>
    bnd (pBuildSlice Try.prog 25 1 #[(0, x12)] h) fun x13 =>
    bnd (pAppend Try.prog #[25, 25] x0 x13.1 x13.2) fun x14 =>
    K .normal (act 20 [(0, x14.1), (1, x1)]) x14.2 := (k_reg (by kernel_rfl)).trans (by kernel_rfl)
theorem r9_2 {β : Type} {inv : Inv} {k : Nat} {x0 x1 : Value} {h : AH} {K : XE → Act → AH → Option β} : kCode env 9 false inv k (cr (cr (cl (cl (cl (cr c9)))))) (act 20 [(0, x0), (1, x1)]) h K =
    bnd (pBin Try.prog Go.BinOp.shr 23 (Go.Operand.tmp 7) (Go.Operand.const (Go.Value.int Go.IntKind.u64 7)) x1 (Go.Value.int Go.IntKind.u64 7)) fun x8 =>
    K .normal (act 20 [(0, x0), (1, x8)]) h := (k_reg (by kernel_rfl)).trans (by kernel_rfl)
noncomputable def F9_llr {β : Type} (inv : Inv) (k : Nat) : Nat → Value → Value → AH → (Value → Value → Value → AH → Option β) → Option β
  | 0, _, _, _, _ => none
  | j + 1, x0, x1, h, ke0 =>
    bnd (pBin Try.prog Go.BinOp.geq 23 (Go.Operand.tmp 5) (Go.Operand.const (Go.Value.int Go.IntKind.u64 128)) x1 (Go.Value.int Go.IntKind.u64 128)) fun x6 =>
    brV x6
    (bnd (pConv Try.prog 23 5 x1 h) fun x11 =>
    bnd (pBin Try.prog Go.BinOp.or 5 (Go.Operand.tmp 11) (Go.Operand.const (Go.Value.int Go.IntKind.u8 128)) x11 (Go.Value.int Go.IntKind.u8 128)) fun x12 =>
    bnd (pBuildSlice Try.prog 25 1 #[(0, x12)] h) fun x13 =>
    bnd (pAppend Try.prog #[25, 25] x0 x13.1 x13.2) fun x14 =>
    bnd (pBin Try.prog Go.BinOp.shr 23 (Go.Operand.tmp 7) (Go.Operand.const (Go.Value.int Go.IntKind.u64 7)) x1 (Go.Value.int Go.IntKind.u64 7)) fun x8 =>
    F9_llr inv k j x14.1 x8 x14.2 ke0)
    (ke0 x0 x1 x6 h)
theorem F9_llr_j {β : Type} {inv : Inv} {k : Nat} (j : Nat) {x0 x1 : Value} {h : AH} {K : XE → Act → AH → Option β} : kLoop (kCode env 9 false inv k (cl (cl (cl (cr c9))))) j (act 20 [(0, x0), (1, x1)]) h K = F9_llr inv k j x0 x1 h (fun y0 y1 y6 h => K (.exit 0) (act 20 [(0, y0), (1, y1), (6, y6)]) h) := by
      induction j generalizing x0 x1 h with
      | zero => rfl
      | succ j ih =>
        unfold F9_llr
        simp only [kLoop, k_seq (E := env) (f := 9) (c := (cl (cl (cl (cr c9))))) (by kernel_rfl), k_seq (E := env) (f := 9) (c := (cl (cl (cl (cl (cr c9)))))) (by kernel_rfl), r9_1, b9_rllllr, k_skip (E := env) (f := 9) (c := (cl (cr (cl (cl (cl (cl (cr c9)))))))) (by kernel_rfl), k_seq (E := env) (f := 9) (c := (cr (cl (cl (cl (cr c9)))))) (by kernel_rfl), k_block (E := env) (f := 9) (c := (cl (cr (cl (cl (cl (cr c9))))))) (id := 1) (by kernel_rfl), r9_3, r9_2, k_exit (E := env) (f := 9) (c := (cr (cr (cl (cl (cl (cl (cr c9)))))))) (id := 0) (by kernel_rfl), ih, reduceIte, reduceCtorEq, XE.exit.injEq, Nat.reduceEqDiff] <;> kernel_rfl
theorem F9_llr_eq {β : Type} {inv : Inv} {k : Nat} {x0 x1 : Value} {h : AH} {K : XE → Act → AH → Option β} : kCode env 9 false inv k (cl (cl (cr c9))) (act 20 [(0, x0), (1, x1)]) h K = F9_llr inv k k x0 x1 h (fun y0 y1 y6 h => K (.exit 0) (act 20 [(0, y0), (1, y1), (6, y6)]) h) := (k_loop (by kernel_rfl)).trans (F9_llr_j k)
theorem r9_4 {β : Type} {inv : Inv} {k : Nat} {x0 x1 x6 : Value} {h : AH} {K : XE → Act → AH → Option β} : kCode env 9 false inv k (cl (cr (cr c9))) (act 20 [(0, x0), (1, x1), (6, x6)]) h K =
    bnd (pConv Try.prog 23 5 x1 h) fun x17 =>
    bnd (pBuildSlice Try.prog 25 1 #[(0, x17)] h) fun x18 =>
    bnd (pAppend Try.prog #[25, 25] x0 x18.1 x18.2) fun x19 =>
    K .normal (act 20 [(4, x19.1)]) x19.2 := (k_reg (by kernel_rfl)).trans (by kernel_rfl)
theorem res9_0 {x4 : Value} {h : AH} : resOfFn env.P 9 .ret (act 20 [(4, x4)]) h = some (x4, h) := (resOfFn_k (by kernel_rfl) (by kernel_rfl)).trans (by kernel_rfl)
/-- shadowbook/octet.PutVar -/
noncomputable def F9 (inv : Inv) (k : Nat) (x0 x1 : Value) (h : AH) : Option (Value × AH) :=
    F9_llr inv k k x0 x1 h
    (fun y0 y1 y6 h =>
    bnd (pConv Try.prog 23 5 y1 h) fun x17 =>
    bnd (pBuildSlice Try.prog 25 1 #[(0, x17)] h) fun x18 =>
    bnd (pAppend Try.prog #[25, 25] y0 x18.1 x18.2) fun x19 =>
    some (x19.1, x19.2))
theorem F9_eq {inv : Inv} {k : Nat} {x0 x1 : Value} {h : AH} : eFun env k inv 9 #[x0, x1] h = F9 inv k x0 x1 h := by
      refine (eFun_k2 (by kernel_rfl) (by kernel_rfl) (by kernel_rfl) (a := act 20 [(0, x0), (1, x1)]) (c := c9) (by kernel_rfl) (by kernel_rfl)).trans ?_
      unfold F9
      simp only [k_seq (E := env) (f := 9) (c := c9) (by kernel_rfl), r9_0, k_seq (E := env) (f := 9) (c := (cr c9)) (by kernel_rfl), k_block (E := env) (f := 9) (c := (cl (cr c9))) (id := 0) (by kernel_rfl), F9_llr_eq, k_seq (E := env) (f := 9) (c := (cr (cr c9))) (by kernel_rfl), r9_4, k_ret (E := env) (f := 9) (c := (cr (cr (cr c9)))) (by kernel_rfl), res9_0, reduceIte, reduceCtorEq, XE.exit.injEq, Nat.reduceEqDiff] <;> kernel_rfl
theorem F9_call {k : Nat} {x0 x1 : Value} {h : AH} : eInv env (k + 1) (.func 9) #[] #[x0, x1] h = F9 (eInv env k) k x0 x1 h := (inv_func (by kernel_rfl)).trans F9_eq
noncomputable def c10 : Code := codeOf Try.prog 10
theorem r10_0 {β : Type} {inv : Inv} {k : Nat} {x0 : Value} {h : AH} {K : XE → Act → AH → Option β} : kCode env 10 false inv k (cl c10) (act 11 [(0, x0)]) h K =
    K .normal (act 11 [(0, x0)]) h := (k_reg (by kernel_rfl)).trans (by kernel_rfl)
theorem r10_1 {β : Type} {inv : Inv} {k : Nat} {x0 : Value} {h : AH} {K : XE → Act → AH → Option β} : kCode env 10 false inv k (cl (cr c10)) (act 11 [(0, x0)]) h K =
    bnd (pBin Try.prog Go.BinOp.shr 23 (Go.Operand.tmp 3) (Go.Operand.const (Go.Value.int Go.IntKind.u64 1)) x0 (Go.Value.int Go.IntKind.u64 1)) fun x4 =>
    bnd (pConv Try.prog 23 2 x4 h) fun x5 =>
    bnd (pBin Try.prog Go.BinOp.and 23 (Go.Operand.tmp 6) (Go.Operand.const (Go.Value.int Go.IntKind.u64 1)) x0 (Go.Value.int Go.IntKind.u64 1)) fun x7 =>
    bnd (pConv Try.prog 23 2 x7 h) fun x8 =>
    bnd (pUn Try.prog Go.UnOp.neg x8) fun x9 =>
    bnd (pBin Try.prog Go.BinOp.xor 2 (Go.Operand.tmp 5) (Go.Operand.tmp 9) x5 x9) fun x10 =>
    K .normal (act 11 [(2, x10)]) h := (k_reg (by kernel_rfl)).trans (by kernel_rfl)
theorem res10_0 {x2 : Value} {h : AH} : resOfFn env.P 10 .ret (act 11 [(2, x2)]) h = some (x2, h) := (resOfFn_k (by kernel_rfl) (by kernel_rfl)).trans (by kernel_rfl)
/-- shadowbook/octet.Zag -/
noncomputable def F10 (inv : Inv) (k : Nat) (x0 : Value) (h : AH) : Option (Value × AH) :=
    bnd (pBin Try.prog Go.BinOp.shr 23 (Go.Operand.tmp 3) (Go.Operand.const (Go.Value.int Go.IntKind.u64 1)) x0 (Go.Value.int Go.IntKind.u64 1)) fun x4 =>
    bnd (pConv Try.prog 23 2 x4 h) fun x5 =>
    bnd (pBin Try.prog Go.BinOp.and 23 (Go.Operand.tmp 6) (Go.Operand.const (Go.Value.int Go.IntKind.u64 1)) x0 (Go.Value.int Go.IntKind.u64 1)) fun x7 =>
    bnd (pConv Try.prog 23 2 x7 h) fun x8 =>
    bnd (pUn Try.prog Go.UnOp.neg x8) fun x9 =>
    bnd (pBin Try.prog Go.BinOp.xor 2 (Go.Operand.tmp 5) (Go.Operand.tmp 9) x5 x9) fun x10 =>
    some (x10, h)
theorem F10_eq {inv : Inv} {k : Nat} {x0 : Value} {h : AH} : eFun env k inv 10 #[x0] h = F10 inv k x0 h := by
      refine (eFun_k2 (by kernel_rfl) (by kernel_rfl) (by kernel_rfl) (a := act 11 [(0, x0)]) (c := c10) (by kernel_rfl) (by kernel_rfl)).trans ?_
      unfold F10
      simp only [k_seq (E := env) (f := 10) (c := c10) (by kernel_rfl), r10_0, k_seq (E := env) (f := 10) (c := (cr c10)) (by kernel_rfl), r10_1, k_ret (E := env) (f := 10) (c := (cr (cr c10))) (by kernel_rfl), res10_0, reduceIte, reduceCtorEq, XE.exit.injEq, Nat.reduceEqDiff] <;> kernel_rfl
theorem F10_call {k : Nat} {x0 : Value} {h : AH} : eInv env (k + 1) (.func 10) #[] #[x0] h = F10 (eInv env k) k x0 h := (inv_func (by kernel_rfl)).trans F10_eq
noncomputable def c11 : Code := codeOf Try.prog 11
theorem r11_0 {β : Type} {inv : Inv} {k : Nat} {x0 x1 x2 : Value} {h : AH} {K : XE → Act → AH → Option β} : kCode env 11 false inv k (cl c11) (act 29 [(0, x0), (1, x1), (2, x2)]) h K =
    K .normal (act 29 [(0, x0), (1, x1), (2, x2)]) h := (k_reg (by kernel_rfl)).trans (by kernel_rfl)
theorem r11_1 {β : Type} {inv : Inv} {k : Nat} {x0 x1 x2 : Value} {h : AH} {K : XE → Act → AH → Option β} : kCode env 11 false inv k (cl (cl (cr c11))) (act 29 [(0, x0), (1, x1), (2, x2)]) h K =
    bnd (pBin Try.prog Go.BinOp.lss 3 (Go.Operand.tmp 8) (Go.Operand.const (Go.Value.int Go.IntKind.i64 1)) x2 (Go.Value.int Go.IntKind.i64 1)) fun x9 =>
    bnd (gd (some x9) false h (some (x2, h))) fun x11 =>
    bnd (gd (some x9) false x11.2 (lt (pBin Try.prog Go.BinOp.gtr 3 (Go.Operand.tmp 11) (Go.Operand.const (Go.Value.int Go.IntKind.i64 8)) x11.1 (Go.Value.int Go.IntKind.i64 8)) x11.2)) fun x12 =>
    bnd (pickV x9 (Go.Value.bool true) x12.1) fun x13 =>
    K .normal (act 29 [(0, x0), (1, x1), (2, x2), (13, x13)]) x12.2 := (k_reg (by kernel_rfl)).trans (by kernel_rfl)
theorem b11_rlr {β : Type} {inv : Inv} {k : Nat} {x0 x1 x2 x13 : Value} {h : AH} {K : XE → Act → AH → Option β} : kCode env 11 false inv k (cr (cl (cr c11))) (act 29 [(0, x0), (1, x1), (2, x2), (13, x13)]) h K = brV x13 (kCode env 11 false inv k (cl (cr (cl (cr c11)))) (act 29 [(0, x0), (1, x1), (2, x2), (13, x13)]) h K) (kCode env 11 false inv k (cr (cr (cl (cr c11)))) (act 29 [(0, x0), (1, x1), (2, x2), (13, x13)]) h K) := (k_cond (by kernel_rfl)).trans (by kernel_rfl)
theorem r11_2 {β : Type} {inv : Inv} {k : Nat} {x0 x1 x2 x13 : Value} {h : AH} {K : XE → Act → AH → Option β} : kCode env 11 false inv k (cl (cl (cr (cl (cr c11))))) (act 29 [(0, x0), (1, x1), (2, x2), (13, x13)]) h K =
    K .normal (act 29 [(6, x0)]) h := (k_reg (by kernel_rfl)).trans (by kernel_rfl)
theorem res11_0 {x6 : Value} {h : AH} : resOfFn env.P 11 .ret (act 29 [(6, x6)]) h = some (x6, h) := (resOfFn_k (by kernel_rfl) (by kernel_rfl)).trans (by kernel_rfl)
theorem r11_3 {β : Type} {inv : Inv} {k : Nat} {x0 x1 x2 x13 : Value} {h : AH} {K : XE → Act → AH → Option β} : kCode env 11 false inv k (cl (cl (cr (cr c11)))) (act 29 [(0, x0), (1, x1), (2, x2), (13, x13)]) h K =
    K .normal (act 29 [(0, x0), (1, x1), (15, x2), (16, (Go.Value.int Go.IntKind.i64 0))]) h := (k_reg (by kernel_rfl)).trans (by kernel_rfl)
theorem r11_4 {β : Type} {inv : Inv} {k : Nat} {x0 x1 x15 x16 : Value} {h : AH} {K : XE → Act → AH → Option β} : kCode env 11 false inv k (cl (cl (cl (cr (cl (cr (cr c11))))))) (act 29 [(0, x0), (1, x1), (15, x15), (16, x16)]) h K =
    bnd (pBin Try.prog Go.BinOp.lss 3 (Go.Operand.tmp 16) (Go.Operand.tmp 15) x16 x15) fun x17 =>
    K .normal (act 29 [(0, x0), (1, x1), (15, x15), (16, x16), (17, x17)]) h := (k_reg (by kernel_rfl)).trans (by kernel_rfl)
theorem b11_lrllrlrr {β : Type} {inv : Inv} {k : Nat} {x0 x1 x15 x16 x17 : Value} {h : AH} {K : XE → Act → AH → Option β} : kCode env 11 false inv k (cl (cr (cl (cl (cr (cl (cr (cr c11)))))))) (act 29 [(0, x0), (1, x1), (15, x15), (16, x16), (17, x17)]) h K = brV x17 (kCode env 11 false inv k (cl (cl (cr (cl (cl (cr (cl (cr (cr c11))))))))) (act 29 [(0, x0), (1, x1), (15, x15), (16, x16), (17, x17)]) h K) (kCode env 11 false inv k (cr (cl (cr (cl (cl (cr (cl (cr (cr c11))))))))) (act 29 [(0, x0), (1, x1), (15, x15), (16, x16), (17, x17)]) h K) := (k_cond (by kernel_rfl)).trans (by kernel_rfl)
theorem r11_5 {β : Type} {inv : Inv} {k : Nat} {x0 x1 x15 x16 x17 : Value} {h : AH} {K : XE → Act → AH → Option β} : kCode env 11 false inv k (cl (cl (cl (cr (cr (cl (cl (cr (cl (cr (cr c11))))))))))) (act 29 [(0, x0), (1, x1), (15, x15), (16, x16), (17, x17)]) h K =
    K .normal (act 29 [(0, x0), (1, x1), (7, x16), (15, x15), (16, x16)]) h := (k_reg (by kernel_rfl)).trans (by kernel_rfl)
theorem r11_6 {β : Type} {inv : Inv} {k : Nat} {x0 x1 x7 x15 x16 : Value} {h : AH} {K : XE → Act → AH → Option β} : kCode env 11 false inv k (cr (cl (cl (cr (cr (cl (cl (cr (cl (cr (cr c11))))))))))) (act 29 [(0, x0), (1, x1), (7, x7), (15, x15), (16, x16)]) h K =
    bnd (pBin Try.prog Go.BinOp.mul 3 (Go.Operand.const (Go.Value.int Go.IntKind.i64 8)) (Go.Operand.tmp 21) (Go.Value.int Go.IntKind.i64 8) x7) fun x22 =>
    bnd (pBin Try.prog Go.BinOp.shr 23 (Go.Operand.tmp 20) (Go.Operand.tmp 22) x1 x22) fun x23 =>
    bnd (pConv Try.prog 23 5 x23 h) fun x24 =>
    bnd (pBuildSlice Try.prog 25 1 #[(0, x24)] h) fun x25 =>
    bnd (pAppend Try.prog #[25, 25] x0 x25.1 x25.2) fun x26 =>
    K .normal (act 29 [(0, x26.1), (1, x1), (15, x15), (16, x16)]) x26.2 := (k_reg (by kernel_rfl)).trans (by kernel_rfl)
theorem r11_7 {β : Type} {inv : Inv} {k : Nat} {x0 x1 x15 x16 : Value} {h : AH} {K : XE → Act → AH → Option β} : kCode env 11 false inv k (cr (cr (cr (cl (cl (cr (cl (cr (cr c11))))))))) (act 29 [(0, x0), (1, x1), (15, x15), (16, x16)]) h K =
    bnd (pBin Try.prog Go.BinOp.add 3 (Go.Operand.tmp 16) (Go.Operand.const (Go.Value.int Go.IntKind.i64 1)) x16 (Go.Value.int Go.IntKind.i64 1)) fun x27 =>
    K .normal (act 29 [(0, x0), (1, x1), (15, x15), (16, x27)]) h := (k_reg (by kernel_rfl)).trans (by kernel_rfl)
noncomputable def F11_lrlrr {β : Type} (inv : Inv) (k : Nat) : Nat → Value → Value → Value → Value → AH → (Value → Value → Value → Value → Value → AH → Option β) → Option β
  | 0, _, _, _, _, _, _ => none
  | j + 1, x0, x1, x15, x16, h, ke0 =>
    bnd (pBin Try.prog Go.BinOp.lss 3 (Go.Operand.tmp 16) (Go.Operand.tmp 15) x16 x15) fun x17 =>
    brV x17
    (bnd (pBin Try.prog Go.BinOp.mul 3 (Go.Operand.const (Go.Value.int Go.IntKind.i64 8)) (Go.Operand.tmp 21) (Go.Value.int Go.IntKind.i64 8) x16) fun x22 =>
    bnd (pBin Try.prog Go.BinOp.shr 23 (Go.Operand.tmp 20) (Go.Operand.tmp 22) x1 x22) fun x23 =>
    bnd (pConv Try.prog 23 5 x23 h) fun x24 =>
    bnd (pBuildSlice Try.prog 25 1 #[(0, x24)] h) fun x25 =>
    bnd (pAppend Try.prog #[25, 25] x0 x25.1 x25.2) fun x26 =>
    bnd (pBin Try.prog Go.BinOp.add 3 (Go.Operand.tmp 16) (Go.Operand.const (Go.Value.int Go.IntKind.i64 1)) x16 (Go.Value.int Go.IntKind.i64 1)) fun x27 =>
    F11_lrlrr inv k j x26.1 x1 x15 x27 x26.2 ke0)
    (ke0 x0 x1 x15 x16 x17 h)
theorem F11_lrlrr_j {β : Type} {inv : Inv} {k : Nat} (j : Nat) {x0 x1 x15 x16 : Value} {h : AH} {K : XE → Act → AH → Option β} : kLoop (kCode env 11 false inv k (cl (cl (cr (cl (cr (cr c11))))))) j (act 29 [(0, x0), (1, x1), (15, x15), (16, x16)]) h K = F11_lrlrr inv k j x0 x1 x15 x16 h (fun y0 y1 y15 y16 y17 h => K (.exit 0) (act 29 [(0, y0), (1, y1), (15, y15), (16, y16), (17, y17)]) h) := by
      induction j generalizing x0 x1 x15 x16 h with
      | zero => rfl
      | succ j ih =>
        unfold F11_lrlrr
        simp only [kLoop, k_seq (E := env) (f := 11) (c := (cl (cl (cr (cl (cr (cr c11))))))) (by kernel_rfl), r11_4, k_seq (E := env) (f := 11) (c := (cr (cl (cl (cr (cl (cr (cr c11)))))))) (by kernel_rfl), b11_lrllrlrr, k_skip (E := env) (f := 11) (c := (cl (cl (cr (cl (cl (cr (cl (cr (cr c11)))))))))) (by kernel_rfl), k_seq (E := env) (f := 11) (c := (cr (cr (cl (cl (cr (cl (cr (cr c11))))))))) (by kernel_rfl), k_block (E := env) (f := 11) (c := (cl (cr (cr (cl (cl (cr (cl (cr (cr c11)))))))))) (id := 1) (by kernel_rfl), k_seq (E := env) (f := 11) (c := (cl (cl (cr (cr (cl (cl (cr (cl (cr (cr c11))))))))))) (by kernel_rfl), r11_5, r11_6, r11_7, k_exit (E := env) (f := 11) (c := (cr (cl (cr (cl (cl (cr (cl (cr (cr c11)))))))))) (id := 0) (by kernel_rfl), ih, reduceIte, reduceCtorEq, XE.exit.injEq, Nat.reduceEqDiff] <;> kernel_rfl
theorem F11_lrlrr_eq {β : Type} {inv : Inv} {k : Nat} {x0 x1 x15 x16 : Value} {h : AH} {K : XE → Act → AH → Option β} : kCode env 11 false inv k (cl (cr (cl (cr (cr c11))))) (act 29 [(0, x0), (1, x1), (15, x15), (16, x16)]) h K = F11_lrlrr inv k k x0 x1 x15 x16 h (fun y0 y1 y15 y16 y17 h => K (.exit 0) (act 29 [(0, y0), (1, y1), (15, y15), (16, y16), (17, y17)]) h) := (k_loop (by kernel_rfl)).trans (F11_lrlrr_j k)
theorem r11_8 {β : Type} {inv : Inv} {k : Nat} {x0 x1 x15 x16 x17 : Value} {h : AH} {K : XE → Act → AH → Option β} : kCode env 11 false inv k (cl (cr (cr (cr c11)))) (act 29 [(0, x0), (1, x1), (15, x15), (16, x16), (17, x17)]) h K =
    K .normal (act 29 [(6, x0)]) h := (k_reg (by kernel_rfl)).trans (by kernel_rfl)
/-- shadowbook/octet.Put -/
noncomputable def F11 (inv : Inv) (k : Nat) (x0 x1 x2 : Value) (h : AH) : Option (Value × AH) :=
    bnd (pBin Try.prog Go.BinOp.lss 3 (Go.Operand.tmp 8) (Go.Operand.const (Go.Value.int Go.IntKind.i64 1)) x2 (Go.Value.int Go.IntKind.i64 1)) fun x9 =>
    bnd (gd (some x9) false h (some (x2, h))) fun x11 =>
    bnd (gd (some x9) false x11.2 (lt (pBin Try.prog Go.BinOp.gtr 3 (Go.Operand.tmp 11) (Go.Operand.const (Go.Value.int Go.IntKind.i64 8)) x11.1 (Go.Value.int Go.IntKind.i64 8)) x11.2)) fun x12 =>
    bnd (pickV x9 (Go.Value.bool true) x12.1) fun x13 =>
    brV x13
    (some (x0, x12.2))
    (F11_lrlrr inv k k x0 x1 x2 (Go.Value.int Go.IntKind.i64 0) x12.2
    (fun y0 y1 y15 y16 y17 h =>
    some (y0, h)))
theorem F11_eq {inv : Inv} {k : Nat} {x0 x1 x2 : Value} {h : AH} : eFun env k inv 11 #[x0, x1, x2] h = F11 inv k x0 x1 x2 h := by
      refine (eFun_k2 (by kernel_rfl) (by kernel_rfl) (by kernel_rfl) (a := act 29 [(0, x0), (1, x1), (2, x2)]) (c := c11) (by kernel_rfl) (by kernel_rfl)).trans ?_
      unfold F11
      simp only [k_seq (E := env) (f := 11) (c := c11) (by kernel_rfl), r11_0, k_seq (E := env) (f := 11) (c := (cr c11)) (by kernel_rfl), k_seq (E := env) (f := 11) (c := (cl (cr c11))) (by kernel_rfl), r11_1, b11_rlr, k_seq (E := env) (f := 11) (c := (cl (cr (cl (cr c11))))) (by kernel_rfl), r11_2, k_ret (E := env) (f := 11) (c := (cr (cl (cr (cl (cr c11)))))) (by kernel_rfl), res11_0, k_skip (E := env) (f := 11) (c := (cr (cr (cl (cr c11))))) (by kernel_rfl), k_seq (E := env) (f := 11) (c := (cr (cr c11))) (by kernel_rfl), k_seq (E := env) (f := 11) (c := (cl (cr (cr c11)))) (by kernel_rfl), r11_3, k_block (E := env) (f := 11) (c := (cr (cl (cr (cr c11))))) (id := 0) (by kernel_rfl), F11_lrlrr_eq, k_seq (E := env) (f := 11) (c := (cr (cr (cr c11)))) (by kernel_rfl), r11_8, k_ret (E := env) (f := 11) (c := (cr (cr (cr (cr c11))))) (by kernel_rfl), reduceIte, reduceCtorEq, XE.exit.injEq, Nat.reduceEqDiff] <;> kernel_rfl
theorem F11_call {k : Nat} {x0 x1 x2 : Value} {h : AH} : eInv env (k + 1) (.func 11) #[] #[x0, x1, x2] h = F11 (eInv env k) k x0 x1 x2 h := (inv_func (by kernel_rfl)).trans F11_eq
noncomputable def c12 : Code := codeOf Try.prog 12
theorem r12_0 {β : Type} {inv : Inv} {k : Nat} {x0 : Value} {h : AH} {K : XE → Act → AH → Option β} : kCode env 12 false inv k (cl c12) (act 7 [(0, x0)]) h K =
    K .normal (act 7 [(0, x0)]) h := (k_reg (by kernel_rfl)).trans (by kernel_rfl)
theorem r12_1 {β : Type} {inv : Inv} {k : Nat} {x0 : Value} {h : AH} {K : XE → Act → AH → Option β} : kCode env 12 false inv k (cl (cr c12)) (act 7 [(0, x0)]) h K =
    bnd (inv (.func 20) #[] #[x0] h) fun x4 =>
    bnd (pBuild Try.prog 47 #[(0, x4.1)]) fun x5 =>
    bnd (pBox Try.prog 47 x5 x4.2) fun x6 =>
    K .normal (act 7 [(2, x6.1)]) x6.2 := (k_reg (by kernel_rfl)).trans (by kernel_rfl)
theorem res12_0 {x2 : Value} {h : AH} : resOfFn env.P 12 .ret (act 7 [(2, x2)]) h = some (x2, h) := (resOfFn_k (by kernel_rfl) (by kernel_rfl)).trans (by kernel_rfl)
/-- shadowbook/octet.New -/
noncomputable def F12 (inv : Inv) (k : Nat) (x0 : Value) (h : AH) : Option (Value × AH) :=
    bnd (inv (.func 20) #[] #[x0] h) fun x4 =>
    bnd (pBuild Try.prog 47 #[(0, x4.1)]) fun x5 =>
    bnd (pBox Try.prog 47 x5 x4.2) fun x6 =>
    some (x6.1, x6.2)
theorem F12_eq {inv : Inv} {k : Nat} {x0 : Value} {h : AH} : eFun env k inv 12 #[x0] h = F12 inv k x0 h := by
      refine (eFun_k2 (by kernel_rfl) (by kernel_rfl) (by kernel_rfl) (a := act 7 [(0, x0)]) (c := c12) (by kernel_rfl) (by kernel_rfl)).trans ?_
      unfold F12
      simp only [k_seq (E := env) (f := 12) (c := c12) (by kernel_rfl), r12_0, k_seq (E := env) (f := 12) (c := (cr c12)) (by kernel_rfl), r12_1, k_ret (E := env) (f := 12) (c := (cr (cr c12))) (by kernel_rfl), res12_0, reduceIte, reduceCtorEq, XE.exit.injEq, Nat.reduceEqDiff] <;> kernel_rfl
theorem F12_call {k : Nat} {x0 : Value} {h : AH} : eInv env (k + 1) (.func 12) #[] #[x0] h = F12 (eInv env k) k x0 h := (inv_func (by kernel_rfl)).trans F12_eq
noncomputable def c13 : Code := codeOf Try.prog 13
theorem r13_0 {β : Type} {inv : Inv} {k : Nat} {x0 : Value} {h : AH} {K : XE → Act → AH → Option β} : kCode env 13 false inv k (cl c13) (act 58 [(0, x0)]) h K =
    K .normal (act 58 [(0, x0), (2, (Go.Value.int Go.IntKind.u64 0))]) h := (k_reg (by kernel_rfl)).trans (by kernel_rfl)
theorem r13_1 {β : Type} {inv : Inv} {k : Nat} {x0 x2 : Value} {h : AH} {K : XE → Act → AH → Option β} : kCode env 13 false inv k (cl (cl (cr c13))) (act 58 [(0, x0), (2, x2)]) h K =
    bnd (pBin Try.prog Go.BinOp.eql 32 (Go.Operand.tmp 7) (Go.Operand.const (Go.Value.pointer none)) x0 (Go.Value.pointer none)) fun x8 =>
    K .normal (act 58 [(0, x0), (2, x2), (8, x8)]) h := (k_reg (by kernel_rfl)).trans (by kernel_rfl)
theorem b13_rlr {β : Type} {inv : Inv} {k : Nat} {x0 x2 x8 : Value} {h : AH} {K : XE → Act → AH → Option β} : kCode env 13 false inv k (cr (cl (cr c13))) (act 58 [(0, x0), (2, x2), (8, x8)]) h K = brV x8 (kCode env 13 false inv k (cl (cr (cl (cr c13)))) (act 58 [(0, x0), (2, x2), (8, x8)]) h K) (kCode env 13 false inv k (cr (cr (cl (cr c13)))) (act 58 [(0, x0), (2, x2), (8, x8)]) h K) := (k_cond (by kernel_rfl)).trans (by kernel_rfl)
theorem r13_2 {β : Type} {inv : Inv} {k : Nat} {x0 x2 x8 : Value} {h : AH} {K : XE → Act → AH → Option β} : kCode env 13 false inv k (cl (cl (cr (cl (cr c13))))) (act 58 [(0, x0), (2, x2), (8, x8)]) h K =
    K .normal (act 58 [(2, (Go.Value.int Go.IntKind.u64 0)), (3, (Go.Value.int Go.IntKind.i64 1))]) h := (k_reg (by kernel_rfl)).trans (by kernel_rfl)
theorem res13_0 {x2 x3 : Value} {h : AH} : resOfFn env.P 13 .ret (act 58 [(2, x2), (3, x3)]) h = some (.tuple #[x2, x3], h) := (resOfFn_k (by kernel_rfl) (by kernel_rfl)).trans (by kernel_rfl)
theorem r13_3 {β : Type} {inv : Inv} {k : Nat} {x0 x2 x8 : Value} {h : AH} {K : XE → Act → AH → Option β} : kCode env 13 false inv k (cl (cl (cr (cr c13)))) (act 58 [(0, x0), (2, x2), (8, x8)]) h K =
    bnd (pNilCheck x0) fun x10 =>
    bnd (pFieldAddr Try.prog 47 x10 0) fun x11 =>
    bnd (pLoad Try.prog 25 x11 h) fun x12 =>
    bnd (pLen Try.prog #[25] x12 h) fun x13 =>
    K .normal (act 58 [(0, x0), (2, x2), (12, x12), (13, x13), (14, (Go.Value.int Go.IntKind.i64 0))]) h := (k_reg (by kernel_rfl)).trans (by kernel_rfl)
theorem r13_4 {β : Type} {inv : Inv} {k : Nat} {x0 x2 x12 x13 x14 : Value} {h : AH} {K : XE → Act → AH → Option β} : kCode env 13 false inv k (cl (cl (cl (cr (cl (cr (cr c13))))))) (act 58 [(0, x0), (2, x2), (12, x12), (13, x13), (14, x14)]) h K =
    bnd (pBin Try.prog Go.BinOp.lss 3 (Go.Operand.tmp 14) (Go.Operand.tmp 13) x14 x13) fun x15 =>
    K .normal (act 58 [(0, x0), (2, x2), (12, x12), (13, x13), (14, x14), (15, x15)]) h := (k_reg (by kernel_rfl)).trans (by kernel_rfl)
theorem b13_lrllrlrr {β : Type} {inv : Inv} {k : Nat} {x0 x2 x12 x13 x14 x15 : Value} {h : AH} {K : XE → Act → AH → Option β} : kCode env 13 false inv k (cl (cr (cl (cl (cr (cl (cr (cr c13)))))))) (act 58 [(0, x0), (2, x2), (12, x12), (13, x13), (14, x14), (15, x15)]) h K = brV x15 (kCode env 13 false inv k (cl (cl (cr (cl (cl (cr (cl (cr (cr c13))))))))) (act 58 [(0, x0), (2, x2), (12, x12), (13, x13), (14, x14), (15, x15)]) h K) (kCode env 13 false inv k (cr (cl (cr (cl (cl (cr (cl (cr (cr c13))))))))) (act 58 [(0, x0), (2, x2), (12, x12), (13, x13), (14, x14), (15, x15)]) h K) := (k_cond (by kernel_rfl)).trans (by kernel_rfl)
theorem r13_5 {β : Type} {inv : Inv} {k : Nat} {x0 x2 x12 x13 x14 x15 : Value} {h : AH} {K : XE → Act → AH → Option β} : kCode env 13 false inv k (cl (cl (cl (cr (cr (cl (cl (cr (cl (cr (cr c13))))))))))) (act 58 [(0, x0), (2, x2), (12, x12), (13, x13), (14, x14), (15, x15)]) h K =
    bnd (pIndexAddr Try.prog 25 x12 x14) fun x17 =>
    bnd (pLoad Try.prog 5 x17 h) fun x18 =>
    K .normal (act 58 [(0, x0), (2, x2), (4, x14), (5, x18), (12, x12), (13, x13), (14, x14)]) h := (k_reg (by kernel_rfl)).trans (by kernel_rfl)
theorem r13_6 {β : Type} {inv : Inv} {k : Nat} {x0 x2 x4 x5 x12 x13 x14 : Value} {h : AH} {K : XE → Act → AH → Option β} : kCode env 13 false inv k (cl (cl (cr (cl (cl (cr (cr (cl (cl (cr (cl (cr (cr c13))))))))))))) (act 58 [(0, x0), (2, x2), (4, x4), (5, x5), (12, x12), (13, x13), (14, x14)]) h K =
    bnd (pBin Try.prog Go.BinOp.eql 3 (Go.Operand.tmp 19) (Go.Operand.const (Go.Value.int Go.IntKind.i64 10)) x4 (Go.Value.int Go.IntKind.i64 10)) fun x20 =>
    K .normal (act 58 [(0, x0), (2, x2), (4, x4), (5, x5), (12, x12), (13, x13), (14, x14), (20, x20)]) h := (k_reg (by kernel_rfl)).trans (by kernel_rfl)
theorem b13_rlrllrrllrlrr {β : Type} {inv : Inv} {k : Nat} {x0 x2 x4 x5 x12 x13 x14 x20 : Value} {h : AH} {K : XE → Act → AH → Option β} : kCode env 13 false inv k (cr (cl (cr (cl (cl (cr (cr (cl (cl (cr (cl (cr (cr c13))))))))))))) (act 58 [(0, x0), (2, x2), (4, x4), (5, x5), (12, x12), (13, x13), (14, x14), (20, x20)]) h K = brV x20 (kCode env 13 false inv k (cl (cr (cl (cr (cl (cl (cr (cr (cl (cl (cr (cl (cr (cr c13)))))))))))))) (act 58 [(0, x0), (2, x2), (4, x4), (5, x5), (12, x12), (13, x13), (14, x14), (20, x20)]) h K) (kCode env 13 false inv k (cr (cr (cl (cr (cl (cl (cr (cr (cl (cl (cr (cl (cr (cr c13)))))))))))))) (act 58 [(0, x0), (2, x2), (4, x4), (5, x5), (12, x12), (13, x13), (14, x14), (20, x20)]) h K) := (k_cond (by kernel_rfl)).trans (by kernel_rfl)
theorem r13_7 {β : Type} {inv : Inv} {k : Nat} {x0 x2 x4 x5 x12 x13 x14 x20 : Value} {h : AH} {K : XE → Act → AH → Option β} : kCode env 13 false inv k (cl (cr (cr (cl (cl (cr (cr (cl (cl (cr (cl (cr (cr c13))))))))))))) (act 58 [(0, x0), (2, x2), (4, x4), (5, x5), (12, x12), (13, x13), (14, x14), (20, x20)]) h K =
    bnd (pBin Try.prog Go.BinOp.andNot 5 (Go.Operand.tmp 21) (Go.Operand.const (Go.Value.int Go.IntKind.u8 128)) x5 (Go.Value.int Go.IntKind.u8 128)) fun x22 =>
    bnd (pConv Try.prog 5 23 x22 h) fun x23 =>
    K .normal (act 58 [(0, x0), (2, x2), (4, x4), (5, x5), (6, x23), (12, x12), (13, x13), (14, x14)]) h := (k_reg (by kernel_rfl)).trans (by kernel_rfl)
theorem r13_8 {β : Type} {inv : Inv} {k : Nat} {x0 x2 x4 x5 x6 x12 x13 x14 : Value} {h : AH} {K : XE → Act → AH → Option β} : kCode env 13 false inv k (cl (cl (cr (cr (cr (cl (cl (cr (cr (cl (cl (cr (cl (cr (cr c13))))))))))))))) (act 58 [(0, x0), (2, x2), (4, x4), (5, x5), (6, x6), (12, x12), (13, x13), (14, x14)]) h K =
    bnd (pBin Try.prog Go.BinOp.eql 3 (Go.Operand.tmp 24) (Go.Operand.const (Go.Value.int Go.IntKind.i64 9)) x4 (Go.Value.int Go.IntKind.i64 9)) fun x25 =>
    bnd (gd (some x25) true h (some (x6, h))) fun x27 =>
    bnd (gd (some x25) true x27.2 (lt (pBin Try.prog Go.BinOp.gtr 23 (Go.Operand.tmp 27) (Go.Operand.const (Go.Value.int Go.IntKind.u64 1)) x27.1 (Go.Value.int Go.IntKind.u64 1)) x27.2)) fun x28 =>
    bnd (pickV x25 x28.1 (Go.Value.bool false)) fun x29 =>
    K .normal (act 58 [(0, x0), (2, x2), (4, x4), (5, x5), (6, x6), (12, x12), (13, x13), (14, x14), (29, x29)]) x28.2 := (k_reg (by kernel_rfl)).trans (by kernel_rfl)
theorem b13_rlrrrllrrllrlrr {β : Type} {inv : Inv} {k : Nat} {x0 x2 x4 x5 x6 x12 x13 x14 x29 : Value} {h : AH} {K : XE → Act → AH → Option β} : kCode env 13 false inv k (cr (cl (cr (cr (cr (cl (cl (cr (cr (cl (cl (cr (cl (cr (cr c13))))))))))))))) (act 58 [(0, x0), (2, x2), (4, x4), (5, x5), (6, x6), (12, x12), (13, x13), (14, x14), (29, x29)]) h K = brV x29 (kCode env 13 false inv k (cl (cr (cl (cr (cr (cr (cl (cl (cr (cr (cl (cl (cr (cl (cr (cr c13)))))))))))))))) (act 58 [(0, x0), (2, x2), (4, x4), (5, x5), (6, x6), (12, x12), (13, x13), (14, x14), (29, x29)]) h K) (kCode env 13 false inv k (cr (cr (cl (cr (cr (cr (cl (cl (cr (cr (cl (cl (cr (cl (cr (cr c13)))))))))))))))) (act 58 [(0, x0), (2, x2), (4, x4), (5, x5), (6, x6), (12, x12), (13, x13), (14, x14), (29, x29)]) h K) := (k_cond (by kernel_rfl)).trans (by kernel_rfl)
theorem r13_9 {β : Type} {inv : Inv} {k : Nat} {x0 x2 x4 x5 x6 x12 x13 x14 x29 : Value} {h : AH} {K : XE → Act → AH → Option β} : kCode env 13 false inv k (cl (cr (cr (cr (cr (cl (cl (cr (cr (cl (cl (cr (cl (cr (cr c13))))))))))))))) (act 58 [(0, x0), (2, x2), (4, x4), (5, x5), (6, x6), (12, x12), (13, x13), (14, x14), (29, x29)]) h K =
    bnd (pBin Try.prog Go.BinOp.mul 3 (Go.Operand.const (Go.Value.int Go.IntKind.i64 7)) (Go.Operand.tmp 32) (Go.Value.int Go.IntKind.i64 7) x4) fun x33 =>
    bnd (pBin Try.prog Go.BinOp.shl 23 (Go.Operand.tmp 31) (Go.Operand.tmp 33) x6 x33) fun x34 =>
    bnd (pBin Try.prog Go.BinOp.or 23 (Go.Operand.tmp 30) (Go.Operand.tmp 34) x2 x34) fun x35 =>
    K .normal (act 58 [(0, x0), (2, x35), (4, x4), (5, x5), (6, x6), (12, x12), (13, x13), (14, x14)]) h := (k_reg (by kernel_rfl)).trans (by kernel_rfl)
theorem r13_10 {β : Type} {inv : Inv} {k : Nat} {x0 x2 x4 x5 x6 x12 x13 x14 : Value} {h : AH} {K : XE → Act → AH → Option β} : kCode env 13 false inv k (cl (cl (cr (cr (cr (cr (cr (cl (cl (cr (cr (cl (cl (cr (cl (cr (cr c13))))))))))))))))) (act 58 [(0, x0), (2, x2), (4, x4), (5, x5), (6, x6), (12, x12), (13, x13), (14, x14)]) h K =
    bnd (pBin Try.prog Go.BinOp.geq 5 (Go.Operand.tmp 36) (Go.Operand.const (Go.Value.int Go.IntKind.u8 128)) x5 (Go.Value.int Go.IntKind.u8 128)) fun x37 =>
    K .normal (act 58 [(0, x0), (2, x2), (4, x4), (6, x6), (12, x12), (13, x13), (14, x14), (37, x37)]) h := (k_reg (by kernel_rfl)).trans (by kernel_rfl)
theorem b13_rlrrrrrllrrllrlrr {β : Type} {inv : Inv} {k : Nat} {x0 x2 x4 x6 x12 x13 x14 x37 : Value} {h : AH} {K : XE → Act → AH → Option β} : kCode env 13 false inv k (cr (cl (cr (cr (cr (cr (cr (cl (cl (cr (cr (cl (cl (cr (cl (cr (cr c13))))))))))))))))) (act 58 [(0, x0), (2, x2), (4, x4), (6, x6), (12, x12), (13, x13), (14, x14), (37, x37)]) h K = brV x37 (kCode env 13 false inv k (cl (cr (cl (cr (cr (cr (cr (cr (cl (cl (cr (cr (cl (cl (cr (cl (cr (cr c13)))))))))))))))))) (act 58 [(0, x0), (2, x2), (4, x4), (6, x6), (12, x12), (13, x13), (14, x14), (37, x37)]) h K) (kCode env 13 false inv k (cr (cr (cl (cr (cr (cr (cr (cr (cl (cl (cr (cr (cl (cl (cr (cl (cr (cr c13)))))))))))))))))) (act 58 [(0, x0), (2, x2), (4, x4), (6, x6), (12, x12), (13, x13), (14, x14), (37, x37)]) h K) := (k_cond (by kernel_rfl)).trans (by kernel_rfl)
theorem r13_14 {β : Type} {inv : Inv} {k : Nat} {x0 x2 x4 x6 x12 x13 x14 x37 : Value} {h : AH} {K : XE → Act → AH → Option β} : kCode env 13 false inv k (cr (cr (cr (cl (cl (cr (cl (cr (cr c13))))))))) (act 58 [(0, x0), (2, x2), (4, x4), (6, x6), (12, x12), (13, x13), (14, x14), (37, x37)]) h K =
    bnd (pBin Try.prog Go.BinOp.add 3 (Go.Operand.tmp 14) (Go.Operand.const (Go.Value.int Go.IntKind.i64 1)) x14 (Go.Value.int Go.IntKind.i64 1)) fun x55 =>
    K .normal (act 58 [(0, x0), (2, x2), (12, x12), (13, x13), (14, x55)]) h := (k_reg (by kernel_rfl)).trans (by kernel_rfl)
theorem r13_11 {β : Type} {inv : Inv} {k : Nat} {x0 x2 x4 x6 x12 x13 x14 x37 : Value} {h : AH} {K : XE → Act → AH → Option β} : kCode env 13 false inv k (cl (cl (cr (cr (cr (cr (cr (cr (cl (cl (cr (cr (cl (cl (cr (cl (cr (cr c13)))))))))))))))))) (act 58 [(0, x0), (2, x2), (4, x4), (6, x6), (12, x12), (13, x13), (14, x14), (37, x37)]) h K =
    bnd (pBin Try.prog Go.BinOp.eql 23 (Go.Operand.tmp 38) (Go.Operand.const (Go.Value.int Go.IntKind.u64 0)) x6 (Go.Value.int Go.IntKind.u64 0)) fun x39 =>
    bnd (gd (some x39) true h (some (x4, h))) fun x41 =>
    bnd (gd (some x39) true x41.2 (lt (pBin Try.prog Go.BinOp.gtr 3 (Go.Operand.tmp 41) (Go.Operand.const (Go.Value.int Go.IntKind.i64 0)) x41.1 (Go.Value.int Go.IntKind.i64 0)) x41.2)) fun x42 =>
    bnd (pickV x39 x42.1 (Go.Value.bool false)) fun x43 =>
    K .normal (act 58 [(0, x0), (2, x2), (4, x4), (43, x43)]) x42.2 := (k_reg (by kernel_rfl)).trans (by kernel_rfl)
theorem b13_rlrrrrrrllrrllrlrr {β : Type} {inv : Inv} {k : Nat} {x0 x2 x4 x43 : Value} {h : AH} {K : XE → Act → AH → Option β} : kCode env 13 false inv k (cr (cl (cr (cr (cr (cr (cr (cr (cl (cl (cr (cr (cl (cl (cr (cl (cr (cr c13)))))))))))))))))) (act 58 [(0, x0), (2, x2), (4, x4), (43, x43)]) h K = brV x43 (kCode env 13 false inv k (cl (cr (cl (cr (cr (cr (cr (cr (cr (cl (cl (cr (cr (cl (cl (cr (cl (cr (cr c13))))))))))))))))))) (act 58 [(0, x0), (2, x2), (4, x4), (43, x43)]) h K) (kCode env 13 false inv k (cr (cr (cl (cr (cr (cr (cr (cr (cr (cl (cl (cr (cr (cl (cl (cr (cl (cr (cr c13))))))))))))))))))) (act 58 [(0, x0), (2, x2), (4, x4), (43, x43)]) h K) := (k_cond (by kernel_rfl)).trans (by kernel_rfl)
theorem r13_12 {β : Type} {inv : Inv} {k : Nat} {x0 x2 x4 x43 : Value} {h : AH} {K : XE → Act → AH → Option β} : kCode env 13 false inv k (cl (cr (cr (cr (cr (cr (cr (cr (cl (cl (cr (cr (cl (cl (cr (cl (cr (cr c13)))))))))))))))))) (act 58 [(0, x0), (2, x2), (4, x4), (43, x43)]) h K =
    bnd (pNilCheck x0) fun x46 =>
    bnd (pFieldAddr Try.prog 47 x46 0) fun x47 =>
    bnd (pLoad Try.prog 25 x47 h) fun x48 =>
    bnd (pBin Try.prog Go.BinOp.add 3 (Go.Operand.tmp 49) (Go.Operand.const (Go.Value.int Go.IntKind.i64 1)) x4 (Go.Value.int Go.IntKind.i64 1)) fun x50 =>
    bnd (pSlice Try.prog 25 x48 (some x50) none none h) fun x51 =>
    bnd (pNilCheck x0) fun x52 =>
    bnd (pFieldAddr Try.prog 47 x52 0) fun x53 =>
    bnd (kSt (pStore Try.prog 25 x53 x51 h)) fun u =>
    K .normal (act 58 [(2, x2)]) u.2 := (k_reg (by kernel_rfl)).trans (by kernel_rfl)
theorem r13_13 {β : Type} {inv : Inv} {k : Nat} {x2 : Value} {h : AH} {K : XE → Act → AH → Option β} : kCode env 13 false inv k (cl (cr (cr (cr (cr (cr (cr (cr (cr (cl (cl (cr (cr (cl (cl (cr (cl (cr (cr c13))))))))))))))))))) (act 58 [(2, x2)]) h K =
    K .normal (act 58 [(2, x2), (3, (Go.Value.int Go.IntKind.i64 0))]) h := (k_reg (by kernel_rfl)).trans (by kernel_rfl)
noncomputable def F13_lrlrr {β : Type} (inv : Inv) (k : Nat) : Nat → Value → Value → Value → Value → Value → AH → (Value → Value → Value → Value → Value → Value → Value → Value → Value → Value → Value → Value → AH → Option β) → (Value → Value → AH → Option β) → Option β
  | 0, _, _, _, _, _, _, _, _ => none
  | j + 1, x0, x2, x12, x13, x14, h, ke0, kr =>
    bnd (pBin Try.prog Go.BinOp.lss 3 (Go.Operand.tmp 14) (Go.Operand.tmp 13) x14 x13) fun x15 =>
    brV x15
    (bnd (pIndexAddr Try.prog 25 x12 x14) fun x17 =>
    bnd (pLoad Try.prog 5 x17 h) fun x18 =>
    bnd (pBin Try.prog Go.BinOp.eql 3 (Go.Operand.tmp 19) (Go.Operand.const (Go.Value.int Go.IntKind.i64 10)) x14 (Go.Value.int Go.IntKind.i64 10)) fun x20 =>
    brV x20
    (ke0 x0 x2 x14 x18 unk x12 x13 x14 unk x20 unk unk h)
    (bnd (pBin Try.prog Go.BinOp.andNot 5 (Go.Operand.tmp 21) (Go.Operand.const (Go.Value.int Go.IntKind.u8 128)) x18 (Go.Value.int Go.IntKind.u8 128)) fun x22 =>
    bnd (pConv Try.prog 5 23 x22 h) fun x23 =>
    bnd (pBin Try.prog Go.BinOp.eql 3 (Go.Operand.tmp 24) (Go.Operand.const (Go.Value.int Go.IntKind.i64 9)) x14 (Go.Value.int Go.IntKind.i64 9)) fun x25 =>
    bnd (gd (some x25) true h (some (x23, h))) fun x27 =>
    bnd (gd (some x25) true x27.2 (lt (pBin Try.prog Go.BinOp.gtr 23 (Go.Operand.tmp 27) (Go.Operand.const (Go.Value.int Go.IntKind.u64 1)) x27.1 (Go.Value.int Go.IntKind.u64 1)) x27.2)) fun x28 =>
    bnd (pickV x25 x28.1 (Go.Value.bool false)) fun x29 =>
    brV x29
    (ke0 x0 x2 x14 x18 x23 x12 x13 x14 unk unk x29 unk x28.2)
    (bnd (pBin Try.prog Go.BinOp.mul 3 (Go.Operand.const (Go.Value.int Go.IntKind.i64 7)) (Go.Operand.tmp 32) (Go.Value.int Go.IntKind.i64 7) x14) fun x33 =>
    bnd (pBin Try.prog Go.BinOp.shl 23 (Go.Operand.tmp 31) (Go.Operand.tmp 33) x23 x33) fun x34 =>
    bnd (pBin Try.prog Go.BinOp.or 23 (Go.Operand.tmp 30) (Go.Operand.tmp 34) x2 x34) fun x35 =>
    bnd (pBin Try.prog Go.BinOp.geq 5 (Go.Operand.tmp 36) (Go.Operand.const (Go.Value.int Go.IntKind.u8 128)) x18 (Go.Value.int Go.IntKind.u8 128)) fun x37 =>
    brV x37
    (bnd (pBin Try.prog Go.BinOp.add 3 (Go.Operand.tmp 14) (Go.Operand.const (Go.Value.int Go.IntKind.i64 1)) x14 (Go.Value.int Go.IntKind.i64 1)) fun x55 =>
    F13_lrlrr inv k j x0 x35 x12 x13 x55 x28.2 ke0 kr)
    (bnd (pBin Try.prog Go.BinOp.eql 23 (Go.Operand.tmp 38) (Go.Operand.const (Go.Value.int Go.IntKind.u64 0)) x23 (Go.Value.int Go.IntKind.u64 0)) fun x39 =>
    bnd (gd (some x39) true x28.2 (some (x14, x28.2))) fun x41 =>
    bnd (gd (some x39) true x41.2 (lt (pBin Try.prog Go.BinOp.gtr 3 (Go.Operand.tmp 41) (Go.Operand.const (Go.Value.int Go.IntKind.i64 0)) x41.1 (Go.Value.int Go.IntKind.i64 0)) x41.2)) fun x42 =>
    bnd (pickV x39 x42.1 (Go.Value.bool false)) fun x43 =>
    brV x43
    (ke0 x0 x35 x14 unk unk unk unk unk unk unk unk x43 x42.2)
    (bnd (pNilCheck x0) fun x46 =>
    bnd (pFieldAddr Try.prog 47 x46 0) fun x47 =>
    bnd (pLoad Try.prog 25 x47 x42.2) fun x48 =>
    bnd (pBin Try.prog Go.BinOp.add 3 (Go.Operand.tmp 49) (Go.Operand.const (Go.Value.int Go.IntKind.i64 1)) x14 (Go.Value.int Go.IntKind.i64 1)) fun x50 =>
    bnd (pSlice Try.prog 25 x48 (some x50) none none x42.2) fun x51 =>
    bnd (pNilCheck x0) fun x52 =>
    bnd (pFieldAddr Try.prog 47 x52 0) fun x53 =>
    bnd (kSt (pStore Try.prog 25 x53 x51 x42.2)) fun u =>
    kr x35 (Go.Value.int Go.IntKind.i64 0) u.2)))))
    (ke0 x0 x2 unk unk unk x12 x13 x14 x15 unk unk unk h)
theorem F13_lrlrr_j {β : Type} {inv : Inv} {k : Nat} (j : Nat) {x0 x2 x12 x13 x14 : Value} {h : AH} {K : XE → Act → AH → Option β} : kLoop (kCode env 13 false inv k (cl (cl (cr (cl (cr (cr c13))))))) j (act 58 [(0, x0), (2, x2), (12, x12), (13, x13), (14, x14)]) h K = F13_lrlrr inv k j x0 x2 x12 x13 x14 h (fun y0 y2 y4 y5 y6 y12 y13 y14 y15 y20 y29 y43 h => K (.exit 0) (act 58 [(0, y0), (2, y2), (4, y4), (5, y5), (6, y6), (12, y12), (13, y13), (14, y14), (15, y15), (20, y20), (29, y29), (43, y43)]) h) (fun y2 y3 h => K .ret (act 58 [(2, y2), (3, y3)]) h) := by
      induction j generalizing x0 x2 x12 x13 x14 h with
      | zero => rfl
      | succ j ih =>
        unfold F13_lrlrr
        simp only [kLoop, k_seq (E := env) (f := 13) (c := (cl (cl (cr (cl (cr (cr c13))))))) (by kernel_rfl), r13_4, k_seq (E := env) (f := 13) (c := (cr (cl (cl (cr (cl (cr (cr c13)))))))) (by kernel_rfl), b13_lrllrlrr, k_skip (E := env) (f := 13) (c := (cl (cl (cr (cl (cl (cr (cl (cr (cr c13)))))))))) (by kernel_rfl), k_seq (E := env) (f := 13) (c := (cr (cr (cl (cl (cr (cl (cr (cr c13))))))))) (by kernel_rfl), k_block (E := env) (f := 13) (c := (cl (cr (cr (cl (cl (cr (cl (cr (cr c13)))))))))) (id := 1) (by kernel_rfl), k_seq (E := env) (f := 13) (c := (cl (cl (cr (cr (cl (cl (cr (cl (cr (cr c13))))))))))) (by kernel_rfl), r13_5, k_seq (E := env) (f := 13) (c := (cr (cl (cl (cr (cr (cl (cl (cr (cl (cr (cr c13)))))))))))) (by kernel_rfl), k_seq (E := env) (f := 13) (c := (cl (cr (cl (cl (cr (cr (cl (cl (cr (cl (cr (cr c13))))))))))))) (by kernel_rfl), r13_6, b13_rlrllrrllrlrr, k_exit (E := env) (f := 13) (c := (cl (cr (cl (cr (cl (cl (cr (cr (cl (cl (cr (cl (cr (cr c13))))))))))))))) (id := 0) (by kernel_rfl), k_skip (E := env) (f := 13) (c := (cr (cr (cl (cr (cl (cl (cr (cr (cl (cl (cr (cl (cr (cr c13))))))))))))))) (by kernel_rfl), k_seq (E := env) (f := 13) (c := (cr (cr (cl (cl (cr (cr (cl (cl (cr (cl (cr (cr c13))))))))))))) (by kernel_rfl), r13_7, k_seq (E := env) (f := 13) (c := (cr (cr (cr (cl (cl (cr (cr (cl (cl (cr (cl (cr (cr c13)))))))))))))) (by kernel_rfl), k_seq (E := env) (f := 13) (c := (cl (cr (cr (cr (cl (cl (cr (cr (cl (cl (cr (cl (cr (cr c13))))))))))))))) (by kernel_rfl), r13_8, b13_rlrrrllrrllrlrr, k_exit (E := env) (f := 13) (c := (cl (cr (cl (cr (cr (cr (cl (cl (cr (cr (cl (cl (cr (cl (cr (cr c13))))))))))))))))) (id := 0) (by kernel_rfl), k_skip (E := env) (f := 13) (c := (cr (cr (cl (cr (cr (cr (cl (cl (cr (cr (cl (cl (cr (cl (cr (cr c13))))))))))))))))) (by kernel_rfl), k_seq (E := env) (f := 13) (c := (cr (cr (cr (cr (cl (cl (cr (cr (cl (cl (cr (cl (cr (cr c13))))))))))))))) (by kernel_rfl), r13_9, k_seq (E := env) (f := 13) (c := (cr (cr (cr (cr (cr (cl (cl (cr (cr (cl (cl (cr (cl (cr (cr c13)))))))))))))))) (by kernel_rfl), k_seq (E := env) (f := 13) (c := (cl (cr (cr (cr (cr (cr (cl (cl (cr (cr (cl (cl (cr (cl (cr (cr c13))))))))))))))))) (by kernel_rfl), r13_10, b13_rlrrrrrllrrllrlrr, k_exit (E := env) (f := 13) (c := (cl (cr (cl (cr (cr (cr (cr (cr (cl (cl (cr (cr (cl (cl (cr (cl (cr (cr c13))))))))))))))))))) (id := 1) (by kernel_rfl), r13_14, k_skip (E := env) (f := 13) (c := (cr (cr (cl (cr (cr (cr (cr (cr (cl (cl (cr (cr (cl (cl (cr (cl (cr (cr c13))))))))))))))))))) (by kernel_rfl), k_seq (E := env) (f := 13) (c := (cr (cr (cr (cr (cr (cr (cl (cl (cr (cr (cl (cl (cr (cl (cr (cr c13))))))))))))))))) (by kernel_rfl), k_seq (E := env) (f := 13) (c := (cl (cr (cr (cr (cr (cr (cr (cl (cl (cr (cr (cl (cl (cr (cl (cr (cr c13)))))))))))))))))) (by kernel_rfl), r13_11, b13_rlrrrrrrllrrllrlrr, k_exit (E := env) (f := 13) (c := (cl (cr (cl (cr (cr (cr (cr (cr (cr (cl (cl (cr (cr (cl (cl (cr (cl (cr (cr c13)))))))))))))))))))) (id := 0) (by kernel_rfl), k_skip (E := env) (f := 13) (c := (cr (cr (cl (cr (cr (cr (cr (cr (cr (cl (cl (cr (cr (cl (cl (cr (cl (cr (cr c13)))))))))))))))))))) (by kernel_rfl), k_seq (E := env) (f := 13) (c := (cr (cr (cr (cr (cr (cr (cr (cl (cl (cr (cr (cl (cl (cr (cl (cr (cr c13)))))))))))))))))) (by kernel_rfl), r13_12, k_seq (E := env) (f := 13) (c := (cr (cr (cr (cr (cr (cr (cr (cr (cl (cl (cr (cr (cl (cl (cr (cl (cr (cr c13))))))))))))))))))) (by kernel_rfl), r13_13, k_ret (E := env) (f := 13) (c := (cr (cr (cr (cr (cr (cr (cr (cr (cr (cl (cl (cr (cr (cl (cl (cr (cl (cr (cr c13)))))))))))))))))))) (by kernel_rfl), k_exit (E := env) (f := 13) (c := (cr (cl (cr (cl (cl (cr (cl (cr (cr c13)))))))))) (id := 0) (by kernel_rfl), ih, reduceIte, reduceCtorEq, XE.exit.injEq, Nat.reduceEqDiff] <;> kernel_rfl
theorem F13_lrlrr_eq {β : Type} {inv : Inv} {k : Nat} {x0 x2 x12 x13 x14 : Value} {h : AH} {K : XE → Act → AH → Option β} : kCode env 13 false inv k (cl (cr (cl (cr (cr c13))))) (act 58 [(0, x0), (2, x2), (12, x12), (13, x13), (14, x14)]) h K = F13_lrlrr inv k k x0 x2 x12 x13 x14 h (fun y0 y2 y4 y5 y6 y12 y13 y14 y15 y20 y29 y43 h => K (.exit 0) (act 58 [(0, y0), (2, y2), (4, y4), (5, y5), (6, y6), (12, y12), (13, y13), (14, y14), (15, y15), (20, y20), (29, y29), (43, y43)]) h) (fun y2 y3 h => K .ret (act 58 [(2, y2), (3, y3)]) h) := (k_loop (by kernel_rfl)).trans (F13_lrlrr_j k)
noncomputable def F13_rlrr {β : Type} (inv : Inv) (k : Nat) (x0 x2 x12 x13 x14 : Value) (h : AH) (kn : (Value → Value → Value → Value → Value → Value → Value → Value → Value → Value → Value → Value → AH → Option β)) (kr : (Value → Value → AH → Option β)) : Option β :=
    F13_lrlrr inv k k x0 x2 x12 x13 x14 h
    (fun y0 y2 y4 y5 y6 y12 y13 y14 y15 y20 y29 y43 h =>
    kn y0 y2 y4 y5 y6 y12 y13 y14 y15 y20 y29 y43 h)
    (fun y2_1 y3 h_2 =>
    kr y2_1 y3 h_2)
theorem F13_rlrr_eq {β : Type} {inv : Inv} {k : Nat} {x0 x2 x12 x13 x14 : Value} {h : AH} {K : XE → Act → AH → Option β} : kCode env 13 false inv k (cr (cl (cr (cr c13)))) (act 58 [(0, x0), (2, x2), (12, x12), (13, x13), (14, x14)]) h K = F13_rlrr inv k x0 x2 x12 x13 x14 h (fun y0 y2 y4 y5 y6 y12 y13 y14 y15 y20 y29 y43 h => K .normal (act 58 [(0, y0), (2, y2), (4, y4), (5, y5), (6, y6), (12, y12), (13, y13), (14, y14), (15, y15), (20, y20), (29, y29), (43, y43)]) h) (fun y2 y3 h => K .ret (act 58 [(2, y2), (3, y3)]) h) := by
      unfold F13_rlrr
      simp only [k_block (E := env) (f := 13) (c := (cr (cl (cr (cr c13))))) (id := 0) (by kernel_rfl), F13_lrlrr_eq, reduceIte, reduceCtorEq, XE.exit.injEq, Nat.reduceEqDiff] <;> kernel_rfl
theorem r13_15 {β : Type} {inv : Inv} {k : Nat} {x0 x2 x4 x5 x6 x12 x13 x14 x15 x20 x29 x43 : Value} {h : AH} {K : XE → Act → AH → Option β} : kCode env 13 false inv k (cl (cl (cr (cr (cr c13))))) (act 58 [(0, x0), (2, x2), (4, x4), (5, x5), (6, x6), (12, x12), (13, x13), (14, x14), (15, x15), (20, x20), (29, x29), (43, x43)]) h K =
    bnd (inv (.func 21) #[] #[x0] h) fun x57 =>
    K .normal (act 58 [(57, x57.1)]) x57.2 := (k_reg (by kernel_rfl)).trans (by kernel_rfl)
theorem b13_rlrrr {β : Type} {inv : Inv} {k : Nat} {x57 : Value} {h : AH} {K : XE → Act → AH → Option β} : kCode env 13 false inv k (cr (cl (cr (cr (cr c13))))) (act 58 [(57, x57)]) h K = brV x57 (kCode env 13 false inv k (cl (cr (cl (cr (cr (cr c13)))))) (act 58 [(57, x57)]) h K) (kCode env 13 false inv k (cr (cr (cl (cr (cr (cr c13)))))) (act 58 [(57, x57)]) h K) := (k_cond (by kernel_rfl)).trans (by kernel_rfl)
theorem r13_16 {β : Type} {inv : Inv} {k : Nat} {x57 : Value} {h : AH} {K : XE → Act → AH → Option β} : kCode env 13 false inv k (cl (cl (cr (cl (cr (cr (cr c13))))))) (act 58 [(57, x57)]) h K =
    K .normal (act 58 [(2, (Go.Value.int Go.IntKind.u64 0)), (3, (Go.Value.int Go.IntKind.i64 7))]) h := (k_reg (by kernel_rfl)).trans (by kernel_rfl)
theorem r13_17 {β : Type} {inv : Inv} {k : Nat} {x57 : Value} {h : AH} {K : XE → Act → AH → Option β} : kCode env 13 false inv k (cl (cr (cr (cr (cr c13))))) (act 58 [(57, x57)]) h K =
    K .normal (act 58 [(2, (Go.Value.int Go.IntKind.u64 0)), (3, (Go.Value.int Go.IntKind.i64 4))]) h := (k_reg (by kernel_rfl)).trans (by kernel_rfl)
/-- (*shadowbook/octet.Reader).Var -/
noncomputable def F13 (inv : Inv) (k : Nat) (x0 : Value) (h : AH) : Option (Value × AH) :=
    bnd (pBin Try.prog Go.BinOp.eql 32 (Go.Operand.tmp 7) (Go.Operand.const (Go.Value.pointer none)) x0 (Go.Value.pointer none)) fun x8 =>
    brV x8
    (some (.tuple #[(Go.Value.int Go.IntKind.u64 0), (Go.Value.int Go.IntKind.i64 1)], h))
    (bnd (pNilCheck x0) fun x10 =>
    bnd (pFieldAddr Try.prog 47 x10 0) fun x11 =>
    bnd (pLoad Try.prog 25 x11 h) fun x12 =>
    bnd (pLen Try.prog #[25] x12 h) fun x13 =>
    F13_rlrr inv k x0 (Go.Value.int Go.IntKind.u64 0) x12 x13 (Go.Value.int Go.IntKind.i64 0) h
    (fun y0 y2 y4 y5 y6 y12 y13 y14 y15 y20 y29 y43 h =>
    bnd (inv (.func 21) #[] #[y0] h) fun x57 =>
    brV x57.1
    (some (.tuple #[(Go.Value.int Go.IntKind.u64 0), (Go.Value.int Go.IntKind.i64 7)], x57.2))
    (some (.tuple #[(Go.Value.int Go.IntKind.u64 0), (Go.Value.int Go.IntKind.i64 4)], x57.2)))
    (fun y2_3 y3 h_4 =>
    some (.tuple #[y2_3, y3], h_4)))
theorem F13_eq {inv : Inv} {k : Nat} {x0 : Value} {h : AH} : eFun env k inv 13 #[x0] h = F13 inv k x0 h := by
      refine (eFun_k2 (by kernel_rfl) (by kernel_rfl) (by kernel_rfl) (a := act 58 [(0, x0)]) (c := c13) (by kernel_rfl) (by kernel_rfl)).trans ?_
      unfold F13
      simp only [k_seq (E := env) (f := 13) (c := c13) (by kernel_rfl), r13_0, k_seq (E := env) (f := 13) (c := (cr c13)) (by kernel_rfl), k_seq (E := env) (f := 13) (c := (cl (cr c13))) (by kernel_rfl), r13_1, b13_rlr, k_seq (E := env) (f := 13) (c := (cl (cr (cl (cr c13))))) (by kernel_rfl), r13_2, k_ret (E := env) (f := 13) (c := (cr (cl (cr (cl (cr c13)))))) (by kernel_rfl), res13_0, k_skip (E := env) (f := 13) (c := (cr (cr (cl (cr c13))))) (by kernel_rfl), k_seq (E := env) (f := 13) (c := (cr (cr c13))) (by kernel_rfl), k_seq (E := env) (f := 13) (c := (cl (cr (cr c13)))) (by kernel_rfl), r13_3, F13_rlrr_eq, k_seq (E := env) (f := 13) (c := (cr (cr (cr c13)))) (by kernel_rfl), k_seq (E := env) (f := 13) (c := (cl (cr (cr (cr c13))))) (by kernel_rfl), r13_15, b13_rlrrr, k_seq (E := env) (f := 13) (c := (cl (cr (cl (cr (cr (cr c13))))))) (by kernel_rfl), r13_16, k_ret (E := env) (f := 13) (c := (cr (cl (cr (cl (cr (cr (cr c13)))))))) (by kernel_rfl), k_skip (E := env) (f := 13) (c := (cr (cr (cl (cr (cr (cr c13))))))) (by kernel_rfl), k_seq (E := env) (f := 13) (c := (cr (cr (cr (cr c13))))) (by kernel_rfl), r13_17, k_ret (E := env) (f := 13) (c := (cr (cr (cr (cr (cr c13)))))) (by kernel_rfl), reduceIte, reduceCtorEq, XE.exit.injEq, Nat.reduceEqDiff] <;> kernel_rfl
theorem F13_call {k : Nat} {x0 : Value} {h : AH} : eInv env (k + 1) (.func 13) #[] #[x0] h = F13 (eInv env k) k x0 h := (inv_func (by kernel_rfl)).trans F13_eq
noncomputable def c14 : Code := codeOf Try.prog 14
theorem r14_0 {β : Type} {inv : Inv} {k : Nat} {x0 x1 : Value} {h : AH} {K : XE → Act → AH → Option β} : kCode env 14 false inv k (cl c14) (act 27 [(0, x0), (1, x1)]) h K =
    K .normal (act 27 [(0, x0), (1, x1)]) h := (k_reg (by kernel_rfl)).trans (by kernel_rfl)
theorem r14_1 {β : Type} {inv : Inv} {k : Nat} {x0 x1 : Value} {h : AH} {K : XE → Act → AH → Option β} : kCode env 14 false inv k (cl (cl (cl (cr c14)))) (act 27 [(0, x0), (1, x1)]) h K =
    bnd (pBin Try.prog Go.BinOp.eql 32 (Go.Operand.tmp 9) (Go.Operand.const (Go.Value.pointer none)) x0 (Go.Value.pointer none)) fun x10 =>
    K .normal (act 27 [(0, x0), (1, x1), (8, x10)]) h := (k_reg (by kernel_rfl)).trans (by kernel_rfl)
theorem b14_rllr {β : Type} {inv : Inv} {k : Nat} {x0 x1 x8 : Value} {h : AH} {K : XE → Act → AH → Option β} : kCode env 14 false inv k (cr (cl (cl (cr c14)))) (act 27 [(0, x0), (1, x1), (8, x8)]) h K = brV x8 (kCode env 14 false inv k (cl (cr (cl (cl (cr c14))))) (act 27 [(0, x0), (1, x1), (8, x8)]) h K) (kCode env 14 false inv k (cr (cr (cl (cl (cr c14))))) (act 27 [(0, x0), (1, x1), (8, x8)]) h K) := (k_cond (by kernel_rfl)).trans (by kernel_rfl)
theorem r14_2 {β : Type} {inv : Inv} {k : Nat} {x0 x1 x8 : Value} {h : AH} {K : XE → Act → AH → Option β} : kCode env 14 false inv k (cl (cl (cr (cl (cl (cr c14)))))) (act 27 [(0, x0), (1, x1), (8, x8)]) h K =
    K .normal (act 27 [(4, (Go.Value.int Go.IntKind.u64 0)), (5, (Go.Value.int Go.IntKind.i64 1))]) h := (k_reg (by kernel_rfl)).trans (by kernel_rfl)
theorem res14_0 {x4 x5 : Value} {h : AH} : resOfFn env.P 14 .ret (act 27 [(4, x4), (5, x5)]) h = some (.tuple #[x4, x5], h) := (resOfFn_k (by kernel_rfl) (by kernel_rfl)).trans (by kernel_rfl)
theorem r14_3 {β : Type} {inv : Inv} {k : Nat} {x0 x1 x8 : Value} {h : AH} {K : XE → Act → AH → Option β} : kCode env 14 false inv k (cl (cr (cr (cl (cl (cr c14)))))) (act 27 [(0, x0), (1, x1), (8, x8)]) h K =
    bnd (pBin Try.prog Go.BinOp.lss 3 (Go.Operand.tmp 12) (Go.Operand.const (Go.Value.int Go.IntKind.i64 1)) x1 (Go.Value.int Go.IntKind.i64 1)) fun x13 =>
    bnd (gd (some x13) false h (some (x1, h))) fun x15 =>
    bnd (gd (some x13) false x15.2 (lt (pBin Try.prog Go.BinOp.gtr 3 (Go.Operand.tmp 15) (Go.Operand.const (Go.Value.int Go.IntKind.i64 8)) x15.1 (Go.Value.int Go.IntKind.i64 8)) x15.2)) fun x16 =>
    bnd (pickV x13 (Go.Value.bool true) x16.1) fun x17 =>
    K .normal (act 27 [(0, x0), (1, x1), (11, x17)]) x16.2 := (k_reg (by kernel_rfl)).trans (by kernel_rfl)
theorem b14_rrrllr {β : Type} {inv : Inv} {k : Nat} {x0 x1 x11 : Value} {h : AH} {K : XE → Act → AH → Option β} : kCode env 14 false inv k (cr (cr (cr (cl (cl (cr c14)))))) (act 27 [(0, x0), (1, x1), (11, x11)]) h K = brV x11 (kCode env 14 false inv k (cl (cr (cr (cr (cl (cl (cr c14))))))) (act 27 [(0, x0), (1, x1), (11, x11)]) h K) (kCode env 14 false inv k (cr (cr (cr (cr (cl (cl (cr c14))))))) (act 27 [(0, x0), (1, x1), (11, x11)]) h K) := (k_cond (by kernel_rfl)).trans (by kernel_rfl)
theorem r14_4 {β : Type} {inv : Inv} {k : Nat} {x0 x1 x11 : Value} {h : AH} {K : XE → Act → AH → Option β} : kCode env 14 false inv k (cl (cl (cr (cr (cr (cl (cl (cr c14)))))))) (act 27 [(0, x0), (1, x1), (11, x11)]) h K =
    K .normal (act 27 [(4, (Go.Value.int Go.IntKind.u64 0)), (5, (Go.Value.int Go.IntKind.i64 2))]) h := (k_reg (by kernel_rfl)).trans (by kernel_rfl)
theorem r14_5 {β : Type} {inv : Inv} {k : Nat} {x0 x1 x11 : Value} {h : AH} {K : XE → Act → AH → Option β} : kCode env 14 false inv k (cl (cr (cr c14))) (act 27 [(0, x0), (1, x1), (11, x11)]) h K =
    bnd (inv (.func 22) #[] #[x0, x1] h) fun x21 =>
    bnd (pExtract x21.1 0) fun x22 =>
    bnd (pExtract x21.1 1) fun x23 =>
    K .normal (act 27 [(6, x22), (7, x23)]) x21.2 := (k_reg (by kernel_rfl)).trans (by kernel_rfl)
theorem r14_6 {β : Type} {inv : Inv} {k : Nat} {x6 x7 : Value} {h : AH} {K : XE → Act → AH → Option β} : kCode env 14 false inv k (cl (cr (cr (cr c14)))) (act 27 [(6, x6), (7, x7)]) h K =
    bnd (inv (.func 19) #[] #[x6] h) fun x25 =>
    K .normal (act 27 [(4, x25.1), (5, x7)]) x25.2 := (k_reg (by kernel_rfl)).trans (by kernel_rfl)
/-- (*shadowbook/octet.Reader).Number -/
noncomputable def F14 (inv : Inv) (k : Nat) (x0 x1 : Value) (h : AH) : Option (Value × AH) :=
    bnd (pBin Try.prog Go.BinOp.eql 32 (Go.Operand.tmp 9) (Go.Operand.const (Go.Value.pointer none)) x0 (Go.Value.pointer none)) fun x10 =>
    brV x10
    (some (.tuple #[(Go.Value.int Go.IntKind.u64 0), (Go.Value.int Go.IntKind.i64 1)], h))
    (bnd (pBin Try.prog Go.BinOp.lss 3 (Go.Operand.tmp 12) (Go.Operand.const (Go.Value.int Go.IntKind.i64 1)) x1 (Go.Value.int Go.IntKind.i64 1)) fun x13 =>
    bnd (gd (some x13) false h (some (x1, h))) fun x15 =>
    bnd (gd (some x13) false x15.2 (lt (pBin Try.prog Go.BinOp.gtr 3 (Go.Operand.tmp 15) (Go.Operand.const (Go.Value.int Go.IntKind.i64 8)) x15.1 (Go.Value.int Go.IntKind.i64 8)) x15.2)) fun x16 =>
    bnd (pickV x13 (Go.Value.bool true) x16.1) fun x17 =>
    brV x17
    (some (.tuple #[(Go.Value.int Go.IntKind.u64 0), (Go.Value.int Go.IntKind.i64 2)], x16.2))
    (bnd (inv (.func 22) #[] #[x0, x1] x16.2) fun x21 =>
    bnd (pExtract x21.1 0) fun x22 =>
    bnd (pExtract x21.1 1) fun x23 =>
    bnd (inv (.func 19) #[] #[x22] x21.2) fun x25 =>
    some (.tuple #[x25.1, x23], x25.2)))
theorem F14_eq {inv : Inv} {k : Nat} {x0 x1 : Value} {h : AH} : eFun env k inv 14 #[x0, x1] h = F14 inv k x0 x1 h := by
      refine (eFun_k2 (by kernel_rfl) (by kernel_rfl) (by kernel_rfl) (a := act 27 [(0, x0), (1, x1)]) (c := c14) (by kernel_rfl) (by kernel_rfl)).trans ?_
      unfold F14
      simp only [k_seq (E := env) (f := 14) (c := c14) (by kernel_rfl), r14_0, k_seq (E := env) (f := 14) (c := (cr c14)) (by kernel_rfl), k_block (E := env) (f := 14) (c := (cl (cr c14))) (id := 0) (by kernel_rfl), k_seq (E := env) (f := 14) (c := (cl (cl (cr c14)))) (by kernel_rfl), r14_1, b14_rllr, k_seq (E := env) (f := 14) (c := (cl (cr (cl (cl (cr c14)))))) (by kernel_rfl), r14_2, k_ret (E := env) (f := 14) (c := (cr (cl (cr (cl (cl (cr c14))))))) (by kernel_rfl), res14_0, k_seq (E := env) (f := 14) (c := (cr (cr (cl (cl (cr c14)))))) (by kernel_rfl), r14_3, b14_rrrllr, k_seq (E := env) (f := 14) (c := (cl (cr (cr (cr (cl (cl (cr c14)))))))) (by kernel_rfl), r14_4, k_ret (E := env) (f := 14) (c := (cr (cl (cr (cr (cr (cl (cl (cr c14))))))))) (by kernel_rfl), k_skip (E := env) (f := 14) (c := (cr (cr (cr (cr (cl (cl (cr c14)))))))) (by kernel_rfl), k_seq (E := env) (f := 14) (c := (cr (cr c14))) (by kernel_rfl), r14_5, k_seq (E := env) (f := 14) (c := (cr (cr (cr c14)))) (by kernel_rfl), r14_6, k_ret (E := env) (f := 14) (c := (cr (cr (cr (cr c14))))) (by kernel_rfl), reduceIte, reduceCtorEq, XE.exit.injEq, Nat.reduceEqDiff] <;> kernel_rfl
theorem F14_call {k : Nat} {x0 x1 : Value} {h : AH} : eInv env (k + 1) (.func 14) #[] #[x0, x1] h = F14 (eInv env k) k x0 x1 h := (inv_func (by kernel_rfl)).trans F14_eq
noncomputable def c15 : Code := codeOf Try.prog 15
theorem r15_0 {β : Type} {inv : Inv} {k : Nat} {x0 : Value} {h : AH} {K : XE → Act → AH → Option β} : kCode env 15 false inv k (cl c15) (act 10 [(0, x0)]) h K =
    K .normal (act 10 [(0, x0)]) h := (k_reg (by kernel_rfl)).trans (by kernel_rfl)
theorem r15_1 {β : Type} {inv : Inv} {k : Nat} {x0 : Value} {h : AH} {K : XE → Act → AH → Option β} : kCode env 15 false inv k (cl (cl (cr c15))) (act 10 [(0, x0)]) h K =
    bnd (pBin Try.prog Go.BinOp.eql 32 (Go.Operand.tmp 3) (Go.Operand.const (Go.Value.pointer none)) x0 (Go.Value.pointer none)) fun x4 =>
    K .normal (act 10 [(0, x0), (4, x4)]) h := (k_reg (by kernel_rfl)).trans (by kernel_rfl)
theorem b15_rlr {β : Type} {inv : Inv} {k : Nat} {x0 x4 : Value} {h : AH} {K : XE → Act → AH → Option β} : kCode env 15 false inv k (cr (cl (cr c15))) (act 10 [(0, x0), (4, x4)]) h K = brV x4 (kCode env 15 false inv k (cl (cr (cl (cr c15)))) (act 10 [(0, x0), (4, x4)]) h K) (kCode env 15 false inv k (cr (cr (cl (cr c15)))) (act 10 [(0, x0), (4, x4)]) h K) := (k_cond (by kernel_rfl)).trans (by kernel_rfl)
theorem r15_2 {β : Type} {inv : Inv} {k : Nat} {x0 x4 : Value} {h : AH} {K : XE → Act → AH → Option β} : kCode env 15 false inv k (cl (cl (cr (cl (cr c15))))) (act 10 [(0, x0), (4, x4)]) h K =
    K .normal (act 10 [(2, (Go.Value.int Go.IntKind.i64 0))]) h := (k_reg (by kernel_rfl)).trans (by kernel_rfl)
theorem res15_0 {x2 : Value} {h : AH} : resOfFn env.P 15 .ret (act 10 [(2, x2)]) h = some (x2, h) := (resOfFn_k (by kernel_rfl) (by kernel_rfl)).trans (by kernel_rfl)
theorem r15_3 {β : Type} {inv : Inv} {k : Nat} {x0 x4 : Value} {h : AH} {K : XE → Act → AH → Option β} : kCode env 15 false inv k (cl (cr (cr c15))) (act 10 [(0, x0), (4, x4)]) h K =
    bnd (pNilCheck x0) fun x6 =>
    bnd (pFieldAddr Try.prog 47 x6 0) fun x7 =>
    bnd (pLoad Try.prog 25 x7 h) fun x8 =>
    bnd (pLen Try.prog #[25] x8 h) fun x9 =>
    K .normal (act 10 [(2, x9)]) h := (k_reg (by kernel_rfl)).trans (by kernel_rfl)
/-- (*shadowbook/octet.Reader).Left -/
noncomputable def F15 (inv : Inv) (k : Nat) (x0 : Value) (h : AH) : Option (Value × AH) :=
    bnd (pBin Try.prog Go.BinOp.eql 32 (Go.Operand.tmp 3) (Go.Operand.const (Go.Value.pointer none)) x0 (Go.Value.pointer none)) fun x4 =>
    brV x4
    (some ((Go.Value.int Go.IntKind.i64 0), h))
    (bnd (pNilCheck x0) fun x6 =>
    bnd (pFieldAddr Try.prog 47 x6 0) fun x7 =>
    bnd (pLoad Try.prog 25 x7 h) fun x8 =>
    bnd (pLen Try.prog #[25] x8 h) fun x9 =>
    some (x9, h))
theorem F15_eq {inv : Inv} {k : Nat} {x0 : Value} {h : AH} : eFun env k inv 15 #[x0] h = F15 inv k x0 h := by
      refine (eFun_k2 (by kernel_rfl) (by kernel_rfl) (by kernel_rfl) (a := act 10 [(0, x0)]) (c := c15) (by kernel_rfl) (by kernel_rfl)).trans ?_
      unfold F15
      simp only [k_seq (E := env) (f := 15) (c := c15) (by kernel_rfl), r15_0, k_seq (E := env) (f := 15) (c := (cr c15)) (by kernel_rfl), k_seq (E := env) (f := 15) (c := (cl (cr c15))) (by kernel_rfl), r15_1, b15_rlr, k_seq (E := env) (f := 15) (c := (cl (cr (cl (cr c15))))) (by kernel_rfl), r15_2, k_ret (E := env) (f := 15) (c := (cr (cl (cr (cl (cr c15)))))) (by kernel_rfl), res15_0, k_skip (E := env) (f := 15) (c := (cr (cr (cl (cr c15))))) (by kernel_rfl), k_seq (E := env) (f := 15) (c := (cr (cr c15))) (by kernel_rfl), r15_3, k_ret (E := env) (f := 15) (c := (cr (cr (cr c15)))) (by kernel_rfl), reduceIte, reduceCtorEq, XE.exit.injEq, Nat.reduceEqDiff] <;> kernel_rfl
theorem F15_call {k : Nat} {x0 : Value} {h : AH} : eInv env (k + 1) (.func 15) #[] #[x0] h = F15 (eInv env k) k x0 h := (inv_func (by kernel_rfl)).trans F15_eq
noncomputable def c16 : Code := codeOf Try.prog 16
theorem r16_0 {β : Type} {inv : Inv} {k : Nat} {x0 x1 : Value} {h : AH} {K : XE → Act → AH → Option β} : kCode env 16 false inv k (cl c16) (act 26 [(0, x0), (1, x1)]) h K =
    K .normal (act 26 [(0, x0), (1, x1)]) h := (k_reg (by kernel_rfl)).trans (by kernel_rfl)
theorem r16_1 {β : Type} {inv : Inv} {k : Nat} {x0 x1 : Value} {h : AH} {K : XE → Act → AH → Option β} : kCode env 16 false inv k (cl (cl (cr c16))) (act 26 [(0, x0), (1, x1)]) h K =
    bnd (pLen Try.prog #[25] x0 h) fun x7 =>
    bnd (pLen Try.prog #[25] x1 h) fun x9 =>
    bnd (pBin Try.prog Go.BinOp.neq 3 (Go.Operand.tmp 7) (Go.Operand.tmp 9) x7 x9) fun x10 =>
    K .normal (act 26 [(0, x0), (1, x1), (10, x10)]) h := (k_reg (by kernel_rfl)).trans (by kernel_rfl)
theorem b16_rlr {β : Type} {inv : Inv} {k : Nat} {x0 x1 x10 : Value} {h : AH} {K : XE → Act → AH → Option β} : kCode env 16 false inv k (cr (cl (cr c16))) (act 26 [(0, x0), (1, x1), (10, x10)]) h K = brV x10 (kCode env 16 false inv k (cl (cr (cl (cr c16)))) (act 26 [(0, x0), (1, x1), (10, x10)]) h K) (kCode env 16 false inv k (cr (cr (cl (cr c16)))) (act 26 [(0, x0), (1, x1), (10, x10)]) h K) := (k_cond (by kernel_rfl)).trans (by kernel_rfl)
theorem r16_2 {β : Type} {inv : Inv} {k : Nat} {x0 x1 x10 : Value} {h : AH} {K : XE → Act → AH → Option β} : kCode env 16 false inv k (cl (cl (cr (cl (cr c16))))) (act 26 [(0, x0), (1, x1), (10, x10)]) h K =
    K .normal (act 26 [(4, (Go.Value.bool false))]) h := (k_reg (by kernel_rfl)).trans (by kernel_rfl)
theorem res16_0 {x4 : Value} {h : AH} : resOfFn env.P 16 .ret (act 26 [(4, x4)]) h = some (x4, h) := (resOfFn_k (by kernel_rfl) (by kernel_rfl)).trans (by kernel_rfl)
theorem r16_3 {β : Type} {inv : Inv} {k : Nat} {x0 x1 x10 : Value} {h : AH} {K : XE → Act → AH → Option β} : kCode env 16 false inv k (cl (cl (cr (cr c16)))) (act 26 [(0, x0), (1, x1), (10, x10)]) h K =
    K .normal (act 26 [(0, x0), (1, x1), (5, (Go.Value.int Go.IntKind.i64 0))]) h := (k_reg (by kernel_rfl)).trans (by kernel_rfl)
theorem r16_4 {β : Type} {inv : Inv} {k : Nat} {x0 x1 x5 : Value} {h : AH} {K : XE → Act → AH → Option β} : kCode env 16 false inv k (cl (cl (cl (cl (cr (cl (cr (cr c16)))))))) (act 26 [(0, x0), (1, x1), (5, x5)]) h K =
    bnd (pLen Try.prog #[25] x0 h) fun x13 =>
    bnd (pBin Try.prog Go.BinOp.lss 3 (Go.Operand.tmp 11) (Go.Operand.tmp 13) x5 x13) fun x14 =>
    K .normal (act 26 [(0, x0), (1, x1), (5, x5), (14, x14)]) h := (k_reg (by kernel_rfl)).trans (by kernel_rfl)
theorem b16_rlllrlrr {β : Type} {inv : Inv} {k : Nat} {x0 x1 x5 x14 : Value} {h : AH} {K : XE → Act → AH → Option β} : kCode env 16 false inv k (cr (cl (cl (cl (cr (cl (cr (cr c16)))))))) (act 26 [(0, x0), (1, x1), (5, x5), (14, x14)]) h K = brV x14 (kCode env 16 false inv k (cl (cr (cl (cl (cl (cr (cl (cr (cr c16))))))))) (act 26 [(0, x0), (1, x1), (5, x5), (14, x14)]) h K) (kCode env 16 false inv k (cr (cr (cl (cl (cl (cr (cl (cr (cr c16))))))))) (act 26 [(0, x0), (1, x1), (5, x5), (14, x14)]) h K) := (k_cond (by kernel_rfl)).trans (by kernel_rfl)
theorem r16_6 {β : Type} {inv : Inv} {k : Nat} {x0 x1 x5 x14 : Value} {h : AH} {K : XE → Act → AH → Option β} : kCode env 16 false inv k (cl (cl (cl (cr (cl (cl (cr (cl (cr (cr c16)))))))))) (act 26 [(0, x0), (1, x1), (5, x5), (14, x14)]) h K =
    bnd (pIndexAddr Try.prog 25 x0 x5) fun x19 =>
    bnd (pLoad Try.prog 5 x19 h) fun x20 =>
    bnd (pIndexAddr Try.prog 25 x1 x5) fun x23 =>
    bnd (pLoad Try.prog 5 x23 h) fun x24 =>
    bnd (pBin Try.prog Go.BinOp.neq 5 (Go.Operand.tmp 20) (Go.Operand.tmp 24) x20 x24) fun x25 =>
    K .normal (act 26 [(0, x0), (1, x1), (5, x5), (25, x25)]) h := (k_draw (by kernel_rfl)).trans (by kernel_rfl)
theorem b16_rllrllrlrr {β : Type} {inv : Inv} {k : Nat} {x0 x1 x5 x25 : Value} {h : AH} {K : XE → Act → AH → Option β} : kCode env 16 false inv k (cr (cl (cl (cr (cl (cl (cr (cl (cr (cr c16)))))))))) (act 26 [(0, x0), (1, x1), (5, x5), (25, x25)]) h K = brV x25 (kCode env 16 false inv k (cl (cr (cl (cl (cr (cl (cl (cr (cl (cr (cr c16))))))))))) (act 26 [(0, x0), (1, x1), (5, x5), (25, x25)]) h K) (kCode env 16 false inv k (cr (cr (cl (cl (cr (cl (cl (cr (cl (cr (cr c16))))))))))) (act 26 [(0, x0), (1, x1), (5, x5), (25, x25)]) h K) := (k_cond (by kernel_rfl)).trans (by kernel_rfl)
theorem r16_7 {β : Type} {inv : Inv} {k : Nat} {x0 x1 x5 x25 : Value} {h : AH} {K : XE → Act → AH → Option β} : kCode env 16 false inv k (cl (cl (cr (cl (cl (cr (cl (cl (cr (cl (cr (cr c16)))))))))))) (act 26 [(0, x0), (1, x1), (5, x5), (25, x25)]) h K =
    K .normal (act 26 [(4, (Go.Value.bool false))]) h := (k_reg (by kernel_rfl)).trans (by kernel_rfl)
theorem r16_5 {β : Type} {inv : Inv} {k : Nat} {x0 x1 x5 x25 : Value} {h : AH} {K : XE → Act → AH → Option β} : kCode env 16 false inv k (cr (cr (cl (cl (cr (cl (cr (cr c16)))))))) (act 26 [(0, x0), (1, x1), (5, x5), (25, x25)]) h K =
    bnd (pBin Try.prog Go.BinOp.add 3 (Go.Operand.tmp 15) (Go.Operand.const (Go.Value.int Go.IntKind.i64 1)) x5 (Go.Value.int Go.IntKind.i64 1)) fun x16 =>
    K .normal (act 26 [(0, x0), (1, x1), (5, x16)]) h := (k_reg (by kernel_rfl)).trans (by kernel_rfl)
noncomputable def F16_lrlrr {β : Type} (inv : Inv) (k : Nat) : Nat → Value → Value → Value → AH → (Value → Value → Value → Value → AH → Option β) → (Value → AH → Option β) → Option β
  | 0, _, _, _, _, _, _ => none
  | j + 1, x0, x1, x5, h, ke0, kr =>
    bnd (pLen Try.prog #[25] x0 h) fun x13 =>
    bnd (pBin Try.prog Go.BinOp.lss 3 (Go.Operand.tmp 11) (Go.Operand.tmp 13) x5 x13) fun x14 =>
    brV x14
    (bnd (pIndexAddr Try.prog 25 x0 x5) fun x19 =>
    bnd (pLoad Try.prog 5 x19 h) fun x20 =>
    bnd (pIndexAddr Try.prog 25 x1 x5) fun x23 =>
    bnd (pLoad Try.prog 5 x23 h) fun x24 =>
    bnd (pBin Try.prog Go.BinOp.neq 5 (Go.Operand.tmp 20) (Go.Operand.tmp 24) x20 x24) fun x25 =>
    brV x25
    (kr (Go.Value.bool false) h)
    (bnd (pBin Try.prog Go.BinOp.add 3 (Go.Operand.tmp 15) (Go.Operand.const (Go.Value.int Go.IntKind.i64 1)) x5 (Go.Value.int Go.IntKind.i64 1)) fun x16 =>
    F16_lrlrr inv k j x0 x1 x16 h ke0 kr))
    (ke0 x0 x1 x5 x14 h)
theorem F16_lrlrr_j {β : Type} {inv : Inv} {k : Nat} (j : Nat) {x0 x1 x5 : Value} {h : AH} {K : XE → Act → AH → Option β} : kLoop (kCode env 16 false inv k (cl (cl (cr (cl (cr (cr c16))))))) j (act 26 [(0, x0), (1, x1), (5, x5)]) h K = F16_lrlrr inv k j x0 x1 x5 h (fun y0 y1 y5 y14 h => K (.exit 0) (act 26 [(0, y0), (1, y1), (5, y5), (14, y14)]) h) (fun y4 h => K .ret (act 26 [(4, y4)]) h) := by
      induction j generalizing x0 x1 x5 h with
      | zero => rfl
      | succ j ih =>
        unfold F16_lrlrr
        simp only [kLoop, k_seq (E := env) (f := 16) (c := (cl (cl (cr (cl (cr (cr c16))))))) (by kernel_rfl), k_seq (E := env) (f := 16) (c := (cl (cl (cl (cr (cl (cr (cr c16)))))))) (by kernel_rfl), r16_4, b16_rlllrlrr, k_skip (E := env) (f := 16) (c := (cl (cr (cl (cl (cl (cr (cl (cr (cr c16)))))))))) (by kernel_rfl), k_seq (E := env) (f := 16) (c := (cr (cl (cl (cr (cl (cr (cr c16)))))))) (by kernel_rfl), k_block (E := env) (f := 16) (c := (cl (cr (cl (cl (cr (cl (cr (cr c16))))))))) (id := 1) (by kernel_rfl), k_seq (E := env) (f := 16) (c := (cl (cl (cr (cl (cl (cr (cl (cr (cr c16)))))))))) (by kernel_rfl), r16_6, b16_rllrllrlrr, k_seq (E := env) (f := 16) (c := (cl (cr (cl (cl (cr (cl (cl (cr (cl (cr (cr c16)))))))))))) (by kernel_rfl), r16_7, k_ret (E := env) (f := 16) (c := (cr (cl (cr (cl (cl (cr (cl (cl (cr (cl (cr (cr c16))))))))))))) (by kernel_rfl), k_skip (E := env) (f := 16) (c := (cr (cr (cl (cl (cr (cl (cl (cr (cl (cr (cr c16)))))))))))) (by kernel_rfl), r16_5, k_exit (E := env) (f := 16) (c := (cr (cr (cl (cl (cl (cr (cl (cr (cr c16)))))))))) (id := 0) (by kernel_rfl), ih, reduceIte, reduceCtorEq, XE.exit.injEq, Nat.reduceEqDiff] <;> kernel_rfl
theorem F16_lrlrr_eq {β : Type} {inv : Inv} {k : Nat} {x0 x1 x5 : Value} {h : AH} {K : XE → Act → AH → Option β} : kCode env 16 false inv k (cl (cr (cl (cr (cr c16))))) (act 26 [(0, x0), (1, x1), (5, x5)]) h K = F16_lrlrr inv k k x0 x1 x5 h (fun y0 y1 y5 y14 h => K (.exit 0) (act 26 [(0, y0), (1, y1), (5, y5), (14, y14)]) h) (fun y4 h => K .ret (act 26 [(4, y4)]) h) := (k_loop (by kernel_rfl)).trans (F16_lrlrr_j k)
theorem r16_8 {β : Type} {inv : Inv} {k : Nat} {x0 x1 x5 x14 : Value} {h : AH} {K : XE → Act → AH → Option β} : kCode env 16 false inv k (cl (cr (cr (cr c16)))) (act 26 [(0, x0), (1, x1), (5, x5), (14, x14)]) h K =
    K .normal (act 26 [(4, (Go.Value.bool true))]) h := (k_reg (by kernel_rfl)).trans (by kernel_rfl)
/-- shadowbook/shadowbookkit.Same[byte] -/
noncomputable def F16 (inv : Inv) (k : Nat) (x0 x1 : Value) (h : AH) : Option (Value × AH) :=
    bnd (pLen Try.prog #[25] x0 h) fun x7 =>
    bnd (pLen Try.prog #[25] x1 h) fun x9 =>
    bnd (pBin Try.prog Go.BinOp.neq 3 (Go.Operand.tmp 7) (Go.Operand.tmp 9) x7 x9) fun x10 =>
    brV x10
    (some ((Go.Value.bool false), h))
    (F16_lrlrr inv k k x0 x1 (Go.Value.int Go.IntKind.i64 0) h
    (fun y0 y1 y5 y14 h =>
    some ((Go.Value.bool true), h))
    (fun y4 h_1 =>
    some (y4, h_1)))
theorem F16_eq {inv : Inv} {k : Nat} {x0 x1 : Value} {h : AH} : eFun env k inv 16 #[x0, x1] h = F16 inv k x0 x1 h := by
      refine (eFun_k2 (by kernel_rfl) (by kernel_rfl) (by kernel_rfl) (a := act 26 [(0, x0), (1, x1)]) (c := c16) (by kernel_rfl) (by kernel_rfl)).trans ?_
      unfold F16
      simp only [k_seq (E := env) (f := 16) (c := c16) (by kernel_rfl), r16_0, k_seq (E := env) (f := 16) (c := (cr c16)) (by kernel_rfl), k_seq (E := env) (f := 16) (c := (cl (cr c16))) (by kernel_rfl), r16_1, b16_rlr, k_seq (E := env) (f := 16) (c := (cl (cr (cl (cr c16))))) (by kernel_rfl), r16_2, k_ret (E := env) (f := 16) (c := (cr (cl (cr (cl (cr c16)))))) (by kernel_rfl), res16_0, k_skip (E := env) (f := 16) (c := (cr (cr (cl (cr c16))))) (by kernel_rfl), k_seq (E := env) (f := 16) (c := (cr (cr c16))) (by kernel_rfl), k_seq (E := env) (f := 16) (c := (cl (cr (cr c16)))) (by kernel_rfl), r16_3, k_block (E := env) (f := 16) (c := (cr (cl (cr (cr c16))))) (id := 0) (by kernel_rfl), F16_lrlrr_eq, k_seq (E := env) (f := 16) (c := (cr (cr (cr c16)))) (by kernel_rfl), r16_8, k_ret (E := env) (f := 16) (c := (cr (cr (cr (cr c16))))) (by kernel_rfl), reduceIte, reduceCtorEq, XE.exit.injEq, Nat.reduceEqDiff] <;> kernel_rfl
theorem F16_call {k : Nat} {x0 x1 : Value} {h : AH} : eInv env (k + 1) (.func 16) #[] #[x0, x1] h = F16 (eInv env k) k x0 x1 h := (inv_func (by kernel_rfl)).trans F16_eq
noncomputable def c17 : Code := codeOf Try.prog 17
theorem r17_0 {β : Type} {inv : Inv} {k : Nat} {x0 x1 : Value} {h : AH} {K : XE → Act → AH → Option β} : kCode env 17 false inv k (cl c17) (act 23 [(0, x0), (1, x1)]) h K =
    K .normal (act 23 [(0, x0), (1, x1)]) h := (k_reg (by kernel_rfl)).trans (by kernel_rfl)
theorem r17_1 {β : Type} {inv : Inv} {k : Nat} {x0 x1 : Value} {h : AH} {K : XE → Act → AH → Option β} : kCode env 17 false inv k (cl (cl (cl (cr c17)))) (act 23 [(0, x0), (1, x1)]) h K =
    bnd (pBin Try.prog Go.BinOp.eql 32 (Go.Operand.tmp 9) (Go.Operand.const (Go.Value.pointer none)) x0 (Go.Value.pointer none)) fun x10 =>
    K .normal (act 23 [(0, x0), (1, x1), (8, x10)]) h := (k_reg (by kernel_rfl)).trans (by kernel_rfl)
theorem b17_rllr {β : Type} {inv : Inv} {k : Nat} {x0 x1 x8 : Value} {h : AH} {K : XE → Act → AH → Option β} : kCode env 17 false inv k (cr (cl (cl (cr c17)))) (act 23 [(0, x0), (1, x1), (8, x8)]) h K = brV x8 (kCode env 17 false inv k (cl (cr (cl (cl (cr c17))))) (act 23 [(0, x0), (1, x1), (8, x8)]) h K) (kCode env 17 false inv k (cr (cr (cl (cl (cr c17))))) (act 23 [(0, x0), (1, x1), (8, x8)]) h K) := (k_cond (by kernel_rfl)).trans (by kernel_rfl)
theorem r17_2 {β : Type} {inv : Inv} {k : Nat} {x0 x1 x8 : Value} {h : AH} {K : XE → Act → AH → Option β} : kCode env 17 false inv k (cl (cl (cr (cl (cl (cr c17)))))) (act 23 [(0, x0), (1, x1), (8, x8)]) h K =
    K .normal (act 23 [(4, (Go.Value.slice none 0 0)), (5, (Go.Value.int Go.IntKind.i64 1))]) h := (k_reg (by kernel_rfl)).trans (by kernel_rfl)
theorem res17_0 {x4 x5 : Value} {h : AH} : resOfFn env.P 17 .ret (act 23 [(4, x4), (5, x5)]) h = some (.tuple #[x4, x5], h) := (resOfFn_k (by kernel_rfl) (by kernel_rfl)).trans (by kernel_rfl)
theorem r17_3 {β : Type} {inv : Inv} {k : Nat} {x0 x1 x8 : Value} {h : AH} {K : XE → Act → AH → Option β} : kCode env 17 false inv k (cl (cr (cr (cl (cl (cr c17)))))) (act 23 [(0, x0), (1, x1), (8, x8)]) h K =
    bnd (pBin Try.prog Go.BinOp.lss 3 (Go.Operand.tmp 12) (Go.Operand.const (Go.Value.int Go.IntKind.i64 0)) x1 (Go.Value.int Go.IntKind.i64 0)) fun x13 =>
    K .normal (act 23 [(0, x0), (1, x1), (11, x13)]) h := (k_reg (by kernel_rfl)).trans (by kernel_rfl)
theorem b17_rrrllr {β : Type} {inv : Inv} {k : Nat} {x0 x1 x11 : Value} {h : AH} {K : XE → Act → AH → Option β} : kCode env 17 false inv k (cr (cr (cr (cl (cl (cr c17)))))) (act 23 [(0, x0), (1, x1), (11, x11)]) h K = brV x11 (kCode env 17 false inv k (cl (cr (cr (cr (cl (cl (cr c17))))))) (act 23 [(0, x0), (1, x1), (11, x11)]) h K) (kCode env 17 false inv k (cr (cr (cr (cr (cl (cl (cr c17))))))) (act 23 [(0, x0), (1, x1), (11, x11)]) h K) := (k_cond (by kernel_rfl)).trans (by kernel_rfl)
theorem r17_4 {β : Type} {inv : Inv} {k : Nat} {x0 x1 x11 : Value} {h : AH} {K : XE → Act → AH → Option β} : kCode env 17 false inv k (cl (cl (cr (cr (cr (cl (cl (cr c17)))))))) (act 23 [(0, x0), (1, x1), (11, x11)]) h K =
    K .normal (act 23 [(4, (Go.Value.slice none 0 0)), (5, (Go.Value.int Go.IntKind.i64 2))]) h := (k_reg (by kernel_rfl)).trans (by kernel_rfl)
theorem r17_5 {β : Type} {inv : Inv} {k : Nat} {x0 x1 x11 : Value} {h : AH} {K : XE → Act → AH → Option β} : kCode env 17 false inv k (cl (cr (cr c17))) (act 23 [(0, x0), (1, x1), (11, x11)]) h K =
    bnd (inv (.func 22) #[] #[x0, x1] h) fun x17 =>
    bnd (pExtract x17.1 0) fun x18 =>
    bnd (pExtract x17.1 1) fun x19 =>
    K .normal (act 23 [(6, x18), (7, x19)]) x17.2 := (k_reg (by kernel_rfl)).trans (by kernel_rfl)
theorem r17_6 {β : Type} {inv : Inv} {k : Nat} {x6 x7 : Value} {h : AH} {K : XE → Act → AH → Option β} : kCode env 17 false inv k (cl (cr (cr (cr c17)))) (act 23 [(6, x6), (7, x7)]) h K =
    bnd (inv (.func 20) #[] #[x6] h) fun x21 =>
    K .normal (act 23 [(4, x21.1), (5, x7)]) x21.2 := (k_reg (by kernel_rfl)).trans (by kernel_rfl)
/-- (*shadowbook/octet.Reader).Bytes -/
noncomputable def F17 (inv : Inv) (k : Nat) (x0 x1 : Value) (h : AH) : Option (Value × AH) :=
    bnd (pBin Try.prog Go.BinOp.eql 32 (Go.Operand.tmp 9) (Go.Operand.const (Go.Value.pointer none)) x0 (Go.Value.pointer none)) fun x10 =>
    brV x10
    (some (.tuple #[(Go.Value.slice none 0 0), (Go.Value.int Go.IntKind.i64 1)], h))
    (bnd (pBin Try.prog Go.BinOp.lss 3 (Go.Operand.tmp 12) (Go.Operand.const (Go.Value.int Go.IntKind.i64 0)) x1 (Go.Value.int Go.IntKind.i64 0)) fun x13 =>
    brV x13
    (some (.tuple #[(Go.Value.slice none 0 0), (Go.Value.int Go.IntKind.i64 2)], h))
    (bnd (inv (.func 22) #[] #[x0, x1] h) fun x17 =>
    bnd (pExtract x17.1 0) fun x18 =>
    bnd (pExtract x17.1 1) fun x19 =>
    bnd (inv (.func 20) #[] #[x18] x17.2) fun x21 =>
    some (.tuple #[x21.1, x19], x21.2)))
theorem F17_eq {inv : Inv} {k : Nat} {x0 x1 : Value} {h : AH} : eFun env k inv 17 #[x0, x1] h = F17 inv k x0 x1 h := by
      refine (eFun_k2 (by kernel_rfl) (by kernel_rfl) (by kernel_rfl) (a := act 23 [(0, x0), (1, x1)]) (c := c17) (by kernel_rfl) (by kernel_rfl)).trans ?_
      unfold F17
      simp only [k_seq (E := env) (f := 17) (c := c17) (by kernel_rfl), r17_0, k_seq (E := env) (f := 17) (c := (cr c17)) (by kernel_rfl), k_block (E := env) (f := 17) (c := (cl (cr c17))) (id := 0) (by kernel_rfl), k_seq (E := env) (f := 17) (c := (cl (cl (cr c17)))) (by kernel_rfl), r17_1, b17_rllr, k_seq (E := env) (f := 17) (c := (cl (cr (cl (cl (cr c17)))))) (by kernel_rfl), r17_2, k_ret (E := env) (f := 17) (c := (cr (cl (cr (cl (cl (cr c17))))))) (by kernel_rfl), res17_0, k_seq (E := env) (f := 17) (c := (cr (cr (cl (cl (cr c17)))))) (by kernel_rfl), r17_3, b17_rrrllr, k_seq (E := env) (f := 17) (c := (cl (cr (cr (cr (cl (cl (cr c17)))))))) (by kernel_rfl), r17_4, k_ret (E := env) (f := 17) (c := (cr (cl (cr (cr (cr (cl (cl (cr c17))))))))) (by kernel_rfl), k_skip (E := env) (f := 17) (c := (cr (cr (cr (cr (cl (cl (cr c17)))))))) (by kernel_rfl), k_seq (E := env) (f := 17) (c := (cr (cr c17))) (by kernel_rfl), r17_5, k_seq (E := env) (f := 17) (c := (cr (cr (cr c17)))) (by kernel_rfl), r17_6, k_ret (E := env) (f := 17) (c := (cr (cr (cr (cr c17))))) (by kernel_rfl), reduceIte, reduceCtorEq, XE.exit.injEq, Nat.reduceEqDiff] <;> kernel_rfl
theorem F17_call {k : Nat} {x0 x1 : Value} {h : AH} : eInv env (k + 1) (.func 17) #[] #[x0, x1] h = F17 (eInv env k) k x0 x1 h := (inv_func (by kernel_rfl)).trans F17_eq
noncomputable def c18 : Code := codeOf Try.prog 18
theorem r18_0 {β : Type} {inv : Inv} {k : Nat} {x0 : Value} {h : AH} {K : XE → Act → AH → Option β} : kCode env 18 false inv k (cl c18) (act 6 [(0, x0)]) h K =
    K .normal (act 6 [(0, x0)]) h := (k_reg (by kernel_rfl)).trans (by kernel_rfl)
theorem r18_1 {β : Type} {inv : Inv} {k : Nat} {x0 : Value} {h : AH} {K : XE → Act → AH → Option β} : kCode env 18 false inv k (cl (cr c18)) (act 6 [(0, x0)]) h K =
    bnd (pBuildSlice Try.prog 25 0 #[] h) fun x3 =>
    bnd (pAppend Try.prog #[25, 25] x3.1 x0 x3.2) fun x5 =>
    K .normal (act 6 [(2, x5.1)]) x5.2 := (k_reg (by kernel_rfl)).trans (by kernel_rfl)
theorem res18_0 {x2 : Value} {h : AH} : resOfFn env.P 18 .ret (act 6 [(2, x2)]) h = some (x2, h) := (resOfFn_k (by kernel_rfl) (by kernel_rfl)).trans (by kernel_rfl)
/-- shadowbook/shadowbookkit.Own[byte] -/
noncomputable def F18 (inv : Inv) (k : Nat) (x0 : Value) (h : AH) : Option (Value × AH) :=
    bnd (pBuildSlice Try.prog 25 0 #[] h) fun x3 =>
    bnd (pAppend Try.prog #[25, 25] x3.1 x0 x3.2) fun x5 =>
    some (x5.1, x5.2)
theorem F18_eq {inv : Inv} {k : Nat} {x0 : Value} {h : AH} : eFun env k inv 18 #[x0] h = F18 inv k x0 h := by
      refine (eFun_k2 (by kernel_rfl) (by kernel_rfl) (by kernel_rfl) (a := act 6 [(0, x0)]) (c := c18) (by kernel_rfl) (by kernel_rfl)).trans ?_
      unfold F18
      simp only [k_seq (E := env) (f := 18) (c := c18) (by kernel_rfl), r18_0, k_seq (E := env) (f := 18) (c := (cr c18)) (by kernel_rfl), r18_1, k_ret (E := env) (f := 18) (c := (cr (cr c18))) (by kernel_rfl), res18_0, reduceIte, reduceCtorEq, XE.exit.injEq, Nat.reduceEqDiff] <;> kernel_rfl
theorem F18_call {k : Nat} {x0 : Value} {h : AH} : eInv env (k + 1) (.func 18) #[] #[x0] h = F18 (eInv env k) k x0 h := (inv_func (by kernel_rfl)).trans F18_eq
noncomputable def c19 : Code := codeOf Try.prog 19
theorem r19_0 {β : Type} {inv : Inv} {k : Nat} {x0 : Value} {h : AH} {K : XE → Act → AH → Option β} : kCode env 19 false inv k (cl c19) (act 18 [(0, x0)]) h K =
    bnd (pAlloc Try.prog 23 h) fun x2 =>
    K .normal (act 18 [(0, x0), (2, x2.1)]) x2.2 := (k_reg (by kernel_rfl)).trans (by kernel_rfl)
theorem r19_1 {β : Type} {inv : Inv} {k : Nat} {x0 x2 : Value} {h : AH} {K : XE → Act → AH → Option β} : kCode env 19 false inv k (cl (cl (cr c19))) (act 18 [(0, x0), (2, x2)]) h K =
    bnd (pLen Try.prog #[25] x0 h) fun x6 =>
    bnd (pBin Try.prog Go.BinOp.gtr 3 (Go.Operand.tmp 6) (Go.Operand.const (Go.Value.int Go.IntKind.i64 8)) x6 (Go.Value.int Go.IntKind.i64 8)) fun x7 =>
    K .normal (act 18 [(0, x0), (2, x2), (7, x7)]) h := (k_reg (by kernel_rfl)).trans (by kernel_rfl)
theorem b19_rlr {β : Type} {inv : Inv} {k : Nat} {x0 x2 x7 : Value} {h : AH} {K : XE → Act → AH → Option β} : kCode env 19 false inv k (cr (cl (cr c19))) (act 18 [(0, x0), (2, x2), (7, x7)]) h K = brV x7 (kCode env 19 false inv k (cl (cr (cl (cr c19)))) (act 18 [(0, x0), (2, x2), (7, x7)]) h K) (kCode env 19 false inv k (cr (cr (cl (cr c19)))) (act 18 [(0, x0), (2, x2), (7, x7)]) h K) := (k_cond (by kernel_rfl)).trans (by kernel_rfl)
theorem r19_2 {β : Type} {inv : Inv} {k : Nat} {x0 x2 x7 : Value} {h : AH} {K : XE → Act → AH → Option β} : kCode env 19 false inv k (cl (cl (cr (cl (cr c19))))) (act 18 [(0, x0), (2, x2), (7, x7)]) h K =
    bnd (kSt (pStore Try.prog 23 x2 (Go.Value.int Go.IntKind.u64 0) h)) fun u =>
    K .normal (act 18 [(2, x2)]) u.2 := (k_reg (by kernel_rfl)).trans (by kernel_rfl)
theorem res19_0 {x2 : Value} {h : AH} : resOfFn env.P 19 .ret (act 18 [(2, x2)]) h = bnd (pLoad Try.prog 23 x2 h) fun q0 =>
    some (q0, h) := (resOfFn_k (by kernel_rfl) (by kernel_rfl)).trans (by kernel_rfl)
theorem r19_3 {β : Type} {inv : Inv} {k : Nat} {x0 x2 x7 : Value} {h : AH} {K : XE → Act → AH → Option β} : kCode env 19 false inv k (cl (cl (cr (cr c19)))) (act 18 [(0, x0), (2, x2), (7, x7)]) h K =
    bnd (inv (.func 23) #[] #[x0] h) fun x9 =>
    K .normal (act 18 [(2, x2), (9, x9.1)]) x9.2 := (k_reg (by kernel_rfl)).trans (by kernel_rfl)
theorem g19_lrlrr {β : Type} {inv : Inv} {k : Nat} {x2 x9 : Value} {h : AH} {K : XE → Act → AH → Option β} : kCode env 19 false inv k (cl (cr (cl (cr (cr c19))))) (act 18 [(2, x2), (9, x9)]) h K = kRange env 19 inv x9 (psOf (cl (cr (cl (cr (cr c19)))))) (cl (cl (cr (cl (cr (cr c19)))))) (cr (cl (cr (cl (cr (cr c19)))))) (act 18 [(2, x2), (9, x9)]) h fun e h => sw e (K .normal (act 18 [(2, x2), (9, x9)]) h) (none) [] := (k_range (g := x9) (ids := []) (by kernel_rfl) (by kernel_rfl) (by kernel_rfl)).trans (by kernel_rfl)
noncomputable def F19_rlrr {β : Type} (inv : Inv) (k : Nat) (x2 x9 : Value) (h : AH) (kn : (Value → Value → AH → Option β)) : Option β :=
    kRange env 19 inv x9 (psOf (cl (cr (cl (cr (cr c19)))))) (cl (cl (cr (cl (cr (cr c19)))))) (cr (cl (cr (cl (cr (cr c19)))))) (act 18 [(2, x2), (9, x9)]) h fun e h => sw e
    (kn x2 x9 h)
    none []
theorem F19_rlrr_eq {β : Type} {inv : Inv} {k : Nat} {x2 x9 : Value} {h : AH} {K : XE → Act → AH → Option β} : kCode env 19 false inv k (cr (cl (cr (cr c19)))) (act 18 [(2, x2), (9, x9)]) h K = F19_rlrr inv k x2 x9 h (fun y2 y9 h => K .normal (act 18 [(2, y2), (9, y9)]) h) := by
      unfold F19_rlrr
      simp only [k_block (E := env) (f := 19) (c := (cr (cl (cr (cr c19))))) (id := 0) (by kernel_rfl), g19_lrlrr, reduceIte, reduceCtorEq, XE.exit.injEq, Nat.reduceEqDiff] <;> kernel_rfl
theorem r19_6 {β : Type} {inv : Inv} {k : Nat} {x2 x9 : Value} {h : AH} {K : XE → Act → AH → Option β} : kCode env 19 false inv k (cl (cr (cr (cr c19)))) (act 18 [(2, x2), (9, x9)]) h K =
    bnd (pLoad Try.prog 23 x2 h) fun x17 =>
    bnd (kSt (pStore Try.prog 23 x2 x17 h)) fun u =>
    K .normal (act 18 [(2, x2)]) u.2 := (k_reg (by kernel_rfl)).trans (by kernel_rfl)
/-- shadowbook/octet.Of -/
noncomputable def F19 (inv : Inv) (k : Nat) (x0 : Value) (h : AH) : Option (Value × AH) :=
    bnd (pAlloc Try.prog 23 h) fun x2 =>
    bnd (pLen Try.prog #[25] x0 x2.2) fun x6 =>
    bnd (pBin Try.prog Go.BinOp.gtr 3 (Go.Operand.tmp 6) (Go.Operand.const (Go.Value.int Go.IntKind.i64 8)) x6 (Go.Value.int Go.IntKind.i64 8)) fun x7 =>
    brV x7
    (bnd (kSt (pStore Try.prog 23 x2.1 (Go.Value.int Go.IntKind.u64 0) x2.2)) fun u =>
    bnd (pLoad Try.prog 23 x2.1 u.2) fun q0 =>
    some (q0, u.2))
    (bnd (inv (.func 23) #[] #[x0] x2.2) fun x9 =>
    F19_rlrr inv k x2.1 x9.1 x9.2
    (fun y2 y9 h =>
    bnd (pLoad Try.prog 23 y2 h) fun x17 =>
    bnd (kSt (pStore Try.prog 23 y2 x17 h)) fun u_1 =>
    bnd (pLoad Try.prog 23 y2 u_1.2) fun q0 =>
    some (q0, u_1.2)))
theorem F19_eq {inv : Inv} {k : Nat} {x0 : Value} {h : AH} : eFun env k inv 19 #[x0] h = F19 inv k x0 h := by
      refine (eFun_k2 (by kernel_rfl) (by kernel_rfl) (by kernel_rfl) (a := act 18 [(0, x0)]) (c := c19) (by kernel_rfl) (by kernel_rfl)).trans ?_
      unfold F19
      simp only [k_seq (E := env) (f := 19) (c := c19) (by kernel_rfl), r19_0, k_seq (E := env) (f := 19) (c := (cr c19)) (by kernel_rfl), k_seq (E := env) (f := 19) (c := (cl (cr c19))) (by kernel_rfl), r19_1, b19_rlr, k_seq (E := env) (f := 19) (c := (cl (cr (cl (cr c19))))) (by kernel_rfl), r19_2, k_ret (E := env) (f := 19) (c := (cr (cl (cr (cl (cr c19)))))) (by kernel_rfl), res19_0, k_skip (E := env) (f := 19) (c := (cr (cr (cl (cr c19))))) (by kernel_rfl), k_seq (E := env) (f := 19) (c := (cr (cr c19))) (by kernel_rfl), k_seq (E := env) (f := 19) (c := (cl (cr (cr c19)))) (by kernel_rfl), r19_3, F19_rlrr_eq, k_seq (E := env) (f := 19) (c := (cr (cr (cr c19)))) (by kernel_rfl), r19_6, k_ret (E := env) (f := 19) (c := (cr (cr (cr (cr c19))))) (by kernel_rfl), reduceIte, reduceCtorEq, XE.exit.injEq, Nat.reduceEqDiff] <;> kernel_rfl
theorem F19_call {k : Nat} {x0 : Value} {h : AH} : eInv env (k + 1) (.func 19) #[] #[x0] h = F19 (eInv env k) k x0 h := (inv_func (by kernel_rfl)).trans F19_eq
theorem r19_4 {β : Type} {inv : Inv} {k : Nat} {x2 x9 x10 x11 : Value} {h : AH} {K : XE → Act → AH → Option β} : kCode env 19 true inv k (cl (cl (cr (cl (cr (cr c19)))))) (act 18 [(2, x2), (9, x9), (10, x10), (11, x11)]) h K =
    K .normal (act 18 [(2, x2), (4, x11)]) h := (k_reg (by kernel_rfl)).trans (by kernel_rfl)
theorem r19_5 {β : Type} {inv : Inv} {k : Nat} {x2 x4 : Value} {h : AH} {K : XE → Act → AH → Option β} : kCode env 19 true inv k (cl (cr (cl (cr (cl (cr (cr c19))))))) (act 18 [(2, x2), (4, x4)]) h K =
    bnd (pLoad Try.prog 23 x2 h) fun x12 =>
    bnd (pBin Try.prog Go.BinOp.shl 23 (Go.Operand.tmp 12) (Go.Operand.const (Go.Value.int Go.IntKind.u64 8)) x12 (Go.Value.int Go.IntKind.u64 8)) fun x13 =>
    bnd (pConv Try.prog 5 23 x4 h) fun x15 =>
    bnd (pBin Try.prog Go.BinOp.or 23 (Go.Operand.tmp 13) (Go.Operand.tmp 15) x13 x15) fun x16 =>
    bnd (kSt (pStore Try.prog 23 x2 x16 h)) fun u =>
    K .normal (act 18 []) u.2 := (k_reg (by kernel_rfl)).trans (by kernel_rfl)
noncomputable def R19_lrlrr (inv : Inv) (k l : Nat) (x2 x9 z0 z1 : Value) (h : AH) : Option (Value × AH) :=
    rdBegin l h fun h =>
    bnd (pLoad Try.prog 23 x2 h) fun x12 =>
    bnd (pBin Try.prog Go.BinOp.shl 23 (Go.Operand.tmp 12) (Go.Operand.const (Go.Value.int Go.IntKind.u64 8)) x12 (Go.Value.int Go.IntKind.u64 8)) fun x13 =>
    bnd (pConv Try.prog 5 23 z1 h) fun x15 =>
    bnd (pBin Try.prog Go.BinOp.or 23 (Go.Operand.tmp 13) (Go.Operand.tmp 15) x13 x15) fun x16 =>
    bnd (kSt (pStore Try.prog 23 x2 x16 h)) fun u =>
    rdEnd l .normal u.2
theorem R19_lrlrr_eq {inv : Inv} {k l : Nat} {pd : Option Code} {x2 x9 z0 z1 : Value} {h : AH} (hl : h.get l = some (.loop .ready pd 19 (act 18 [(2, x2), (9, x9)]).tmps (psOf (cl (cr (cl (cr (cr c19)))))) (cl (cl (cr (cl (cr (cr c19)))))) (cr (cl (cr (cl (cr (cr c19)))))))) : eRound env k inv l #[z0, z1] h = R19_lrlrr inv k l x2 x9 z0 z1 h := by
      refine (eRound_k (a := act 18 [(2, x2), (9, x9), (10, z0), (11, z1)]) hl (by kernel_rfl) (by kernel_rfl)).trans ?_
      unfold R19_lrlrr
      simp only [r19_4, k_block (E := env) (f := 19) (c := (cr (cl (cr (cl (cr (cr c19))))))) (id := 1) (by kernel_rfl), r19_5, reduceIte, reduceCtorEq, XE.exit.injEq, Nat.reduceEqDiff] <;> kernel_rfl
noncomputable def c20 : Code := codeOf Try.prog 20
theorem r20_0 {β : Type} {inv : Inv} {k : Nat} {x0 : Value} {h : AH} {K : XE → Act → AH → Option β} : kCode env 20 false inv k (cl c20) (act 8 [(0, x0)]) h K =
    K .normal (act 8 [(0, x0)]) h := (k_reg (by kernel_rfl)).trans (by kernel_rfl)
theorem r20_1 {β : Type} {inv : Inv} {k : Nat} {x0 : Value} {h : AH} {K : XE → Act → AH → Option β} : kCode env 20 false inv k (cl (cl (cr c20))) (act 8 [(0, x0)]) h K =
    bnd (pBin Try.prog Go.BinOp.eql 25 (Go.Operand.tmp 3) (Go.Operand.const (Go.Value.slice none 0 0)) x0 (Go.Value.slice none 0 0)) fun x4 =>
    K .normal (act 8 [(0, x0), (4, x4)]) h := (k_reg (by kernel_rfl)).trans (by kernel_rfl)
theorem b20_rlr {β : Type} {inv : Inv} {k : Nat} {x0 x4 : Value} {h : AH} {K : XE → Act → AH → Option β} : kCode env 20 false inv k (cr (cl (cr c20))) (act 8 [(0, x0), (4, x4)]) h K = brV x4 (kCode env 20 false inv k (cl (cr (cl (cr c20)))) (act 8 [(0, x0), (4, x4)]) h K) (kCode env 20 false inv k (cr (cr (cl (cr c20)))) (act 8 [(0, x0), (4, x4)]) h K) := (k_cond (by kernel_rfl)).trans (by kernel_rfl)
theorem r20_2 {β : Type} {inv : Inv} {k : Nat} {x0 x4 : Value} {h : AH} {K : XE → Act → AH → Option β} : kCode env 20 false inv k (cl (cl (cr (cl (cr c20))))) (act 8 [(0, x0), (4, x4)]) h K =
    K .normal (act 8 [(2, (Go.Value.slice none 0 0))]) h := (k_reg (by kernel_rfl)).trans (by kernel_rfl)
theorem res20_0 {x2 : Value} {h : AH} : resOfFn env.P 20 .ret (act 8 [(2, x2)]) h = some (x2, h) := (resOfFn_k (by kernel_rfl) (by kernel_rfl)).trans (by kernel_rfl)
theorem r20_3 {β : Type} {inv : Inv} {k : Nat} {x0 x4 : Value} {h : AH} {K : XE → Act → AH → Option β} : kCode env 20 false inv k (cl (cr (cr c20))) (act 8 [(0, x0), (4, x4)]) h K =
    bnd (pBuildSlice Try.prog 25 0 #[] h) fun x5 =>
    bnd (pAppend Try.prog #[25, 25] x5.1 x0 x5.2) fun x7 =>
    K .normal (act 8 [(2, x7.1)]) x7.2 := (k_reg (by kernel_rfl)).trans (by kernel_rfl)
/-- slices.Clone[[]byte,byte] -/
noncomputable def F20 (inv : Inv) (k : Nat) (x0 : Value) (h : AH) : Option (Value × AH) :=
    bnd (pBin Try.prog Go.BinOp.eql 25 (Go.Operand.tmp 3) (Go.Operand.const (Go.Value.slice none 0 0)) x0 (Go.Value.slice none 0 0)) fun x4 =>
    brV x4
    (some ((Go.Value.slice none 0 0), h))
    (bnd (pBuildSlice Try.prog 25 0 #[] h) fun x5 =>
    bnd (pAppend Try.prog #[25, 25] x5.1 x0 x5.2) fun x7 =>
    some (x7.1, x7.2))
theorem F20_eq {inv : Inv} {k : Nat} {x0 : Value} {h : AH} : eFun env k inv 20 #[x0] h = F20 inv k x0 h := by
      refine (eFun_k2 (by kernel_rfl) (by kernel_rfl) (by kernel_rfl) (a := act 8 [(0, x0)]) (c := c20) (by kernel_rfl) (by kernel_rfl)).trans ?_
      unfold F20
      simp only [k_seq (E := env) (f := 20) (c := c20) (by kernel_rfl), r20_0, k_seq (E := env) (f := 20) (c := (cr c20)) (by kernel_rfl), k_seq (E := env) (f := 20) (c := (cl (cr c20))) (by kernel_rfl), r20_1, b20_rlr, k_seq (E := env) (f := 20) (c := (cl (cr (cl (cr c20))))) (by kernel_rfl), r20_2, k_ret (E := env) (f := 20) (c := (cr (cl (cr (cl (cr c20)))))) (by kernel_rfl), res20_0, k_skip (E := env) (f := 20) (c := (cr (cr (cl (cr c20))))) (by kernel_rfl), k_seq (E := env) (f := 20) (c := (cr (cr c20))) (by kernel_rfl), r20_3, k_ret (E := env) (f := 20) (c := (cr (cr (cr c20)))) (by kernel_rfl), reduceIte, reduceCtorEq, XE.exit.injEq, Nat.reduceEqDiff] <;> kernel_rfl
theorem F20_call {k : Nat} {x0 : Value} {h : AH} : eInv env (k + 1) (.func 20) #[] #[x0] h = F20 (eInv env k) k x0 h := (inv_func (by kernel_rfl)).trans F20_eq
noncomputable def c21 : Code := codeOf Try.prog 21
theorem r21_0 {β : Type} {inv : Inv} {k : Nat} {x0 : Value} {h : AH} {K : XE → Act → AH → Option β} : kCode env 21 false inv k (cl c21) (act 15 [(0, x0)]) h K =
    K .normal (act 15 [(0, x0)]) h := (k_reg (by kernel_rfl)).trans (by kernel_rfl)
theorem r21_1 {β : Type} {inv : Inv} {k : Nat} {x0 : Value} {h : AH} {K : XE → Act → AH → Option β} : kCode env 21 false inv k (cl (cl (cr c21))) (act 15 [(0, x0)]) h K =
    bnd (pNilCheck x0) fun x4 =>
    bnd (pFieldAddr Try.prog 47 x4 0) fun x5 =>
    bnd (pLoad Try.prog 25 x5 h) fun x6 =>
    bnd (pLen Try.prog #[25] x6 h) fun x7 =>
    bnd (pBin Try.prog Go.BinOp.geq 3 (Go.Operand.tmp 7) (Go.Operand.const (Go.Value.int Go.IntKind.i64 10)) x7 (Go.Value.int Go.IntKind.i64 10)) fun x8 =>
    K .normal (act 15 [(0, x0), (8, x8)]) h := (k_reg (by kernel_rfl)).trans (by kernel_rfl)
theorem b21_rlr {β : Type} {inv : Inv} {k : Nat} {x0 x8 : Value} {h : AH} {K : XE → Act → AH → Option β} : kCode env 21 false inv k (cr (cl (cr c21))) (act 15 [(0, x0), (8, x8)]) h K = brV x8 (kCode env 21 false inv k (cl (cr (cl (cr c21)))) (act 15 [(0, x0), (8, x8)]) h K) (kCode env 21 false inv k (cr (cr (cl (cr c21)))) (act 15 [(0, x0), (8, x8)]) h K) := (k_cond (by kernel_rfl)).trans (by kernel_rfl)
theorem r21_2 {β : Type} {inv : Inv} {k : Nat} {x0 x8 : Value} {h : AH} {K : XE → Act → AH → Option β} : kCode env 21 false inv k (cl (cl (cr (cl (cr c21))))) (act 15 [(0, x0), (8, x8)]) h K =
    K .normal (act 15 [(2, (Go.Value.bool false))]) h := (k_reg (by kernel_rfl)).trans (by kernel_rfl)
theorem res21_0 {x2 : Value} {h : AH} : resOfFn env.P 21 .ret (act 15 [(2, x2)]) h = some (x2, h) := (resOfFn_k (by kernel_rfl) (by kernel_rfl)).trans (by kernel_rfl)
theorem r21_3 {β : Type} {inv : Inv} {k : Nat} {x0 x8 : Value} {h : AH} {K : XE → Act → AH → Option β} : kCode env 21 false inv k (cl (cr (cr c21))) (act 15 [(0, x0), (8, x8)]) h K =
    bnd (pNilCheck x0) fun x10 =>
    bnd (pFieldAddr Try.prog 47 x10 0) fun x11 =>
    bnd (pLoad Try.prog 25 x11 h) fun x12 =>
    bnd (inv (.func 24) #[] #[x12, (.func (.func 25) #[] #[])] h) fun x13 =>
    bnd (pUn Try.prog Go.UnOp.not x13.1) fun x14 =>
    K .normal (act 15 [(2, x14)]) x13.2 := (k_reg (by kernel_rfl)).trans (by kernel_rfl)
/-- (*shadowbook/octet.Reader).ends -/
noncomputable def F21 (inv : Inv) (k : Nat) (x0 : Value) (h : AH) : Option (Value × AH) :=
    bnd (pNilCheck x0) fun x4 =>
    bnd (pFieldAddr Try.prog 47 x4 0) fun x5 =>
    bnd (pLoad Try.prog 25 x5 h) fun x6 =>
    bnd (pLen Try.prog #[25] x6 h) fun x7 =>
    bnd (pBin Try.prog Go.BinOp.geq 3 (Go.Operand.tmp 7) (Go.Operand.const (Go.Value.int Go.IntKind.i64 10)) x7 (Go.Value.int Go.IntKind.i64 10)) fun x8 =>
    brV x8
    (some ((Go.Value.bool false), h))
    (bnd (pNilCheck x0) fun x10 =>
    bnd (pFieldAddr Try.prog 47 x10 0) fun x11 =>
    bnd (pLoad Try.prog 25 x11 h) fun x12 =>
    bnd (inv (.func 24) #[] #[x12, (.func (.func 25) #[] #[])] h) fun x13 =>
    bnd (pUn Try.prog Go.UnOp.not x13.1) fun x14 =>
    some (x14, x13.2))
theorem F21_eq {inv : Inv} {k : Nat} {x0 : Value} {h : AH} : eFun env k inv 21 #[x0] h = F21 inv k x0 h := by
      refine (eFun_k2 (by kernel_rfl) (by kernel_rfl) (by kernel_rfl) (a := act 15 [(0, x0)]) (c := c21) (by kernel_rfl) (by kernel_rfl)).trans ?_
      unfold F21
      simp only [k_seq (E := env) (f := 21) (c := c21) (by kernel_rfl), r21_0, k_seq (E := env) (f := 21) (c := (cr c21)) (by kernel_rfl), k_seq (E := env) (f := 21) (c := (cl (cr c21))) (by kernel_rfl), r21_1, b21_rlr, k_seq (E := env) (f := 21) (c := (cl (cr (cl (cr c21))))) (by kernel_rfl), r21_2, k_ret (E := env) (f := 21) (c := (cr (cl (cr (cl (cr c21)))))) (by kernel_rfl), res21_0, k_skip (E := env) (f := 21) (c := (cr (cr (cl (cr c21))))) (by kernel_rfl), k_seq (E := env) (f := 21) (c := (cr (cr c21))) (by kernel_rfl), r21_3, k_ret (E := env) (f := 21) (c := (cr (cr (cr c21)))) (by kernel_rfl), reduceIte, reduceCtorEq, XE.exit.injEq, Nat.reduceEqDiff] <;> kernel_rfl
theorem F21_call {k : Nat} {x0 : Value} {h : AH} : eInv env (k + 1) (.func 21) #[] #[x0] h = F21 (eInv env k) k x0 h := (inv_func (by kernel_rfl)).trans F21_eq
noncomputable def c22 : Code := codeOf Try.prog 22
theorem r22_0 {β : Type} {inv : Inv} {k : Nat} {x0 x1 : Value} {h : AH} {K : XE → Act → AH → Option β} : kCode env 22 false inv k (cl c22) (act 31 [(0, x0), (1, x1)]) h K =
    K .normal (act 31 [(0, x0), (1, x1)]) h := (k_reg (by kernel_rfl)).trans (by kernel_rfl)
theorem r22_1 {β : Type} {inv : Inv} {k : Nat} {x0 x1 : Value} {h : AH} {K : XE → Act → AH → Option β} : kCode env 22 false inv k (cl (cl (cr c22))) (act 31 [(0, x0), (1, x1)]) h K =
    bnd (pNilCheck x0) fun x8 =>
    bnd (pFieldAddr Try.prog 47 x8 0) fun x9 =>
    bnd (pLoad Try.prog 25 x9 h) fun x10 =>
    bnd (pLen Try.prog #[25] x10 h) fun x11 =>
    bnd (pBin Try.prog Go.BinOp.lss 3 (Go.Operand.tmp 11) (Go.Operand.tmp 12) x11 x1) fun x13 =>
    K .normal (act 31 [(0, x0), (1, x1), (13, x13)]) h := (k_reg (by kernel_rfl)).trans (by kernel_rfl)
theorem b22_rlr {β : Type} {inv : Inv} {k : Nat} {x0 x1 x13 : Value} {h : AH} {K : XE → Act → AH → Option β} : kCode env 22 false inv k (cr (cl (cr c22))) (act 31 [(0, x0), (1, x1), (13, x13)]) h K = brV x13 (kCode env 22 false inv k (cl (cr (cl (cr c22)))) (act 31 [(0, x0), (1, x1), (13, x13)]) h K) (kCode env 22 false inv k (cr (cr (cl (cr c22)))) (act 31 [(0, x0), (1, x1), (13, x13)]) h K) := (k_cond (by kernel_rfl)).trans (by kernel_rfl)
theorem r22_2 {β : Type} {inv : Inv} {k : Nat} {x0 x1 x13 : Value} {h : AH} {K : XE → Act → AH → Option β} : kCode env 22 false inv k (cl (cl (cr (cl (cr c22))))) (act 31 [(0, x0), (1, x1), (13, x13)]) h K =
    K .normal (act 31 [(4, (Go.Value.slice none 0 0)), (5, (Go.Value.int Go.IntKind.i64 7))]) h := (k_reg (by kernel_rfl)).trans (by kernel_rfl)
theorem res22_0 {x4 x5 : Value} {h : AH} : resOfFn env.P 22 .ret (act 31 [(4, x4), (5, x5)]) h = some (.tuple #[x4, x5], h) := (resOfFn_k (by kernel_rfl) (by kernel_rfl)).trans (by kernel_rfl)
theorem r22_3 {β : Type} {inv : Inv} {k : Nat} {x0 x1 x13 : Value} {h : AH} {K : XE → Act → AH → Option β} : kCode env 22 false inv k (cl (cr (cr c22))) (act 31 [(0, x0), (1, x1), (13, x13)]) h K =
    bnd (pNilCheck x0) fun x15 =>
    bnd (pFieldAddr Try.prog 47 x15 0) fun x16 =>
    bnd (pLoad Try.prog 25 x16 h) fun x17 =>
    bnd (pSlice Try.prog 25 x17 none (some x1) (some x1) h) fun x20 =>
    K .normal (act 31 [(0, x0), (1, x1), (6, x20)]) h := (k_reg (by kernel_rfl)).trans (by kernel_rfl)
theorem r22_4 {β : Type} {inv : Inv} {k : Nat} {x0 x1 x6 : Value} {h : AH} {K : XE → Act → AH → Option β} : kCode env 22 false inv k (cl (cr (cr (cr c22)))) (act 31 [(0, x0), (1, x1), (6, x6)]) h K =
    bnd (pNilCheck x0) fun x23 =>
    bnd (pFieldAddr Try.prog 47 x23 0) fun x24 =>
    bnd (pLoad Try.prog 25 x24 h) fun x25 =>
    bnd (pSlice Try.prog 25 x25 (some x1) none none h) fun x27 =>
    bnd (pNilCheck x0) fun x28 =>
    bnd (pFieldAddr Try.prog 47 x28 0) fun x29 =>
    bnd (kSt (pStore Try.prog 25 x29 x27 h)) fun u =>
    K .normal (act 31 [(6, x6)]) u.2 := (k_reg (by kernel_rfl)).trans (by kernel_rfl)
theorem r22_5 {β : Type} {inv : Inv} {k : Nat} {x6 : Value} {h : AH} {K : XE → Act → AH → Option β} : kCode env 22 false inv k (cl (cr (cr (cr (cr c22))))) (act 31 [(6, x6)]) h K =
    K .normal (act 31 [(4, x6), (5, (Go.Value.int Go.IntKind.i64 0))]) h := (k_reg (by kernel_rfl)).trans (by kernel_rfl)
/-- (*shadowbook/octet.Reader).take -/
noncomputable def F22 (inv : Inv) (k : Nat) (x0 x1 : Value) (h : AH) : Option (Value × AH) :=
    bnd (pNilCheck x0) fun x8 =>
    bnd (pFieldAddr Try.prog 47 x8 0) fun x9 =>
    bnd (pLoad Try.prog 25 x9 h) fun x10 =>
    bnd (pLen Try.prog #[25] x10 h) fun x11 =>
    bnd (pBin Try.prog Go.BinOp.lss 3 (Go.Operand.tmp 11) (Go.Operand.tmp 12) x11 x1) fun x13 =>
    brV x13
    (some (.tuple #[(Go.Value.slice none 0 0), (Go.Value.int Go.IntKind.i64 7)], h))
    (bnd (pNilCheck x0) fun x15 =>
    bnd (pFieldAddr Try.prog 47 x15 0) fun x16 =>
    bnd (pLoad Try.prog 25 x16 h) fun x17 =>
    bnd (pSlice Try.prog 25 x17 none (some x1) (some x1) h) fun x20 =>
    bnd (pNilCheck x0) fun x23 =>
    bnd (pFieldAddr Try.prog 47 x23 0) fun x24 =>
    bnd (pLoad Try.prog 25 x24 h) fun x25 =>
    bnd (pSlice Try.prog 25 x25 (some x1) none none h) fun x27 =>
    bnd (pNilCheck x0) fun x28 =>
    bnd (pFieldAddr Try.prog 47 x28 0) fun x29 =>
    bnd (kSt (pStore Try.prog 25 x29 x27 h)) fun u =>
    some (.tuple #[x20, (Go.Value.int Go.IntKind.i64 0)], u.2))
theorem F22_eq {inv : Inv} {k : Nat} {x0 x1 : Value} {h : AH} : eFun env k inv 22 #[x0, x1] h = F22 inv k x0 x1 h := by
      refine (eFun_k2 (by kernel_rfl) (by kernel_rfl) (by kernel_rfl) (a := act 31 [(0, x0), (1, x1)]) (c := c22) (by kernel_rfl) (by kernel_rfl)).trans ?_
      unfold F22
      simp only [k_seq (E := env) (f := 22) (c := c22) (by kernel_rfl), r22_0, k_seq (E := env) (f := 22) (c := (cr c22)) (by kernel_rfl), k_seq (E := env) (f := 22) (c := (cl (cr c22))) (by kernel_rfl), r22_1, b22_rlr, k_seq (E := env) (f := 22) (c := (cl (cr (cl (cr c22))))) (by kernel_rfl), r22_2, k_ret (E := env) (f := 22) (c := (cr (cl (cr (cl (cr c22)))))) (by kernel_rfl), res22_0, k_skip (E := env) (f := 22) (c := (cr (cr (cl (cr c22))))) (by kernel_rfl), k_seq (E := env) (f := 22) (c := (cr (cr c22))) (by kernel_rfl), r22_3, k_seq (E := env) (f := 22) (c := (cr (cr (cr c22)))) (by kernel_rfl), r22_4, k_seq (E := env) (f := 22) (c := (cr (cr (cr (cr c22))))) (by kernel_rfl), r22_5, k_ret (E := env) (f := 22) (c := (cr (cr (cr (cr (cr c22)))))) (by kernel_rfl), reduceIte, reduceCtorEq, XE.exit.injEq, Nat.reduceEqDiff] <;> kernel_rfl
theorem F22_call {k : Nat} {x0 x1 : Value} {h : AH} : eInv env (k + 1) (.func 22) #[] #[x0, x1] h = F22 (eInv env k) k x0 x1 h := (inv_func (by kernel_rfl)).trans F22_eq
noncomputable def c23 : Code := codeOf Try.prog 23
theorem r23_0 {β : Type} {inv : Inv} {k : Nat} {x0 : Value} {h : AH} {K : XE → Act → AH → Option β} : kCode env 23 false inv k (cl c23) (act 4 [(0, x0)]) h K =
    bnd (pBox Try.prog 25 x0 h) fun x1 =>
    K .normal (act 4 [(1, x1.1)]) x1.2 := (k_reg (by kernel_rfl)).trans (by kernel_rfl)
theorem r23_1 {β : Type} {inv : Inv} {k : Nat} {x1 : Value} {h : AH} {K : XE → Act → AH → Option β} : kCode env 23 false inv k (cl (cr c23)) (act 4 [(1, x1)]) h K =
    bnd (pMakeFunc (Go.Fn.func 26) #[] #[x1]) fun x3 =>
    K .normal (act 4 [(2, x3)]) h := (k_reg (by kernel_rfl)).trans (by kernel_rfl)
theorem res23_0 {x2 : Value} {h : AH} : resOfFn env.P 23 .ret (act 4 [(2, x2)]) h = some (x2, h) := (resOfFn_k (by kernel_rfl) (by kernel_rfl)).trans (by kernel_rfl)
/-- slices.Backward[[]byte,byte] -/
noncomputable def F23 (inv : Inv) (k : Nat) (x0 : Value) (h : AH) : Option (Value × AH) :=
    bnd (pBox Try.prog 25 x0 h) fun x1 =>
    bnd (pMakeFunc (Go.Fn.func 26) #[] #[x1.1]) fun x3 =>
    some (x3, x1.2)
theorem F23_eq {inv : Inv} {k : Nat} {x0 : Value} {h : AH} : eFun env k inv 23 #[x0] h = F23 inv k x0 h := by
      refine (eFun_k2 (by kernel_rfl) (by kernel_rfl) (by kernel_rfl) (a := act 4 [(0, x0)]) (c := c23) (by kernel_rfl) (by kernel_rfl)).trans ?_
      unfold F23
      simp only [k_seq (E := env) (f := 23) (c := c23) (by kernel_rfl), r23_0, k_seq (E := env) (f := 23) (c := (cr c23)) (by kernel_rfl), r23_1, k_ret (E := env) (f := 23) (c := (cr (cr c23))) (by kernel_rfl), res23_0, reduceIte, reduceCtorEq, XE.exit.injEq, Nat.reduceEqDiff] <;> kernel_rfl
theorem F23_call {k : Nat} {x0 : Value} {h : AH} : eInv env (k + 1) (.func 23) #[] #[x0] h = F23 (eInv env k) k x0 h := (inv_func (by kernel_rfl)).trans F23_eq
noncomputable def c24 : Code := codeOf Try.prog 24
theorem r24_0 {β : Type} {inv : Inv} {k : Nat} {x0 x1 : Value} {h : AH} {K : XE → Act → AH → Option β} : kCode env 24 false inv k (cl c24) (act 9 [(0, x0), (1, x1)]) h K =
    K .normal (act 9 [(0, x0), (1, x1)]) h := (k_reg (by kernel_rfl)).trans (by kernel_rfl)
theorem r24_1 {β : Type} {inv : Inv} {k : Nat} {x0 x1 : Value} {h : AH} {K : XE → Act → AH → Option β} : kCode env 24 false inv k (cl (cr c24)) (act 9 [(0, x0), (1, x1)]) h K =
    bnd (inv (.func 27) #[] #[x0, x1] h) fun x7 =>
    bnd (pBin Try.prog Go.BinOp.geq 3 (Go.Operand.tmp 7) (Go.Operand.const (Go.Value.int Go.IntKind.i64 0)) x7.1 (Go.Value.int Go.IntKind.i64 0)) fun x8 =>
    K .normal (act 9 [(4, x8)]) x7.2 := (k_reg (by kernel_rfl)).trans (by kernel_rfl)
theorem res24_0 {x4 : Value} {h : AH} : resOfFn env.P 24 .ret (act 9 [(4, x4)]) h = some (x4, h) := (resOfFn_k (by kernel_rfl) (by kernel_rfl)).trans (by kernel_rfl)
/-- slices.ContainsFunc[[]byte,byte] -/
noncomputable def F24 (inv : Inv) (k : Nat) (x0 x1 : Value) (h : AH) : Option (Value × AH) :=
    bnd (inv (.func 27) #[] #[x0, x1] h) fun x7 =>
    bnd (pBin Try.prog Go.BinOp.geq 3 (Go.Operand.tmp 7) (Go.Operand.const (Go.Value.int Go.IntKind.i64 0)) x7.1 (Go.Value.int Go.IntKind.i64 0)) fun x8 =>
    some (x8, x7.2)
theorem F24_eq {inv : Inv} {k : Nat} {x0 x1 : Value} {h : AH} : eFun env k inv 24 #[x0, x1] h = F24 inv k x0 x1 h := by
      refine (eFun_k2 (by kernel_rfl) (by kernel_rfl) (by kernel_rfl) (a := act 9 [(0, x0), (1, x1)]) (c := c24) (by kernel_rfl) (by kernel_rfl)).trans ?_
      unfold F24
      simp only [k_seq (E := env) (f := 24) (c := c24) (by kernel_rfl), r24_0, k_seq (E := env) (f := 24) (c := (cr c24)) (by kernel_rfl), r24_1, k_ret (E := env) (f := 24) (c := (cr (cr c24))) (by kernel_rfl), res24_0, reduceIte, reduceCtorEq, XE.exit.injEq, Nat.reduceEqDiff] <;> kernel_rfl
theorem F24_call {k : Nat} {x0 x1 : Value} {h : AH} : eInv env (k + 1) (.func 24) #[] #[x0, x1] h = F24 (eInv env k) k x0 x1 h := (inv_func (by kernel_rfl)).trans F24_eq
noncomputable def c25 : Code := codeOf Try.prog 25
theorem r25_0 {β : Type} {inv : Inv} {k : Nat} {x0 : Value} {h : AH} {K : XE → Act → AH → Option β} : kCode env 25 false inv k (cl c25) (act 5 [(0, x0)]) h K =
    K .normal (act 5 [(0, x0)]) h := (k_reg (by kernel_rfl)).trans (by kernel_rfl)
theorem r25_1 {β : Type} {inv : Inv} {k : Nat} {x0 : Value} {h : AH} {K : XE → Act → AH → Option β} : kCode env 25 false inv k (cl (cr c25)) (act 5 [(0, x0)]) h K =
    bnd (pBin Try.prog Go.BinOp.lss 5 (Go.Operand.tmp 3) (Go.Operand.const (Go.Value.int Go.IntKind.u8 128)) x0 (Go.Value.int Go.IntKind.u8 128)) fun x4 =>
    K .normal (act 5 [(2, x4)]) h := (k_reg (by kernel_rfl)).trans (by kernel_rfl)
theorem res25_0 {x2 : Value} {h : AH} : resOfFn env.P 25 .ret (act 5 [(2, x2)]) h = some (x2, h) := (resOfFn_k (by kernel_rfl) (by kernel_rfl)).trans (by kernel_rfl)
/-- (*shadowbook/octet.Reader).ends$1 -/
noncomputable def F25 (inv : Inv) (k : Nat) (x0 : Value) (h : AH) : Option (Value × AH) :=
    bnd (pBin Try.prog Go.BinOp.lss 5 (Go.Operand.tmp 3) (Go.Operand.const (Go.Value.int Go.IntKind.u8 128)) x0 (Go.Value.int Go.IntKind.u8 128)) fun x4 =>
    some (x4, h)
theorem F25_eq {inv : Inv} {k : Nat} {x0 : Value} {h : AH} : eFun env k inv 25 #[x0] h = F25 inv k x0 h := by
      refine (eFun_k2 (by kernel_rfl) (by kernel_rfl) (by kernel_rfl) (a := act 5 [(0, x0)]) (c := c25) (by kernel_rfl) (by kernel_rfl)).trans ?_
      unfold F25
      simp only [k_seq (E := env) (f := 25) (c := c25) (by kernel_rfl), r25_0, k_seq (E := env) (f := 25) (c := (cr c25)) (by kernel_rfl), r25_1, k_ret (E := env) (f := 25) (c := (cr (cr c25))) (by kernel_rfl), res25_0, reduceIte, reduceCtorEq, XE.exit.injEq, Nat.reduceEqDiff] <;> kernel_rfl
theorem F25_call {k : Nat} {x0 : Value} {h : AH} : eInv env (k + 1) (.func 25) #[] #[x0] h = F25 (eInv env k) k x0 h := (inv_func (by kernel_rfl)).trans F25_eq
noncomputable def c26 : Code := codeOf Try.prog 26
theorem r26_0 {β : Type} {inv : Inv} {k : Nat} {x0 x1 : Value} {h : AH} {K : XE → Act → AH → Option β} : kCode env 26 false inv k (cl c26) (act 19 [(0, x0), (1, x1)]) h K =
    bnd (pLoad Try.prog 25 x1 h) fun x4 =>
    bnd (pLen Try.prog #[25] x4 h) fun x5 =>
    bnd (pBin Try.prog Go.BinOp.sub 3 (Go.Operand.tmp 5) (Go.Operand.const (Go.Value.int Go.IntKind.i64 1)) x5 (Go.Value.int Go.IntKind.i64 1)) fun x6 =>
    K .normal (act 19 [(0, x0), (1, x1), (3, x6)]) h := (k_reg (by kernel_rfl)).trans (by kernel_rfl)
theorem r26_1 {β : Type} {inv : Inv} {k : Nat} {x0 x1 x3 : Value} {h : AH} {K : XE → Act → AH → Option β} : kCode env 26 false inv k (cl (cl (cl (cl (cr c26))))) (act 19 [(0, x0), (1, x1), (3, x3)]) h K =
    bnd (pBin Try.prog Go.BinOp.geq 3 (Go.Operand.tmp 7) (Go.Operand.const (Go.Value.int Go.IntKind.i64 0)) x3 (Go.Value.int Go.IntKind.i64 0)) fun x8 =>
    K .normal (act 19 [(0, x0), (1, x1), (3, x3), (8, x8)]) h := (k_reg (by kernel_rfl)).trans (by kernel_rfl)
theorem b26_rlllr {β : Type} {inv : Inv} {k : Nat} {x0 x1 x3 x8 : Value} {h : AH} {K : XE → Act → AH → Option β} : kCode env 26 false inv k (cr (cl (cl (cl (cr c26))))) (act 19 [(0, x0), (1, x1), (3, x3), (8, x8)]) h K = brV x8 (kCode env 26 false inv k (cl (cr (cl (cl (cl (cr c26)))))) (act 19 [(0, x0), (1, x1), (3, x3), (8, x8)]) h K) (kCode env 26 false inv k (cr (cr (cl (cl (cl (cr c26)))))) (act 19 [(0, x0), (1, x1), (3, x3), (8, x8)]) h K) := (k_cond (by kernel_rfl)).trans (by kernel_rfl)
theorem r26_3 {β : Type} {inv : Inv} {k : Nat} {x0 x1 x3 x8 : Value} {h : AH} {K : XE → Act → AH → Option β} : kCode env 26 false inv k (cl (cl (cl (cr (cl (cl (cr c26))))))) (act 19 [(0, x0), (1, x1), (3, x3), (8, x8)]) h K =
    bnd (pLoad Try.prog 25 x1 h) fun x13 =>
    bnd (pIndexAddr Try.prog 25 x13 x3) fun x15 =>
    bnd (pLoad Try.prog 5 x15 h) fun x16 =>
    bnd (callV inv x0 #[x3, x16] h) fun x17 =>
    bnd (pUn Try.prog Go.UnOp.not x17.1) fun x18 =>
    K .normal (act 19 [(0, x0), (1, x1), (3, x3), (18, x18)]) x17.2 := (k_reg (by kernel_rfl)).trans (by kernel_rfl)
theorem b26_rllrllr {β : Type} {inv : Inv} {k : Nat} {x0 x1 x3 x18 : Value} {h : AH} {K : XE → Act → AH → Option β} : kCode env 26 false inv k (cr (cl (cl (cr (cl (cl (cr c26))))))) (act 19 [(0, x0), (1, x1), (3, x3), (18, x18)]) h K = brV x18 (kCode env 26 false inv k (cl (cr (cl (cl (cr (cl (cl (cr c26)))))))) (act 19 [(0, x0), (1, x1), (3, x3), (18, x18)]) h K) (kCode env 26 false inv k (cr (cr (cl (cl (cr (cl (cl (cr c26)))))))) (act 19 [(0, x0), (1, x1), (3, x3), (18, x18)]) h K) := (k_cond (by kernel_rfl)).trans (by kernel_rfl)
theorem r26_2 {β : Type} {inv : Inv} {k : Nat} {x0 x1 x3 x18 : Value} {h : AH} {K : XE → Act → AH → Option β} : kCode env 26 false inv k (cr (cr (cl (cl (cr c26))))) (act 19 [(0, x0), (1, x1), (3, x3), (18, x18)]) h K =
    bnd (pBin Try.prog Go.BinOp.sub 3 (Go.Operand.tmp 9) (Go.Operand.const (Go.Value.int Go.IntKind.i64 1)) x3 (Go.Value.int Go.IntKind.i64 1)) fun x10 =>
    K .normal (act 19 [(0, x0), (1, x1), (3, x10)]) h := (k_reg (by kernel_rfl)).trans (by kernel_rfl)
noncomputable def F26_lr {β : Type} (inv : Inv) (k : Nat) : Nat → Value → Value → Value → AH → (Value → Value → Value → Value → AH → Option β) → (Value → Value → Value → Value → AH → Option β) → Option β
  | 0, _, _, _, _, _, _ => none
  | j + 1, x0, x1, x3, h, ke0, kr =>
    bnd (pBin Try.prog Go.BinOp.geq 3 (Go.Operand.tmp 7) (Go.Operand.const (Go.Value.int Go.IntKind.i64 0)) x3 (Go.Value.int Go.IntKind.i64 0)) fun x8 =>
    brV x8
    (bnd (pLoad Try.prog 25 x1 h) fun x13 =>
    bnd (pIndexAddr Try.prog 25 x13 x3) fun x15 =>
    bnd (pLoad Try.prog 5 x15 h) fun x16 =>
    bnd (callV inv x0 #[x3, x16] h) fun x17 =>
    bnd (pUn Try.prog Go.UnOp.not x17.1) fun x18 =>
    brV x18
    (kr x0 x1 x3 x18 x17.2)
    (bnd (pBin Try.prog Go.BinOp.sub 3 (Go.Operand.tmp 9) (Go.Operand.const (Go.Value.int Go.IntKind.i64 1)) x3 (Go.Value.int Go.IntKind.i64 1)) fun x10 =>
    F26_lr inv k j x0 x1 x10 x17.2 ke0 kr))
    (ke0 x0 x1 x3 x8 h)
theorem F26_lr_j {β : Type} {inv : Inv} {k : Nat} (j : Nat) {x0 x1 x3 : Value} {h : AH} {K : XE → Act → AH → Option β} : kLoop (kCode env 26 false inv k (cl (cl (cr c26)))) j (act 19 [(0, x0), (1, x1), (3, x3)]) h K = F26_lr inv k j x0 x1 x3 h (fun y0 y1 y3 y8 h => K (.exit 0) (act 19 [(0, y0), (1, y1), (3, y3), (8, y8)]) h) (fun y0 y1 y3 y18 h => K .ret (act 19 [(0, y0), (1, y1), (3, y3), (18, y18)]) h) := by
      induction j generalizing x0 x1 x3 h with
      | zero => rfl
      | succ j ih =>
        unfold F26_lr
        simp only [kLoop, k_seq (E := env) (f := 26) (c := (cl (cl (cr c26)))) (by kernel_rfl), k_seq (E := env) (f := 26) (c := (cl (cl (cl (cr c26))))) (by kernel_rfl), r26_1, b26_rlllr, k_skip (E := env) (f := 26) (c := (cl (cr (cl (cl (cl (cr c26))))))) (by kernel_rfl), k_seq (E := env) (f := 26) (c := (cr (cl (cl (cr c26))))) (by kernel_rfl), k_block (E := env) (f := 26) (c := (cl (cr (cl (cl (cr c26)))))) (id := 1) (by kernel_rfl), k_seq (E := env) (f := 26) (c := (cl (cl (cr (cl (cl (cr c26))))))) (by kernel_rfl), r26_3, b26_rllrllr, k_ret (E := env) (f := 26) (c := (cl (cr (cl (cl (cr (cl (cl (cr c26))))))))) (by kernel_rfl), k_skip (E := env) (f := 26) (c := (cr (cr (cl (cl (cr (cl (cl (cr c26))))))))) (by kernel_rfl), r26_2, k_exit (E := env) (f := 26) (c := (cr (cr (cl (cl (cl (cr c26))))))) (id := 0) (by kernel_rfl), ih, reduceIte, reduceCtorEq, XE.exit.injEq, Nat.reduceEqDiff] <;> kernel_rfl
theorem F26_lr_eq {β : Type} {inv : Inv} {k : Nat} {x0 x1 x3 : Value} {h : AH} {K : XE → Act → AH → Option β} : kCode env 26 false inv k (cl (cr c26)) (act 19 [(0, x0), (1, x1), (3, x3)]) h K = F26_lr inv k k x0 x1 x3 h (fun y0 y1 y3 y8 h => K (.exit 0) (act 19 [(0, y0), (1, y1), (3, y3), (8, y8)]) h) (fun y0 y1 y3 y18 h => K .ret (act 19 [(0, y0), (1, y1), (3, y3), (18, y18)]) h) := (k_loop (by kernel_rfl)).trans (F26_lr_j k)
theorem res26_0 {x0 x1 x3 x8 : Value} {h : AH} : resOfFn env.P 26 .normal (act 19 [(0, x0), (1, x1), (3, x3), (8, x8)]) h = some (.tuple #[], h) := (resOfFn_k (by kernel_rfl) (by kernel_rfl)).trans (by kernel_rfl)
theorem res26_1 {x0 x1 x3 x18 : Value} {h : AH} : resOfFn env.P 26 .ret (act 19 [(0, x0), (1, x1), (3, x3), (18, x18)]) h = some (.tuple #[], h) := (resOfFn_k (by kernel_rfl) (by kernel_rfl)).trans (by kernel_rfl)
/-- slices.Backward[[]byte,byte]$1 -/
noncomputable def F26 (inv : Inv) (k : Nat) (x0 x1 : Value) (h : AH) : Option (Value × AH) :=
    bnd (pLoad Try.prog 25 x1 h) fun x4 =>
    bnd (pLen Try.prog #[25] x4 h) fun x5 =>
    bnd (pBin Try.prog Go.BinOp.sub 3 (Go.Operand.tmp 5) (Go.Operand.const (Go.Value.int Go.IntKind.i64 1)) x5 (Go.Value.int Go.IntKind.i64 1)) fun x6 =>
    F26_lr inv k k x0 x1 x6 h
    (fun y0 y1 y3 y8 h =>
    some (.tuple #[], h))
    (fun y0_1 y1_2 y3_3 y18 h_4 =>
    some (.tuple #[], h_4))
theorem F26_eq {inv : Inv} {k : Nat} {x0 x1 : Value} {h : AH} : eFun env k inv 26 #[x0, x1] h = F26 inv k x0 x1 h := by
      refine (eFun_k2 (by kernel_rfl) (by kernel_rfl) (by kernel_rfl) (a := act 19 [(0, x0), (1, x1)]) (c := c26) (by kernel_rfl) (by kernel_rfl)).trans ?_
      unfold F26
      simp only [k_seq (E := env) (f := 26) (c := c26) (by kernel_rfl), r26_0, k_block (E := env) (f := 26) (c := (cr c26)) (id := 0) (by kernel_rfl), F26_lr_eq, res26_0, res26_1, reduceIte, reduceCtorEq, XE.exit.injEq, Nat.reduceEqDiff] <;> kernel_rfl
theorem F26_call {k : Nat} {x0 x1 : Value} {h : AH} : eInv env (k + 1) (.func 26) #[] #[x0, x1] h = F26 (eInv env k) k x0 x1 h := (inv_func (by kernel_rfl)).trans F26_eq
noncomputable def c27 : Code := codeOf Try.prog 27
theorem r27_0 {β : Type} {inv : Inv} {k : Nat} {x0 x1 : Value} {h : AH} {K : XE → Act → AH → Option β} : kCode env 27 false inv k (cl c27) (act 19 [(0, x0), (1, x1)]) h K =
    K .normal (act 19 [(0, x0), (1, x1)]) h := (k_reg (by kernel_rfl)).trans (by kernel_rfl)
theorem r27_1 {β : Type} {inv : Inv} {k : Nat} {x0 x1 : Value} {h : AH} {K : XE → Act → AH → Option β} : kCode env 27 false inv k (cl (cl (cr c27))) (act 19 [(0, x0), (1, x1)]) h K =
    bnd (pLen Try.prog #[25] x0 h) fun x7 =>
    K .normal (act 19 [(0, x0), (1, x1), (7, x7), (8, (Go.Value.int Go.IntKind.i64 0))]) h := (k_reg (by kernel_rfl)).trans (by kernel_rfl)
theorem r27_2 {β : Type} {inv : Inv} {k : Nat} {x0 x1 x7 x8 : Value} {h : AH} {K : XE → Act → AH → Option β} : kCode env 27 false inv k (cl (cl (cl (cr (cl (cr c27)))))) (act 19 [(0, x0), (1, x1), (7, x7), (8, x8)]) h K =
    bnd (pBin Try.prog Go.BinOp.lss 3 (Go.Operand.tmp 8) (Go.Operand.tmp 7) x8 x7) fun x9 =>
    K .normal (act 19 [(0, x0), (1, x1), (7, x7), (8, x8), (9, x9)]) h := (k_reg (by kernel_rfl)).trans (by kernel_rfl)
theorem b27_lrllrlr {β : Type} {inv : Inv} {k : Nat} {x0 x1 x7 x8 x9 : Value} {h : AH} {K : XE → Act → AH → Option β} : kCode env 27 false inv k (cl (cr (cl (cl (cr (cl (cr c27))))))) (act 19 [(0, x0), (1, x1), (7, x7), (8, x8), (9, x9)]) h K = brV x9 (kCode env 27 false inv k (cl (cl (cr (cl (cl (cr (cl (cr c27)))))))) (act 19 [(0, x0), (1, x1), (7, x7), (8, x8), (9, x9)]) h K) (kCode env 27 false inv k (cr (cl (cr (cl (cl (cr (cl (cr c27)))))))) (act 19 [(0, x0), (1, x1), (7, x7), (8, x8), (9, x9)]) h K) := (k_cond (by kernel_rfl)).trans (by kernel_rfl)
theorem r27_3 {β : Type} {inv : Inv} {k : Nat} {x0 x1 x7 x8 x9 : Value} {h : AH} {K : XE → Act → AH → Option β} : kCode env 27 false inv k (cl (cl (cl (cr (cr (cl (cl (cr (cl (cr c27)))))))))) (act 19 [(0, x0), (1, x1), (7, x7), (8, x8), (9, x9)]) h K =
    K .normal (act 19 [(0, x0), (1, x1), (5, x8), (7, x7), (8, x8)]) h := (k_reg (by kernel_rfl)).trans (by kernel_rfl)
theorem r27_4 {β : Type} {inv : Inv} {k : Nat} {x0 x1 x5 x7 x8 : Value} {h : AH} {K : XE → Act → AH → Option β} : kCode env 27 false inv k (cl (cr (cl (cl (cr (cr (cl (cl (cr (cl (cr c27))))))))))) (act 19 [(0, x0), (1, x1), (5, x5), (7, x7), (8, x8)]) h K =
    bnd (pIndexAddr Try.prog 25 x0 x5) fun x14 =>
    bnd (pLoad Try.prog 5 x14 h) fun x15 =>
    bnd (callV inv x1 #[x15] h) fun x16 =>
    K .normal (act 19 [(0, x0), (1, x1), (5, x5), (7, x7), (8, x8), (16, x16.1)]) x16.2 := (k_reg (by kernel_rfl)).trans (by kernel_rfl)
theorem b27_rrllrrllrlr {β : Type} {inv : Inv} {k : Nat} {x0 x1 x5 x7 x8 x16 : Value} {h : AH} {K : XE → Act → AH → Option β} : kCode env 27 false inv k (cr (cr (cl (cl (cr (cr (cl (cl (cr (cl (cr c27))))))))))) (act 19 [(0, x0), (1, x1), (5, x5), (7, x7), (8, x8), (16, x16)]) h K = brV x16 (kCode env 27 false inv k (cl (cr (cr (cl (cl (cr (cr (cl (cl (cr (cl (cr c27)))))))))))) (act 19 [(0, x0), (1, x1), (5, x5), (7, x7), (8, x8), (16, x16)]) h K) (kCode env 27 false inv k (cr (cr (cr (cl (cl (cr (cr (cl (cl (cr (cl (cr c27)))))))))))) (act 19 [(0, x0), (1, x1), (5, x5), (7, x7), (8, x8), (16, x16)]) h K) := (k_cond (by kernel_rfl)).trans (by kernel_rfl)
theorem r27_5 {β : Type} {inv : Inv} {k : Nat} {x0 x1 x5 x7 x8 x16 : Value} {h : AH} {K : XE → Act → AH → Option β} : kCode env 27 false inv k (cl (cl (cr (cr (cl (cl (cr (cr (cl (cl (cr (cl (cr c27))))))))))))) (act 19 [(0, x0), (1, x1), (5, x5), (7, x7), (8, x8), (16, x16)]) h K =
    K .normal (act 19 [(4, x5)]) h := (k_reg (by kernel_rfl)).trans (by kernel_rfl)
theorem r27_6 {β : Type} {inv : Inv} {k : Nat} {x0 x1 x5 x7 x8 x16 : Value} {h : AH} {K : XE → Act → AH → Option β} : kCode env 27 false inv k (cr (cr (cr (cl (cl (cr (cl (cr c27)))))))) (act 19 [(0, x0), (1, x1), (5, x5), (7, x7), (8, x8), (16, x16)]) h K =
    bnd (pBin Try.prog Go.BinOp.add 3 (Go.Operand.tmp 8) (Go.Operand.const (Go.Value.int Go.IntKind.i64 1)) x8 (Go.Value.int Go.IntKind.i64 1)) fun x18 =>
    K .normal (act 19 [(0, x0), (1, x1), (7, x7), (8, x18)]) h := (k_reg (by kernel_rfl)).trans (by kernel_rfl)
noncomputable def F27_lrlr {β : Type} (inv : Inv) (k : Nat) : Nat → Value → Value → Value → Value → AH → (Value → Value → Value → Value → Value → AH → Option β) → (Value → AH → Option β) → Option β
  | 0, _, _, _, _, _, _, _ => none
  | j + 1, x0, x1, x7, x8, h, ke0, kr =>
    bnd (pBin Try.prog Go.BinOp.lss 3 (Go.Operand.tmp 8) (Go.Operand.tmp 7) x8 x7) fun x9 =>
    brV x9
    (bnd (pIndexAddr Try.prog 25 x0 x8) fun x14 =>
    bnd (pLoad Try.prog 5 x14 h) fun x15 =>
    bnd (callV inv x1 #[x15] h) fun x16 =>
    brV x16.1
    (kr x8 x16.2)
    (bnd (pBin Try.prog Go.BinOp.add 3 (Go.Operand.tmp 8) (Go.Operand.const (Go.Value.int Go.IntKind.i64 1)) x8 (Go.Value.int Go.IntKind.i64 1)) fun x18 =>
    F27_lrlr inv k j x0 x1 x7 x18 x16.2 ke0 kr))
    (ke0 x0 x1 x7 x8 x9 h)
theorem F27_lrlr_j {β : Type} {inv : Inv} {k : Nat} (j : Nat) {x0 x1 x7 x8 : Value} {h : AH} {K : XE → Act → AH → Option β} : kLoop (kCode env 27 false inv k (cl (cl (cr (cl (cr c27)))))) j (act 19 [(0, x0), (1, x1), (7, x7), (8, x8)]) h K = F27_lrlr inv k j x0 x1 x7 x8 h (fun y0 y1 y7 y8 y9 h => K (.exit 0) (act 19 [(0, y0), (1, y1), (7, y7), (8, y8), (9, y9)]) h) (fun y4 h => K .ret (act 19 [(4, y4)]) h) := by
      induction j generalizing x0 x1 x7 x8 h with
      | zero => rfl
      | succ j ih =>
        unfold F27_lrlr
        simp only [kLoop, k_seq (E := env) (f := 27) (c := (cl (cl (cr (cl (cr c27)))))) (by kernel_rfl), r27_2, k_seq (E := env) (f := 27) (c := (cr (cl (cl (cr (cl (cr c27))))))) (by kernel_rfl), b27_lrllrlr, k_skip (E := env) (f := 27) (c := (cl (cl (cr (cl (cl (cr (cl (cr c27))))))))) (by kernel_rfl), k_seq (E := env) (f := 27) (c := (cr (cr (cl (cl (cr (cl (cr c27)))))))) (by kernel_rfl), k_block (E := env) (f := 27) (c := (cl (cr (cr (cl (cl (cr (cl (cr c27))))))))) (id := 1) (by kernel_rfl), k_seq (E := env) (f := 27) (c := (cl (cl (cr (cr (cl (cl (cr (cl (cr c27)))))))))) (by kernel_rfl), r27_3, k_seq (E := env) (f := 27) (c := (cr (cl (cl (cr (cr (cl (cl (cr (cl (cr c27))))))))))) (by kernel_rfl), r27_4, b27_rrllrrllrlr, k_seq (E := env) (f := 27) (c := (cl (cr (cr (cl (cl (cr (cr (cl (cl (cr (cl (cr c27))))))))))))) (by kernel_rfl), r27_5, k_ret (E := env) (f := 27) (c := (cr (cl (cr (cr (cl (cl (cr (cr (cl (cl (cr (cl (cr c27)))))))))))))) (by kernel_rfl), k_skip (E := env) (f := 27) (c := (cr (cr (cr (cl (cl (cr (cr (cl (cl (cr (cl (cr c27))))))))))))) (by kernel_rfl), r27_6, k_exit (E := env) (f := 27) (c := (cr (cl (cr (cl (cl (cr (cl (cr c27))))))))) (id := 0) (by kernel_rfl), ih, reduceIte, reduceCtorEq, XE.exit.injEq, Nat.reduceEqDiff] <;> kernel_rfl
theorem F27_lrlr_eq {β : Type} {inv : Inv} {k : Nat} {x0 x1 x7 x8 : Value} {h : AH} {K : XE → Act → AH → Option β} : kCode env 27 false inv k (cl (cr (cl (cr c27)))) (act 19 [(0, x0), (1, x1), (7, x7), (8, x8)]) h K = F27_lrlr inv k k x0 x1 x7 x8 h (fun y0 y1 y7 y8 y9 h => K (.exit 0) (act 19 [(0, y0), (1, y1), (7, y7), (8, y8), (9, y9)]) h) (fun y4 h => K .ret (act 19 [(4, y4)]) h) := (k_loop (by kernel_rfl)).trans (F27_lrlr_j k)
theorem r27_7 {β : Type} {inv : Inv} {k : Nat} {x0 x1 x7 x8 x9 : Value} {h : AH} {K : XE → Act → AH → Option β} : kCode env 27 false inv k (cl (cr (cr c27))) (act 19 [(0, x0), (1, x1), (7, x7), (8, x8), (9, x9)]) h K =
    K .normal (act 19 [(4, (Go.Value.int Go.IntKind.i64 (-1)))]) h := (k_reg (by kernel_rfl)).trans (by kernel_rfl)
theorem res27_0 {x4 : Value} {h : AH} : resOfFn env.P 27 .ret (act 19 [(4, x4)]) h = some (x4, h) := (resOfFn_k (by kernel_rfl) (by kernel_rfl)).trans (by kernel_rfl)
/-- slices.IndexFunc[[]byte,byte] -/
noncomputable def F27 (inv : Inv) (k : Nat) (x0 x1 : Value) (h : AH) : Option (Value × AH) :=
    bnd (pLen Try.prog #[25] x0 h) fun x7 =>
    F27_lrlr inv k k x0 x1 x7 (Go.Value.int Go.IntKind.i64 0) h
    (fun y0 y1 y7 y8 y9 h =>
    some ((Go.Value.int Go.IntKind.i64 (-1)), h))
    (fun y4 h_1 =>
    some (y4, h_1))
theorem F27_eq {inv : Inv} {k : Nat} {x0 x1 : Value} {h : AH} : eFun env k inv 27 #[x0, x1] h = F27 inv k x0 x1 h := by
      refine (eFun_k2 (by kernel_rfl) (by kernel_rfl) (by kernel_rfl) (a := act 19 [(0, x0), (1, x1)]) (c := c27) (by kernel_rfl) (by kernel_rfl)).trans ?_
      unfold F27
      simp only [k_seq (E := env) (f := 27) (c := c27) (by kernel_rfl), r27_0, k_seq (E := env) (f := 27) (c := (cr c27)) (by kernel_rfl), k_seq (E := env) (f := 27) (c := (cl (cr c27))) (by kernel_rfl), r27_1, k_block (E := env) (f := 27) (c := (cr (cl (cr c27)))) (id := 0) (by kernel_rfl), F27_lrlr_eq, k_seq (E := env) (f := 27) (c := (cr (cr c27))) (by kernel_rfl), r27_7, k_ret (E := env) (f := 27) (c := (cr (cr (cr c27)))) (by kernel_rfl), res27_0, reduceIte, reduceCtorEq, XE.exit.injEq, Nat.reduceEqDiff] <;> kernel_rfl
theorem F27_call {k : Nat} {x0 x1 : Value} {h : AH} : eInv env (k + 1) (.func 27) #[] #[x0, x1] h = F27 (eInv env k) k x0 x1 h := (inv_func (by kernel_rfl)).trans F27_eq
end Go.Proofs.Ytchfdnboojamnaa.Sh
