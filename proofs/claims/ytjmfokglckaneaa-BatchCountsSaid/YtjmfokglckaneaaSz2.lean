/- Shallow functions, part 2. Printed by a program of the prover's own from the loaded program; Lean checks it. -/
import Derived.Test.YtjmfokglckaneaaSz1
set_option linter.unusedVariables false
set_option linter.unusedSimpArgs false
set_option maxRecDepth 100000
namespace Go.Proofs.Ytjmfokglckaneaa.Sh
open Go Go.RowKit Go.Proofs.Ev
variable {β : Type} {inv : Inv} {k : Nat} {h : AH} {K : XE → Act → AH → Option β} {x0 x1 x2 x3 x4 x5 x6 x7 x8 x9 x10 x11 x12 x13 x14 x15 x16 x17 x18 x19 x20 x21 x22 x23 x24 x25 x26 x27 x28 x29 x30 x31 x32 x33 x34 x35 x36 x37 x38 x39 x40 x41 x42 x43 x45 x46 x47 x48 x49 x51 x54 x55 x56 x57 x58 x59 x60 x61 x62 x63 x64 x65 x66 x67 x68 x69 x70 x71 x72 x74 x75 x76 x77 x79 x80 x81 x83 : Value}
noncomputable def c58 : Code := codeOf Try.prog 58
theorem r58_0  : kCode env 58 false inv k (cp c58 2) (act 69 [(0, x0), (1, x1)]) h K =
    bnd (pBox Try.prog 39 x1 h) fun x3 =>
    K .normal (act 69 [(0, x0), (3, x3.1)]) x3.2 := kq_reg
theorem r58_1  : kCode env 58 false inv k (cp c58 12) (act 69 [(0, x0), (3, x3)]) h K =
    bnd (pFieldAddr Try.prog 39 x3 3) fun x9 =>
    bnd (pLoad Try.prog 36 x9 h) fun x10 =>
    bnd (pLen Try.prog #[36] x10 h) fun x11 =>
    K .normal (act 69 [(0, x0), (3, x3), (10, x10), (11, x11), (12, (.int .i64 0))]) h := kq_reg
theorem r58_2  : kCode env 58 false inv k (cp c58 104) (act 69 [(0, x0), (3, x3), (10, x10), (11, x11), (12, x12)]) h K =
    bnd (pBin Try.prog .lss 3 (.tmp 12) (.tmp 11) x12 x11) fun x13 =>
    K .normal (act 69 [(0, x0), (3, x3), (10, x10), (11, x11), (12, x12), (13, x13)]) h := kq_reg
theorem b58_lrllrlr  : kCode env 58 false inv k (cp c58 210) (act 69 [(0, x0), (3, x3), (10, x10), (11, x11), (12, x12), (13, x13)]) h K = brV x13 (kCode env 58 false inv k (cp c58 420) (act 69 [(0, x0), (3, x3), (10, x10), (11, x11), (12, x12), (13, x13)]) h K) (kCode env 58 false inv k (cp c58 421) (act 69 [(0, x0), (3, x3), (10, x10), (11, x11), (12, x12), (13, x13)]) h K) := kq_cond
theorem r58_3  : kCode env 58 false inv k (cp c58 1688) (act 69 [(0, x0), (3, x3), (10, x10), (11, x11), (12, x12), (13, x13)]) h K =
    bnd (pIndexAddr Try.prog 36 x10 x12) fun x15 =>
    bnd (pLoad Try.prog 3 x15 h) fun x16 =>
    K .normal (act 69 [(0, x0), (3, x3), (5, x12), (6, x16), (10, x10), (11, x11), (12, x12)]) h := kq_reg
noncomputable abbrev G58_4 {β : Type} (inv : Inv) (x0 x3 x5 x6 x10 x11 x12 : Value) (h : AH) (K : Value → AH → Option β) : Option β :=
    bnd (pBin Try.prog .lss 3 (.tmp 18) (.const (.int .i64 0)) x6 (.int .i64 0)) fun x19 =>
    bnd (gd (some x19) false h (some (x6, h))) fun x21 =>
    bnd (gd (some x19) false x21.2 (some (x0, x21.2))) fun x22 =>
    bnd (gd (some x19) false x22.2 (lt (pLen Try.prog #[22] x22.1 x22.2) x22.2)) fun x23 =>
    bnd (gd (some x19) false x23.2 (lt (pBin Try.prog .geq 3 (.tmp 21) (.tmp 23) x21.1 x23.1) x23.2)) fun x24 =>
    bnd (pickV x19 (.bool true) x24.1) fun x25 =>
    K (x25) x24.2
theorem r58_4  : kCode env 58 false inv k (cp c58 13512) (act 69 [(0, x0), (3, x3), (5, x5), (6, x6), (10, x10), (11, x11), (12, x12)]) h K =
    G58_4 inv x0 x3 x5 x6 x10 x11 x12 h fun y17 h => K .normal (act 69 [(0, x0), (3, x3), (5, x5), (6, x6), (10, x10), (11, x11), (12, x12), (17, y17)]) h := kq_reg
theorem b58_rllrllrrllrlr  : kCode env 58 false inv k (cp c58 13513) (act 69 [(0, x0), (3, x3), (5, x5), (6, x6), (10, x10), (11, x11), (12, x12), (17, x17)]) h K = brV x17 (kCode env 58 false inv k (cp c58 27026) (act 69 [(0, x0), (3, x3), (5, x5), (6, x6), (10, x10), (11, x11), (12, x12), (17, x17)]) h K) (kCode env 58 false inv k (cp c58 27027) (act 69 [(0, x0), (3, x3), (5, x5), (6, x6), (10, x10), (11, x11), (12, x12), (17, x17)]) h K) := kq_cond
theorem r58_5  : kCode env 58 false inv k (cp c58 54052) (act 69 [(0, x0), (3, x3), (5, x5), (6, x6), (10, x10), (11, x11), (12, x12), (17, x17)]) h K =
    K .normal (act 69 [(4, (.int .i64 172))]) h := kq_reg
theorem r58_6  : kCode env 58 false inv k (cp c58 54054) (act 69 [(0, x0), (3, x3), (5, x5), (6, x6), (10, x10), (11, x11), (12, x12), (17, x17)]) h K =
    bnd (pFieldAddr Try.prog 39 x3 3) fun x27 =>
    bnd (pLoad Try.prog 36 x27 h) fun x28 =>
    bnd (pSlice Try.prog 36 x28 none (some x5) none h) fun x30 =>
    bnd (inv (.func 76) #[] #[x30, x6] h) fun x32 =>
    K .normal (act 69 [(0, x0), (3, x3), (5, x5), (6, x6), (10, x10), (11, x11), (12, x12), (26, x32.1)]) x32.2 := kq_reg
theorem b58_rrrllrllrrllrlr  : kCode env 58 false inv k (cp c58 54055) (act 69 [(0, x0), (3, x3), (5, x5), (6, x6), (10, x10), (11, x11), (12, x12), (26, x26)]) h K = brV x26 (kCode env 58 false inv k (cp c58 108110) (act 69 [(0, x0), (3, x3), (5, x5), (6, x6), (10, x10), (11, x11), (12, x12), (26, x26)]) h K) (kCode env 58 false inv k (cp c58 108111) (act 69 [(0, x0), (3, x3), (5, x5), (6, x6), (10, x10), (11, x11), (12, x12), (26, x26)]) h K) := kq_cond
theorem r58_7  : kCode env 58 false inv k (cp c58 216220) (act 69 [(0, x0), (3, x3), (5, x5), (6, x6), (10, x10), (11, x11), (12, x12), (26, x26)]) h K =
    K .normal (act 69 [(4, (.int .i64 190))]) h := kq_reg
theorem r58_8  : kCode env 58 false inv k (cp c58 13516) (act 69 [(0, x0), (3, x3), (5, x5), (6, x6), (10, x10), (11, x11), (12, x12), (26, x26)]) h K =
    bnd (pFieldAddr Try.prog 39 x3 4) fun x33 =>
    bnd (pLoad Try.prog 37 x33 h) fun x34 =>
    bnd (pIndexAddr Try.prog 37 x34 x5) fun x36 =>
    bnd (pLoad Try.prog 45 x36 h) fun x37 =>
    bnd (inv (.func 77) #[] #[x37] h) fun x38 =>
    K .normal (act 69 [(0, x0), (3, x3), (5, x5), (6, x6), (7, x38.1), (10, x10), (11, x11), (12, x12)]) x38.2 := kq_reg
theorem r58_9  : kCode env 58 false inv k (cp c58 27034) (act 69 [(0, x0), (3, x3), (5, x5), (6, x6), (7, x7), (10, x10), (11, x11), (12, x12)]) h K =
    bnd (pBin Try.prog .neq 27 (.tmp 39) (.const (.int .i64 0)) x7 (.int .i64 0)) fun x40 =>
    K .normal (act 69 [(0, x0), (3, x3), (5, x5), (6, x6), (7, x7), (10, x10), (11, x11), (12, x12), (40, x40)]) h := kq_reg
theorem b58_rrlrrllrrllrlr  : kCode env 58 false inv k (cp c58 27035) (act 69 [(0, x0), (3, x3), (5, x5), (6, x6), (7, x7), (10, x10), (11, x11), (12, x12), (40, x40)]) h K = brV x40 (kCode env 58 false inv k (cp c58 54070) (act 69 [(0, x0), (3, x3), (5, x5), (6, x6), (7, x7), (10, x10), (11, x11), (12, x12), (40, x40)]) h K) (kCode env 58 false inv k (cp c58 54071) (act 69 [(0, x0), (3, x3), (5, x5), (6, x6), (7, x7), (10, x10), (11, x11), (12, x12), (40, x40)]) h K) := kq_cond
theorem r58_10  : kCode env 58 false inv k (cp c58 108140) (act 69 [(0, x0), (3, x3), (5, x5), (6, x6), (7, x7), (10, x10), (11, x11), (12, x12), (40, x40)]) h K =
    K .normal (act 69 [(4, x7)]) h := kq_reg
theorem r58_11  : kCode env 58 false inv k (cp c58 13518) (act 69 [(0, x0), (3, x3), (5, x5), (6, x6), (7, x7), (10, x10), (11, x11), (12, x12), (40, x40)]) h K =
    bnd (pFieldAddr Try.prog 39 x3 4) fun x42 =>
    bnd (pLoad Try.prog 37 x42 h) fun x43 =>
    bnd (pIndexAddr Try.prog 37 x43 x5) fun x45 =>
    bnd (pLoad Try.prog 45 x45 h) fun x46 =>
    bnd (pAlloc Try.prog 45 h) fun x8 =>
    bnd (kSt (pStore Try.prog 45 x8.1 x46 x8.2)) fun u =>
    K .normal (act 69 [(0, x0), (3, x3), (6, x6), (8, x8.1), (10, x10), (11, x11), (12, x12)]) u.2 := kq_reg
noncomputable abbrev G58_12 {β : Type} (inv : Inv) (x0 x3 x6 x8 x10 x11 x12 : Value) (h : AH) (K : Value → AH → Option β) : Option β :=
    bnd (pFieldAddr Try.prog 45 x8 0) fun x47 =>
    bnd (pLoad Try.prog 3 x47 h) fun x48 =>
    bnd (pIndexAddr Try.prog 22 x0 x6) fun x51 =>
    bnd (pFieldAddr Try.prog 80 x51 1) fun x52 =>
    bnd (pLoad Try.prog 3 x52 h) fun x53 =>
    bnd (pBin Try.prog .neq 3 (.tmp 48) (.tmp 53) x48 x53) fun x54 =>
    bnd (gd3 (some x54) true h (lt (pFieldAddr Try.prog 45 x8 0) h)) fun x56 =>
    bnd (gd3 (some x54) true x56.2.1 (lt (pLoad Try.prog 3 x56.1 x56.2.1) x56.2.1)) fun x57 =>
    bnd (gd3 (some x54) true x57.2.1 (lt (pBin Try.prog .neq 3 (.tmp 57) (.const (.int .i64 0)) x57.1 (.int .i64 0)) x57.2.1)) fun x58 =>
    bnd (gd3 (some x54) true x58.2.1 (some (x58.1, x58.2.1))) fun x59 =>
    bnd (gd3 (some x59.1) false x59.2.1 (some (x0, x59.2.1))) fun x60 =>
    bnd (gd3 (some x59.1) false x60.2.1 (some (x6, x60.2.1))) fun x61 =>
    bnd (gd3 (some x59.1) false x61.2.1 (lt (pIndexAddr Try.prog 22 x60.1 x61.1) x61.2.1)) fun x62 =>
    bnd (gd3 (some x59.1) false x62.2.1 (lt (pFieldAddr Try.prog 80 x62.1 2) x62.2.1)) fun x63 =>
    bnd (gd3 (some x59.1) false x63.2.1 (lt (pLoad Try.prog 4 x63.1 x63.2.1) x63.2.1)) fun x64 =>
    bnd (gd3 (some x59.1) false x64.2.1 (lt (pUn Try.prog .not x64.1) x64.2.1)) fun x65 =>
    bnd (gd3 (some x54) true x65.2.1 (lt (pickV x59.1 (.bool true) x65.1) x65.2.1)) fun x66 =>
    bnd (pickV x54 x66.1 (.bool false)) fun x67 =>
    K (x67) x66.2.1
theorem r58_12  : kCode env 58 false inv k (cp c58 27038) (act 69 [(0, x0), (3, x3), (6, x6), (8, x8), (10, x10), (11, x11), (12, x12)]) h K =
    G58_12 inv x0 x3 x6 x8 x10 x11 x12 h fun y67 h => K .normal (act 69 [(0, x0), (3, x3), (10, x10), (11, x11), (12, x12), (67, y67)]) h := kq_draw
theorem b58_rrrrrllrrllrlr  : kCode env 58 false inv k (cp c58 27039) (act 69 [(0, x0), (3, x3), (10, x10), (11, x11), (12, x12), (67, x67)]) h K = brV x67 (kCode env 58 false inv k (cp c58 54078) (act 69 [(0, x0), (3, x3), (10, x10), (11, x11), (12, x12), (67, x67)]) h K) (kCode env 58 false inv k (cp c58 54079) (act 69 [(0, x0), (3, x3), (10, x10), (11, x11), (12, x12), (67, x67)]) h K) := kq_cond
theorem r58_13  : kCode env 58 false inv k (cp c58 108156) (act 69 [(0, x0), (3, x3), (10, x10), (11, x11), (12, x12), (67, x67)]) h K =
    K .normal (act 69 [(4, (.int .i64 173))]) h := kq_reg
theorem r58_14  : kCode env 58 false inv k (cp c58 423) (act 69 [(0, x0), (3, x3), (10, x10), (11, x11), (12, x12), (67, x67)]) h K =
    bnd (pBin Try.prog .add 3 (.tmp 12) (.const (.int .i64 1)) x12 (.int .i64 1)) fun x68 =>
    K .normal (act 69 [(0, x0), (3, x3), (10, x10), (11, x11), (12, x68)]) h := kq_reg
noncomputable def F58_lrlr {β : Type} (inv : Inv) (k : Nat) : Nat → Value → Value → Value → Value → Value → AH → (Value → Value → Value → Value → Value → Value → AH → Option β) → (Value → AH → Option β) → Option β
  | 0, _, _, _, _, _, _, _, _ => none
  | j + 1, x0, x3, x10, x11, x12, h, ke0, kr =>
    bnd (pBin Try.prog .lss 3 (.tmp 12) (.tmp 11) x12 x11) fun x13 =>
    brV x13
    (bnd (pIndexAddr Try.prog 36 x10 x12) fun x15 =>
    bnd (pLoad Try.prog 3 x15 h) fun x16 =>
    G58_4 inv x0 x3 x12 x16 x10 x11 x12 h fun y17 h =>
    brV y17
    (kr (.int .i64 172) h)
    (bnd (pFieldAddr Try.prog 39 x3 3) fun x27 =>
    bnd (pLoad Try.prog 36 x27 h) fun x28 =>
    bnd (pSlice Try.prog 36 x28 none (some x12) none h) fun x30 =>
    bnd (inv (.func 76) #[] #[x30, x16] h) fun x32 =>
    brV x32.1
    (kr (.int .i64 190) x32.2)
    (bnd (pFieldAddr Try.prog 39 x3 4) fun x33 =>
    bnd (pLoad Try.prog 37 x33 x32.2) fun x34 =>
    bnd (pIndexAddr Try.prog 37 x34 x12) fun x36 =>
    bnd (pLoad Try.prog 45 x36 x32.2) fun x37 =>
    bnd (inv (.func 77) #[] #[x37] x32.2) fun x38 =>
    bnd (pBin Try.prog .neq 27 (.tmp 39) (.const (.int .i64 0)) x38.1 (.int .i64 0)) fun x40 =>
    brV x40
    (kr x38.1 x38.2)
    (bnd (pFieldAddr Try.prog 39 x3 4) fun x42 =>
    bnd (pLoad Try.prog 37 x42 x38.2) fun x43 =>
    bnd (pIndexAddr Try.prog 37 x43 x12) fun x45 =>
    bnd (pLoad Try.prog 45 x45 x38.2) fun x46 =>
    bnd (pAlloc Try.prog 45 x38.2) fun x8 =>
    bnd (kSt (pStore Try.prog 45 x8.1 x46 x8.2)) fun u =>
    G58_12 inv x0 x3 x16 x8.1 x10 x11 x12 u.2 fun y67 h_1 =>
    brV y67
    (kr (.int .i64 173) h_1)
    (bnd (pBin Try.prog .add 3 (.tmp 12) (.const (.int .i64 1)) x12 (.int .i64 1)) fun x68 =>
    F58_lrlr inv k j x0 x3 x10 x11 x68 h_1 ke0 kr)))))
    (ke0 x0 x3 x10 x11 x12 x13 h)
theorem F58_lrlr_j (j : Nat) : kLoop (kCode env 58 false inv k (cp c58 52)) j (act 69 [(0, x0), (3, x3), (10, x10), (11, x11), (12, x12)]) h K = F58_lrlr inv k j x0 x3 x10 x11 x12 h (fun y0 y3 y10 y11 y12 y13 h => K (.exit 0) (act 69 [(0, y0), (3, y3), (10, y10), (11, y11), (12, y12), (13, y13)]) h) (fun y4 h => K .ret (act 69 [(4, y4)]) h) := by
      induction j generalizing x0 x3 x10 x11 x12 h with
      | zero => rfl
      | succ j ih =>
        unfold F58_lrlr
        simp only [kLoop, kq_seq c58 52, r58_2, kq_seq c58 105, b58_lrllrlr, kq_skip c58 420, kq_seq c58 211, kq_block c58 422 1, kq_seq c58 844, r58_3, kq_seq c58 1689, kq_block c58 3378 2, kq_seq c58 6756, r58_4, b58_rllrllrrllrlr, kq_seq c58 27026, r58_5, kq_ret c58 54053, kq_seq c58 27027, r58_6, b58_rrrllrllrrllrlr, kq_seq c58 108110, r58_7, kq_ret c58 216221, kq_skip c58 108111, kq_seq c58 3379, kq_seq c58 6758, r58_8, kq_seq c58 13517, r58_9, b58_rrlrrllrrllrlr, kq_seq c58 54070, r58_10, kq_ret c58 108141, kq_skip c58 54071, kq_seq c58 6759, r58_11, kq_seq c58 13519, r58_12, b58_rrrrrllrrllrlr, kq_seq c58 54078, r58_13, kq_ret c58 108157, kq_skip c58 54079, r58_14, kq_exit c58 421 0, ih, reduceIte, reduceCtorEq, XE.exit.injEq, Nat.reduceEqDiff, Nat.reduceMul, Nat.reduceAdd] <;> kernel_rfl
theorem F58_lrlr_eq  : kCode env 58 false inv k (cp c58 26) (act 69 [(0, x0), (3, x3), (10, x10), (11, x11), (12, x12)]) h K = F58_lrlr inv k k x0 x3 x10 x11 x12 h (fun y0 y3 y10 y11 y12 y13 h => K (.exit 0) (act 69 [(0, y0), (3, y3), (10, y10), (11, y11), (12, y12), (13, y13)]) h) (fun y4 h => K .ret (act 69 [(4, y4)]) h) := kq_loop (F58_lrlr_j k)
theorem r58_15  : kCode env 58 false inv k (cp c58 14) (act 69 [(0, x0), (3, x3), (10, x10), (11, x11), (12, x12), (13, x13)]) h K =
    K .normal (act 69 [(4, (.int .i64 0))]) h := kq_reg
theorem res58_0 : resOfFn env.P 58 .ret (act 69 [(4, x4)]) h = some (x4, h) := kq_res
/-- shadowbook/batch.update -/
noncomputable def F58 (inv : Inv) (k : Nat) (x0 x1 : Value) (h : AH) : Option (Value × AH) :=
    bnd (pBox Try.prog 39 x1 h) fun x3 =>
    bnd (pFieldAddr Try.prog 39 x3.1 3) fun x9 =>
    bnd (pLoad Try.prog 36 x9 x3.2) fun x10 =>
    bnd (pLen Try.prog #[36] x10 x3.2) fun x11 =>
    F58_lrlr inv k k x0 x3.1 x10 x11 (.int .i64 0) x3.2
    (fun y0 y3 y10 y11 y12 y13 h =>
    some ((.int .i64 0), h))
    (fun y4 h_2 =>
    some (y4, h_2))
theorem F58_eq : eFun env k inv 58 #[x0, x1] h = F58 inv k x0 x1 h := by
      refine (kq_fun (a := act 69 [(0, x0), (1, x1)]) (c := cp c58 1)).trans ?_
      unfold F58
      simp only [kq_seq c58 1, r58_0, kq_seq c58 3, kq_seq c58 6, r58_1, kq_block c58 13 0, F58_lrlr_eq, kq_seq c58 7, r58_15, kq_ret c58 15, res58_0, reduceIte, reduceCtorEq, XE.exit.injEq, Nat.reduceEqDiff, Nat.reduceMul, Nat.reduceAdd] <;> kernel_rfl
theorem F58_call : eInv env (k + 1) (.func 58) #[] #[x0, x1] h = F58 (eInv env k) k x0 x1 h := kq_inv F58_eq
noncomputable def c59 : Code := codeOf Try.prog 59
theorem r59_0  : kCode env 59 false inv k (cp c59 2) (act 26 [(0, x0), (1, x1)]) h K =
    bnd (pBox Try.prog 80 x0 h) fun x2 =>
    bnd (pBox Try.prog 45 x1 x2.2) fun x3 =>
    K .normal (act 26 [(2, x2.1), (3, x3.1)]) x3.2 := kq_reg
theorem r59_1  : kCode env 59 false inv k (cp c59 6) (act 26 [(2, x2), (3, x3)]) h K =
    bnd (pLoad Try.prog 45 x3 h) fun x6 =>
    bnd (inv (.func 68) #[] #[x6] h) fun x7 =>
    K .normal (act 26 [(2, x2), (3, x3), (5, x7.1)]) x7.2 := kq_reg
theorem r59_2  : kCode env 59 false inv k (cp c59 28) (act 26 [(2, x2), (3, x3), (5, x5)]) h K =
    bnd (pBin Try.prog .neq 27 (.tmp 8) (.const (.int .i64 0)) x5 (.int .i64 0)) fun x9 =>
    K .normal (act 26 [(2, x2), (3, x3), (5, x5), (9, x9)]) h := kq_reg
theorem b59_rlrr  : kCode env 59 false inv k (cp c59 29) (act 26 [(2, x2), (3, x3), (5, x5), (9, x9)]) h K = brV x9 (kCode env 59 false inv k (cp c59 58) (act 26 [(2, x2), (3, x3), (5, x5), (9, x9)]) h K) (kCode env 59 false inv k (cp c59 59) (act 26 [(2, x2), (3, x3), (5, x5), (9, x9)]) h K) := kq_cond
theorem r59_3  : kCode env 59 false inv k (cp c59 116) (act 26 [(2, x2), (3, x3), (5, x5), (9, x9)]) h K =
    K .normal (act 26 [(4, x5)]) h := kq_reg
theorem res59_0 : resOfFn env.P 59 .ret (act 26 [(4, x4)]) h = some (x4, h) := kq_res
noncomputable abbrev G59_4 {β : Type} (inv : Inv) (x2 x3 : Value) (h : AH) (K : Value → AH → Option β) : Option β :=
    bnd (pFieldAddr Try.prog 45 x3 0) fun x11 =>
    bnd (pLoad Try.prog 3 x11 h) fun x12 =>
    bnd (pFieldAddr Try.prog 80 x2 1) fun x13 =>
    bnd (pLoad Try.prog 3 x13 h) fun x14 =>
    bnd (pBin Try.prog .neq 3 (.tmp 12) (.tmp 14) x12 x14) fun x15 =>
    bnd (gd (some x15) true h (lt (pFieldAddr Try.prog 45 x3 0) h)) fun x17 =>
    bnd (gd (some x15) true x17.2 (lt (pLoad Try.prog 3 x17.1 x17.2) x17.2)) fun x18 =>
    bnd (gd (some x15) true x18.2 (lt (pBin Try.prog .eql 3 (.tmp 18) (.const (.int .i64 0)) x18.1 (.int .i64 0)) x18.2)) fun x19 =>
    bnd (gd (some x15) true x19.2 (some (x19.1, x19.2))) fun x20 =>
    bnd (gd (some x20.1) true x20.2 (lt (pFieldAddr Try.prog 80 x2 2) x20.2)) fun x21 =>
    bnd (gd (some x20.1) true x21.2 (lt (pLoad Try.prog 4 x21.1 x21.2) x21.2)) fun x22 =>
    bnd (gd (some x15) true x22.2 (lt (pickV x20.1 x22.1 (.bool false)) x22.2)) fun x23 =>
    bnd (gd (some x15) true x23.2 (lt (pUn Try.prog .not x23.1) x23.2)) fun x24 =>
    bnd (pickV x15 x24.1 (.bool false)) fun x25 =>
    K (x25) x24.2
theorem r59_4  : kCode env 59 false inv k (cp c59 60) (act 26 [(2, x2), (3, x3), (5, x5), (9, x9)]) h K =
    G59_4 inv x2 x3 h fun y25 h => K .normal (act 26 [(25, y25)]) h := kq_reg
theorem b59_rlrrr  : kCode env 59 false inv k (cp c59 61) (act 26 [(25, x25)]) h K = brV x25 (kCode env 59 false inv k (cp c59 122) (act 26 [(25, x25)]) h K) (kCode env 59 false inv k (cp c59 123) (act 26 [(25, x25)]) h K) := kq_cond
theorem r59_5  : kCode env 59 false inv k (cp c59 244) (act 26 [(25, x25)]) h K =
    K .normal (act 26 [(4, (.int .i64 173))]) h := kq_reg
theorem r59_6  : kCode env 59 false inv k (cp c59 62) (act 26 [(25, x25)]) h K =
    K .normal (act 26 [(4, (.int .i64 0))]) h := kq_reg
/-- shadowbook/shadowbookref17.Cell -/
noncomputable def F59 (inv : Inv) (k : Nat) (x0 x1 : Value) (h : AH) : Option (Value × AH) :=
    bnd (pBox Try.prog 80 x0 h) fun x2 =>
    bnd (pBox Try.prog 45 x1 x2.2) fun x3 =>
    bnd (pLoad Try.prog 45 x3.1 x3.2) fun x6 =>
    bnd (inv (.func 68) #[] #[x6] x3.2) fun x7 =>
    bnd (pBin Try.prog .neq 27 (.tmp 8) (.const (.int .i64 0)) x7.1 (.int .i64 0)) fun x9 =>
    brV x9
    (some (x7.1, x7.2))
    (G59_4 inv x2.1 x3.1 x7.2 fun y25 h =>
    brV y25
    (some ((.int .i64 173), h))
    (some ((.int .i64 0), h)))
theorem F59_eq : eFun env k inv 59 #[x0, x1] h = F59 inv k x0 x1 h := by
      refine (kq_fun (a := act 26 [(0, x0), (1, x1)]) (c := cp c59 1)).trans ?_
      unfold F59
      simp only [kq_seq c59 1, r59_0, kq_seq c59 3, r59_1, kq_seq c59 7, kq_seq c59 14, r59_2, b59_rlrr, kq_seq c59 58, r59_3, kq_ret c59 117, res59_0, kq_skip c59 59, kq_seq c59 15, kq_seq c59 30, r59_4, b59_rlrrr, kq_seq c59 122, r59_5, kq_ret c59 245, kq_skip c59 123, kq_seq c59 31, r59_6, kq_ret c59 63, reduceIte, reduceCtorEq, XE.exit.injEq, Nat.reduceEqDiff, Nat.reduceMul, Nat.reduceAdd] <;> kernel_rfl
theorem F59_call : eInv env (k + 1) (.func 59) #[] #[x0, x1] h = F59 (eInv env k) k x0 x1 h := kq_inv F59_eq
noncomputable def c60 : Code := codeOf Try.prog 60
theorem r60_0  : kCode env 60 false inv k (cp c60 2) (act 19 [(0, x0), (1, x1)]) h K =
    K .normal (act 19 [(0, x0), (1, x1)]) h := kq_reg
theorem r60_1  : kCode env 60 false inv k (cp c60 12) (act 19 [(0, x0), (1, x1)]) h K =
    bnd (pLen Try.prog #[23] x0 h) fun x7 =>
    K .normal (act 19 [(0, x0), (1, x1), (7, x7), (8, (.int .i64 0))]) h := kq_reg
theorem r60_2  : kCode env 60 false inv k (cp c60 104) (act 19 [(0, x0), (1, x1), (7, x7), (8, x8)]) h K =
    bnd (pBin Try.prog .lss 3 (.tmp 8) (.tmp 7) x8 x7) fun x9 =>
    K .normal (act 19 [(0, x0), (1, x1), (7, x7), (8, x8), (9, x9)]) h := kq_reg
theorem b60_lrllrlr  : kCode env 60 false inv k (cp c60 210) (act 19 [(0, x0), (1, x1), (7, x7), (8, x8), (9, x9)]) h K = brV x9 (kCode env 60 false inv k (cp c60 420) (act 19 [(0, x0), (1, x1), (7, x7), (8, x8), (9, x9)]) h K) (kCode env 60 false inv k (cp c60 421) (act 19 [(0, x0), (1, x1), (7, x7), (8, x8), (9, x9)]) h K) := kq_cond
theorem r60_3  : kCode env 60 false inv k (cp c60 1688) (act 19 [(0, x0), (1, x1), (7, x7), (8, x8), (9, x9)]) h K =
    K .normal (act 19 [(0, x0), (1, x1), (5, x8), (7, x7), (8, x8)]) h := kq_reg
theorem r60_4  : kCode env 60 false inv k (cp c60 3378) (act 19 [(0, x0), (1, x1), (5, x5), (7, x7), (8, x8)]) h K =
    bnd (pIndexAddr Try.prog 23 x0 x5) fun x14 =>
    bnd (pLoad Try.prog 37 x14 h) fun x15 =>
    bnd (callV inv x1 #[x15] h) fun x16 =>
    K .normal (act 19 [(0, x0), (1, x1), (5, x5), (7, x7), (8, x8), (16, x16.1)]) x16.2 := kq_reg
theorem b60_rrllrrllrlr  : kCode env 60 false inv k (cp c60 3379) (act 19 [(0, x0), (1, x1), (5, x5), (7, x7), (8, x8), (16, x16)]) h K = brV x16 (kCode env 60 false inv k (cp c60 6758) (act 19 [(0, x0), (1, x1), (5, x5), (7, x7), (8, x8), (16, x16)]) h K) (kCode env 60 false inv k (cp c60 6759) (act 19 [(0, x0), (1, x1), (5, x5), (7, x7), (8, x8), (16, x16)]) h K) := kq_cond
theorem r60_5  : kCode env 60 false inv k (cp c60 13516) (act 19 [(0, x0), (1, x1), (5, x5), (7, x7), (8, x8), (16, x16)]) h K =
    K .normal (act 19 [(4, x5)]) h := kq_reg
theorem r60_6  : kCode env 60 false inv k (cp c60 423) (act 19 [(0, x0), (1, x1), (5, x5), (7, x7), (8, x8), (16, x16)]) h K =
    bnd (pBin Try.prog .add 3 (.tmp 8) (.const (.int .i64 1)) x8 (.int .i64 1)) fun x18 =>
    K .normal (act 19 [(0, x0), (1, x1), (7, x7), (8, x18)]) h := kq_reg
noncomputable def F60_lrlr {β : Type} (inv : Inv) (k : Nat) : Nat → Value → Value → Value → Value → AH → (Value → Value → Value → Value → Value → AH → Option β) → (Value → AH → Option β) → Option β
  | 0, _, _, _, _, _, _, _ => none
  | j + 1, x0, x1, x7, x8, h, ke0, kr =>
    bnd (pBin Try.prog .lss 3 (.tmp 8) (.tmp 7) x8 x7) fun x9 =>
    brV x9
    (bnd (pIndexAddr Try.prog 23 x0 x8) fun x14 =>
    bnd (pLoad Try.prog 37 x14 h) fun x15 =>
    bnd (callV inv x1 #[x15] h) fun x16 =>
    brV x16.1
    (kr x8 x16.2)
    (bnd (pBin Try.prog .add 3 (.tmp 8) (.const (.int .i64 1)) x8 (.int .i64 1)) fun x18 =>
    F60_lrlr inv k j x0 x1 x7 x18 x16.2 ke0 kr))
    (ke0 x0 x1 x7 x8 x9 h)
theorem F60_lrlr_j (j : Nat) : kLoop (kCode env 60 false inv k (cp c60 52)) j (act 19 [(0, x0), (1, x1), (7, x7), (8, x8)]) h K = F60_lrlr inv k j x0 x1 x7 x8 h (fun y0 y1 y7 y8 y9 h => K (.exit 0) (act 19 [(0, y0), (1, y1), (7, y7), (8, y8), (9, y9)]) h) (fun y4 h => K .ret (act 19 [(4, y4)]) h) := by
      induction j generalizing x0 x1 x7 x8 h with
      | zero => rfl
      | succ j ih =>
        unfold F60_lrlr
        simp only [kLoop, kq_seq c60 52, r60_2, kq_seq c60 105, b60_lrllrlr, kq_skip c60 420, kq_seq c60 211, kq_block c60 422 1, kq_seq c60 844, r60_3, kq_seq c60 1689, r60_4, b60_rrllrrllrlr, kq_seq c60 6758, r60_5, kq_ret c60 13517, kq_skip c60 6759, r60_6, kq_exit c60 421 0, ih, reduceIte, reduceCtorEq, XE.exit.injEq, Nat.reduceEqDiff, Nat.reduceMul, Nat.reduceAdd] <;> kernel_rfl
theorem F60_lrlr_eq  : kCode env 60 false inv k (cp c60 26) (act 19 [(0, x0), (1, x1), (7, x7), (8, x8)]) h K = F60_lrlr inv k k x0 x1 x7 x8 h (fun y0 y1 y7 y8 y9 h => K (.exit 0) (act 19 [(0, y0), (1, y1), (7, y7), (8, y8), (9, y9)]) h) (fun y4 h => K .ret (act 19 [(4, y4)]) h) := kq_loop (F60_lrlr_j k)
theorem r60_7  : kCode env 60 false inv k (cp c60 14) (act 19 [(0, x0), (1, x1), (7, x7), (8, x8), (9, x9)]) h K =
    K .normal (act 19 [(4, (.int .i64 (-1)))]) h := kq_reg
theorem res60_0 : resOfFn env.P 60 .ret (act 19 [(4, x4)]) h = some (x4, h) := kq_res
/-- slices.IndexFunc[[][]shadowbook/api.Cell,[]shadowbook/api.Cell] -/
noncomputable def F60 (inv : Inv) (k : Nat) (x0 x1 : Value) (h : AH) : Option (Value × AH) :=
    bnd (pLen Try.prog #[23] x0 h) fun x7 =>
    F60_lrlr inv k k x0 x1 x7 (.int .i64 0) h
    (fun y0 y1 y7 y8 y9 h =>
    some ((.int .i64 (-1)), h))
    (fun y4 h_1 =>
    some (y4, h_1))
theorem F60_eq : eFun env k inv 60 #[x0, x1] h = F60 inv k x0 x1 h := by
      refine (kq_fun (a := act 19 [(0, x0), (1, x1)]) (c := cp c60 1)).trans ?_
      unfold F60
      simp only [kq_seq c60 1, r60_0, kq_seq c60 3, kq_seq c60 6, r60_1, kq_block c60 13 0, F60_lrlr_eq, kq_seq c60 7, r60_7, kq_ret c60 15, res60_0, reduceIte, reduceCtorEq, XE.exit.injEq, Nat.reduceEqDiff, Nat.reduceMul, Nat.reduceAdd] <;> kernel_rfl
theorem F60_call : eInv env (k + 1) (.func 60) #[] #[x0, x1] h = F60 (eInv env k) k x0 x1 h := kq_inv F60_eq
noncomputable def c61 : Code := codeOf Try.prog 61
theorem r61_0  : kCode env 61 false inv k (cp c61 2) (act 58 [(0, x0), (1, x1), (2, x2)]) h K =
    K .normal (act 58 [(0, x0), (1, x1), (2, x2), (6, (.bool false))]) h := kq_reg
theorem r61_1  : kCode env 61 false inv k (cp c61 6) (act 58 [(0, x0), (1, x1), (2, x2), (6, x6)]) h K =
    bnd (pLen Try.prog #[35] x0 h) fun x15 =>
    bnd (pMakeSlice Try.prog 71 (.int .i64 0) x15 h) fun x16 =>
    K .normal (act 58 [(0, x0), (1, x1), (2, x2), (6, x6), (7, x16.1)]) x16.2 := kq_reg
theorem r61_2  : kCode env 61 false inv k (cp c61 28) (act 58 [(0, x0), (1, x1), (2, x2), (6, x6), (7, x7)]) h K =
    bnd (pLen Try.prog #[35] x0 h) fun x18 =>
    K .normal (act 58 [(1, x1), (2, x2), (6, x6), (7, x7), (17, x0), (18, x18), (19, (.int .i64 0))]) h := kq_reg
theorem r61_3  : kCode env 61 false inv k (cp c61 232) (act 58 [(1, x1), (2, x2), (6, x6), (7, x7), (17, x17), (18, x18), (19, x19)]) h K =
    bnd (pBin Try.prog .lss 3 (.tmp 19) (.tmp 18) x19 x18) fun x20 =>
    K .normal (act 58 [(1, x1), (2, x2), (6, x6), (7, x7), (17, x17), (18, x18), (19, x19), (20, x20)]) h := kq_reg
theorem b61_lrllrlrr  : kCode env 61 false inv k (cp c61 466) (act 58 [(1, x1), (2, x2), (6, x6), (7, x7), (17, x17), (18, x18), (19, x19), (20, x20)]) h K = brV x20 (kCode env 61 false inv k (cp c61 932) (act 58 [(1, x1), (2, x2), (6, x6), (7, x7), (17, x17), (18, x18), (19, x19), (20, x20)]) h K) (kCode env 61 false inv k (cp c61 933) (act 58 [(1, x1), (2, x2), (6, x6), (7, x7), (17, x17), (18, x18), (19, x19), (20, x20)]) h K) := kq_cond
theorem r61_4  : kCode env 61 false inv k (cp c61 3736) (act 58 [(1, x1), (2, x2), (6, x6), (7, x7), (17, x17), (18, x18), (19, x19), (20, x20)]) h K =
    bnd (pIndexAddr Try.prog 35 x17 x19) fun x22 =>
    bnd (pLoad Try.prog 59 x22 h) fun x23 =>
    bnd (pAlloc Try.prog 59 h) fun x9 =>
    bnd (kSt (pStore Try.prog 59 x9.1 x23 x9.2)) fun u =>
    K .normal (act 58 [(1, x1), (2, x2), (7, x7), (8, x19), (9, x9.1), (17, x17), (18, x18), (19, x19)]) u.2 := kq_reg
theorem r61_5  : kCode env 61 false inv k (cp c61 7474) (act 58 [(1, x1), (2, x2), (7, x7), (8, x8), (9, x9), (17, x17), (18, x18), (19, x19)]) h K =
    K .normal (act 58 [(1, x1), (2, x2), (7, x7), (8, x8), (9, x9), (10, (.slice none 0 0)), (17, x17), (18, x18), (19, x19)]) h := kq_reg
theorem r61_6  : kCode env 61 false inv k (cp c61 29900) (act 58 [(1, x1), (2, x2), (7, x7), (8, x8), (9, x9), (10, x10), (17, x17), (18, x18), (19, x19)]) h K =
    bnd (pFieldAddr Try.prog 59 x9 3) fun x24 =>
    bnd (pLoad Try.prog 36 x24 h) fun x25 =>
    bnd (pLen Try.prog #[36] x25 h) fun x26 =>
    K .normal (act 58 [(1, x1), (2, x2), (7, x7), (8, x8), (9, x9), (10, x10), (17, x17), (18, x18), (19, x19), (25, x25), (26, x26), (27, (.int .i64 0))]) h := kq_reg
theorem r61_7  : kCode env 61 false inv k (cp c61 239208) (act 58 [(1, x1), (2, x2), (7, x7), (8, x8), (9, x9), (10, x10), (17, x17), (18, x18), (19, x19), (25, x25), (26, x26), (27, x27)]) h K =
    bnd (pBin Try.prog .lss 3 (.tmp 27) (.tmp 26) x27 x26) fun x28 =>
    K .normal (act 58 [(1, x1), (2, x2), (7, x7), (8, x8), (9, x9), (10, x10), (17, x17), (18, x18), (19, x19), (25, x25), (26, x26), (27, x27), (28, x28)]) h := kq_reg
theorem b61_lrllrlrrllrrllrlrr  : kCode env 61 false inv k (cp c61 478418) (act 58 [(1, x1), (2, x2), (7, x7), (8, x8), (9, x9), (10, x10), (17, x17), (18, x18), (19, x19), (25, x25), (26, x26), (27, x27), (28, x28)]) h K = brV x28 (kCode env 61 false inv k (cp c61 956836) (act 58 [(1, x1), (2, x2), (7, x7), (8, x8), (9, x9), (10, x10), (17, x17), (18, x18), (19, x19), (25, x25), (26, x26), (27, x27), (28, x28)]) h K) (kCode env 61 false inv k (cp c61 956837) (act 58 [(1, x1), (2, x2), (7, x7), (8, x8), (9, x9), (10, x10), (17, x17), (18, x18), (19, x19), (25, x25), (26, x26), (27, x27), (28, x28)]) h K) := kq_cond
theorem r61_8  : kCode env 61 false inv k (cp c61 3827352) (act 58 [(1, x1), (2, x2), (7, x7), (8, x8), (9, x9), (10, x10), (17, x17), (18, x18), (19, x19), (25, x25), (26, x26), (27, x27), (28, x28)]) h K =
    bnd (pIndexAddr Try.prog 36 x25 x27) fun x29 =>
    bnd (pLoad Try.prog 3 x29 h) fun x30 =>
    K .normal (act 58 [(1, x1), (2, x2), (7, x7), (8, x8), (9, x9), (10, x10), (12, x30), (17, x17), (18, x18), (19, x19), (25, x25), (26, x26), (27, x27)]) h := kq_reg
theorem r61_9  : kCode env 61 false inv k (cp c61 7654706) (act 58 [(1, x1), (2, x2), (7, x7), (8, x8), (9, x9), (10, x10), (12, x12), (17, x17), (18, x18), (19, x19), (25, x25), (26, x26), (27, x27)]) h K =
    K .normal (act 58 [(1, x1), (2, x2), (7, x7), (8, x8), (9, x9), (10, x10), (12, x12), (13, x1), (17, x17), (18, x18), (19, x19), (25, x25), (26, x26), (27, x27)]) h := kq_reg
noncomputable abbrev G61_10 {β : Type} (inv : Inv) (x1 x2 x7 x8 x9 x10 x12 x13 x17 x18 x19 x25 x26 x27 : Value) (h : AH) (K : Value → AH → Option β) : Option β :=
    bnd (pBin Try.prog .geq 3 (.tmp 32) (.const (.int .i64 0)) x12 (.int .i64 0)) fun x33 =>
    bnd (gd (some x33) true h (some (x12, h))) fun x35 =>
    bnd (gd (some x33) true x35.2 (some (x8, x35.2))) fun x36 =>
    bnd (gd (some x33) true x36.2 (lt (pBin Try.prog .lss 3 (.tmp 35) (.tmp 36) x35.1 x36.1) x36.2)) fun x37 =>
    bnd (pickV x33 x37.1 (.bool false)) fun x38 =>
    K (x38) x37.2
theorem r61_10  : kCode env 61 false inv k (cp c61 30618828) (act 58 [(1, x1), (2, x2), (7, x7), (8, x8), (9, x9), (10, x10), (12, x12), (13, x13), (17, x17), (18, x18), (19, x19), (25, x25), (26, x26), (27, x27)]) h K =
    G61_10 inv x1 x2 x7 x8 x9 x10 x12 x13 x17 x18 x19 x25 x26 x27 h fun y38 h => K .normal (act 58 [(1, x1), (2, x2), (7, x7), (8, x8), (9, x9), (10, x10), (12, x12), (13, x13), (17, x17), (18, x18), (19, x19), (25, x25), (26, x26), (27, x27), (38, y38)]) h := kq_reg
theorem b61_rlrrllrrllrlrrllrrllrlrr  : kCode env 61 false inv k (cp c61 30618829) (act 58 [(1, x1), (2, x2), (7, x7), (8, x8), (9, x9), (10, x10), (12, x12), (13, x13), (17, x17), (18, x18), (19, x19), (25, x25), (26, x26), (27, x27), (38, x38)]) h K = brV x38 (kCode env 61 false inv k (cp c61 61237658) (act 58 [(1, x1), (2, x2), (7, x7), (8, x8), (9, x9), (10, x10), (12, x12), (13, x13), (17, x17), (18, x18), (19, x19), (25, x25), (26, x26), (27, x27), (38, x38)]) h K) (kCode env 61 false inv k (cp c61 61237659) (act 58 [(1, x1), (2, x2), (7, x7), (8, x8), (9, x9), (10, x10), (12, x12), (13, x13), (17, x17), (18, x18), (19, x19), (25, x25), (26, x26), (27, x27), (38, x38)]) h K) := kq_cond
theorem r61_11  : kCode env 61 false inv k (cp c61 61237658) (act 58 [(1, x1), (2, x2), (7, x7), (8, x8), (9, x9), (10, x10), (12, x12), (13, x13), (17, x17), (18, x18), (19, x19), (25, x25), (26, x26), (27, x27), (38, x38)]) h K =
    bnd (pIndexAddr Try.prog 71 x7 x12) fun x41 =>
    bnd (pLoad Try.prog 4 x41 h) fun x42 =>
    K .normal (act 58 [(1, x1), (2, x2), (7, x7), (8, x8), (9, x9), (10, x10), (13, x42), (17, x17), (18, x18), (19, x19), (25, x25), (26, x26), (27, x27)]) h := kq_reg
noncomputable def F61_rlrrllrrllrlrrllrrllrlrr {β : Type} (inv : Inv) (k : Nat) (x1 x2 x7 x8 x9 x10 x12 x13 x17 x18 x19 x25 x26 x27 x38 : Value) (h : AH) (kn : (Value → Value → Value → Value → Value → Value → Value → Value → Value → Value → Value → Value → Value → Value → Value → AH → Option β)) : Option β :=
    brV x38
    (bnd (pIndexAddr Try.prog 71 x7 x12) fun x41 =>
    bnd (pLoad Try.prog 4 x41 h) fun x42 =>
    kn x1 x2 x7 x8 x9 x10 unk x42 x17 x18 x19 x25 x26 x27 unk h)
    (kn x1 x2 x7 x8 x9 x10 x12 x13 x17 x18 x19 x25 x26 x27 x38 h)
theorem F61_rlrrllrrllrlrrllrrllrlrr_eq  : kCode env 61 false inv k (cp c61 30618829) (act 58 [(1, x1), (2, x2), (7, x7), (8, x8), (9, x9), (10, x10), (12, x12), (13, x13), (17, x17), (18, x18), (19, x19), (25, x25), (26, x26), (27, x27), (38, x38)]) h K = F61_rlrrllrrllrlrrllrrllrlrr inv k x1 x2 x7 x8 x9 x10 x12 x13 x17 x18 x19 x25 x26 x27 x38 h (fun y1 y2 y7 y8 y9 y10 y12 y13 y17 y18 y19 y25 y26 y27 y38 h => K .normal (act 58 [(1, y1), (2, y2), (7, y7), (8, y8), (9, y9), (10, y10), (12, y12), (13, y13), (17, y17), (18, y18), (19, y19), (25, y25), (26, y26), (27, y27), (38, y38)]) h) := by
      unfold F61_rlrrllrrllrlrrllrrllrlrr
      simp only [b61_rlrrllrrllrlrrllrrllrlrr, r61_11, kq_skip c61 61237659, reduceIte, reduceCtorEq, XE.exit.injEq, Nat.reduceEqDiff, Nat.reduceMul, Nat.reduceAdd] <;> kernel_rfl
theorem r61_12  : kCode env 61 false inv k (cp c61 15309415) (act 58 [(1, x1), (2, x2), (7, x7), (8, x8), (9, x9), (10, x10), (12, x12), (13, x13), (17, x17), (18, x18), (19, x19), (25, x25), (26, x26), (27, x27), (38, x38)]) h K =
    bnd (pBuildSlice Try.prog 71 1 #[(0, x13)] h) fun x45 =>
    bnd (pAppend Try.prog #[71, 71] x10 x45.1 x45.2) fun x46 =>
    K .normal (act 58 [(1, x1), (2, x2), (7, x7), (8, x8), (9, x9), (10, x46.1), (17, x17), (18, x18), (19, x19), (25, x25), (26, x26), (27, x27)]) x46.2 := kq_reg
theorem r61_13  : kCode env 61 false inv k (cp c61 956839) (act 58 [(1, x1), (2, x2), (7, x7), (8, x8), (9, x9), (10, x10), (17, x17), (18, x18), (19, x19), (25, x25), (26, x26), (27, x27)]) h K =
    bnd (pBin Try.prog .add 3 (.tmp 27) (.const (.int .i64 1)) x27 (.int .i64 1)) fun x47 =>
    K .normal (act 58 [(1, x1), (2, x2), (7, x7), (8, x8), (9, x9), (10, x10), (17, x17), (18, x18), (19, x19), (25, x25), (26, x26), (27, x47)]) h := kq_reg
noncomputable def F61_lrlrrllrrllrlrr {β : Type} (inv : Inv) (k : Nat) : Nat → Value → Value → Value → Value → Value → Value → Value → Value → Value → Value → Value → Value → AH → (Value → Value → Value → Value → Value → Value → Value → Value → Value → Value → Value → Value → Value → AH → Option β) → Option β
  | 0, _, _, _, _, _, _, _, _, _, _, _, _, _, _ => none
  | j + 1, x1, x2, x7, x8, x9, x10, x17, x18, x19, x25, x26, x27, h, ke2 =>
    bnd (pBin Try.prog .lss 3 (.tmp 27) (.tmp 26) x27 x26) fun x28 =>
    brV x28
    (bnd (pIndexAddr Try.prog 36 x25 x27) fun x29 =>
    bnd (pLoad Try.prog 3 x29 h) fun x30 =>
    G61_10 inv x1 x2 x7 x8 x9 x10 x30 x1 x17 x18 x19 x25 x26 x27 h fun y38 h =>
    F61_rlrrllrrllrlrrllrrllrlrr inv k x1 x2 x7 x8 x9 x10 x30 x1 x17 x18 x19 x25 x26 x27 y38 h
    (fun y1 y2 y7 y8 y9 y10 y12 y13 y17 y18 y19 y25 y26 y27 y38_1 h_2 =>
    bnd (pBuildSlice Try.prog 71 1 #[(0, y13)] h_2) fun x45 =>
    bnd (pAppend Try.prog #[71, 71] y10 x45.1 x45.2) fun x46 =>
    bnd (pBin Try.prog .add 3 (.tmp 27) (.const (.int .i64 1)) y27 (.int .i64 1)) fun x47 =>
    F61_lrlrrllrrllrlrr inv k j y1 y2 y7 y8 y9 x46.1 y17 y18 y19 y25 y26 x47 x46.2 ke2))
    (ke2 x1 x2 x7 x8 x9 x10 x17 x18 x19 x25 x26 x27 x28 h)
theorem F61_lrlrrllrrllrlrr_j (j : Nat) : kLoop (kCode env 61 false inv k (cp c61 119604)) j (act 58 [(1, x1), (2, x2), (7, x7), (8, x8), (9, x9), (10, x10), (17, x17), (18, x18), (19, x19), (25, x25), (26, x26), (27, x27)]) h K = F61_lrlrrllrrllrlrr inv k j x1 x2 x7 x8 x9 x10 x17 x18 x19 x25 x26 x27 h (fun y1 y2 y7 y8 y9 y10 y17 y18 y19 y25 y26 y27 y28 h => K (.exit 2) (act 58 [(1, y1), (2, y2), (7, y7), (8, y8), (9, y9), (10, y10), (17, y17), (18, y18), (19, y19), (25, y25), (26, y26), (27, y27), (28, y28)]) h) := by
      induction j generalizing x1 x2 x7 x8 x9 x10 x17 x18 x19 x25 x26 x27 h with
      | zero => rfl
      | succ j ih =>
        unfold F61_lrlrrllrrllrlrr
        simp only [kLoop, kq_seq c61 119604, r61_7, kq_seq c61 239209, b61_lrllrlrrllrrllrlrr, kq_skip c61 956836, kq_seq c61 478419, kq_block c61 956838 3, kq_seq c61 1913676, r61_8, kq_seq c61 3827353, r61_9, kq_seq c61 7654707, kq_seq c61 15309414, r61_10, F61_rlrrllrrllrlrrllrrllrlrr_eq, r61_12, r61_13, kq_exit c61 956837 2, ih, reduceIte, reduceCtorEq, XE.exit.injEq, Nat.reduceEqDiff, Nat.reduceMul, Nat.reduceAdd] <;> kernel_rfl
theorem F61_lrlrrllrrllrlrr_eq  : kCode env 61 false inv k (cp c61 59802) (act 58 [(1, x1), (2, x2), (7, x7), (8, x8), (9, x9), (10, x10), (17, x17), (18, x18), (19, x19), (25, x25), (26, x26), (27, x27)]) h K = F61_lrlrrllrrllrlrr inv k k x1 x2 x7 x8 x9 x10 x17 x18 x19 x25 x26 x27 h (fun y1 y2 y7 y8 y9 y10 y17 y18 y19 y25 y26 y27 y28 h => K (.exit 2) (act 58 [(1, y1), (2, y2), (7, y7), (8, y8), (9, y9), (10, y10), (17, y17), (18, y18), (19, y19), (25, y25), (26, y26), (27, y27), (28, y28)]) h) := kq_loop (F61_lrlrrllrrllrlrr_j k)
theorem r61_14  : kCode env 61 false inv k (cp c61 29902) (act 58 [(1, x1), (2, x2), (7, x7), (8, x8), (9, x9), (10, x10), (17, x17), (18, x18), (19, x19), (25, x25), (26, x26), (27, x27), (28, x28)]) h K =
    bnd (pLoad Try.prog 59 x9 h) fun x49 =>
    bnd (callV inv x2 #[x49, x10] h) fun x51 =>
    K .normal (act 58 [(1, x1), (2, x2), (6, x51.1), (7, x7), (17, x17), (18, x18), (19, x19)]) x51.2 := kq_reg
theorem r61_15  : kCode env 61 false inv k (cp c61 29903) (act 58 [(1, x1), (2, x2), (6, x6), (7, x7), (17, x17), (18, x18), (19, x19)]) h K =
    bnd (pBuildSlice Try.prog 71 1 #[(0, x6)] h) fun x54 =>
    bnd (pAppend Try.prog #[71, 71] x7 x54.1 x54.2) fun x55 =>
    K .normal (act 58 [(1, x1), (2, x2), (6, x6), (7, x55.1), (17, x17), (18, x18), (19, x19)]) x55.2 := kq_reg
theorem r61_16  : kCode env 61 false inv k (cp c61 935) (act 58 [(1, x1), (2, x2), (6, x6), (7, x7), (17, x17), (18, x18), (19, x19)]) h K =
    bnd (pBin Try.prog .add 3 (.tmp 19) (.const (.int .i64 1)) x19 (.int .i64 1)) fun x56 =>
    K .normal (act 58 [(1, x1), (2, x2), (6, x6), (7, x7), (17, x17), (18, x18), (19, x56)]) h := kq_reg
noncomputable def F61_lrlrr {β : Type} (inv : Inv) (k : Nat) : Nat → Value → Value → Value → Value → Value → Value → Value → AH → (Value → Value → Value → Value → Value → Value → Value → Value → AH → Option β) → Option β
  | 0, _, _, _, _, _, _, _, _, _ => none
  | j + 1, x1, x2, x6, x7, x17, x18, x19, h, ke0 =>
    bnd (pBin Try.prog .lss 3 (.tmp 19) (.tmp 18) x19 x18) fun x20 =>
    brV x20
    (bnd (pIndexAddr Try.prog 35 x17 x19) fun x22 =>
    bnd (pLoad Try.prog 59 x22 h) fun x23 =>
    bnd (pAlloc Try.prog 59 h) fun x9 =>
    bnd (kSt (pStore Try.prog 59 x9.1 x23 x9.2)) fun u =>
    bnd (pFieldAddr Try.prog 59 x9.1 3) fun x24 =>
    bnd (pLoad Try.prog 36 x24 u.2) fun x25 =>
    bnd (pLen Try.prog #[36] x25 u.2) fun x26 =>
    F61_lrlrrllrrllrlrr inv k k x1 x2 x7 x19 x9.1 (.slice none 0 0) x17 x18 x19 x25 x26 (.int .i64 0) u.2
    (fun y1 y2 y7 y8 y9 y10 y17 y18 y19 y25 y26 y27 y28 h =>
    bnd (pLoad Try.prog 59 y9 h) fun x49 =>
    bnd (callV inv y2 #[x49, y10] h) fun x51 =>
    bnd (pBuildSlice Try.prog 71 1 #[(0, x51.1)] x51.2) fun x54 =>
    bnd (pAppend Try.prog #[71, 71] y7 x54.1 x54.2) fun x55 =>
    bnd (pBin Try.prog .add 3 (.tmp 19) (.const (.int .i64 1)) y19 (.int .i64 1)) fun x56 =>
    F61_lrlrr inv k j y1 y2 x51.1 x55.1 y17 y18 x56 x55.2 ke0))
    (ke0 x1 x2 x6 x7 x17 x18 x19 x20 h)
theorem F61_lrlrr_j (j : Nat) : kLoop (kCode env 61 false inv k (cp c61 116)) j (act 58 [(1, x1), (2, x2), (6, x6), (7, x7), (17, x17), (18, x18), (19, x19)]) h K = F61_lrlrr inv k j x1 x2 x6 x7 x17 x18 x19 h (fun y1 y2 y6 y7 y17 y18 y19 y20 h => K (.exit 0) (act 58 [(1, y1), (2, y2), (6, y6), (7, y7), (17, y17), (18, y18), (19, y19), (20, y20)]) h) := by
      induction j generalizing x1 x2 x6 x7 x17 x18 x19 h with
      | zero => rfl
      | succ j ih =>
        unfold F61_lrlrr
        simp only [kLoop, kq_seq c61 116, r61_3, kq_seq c61 233, b61_lrllrlrr, kq_skip c61 932, kq_seq c61 467, kq_block c61 934 1, kq_seq c61 1868, r61_4, kq_seq c61 3737, r61_5, kq_seq c61 7475, kq_seq c61 14950, r61_6, kq_block c61 29901 2, F61_lrlrrllrrllrlrr_eq, kq_seq c61 14951, r61_14, r61_15, r61_16, kq_exit c61 933 0, ih, reduceIte, reduceCtorEq, XE.exit.injEq, Nat.reduceEqDiff, Nat.reduceMul, Nat.reduceAdd] <;> kernel_rfl
theorem F61_lrlrr_eq  : kCode env 61 false inv k (cp c61 58) (act 58 [(1, x1), (2, x2), (6, x6), (7, x7), (17, x17), (18, x18), (19, x19)]) h K = F61_lrlrr inv k k x1 x2 x6 x7 x17 x18 x19 h (fun y1 y2 y6 y7 y17 y18 y19 y20 h => K (.exit 0) (act 58 [(1, y1), (2, y2), (6, y6), (7, y7), (17, y17), (18, y18), (19, y19), (20, y20)]) h) := kq_loop (F61_lrlrr_j k)
theorem r61_17  : kCode env 61 false inv k (cp c61 30) (act 58 [(1, x1), (2, x2), (6, x6), (7, x7), (17, x17), (18, x18), (19, x19), (20, x20)]) h K =
    K .normal (act 58 [(6, x6)]) h := kq_reg
theorem res61_0 : resOfFn env.P 61 .ret (act 58 [(6, x6)]) h = some (x6, h) := kq_res
/-- shadowbook/pred.gone[bool] -/
noncomputable def F61 (inv : Inv) (k : Nat) (x0 x1 x2 : Value) (h : AH) : Option (Value × AH) :=
    bnd (pLen Try.prog #[35] x0 h) fun x15 =>
    bnd (pMakeSlice Try.prog 71 (.int .i64 0) x15 h) fun x16 =>
    bnd (pLen Try.prog #[35] x0 x16.2) fun x18 =>
    F61_lrlrr inv k k x1 x2 (.bool false) x16.1 x0 x18 (.int .i64 0) x16.2
    (fun y1 y2 y6 y7 y17 y18 y19 y20 h =>
    some (y6, h))
theorem F61_eq : eFun env k inv 61 #[x0, x1, x2] h = F61 inv k x0 x1 x2 h := by
      refine (kq_fun (a := act 58 [(0, x0), (1, x1), (2, x2)]) (c := cp c61 1)).trans ?_
      unfold F61
      simp only [kq_seq c61 1, r61_0, kq_seq c61 3, r61_1, kq_seq c61 7, kq_seq c61 14, r61_2, kq_block c61 29 0, F61_lrlrr_eq, kq_seq c61 15, r61_17, kq_ret c61 31, res61_0, reduceIte, reduceCtorEq, XE.exit.injEq, Nat.reduceEqDiff, Nat.reduceMul, Nat.reduceAdd] <;> kernel_rfl
theorem F61_call : eInv env (k + 1) (.func 61) #[] #[x0, x1, x2] h = F61 (eInv env k) k x0 x1 x2 h := kq_inv F61_eq
noncomputable def c62 : Code := codeOf Try.prog 62
theorem r62_0  : kCode env 62 false inv k (cp c62 2) (act 36 [(0, x0), (1, x1), (2, x2)]) h K =
    bnd (pBox Try.prog 59 x0 h) fun x3 =>
    K .normal (act 36 [(1, x1), (2, x2), (3, x3.1)]) x3.2 := kq_reg
theorem r62_1  : kCode env 62 false inv k (cp c62 24) (act 36 [(1, x1), (2, x2), (3, x3)]) h K =
    bnd (pFieldAddr Try.prog 59 x3 0) fun x7 =>
    bnd (pLoad Try.prog 3 x7 h) fun x8 =>
    bnd (inv (.func 63) #[] #[x8] h) fun x9 =>
    K .normal (act 36 [(1, x1), (2, x2), (3, x3), (6, x9.1)]) x9.2 := kq_reg
theorem b62_rllr  : kCode env 62 false inv k (cp c62 25) (act 36 [(1, x1), (2, x2), (3, x3), (6, x6)]) h K = brV x6 (kCode env 62 false inv k (cp c62 50) (act 36 [(1, x1), (2, x2), (3, x3), (6, x6)]) h K) (kCode env 62 false inv k (cp c62 51) (act 36 [(1, x1), (2, x2), (3, x3), (6, x6)]) h K) := kq_cond
theorem r62_2  : kCode env 62 false inv k (cp c62 100) (act 36 [(1, x1), (2, x2), (3, x3), (6, x6)]) h K =
    bnd (pLoad Try.prog 59 x3 h) fun x10 =>
    bnd (pLoad Try.prog 37 x2 h) fun x11 =>
    bnd (inv (.func 64) #[] #[x10, x11] h) fun x12 =>
    K .normal (act 36 [(5, x12.1)]) x12.2 := kq_reg
theorem res62_0 : resOfFn env.P 62 .ret (act 36 [(5, x5)]) h = some (x5, h) := kq_res
theorem r62_3  : kCode env 62 false inv k (cp c62 102) (act 36 [(1, x1), (2, x2), (3, x3), (6, x6)]) h K =
    bnd (pFieldAddr Try.prog 59 x3 0) fun x14 =>
    bnd (pLoad Try.prog 3 x14 h) fun x15 =>
    bnd (pBin Try.prog .eql 3 (.tmp 15) (.const (.int .i64 1)) x15 (.int .i64 1)) fun x16 =>
    K .normal (act 36 [(1, x1), (3, x3), (13, x16)]) h := kq_reg
theorem b62_rrrllr  : kCode env 62 false inv k (cp c62 103) (act 36 [(1, x1), (3, x3), (13, x13)]) h K = brV x13 (kCode env 62 false inv k (cp c62 206) (act 36 [(1, x1), (3, x3), (13, x13)]) h K) (kCode env 62 false inv k (cp c62 207) (act 36 [(1, x1), (3, x3), (13, x13)]) h K) := kq_cond
theorem r62_4  : kCode env 62 false inv k (cp c62 412) (act 36 [(1, x1), (3, x3), (13, x13)]) h K =
    K .normal (act 36 [(5, (.bool true))]) h := kq_reg
theorem r62_5  : kCode env 62 false inv k (cp c62 414) (act 36 [(1, x1), (3, x3), (13, x13)]) h K =
    bnd (pFieldAddr Try.prog 59 x3 0) fun x18 =>
    bnd (pLoad Try.prog 3 x18 h) fun x19 =>
    bnd (pBin Try.prog .eql 3 (.tmp 19) (.const (.int .i64 6)) x19 (.int .i64 6)) fun x20 =>
    K .normal (act 36 [(1, x1), (3, x3), (17, x20)]) h := kq_reg
theorem b62_rrrrrllr  : kCode env 62 false inv k (cp c62 415) (act 36 [(1, x1), (3, x3), (17, x17)]) h K = brV x17 (kCode env 62 false inv k (cp c62 830) (act 36 [(1, x1), (3, x3), (17, x17)]) h K) (kCode env 62 false inv k (cp c62 831) (act 36 [(1, x1), (3, x3), (17, x17)]) h K) := kq_cond
theorem r62_6  : kCode env 62 false inv k (cp c62 1660) (act 36 [(1, x1), (3, x3), (17, x17)]) h K =
    bnd (inv (.func 65) #[] #[x1, (.bool false)] h) fun x22 =>
    bnd (pUn Try.prog .not x22.1) fun x23 =>
    K .normal (act 36 [(5, x23)]) x22.2 := kq_reg
theorem r62_7  : kCode env 62 false inv k (cp c62 1662) (act 36 [(1, x1), (3, x3), (17, x17)]) h K =
    bnd (pFieldAddr Try.prog 59 x3 0) fun x25 =>
    bnd (pLoad Try.prog 3 x25 h) fun x26 =>
    bnd (pBin Try.prog .eql 3 (.tmp 26) (.const (.int .i64 7)) x26 (.int .i64 7)) fun x27 =>
    K .normal (act 36 [(1, x1), (3, x3), (24, x27)]) h := kq_reg
theorem b62_rrrrrrrllr  : kCode env 62 false inv k (cp c62 1663) (act 36 [(1, x1), (3, x3), (24, x24)]) h K = brV x24 (kCode env 62 false inv k (cp c62 3326) (act 36 [(1, x1), (3, x3), (24, x24)]) h K) (kCode env 62 false inv k (cp c62 3327) (act 36 [(1, x1), (3, x3), (24, x24)]) h K) := kq_cond
theorem r62_8  : kCode env 62 false inv k (cp c62 6652) (act 36 [(1, x1), (3, x3), (24, x24)]) h K =
    bnd (inv (.func 65) #[] #[x1, (.bool true)] h) fun x29 =>
    K .normal (act 36 [(5, x29.1)]) x29.2 := kq_reg
theorem r62_9  : kCode env 62 false inv k (cp c62 6654) (act 36 [(1, x1), (3, x3), (24, x24)]) h K =
    bnd (pFieldAddr Try.prog 59 x3 0) fun x31 =>
    bnd (pLoad Try.prog 3 x31 h) fun x32 =>
    bnd (pBin Try.prog .eql 3 (.tmp 32) (.const (.int .i64 8)) x32 (.int .i64 8)) fun x33 =>
    K .normal (act 36 [(1, x1), (30, x33)]) h := kq_reg
theorem b62_rrrrrrrrrllr  : kCode env 62 false inv k (cp c62 6655) (act 36 [(1, x1), (30, x30)]) h K = brV x30 (kCode env 62 false inv k (cp c62 13310) (act 36 [(1, x1), (30, x30)]) h K) (kCode env 62 false inv k (cp c62 13311) (act 36 [(1, x1), (30, x30)]) h K) := kq_cond
theorem r62_10  : kCode env 62 false inv k (cp c62 26620) (act 36 [(1, x1), (30, x30)]) h K =
    bnd (inv (.func 65) #[] #[x1, (.bool false)] h) fun x35 =>
    K .normal (act 36 [(5, x35.1)]) x35.2 := kq_reg
theorem r62_11  : kCode env 62 false inv k (cp c62 14) (act 36 [(1, x1), (30, x30)]) h K =
    K .normal (act 36 [(5, (.bool false))]) h := kq_reg
/-- shadowbook/pred.Holds$1 -/
noncomputable def F62 (inv : Inv) (k : Nat) (x0 x1 x2 : Value) (h : AH) : Option (Value × AH) :=
    bnd (pBox Try.prog 59 x0 h) fun x3 =>
    bnd (pFieldAddr Try.prog 59 x3.1 0) fun x7 =>
    bnd (pLoad Try.prog 3 x7 x3.2) fun x8 =>
    bnd (inv (.func 63) #[] #[x8] x3.2) fun x9 =>
    brV x9.1
    (bnd (pLoad Try.prog 59 x3.1 x9.2) fun x10 =>
    bnd (pLoad Try.prog 37 x2 x9.2) fun x11 =>
    bnd (inv (.func 64) #[] #[x10, x11] x9.2) fun x12 =>
    some (x12.1, x12.2))
    (bnd (pFieldAddr Try.prog 59 x3.1 0) fun x14 =>
    bnd (pLoad Try.prog 3 x14 x9.2) fun x15 =>
    bnd (pBin Try.prog .eql 3 (.tmp 15) (.const (.int .i64 1)) x15 (.int .i64 1)) fun x16 =>
    brV x16
    (some ((.bool true), x9.2))
    (bnd (pFieldAddr Try.prog 59 x3.1 0) fun x18 =>
    bnd (pLoad Try.prog 3 x18 x9.2) fun x19 =>
    bnd (pBin Try.prog .eql 3 (.tmp 19) (.const (.int .i64 6)) x19 (.int .i64 6)) fun x20 =>
    brV x20
    (bnd (inv (.func 65) #[] #[x1, (.bool false)] x9.2) fun x22 =>
    bnd (pUn Try.prog .not x22.1) fun x23 =>
    some (x23, x22.2))
    (bnd (pFieldAddr Try.prog 59 x3.1 0) fun x25 =>
    bnd (pLoad Try.prog 3 x25 x9.2) fun x26 =>
    bnd (pBin Try.prog .eql 3 (.tmp 26) (.const (.int .i64 7)) x26 (.int .i64 7)) fun x27 =>
    brV x27
    (bnd (inv (.func 65) #[] #[x1, (.bool true)] x9.2) fun x29 =>
    some (x29.1, x29.2))
    (bnd (pFieldAddr Try.prog 59 x3.1 0) fun x31 =>
    bnd (pLoad Try.prog 3 x31 x9.2) fun x32 =>
    bnd (pBin Try.prog .eql 3 (.tmp 32) (.const (.int .i64 8)) x32 (.int .i64 8)) fun x33 =>
    brV x33
    (bnd (inv (.func 65) #[] #[x1, (.bool false)] x9.2) fun x35 =>
    some (x35.1, x35.2))
    (some ((.bool false), x9.2))))))
theorem F62_eq : eFun env k inv 62 #[x0, x1, x2] h = F62 inv k x0 x1 x2 h := by
      refine (kq_fun (a := act 36 [(0, x0), (1, x1), (2, x2)]) (c := cp c62 1)).trans ?_
      unfold F62
      simp only [kq_seq c62 1, r62_0, kq_seq c62 3, kq_block c62 6 0, kq_seq c62 12, r62_1, b62_rllr, kq_seq c62 50, r62_2, kq_ret c62 101, res62_0, kq_seq c62 51, r62_3, b62_rrrllr, kq_seq c62 206, r62_4, kq_ret c62 413, kq_seq c62 207, r62_5, b62_rrrrrllr, kq_seq c62 830, r62_6, kq_ret c62 1661, kq_seq c62 831, r62_7, b62_rrrrrrrllr, kq_seq c62 3326, r62_8, kq_ret c62 6653, kq_seq c62 3327, r62_9, b62_rrrrrrrrrllr, kq_seq c62 13310, r62_10, kq_ret c62 26621, kq_skip c62 13311, kq_seq c62 7, r62_11, kq_ret c62 15, reduceIte, reduceCtorEq, XE.exit.injEq, Nat.reduceEqDiff, Nat.reduceMul, Nat.reduceAdd] <;> kernel_rfl
theorem F62_call : eInv env (k + 1) (.func 62) #[] #[x0, x1, x2] h = F62 (eInv env k) k x0 x1 x2 h := kq_inv F62_eq
noncomputable def c63 : Code := codeOf Try.prog 63
theorem r63_0  : kCode env 63 false inv k (cp c63 2) (act 9 [(0, x0)]) h K =
    K .normal (act 9 [(0, x0)]) h := kq_reg
noncomputable abbrev G63_1 {β : Type} (inv : Inv) (x0 : Value) (h : AH) (K : Value → AH → Option β) : Option β :=
    bnd (pBin Try.prog .geq 3 (.tmp 3) (.const (.int .i64 2)) x0 (.int .i64 2)) fun x4 =>
    bnd (gd (some x4) true h (some (x0, h))) fun x6 =>
    bnd (gd (some x4) true x6.2 (lt (pBin Try.prog .leq 3 (.tmp 6) (.const (.int .i64 5)) x6.1 (.int .i64 5)) x6.2)) fun x7 =>
    bnd (pickV x4 x7.1 (.bool false)) fun x8 =>
    K (x8) x7.2
theorem r63_1  : kCode env 63 false inv k (cp c63 6) (act 9 [(0, x0)]) h K =
    G63_1 inv x0 h fun y2 h => K .normal (act 9 [(2, y2)]) h := kq_reg
theorem res63_0 : resOfFn env.P 63 .ret (act 9 [(2, x2)]) h = some (x2, h) := kq_res
/-- shadowbook/pred.compares -/
noncomputable def F63 (inv : Inv) (k : Nat) (x0 : Value) (h : AH) : Option (Value × AH) :=
    G63_1 inv x0 h fun y2 h =>
    some (y2, h)
theorem F63_eq : eFun env k inv 63 #[x0] h = F63 inv k x0 h := by
      refine (kq_fun (a := act 9 [(0, x0)]) (c := cp c63 1)).trans ?_
      unfold F63
      simp only [kq_seq c63 1, r63_0, kq_seq c63 3, r63_1, kq_ret c63 7, res63_0, reduceIte, reduceCtorEq, XE.exit.injEq, Nat.reduceEqDiff, Nat.reduceMul, Nat.reduceAdd] <;> kernel_rfl
theorem F63_call : eInv env (k + 1) (.func 63) #[] #[x0] h = F63 (eInv env k) k x0 h := kq_inv F63_eq
noncomputable def c64 : Code := codeOf Try.prog 64
theorem r64_0  : kCode env 64 false inv k (cp c64 2) (act 42 [(0, x0), (1, x1)]) h K =
    bnd (pBox Try.prog 59 x0 h) fun x2 =>
    K .normal (act 42 [(1, x1), (2, x2.1)]) x2.2 := kq_reg
noncomputable abbrev G64_1 {β : Type} (inv : Inv) (x1 x2 : Value) (h : AH) (K : Value → AH → Option β) : Option β :=
    bnd (pFieldAddr Try.prog 59 x2 1) fun x7 =>
    bnd (pLoad Try.prog 3 x7 h) fun x8 =>
    bnd (pBin Try.prog .lss 3 (.tmp 8) (.const (.int .i64 0)) x8 (.int .i64 0)) fun x9 =>
    bnd (gd (some x9) false h (lt (pFieldAddr Try.prog 59 x2 1) h)) fun x11 =>
    bnd (gd (some x9) false x11.2 (lt (pLoad Try.prog 3 x11.1 x11.2) x11.2)) fun x12 =>
    bnd (gd (some x9) false x12.2 (some (x1, x12.2))) fun x13 =>
    bnd (gd (some x9) false x13.2 (lt (pLen Try.prog #[37] x13.1 x13.2) x13.2)) fun x14 =>
    bnd (gd (some x9) false x14.2 (lt (pBin Try.prog .geq 3 (.tmp 12) (.tmp 14) x12.1 x14.1) x14.2)) fun x15 =>
    bnd (pickV x9 (.bool true) x15.1) fun x16 =>
    K (x16) x15.2
theorem r64_1  : kCode env 64 false inv k (cp c64 12) (act 42 [(1, x1), (2, x2)]) h K =
    G64_1 inv x1 x2 h fun y16 h => K .normal (act 42 [(1, x1), (2, x2), (16, y16)]) h := kq_reg
theorem b64_rlr  : kCode env 64 false inv k (cp c64 13) (act 42 [(1, x1), (2, x2), (16, x16)]) h K = brV x16 (kCode env 64 false inv k (cp c64 26) (act 42 [(1, x1), (2, x2), (16, x16)]) h K) (kCode env 64 false inv k (cp c64 27) (act 42 [(1, x1), (2, x2), (16, x16)]) h K) := kq_cond
theorem r64_2  : kCode env 64 false inv k (cp c64 52) (act 42 [(1, x1), (2, x2), (16, x16)]) h K =
    K .normal (act 42 [(4, (.bool false))]) h := kq_reg
theorem res64_0 : resOfFn env.P 64 .ret (act 42 [(4, x4)]) h = some (x4, h) := kq_res
theorem r64_3  : kCode env 64 false inv k (cp c64 14) (act 42 [(1, x1), (2, x2), (16, x16)]) h K =
    bnd (pFieldAddr Try.prog 59 x2 1) fun x18 =>
    bnd (pLoad Try.prog 3 x18 h) fun x19 =>
    bnd (pIndexAddr Try.prog 37 x1 x19) fun x20 =>
    bnd (pLoad Try.prog 45 x20 h) fun x21 =>
    bnd (pAlloc Try.prog 45 h) fun x5 =>
    bnd (kSt (pStore Try.prog 45 x5.1 x21 x5.2)) fun u =>
    K .normal (act 42 [(2, x2), (5, x5.1)]) u.2 := kq_reg
theorem r64_4  : kCode env 64 false inv k (cp c64 30) (act 42 [(2, x2), (5, x5)]) h K =
    bnd (pFieldAddr Try.prog 45 x5 0) fun x22 =>
    bnd (pLoad Try.prog 3 x22 h) fun x23 =>
    bnd (pBin Try.prog .eql 3 (.tmp 23) (.const (.int .i64 0)) x23 (.int .i64 0)) fun x24 =>
    K .normal (act 42 [(2, x2), (5, x5), (6, x24)]) h := kq_reg
theorem r64_5  : kCode env 64 false inv k (cp c64 124) (act 42 [(2, x2), (5, x5), (6, x6)]) h K =
    bnd (pFieldAddr Try.prog 59 x2 0) fun x25 =>
    bnd (pLoad Try.prog 3 x25 h) fun x26 =>
    bnd (pBin Try.prog .eql 3 (.tmp 26) (.const (.int .i64 5)) x26 (.int .i64 5)) fun x27 =>
    K .normal (act 42 [(2, x2), (5, x5), (6, x6), (27, x27)]) h := kq_reg
theorem b64_rlrrrr  : kCode env 64 false inv k (cp c64 125) (act 42 [(2, x2), (5, x5), (6, x6), (27, x27)]) h K = brV x27 (kCode env 64 false inv k (cp c64 250) (act 42 [(2, x2), (5, x5), (6, x6), (27, x27)]) h K) (kCode env 64 false inv k (cp c64 251) (act 42 [(2, x2), (5, x5), (6, x6), (27, x27)]) h K) := kq_cond
theorem r64_6  : kCode env 64 false inv k (cp c64 500) (act 42 [(2, x2), (5, x5), (6, x6), (27, x27)]) h K =
    K .normal (act 42 [(4, x6)]) h := kq_reg
noncomputable abbrev G64_7 {β : Type} (inv : Inv) (x2 x5 x6 : Value) (h : AH) (K : Value → AH → Option β) : Option β :=
    bnd (pUn Try.prog .not x6) fun x30 =>
    bnd (gd3 (some x30) true h (inv (.func 78) #[] #[] h)) fun x32 =>
    bnd (gd3 (some x30) true x32.2.1 (lt (pFieldAddr Try.prog 59 x2 0) x32.2.1)) fun x33 =>
    bnd (gd3 (some x30) true x33.2.1 (lt (pLoad Try.prog 3 x33.1 x33.2.1) x33.2.1)) fun x34 =>
    bnd (gd3 (some x30) true x34.2.1 (lt (pLookup Try.prog 101 x32.1 x34.1 false x34.2.1) x34.2.1)) fun x35 =>
    bnd (gd3 (some x30) true x35.2.1 (lt (pLoad Try.prog 45 x5 x35.2.1) x35.2.1)) fun x36 =>
    bnd (gd3 (some x30) true x36.2.1 (lt (pFieldAddr Try.prog 59 x2 2) x36.2.1)) fun x37 =>
    bnd (gd3 (some x30) true x37.2.1 (lt (pLoad Try.prog 45 x37.1 x37.2.1) x37.2.1)) fun x38 =>
    bnd (gd3 (some x30) true x38.2.1 (inv (.func 70) #[] #[x36.1, x38.1] x38.2.1)) fun x39 =>
    bnd (gd3 (some x30) true x39.2.1 (callV inv x35.1 #[x39.1] x39.2.1)) fun x40 =>
    bnd (pickV x30 x40.1 (.bool false)) fun x41 =>
    chkK ((!x34.2.2 || !x32.2.2 || (sameO (pLoad Try.prog 3 x33.1 h) x34.1 && sameO (pLoad Try.prog 3 x33.1 x32.2.1) x34.1)) && ((!x34.2.2 || !x39.2.2 || (sameO (pLoad Try.prog 3 x33.1 x38.2.1) x34.1 && sameO (pLoad Try.prog 3 x33.1 x39.2.1) x34.1)) && ((!x35.2.2 || !x39.2.2 || (sameO (pLookup Try.prog 101 x32.1 x34.1 false x38.2.1) x35.1 && sameO (pLookup Try.prog 101 x32.1 x34.1 false x39.2.1) x35.1)) && ((!x36.2.2 || !x32.2.2 || (sameO (pLoad Try.prog 45 x5 h) x36.1 && sameO (pLoad Try.prog 45 x5 x32.2.1) x36.1)) && ((!x38.2.2 || !x32.2.2 || (sameO (pLoad Try.prog 45 x37.1 h) x38.1 && sameO (pLoad Try.prog 45 x37.1 x32.2.1) x38.1)) && true))))) <|
    K (x41) x40.2.1
theorem r64_7  : kCode env 64 false inv k (cp c64 126) (act 42 [(2, x2), (5, x5), (6, x6), (27, x27)]) h K =
    G64_7 inv x2 x5 x6 h fun y4 h => K .normal (act 42 [(4, y4)]) h := kq_draw
/-- shadowbook/pred.leaf -/
noncomputable def F64 (inv : Inv) (k : Nat) (x0 x1 : Value) (h : AH) : Option (Value × AH) :=
    bnd (pBox Try.prog 59 x0 h) fun x2 =>
    G64_1 inv x1 x2.1 x2.2 fun y16 h =>
    brV y16
    (some ((.bool false), h))
    (bnd (pFieldAddr Try.prog 59 x2.1 1) fun x18 =>
    bnd (pLoad Try.prog 3 x18 h) fun x19 =>
    bnd (pIndexAddr Try.prog 37 x1 x19) fun x20 =>
    bnd (pLoad Try.prog 45 x20 h) fun x21 =>
    bnd (pAlloc Try.prog 45 h) fun x5 =>
    bnd (kSt (pStore Try.prog 45 x5.1 x21 x5.2)) fun u =>
    bnd (pFieldAddr Try.prog 45 x5.1 0) fun x22 =>
    bnd (pLoad Try.prog 3 x22 u.2) fun x23 =>
    bnd (pBin Try.prog .eql 3 (.tmp 23) (.const (.int .i64 0)) x23 (.int .i64 0)) fun x24 =>
    bnd (pFieldAddr Try.prog 59 x2.1 0) fun x25 =>
    bnd (pLoad Try.prog 3 x25 u.2) fun x26 =>
    bnd (pBin Try.prog .eql 3 (.tmp 26) (.const (.int .i64 5)) x26 (.int .i64 5)) fun x27 =>
    brV x27
    (some (x24, u.2))
    (G64_7 inv x2.1 x5.1 x24 u.2 fun y4 h_1 =>
    some (y4, h_1)))
theorem F64_eq : eFun env k inv 64 #[x0, x1] h = F64 inv k x0 x1 h := by
      refine (kq_fun (a := act 42 [(0, x0), (1, x1)]) (c := cp c64 1)).trans ?_
      unfold F64
      simp only [kq_seq c64 1, r64_0, kq_seq c64 3, kq_seq c64 6, r64_1, b64_rlr, kq_seq c64 26, r64_2, kq_ret c64 53, res64_0, kq_skip c64 27, kq_seq c64 7, r64_3, kq_seq c64 15, r64_4, kq_seq c64 31, kq_seq c64 62, r64_5, b64_rlrrrr, kq_seq c64 250, r64_6, kq_ret c64 501, kq_skip c64 251, kq_seq c64 63, r64_7, kq_ret c64 127, reduceIte, reduceCtorEq, XE.exit.injEq, Nat.reduceEqDiff, Nat.reduceMul, Nat.reduceAdd] <;> kernel_rfl
theorem F64_call : eInv env (k + 1) (.func 64) #[] #[x0, x1] h = F64 (eInv env k) k x0 x1 h := kq_inv F64_eq
noncomputable def c65 : Code := codeOf Try.prog 65
theorem r65_0  : kCode env 65 false inv k (cp c65 2) (act 9 [(0, x0), (1, x1)]) h K =
    K .normal (act 9 [(0, x0), (1, x1)]) h := kq_reg
theorem r65_1  : kCode env 65 false inv k (cp c65 6) (act 9 [(0, x0), (1, x1)]) h K =
    bnd (inv (.func 79) #[] #[x0, x1] h) fun x7 =>
    bnd (pBin Try.prog .geq 3 (.tmp 7) (.const (.int .i64 0)) x7.1 (.int .i64 0)) fun x8 =>
    K .normal (act 9 [(4, x8)]) x7.2 := kq_reg
theorem res65_0 : resOfFn env.P 65 .ret (act 9 [(4, x4)]) h = some (x4, h) := kq_res
/-- slices.Contains[[]bool,bool] -/
noncomputable def F65 (inv : Inv) (k : Nat) (x0 x1 : Value) (h : AH) : Option (Value × AH) :=
    bnd (inv (.func 79) #[] #[x0, x1] h) fun x7 =>
    bnd (pBin Try.prog .geq 3 (.tmp 7) (.const (.int .i64 0)) x7.1 (.int .i64 0)) fun x8 =>
    some (x8, x7.2)
theorem F65_eq : eFun env k inv 65 #[x0, x1] h = F65 inv k x0 x1 h := by
      refine (kq_fun (a := act 9 [(0, x0), (1, x1)]) (c := cp c65 1)).trans ?_
      unfold F65
      simp only [kq_seq c65 1, r65_0, kq_seq c65 3, r65_1, kq_ret c65 7, res65_0, reduceIte, reduceCtorEq, XE.exit.injEq, Nat.reduceEqDiff, Nat.reduceMul, Nat.reduceAdd] <;> kernel_rfl
theorem F65_call : eInv env (k + 1) (.func 65) #[] #[x0, x1] h = F65 (eInv env k) k x0 x1 h := kq_inv F65_eq
noncomputable def c67 : Code := codeOf Try.prog 67
theorem r67_0  : kCode env 67 false inv k (cp c67 2) (act 55 [(0, x0)]) h K =
    K .normal (act 55 [(0, x0)]) h := kq_reg
noncomputable abbrev G67_1 {β : Type} (inv : Inv) (x0 : Value) (h : AH) (K : Value → AH → Option β) : Option β :=
    bnd (pLen Try.prog #[9] x0 h) fun x7 =>
    bnd (pBin Try.prog .lss 3 (.tmp 7) (.const (.int .i64 1)) x7 (.int .i64 1)) fun x8 =>
    bnd (gd (some x8) false h (some (x0, h))) fun x10 =>
    bnd (gd (some x8) false x10.2 (lt (pLen Try.prog #[9] x10.1 x10.2) x10.2)) fun x11 =>
    bnd (gd (some x8) false x11.2 (lt (pBin Try.prog .gtr 3 (.tmp 11) (.const (.int .i64 32)) x11.1 (.int .i64 32)) x11.2)) fun x12 =>
    bnd (pickV x8 (.bool true) x12.1) fun x13 =>
    K (x13) x12.2
theorem r67_1  : kCode env 67 false inv k (cp c67 12) (act 55 [(0, x0)]) h K =
    G67_1 inv x0 h fun y13 h => K .normal (act 55 [(0, x0), (13, y13)]) h := kq_reg
theorem b67_rlr  : kCode env 67 false inv k (cp c67 13) (act 55 [(0, x0), (13, x13)]) h K = brV x13 (kCode env 67 false inv k (cp c67 26) (act 55 [(0, x0), (13, x13)]) h K) (kCode env 67 false inv k (cp c67 27) (act 55 [(0, x0), (13, x13)]) h K) := kq_cond
theorem r67_2  : kCode env 67 false inv k (cp c67 52) (act 55 [(0, x0), (13, x13)]) h K =
    K .normal (act 55 [(2, (.int .i64 170))]) h := kq_reg
theorem res67_0 : resOfFn env.P 67 .ret (act 55 [(2, x2)]) h = some (x2, h) := kq_res
theorem r67_3  : kCode env 67 false inv k (cp c67 28) (act 55 [(0, x0), (13, x13)]) h K =
    K .normal (act 55 [(0, x0), (3, (.int .i64 0))]) h := kq_reg
theorem r67_4  : kCode env 67 false inv k (cp c67 464) (act 55 [(0, x0), (3, x3)]) h K =
    bnd (pLen Try.prog #[9] x0 h) fun x16 =>
    bnd (pBin Try.prog .lss 3 (.tmp 14) (.tmp 16) x3 x16) fun x17 =>
    K .normal (act 55 [(0, x0), (3, x3), (17, x17)]) h := kq_reg
theorem b67_rlllrlrr  : kCode env 67 false inv k (cp c67 465) (act 55 [(0, x0), (3, x3), (17, x17)]) h K = brV x17 (kCode env 67 false inv k (cp c67 930) (act 55 [(0, x0), (3, x3), (17, x17)]) h K) (kCode env 67 false inv k (cp c67 931) (act 55 [(0, x0), (3, x3), (17, x17)]) h K) := kq_cond
theorem r67_6  : kCode env 67 false inv k (cp c67 1864) (act 55 [(0, x0), (3, x3), (17, x17)]) h K =
    bnd (pIndex Try.prog 9 x0 x3) fun x22 =>
    K .normal (act 55 [(0, x0), (3, x3), (4, x22)]) h := kq_reg
noncomputable abbrev G67_7 {β : Type} (inv : Inv) (x0 x3 x4 : Value) (h : AH) (K : Value → AH → Option β) : Option β :=
    bnd (pBin Try.prog .geq 5 (.tmp 23) (.const (.int .u8 48)) x4 (.int .u8 48)) fun x24 =>
    bnd (gd (some x24) true h (some (x4, h))) fun x26 =>
    bnd (gd (some x24) true x26.2 (lt (pBin Try.prog .leq 5 (.tmp 26) (.const (.int .u8 57)) x26.1 (.int .u8 57)) x26.2)) fun x27 =>
    bnd (pickV x24 x27.1 (.bool false)) fun x28 =>
    K (x28) x27.2
theorem r67_7  : kCode env 67 false inv k (cp c67 3730) (act 55 [(0, x0), (3, x3), (4, x4)]) h K =
    G67_7 inv x0 x3 x4 h fun y5 h => K .normal (act 55 [(0, x0), (3, x3), (4, x4), (5, y5)]) h := kq_reg
noncomputable abbrev G67_8 {β : Type} (inv : Inv) (x0 x3 x4 x5 : Value) (h : AH) (K : Value → AH → Option β) : Option β :=
    bnd (pBin Try.prog .geq 5 (.tmp 29) (.const (.int .u8 97)) x4 (.int .u8 97)) fun x30 =>
    bnd (gd (some x30) true h (some (x4, h))) fun x32 =>
    bnd (gd (some x30) true x32.2 (lt (pBin Try.prog .leq 5 (.tmp 32) (.const (.int .u8 122)) x32.1 (.int .u8 122)) x32.2)) fun x33 =>
    bnd (pickV x30 x33.1 (.bool false)) fun x34 =>
    bnd (gd (some x34) false x33.2 (some (x4, x33.2))) fun x36 =>
    bnd (gd (some x34) false x36.2 (lt (pBin Try.prog .geq 5 (.tmp 36) (.const (.int .u8 65)) x36.1 (.int .u8 65)) x36.2)) fun x37 =>
    bnd (gd (some x34) false x37.2 (some (x37.1, x37.2))) fun x38 =>
    bnd (gd (some x38.1) true x38.2 (some (x4, x38.2))) fun x39 =>
    bnd (gd (some x38.1) true x39.2 (lt (pBin Try.prog .leq 5 (.tmp 39) (.const (.int .u8 90)) x39.1 (.int .u8 90)) x39.2)) fun x40 =>
    bnd (gd (some x34) false x40.2 (lt (pickV x38.1 x40.1 (.bool false)) x40.2)) fun x41 =>
    bnd (pickV x34 (.bool true) x41.1) fun x42 =>
    bnd (gd (some x42) false x41.2 (some (x4, x41.2))) fun x44 =>
    bnd (gd (some x42) false x44.2 (lt (pBin Try.prog .eql 5 (.tmp 44) (.const (.int .u8 95)) x44.1 (.int .u8 95)) x44.2)) fun x45 =>
    bnd (pickV x42 (.bool true) x45.1) fun x46 =>
    bnd (gd (some x46) false x45.2 (some (x5, x45.2))) fun x48 =>
    bnd (gd (some x46) false x48.2 (some (x48.1, x48.2))) fun x49 =>
    bnd (gd (some x49.1) true x49.2 (some (x3, x49.2))) fun x50 =>
    bnd (gd (some x49.1) true x50.2 (lt (pBin Try.prog .gtr 3 (.tmp 50) (.const (.int .i64 0)) x50.1 (.int .i64 0)) x50.2)) fun x51 =>
    bnd (gd (some x46) false x51.2 (lt (pickV x49.1 x51.1 (.bool false)) x51.2)) fun x52 =>
    bnd (pickV x46 (.bool true) x52.1) fun x53 =>
    bnd (pUn Try.prog .not x53) fun x54 =>
    K (x54) x52.2
theorem r67_8  : kCode env 67 false inv k (cp c67 7462) (act 55 [(0, x0), (3, x3), (4, x4), (5, x5)]) h K =
    G67_8 inv x0 x3 x4 x5 h fun y54 h => K .normal (act 55 [(0, x0), (3, x3), (54, y54)]) h := kq_reg
theorem b67_rrrllrllrlrr  : kCode env 67 false inv k (cp c67 7463) (act 55 [(0, x0), (3, x3), (54, x54)]) h K = brV x54 (kCode env 67 false inv k (cp c67 14926) (act 55 [(0, x0), (3, x3), (54, x54)]) h K) (kCode env 67 false inv k (cp c67 14927) (act 55 [(0, x0), (3, x3), (54, x54)]) h K) := kq_cond
theorem r67_9  : kCode env 67 false inv k (cp c67 29852) (act 55 [(0, x0), (3, x3), (54, x54)]) h K =
    K .normal (act 55 [(2, (.int .i64 170))]) h := kq_reg
theorem r67_5  : kCode env 67 false inv k (cp c67 467) (act 55 [(0, x0), (3, x3), (54, x54)]) h K =
    bnd (pBin Try.prog .add 3 (.tmp 18) (.const (.int .i64 1)) x3 (.int .i64 1)) fun x19 =>
    K .normal (act 55 [(0, x0), (3, x19)]) h := kq_reg
noncomputable def F67_lrlrr {β : Type} (inv : Inv) (k : Nat) : Nat → Value → Value → AH → (Value → Value → Value → AH → Option β) → (Value → AH → Option β) → Option β
  | 0, _, _, _, _, _ => none
  | j + 1, x0, x3, h, ke0, kr =>
    bnd (pLen Try.prog #[9] x0 h) fun x16 =>
    bnd (pBin Try.prog .lss 3 (.tmp 14) (.tmp 16) x3 x16) fun x17 =>
    brV x17
    (bnd (pIndex Try.prog 9 x0 x3) fun x22 =>
    G67_7 inv x0 x3 x22 h fun y5 h =>
    G67_8 inv x0 x3 x22 y5 h fun y54 h_1 =>
    brV y54
    (kr (.int .i64 170) h_1)
    (bnd (pBin Try.prog .add 3 (.tmp 18) (.const (.int .i64 1)) x3 (.int .i64 1)) fun x19 =>
    F67_lrlrr inv k j x0 x19 h_1 ke0 kr))
    (ke0 x0 x3 x17 h)
theorem F67_lrlrr_j (j : Nat) : kLoop (kCode env 67 false inv k (cp c67 116)) j (act 55 [(0, x0), (3, x3)]) h K = F67_lrlrr inv k j x0 x3 h (fun y0 y3 y17 h => K (.exit 0) (act 55 [(0, y0), (3, y3), (17, y17)]) h) (fun y2 h => K .ret (act 55 [(2, y2)]) h) := by
      induction j generalizing x0 x3 h with
      | zero => rfl
      | succ j ih =>
        unfold F67_lrlrr
        simp only [kLoop, kq_seq c67 116, kq_seq c67 232, r67_4, b67_rlllrlrr, kq_skip c67 930, kq_seq c67 233, kq_block c67 466 1, kq_seq c67 932, r67_6, kq_seq c67 1865, r67_7, kq_seq c67 3731, r67_8, b67_rrrllrllrlrr, kq_seq c67 14926, r67_9, kq_ret c67 29853, kq_skip c67 14927, r67_5, kq_exit c67 931 0, ih, reduceIte, reduceCtorEq, XE.exit.injEq, Nat.reduceEqDiff, Nat.reduceMul, Nat.reduceAdd] <;> kernel_rfl
theorem F67_lrlrr_eq  : kCode env 67 false inv k (cp c67 58) (act 55 [(0, x0), (3, x3)]) h K = F67_lrlrr inv k k x0 x3 h (fun y0 y3 y17 h => K (.exit 0) (act 55 [(0, y0), (3, y3), (17, y17)]) h) (fun y2 h => K .ret (act 55 [(2, y2)]) h) := kq_loop (F67_lrlrr_j k)
theorem r67_10  : kCode env 67 false inv k (cp c67 30) (act 55 [(0, x0), (3, x3), (17, x17)]) h K =
    K .normal (act 55 [(2, (.int .i64 0))]) h := kq_reg
/-- shadowbook/shadowbookref17.Name -/
noncomputable def F67 (inv : Inv) (k : Nat) (x0 : Value) (h : AH) : Option (Value × AH) :=
    G67_1 inv x0 h fun y13 h =>
    brV y13
    (some ((.int .i64 170), h))
    (F67_lrlrr inv k k x0 (.int .i64 0) h
    (fun y0 y3 y17 h_2 =>
    some ((.int .i64 0), h_2))
    (fun y2 h_3 =>
    some (y2, h_3)))
theorem F67_eq : eFun env k inv 67 #[x0] h = F67 inv k x0 h := by
      refine (kq_fun (a := act 55 [(0, x0)]) (c := cp c67 1)).trans ?_
      unfold F67
      simp only [kq_seq c67 1, r67_0, kq_seq c67 3, kq_seq c67 6, r67_1, b67_rlr, kq_seq c67 26, r67_2, kq_ret c67 53, res67_0, kq_skip c67 27, kq_seq c67 7, kq_seq c67 14, r67_3, kq_block c67 29 0, F67_lrlrr_eq, kq_seq c67 15, r67_10, kq_ret c67 31, reduceIte, reduceCtorEq, XE.exit.injEq, Nat.reduceEqDiff, Nat.reduceMul, Nat.reduceAdd] <;> kernel_rfl
theorem F67_call : eInv env (k + 1) (.func 67) #[] #[x0] h = F67 (eInv env k) k x0 h := kq_inv F67_eq
noncomputable def c68 : Code := codeOf Try.prog 68
theorem r68_0  : kCode env 68 false inv k (cp c68 2) (act 49 [(0, x0)]) h K =
    bnd (pBox Try.prog 45 x0 h) fun x1 =>
    K .normal (act 49 [(1, x1.1)]) x1.2 := kq_reg
theorem r68_1  : kCode env 68 false inv k (cp c68 6) (act 49 [(1, x1)]) h K =
    K .normal (act 49 [(1, x1), (3, (.bool false))]) h := kq_reg
theorem r68_2  : kCode env 68 false inv k (cp c68 28) (act 49 [(1, x1), (3, x3)]) h K =
    bnd (pFieldAddr Try.prog 45 x1 0) fun x4 =>
    bnd (pLoad Try.prog 3 x4 h) fun x5 =>
    K .normal (act 49 [(1, x1), (3, x3), (5, x5)]) h := kq_reg
theorem r68_3  : kCode env 68 false inv k (cp c68 116) (act 49 [(1, x1), (3, x3), (5, x5)]) h K =
    bnd (pBin Try.prog .eql 3 (.tmp 5) (.const (.int .i64 0)) x5 (.int .i64 0)) fun x7 =>
    K .normal (act 49 [(1, x1), (3, x3), (5, x5), (6, x7)]) h := kq_reg
theorem b68_rlrlrr  : kCode env 68 false inv k (cp c68 117) (act 49 [(1, x1), (3, x3), (5, x5), (6, x6)]) h K = brV x6 (kCode env 68 false inv k (cp c68 234) (act 49 [(1, x1), (3, x3), (5, x5), (6, x6)]) h K) (kCode env 68 false inv k (cp c68 235) (act 49 [(1, x1), (3, x3), (5, x5), (6, x6)]) h K) := kq_cond
noncomputable abbrev G68_4 {β : Type} (inv : Inv) (x1 : Value) (h : AH) (K : Value → AH → Option β) : Option β :=
    bnd (pFieldAddr Try.prog 45 x1 1) fun x8 =>
    bnd (pLoad Try.prog 2 x8 h) fun x9 =>
    bnd (pBin Try.prog .eql 2 (.tmp 9) (.const (.int .i64 0)) x9 (.int .i64 0)) fun x10 =>
    bnd (gd (some x10) true h (lt (pFieldAddr Try.prog 45 x1 2) h)) fun x12 =>
    bnd (gd (some x10) true x12.2 (lt (pLoad Try.prog 9 x12.1 x12.2) x12.2)) fun x13 =>
    bnd (gd (some x10) true x13.2 (lt (pBin Try.prog .eql 9 (.tmp 13) (.const (.string { data := #[] })) x13.1 (.string { data := #[] })) x13.2)) fun x14 =>
    bnd (pickV x10 x14.1 (.bool false)) fun x15 =>
    K (x15) x14.2
theorem r68_4  : kCode env 68 false inv k (cp c68 234) (act 49 [(1, x1), (3, x3), (5, x5), (6, x6)]) h K =
    G68_4 inv x1 h fun y3 h => K .normal (act 49 [(3, y3)]) h := kq_reg
theorem r68_5  : kCode env 68 false inv k (cp c68 470) (act 49 [(1, x1), (3, x3), (5, x5), (6, x6)]) h K =
    bnd (pBin Try.prog .eql 3 (.tmp 5) (.const (.int .i64 1)) x5 (.int .i64 1)) fun x17 =>
    K .normal (act 49 [(1, x1), (3, x3), (5, x5), (16, x17)]) h := kq_reg
theorem b68_rrrlrlrr  : kCode env 68 false inv k (cp c68 471) (act 49 [(1, x1), (3, x3), (5, x5), (16, x16)]) h K = brV x16 (kCode env 68 false inv k (cp c68 942) (act 49 [(1, x1), (3, x3), (5, x5), (16, x16)]) h K) (kCode env 68 false inv k (cp c68 943) (act 49 [(1, x1), (3, x3), (5, x5), (16, x16)]) h K) := kq_cond
theorem r68_6  : kCode env 68 false inv k (cp c68 942) (act 49 [(1, x1), (3, x3), (5, x5), (16, x16)]) h K =
    bnd (pFieldAddr Try.prog 45 x1 2) fun x18 =>
    bnd (pLoad Try.prog 9 x18 h) fun x19 =>
    bnd (pBin Try.prog .eql 9 (.tmp 19) (.const (.string { data := #[] })) x19 (.string { data := #[] })) fun x20 =>
    K .normal (act 49 [(3, x20)]) h := kq_reg
theorem r68_7  : kCode env 68 false inv k (cp c68 1886) (act 49 [(1, x1), (3, x3), (5, x5), (16, x16)]) h K =
    bnd (pBin Try.prog .eql 3 (.tmp 5) (.const (.int .i64 2)) x5 (.int .i64 2)) fun x22 =>
    K .normal (act 49 [(1, x1), (3, x3), (5, x5), (21, x22)]) h := kq_reg
theorem b68_rrrrrlrlrr  : kCode env 68 false inv k (cp c68 1887) (act 49 [(1, x1), (3, x3), (5, x5), (21, x21)]) h K = brV x21 (kCode env 68 false inv k (cp c68 3774) (act 49 [(1, x1), (3, x3), (5, x5), (21, x21)]) h K) (kCode env 68 false inv k (cp c68 3775) (act 49 [(1, x1), (3, x3), (5, x5), (21, x21)]) h K) := kq_cond
noncomputable abbrev G68_8 {β : Type} (inv : Inv) (x1 : Value) (h : AH) (K : Value → AH → Option β) : Option β :=
    bnd (pFieldAddr Try.prog 45 x1 2) fun x23 =>
    bnd (pLoad Try.prog 9 x23 h) fun x24 =>
    bnd (pBin Try.prog .eql 9 (.tmp 24) (.const (.string { data := #[] })) x24 (.string { data := #[] })) fun x25 =>
    bnd (gd (some x25) true h (lt (pFieldAddr Try.prog 45 x1 1) h)) fun x27 =>
    bnd (gd (some x25) true x27.2 (lt (pLoad Try.prog 2 x27.1 x27.2) x27.2)) fun x28 =>
    bnd (gd (some x25) true x28.2 (lt (pBin Try.prog .eql 2 (.tmp 28) (.const (.int .i64 0)) x28.1 (.int .i64 0)) x28.2)) fun x29 =>
    bnd (gd (some x25) true x29.2 (some (x29.1, x29.2))) fun x30 =>
    bnd (gd (some x30.1) false x30.2 (lt (pFieldAddr Try.prog 45 x1 1) x30.2)) fun x31 =>
    bnd (gd (some x30.1) false x31.2 (lt (pLoad Try.prog 2 x31.1 x31.2) x31.2)) fun x32 =>
    bnd (gd (some x30.1) false x32.2 (lt (pBin Try.prog .eql 2 (.tmp 32) (.const (.int .i64 1)) x32.1 (.int .i64 1)) x32.2)) fun x33 =>
    bnd (gd (some x25) true x33.2 (lt (pickV x30.1 (.bool true) x33.1) x33.2)) fun x34 =>
    bnd (pickV x25 x34.1 (.bool false)) fun x35 =>
    K (x35) x34.2
theorem r68_8  : kCode env 68 false inv k (cp c68 3774) (act 49 [(1, x1), (3, x3), (5, x5), (21, x21)]) h K =
    G68_8 inv x1 h fun y3 h => K .normal (act 49 [(3, y3)]) h := kq_reg
theorem r68_9  : kCode env 68 false inv k (cp c68 7550) (act 49 [(1, x1), (3, x3), (5, x5), (21, x21)]) h K =
    bnd (pBin Try.prog .eql 3 (.tmp 5) (.const (.int .i64 3)) x5 (.int .i64 3)) fun x37 =>
    K .normal (act 49 [(1, x1), (3, x3), (36, x37)]) h := kq_reg
theorem b68_rrrrrrrlrlrr  : kCode env 68 false inv k (cp c68 7551) (act 49 [(1, x1), (3, x3), (36, x36)]) h K = brV x36 (kCode env 68 false inv k (cp c68 15102) (act 49 [(1, x1), (3, x3), (36, x36)]) h K) (kCode env 68 false inv k (cp c68 15103) (act 49 [(1, x1), (3, x3), (36, x36)]) h K) := kq_cond
noncomputable abbrev G68_10 {β : Type} (inv : Inv) (x1 : Value) (h : AH) (K : Value → AH → Option β) : Option β :=
    bnd (pFieldAddr Try.prog 45 x1 1) fun x38 =>
    bnd (pLoad Try.prog 2 x38 h) fun x39 =>
    bnd (pBin Try.prog .eql 2 (.tmp 39) (.const (.int .i64 0)) x39 (.int .i64 0)) fun x40 =>
    bnd (gd (some x40) true h (lt (pFieldAddr Try.prog 45 x1 2) h)) fun x42 =>
    bnd (gd (some x40) true x42.2 (lt (pLoad Try.prog 9 x42.1 x42.2) x42.2)) fun x43 =>
    bnd (gd (some x40) true x43.2 (lt (pLen Try.prog #[9] x43.1 x43.2) x43.2)) fun x44 =>
    bnd (gd (some x40) true x44.2 (lt (pBin Try.prog .leq 3 (.tmp 44) (.const (.int .i64 256)) x44.1 (.int .i64 256)) x44.2)) fun x45 =>
    bnd (pickV x40 x45.1 (.bool false)) fun x46 =>
    K (x46) x45.2
theorem r68_10  : kCode env 68 false inv k (cp c68 15102) (act 49 [(1, x1), (3, x3), (36, x36)]) h K =
    G68_10 inv x1 h fun y3 h => K .normal (act 49 [(3, y3)]) h := kq_reg
noncomputable def F68_rlrr {β : Type} (inv : Inv) (k : Nat) (x1 x3 x5 : Value) (h : AH) (kn : (Value → Value → Value → AH → Option β)) : Option β :=
    bnd (pBin Try.prog .eql 3 (.tmp 5) (.const (.int .i64 0)) x5 (.int .i64 0)) fun x7 =>
    brV x7
    (G68_4 inv x1 h fun y3 h =>
    kn unk y3 unk h)
    (bnd (pBin Try.prog .eql 3 (.tmp 5) (.const (.int .i64 1)) x5 (.int .i64 1)) fun x17 =>
    brV x17
    (bnd (pFieldAddr Try.prog 45 x1 2) fun x18 =>
    bnd (pLoad Try.prog 9 x18 h) fun x19 =>
    bnd (pBin Try.prog .eql 9 (.tmp 19) (.const (.string { data := #[] })) x19 (.string { data := #[] })) fun x20 =>
    kn unk x20 unk h)
    (bnd (pBin Try.prog .eql 3 (.tmp 5) (.const (.int .i64 2)) x5 (.int .i64 2)) fun x22 =>
    brV x22
    (G68_8 inv x1 h fun y3_1 h_2 =>
    kn unk y3_1 unk h_2)
    (bnd (pBin Try.prog .eql 3 (.tmp 5) (.const (.int .i64 3)) x5 (.int .i64 3)) fun x37 =>
    brV x37
    (G68_10 inv x1 h fun y3_3 h_4 =>
    kn unk y3_3 unk h_4)
    (kn x1 x3 x37 h))))
theorem F68_rlrr_eq  : kCode env 68 false inv k (cp c68 29) (act 49 [(1, x1), (3, x3), (5, x5)]) h K = F68_rlrr inv k x1 x3 x5 h (fun y1 y3 y36 h => K .normal (act 49 [(1, y1), (3, y3), (36, y36)]) h) := by
      unfold F68_rlrr
      simp only [kq_block c68 29 0, kq_seq c68 58, r68_3, b68_rlrlrr, r68_4, kq_seq c68 235, r68_5, b68_rrrlrlrr, r68_6, kq_seq c68 943, r68_7, b68_rrrrrlrlrr, r68_8, kq_seq c68 3775, r68_9, b68_rrrrrrrlrlrr, r68_10, kq_skip c68 15103, reduceIte, reduceCtorEq, XE.exit.injEq, Nat.reduceEqDiff, Nat.reduceMul, Nat.reduceAdd] <;> kernel_rfl
theorem r68_11  : kCode env 68 false inv k (cp c68 60) (act 49 [(1, x1), (3, x3), (36, x36)]) h K =
    bnd (pUn Try.prog .not x3) fun x48 =>
    K .normal (act 49 [(48, x48)]) h := kq_reg
theorem b68_rlrrr  : kCode env 68 false inv k (cp c68 61) (act 49 [(48, x48)]) h K = brV x48 (kCode env 68 false inv k (cp c68 122) (act 49 [(48, x48)]) h K) (kCode env 68 false inv k (cp c68 123) (act 49 [(48, x48)]) h K) := kq_cond
theorem r68_12  : kCode env 68 false inv k (cp c68 244) (act 49 [(48, x48)]) h K =
    K .normal (act 49 [(2, (.int .i64 160))]) h := kq_reg
theorem res68_0 : resOfFn env.P 68 .ret (act 49 [(2, x2)]) h = some (x2, h) := kq_res
theorem r68_13  : kCode env 68 false inv k (cp c68 62) (act 49 [(48, x48)]) h K =
    K .normal (act 49 [(2, (.int .i64 0))]) h := kq_reg
/-- shadowbook/shadowbookref16.Check -/
noncomputable def F68 (inv : Inv) (k : Nat) (x0 : Value) (h : AH) : Option (Value × AH) :=
    bnd (pBox Try.prog 45 x0 h) fun x1 =>
    bnd (pFieldAddr Try.prog 45 x1.1 0) fun x4 =>
    bnd (pLoad Try.prog 3 x4 x1.2) fun x5 =>
    F68_rlrr inv k x1.1 (.bool false) x5 x1.2
    (fun y1 y3 y36 h =>
    bnd (pUn Try.prog .not y3) fun x48 =>
    brV x48
    (some ((.int .i64 160), h))
    (some ((.int .i64 0), h)))
theorem F68_eq : eFun env k inv 68 #[x0] h = F68 inv k x0 h := by
      refine (kq_fun (a := act 49 [(0, x0)]) (c := cp c68 1)).trans ?_
      unfold F68
      simp only [kq_seq c68 1, r68_0, kq_seq c68 3, r68_1, kq_seq c68 7, kq_seq c68 14, r68_2, F68_rlrr_eq, kq_seq c68 15, kq_seq c68 30, r68_11, b68_rlrrr, kq_seq c68 122, r68_12, kq_ret c68 245, res68_0, kq_skip c68 123, kq_seq c68 31, r68_13, kq_ret c68 63, reduceIte, reduceCtorEq, XE.exit.injEq, Nat.reduceEqDiff, Nat.reduceMul, Nat.reduceAdd] <;> kernel_rfl
theorem F68_call : eInv env (k + 1) (.func 68) #[] #[x0] h = F68 (eInv env k) k x0 h := kq_inv F68_eq
noncomputable def c69 : Code := codeOf Try.prog 69
theorem r69_0  : kCode env 69 false inv k (cp c69 2) (act 39 [(0, x0), (1, x1), (2, x2)]) h K =
    K .normal (act 39 [(0, x0), (1, x1), (2, x2)]) h := kq_reg
theorem r69_1  : kCode env 69 false inv k (cp c69 12) (act 39 [(0, x0), (1, x1), (2, x2)]) h K =
    bnd (pLen Try.prog #[37] x0 h) fun x12 =>
    K .normal (act 39 [(0, x0), (1, x1), (2, x2), (11, x0), (12, x12), (13, (.int .i64 0))]) h := kq_reg
theorem r69_2  : kCode env 69 false inv k (cp c69 104) (act 39 [(0, x0), (1, x1), (2, x2), (11, x11), (12, x12), (13, x13)]) h K =
    bnd (pBin Try.prog .lss 3 (.tmp 13) (.tmp 12) x13 x12) fun x14 =>
    K .normal (act 39 [(0, x0), (1, x1), (2, x2), (11, x11), (12, x12), (13, x13), (14, x14)]) h := kq_reg
theorem b69_lrllrlr  : kCode env 69 false inv k (cp c69 210) (act 39 [(0, x0), (1, x1), (2, x2), (11, x11), (12, x12), (13, x13), (14, x14)]) h K = brV x14 (kCode env 69 false inv k (cp c69 420) (act 39 [(0, x0), (1, x1), (2, x2), (11, x11), (12, x12), (13, x13), (14, x14)]) h K) (kCode env 69 false inv k (cp c69 421) (act 39 [(0, x0), (1, x1), (2, x2), (11, x11), (12, x12), (13, x13), (14, x14)]) h K) := kq_cond
theorem r69_3  : kCode env 69 false inv k (cp c69 1688) (act 39 [(0, x0), (1, x1), (2, x2), (11, x11), (12, x12), (13, x13), (14, x14)]) h K =
    bnd (pIndexAddr Try.prog 37 x11 x13) fun x16 =>
    bnd (pLoad Try.prog 45 x16 h) fun x17 =>
    bnd (pAlloc Try.prog 45 h) fun x8 =>
    bnd (kSt (pStore Try.prog 45 x8.1 x17 x8.2)) fun u =>
    K .normal (act 39 [(0, x0), (1, x1), (2, x2), (7, x13), (8, x8.1), (11, x11), (12, x12), (13, x13)]) u.2 := kq_reg
theorem r69_4  : kCode env 69 false inv k (cp c69 6756) (act 39 [(0, x0), (1, x1), (2, x2), (7, x7), (8, x8), (11, x11), (12, x12), (13, x13)]) h K =
    bnd (pLen Try.prog #[37] x1 h) fun x20 =>
    bnd (pBin Try.prog .geq 3 (.tmp 18) (.tmp 20) x7 x20) fun x21 =>
    K .normal (act 39 [(0, x0), (1, x1), (2, x2), (7, x7), (8, x8), (11, x11), (12, x12), (13, x13), (21, x21)]) h := kq_reg
theorem b69_rlrllrrllrlr  : kCode env 69 false inv k (cp c69 6757) (act 39 [(0, x0), (1, x1), (2, x2), (7, x7), (8, x8), (11, x11), (12, x12), (13, x13), (21, x21)]) h K = brV x21 (kCode env 69 false inv k (cp c69 13514) (act 39 [(0, x0), (1, x1), (2, x2), (7, x7), (8, x8), (11, x11), (12, x12), (13, x13), (21, x21)]) h K) (kCode env 69 false inv k (cp c69 13515) (act 39 [(0, x0), (1, x1), (2, x2), (7, x7), (8, x8), (11, x11), (12, x12), (13, x13), (21, x21)]) h K) := kq_cond
theorem r69_5  : kCode env 69 false inv k (cp c69 27028) (act 39 [(0, x0), (1, x1), (2, x2), (7, x7), (8, x8), (11, x11), (12, x12), (13, x13), (21, x21)]) h K =
    K .normal (act 39 [(6, (.int .i64 1))]) h := kq_reg
theorem r69_6  : kCode env 69 false inv k (cp c69 6758) (act 39 [(0, x0), (1, x1), (2, x2), (7, x7), (8, x8), (11, x11), (12, x12), (13, x13), (21, x21)]) h K =
    bnd (pIndexAddr Try.prog 37 x1 x7) fun x24 =>
    bnd (pLoad Try.prog 45 x24 h) fun x25 =>
    bnd (pAlloc Try.prog 45 h) fun x9 =>
    bnd (kSt (pStore Try.prog 45 x9.1 x25 x9.2)) fun u =>
    K .normal (act 39 [(0, x0), (1, x1), (2, x2), (8, x8), (9, x9.1), (11, x11), (12, x12), (13, x13)]) u.2 := kq_reg
theorem r69_7  : kCode env 69 false inv k (cp c69 13518) (act 39 [(0, x0), (1, x1), (2, x2), (8, x8), (9, x9), (11, x11), (12, x12), (13, x13)]) h K =
    bnd (pLoad Try.prog 45 x8 h) fun x27 =>
    bnd (pLoad Try.prog 45 x9 h) fun x28 =>
    bnd (callV inv x2 #[x27, x28] h) fun x29 =>
    K .normal (act 39 [(0, x0), (1, x1), (2, x2), (10, x29.1), (11, x11), (12, x12), (13, x13)]) x29.2 := kq_reg
theorem r69_8  : kCode env 69 false inv k (cp c69 27038) (act 39 [(0, x0), (1, x1), (2, x2), (10, x10), (11, x11), (12, x12), (13, x13)]) h K =
    bnd (pBin Try.prog .neq 3 (.tmp 30) (.const (.int .i64 0)) x10 (.int .i64 0)) fun x31 =>
    K .normal (act 39 [(0, x0), (1, x1), (2, x2), (10, x10), (11, x11), (12, x12), (13, x13), (31, x31)]) h := kq_reg
theorem b69_rrrrrllrrllrlr  : kCode env 69 false inv k (cp c69 27039) (act 39 [(0, x0), (1, x1), (2, x2), (10, x10), (11, x11), (12, x12), (13, x13), (31, x31)]) h K = brV x31 (kCode env 69 false inv k (cp c69 54078) (act 39 [(0, x0), (1, x1), (2, x2), (10, x10), (11, x11), (12, x12), (13, x13), (31, x31)]) h K) (kCode env 69 false inv k (cp c69 54079) (act 39 [(0, x0), (1, x1), (2, x2), (10, x10), (11, x11), (12, x12), (13, x13), (31, x31)]) h K) := kq_cond
theorem r69_9  : kCode env 69 false inv k (cp c69 108156) (act 39 [(0, x0), (1, x1), (2, x2), (10, x10), (11, x11), (12, x12), (13, x13), (31, x31)]) h K =
    K .normal (act 39 [(6, x10)]) h := kq_reg
theorem r69_10  : kCode env 69 false inv k (cp c69 423) (act 39 [(0, x0), (1, x1), (2, x2), (10, x10), (11, x11), (12, x12), (13, x13), (31, x31)]) h K =
    bnd (pBin Try.prog .add 3 (.tmp 13) (.const (.int .i64 1)) x13 (.int .i64 1)) fun x33 =>
    K .normal (act 39 [(0, x0), (1, x1), (2, x2), (11, x11), (12, x12), (13, x33)]) h := kq_reg
noncomputable def F69_lrlr {β : Type} (inv : Inv) (k : Nat) : Nat → Value → Value → Value → Value → Value → Value → AH → (Value → Value → Value → Value → Value → Value → Value → AH → Option β) → (Value → AH → Option β) → Option β
  | 0, _, _, _, _, _, _, _, _, _ => none
  | j + 1, x0, x1, x2, x11, x12, x13, h, ke0, kr =>
    bnd (pBin Try.prog .lss 3 (.tmp 13) (.tmp 12) x13 x12) fun x14 =>
    brV x14
    (bnd (pIndexAddr Try.prog 37 x11 x13) fun x16 =>
    bnd (pLoad Try.prog 45 x16 h) fun x17 =>
    bnd (pAlloc Try.prog 45 h) fun x8 =>
    bnd (kSt (pStore Try.prog 45 x8.1 x17 x8.2)) fun u =>
    bnd (pLen Try.prog #[37] x1 u.2) fun x20 =>
    bnd (pBin Try.prog .geq 3 (.tmp 18) (.tmp 20) x13 x20) fun x21 =>
    brV x21
    (kr (.int .i64 1) u.2)
    (bnd (pIndexAddr Try.prog 37 x1 x13) fun x24 =>
    bnd (pLoad Try.prog 45 x24 u.2) fun x25 =>
    bnd (pAlloc Try.prog 45 u.2) fun x9 =>
    bnd (kSt (pStore Try.prog 45 x9.1 x25 x9.2)) fun u_1 =>
    bnd (pLoad Try.prog 45 x8.1 u_1.2) fun x27 =>
    bnd (pLoad Try.prog 45 x9.1 u_1.2) fun x28 =>
    bnd (callV inv x2 #[x27, x28] u_1.2) fun x29 =>
    bnd (pBin Try.prog .neq 3 (.tmp 30) (.const (.int .i64 0)) x29.1 (.int .i64 0)) fun x31 =>
    brV x31
    (kr x29.1 x29.2)
    (bnd (pBin Try.prog .add 3 (.tmp 13) (.const (.int .i64 1)) x13 (.int .i64 1)) fun x33 =>
    F69_lrlr inv k j x0 x1 x2 x11 x12 x33 x29.2 ke0 kr)))
    (ke0 x0 x1 x2 x11 x12 x13 x14 h)
theorem F69_lrlr_j (j : Nat) : kLoop (kCode env 69 false inv k (cp c69 52)) j (act 39 [(0, x0), (1, x1), (2, x2), (11, x11), (12, x12), (13, x13)]) h K = F69_lrlr inv k j x0 x1 x2 x11 x12 x13 h (fun y0 y1 y2 y11 y12 y13 y14 h => K (.exit 0) (act 39 [(0, y0), (1, y1), (2, y2), (11, y11), (12, y12), (13, y13), (14, y14)]) h) (fun y6 h => K .ret (act 39 [(6, y6)]) h) := by
      induction j generalizing x0 x1 x2 x11 x12 x13 h with
      | zero => rfl
      | succ j ih =>
        unfold F69_lrlr
        simp only [kLoop, kq_seq c69 52, r69_2, kq_seq c69 105, b69_lrllrlr, kq_skip c69 420, kq_seq c69 211, kq_block c69 422 1, kq_seq c69 844, r69_3, kq_seq c69 1689, kq_seq c69 3378, r69_4, b69_rlrllrrllrlr, kq_seq c69 13514, r69_5, kq_ret c69 27029, kq_skip c69 13515, kq_seq c69 3379, r69_6, kq_seq c69 6759, r69_7, kq_seq c69 13519, r69_8, b69_rrrrrllrrllrlr, kq_seq c69 54078, r69_9, kq_ret c69 108157, kq_skip c69 54079, r69_10, kq_exit c69 421 0, ih, reduceIte, reduceCtorEq, XE.exit.injEq, Nat.reduceEqDiff, Nat.reduceMul, Nat.reduceAdd] <;> kernel_rfl
theorem F69_lrlr_eq  : kCode env 69 false inv k (cp c69 26) (act 39 [(0, x0), (1, x1), (2, x2), (11, x11), (12, x12), (13, x13)]) h K = F69_lrlr inv k k x0 x1 x2 x11 x12 x13 h (fun y0 y1 y2 y11 y12 y13 y14 h => K (.exit 0) (act 39 [(0, y0), (1, y1), (2, y2), (11, y11), (12, y12), (13, y13), (14, y14)]) h) (fun y6 h => K .ret (act 39 [(6, y6)]) h) := kq_loop (F69_lrlr_j k)
theorem r69_11  : kCode env 69 false inv k (cp c69 28) (act 39 [(0, x0), (1, x1), (2, x2), (11, x11), (12, x12), (13, x13), (14, x14)]) h K =
    bnd (pLen Try.prog #[37] x0 h) fun x35 =>
    bnd (pLen Try.prog #[37] x1 h) fun x37 =>
    bnd (pBin Try.prog .lss 3 (.tmp 35) (.tmp 37) x35 x37) fun x38 =>
    K .normal (act 39 [(38, x38)]) h := kq_reg
theorem b69_rlrr  : kCode env 69 false inv k (cp c69 29) (act 39 [(38, x38)]) h K = brV x38 (kCode env 69 false inv k (cp c69 58) (act 39 [(38, x38)]) h K) (kCode env 69 false inv k (cp c69 59) (act 39 [(38, x38)]) h K) := kq_cond
theorem r69_12  : kCode env 69 false inv k (cp c69 116) (act 39 [(38, x38)]) h K =
    K .normal (act 39 [(6, (.int .i64 (-1)))]) h := kq_reg
theorem res69_0 : resOfFn env.P 69 .ret (act 39 [(6, x6)]) h = some (x6, h) := kq_res
theorem r69_13  : kCode env 69 false inv k (cp c69 30) (act 39 [(38, x38)]) h K =
    K .normal (act 39 [(6, (.int .i64 0))]) h := kq_reg
/-- slices.CompareFunc[[]shadowbook/api.Cell,[]shadowbook/api.Cell,shadowbook/api.Cell,shadowbook/api.Cell] -/
noncomputable def F69 (inv : Inv) (k : Nat) (x0 x1 x2 : Value) (h : AH) : Option (Value × AH) :=
    bnd (pLen Try.prog #[37] x0 h) fun x12 =>
    F69_lrlr inv k k x0 x1 x2 x0 x12 (.int .i64 0) h
    (fun y0 y1 y2 y11 y12 y13 y14 h =>
    bnd (pLen Try.prog #[37] y0 h) fun x35 =>
    bnd (pLen Try.prog #[37] y1 h) fun x37 =>
    bnd (pBin Try.prog .lss 3 (.tmp 35) (.tmp 37) x35 x37) fun x38 =>
    brV x38
    (some ((.int .i64 (-1)), h))
    (some ((.int .i64 0), h)))
    (fun y6 h_2 =>
    some (y6, h_2))
theorem F69_eq : eFun env k inv 69 #[x0, x1, x2] h = F69 inv k x0 x1 x2 h := by
      refine (kq_fun (a := act 39 [(0, x0), (1, x1), (2, x2)]) (c := cp c69 1)).trans ?_
      unfold F69
      simp only [kq_seq c69 1, r69_0, kq_seq c69 3, kq_seq c69 6, r69_1, kq_block c69 13 0, F69_lrlr_eq, kq_seq c69 7, kq_seq c69 14, r69_11, b69_rlrr, kq_seq c69 58, r69_12, kq_ret c69 117, res69_0, kq_skip c69 59, kq_seq c69 15, r69_13, kq_ret c69 31, reduceIte, reduceCtorEq, XE.exit.injEq, Nat.reduceEqDiff, Nat.reduceMul, Nat.reduceAdd] <;> kernel_rfl
theorem F69_call : eInv env (k + 1) (.func 69) #[] #[x0, x1, x2] h = F69 (eInv env k) k x0 x1 x2 h := kq_inv F69_eq
noncomputable def c70 : Code := codeOf Try.prog 70
theorem r70_0  : kCode env 70 false inv k (cp c70 2) (act 22 [(0, x0), (1, x1)]) h K =
    bnd (pBox Try.prog 45 x0 h) fun x2 =>
    bnd (pBox Try.prog 45 x1 x2.2) fun x3 =>
    K .normal (act 22 [(2, x2.1), (3, x3.1)]) x3.2 := kq_reg
noncomputable abbrev G70_1 {β : Type} (inv : Inv) (x2 x3 : Value) (h : AH) (K : Value → AH → Option β) : Option β :=
    bnd (pFieldAddr Try.prog 45 x2 0) fun x5 =>
    bnd (pLoad Try.prog 3 x5 h) fun x6 =>
    bnd (pFieldAddr Try.prog 45 x3 0) fun x7 =>
    bnd (pLoad Try.prog 3 x7 h) fun x8 =>
    bnd (inv (.func 82) #[] #[x6, x8] h) fun x9 =>
    bnd (pFieldAddr Try.prog 45 x2 1) fun x10 =>
    bnd (pLoad Try.prog 2 x10 x9.2) fun x11 =>
    bnd (pFieldAddr Try.prog 45 x3 1) fun x12 =>
    bnd (pLoad Try.prog 2 x12 x9.2) fun x13 =>
    bnd (inv (.func 83) #[] #[x11, x13] x9.2) fun x14 =>
    bnd (pFieldAddr Try.prog 45 x2 2) fun x15 =>
    bnd (pLoad Try.prog 9 x15 x14.2) fun x16 =>
    bnd (pFieldAddr Try.prog 45 x3 2) fun x17 =>
    bnd (pLoad Try.prog 9 x17 x14.2) fun x18 =>
    bnd (inv (.func 84) #[] #[x16, x18] x14.2) fun x19 =>
    bnd (pBuildSlice Try.prog 36 3 #[(0, x9.1), (1, x14.1), (2, x19.1)] x19.2) fun x20 =>
    bnd (inv (.func 81) #[] #[x20.1] x20.2) fun x21 =>
    chkK ((!true || !true || (sameO (pLoad Try.prog 2 x10 h) x11 && sameO (pLoad Try.prog 2 x10 x9.2) x11)) && ((!true || !true || (sameO (pLoad Try.prog 2 x12 h) x13 && sameO (pLoad Try.prog 2 x12 x9.2) x13)) && ((!true || !true || (sameO (pLoad Try.prog 9 x15 h) x16 && sameO (pLoad Try.prog 9 x15 x9.2) x16)) && ((!true || !true || (sameO (pLoad Try.prog 9 x15 x9.2) x16 && sameO (pLoad Try.prog 9 x15 x14.2) x16)) && ((!true || !true || (sameO (pLoad Try.prog 9 x17 h) x18 && sameO (pLoad Try.prog 9 x17 x9.2) x18)) && ((!true || !true || (sameO (pLoad Try.prog 9 x17 x9.2) x18 && sameO (pLoad Try.prog 9 x17 x14.2) x18)) && true)))))) <|
    K (x21.1) x21.2
theorem r70_1  : kCode env 70 false inv k (cp c70 6) (act 22 [(2, x2), (3, x3)]) h K =
    G70_1 inv x2 x3 h fun y4 h => K .normal (act 22 [(4, y4)]) h := kq_draw
theorem res70_0 : resOfFn env.P 70 .ret (act 22 [(4, x4)]) h = some (x4, h) := kq_res
/-- shadowbook/value.Compare -/
noncomputable def F70 (inv : Inv) (k : Nat) (x0 x1 : Value) (h : AH) : Option (Value × AH) :=
    bnd (pBox Try.prog 45 x0 h) fun x2 =>
    bnd (pBox Try.prog 45 x1 x2.2) fun x3 =>
    G70_1 inv x2.1 x3.1 x3.2 fun y4 h =>
    some (y4, h)
theorem F70_eq : eFun env k inv 70 #[x0, x1] h = F70 inv k x0 x1 h := by
      refine (kq_fun (a := act 22 [(0, x0), (1, x1)]) (c := cp c70 1)).trans ?_
      unfold F70
      simp only [kq_seq c70 1, r70_0, kq_seq c70 3, r70_1, kq_ret c70 7, res70_0, reduceIte, reduceCtorEq, XE.exit.injEq, Nat.reduceEqDiff, Nat.reduceMul, Nat.reduceAdd] <;> kernel_rfl
theorem F70_call : eInv env (k + 1) (.func 70) #[] #[x0, x1] h = F70 (eInv env k) k x0 x1 h := kq_inv F70_eq
noncomputable def c71 : Code := codeOf Try.prog 71
theorem r71_0  : kCode env 71 false inv k (cp c71 2) (act 19 [(0, x0), (1, x1)]) h K =
    K .normal (act 19 [(0, x0), (1, x1)]) h := kq_reg
theorem r71_1  : kCode env 71 false inv k (cp c71 12) (act 19 [(0, x0), (1, x1)]) h K =
    bnd (pLen Try.prog #[22] x0 h) fun x7 =>
    K .normal (act 19 [(0, x0), (1, x1), (7, x7), (8, (.int .i64 0))]) h := kq_reg
theorem r71_2  : kCode env 71 false inv k (cp c71 104) (act 19 [(0, x0), (1, x1), (7, x7), (8, x8)]) h K =
    bnd (pBin Try.prog .lss 3 (.tmp 8) (.tmp 7) x8 x7) fun x9 =>
    K .normal (act 19 [(0, x0), (1, x1), (7, x7), (8, x8), (9, x9)]) h := kq_reg
theorem b71_lrllrlr  : kCode env 71 false inv k (cp c71 210) (act 19 [(0, x0), (1, x1), (7, x7), (8, x8), (9, x9)]) h K = brV x9 (kCode env 71 false inv k (cp c71 420) (act 19 [(0, x0), (1, x1), (7, x7), (8, x8), (9, x9)]) h K) (kCode env 71 false inv k (cp c71 421) (act 19 [(0, x0), (1, x1), (7, x7), (8, x8), (9, x9)]) h K) := kq_cond
theorem r71_3  : kCode env 71 false inv k (cp c71 1688) (act 19 [(0, x0), (1, x1), (7, x7), (8, x8), (9, x9)]) h K =
    K .normal (act 19 [(0, x0), (1, x1), (5, x8), (7, x7), (8, x8)]) h := kq_reg
theorem r71_4  : kCode env 71 false inv k (cp c71 3378) (act 19 [(0, x0), (1, x1), (5, x5), (7, x7), (8, x8)]) h K =
    bnd (pIndexAddr Try.prog 22 x0 x5) fun x14 =>
    bnd (pLoad Try.prog 80 x14 h) fun x15 =>
    bnd (callV inv x1 #[x15] h) fun x16 =>
    K .normal (act 19 [(0, x0), (1, x1), (5, x5), (7, x7), (8, x8), (16, x16.1)]) x16.2 := kq_reg
theorem b71_rrllrrllrlr  : kCode env 71 false inv k (cp c71 3379) (act 19 [(0, x0), (1, x1), (5, x5), (7, x7), (8, x8), (16, x16)]) h K = brV x16 (kCode env 71 false inv k (cp c71 6758) (act 19 [(0, x0), (1, x1), (5, x5), (7, x7), (8, x8), (16, x16)]) h K) (kCode env 71 false inv k (cp c71 6759) (act 19 [(0, x0), (1, x1), (5, x5), (7, x7), (8, x8), (16, x16)]) h K) := kq_cond
theorem r71_5  : kCode env 71 false inv k (cp c71 13516) (act 19 [(0, x0), (1, x1), (5, x5), (7, x7), (8, x8), (16, x16)]) h K =
    K .normal (act 19 [(4, x5)]) h := kq_reg
theorem r71_6  : kCode env 71 false inv k (cp c71 423) (act 19 [(0, x0), (1, x1), (5, x5), (7, x7), (8, x8), (16, x16)]) h K =
    bnd (pBin Try.prog .add 3 (.tmp 8) (.const (.int .i64 1)) x8 (.int .i64 1)) fun x18 =>
    K .normal (act 19 [(0, x0), (1, x1), (7, x7), (8, x18)]) h := kq_reg
noncomputable def F71_lrlr {β : Type} (inv : Inv) (k : Nat) : Nat → Value → Value → Value → Value → AH → (Value → Value → Value → Value → Value → AH → Option β) → (Value → AH → Option β) → Option β
  | 0, _, _, _, _, _, _, _ => none
  | j + 1, x0, x1, x7, x8, h, ke0, kr =>
    bnd (pBin Try.prog .lss 3 (.tmp 8) (.tmp 7) x8 x7) fun x9 =>
    brV x9
    (bnd (pIndexAddr Try.prog 22 x0 x8) fun x14 =>
    bnd (pLoad Try.prog 80 x14 h) fun x15 =>
    bnd (callV inv x1 #[x15] h) fun x16 =>
    brV x16.1
    (kr x8 x16.2)
    (bnd (pBin Try.prog .add 3 (.tmp 8) (.const (.int .i64 1)) x8 (.int .i64 1)) fun x18 =>
    F71_lrlr inv k j x0 x1 x7 x18 x16.2 ke0 kr))
    (ke0 x0 x1 x7 x8 x9 h)
theorem F71_lrlr_j (j : Nat) : kLoop (kCode env 71 false inv k (cp c71 52)) j (act 19 [(0, x0), (1, x1), (7, x7), (8, x8)]) h K = F71_lrlr inv k j x0 x1 x7 x8 h (fun y0 y1 y7 y8 y9 h => K (.exit 0) (act 19 [(0, y0), (1, y1), (7, y7), (8, y8), (9, y9)]) h) (fun y4 h => K .ret (act 19 [(4, y4)]) h) := by
      induction j generalizing x0 x1 x7 x8 h with
      | zero => rfl
      | succ j ih =>
        unfold F71_lrlr
        simp only [kLoop, kq_seq c71 52, r71_2, kq_seq c71 105, b71_lrllrlr, kq_skip c71 420, kq_seq c71 211, kq_block c71 422 1, kq_seq c71 844, r71_3, kq_seq c71 1689, r71_4, b71_rrllrrllrlr, kq_seq c71 6758, r71_5, kq_ret c71 13517, kq_skip c71 6759, r71_6, kq_exit c71 421 0, ih, reduceIte, reduceCtorEq, XE.exit.injEq, Nat.reduceEqDiff, Nat.reduceMul, Nat.reduceAdd] <;> kernel_rfl
theorem F71_lrlr_eq  : kCode env 71 false inv k (cp c71 26) (act 19 [(0, x0), (1, x1), (7, x7), (8, x8)]) h K = F71_lrlr inv k k x0 x1 x7 x8 h (fun y0 y1 y7 y8 y9 h => K (.exit 0) (act 19 [(0, y0), (1, y1), (7, y7), (8, y8), (9, y9)]) h) (fun y4 h => K .ret (act 19 [(4, y4)]) h) := kq_loop (F71_lrlr_j k)
theorem r71_7  : kCode env 71 false inv k (cp c71 14) (act 19 [(0, x0), (1, x1), (7, x7), (8, x8), (9, x9)]) h K =
    K .normal (act 19 [(4, (.int .i64 (-1)))]) h := kq_reg
theorem res71_0 : resOfFn env.P 71 .ret (act 19 [(4, x4)]) h = some (x4, h) := kq_res
/-- slices.IndexFunc[[]shadowbook/api.Col,shadowbook/api.Col] -/
noncomputable def F71 (inv : Inv) (k : Nat) (x0 x1 : Value) (h : AH) : Option (Value × AH) :=
    bnd (pLen Try.prog #[22] x0 h) fun x7 =>
    F71_lrlr inv k k x0 x1 x7 (.int .i64 0) h
    (fun y0 y1 y7 y8 y9 h =>
    some ((.int .i64 (-1)), h))
    (fun y4 h_1 =>
    some (y4, h_1))
theorem F71_eq : eFun env k inv 71 #[x0, x1] h = F71 inv k x0 x1 h := by
      refine (kq_fun (a := act 19 [(0, x0), (1, x1)]) (c := cp c71 1)).trans ?_
      unfold F71
      simp only [kq_seq c71 1, r71_0, kq_seq c71 3, kq_seq c71 6, r71_1, kq_block c71 13 0, F71_lrlr_eq, kq_seq c71 7, r71_7, kq_ret c71 15, res71_0, reduceIte, reduceCtorEq, XE.exit.injEq, Nat.reduceEqDiff, Nat.reduceMul, Nat.reduceAdd] <;> kernel_rfl
theorem F71_call : eInv env (k + 1) (.func 71) #[] #[x0, x1] h = F71 (eInv env k) k x0 x1 h := kq_inv F71_eq
noncomputable def c72 : Code := codeOf Try.prog 72
theorem r72_0  : kCode env 72 false inv k (cp c72 2) (act 84 [(0, x0), (1, x1)]) h K =
    bnd (pBox Try.prog 59 x1 h) fun x3 =>
    K .normal (act 84 [(0, x0), (3, x3.1)]) x3.2 := kq_reg
noncomputable abbrev G72_1 {β : Type} (inv : Inv) (x0 x3 : Value) (h : AH) (K : Value → AH → Option β) : Option β :=
    bnd (pFieldAddr Try.prog 59 x3 0) fun x8 =>
    bnd (pLoad Try.prog 3 x8 h) fun x9 =>
    bnd (inv (.func 63) #[] #[x9] h) fun x10 =>
    bnd (gd (some x10.1) true x10.2 (lt (pFieldAddr Try.prog 59 x3 1) x10.2)) fun x12 =>
    bnd (gd (some x10.1) true x12.2 (lt (pLoad Try.prog 3 x12.1 x12.2) x12.2)) fun x13 =>
    bnd (gd (some x10.1) true x13.2 (lt (pBin Try.prog .lss 3 (.tmp 13) (.const (.int .i64 0)) x13.1 (.int .i64 0)) x13.2)) fun x14 =>
    bnd (gd (some x10.1) true x14.2 (some (x14.1, x14.2))) fun x15 =>
    bnd (gd (some x15.1) false x15.2 (lt (pFieldAddr Try.prog 59 x3 1) x15.2)) fun x16 =>
    bnd (gd (some x15.1) false x16.2 (lt (pLoad Try.prog 3 x16.1 x16.2) x16.2)) fun x17 =>
    bnd (gd (some x15.1) false x17.2 (some (x0, x17.2))) fun x18 =>
    bnd (gd (some x15.1) false x18.2 (lt (pLen Try.prog #[22] x18.1 x18.2) x18.2)) fun x19 =>
    bnd (gd (some x15.1) false x19.2 (lt (pBin Try.prog .geq 3 (.tmp 17) (.tmp 19) x17.1 x19.1) x19.2)) fun x20 =>
    bnd (gd (some x10.1) true x20.2 (lt (pickV x15.1 (.bool true) x20.1) x20.2)) fun x21 =>
    bnd (pickV x10.1 x21.1 (.bool false)) fun x22 =>
    bnd (gd (some x22) false x21.2 (lt (pFieldAddr Try.prog 59 x3 0) x21.2)) fun x24 =>
    bnd (gd (some x22) false x24.2 (lt (pLoad Try.prog 3 x24.1 x24.2) x24.2)) fun x25 =>
    bnd (gd (some x22) false x25.2 (inv (.func 63) #[] #[x25.1] x25.2)) fun x26 =>
    bnd (gd (some x22) false x26.2 (lt (pUn Try.prog .not x26.1) x26.2)) fun x27 =>
    bnd (gd (some x22) false x27.2 (some (x27.1, x27.2))) fun x28 =>
    bnd (gd (some x28.1) true x28.2 (lt (pFieldAddr Try.prog 59 x3 1) x28.2)) fun x29 =>
    bnd (gd (some x28.1) true x29.2 (lt (pLoad Try.prog 3 x29.1 x29.2) x29.2)) fun x30 =>
    bnd (gd (some x28.1) true x30.2 (lt (pBin Try.prog .neq 3 (.tmp 30) (.const (.int .i64 0)) x30.1 (.int .i64 0)) x30.2)) fun x31 =>
    bnd (gd (some x22) false x31.2 (lt (pickV x28.1 x31.1 (.bool false)) x31.2)) fun x32 =>
    bnd (pickV x22 (.bool true) x32.1) fun x33 =>
    K (x33) x32.2
theorem r72_1  : kCode env 72 false inv k (cp c72 12) (act 84 [(0, x0), (3, x3)]) h K =
    G72_1 inv x0 x3 h fun y33 h => K .normal (act 84 [(0, x0), (3, x3), (33, y33)]) h := kq_reg
theorem b72_rlr  : kCode env 72 false inv k (cp c72 13) (act 84 [(0, x0), (3, x3), (33, x33)]) h K = brV x33 (kCode env 72 false inv k (cp c72 26) (act 84 [(0, x0), (3, x3), (33, x33)]) h K) (kCode env 72 false inv k (cp c72 27) (act 84 [(0, x0), (3, x3), (33, x33)]) h K) := kq_cond
theorem r72_2  : kCode env 72 false inv k (cp c72 52) (act 84 [(0, x0), (3, x3), (33, x33)]) h K =
    K .normal (act 84 [(4, (.bool false))]) h := kq_reg
theorem res72_0 : resOfFn env.P 72 .ret (act 84 [(4, x4)]) h = some (x4, h) := kq_res
theorem r72_3  : kCode env 72 false inv k (cp c72 28) (act 84 [(0, x0), (3, x3), (33, x33)]) h K =
    bnd (inv (.func 78) #[] #[] h) fun x35 =>
    bnd (pFieldAddr Try.prog 59 x3 0) fun x36 =>
    bnd (pLoad Try.prog 3 x36 x35.2) fun x37 =>
    bnd (pLookup Try.prog 101 x35.1 x37 true x35.2) fun x38 =>
    bnd (pExtract x38 0) fun x39 =>
    bnd (pExtract x38 1) fun x40 =>
    chkK ((!true || !true || (sameO (pLoad Try.prog 3 x36 h) x37 && sameO (pLoad Try.prog 3 x36 x35.2) x37)) && true) <|
    K .normal (act 84 [(0, x0), (3, x3), (6, x40)]) x35.2 := kq_draw
theorem r72_4  : kCode env 72 false inv k (cp c72 58) (act 84 [(0, x0), (3, x3), (6, x6)]) h K =
    K .normal (act 84 [(0, x0), (3, x3), (41, x6)]) h := kq_reg
theorem b72_rrlrr  : kCode env 72 false inv k (cp c72 59) (act 84 [(0, x0), (3, x3), (41, x41)]) h K = brV x41 (kCode env 72 false inv k (cp c72 118) (act 84 [(0, x0), (3, x3), (41, x41)]) h K) (kCode env 72 false inv k (cp c72 119) (act 84 [(0, x0), (3, x3), (41, x41)]) h K) := kq_cond
noncomputable abbrev G72_5 {β : Type} (inv : Inv) (x0 x3 : Value) (h : AH) (K : Value → AH → Option β) : Option β :=
    bnd (pFieldAddr Try.prog 59 x3 2) fun x42 =>
    bnd (pLoad Try.prog 45 x42 h) fun x43 =>
    bnd (inv (.func 77) #[] #[x43] h) fun x44 =>
    bnd (pBin Try.prog .neq 27 (.tmp 44) (.const (.int .i64 0)) x44.1 (.int .i64 0)) fun x45 =>
    bnd (gd3 (some x45) false x44.2 (lt (pFieldAddr Try.prog 59 x3 2) x44.2)) fun x47 =>
    bnd (gd3 (some x45) false x47.2.1 (lt (pFieldAddr Try.prog 45 x47.1 0) x47.2.1)) fun x48 =>
    bnd (gd3 (some x45) false x48.2.1 (lt (pLoad Try.prog 3 x48.1 x48.2.1) x48.2.1)) fun x49 =>
    bnd (gd3 (some x45) false x49.2.1 (some (x0, x49.2.1))) fun x50 =>
    bnd (gd3 (some x45) false x50.2.1 (lt (pFieldAddr Try.prog 59 x3 1) x50.2.1)) fun x51 =>
    bnd (gd3 (some x45) false x51.2.1 (lt (pLoad Try.prog 3 x51.1 x51.2.1) x51.2.1)) fun x52 =>
    bnd (gd3 (some x45) false x52.2.1 (lt (pIndexAddr Try.prog 22 x50.1 x52.1) x52.2.1)) fun x53 =>
    bnd (gd3 (some x45) false x53.2.1 (lt (pFieldAddr Try.prog 80 x53.1 1) x53.2.1)) fun x54 =>
    bnd (gd3 (some x45) false x54.2.1 (lt (pLoad Try.prog 3 x54.1 x54.2.1) x54.2.1)) fun x55 =>
    bnd (gd3 (some x45) false x55.2.1 (lt (pBin Try.prog .neq 3 (.tmp 49) (.tmp 55) x49.1 x55.1) x55.2.1)) fun x56 =>
    bnd (pickV x45 (.bool true) x56.1) fun x57 =>
    K (x57) x56.2.1
theorem r72_5  : kCode env 72 false inv k (cp c72 236) (act 84 [(0, x0), (3, x3), (41, x41)]) h K =
    G72_5 inv x0 x3 h fun y57 h => K .normal (act 84 [(3, x3), (57, y57)]) h := kq_draw
theorem b72_rlrrlrr  : kCode env 72 false inv k (cp c72 237) (act 84 [(3, x3), (57, x57)]) h K = brV x57 (kCode env 72 false inv k (cp c72 474) (act 84 [(3, x3), (57, x57)]) h K) (kCode env 72 false inv k (cp c72 475) (act 84 [(3, x3), (57, x57)]) h K) := kq_cond
theorem r72_6  : kCode env 72 false inv k (cp c72 948) (act 84 [(3, x3), (57, x57)]) h K =
    K .normal (act 84 [(4, (.bool false))]) h := kq_reg
theorem r72_7  : kCode env 72 false inv k (cp c72 238) (act 84 [(0, x0), (3, x3), (41, x41)]) h K =
    bnd (pFieldAddr Try.prog 59 x3 2) fun x58 =>
    bnd (pLoad Try.prog 45 x58 h) fun x59 =>
    bnd (pBuild Try.prog 45 #[]) fun x60 =>
    bnd (pBin Try.prog .neq 45 (.tmp 59) (.tmp 60) x59 x60) fun x61 =>
    K .normal (act 84 [(3, x3), (61, x61)]) h := kq_reg
theorem b72_rrrrlrr  : kCode env 72 false inv k (cp c72 239) (act 84 [(3, x3), (61, x61)]) h K = brV x61 (kCode env 72 false inv k (cp c72 478) (act 84 [(3, x3), (61, x61)]) h K) (kCode env 72 false inv k (cp c72 479) (act 84 [(3, x3), (61, x61)]) h K) := kq_cond
theorem r72_8  : kCode env 72 false inv k (cp c72 956) (act 84 [(3, x3), (61, x61)]) h K =
    K .normal (act 84 [(4, (.bool false))]) h := kq_reg
noncomputable def F72_rrlrr {β : Type} (inv : Inv) (k : Nat) (x0 x3 x41 : Value) (h : AH) (kn : (Value → Value → Value → AH → Option β)) (kr : (Value → AH → Option β)) : Option β :=
    brV x41
    (G72_5 inv x0 x3 h fun y57 h =>
    brV y57
    (kr (.bool false) h)
    (kn x3 y57 unk h))
    (bnd (pFieldAddr Try.prog 59 x3 2) fun x58 =>
    bnd (pLoad Try.prog 45 x58 h) fun x59 =>
    bnd (pBuild Try.prog 45 #[]) fun x60 =>
    bnd (pBin Try.prog .neq 45 (.tmp 59) (.tmp 60) x59 x60) fun x61 =>
    brV x61
    (kr (.bool false) h)
    (kn x3 unk x61 h))
theorem F72_rrlrr_eq  : kCode env 72 false inv k (cp c72 59) (act 84 [(0, x0), (3, x3), (41, x41)]) h K = F72_rrlrr inv k x0 x3 x41 h (fun y3 y57 y61 h => K .normal (act 84 [(3, y3), (57, y57), (61, y61)]) h) (fun y4 h => K .ret (act 84 [(4, y4)]) h) := by
      unfold F72_rrlrr
      simp only [b72_rrlrr, kq_seq c72 118, r72_5, b72_rlrrlrr, kq_seq c72 474, r72_6, kq_ret c72 949, kq_skip c72 475, kq_seq c72 119, r72_7, b72_rrrrlrr, kq_seq c72 478, r72_8, kq_ret c72 957, kq_skip c72 479, reduceIte, reduceCtorEq, XE.exit.injEq, Nat.reduceEqDiff, Nat.reduceMul, Nat.reduceAdd] <;> kernel_rfl
theorem r72_9  : kCode env 72 false inv k (cp c72 60) (act 84 [(3, x3), (57, x57), (61, x61)]) h K =
    bnd (pFieldAddr Try.prog 59 x3 3) fun x62 =>
    bnd (pLoad Try.prog 36 x62 h) fun x63 =>
    bnd (pLen Try.prog #[36] x63 h) fun x64 =>
    K .normal (act 84 [(3, x3), (7, x64)]) h := kq_reg
theorem r72_10  : kCode env 72 false inv k (cp c72 122) (act 84 [(3, x3), (7, x7)]) h K =
    bnd (pFieldAddr Try.prog 59 x3 0) fun x65 =>
    bnd (pLoad Try.prog 3 x65 h) fun x66 =>
    K .normal (act 84 [(7, x7), (66, x66)]) h := kq_reg
theorem r72_11  : kCode env 72 false inv k (cp c72 984) (act 84 [(7, x7), (66, x66)]) h K =
    bnd (pBin Try.prog .eql 3 (.tmp 66) (.const (.int .i64 1)) x66 (.int .i64 1)) fun x68 =>
    K .normal (act 84 [(7, x7), (66, x66), (67, x68)]) h := kq_reg
theorem b72_rllrrlrrr  : kCode env 72 false inv k (cp c72 985) (act 84 [(7, x7), (66, x66), (67, x67)]) h K = brV x67 (kCode env 72 false inv k (cp c72 1970) (act 84 [(7, x7), (66, x66), (67, x67)]) h K) (kCode env 72 false inv k (cp c72 1971) (act 84 [(7, x7), (66, x66), (67, x67)]) h K) := kq_cond
theorem r72_12  : kCode env 72 false inv k (cp c72 3942) (act 84 [(7, x7), (66, x66), (67, x67)]) h K =
    bnd (pBin Try.prog .eql 3 (.tmp 66) (.const (.int .i64 2)) x66 (.int .i64 2)) fun x69 =>
    K .normal (act 84 [(7, x7), (66, x66), (67, x69)]) h := kq_reg
theorem b72_rrrllrrlrrr  : kCode env 72 false inv k (cp c72 3943) (act 84 [(7, x7), (66, x66), (67, x67)]) h K = brV x67 (kCode env 72 false inv k (cp c72 7886) (act 84 [(7, x7), (66, x66), (67, x67)]) h K) (kCode env 72 false inv k (cp c72 7887) (act 84 [(7, x7), (66, x66), (67, x67)]) h K) := kq_cond
theorem r72_13  : kCode env 72 false inv k (cp c72 15774) (act 84 [(7, x7), (66, x66), (67, x67)]) h K =
    bnd (pBin Try.prog .eql 3 (.tmp 66) (.const (.int .i64 3)) x66 (.int .i64 3)) fun x70 =>
    K .normal (act 84 [(7, x7), (66, x66), (67, x70)]) h := kq_reg
theorem b72_rrrrrllrrlrrr  : kCode env 72 false inv k (cp c72 15775) (act 84 [(7, x7), (66, x66), (67, x67)]) h K = brV x67 (kCode env 72 false inv k (cp c72 31550) (act 84 [(7, x7), (66, x66), (67, x67)]) h K) (kCode env 72 false inv k (cp c72 31551) (act 84 [(7, x7), (66, x66), (67, x67)]) h K) := kq_cond
theorem r72_14  : kCode env 72 false inv k (cp c72 63102) (act 84 [(7, x7), (66, x66), (67, x67)]) h K =
    bnd (pBin Try.prog .eql 3 (.tmp 66) (.const (.int .i64 4)) x66 (.int .i64 4)) fun x71 =>
    K .normal (act 84 [(7, x7), (66, x66), (67, x71)]) h := kq_reg
theorem b72_rrrrrrrllrrlrrr  : kCode env 72 false inv k (cp c72 63103) (act 84 [(7, x7), (66, x66), (67, x67)]) h K = brV x67 (kCode env 72 false inv k (cp c72 126206) (act 84 [(7, x7), (66, x66), (67, x67)]) h K) (kCode env 72 false inv k (cp c72 126207) (act 84 [(7, x7), (66, x66), (67, x67)]) h K) := kq_cond
theorem r72_15  : kCode env 72 false inv k (cp c72 126207) (act 84 [(7, x7), (66, x66), (67, x67)]) h K =
    bnd (pBin Try.prog .eql 3 (.tmp 66) (.const (.int .i64 5)) x66 (.int .i64 5)) fun x72 =>
    K .normal (act 84 [(7, x7), (66, x66), (67, x72)]) h := kq_reg
noncomputable def F72_rllrrlrrr {β : Type} (inv : Inv) (k : Nat) (x7 x66 x67 : Value) (h : AH) (kn : (Value → Value → Value → AH → Option β)) : Option β :=
    brV x67
    (kn x7 x66 x67 h)
    (bnd (pBin Try.prog .eql 3 (.tmp 66) (.const (.int .i64 2)) x66 (.int .i64 2)) fun x69 =>
    brV x69
    (kn x7 x66 x69 h)
    (bnd (pBin Try.prog .eql 3 (.tmp 66) (.const (.int .i64 3)) x66 (.int .i64 3)) fun x70 =>
    brV x70
    (kn x7 x66 x70 h)
    (bnd (pBin Try.prog .eql 3 (.tmp 66) (.const (.int .i64 4)) x66 (.int .i64 4)) fun x71 =>
    brV x71
    (kn x7 x66 x71 h)
    (bnd (pBin Try.prog .eql 3 (.tmp 66) (.const (.int .i64 5)) x66 (.int .i64 5)) fun x72 =>
    kn x7 x66 x72 h))))
theorem F72_rllrrlrrr_eq  : kCode env 72 false inv k (cp c72 985) (act 84 [(7, x7), (66, x66), (67, x67)]) h K = F72_rllrrlrrr inv k x7 x66 x67 h (fun y7 y66 y67 h => K .normal (act 84 [(7, y7), (66, y66), (67, y67)]) h) := by
      unfold F72_rllrrlrrr
      simp only [b72_rllrrlrrr, kq_skip c72 1970, kq_seq c72 1971, r72_12, b72_rrrllrrlrrr, kq_skip c72 7886, kq_seq c72 7887, r72_13, b72_rrrrrllrrlrrr, kq_skip c72 31550, kq_seq c72 31551, r72_14, b72_rrrrrrrllrrlrrr, kq_skip c72 126206, r72_15, reduceIte, reduceCtorEq, XE.exit.injEq, Nat.reduceEqDiff, Nat.reduceMul, Nat.reduceAdd] <;> kernel_rfl
theorem b72_rlrrlrrr  : kCode env 72 false inv k (cp c72 493) (act 84 [(7, x7), (66, x66), (67, x67)]) h K = brV x67 (kCode env 72 false inv k (cp c72 986) (act 84 [(7, x7), (66, x66), (67, x67)]) h K) (kCode env 72 false inv k (cp c72 987) (act 84 [(7, x7), (66, x66), (67, x67)]) h K) := kq_cond
theorem r72_16  : kCode env 72 false inv k (cp c72 1972) (act 84 [(7, x7), (66, x66), (67, x67)]) h K =
    bnd (pBin Try.prog .eql 3 (.tmp 73) (.const (.int .i64 0)) x7 (.int .i64 0)) fun x74 =>
    K .normal (act 84 [(4, x74)]) h := kq_reg
theorem r72_17  : kCode env 72 false inv k (cp c72 3948) (act 84 [(7, x7), (66, x66), (67, x67)]) h K =
    bnd (pBin Try.prog .eql 3 (.tmp 66) (.const (.int .i64 6)) x66 (.int .i64 6)) fun x76 =>
    K .normal (act 84 [(7, x7), (66, x66), (75, x76)]) h := kq_reg
theorem b72_rlrrlrrlrrr  : kCode env 72 false inv k (cp c72 3949) (act 84 [(7, x7), (66, x66), (75, x75)]) h K = brV x75 (kCode env 72 false inv k (cp c72 7898) (act 84 [(7, x7), (66, x66), (75, x75)]) h K) (kCode env 72 false inv k (cp c72 7899) (act 84 [(7, x7), (66, x66), (75, x75)]) h K) := kq_cond
theorem r72_18  : kCode env 72 false inv k (cp c72 7899) (act 84 [(7, x7), (66, x66), (75, x75)]) h K =
    bnd (pBin Try.prog .eql 3 (.tmp 66) (.const (.int .i64 7)) x66 (.int .i64 7)) fun x77 =>
    K .normal (act 84 [(7, x7), (66, x66), (75, x77)]) h := kq_reg
noncomputable def F72_rlrrlrrlrrr {β : Type} (inv : Inv) (k : Nat) (x7 x66 x75 : Value) (h : AH) (kn : (Value → Value → Value → AH → Option β)) : Option β :=
    brV x75
    (kn x7 x66 x75 h)
    (bnd (pBin Try.prog .eql 3 (.tmp 66) (.const (.int .i64 7)) x66 (.int .i64 7)) fun x77 =>
    kn x7 x66 x77 h)
theorem F72_rlrrlrrlrrr_eq  : kCode env 72 false inv k (cp c72 3949) (act 84 [(7, x7), (66, x66), (75, x75)]) h K = F72_rlrrlrrlrrr inv k x7 x66 x75 h (fun y7 y66 y75 h => K .normal (act 84 [(7, y7), (66, y66), (75, y75)]) h) := by
      unfold F72_rlrrlrrlrrr
      simp only [b72_rlrrlrrlrrr, kq_skip c72 7898, r72_18, reduceIte, reduceCtorEq, XE.exit.injEq, Nat.reduceEqDiff, Nat.reduceMul, Nat.reduceAdd] <;> kernel_rfl
theorem b72_rrrlrrlrrr  : kCode env 72 false inv k (cp c72 1975) (act 84 [(7, x7), (66, x66), (75, x75)]) h K = brV x75 (kCode env 72 false inv k (cp c72 3950) (act 84 [(7, x7), (66, x66), (75, x75)]) h K) (kCode env 72 false inv k (cp c72 3951) (act 84 [(7, x7), (66, x66), (75, x75)]) h K) := kq_cond
theorem r72_19  : kCode env 72 false inv k (cp c72 7900) (act 84 [(7, x7), (66, x66), (75, x75)]) h K =
    bnd (pBin Try.prog .gtr 3 (.tmp 78) (.const (.int .i64 0)) x7 (.int .i64 0)) fun x79 =>
    K .normal (act 84 [(4, x79)]) h := kq_reg
theorem r72_20  : kCode env 72 false inv k (cp c72 7902) (act 84 [(7, x7), (66, x66), (75, x75)]) h K =
    bnd (pBin Try.prog .eql 3 (.tmp 66) (.const (.int .i64 8)) x66 (.int .i64 8)) fun x81 =>
    K .normal (act 84 [(7, x7), (80, x81)]) h := kq_reg
theorem b72_rrrrrlrrlrrr  : kCode env 72 false inv k (cp c72 7903) (act 84 [(7, x7), (80, x80)]) h K = brV x80 (kCode env 72 false inv k (cp c72 15806) (act 84 [(7, x7), (80, x80)]) h K) (kCode env 72 false inv k (cp c72 15807) (act 84 [(7, x7), (80, x80)]) h K) := kq_cond
theorem r72_21  : kCode env 72 false inv k (cp c72 31612) (act 84 [(7, x7), (80, x80)]) h K =
    bnd (pBin Try.prog .eql 3 (.tmp 82) (.const (.int .i64 1)) x7 (.int .i64 1)) fun x83 =>
    K .normal (act 84 [(4, x83)]) h := kq_reg
theorem r72_22  : kCode env 72 false inv k (cp c72 62) (act 84 [(7, x7), (80, x80)]) h K =
    K .normal (act 84 [(4, (.bool false))]) h := kq_reg
/-- shadowbook/pred.node -/
noncomputable def F72 (inv : Inv) (k : Nat) (x0 x1 : Value) (h : AH) : Option (Value × AH) :=
    bnd (pBox Try.prog 59 x1 h) fun x3 =>
    G72_1 inv x0 x3.1 x3.2 fun y33 h =>
    brV y33
    (some ((.bool false), h))
    (bnd (inv (.func 78) #[] #[] h) fun x35 =>
    bnd (pFieldAddr Try.prog 59 x3.1 0) fun x36 =>
    bnd (pLoad Try.prog 3 x36 x35.2) fun x37 =>
    bnd (pLookup Try.prog 101 x35.1 x37 true x35.2) fun x38 =>
    bnd (pExtract x38 0) fun x39 =>
    bnd (pExtract x38 1) fun x40 =>
    chkK ((!true || !true || (sameO (pLoad Try.prog 3 x36 h) x37 && sameO (pLoad Try.prog 3 x36 x35.2) x37)) && true) <|
    F72_rrlrr inv k x0 x3.1 x40 x35.2
    (fun y3 y57 y61 h_1 =>
    bnd (pFieldAddr Try.prog 59 y3 3) fun x62 =>
    bnd (pLoad Try.prog 36 x62 h_1) fun x63 =>
    bnd (pLen Try.prog #[36] x63 h_1) fun x64 =>
    bnd (pFieldAddr Try.prog 59 y3 0) fun x65 =>
    bnd (pLoad Try.prog 3 x65 h_1) fun x66 =>
    bnd (pBin Try.prog .eql 3 (.tmp 66) (.const (.int .i64 1)) x66 (.int .i64 1)) fun x68 =>
    F72_rllrrlrrr inv k x64 x66 x68 h_1
    (fun y7 y66 y67 h_2 =>
    brV y67
    (bnd (pBin Try.prog .eql 3 (.tmp 73) (.const (.int .i64 0)) y7 (.int .i64 0)) fun x74 =>
    some (x74, h_2))
    (bnd (pBin Try.prog .eql 3 (.tmp 66) (.const (.int .i64 6)) y66 (.int .i64 6)) fun x76 =>
    F72_rlrrlrrlrrr inv k y7 y66 x76 h_2
    (fun y7_3 y66_4 y75 h_5 =>
    brV y75
    (bnd (pBin Try.prog .gtr 3 (.tmp 78) (.const (.int .i64 0)) y7_3 (.int .i64 0)) fun x79 =>
    some (x79, h_5))
    (bnd (pBin Try.prog .eql 3 (.tmp 66) (.const (.int .i64 8)) y66_4 (.int .i64 8)) fun x81 =>
    brV x81
    (bnd (pBin Try.prog .eql 3 (.tmp 82) (.const (.int .i64 1)) y7_3 (.int .i64 1)) fun x83 =>
    some (x83, h_5))
    (some ((.bool false), h_5)))))))
    (fun y4 h_6 =>
    some (y4, h_6)))
theorem F72_eq : eFun env k inv 72 #[x0, x1] h = F72 inv k x0 x1 h := by
      refine (kq_fun (a := act 84 [(0, x0), (1, x1)]) (c := cp c72 1)).trans ?_
      unfold F72
      simp only [kq_seq c72 1, r72_0, kq_seq c72 3, kq_seq c72 6, r72_1, b72_rlr, kq_seq c72 26, r72_2, kq_ret c72 53, res72_0, kq_skip c72 27, kq_seq c72 7, kq_seq c72 14, r72_3, kq_seq c72 29, r72_4, F72_rrlrr_eq, kq_seq c72 15, kq_seq c72 30, r72_9, kq_seq c72 61, r72_10, kq_block c72 123 0, kq_seq c72 246, kq_seq c72 492, r72_11, F72_rllrrlrrr_eq, b72_rlrrlrrr, kq_seq c72 986, r72_16, kq_ret c72 1973, kq_seq c72 987, kq_seq c72 1974, r72_17, F72_rlrrlrrlrrr_eq, b72_rrrlrrlrrr, kq_seq c72 3950, r72_19, kq_ret c72 7901, kq_seq c72 3951, r72_20, b72_rrrrrlrrlrrr, kq_seq c72 15806, r72_21, kq_ret c72 31613, kq_skip c72 15807, kq_seq c72 31, r72_22, kq_ret c72 63, reduceIte, reduceCtorEq, XE.exit.injEq, Nat.reduceEqDiff, Nat.reduceMul, Nat.reduceAdd] <;> kernel_rfl
theorem F72_call : eInv env (k + 1) (.func 72) #[] #[x0, x1] h = F72 (eInv env k) k x0 x1 h := kq_inv F72_eq
noncomputable def c73 : Code := codeOf Try.prog 73
theorem r73_0  : kCode env 73 false inv k (cp c73 2) (act 9 [(0, x0), (1, x1)]) h K =
    K .normal (act 9 [(0, x0), (1, x1)]) h := kq_reg
theorem r73_1  : kCode env 73 false inv k (cp c73 6) (act 9 [(0, x0), (1, x1)]) h K =
    bnd (inv (.func 85) #[] #[x0, x1] h) fun x7 =>
    bnd (pBin Try.prog .geq 3 (.tmp 7) (.const (.int .i64 0)) x7.1 (.int .i64 0)) fun x8 =>
    K .normal (act 9 [(4, x8)]) x7.2 := kq_reg
theorem res73_0 : resOfFn env.P 73 .ret (act 9 [(4, x4)]) h = some (x4, h) := kq_res
/-- slices.ContainsFunc[[]int,int] -/
noncomputable def F73 (inv : Inv) (k : Nat) (x0 x1 : Value) (h : AH) : Option (Value × AH) :=
    bnd (inv (.func 85) #[] #[x0, x1] h) fun x7 =>
    bnd (pBin Try.prog .geq 3 (.tmp 7) (.const (.int .i64 0)) x7.1 (.int .i64 0)) fun x8 =>
    some (x8, x7.2)
theorem F73_eq : eFun env k inv 73 #[x0, x1] h = F73 inv k x0 x1 h := by
      refine (kq_fun (a := act 9 [(0, x0), (1, x1)]) (c := cp c73 1)).trans ?_
      unfold F73
      simp only [kq_seq c73 1, r73_0, kq_seq c73 3, r73_1, kq_ret c73 7, res73_0, reduceIte, reduceCtorEq, XE.exit.injEq, Nat.reduceEqDiff, Nat.reduceMul, Nat.reduceAdd] <;> kernel_rfl
theorem F73_call : eInv env (k + 1) (.func 73) #[] #[x0, x1] h = F73 (eInv env k) k x0 x1 h := kq_inv F73_eq
noncomputable def c74 : Code := codeOf Try.prog 74
theorem r74_0  : kCode env 74 false inv k (cp c74 2) (act 5 [(0, x0)]) h K =
    K .normal (act 5 [(0, x0)]) h := kq_reg
theorem r74_1  : kCode env 74 false inv k (cp c74 6) (act 5 [(0, x0)]) h K =
    bnd (pBin Try.prog .neq 3 (.tmp 3) (.const (.int .i64 1)) x0 (.int .i64 1)) fun x4 =>
    K .normal (act 5 [(2, x4)]) h := kq_reg
theorem res74_0 : resOfFn env.P 74 .ret (act 5 [(2, x2)]) h = some (x2, h) := kq_res
/-- shadowbook/pred.Check$1 -/
noncomputable def F74 (inv : Inv) (k : Nat) (x0 : Value) (h : AH) : Option (Value × AH) :=
    bnd (pBin Try.prog .neq 3 (.tmp 3) (.const (.int .i64 1)) x0 (.int .i64 1)) fun x4 =>
    some (x4, h)
theorem F74_eq : eFun env k inv 74 #[x0] h = F74 inv k x0 h := by
      refine (kq_fun (a := act 5 [(0, x0)]) (c := cp c74 1)).trans ?_
      unfold F74
      simp only [kq_seq c74 1, r74_0, kq_seq c74 3, r74_1, kq_ret c74 7, res74_0, reduceIte, reduceCtorEq, XE.exit.injEq, Nat.reduceEqDiff, Nat.reduceMul, Nat.reduceAdd] <;> kernel_rfl
theorem F74_call : eInv env (k + 1) (.func 74) #[] #[x0] h = F74 (eInv env k) k x0 h := kq_inv F74_eq
noncomputable def c75 : Code := codeOf Try.prog 75
theorem r75_0  : kCode env 75 false inv k (cp c75 2) (act 25 [(0, x0), (1, x1)]) h K =
    bnd (pBox Try.prog 80 x0 h) fun x2 =>
    bnd (pBox Try.prog 45 x1 x2.2) fun x3 =>
    K .normal (act 25 [(2, x2.1), (3, x3.1)]) x3.2 := kq_reg
theorem r75_1  : kCode env 75 false inv k (cp c75 12) (act 25 [(2, x2), (3, x3)]) h K =
    bnd (pLoad Try.prog 45 x3 h) fun x6 =>
    bnd (inv (.func 77) #[] #[x6] h) fun x7 =>
    K .normal (act 25 [(2, x2), (3, x3), (5, x7.1)]) x7.2 := kq_reg
theorem r75_2  : kCode env 75 false inv k (cp c75 26) (act 25 [(2, x2), (3, x3), (5, x5)]) h K =
    bnd (pBin Try.prog .neq 27 (.tmp 8) (.const (.int .i64 0)) x5 (.int .i64 0)) fun x9 =>
    K .normal (act 25 [(2, x2), (3, x3), (5, x5), (9, x9)]) h := kq_reg
theorem b75_rrlr  : kCode env 75 false inv k (cp c75 27) (act 25 [(2, x2), (3, x3), (5, x5), (9, x9)]) h K = brV x9 (kCode env 75 false inv k (cp c75 54) (act 25 [(2, x2), (3, x3), (5, x5), (9, x9)]) h K) (kCode env 75 false inv k (cp c75 55) (act 25 [(2, x2), (3, x3), (5, x5), (9, x9)]) h K) := kq_cond
theorem r75_3  : kCode env 75 false inv k (cp c75 108) (act 25 [(2, x2), (3, x3), (5, x5), (9, x9)]) h K =
    K .normal (act 25 [(4, x5)]) h := kq_reg
theorem res75_0 : resOfFn env.P 75 .ret (act 25 [(4, x4)]) h = some (x4, h) := kq_res
noncomputable abbrev G75_4 {β : Type} (inv : Inv) (x2 x3 : Value) (h : AH) (K : Value → AH → Option β) : Option β :=
    bnd (pFieldAddr Try.prog 45 x3 0) fun x11 =>
    bnd (pLoad Try.prog 3 x11 h) fun x12 =>
    bnd (pFieldAddr Try.prog 80 x2 1) fun x13 =>
    bnd (pLoad Try.prog 3 x13 h) fun x14 =>
    bnd (pBin Try.prog .eql 3 (.tmp 12) (.tmp 14) x12 x14) fun x15 =>
    bnd (gd (some x15) false h (lt (pFieldAddr Try.prog 45 x3 0) h)) fun x17 =>
    bnd (gd (some x15) false x17.2 (lt (pLoad Try.prog 3 x17.1 x17.2) x17.2)) fun x18 =>
    bnd (gd (some x15) false x18.2 (lt (pBin Try.prog .eql 3 (.tmp 18) (.const (.int .i64 0)) x18.1 (.int .i64 0)) x18.2)) fun x19 =>
    bnd (gd (some x15) false x19.2 (some (x19.1, x19.2))) fun x20 =>
    bnd (gd (some x20.1) true x20.2 (lt (pFieldAddr Try.prog 80 x2 2) x20.2)) fun x21 =>
    bnd (gd (some x20.1) true x21.2 (lt (pLoad Try.prog 4 x21.1 x21.2) x21.2)) fun x22 =>
    bnd (gd (some x15) false x22.2 (lt (pickV x20.1 x22.1 (.bool false)) x22.2)) fun x23 =>
    bnd (pickV x15 (.bool true) x23.1) fun x24 =>
    K (x24) x23.2
theorem r75_4  : kCode env 75 false inv k (cp c75 28) (act 25 [(2, x2), (3, x3), (5, x5), (9, x9)]) h K =
    G75_4 inv x2 x3 h fun y24 h => K .normal (act 25 [(24, y24)]) h := kq_reg
theorem b75_rlrr  : kCode env 75 false inv k (cp c75 29) (act 25 [(24, x24)]) h K = brV x24 (kCode env 75 false inv k (cp c75 58) (act 25 [(24, x24)]) h K) (kCode env 75 false inv k (cp c75 59) (act 25 [(24, x24)]) h K) := kq_cond
theorem r75_5  : kCode env 75 false inv k (cp c75 116) (act 25 [(24, x24)]) h K =
    K .normal (act 25 [(4, (.int .i64 0))]) h := kq_reg
theorem r75_6  : kCode env 75 false inv k (cp c75 30) (act 25 [(24, x24)]) h K =
    K .normal (act 25 [(4, (.int .i64 173))]) h := kq_reg
/-- shadowbook/schema.Fits -/
noncomputable def F75 (inv : Inv) (k : Nat) (x0 x1 : Value) (h : AH) : Option (Value × AH) :=
    bnd (pBox Try.prog 80 x0 h) fun x2 =>
    bnd (pBox Try.prog 45 x1 x2.2) fun x3 =>
    bnd (pLoad Try.prog 45 x3.1 x3.2) fun x6 =>
    bnd (inv (.func 77) #[] #[x6] x3.2) fun x7 =>
    bnd (pBin Try.prog .neq 27 (.tmp 8) (.const (.int .i64 0)) x7.1 (.int .i64 0)) fun x9 =>
    brV x9
    (some (x7.1, x7.2))
    (G75_4 inv x2.1 x3.1 x7.2 fun y24 h =>
    brV y24
    (some ((.int .i64 0), h))
    (some ((.int .i64 173), h)))
theorem F75_eq : eFun env k inv 75 #[x0, x1] h = F75 inv k x0 x1 h := by
      refine (kq_fun (a := act 25 [(0, x0), (1, x1)]) (c := cp c75 1)).trans ?_
      unfold F75
      simp only [kq_seq c75 1, r75_0, kq_seq c75 3, kq_seq c75 6, r75_1, kq_seq c75 13, r75_2, b75_rrlr, kq_seq c75 54, r75_3, kq_ret c75 109, res75_0, kq_skip c75 55, kq_seq c75 7, kq_seq c75 14, r75_4, b75_rlrr, kq_seq c75 58, r75_5, kq_ret c75 117, kq_skip c75 59, kq_seq c75 15, r75_6, kq_ret c75 31, reduceIte, reduceCtorEq, XE.exit.injEq, Nat.reduceEqDiff, Nat.reduceMul, Nat.reduceAdd] <;> kernel_rfl
theorem F75_call : eInv env (k + 1) (.func 75) #[] #[x0, x1] h = F75 (eInv env k) k x0 x1 h := kq_inv F75_eq
noncomputable def c76 : Code := codeOf Try.prog 76
theorem r76_0  : kCode env 76 false inv k (cp c76 2) (act 9 [(0, x0), (1, x1)]) h K =
    K .normal (act 9 [(0, x0), (1, x1)]) h := kq_reg
theorem r76_1  : kCode env 76 false inv k (cp c76 6) (act 9 [(0, x0), (1, x1)]) h K =
    bnd (inv (.func 86) #[] #[x0, x1] h) fun x7 =>
    bnd (pBin Try.prog .geq 3 (.tmp 7) (.const (.int .i64 0)) x7.1 (.int .i64 0)) fun x8 =>
    K .normal (act 9 [(4, x8)]) x7.2 := kq_reg
theorem res76_0 : resOfFn env.P 76 .ret (act 9 [(4, x4)]) h = some (x4, h) := kq_res
/-- slices.Contains[[]int,int] -/
noncomputable def F76 (inv : Inv) (k : Nat) (x0 x1 : Value) (h : AH) : Option (Value × AH) :=
    bnd (inv (.func 86) #[] #[x0, x1] h) fun x7 =>
    bnd (pBin Try.prog .geq 3 (.tmp 7) (.const (.int .i64 0)) x7.1 (.int .i64 0)) fun x8 =>
    some (x8, x7.2)
theorem F76_eq : eFun env k inv 76 #[x0, x1] h = F76 inv k x0 x1 h := by
      refine (kq_fun (a := act 9 [(0, x0), (1, x1)]) (c := cp c76 1)).trans ?_
      unfold F76
      simp only [kq_seq c76 1, r76_0, kq_seq c76 3, r76_1, kq_ret c76 7, res76_0, reduceIte, reduceCtorEq, XE.exit.injEq, Nat.reduceEqDiff, Nat.reduceMul, Nat.reduceAdd] <;> kernel_rfl
theorem F76_call : eInv env (k + 1) (.func 76) #[] #[x0, x1] h = F76 (eInv env k) k x0 x1 h := kq_inv F76_eq
noncomputable def c77 : Code := codeOf Try.prog 77
theorem r77_0  : kCode env 77 false inv k (cp c77 2) (act 40 [(0, x0)]) h K =
    bnd (pBox Try.prog 45 x0 h) fun x1 =>
    K .normal (act 40 [(1, x1.1)]) x1.2 := kq_reg
theorem r77_1  : kCode env 77 false inv k (cp c77 6) (act 40 [(1, x1)]) h K =
    K .normal (act 40 [(1, x1), (3, (.bool false))]) h := kq_reg
theorem r77_2  : kCode env 77 false inv k (cp c77 28) (act 40 [(1, x1), (3, x3)]) h K =
    bnd (pFieldAddr Try.prog 45 x1 0) fun x4 =>
    bnd (pLoad Try.prog 3 x4 h) fun x5 =>
    K .normal (act 40 [(1, x1), (3, x3), (5, x5)]) h := kq_reg
theorem r77_3  : kCode env 77 false inv k (cp c77 116) (act 40 [(1, x1), (3, x3), (5, x5)]) h K =
    bnd (pBin Try.prog .eql 3 (.tmp 5) (.const (.int .i64 0)) x5 (.int .i64 0)) fun x7 =>
    K .normal (act 40 [(1, x1), (3, x3), (5, x5), (6, x7)]) h := kq_reg
theorem b77_rlrlrr  : kCode env 77 false inv k (cp c77 117) (act 40 [(1, x1), (3, x3), (5, x5), (6, x6)]) h K = brV x6 (kCode env 77 false inv k (cp c77 234) (act 40 [(1, x1), (3, x3), (5, x5), (6, x6)]) h K) (kCode env 77 false inv k (cp c77 235) (act 40 [(1, x1), (3, x3), (5, x5), (6, x6)]) h K) := kq_cond
theorem r77_4  : kCode env 77 false inv k (cp c77 234) (act 40 [(1, x1), (3, x3), (5, x5), (6, x6)]) h K =
    bnd (pLoad Try.prog 45 x1 h) fun x8 =>
    bnd (pBuild Try.prog 45 #[]) fun x9 =>
    bnd (pBin Try.prog .eql 45 (.tmp 8) (.tmp 9) x8 x9) fun x10 =>
    K .normal (act 40 [(3, x10)]) h := kq_reg
theorem r77_5  : kCode env 77 false inv k (cp c77 470) (act 40 [(1, x1), (3, x3), (5, x5), (6, x6)]) h K =
    bnd (pBin Try.prog .eql 3 (.tmp 5) (.const (.int .i64 1)) x5 (.int .i64 1)) fun x12 =>
    K .normal (act 40 [(1, x1), (3, x3), (5, x5), (11, x12)]) h := kq_reg
theorem b77_rrrlrlrr  : kCode env 77 false inv k (cp c77 471) (act 40 [(1, x1), (3, x3), (5, x5), (11, x11)]) h K = brV x11 (kCode env 77 false inv k (cp c77 942) (act 40 [(1, x1), (3, x3), (5, x5), (11, x11)]) h K) (kCode env 77 false inv k (cp c77 943) (act 40 [(1, x1), (3, x3), (5, x5), (11, x11)]) h K) := kq_cond
theorem r77_6  : kCode env 77 false inv k (cp c77 942) (act 40 [(1, x1), (3, x3), (5, x5), (11, x11)]) h K =
    bnd (pFieldAddr Try.prog 45 x1 2) fun x13 =>
    bnd (pLoad Try.prog 9 x13 h) fun x14 =>
    bnd (pBin Try.prog .eql 9 (.tmp 14) (.const (.string { data := #[] })) x14 (.string { data := #[] })) fun x15 =>
    K .normal (act 40 [(3, x15)]) h := kq_reg
theorem r77_7  : kCode env 77 false inv k (cp c77 1886) (act 40 [(1, x1), (3, x3), (5, x5), (11, x11)]) h K =
    bnd (pBin Try.prog .eql 3 (.tmp 5) (.const (.int .i64 2)) x5 (.int .i64 2)) fun x17 =>
    K .normal (act 40 [(1, x1), (3, x3), (5, x5), (16, x17)]) h := kq_reg
theorem b77_rrrrrlrlrr  : kCode env 77 false inv k (cp c77 1887) (act 40 [(1, x1), (3, x3), (5, x5), (16, x16)]) h K = brV x16 (kCode env 77 false inv k (cp c77 3774) (act 40 [(1, x1), (3, x3), (5, x5), (16, x16)]) h K) (kCode env 77 false inv k (cp c77 3775) (act 40 [(1, x1), (3, x3), (5, x5), (16, x16)]) h K) := kq_cond
noncomputable abbrev G77_8 {β : Type} (inv : Inv) (x1 : Value) (h : AH) (K : Value → AH → Option β) : Option β :=
    bnd (pFieldAddr Try.prog 45 x1 2) fun x18 =>
    bnd (pLoad Try.prog 9 x18 h) fun x19 =>
    bnd (pBin Try.prog .eql 9 (.tmp 19) (.const (.string { data := #[] })) x19 (.string { data := #[] })) fun x20 =>
    bnd (gd (some x20) true h (lt (pFieldAddr Try.prog 45 x1 1) h)) fun x22 =>
    bnd (gd (some x20) true x22.2 (lt (pLoad Try.prog 2 x22.1 x22.2) x22.2)) fun x23 =>
    bnd (gd (some x20) true x23.2 (lt (pBin Try.prog .andNot 2 (.tmp 23) (.const (.int .i64 1)) x23.1 (.int .i64 1)) x23.2)) fun x24 =>
    bnd (gd (some x20) true x24.2 (lt (pBin Try.prog .eql 2 (.tmp 24) (.const (.int .i64 0)) x24.1 (.int .i64 0)) x24.2)) fun x25 =>
    bnd (pickV x20 x25.1 (.bool false)) fun x26 =>
    K (x26) x25.2
theorem r77_8  : kCode env 77 false inv k (cp c77 3774) (act 40 [(1, x1), (3, x3), (5, x5), (16, x16)]) h K =
    G77_8 inv x1 h fun y3 h => K .normal (act 40 [(3, y3)]) h := kq_reg
theorem r77_9  : kCode env 77 false inv k (cp c77 7550) (act 40 [(1, x1), (3, x3), (5, x5), (16, x16)]) h K =
    bnd (pBin Try.prog .eql 3 (.tmp 5) (.const (.int .i64 3)) x5 (.int .i64 3)) fun x28 =>
    K .normal (act 40 [(1, x1), (3, x3), (27, x28)]) h := kq_reg
theorem b77_rrrrrrrlrlrr  : kCode env 77 false inv k (cp c77 7551) (act 40 [(1, x1), (3, x3), (27, x27)]) h K = brV x27 (kCode env 77 false inv k (cp c77 15102) (act 40 [(1, x1), (3, x3), (27, x27)]) h K) (kCode env 77 false inv k (cp c77 15103) (act 40 [(1, x1), (3, x3), (27, x27)]) h K) := kq_cond
noncomputable abbrev G77_10 {β : Type} (inv : Inv) (x1 : Value) (h : AH) (K : Value → AH → Option β) : Option β :=
    bnd (pFieldAddr Try.prog 45 x1 1) fun x29 =>
    bnd (pLoad Try.prog 2 x29 h) fun x30 =>
    bnd (pBin Try.prog .eql 2 (.tmp 30) (.const (.int .i64 0)) x30 (.int .i64 0)) fun x31 =>
    bnd (gd (some x31) true h (lt (pFieldAddr Try.prog 45 x1 2) h)) fun x33 =>
    bnd (gd (some x31) true x33.2 (lt (pLoad Try.prog 9 x33.1 x33.2) x33.2)) fun x34 =>
    bnd (gd (some x31) true x34.2 (lt (pLen Try.prog #[9] x34.1 x34.2) x34.2)) fun x35 =>
    bnd (gd (some x31) true x35.2 (lt (pBin Try.prog .leq 3 (.tmp 35) (.const (.int .i64 256)) x35.1 (.int .i64 256)) x35.2)) fun x36 =>
    bnd (pickV x31 x36.1 (.bool false)) fun x37 =>
    K (x37) x36.2
theorem r77_10  : kCode env 77 false inv k (cp c77 15102) (act 40 [(1, x1), (3, x3), (27, x27)]) h K =
    G77_10 inv x1 h fun y3 h => K .normal (act 40 [(3, y3)]) h := kq_reg
noncomputable def F77_rlrr {β : Type} (inv : Inv) (k : Nat) (x1 x3 x5 : Value) (h : AH) (kn : (Value → Value → Value → AH → Option β)) : Option β :=
    bnd (pBin Try.prog .eql 3 (.tmp 5) (.const (.int .i64 0)) x5 (.int .i64 0)) fun x7 =>
    brV x7
    (bnd (pLoad Try.prog 45 x1 h) fun x8 =>
    bnd (pBuild Try.prog 45 #[]) fun x9 =>
    bnd (pBin Try.prog .eql 45 (.tmp 8) (.tmp 9) x8 x9) fun x10 =>
    kn unk x10 unk h)
    (bnd (pBin Try.prog .eql 3 (.tmp 5) (.const (.int .i64 1)) x5 (.int .i64 1)) fun x12 =>
    brV x12
    (bnd (pFieldAddr Try.prog 45 x1 2) fun x13 =>
    bnd (pLoad Try.prog 9 x13 h) fun x14 =>
    bnd (pBin Try.prog .eql 9 (.tmp 14) (.const (.string { data := #[] })) x14 (.string { data := #[] })) fun x15 =>
    kn unk x15 unk h)
    (bnd (pBin Try.prog .eql 3 (.tmp 5) (.const (.int .i64 2)) x5 (.int .i64 2)) fun x17 =>
    brV x17
    (G77_8 inv x1 h fun y3 h =>
    kn unk y3 unk h)
    (bnd (pBin Try.prog .eql 3 (.tmp 5) (.const (.int .i64 3)) x5 (.int .i64 3)) fun x28 =>
    brV x28
    (G77_10 inv x1 h fun y3_1 h_2 =>
    kn unk y3_1 unk h_2)
    (kn x1 x3 x28 h))))
theorem F77_rlrr_eq  : kCode env 77 false inv k (cp c77 29) (act 40 [(1, x1), (3, x3), (5, x5)]) h K = F77_rlrr inv k x1 x3 x5 h (fun y1 y3 y27 h => K .normal (act 40 [(1, y1), (3, y3), (27, y27)]) h) := by
      unfold F77_rlrr
      simp only [kq_block c77 29 0, kq_seq c77 58, r77_3, b77_rlrlrr, r77_4, kq_seq c77 235, r77_5, b77_rrrlrlrr, r77_6, kq_seq c77 943, r77_7, b77_rrrrrlrlrr, r77_8, kq_seq c77 3775, r77_9, b77_rrrrrrrlrlrr, r77_10, kq_skip c77 15103, reduceIte, reduceCtorEq, XE.exit.injEq, Nat.reduceEqDiff, Nat.reduceMul, Nat.reduceAdd] <;> kernel_rfl
theorem r77_11  : kCode env 77 false inv k (cp c77 60) (act 40 [(1, x1), (3, x3), (27, x27)]) h K =
    bnd (pUn Try.prog .not x3) fun x39 =>
    K .normal (act 40 [(39, x39)]) h := kq_reg
theorem b77_rlrrr  : kCode env 77 false inv k (cp c77 61) (act 40 [(39, x39)]) h K = brV x39 (kCode env 77 false inv k (cp c77 122) (act 40 [(39, x39)]) h K) (kCode env 77 false inv k (cp c77 123) (act 40 [(39, x39)]) h K) := kq_cond
theorem r77_12  : kCode env 77 false inv k (cp c77 244) (act 40 [(39, x39)]) h K =
    K .normal (act 40 [(2, (.int .i64 160))]) h := kq_reg
theorem res77_0 : resOfFn env.P 77 .ret (act 40 [(2, x2)]) h = some (x2, h) := kq_res
theorem r77_13  : kCode env 77 false inv k (cp c77 62) (act 40 [(39, x39)]) h K =
    K .normal (act 40 [(2, (.int .i64 0))]) h := kq_reg
/-- shadowbook/value.Check -/
noncomputable def F77 (inv : Inv) (k : Nat) (x0 : Value) (h : AH) : Option (Value × AH) :=
    bnd (pBox Try.prog 45 x0 h) fun x1 =>
    bnd (pFieldAddr Try.prog 45 x1.1 0) fun x4 =>
    bnd (pLoad Try.prog 3 x4 x1.2) fun x5 =>
    F77_rlrr inv k x1.1 (.bool false) x5 x1.2
    (fun y1 y3 y27 h =>
    bnd (pUn Try.prog .not y3) fun x39 =>
    brV x39
    (some ((.int .i64 160), h))
    (some ((.int .i64 0), h)))
theorem F77_eq : eFun env k inv 77 #[x0] h = F77 inv k x0 h := by
      refine (kq_fun (a := act 40 [(0, x0)]) (c := cp c77 1)).trans ?_
      unfold F77
      simp only [kq_seq c77 1, r77_0, kq_seq c77 3, r77_1, kq_seq c77 7, kq_seq c77 14, r77_2, F77_rlrr_eq, kq_seq c77 15, kq_seq c77 30, r77_11, b77_rlrrr, kq_seq c77 122, r77_12, kq_ret c77 245, res77_0, kq_skip c77 123, kq_seq c77 31, r77_13, kq_ret c77 63, reduceIte, reduceCtorEq, XE.exit.injEq, Nat.reduceEqDiff, Nat.reduceMul, Nat.reduceAdd] <;> kernel_rfl
theorem F77_call : eInv env (k + 1) (.func 77) #[] #[x0] h = F77 (eInv env k) k x0 h := kq_inv F77_eq
noncomputable def c78 : Code := codeOf Try.prog 78
theorem r78_0  : kCode env 78 false inv k (cp c78 2) (act 3 []) h K =
    K .normal (act 3 []) h := kq_reg
theorem r78_1  : kCode env 78 false inv k (cp c78 6) (act 3 []) h K =
    bnd (pMakeMap Try.prog 101 none h) fun x1 =>
    bnd (kSt (pUpdate Try.prog 101 x1.1 (.int .i64 2) (.func (.func 87) #[] #[]) x1.2)) fun u =>
    bnd (kSt (pUpdate Try.prog 101 x1.1 (.int .i64 3) (.func (.func 88) #[] #[]) u.2)) fun u_1 =>
    bnd (kSt (pUpdate Try.prog 101 x1.1 (.int .i64 4) (.func (.func 89) #[] #[]) u_1.2)) fun u_2 =>
    K .normal (act 3 [(0, x1.1)]) u_2.2 := kq_reg
theorem res78_0 : resOfFn env.P 78 .ret (act 3 [(0, x0)]) h = some (x0, h) := kq_res
/-- shadowbook/pred.orders -/
noncomputable def F78 (inv : Inv) (k : Nat) (h : AH) : Option (Value × AH) :=
    bnd (pMakeMap Try.prog 101 none h) fun x1 =>
    bnd (kSt (pUpdate Try.prog 101 x1.1 (.int .i64 2) (.func (.func 87) #[] #[]) x1.2)) fun u =>
    bnd (kSt (pUpdate Try.prog 101 x1.1 (.int .i64 3) (.func (.func 88) #[] #[]) u.2)) fun u_3 =>
    bnd (kSt (pUpdate Try.prog 101 x1.1 (.int .i64 4) (.func (.func 89) #[] #[]) u_3.2)) fun u_4 =>
    some (x1.1, u_4.2)
theorem F78_eq : eFun env k inv 78 #[] h = F78 inv k  h := by
      refine (kq_fun (a := act 3 []) (c := cp c78 1)).trans ?_
      unfold F78
      simp only [kq_seq c78 1, r78_0, kq_seq c78 3, r78_1, kq_ret c78 7, res78_0, reduceIte, reduceCtorEq, XE.exit.injEq, Nat.reduceEqDiff, Nat.reduceMul, Nat.reduceAdd] <;> kernel_rfl
theorem F78_call : eInv env (k + 1) (.func 78) #[] #[] h = F78 (eInv env k) k  h := kq_inv F78_eq
noncomputable def c79 : Code := codeOf Try.prog 79
theorem r79_0  : kCode env 79 false inv k (cp c79 2) (act 19 [(0, x0), (1, x1)]) h K =
    K .normal (act 19 [(0, x0), (1, x1)]) h := kq_reg
theorem r79_1  : kCode env 79 false inv k (cp c79 12) (act 19 [(0, x0), (1, x1)]) h K =
    bnd (pLen Try.prog #[71] x0 h) fun x7 =>
    K .normal (act 19 [(0, x0), (1, x1), (7, x7), (8, (.int .i64 0))]) h := kq_reg
theorem r79_2  : kCode env 79 false inv k (cp c79 104) (act 19 [(0, x0), (1, x1), (7, x7), (8, x8)]) h K =
    bnd (pBin Try.prog .lss 3 (.tmp 8) (.tmp 7) x8 x7) fun x9 =>
    K .normal (act 19 [(0, x0), (1, x1), (7, x7), (8, x8), (9, x9)]) h := kq_reg
theorem b79_lrllrlr  : kCode env 79 false inv k (cp c79 210) (act 19 [(0, x0), (1, x1), (7, x7), (8, x8), (9, x9)]) h K = brV x9 (kCode env 79 false inv k (cp c79 420) (act 19 [(0, x0), (1, x1), (7, x7), (8, x8), (9, x9)]) h K) (kCode env 79 false inv k (cp c79 421) (act 19 [(0, x0), (1, x1), (7, x7), (8, x8), (9, x9)]) h K) := kq_cond
theorem r79_3  : kCode env 79 false inv k (cp c79 1688) (act 19 [(0, x0), (1, x1), (7, x7), (8, x8), (9, x9)]) h K =
    K .normal (act 19 [(0, x0), (1, x1), (5, x8), (7, x7), (8, x8)]) h := kq_reg
theorem r79_4  : kCode env 79 false inv k (cp c79 3378) (act 19 [(0, x0), (1, x1), (5, x5), (7, x7), (8, x8)]) h K =
    bnd (pIndexAddr Try.prog 71 x0 x5) fun x14 =>
    bnd (pLoad Try.prog 4 x14 h) fun x15 =>
    bnd (pBin Try.prog .eql 4 (.tmp 11) (.tmp 15) x1 x15) fun x16 =>
    K .normal (act 19 [(0, x0), (1, x1), (5, x5), (7, x7), (8, x8), (16, x16)]) h := kq_reg
theorem b79_rrllrrllrlr  : kCode env 79 false inv k (cp c79 3379) (act 19 [(0, x0), (1, x1), (5, x5), (7, x7), (8, x8), (16, x16)]) h K = brV x16 (kCode env 79 false inv k (cp c79 6758) (act 19 [(0, x0), (1, x1), (5, x5), (7, x7), (8, x8), (16, x16)]) h K) (kCode env 79 false inv k (cp c79 6759) (act 19 [(0, x0), (1, x1), (5, x5), (7, x7), (8, x8), (16, x16)]) h K) := kq_cond
theorem r79_5  : kCode env 79 false inv k (cp c79 13516) (act 19 [(0, x0), (1, x1), (5, x5), (7, x7), (8, x8), (16, x16)]) h K =
    K .normal (act 19 [(4, x5)]) h := kq_reg
theorem r79_6  : kCode env 79 false inv k (cp c79 423) (act 19 [(0, x0), (1, x1), (5, x5), (7, x7), (8, x8), (16, x16)]) h K =
    bnd (pBin Try.prog .add 3 (.tmp 8) (.const (.int .i64 1)) x8 (.int .i64 1)) fun x18 =>
    K .normal (act 19 [(0, x0), (1, x1), (7, x7), (8, x18)]) h := kq_reg
noncomputable def F79_lrlr {β : Type} (inv : Inv) (k : Nat) : Nat → Value → Value → Value → Value → AH → (Value → Value → Value → Value → Value → AH → Option β) → (Value → AH → Option β) → Option β
  | 0, _, _, _, _, _, _, _ => none
  | j + 1, x0, x1, x7, x8, h, ke0, kr =>
    bnd (pBin Try.prog .lss 3 (.tmp 8) (.tmp 7) x8 x7) fun x9 =>
    brV x9
    (bnd (pIndexAddr Try.prog 71 x0 x8) fun x14 =>
    bnd (pLoad Try.prog 4 x14 h) fun x15 =>
    bnd (pBin Try.prog .eql 4 (.tmp 11) (.tmp 15) x1 x15) fun x16 =>
    brV x16
    (kr x8 h)
    (bnd (pBin Try.prog .add 3 (.tmp 8) (.const (.int .i64 1)) x8 (.int .i64 1)) fun x18 =>
    F79_lrlr inv k j x0 x1 x7 x18 h ke0 kr))
    (ke0 x0 x1 x7 x8 x9 h)
theorem F79_lrlr_j (j : Nat) : kLoop (kCode env 79 false inv k (cp c79 52)) j (act 19 [(0, x0), (1, x1), (7, x7), (8, x8)]) h K = F79_lrlr inv k j x0 x1 x7 x8 h (fun y0 y1 y7 y8 y9 h => K (.exit 0) (act 19 [(0, y0), (1, y1), (7, y7), (8, y8), (9, y9)]) h) (fun y4 h => K .ret (act 19 [(4, y4)]) h) := by
      induction j generalizing x0 x1 x7 x8 h with
      | zero => rfl
      | succ j ih =>
        unfold F79_lrlr
        simp only [kLoop, kq_seq c79 52, r79_2, kq_seq c79 105, b79_lrllrlr, kq_skip c79 420, kq_seq c79 211, kq_block c79 422 1, kq_seq c79 844, r79_3, kq_seq c79 1689, r79_4, b79_rrllrrllrlr, kq_seq c79 6758, r79_5, kq_ret c79 13517, kq_skip c79 6759, r79_6, kq_exit c79 421 0, ih, reduceIte, reduceCtorEq, XE.exit.injEq, Nat.reduceEqDiff, Nat.reduceMul, Nat.reduceAdd] <;> kernel_rfl
theorem F79_lrlr_eq  : kCode env 79 false inv k (cp c79 26) (act 19 [(0, x0), (1, x1), (7, x7), (8, x8)]) h K = F79_lrlr inv k k x0 x1 x7 x8 h (fun y0 y1 y7 y8 y9 h => K (.exit 0) (act 19 [(0, y0), (1, y1), (7, y7), (8, y8), (9, y9)]) h) (fun y4 h => K .ret (act 19 [(4, y4)]) h) := kq_loop (F79_lrlr_j k)
theorem r79_7  : kCode env 79 false inv k (cp c79 14) (act 19 [(0, x0), (1, x1), (7, x7), (8, x8), (9, x9)]) h K =
    K .normal (act 19 [(4, (.int .i64 (-1)))]) h := kq_reg
theorem res79_0 : resOfFn env.P 79 .ret (act 19 [(4, x4)]) h = some (x4, h) := kq_res
/-- slices.Index[[]bool,bool] -/
noncomputable def F79 (inv : Inv) (k : Nat) (x0 x1 : Value) (h : AH) : Option (Value × AH) :=
    bnd (pLen Try.prog #[71] x0 h) fun x7 =>
    F79_lrlr inv k k x0 x1 x7 (.int .i64 0) h
    (fun y0 y1 y7 y8 y9 h =>
    some ((.int .i64 (-1)), h))
    (fun y4 h_1 =>
    some (y4, h_1))
theorem F79_eq : eFun env k inv 79 #[x0, x1] h = F79 inv k x0 x1 h := by
      refine (kq_fun (a := act 19 [(0, x0), (1, x1)]) (c := cp c79 1)).trans ?_
      unfold F79
      simp only [kq_seq c79 1, r79_0, kq_seq c79 3, kq_seq c79 6, r79_1, kq_block c79 13 0, F79_lrlr_eq, kq_seq c79 7, r79_7, kq_ret c79 15, res79_0, reduceIte, reduceCtorEq, XE.exit.injEq, Nat.reduceEqDiff, Nat.reduceMul, Nat.reduceAdd] <;> kernel_rfl
theorem F79_call : eInv env (k + 1) (.func 79) #[] #[x0, x1] h = F79 (eInv env k) k x0 x1 h := kq_inv F79_eq
noncomputable def c81 : Code := codeOf Try.prog 81
theorem r81_0  : kCode env 81 false inv k (cp c81 2) (act 18 [(0, x0)]) h K =
    K .normal (act 18 [(0, x0)]) h := kq_reg
theorem r81_1  : kCode env 81 false inv k (cp c81 6) (act 18 [(0, x0)]) h K =
    K .normal (act 18 [(0, x0), (3, (.int .i64 0))]) h := kq_reg
theorem r81_2  : kCode env 81 false inv k (cp c81 28) (act 18 [(0, x0), (3, x3)]) h K =
    bnd (pLen Try.prog #[36] x0 h) fun x7 =>
    K .normal (act 18 [(3, x3), (6, x0), (7, x7), (8, (.int .i64 0))]) h := kq_reg
theorem r81_3  : kCode env 81 false inv k (cp c81 232) (act 18 [(3, x3), (6, x6), (7, x7), (8, x8)]) h K =
    bnd (pBin Try.prog .lss 3 (.tmp 8) (.tmp 7) x8 x7) fun x9 =>
    K .normal (act 18 [(3, x3), (6, x6), (7, x7), (8, x8), (9, x9)]) h := kq_reg
theorem b81_lrllrlrr  : kCode env 81 false inv k (cp c81 466) (act 18 [(3, x3), (6, x6), (7, x7), (8, x8), (9, x9)]) h K = brV x9 (kCode env 81 false inv k (cp c81 932) (act 18 [(3, x3), (6, x6), (7, x7), (8, x8), (9, x9)]) h K) (kCode env 81 false inv k (cp c81 933) (act 18 [(3, x3), (6, x6), (7, x7), (8, x8), (9, x9)]) h K) := kq_cond
theorem r81_4  : kCode env 81 false inv k (cp c81 3736) (act 18 [(3, x3), (6, x6), (7, x7), (8, x8), (9, x9)]) h K =
    bnd (pIndexAddr Try.prog 36 x6 x8) fun x10 =>
    bnd (pLoad Try.prog 3 x10 h) fun x11 =>
    K .normal (act 18 [(3, x3), (5, x11), (6, x6), (7, x7), (8, x8)]) h := kq_reg
theorem r81_5  : kCode env 81 false inv k (cp c81 7474) (act 18 [(3, x3), (5, x5), (6, x6), (7, x7), (8, x8)]) h K =
    bnd (pBin Try.prog .neq 3 (.tmp 12) (.tmp 13) x5 x3) fun x14 =>
    K .normal (act 18 [(3, x3), (5, x5), (6, x6), (7, x7), (8, x8), (14, x14)]) h := kq_reg
theorem b81_rrllrrllrlrr  : kCode env 81 false inv k (cp c81 7475) (act 18 [(3, x3), (5, x5), (6, x6), (7, x7), (8, x8), (14, x14)]) h K = brV x14 (kCode env 81 false inv k (cp c81 14950) (act 18 [(3, x3), (5, x5), (6, x6), (7, x7), (8, x8), (14, x14)]) h K) (kCode env 81 false inv k (cp c81 14951) (act 18 [(3, x3), (5, x5), (6, x6), (7, x7), (8, x8), (14, x14)]) h K) := kq_cond
theorem r81_6  : kCode env 81 false inv k (cp c81 29900) (act 18 [(3, x3), (5, x5), (6, x6), (7, x7), (8, x8), (14, x14)]) h K =
    K .normal (act 18 [(2, x5)]) h := kq_reg
theorem r81_7  : kCode env 81 false inv k (cp c81 935) (act 18 [(3, x3), (5, x5), (6, x6), (7, x7), (8, x8), (14, x14)]) h K =
    bnd (pBin Try.prog .add 3 (.tmp 8) (.const (.int .i64 1)) x8 (.int .i64 1)) fun x16 =>
    K .normal (act 18 [(3, x3), (6, x6), (7, x7), (8, x16)]) h := kq_reg
noncomputable def F81_lrlrr {β : Type} (inv : Inv) (k : Nat) : Nat → Value → Value → Value → Value → AH → (Value → Value → Value → Value → Value → AH → Option β) → (Value → AH → Option β) → Option β
  | 0, _, _, _, _, _, _, _ => none
  | j + 1, x3, x6, x7, x8, h, ke0, kr =>
    bnd (pBin Try.prog .lss 3 (.tmp 8) (.tmp 7) x8 x7) fun x9 =>
    brV x9
    (bnd (pIndexAddr Try.prog 36 x6 x8) fun x10 =>
    bnd (pLoad Try.prog 3 x10 h) fun x11 =>
    bnd (pBin Try.prog .neq 3 (.tmp 12) (.tmp 13) x11 x3) fun x14 =>
    brV x14
    (kr x11 h)
    (bnd (pBin Try.prog .add 3 (.tmp 8) (.const (.int .i64 1)) x8 (.int .i64 1)) fun x16 =>
    F81_lrlrr inv k j x3 x6 x7 x16 h ke0 kr))
    (ke0 x3 x6 x7 x8 x9 h)
theorem F81_lrlrr_j (j : Nat) : kLoop (kCode env 81 false inv k (cp c81 116)) j (act 18 [(3, x3), (6, x6), (7, x7), (8, x8)]) h K = F81_lrlrr inv k j x3 x6 x7 x8 h (fun y3 y6 y7 y8 y9 h => K (.exit 0) (act 18 [(3, y3), (6, y6), (7, y7), (8, y8), (9, y9)]) h) (fun y2 h => K .ret (act 18 [(2, y2)]) h) := by
      induction j generalizing x3 x6 x7 x8 h with
      | zero => rfl
      | succ j ih =>
        unfold F81_lrlrr
        simp only [kLoop, kq_seq c81 116, r81_3, kq_seq c81 233, b81_lrllrlrr, kq_skip c81 932, kq_seq c81 467, kq_block c81 934 1, kq_seq c81 1868, r81_4, kq_seq c81 3737, r81_5, b81_rrllrrllrlrr, kq_seq c81 14950, r81_6, kq_ret c81 29901, kq_skip c81 14951, r81_7, kq_exit c81 933 0, ih, reduceIte, reduceCtorEq, XE.exit.injEq, Nat.reduceEqDiff, Nat.reduceMul, Nat.reduceAdd] <;> kernel_rfl
theorem F81_lrlrr_eq  : kCode env 81 false inv k (cp c81 58) (act 18 [(3, x3), (6, x6), (7, x7), (8, x8)]) h K = F81_lrlrr inv k k x3 x6 x7 x8 h (fun y3 y6 y7 y8 y9 h => K (.exit 0) (act 18 [(3, y3), (6, y6), (7, y7), (8, y8), (9, y9)]) h) (fun y2 h => K .ret (act 18 [(2, y2)]) h) := kq_loop (F81_lrlrr_j k)
theorem r81_8  : kCode env 81 false inv k (cp c81 30) (act 18 [(3, x3), (6, x6), (7, x7), (8, x8), (9, x9)]) h K =
    K .normal (act 18 [(2, x3)]) h := kq_reg
theorem res81_0 : resOfFn env.P 81 .ret (act 18 [(2, x2)]) h = some (x2, h) := kq_res
/-- cmp.Or[int] -/
noncomputable def F81 (inv : Inv) (k : Nat) (x0 : Value) (h : AH) : Option (Value × AH) :=
    bnd (pLen Try.prog #[36] x0 h) fun x7 =>
    F81_lrlrr inv k k (.int .i64 0) x0 x7 (.int .i64 0) h
    (fun y3 y6 y7 y8 y9 h =>
    some (y3, h))
    (fun y2 h_1 =>
    some (y2, h_1))
theorem F81_eq : eFun env k inv 81 #[x0] h = F81 inv k x0 h := by
      refine (kq_fun (a := act 18 [(0, x0)]) (c := cp c81 1)).trans ?_
      unfold F81
      simp only [kq_seq c81 1, r81_0, kq_seq c81 3, r81_1, kq_seq c81 7, kq_seq c81 14, r81_2, kq_block c81 29 0, F81_lrlrr_eq, kq_seq c81 15, r81_8, kq_ret c81 31, res81_0, reduceIte, reduceCtorEq, XE.exit.injEq, Nat.reduceEqDiff, Nat.reduceMul, Nat.reduceAdd] <;> kernel_rfl
theorem F81_call : eInv env (k + 1) (.func 81) #[] #[x0] h = F81 (eInv env k) k x0 h := kq_inv F81_eq
noncomputable def c82 : Code := codeOf Try.prog 82
theorem r82_0  : kCode env 82 false inv k (cp c82 2) (act 20 [(0, x0), (1, x1)]) h K =
    K .normal (act 20 [(0, x0), (1, x1)]) h := kq_reg
theorem r82_1  : kCode env 82 false inv k (cp c82 6) (act 20 [(0, x0), (1, x1)]) h K =
    bnd (inv (.func 90) #[] #[x0] h) fun x8 =>
    K .normal (act 20 [(0, x0), (1, x1), (5, x8.1)]) x8.2 := kq_reg
theorem r82_2  : kCode env 82 false inv k (cp c82 14) (act 20 [(0, x0), (1, x1), (5, x5)]) h K =
    bnd (inv (.func 90) #[] #[x1] h) fun x10 =>
    K .normal (act 20 [(0, x0), (1, x1), (5, x5), (6, x10.1)]) x10.2 := kq_reg
theorem r82_3  : kCode env 82 false inv k (cp c82 60) (act 20 [(0, x0), (1, x1), (5, x5), (6, x6)]) h K =
    K .normal (act 20 [(0, x0), (1, x1), (6, x6), (11, x5)]) h := kq_reg
theorem b82_rlrrr  : kCode env 82 false inv k (cp c82 61) (act 20 [(0, x0), (1, x1), (6, x6), (11, x11)]) h K = brV x11 (kCode env 82 false inv k (cp c82 122) (act 20 [(0, x0), (1, x1), (6, x6), (11, x11)]) h K) (kCode env 82 false inv k (cp c82 123) (act 20 [(0, x0), (1, x1), (6, x6), (11, x11)]) h K) := kq_cond
theorem r82_4  : kCode env 82 false inv k (cp c82 488) (act 20 [(0, x0), (1, x1), (6, x6), (11, x11)]) h K =
    K .normal (act 20 [(12, x6)]) h := kq_reg
theorem b82_rllrlrrr  : kCode env 82 false inv k (cp c82 489) (act 20 [(12, x12)]) h K = brV x12 (kCode env 82 false inv k (cp c82 978) (act 20 [(12, x12)]) h K) (kCode env 82 false inv k (cp c82 979) (act 20 [(12, x12)]) h K) := kq_cond
theorem r82_5  : kCode env 82 false inv k (cp c82 1956) (act 20 [(12, x12)]) h K =
    K .normal (act 20 [(4, (.int .i64 0))]) h := kq_reg
theorem res82_0 : resOfFn env.P 82 .ret (act 20 [(4, x4)]) h = some (x4, h) := kq_res
theorem r82_6  : kCode env 82 false inv k (cp c82 490) (act 20 [(12, x12)]) h K =
    K .normal (act 20 [(4, (.int .i64 (-1)))]) h := kq_reg
theorem r82_7  : kCode env 82 false inv k (cp c82 124) (act 20 [(0, x0), (1, x1), (6, x6), (11, x11)]) h K =
    K .normal (act 20 [(0, x0), (1, x1), (13, x6)]) h := kq_reg
theorem b82_rlrrrr  : kCode env 82 false inv k (cp c82 125) (act 20 [(0, x0), (1, x1), (13, x13)]) h K = brV x13 (kCode env 82 false inv k (cp c82 250) (act 20 [(0, x0), (1, x1), (13, x13)]) h K) (kCode env 82 false inv k (cp c82 251) (act 20 [(0, x0), (1, x1), (13, x13)]) h K) := kq_cond
theorem r82_8  : kCode env 82 false inv k (cp c82 500) (act 20 [(0, x0), (1, x1), (13, x13)]) h K =
    K .normal (act 20 [(4, (.int .i64 1))]) h := kq_reg
theorem r82_9  : kCode env 82 false inv k (cp c82 252) (act 20 [(0, x0), (1, x1), (13, x13)]) h K =
    bnd (pBin Try.prog .lss 3 (.tmp 14) (.tmp 15) x0 x1) fun x16 =>
    K .normal (act 20 [(0, x0), (1, x1), (16, x16)]) h := kq_reg
theorem b82_rlrrrrr  : kCode env 82 false inv k (cp c82 253) (act 20 [(0, x0), (1, x1), (16, x16)]) h K = brV x16 (kCode env 82 false inv k (cp c82 506) (act 20 [(0, x0), (1, x1), (16, x16)]) h K) (kCode env 82 false inv k (cp c82 507) (act 20 [(0, x0), (1, x1), (16, x16)]) h K) := kq_cond
theorem r82_10  : kCode env 82 false inv k (cp c82 1012) (act 20 [(0, x0), (1, x1), (16, x16)]) h K =
    K .normal (act 20 [(4, (.int .i64 (-1)))]) h := kq_reg
theorem r82_11  : kCode env 82 false inv k (cp c82 508) (act 20 [(0, x0), (1, x1), (16, x16)]) h K =
    bnd (pBin Try.prog .gtr 3 (.tmp 17) (.tmp 18) x0 x1) fun x19 =>
    K .normal (act 20 [(19, x19)]) h := kq_reg
theorem b82_rlrrrrrr  : kCode env 82 false inv k (cp c82 509) (act 20 [(19, x19)]) h K = brV x19 (kCode env 82 false inv k (cp c82 1018) (act 20 [(19, x19)]) h K) (kCode env 82 false inv k (cp c82 1019) (act 20 [(19, x19)]) h K) := kq_cond
theorem r82_12  : kCode env 82 false inv k (cp c82 2036) (act 20 [(19, x19)]) h K =
    K .normal (act 20 [(4, (.int .i64 1))]) h := kq_reg
theorem r82_13  : kCode env 82 false inv k (cp c82 510) (act 20 [(19, x19)]) h K =
    K .normal (act 20 [(4, (.int .i64 0))]) h := kq_reg
/-- cmp.Compare[int] -/
noncomputable def F82 (inv : Inv) (k : Nat) (x0 x1 : Value) (h : AH) : Option (Value × AH) :=
    bnd (inv (.func 90) #[] #[x0] h) fun x8 =>
    bnd (inv (.func 90) #[] #[x1] x8.2) fun x10 =>
    brV x8.1
    (brV x10.1
    (some ((.int .i64 0), x10.2))
    (some ((.int .i64 (-1)), x10.2)))
    (brV x10.1
    (some ((.int .i64 1), x10.2))
    (bnd (pBin Try.prog .lss 3 (.tmp 14) (.tmp 15) x0 x1) fun x16 =>
    brV x16
    (some ((.int .i64 (-1)), x10.2))
    (bnd (pBin Try.prog .gtr 3 (.tmp 17) (.tmp 18) x0 x1) fun x19 =>
    brV x19
    (some ((.int .i64 1), x10.2))
    (some ((.int .i64 0), x10.2)))))
theorem F82_eq : eFun env k inv 82 #[x0, x1] h = F82 inv k x0 x1 h := by
      refine (kq_fun (a := act 20 [(0, x0), (1, x1)]) (c := cp c82 1)).trans ?_
      unfold F82
      simp only [kq_seq c82 1, r82_0, kq_seq c82 3, r82_1, kq_seq c82 7, r82_2, kq_seq c82 15, kq_seq c82 30, r82_3, b82_rlrrr, kq_seq c82 122, kq_seq c82 244, r82_4, b82_rllrlrrr, kq_seq c82 978, r82_5, kq_ret c82 1957, res82_0, kq_skip c82 979, kq_seq c82 245, r82_6, kq_ret c82 491, kq_skip c82 123, kq_seq c82 31, kq_seq c82 62, r82_7, b82_rlrrrr, kq_seq c82 250, r82_8, kq_ret c82 501, kq_skip c82 251, kq_seq c82 63, kq_seq c82 126, r82_9, b82_rlrrrrr, kq_seq c82 506, r82_10, kq_ret c82 1013, kq_skip c82 507, kq_seq c82 127, kq_seq c82 254, r82_11, b82_rlrrrrrr, kq_seq c82 1018, r82_12, kq_ret c82 2037, kq_skip c82 1019, kq_seq c82 255, r82_13, kq_ret c82 511, reduceIte, reduceCtorEq, XE.exit.injEq, Nat.reduceEqDiff, Nat.reduceMul, Nat.reduceAdd] <;> kernel_rfl
theorem F82_call : eInv env (k + 1) (.func 82) #[] #[x0, x1] h = F82 (eInv env k) k x0 x1 h := kq_inv F82_eq
noncomputable def c83 : Code := codeOf Try.prog 83
theorem r83_0  : kCode env 83 false inv k (cp c83 2) (act 20 [(0, x0), (1, x1)]) h K =
    K .normal (act 20 [(0, x0), (1, x1)]) h := kq_reg
theorem r83_1  : kCode env 83 false inv k (cp c83 6) (act 20 [(0, x0), (1, x1)]) h K =
    bnd (inv (.func 91) #[] #[x0] h) fun x8 =>
    K .normal (act 20 [(0, x0), (1, x1), (5, x8.1)]) x8.2 := kq_reg
theorem r83_2  : kCode env 83 false inv k (cp c83 14) (act 20 [(0, x0), (1, x1), (5, x5)]) h K =
    bnd (inv (.func 91) #[] #[x1] h) fun x10 =>
    K .normal (act 20 [(0, x0), (1, x1), (5, x5), (6, x10.1)]) x10.2 := kq_reg
theorem r83_3  : kCode env 83 false inv k (cp c83 60) (act 20 [(0, x0), (1, x1), (5, x5), (6, x6)]) h K =
    K .normal (act 20 [(0, x0), (1, x1), (6, x6), (11, x5)]) h := kq_reg
theorem b83_rlrrr  : kCode env 83 false inv k (cp c83 61) (act 20 [(0, x0), (1, x1), (6, x6), (11, x11)]) h K = brV x11 (kCode env 83 false inv k (cp c83 122) (act 20 [(0, x0), (1, x1), (6, x6), (11, x11)]) h K) (kCode env 83 false inv k (cp c83 123) (act 20 [(0, x0), (1, x1), (6, x6), (11, x11)]) h K) := kq_cond
theorem r83_4  : kCode env 83 false inv k (cp c83 488) (act 20 [(0, x0), (1, x1), (6, x6), (11, x11)]) h K =
    K .normal (act 20 [(12, x6)]) h := kq_reg
theorem b83_rllrlrrr  : kCode env 83 false inv k (cp c83 489) (act 20 [(12, x12)]) h K = brV x12 (kCode env 83 false inv k (cp c83 978) (act 20 [(12, x12)]) h K) (kCode env 83 false inv k (cp c83 979) (act 20 [(12, x12)]) h K) := kq_cond
theorem r83_5  : kCode env 83 false inv k (cp c83 1956) (act 20 [(12, x12)]) h K =
    K .normal (act 20 [(4, (.int .i64 0))]) h := kq_reg
theorem res83_0 : resOfFn env.P 83 .ret (act 20 [(4, x4)]) h = some (x4, h) := kq_res
theorem r83_6  : kCode env 83 false inv k (cp c83 490) (act 20 [(12, x12)]) h K =
    K .normal (act 20 [(4, (.int .i64 (-1)))]) h := kq_reg
theorem r83_7  : kCode env 83 false inv k (cp c83 124) (act 20 [(0, x0), (1, x1), (6, x6), (11, x11)]) h K =
    K .normal (act 20 [(0, x0), (1, x1), (13, x6)]) h := kq_reg
theorem b83_rlrrrr  : kCode env 83 false inv k (cp c83 125) (act 20 [(0, x0), (1, x1), (13, x13)]) h K = brV x13 (kCode env 83 false inv k (cp c83 250) (act 20 [(0, x0), (1, x1), (13, x13)]) h K) (kCode env 83 false inv k (cp c83 251) (act 20 [(0, x0), (1, x1), (13, x13)]) h K) := kq_cond
theorem r83_8  : kCode env 83 false inv k (cp c83 500) (act 20 [(0, x0), (1, x1), (13, x13)]) h K =
    K .normal (act 20 [(4, (.int .i64 1))]) h := kq_reg
theorem r83_9  : kCode env 83 false inv k (cp c83 252) (act 20 [(0, x0), (1, x1), (13, x13)]) h K =
    bnd (pBin Try.prog .lss 2 (.tmp 14) (.tmp 15) x0 x1) fun x16 =>
    K .normal (act 20 [(0, x0), (1, x1), (16, x16)]) h := kq_reg
theorem b83_rlrrrrr  : kCode env 83 false inv k (cp c83 253) (act 20 [(0, x0), (1, x1), (16, x16)]) h K = brV x16 (kCode env 83 false inv k (cp c83 506) (act 20 [(0, x0), (1, x1), (16, x16)]) h K) (kCode env 83 false inv k (cp c83 507) (act 20 [(0, x0), (1, x1), (16, x16)]) h K) := kq_cond
theorem r83_10  : kCode env 83 false inv k (cp c83 1012) (act 20 [(0, x0), (1, x1), (16, x16)]) h K =
    K .normal (act 20 [(4, (.int .i64 (-1)))]) h := kq_reg
theorem r83_11  : kCode env 83 false inv k (cp c83 508) (act 20 [(0, x0), (1, x1), (16, x16)]) h K =
    bnd (pBin Try.prog .gtr 2 (.tmp 17) (.tmp 18) x0 x1) fun x19 =>
    K .normal (act 20 [(19, x19)]) h := kq_reg
theorem b83_rlrrrrrr  : kCode env 83 false inv k (cp c83 509) (act 20 [(19, x19)]) h K = brV x19 (kCode env 83 false inv k (cp c83 1018) (act 20 [(19, x19)]) h K) (kCode env 83 false inv k (cp c83 1019) (act 20 [(19, x19)]) h K) := kq_cond
theorem r83_12  : kCode env 83 false inv k (cp c83 2036) (act 20 [(19, x19)]) h K =
    K .normal (act 20 [(4, (.int .i64 1))]) h := kq_reg
theorem r83_13  : kCode env 83 false inv k (cp c83 510) (act 20 [(19, x19)]) h K =
    K .normal (act 20 [(4, (.int .i64 0))]) h := kq_reg
/-- cmp.Compare[int64] -/
noncomputable def F83 (inv : Inv) (k : Nat) (x0 x1 : Value) (h : AH) : Option (Value × AH) :=
    bnd (inv (.func 91) #[] #[x0] h) fun x8 =>
    bnd (inv (.func 91) #[] #[x1] x8.2) fun x10 =>
    brV x8.1
    (brV x10.1
    (some ((.int .i64 0), x10.2))
    (some ((.int .i64 (-1)), x10.2)))
    (brV x10.1
    (some ((.int .i64 1), x10.2))
    (bnd (pBin Try.prog .lss 2 (.tmp 14) (.tmp 15) x0 x1) fun x16 =>
    brV x16
    (some ((.int .i64 (-1)), x10.2))
    (bnd (pBin Try.prog .gtr 2 (.tmp 17) (.tmp 18) x0 x1) fun x19 =>
    brV x19
    (some ((.int .i64 1), x10.2))
    (some ((.int .i64 0), x10.2)))))
theorem F83_eq : eFun env k inv 83 #[x0, x1] h = F83 inv k x0 x1 h := by
      refine (kq_fun (a := act 20 [(0, x0), (1, x1)]) (c := cp c83 1)).trans ?_
      unfold F83
      simp only [kq_seq c83 1, r83_0, kq_seq c83 3, r83_1, kq_seq c83 7, r83_2, kq_seq c83 15, kq_seq c83 30, r83_3, b83_rlrrr, kq_seq c83 122, kq_seq c83 244, r83_4, b83_rllrlrrr, kq_seq c83 978, r83_5, kq_ret c83 1957, res83_0, kq_skip c83 979, kq_seq c83 245, r83_6, kq_ret c83 491, kq_skip c83 123, kq_seq c83 31, kq_seq c83 62, r83_7, b83_rlrrrr, kq_seq c83 250, r83_8, kq_ret c83 501, kq_skip c83 251, kq_seq c83 63, kq_seq c83 126, r83_9, b83_rlrrrrr, kq_seq c83 506, r83_10, kq_ret c83 1013, kq_skip c83 507, kq_seq c83 127, kq_seq c83 254, r83_11, b83_rlrrrrrr, kq_seq c83 1018, r83_12, kq_ret c83 2037, kq_skip c83 1019, kq_seq c83 255, r83_13, kq_ret c83 511, reduceIte, reduceCtorEq, XE.exit.injEq, Nat.reduceEqDiff, Nat.reduceMul, Nat.reduceAdd] <;> kernel_rfl
theorem F83_call : eInv env (k + 1) (.func 83) #[] #[x0, x1] h = F83 (eInv env k) k x0 x1 h := kq_inv F83_eq
noncomputable def c84 : Code := codeOf Try.prog 84
theorem r84_0  : kCode env 84 false inv k (cp c84 2) (act 8 [(0, x0), (1, x1)]) h K =
    K .normal (act 8 [(0, x0), (1, x1)]) h := kq_reg
theorem r84_1  : kCode env 84 false inv k (cp c84 6) (act 8 [(0, x0), (1, x1)]) h K =
    bnd (inv (.func 92) #[] #[x0, x1] h) fun x7 =>
    K .normal (act 8 [(4, x7.1)]) x7.2 := kq_reg
theorem res84_0 : resOfFn env.P 84 .ret (act 8 [(4, x4)]) h = some (x4, h) := kq_res
/-- strings.Compare -/
noncomputable def F84 (inv : Inv) (k : Nat) (x0 x1 : Value) (h : AH) : Option (Value × AH) :=
    bnd (inv (.func 92) #[] #[x0, x1] h) fun x7 =>
    some (x7.1, x7.2)
theorem F84_eq : eFun env k inv 84 #[x0, x1] h = F84 inv k x0 x1 h := by
      refine (kq_fun (a := act 8 [(0, x0), (1, x1)]) (c := cp c84 1)).trans ?_
      unfold F84
      simp only [kq_seq c84 1, r84_0, kq_seq c84 3, r84_1, kq_ret c84 7, res84_0, reduceIte, reduceCtorEq, XE.exit.injEq, Nat.reduceEqDiff, Nat.reduceMul, Nat.reduceAdd] <;> kernel_rfl
theorem F84_call : eInv env (k + 1) (.func 84) #[] #[x0, x1] h = F84 (eInv env k) k x0 x1 h := kq_inv F84_eq
noncomputable def c85 : Code := codeOf Try.prog 85
theorem r85_0  : kCode env 85 false inv k (cp c85 2) (act 19 [(0, x0), (1, x1)]) h K =
    K .normal (act 19 [(0, x0), (1, x1)]) h := kq_reg
theorem r85_1  : kCode env 85 false inv k (cp c85 12) (act 19 [(0, x0), (1, x1)]) h K =
    bnd (pLen Try.prog #[36] x0 h) fun x7 =>
    K .normal (act 19 [(0, x0), (1, x1), (7, x7), (8, (.int .i64 0))]) h := kq_reg
theorem r85_2  : kCode env 85 false inv k (cp c85 104) (act 19 [(0, x0), (1, x1), (7, x7), (8, x8)]) h K =
    bnd (pBin Try.prog .lss 3 (.tmp 8) (.tmp 7) x8 x7) fun x9 =>
    K .normal (act 19 [(0, x0), (1, x1), (7, x7), (8, x8), (9, x9)]) h := kq_reg
theorem b85_lrllrlr  : kCode env 85 false inv k (cp c85 210) (act 19 [(0, x0), (1, x1), (7, x7), (8, x8), (9, x9)]) h K = brV x9 (kCode env 85 false inv k (cp c85 420) (act 19 [(0, x0), (1, x1), (7, x7), (8, x8), (9, x9)]) h K) (kCode env 85 false inv k (cp c85 421) (act 19 [(0, x0), (1, x1), (7, x7), (8, x8), (9, x9)]) h K) := kq_cond
theorem r85_3  : kCode env 85 false inv k (cp c85 1688) (act 19 [(0, x0), (1, x1), (7, x7), (8, x8), (9, x9)]) h K =
    K .normal (act 19 [(0, x0), (1, x1), (5, x8), (7, x7), (8, x8)]) h := kq_reg
theorem r85_4  : kCode env 85 false inv k (cp c85 3378) (act 19 [(0, x0), (1, x1), (5, x5), (7, x7), (8, x8)]) h K =
    bnd (pIndexAddr Try.prog 36 x0 x5) fun x14 =>
    bnd (pLoad Try.prog 3 x14 h) fun x15 =>
    bnd (callV inv x1 #[x15] h) fun x16 =>
    K .normal (act 19 [(0, x0), (1, x1), (5, x5), (7, x7), (8, x8), (16, x16.1)]) x16.2 := kq_reg
theorem b85_rrllrrllrlr  : kCode env 85 false inv k (cp c85 3379) (act 19 [(0, x0), (1, x1), (5, x5), (7, x7), (8, x8), (16, x16)]) h K = brV x16 (kCode env 85 false inv k (cp c85 6758) (act 19 [(0, x0), (1, x1), (5, x5), (7, x7), (8, x8), (16, x16)]) h K) (kCode env 85 false inv k (cp c85 6759) (act 19 [(0, x0), (1, x1), (5, x5), (7, x7), (8, x8), (16, x16)]) h K) := kq_cond
theorem r85_5  : kCode env 85 false inv k (cp c85 13516) (act 19 [(0, x0), (1, x1), (5, x5), (7, x7), (8, x8), (16, x16)]) h K =
    K .normal (act 19 [(4, x5)]) h := kq_reg
theorem r85_6  : kCode env 85 false inv k (cp c85 423) (act 19 [(0, x0), (1, x1), (5, x5), (7, x7), (8, x8), (16, x16)]) h K =
    bnd (pBin Try.prog .add 3 (.tmp 8) (.const (.int .i64 1)) x8 (.int .i64 1)) fun x18 =>
    K .normal (act 19 [(0, x0), (1, x1), (7, x7), (8, x18)]) h := kq_reg
noncomputable def F85_lrlr {β : Type} (inv : Inv) (k : Nat) : Nat → Value → Value → Value → Value → AH → (Value → Value → Value → Value → Value → AH → Option β) → (Value → AH → Option β) → Option β
  | 0, _, _, _, _, _, _, _ => none
  | j + 1, x0, x1, x7, x8, h, ke0, kr =>
    bnd (pBin Try.prog .lss 3 (.tmp 8) (.tmp 7) x8 x7) fun x9 =>
    brV x9
    (bnd (pIndexAddr Try.prog 36 x0 x8) fun x14 =>
    bnd (pLoad Try.prog 3 x14 h) fun x15 =>
    bnd (callV inv x1 #[x15] h) fun x16 =>
    brV x16.1
    (kr x8 x16.2)
    (bnd (pBin Try.prog .add 3 (.tmp 8) (.const (.int .i64 1)) x8 (.int .i64 1)) fun x18 =>
    F85_lrlr inv k j x0 x1 x7 x18 x16.2 ke0 kr))
    (ke0 x0 x1 x7 x8 x9 h)
theorem F85_lrlr_j (j : Nat) : kLoop (kCode env 85 false inv k (cp c85 52)) j (act 19 [(0, x0), (1, x1), (7, x7), (8, x8)]) h K = F85_lrlr inv k j x0 x1 x7 x8 h (fun y0 y1 y7 y8 y9 h => K (.exit 0) (act 19 [(0, y0), (1, y1), (7, y7), (8, y8), (9, y9)]) h) (fun y4 h => K .ret (act 19 [(4, y4)]) h) := by
      induction j generalizing x0 x1 x7 x8 h with
      | zero => rfl
      | succ j ih =>
        unfold F85_lrlr
        simp only [kLoop, kq_seq c85 52, r85_2, kq_seq c85 105, b85_lrllrlr, kq_skip c85 420, kq_seq c85 211, kq_block c85 422 1, kq_seq c85 844, r85_3, kq_seq c85 1689, r85_4, b85_rrllrrllrlr, kq_seq c85 6758, r85_5, kq_ret c85 13517, kq_skip c85 6759, r85_6, kq_exit c85 421 0, ih, reduceIte, reduceCtorEq, XE.exit.injEq, Nat.reduceEqDiff, Nat.reduceMul, Nat.reduceAdd] <;> kernel_rfl
theorem F85_lrlr_eq  : kCode env 85 false inv k (cp c85 26) (act 19 [(0, x0), (1, x1), (7, x7), (8, x8)]) h K = F85_lrlr inv k k x0 x1 x7 x8 h (fun y0 y1 y7 y8 y9 h => K (.exit 0) (act 19 [(0, y0), (1, y1), (7, y7), (8, y8), (9, y9)]) h) (fun y4 h => K .ret (act 19 [(4, y4)]) h) := kq_loop (F85_lrlr_j k)
theorem r85_7  : kCode env 85 false inv k (cp c85 14) (act 19 [(0, x0), (1, x1), (7, x7), (8, x8), (9, x9)]) h K =
    K .normal (act 19 [(4, (.int .i64 (-1)))]) h := kq_reg
theorem res85_0 : resOfFn env.P 85 .ret (act 19 [(4, x4)]) h = some (x4, h) := kq_res
/-- slices.IndexFunc[[]int,int] -/
noncomputable def F85 (inv : Inv) (k : Nat) (x0 x1 : Value) (h : AH) : Option (Value × AH) :=
    bnd (pLen Try.prog #[36] x0 h) fun x7 =>
    F85_lrlr inv k k x0 x1 x7 (.int .i64 0) h
    (fun y0 y1 y7 y8 y9 h =>
    some ((.int .i64 (-1)), h))
    (fun y4 h_1 =>
    some (y4, h_1))
theorem F85_eq : eFun env k inv 85 #[x0, x1] h = F85 inv k x0 x1 h := by
      refine (kq_fun (a := act 19 [(0, x0), (1, x1)]) (c := cp c85 1)).trans ?_
      unfold F85
      simp only [kq_seq c85 1, r85_0, kq_seq c85 3, kq_seq c85 6, r85_1, kq_block c85 13 0, F85_lrlr_eq, kq_seq c85 7, r85_7, kq_ret c85 15, res85_0, reduceIte, reduceCtorEq, XE.exit.injEq, Nat.reduceEqDiff, Nat.reduceMul, Nat.reduceAdd] <;> kernel_rfl
theorem F85_call : eInv env (k + 1) (.func 85) #[] #[x0, x1] h = F85 (eInv env k) k x0 x1 h := kq_inv F85_eq
noncomputable def c86 : Code := codeOf Try.prog 86
theorem r86_0  : kCode env 86 false inv k (cp c86 2) (act 19 [(0, x0), (1, x1)]) h K =
    K .normal (act 19 [(0, x0), (1, x1)]) h := kq_reg
theorem r86_1  : kCode env 86 false inv k (cp c86 12) (act 19 [(0, x0), (1, x1)]) h K =
    bnd (pLen Try.prog #[36] x0 h) fun x7 =>
    K .normal (act 19 [(0, x0), (1, x1), (7, x7), (8, (.int .i64 0))]) h := kq_reg
theorem r86_2  : kCode env 86 false inv k (cp c86 104) (act 19 [(0, x0), (1, x1), (7, x7), (8, x8)]) h K =
    bnd (pBin Try.prog .lss 3 (.tmp 8) (.tmp 7) x8 x7) fun x9 =>
    K .normal (act 19 [(0, x0), (1, x1), (7, x7), (8, x8), (9, x9)]) h := kq_reg
theorem b86_lrllrlr  : kCode env 86 false inv k (cp c86 210) (act 19 [(0, x0), (1, x1), (7, x7), (8, x8), (9, x9)]) h K = brV x9 (kCode env 86 false inv k (cp c86 420) (act 19 [(0, x0), (1, x1), (7, x7), (8, x8), (9, x9)]) h K) (kCode env 86 false inv k (cp c86 421) (act 19 [(0, x0), (1, x1), (7, x7), (8, x8), (9, x9)]) h K) := kq_cond
theorem r86_3  : kCode env 86 false inv k (cp c86 1688) (act 19 [(0, x0), (1, x1), (7, x7), (8, x8), (9, x9)]) h K =
    K .normal (act 19 [(0, x0), (1, x1), (5, x8), (7, x7), (8, x8)]) h := kq_reg
theorem r86_4  : kCode env 86 false inv k (cp c86 3378) (act 19 [(0, x0), (1, x1), (5, x5), (7, x7), (8, x8)]) h K =
    bnd (pIndexAddr Try.prog 36 x0 x5) fun x14 =>
    bnd (pLoad Try.prog 3 x14 h) fun x15 =>
    bnd (pBin Try.prog .eql 3 (.tmp 11) (.tmp 15) x1 x15) fun x16 =>
    K .normal (act 19 [(0, x0), (1, x1), (5, x5), (7, x7), (8, x8), (16, x16)]) h := kq_reg
theorem b86_rrllrrllrlr  : kCode env 86 false inv k (cp c86 3379) (act 19 [(0, x0), (1, x1), (5, x5), (7, x7), (8, x8), (16, x16)]) h K = brV x16 (kCode env 86 false inv k (cp c86 6758) (act 19 [(0, x0), (1, x1), (5, x5), (7, x7), (8, x8), (16, x16)]) h K) (kCode env 86 false inv k (cp c86 6759) (act 19 [(0, x0), (1, x1), (5, x5), (7, x7), (8, x8), (16, x16)]) h K) := kq_cond
theorem r86_5  : kCode env 86 false inv k (cp c86 13516) (act 19 [(0, x0), (1, x1), (5, x5), (7, x7), (8, x8), (16, x16)]) h K =
    K .normal (act 19 [(4, x5)]) h := kq_reg
theorem r86_6  : kCode env 86 false inv k (cp c86 423) (act 19 [(0, x0), (1, x1), (5, x5), (7, x7), (8, x8), (16, x16)]) h K =
    bnd (pBin Try.prog .add 3 (.tmp 8) (.const (.int .i64 1)) x8 (.int .i64 1)) fun x18 =>
    K .normal (act 19 [(0, x0), (1, x1), (7, x7), (8, x18)]) h := kq_reg
noncomputable def F86_lrlr {β : Type} (inv : Inv) (k : Nat) : Nat → Value → Value → Value → Value → AH → (Value → Value → Value → Value → Value → AH → Option β) → (Value → AH → Option β) → Option β
  | 0, _, _, _, _, _, _, _ => none
  | j + 1, x0, x1, x7, x8, h, ke0, kr =>
    bnd (pBin Try.prog .lss 3 (.tmp 8) (.tmp 7) x8 x7) fun x9 =>
    brV x9
    (bnd (pIndexAddr Try.prog 36 x0 x8) fun x14 =>
    bnd (pLoad Try.prog 3 x14 h) fun x15 =>
    bnd (pBin Try.prog .eql 3 (.tmp 11) (.tmp 15) x1 x15) fun x16 =>
    brV x16
    (kr x8 h)
    (bnd (pBin Try.prog .add 3 (.tmp 8) (.const (.int .i64 1)) x8 (.int .i64 1)) fun x18 =>
    F86_lrlr inv k j x0 x1 x7 x18 h ke0 kr))
    (ke0 x0 x1 x7 x8 x9 h)
theorem F86_lrlr_j (j : Nat) : kLoop (kCode env 86 false inv k (cp c86 52)) j (act 19 [(0, x0), (1, x1), (7, x7), (8, x8)]) h K = F86_lrlr inv k j x0 x1 x7 x8 h (fun y0 y1 y7 y8 y9 h => K (.exit 0) (act 19 [(0, y0), (1, y1), (7, y7), (8, y8), (9, y9)]) h) (fun y4 h => K .ret (act 19 [(4, y4)]) h) := by
      induction j generalizing x0 x1 x7 x8 h with
      | zero => rfl
      | succ j ih =>
        unfold F86_lrlr
        simp only [kLoop, kq_seq c86 52, r86_2, kq_seq c86 105, b86_lrllrlr, kq_skip c86 420, kq_seq c86 211, kq_block c86 422 1, kq_seq c86 844, r86_3, kq_seq c86 1689, r86_4, b86_rrllrrllrlr, kq_seq c86 6758, r86_5, kq_ret c86 13517, kq_skip c86 6759, r86_6, kq_exit c86 421 0, ih, reduceIte, reduceCtorEq, XE.exit.injEq, Nat.reduceEqDiff, Nat.reduceMul, Nat.reduceAdd] <;> kernel_rfl
theorem F86_lrlr_eq  : kCode env 86 false inv k (cp c86 26) (act 19 [(0, x0), (1, x1), (7, x7), (8, x8)]) h K = F86_lrlr inv k k x0 x1 x7 x8 h (fun y0 y1 y7 y8 y9 h => K (.exit 0) (act 19 [(0, y0), (1, y1), (7, y7), (8, y8), (9, y9)]) h) (fun y4 h => K .ret (act 19 [(4, y4)]) h) := kq_loop (F86_lrlr_j k)
theorem r86_7  : kCode env 86 false inv k (cp c86 14) (act 19 [(0, x0), (1, x1), (7, x7), (8, x8), (9, x9)]) h K =
    K .normal (act 19 [(4, (.int .i64 (-1)))]) h := kq_reg
theorem res86_0 : resOfFn env.P 86 .ret (act 19 [(4, x4)]) h = some (x4, h) := kq_res
/-- slices.Index[[]int,int] -/
noncomputable def F86 (inv : Inv) (k : Nat) (x0 x1 : Value) (h : AH) : Option (Value × AH) :=
    bnd (pLen Try.prog #[36] x0 h) fun x7 =>
    F86_lrlr inv k k x0 x1 x7 (.int .i64 0) h
    (fun y0 y1 y7 y8 y9 h =>
    some ((.int .i64 (-1)), h))
    (fun y4 h_1 =>
    some (y4, h_1))
theorem F86_eq : eFun env k inv 86 #[x0, x1] h = F86 inv k x0 x1 h := by
      refine (kq_fun (a := act 19 [(0, x0), (1, x1)]) (c := cp c86 1)).trans ?_
      unfold F86
      simp only [kq_seq c86 1, r86_0, kq_seq c86 3, kq_seq c86 6, r86_1, kq_block c86 13 0, F86_lrlr_eq, kq_seq c86 7, r86_7, kq_ret c86 15, res86_0, reduceIte, reduceCtorEq, XE.exit.injEq, Nat.reduceEqDiff, Nat.reduceMul, Nat.reduceAdd] <;> kernel_rfl
theorem F86_call : eInv env (k + 1) (.func 86) #[] #[x0, x1] h = F86 (eInv env k) k x0 x1 h := kq_inv F86_eq
noncomputable def c87 : Code := codeOf Try.prog 87
theorem r87_0  : kCode env 87 false inv k (cp c87 2) (act 5 [(0, x0)]) h K =
    K .normal (act 5 [(0, x0)]) h := kq_reg
theorem r87_1  : kCode env 87 false inv k (cp c87 6) (act 5 [(0, x0)]) h K =
    bnd (pBin Try.prog .eql 3 (.tmp 3) (.const (.int .i64 0)) x0 (.int .i64 0)) fun x4 =>
    K .normal (act 5 [(2, x4)]) h := kq_reg
theorem res87_0 : resOfFn env.P 87 .ret (act 5 [(2, x2)]) h = some (x2, h) := kq_res
/-- shadowbook/pred.orders$1 -/
noncomputable def F87 (inv : Inv) (k : Nat) (x0 : Value) (h : AH) : Option (Value × AH) :=
    bnd (pBin Try.prog .eql 3 (.tmp 3) (.const (.int .i64 0)) x0 (.int .i64 0)) fun x4 =>
    some (x4, h)
theorem F87_eq : eFun env k inv 87 #[x0] h = F87 inv k x0 h := by
      refine (kq_fun (a := act 5 [(0, x0)]) (c := cp c87 1)).trans ?_
      unfold F87
      simp only [kq_seq c87 1, r87_0, kq_seq c87 3, r87_1, kq_ret c87 7, res87_0, reduceIte, reduceCtorEq, XE.exit.injEq, Nat.reduceEqDiff, Nat.reduceMul, Nat.reduceAdd] <;> kernel_rfl
theorem F87_call : eInv env (k + 1) (.func 87) #[] #[x0] h = F87 (eInv env k) k x0 h := kq_inv F87_eq
noncomputable def c88 : Code := codeOf Try.prog 88
theorem r88_0  : kCode env 88 false inv k (cp c88 2) (act 5 [(0, x0)]) h K =
    K .normal (act 5 [(0, x0)]) h := kq_reg
theorem r88_1  : kCode env 88 false inv k (cp c88 6) (act 5 [(0, x0)]) h K =
    bnd (pBin Try.prog .lss 3 (.tmp 3) (.const (.int .i64 0)) x0 (.int .i64 0)) fun x4 =>
    K .normal (act 5 [(2, x4)]) h := kq_reg
theorem res88_0 : resOfFn env.P 88 .ret (act 5 [(2, x2)]) h = some (x2, h) := kq_res
/-- shadowbook/pred.orders$2 -/
noncomputable def F88 (inv : Inv) (k : Nat) (x0 : Value) (h : AH) : Option (Value × AH) :=
    bnd (pBin Try.prog .lss 3 (.tmp 3) (.const (.int .i64 0)) x0 (.int .i64 0)) fun x4 =>
    some (x4, h)
theorem F88_eq : eFun env k inv 88 #[x0] h = F88 inv k x0 h := by
      refine (kq_fun (a := act 5 [(0, x0)]) (c := cp c88 1)).trans ?_
      unfold F88
      simp only [kq_seq c88 1, r88_0, kq_seq c88 3, r88_1, kq_ret c88 7, res88_0, reduceIte, reduceCtorEq, XE.exit.injEq, Nat.reduceEqDiff, Nat.reduceMul, Nat.reduceAdd] <;> kernel_rfl
theorem F88_call : eInv env (k + 1) (.func 88) #[] #[x0] h = F88 (eInv env k) k x0 h := kq_inv F88_eq
noncomputable def c89 : Code := codeOf Try.prog 89
theorem r89_0  : kCode env 89 false inv k (cp c89 2) (act 5 [(0, x0)]) h K =
    K .normal (act 5 [(0, x0)]) h := kq_reg
theorem r89_1  : kCode env 89 false inv k (cp c89 6) (act 5 [(0, x0)]) h K =
    bnd (pBin Try.prog .gtr 3 (.tmp 3) (.const (.int .i64 0)) x0 (.int .i64 0)) fun x4 =>
    K .normal (act 5 [(2, x4)]) h := kq_reg
theorem res89_0 : resOfFn env.P 89 .ret (act 5 [(2, x2)]) h = some (x2, h) := kq_res
/-- shadowbook/pred.orders$3 -/
noncomputable def F89 (inv : Inv) (k : Nat) (x0 : Value) (h : AH) : Option (Value × AH) :=
    bnd (pBin Try.prog .gtr 3 (.tmp 3) (.const (.int .i64 0)) x0 (.int .i64 0)) fun x4 =>
    some (x4, h)
theorem F89_eq : eFun env k inv 89 #[x0] h = F89 inv k x0 h := by
      refine (kq_fun (a := act 5 [(0, x0)]) (c := cp c89 1)).trans ?_
      unfold F89
      simp only [kq_seq c89 1, r89_0, kq_seq c89 3, r89_1, kq_ret c89 7, res89_0, reduceIte, reduceCtorEq, XE.exit.injEq, Nat.reduceEqDiff, Nat.reduceMul, Nat.reduceAdd] <;> kernel_rfl
theorem F89_call : eInv env (k + 1) (.func 89) #[] #[x0] h = F89 (eInv env k) k x0 h := kq_inv F89_eq
noncomputable def c90 : Code := codeOf Try.prog 90
theorem r90_0  : kCode env 90 false inv k (cp c90 2) (act 6 [(0, x0)]) h K =
    K .normal (act 6 [(0, x0)]) h := kq_reg
theorem r90_1  : kCode env 90 false inv k (cp c90 6) (act 6 [(0, x0)]) h K =
    bnd (pBin Try.prog .neq 3 (.tmp 3) (.tmp 4) x0 x0) fun x5 =>
    K .normal (act 6 [(2, x5)]) h := kq_reg
theorem res90_0 : resOfFn env.P 90 .ret (act 6 [(2, x2)]) h = some (x2, h) := kq_res
/-- cmp.isNaN[int] -/
noncomputable def F90 (inv : Inv) (k : Nat) (x0 : Value) (h : AH) : Option (Value × AH) :=
    bnd (pBin Try.prog .neq 3 (.tmp 3) (.tmp 4) x0 x0) fun x5 =>
    some (x5, h)
theorem F90_eq : eFun env k inv 90 #[x0] h = F90 inv k x0 h := by
      refine (kq_fun (a := act 6 [(0, x0)]) (c := cp c90 1)).trans ?_
      unfold F90
      simp only [kq_seq c90 1, r90_0, kq_seq c90 3, r90_1, kq_ret c90 7, res90_0, reduceIte, reduceCtorEq, XE.exit.injEq, Nat.reduceEqDiff, Nat.reduceMul, Nat.reduceAdd] <;> kernel_rfl
theorem F90_call : eInv env (k + 1) (.func 90) #[] #[x0] h = F90 (eInv env k) k x0 h := kq_inv F90_eq
noncomputable def c91 : Code := codeOf Try.prog 91
theorem r91_0  : kCode env 91 false inv k (cp c91 2) (act 6 [(0, x0)]) h K =
    K .normal (act 6 [(0, x0)]) h := kq_reg
theorem r91_1  : kCode env 91 false inv k (cp c91 6) (act 6 [(0, x0)]) h K =
    bnd (pBin Try.prog .neq 2 (.tmp 3) (.tmp 4) x0 x0) fun x5 =>
    K .normal (act 6 [(2, x5)]) h := kq_reg
theorem res91_0 : resOfFn env.P 91 .ret (act 6 [(2, x2)]) h = some (x2, h) := kq_res
/-- cmp.isNaN[int64] -/
noncomputable def F91 (inv : Inv) (k : Nat) (x0 : Value) (h : AH) : Option (Value × AH) :=
    bnd (pBin Try.prog .neq 2 (.tmp 3) (.tmp 4) x0 x0) fun x5 =>
    some (x5, h)
theorem F91_eq : eFun env k inv 91 #[x0] h = F91 inv k x0 h := by
      refine (kq_fun (a := act 6 [(0, x0)]) (c := cp c91 1)).trans ?_
      unfold F91
      simp only [kq_seq c91 1, r91_0, kq_seq c91 3, r91_1, kq_ret c91 7, res91_0, reduceIte, reduceCtorEq, XE.exit.injEq, Nat.reduceEqDiff, Nat.reduceMul, Nat.reduceAdd] <;> kernel_rfl
theorem F91_call : eInv env (k + 1) (.func 91) #[] #[x0] h = F91 (eInv env k) k x0 h := kq_inv F91_eq
noncomputable def c92 : Code := codeOf Try.prog 92
theorem r92_0  : kCode env 92 false inv k (cp c92 2) (act 8 [(0, x0), (1, x1)]) h K =
    K .normal (act 8 [(0, x0), (1, x1)]) h := kq_reg
theorem r92_1  : kCode env 92 false inv k (cp c92 6) (act 8 [(0, x0), (1, x1)]) h K =
    bnd (inv (.func 93) #[] #[x0, x1] h) fun x7 =>
    K .normal (act 8 [(4, x7.1)]) x7.2 := kq_reg
theorem res92_0 : resOfFn env.P 92 .ret (act 8 [(4, x4)]) h = some (x4, h) := kq_res
/-- internal/bytealg.CompareString -/
noncomputable def F92 (inv : Inv) (k : Nat) (x0 x1 : Value) (h : AH) : Option (Value × AH) :=
    bnd (inv (.func 93) #[] #[x0, x1] h) fun x7 =>
    some (x7.1, x7.2)
theorem F92_eq : eFun env k inv 92 #[x0, x1] h = F92 inv k x0 x1 h := by
      refine (kq_fun (a := act 8 [(0, x0), (1, x1)]) (c := cp c92 1)).trans ?_
      unfold F92
      simp only [kq_seq c92 1, r92_0, kq_seq c92 3, r92_1, kq_ret c92 7, res92_0, reduceIte, reduceCtorEq, XE.exit.injEq, Nat.reduceEqDiff, Nat.reduceMul, Nat.reduceAdd] <;> kernel_rfl
theorem F92_call : eInv env (k + 1) (.func 92) #[] #[x0, x1] h = F92 (eInv env k) k x0 x1 h := kq_inv F92_eq
end Go.Proofs.Ytjmfokglckaneaa.Sh
