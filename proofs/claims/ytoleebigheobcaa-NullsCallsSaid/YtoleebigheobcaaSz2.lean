/- Shallow functions, part 2. Printed by a program of the prover's own from the loaded program; Lean checks it. -/
import Derived.Test.YtoleebigheobcaaSz1
set_option linter.unusedVariables false
set_option linter.unusedSimpArgs false
set_option maxRecDepth 100000
namespace Go.Proofs.Ytoleebigheobcaa.Sh
open Go Go.RowKit Go.Proofs.Ev
variable {β : Type} {inv : Inv} {k : Nat} {h : AH} {K : XE → Act → AH → Option β} {x0 x1 x2 x3 x4 x5 x6 x7 x8 x9 x10 x11 x12 x13 x14 x15 x16 x17 x18 x19 x20 x21 x22 x23 x24 x25 x26 x27 x28 x29 x30 x31 x32 x33 x34 x35 x36 x37 x38 x39 x41 x42 x43 x44 x45 x46 x47 x48 x49 x50 x52 x53 x54 x57 x59 x78 x79 z0 z1 : Value}
noncomputable def c32 : Code := codeOf Try.prog 32
theorem r32_0  : kCode env 32 false inv k (cp c32 2) (act 48 [(0, x0), (1, x1)]) h K =
    K .normal (act 48 [(0, x0), (1, x1)]) h := kq_reg
theorem r32_1  : kCode env 32 false inv k (cp c32 12) (act 48 [(0, x0), (1, x1)]) h K =
    bnd (pBin Try.prog .lss 3 (.tmp 9) (.const (.int .i64 0)) x1 (.int .i64 0)) fun x10 =>
    K .normal (act 48 [(0, x0), (1, x1), (10, x10)]) h := kq_reg
theorem b32_rlr  : kCode env 32 false inv k (cp c32 13) (act 48 [(0, x0), (1, x1), (10, x10)]) h K = brV x10 (kCode env 32 false inv k (cp c32 26) (act 48 [(0, x0), (1, x1), (10, x10)]) h K) (kCode env 32 false inv k (cp c32 27) (act 48 [(0, x0), (1, x1), (10, x10)]) h K) := kq_cond
theorem r32_2  : kCode env 32 false inv k (cp c32 26) (act 48 [(0, x0), (1, x1), (10, x10)]) h K =
    bnd (pMakeIface Try.prog 9 (.string { data := #[99, 97, 110, 110, 111, 116, 32, 98, 101, 32, 110, 101, 103, 97, 116, 105, 118, 101] })) fun x11 =>
    bnd ((none : Option (Value × AH))) fun u =>
    K .normal (act 48 [(0, x0), (1, x1)]) u.2 := kq_reg
noncomputable def F32_rlr {β : Type} (inv : Inv) (k : Nat) (x0 x1 x10 : Value) (h : AH) (kn : (Value → Value → Value → AH → Option β)) : Option β :=
    brV x10
    (bnd (pMakeIface Try.prog 9 (.string { data := #[99, 97, 110, 110, 111, 116, 32, 98, 101, 32, 110, 101, 103, 97, 116, 105, 118, 101] })) fun x11 =>
    bnd ((none : Option (Value × AH))) fun u =>
    kn x0 x1 unk u.2)
    (kn x0 x1 x10 h)
theorem F32_rlr_eq  : kCode env 32 false inv k (cp c32 13) (act 48 [(0, x0), (1, x1), (10, x10)]) h K = F32_rlr inv k x0 x1 x10 h (fun y0 y1 y10 h => K .normal (act 48 [(0, y0), (1, y1), (10, y10)]) h) := by
      unfold F32_rlr
      simp only [b32_rlr, r32_2, kq_skip c32 27, reduceIte, reduceCtorEq, XE.exit.injEq, Nat.reduceEqDiff, Nat.reduceMul, Nat.reduceAdd] <;> kernel_rfl
theorem r32_3  : kCode env 32 false inv k (cp c32 14) (act 48 [(0, x0), (1, x1), (10, x10)]) h K =
    bnd (pLen Try.prog #[22] x0 h) fun x14 =>
    bnd (pConv Try.prog 3 68 x14 h) fun x15 =>
    bnd (pConv Try.prog 3 68 x1 h) fun x17 =>
    bnd (inv (.func 56) #[] #[x15, x17] h) fun x18 =>
    bnd (pExtract x18.1 0) fun x19 =>
    bnd (pExtract x18.1 1) fun x20 =>
    K .normal (act 48 [(0, x0), (5, x19), (6, x20)]) x18.2 := kq_reg
noncomputable abbrev G32_4 {β : Type} (inv : Inv) (x0 x5 x6 : Value) (h : AH) (K : Value → AH → Option β) : Option β :=
    bnd (pBin Try.prog .gtr 68 (.tmp 21) (.const (.int .u64 0)) x5 (.int .u64 0)) fun x22 =>
    bnd (gd (some x22) false h (some (x6, h))) fun x24 =>
    bnd (gd (some x22) false x24.2 (lt (pBin Try.prog .gtr 68 (.tmp 24) (.const (.int .u64 9223372036854775807)) x24.1 (.int .u64 9223372036854775807)) x24.2)) fun x25 =>
    bnd (pickV x22 (.bool true) x25.1) fun x26 =>
    K (x26) x25.2
theorem r32_4  : kCode env 32 false inv k (cp c32 60) (act 48 [(0, x0), (5, x5), (6, x6)]) h K =
    G32_4 inv x0 x5 x6 h fun y26 h => K .normal (act 48 [(0, x0), (6, x6), (26, y26)]) h := kq_reg
theorem b32_rlrrr  : kCode env 32 false inv k (cp c32 61) (act 48 [(0, x0), (6, x6), (26, x26)]) h K = brV x26 (kCode env 32 false inv k (cp c32 122) (act 48 [(0, x0), (6, x6), (26, x26)]) h K) (kCode env 32 false inv k (cp c32 123) (act 48 [(0, x0), (6, x6), (26, x26)]) h K) := kq_cond
theorem r32_5  : kCode env 32 false inv k (cp c32 122) (act 48 [(0, x0), (6, x6), (26, x26)]) h K =
    bnd (pMakeIface Try.prog 9 (.string { data := #[116, 104, 101, 32, 114, 101, 115, 117, 108, 116, 32, 111, 102, 32, 40, 108, 101, 110, 40, 120, 41, 32, 42, 32, 99, 111, 117, 110, 116, 41, 32, 111, 118, 101, 114, 102, 108, 111, 119, 115] })) fun x27 =>
    bnd ((none : Option (Value × AH))) fun u =>
    K .normal (act 48 [(0, x0), (6, x6)]) u.2 := kq_reg
noncomputable def F32_rlrrr {β : Type} (inv : Inv) (k : Nat) (x0 x6 x26 : Value) (h : AH) (kn : (Value → Value → Value → AH → Option β)) : Option β :=
    brV x26
    (bnd (pMakeIface Try.prog 9 (.string { data := #[116, 104, 101, 32, 114, 101, 115, 117, 108, 116, 32, 111, 102, 32, 40, 108, 101, 110, 40, 120, 41, 32, 42, 32, 99, 111, 117, 110, 116, 41, 32, 111, 118, 101, 114, 102, 108, 111, 119, 115] })) fun x27 =>
    bnd ((none : Option (Value × AH))) fun u =>
    kn x0 x6 unk u.2)
    (kn x0 x6 x26 h)
theorem F32_rlrrr_eq  : kCode env 32 false inv k (cp c32 61) (act 48 [(0, x0), (6, x6), (26, x26)]) h K = F32_rlrrr inv k x0 x6 x26 h (fun y0 y6 y26 h => K .normal (act 48 [(0, y0), (6, y6), (26, y26)]) h) := by
      unfold F32_rlrrr
      simp only [b32_rlrrr, r32_5, kq_skip c32 123, reduceIte, reduceCtorEq, XE.exit.injEq, Nat.reduceEqDiff, Nat.reduceMul, Nat.reduceAdd] <;> kernel_rfl
theorem r32_6  : kCode env 32 false inv k (cp c32 62) (act 48 [(0, x0), (6, x6), (26, x26)]) h K =
    bnd (pConv Try.prog 68 3 x6 h) fun x29 =>
    bnd (pMakeSlice Try.prog 22 x29 x29 h) fun x30 =>
    K .normal (act 48 [(0, x0), (7, x30.1)]) x30.2 := kq_reg
theorem r32_7  : kCode env 32 false inv k (cp c32 126) (act 48 [(0, x0), (7, x7)]) h K =
    bnd (pCopy Try.prog #[22, 22] x7 x0 h) fun x33 =>
    K .normal (act 48 [(7, x7), (8, x33.1)]) x33.2 := kq_reg
theorem r32_8  : kCode env 32 false inv k (cp c32 4064) (act 48 [(7, x7), (8, x8)]) h K =
    bnd (pLen Try.prog #[22] x7 h) fun x36 =>
    bnd (pBin Try.prog .lss 3 (.tmp 34) (.tmp 36) x8 x36) fun x37 =>
    K .normal (act 48 [(7, x7), (8, x8), (37, x37)]) h := kq_reg
theorem b32_rllllrrrrrr  : kCode env 32 false inv k (cp c32 4065) (act 48 [(7, x7), (8, x8), (37, x37)]) h K = brV x37 (kCode env 32 false inv k (cp c32 8130) (act 48 [(7, x7), (8, x8), (37, x37)]) h K) (kCode env 32 false inv k (cp c32 8131) (act 48 [(7, x7), (8, x8), (37, x37)]) h K) := kq_cond
theorem r32_9  : kCode env 32 false inv k (cp c32 4066) (act 48 [(7, x7), (8, x8), (37, x37)]) h K =
    bnd (pSlice Try.prog 22 x7 (some x8) none none h) fun x41 =>
    bnd (pSlice Try.prog 22 x7 none (some x8) none h) fun x44 =>
    bnd (pCopy Try.prog #[22, 22] x41 x44 h) fun x45 =>
    bnd (pBin Try.prog .add 3 (.tmp 38) (.tmp 45) x8 x45.1) fun x46 =>
    K .normal (act 48 [(7, x7), (8, x46)]) x45.2 := kq_draw
noncomputable def F32_llrrrrrr {β : Type} (inv : Inv) (k : Nat) : Nat → Value → Value → AH → (Value → Value → Value → AH → Option β) → Option β
  | 0, _, _, _, _ => none
  | j + 1, x7, x8, h, ke0 =>
    bnd (pLen Try.prog #[22] x7 h) fun x36 =>
    bnd (pBin Try.prog .lss 3 (.tmp 34) (.tmp 36) x8 x36) fun x37 =>
    brV x37
    (bnd (pSlice Try.prog 22 x7 (some x8) none none h) fun x41 =>
    bnd (pSlice Try.prog 22 x7 none (some x8) none h) fun x44 =>
    bnd (pCopy Try.prog #[22, 22] x41 x44 h) fun x45 =>
    bnd (pBin Try.prog .add 3 (.tmp 38) (.tmp 45) x8 x45.1) fun x46 =>
    F32_llrrrrrr inv k j x7 x46 x45.2 ke0)
    (ke0 x7 x8 x37 h)
theorem F32_llrrrrrr_j (j : Nat) : kLoop (kCode env 32 false inv k (cp c32 1016)) j (act 48 [(7, x7), (8, x8)]) h K = F32_llrrrrrr inv k j x7 x8 h (fun y7 y8 y37 h => K (.exit 0) (act 48 [(7, y7), (8, y8), (37, y37)]) h) := by
      induction j generalizing x7 x8 h with
      | zero => rfl
      | succ j ih =>
        unfold F32_llrrrrrr
        simp only [kLoop, kq_seq c32 1016, kq_seq c32 2032, r32_8, b32_rllllrrrrrr, kq_skip c32 8130, kq_block c32 2033 1, r32_9, kq_exit c32 8131 0, ih, reduceIte, reduceCtorEq, XE.exit.injEq, Nat.reduceEqDiff, Nat.reduceMul, Nat.reduceAdd] <;> kernel_rfl
theorem F32_llrrrrrr_eq  : kCode env 32 false inv k (cp c32 508) (act 48 [(7, x7), (8, x8)]) h K = F32_llrrrrrr inv k k x7 x8 h (fun y7 y8 y37 h => K (.exit 0) (act 48 [(7, y7), (8, y8), (37, y37)]) h) := kq_loop (F32_llrrrrrr_j k)
theorem r32_10  : kCode env 32 false inv k (cp c32 510) (act 48 [(7, x7), (8, x8), (37, x37)]) h K =
    K .normal (act 48 [(4, x7)]) h := kq_reg
theorem res32_0 : resOfFn env.P 32 .ret (act 48 [(4, x4)]) h = some (x4, h) := kq_res
/-- slices.Repeat[[]bool,bool] -/
noncomputable def F32 (inv : Inv) (k : Nat) (x0 x1 : Value) (h : AH) : Option (Value × AH) :=
    bnd (pBin Try.prog .lss 3 (.tmp 9) (.const (.int .i64 0)) x1 (.int .i64 0)) fun x10 =>
    F32_rlr inv k x0 x1 x10 h
    (fun y0 y1 y10 h =>
    bnd (pLen Try.prog #[22] y0 h) fun x14 =>
    bnd (pConv Try.prog 3 68 x14 h) fun x15 =>
    bnd (pConv Try.prog 3 68 y1 h) fun x17 =>
    bnd (inv (.func 56) #[] #[x15, x17] h) fun x18 =>
    bnd (pExtract x18.1 0) fun x19 =>
    bnd (pExtract x18.1 1) fun x20 =>
    G32_4 inv y0 x19 x20 x18.2 fun y26 h_1 =>
    F32_rlrrr inv k y0 x20 y26 h_1
    (fun y0_2 y6 y26_3 h_4 =>
    bnd (pConv Try.prog 68 3 y6 h_4) fun x29 =>
    bnd (pMakeSlice Try.prog 22 x29 x29 h_4) fun x30 =>
    bnd (pCopy Try.prog #[22, 22] x30.1 y0_2 x30.2) fun x33 =>
    F32_llrrrrrr inv k k x30.1 x33.1 x33.2
    (fun y7 y8 y37 h_5 =>
    some (y7, h_5))))
theorem F32_eq : eFun env k inv 32 #[x0, x1] h = F32 inv k x0 x1 h := by
      refine (kq_fun (a := act 48 [(0, x0), (1, x1)]) (c := cp c32 1)).trans ?_
      unfold F32
      simp only [kq_seq c32 1, r32_0, kq_seq c32 3, kq_seq c32 6, r32_1, F32_rlr_eq, kq_seq c32 7, r32_3, kq_seq c32 15, kq_seq c32 30, r32_4, F32_rlrrr_eq, kq_seq c32 31, r32_6, kq_seq c32 63, r32_7, kq_seq c32 127, kq_block c32 254 0, F32_llrrrrrr_eq, kq_seq c32 255, r32_10, kq_ret c32 511, res32_0, reduceIte, reduceCtorEq, XE.exit.injEq, Nat.reduceEqDiff, Nat.reduceMul, Nat.reduceAdd] <;> kernel_rfl
theorem F32_call : eInv env (k + 1) (.func 32) #[] #[x0, x1] h = F32 (eInv env k) k x0 x1 h := kq_inv F32_eq
noncomputable def c33 : Code := codeOf Try.prog 33
theorem r33_0  : kCode env 33 false inv k (cp c33 2) (act 23 [(0, x0), (1, x1)]) h K =
    K .normal (act 23 [(0, x0), (1, x1)]) h := kq_reg
theorem r33_1  : kCode env 33 false inv k (cp c33 24) (act 23 [(0, x0), (1, x1)]) h K =
    bnd (pBin Try.prog .eql 54 (.tmp 9) (.const (.pointer none)) x0 (.pointer none)) fun x10 =>
    K .normal (act 23 [(0, x0), (1, x1), (8, x10)]) h := kq_reg
theorem b33_rllr  : kCode env 33 false inv k (cp c33 25) (act 23 [(0, x0), (1, x1), (8, x8)]) h K = brV x8 (kCode env 33 false inv k (cp c33 50) (act 23 [(0, x0), (1, x1), (8, x8)]) h K) (kCode env 33 false inv k (cp c33 51) (act 23 [(0, x0), (1, x1), (8, x8)]) h K) := kq_cond
theorem r33_2  : kCode env 33 false inv k (cp c33 100) (act 23 [(0, x0), (1, x1), (8, x8)]) h K =
    K .normal (act 23 [(4, (.slice none 0 0)), (5, (.int .i64 1))]) h := kq_reg
theorem res33_0 : resOfFn env.P 33 .ret (act 23 [(4, x4), (5, x5)]) h = some (.tuple #[x4, x5], h) := kq_res
theorem r33_3  : kCode env 33 false inv k (cp c33 102) (act 23 [(0, x0), (1, x1), (8, x8)]) h K =
    bnd (pBin Try.prog .lss 3 (.tmp 12) (.const (.int .i64 0)) x1 (.int .i64 0)) fun x13 =>
    K .normal (act 23 [(0, x0), (1, x1), (11, x13)]) h := kq_reg
theorem b33_rrrllr  : kCode env 33 false inv k (cp c33 103) (act 23 [(0, x0), (1, x1), (11, x11)]) h K = brV x11 (kCode env 33 false inv k (cp c33 206) (act 23 [(0, x0), (1, x1), (11, x11)]) h K) (kCode env 33 false inv k (cp c33 207) (act 23 [(0, x0), (1, x1), (11, x11)]) h K) := kq_cond
theorem r33_4  : kCode env 33 false inv k (cp c33 412) (act 23 [(0, x0), (1, x1), (11, x11)]) h K =
    K .normal (act 23 [(4, (.slice none 0 0)), (5, (.int .i64 2))]) h := kq_reg
theorem r33_5  : kCode env 33 false inv k (cp c33 14) (act 23 [(0, x0), (1, x1), (11, x11)]) h K =
    bnd (inv (.func 54) #[] #[x0, x1] h) fun x17 =>
    bnd (pExtract x17.1 0) fun x18 =>
    bnd (pExtract x17.1 1) fun x19 =>
    K .normal (act 23 [(6, x18), (7, x19)]) x17.2 := kq_reg
theorem r33_6  : kCode env 33 false inv k (cp c33 30) (act 23 [(6, x6), (7, x7)]) h K =
    bnd (inv (.func 52) #[] #[x6] h) fun x21 =>
    K .normal (act 23 [(4, x21.1), (5, x7)]) x21.2 := kq_reg
/-- (*shadowbook/octet.Reader).Bytes -/
noncomputable def F33 (inv : Inv) (k : Nat) (x0 x1 : Value) (h : AH) : Option (Value × AH) :=
    bnd (pBin Try.prog .eql 54 (.tmp 9) (.const (.pointer none)) x0 (.pointer none)) fun x10 =>
    brV x10
    (some (.tuple #[(.slice none 0 0), (.int .i64 1)], h))
    (bnd (pBin Try.prog .lss 3 (.tmp 12) (.const (.int .i64 0)) x1 (.int .i64 0)) fun x13 =>
    brV x13
    (some (.tuple #[(.slice none 0 0), (.int .i64 2)], h))
    (bnd (inv (.func 54) #[] #[x0, x1] h) fun x17 =>
    bnd (pExtract x17.1 0) fun x18 =>
    bnd (pExtract x17.1 1) fun x19 =>
    bnd (inv (.func 52) #[] #[x18] x17.2) fun x21 =>
    some (.tuple #[x21.1, x19], x21.2)))
theorem F33_eq : eFun env k inv 33 #[x0, x1] h = F33 inv k x0 x1 h := by
      refine (kq_fun (a := act 23 [(0, x0), (1, x1)]) (c := cp c33 1)).trans ?_
      unfold F33
      simp only [kq_seq c33 1, r33_0, kq_seq c33 3, kq_block c33 6 0, kq_seq c33 12, r33_1, b33_rllr, kq_seq c33 50, r33_2, kq_ret c33 101, res33_0, kq_seq c33 51, r33_3, b33_rrrllr, kq_seq c33 206, r33_4, kq_ret c33 413, kq_skip c33 207, kq_seq c33 7, r33_5, kq_seq c33 15, r33_6, kq_ret c33 31, reduceIte, reduceCtorEq, XE.exit.injEq, Nat.reduceEqDiff, Nat.reduceMul, Nat.reduceAdd] <;> kernel_rfl
theorem F33_call : eInv env (k + 1) (.func 33) #[] #[x0, x1] h = F33 (eInv env k) k x0 x1 h := kq_inv F33_eq
noncomputable def c34 : Code := codeOf Try.prog 34
theorem r34_0  : kCode env 34 false inv k (cp c34 2) (act 15 [(0, x0), (1, x1)]) h K =
    K .normal (act 15 [(0, x0), (1, x1)]) h := kq_reg
theorem r34_1  : kCode env 34 false inv k (cp c34 12) (act 15 [(0, x0), (1, x1)]) h K =
    bnd (inv (.func 49) #[] #[x0, x1] h) fun x7 =>
    bnd (pUn Try.prog .not x7.1) fun x8 =>
    K .normal (act 15 [(0, x0), (1, x1), (8, x8)]) x7.2 := kq_reg
theorem b34_rlr  : kCode env 34 false inv k (cp c34 13) (act 15 [(0, x0), (1, x1), (8, x8)]) h K = brV x8 (kCode env 34 false inv k (cp c34 26) (act 15 [(0, x0), (1, x1), (8, x8)]) h K) (kCode env 34 false inv k (cp c34 27) (act 15 [(0, x0), (1, x1), (8, x8)]) h K) := kq_cond
theorem r34_2  : kCode env 34 false inv k (cp c34 52) (act 15 [(0, x0), (1, x1), (8, x8)]) h K =
    K .normal (act 15 [(4, (.int .i64 0))]) h := kq_reg
theorem res34_0 : resOfFn env.P 34 .ret (act 15 [(4, x4)]) h = some (x4, h) := kq_res
noncomputable abbrev G34_3 {β : Type} (inv : Inv) (x0 x1 : Value) (h : AH) (K : Value → AH → Option β) : Option β :=
    bnd (pBin Try.prog .mul 3 (.tmp 9) (.tmp 10) x0 x1) fun x11 =>
    bnd (pBin Try.prog .add 3 (.tmp 11) (.const (.int .i64 8)) x11 (.int .i64 8)) fun x12 =>
    bnd (pBin Try.prog .sub 3 (.tmp 12) (.const (.int .i64 1)) x12 (.int .i64 1)) fun x13 =>
    bnd (pBin Try.prog .quo 3 (.tmp 13) (.const (.int .i64 8)) x13 (.int .i64 8)) fun x14 =>
    K (x14) h
theorem r34_3  : kCode env 34 false inv k (cp c34 14) (act 15 [(0, x0), (1, x1), (8, x8)]) h K =
    G34_3 inv x0 x1 h fun y4 h => K .normal (act 15 [(4, y4)]) h := kq_reg
/-- shadowbook/packs.Size -/
noncomputable def F34 (inv : Inv) (k : Nat) (x0 x1 : Value) (h : AH) : Option (Value × AH) :=
    bnd (inv (.func 49) #[] #[x0, x1] h) fun x7 =>
    bnd (pUn Try.prog .not x7.1) fun x8 =>
    brV x8
    (some ((.int .i64 0), x7.2))
    (G34_3 inv x0 x1 x7.2 fun y4 h =>
    some (y4, h))
theorem F34_eq : eFun env k inv 34 #[x0, x1] h = F34 inv k x0 x1 h := by
      refine (kq_fun (a := act 15 [(0, x0), (1, x1)]) (c := cp c34 1)).trans ?_
      unfold F34
      simp only [kq_seq c34 1, r34_0, kq_seq c34 3, kq_seq c34 6, r34_1, b34_rlr, kq_seq c34 26, r34_2, kq_ret c34 53, res34_0, kq_skip c34 27, kq_seq c34 7, r34_3, kq_ret c34 15, reduceIte, reduceCtorEq, XE.exit.injEq, Nat.reduceEqDiff, Nat.reduceMul, Nat.reduceAdd] <;> kernel_rfl
theorem F34_call : eInv env (k + 1) (.func 34) #[] #[x0, x1] h = F34 (eInv env k) k x0 x1 h := kq_inv F34_eq
noncomputable def c35 : Code := codeOf Try.prog 35
theorem r35_0  : kCode env 35 false inv k (cp c35 2) (act 30 [(0, x0), (1, x1), (2, x2)]) h K =
    K .normal (act 30 [(0, x0), (1, x1), (2, x2), (6, (.slice none 0 0)), (7, (.int .i64 0))]) h := kq_reg
theorem r35_1  : kCode env 35 false inv k (cp c35 12) (act 30 [(0, x0), (1, x1), (2, x2), (6, x6), (7, x7)]) h K =
    bnd (inv (.func 57) #[] #[x0, x1, x2] h) fun x15 =>
    K .normal (act 30 [(0, x0), (1, x1), (2, x2), (6, x6), (7, x7), (8, x15.1)]) x15.2 := kq_reg
theorem r35_2  : kCode env 35 false inv k (cp c35 26) (act 30 [(0, x0), (1, x1), (2, x2), (6, x6), (7, x7), (8, x8)]) h K =
    bnd (pBin Try.prog .neq 33 (.tmp 16) (.const (.int .i64 0)) x8 (.int .i64 0)) fun x17 =>
    K .normal (act 30 [(0, x0), (1, x1), (2, x2), (6, x6), (7, x7), (8, x8), (17, x17)]) h := kq_reg
theorem b35_rrlr  : kCode env 35 false inv k (cp c35 27) (act 30 [(0, x0), (1, x1), (2, x2), (6, x6), (7, x7), (8, x8), (17, x17)]) h K = brV x17 (kCode env 35 false inv k (cp c35 54) (act 30 [(0, x0), (1, x1), (2, x2), (6, x6), (7, x7), (8, x8), (17, x17)]) h K) (kCode env 35 false inv k (cp c35 55) (act 30 [(0, x0), (1, x1), (2, x2), (6, x6), (7, x7), (8, x8), (17, x17)]) h K) := kq_cond
theorem r35_3  : kCode env 35 false inv k (cp c35 108) (act 30 [(0, x0), (1, x1), (2, x2), (6, x6), (7, x7), (8, x8), (17, x17)]) h K =
    K .normal (act 30 [(6, (.slice none 0 0)), (7, x8)]) h := kq_reg
theorem res35_0 : resOfFn env.P 35 .ret (act 30 [(6, x6), (7, x7)]) h = some (.tuple #[x6, x7], h) := kq_res
theorem r35_4  : kCode env 35 false inv k (cp c35 14) (act 30 [(0, x0), (1, x1), (2, x2), (6, x6), (7, x7), (8, x8), (17, x17)]) h K =
    bnd (pAlloc Try.prog 52 h) fun x9 =>
    K .normal (act 30 [(0, x0), (1, x1), (2, x2), (6, x6), (7, x7), (9, x9.1)]) x9.2 := kq_reg
theorem r35_5  : kCode env 35 false inv k (cp c35 60) (act 30 [(0, x0), (1, x1), (2, x2), (6, x6), (7, x7), (9, x9)]) h K =
    bnd (inv (.func 58) #[] #[x0, x1, x2] h) fun x22 =>
    K .normal (act 30 [(6, x6), (7, x7), (9, x9), (22, x22.1)]) x22.2 := kq_reg
theorem g35_lrlrrr  : kCode env 35 false inv k (cp c35 122) (act 30 [(6, x6), (7, x7), (9, x9), (22, x22)]) h K = kRange env 35 inv x22 (psOf (cp c35 122)) (cp c35 244) (cp c35 245) (act 30 [(6, x6), (7, x7), (9, x9), (22, x22)]) h fun e h => sw e (K .normal (act 30 [(6, x6), (7, x7), (9, x9), (22, x22)]) h) (none) [] := kq_range (g := x22) (ids := [])
noncomputable def F35_rlrrr {β : Type} (inv : Inv) (k : Nat) (x6 x7 x9 x22 : Value) (h : AH) (kn : (Value → Value → Value → Value → AH → Option β)) : Option β :=
    kRange env 35 inv x22 (psOf (cp c35 122)) (cp c35 244) (cp c35 245) (act 30 [(6, x6), (7, x7), (9, x9), (22, x22)]) h fun e h => sw e
    (kn x6 x7 x9 x22 h)
    none []
theorem F35_rlrrr_eq  : kCode env 35 false inv k (cp c35 61) (act 30 [(6, x6), (7, x7), (9, x9), (22, x22)]) h K = F35_rlrrr inv k x6 x7 x9 x22 h (fun y6 y7 y9 y22 h => K .normal (act 30 [(6, y6), (7, y7), (9, y9), (22, y22)]) h) := by
      unfold F35_rlrrr
      simp only [kq_block c35 61 0, g35_lrlrrr, reduceIte, reduceCtorEq, XE.exit.injEq, Nat.reduceEqDiff, Nat.reduceMul, Nat.reduceAdd] <;> kernel_rfl
theorem r35_8  : kCode env 35 false inv k (cp c35 62) (act 30 [(6, x6), (7, x7), (9, x9), (22, x22)]) h K =
    bnd (pLoad Try.prog 52 x9 h) fun x29 =>
    K .normal (act 30 [(6, x29), (7, (.int .i64 0))]) h := kq_reg
/-- shadowbook/packs.Get -/
noncomputable def F35 (inv : Inv) (k : Nat) (x0 x1 x2 : Value) (h : AH) : Option (Value × AH) :=
    bnd (inv (.func 57) #[] #[x0, x1, x2] h) fun x15 =>
    bnd (pBin Try.prog .neq 33 (.tmp 16) (.const (.int .i64 0)) x15.1 (.int .i64 0)) fun x17 =>
    brV x17
    (some (.tuple #[(.slice none 0 0), x15.1], x15.2))
    (bnd (pAlloc Try.prog 52 x15.2) fun x9 =>
    bnd (inv (.func 58) #[] #[x0, x1, x2] x9.2) fun x22 =>
    F35_rlrrr inv k (.slice none 0 0) (.int .i64 0) x9.1 x22.1 x22.2
    (fun y6 y7 y9 y22 h =>
    bnd (pLoad Try.prog 52 y9 h) fun x29 =>
    some (.tuple #[x29, (.int .i64 0)], h)))
theorem F35_eq : eFun env k inv 35 #[x0, x1, x2] h = F35 inv k x0 x1 x2 h := by
      refine (kq_fun (a := act 30 [(0, x0), (1, x1), (2, x2)]) (c := cp c35 1)).trans ?_
      unfold F35
      simp only [kq_seq c35 1, r35_0, kq_seq c35 3, kq_seq c35 6, r35_1, kq_seq c35 13, r35_2, b35_rrlr, kq_seq c35 54, r35_3, kq_ret c35 109, res35_0, kq_skip c35 55, kq_seq c35 7, r35_4, kq_seq c35 15, kq_seq c35 30, r35_5, F35_rlrrr_eq, kq_seq c35 31, r35_8, kq_ret c35 63, reduceIte, reduceCtorEq, XE.exit.injEq, Nat.reduceEqDiff, Nat.reduceMul, Nat.reduceAdd] <;> kernel_rfl
theorem F35_call : eInv env (k + 1) (.func 35) #[] #[x0, x1, x2] h = F35 (eInv env k) k x0 x1 x2 h := kq_inv F35_eq
theorem r35_6  : kCode env 35 true inv k (cp c35 244) (act 30 [(6, x6), (7, x7), (9, x9), (22, x22), (23, x23), (24, x24)]) h K =
    K .normal (act 30 [(9, x9), (11, x24)]) h := kq_reg
theorem r35_7  : kCode env 35 true inv k (cp c35 490) (act 30 [(9, x9), (11, x11)]) h K =
    bnd (pLoad Try.prog 52 x9 h) fun x25 =>
    bnd (pBuildSlice Try.prog 52 1 #[(0, x11)] h) fun x27 =>
    bnd (pAppend Try.prog #[52, 52] x25 x27.1 x27.2) fun x28 =>
    bnd (kSt (pStore Try.prog 52 x9 x28.1 x28.2)) fun u =>
    K .normal (act 30 []) u.2 := kq_reg
noncomputable def R35_lrlrrr (inv : Inv) (k l : Nat) (x6 x7 x9 x22 z0 z1 : Value) (h : AH) : Option (Value × AH) :=
    rdBegin l h fun h =>
    bnd (pLoad Try.prog 52 x9 h) fun x25 =>
    bnd (pBuildSlice Try.prog 52 1 #[(0, z1)] h) fun x27 =>
    bnd (pAppend Try.prog #[52, 52] x25 x27.1 x27.2) fun x28 =>
    bnd (kSt (pStore Try.prog 52 x9 x28.1 x28.2)) fun u =>
    rdEnd l .normal u.2
theorem R35_lrlrrr_eq {l : Nat} {pd : Option Code} (hl : h.get l = some (.loop .ready pd 35 (act 30 [(6, x6), (7, x7), (9, x9), (22, x22)]).tmps (psOf (cp c35 122)) (cp c35 244) (cp c35 245))) : eRound env k inv l #[z0, z1] h = R35_lrlrrr inv k l x6 x7 x9 x22 z0 z1 h := by
      refine (eRound_k (a := act 30 [(6, x6), (7, x7), (9, x9), (22, x22), (23, z0), (24, z1)]) hl (by kernel_rfl) (by kernel_rfl)).trans ?_
      unfold R35_lrlrrr
      simp only [r35_6, kq_block c35 245 1, r35_7, reduceIte, reduceCtorEq, XE.exit.injEq, Nat.reduceEqDiff, Nat.reduceMul, Nat.reduceAdd] <;> kernel_rfl
noncomputable def c36 : Code := codeOf Try.prog 36
theorem r36_0  : kCode env 36 false inv k (cp c36 2) (act 10 [(0, x0)]) h K =
    K .normal (act 10 [(0, x0)]) h := kq_reg
theorem r36_1  : kCode env 36 false inv k (cp c36 12) (act 10 [(0, x0)]) h K =
    bnd (pBin Try.prog .eql 54 (.tmp 3) (.const (.pointer none)) x0 (.pointer none)) fun x4 =>
    K .normal (act 10 [(0, x0), (4, x4)]) h := kq_reg
theorem b36_rlr  : kCode env 36 false inv k (cp c36 13) (act 10 [(0, x0), (4, x4)]) h K = brV x4 (kCode env 36 false inv k (cp c36 26) (act 10 [(0, x0), (4, x4)]) h K) (kCode env 36 false inv k (cp c36 27) (act 10 [(0, x0), (4, x4)]) h K) := kq_cond
theorem r36_2  : kCode env 36 false inv k (cp c36 52) (act 10 [(0, x0), (4, x4)]) h K =
    K .normal (act 10 [(2, (.int .i64 0))]) h := kq_reg
theorem res36_0 : resOfFn env.P 36 .ret (act 10 [(2, x2)]) h = some (x2, h) := kq_res
theorem r36_3  : kCode env 36 false inv k (cp c36 14) (act 10 [(0, x0), (4, x4)]) h K =
    bnd (pNilCheck x0) fun x6 =>
    bnd (pFieldAddr Try.prog 73 x6 0) fun x7 =>
    bnd (pLoad Try.prog 32 x7 h) fun x8 =>
    bnd (pLen Try.prog #[32] x8 h) fun x9 =>
    K .normal (act 10 [(2, x9)]) h := kq_reg
/-- (*shadowbook/octet.Reader).Left -/
noncomputable def F36 (inv : Inv) (k : Nat) (x0 : Value) (h : AH) : Option (Value × AH) :=
    bnd (pBin Try.prog .eql 54 (.tmp 3) (.const (.pointer none)) x0 (.pointer none)) fun x4 =>
    brV x4
    (some ((.int .i64 0), h))
    (bnd (pNilCheck x0) fun x6 =>
    bnd (pFieldAddr Try.prog 73 x6 0) fun x7 =>
    bnd (pLoad Try.prog 32 x7 h) fun x8 =>
    bnd (pLen Try.prog #[32] x8 h) fun x9 =>
    some (x9, h))
theorem F36_eq : eFun env k inv 36 #[x0] h = F36 inv k x0 h := by
      refine (kq_fun (a := act 10 [(0, x0)]) (c := cp c36 1)).trans ?_
      unfold F36
      simp only [kq_seq c36 1, r36_0, kq_seq c36 3, kq_seq c36 6, r36_1, b36_rlr, kq_seq c36 26, r36_2, kq_ret c36 53, res36_0, kq_skip c36 27, kq_seq c36 7, r36_3, kq_ret c36 15, reduceIte, reduceCtorEq, XE.exit.injEq, Nat.reduceEqDiff, Nat.reduceMul, Nat.reduceAdd] <;> kernel_rfl
theorem F36_call : eInv env (k + 1) (.func 36) #[] #[x0] h = F36 (eInv env k) k x0 h := kq_inv F36_eq
noncomputable def c37 : Code := codeOf Try.prog 37
theorem r37_0  : kCode env 37 false inv k (cp c37 2) (act 10 [(0, x0), (1, x1)]) h K =
    K .normal (act 10 [(0, x0), (1, x1)]) h := kq_reg
theorem r37_1  : kCode env 37 false inv k (cp c37 6) (act 10 [(0, x0), (1, x1)]) h K =
    bnd (pConv Try.prog 32 9 x0 h) fun x6 =>
    bnd (pConv Try.prog 32 9 x1 h) fun x8 =>
    bnd (pBin Try.prog .eql 9 (.tmp 6) (.tmp 8) x6 x8) fun x9 =>
    K .normal (act 10 [(4, x9)]) h := kq_reg
theorem res37_0 : resOfFn env.P 37 .ret (act 10 [(4, x4)]) h = some (x4, h) := kq_res
/-- bytes.Equal -/
noncomputable def F37 (inv : Inv) (k : Nat) (x0 x1 : Value) (h : AH) : Option (Value × AH) :=
    bnd (pConv Try.prog 32 9 x0 h) fun x6 =>
    bnd (pConv Try.prog 32 9 x1 h) fun x8 =>
    bnd (pBin Try.prog .eql 9 (.tmp 6) (.tmp 8) x6 x8) fun x9 =>
    some (x9, h)
theorem F37_eq : eFun env k inv 37 #[x0, x1] h = F37 inv k x0 x1 h := by
      refine (kq_fun (a := act 10 [(0, x0), (1, x1)]) (c := cp c37 1)).trans ?_
      unfold F37
      simp only [kq_seq c37 1, r37_0, kq_seq c37 3, r37_1, kq_ret c37 7, res37_0, reduceIte, reduceCtorEq, XE.exit.injEq, Nat.reduceEqDiff, Nat.reduceMul, Nat.reduceAdd] <;> kernel_rfl
theorem F37_call : eInv env (k + 1) (.func 37) #[] #[x0, x1] h = F37 (eInv env k) k x0 x1 h := kq_inv F37_eq
noncomputable def c38 : Code := codeOf Try.prog 38
theorem r38_0  : kCode env 38 false inv k (cp c38 2) (act 20 [(0, x0), (1, x1)]) h K =
    K .normal (act 20 [(0, x0), (1, x1)]) h := kq_reg
theorem r38_1  : kCode env 38 false inv k (cp c38 96) (act 20 [(0, x0), (1, x1)]) h K =
    bnd (pBin Try.prog .geq 49 (.tmp 5) (.const (.int .u64 128)) x1 (.int .u64 128)) fun x6 =>
    K .normal (act 20 [(0, x0), (1, x1), (6, x6)]) h := kq_reg
theorem b38_rllllr  : kCode env 38 false inv k (cp c38 97) (act 20 [(0, x0), (1, x1), (6, x6)]) h K = brV x6 (kCode env 38 false inv k (cp c38 194) (act 20 [(0, x0), (1, x1), (6, x6)]) h K) (kCode env 38 false inv k (cp c38 195) (act 20 [(0, x0), (1, x1), (6, x6)]) h K) := kq_cond
theorem r38_2  : kCode env 38 false inv k (cp c38 196) (act 20 [(0, x0), (1, x1), (6, x6)]) h K =
    bnd (pConv Try.prog 49 5 x1 h) fun x9 =>
    bnd (pBin Try.prog .or 5 (.tmp 9) (.const (.int .u8 128)) x9 (.int .u8 128)) fun x10 =>
    bnd (pBuildSlice Try.prog 32 1 #[(0, x10)] h) fun x11 =>
    bnd (pAppend Try.prog #[32, 32] x0 x11.1 x11.2) fun x12 =>
    K .normal (act 20 [(0, x12.1), (1, x1)]) x12.2 := kq_reg
theorem r38_3  : kCode env 38 false inv k (cp c38 197) (act 20 [(0, x0), (1, x1)]) h K =
    bnd (pBin Try.prog .shr 49 (.tmp 13) (.const (.int .u64 7)) x1 (.int .u64 7)) fun x14 =>
    K .normal (act 20 [(0, x0), (1, x14)]) h := kq_reg
noncomputable def F38_llr {β : Type} (inv : Inv) (k : Nat) : Nat → Value → Value → AH → (Value → Value → Value → AH → Option β) → Option β
  | 0, _, _, _, _ => none
  | j + 1, x0, x1, h, ke0 =>
    bnd (pBin Try.prog .geq 49 (.tmp 5) (.const (.int .u64 128)) x1 (.int .u64 128)) fun x6 =>
    brV x6
    (bnd (pConv Try.prog 49 5 x1 h) fun x9 =>
    bnd (pBin Try.prog .or 5 (.tmp 9) (.const (.int .u8 128)) x9 (.int .u8 128)) fun x10 =>
    bnd (pBuildSlice Try.prog 32 1 #[(0, x10)] h) fun x11 =>
    bnd (pAppend Try.prog #[32, 32] x0 x11.1 x11.2) fun x12 =>
    bnd (pBin Try.prog .shr 49 (.tmp 13) (.const (.int .u64 7)) x1 (.int .u64 7)) fun x14 =>
    F38_llr inv k j x12.1 x14 x12.2 ke0)
    (ke0 x0 x1 x6 h)
theorem F38_llr_j (j : Nat) : kLoop (kCode env 38 false inv k (cp c38 24)) j (act 20 [(0, x0), (1, x1)]) h K = F38_llr inv k j x0 x1 h (fun y0 y1 y6 h => K (.exit 0) (act 20 [(0, y0), (1, y1), (6, y6)]) h) := by
      induction j generalizing x0 x1 h with
      | zero => rfl
      | succ j ih =>
        unfold F38_llr
        simp only [kLoop, kq_seq c38 24, kq_seq c38 48, r38_1, b38_rllllr, kq_skip c38 194, kq_block c38 49 1, kq_seq c38 98, r38_2, r38_3, kq_exit c38 195 0, ih, reduceIte, reduceCtorEq, XE.exit.injEq, Nat.reduceEqDiff, Nat.reduceMul, Nat.reduceAdd] <;> kernel_rfl
theorem F38_llr_eq  : kCode env 38 false inv k (cp c38 12) (act 20 [(0, x0), (1, x1)]) h K = F38_llr inv k k x0 x1 h (fun y0 y1 y6 h => K (.exit 0) (act 20 [(0, y0), (1, y1), (6, y6)]) h) := kq_loop (F38_llr_j k)
theorem r38_4  : kCode env 38 false inv k (cp c38 14) (act 20 [(0, x0), (1, x1), (6, x6)]) h K =
    bnd (pConv Try.prog 49 5 x1 h) fun x17 =>
    bnd (pBuildSlice Try.prog 32 1 #[(0, x17)] h) fun x18 =>
    bnd (pAppend Try.prog #[32, 32] x0 x18.1 x18.2) fun x19 =>
    K .normal (act 20 [(4, x19.1)]) x19.2 := kq_reg
theorem res38_0 : resOfFn env.P 38 .ret (act 20 [(4, x4)]) h = some (x4, h) := kq_res
/-- shadowbook/shadowbookref01.PutVar -/
noncomputable def F38 (inv : Inv) (k : Nat) (x0 x1 : Value) (h : AH) : Option (Value × AH) :=
    F38_llr inv k k x0 x1 h
    (fun y0 y1 y6 h =>
    bnd (pConv Try.prog 49 5 y1 h) fun x17 =>
    bnd (pBuildSlice Try.prog 32 1 #[(0, x17)] h) fun x18 =>
    bnd (pAppend Try.prog #[32, 32] y0 x18.1 x18.2) fun x19 =>
    some (x19.1, x19.2))
theorem F38_eq : eFun env k inv 38 #[x0, x1] h = F38 inv k x0 x1 h := by
      refine (kq_fun (a := act 20 [(0, x0), (1, x1)]) (c := cp c38 1)).trans ?_
      unfold F38
      simp only [kq_seq c38 1, r38_0, kq_seq c38 3, kq_block c38 6 0, F38_llr_eq, kq_seq c38 7, r38_4, kq_ret c38 15, res38_0, reduceIte, reduceCtorEq, XE.exit.injEq, Nat.reduceEqDiff, Nat.reduceMul, Nat.reduceAdd] <;> kernel_rfl
theorem F38_call : eInv env (k + 1) (.func 38) #[] #[x0, x1] h = F38 (eInv env k) k x0 x1 h := kq_inv F38_eq
noncomputable def c39 : Code := codeOf Try.prog 39
theorem r39_0  : kCode env 39 false inv k (cp c39 2) (act 64 [(0, x0), (1, x1)]) h K =
    K .normal (act 64 [(0, x0), (1, x1)]) h := kq_reg
theorem r39_1  : kCode env 39 false inv k (cp c39 12) (act 64 [(0, x0), (1, x1)]) h K =
    bnd (pLen Try.prog #[52] x0 h) fun x11 =>
    bnd (inv (.func 59) #[] #[x11, x1] h) fun x13 =>
    bnd (pUn Try.prog .not x13.1) fun x14 =>
    K .normal (act 64 [(0, x0), (1, x1), (14, x14)]) x13.2 := kq_reg
theorem b39_rlr  : kCode env 39 false inv k (cp c39 13) (act 64 [(0, x0), (1, x1), (14, x14)]) h K = brV x14 (kCode env 39 false inv k (cp c39 26) (act 64 [(0, x0), (1, x1), (14, x14)]) h K) (kCode env 39 false inv k (cp c39 27) (act 64 [(0, x0), (1, x1), (14, x14)]) h K) := kq_cond
theorem r39_2  : kCode env 39 false inv k (cp c39 52) (act 64 [(0, x0), (1, x1), (14, x14)]) h K =
    K .normal (act 64 [(4, (.slice none 0 0)), (5, (.int .i64 2))]) h := kq_reg
theorem res39_0 : resOfFn env.P 39 .ret (act 64 [(4, x4), (5, x5)]) h = some (.tuple #[x4, x5], h) := kq_res
theorem r39_3  : kCode env 39 false inv k (cp c39 28) (act 64 [(0, x0), (1, x1), (14, x14)]) h K =
    bnd (inv (.func 60) #[] #[x0] h) fun x16 =>
    bnd (pBin Try.prog .gtr 3 (.tmp 16) (.tmp 17) x16.1 x1) fun x18 =>
    K .normal (act 64 [(0, x0), (1, x1), (18, x18)]) x16.2 := kq_reg
theorem b39_rlrr  : kCode env 39 false inv k (cp c39 29) (act 64 [(0, x0), (1, x1), (18, x18)]) h K = brV x18 (kCode env 39 false inv k (cp c39 58) (act 64 [(0, x0), (1, x1), (18, x18)]) h K) (kCode env 39 false inv k (cp c39 59) (act 64 [(0, x0), (1, x1), (18, x18)]) h K) := kq_cond
theorem r39_4  : kCode env 39 false inv k (cp c39 116) (act 64 [(0, x0), (1, x1), (18, x18)]) h K =
    K .normal (act 64 [(4, (.slice none 0 0)), (5, (.int .i64 3))]) h := kq_reg
theorem r39_5  : kCode env 39 false inv k (cp c39 30) (act 64 [(0, x0), (1, x1), (18, x18)]) h K =
    bnd (pLen Try.prog #[52] x0 h) fun x20 =>
    bnd (inv (.func 45) #[] #[x20, x1] h) fun x22 =>
    bnd (pMakeSlice Try.prog 32 x22.1 x22.1 x22.2) fun x23 =>
    K .normal (act 64 [(0, x0), (1, x1), (6, x23.1)]) x23.2 := kq_reg
theorem r39_6  : kCode env 39 false inv k (cp c39 124) (act 64 [(0, x0), (1, x1), (6, x6)]) h K =
    K .normal (act 64 [(0, x0), (1, x1), (6, x6), (7, (.int .i64 0))]) h := kq_reg
theorem r39_7  : kCode env 39 false inv k (cp c39 2000) (act 64 [(0, x0), (1, x1), (6, x6), (7, x7)]) h K =
    bnd (pLen Try.prog #[52] x0 h) fun x26 =>
    bnd (pBin Try.prog .lss 3 (.tmp 24) (.tmp 26) x7 x26) fun x27 =>
    K .normal (act 64 [(0, x0), (1, x1), (6, x6), (7, x7), (27, x27)]) h := kq_reg
theorem b39_rlllrlrrrr  : kCode env 39 false inv k (cp c39 2001) (act 64 [(0, x0), (1, x1), (6, x6), (7, x7), (27, x27)]) h K = brV x27 (kCode env 39 false inv k (cp c39 4002) (act 64 [(0, x0), (1, x1), (6, x6), (7, x7), (27, x27)]) h K) (kCode env 39 false inv k (cp c39 4003) (act 64 [(0, x0), (1, x1), (6, x6), (7, x7), (27, x27)]) h K) := kq_cond
theorem r39_9  : kCode env 39 false inv k (cp c39 8008) (act 64 [(0, x0), (1, x1), (6, x6), (7, x7), (27, x27)]) h K =
    K .normal (act 64 [(0, x0), (1, x1), (6, x6), (7, x7), (8, (.int .i64 0))]) h := kq_reg
theorem r39_10  : kCode env 39 false inv k (cp c39 128144) (act 64 [(0, x0), (1, x1), (6, x6), (7, x7), (8, x8)]) h K =
    bnd (pBin Try.prog .lss 3 (.tmp 30) (.tmp 31) x8 x1) fun x32 =>
    K .normal (act 64 [(0, x0), (1, x1), (6, x6), (7, x7), (8, x8), (32, x32)]) h := kq_reg
theorem b39_rlllrllrllrlrrrr  : kCode env 39 false inv k (cp c39 128145) (act 64 [(0, x0), (1, x1), (6, x6), (7, x7), (8, x8), (32, x32)]) h K = brV x32 (kCode env 39 false inv k (cp c39 256290) (act 64 [(0, x0), (1, x1), (6, x6), (7, x7), (8, x8), (32, x32)]) h K) (kCode env 39 false inv k (cp c39 256291) (act 64 [(0, x0), (1, x1), (6, x6), (7, x7), (8, x8), (32, x32)]) h K) := kq_cond
noncomputable abbrev G39_12 {β : Type} (inv : Inv) (x0 x1 x6 x7 x8 : Value) (h : AH) (K : Value → AH → Option β) : Option β :=
    bnd (pIndexAddr Try.prog 52 x0 x7) fun x37 =>
    bnd (pLoad Try.prog 49 x37 h) fun x38 =>
    bnd (pConv Try.prog 3 68 x8 h) fun x40 =>
    bnd (pBin Try.prog .shr 49 (.tmp 38) (.tmp 40) x38 x40) fun x41 =>
    bnd (pBin Try.prog .rem 49 (.tmp 41) (.const (.int .u64 2)) x41 (.int .u64 2)) fun x42 =>
    bnd (pBin Try.prog .eql 49 (.tmp 42) (.const (.int .u64 1)) x42 (.int .u64 1)) fun x43 =>
    K (x43) h
theorem r39_12  : kCode env 39 false inv k (cp c39 512584) (act 64 [(0, x0), (1, x1), (6, x6), (7, x7), (8, x8), (32, x32)]) h K =
    G39_12 inv x0 x1 x6 x7 x8 h fun y43 h => K .normal (act 64 [(0, x0), (1, x1), (6, x6), (7, x7), (8, x8), (43, y43)]) h := kq_reg
theorem b39_rllrllrllrllrlrrrr  : kCode env 39 false inv k (cp c39 512585) (act 64 [(0, x0), (1, x1), (6, x6), (7, x7), (8, x8), (43, x43)]) h K = brV x43 (kCode env 39 false inv k (cp c39 1025170) (act 64 [(0, x0), (1, x1), (6, x6), (7, x7), (8, x8), (43, x43)]) h K) (kCode env 39 false inv k (cp c39 1025171) (act 64 [(0, x0), (1, x1), (6, x6), (7, x7), (8, x8), (43, x43)]) h K) := kq_cond
theorem r39_13  : kCode env 39 false inv k (cp c39 2050340) (act 64 [(0, x0), (1, x1), (6, x6), (7, x7), (8, x8), (43, x43)]) h K =
    bnd (pBin Try.prog .mul 3 (.tmp 44) (.tmp 45) x7 x1) fun x46 =>
    bnd (pBin Try.prog .add 3 (.tmp 46) (.tmp 47) x46 x8) fun x48 =>
    K .normal (act 64 [(0, x0), (1, x1), (6, x6), (7, x7), (8, x8), (9, x48)]) h := kq_reg
noncomputable abbrev G39_14 {β : Type} (inv : Inv) (x0 x1 x6 x7 x8 x9 : Value) (h : AH) (K : AH → Option β) : Option β :=
    bnd (pBin Try.prog .quo 3 (.tmp 50) (.const (.int .i64 8)) x9 (.int .i64 8)) fun x51 =>
    bnd (pBin Try.prog .quo 3 (.tmp 53) (.const (.int .i64 8)) x9 (.int .i64 8)) fun x54 =>
    bnd (pIndexAddr Try.prog 32 x6 x54) fun x55 =>
    bnd (pLoad Try.prog 5 x55 h) fun x56 =>
    bnd (pBin Try.prog .rem 3 (.tmp 57) (.const (.int .i64 8)) x9 (.int .i64 8)) fun x58 =>
    bnd (pConv Try.prog 3 68 x58 h) fun x59 =>
    bnd (pBin Try.prog .shl 5 (.const (.int .u8 1)) (.tmp 59) (.int .u8 1) x59) fun x60 =>
    bnd (pBin Try.prog .or 5 (.tmp 56) (.tmp 60) x56 x60) fun x61 =>
    bnd (pIndexAddr Try.prog 32 x6 x51) fun x62 =>
    bnd (kSt (pStore Try.prog 5 x62 x61 h)) fun u =>
    K u.2
theorem r39_14  : kCode env 39 false inv k (cp c39 2050341) (act 64 [(0, x0), (1, x1), (6, x6), (7, x7), (8, x8), (9, x9)]) h K =
    G39_14 inv x0 x1 x6 x7 x8 x9 h fun  h => K .normal (act 64 [(0, x0), (1, x1), (6, x6), (7, x7), (8, x8)]) h := kq_reg
noncomputable def F39_lrllrllrllrlrrrr {β : Type} (inv : Inv) (k : Nat) (x0 x1 x6 x7 x8 x32 : Value) (h : AH) (kn : (Value → Value → Value → Value → Value → Value → AH → Option β)) : Option β :=
    G39_12 inv x0 x1 x6 x7 x8 h fun y43 h =>
    brV y43
    (bnd (pBin Try.prog .mul 3 (.tmp 44) (.tmp 45) x7 x1) fun x46 =>
    bnd (pBin Try.prog .add 3 (.tmp 46) (.tmp 47) x46 x8) fun x48 =>
    G39_14 inv x0 x1 x6 x7 x8 x48 h fun  h_1 =>
    kn x0 x1 x6 x7 x8 unk h_1)
    (kn x0 x1 x6 x7 x8 y43 h)
theorem F39_lrllrllrllrlrrrr_eq  : kCode env 39 false inv k (cp c39 128146) (act 64 [(0, x0), (1, x1), (6, x6), (7, x7), (8, x8), (32, x32)]) h K = F39_lrllrllrllrlrrrr inv k x0 x1 x6 x7 x8 x32 h (fun y0 y1 y6 y7 y8 y43 h => K .normal (act 64 [(0, y0), (1, y1), (6, y6), (7, y7), (8, y8), (43, y43)]) h) := by
      unfold F39_lrllrllrllrlrrrr
      simp only [kq_block c39 128146 3, kq_seq c39 256292, r39_12, b39_rllrllrllrllrlrrrr, kq_seq c39 1025170, r39_13, r39_14, kq_skip c39 1025171, reduceIte, reduceCtorEq, XE.exit.injEq, Nat.reduceEqDiff, Nat.reduceMul, Nat.reduceAdd] <;> kernel_rfl
theorem r39_11  : kCode env 39 false inv k (cp c39 128147) (act 64 [(0, x0), (1, x1), (6, x6), (7, x7), (8, x8), (43, x43)]) h K =
    bnd (pBin Try.prog .add 3 (.tmp 33) (.const (.int .i64 1)) x8 (.int .i64 1)) fun x34 =>
    K .normal (act 64 [(0, x0), (1, x1), (6, x6), (7, x7), (8, x34)]) h := kq_reg
noncomputable def F39_lrllrllrlrrrr {β : Type} (inv : Inv) (k : Nat) : Nat → Value → Value → Value → Value → Value → AH → (Value → Value → Value → Value → Value → Value → AH → Option β) → Option β
  | 0, _, _, _, _, _, _, _ => none
  | j + 1, x0, x1, x6, x7, x8, h, ke2 =>
    bnd (pBin Try.prog .lss 3 (.tmp 30) (.tmp 31) x8 x1) fun x32 =>
    brV x32
    (F39_lrllrllrllrlrrrr inv k x0 x1 x6 x7 x8 x32 h
    (fun y0 y1 y6 y7 y8 y43 h =>
    bnd (pBin Try.prog .add 3 (.tmp 33) (.const (.int .i64 1)) y8 (.int .i64 1)) fun x34 =>
    F39_lrllrllrlrrrr inv k j y0 y1 y6 y7 x34 h ke2))
    (ke2 x0 x1 x6 x7 x8 x32 h)
theorem F39_lrllrllrlrrrr_j (j : Nat) : kLoop (kCode env 39 false inv k (cp c39 32036)) j (act 64 [(0, x0), (1, x1), (6, x6), (7, x7), (8, x8)]) h K = F39_lrllrllrlrrrr inv k j x0 x1 x6 x7 x8 h (fun y0 y1 y6 y7 y8 y32 h => K (.exit 2) (act 64 [(0, y0), (1, y1), (6, y6), (7, y7), (8, y8), (32, y32)]) h) := by
      induction j generalizing x0 x1 x6 x7 x8 h with
      | zero => rfl
      | succ j ih =>
        unfold F39_lrllrllrlrrrr
        simp only [kLoop, kq_seq c39 32036, kq_seq c39 64072, r39_10, b39_rlllrllrllrlrrrr, kq_skip c39 256290, kq_seq c39 64073, F39_lrllrllrllrlrrrr_eq, r39_11, kq_exit c39 256291 2, ih, reduceIte, reduceCtorEq, XE.exit.injEq, Nat.reduceEqDiff, Nat.reduceMul, Nat.reduceAdd] <;> kernel_rfl
theorem F39_lrllrllrlrrrr_eq  : kCode env 39 false inv k (cp c39 16018) (act 64 [(0, x0), (1, x1), (6, x6), (7, x7), (8, x8)]) h K = F39_lrllrllrlrrrr inv k k x0 x1 x6 x7 x8 h (fun y0 y1 y6 y7 y8 y32 h => K (.exit 2) (act 64 [(0, y0), (1, y1), (6, y6), (7, y7), (8, y8), (32, y32)]) h) := kq_loop (F39_lrllrllrlrrrr_j k)
theorem r39_8  : kCode env 39 false inv k (cp c39 2003) (act 64 [(0, x0), (1, x1), (6, x6), (7, x7), (8, x8), (32, x32)]) h K =
    bnd (pBin Try.prog .add 3 (.tmp 28) (.const (.int .i64 1)) x7 (.int .i64 1)) fun x29 =>
    K .normal (act 64 [(0, x0), (1, x1), (6, x6), (7, x29)]) h := kq_reg
noncomputable def F39_lrlrrrr {β : Type} (inv : Inv) (k : Nat) : Nat → Value → Value → Value → Value → AH → (Value → Value → Value → Value → Value → AH → Option β) → Option β
  | 0, _, _, _, _, _, _ => none
  | j + 1, x0, x1, x6, x7, h, ke0 =>
    bnd (pLen Try.prog #[52] x0 h) fun x26 =>
    bnd (pBin Try.prog .lss 3 (.tmp 24) (.tmp 26) x7 x26) fun x27 =>
    brV x27
    (F39_lrllrllrlrrrr inv k k x0 x1 x6 x7 (.int .i64 0) h
    (fun y0 y1 y6 y7 y8 y32 h =>
    bnd (pBin Try.prog .add 3 (.tmp 28) (.const (.int .i64 1)) y7 (.int .i64 1)) fun x29 =>
    F39_lrlrrrr inv k j y0 y1 y6 x29 h ke0))
    (ke0 x0 x1 x6 x7 x27 h)
theorem F39_lrlrrrr_j (j : Nat) : kLoop (kCode env 39 false inv k (cp c39 500)) j (act 64 [(0, x0), (1, x1), (6, x6), (7, x7)]) h K = F39_lrlrrrr inv k j x0 x1 x6 x7 h (fun y0 y1 y6 y7 y27 h => K (.exit 0) (act 64 [(0, y0), (1, y1), (6, y6), (7, y7), (27, y27)]) h) := by
      induction j generalizing x0 x1 x6 x7 h with
      | zero => rfl
      | succ j ih =>
        unfold F39_lrlrrrr
        simp only [kLoop, kq_seq c39 500, kq_seq c39 1000, r39_7, b39_rlllrlrrrr, kq_skip c39 4002, kq_seq c39 1001, kq_block c39 2002 1, kq_seq c39 4004, r39_9, kq_block c39 8009 2, F39_lrllrllrlrrrr_eq, r39_8, kq_exit c39 4003 0, ih, reduceIte, reduceCtorEq, XE.exit.injEq, Nat.reduceEqDiff, Nat.reduceMul, Nat.reduceAdd] <;> kernel_rfl
theorem F39_lrlrrrr_eq  : kCode env 39 false inv k (cp c39 250) (act 64 [(0, x0), (1, x1), (6, x6), (7, x7)]) h K = F39_lrlrrrr inv k k x0 x1 x6 x7 h (fun y0 y1 y6 y7 y27 h => K (.exit 0) (act 64 [(0, y0), (1, y1), (6, y6), (7, y7), (27, y27)]) h) := kq_loop (F39_lrlrrrr_j k)
theorem r39_15  : kCode env 39 false inv k (cp c39 126) (act 64 [(0, x0), (1, x1), (6, x6), (7, x7), (27, x27)]) h K =
    K .normal (act 64 [(4, x6), (5, (.int .i64 0))]) h := kq_reg
/-- shadowbook/shadowbookref05.Put -/
noncomputable def F39 (inv : Inv) (k : Nat) (x0 x1 : Value) (h : AH) : Option (Value × AH) :=
    bnd (pLen Try.prog #[52] x0 h) fun x11 =>
    bnd (inv (.func 59) #[] #[x11, x1] h) fun x13 =>
    bnd (pUn Try.prog .not x13.1) fun x14 =>
    brV x14
    (some (.tuple #[(.slice none 0 0), (.int .i64 2)], x13.2))
    (bnd (inv (.func 60) #[] #[x0] x13.2) fun x16 =>
    bnd (pBin Try.prog .gtr 3 (.tmp 16) (.tmp 17) x16.1 x1) fun x18 =>
    brV x18
    (some (.tuple #[(.slice none 0 0), (.int .i64 3)], x16.2))
    (bnd (pLen Try.prog #[52] x0 x16.2) fun x20 =>
    bnd (inv (.func 45) #[] #[x20, x1] x16.2) fun x22 =>
    bnd (pMakeSlice Try.prog 32 x22.1 x22.1 x22.2) fun x23 =>
    F39_lrlrrrr inv k k x0 x1 x23.1 (.int .i64 0) x23.2
    (fun y0 y1 y6 y7 y27 h =>
    some (.tuple #[y6, (.int .i64 0)], h))))
theorem F39_eq : eFun env k inv 39 #[x0, x1] h = F39 inv k x0 x1 h := by
      refine (kq_fun (a := act 64 [(0, x0), (1, x1)]) (c := cp c39 1)).trans ?_
      unfold F39
      simp only [kq_seq c39 1, r39_0, kq_seq c39 3, kq_seq c39 6, r39_1, b39_rlr, kq_seq c39 26, r39_2, kq_ret c39 53, res39_0, kq_skip c39 27, kq_seq c39 7, kq_seq c39 14, r39_3, b39_rlrr, kq_seq c39 58, r39_4, kq_ret c39 117, kq_skip c39 59, kq_seq c39 15, r39_5, kq_seq c39 31, kq_seq c39 62, r39_6, kq_block c39 125 0, F39_lrlrrrr_eq, kq_seq c39 63, r39_15, kq_ret c39 127, reduceIte, reduceCtorEq, XE.exit.injEq, Nat.reduceEqDiff, Nat.reduceMul, Nat.reduceAdd] <;> kernel_rfl
theorem F39_call : eInv env (k + 1) (.func 39) #[] #[x0, x1] h = F39 (eInv env k) k x0 x1 h := kq_inv F39_eq
noncomputable def c40 : Code := codeOf Try.prog 40
theorem r40_0  : kCode env 40 false inv k (cp c40 2) (act 22 [(0, x0)]) h K =
    K .normal (act 22 [(0, x0)]) h := kq_reg
theorem r40_1  : kCode env 40 false inv k (cp c40 6) (act 22 [(0, x0)]) h K =
    bnd (pLen Try.prog #[22] x0 h) fun x6 =>
    bnd (pMakeSlice Try.prog 52 x6 x6 h) fun x7 =>
    K .normal (act 22 [(0, x0), (3, x7.1)]) x7.2 := kq_reg
theorem r40_2  : kCode env 40 false inv k (cp c40 28) (act 22 [(0, x0), (3, x3)]) h K =
    K .normal (act 22 [(0, x0), (3, x3), (4, (.int .i64 0))]) h := kq_reg
theorem r40_3  : kCode env 40 false inv k (cp c40 464) (act 22 [(0, x0), (3, x3), (4, x4)]) h K =
    bnd (pLen Try.prog #[22] x0 h) fun x10 =>
    bnd (pBin Try.prog .lss 3 (.tmp 8) (.tmp 10) x4 x10) fun x11 =>
    K .normal (act 22 [(0, x0), (3, x3), (4, x4), (11, x11)]) h := kq_reg
theorem b40_rlllrlrr  : kCode env 40 false inv k (cp c40 465) (act 22 [(0, x0), (3, x3), (4, x4), (11, x11)]) h K = brV x11 (kCode env 40 false inv k (cp c40 930) (act 22 [(0, x0), (3, x3), (4, x4), (11, x11)]) h K) (kCode env 40 false inv k (cp c40 931) (act 22 [(0, x0), (3, x3), (4, x4), (11, x11)]) h K) := kq_cond
theorem r40_5  : kCode env 40 false inv k (cp c40 1864) (act 22 [(0, x0), (3, x3), (4, x4), (11, x11)]) h K =
    bnd (pIndexAddr Try.prog 22 x0 x4) fun x16 =>
    bnd (pLoad Try.prog 4 x16 h) fun x17 =>
    K .normal (act 22 [(0, x0), (3, x3), (4, x4), (17, x17)]) h := kq_reg
theorem b40_rllrllrlrr  : kCode env 40 false inv k (cp c40 1865) (act 22 [(0, x0), (3, x3), (4, x4), (17, x17)]) h K = brV x17 (kCode env 40 false inv k (cp c40 3730) (act 22 [(0, x0), (3, x3), (4, x4), (17, x17)]) h K) (kCode env 40 false inv k (cp c40 3731) (act 22 [(0, x0), (3, x3), (4, x4), (17, x17)]) h K) := kq_cond
theorem r40_6  : kCode env 40 false inv k (cp c40 3730) (act 22 [(0, x0), (3, x3), (4, x4), (17, x17)]) h K =
    bnd (pIndexAddr Try.prog 52 x3 x4) fun x20 =>
    bnd (kSt (pStore Try.prog 49 x20 (.int .u64 1) h)) fun u =>
    K .normal (act 22 [(0, x0), (3, x3), (4, x4)]) u.2 := kq_reg
noncomputable def F40_lrllrlrr {β : Type} (inv : Inv) (k : Nat) (x0 x3 x4 x11 : Value) (h : AH) (kn : (Value → Value → Value → Value → AH → Option β)) : Option β :=
    bnd (pIndexAddr Try.prog 22 x0 x4) fun x16 =>
    bnd (pLoad Try.prog 4 x16 h) fun x17 =>
    brV x17
    (bnd (pIndexAddr Try.prog 52 x3 x4) fun x20 =>
    bnd (kSt (pStore Try.prog 49 x20 (.int .u64 1) h)) fun u =>
    kn x0 x3 x4 unk u.2)
    (kn x0 x3 x4 x17 h)
theorem F40_lrllrlrr_eq  : kCode env 40 false inv k (cp c40 466) (act 22 [(0, x0), (3, x3), (4, x4), (11, x11)]) h K = F40_lrllrlrr inv k x0 x3 x4 x11 h (fun y0 y3 y4 y17 h => K .normal (act 22 [(0, y0), (3, y3), (4, y4), (17, y17)]) h) := by
      unfold F40_lrllrlrr
      simp only [kq_block c40 466 1, kq_seq c40 932, r40_5, b40_rllrllrlrr, r40_6, kq_skip c40 3731, reduceIte, reduceCtorEq, XE.exit.injEq, Nat.reduceEqDiff, Nat.reduceMul, Nat.reduceAdd] <;> kernel_rfl
theorem r40_4  : kCode env 40 false inv k (cp c40 467) (act 22 [(0, x0), (3, x3), (4, x4), (17, x17)]) h K =
    bnd (pBin Try.prog .add 3 (.tmp 12) (.const (.int .i64 1)) x4 (.int .i64 1)) fun x13 =>
    K .normal (act 22 [(0, x0), (3, x3), (4, x13)]) h := kq_reg
noncomputable def F40_lrlrr {β : Type} (inv : Inv) (k : Nat) : Nat → Value → Value → Value → AH → (Value → Value → Value → Value → AH → Option β) → Option β
  | 0, _, _, _, _, _ => none
  | j + 1, x0, x3, x4, h, ke0 =>
    bnd (pLen Try.prog #[22] x0 h) fun x10 =>
    bnd (pBin Try.prog .lss 3 (.tmp 8) (.tmp 10) x4 x10) fun x11 =>
    brV x11
    (F40_lrllrlrr inv k x0 x3 x4 x11 h
    (fun y0 y3 y4 y17 h =>
    bnd (pBin Try.prog .add 3 (.tmp 12) (.const (.int .i64 1)) y4 (.int .i64 1)) fun x13 =>
    F40_lrlrr inv k j y0 y3 x13 h ke0))
    (ke0 x0 x3 x4 x11 h)
theorem F40_lrlrr_j (j : Nat) : kLoop (kCode env 40 false inv k (cp c40 116)) j (act 22 [(0, x0), (3, x3), (4, x4)]) h K = F40_lrlrr inv k j x0 x3 x4 h (fun y0 y3 y4 y11 h => K (.exit 0) (act 22 [(0, y0), (3, y3), (4, y4), (11, y11)]) h) := by
      induction j generalizing x0 x3 x4 h with
      | zero => rfl
      | succ j ih =>
        unfold F40_lrlrr
        simp only [kLoop, kq_seq c40 116, kq_seq c40 232, r40_3, b40_rlllrlrr, kq_skip c40 930, kq_seq c40 233, F40_lrllrlrr_eq, r40_4, kq_exit c40 931 0, ih, reduceIte, reduceCtorEq, XE.exit.injEq, Nat.reduceEqDiff, Nat.reduceMul, Nat.reduceAdd] <;> kernel_rfl
theorem F40_lrlrr_eq  : kCode env 40 false inv k (cp c40 58) (act 22 [(0, x0), (3, x3), (4, x4)]) h K = F40_lrlrr inv k k x0 x3 x4 h (fun y0 y3 y4 y11 h => K (.exit 0) (act 22 [(0, y0), (3, y3), (4, y4), (11, y11)]) h) := kq_loop (F40_lrlrr_j k)
theorem r40_7  : kCode env 40 false inv k (cp c40 30) (act 22 [(0, x0), (3, x3), (4, x4), (11, x11)]) h K =
    K .normal (act 22 [(2, x3)]) h := kq_reg
theorem res40_0 : resOfFn env.P 40 .ret (act 22 [(2, x2)]) h = some (x2, h) := kq_res
/-- shadowbook/shadowbookref08.numbers -/
noncomputable def F40 (inv : Inv) (k : Nat) (x0 : Value) (h : AH) : Option (Value × AH) :=
    bnd (pLen Try.prog #[22] x0 h) fun x6 =>
    bnd (pMakeSlice Try.prog 52 x6 x6 h) fun x7 =>
    F40_lrlrr inv k k x0 x7.1 (.int .i64 0) x7.2
    (fun y0 y3 y4 y11 h =>
    some (y3, h))
theorem F40_eq : eFun env k inv 40 #[x0] h = F40 inv k x0 h := by
      refine (kq_fun (a := act 22 [(0, x0)]) (c := cp c40 1)).trans ?_
      unfold F40
      simp only [kq_seq c40 1, r40_0, kq_seq c40 3, r40_1, kq_seq c40 7, kq_seq c40 14, r40_2, kq_block c40 29 0, F40_lrlrr_eq, kq_seq c40 15, r40_7, kq_ret c40 31, res40_0, reduceIte, reduceCtorEq, XE.exit.injEq, Nat.reduceEqDiff, Nat.reduceMul, Nat.reduceAdd] <;> kernel_rfl
theorem F40_call : eInv env (k + 1) (.func 40) #[] #[x0] h = F40 (eInv env k) k x0 h := kq_inv F40_eq
noncomputable def c41 : Code := codeOf Try.prog 41
theorem r41_0  : kCode env 41 false inv k (cp c41 2) (act 8 [(0, x0)]) h K =
    K .normal (act 8 [(0, x0)]) h := kq_reg
theorem r41_1  : kCode env 41 false inv k (cp c41 6) (act 8 [(0, x0)]) h K =
    bnd (pBuildSlice Try.prog 32 0 #[] h) fun x3 =>
    bnd (pAppend Try.prog #[32, 32] x3.1 x0 x3.2) fun x5 =>
    bnd (pBuild Try.prog 82 #[(0, x5.1)]) fun x6 =>
    bnd (pBox Try.prog 82 x6 x5.2) fun x7 =>
    K .normal (act 8 [(2, x7.1)]) x7.2 := kq_reg
theorem res41_0 : resOfFn env.P 41 .ret (act 8 [(2, x2)]) h = some (x2, h) := kq_res
/-- shadowbook/shadowbookref01.New -/
noncomputable def F41 (inv : Inv) (k : Nat) (x0 : Value) (h : AH) : Option (Value × AH) :=
    bnd (pBuildSlice Try.prog 32 0 #[] h) fun x3 =>
    bnd (pAppend Try.prog #[32, 32] x3.1 x0 x3.2) fun x5 =>
    bnd (pBuild Try.prog 82 #[(0, x5.1)]) fun x6 =>
    bnd (pBox Try.prog 82 x6 x5.2) fun x7 =>
    some (x7.1, x7.2)
theorem F41_eq : eFun env k inv 41 #[x0] h = F41 inv k x0 h := by
      refine (kq_fun (a := act 8 [(0, x0)]) (c := cp c41 1)).trans ?_
      unfold F41
      simp only [kq_seq c41 1, r41_0, kq_seq c41 3, r41_1, kq_ret c41 7, res41_0, reduceIte, reduceCtorEq, XE.exit.injEq, Nat.reduceEqDiff, Nat.reduceMul, Nat.reduceAdd] <;> kernel_rfl
theorem F41_call : eInv env (k + 1) (.func 41) #[] #[x0] h = F41 (eInv env k) k x0 h := kq_inv F41_eq
noncomputable def c42 : Code := codeOf Try.prog 42
theorem r42_0  : kCode env 42 false inv k (cp c42 2) (act 65 [(0, x0)]) h K =
    K .normal (act 65 [(0, x0)]) h := kq_reg
theorem r42_1  : kCode env 42 false inv k (cp c42 6) (act 65 [(0, x0)]) h K =
    K .normal (act 65 [(0, x0), (4, (.int .u64 0))]) h := kq_reg
theorem r42_2  : kCode env 42 false inv k (cp c42 28) (act 65 [(0, x0), (4, x4)]) h K =
    K .normal (act 65 [(0, x0), (4, x4), (5, (.int .i64 0))]) h := kq_reg
theorem r42_3  : kCode env 42 false inv k (cp c42 464) (act 65 [(0, x0), (4, x4), (5, x5)]) h K =
    bnd (pBin Try.prog .lss 3 (.tmp 7) (.const (.int .i64 10)) x5 (.int .i64 10)) fun x8 =>
    K .normal (act 65 [(0, x0), (4, x4), (5, x5), (8, x8)]) h := kq_reg
theorem b42_rlllrlrr  : kCode env 42 false inv k (cp c42 465) (act 65 [(0, x0), (4, x4), (5, x5), (8, x8)]) h K = brV x8 (kCode env 42 false inv k (cp c42 930) (act 65 [(0, x0), (4, x4), (5, x5), (8, x8)]) h K) (kCode env 42 false inv k (cp c42 931) (act 65 [(0, x0), (4, x4), (5, x5), (8, x8)]) h K) := kq_cond
theorem r42_5  : kCode env 42 false inv k (cp c42 3728) (act 65 [(0, x0), (4, x4), (5, x5), (8, x8)]) h K =
    bnd (pNilCheck x0) fun x13 =>
    bnd (pFieldAddr Try.prog 82 x13 0) fun x14 =>
    bnd (pLoad Try.prog 32 x14 h) fun x15 =>
    bnd (pLen Try.prog #[32] x15 h) fun x16 =>
    bnd (pBin Try.prog .geq 3 (.tmp 11) (.tmp 16) x5 x16) fun x17 =>
    K .normal (act 65 [(0, x0), (4, x4), (5, x5), (17, x17)]) h := kq_reg
theorem b42_rlllrllrlrr  : kCode env 42 false inv k (cp c42 3729) (act 65 [(0, x0), (4, x4), (5, x5), (17, x17)]) h K = brV x17 (kCode env 42 false inv k (cp c42 7458) (act 65 [(0, x0), (4, x4), (5, x5), (17, x17)]) h K) (kCode env 42 false inv k (cp c42 7459) (act 65 [(0, x0), (4, x4), (5, x5), (17, x17)]) h K) := kq_cond
theorem r42_6  : kCode env 42 false inv k (cp c42 14916) (act 65 [(0, x0), (4, x4), (5, x5), (17, x17)]) h K =
    K .normal (act 65 [(2, (.int .u64 0)), (3, (.int .i64 7))]) h := kq_reg
theorem r42_7  : kCode env 42 false inv k (cp c42 3730) (act 65 [(0, x0), (4, x4), (5, x5), (17, x17)]) h K =
    bnd (pNilCheck x0) fun x19 =>
    bnd (pFieldAddr Try.prog 82 x19 0) fun x20 =>
    bnd (pLoad Try.prog 32 x20 h) fun x21 =>
    bnd (pIndexAddr Try.prog 32 x21 x5) fun x23 =>
    bnd (pLoad Try.prog 5 x23 h) fun x24 =>
    bnd (pBin Try.prog .and 5 (.tmp 24) (.const (.int .u8 127)) x24 (.int .u8 127)) fun x25 =>
    bnd (pConv Try.prog 5 49 x25 h) fun x26 =>
    K .normal (act 65 [(0, x0), (4, x4), (5, x5), (6, x26)]) h := kq_reg
noncomputable abbrev G42_8 {β : Type} (inv : Inv) (x0 x4 x5 x6 : Value) (h : AH) (K : Value → AH → Option β) : Option β :=
    bnd (pBin Try.prog .eql 3 (.tmp 27) (.const (.int .i64 9)) x5 (.int .i64 9)) fun x28 =>
    bnd (gd (some x28) true h (some (x6, h))) fun x30 =>
    bnd (gd (some x28) true x30.2 (lt (pBin Try.prog .gtr 49 (.tmp 30) (.const (.int .u64 1)) x30.1 (.int .u64 1)) x30.2)) fun x31 =>
    bnd (pickV x28 x31.1 (.bool false)) fun x32 =>
    K (x32) x31.2
theorem r42_8  : kCode env 42 false inv k (cp c42 14924) (act 65 [(0, x0), (4, x4), (5, x5), (6, x6)]) h K =
    G42_8 inv x0 x4 x5 x6 h fun y32 h => K .normal (act 65 [(0, x0), (4, x4), (5, x5), (6, x6), (32, y32)]) h := kq_reg
theorem b42_rlrrllrllrlrr  : kCode env 42 false inv k (cp c42 14925) (act 65 [(0, x0), (4, x4), (5, x5), (6, x6), (32, x32)]) h K = brV x32 (kCode env 42 false inv k (cp c42 29850) (act 65 [(0, x0), (4, x4), (5, x5), (6, x6), (32, x32)]) h K) (kCode env 42 false inv k (cp c42 29851) (act 65 [(0, x0), (4, x4), (5, x5), (6, x6), (32, x32)]) h K) := kq_cond
theorem r42_9  : kCode env 42 false inv k (cp c42 59700) (act 65 [(0, x0), (4, x4), (5, x5), (6, x6), (32, x32)]) h K =
    K .normal (act 65 [(2, (.int .u64 0)), (3, (.int .i64 4))]) h := kq_reg
theorem r42_10  : kCode env 42 false inv k (cp c42 14926) (act 65 [(0, x0), (4, x4), (5, x5), (6, x6), (32, x32)]) h K =
    bnd (pBin Try.prog .mul 3 (.const (.int .i64 7)) (.tmp 35) (.int .i64 7) x5) fun x36 =>
    bnd (pConv Try.prog 3 68 x36 h) fun x37 =>
    bnd (pBin Try.prog .shl 49 (.tmp 34) (.tmp 37) x6 x37) fun x38 =>
    bnd (pBin Try.prog .or 49 (.tmp 33) (.tmp 38) x4 x38) fun x39 =>
    K .normal (act 65 [(0, x0), (4, x39), (5, x5), (6, x6)]) h := kq_reg
theorem r42_11  : kCode env 42 false inv k (cp c42 29854) (act 65 [(0, x0), (4, x4), (5, x5), (6, x6)]) h K =
    bnd (pNilCheck x0) fun x41 =>
    bnd (pFieldAddr Try.prog 82 x41 0) fun x42 =>
    bnd (pLoad Try.prog 32 x42 h) fun x43 =>
    bnd (pIndexAddr Try.prog 32 x43 x5) fun x45 =>
    bnd (pLoad Try.prog 5 x45 h) fun x46 =>
    bnd (pBin Try.prog .lss 5 (.tmp 46) (.const (.int .u8 128)) x46 (.int .u8 128)) fun x47 =>
    K .normal (act 65 [(0, x0), (4, x4), (5, x5), (6, x6), (47, x47)]) h := kq_reg
theorem b42_rrrrrllrllrlrr  : kCode env 42 false inv k (cp c42 29855) (act 65 [(0, x0), (4, x4), (5, x5), (6, x6), (47, x47)]) h K = brV x47 (kCode env 42 false inv k (cp c42 59710) (act 65 [(0, x0), (4, x4), (5, x5), (6, x6), (47, x47)]) h K) (kCode env 42 false inv k (cp c42 59711) (act 65 [(0, x0), (4, x4), (5, x5), (6, x6), (47, x47)]) h K) := kq_cond
noncomputable abbrev G42_12 {β : Type} (inv : Inv) (x0 x4 x5 x6 : Value) (h : AH) (K : Value → AH → Option β) : Option β :=
    bnd (pBin Try.prog .eql 49 (.tmp 48) (.const (.int .u64 0)) x6 (.int .u64 0)) fun x49 =>
    bnd (gd (some x49) true h (some (x5, h))) fun x51 =>
    bnd (gd (some x49) true x51.2 (lt (pBin Try.prog .gtr 3 (.tmp 51) (.const (.int .i64 0)) x51.1 (.int .i64 0)) x51.2)) fun x52 =>
    bnd (pickV x49 x52.1 (.bool false)) fun x53 =>
    K (x53) x52.2
theorem r42_12  : kCode env 42 false inv k (cp c42 238840) (act 65 [(0, x0), (4, x4), (5, x5), (6, x6), (47, x47)]) h K =
    G42_12 inv x0 x4 x5 x6 h fun y53 h => K .normal (act 65 [(0, x0), (4, x4), (5, x5), (53, y53)]) h := kq_reg
theorem b42_rllrrrrrllrllrlrr  : kCode env 42 false inv k (cp c42 238841) (act 65 [(0, x0), (4, x4), (5, x5), (53, x53)]) h K = brV x53 (kCode env 42 false inv k (cp c42 477682) (act 65 [(0, x0), (4, x4), (5, x5), (53, x53)]) h K) (kCode env 42 false inv k (cp c42 477683) (act 65 [(0, x0), (4, x4), (5, x5), (53, x53)]) h K) := kq_cond
theorem r42_13  : kCode env 42 false inv k (cp c42 955364) (act 65 [(0, x0), (4, x4), (5, x5), (53, x53)]) h K =
    K .normal (act 65 [(2, (.int .u64 0)), (3, (.int .i64 4))]) h := kq_reg
noncomputable abbrev G42_14 {β : Type} (inv : Inv) (x0 x4 x5 : Value) (h : AH) (K : AH → Option β) : Option β :=
    bnd (pNilCheck x0) fun x56 =>
    bnd (pFieldAddr Try.prog 82 x56 0) fun x57 =>
    bnd (pLoad Try.prog 32 x57 h) fun x58 =>
    bnd (pBin Try.prog .add 3 (.tmp 59) (.const (.int .i64 1)) x5 (.int .i64 1)) fun x60 =>
    bnd (pSlice Try.prog 32 x58 (some x60) none none h) fun x61 =>
    bnd (pNilCheck x0) fun x62 =>
    bnd (pFieldAddr Try.prog 82 x62 0) fun x63 =>
    bnd (kSt (pStore Try.prog 32 x63 x61 h)) fun u =>
    K u.2
theorem r42_14  : kCode env 42 false inv k (cp c42 238842) (act 65 [(0, x0), (4, x4), (5, x5), (53, x53)]) h K =
    G42_14 inv x0 x4 x5 h fun  h => K .normal (act 65 [(4, x4)]) h := kq_reg
theorem r42_15  : kCode env 42 false inv k (cp c42 477686) (act 65 [(4, x4)]) h K =
    K .normal (act 65 [(2, x4), (3, (.int .i64 0))]) h := kq_reg
theorem r42_4  : kCode env 42 false inv k (cp c42 467) (act 65 [(0, x0), (4, x4), (5, x5), (6, x6), (47, x47)]) h K =
    bnd (pBin Try.prog .add 3 (.tmp 9) (.const (.int .i64 1)) x5 (.int .i64 1)) fun x10 =>
    K .normal (act 65 [(0, x0), (4, x4), (5, x10)]) h := kq_reg
noncomputable def F42_lrlrr {β : Type} (inv : Inv) (k : Nat) : Nat → Value → Value → Value → AH → (Value → Value → Value → Value → AH → Option β) → (Value → Value → AH → Option β) → Option β
  | 0, _, _, _, _, _, _ => none
  | j + 1, x0, x4, x5, h, ke0, kr =>
    bnd (pBin Try.prog .lss 3 (.tmp 7) (.const (.int .i64 10)) x5 (.int .i64 10)) fun x8 =>
    brV x8
    (bnd (pNilCheck x0) fun x13 =>
    bnd (pFieldAddr Try.prog 82 x13 0) fun x14 =>
    bnd (pLoad Try.prog 32 x14 h) fun x15 =>
    bnd (pLen Try.prog #[32] x15 h) fun x16 =>
    bnd (pBin Try.prog .geq 3 (.tmp 11) (.tmp 16) x5 x16) fun x17 =>
    brV x17
    (kr (.int .u64 0) (.int .i64 7) h)
    (bnd (pNilCheck x0) fun x19 =>
    bnd (pFieldAddr Try.prog 82 x19 0) fun x20 =>
    bnd (pLoad Try.prog 32 x20 h) fun x21 =>
    bnd (pIndexAddr Try.prog 32 x21 x5) fun x23 =>
    bnd (pLoad Try.prog 5 x23 h) fun x24 =>
    bnd (pBin Try.prog .and 5 (.tmp 24) (.const (.int .u8 127)) x24 (.int .u8 127)) fun x25 =>
    bnd (pConv Try.prog 5 49 x25 h) fun x26 =>
    G42_8 inv x0 x4 x5 x26 h fun y32 h =>
    brV y32
    (kr (.int .u64 0) (.int .i64 4) h)
    (bnd (pBin Try.prog .mul 3 (.const (.int .i64 7)) (.tmp 35) (.int .i64 7) x5) fun x36 =>
    bnd (pConv Try.prog 3 68 x36 h) fun x37 =>
    bnd (pBin Try.prog .shl 49 (.tmp 34) (.tmp 37) x26 x37) fun x38 =>
    bnd (pBin Try.prog .or 49 (.tmp 33) (.tmp 38) x4 x38) fun x39 =>
    bnd (pNilCheck x0) fun x41 =>
    bnd (pFieldAddr Try.prog 82 x41 0) fun x42 =>
    bnd (pLoad Try.prog 32 x42 h) fun x43 =>
    bnd (pIndexAddr Try.prog 32 x43 x5) fun x45 =>
    bnd (pLoad Try.prog 5 x45 h) fun x46 =>
    bnd (pBin Try.prog .lss 5 (.tmp 46) (.const (.int .u8 128)) x46 (.int .u8 128)) fun x47 =>
    brV x47
    (G42_12 inv x0 x39 x5 x26 h fun y53 h_1 =>
    brV y53
    (kr (.int .u64 0) (.int .i64 4) h_1)
    (G42_14 inv x0 x39 x5 h_1 fun  h_2 =>
    kr x39 (.int .i64 0) h_2))
    (bnd (pBin Try.prog .add 3 (.tmp 9) (.const (.int .i64 1)) x5 (.int .i64 1)) fun x10 =>
    F42_lrlrr inv k j x0 x39 x10 h ke0 kr))))
    (ke0 x0 x4 x5 x8 h)
theorem F42_lrlrr_j (j : Nat) : kLoop (kCode env 42 false inv k (cp c42 116)) j (act 65 [(0, x0), (4, x4), (5, x5)]) h K = F42_lrlrr inv k j x0 x4 x5 h (fun y0 y4 y5 y8 h => K (.exit 0) (act 65 [(0, y0), (4, y4), (5, y5), (8, y8)]) h) (fun y2 y3 h => K .ret (act 65 [(2, y2), (3, y3)]) h) := by
      induction j generalizing x0 x4 x5 h with
      | zero => rfl
      | succ j ih =>
        unfold F42_lrlrr
        simp only [kLoop, kq_seq c42 116, kq_seq c42 232, r42_3, b42_rlllrlrr, kq_skip c42 930, kq_seq c42 233, kq_block c42 466 1, kq_seq c42 932, kq_seq c42 1864, r42_5, b42_rlllrllrlrr, kq_seq c42 7458, r42_6, kq_ret c42 14917, kq_skip c42 7459, kq_seq c42 1865, r42_7, kq_seq c42 3731, kq_seq c42 7462, r42_8, b42_rlrrllrllrlrr, kq_seq c42 29850, r42_9, kq_ret c42 59701, kq_skip c42 29851, kq_seq c42 7463, r42_10, kq_seq c42 14927, r42_11, b42_rrrrrllrllrlrr, kq_seq c42 59710, kq_seq c42 119420, r42_12, b42_rllrrrrrllrllrlrr, kq_seq c42 477682, r42_13, kq_ret c42 955365, kq_skip c42 477683, kq_seq c42 119421, r42_14, kq_seq c42 238843, r42_15, kq_ret c42 477687, kq_skip c42 59711, r42_4, kq_exit c42 931 0, ih, reduceIte, reduceCtorEq, XE.exit.injEq, Nat.reduceEqDiff, Nat.reduceMul, Nat.reduceAdd] <;> kernel_rfl
theorem F42_lrlrr_eq  : kCode env 42 false inv k (cp c42 58) (act 65 [(0, x0), (4, x4), (5, x5)]) h K = F42_lrlrr inv k k x0 x4 x5 h (fun y0 y4 y5 y8 h => K (.exit 0) (act 65 [(0, y0), (4, y4), (5, y5), (8, y8)]) h) (fun y2 y3 h => K .ret (act 65 [(2, y2), (3, y3)]) h) := kq_loop (F42_lrlrr_j k)
theorem r42_16  : kCode env 42 false inv k (cp c42 30) (act 65 [(0, x0), (4, x4), (5, x5), (8, x8)]) h K =
    K .normal (act 65 [(2, (.int .u64 0)), (3, (.int .i64 4))]) h := kq_reg
theorem res42_0 : resOfFn env.P 42 .ret (act 65 [(2, x2), (3, x3)]) h = some (.tuple #[x2, x3], h) := kq_res
/-- (*shadowbook/shadowbookref01.Reader).Var -/
noncomputable def F42 (inv : Inv) (k : Nat) (x0 : Value) (h : AH) : Option (Value × AH) :=
    F42_lrlrr inv k k x0 (.int .u64 0) (.int .i64 0) h
    (fun y0 y4 y5 y8 h =>
    some (.tuple #[(.int .u64 0), (.int .i64 4)], h))
    (fun y2 y3 h_3 =>
    some (.tuple #[y2, y3], h_3))
theorem F42_eq : eFun env k inv 42 #[x0] h = F42 inv k x0 h := by
      refine (kq_fun (a := act 65 [(0, x0)]) (c := cp c42 1)).trans ?_
      unfold F42
      simp only [kq_seq c42 1, r42_0, kq_seq c42 3, r42_1, kq_seq c42 7, kq_seq c42 14, r42_2, kq_block c42 29 0, F42_lrlrr_eq, kq_seq c42 15, r42_16, kq_ret c42 31, res42_0, reduceIte, reduceCtorEq, XE.exit.injEq, Nat.reduceEqDiff, Nat.reduceMul, Nat.reduceAdd] <;> kernel_rfl
theorem F42_call : eInv env (k + 1) (.func 42) #[] #[x0] h = F42 (eInv env k) k x0 h := kq_inv F42_eq
noncomputable def c43 : Code := codeOf Try.prog 43
theorem r43_0  : kCode env 43 false inv k (cp c43 2) (act 37 [(0, x0), (1, x1)]) h K =
    K .normal (act 37 [(0, x0), (1, x1)]) h := kq_reg
noncomputable abbrev G43_1 {β : Type} (inv : Inv) (x0 x1 : Value) (h : AH) (K : Value → AH → Option β) : Option β :=
    bnd (pBin Try.prog .lss 3 (.tmp 7) (.const (.int .i64 1)) x1 (.int .i64 1)) fun x8 =>
    bnd (gd (some x8) false h (some (x1, h))) fun x10 =>
    bnd (gd (some x8) false x10.2 (lt (pBin Try.prog .gtr 3 (.tmp 10) (.const (.int .i64 8)) x10.1 (.int .i64 8)) x10.2)) fun x11 =>
    bnd (pickV x8 (.bool true) x11.1) fun x12 =>
    K (x12) x11.2
theorem r43_1  : kCode env 43 false inv k (cp c43 12) (act 37 [(0, x0), (1, x1)]) h K =
    G43_1 inv x0 x1 h fun y12 h => K .normal (act 37 [(0, x0), (1, x1), (12, y12)]) h := kq_reg
theorem b43_rlr  : kCode env 43 false inv k (cp c43 13) (act 37 [(0, x0), (1, x1), (12, x12)]) h K = brV x12 (kCode env 43 false inv k (cp c43 26) (act 37 [(0, x0), (1, x1), (12, x12)]) h K) (kCode env 43 false inv k (cp c43 27) (act 37 [(0, x0), (1, x1), (12, x12)]) h K) := kq_cond
theorem r43_2  : kCode env 43 false inv k (cp c43 52) (act 37 [(0, x0), (1, x1), (12, x12)]) h K =
    K .normal (act 37 [(4, (.int .u64 0)), (5, (.int .i64 2))]) h := kq_reg
theorem res43_0 : resOfFn env.P 43 .ret (act 37 [(4, x4), (5, x5)]) h = some (.tuple #[x4, x5], h) := kq_res
theorem r43_3  : kCode env 43 false inv k (cp c43 28) (act 37 [(0, x0), (1, x1), (12, x12)]) h K =
    bnd (pNilCheck x0) fun x14 =>
    bnd (pFieldAddr Try.prog 82 x14 0) fun x15 =>
    bnd (pLoad Try.prog 32 x15 h) fun x16 =>
    bnd (pLen Try.prog #[32] x16 h) fun x17 =>
    bnd (pBin Try.prog .lss 3 (.tmp 17) (.tmp 18) x17 x1) fun x19 =>
    K .normal (act 37 [(0, x0), (1, x1), (19, x19)]) h := kq_reg
theorem b43_rlrr  : kCode env 43 false inv k (cp c43 29) (act 37 [(0, x0), (1, x1), (19, x19)]) h K = brV x19 (kCode env 43 false inv k (cp c43 58) (act 37 [(0, x0), (1, x1), (19, x19)]) h K) (kCode env 43 false inv k (cp c43 59) (act 37 [(0, x0), (1, x1), (19, x19)]) h K) := kq_cond
theorem r43_4  : kCode env 43 false inv k (cp c43 116) (act 37 [(0, x0), (1, x1), (19, x19)]) h K =
    K .normal (act 37 [(4, (.int .u64 0)), (5, (.int .i64 7))]) h := kq_reg
theorem r43_5  : kCode env 43 false inv k (cp c43 30) (act 37 [(0, x0), (1, x1), (19, x19)]) h K =
    bnd (pNilCheck x0) fun x21 =>
    bnd (pFieldAddr Try.prog 82 x21 0) fun x22 =>
    bnd (pLoad Try.prog 32 x22 h) fun x23 =>
    bnd (pSlice Try.prog 32 x23 none (some x1) none h) fun x25 =>
    bnd (inv (.func 61) #[] #[x25] h) fun x26 =>
    K .normal (act 37 [(0, x0), (1, x1), (6, x26.1)]) x26.2 := kq_reg
theorem r43_6  : kCode env 43 false inv k (cp c43 62) (act 37 [(0, x0), (1, x1), (6, x6)]) h K =
    bnd (pNilCheck x0) fun x29 =>
    bnd (pFieldAddr Try.prog 82 x29 0) fun x30 =>
    bnd (pLoad Try.prog 32 x30 h) fun x31 =>
    bnd (pSlice Try.prog 32 x31 (some x1) none none h) fun x33 =>
    bnd (pNilCheck x0) fun x34 =>
    bnd (pFieldAddr Try.prog 82 x34 0) fun x35 =>
    bnd (kSt (pStore Try.prog 32 x35 x33 h)) fun u =>
    K .normal (act 37 [(6, x6)]) u.2 := kq_reg
theorem r43_7  : kCode env 43 false inv k (cp c43 126) (act 37 [(6, x6)]) h K =
    K .normal (act 37 [(4, x6), (5, (.int .i64 0))]) h := kq_reg
/-- (*shadowbook/shadowbookref01.Reader).Number -/
noncomputable def F43 (inv : Inv) (k : Nat) (x0 x1 : Value) (h : AH) : Option (Value × AH) :=
    G43_1 inv x0 x1 h fun y12 h =>
    brV y12
    (some (.tuple #[(.int .u64 0), (.int .i64 2)], h))
    (bnd (pNilCheck x0) fun x14 =>
    bnd (pFieldAddr Try.prog 82 x14 0) fun x15 =>
    bnd (pLoad Try.prog 32 x15 h) fun x16 =>
    bnd (pLen Try.prog #[32] x16 h) fun x17 =>
    bnd (pBin Try.prog .lss 3 (.tmp 17) (.tmp 18) x17 x1) fun x19 =>
    brV x19
    (some (.tuple #[(.int .u64 0), (.int .i64 7)], h))
    (bnd (pNilCheck x0) fun x21 =>
    bnd (pFieldAddr Try.prog 82 x21 0) fun x22 =>
    bnd (pLoad Try.prog 32 x22 h) fun x23 =>
    bnd (pSlice Try.prog 32 x23 none (some x1) none h) fun x25 =>
    bnd (inv (.func 61) #[] #[x25] h) fun x26 =>
    bnd (pNilCheck x0) fun x29 =>
    bnd (pFieldAddr Try.prog 82 x29 0) fun x30 =>
    bnd (pLoad Try.prog 32 x30 x26.2) fun x31 =>
    bnd (pSlice Try.prog 32 x31 (some x1) none none x26.2) fun x33 =>
    bnd (pNilCheck x0) fun x34 =>
    bnd (pFieldAddr Try.prog 82 x34 0) fun x35 =>
    bnd (kSt (pStore Try.prog 32 x35 x33 x26.2)) fun u =>
    some (.tuple #[x26.1, (.int .i64 0)], u.2)))
theorem F43_eq : eFun env k inv 43 #[x0, x1] h = F43 inv k x0 x1 h := by
      refine (kq_fun (a := act 37 [(0, x0), (1, x1)]) (c := cp c43 1)).trans ?_
      unfold F43
      simp only [kq_seq c43 1, r43_0, kq_seq c43 3, kq_seq c43 6, r43_1, b43_rlr, kq_seq c43 26, r43_2, kq_ret c43 53, res43_0, kq_skip c43 27, kq_seq c43 7, kq_seq c43 14, r43_3, b43_rlrr, kq_seq c43 58, r43_4, kq_ret c43 117, kq_skip c43 59, kq_seq c43 15, r43_5, kq_seq c43 31, r43_6, kq_seq c43 63, r43_7, kq_ret c43 127, reduceIte, reduceCtorEq, XE.exit.injEq, Nat.reduceEqDiff, Nat.reduceMul, Nat.reduceAdd] <;> kernel_rfl
theorem F43_call : eInv env (k + 1) (.func 43) #[] #[x0, x1] h = F43 (eInv env k) k x0 x1 h := kq_inv F43_eq
noncomputable def c44 : Code := codeOf Try.prog 44
theorem r44_0  : kCode env 44 false inv k (cp c44 2) (act 34 [(0, x0), (1, x1)]) h K =
    K .normal (act 34 [(0, x0), (1, x1)]) h := kq_reg
theorem r44_1  : kCode env 44 false inv k (cp c44 12) (act 34 [(0, x0), (1, x1)]) h K =
    bnd (pBin Try.prog .lss 3 (.tmp 7) (.const (.int .i64 0)) x1 (.int .i64 0)) fun x8 =>
    K .normal (act 34 [(0, x0), (1, x1), (8, x8)]) h := kq_reg
theorem b44_rlr  : kCode env 44 false inv k (cp c44 13) (act 34 [(0, x0), (1, x1), (8, x8)]) h K = brV x8 (kCode env 44 false inv k (cp c44 26) (act 34 [(0, x0), (1, x1), (8, x8)]) h K) (kCode env 44 false inv k (cp c44 27) (act 34 [(0, x0), (1, x1), (8, x8)]) h K) := kq_cond
theorem r44_2  : kCode env 44 false inv k (cp c44 52) (act 34 [(0, x0), (1, x1), (8, x8)]) h K =
    K .normal (act 34 [(4, (.slice none 0 0)), (5, (.int .i64 2))]) h := kq_reg
theorem res44_0 : resOfFn env.P 44 .ret (act 34 [(4, x4), (5, x5)]) h = some (.tuple #[x4, x5], h) := kq_res
theorem r44_3  : kCode env 44 false inv k (cp c44 28) (act 34 [(0, x0), (1, x1), (8, x8)]) h K =
    bnd (pNilCheck x0) fun x10 =>
    bnd (pFieldAddr Try.prog 82 x10 0) fun x11 =>
    bnd (pLoad Try.prog 32 x11 h) fun x12 =>
    bnd (pLen Try.prog #[32] x12 h) fun x13 =>
    bnd (pBin Try.prog .lss 3 (.tmp 13) (.tmp 14) x13 x1) fun x15 =>
    K .normal (act 34 [(0, x0), (1, x1), (15, x15)]) h := kq_reg
theorem b44_rlrr  : kCode env 44 false inv k (cp c44 29) (act 34 [(0, x0), (1, x1), (15, x15)]) h K = brV x15 (kCode env 44 false inv k (cp c44 58) (act 34 [(0, x0), (1, x1), (15, x15)]) h K) (kCode env 44 false inv k (cp c44 59) (act 34 [(0, x0), (1, x1), (15, x15)]) h K) := kq_cond
theorem r44_4  : kCode env 44 false inv k (cp c44 116) (act 34 [(0, x0), (1, x1), (15, x15)]) h K =
    K .normal (act 34 [(4, (.slice none 0 0)), (5, (.int .i64 7))]) h := kq_reg
theorem r44_5  : kCode env 44 false inv k (cp c44 30) (act 34 [(0, x0), (1, x1), (15, x15)]) h K =
    bnd (pBuildSlice Try.prog 32 0 #[] h) fun x16 =>
    bnd (pNilCheck x0) fun x18 =>
    bnd (pFieldAddr Try.prog 82 x18 0) fun x19 =>
    bnd (pLoad Try.prog 32 x19 x16.2) fun x20 =>
    bnd (pSlice Try.prog 32 x20 none (some x1) none x16.2) fun x22 =>
    bnd (pAppend Try.prog #[32, 32] x16.1 x22 x16.2) fun x23 =>
    K .normal (act 34 [(0, x0), (1, x1), (6, x23.1)]) x23.2 := kq_reg
theorem r44_6  : kCode env 44 false inv k (cp c44 62) (act 34 [(0, x0), (1, x1), (6, x6)]) h K =
    bnd (pNilCheck x0) fun x26 =>
    bnd (pFieldAddr Try.prog 82 x26 0) fun x27 =>
    bnd (pLoad Try.prog 32 x27 h) fun x28 =>
    bnd (pSlice Try.prog 32 x28 (some x1) none none h) fun x30 =>
    bnd (pNilCheck x0) fun x31 =>
    bnd (pFieldAddr Try.prog 82 x31 0) fun x32 =>
    bnd (kSt (pStore Try.prog 32 x32 x30 h)) fun u =>
    K .normal (act 34 [(6, x6)]) u.2 := kq_reg
theorem r44_7  : kCode env 44 false inv k (cp c44 126) (act 34 [(6, x6)]) h K =
    K .normal (act 34 [(4, x6), (5, (.int .i64 0))]) h := kq_reg
/-- (*shadowbook/shadowbookref01.Reader).Bytes -/
noncomputable def F44 (inv : Inv) (k : Nat) (x0 x1 : Value) (h : AH) : Option (Value × AH) :=
    bnd (pBin Try.prog .lss 3 (.tmp 7) (.const (.int .i64 0)) x1 (.int .i64 0)) fun x8 =>
    brV x8
    (some (.tuple #[(.slice none 0 0), (.int .i64 2)], h))
    (bnd (pNilCheck x0) fun x10 =>
    bnd (pFieldAddr Try.prog 82 x10 0) fun x11 =>
    bnd (pLoad Try.prog 32 x11 h) fun x12 =>
    bnd (pLen Try.prog #[32] x12 h) fun x13 =>
    bnd (pBin Try.prog .lss 3 (.tmp 13) (.tmp 14) x13 x1) fun x15 =>
    brV x15
    (some (.tuple #[(.slice none 0 0), (.int .i64 7)], h))
    (bnd (pBuildSlice Try.prog 32 0 #[] h) fun x16 =>
    bnd (pNilCheck x0) fun x18 =>
    bnd (pFieldAddr Try.prog 82 x18 0) fun x19 =>
    bnd (pLoad Try.prog 32 x19 x16.2) fun x20 =>
    bnd (pSlice Try.prog 32 x20 none (some x1) none x16.2) fun x22 =>
    bnd (pAppend Try.prog #[32, 32] x16.1 x22 x16.2) fun x23 =>
    bnd (pNilCheck x0) fun x26 =>
    bnd (pFieldAddr Try.prog 82 x26 0) fun x27 =>
    bnd (pLoad Try.prog 32 x27 x23.2) fun x28 =>
    bnd (pSlice Try.prog 32 x28 (some x1) none none x23.2) fun x30 =>
    bnd (pNilCheck x0) fun x31 =>
    bnd (pFieldAddr Try.prog 82 x31 0) fun x32 =>
    bnd (kSt (pStore Try.prog 32 x32 x30 x23.2)) fun u =>
    some (.tuple #[x23.1, (.int .i64 0)], u.2)))
theorem F44_eq : eFun env k inv 44 #[x0, x1] h = F44 inv k x0 x1 h := by
      refine (kq_fun (a := act 34 [(0, x0), (1, x1)]) (c := cp c44 1)).trans ?_
      unfold F44
      simp only [kq_seq c44 1, r44_0, kq_seq c44 3, kq_seq c44 6, r44_1, b44_rlr, kq_seq c44 26, r44_2, kq_ret c44 53, res44_0, kq_skip c44 27, kq_seq c44 7, kq_seq c44 14, r44_3, b44_rlrr, kq_seq c44 58, r44_4, kq_ret c44 117, kq_skip c44 59, kq_seq c44 15, r44_5, kq_seq c44 31, r44_6, kq_seq c44 63, r44_7, kq_ret c44 127, reduceIte, reduceCtorEq, XE.exit.injEq, Nat.reduceEqDiff, Nat.reduceMul, Nat.reduceAdd] <;> kernel_rfl
theorem F44_call : eInv env (k + 1) (.func 44) #[] #[x0, x1] h = F44 (eInv env k) k x0 x1 h := kq_inv F44_eq
noncomputable def c45 : Code := codeOf Try.prog 45
theorem r45_0  : kCode env 45 false inv k (cp c45 2) (act 14 [(0, x0), (1, x1)]) h K =
    K .normal (act 14 [(0, x0), (1, x1)]) h := kq_reg
theorem r45_1  : kCode env 45 false inv k (cp c45 12) (act 14 [(0, x0), (1, x1)]) h K =
    bnd (inv (.func 59) #[] #[x0, x1] h) fun x7 =>
    bnd (pUn Try.prog .not x7.1) fun x8 =>
    K .normal (act 14 [(0, x0), (1, x1), (8, x8)]) x7.2 := kq_reg
theorem b45_rlr  : kCode env 45 false inv k (cp c45 13) (act 14 [(0, x0), (1, x1), (8, x8)]) h K = brV x8 (kCode env 45 false inv k (cp c45 26) (act 14 [(0, x0), (1, x1), (8, x8)]) h K) (kCode env 45 false inv k (cp c45 27) (act 14 [(0, x0), (1, x1), (8, x8)]) h K) := kq_cond
theorem r45_2  : kCode env 45 false inv k (cp c45 52) (act 14 [(0, x0), (1, x1), (8, x8)]) h K =
    K .normal (act 14 [(4, (.int .i64 0))]) h := kq_reg
theorem res45_0 : resOfFn env.P 45 .ret (act 14 [(4, x4)]) h = some (x4, h) := kq_res
theorem r45_3  : kCode env 45 false inv k (cp c45 14) (act 14 [(0, x0), (1, x1), (8, x8)]) h K =
    bnd (pBin Try.prog .mul 3 (.tmp 9) (.tmp 10) x0 x1) fun x11 =>
    bnd (pBin Try.prog .add 3 (.tmp 11) (.const (.int .i64 7)) x11 (.int .i64 7)) fun x12 =>
    bnd (pBin Try.prog .quo 3 (.tmp 12) (.const (.int .i64 8)) x12 (.int .i64 8)) fun x13 =>
    K .normal (act 14 [(4, x13)]) h := kq_reg
/-- shadowbook/shadowbookref05.Size -/
noncomputable def F45 (inv : Inv) (k : Nat) (x0 x1 : Value) (h : AH) : Option (Value × AH) :=
    bnd (inv (.func 59) #[] #[x0, x1] h) fun x7 =>
    bnd (pUn Try.prog .not x7.1) fun x8 =>
    brV x8
    (some ((.int .i64 0), x7.2))
    (bnd (pBin Try.prog .mul 3 (.tmp 9) (.tmp 10) x0 x1) fun x11 =>
    bnd (pBin Try.prog .add 3 (.tmp 11) (.const (.int .i64 7)) x11 (.int .i64 7)) fun x12 =>
    bnd (pBin Try.prog .quo 3 (.tmp 12) (.const (.int .i64 8)) x12 (.int .i64 8)) fun x13 =>
    some (x13, x7.2))
theorem F45_eq : eFun env k inv 45 #[x0, x1] h = F45 inv k x0 x1 h := by
      refine (kq_fun (a := act 14 [(0, x0), (1, x1)]) (c := cp c45 1)).trans ?_
      unfold F45
      simp only [kq_seq c45 1, r45_0, kq_seq c45 3, kq_seq c45 6, r45_1, b45_rlr, kq_seq c45 26, r45_2, kq_ret c45 53, res45_0, kq_skip c45 27, kq_seq c45 7, r45_3, kq_ret c45 15, reduceIte, reduceCtorEq, XE.exit.injEq, Nat.reduceEqDiff, Nat.reduceMul, Nat.reduceAdd] <;> kernel_rfl
theorem F45_call : eInv env (k + 1) (.func 45) #[] #[x0, x1] h = F45 (eInv env k) k x0 x1 h := kq_inv F45_eq
noncomputable def c46 : Code := codeOf Try.prog 46
theorem r46_0  : kCode env 46 false inv k (cp c46 2) (act 81 [(0, x0), (1, x1), (2, x2)]) h K =
    K .normal (act 81 [(0, x0), (1, x1), (2, x2)]) h := kq_reg
theorem r46_1  : kCode env 46 false inv k (cp c46 12) (act 81 [(0, x0), (1, x1), (2, x2)]) h K =
    bnd (inv (.func 59) #[] #[x1, x2] h) fun x16 =>
    bnd (pUn Try.prog .not x16.1) fun x17 =>
    K .normal (act 81 [(0, x0), (1, x1), (2, x2), (17, x17)]) x16.2 := kq_reg
theorem b46_rlr  : kCode env 46 false inv k (cp c46 13) (act 81 [(0, x0), (1, x1), (2, x2), (17, x17)]) h K = brV x17 (kCode env 46 false inv k (cp c46 26) (act 81 [(0, x0), (1, x1), (2, x2), (17, x17)]) h K) (kCode env 46 false inv k (cp c46 27) (act 81 [(0, x0), (1, x1), (2, x2), (17, x17)]) h K) := kq_cond
theorem r46_2  : kCode env 46 false inv k (cp c46 52) (act 81 [(0, x0), (1, x1), (2, x2), (17, x17)]) h K =
    K .normal (act 81 [(6, (.slice none 0 0)), (7, (.int .i64 2))]) h := kq_reg
theorem res46_0 : resOfFn env.P 46 .ret (act 81 [(6, x6), (7, x7)]) h = some (.tuple #[x6, x7], h) := kq_res
theorem r46_3  : kCode env 46 false inv k (cp c46 28) (act 81 [(0, x0), (1, x1), (2, x2), (17, x17)]) h K =
    bnd (pLen Try.prog #[32] x0 h) fun x19 =>
    bnd (inv (.func 45) #[] #[x1, x2] h) fun x22 =>
    bnd (pBin Try.prog .neq 3 (.tmp 19) (.tmp 22) x19 x22.1) fun x23 =>
    K .normal (act 81 [(0, x0), (1, x1), (2, x2), (23, x23)]) x22.2 := kq_reg
theorem b46_rlrr  : kCode env 46 false inv k (cp c46 29) (act 81 [(0, x0), (1, x1), (2, x2), (23, x23)]) h K = brV x23 (kCode env 46 false inv k (cp c46 58) (act 81 [(0, x0), (1, x1), (2, x2), (23, x23)]) h K) (kCode env 46 false inv k (cp c46 59) (act 81 [(0, x0), (1, x1), (2, x2), (23, x23)]) h K) := kq_cond
theorem r46_4  : kCode env 46 false inv k (cp c46 116) (act 81 [(0, x0), (1, x1), (2, x2), (23, x23)]) h K =
    K .normal (act 81 [(6, (.slice none 0 0)), (7, (.int .i64 4))]) h := kq_reg
theorem r46_5  : kCode env 46 false inv k (cp c46 60) (act 81 [(0, x0), (1, x1), (2, x2), (23, x23)]) h K =
    bnd (pBin Try.prog .mul 3 (.tmp 24) (.tmp 25) x1 x2) fun x26 =>
    K .normal (act 81 [(0, x0), (1, x1), (2, x2), (8, x26)]) h := kq_reg
theorem r46_6  : kCode env 46 false inv k (cp c46 976) (act 81 [(0, x0), (1, x1), (2, x2), (8, x8)]) h K =
    bnd (pLen Try.prog #[32] x0 h) fun x29 =>
    bnd (pBin Try.prog .mul 3 (.const (.int .i64 8)) (.tmp 29) (.int .i64 8) x29) fun x30 =>
    bnd (pBin Try.prog .lss 3 (.tmp 27) (.tmp 30) x8 x30) fun x31 =>
    K .normal (act 81 [(0, x0), (1, x1), (2, x2), (8, x8), (31, x31)]) h := kq_reg
theorem b46_rlllrlrrr  : kCode env 46 false inv k (cp c46 977) (act 81 [(0, x0), (1, x1), (2, x2), (8, x8), (31, x31)]) h K = brV x31 (kCode env 46 false inv k (cp c46 1954) (act 81 [(0, x0), (1, x1), (2, x2), (8, x8), (31, x31)]) h K) (kCode env 46 false inv k (cp c46 1955) (act 81 [(0, x0), (1, x1), (2, x2), (8, x8), (31, x31)]) h K) := kq_cond
noncomputable abbrev G46_8 {β : Type} (inv : Inv) (x0 x1 x2 x8 : Value) (h : AH) (K : Value → AH → Option β) : Option β :=
    bnd (pBin Try.prog .quo 3 (.tmp 35) (.const (.int .i64 8)) x8 (.int .i64 8)) fun x36 =>
    bnd (pIndexAddr Try.prog 32 x0 x36) fun x37 =>
    bnd (pLoad Try.prog 5 x37 h) fun x38 =>
    bnd (pBin Try.prog .rem 3 (.tmp 39) (.const (.int .i64 8)) x8 (.int .i64 8)) fun x40 =>
    bnd (pConv Try.prog 3 68 x40 h) fun x41 =>
    bnd (pBin Try.prog .shr 5 (.tmp 38) (.tmp 41) x38 x41) fun x42 =>
    bnd (pBin Try.prog .rem 5 (.tmp 42) (.const (.int .u8 2)) x42 (.int .u8 2)) fun x43 =>
    bnd (pBin Try.prog .eql 5 (.tmp 43) (.const (.int .u8 1)) x43 (.int .u8 1)) fun x44 =>
    K (x44) h
theorem r46_8  : kCode env 46 false inv k (cp c46 3912) (act 81 [(0, x0), (1, x1), (2, x2), (8, x8), (31, x31)]) h K =
    G46_8 inv x0 x1 x2 x8 h fun y44 h => K .normal (act 81 [(0, x0), (1, x1), (2, x2), (8, x8), (44, y44)]) h := kq_reg
theorem b46_rllrllrlrrr  : kCode env 46 false inv k (cp c46 3913) (act 81 [(0, x0), (1, x1), (2, x2), (8, x8), (44, x44)]) h K = brV x44 (kCode env 46 false inv k (cp c46 7826) (act 81 [(0, x0), (1, x1), (2, x2), (8, x8), (44, x44)]) h K) (kCode env 46 false inv k (cp c46 7827) (act 81 [(0, x0), (1, x1), (2, x2), (8, x8), (44, x44)]) h K) := kq_cond
theorem r46_9  : kCode env 46 false inv k (cp c46 15652) (act 81 [(0, x0), (1, x1), (2, x2), (8, x8), (44, x44)]) h K =
    K .normal (act 81 [(6, (.slice none 0 0)), (7, (.int .i64 4))]) h := kq_reg
theorem r46_7  : kCode env 46 false inv k (cp c46 979) (act 81 [(0, x0), (1, x1), (2, x2), (8, x8), (44, x44)]) h K =
    bnd (pBin Try.prog .add 3 (.tmp 32) (.const (.int .i64 1)) x8 (.int .i64 1)) fun x33 =>
    K .normal (act 81 [(0, x0), (1, x1), (2, x2), (8, x33)]) h := kq_reg
noncomputable def F46_lrlrrr {β : Type} (inv : Inv) (k : Nat) : Nat → Value → Value → Value → Value → AH → (Value → Value → Value → Value → Value → AH → Option β) → (Value → Value → AH → Option β) → Option β
  | 0, _, _, _, _, _, _, _ => none
  | j + 1, x0, x1, x2, x8, h, ke0, kr =>
    bnd (pLen Try.prog #[32] x0 h) fun x29 =>
    bnd (pBin Try.prog .mul 3 (.const (.int .i64 8)) (.tmp 29) (.int .i64 8) x29) fun x30 =>
    bnd (pBin Try.prog .lss 3 (.tmp 27) (.tmp 30) x8 x30) fun x31 =>
    brV x31
    (G46_8 inv x0 x1 x2 x8 h fun y44 h =>
    brV y44
    (kr (.slice none 0 0) (.int .i64 4) h)
    (bnd (pBin Try.prog .add 3 (.tmp 32) (.const (.int .i64 1)) x8 (.int .i64 1)) fun x33 =>
    F46_lrlrrr inv k j x0 x1 x2 x33 h ke0 kr))
    (ke0 x0 x1 x2 x8 x31 h)
theorem F46_lrlrrr_j (j : Nat) : kLoop (kCode env 46 false inv k (cp c46 244)) j (act 81 [(0, x0), (1, x1), (2, x2), (8, x8)]) h K = F46_lrlrrr inv k j x0 x1 x2 x8 h (fun y0 y1 y2 y8 y31 h => K (.exit 0) (act 81 [(0, y0), (1, y1), (2, y2), (8, y8), (31, y31)]) h) (fun y6 y7 h => K .ret (act 81 [(6, y6), (7, y7)]) h) := by
      induction j generalizing x0 x1 x2 x8 h with
      | zero => rfl
      | succ j ih =>
        unfold F46_lrlrrr
        simp only [kLoop, kq_seq c46 244, kq_seq c46 488, r46_6, b46_rlllrlrrr, kq_skip c46 1954, kq_seq c46 489, kq_block c46 978 1, kq_seq c46 1956, r46_8, b46_rllrllrlrrr, kq_seq c46 7826, r46_9, kq_ret c46 15653, kq_skip c46 7827, r46_7, kq_exit c46 1955 0, ih, reduceIte, reduceCtorEq, XE.exit.injEq, Nat.reduceEqDiff, Nat.reduceMul, Nat.reduceAdd] <;> kernel_rfl
theorem F46_lrlrrr_eq  : kCode env 46 false inv k (cp c46 122) (act 81 [(0, x0), (1, x1), (2, x2), (8, x8)]) h K = F46_lrlrrr inv k k x0 x1 x2 x8 h (fun y0 y1 y2 y8 y31 h => K (.exit 0) (act 81 [(0, y0), (1, y1), (2, y2), (8, y8), (31, y31)]) h) (fun y6 y7 h => K .ret (act 81 [(6, y6), (7, y7)]) h) := kq_loop (F46_lrlrrr_j k)
theorem r46_10  : kCode env 46 false inv k (cp c46 62) (act 81 [(0, x0), (1, x1), (2, x2), (8, x8), (31, x31)]) h K =
    K .normal (act 81 [(0, x0), (1, x1), (2, x2), (9, (.slice none 0 0))]) h := kq_reg
theorem r46_11  : kCode env 46 false inv k (cp c46 252) (act 81 [(0, x0), (1, x1), (2, x2), (9, x9)]) h K =
    K .normal (act 81 [(0, x0), (1, x1), (2, x2), (9, x9), (10, (.int .i64 0))]) h := kq_reg
theorem r46_12  : kCode env 46 false inv k (cp c46 4048) (act 81 [(0, x0), (1, x1), (2, x2), (9, x9), (10, x10)]) h K =
    bnd (pBin Try.prog .lss 3 (.tmp 45) (.tmp 46) x10 x1) fun x47 =>
    K .normal (act 81 [(0, x0), (1, x1), (2, x2), (9, x9), (10, x10), (47, x47)]) h := kq_reg
theorem b46_rlllrlrrrrr  : kCode env 46 false inv k (cp c46 4049) (act 81 [(0, x0), (1, x1), (2, x2), (9, x9), (10, x10), (47, x47)]) h K = brV x47 (kCode env 46 false inv k (cp c46 8098) (act 81 [(0, x0), (1, x1), (2, x2), (9, x9), (10, x10), (47, x47)]) h K) (kCode env 46 false inv k (cp c46 8099) (act 81 [(0, x0), (1, x1), (2, x2), (9, x9), (10, x10), (47, x47)]) h K) := kq_cond
theorem r46_14  : kCode env 46 false inv k (cp c46 16200) (act 81 [(0, x0), (1, x1), (2, x2), (9, x9), (10, x10), (47, x47)]) h K =
    K .normal (act 81 [(0, x0), (1, x1), (2, x2), (9, x9), (10, x10), (11, (.int .u64 0))]) h := kq_reg
theorem r46_15  : kCode env 46 false inv k (cp c46 64804) (act 81 [(0, x0), (1, x1), (2, x2), (9, x9), (10, x10), (11, x11)]) h K =
    K .normal (act 81 [(0, x0), (1, x1), (2, x2), (9, x9), (10, x10), (11, x11), (12, (.int .i64 0))]) h := kq_reg
theorem r46_16  : kCode env 46 false inv k (cp c46 1036880) (act 81 [(0, x0), (1, x1), (2, x2), (9, x9), (10, x10), (11, x11), (12, x12)]) h K =
    bnd (pBin Try.prog .lss 3 (.tmp 50) (.tmp 51) x12 x2) fun x52 =>
    K .normal (act 81 [(0, x0), (1, x1), (2, x2), (9, x9), (10, x10), (11, x11), (12, x12), (52, x52)]) h := kq_reg
theorem b46_rlllrlrllrllrlrrrrr  : kCode env 46 false inv k (cp c46 1036881) (act 81 [(0, x0), (1, x1), (2, x2), (9, x9), (10, x10), (11, x11), (12, x12), (52, x52)]) h K = brV x52 (kCode env 46 false inv k (cp c46 2073762) (act 81 [(0, x0), (1, x1), (2, x2), (9, x9), (10, x10), (11, x11), (12, x12), (52, x52)]) h K) (kCode env 46 false inv k (cp c46 2073763) (act 81 [(0, x0), (1, x1), (2, x2), (9, x9), (10, x10), (11, x11), (12, x12), (52, x52)]) h K) := kq_cond
theorem r46_18  : kCode env 46 false inv k (cp c46 4147528) (act 81 [(0, x0), (1, x1), (2, x2), (9, x9), (10, x10), (11, x11), (12, x12), (52, x52)]) h K =
    bnd (pBin Try.prog .mul 3 (.tmp 55) (.tmp 56) x10 x2) fun x57 =>
    bnd (pBin Try.prog .add 3 (.tmp 57) (.tmp 58) x57 x12) fun x59 =>
    K .normal (act 81 [(0, x0), (1, x1), (2, x2), (9, x9), (10, x10), (11, x11), (12, x12), (13, x59)]) h := kq_reg
noncomputable abbrev G46_19 {β : Type} (inv : Inv) (x0 x1 x2 x9 x10 x11 x12 x13 : Value) (h : AH) (K : Value → AH → Option β) : Option β :=
    bnd (pBin Try.prog .quo 3 (.tmp 62) (.const (.int .i64 8)) x13 (.int .i64 8)) fun x63 =>
    bnd (pIndexAddr Try.prog 32 x0 x63) fun x64 =>
    bnd (pLoad Try.prog 5 x64 h) fun x65 =>
    bnd (pBin Try.prog .rem 3 (.tmp 66) (.const (.int .i64 8)) x13 (.int .i64 8)) fun x67 =>
    bnd (pConv Try.prog 3 68 x67 h) fun x68 =>
    bnd (pBin Try.prog .shr 5 (.tmp 65) (.tmp 68) x65 x68) fun x69 =>
    bnd (pBin Try.prog .rem 5 (.tmp 69) (.const (.int .u8 2)) x69 (.int .u8 2)) fun x70 =>
    bnd (pConv Try.prog 5 49 x70 h) fun x71 =>
    bnd (pConv Try.prog 3 68 x12 h) fun x73 =>
    bnd (pBin Try.prog .shl 49 (.tmp 71) (.tmp 73) x71 x73) fun x74 =>
    bnd (pBin Try.prog .or 49 (.tmp 60) (.tmp 74) x11 x74) fun x75 =>
    K (x75) h
theorem r46_19  : kCode env 46 false inv k (cp c46 4147529) (act 81 [(0, x0), (1, x1), (2, x2), (9, x9), (10, x10), (11, x11), (12, x12), (13, x13)]) h K =
    G46_19 inv x0 x1 x2 x9 x10 x11 x12 x13 h fun y11 h => K .normal (act 81 [(0, x0), (1, x1), (2, x2), (9, x9), (10, x10), (11, y11), (12, x12)]) h := kq_reg
theorem r46_17  : kCode env 46 false inv k (cp c46 1036883) (act 81 [(0, x0), (1, x1), (2, x2), (9, x9), (10, x10), (11, x11), (12, x12)]) h K =
    bnd (pBin Try.prog .add 3 (.tmp 53) (.const (.int .i64 1)) x12 (.int .i64 1)) fun x54 =>
    K .normal (act 81 [(0, x0), (1, x1), (2, x2), (9, x9), (10, x10), (11, x11), (12, x54)]) h := kq_reg
noncomputable def F46_lrlrllrllrlrrrrr {β : Type} (inv : Inv) (k : Nat) : Nat → Value → Value → Value → Value → Value → Value → Value → AH → (Value → Value → Value → Value → Value → Value → Value → Value → AH → Option β) → Option β
  | 0, _, _, _, _, _, _, _, _, _ => none
  | j + 1, x0, x1, x2, x9, x10, x11, x12, h, ke4 =>
    bnd (pBin Try.prog .lss 3 (.tmp 50) (.tmp 51) x12 x2) fun x52 =>
    brV x52
    (bnd (pBin Try.prog .mul 3 (.tmp 55) (.tmp 56) x10 x2) fun x57 =>
    bnd (pBin Try.prog .add 3 (.tmp 57) (.tmp 58) x57 x12) fun x59 =>
    G46_19 inv x0 x1 x2 x9 x10 x11 x12 x59 h fun y11 h =>
    bnd (pBin Try.prog .add 3 (.tmp 53) (.const (.int .i64 1)) x12 (.int .i64 1)) fun x54 =>
    F46_lrlrllrllrlrrrrr inv k j x0 x1 x2 x9 x10 y11 x54 h ke4)
    (ke4 x0 x1 x2 x9 x10 x11 x12 x52 h)
theorem F46_lrlrllrllrlrrrrr_j (j : Nat) : kLoop (kCode env 46 false inv k (cp c46 259220)) j (act 81 [(0, x0), (1, x1), (2, x2), (9, x9), (10, x10), (11, x11), (12, x12)]) h K = F46_lrlrllrllrlrrrrr inv k j x0 x1 x2 x9 x10 x11 x12 h (fun y0 y1 y2 y9 y10 y11 y12 y52 h => K (.exit 4) (act 81 [(0, y0), (1, y1), (2, y2), (9, y9), (10, y10), (11, y11), (12, y12), (52, y52)]) h) := by
      induction j generalizing x0 x1 x2 x9 x10 x11 x12 h with
      | zero => rfl
      | succ j ih =>
        unfold F46_lrlrllrllrlrrrrr
        simp only [kLoop, kq_seq c46 259220, kq_seq c46 518440, r46_16, b46_rlllrlrllrllrlrrrrr, kq_skip c46 2073762, kq_seq c46 518441, kq_block c46 1036882 5, kq_seq c46 2073764, r46_18, r46_19, r46_17, kq_exit c46 2073763 4, ih, reduceIte, reduceCtorEq, XE.exit.injEq, Nat.reduceEqDiff, Nat.reduceMul, Nat.reduceAdd] <;> kernel_rfl
theorem F46_lrlrllrllrlrrrrr_eq  : kCode env 46 false inv k (cp c46 129610) (act 81 [(0, x0), (1, x1), (2, x2), (9, x9), (10, x10), (11, x11), (12, x12)]) h K = F46_lrlrllrllrlrrrrr inv k k x0 x1 x2 x9 x10 x11 x12 h (fun y0 y1 y2 y9 y10 y11 y12 y52 h => K (.exit 4) (act 81 [(0, y0), (1, y1), (2, y2), (9, y9), (10, y10), (11, y11), (12, y12), (52, y52)]) h) := kq_loop (F46_lrlrllrllrlrrrrr_j k)
theorem r46_20  : kCode env 46 false inv k (cp c46 32403) (act 81 [(0, x0), (1, x1), (2, x2), (9, x9), (10, x10), (11, x11), (12, x12), (52, x52)]) h K =
    bnd (pBuildSlice Try.prog 52 1 #[(0, x11)] h) fun x78 =>
    bnd (pAppend Try.prog #[52, 52] x9 x78.1 x78.2) fun x79 =>
    K .normal (act 81 [(0, x0), (1, x1), (2, x2), (9, x79.1), (10, x10)]) x79.2 := kq_reg
theorem r46_13  : kCode env 46 false inv k (cp c46 4051) (act 81 [(0, x0), (1, x1), (2, x2), (9, x9), (10, x10)]) h K =
    bnd (pBin Try.prog .add 3 (.tmp 48) (.const (.int .i64 1)) x10 (.int .i64 1)) fun x49 =>
    K .normal (act 81 [(0, x0), (1, x1), (2, x2), (9, x9), (10, x49)]) h := kq_reg
noncomputable def F46_lrlrrrrr {β : Type} (inv : Inv) (k : Nat) : Nat → Value → Value → Value → Value → Value → AH → (Value → Value → Value → Value → Value → Value → AH → Option β) → Option β
  | 0, _, _, _, _, _, _, _ => none
  | j + 1, x0, x1, x2, x9, x10, h, ke2 =>
    bnd (pBin Try.prog .lss 3 (.tmp 45) (.tmp 46) x10 x1) fun x47 =>
    brV x47
    (F46_lrlrllrllrlrrrrr inv k k x0 x1 x2 x9 x10 (.int .u64 0) (.int .i64 0) h
    (fun y0 y1 y2 y9 y10 y11 y12 y52 h =>
    bnd (pBuildSlice Try.prog 52 1 #[(0, y11)] h) fun x78 =>
    bnd (pAppend Try.prog #[52, 52] y9 x78.1 x78.2) fun x79 =>
    bnd (pBin Try.prog .add 3 (.tmp 48) (.const (.int .i64 1)) y10 (.int .i64 1)) fun x49 =>
    F46_lrlrrrrr inv k j y0 y1 y2 x79.1 x49 x79.2 ke2))
    (ke2 x0 x1 x2 x9 x10 x47 h)
theorem F46_lrlrrrrr_j (j : Nat) : kLoop (kCode env 46 false inv k (cp c46 1012)) j (act 81 [(0, x0), (1, x1), (2, x2), (9, x9), (10, x10)]) h K = F46_lrlrrrrr inv k j x0 x1 x2 x9 x10 h (fun y0 y1 y2 y9 y10 y47 h => K (.exit 2) (act 81 [(0, y0), (1, y1), (2, y2), (9, y9), (10, y10), (47, y47)]) h) := by
      induction j generalizing x0 x1 x2 x9 x10 h with
      | zero => rfl
      | succ j ih =>
        unfold F46_lrlrrrrr
        simp only [kLoop, kq_seq c46 1012, kq_seq c46 2024, r46_12, b46_rlllrlrrrrr, kq_skip c46 8098, kq_seq c46 2025, kq_block c46 4050 3, kq_seq c46 8100, r46_14, kq_seq c46 16201, kq_seq c46 32402, r46_15, kq_block c46 64805 4, F46_lrlrllrllrlrrrrr_eq, r46_20, r46_13, kq_exit c46 8099 2, ih, reduceIte, reduceCtorEq, XE.exit.injEq, Nat.reduceEqDiff, Nat.reduceMul, Nat.reduceAdd] <;> kernel_rfl
theorem F46_lrlrrrrr_eq  : kCode env 46 false inv k (cp c46 506) (act 81 [(0, x0), (1, x1), (2, x2), (9, x9), (10, x10)]) h K = F46_lrlrrrrr inv k k x0 x1 x2 x9 x10 h (fun y0 y1 y2 y9 y10 y47 h => K (.exit 2) (act 81 [(0, y0), (1, y1), (2, y2), (9, y9), (10, y10), (47, y47)]) h) := kq_loop (F46_lrlrrrrr_j k)
theorem r46_21  : kCode env 46 false inv k (cp c46 254) (act 81 [(0, x0), (1, x1), (2, x2), (9, x9), (10, x10), (47, x47)]) h K =
    K .normal (act 81 [(6, x9), (7, (.int .i64 0))]) h := kq_reg
/-- shadowbook/shadowbookref05.Get -/
noncomputable def F46 (inv : Inv) (k : Nat) (x0 x1 x2 : Value) (h : AH) : Option (Value × AH) :=
    bnd (inv (.func 59) #[] #[x1, x2] h) fun x16 =>
    bnd (pUn Try.prog .not x16.1) fun x17 =>
    brV x17
    (some (.tuple #[(.slice none 0 0), (.int .i64 2)], x16.2))
    (bnd (pLen Try.prog #[32] x0 x16.2) fun x19 =>
    bnd (inv (.func 45) #[] #[x1, x2] x16.2) fun x22 =>
    bnd (pBin Try.prog .neq 3 (.tmp 19) (.tmp 22) x19 x22.1) fun x23 =>
    brV x23
    (some (.tuple #[(.slice none 0 0), (.int .i64 4)], x22.2))
    (bnd (pBin Try.prog .mul 3 (.tmp 24) (.tmp 25) x1 x2) fun x26 =>
    F46_lrlrrr inv k k x0 x1 x2 x26 x22.2
    (fun y0 y1 y2 y8 y31 h =>
    F46_lrlrrrrr inv k k y0 y1 y2 (.slice none 0 0) (.int .i64 0) h
    (fun y0_1 y1_2 y2_3 y9 y10 y47 h_4 =>
    some (.tuple #[y9, (.int .i64 0)], h_4)))
    (fun y6 y7 h_5 =>
    some (.tuple #[y6, y7], h_5))))
theorem F46_eq : eFun env k inv 46 #[x0, x1, x2] h = F46 inv k x0 x1 x2 h := by
      refine (kq_fun (a := act 81 [(0, x0), (1, x1), (2, x2)]) (c := cp c46 1)).trans ?_
      unfold F46
      simp only [kq_seq c46 1, r46_0, kq_seq c46 3, kq_seq c46 6, r46_1, b46_rlr, kq_seq c46 26, r46_2, kq_ret c46 53, res46_0, kq_skip c46 27, kq_seq c46 7, kq_seq c46 14, r46_3, b46_rlrr, kq_seq c46 58, r46_4, kq_ret c46 117, kq_skip c46 59, kq_seq c46 15, kq_seq c46 30, r46_5, kq_block c46 61 0, F46_lrlrrr_eq, kq_seq c46 31, r46_10, kq_seq c46 63, kq_seq c46 126, r46_11, kq_block c46 253 2, F46_lrlrrrrr_eq, kq_seq c46 127, r46_21, kq_ret c46 255, reduceIte, reduceCtorEq, XE.exit.injEq, Nat.reduceEqDiff, Nat.reduceMul, Nat.reduceAdd] <;> kernel_rfl
theorem F46_call : eInv env (k + 1) (.func 46) #[] #[x0, x1, x2] h = F46 (eInv env k) k x0 x1 x2 h := kq_inv F46_eq
noncomputable def c47 : Code := codeOf Try.prog 47
theorem r47_0  : kCode env 47 false inv k (cp c47 2) (act 8 [(0, x0)]) h K =
    K .normal (act 8 [(0, x0)]) h := kq_reg
theorem r47_1  : kCode env 47 false inv k (cp c47 6) (act 8 [(0, x0)]) h K =
    bnd (pNilCheck x0) fun x4 =>
    bnd (pFieldAddr Try.prog 82 x4 0) fun x5 =>
    bnd (pLoad Try.prog 32 x5 h) fun x6 =>
    bnd (pLen Try.prog #[32] x6 h) fun x7 =>
    K .normal (act 8 [(2, x7)]) h := kq_reg
theorem res47_0 : resOfFn env.P 47 .ret (act 8 [(2, x2)]) h = some (x2, h) := kq_res
/-- (*shadowbook/shadowbookref01.Reader).Left -/
noncomputable def F47 (inv : Inv) (k : Nat) (x0 : Value) (h : AH) : Option (Value × AH) :=
    bnd (pNilCheck x0) fun x4 =>
    bnd (pFieldAddr Try.prog 82 x4 0) fun x5 =>
    bnd (pLoad Try.prog 32 x5 h) fun x6 =>
    bnd (pLen Try.prog #[32] x6 h) fun x7 =>
    some (x7, h)
theorem F47_eq : eFun env k inv 47 #[x0] h = F47 inv k x0 h := by
      refine (kq_fun (a := act 8 [(0, x0)]) (c := cp c47 1)).trans ?_
      unfold F47
      simp only [kq_seq c47 1, r47_0, kq_seq c47 3, r47_1, kq_ret c47 7, res47_0, reduceIte, reduceCtorEq, XE.exit.injEq, Nat.reduceEqDiff, Nat.reduceMul, Nat.reduceAdd] <;> kernel_rfl
theorem F47_call : eInv env (k + 1) (.func 47) #[] #[x0] h = F47 (eInv env k) k x0 h := kq_inv F47_eq
noncomputable def c48 : Code := codeOf Try.prog 48
theorem r48_0  : kCode env 48 false inv k (cp c48 4) (act 38 [(0, x0), (1, x1)]) h K =
    K .normal (act 38 [(0, x0), (1, x1), (3, (.int .i64 0))]) h := kq_reg
theorem r48_1  : kCode env 48 false inv k (cp c48 22) (act 38 [(0, x0), (1, x1), (3, x3)]) h K =
    bnd (pLoad Try.prog 22 x1 h) fun x6 =>
    bnd (pLen Try.prog #[22] x6 h) fun x7 =>
    K .normal (act 38 [(0, x0), (1, x1), (3, x3), (6, x6), (7, x7), (8, (.int .i64 0))]) h := kq_reg
theorem r48_2  : kCode env 48 false inv k (cp c48 184) (act 38 [(0, x0), (1, x1), (3, x3), (6, x6), (7, x7), (8, x8)]) h K =
    bnd (pBin Try.prog .lss 3 (.tmp 8) (.tmp 7) x8 x7) fun x9 =>
    K .normal (act 38 [(0, x0), (1, x1), (3, x3), (6, x6), (7, x7), (8, x8), (9, x9)]) h := kq_reg
theorem b48_lrllrrrl  : kCode env 48 false inv k (cp c48 370) (act 38 [(0, x0), (1, x1), (3, x3), (6, x6), (7, x7), (8, x8), (9, x9)]) h K = brV x9 (kCode env 48 false inv k (cp c48 740) (act 38 [(0, x0), (1, x1), (3, x3), (6, x6), (7, x7), (8, x8), (9, x9)]) h K) (kCode env 48 false inv k (cp c48 741) (act 38 [(0, x0), (1, x1), (3, x3), (6, x6), (7, x7), (8, x8), (9, x9)]) h K) := kq_cond
theorem r48_3  : kCode env 48 false inv k (cp c48 2968) (act 38 [(0, x0), (1, x1), (3, x3), (6, x6), (7, x7), (8, x8), (9, x9)]) h K =
    bnd (pIndexAddr Try.prog 22 x6 x8) fun x11 =>
    bnd (pLoad Try.prog 4 x11 h) fun x12 =>
    K .normal (act 38 [(0, x0), (1, x1), (3, x3), (4, x8), (5, x12), (6, x6), (7, x7), (8, x8)]) h := kq_reg
noncomputable abbrev G48_4 {β : Type} (inv : Inv) (x0 x1 x3 x4 x5 x6 x7 x8 : Value) (h : AH) (K : Value → AH → Option β) : Option β :=
    bnd (pBin Try.prog .add 3 (.tmp 13) (.const (.int .i64 1)) x4 (.int .i64 1)) fun x14 =>
    bnd (pLoad Try.prog 22 x1 h) fun x15 =>
    bnd (pLen Try.prog #[22] x15 h) fun x16 =>
    bnd (pBin Try.prog .lss 3 (.tmp 14) (.tmp 16) x14 x16) fun x17 =>
    bnd (gd (some x17) true h (lt (pLoad Try.prog 22 x1 h) h)) fun x19 =>
    bnd (gd (some x17) true x19.2 (some (x4, x19.2))) fun x20 =>
    bnd (gd (some x17) true x20.2 (lt (pBin Try.prog .add 3 (.tmp 20) (.const (.int .i64 1)) x20.1 (.int .i64 1)) x20.2)) fun x21 =>
    bnd (gd (some x17) true x21.2 (lt (pIndexAddr Try.prog 22 x19.1 x21.1) x21.2)) fun x22 =>
    bnd (gd (some x17) true x22.2 (lt (pLoad Try.prog 4 x22.1 x22.2) x22.2)) fun x23 =>
    bnd (gd (some x17) true x23.2 (some (x5, x23.2))) fun x24 =>
    bnd (gd (some x17) true x24.2 (lt (pBin Try.prog .eql 4 (.tmp 23) (.tmp 24) x23.1 x24.1) x24.2)) fun x25 =>
    bnd (pickV x17 x25.1 (.bool false)) fun x26 =>
    K (x26) x25.2
theorem r48_4  : kCode env 48 false inv k (cp c48 11876) (act 38 [(0, x0), (1, x1), (3, x3), (4, x4), (5, x5), (6, x6), (7, x7), (8, x8)]) h K =
    G48_4 inv x0 x1 x3 x4 x5 x6 x7 x8 h fun y26 h => K .normal (act 38 [(0, x0), (1, x1), (3, x3), (4, x4), (5, x5), (6, x6), (7, x7), (8, x8), (26, y26)]) h := kq_reg
theorem b48_rlrllrrllrrrl  : kCode env 48 false inv k (cp c48 11877) (act 38 [(0, x0), (1, x1), (3, x3), (4, x4), (5, x5), (6, x6), (7, x7), (8, x8), (26, x26)]) h K = brV x26 (kCode env 48 false inv k (cp c48 23754) (act 38 [(0, x0), (1, x1), (3, x3), (4, x4), (5, x5), (6, x6), (7, x7), (8, x8), (26, x26)]) h K) (kCode env 48 false inv k (cp c48 23755) (act 38 [(0, x0), (1, x1), (3, x3), (4, x4), (5, x5), (6, x6), (7, x7), (8, x8), (26, x26)]) h K) := kq_cond
theorem r48_5  : kCode env 48 false inv k (cp c48 23756) (act 38 [(0, x0), (1, x1), (3, x3), (4, x4), (5, x5), (6, x6), (7, x7), (8, x8), (26, x26)]) h K =
    bnd (pBin Try.prog .add 3 (.tmp 28) (.const (.int .i64 1)) x4 (.int .i64 1)) fun x29 =>
    bnd (pBin Try.prog .sub 3 (.tmp 29) (.tmp 30) x29 x3) fun x31 =>
    bnd (callV inv x0 #[x31, x5] h) fun x33 =>
    bnd (pUn Try.prog .not x33.1) fun x34 =>
    K .normal (act 38 [(0, x0), (1, x1), (4, x4), (6, x6), (7, x7), (8, x8), (34, x34)]) x33.2 := kq_reg
theorem b48_rlrrllrrllrrrl  : kCode env 48 false inv k (cp c48 23757) (act 38 [(0, x0), (1, x1), (4, x4), (6, x6), (7, x7), (8, x8), (34, x34)]) h K = brV x34 (kCode env 48 false inv k (cp c48 47514) (act 38 [(0, x0), (1, x1), (4, x4), (6, x6), (7, x7), (8, x8), (34, x34)]) h K) (kCode env 48 false inv k (cp c48 47515) (act 38 [(0, x0), (1, x1), (4, x4), (6, x6), (7, x7), (8, x8), (34, x34)]) h K) := kq_cond
theorem r48_6  : kCode env 48 false inv k (cp c48 11879) (act 38 [(0, x0), (1, x1), (4, x4), (6, x6), (7, x7), (8, x8), (34, x34)]) h K =
    bnd (pBin Try.prog .add 3 (.tmp 35) (.const (.int .i64 1)) x4 (.int .i64 1)) fun x36 =>
    K .normal (act 38 [(0, x0), (1, x1), (3, x36), (6, x6), (7, x7), (8, x8)]) h := kq_reg
noncomputable def F48_lrrllrrrl {β : Type} (inv : Inv) (k : Nat) (x0 x1 x3 x6 x7 x8 x9 : Value) (h : AH) (kn : (Value → Value → Value → Value → Value → Value → Value → Value → Value → AH → Option β)) (kr : (Value → Value → Value → Value → Value → Value → Value → AH → Option β)) : Option β :=
    bnd (pIndexAddr Try.prog 22 x6 x8) fun x11 =>
    bnd (pLoad Try.prog 4 x11 h) fun x12 =>
    G48_4 inv x0 x1 x3 x8 x12 x6 x7 x8 h fun y26 h =>
    brV y26
    (kn x0 x1 x3 x8 x12 x6 x7 x8 y26 h)
    (bnd (pBin Try.prog .add 3 (.tmp 28) (.const (.int .i64 1)) x8 (.int .i64 1)) fun x29 =>
    bnd (pBin Try.prog .sub 3 (.tmp 29) (.tmp 30) x29 x3) fun x31 =>
    bnd (callV inv x0 #[x31, x12] h) fun x33 =>
    bnd (pUn Try.prog .not x33.1) fun x34 =>
    brV x34
    (kr x0 x1 x8 x6 x7 x8 x34 x33.2)
    (bnd (pBin Try.prog .add 3 (.tmp 35) (.const (.int .i64 1)) x8 (.int .i64 1)) fun x36 =>
    kn x0 x1 x36 unk unk x6 x7 x8 unk x33.2))
theorem F48_lrrllrrrl_eq  : kCode env 48 false inv k (cp c48 742) (act 38 [(0, x0), (1, x1), (3, x3), (6, x6), (7, x7), (8, x8), (9, x9)]) h K = F48_lrrllrrrl inv k x0 x1 x3 x6 x7 x8 x9 h (fun y0 y1 y3 y4 y5 y6 y7 y8 y26 h => K .normal (act 38 [(0, y0), (1, y1), (3, y3), (4, y4), (5, y5), (6, y6), (7, y7), (8, y8), (26, y26)]) h) (fun y0 y1 y4 y6 y7 y8 y34 h => K .ret (act 38 [(0, y0), (1, y1), (4, y4), (6, y6), (7, y7), (8, y8), (34, y34)]) h) := by
      unfold F48_lrrllrrrl
      simp only [kq_block c48 742 1, kq_seq c48 1484, r48_3, kq_seq c48 2969, kq_seq c48 5938, r48_4, b48_rlrllrrllrrrl, kq_exit c48 23754 1, kq_skip c48 23755, kq_seq c48 5939, kq_seq c48 11878, r48_5, b48_rlrrllrrllrrrl, kq_ret c48 47514, kq_skip c48 47515, r48_6, reduceIte, reduceCtorEq, XE.exit.injEq, Nat.reduceEqDiff, Nat.reduceMul, Nat.reduceAdd] <;> kernel_rfl
theorem r48_7  : kCode env 48 false inv k (cp c48 743) (act 38 [(0, x0), (1, x1), (3, x3), (4, x4), (5, x5), (6, x6), (7, x7), (8, x8), (26, x26)]) h K =
    bnd (pBin Try.prog .add 3 (.tmp 8) (.const (.int .i64 1)) x8 (.int .i64 1)) fun x37 =>
    K .normal (act 38 [(0, x0), (1, x1), (3, x3), (6, x6), (7, x7), (8, x37)]) h := kq_reg
noncomputable def F48_lrrrl {β : Type} (inv : Inv) (k : Nat) : Nat → Value → Value → Value → Value → Value → Value → AH → (Value → Value → Value → Value → Value → Value → Value → AH → Option β) → (Value → Value → Value → Value → Value → Value → Value → AH → Option β) → Option β
  | 0, _, _, _, _, _, _, _, _, _ => none
  | j + 1, x0, x1, x3, x6, x7, x8, h, ke0, kr =>
    bnd (pBin Try.prog .lss 3 (.tmp 8) (.tmp 7) x8 x7) fun x9 =>
    brV x9
    (F48_lrrllrrrl inv k x0 x1 x3 x6 x7 x8 x9 h
    (fun y0 y1 y3 y4 y5 y6 y7 y8 y26 h =>
    bnd (pBin Try.prog .add 3 (.tmp 8) (.const (.int .i64 1)) y8 (.int .i64 1)) fun x37 =>
    F48_lrrrl inv k j y0 y1 y3 y6 y7 x37 h ke0 kr)
    (fun y0_1 y1_2 y4_3 y6_4 y7_5 y8_6 y34 h_7 =>
    kr y0_1 y1_2 y4_3 y6_4 y7_5 y8_6 y34 h_7))
    (ke0 x0 x1 x3 x6 x7 x8 x9 h)
theorem F48_lrrrl_j (j : Nat) : kLoop (kCode env 48 false inv k (cp c48 92)) j (act 38 [(0, x0), (1, x1), (3, x3), (6, x6), (7, x7), (8, x8)]) h K = F48_lrrrl inv k j x0 x1 x3 x6 x7 x8 h (fun y0 y1 y3 y6 y7 y8 y9 h => K (.exit 0) (act 38 [(0, y0), (1, y1), (3, y3), (6, y6), (7, y7), (8, y8), (9, y9)]) h) (fun y0 y1 y4 y6 y7 y8 y34 h => K .ret (act 38 [(0, y0), (1, y1), (4, y4), (6, y6), (7, y7), (8, y8), (34, y34)]) h) := by
      induction j generalizing x0 x1 x3 x6 x7 x8 h with
      | zero => rfl
      | succ j ih =>
        unfold F48_lrrrl
        simp only [kLoop, kq_seq c48 92, r48_2, kq_seq c48 185, b48_lrllrrrl, kq_skip c48 740, kq_seq c48 371, F48_lrrllrrrl_eq, r48_7, kq_exit c48 741 0, ih, reduceIte, reduceCtorEq, XE.exit.injEq, Nat.reduceEqDiff, Nat.reduceMul, Nat.reduceAdd] <;> kernel_rfl
theorem F48_lrrrl_eq  : kCode env 48 false inv k (cp c48 46) (act 38 [(0, x0), (1, x1), (3, x3), (6, x6), (7, x7), (8, x8)]) h K = F48_lrrrl inv k k x0 x1 x3 x6 x7 x8 h (fun y0 y1 y3 y6 y7 y8 y9 h => K (.exit 0) (act 38 [(0, y0), (1, y1), (3, y3), (6, y6), (7, y7), (8, y8), (9, y9)]) h) (fun y0 y1 y4 y6 y7 y8 y34 h => K .ret (act 38 [(0, y0), (1, y1), (4, y4), (6, y6), (7, y7), (8, y8), (34, y34)]) h) := kq_loop (F48_lrrrl_j k)
theorem res48_0 : resOfFn env.P 48 .normal (act 38 [(0, x0), (1, x1), (3, x3), (6, x6), (7, x7), (8, x8), (9, x9)]) h = some (.tuple #[], h) := kq_res
theorem res48_1 : resOfFn env.P 48 .ret (act 38 [(0, x0), (1, x1), (4, x4), (6, x6), (7, x7), (8, x8), (34, x34)]) h = some (.tuple #[], h) := kq_res
/-- shadowbook/nulls.Runs$1 -/
noncomputable def F48 (inv : Inv) (k : Nat) (x0 x1 : Value) (h : AH) : Option (Value × AH) :=
    bnd (pLoad Try.prog 22 x1 h) fun x6 =>
    bnd (pLen Try.prog #[22] x6 h) fun x7 =>
    F48_lrrrl inv k k x0 x1 (.int .i64 0) x6 x7 (.int .i64 0) h
    (fun y0 y1 y3 y6 y7 y8 y9 h =>
    some (.tuple #[], h))
    (fun y0_8 y1_9 y4 y6_10 y7_11 y8_12 y34 h_13 =>
    some (.tuple #[], h_13))
theorem F48_eq : eFun env k inv 48 #[x0, x1] h = F48 inv k x0 x1 h := by
      refine (kq_fun (a := act 38 [(0, x0), (1, x1)]) (c := cp c48 1)).trans ?_
      unfold F48
      simp only [kq_scope c48 1, kq_seq c48 2, r48_0, kq_seq c48 5, kq_label c48 10, kq_seq c48 11, r48_1, kq_block c48 23 0, F48_lrrrl_eq, res48_0, res48_1, reduceIte, reduceCtorEq, XE.exit.injEq, Nat.reduceEqDiff, Nat.reduceMul, Nat.reduceAdd] <;> kernel_rfl
theorem F48_call : eInv env (k + 1) (.func 48) #[] #[x0, x1] h = F48 (eInv env k) k x0 x1 h := kq_inv F48_eq
noncomputable def c49 : Code := codeOf Try.prog 49
theorem r49_0  : kCode env 49 false inv k (cp c49 2) (act 19 [(0, x0), (1, x1)]) h K =
    K .normal (act 19 [(0, x0), (1, x1)]) h := kq_reg
noncomputable abbrev G49_1 {β : Type} (inv : Inv) (x0 x1 : Value) (h : AH) (K : Value → AH → Option β) : Option β :=
    bnd (pBin Try.prog .geq 3 (.tmp 5) (.const (.int .i64 0)) x0 (.int .i64 0)) fun x6 =>
    bnd (gd (some x6) true h (some (x0, h))) fun x8 =>
    bnd (gd (some x6) true x8.2 (lt (pBin Try.prog .leq 3 (.tmp 8) (.const (.int .i64 65536)) x8.1 (.int .i64 65536)) x8.2)) fun x9 =>
    bnd (pickV x6 x9.1 (.bool false)) fun x10 =>
    bnd (gd (some x10) true x9.2 (some (x1, x9.2))) fun x12 =>
    bnd (gd (some x10) true x12.2 (lt (pBin Try.prog .geq 3 (.tmp 12) (.const (.int .i64 0)) x12.1 (.int .i64 0)) x12.2)) fun x13 =>
    bnd (pickV x10 x13.1 (.bool false)) fun x14 =>
    bnd (gd (some x14) true x13.2 (some (x1, x13.2))) fun x16 =>
    bnd (gd (some x14) true x16.2 (lt (pBin Try.prog .leq 3 (.tmp 16) (.const (.int .i64 64)) x16.1 (.int .i64 64)) x16.2)) fun x17 =>
    bnd (pickV x14 x17.1 (.bool false)) fun x18 =>
    K (x18) x17.2
theorem r49_1  : kCode env 49 false inv k (cp c49 6) (act 19 [(0, x0), (1, x1)]) h K =
    G49_1 inv x0 x1 h fun y4 h => K .normal (act 19 [(4, y4)]) h := kq_reg
theorem res49_0 : resOfFn env.P 49 .ret (act 19 [(4, x4)]) h = some (x4, h) := kq_res
/-- shadowbook/packs.may -/
noncomputable def F49 (inv : Inv) (k : Nat) (x0 x1 : Value) (h : AH) : Option (Value × AH) :=
    G49_1 inv x0 x1 h fun y4 h =>
    some (y4, h)
theorem F49_eq : eFun env k inv 49 #[x0, x1] h = F49 inv k x0 x1 h := by
      refine (kq_fun (a := act 19 [(0, x0), (1, x1)]) (c := cp c49 1)).trans ?_
      unfold F49
      simp only [kq_seq c49 1, r49_0, kq_seq c49 3, r49_1, kq_ret c49 7, res49_0, reduceIte, reduceCtorEq, XE.exit.injEq, Nat.reduceEqDiff, Nat.reduceMul, Nat.reduceAdd] <;> kernel_rfl
theorem F49_call : eInv env (k + 1) (.func 49) #[] #[x0, x1] h = F49 (eInv env k) k x0 x1 h := kq_inv F49_eq
noncomputable def c50 : Code := codeOf Try.prog 50
theorem r50_0  : kCode env 50 false inv k (cp c50 2) (act 18 [(0, x0)]) h K =
    K .normal (act 18 [(0, x0)]) h := kq_reg
theorem r50_1  : kCode env 50 false inv k (cp c50 6) (act 18 [(0, x0)]) h K =
    K .normal (act 18 [(0, x0), (3, (.int .u64 0))]) h := kq_reg
theorem r50_2  : kCode env 50 false inv k (cp c50 28) (act 18 [(0, x0), (3, x3)]) h K =
    bnd (pLen Try.prog #[52] x0 h) fun x7 =>
    K .normal (act 18 [(3, x3), (6, x0), (7, x7), (8, (.int .i64 0))]) h := kq_reg
theorem r50_3  : kCode env 50 false inv k (cp c50 232) (act 18 [(3, x3), (6, x6), (7, x7), (8, x8)]) h K =
    bnd (pBin Try.prog .lss 3 (.tmp 8) (.tmp 7) x8 x7) fun x9 =>
    K .normal (act 18 [(3, x3), (6, x6), (7, x7), (8, x8), (9, x9)]) h := kq_reg
theorem b50_lrllrlrr  : kCode env 50 false inv k (cp c50 466) (act 18 [(3, x3), (6, x6), (7, x7), (8, x8), (9, x9)]) h K = brV x9 (kCode env 50 false inv k (cp c50 932) (act 18 [(3, x3), (6, x6), (7, x7), (8, x8), (9, x9)]) h K) (kCode env 50 false inv k (cp c50 933) (act 18 [(3, x3), (6, x6), (7, x7), (8, x8), (9, x9)]) h K) := kq_cond
theorem r50_4  : kCode env 50 false inv k (cp c50 3736) (act 18 [(3, x3), (6, x6), (7, x7), (8, x8), (9, x9)]) h K =
    bnd (pIndexAddr Try.prog 52 x6 x8) fun x10 =>
    bnd (pLoad Try.prog 49 x10 h) fun x11 =>
    K .normal (act 18 [(3, x3), (5, x11), (6, x6), (7, x7), (8, x8)]) h := kq_reg
theorem r50_5  : kCode env 50 false inv k (cp c50 3737) (act 18 [(3, x3), (5, x5), (6, x6), (7, x7), (8, x8)]) h K =
    bnd (pBin Try.prog .or 49 (.tmp 12) (.tmp 13) x3 x5) fun x14 =>
    K .normal (act 18 [(3, x14), (6, x6), (7, x7), (8, x8)]) h := kq_reg
theorem r50_6  : kCode env 50 false inv k (cp c50 935) (act 18 [(3, x3), (6, x6), (7, x7), (8, x8)]) h K =
    bnd (pBin Try.prog .add 3 (.tmp 8) (.const (.int .i64 1)) x8 (.int .i64 1)) fun x15 =>
    K .normal (act 18 [(3, x3), (6, x6), (7, x7), (8, x15)]) h := kq_reg
noncomputable def F50_lrlrr {β : Type} (inv : Inv) (k : Nat) : Nat → Value → Value → Value → Value → AH → (Value → Value → Value → Value → Value → AH → Option β) → Option β
  | 0, _, _, _, _, _, _ => none
  | j + 1, x3, x6, x7, x8, h, ke0 =>
    bnd (pBin Try.prog .lss 3 (.tmp 8) (.tmp 7) x8 x7) fun x9 =>
    brV x9
    (bnd (pIndexAddr Try.prog 52 x6 x8) fun x10 =>
    bnd (pLoad Try.prog 49 x10 h) fun x11 =>
    bnd (pBin Try.prog .or 49 (.tmp 12) (.tmp 13) x3 x11) fun x14 =>
    bnd (pBin Try.prog .add 3 (.tmp 8) (.const (.int .i64 1)) x8 (.int .i64 1)) fun x15 =>
    F50_lrlrr inv k j x14 x6 x7 x15 h ke0)
    (ke0 x3 x6 x7 x8 x9 h)
theorem F50_lrlrr_j (j : Nat) : kLoop (kCode env 50 false inv k (cp c50 116)) j (act 18 [(3, x3), (6, x6), (7, x7), (8, x8)]) h K = F50_lrlrr inv k j x3 x6 x7 x8 h (fun y3 y6 y7 y8 y9 h => K (.exit 0) (act 18 [(3, y3), (6, y6), (7, y7), (8, y8), (9, y9)]) h) := by
      induction j generalizing x3 x6 x7 x8 h with
      | zero => rfl
      | succ j ih =>
        unfold F50_lrlrr
        simp only [kLoop, kq_seq c50 116, r50_3, kq_seq c50 233, b50_lrllrlrr, kq_skip c50 932, kq_seq c50 467, kq_block c50 934 1, kq_seq c50 1868, r50_4, r50_5, r50_6, kq_exit c50 933 0, ih, reduceIte, reduceCtorEq, XE.exit.injEq, Nat.reduceEqDiff, Nat.reduceMul, Nat.reduceAdd] <;> kernel_rfl
theorem F50_lrlrr_eq  : kCode env 50 false inv k (cp c50 58) (act 18 [(3, x3), (6, x6), (7, x7), (8, x8)]) h K = F50_lrlrr inv k k x3 x6 x7 x8 h (fun y3 y6 y7 y8 y9 h => K (.exit 0) (act 18 [(3, y3), (6, y6), (7, y7), (8, y8), (9, y9)]) h) := kq_loop (F50_lrlrr_j k)
theorem r50_7  : kCode env 50 false inv k (cp c50 30) (act 18 [(3, x3), (6, x6), (7, x7), (8, x8), (9, x9)]) h K =
    bnd (inv (.func 62) #[] #[x3] h) fun x17 =>
    K .normal (act 18 [(2, x17.1)]) x17.2 := kq_reg
theorem res50_0 : resOfFn env.P 50 .ret (act 18 [(2, x2)]) h = some (x2, h) := kq_res
/-- shadowbook/packs.Width -/
noncomputable def F50 (inv : Inv) (k : Nat) (x0 : Value) (h : AH) : Option (Value × AH) :=
    bnd (pLen Try.prog #[52] x0 h) fun x7 =>
    F50_lrlrr inv k k (.int .u64 0) x0 x7 (.int .i64 0) h
    (fun y3 y6 y7 y8 y9 h =>
    bnd (inv (.func 62) #[] #[y3] h) fun x17 =>
    some (x17.1, x17.2))
theorem F50_eq : eFun env k inv 50 #[x0] h = F50 inv k x0 h := by
      refine (kq_fun (a := act 18 [(0, x0)]) (c := cp c50 1)).trans ?_
      unfold F50
      simp only [kq_seq c50 1, r50_0, kq_seq c50 3, r50_1, kq_seq c50 7, kq_seq c50 14, r50_2, kq_block c50 29 0, F50_lrlrr_eq, kq_seq c50 15, r50_7, kq_ret c50 31, res50_0, reduceIte, reduceCtorEq, XE.exit.injEq, Nat.reduceEqDiff, Nat.reduceMul, Nat.reduceAdd] <;> kernel_rfl
theorem F50_call : eInv env (k + 1) (.func 50) #[] #[x0] h = F50 (eInv env k) k x0 h := kq_inv F50_eq
noncomputable def c51 : Code := codeOf Try.prog 51
theorem r51_0  : kCode env 51 false inv k (cp c51 2) (act 18 [(0, x0), (1, x1), (2, x2), (3, x3)]) h K =
    bnd (pLoad Try.prog 5 x1 h) fun x5 =>
    bnd (pLoad Try.prog 3 x2 h) fun x7 =>
    bnd (pBin Try.prog .shl 5 (.tmp 6) (.tmp 7) x0 x7) fun x8 =>
    bnd (pBin Try.prog .or 5 (.tmp 5) (.tmp 8) x5 x8) fun x9 =>
    bnd (kSt (pStore Try.prog 5 x1 x9 h)) fun u =>
    K .normal (act 18 [(1, x1), (2, x2), (3, x3)]) u.2 := kq_draw
theorem r51_1  : kCode env 51 false inv k (cp c51 6) (act 18 [(1, x1), (2, x2), (3, x3)]) h K =
    bnd (pLoad Try.prog 3 x2 h) fun x10 =>
    bnd (pBin Try.prog .add 3 (.tmp 10) (.const (.int .i64 1)) x10 (.int .i64 1)) fun x11 =>
    bnd (kSt (pStore Try.prog 3 x2 x11 h)) fun u =>
    K .normal (act 18 [(1, x1), (2, x2), (3, x3)]) u.2 := kq_reg
theorem r51_2  : kCode env 51 false inv k (cp c51 14) (act 18 [(1, x1), (2, x2), (3, x3)]) h K =
    bnd (pLoad Try.prog 3 x2 h) fun x12 =>
    bnd (pBin Try.prog .eql 3 (.tmp 12) (.const (.int .i64 8)) x12 (.int .i64 8)) fun x13 =>
    K .normal (act 18 [(1, x1), (2, x2), (3, x3), (13, x13)]) h := kq_reg
theorem b51_rrr  : kCode env 51 false inv k (cp c51 15) (act 18 [(1, x1), (2, x2), (3, x3), (13, x13)]) h K = brV x13 (kCode env 51 false inv k (cp c51 30) (act 18 [(1, x1), (2, x2), (3, x3), (13, x13)]) h K) (kCode env 51 false inv k (cp c51 31) (act 18 [(1, x1), (2, x2), (3, x3), (13, x13)]) h K) := kq_cond
theorem r51_3  : kCode env 51 false inv k (cp c51 60) (act 18 [(1, x1), (2, x2), (3, x3), (13, x13)]) h K =
    bnd (pLoad Try.prog 32 x3 h) fun x14 =>
    bnd (pLoad Try.prog 5 x1 h) fun x15 =>
    bnd (pBuildSlice Try.prog 32 1 #[(0, x15)] h) fun x16 =>
    bnd (pAppend Try.prog #[32, 32] x14 x16.1 x16.2) fun x17 =>
    bnd (kSt (pStore Try.prog 32 x3 x17.1 x17.2)) fun u =>
    K .normal (act 18 [(1, x1), (2, x2)]) u.2 := kq_reg
theorem r51_4  : kCode env 51 false inv k (cp c51 61) (act 18 [(1, x1), (2, x2)]) h K =
    bnd (kSt (pStore Try.prog 5 x1 (.int .u8 0) h)) fun u =>
    bnd (kSt (pStore Try.prog 3 x2 (.int .i64 0) u.2)) fun u_3 =>
    K .normal (act 18 []) u_3.2 := kq_reg
theorem res51_0 : resOfFn env.P 51 .normal (act 18 []) h = some (.tuple #[], h) := kq_res
theorem res51_1 : resOfFn env.P 51 .normal (act 18 [(1, x1), (2, x2), (3, x3), (13, x13)]) h = some (.tuple #[], h) := kq_res
/-- shadowbook/packs.Put$1 -/
noncomputable def F51 (inv : Inv) (k : Nat) (x0 x1 x2 x3 : Value) (h : AH) : Option (Value × AH) :=
    bnd (pLoad Try.prog 5 x1 h) fun x5 =>
    bnd (pLoad Try.prog 3 x2 h) fun x7 =>
    bnd (pBin Try.prog .shl 5 (.tmp 6) (.tmp 7) x0 x7) fun x8 =>
    bnd (pBin Try.prog .or 5 (.tmp 5) (.tmp 8) x5 x8) fun x9 =>
    bnd (kSt (pStore Try.prog 5 x1 x9 h)) fun u =>
    bnd (pLoad Try.prog 3 x2 u.2) fun x10 =>
    bnd (pBin Try.prog .add 3 (.tmp 10) (.const (.int .i64 1)) x10 (.int .i64 1)) fun x11 =>
    bnd (kSt (pStore Try.prog 3 x2 x11 u.2)) fun u_1 =>
    bnd (pLoad Try.prog 3 x2 u_1.2) fun x12 =>
    bnd (pBin Try.prog .eql 3 (.tmp 12) (.const (.int .i64 8)) x12 (.int .i64 8)) fun x13 =>
    brV x13
    (bnd (pLoad Try.prog 32 x3 u_1.2) fun x14 =>
    bnd (pLoad Try.prog 5 x1 u_1.2) fun x15 =>
    bnd (pBuildSlice Try.prog 32 1 #[(0, x15)] u_1.2) fun x16 =>
    bnd (pAppend Try.prog #[32, 32] x14 x16.1 x16.2) fun x17 =>
    bnd (kSt (pStore Try.prog 32 x3 x17.1 x17.2)) fun u_2 =>
    bnd (kSt (pStore Try.prog 5 x1 (.int .u8 0) u_2.2)) fun u_4 =>
    bnd (kSt (pStore Try.prog 3 x2 (.int .i64 0) u_4.2)) fun u_5 =>
    some (.tuple #[], u_5.2))
    (some (.tuple #[], u_1.2))
theorem F51_eq : eFun env k inv 51 #[x0, x1, x2, x3] h = F51 inv k x0 x1 x2 x3 h := by
      refine (kq_fun (a := act 18 [(0, x0), (1, x1), (2, x2), (3, x3)]) (c := cp c51 1)).trans ?_
      unfold F51
      simp only [kq_seq c51 1, r51_0, kq_seq c51 3, r51_1, kq_seq c51 7, r51_2, b51_rrr, kq_seq c51 30, r51_3, r51_4, res51_0, kq_skip c51 31, res51_1, reduceIte, reduceCtorEq, XE.exit.injEq, Nat.reduceEqDiff, Nat.reduceMul, Nat.reduceAdd] <;> kernel_rfl
theorem F51_call : eInv env (k + 1) (.func 51) #[] #[x0, x1, x2, x3] h = F51 (eInv env k) k x0 x1 x2 x3 h := kq_inv F51_eq
noncomputable def c52 : Code := codeOf Try.prog 52
theorem r52_0  : kCode env 52 false inv k (cp c52 2) (act 8 [(0, x0)]) h K =
    K .normal (act 8 [(0, x0)]) h := kq_reg
theorem r52_1  : kCode env 52 false inv k (cp c52 12) (act 8 [(0, x0)]) h K =
    bnd (pBin Try.prog .eql 32 (.tmp 3) (.const (.slice none 0 0)) x0 (.slice none 0 0)) fun x4 =>
    K .normal (act 8 [(0, x0), (4, x4)]) h := kq_reg
theorem b52_rlr  : kCode env 52 false inv k (cp c52 13) (act 8 [(0, x0), (4, x4)]) h K = brV x4 (kCode env 52 false inv k (cp c52 26) (act 8 [(0, x0), (4, x4)]) h K) (kCode env 52 false inv k (cp c52 27) (act 8 [(0, x0), (4, x4)]) h K) := kq_cond
theorem r52_2  : kCode env 52 false inv k (cp c52 52) (act 8 [(0, x0), (4, x4)]) h K =
    K .normal (act 8 [(2, (.slice none 0 0))]) h := kq_reg
theorem res52_0 : resOfFn env.P 52 .ret (act 8 [(2, x2)]) h = some (x2, h) := kq_res
theorem r52_3  : kCode env 52 false inv k (cp c52 14) (act 8 [(0, x0), (4, x4)]) h K =
    bnd (pBuildSlice Try.prog 32 0 #[] h) fun x5 =>
    bnd (pAppend Try.prog #[32, 32] x5.1 x0 x5.2) fun x7 =>
    K .normal (act 8 [(2, x7.1)]) x7.2 := kq_reg
/-- slices.Clone[[]byte,byte] -/
noncomputable def F52 (inv : Inv) (k : Nat) (x0 : Value) (h : AH) : Option (Value × AH) :=
    bnd (pBin Try.prog .eql 32 (.tmp 3) (.const (.slice none 0 0)) x0 (.slice none 0 0)) fun x4 =>
    brV x4
    (some ((.slice none 0 0), h))
    (bnd (pBuildSlice Try.prog 32 0 #[] h) fun x5 =>
    bnd (pAppend Try.prog #[32, 32] x5.1 x0 x5.2) fun x7 =>
    some (x7.1, x7.2))
theorem F52_eq : eFun env k inv 52 #[x0] h = F52 inv k x0 h := by
      refine (kq_fun (a := act 8 [(0, x0)]) (c := cp c52 1)).trans ?_
      unfold F52
      simp only [kq_seq c52 1, r52_0, kq_seq c52 3, kq_seq c52 6, r52_1, b52_rlr, kq_seq c52 26, r52_2, kq_ret c52 53, res52_0, kq_skip c52 27, kq_seq c52 7, r52_3, kq_ret c52 15, reduceIte, reduceCtorEq, XE.exit.injEq, Nat.reduceEqDiff, Nat.reduceMul, Nat.reduceAdd] <;> kernel_rfl
theorem F52_call : eInv env (k + 1) (.func 52) #[] #[x0] h = F52 (eInv env k) k x0 h := kq_inv F52_eq
noncomputable def c53 : Code := codeOf Try.prog 53
theorem r53_0  : kCode env 53 false inv k (cp c53 2) (act 15 [(0, x0)]) h K =
    K .normal (act 15 [(0, x0)]) h := kq_reg
theorem r53_1  : kCode env 53 false inv k (cp c53 12) (act 15 [(0, x0)]) h K =
    bnd (pNilCheck x0) fun x4 =>
    bnd (pFieldAddr Try.prog 73 x4 0) fun x5 =>
    bnd (pLoad Try.prog 32 x5 h) fun x6 =>
    bnd (pLen Try.prog #[32] x6 h) fun x7 =>
    bnd (pBin Try.prog .geq 3 (.tmp 7) (.const (.int .i64 10)) x7 (.int .i64 10)) fun x8 =>
    K .normal (act 15 [(0, x0), (8, x8)]) h := kq_reg
theorem b53_rlr  : kCode env 53 false inv k (cp c53 13) (act 15 [(0, x0), (8, x8)]) h K = brV x8 (kCode env 53 false inv k (cp c53 26) (act 15 [(0, x0), (8, x8)]) h K) (kCode env 53 false inv k (cp c53 27) (act 15 [(0, x0), (8, x8)]) h K) := kq_cond
theorem r53_2  : kCode env 53 false inv k (cp c53 52) (act 15 [(0, x0), (8, x8)]) h K =
    K .normal (act 15 [(2, (.bool false))]) h := kq_reg
theorem res53_0 : resOfFn env.P 53 .ret (act 15 [(2, x2)]) h = some (x2, h) := kq_res
theorem r53_3  : kCode env 53 false inv k (cp c53 14) (act 15 [(0, x0), (8, x8)]) h K =
    bnd (pNilCheck x0) fun x10 =>
    bnd (pFieldAddr Try.prog 73 x10 0) fun x11 =>
    bnd (pLoad Try.prog 32 x11 h) fun x12 =>
    bnd (inv (.func 63) #[] #[x12, (.func (.func 64) #[] #[])] h) fun x13 =>
    bnd (pUn Try.prog .not x13.1) fun x14 =>
    K .normal (act 15 [(2, x14)]) x13.2 := kq_reg
/-- (*shadowbook/octet.Reader).ends -/
noncomputable def F53 (inv : Inv) (k : Nat) (x0 : Value) (h : AH) : Option (Value × AH) :=
    bnd (pNilCheck x0) fun x4 =>
    bnd (pFieldAddr Try.prog 73 x4 0) fun x5 =>
    bnd (pLoad Try.prog 32 x5 h) fun x6 =>
    bnd (pLen Try.prog #[32] x6 h) fun x7 =>
    bnd (pBin Try.prog .geq 3 (.tmp 7) (.const (.int .i64 10)) x7 (.int .i64 10)) fun x8 =>
    brV x8
    (some ((.bool false), h))
    (bnd (pNilCheck x0) fun x10 =>
    bnd (pFieldAddr Try.prog 73 x10 0) fun x11 =>
    bnd (pLoad Try.prog 32 x11 h) fun x12 =>
    bnd (inv (.func 63) #[] #[x12, (.func (.func 64) #[] #[])] h) fun x13 =>
    bnd (pUn Try.prog .not x13.1) fun x14 =>
    some (x14, x13.2))
theorem F53_eq : eFun env k inv 53 #[x0] h = F53 inv k x0 h := by
      refine (kq_fun (a := act 15 [(0, x0)]) (c := cp c53 1)).trans ?_
      unfold F53
      simp only [kq_seq c53 1, r53_0, kq_seq c53 3, kq_seq c53 6, r53_1, b53_rlr, kq_seq c53 26, r53_2, kq_ret c53 53, res53_0, kq_skip c53 27, kq_seq c53 7, r53_3, kq_ret c53 15, reduceIte, reduceCtorEq, XE.exit.injEq, Nat.reduceEqDiff, Nat.reduceMul, Nat.reduceAdd] <;> kernel_rfl
theorem F53_call : eInv env (k + 1) (.func 53) #[] #[x0] h = F53 (eInv env k) k x0 h := kq_inv F53_eq
noncomputable def c54 : Code := codeOf Try.prog 54
theorem r54_0  : kCode env 54 false inv k (cp c54 2) (act 31 [(0, x0), (1, x1)]) h K =
    K .normal (act 31 [(0, x0), (1, x1)]) h := kq_reg
theorem r54_1  : kCode env 54 false inv k (cp c54 12) (act 31 [(0, x0), (1, x1)]) h K =
    bnd (pNilCheck x0) fun x8 =>
    bnd (pFieldAddr Try.prog 73 x8 0) fun x9 =>
    bnd (pLoad Try.prog 32 x9 h) fun x10 =>
    bnd (pLen Try.prog #[32] x10 h) fun x11 =>
    bnd (pBin Try.prog .lss 3 (.tmp 11) (.tmp 12) x11 x1) fun x13 =>
    K .normal (act 31 [(0, x0), (1, x1), (13, x13)]) h := kq_reg
theorem b54_rlr  : kCode env 54 false inv k (cp c54 13) (act 31 [(0, x0), (1, x1), (13, x13)]) h K = brV x13 (kCode env 54 false inv k (cp c54 26) (act 31 [(0, x0), (1, x1), (13, x13)]) h K) (kCode env 54 false inv k (cp c54 27) (act 31 [(0, x0), (1, x1), (13, x13)]) h K) := kq_cond
theorem r54_2  : kCode env 54 false inv k (cp c54 52) (act 31 [(0, x0), (1, x1), (13, x13)]) h K =
    K .normal (act 31 [(4, (.slice none 0 0)), (5, (.int .i64 7))]) h := kq_reg
theorem res54_0 : resOfFn env.P 54 .ret (act 31 [(4, x4), (5, x5)]) h = some (.tuple #[x4, x5], h) := kq_res
theorem r54_3  : kCode env 54 false inv k (cp c54 14) (act 31 [(0, x0), (1, x1), (13, x13)]) h K =
    bnd (pNilCheck x0) fun x15 =>
    bnd (pFieldAddr Try.prog 73 x15 0) fun x16 =>
    bnd (pLoad Try.prog 32 x16 h) fun x17 =>
    bnd (pSlice Try.prog 32 x17 none (some x1) (some x1) h) fun x20 =>
    K .normal (act 31 [(0, x0), (1, x1), (6, x20)]) h := kq_reg
theorem r54_4  : kCode env 54 false inv k (cp c54 30) (act 31 [(0, x0), (1, x1), (6, x6)]) h K =
    bnd (pNilCheck x0) fun x23 =>
    bnd (pFieldAddr Try.prog 73 x23 0) fun x24 =>
    bnd (pLoad Try.prog 32 x24 h) fun x25 =>
    bnd (pSlice Try.prog 32 x25 (some x1) none none h) fun x27 =>
    bnd (pNilCheck x0) fun x28 =>
    bnd (pFieldAddr Try.prog 73 x28 0) fun x29 =>
    bnd (kSt (pStore Try.prog 32 x29 x27 h)) fun u =>
    K .normal (act 31 [(6, x6)]) u.2 := kq_reg
theorem r54_5  : kCode env 54 false inv k (cp c54 62) (act 31 [(6, x6)]) h K =
    K .normal (act 31 [(4, x6), (5, (.int .i64 0))]) h := kq_reg
/-- (*shadowbook/octet.Reader).take -/
noncomputable def F54 (inv : Inv) (k : Nat) (x0 x1 : Value) (h : AH) : Option (Value × AH) :=
    bnd (pNilCheck x0) fun x8 =>
    bnd (pFieldAddr Try.prog 73 x8 0) fun x9 =>
    bnd (pLoad Try.prog 32 x9 h) fun x10 =>
    bnd (pLen Try.prog #[32] x10 h) fun x11 =>
    bnd (pBin Try.prog .lss 3 (.tmp 11) (.tmp 12) x11 x1) fun x13 =>
    brV x13
    (some (.tuple #[(.slice none 0 0), (.int .i64 7)], h))
    (bnd (pNilCheck x0) fun x15 =>
    bnd (pFieldAddr Try.prog 73 x15 0) fun x16 =>
    bnd (pLoad Try.prog 32 x16 h) fun x17 =>
    bnd (pSlice Try.prog 32 x17 none (some x1) (some x1) h) fun x20 =>
    bnd (pNilCheck x0) fun x23 =>
    bnd (pFieldAddr Try.prog 73 x23 0) fun x24 =>
    bnd (pLoad Try.prog 32 x24 h) fun x25 =>
    bnd (pSlice Try.prog 32 x25 (some x1) none none h) fun x27 =>
    bnd (pNilCheck x0) fun x28 =>
    bnd (pFieldAddr Try.prog 73 x28 0) fun x29 =>
    bnd (kSt (pStore Try.prog 32 x29 x27 h)) fun u =>
    some (.tuple #[x20, (.int .i64 0)], u.2))
theorem F54_eq : eFun env k inv 54 #[x0, x1] h = F54 inv k x0 x1 h := by
      refine (kq_fun (a := act 31 [(0, x0), (1, x1)]) (c := cp c54 1)).trans ?_
      unfold F54
      simp only [kq_seq c54 1, r54_0, kq_seq c54 3, kq_seq c54 6, r54_1, b54_rlr, kq_seq c54 26, r54_2, kq_ret c54 53, res54_0, kq_skip c54 27, kq_seq c54 7, r54_3, kq_seq c54 15, r54_4, kq_seq c54 31, r54_5, kq_ret c54 63, reduceIte, reduceCtorEq, XE.exit.injEq, Nat.reduceEqDiff, Nat.reduceMul, Nat.reduceAdd] <;> kernel_rfl
theorem F54_call : eInv env (k + 1) (.func 54) #[] #[x0, x1] h = F54 (eInv env k) k x0 x1 h := kq_inv F54_eq
noncomputable def c55 : Code := codeOf Try.prog 55
theorem r55_0  : kCode env 55 false inv k (cp c55 2) (act 18 [(0, x0)]) h K =
    bnd (pAlloc Try.prog 49 h) fun x2 =>
    K .normal (act 18 [(0, x0), (2, x2.1)]) x2.2 := kq_reg
theorem r55_1  : kCode env 55 false inv k (cp c55 12) (act 18 [(0, x0), (2, x2)]) h K =
    bnd (pLen Try.prog #[32] x0 h) fun x6 =>
    bnd (pBin Try.prog .gtr 3 (.tmp 6) (.const (.int .i64 8)) x6 (.int .i64 8)) fun x7 =>
    K .normal (act 18 [(0, x0), (2, x2), (7, x7)]) h := kq_reg
theorem b55_rlr  : kCode env 55 false inv k (cp c55 13) (act 18 [(0, x0), (2, x2), (7, x7)]) h K = brV x7 (kCode env 55 false inv k (cp c55 26) (act 18 [(0, x0), (2, x2), (7, x7)]) h K) (kCode env 55 false inv k (cp c55 27) (act 18 [(0, x0), (2, x2), (7, x7)]) h K) := kq_cond
theorem r55_2  : kCode env 55 false inv k (cp c55 52) (act 18 [(0, x0), (2, x2), (7, x7)]) h K =
    bnd (kSt (pStore Try.prog 49 x2 (.int .u64 0) h)) fun u =>
    K .normal (act 18 [(2, x2)]) u.2 := kq_reg
theorem res55_0 : resOfFn env.P 55 .ret (act 18 [(2, x2)]) h = bnd (pLoad Try.prog 49 x2 h) fun q0 =>
    some (q0, h) := kq_res
theorem r55_3  : kCode env 55 false inv k (cp c55 28) (act 18 [(0, x0), (2, x2), (7, x7)]) h K =
    bnd (inv (.func 65) #[] #[x0] h) fun x9 =>
    K .normal (act 18 [(2, x2), (9, x9.1)]) x9.2 := kq_reg
theorem g55_lrlrr  : kCode env 55 false inv k (cp c55 58) (act 18 [(2, x2), (9, x9)]) h K = kRange env 55 inv x9 (psOf (cp c55 58)) (cp c55 116) (cp c55 117) (act 18 [(2, x2), (9, x9)]) h fun e h => sw e (K .normal (act 18 [(2, x2), (9, x9)]) h) (none) [] := kq_range (g := x9) (ids := [])
noncomputable def F55_rlrr {β : Type} (inv : Inv) (k : Nat) (x2 x9 : Value) (h : AH) (kn : (Value → Value → AH → Option β)) : Option β :=
    kRange env 55 inv x9 (psOf (cp c55 58)) (cp c55 116) (cp c55 117) (act 18 [(2, x2), (9, x9)]) h fun e h => sw e
    (kn x2 x9 h)
    none []
theorem F55_rlrr_eq  : kCode env 55 false inv k (cp c55 29) (act 18 [(2, x2), (9, x9)]) h K = F55_rlrr inv k x2 x9 h (fun y2 y9 h => K .normal (act 18 [(2, y2), (9, y9)]) h) := by
      unfold F55_rlrr
      simp only [kq_block c55 29 0, g55_lrlrr, reduceIte, reduceCtorEq, XE.exit.injEq, Nat.reduceEqDiff, Nat.reduceMul, Nat.reduceAdd] <;> kernel_rfl
theorem r55_6  : kCode env 55 false inv k (cp c55 30) (act 18 [(2, x2), (9, x9)]) h K =
    bnd (pLoad Try.prog 49 x2 h) fun x17 =>
    bnd (kSt (pStore Try.prog 49 x2 x17 h)) fun u =>
    K .normal (act 18 [(2, x2)]) u.2 := kq_reg
/-- shadowbook/octet.Of -/
noncomputable def F55 (inv : Inv) (k : Nat) (x0 : Value) (h : AH) : Option (Value × AH) :=
    bnd (pAlloc Try.prog 49 h) fun x2 =>
    bnd (pLen Try.prog #[32] x0 x2.2) fun x6 =>
    bnd (pBin Try.prog .gtr 3 (.tmp 6) (.const (.int .i64 8)) x6 (.int .i64 8)) fun x7 =>
    brV x7
    (bnd (kSt (pStore Try.prog 49 x2.1 (.int .u64 0) x2.2)) fun u =>
    bnd (pLoad Try.prog 49 x2.1 u.2) fun q0 =>
    some (q0, u.2))
    (bnd (inv (.func 65) #[] #[x0] x2.2) fun x9 =>
    F55_rlrr inv k x2.1 x9.1 x9.2
    (fun y2 y9 h =>
    bnd (pLoad Try.prog 49 y2 h) fun x17 =>
    bnd (kSt (pStore Try.prog 49 y2 x17 h)) fun u_1 =>
    bnd (pLoad Try.prog 49 y2 u_1.2) fun q0 =>
    some (q0, u_1.2)))
theorem F55_eq : eFun env k inv 55 #[x0] h = F55 inv k x0 h := by
      refine (kq_fun (a := act 18 [(0, x0)]) (c := cp c55 1)).trans ?_
      unfold F55
      simp only [kq_seq c55 1, r55_0, kq_seq c55 3, kq_seq c55 6, r55_1, b55_rlr, kq_seq c55 26, r55_2, kq_ret c55 53, res55_0, kq_skip c55 27, kq_seq c55 7, kq_seq c55 14, r55_3, F55_rlrr_eq, kq_seq c55 15, r55_6, kq_ret c55 31, reduceIte, reduceCtorEq, XE.exit.injEq, Nat.reduceEqDiff, Nat.reduceMul, Nat.reduceAdd] <;> kernel_rfl
theorem F55_call : eInv env (k + 1) (.func 55) #[] #[x0] h = F55 (eInv env k) k x0 h := kq_inv F55_eq
theorem r55_4  : kCode env 55 true inv k (cp c55 116) (act 18 [(2, x2), (9, x9), (10, x10), (11, x11)]) h K =
    K .normal (act 18 [(2, x2), (4, x11)]) h := kq_reg
theorem r55_5  : kCode env 55 true inv k (cp c55 234) (act 18 [(2, x2), (4, x4)]) h K =
    bnd (pLoad Try.prog 49 x2 h) fun x12 =>
    bnd (pBin Try.prog .shl 49 (.tmp 12) (.const (.int .u64 8)) x12 (.int .u64 8)) fun x13 =>
    bnd (pConv Try.prog 5 49 x4 h) fun x15 =>
    bnd (pBin Try.prog .or 49 (.tmp 13) (.tmp 15) x13 x15) fun x16 =>
    bnd (kSt (pStore Try.prog 49 x2 x16 h)) fun u =>
    K .normal (act 18 []) u.2 := kq_reg
noncomputable def R55_lrlrr (inv : Inv) (k l : Nat) (x2 x9 z0 z1 : Value) (h : AH) : Option (Value × AH) :=
    rdBegin l h fun h =>
    bnd (pLoad Try.prog 49 x2 h) fun x12 =>
    bnd (pBin Try.prog .shl 49 (.tmp 12) (.const (.int .u64 8)) x12 (.int .u64 8)) fun x13 =>
    bnd (pConv Try.prog 5 49 z1 h) fun x15 =>
    bnd (pBin Try.prog .or 49 (.tmp 13) (.tmp 15) x13 x15) fun x16 =>
    bnd (kSt (pStore Try.prog 49 x2 x16 h)) fun u =>
    rdEnd l .normal u.2
theorem R55_lrlrr_eq {l : Nat} {pd : Option Code} (hl : h.get l = some (.loop .ready pd 55 (act 18 [(2, x2), (9, x9)]).tmps (psOf (cp c55 58)) (cp c55 116) (cp c55 117))) : eRound env k inv l #[z0, z1] h = R55_lrlrr inv k l x2 x9 z0 z1 h := by
      refine (eRound_k (a := act 18 [(2, x2), (9, x9), (10, z0), (11, z1)]) hl (by kernel_rfl) (by kernel_rfl)).trans ?_
      unfold R55_lrlrr
      simp only [r55_4, kq_block c55 117 1, r55_5, reduceIte, reduceCtorEq, XE.exit.injEq, Nat.reduceEqDiff, Nat.reduceMul, Nat.reduceAdd] <;> kernel_rfl
noncomputable def c56 : Code := codeOf Try.prog 56
theorem r56_0  : kCode env 56 false inv k (cp c56 2) (act 30 [(0, x0), (1, x1)]) h K =
    K .normal (act 30 [(0, x0), (1, x1)]) h := kq_reg
theorem b56_lr  : kCode env 56 false inv k (cp c56 6) (act 30 [(0, x0), (1, x1)]) h K = brV (.bool false) (kCode env 56 false inv k (cp c56 12) (act 30 [(0, x0), (1, x1)]) h K) (kCode env 56 false inv k (cp c56 13) (act 30 [(0, x0), (1, x1)]) h K) := kq_cond
theorem r56_1  : kCode env 56 false inv k (cp c56 24) (act 30 [(0, x0), (1, x1)]) h K =
    bnd (pConv Try.prog 68 89 x0 h) fun x12 =>
    bnd (pConv Try.prog 68 89 x1 h) fun x14 =>
    bnd (inv (.func 66) #[] #[x12, x14] h) fun x15 =>
    bnd (pExtract x15.1 0) fun x16 =>
    bnd (pExtract x15.1 1) fun x17 =>
    K .normal (act 30 [(6, x16), (7, x17)]) x15.2 := kq_reg
theorem r56_2  : kCode env 56 false inv k (cp c56 50) (act 30 [(6, x6), (7, x7)]) h K =
    bnd (pConv Try.prog 89 68 x6 h) fun x19 =>
    bnd (pConv Try.prog 89 68 x7 h) fun x21 =>
    K .normal (act 30 [(4, x19), (5, x21)]) h := kq_reg
theorem res56_0 : resOfFn env.P 56 .ret (act 30 [(4, x4), (5, x5)]) h = some (.tuple #[x4, x5], h) := kq_res
theorem r56_3  : kCode env 56 false inv k (cp c56 14) (act 30 [(0, x0), (1, x1)]) h K =
    bnd (inv (.func 67) #[] #[x0, x1] h) fun x25 =>
    bnd (pExtract x25.1 0) fun x26 =>
    bnd (pExtract x25.1 1) fun x27 =>
    K .normal (act 30 [(8, x26), (9, x27)]) x25.2 := kq_reg
theorem r56_4  : kCode env 56 false inv k (cp c56 30) (act 30 [(8, x8), (9, x9)]) h K =
    K .normal (act 30 [(4, x8), (5, x9)]) h := kq_reg
/-- math/bits.Mul -/
noncomputable def F56 (inv : Inv) (k : Nat) (x0 x1 : Value) (h : AH) : Option (Value × AH) :=
    brV (.bool false)
    (bnd (pConv Try.prog 68 89 x0 h) fun x12 =>
    bnd (pConv Try.prog 68 89 x1 h) fun x14 =>
    bnd (inv (.func 66) #[] #[x12, x14] h) fun x15 =>
    bnd (pExtract x15.1 0) fun x16 =>
    bnd (pExtract x15.1 1) fun x17 =>
    bnd (pConv Try.prog 89 68 x16 x15.2) fun x19 =>
    bnd (pConv Try.prog 89 68 x17 x15.2) fun x21 =>
    some (.tuple #[x19, x21], x15.2))
    (bnd (inv (.func 67) #[] #[x0, x1] h) fun x25 =>
    bnd (pExtract x25.1 0) fun x26 =>
    bnd (pExtract x25.1 1) fun x27 =>
    some (.tuple #[x26, x27], x25.2))
theorem F56_eq : eFun env k inv 56 #[x0, x1] h = F56 inv k x0 x1 h := by
      refine (kq_fun (a := act 30 [(0, x0), (1, x1)]) (c := cp c56 1)).trans ?_
      unfold F56
      simp only [kq_seq c56 1, r56_0, kq_seq c56 3, b56_lr, kq_seq c56 12, r56_1, kq_seq c56 25, r56_2, kq_ret c56 51, res56_0, kq_skip c56 13, kq_seq c56 7, r56_3, kq_seq c56 15, r56_4, kq_ret c56 31, reduceIte, reduceCtorEq, XE.exit.injEq, Nat.reduceEqDiff, Nat.reduceMul, Nat.reduceAdd] <;> kernel_rfl
theorem F56_call : eInv env (k + 1) (.func 56) #[] #[x0, x1] h = F56 (eInv env k) k x0 x1 h := kq_inv F56_eq
noncomputable def c57 : Code := codeOf Try.prog 57
theorem r57_0  : kCode env 57 false inv k (cp c57 2) (act 33 [(0, x0), (1, x1), (2, x2)]) h K =
    K .normal (act 33 [(0, x0), (1, x1), (2, x2)]) h := kq_reg
theorem r57_1  : kCode env 57 false inv k (cp c57 24) (act 33 [(0, x0), (1, x1), (2, x2)]) h K =
    bnd (inv (.func 49) #[] #[x1, x2] h) fun x10 =>
    bnd (pUn Try.prog .not x10.1) fun x11 =>
    K .normal (act 33 [(0, x0), (1, x1), (2, x2), (7, x11)]) x10.2 := kq_reg
theorem b57_rllr  : kCode env 57 false inv k (cp c57 25) (act 33 [(0, x0), (1, x1), (2, x2), (7, x7)]) h K = brV x7 (kCode env 57 false inv k (cp c57 50) (act 33 [(0, x0), (1, x1), (2, x2), (7, x7)]) h K) (kCode env 57 false inv k (cp c57 51) (act 33 [(0, x0), (1, x1), (2, x2), (7, x7)]) h K) := kq_cond
theorem r57_2  : kCode env 57 false inv k (cp c57 100) (act 33 [(0, x0), (1, x1), (2, x2), (7, x7)]) h K =
    K .normal (act 33 [(6, (.int .i64 2))]) h := kq_reg
theorem res57_0 : resOfFn env.P 57 .ret (act 33 [(6, x6)]) h = some (x6, h) := kq_res
theorem r57_3  : kCode env 57 false inv k (cp c57 102) (act 33 [(0, x0), (1, x1), (2, x2), (7, x7)]) h K =
    bnd (pLen Try.prog #[32] x0 h) fun x14 =>
    bnd (inv (.func 34) #[] #[x1, x2] h) fun x17 =>
    bnd (pBin Try.prog .neq 3 (.tmp 14) (.tmp 17) x14 x17.1) fun x18 =>
    K .normal (act 33 [(0, x0), (1, x1), (2, x2), (12, x18)]) x17.2 := kq_reg
theorem b57_rrrllr  : kCode env 57 false inv k (cp c57 103) (act 33 [(0, x0), (1, x1), (2, x2), (12, x12)]) h K = brV x12 (kCode env 57 false inv k (cp c57 206) (act 33 [(0, x0), (1, x1), (2, x2), (12, x12)]) h K) (kCode env 57 false inv k (cp c57 207) (act 33 [(0, x0), (1, x1), (2, x2), (12, x12)]) h K) := kq_cond
theorem r57_4  : kCode env 57 false inv k (cp c57 412) (act 33 [(0, x0), (1, x1), (2, x2), (12, x12)]) h K =
    K .normal (act 33 [(6, (.int .i64 4))]) h := kq_reg
noncomputable abbrev G57_5 {β : Type} (inv : Inv) (x0 x1 x2 : Value) (h : AH) (K : Value → AH → Option β) : Option β :=
    bnd (pBin Try.prog .mul 3 (.tmp 21) (.tmp 22) x1 x2) fun x23 =>
    bnd (pLen Try.prog #[32] x0 h) fun x25 =>
    bnd (pBin Try.prog .mul 3 (.const (.int .i64 8)) (.tmp 25) (.int .i64 8) x25) fun x26 =>
    bnd (pBin Try.prog .mul 3 (.tmp 27) (.tmp 28) x1 x2) fun x29 =>
    bnd (pBin Try.prog .sub 3 (.tmp 26) (.tmp 29) x26 x29) fun x30 =>
    bnd (inv (.func 68) #[] #[x0, x23, x30] h) fun x31 =>
    bnd (pBin Try.prog .neq 49 (.tmp 31) (.const (.int .u64 0)) x31.1 (.int .u64 0)) fun x32 =>
    K (x32) x31.2
theorem r57_5  : kCode env 57 false inv k (cp c57 414) (act 33 [(0, x0), (1, x1), (2, x2), (12, x12)]) h K =
    G57_5 inv x0 x1 x2 h fun y19 h => K .normal (act 33 [(19, y19)]) h := kq_reg
theorem b57_rrrrrllr  : kCode env 57 false inv k (cp c57 415) (act 33 [(19, x19)]) h K = brV x19 (kCode env 57 false inv k (cp c57 830) (act 33 [(19, x19)]) h K) (kCode env 57 false inv k (cp c57 831) (act 33 [(19, x19)]) h K) := kq_cond
theorem r57_6  : kCode env 57 false inv k (cp c57 1660) (act 33 [(19, x19)]) h K =
    K .normal (act 33 [(6, (.int .i64 4))]) h := kq_reg
theorem r57_7  : kCode env 57 false inv k (cp c57 14) (act 33 [(19, x19)]) h K =
    K .normal (act 33 [(6, (.int .i64 0))]) h := kq_reg
/-- shadowbook/packs.check -/
noncomputable def F57 (inv : Inv) (k : Nat) (x0 x1 x2 : Value) (h : AH) : Option (Value × AH) :=
    bnd (inv (.func 49) #[] #[x1, x2] h) fun x10 =>
    bnd (pUn Try.prog .not x10.1) fun x11 =>
    brV x11
    (some ((.int .i64 2), x10.2))
    (bnd (pLen Try.prog #[32] x0 x10.2) fun x14 =>
    bnd (inv (.func 34) #[] #[x1, x2] x10.2) fun x17 =>
    bnd (pBin Try.prog .neq 3 (.tmp 14) (.tmp 17) x14 x17.1) fun x18 =>
    brV x18
    (some ((.int .i64 4), x17.2))
    (G57_5 inv x0 x1 x2 x17.2 fun y19 h =>
    brV y19
    (some ((.int .i64 4), h))
    (some ((.int .i64 0), h))))
theorem F57_eq : eFun env k inv 57 #[x0, x1, x2] h = F57 inv k x0 x1 x2 h := by
      refine (kq_fun (a := act 33 [(0, x0), (1, x1), (2, x2)]) (c := cp c57 1)).trans ?_
      unfold F57
      simp only [kq_seq c57 1, r57_0, kq_seq c57 3, kq_block c57 6 0, kq_seq c57 12, r57_1, b57_rllr, kq_seq c57 50, r57_2, kq_ret c57 101, res57_0, kq_seq c57 51, r57_3, b57_rrrllr, kq_seq c57 206, r57_4, kq_ret c57 413, kq_seq c57 207, r57_5, b57_rrrrrllr, kq_seq c57 830, r57_6, kq_ret c57 1661, kq_skip c57 831, kq_seq c57 7, r57_7, kq_ret c57 15, reduceIte, reduceCtorEq, XE.exit.injEq, Nat.reduceEqDiff, Nat.reduceMul, Nat.reduceAdd] <;> kernel_rfl
theorem F57_call : eInv env (k + 1) (.func 57) #[] #[x0, x1, x2] h = F57 (eInv env k) k x0 x1 x2 h := kq_inv F57_eq
noncomputable def c58 : Code := codeOf Try.prog 58
theorem r58_0  : kCode env 58 false inv k (cp c58 2) (act 8 [(0, x0), (1, x1), (2, x2)]) h K =
    bnd (pBox Try.prog 32 x0 h) fun x3 =>
    bnd (pBox Try.prog 3 x1 x3.2) fun x4 =>
    bnd (pBox Try.prog 3 x2 x4.2) fun x5 =>
    K .normal (act 8 [(3, x3.1), (4, x4.1), (5, x5.1)]) x5.2 := kq_reg
theorem r58_1  : kCode env 58 false inv k (cp c58 6) (act 8 [(3, x3), (4, x4), (5, x5)]) h K =
    bnd (pMakeFunc (.func 69) #[] #[x3, x4, x5]) fun x7 =>
    K .normal (act 8 [(6, x7)]) h := kq_reg
theorem res58_0 : resOfFn env.P 58 .ret (act 8 [(6, x6)]) h = some (x6, h) := kq_res
/-- shadowbook/packs.Each -/
noncomputable def F58 (inv : Inv) (k : Nat) (x0 x1 x2 : Value) (h : AH) : Option (Value × AH) :=
    bnd (pBox Try.prog 32 x0 h) fun x3 =>
    bnd (pBox Try.prog 3 x1 x3.2) fun x4 =>
    bnd (pBox Try.prog 3 x2 x4.2) fun x5 =>
    bnd (pMakeFunc (.func 69) #[] #[x3.1, x4.1, x5.1]) fun x7 =>
    some (x7, x5.2)
theorem F58_eq : eFun env k inv 58 #[x0, x1, x2] h = F58 inv k x0 x1 x2 h := by
      refine (kq_fun (a := act 8 [(0, x0), (1, x1), (2, x2)]) (c := cp c58 1)).trans ?_
      unfold F58
      simp only [kq_seq c58 1, r58_0, kq_seq c58 3, r58_1, kq_ret c58 7, res58_0, reduceIte, reduceCtorEq, XE.exit.injEq, Nat.reduceEqDiff, Nat.reduceMul, Nat.reduceAdd] <;> kernel_rfl
theorem F58_call : eInv env (k + 1) (.func 58) #[] #[x0, x1, x2] h = F58 (eInv env k) k x0 x1 x2 h := kq_inv F58_eq
noncomputable def c59 : Code := codeOf Try.prog 59
theorem r59_0  : kCode env 59 false inv k (cp c59 2) (act 19 [(0, x0), (1, x1)]) h K =
    K .normal (act 19 [(0, x0), (1, x1)]) h := kq_reg
noncomputable abbrev G59_1 {β : Type} (inv : Inv) (x0 x1 : Value) (h : AH) (K : Value → AH → Option β) : Option β :=
    bnd (pBin Try.prog .geq 3 (.tmp 5) (.const (.int .i64 0)) x0 (.int .i64 0)) fun x6 =>
    bnd (gd (some x6) true h (some (x0, h))) fun x8 =>
    bnd (gd (some x6) true x8.2 (lt (pBin Try.prog .leq 3 (.tmp 8) (.const (.int .i64 65536)) x8.1 (.int .i64 65536)) x8.2)) fun x9 =>
    bnd (pickV x6 x9.1 (.bool false)) fun x10 =>
    bnd (gd (some x10) true x9.2 (some (x1, x9.2))) fun x12 =>
    bnd (gd (some x10) true x12.2 (lt (pBin Try.prog .geq 3 (.tmp 12) (.const (.int .i64 0)) x12.1 (.int .i64 0)) x12.2)) fun x13 =>
    bnd (pickV x10 x13.1 (.bool false)) fun x14 =>
    bnd (gd (some x14) true x13.2 (some (x1, x13.2))) fun x16 =>
    bnd (gd (some x14) true x16.2 (lt (pBin Try.prog .leq 3 (.tmp 16) (.const (.int .i64 64)) x16.1 (.int .i64 64)) x16.2)) fun x17 =>
    bnd (pickV x14 x17.1 (.bool false)) fun x18 =>
    K (x18) x17.2
theorem r59_1  : kCode env 59 false inv k (cp c59 6) (act 19 [(0, x0), (1, x1)]) h K =
    G59_1 inv x0 x1 h fun y4 h => K .normal (act 19 [(4, y4)]) h := kq_reg
theorem res59_0 : resOfFn env.P 59 .ret (act 19 [(4, x4)]) h = some (x4, h) := kq_res
/-- shadowbook/shadowbookref05.may -/
noncomputable def F59 (inv : Inv) (k : Nat) (x0 x1 : Value) (h : AH) : Option (Value × AH) :=
    G59_1 inv x0 x1 h fun y4 h =>
    some (y4, h)
theorem F59_eq : eFun env k inv 59 #[x0, x1] h = F59 inv k x0 x1 h := by
      refine (kq_fun (a := act 19 [(0, x0), (1, x1)]) (c := cp c59 1)).trans ?_
      unfold F59
      simp only [kq_seq c59 1, r59_0, kq_seq c59 3, r59_1, kq_ret c59 7, res59_0, reduceIte, reduceCtorEq, XE.exit.injEq, Nat.reduceEqDiff, Nat.reduceMul, Nat.reduceAdd] <;> kernel_rfl
theorem F59_call : eInv env (k + 1) (.func 59) #[] #[x0, x1] h = F59 (eInv env k) k x0 x1 h := kq_inv F59_eq
noncomputable def c60 : Code := codeOf Try.prog 60
theorem r60_0  : kCode env 60 false inv k (cp c60 2) (act 19 [(0, x0)]) h K =
    K .normal (act 19 [(0, x0)]) h := kq_reg
theorem r60_1  : kCode env 60 false inv k (cp c60 6) (act 19 [(0, x0)]) h K =
    K .normal (act 19 [(0, x0), (3, (.int .i64 0))]) h := kq_reg
theorem r60_2  : kCode env 60 false inv k (cp c60 28) (act 19 [(0, x0), (3, x3)]) h K =
    K .normal (act 19 [(0, x0), (3, x3), (4, (.int .i64 0))]) h := kq_reg
theorem r60_3  : kCode env 60 false inv k (cp c60 464) (act 19 [(0, x0), (3, x3), (4, x4)]) h K =
    bnd (pLen Try.prog #[52] x0 h) fun x7 =>
    bnd (pBin Try.prog .lss 3 (.tmp 5) (.tmp 7) x4 x7) fun x8 =>
    K .normal (act 19 [(0, x0), (3, x3), (4, x4), (8, x8)]) h := kq_reg
theorem b60_rlllrlrr  : kCode env 60 false inv k (cp c60 465) (act 19 [(0, x0), (3, x3), (4, x4), (8, x8)]) h K = brV x8 (kCode env 60 false inv k (cp c60 930) (act 19 [(0, x0), (3, x3), (4, x4), (8, x8)]) h K) (kCode env 60 false inv k (cp c60 931) (act 19 [(0, x0), (3, x3), (4, x4), (8, x8)]) h K) := kq_cond
theorem r60_5  : kCode env 60 false inv k (cp c60 932) (act 19 [(0, x0), (3, x3), (4, x4), (8, x8)]) h K =
    bnd (pIndexAddr Try.prog 52 x0 x4) fun x14 =>
    bnd (pLoad Try.prog 49 x14 h) fun x15 =>
    bnd (inv (.func 70) #[] #[x15] h) fun x16 =>
    bnd (pMinMax Try.prog true #[x3, x16.1]) fun x17 =>
    K .normal (act 19 [(0, x0), (3, x17), (4, x4)]) x16.2 := kq_reg
theorem r60_4  : kCode env 60 false inv k (cp c60 467) (act 19 [(0, x0), (3, x3), (4, x4)]) h K =
    bnd (pBin Try.prog .add 3 (.tmp 9) (.const (.int .i64 1)) x4 (.int .i64 1)) fun x10 =>
    K .normal (act 19 [(0, x0), (3, x3), (4, x10)]) h := kq_reg
noncomputable def F60_lrlrr {β : Type} (inv : Inv) (k : Nat) : Nat → Value → Value → Value → AH → (Value → Value → Value → Value → AH → Option β) → Option β
  | 0, _, _, _, _, _ => none
  | j + 1, x0, x3, x4, h, ke0 =>
    bnd (pLen Try.prog #[52] x0 h) fun x7 =>
    bnd (pBin Try.prog .lss 3 (.tmp 5) (.tmp 7) x4 x7) fun x8 =>
    brV x8
    (bnd (pIndexAddr Try.prog 52 x0 x4) fun x14 =>
    bnd (pLoad Try.prog 49 x14 h) fun x15 =>
    bnd (inv (.func 70) #[] #[x15] h) fun x16 =>
    bnd (pMinMax Try.prog true #[x3, x16.1]) fun x17 =>
    bnd (pBin Try.prog .add 3 (.tmp 9) (.const (.int .i64 1)) x4 (.int .i64 1)) fun x10 =>
    F60_lrlrr inv k j x0 x17 x10 x16.2 ke0)
    (ke0 x0 x3 x4 x8 h)
theorem F60_lrlrr_j (j : Nat) : kLoop (kCode env 60 false inv k (cp c60 116)) j (act 19 [(0, x0), (3, x3), (4, x4)]) h K = F60_lrlrr inv k j x0 x3 x4 h (fun y0 y3 y4 y8 h => K (.exit 0) (act 19 [(0, y0), (3, y3), (4, y4), (8, y8)]) h) := by
      induction j generalizing x0 x3 x4 h with
      | zero => rfl
      | succ j ih =>
        unfold F60_lrlrr
        simp only [kLoop, kq_seq c60 116, kq_seq c60 232, r60_3, b60_rlllrlrr, kq_skip c60 930, kq_seq c60 233, kq_block c60 466 1, r60_5, r60_4, kq_exit c60 931 0, ih, reduceIte, reduceCtorEq, XE.exit.injEq, Nat.reduceEqDiff, Nat.reduceMul, Nat.reduceAdd] <;> kernel_rfl
theorem F60_lrlrr_eq  : kCode env 60 false inv k (cp c60 58) (act 19 [(0, x0), (3, x3), (4, x4)]) h K = F60_lrlrr inv k k x0 x3 x4 h (fun y0 y3 y4 y8 h => K (.exit 0) (act 19 [(0, y0), (3, y3), (4, y4), (8, y8)]) h) := kq_loop (F60_lrlrr_j k)
theorem r60_6  : kCode env 60 false inv k (cp c60 30) (act 19 [(0, x0), (3, x3), (4, x4), (8, x8)]) h K =
    K .normal (act 19 [(2, x3)]) h := kq_reg
theorem res60_0 : resOfFn env.P 60 .ret (act 19 [(2, x2)]) h = some (x2, h) := kq_res
/-- shadowbook/shadowbookref05.Width -/
noncomputable def F60 (inv : Inv) (k : Nat) (x0 : Value) (h : AH) : Option (Value × AH) :=
    F60_lrlrr inv k k x0 (.int .i64 0) (.int .i64 0) h
    (fun y0 y3 y4 y8 h =>
    some (y3, h))
theorem F60_eq : eFun env k inv 60 #[x0] h = F60 inv k x0 h := by
      refine (kq_fun (a := act 19 [(0, x0)]) (c := cp c60 1)).trans ?_
      unfold F60
      simp only [kq_seq c60 1, r60_0, kq_seq c60 3, r60_1, kq_seq c60 7, kq_seq c60 14, r60_2, kq_block c60 29 0, F60_lrlrr_eq, kq_seq c60 15, r60_6, kq_ret c60 31, res60_0, reduceIte, reduceCtorEq, XE.exit.injEq, Nat.reduceEqDiff, Nat.reduceMul, Nat.reduceAdd] <;> kernel_rfl
theorem F60_call : eInv env (k + 1) (.func 60) #[] #[x0] h = F60 (eInv env k) k x0 h := kq_inv F60_eq
noncomputable def c61 : Code := codeOf Try.prog 61
theorem r61_0  : kCode env 61 false inv k (cp c61 2) (act 26 [(0, x0)]) h K =
    K .normal (act 26 [(0, x0)]) h := kq_reg
theorem r61_1  : kCode env 61 false inv k (cp c61 6) (act 26 [(0, x0)]) h K =
    K .normal (act 26 [(0, x0), (3, (.int .u64 0))]) h := kq_reg
theorem r61_2  : kCode env 61 false inv k (cp c61 28) (act 26 [(0, x0), (3, x3)]) h K =
    bnd (pLen Try.prog #[32] x0 h) fun x6 =>
    bnd (pBin Try.prog .gtr 3 (.tmp 6) (.const (.int .i64 8)) x6 (.int .i64 8)) fun x7 =>
    K .normal (act 26 [(0, x0), (3, x3), (7, x7)]) h := kq_reg
theorem b61_rlrr  : kCode env 61 false inv k (cp c61 29) (act 26 [(0, x0), (3, x3), (7, x7)]) h K = brV x7 (kCode env 61 false inv k (cp c61 58) (act 26 [(0, x0), (3, x3), (7, x7)]) h K) (kCode env 61 false inv k (cp c61 59) (act 26 [(0, x0), (3, x3), (7, x7)]) h K) := kq_cond
theorem r61_3  : kCode env 61 false inv k (cp c61 116) (act 26 [(0, x0), (3, x3), (7, x7)]) h K =
    K .normal (act 26 [(2, (.int .u64 0))]) h := kq_reg
theorem res61_0 : resOfFn env.P 61 .ret (act 26 [(2, x2)]) h = some (x2, h) := kq_res
theorem r61_4  : kCode env 61 false inv k (cp c61 60) (act 26 [(0, x0), (3, x3), (7, x7)]) h K =
    K .normal (act 26 [(0, x0), (3, x3), (4, (.int .i64 0))]) h := kq_reg
theorem r61_5  : kCode env 61 false inv k (cp c61 976) (act 26 [(0, x0), (3, x3), (4, x4)]) h K =
    bnd (pLen Try.prog #[32] x0 h) fun x10 =>
    bnd (pBin Try.prog .lss 3 (.tmp 8) (.tmp 10) x4 x10) fun x11 =>
    K .normal (act 26 [(0, x0), (3, x3), (4, x4), (11, x11)]) h := kq_reg
theorem b61_rlllrlrrr  : kCode env 61 false inv k (cp c61 977) (act 26 [(0, x0), (3, x3), (4, x4), (11, x11)]) h K = brV x11 (kCode env 61 false inv k (cp c61 1954) (act 26 [(0, x0), (3, x3), (4, x4), (11, x11)]) h K) (kCode env 61 false inv k (cp c61 1955) (act 26 [(0, x0), (3, x3), (4, x4), (11, x11)]) h K) := kq_cond
noncomputable abbrev G61_7 {β : Type} (inv : Inv) (x0 x3 x4 : Value) (h : AH) (K : Value → AH → Option β) : Option β :=
    bnd (pIndexAddr Try.prog 32 x0 x4) fun x17 =>
    bnd (pLoad Try.prog 5 x17 h) fun x18 =>
    bnd (pConv Try.prog 5 49 x18 h) fun x19 =>
    bnd (pBin Try.prog .mul 3 (.const (.int .i64 8)) (.tmp 20) (.int .i64 8) x4) fun x21 =>
    bnd (pConv Try.prog 3 68 x21 h) fun x22 =>
    bnd (pBin Try.prog .shl 49 (.tmp 19) (.tmp 22) x19 x22) fun x23 =>
    bnd (pBin Try.prog .or 49 (.tmp 14) (.tmp 23) x3 x23) fun x24 =>
    K (x24) h
theorem r61_7  : kCode env 61 false inv k (cp c61 1956) (act 26 [(0, x0), (3, x3), (4, x4), (11, x11)]) h K =
    G61_7 inv x0 x3 x4 h fun y3 h => K .normal (act 26 [(0, x0), (3, y3), (4, x4)]) h := kq_reg
theorem r61_6  : kCode env 61 false inv k (cp c61 979) (act 26 [(0, x0), (3, x3), (4, x4)]) h K =
    bnd (pBin Try.prog .add 3 (.tmp 12) (.const (.int .i64 1)) x4 (.int .i64 1)) fun x13 =>
    K .normal (act 26 [(0, x0), (3, x3), (4, x13)]) h := kq_reg
noncomputable def F61_lrlrrr {β : Type} (inv : Inv) (k : Nat) : Nat → Value → Value → Value → AH → (Value → Value → Value → Value → AH → Option β) → Option β
  | 0, _, _, _, _, _ => none
  | j + 1, x0, x3, x4, h, ke0 =>
    bnd (pLen Try.prog #[32] x0 h) fun x10 =>
    bnd (pBin Try.prog .lss 3 (.tmp 8) (.tmp 10) x4 x10) fun x11 =>
    brV x11
    (G61_7 inv x0 x3 x4 h fun y3 h =>
    bnd (pBin Try.prog .add 3 (.tmp 12) (.const (.int .i64 1)) x4 (.int .i64 1)) fun x13 =>
    F61_lrlrrr inv k j x0 y3 x13 h ke0)
    (ke0 x0 x3 x4 x11 h)
theorem F61_lrlrrr_j (j : Nat) : kLoop (kCode env 61 false inv k (cp c61 244)) j (act 26 [(0, x0), (3, x3), (4, x4)]) h K = F61_lrlrrr inv k j x0 x3 x4 h (fun y0 y3 y4 y11 h => K (.exit 0) (act 26 [(0, y0), (3, y3), (4, y4), (11, y11)]) h) := by
      induction j generalizing x0 x3 x4 h with
      | zero => rfl
      | succ j ih =>
        unfold F61_lrlrrr
        simp only [kLoop, kq_seq c61 244, kq_seq c61 488, r61_5, b61_rlllrlrrr, kq_skip c61 1954, kq_seq c61 489, kq_block c61 978 1, r61_7, r61_6, kq_exit c61 1955 0, ih, reduceIte, reduceCtorEq, XE.exit.injEq, Nat.reduceEqDiff, Nat.reduceMul, Nat.reduceAdd] <;> kernel_rfl
theorem F61_lrlrrr_eq  : kCode env 61 false inv k (cp c61 122) (act 26 [(0, x0), (3, x3), (4, x4)]) h K = F61_lrlrrr inv k k x0 x3 x4 h (fun y0 y3 y4 y11 h => K (.exit 0) (act 26 [(0, y0), (3, y3), (4, y4), (11, y11)]) h) := kq_loop (F61_lrlrrr_j k)
theorem r61_8  : kCode env 61 false inv k (cp c61 62) (act 26 [(0, x0), (3, x3), (4, x4), (11, x11)]) h K =
    K .normal (act 26 [(2, x3)]) h := kq_reg
/-- shadowbook/shadowbookref01.Of -/
noncomputable def F61 (inv : Inv) (k : Nat) (x0 : Value) (h : AH) : Option (Value × AH) :=
    bnd (pLen Try.prog #[32] x0 h) fun x6 =>
    bnd (pBin Try.prog .gtr 3 (.tmp 6) (.const (.int .i64 8)) x6 (.int .i64 8)) fun x7 =>
    brV x7
    (some ((.int .u64 0), h))
    (F61_lrlrrr inv k k x0 (.int .u64 0) (.int .i64 0) h
    (fun y0 y3 y4 y11 h =>
    some (y3, h)))
theorem F61_eq : eFun env k inv 61 #[x0] h = F61 inv k x0 h := by
      refine (kq_fun (a := act 26 [(0, x0)]) (c := cp c61 1)).trans ?_
      unfold F61
      simp only [kq_seq c61 1, r61_0, kq_seq c61 3, r61_1, kq_seq c61 7, kq_seq c61 14, r61_2, b61_rlrr, kq_seq c61 58, r61_3, kq_ret c61 117, res61_0, kq_skip c61 59, kq_seq c61 15, kq_seq c61 30, r61_4, kq_block c61 61 0, F61_lrlrrr_eq, kq_seq c61 31, r61_8, kq_ret c61 63, reduceIte, reduceCtorEq, XE.exit.injEq, Nat.reduceEqDiff, Nat.reduceMul, Nat.reduceAdd] <;> kernel_rfl
theorem F61_call : eInv env (k + 1) (.func 61) #[] #[x0] h = F61 (eInv env k) k x0 h := kq_inv F61_eq
noncomputable def c62 : Code := codeOf Try.prog 62
theorem r62_0  : kCode env 62 false inv k (cp c62 2) (act 25 [(0, x0)]) h K =
    K .normal (act 25 [(0, x0), (2, (.int .i64 0))]) h := kq_reg
theorem r62_1  : kCode env 62 false inv k (cp c62 12) (act 25 [(0, x0), (2, x2)]) h K =
    bnd (pBin Try.prog .geq 49 (.tmp 3) (.const (.int .u64 4294967296)) x0 (.int .u64 4294967296)) fun x4 =>
    K .normal (act 25 [(0, x0), (2, x2), (4, x4)]) h := kq_reg
theorem b62_rlr  : kCode env 62 false inv k (cp c62 13) (act 25 [(0, x0), (2, x2), (4, x4)]) h K = brV x4 (kCode env 62 false inv k (cp c62 26) (act 25 [(0, x0), (2, x2), (4, x4)]) h K) (kCode env 62 false inv k (cp c62 27) (act 25 [(0, x0), (2, x2), (4, x4)]) h K) := kq_cond
theorem r62_2  : kCode env 62 false inv k (cp c62 52) (act 25 [(0, x0), (2, x2), (4, x4)]) h K =
    bnd (pBin Try.prog .shr 49 (.tmp 5) (.const (.int .u64 32)) x0 (.int .u64 32)) fun x6 =>
    K .normal (act 25 [(0, x6)]) h := kq_reg
theorem r62_3  : kCode env 62 false inv k (cp c62 53) (act 25 [(0, x0)]) h K =
    K .normal (act 25 [(0, x0), (2, (.int .i64 32))]) h := kq_reg
noncomputable def F62_rlr {β : Type} (inv : Inv) (k : Nat) (x0 x2 x4 : Value) (h : AH) (kn : (Value → Value → Value → AH → Option β)) : Option β :=
    brV x4
    (bnd (pBin Try.prog .shr 49 (.tmp 5) (.const (.int .u64 32)) x0 (.int .u64 32)) fun x6 =>
    kn x6 (.int .i64 32) unk h)
    (kn x0 x2 x4 h)
theorem F62_rlr_eq  : kCode env 62 false inv k (cp c62 13) (act 25 [(0, x0), (2, x2), (4, x4)]) h K = F62_rlr inv k x0 x2 x4 h (fun y0 y2 y4 h => K .normal (act 25 [(0, y0), (2, y2), (4, y4)]) h) := by
      unfold F62_rlr
      simp only [b62_rlr, kq_seq c62 26, r62_2, r62_3, kq_skip c62 27, reduceIte, reduceCtorEq, XE.exit.injEq, Nat.reduceEqDiff, Nat.reduceMul, Nat.reduceAdd] <;> kernel_rfl
theorem r62_4  : kCode env 62 false inv k (cp c62 28) (act 25 [(0, x0), (2, x2), (4, x4)]) h K =
    bnd (pBin Try.prog .geq 49 (.tmp 7) (.const (.int .u64 65536)) x0 (.int .u64 65536)) fun x8 =>
    K .normal (act 25 [(0, x0), (2, x2), (8, x8)]) h := kq_reg
theorem b62_rlrr  : kCode env 62 false inv k (cp c62 29) (act 25 [(0, x0), (2, x2), (8, x8)]) h K = brV x8 (kCode env 62 false inv k (cp c62 58) (act 25 [(0, x0), (2, x2), (8, x8)]) h K) (kCode env 62 false inv k (cp c62 59) (act 25 [(0, x0), (2, x2), (8, x8)]) h K) := kq_cond
theorem r62_5  : kCode env 62 false inv k (cp c62 116) (act 25 [(0, x0), (2, x2), (8, x8)]) h K =
    bnd (pBin Try.prog .shr 49 (.tmp 9) (.const (.int .u64 16)) x0 (.int .u64 16)) fun x10 =>
    K .normal (act 25 [(0, x10), (2, x2)]) h := kq_reg
theorem r62_6  : kCode env 62 false inv k (cp c62 117) (act 25 [(0, x0), (2, x2)]) h K =
    bnd (pBin Try.prog .add 3 (.tmp 11) (.const (.int .i64 16)) x2 (.int .i64 16)) fun x12 =>
    K .normal (act 25 [(0, x0), (2, x12)]) h := kq_reg
noncomputable def F62_rlrr {β : Type} (inv : Inv) (k : Nat) (x0 x2 x8 : Value) (h : AH) (kn : (Value → Value → Value → AH → Option β)) : Option β :=
    brV x8
    (bnd (pBin Try.prog .shr 49 (.tmp 9) (.const (.int .u64 16)) x0 (.int .u64 16)) fun x10 =>
    bnd (pBin Try.prog .add 3 (.tmp 11) (.const (.int .i64 16)) x2 (.int .i64 16)) fun x12 =>
    kn x10 x12 unk h)
    (kn x0 x2 x8 h)
theorem F62_rlrr_eq  : kCode env 62 false inv k (cp c62 29) (act 25 [(0, x0), (2, x2), (8, x8)]) h K = F62_rlrr inv k x0 x2 x8 h (fun y0 y2 y8 h => K .normal (act 25 [(0, y0), (2, y2), (8, y8)]) h) := by
      unfold F62_rlrr
      simp only [b62_rlrr, kq_seq c62 58, r62_5, r62_6, kq_skip c62 59, reduceIte, reduceCtorEq, XE.exit.injEq, Nat.reduceEqDiff, Nat.reduceMul, Nat.reduceAdd] <;> kernel_rfl
theorem r62_7  : kCode env 62 false inv k (cp c62 60) (act 25 [(0, x0), (2, x2), (8, x8)]) h K =
    bnd (pBin Try.prog .geq 49 (.tmp 13) (.const (.int .u64 256)) x0 (.int .u64 256)) fun x14 =>
    K .normal (act 25 [(0, x0), (2, x2), (14, x14)]) h := kq_reg
theorem b62_rlrrr  : kCode env 62 false inv k (cp c62 61) (act 25 [(0, x0), (2, x2), (14, x14)]) h K = brV x14 (kCode env 62 false inv k (cp c62 122) (act 25 [(0, x0), (2, x2), (14, x14)]) h K) (kCode env 62 false inv k (cp c62 123) (act 25 [(0, x0), (2, x2), (14, x14)]) h K) := kq_cond
theorem r62_8  : kCode env 62 false inv k (cp c62 244) (act 25 [(0, x0), (2, x2), (14, x14)]) h K =
    bnd (pBin Try.prog .shr 49 (.tmp 15) (.const (.int .u64 8)) x0 (.int .u64 8)) fun x16 =>
    K .normal (act 25 [(0, x16), (2, x2)]) h := kq_reg
theorem r62_9  : kCode env 62 false inv k (cp c62 245) (act 25 [(0, x0), (2, x2)]) h K =
    bnd (pBin Try.prog .add 3 (.tmp 17) (.const (.int .i64 8)) x2 (.int .i64 8)) fun x18 =>
    K .normal (act 25 [(0, x0), (2, x18)]) h := kq_reg
noncomputable def F62_rlrrr {β : Type} (inv : Inv) (k : Nat) (x0 x2 x14 : Value) (h : AH) (kn : (Value → Value → Value → AH → Option β)) : Option β :=
    brV x14
    (bnd (pBin Try.prog .shr 49 (.tmp 15) (.const (.int .u64 8)) x0 (.int .u64 8)) fun x16 =>
    bnd (pBin Try.prog .add 3 (.tmp 17) (.const (.int .i64 8)) x2 (.int .i64 8)) fun x18 =>
    kn x16 x18 unk h)
    (kn x0 x2 x14 h)
theorem F62_rlrrr_eq  : kCode env 62 false inv k (cp c62 61) (act 25 [(0, x0), (2, x2), (14, x14)]) h K = F62_rlrrr inv k x0 x2 x14 h (fun y0 y2 y14 h => K .normal (act 25 [(0, y0), (2, y2), (14, y14)]) h) := by
      unfold F62_rlrrr
      simp only [b62_rlrrr, kq_seq c62 122, r62_8, r62_9, kq_skip c62 123, reduceIte, reduceCtorEq, XE.exit.injEq, Nat.reduceEqDiff, Nat.reduceMul, Nat.reduceAdd] <;> kernel_rfl
noncomputable abbrev G62_10 {β : Type} (inv : Inv) (x0 x2 : Value) (h : AH) (K : Value → AH → Option β) : Option β :=
    bnd (pConv Try.prog 49 5 x0 h) fun x21 =>
    bnd (pIndex Try.prog 9 (.string { data := #[0, 1, 2, 2, 3, 3, 3, 3, 4, 4, 4, 4, 4, 4, 4, 4, 5, 5, 5, 5, 5, 5, 5, 5, 5, 5, 5, 5, 5, 5, 5, 5, 6, 6, 6, 6, 6, 6, 6, 6, 6, 6, 6, 6, 6, 6, 6, 6, 6, 6, 6, 6, 6, 6, 6, 6, 6, 6, 6, 6, 6, 6, 6, 6, 7, 7, 7, 7, 7, 7, 7, 7, 7, 7, 7, 7, 7, 7, 7, 7, 7, 7, 7, 7, 7, 7, 7, 7, 7, 7, 7, 7, 7, 7, 7, 7, 7, 7, 7, 7, 7, 7, 7, 7, 7, 7, 7, 7, 7, 7, 7, 7, 7, 7, 7, 7, 7, 7, 7, 7, 7, 7, 7, 7, 7, 7, 7, 7, 8, 8, 8, 8, 8, 8, 8, 8, 8, 8, 8, 8, 8, 8, 8, 8, 8, 8, 8, 8, 8, 8, 8, 8, 8, 8, 8, 8, 8, 8, 8, 8, 8, 8, 8, 8, 8, 8, 8, 8, 8, 8, 8, 8, 8, 8, 8, 8, 8, 8, 8, 8, 8, 8, 8, 8, 8, 8, 8, 8, 8, 8, 8, 8, 8, 8, 8, 8, 8, 8, 8, 8, 8, 8, 8, 8, 8, 8, 8, 8, 8, 8, 8, 8, 8, 8, 8, 8, 8, 8, 8, 8, 8, 8, 8, 8, 8, 8, 8, 8, 8, 8, 8, 8, 8, 8, 8, 8, 8, 8, 8, 8, 8, 8, 8, 8, 8, 8, 8, 8, 8, 8, 8, 8, 8, 8, 8, 8] }) x21) fun x22 =>
    bnd (pConv Try.prog 5 3 x22 h) fun x23 =>
    bnd (pBin Try.prog .add 3 (.tmp 19) (.tmp 23) x2 x23) fun x24 =>
    K (x24) h
theorem r62_10  : kCode env 62 false inv k (cp c62 62) (act 25 [(0, x0), (2, x2), (14, x14)]) h K =
    G62_10 inv x0 x2 h fun y2 h => K .normal (act 25 [(2, y2)]) h := kq_reg
theorem res62_0 : resOfFn env.P 62 .ret (act 25 [(2, x2)]) h = some (x2, h) := kq_res
/-- math/bits.Len64 -/
noncomputable def F62 (inv : Inv) (k : Nat) (x0 : Value) (h : AH) : Option (Value × AH) :=
    bnd (pBin Try.prog .geq 49 (.tmp 3) (.const (.int .u64 4294967296)) x0 (.int .u64 4294967296)) fun x4 =>
    F62_rlr inv k x0 (.int .i64 0) x4 h
    (fun y0 y2 y4 h =>
    bnd (pBin Try.prog .geq 49 (.tmp 7) (.const (.int .u64 65536)) y0 (.int .u64 65536)) fun x8 =>
    F62_rlrr inv k y0 y2 x8 h
    (fun y0_1 y2_2 y8 h_3 =>
    bnd (pBin Try.prog .geq 49 (.tmp 13) (.const (.int .u64 256)) y0_1 (.int .u64 256)) fun x14 =>
    F62_rlrrr inv k y0_1 y2_2 x14 h_3
    (fun y0_4 y2_5 y14 h_6 =>
    G62_10 inv y0_4 y2_5 h_6 fun y2_7 h_8 =>
    some (y2_7, h_8))))
theorem F62_eq : eFun env k inv 62 #[x0] h = F62 inv k x0 h := by
      refine (kq_fun (a := act 25 [(0, x0)]) (c := cp c62 1)).trans ?_
      unfold F62
      simp only [kq_seq c62 1, r62_0, kq_seq c62 3, kq_seq c62 6, r62_1, F62_rlr_eq, kq_seq c62 7, kq_seq c62 14, r62_4, F62_rlrr_eq, kq_seq c62 15, kq_seq c62 30, r62_7, F62_rlrrr_eq, kq_seq c62 31, r62_10, kq_ret c62 63, res62_0, reduceIte, reduceCtorEq, XE.exit.injEq, Nat.reduceEqDiff, Nat.reduceMul, Nat.reduceAdd] <;> kernel_rfl
theorem F62_call : eInv env (k + 1) (.func 62) #[] #[x0] h = F62 (eInv env k) k x0 h := kq_inv F62_eq
noncomputable def c63 : Code := codeOf Try.prog 63
theorem r63_0  : kCode env 63 false inv k (cp c63 2) (act 9 [(0, x0), (1, x1)]) h K =
    K .normal (act 9 [(0, x0), (1, x1)]) h := kq_reg
theorem r63_1  : kCode env 63 false inv k (cp c63 6) (act 9 [(0, x0), (1, x1)]) h K =
    bnd (inv (.func 71) #[] #[x0, x1] h) fun x7 =>
    bnd (pBin Try.prog .geq 3 (.tmp 7) (.const (.int .i64 0)) x7.1 (.int .i64 0)) fun x8 =>
    K .normal (act 9 [(4, x8)]) x7.2 := kq_reg
theorem res63_0 : resOfFn env.P 63 .ret (act 9 [(4, x4)]) h = some (x4, h) := kq_res
/-- slices.ContainsFunc[[]byte,byte] -/
noncomputable def F63 (inv : Inv) (k : Nat) (x0 x1 : Value) (h : AH) : Option (Value × AH) :=
    bnd (inv (.func 71) #[] #[x0, x1] h) fun x7 =>
    bnd (pBin Try.prog .geq 3 (.tmp 7) (.const (.int .i64 0)) x7.1 (.int .i64 0)) fun x8 =>
    some (x8, x7.2)
theorem F63_eq : eFun env k inv 63 #[x0, x1] h = F63 inv k x0 x1 h := by
      refine (kq_fun (a := act 9 [(0, x0), (1, x1)]) (c := cp c63 1)).trans ?_
      unfold F63
      simp only [kq_seq c63 1, r63_0, kq_seq c63 3, r63_1, kq_ret c63 7, res63_0, reduceIte, reduceCtorEq, XE.exit.injEq, Nat.reduceEqDiff, Nat.reduceMul, Nat.reduceAdd] <;> kernel_rfl
theorem F63_call : eInv env (k + 1) (.func 63) #[] #[x0, x1] h = F63 (eInv env k) k x0 x1 h := kq_inv F63_eq
noncomputable def c64 : Code := codeOf Try.prog 64
theorem r64_0  : kCode env 64 false inv k (cp c64 2) (act 5 [(0, x0)]) h K =
    K .normal (act 5 [(0, x0)]) h := kq_reg
theorem r64_1  : kCode env 64 false inv k (cp c64 6) (act 5 [(0, x0)]) h K =
    bnd (pBin Try.prog .lss 5 (.tmp 3) (.const (.int .u8 128)) x0 (.int .u8 128)) fun x4 =>
    K .normal (act 5 [(2, x4)]) h := kq_reg
theorem res64_0 : resOfFn env.P 64 .ret (act 5 [(2, x2)]) h = some (x2, h) := kq_res
/-- (*shadowbook/octet.Reader).ends$1 -/
noncomputable def F64 (inv : Inv) (k : Nat) (x0 : Value) (h : AH) : Option (Value × AH) :=
    bnd (pBin Try.prog .lss 5 (.tmp 3) (.const (.int .u8 128)) x0 (.int .u8 128)) fun x4 =>
    some (x4, h)
theorem F64_eq : eFun env k inv 64 #[x0] h = F64 inv k x0 h := by
      refine (kq_fun (a := act 5 [(0, x0)]) (c := cp c64 1)).trans ?_
      unfold F64
      simp only [kq_seq c64 1, r64_0, kq_seq c64 3, r64_1, kq_ret c64 7, res64_0, reduceIte, reduceCtorEq, XE.exit.injEq, Nat.reduceEqDiff, Nat.reduceMul, Nat.reduceAdd] <;> kernel_rfl
theorem F64_call : eInv env (k + 1) (.func 64) #[] #[x0] h = F64 (eInv env k) k x0 h := kq_inv F64_eq
noncomputable def c65 : Code := codeOf Try.prog 65
theorem r65_0  : kCode env 65 false inv k (cp c65 2) (act 4 [(0, x0)]) h K =
    bnd (pBox Try.prog 32 x0 h) fun x1 =>
    K .normal (act 4 [(1, x1.1)]) x1.2 := kq_reg
theorem r65_1  : kCode env 65 false inv k (cp c65 6) (act 4 [(1, x1)]) h K =
    bnd (pMakeFunc (.func 72) #[] #[x1]) fun x3 =>
    K .normal (act 4 [(2, x3)]) h := kq_reg
theorem res65_0 : resOfFn env.P 65 .ret (act 4 [(2, x2)]) h = some (x2, h) := kq_res
/-- slices.Backward[[]byte,byte] -/
noncomputable def F65 (inv : Inv) (k : Nat) (x0 : Value) (h : AH) : Option (Value × AH) :=
    bnd (pBox Try.prog 32 x0 h) fun x1 =>
    bnd (pMakeFunc (.func 72) #[] #[x1.1]) fun x3 =>
    some (x3, x1.2)
theorem F65_eq : eFun env k inv 65 #[x0] h = F65 inv k x0 h := by
      refine (kq_fun (a := act 4 [(0, x0)]) (c := cp c65 1)).trans ?_
      unfold F65
      simp only [kq_seq c65 1, r65_0, kq_seq c65 3, r65_1, kq_ret c65 7, res65_0, reduceIte, reduceCtorEq, XE.exit.injEq, Nat.reduceEqDiff, Nat.reduceMul, Nat.reduceAdd] <;> kernel_rfl
theorem F65_call : eInv env (k + 1) (.func 65) #[] #[x0] h = F65 (eInv env k) k x0 h := kq_inv F65_eq
noncomputable def c66 : Code := codeOf Try.prog 66
theorem r66_0  : kCode env 66 false inv k (cp c66 2) (act 17 [(0, x0), (1, x1)]) h K =
    K .normal (act 17 [(0, x0), (1, x1)]) h := kq_reg
theorem r66_1  : kCode env 66 false inv k (cp c66 6) (act 17 [(0, x0), (1, x1)]) h K =
    bnd (pConv Try.prog 89 49 x0 h) fun x8 =>
    bnd (pConv Try.prog 89 49 x1 h) fun x10 =>
    bnd (pBin Try.prog .mul 49 (.tmp 8) (.tmp 10) x8 x10) fun x11 =>
    K .normal (act 17 [(6, x11)]) h := kq_reg
theorem r66_2  : kCode env 66 false inv k (cp c66 14) (act 17 [(6, x6)]) h K =
    bnd (pBin Try.prog .shr 49 (.tmp 12) (.const (.int .u64 32)) x6 (.int .u64 32)) fun x13 =>
    bnd (pConv Try.prog 49 89 x13 h) fun x14 =>
    bnd (pConv Try.prog 49 89 x6 h) fun x16 =>
    K .normal (act 17 [(4, x14), (5, x16)]) h := kq_reg
theorem res66_0 : resOfFn env.P 66 .ret (act 17 [(4, x4), (5, x5)]) h = some (.tuple #[x4, x5], h) := kq_res
/-- math/bits.Mul32 -/
noncomputable def F66 (inv : Inv) (k : Nat) (x0 x1 : Value) (h : AH) : Option (Value × AH) :=
    bnd (pConv Try.prog 89 49 x0 h) fun x8 =>
    bnd (pConv Try.prog 89 49 x1 h) fun x10 =>
    bnd (pBin Try.prog .mul 49 (.tmp 8) (.tmp 10) x8 x10) fun x11 =>
    bnd (pBin Try.prog .shr 49 (.tmp 12) (.const (.int .u64 32)) x11 (.int .u64 32)) fun x13 =>
    bnd (pConv Try.prog 49 89 x13 h) fun x14 =>
    bnd (pConv Try.prog 49 89 x11 h) fun x16 =>
    some (.tuple #[x14, x16], h)
theorem F66_eq : eFun env k inv 66 #[x0, x1] h = F66 inv k x0 x1 h := by
      refine (kq_fun (a := act 17 [(0, x0), (1, x1)]) (c := cp c66 1)).trans ?_
      unfold F66
      simp only [kq_seq c66 1, r66_0, kq_seq c66 3, r66_1, kq_seq c66 7, r66_2, kq_ret c66 15, res66_0, reduceIte, reduceCtorEq, XE.exit.injEq, Nat.reduceEqDiff, Nat.reduceMul, Nat.reduceAdd] <;> kernel_rfl
theorem F66_call : eInv env (k + 1) (.func 66) #[] #[x0, x1] h = F66 (eInv env k) k x0 x1 h := kq_inv F66_eq
noncomputable def c67 : Code := codeOf Try.prog 67
theorem r67_0  : kCode env 67 false inv k (cp c67 2) (act 51 [(0, x0), (1, x1)]) h K =
    K .normal (act 51 [(0, x0), (1, x1)]) h := kq_reg
theorem r67_1  : kCode env 67 false inv k (cp c67 6) (act 51 [(0, x0), (1, x1)]) h K =
    bnd (pBin Try.prog .and 49 (.tmp 14) (.const (.int .u64 4294967295)) x0 (.int .u64 4294967295)) fun x15 =>
    K .normal (act 51 [(0, x0), (1, x1), (6, x15)]) h := kq_reg
theorem r67_2  : kCode env 67 false inv k (cp c67 14) (act 51 [(0, x0), (1, x1), (6, x6)]) h K =
    bnd (pBin Try.prog .shr 49 (.tmp 16) (.const (.int .u64 32)) x0 (.int .u64 32)) fun x17 =>
    K .normal (act 51 [(0, x0), (1, x1), (6, x6), (7, x17)]) h := kq_reg
theorem r67_3  : kCode env 67 false inv k (cp c67 30) (act 51 [(0, x0), (1, x1), (6, x6), (7, x7)]) h K =
    bnd (pBin Try.prog .and 49 (.tmp 18) (.const (.int .u64 4294967295)) x1 (.int .u64 4294967295)) fun x19 =>
    K .normal (act 51 [(0, x0), (1, x1), (6, x6), (7, x7), (8, x19)]) h := kq_reg
theorem r67_4  : kCode env 67 false inv k (cp c67 62) (act 51 [(0, x0), (1, x1), (6, x6), (7, x7), (8, x8)]) h K =
    bnd (pBin Try.prog .shr 49 (.tmp 20) (.const (.int .u64 32)) x1 (.int .u64 32)) fun x21 =>
    K .normal (act 51 [(0, x0), (1, x1), (6, x6), (7, x7), (8, x8), (9, x21)]) h := kq_reg
theorem r67_5  : kCode env 67 false inv k (cp c67 126) (act 51 [(0, x0), (1, x1), (6, x6), (7, x7), (8, x8), (9, x9)]) h K =
    bnd (pBin Try.prog .mul 49 (.tmp 22) (.tmp 23) x6 x8) fun x24 =>
    K .normal (act 51 [(0, x0), (1, x1), (6, x6), (7, x7), (8, x8), (9, x9), (10, x24)]) h := kq_reg
theorem r67_6  : kCode env 67 false inv k (cp c67 254) (act 51 [(0, x0), (1, x1), (6, x6), (7, x7), (8, x8), (9, x9), (10, x10)]) h K =
    bnd (pBin Try.prog .mul 49 (.tmp 25) (.tmp 26) x7 x8) fun x27 =>
    bnd (pBin Try.prog .shr 49 (.tmp 28) (.const (.int .u64 32)) x10 (.int .u64 32)) fun x29 =>
    bnd (pBin Try.prog .add 49 (.tmp 27) (.tmp 29) x27 x29) fun x30 =>
    K .normal (act 51 [(0, x0), (1, x1), (6, x6), (7, x7), (9, x9), (11, x30)]) h := kq_reg
theorem r67_7  : kCode env 67 false inv k (cp c67 510) (act 51 [(0, x0), (1, x1), (6, x6), (7, x7), (9, x9), (11, x11)]) h K =
    bnd (pBin Try.prog .and 49 (.tmp 31) (.const (.int .u64 4294967295)) x11 (.int .u64 4294967295)) fun x32 =>
    K .normal (act 51 [(0, x0), (1, x1), (6, x6), (7, x7), (9, x9), (11, x11), (12, x32)]) h := kq_reg
theorem r67_8  : kCode env 67 false inv k (cp c67 1022) (act 51 [(0, x0), (1, x1), (6, x6), (7, x7), (9, x9), (11, x11), (12, x12)]) h K =
    bnd (pBin Try.prog .shr 49 (.tmp 33) (.const (.int .u64 32)) x11 (.int .u64 32)) fun x34 =>
    K .normal (act 51 [(0, x0), (1, x1), (6, x6), (7, x7), (9, x9), (12, x12), (13, x34)]) h := kq_reg
theorem r67_9  : kCode env 67 false inv k (cp c67 2046) (act 51 [(0, x0), (1, x1), (6, x6), (7, x7), (9, x9), (12, x12), (13, x13)]) h K =
    bnd (pBin Try.prog .mul 49 (.tmp 36) (.tmp 37) x6 x9) fun x38 =>
    bnd (pBin Try.prog .add 49 (.tmp 35) (.tmp 38) x12 x38) fun x39 =>
    K .normal (act 51 [(0, x0), (1, x1), (7, x7), (9, x9), (12, x39), (13, x13)]) h := kq_reg
noncomputable abbrev G67_10 {β : Type} (inv : Inv) (x0 x1 x7 x9 x12 x13 : Value) (h : AH) (K : Value → AH → Option β) : Option β :=
    bnd (pBin Try.prog .mul 49 (.tmp 40) (.tmp 41) x7 x9) fun x42 =>
    bnd (pBin Try.prog .add 49 (.tmp 42) (.tmp 43) x42 x13) fun x44 =>
    bnd (pBin Try.prog .shr 49 (.tmp 45) (.const (.int .u64 32)) x12 (.int .u64 32)) fun x46 =>
    bnd (pBin Try.prog .add 49 (.tmp 44) (.tmp 46) x44 x46) fun x47 =>
    K (x47) h
theorem r67_10  : kCode env 67 false inv k (cp c67 4094) (act 51 [(0, x0), (1, x1), (7, x7), (9, x9), (12, x12), (13, x13)]) h K =
    G67_10 inv x0 x1 x7 x9 x12 x13 h fun y4 h => K .normal (act 51 [(0, x0), (1, x1), (4, y4)]) h := kq_reg
theorem r67_11  : kCode env 67 false inv k (cp c67 8190) (act 51 [(0, x0), (1, x1), (4, x4)]) h K =
    bnd (pBin Try.prog .mul 49 (.tmp 48) (.tmp 49) x0 x1) fun x50 =>
    K .normal (act 51 [(4, x4), (5, x50)]) h := kq_reg
theorem res67_0 : resOfFn env.P 67 .ret (act 51 [(4, x4), (5, x5)]) h = some (.tuple #[x4, x5], h) := kq_res
/-- math/bits.Mul64 -/
noncomputable def F67 (inv : Inv) (k : Nat) (x0 x1 : Value) (h : AH) : Option (Value × AH) :=
    bnd (pBin Try.prog .and 49 (.tmp 14) (.const (.int .u64 4294967295)) x0 (.int .u64 4294967295)) fun x15 =>
    bnd (pBin Try.prog .shr 49 (.tmp 16) (.const (.int .u64 32)) x0 (.int .u64 32)) fun x17 =>
    bnd (pBin Try.prog .and 49 (.tmp 18) (.const (.int .u64 4294967295)) x1 (.int .u64 4294967295)) fun x19 =>
    bnd (pBin Try.prog .shr 49 (.tmp 20) (.const (.int .u64 32)) x1 (.int .u64 32)) fun x21 =>
    bnd (pBin Try.prog .mul 49 (.tmp 22) (.tmp 23) x15 x19) fun x24 =>
    bnd (pBin Try.prog .mul 49 (.tmp 25) (.tmp 26) x17 x19) fun x27 =>
    bnd (pBin Try.prog .shr 49 (.tmp 28) (.const (.int .u64 32)) x24 (.int .u64 32)) fun x29 =>
    bnd (pBin Try.prog .add 49 (.tmp 27) (.tmp 29) x27 x29) fun x30 =>
    bnd (pBin Try.prog .and 49 (.tmp 31) (.const (.int .u64 4294967295)) x30 (.int .u64 4294967295)) fun x32 =>
    bnd (pBin Try.prog .shr 49 (.tmp 33) (.const (.int .u64 32)) x30 (.int .u64 32)) fun x34 =>
    bnd (pBin Try.prog .mul 49 (.tmp 36) (.tmp 37) x15 x21) fun x38 =>
    bnd (pBin Try.prog .add 49 (.tmp 35) (.tmp 38) x32 x38) fun x39 =>
    G67_10 inv x0 x1 x17 x21 x39 x34 h fun y4 h =>
    bnd (pBin Try.prog .mul 49 (.tmp 48) (.tmp 49) x0 x1) fun x50 =>
    some (.tuple #[y4, x50], h)
theorem F67_eq : eFun env k inv 67 #[x0, x1] h = F67 inv k x0 x1 h := by
      refine (kq_fun (a := act 51 [(0, x0), (1, x1)]) (c := cp c67 1)).trans ?_
      unfold F67
      simp only [kq_seq c67 1, r67_0, kq_seq c67 3, r67_1, kq_seq c67 7, r67_2, kq_seq c67 15, r67_3, kq_seq c67 31, r67_4, kq_seq c67 63, r67_5, kq_seq c67 127, r67_6, kq_seq c67 255, r67_7, kq_seq c67 511, r67_8, kq_seq c67 1023, r67_9, kq_seq c67 2047, r67_10, kq_seq c67 4095, r67_11, kq_ret c67 8191, res67_0, reduceIte, reduceCtorEq, XE.exit.injEq, Nat.reduceEqDiff, Nat.reduceMul, Nat.reduceAdd] <;> kernel_rfl
theorem F67_call : eInv env (k + 1) (.func 67) #[] #[x0, x1] h = F67 (eInv env k) k x0 x1 h := kq_inv F67_eq
noncomputable def c68 : Code := codeOf Try.prog 68
theorem r68_0  : kCode env 68 false inv k (cp c68 2) (act 32 [(0, x0), (1, x1), (2, x2)]) h K =
    K .normal (act 32 [(0, x0), (1, x1), (2, x2), (6, (.int .u64 0))]) h := kq_reg
theorem r68_1  : kCode env 68 false inv k (cp c68 12) (act 32 [(0, x0), (1, x1), (2, x2), (6, x6)]) h K =
    K .normal (act 32 [(0, x0), (1, x1), (6, x6), (9, x2), (10, (.int .i64 0))]) h := kq_reg
theorem r68_2  : kCode env 68 false inv k (cp c68 104) (act 32 [(0, x0), (1, x1), (6, x6), (9, x9), (10, x10)]) h K =
    bnd (pBin Try.prog .lss 3 (.tmp 10) (.tmp 9) x10 x9) fun x11 =>
    K .normal (act 32 [(0, x0), (1, x1), (6, x6), (9, x9), (10, x10), (11, x11)]) h := kq_reg
theorem b68_lrllrlr  : kCode env 68 false inv k (cp c68 210) (act 32 [(0, x0), (1, x1), (6, x6), (9, x9), (10, x10), (11, x11)]) h K = brV x11 (kCode env 68 false inv k (cp c68 420) (act 32 [(0, x0), (1, x1), (6, x6), (9, x9), (10, x10), (11, x11)]) h K) (kCode env 68 false inv k (cp c68 421) (act 32 [(0, x0), (1, x1), (6, x6), (9, x9), (10, x10), (11, x11)]) h K) := kq_cond
theorem r68_3  : kCode env 68 false inv k (cp c68 1688) (act 32 [(0, x0), (1, x1), (6, x6), (9, x9), (10, x10), (11, x11)]) h K =
    K .normal (act 32 [(0, x0), (1, x1), (6, x6), (7, x10), (9, x9), (10, x10)]) h := kq_reg
theorem r68_4  : kCode env 68 false inv k (cp c68 3378) (act 32 [(0, x0), (1, x1), (6, x6), (7, x7), (9, x9), (10, x10)]) h K =
    bnd (pBin Try.prog .add 3 (.tmp 13) (.tmp 14) x1 x7) fun x15 =>
    K .normal (act 32 [(0, x0), (1, x1), (6, x6), (7, x7), (8, x15), (9, x9), (10, x10)]) h := kq_reg
noncomputable abbrev G68_5 {β : Type} (inv : Inv) (x0 x1 x6 x7 x8 x9 x10 : Value) (h : AH) (K : Value → AH → Option β) : Option β :=
    bnd (pBin Try.prog .quo 3 (.tmp 18) (.const (.int .i64 8)) x8 (.int .i64 8)) fun x19 =>
    bnd (pIndexAddr Try.prog 32 x0 x19) fun x20 =>
    bnd (pLoad Try.prog 5 x20 h) fun x21 =>
    bnd (pBin Try.prog .rem 3 (.tmp 22) (.const (.int .i64 8)) x8 (.int .i64 8)) fun x23 =>
    bnd (pBin Try.prog .shr 5 (.tmp 21) (.tmp 23) x21 x23) fun x24 =>
    bnd (pBin Try.prog .and 5 (.tmp 24) (.const (.int .u8 1)) x24 (.int .u8 1)) fun x25 =>
    bnd (pConv Try.prog 5 49 x25 h) fun x26 =>
    bnd (pBin Try.prog .shl 49 (.tmp 26) (.tmp 27) x26 x7) fun x28 =>
    bnd (pBin Try.prog .or 49 (.tmp 16) (.tmp 28) x6 x28) fun x29 =>
    K (x29) h
theorem r68_5  : kCode env 68 false inv k (cp c68 3379) (act 32 [(0, x0), (1, x1), (6, x6), (7, x7), (8, x8), (9, x9), (10, x10)]) h K =
    G68_5 inv x0 x1 x6 x7 x8 x9 x10 h fun y6 h => K .normal (act 32 [(0, x0), (1, x1), (6, y6), (9, x9), (10, x10)]) h := kq_reg
theorem r68_6  : kCode env 68 false inv k (cp c68 423) (act 32 [(0, x0), (1, x1), (6, x6), (9, x9), (10, x10)]) h K =
    bnd (pBin Try.prog .add 3 (.tmp 10) (.const (.int .i64 1)) x10 (.int .i64 1)) fun x30 =>
    K .normal (act 32 [(0, x0), (1, x1), (6, x6), (9, x9), (10, x30)]) h := kq_reg
noncomputable def F68_lrlr {β : Type} (inv : Inv) (k : Nat) : Nat → Value → Value → Value → Value → Value → AH → (Value → Value → Value → Value → Value → Value → AH → Option β) → Option β
  | 0, _, _, _, _, _, _, _ => none
  | j + 1, x0, x1, x6, x9, x10, h, ke0 =>
    bnd (pBin Try.prog .lss 3 (.tmp 10) (.tmp 9) x10 x9) fun x11 =>
    brV x11
    (bnd (pBin Try.prog .add 3 (.tmp 13) (.tmp 14) x1 x10) fun x15 =>
    G68_5 inv x0 x1 x6 x10 x15 x9 x10 h fun y6 h =>
    bnd (pBin Try.prog .add 3 (.tmp 10) (.const (.int .i64 1)) x10 (.int .i64 1)) fun x30 =>
    F68_lrlr inv k j x0 x1 y6 x9 x30 h ke0)
    (ke0 x0 x1 x6 x9 x10 x11 h)
theorem F68_lrlr_j (j : Nat) : kLoop (kCode env 68 false inv k (cp c68 52)) j (act 32 [(0, x0), (1, x1), (6, x6), (9, x9), (10, x10)]) h K = F68_lrlr inv k j x0 x1 x6 x9 x10 h (fun y0 y1 y6 y9 y10 y11 h => K (.exit 0) (act 32 [(0, y0), (1, y1), (6, y6), (9, y9), (10, y10), (11, y11)]) h) := by
      induction j generalizing x0 x1 x6 x9 x10 h with
      | zero => rfl
      | succ j ih =>
        unfold F68_lrlr
        simp only [kLoop, kq_seq c68 52, r68_2, kq_seq c68 105, b68_lrllrlr, kq_skip c68 420, kq_seq c68 211, kq_block c68 422 1, kq_seq c68 844, r68_3, kq_seq c68 1689, r68_4, r68_5, r68_6, kq_exit c68 421 0, ih, reduceIte, reduceCtorEq, XE.exit.injEq, Nat.reduceEqDiff, Nat.reduceMul, Nat.reduceAdd] <;> kernel_rfl
theorem F68_lrlr_eq  : kCode env 68 false inv k (cp c68 26) (act 32 [(0, x0), (1, x1), (6, x6), (9, x9), (10, x10)]) h K = F68_lrlr inv k k x0 x1 x6 x9 x10 h (fun y0 y1 y6 y9 y10 y11 h => K (.exit 0) (act 32 [(0, y0), (1, y1), (6, y6), (9, y9), (10, y10), (11, y11)]) h) := kq_loop (F68_lrlr_j k)
theorem r68_7  : kCode env 68 false inv k (cp c68 14) (act 32 [(0, x0), (1, x1), (6, x6), (9, x9), (10, x10), (11, x11)]) h K =
    K .normal (act 32 [(6, x6)]) h := kq_reg
theorem res68_0 : resOfFn env.P 68 .ret (act 32 [(6, x6)]) h = some (x6, h) := kq_res
/-- shadowbook/packs.at -/
noncomputable def F68 (inv : Inv) (k : Nat) (x0 x1 x2 : Value) (h : AH) : Option (Value × AH) :=
    F68_lrlr inv k k x0 x1 (.int .u64 0) x2 (.int .i64 0) h
    (fun y0 y1 y6 y9 y10 y11 h =>
    some (y6, h))
theorem F68_eq : eFun env k inv 68 #[x0, x1, x2] h = F68 inv k x0 x1 x2 h := by
      refine (kq_fun (a := act 32 [(0, x0), (1, x1), (2, x2)]) (c := cp c68 1)).trans ?_
      unfold F68
      simp only [kq_seq c68 1, r68_0, kq_seq c68 3, kq_seq c68 6, r68_1, kq_block c68 13 0, F68_lrlr_eq, kq_seq c68 7, r68_7, kq_ret c68 15, res68_0, reduceIte, reduceCtorEq, XE.exit.injEq, Nat.reduceEqDiff, Nat.reduceMul, Nat.reduceAdd] <;> kernel_rfl
theorem F68_call : eInv env (k + 1) (.func 68) #[] #[x0, x1, x2] h = F68 (eInv env k) k x0 x1 x2 h := kq_inv F68_eq
noncomputable def c69 : Code := codeOf Try.prog 69
theorem r69_0  : kCode env 69 false inv k (cp c69 4) (act 26 [(0, x0), (1, x1), (2, x2), (3, x3)]) h K =
    bnd (pLoad Try.prog 32 x1 h) fun x6 =>
    bnd (pLoad Try.prog 3 x2 h) fun x7 =>
    bnd (pLoad Try.prog 3 x3 h) fun x8 =>
    bnd (inv (.func 57) #[] #[x6, x7, x8] h) fun x9 =>
    bnd (pBin Try.prog .neq 33 (.tmp 9) (.const (.int .i64 0)) x9.1 (.int .i64 0)) fun x10 =>
    K .normal (act 26 [(0, x0), (1, x1), (2, x2), (3, x3), (10, x10)]) x9.2 := kq_reg
theorem b69_rl  : kCode env 69 false inv k (cp c69 5) (act 26 [(0, x0), (1, x1), (2, x2), (3, x3), (10, x10)]) h K = brV x10 (kCode env 69 false inv k (cp c69 10) (act 26 [(0, x0), (1, x1), (2, x2), (3, x3), (10, x10)]) h K) (kCode env 69 false inv k (cp c69 11) (act 26 [(0, x0), (1, x1), (2, x2), (3, x3), (10, x10)]) h K) := kq_cond
theorem res69_0 : resOfFn env.P 69 .ret (act 26 [(0, x0), (1, x1), (2, x2), (3, x3), (10, x10)]) h = some (.tuple #[], h) := kq_res
theorem r69_1  : kCode env 69 false inv k (cp c69 6) (act 26 [(0, x0), (1, x1), (2, x2), (3, x3), (10, x10)]) h K =
    bnd (pLoad Try.prog 3 x2 h) fun x11 =>
    K .normal (act 26 [(0, x0), (1, x1), (3, x3), (11, x11), (12, (.int .i64 0))]) h := kq_reg
theorem r69_2  : kCode env 69 false inv k (cp c69 56) (act 26 [(0, x0), (1, x1), (3, x3), (11, x11), (12, x12)]) h K =
    bnd (pBin Try.prog .lss 3 (.tmp 12) (.tmp 11) x12 x11) fun x13 =>
    K .normal (act 26 [(0, x0), (1, x1), (3, x3), (11, x11), (12, x12), (13, x13)]) h := kq_reg
theorem b69_lrllrr  : kCode env 69 false inv k (cp c69 114) (act 26 [(0, x0), (1, x1), (3, x3), (11, x11), (12, x12), (13, x13)]) h K = brV x13 (kCode env 69 false inv k (cp c69 228) (act 26 [(0, x0), (1, x1), (3, x3), (11, x11), (12, x12), (13, x13)]) h K) (kCode env 69 false inv k (cp c69 229) (act 26 [(0, x0), (1, x1), (3, x3), (11, x11), (12, x12), (13, x13)]) h K) := kq_cond
theorem r69_3  : kCode env 69 false inv k (cp c69 920) (act 26 [(0, x0), (1, x1), (3, x3), (11, x11), (12, x12), (13, x13)]) h K =
    K .normal (act 26 [(0, x0), (1, x1), (3, x3), (5, x12), (11, x11), (12, x12)]) h := kq_reg
theorem r69_4  : kCode env 69 false inv k (cp c69 1842) (act 26 [(0, x0), (1, x1), (3, x3), (5, x5), (11, x11), (12, x12)]) h K =
    bnd (pLoad Try.prog 32 x1 h) fun x17 =>
    bnd (pLoad Try.prog 3 x3 h) fun x19 =>
    bnd (pBin Try.prog .mul 3 (.tmp 18) (.tmp 19) x5 x19) fun x20 =>
    bnd (pLoad Try.prog 3 x3 h) fun x21 =>
    bnd (inv (.func 68) #[] #[x17, x20, x21] h) fun x22 =>
    bnd (callV inv x0 #[x5, x22.1] x22.2) fun x23 =>
    bnd (pUn Try.prog .not x23.1) fun x24 =>
    K .normal (act 26 [(0, x0), (1, x1), (3, x3), (11, x11), (12, x12), (24, x24)]) x23.2 := kq_reg
theorem b69_rrllrrllrr  : kCode env 69 false inv k (cp c69 1843) (act 26 [(0, x0), (1, x1), (3, x3), (11, x11), (12, x12), (24, x24)]) h K = brV x24 (kCode env 69 false inv k (cp c69 3686) (act 26 [(0, x0), (1, x1), (3, x3), (11, x11), (12, x12), (24, x24)]) h K) (kCode env 69 false inv k (cp c69 3687) (act 26 [(0, x0), (1, x1), (3, x3), (11, x11), (12, x12), (24, x24)]) h K) := kq_cond
theorem r69_5  : kCode env 69 false inv k (cp c69 231) (act 26 [(0, x0), (1, x1), (3, x3), (11, x11), (12, x12), (24, x24)]) h K =
    bnd (pBin Try.prog .add 3 (.tmp 12) (.const (.int .i64 1)) x12 (.int .i64 1)) fun x25 =>
    K .normal (act 26 [(0, x0), (1, x1), (3, x3), (11, x11), (12, x25)]) h := kq_reg
noncomputable def F69_lrr {β : Type} (inv : Inv) (k : Nat) : Nat → Value → Value → Value → Value → Value → AH → (Value → Value → Value → Value → Value → Value → AH → Option β) → (Value → Value → Value → Value → Value → Value → AH → Option β) → Option β
  | 0, _, _, _, _, _, _, _, _ => none
  | j + 1, x0, x1, x3, x11, x12, h, ke0, kr =>
    bnd (pBin Try.prog .lss 3 (.tmp 12) (.tmp 11) x12 x11) fun x13 =>
    brV x13
    (bnd (pLoad Try.prog 32 x1 h) fun x17 =>
    bnd (pLoad Try.prog 3 x3 h) fun x19 =>
    bnd (pBin Try.prog .mul 3 (.tmp 18) (.tmp 19) x12 x19) fun x20 =>
    bnd (pLoad Try.prog 3 x3 h) fun x21 =>
    bnd (inv (.func 68) #[] #[x17, x20, x21] h) fun x22 =>
    bnd (callV inv x0 #[x12, x22.1] x22.2) fun x23 =>
    bnd (pUn Try.prog .not x23.1) fun x24 =>
    brV x24
    (kr x0 x1 x3 x11 x12 x24 x23.2)
    (bnd (pBin Try.prog .add 3 (.tmp 12) (.const (.int .i64 1)) x12 (.int .i64 1)) fun x25 =>
    F69_lrr inv k j x0 x1 x3 x11 x25 x23.2 ke0 kr))
    (ke0 x0 x1 x3 x11 x12 x13 h)
theorem F69_lrr_j (j : Nat) : kLoop (kCode env 69 false inv k (cp c69 28)) j (act 26 [(0, x0), (1, x1), (3, x3), (11, x11), (12, x12)]) h K = F69_lrr inv k j x0 x1 x3 x11 x12 h (fun y0 y1 y3 y11 y12 y13 h => K (.exit 0) (act 26 [(0, y0), (1, y1), (3, y3), (11, y11), (12, y12), (13, y13)]) h) (fun y0 y1 y3 y11 y12 y24 h => K .ret (act 26 [(0, y0), (1, y1), (3, y3), (11, y11), (12, y12), (24, y24)]) h) := by
      induction j generalizing x0 x1 x3 x11 x12 h with
      | zero => rfl
      | succ j ih =>
        unfold F69_lrr
        simp only [kLoop, kq_seq c69 28, r69_2, kq_seq c69 57, b69_lrllrr, kq_skip c69 228, kq_seq c69 115, kq_block c69 230 1, kq_seq c69 460, r69_3, kq_seq c69 921, r69_4, b69_rrllrrllrr, kq_ret c69 3686, kq_skip c69 3687, r69_5, kq_exit c69 229 0, ih, reduceIte, reduceCtorEq, XE.exit.injEq, Nat.reduceEqDiff, Nat.reduceMul, Nat.reduceAdd] <;> kernel_rfl
theorem F69_lrr_eq  : kCode env 69 false inv k (cp c69 14) (act 26 [(0, x0), (1, x1), (3, x3), (11, x11), (12, x12)]) h K = F69_lrr inv k k x0 x1 x3 x11 x12 h (fun y0 y1 y3 y11 y12 y13 h => K (.exit 0) (act 26 [(0, y0), (1, y1), (3, y3), (11, y11), (12, y12), (13, y13)]) h) (fun y0 y1 y3 y11 y12 y24 h => K .ret (act 26 [(0, y0), (1, y1), (3, y3), (11, y11), (12, y12), (24, y24)]) h) := kq_loop (F69_lrr_j k)
theorem res69_1 : resOfFn env.P 69 .normal (act 26 [(0, x0), (1, x1), (3, x3), (11, x11), (12, x12), (13, x13)]) h = some (.tuple #[], h) := kq_res
theorem res69_2 : resOfFn env.P 69 .ret (act 26 [(0, x0), (1, x1), (3, x3), (11, x11), (12, x12), (24, x24)]) h = some (.tuple #[], h) := kq_res
/-- shadowbook/packs.Each$1 -/
noncomputable def F69 (inv : Inv) (k : Nat) (x0 x1 x2 x3 : Value) (h : AH) : Option (Value × AH) :=
    bnd (pLoad Try.prog 32 x1 h) fun x6 =>
    bnd (pLoad Try.prog 3 x2 h) fun x7 =>
    bnd (pLoad Try.prog 3 x3 h) fun x8 =>
    bnd (inv (.func 57) #[] #[x6, x7, x8] h) fun x9 =>
    bnd (pBin Try.prog .neq 33 (.tmp 9) (.const (.int .i64 0)) x9.1 (.int .i64 0)) fun x10 =>
    brV x10
    (some (.tuple #[], x9.2))
    (bnd (pLoad Try.prog 3 x2 x9.2) fun x11 =>
    F69_lrr inv k k x0 x1 x3 x11 (.int .i64 0) x9.2
    (fun y0 y1 y3 y11 y12 y13 h =>
    some (.tuple #[], h))
    (fun y0_1 y1_2 y3_3 y11_4 y12_5 y24 h_6 =>
    some (.tuple #[], h_6)))
theorem F69_eq : eFun env k inv 69 #[x0, x1, x2, x3] h = F69 inv k x0 x1 x2 x3 h := by
      refine (kq_fun (a := act 26 [(0, x0), (1, x1), (2, x2), (3, x3)]) (c := cp c69 1)).trans ?_
      unfold F69
      simp only [kq_seq c69 1, kq_seq c69 2, r69_0, b69_rl, kq_ret c69 10, res69_0, kq_skip c69 11, kq_seq c69 3, r69_1, kq_block c69 7 0, F69_lrr_eq, res69_1, res69_2, reduceIte, reduceCtorEq, XE.exit.injEq, Nat.reduceEqDiff, Nat.reduceMul, Nat.reduceAdd] <;> kernel_rfl
theorem F69_call : eInv env (k + 1) (.func 69) #[] #[x0, x1, x2, x3] h = F69 (eInv env k) k x0 x1 x2 x3 h := kq_inv F69_eq
noncomputable def c70 : Code := codeOf Try.prog 70
theorem r70_0  : kCode env 70 false inv k (cp c70 2) (act 11 [(0, x0)]) h K =
    K .normal (act 11 [(0, x0)]) h := kq_reg
theorem r70_1  : kCode env 70 false inv k (cp c70 6) (act 11 [(0, x0)]) h K =
    K .normal (act 11 [(0, x0), (3, (.int .i64 0))]) h := kq_reg
theorem r70_2  : kCode env 70 false inv k (cp c70 224) (act 11 [(0, x0), (3, x3)]) h K =
    bnd (pBin Try.prog .gtr 49 (.tmp 4) (.const (.int .u64 0)) x0 (.int .u64 0)) fun x5 =>
    K .normal (act 11 [(0, x0), (3, x3), (5, x5)]) h := kq_reg
theorem b70_rllllrr  : kCode env 70 false inv k (cp c70 225) (act 11 [(0, x0), (3, x3), (5, x5)]) h K = brV x5 (kCode env 70 false inv k (cp c70 450) (act 11 [(0, x0), (3, x3), (5, x5)]) h K) (kCode env 70 false inv k (cp c70 451) (act 11 [(0, x0), (3, x3), (5, x5)]) h K) := kq_cond
theorem r70_4  : kCode env 70 false inv k (cp c70 452) (act 11 [(0, x0), (3, x3), (5, x5)]) h K =
    bnd (pBin Try.prog .add 3 (.tmp 8) (.const (.int .i64 1)) x3 (.int .i64 1)) fun x9 =>
    K .normal (act 11 [(0, x0), (3, x9)]) h := kq_reg
theorem r70_3  : kCode env 70 false inv k (cp c70 227) (act 11 [(0, x0), (3, x3)]) h K =
    bnd (pBin Try.prog .shr 49 (.tmp 6) (.const (.int .u64 1)) x0 (.int .u64 1)) fun x7 =>
    K .normal (act 11 [(0, x7), (3, x3)]) h := kq_reg
noncomputable def F70_llrr {β : Type} (inv : Inv) (k : Nat) : Nat → Value → Value → AH → (Value → Value → Value → AH → Option β) → Option β
  | 0, _, _, _, _ => none
  | j + 1, x0, x3, h, ke0 =>
    bnd (pBin Try.prog .gtr 49 (.tmp 4) (.const (.int .u64 0)) x0 (.int .u64 0)) fun x5 =>
    brV x5
    (bnd (pBin Try.prog .add 3 (.tmp 8) (.const (.int .i64 1)) x3 (.int .i64 1)) fun x9 =>
    bnd (pBin Try.prog .shr 49 (.tmp 6) (.const (.int .u64 1)) x0 (.int .u64 1)) fun x7 =>
    F70_llrr inv k j x7 x9 h ke0)
    (ke0 x0 x3 x5 h)
theorem F70_llrr_j (j : Nat) : kLoop (kCode env 70 false inv k (cp c70 56)) j (act 11 [(0, x0), (3, x3)]) h K = F70_llrr inv k j x0 x3 h (fun y0 y3 y5 h => K (.exit 0) (act 11 [(0, y0), (3, y3), (5, y5)]) h) := by
      induction j generalizing x0 x3 h with
      | zero => rfl
      | succ j ih =>
        unfold F70_llrr
        simp only [kLoop, kq_seq c70 56, kq_seq c70 112, r70_2, b70_rllllrr, kq_skip c70 450, kq_seq c70 113, kq_block c70 226 1, r70_4, r70_3, kq_exit c70 451 0, ih, reduceIte, reduceCtorEq, XE.exit.injEq, Nat.reduceEqDiff, Nat.reduceMul, Nat.reduceAdd] <;> kernel_rfl
theorem F70_llrr_eq  : kCode env 70 false inv k (cp c70 28) (act 11 [(0, x0), (3, x3)]) h K = F70_llrr inv k k x0 x3 h (fun y0 y3 y5 h => K (.exit 0) (act 11 [(0, y0), (3, y3), (5, y5)]) h) := kq_loop (F70_llrr_j k)
theorem r70_5  : kCode env 70 false inv k (cp c70 30) (act 11 [(0, x0), (3, x3), (5, x5)]) h K =
    K .normal (act 11 [(2, x3)]) h := kq_reg
theorem res70_0 : resOfFn env.P 70 .ret (act 11 [(2, x2)]) h = some (x2, h) := kq_res
/-- shadowbook/shadowbookref05.bits -/
noncomputable def F70 (inv : Inv) (k : Nat) (x0 : Value) (h : AH) : Option (Value × AH) :=
    F70_llrr inv k k x0 (.int .i64 0) h
    (fun y0 y3 y5 h =>
    some (y3, h))
theorem F70_eq : eFun env k inv 70 #[x0] h = F70 inv k x0 h := by
      refine (kq_fun (a := act 11 [(0, x0)]) (c := cp c70 1)).trans ?_
      unfold F70
      simp only [kq_seq c70 1, r70_0, kq_seq c70 3, r70_1, kq_seq c70 7, kq_block c70 14 0, F70_llrr_eq, kq_seq c70 15, r70_5, kq_ret c70 31, res70_0, reduceIte, reduceCtorEq, XE.exit.injEq, Nat.reduceEqDiff, Nat.reduceMul, Nat.reduceAdd] <;> kernel_rfl
theorem F70_call : eInv env (k + 1) (.func 70) #[] #[x0] h = F70 (eInv env k) k x0 h := kq_inv F70_eq
noncomputable def c71 : Code := codeOf Try.prog 71
theorem r71_0  : kCode env 71 false inv k (cp c71 2) (act 19 [(0, x0), (1, x1)]) h K =
    K .normal (act 19 [(0, x0), (1, x1)]) h := kq_reg
theorem r71_1  : kCode env 71 false inv k (cp c71 12) (act 19 [(0, x0), (1, x1)]) h K =
    bnd (pLen Try.prog #[32] x0 h) fun x7 =>
    K .normal (act 19 [(0, x0), (1, x1), (7, x7), (8, (.int .i64 0))]) h := kq_reg
theorem r71_2  : kCode env 71 false inv k (cp c71 104) (act 19 [(0, x0), (1, x1), (7, x7), (8, x8)]) h K =
    bnd (pBin Try.prog .lss 3 (.tmp 8) (.tmp 7) x8 x7) fun x9 =>
    K .normal (act 19 [(0, x0), (1, x1), (7, x7), (8, x8), (9, x9)]) h := kq_reg
theorem b71_lrllrlr  : kCode env 71 false inv k (cp c71 210) (act 19 [(0, x0), (1, x1), (7, x7), (8, x8), (9, x9)]) h K = brV x9 (kCode env 71 false inv k (cp c71 420) (act 19 [(0, x0), (1, x1), (7, x7), (8, x8), (9, x9)]) h K) (kCode env 71 false inv k (cp c71 421) (act 19 [(0, x0), (1, x1), (7, x7), (8, x8), (9, x9)]) h K) := kq_cond
theorem r71_3  : kCode env 71 false inv k (cp c71 1688) (act 19 [(0, x0), (1, x1), (7, x7), (8, x8), (9, x9)]) h K =
    K .normal (act 19 [(0, x0), (1, x1), (5, x8), (7, x7), (8, x8)]) h := kq_reg
theorem r71_4  : kCode env 71 false inv k (cp c71 3378) (act 19 [(0, x0), (1, x1), (5, x5), (7, x7), (8, x8)]) h K =
    bnd (pIndexAddr Try.prog 32 x0 x5) fun x14 =>
    bnd (pLoad Try.prog 5 x14 h) fun x15 =>
    bnd (callV inv x1 #[x15] h) fun x16 =>
    K .normal (act 19 [(0, x0), (1, x1), (5, x5), (7, x7), (8, x8), (16, x16.1)]) x16.2 := kq_reg
theorem b71_rrllrrllrlr  : kCode env 71 false inv k (cp c71 3379) (act 19 [(0, x0), (1, x1), (5, x5), (7, x7), (8, x8), (16, x16)]) h K = brV x16 (kCode env 71 false inv k (cp c71 6758) (act 19 [(0, x0), (1, x1), (5, x5), (7, x7), (8, x8), (16, x16)]) h K) (kCode env 71 false inv k (cp c71 6759) (act 19 [(0, x0), (1, x1), (5, x5), (7, x7), (8, x8), (16, x16)]) h K) := kq_cond
theorem r71_5  : kCode env 71 false inv k (cp c71 13516) (act 19 [(0, x0), (1, x1), (5, x5), (7, x7), (8, x8), (16, x16)]) h K =
    K .normal (act 19 [(4, x5)]) h := kq_reg
theorem r71_6  : kCode env 71 false inv k (cp c71 423) (act 19 [(0, x0), (1, x1), (5, x5), (7, x7), (8, x8), (16, x16)]) h K =
    bnd (pBin Try.prog .add 3 (.tmp 8) (.const (.int .i64 1)) x8 (.int .i64 1)) fun x18 =>
    K .normal (act 19 [(0, x0), (1, x1), (7, x7), (8, x18)]) h := kq_reg
noncomputable def F71_lrlr {β : Type} (inv : Inv) (k : Nat) : Nat → Value → Value → Value → Value → AH → (Value → Value → Value → Value → Value → AH → Option β) → (Value → AH → Option β) → Option β
  | 0, _, _, _, _, _, _, _ => none
  | j + 1, x0, x1, x7, x8, h, ke0, kr =>
    bnd (pBin Try.prog .lss 3 (.tmp 8) (.tmp 7) x8 x7) fun x9 =>
    brV x9
    (bnd (pIndexAddr Try.prog 32 x0 x8) fun x14 =>
    bnd (pLoad Try.prog 5 x14 h) fun x15 =>
    bnd (callV inv x1 #[x15] h) fun x16 =>
    brV x16.1
    (kr x8 x16.2)
    (bnd (pBin Try.prog .add 3 (.tmp 8) (.const (.int .i64 1)) x8 (.int .i64 1)) fun x18 =>
    F71_lrlr inv k j x0 x1 x7 x18 x16.2 ke0 kr))
    (ke0 x0 x1 x7 x8 x9 h)
theorem F71_lrlr_j (j : Nat) : kLoop (kCode env 71 false inv k (cp c71 52)) j (act 19 [(0, x0), (1, x1), (7, x7), (8, x8)]) h K = F71_lrlr inv k j x0 x1 x7 x8 h (fun y0 y1 y7 y8 y9 h => K (.exit 0) (act 19 [(0, y0), (1, y1), (7, y7), (8, y8), (9, y9)]) h) (fun y4 h => K .ret (act 19 [(4, y4)]) h) := by
      induction j generalizing x0 x1 x7 x8 h with
      | zero => rfl
      | succ j ih =>
        unfold F71_lrlr
        simp only [kLoop, kq_seq c71 52, r71_2, kq_seq c71 105, b71_lrllrlr, kq_skip c71 420, kq_seq c71 211, kq_block c71 422 1, kq_seq c71 844, r71_3, kq_seq c71 1689, r71_4, b71_rrllrrllrlr, kq_seq c71 6758, r71_5, kq_ret c71 13517, kq_skip c71 6759, r71_6, kq_exit c71 421 0, ih, reduceIte, reduceCtorEq, XE.exit.injEq, Nat.reduceEqDiff, Nat.reduceMul, Nat.reduceAdd] <;> kernel_rfl
theorem F71_lrlr_eq  : kCode env 71 false inv k (cp c71 26) (act 19 [(0, x0), (1, x1), (7, x7), (8, x8)]) h K = F71_lrlr inv k k x0 x1 x7 x8 h (fun y0 y1 y7 y8 y9 h => K (.exit 0) (act 19 [(0, y0), (1, y1), (7, y7), (8, y8), (9, y9)]) h) (fun y4 h => K .ret (act 19 [(4, y4)]) h) := kq_loop (F71_lrlr_j k)
theorem r71_7  : kCode env 71 false inv k (cp c71 14) (act 19 [(0, x0), (1, x1), (7, x7), (8, x8), (9, x9)]) h K =
    K .normal (act 19 [(4, (.int .i64 (-1)))]) h := kq_reg
theorem res71_0 : resOfFn env.P 71 .ret (act 19 [(4, x4)]) h = some (x4, h) := kq_res
/-- slices.IndexFunc[[]byte,byte] -/
noncomputable def F71 (inv : Inv) (k : Nat) (x0 x1 : Value) (h : AH) : Option (Value × AH) :=
    bnd (pLen Try.prog #[32] x0 h) fun x7 =>
    F71_lrlr inv k k x0 x1 x7 (.int .i64 0) h
    (fun y0 y1 y7 y8 y9 h =>
    some ((.int .i64 (-1)), h))
    (fun y4 h_1 =>
    some (y4, h_1))
theorem F71_eq : eFun env k inv 71 #[x0, x1] h = F71 inv k x0 x1 h := by
      refine (kq_fun (a := act 19 [(0, x0), (1, x1)]) (c := cp c71 1)).trans ?_
      unfold F71
      simp only [kq_seq c71 1, r71_0, kq_seq c71 3, kq_seq c71 6, r71_1, kq_block c71 13 0, F71_lrlr_eq, kq_seq c71 7, r71_7, kq_ret c71 15, res71_0, reduceIte, reduceCtorEq, XE.exit.injEq, Nat.reduceEqDiff, Nat.reduceMul, Nat.reduceAdd] <;> kernel_rfl
theorem F71_call : eInv env (k + 1) (.func 71) #[] #[x0, x1] h = F71 (eInv env k) k x0 x1 h := kq_inv F71_eq
noncomputable def c72 : Code := codeOf Try.prog 72
theorem r72_0  : kCode env 72 false inv k (cp c72 2) (act 19 [(0, x0), (1, x1)]) h K =
    bnd (pLoad Try.prog 32 x1 h) fun x4 =>
    bnd (pLen Try.prog #[32] x4 h) fun x5 =>
    bnd (pBin Try.prog .sub 3 (.tmp 5) (.const (.int .i64 1)) x5 (.int .i64 1)) fun x6 =>
    K .normal (act 19 [(0, x0), (1, x1), (3, x6)]) h := kq_reg
theorem r72_1  : kCode env 72 false inv k (cp c72 48) (act 19 [(0, x0), (1, x1), (3, x3)]) h K =
    bnd (pBin Try.prog .geq 3 (.tmp 7) (.const (.int .i64 0)) x3 (.int .i64 0)) fun x8 =>
    K .normal (act 19 [(0, x0), (1, x1), (3, x3), (8, x8)]) h := kq_reg
theorem b72_rlllr  : kCode env 72 false inv k (cp c72 49) (act 19 [(0, x0), (1, x1), (3, x3), (8, x8)]) h K = brV x8 (kCode env 72 false inv k (cp c72 98) (act 19 [(0, x0), (1, x1), (3, x3), (8, x8)]) h K) (kCode env 72 false inv k (cp c72 99) (act 19 [(0, x0), (1, x1), (3, x3), (8, x8)]) h K) := kq_cond
theorem r72_3  : kCode env 72 false inv k (cp c72 200) (act 19 [(0, x0), (1, x1), (3, x3), (8, x8)]) h K =
    bnd (pLoad Try.prog 32 x1 h) fun x13 =>
    bnd (pIndexAddr Try.prog 32 x13 x3) fun x15 =>
    bnd (pLoad Try.prog 5 x15 h) fun x16 =>
    bnd (callV inv x0 #[x3, x16] h) fun x17 =>
    bnd (pUn Try.prog .not x17.1) fun x18 =>
    K .normal (act 19 [(0, x0), (1, x1), (3, x3), (18, x18)]) x17.2 := kq_reg
theorem b72_rllrllr  : kCode env 72 false inv k (cp c72 201) (act 19 [(0, x0), (1, x1), (3, x3), (18, x18)]) h K = brV x18 (kCode env 72 false inv k (cp c72 402) (act 19 [(0, x0), (1, x1), (3, x3), (18, x18)]) h K) (kCode env 72 false inv k (cp c72 403) (act 19 [(0, x0), (1, x1), (3, x3), (18, x18)]) h K) := kq_cond
theorem r72_2  : kCode env 72 false inv k (cp c72 51) (act 19 [(0, x0), (1, x1), (3, x3), (18, x18)]) h K =
    bnd (pBin Try.prog .sub 3 (.tmp 9) (.const (.int .i64 1)) x3 (.int .i64 1)) fun x10 =>
    K .normal (act 19 [(0, x0), (1, x1), (3, x10)]) h := kq_reg
noncomputable def F72_lr {β : Type} (inv : Inv) (k : Nat) : Nat → Value → Value → Value → AH → (Value → Value → Value → Value → AH → Option β) → (Value → Value → Value → Value → AH → Option β) → Option β
  | 0, _, _, _, _, _, _ => none
  | j + 1, x0, x1, x3, h, ke0, kr =>
    bnd (pBin Try.prog .geq 3 (.tmp 7) (.const (.int .i64 0)) x3 (.int .i64 0)) fun x8 =>
    brV x8
    (bnd (pLoad Try.prog 32 x1 h) fun x13 =>
    bnd (pIndexAddr Try.prog 32 x13 x3) fun x15 =>
    bnd (pLoad Try.prog 5 x15 h) fun x16 =>
    bnd (callV inv x0 #[x3, x16] h) fun x17 =>
    bnd (pUn Try.prog .not x17.1) fun x18 =>
    brV x18
    (kr x0 x1 x3 x18 x17.2)
    (bnd (pBin Try.prog .sub 3 (.tmp 9) (.const (.int .i64 1)) x3 (.int .i64 1)) fun x10 =>
    F72_lr inv k j x0 x1 x10 x17.2 ke0 kr))
    (ke0 x0 x1 x3 x8 h)
theorem F72_lr_j (j : Nat) : kLoop (kCode env 72 false inv k (cp c72 12)) j (act 19 [(0, x0), (1, x1), (3, x3)]) h K = F72_lr inv k j x0 x1 x3 h (fun y0 y1 y3 y8 h => K (.exit 0) (act 19 [(0, y0), (1, y1), (3, y3), (8, y8)]) h) (fun y0 y1 y3 y18 h => K .ret (act 19 [(0, y0), (1, y1), (3, y3), (18, y18)]) h) := by
      induction j generalizing x0 x1 x3 h with
      | zero => rfl
      | succ j ih =>
        unfold F72_lr
        simp only [kLoop, kq_seq c72 12, kq_seq c72 24, r72_1, b72_rlllr, kq_skip c72 98, kq_seq c72 25, kq_block c72 50 1, kq_seq c72 100, r72_3, b72_rllrllr, kq_ret c72 402, kq_skip c72 403, r72_2, kq_exit c72 99 0, ih, reduceIte, reduceCtorEq, XE.exit.injEq, Nat.reduceEqDiff, Nat.reduceMul, Nat.reduceAdd] <;> kernel_rfl
theorem F72_lr_eq  : kCode env 72 false inv k (cp c72 6) (act 19 [(0, x0), (1, x1), (3, x3)]) h K = F72_lr inv k k x0 x1 x3 h (fun y0 y1 y3 y8 h => K (.exit 0) (act 19 [(0, y0), (1, y1), (3, y3), (8, y8)]) h) (fun y0 y1 y3 y18 h => K .ret (act 19 [(0, y0), (1, y1), (3, y3), (18, y18)]) h) := kq_loop (F72_lr_j k)
theorem res72_0 : resOfFn env.P 72 .normal (act 19 [(0, x0), (1, x1), (3, x3), (8, x8)]) h = some (.tuple #[], h) := kq_res
theorem res72_1 : resOfFn env.P 72 .ret (act 19 [(0, x0), (1, x1), (3, x3), (18, x18)]) h = some (.tuple #[], h) := kq_res
/-- slices.Backward[[]byte,byte]$1 -/
noncomputable def F72 (inv : Inv) (k : Nat) (x0 x1 : Value) (h : AH) : Option (Value × AH) :=
    bnd (pLoad Try.prog 32 x1 h) fun x4 =>
    bnd (pLen Try.prog #[32] x4 h) fun x5 =>
    bnd (pBin Try.prog .sub 3 (.tmp 5) (.const (.int .i64 1)) x5 (.int .i64 1)) fun x6 =>
    F72_lr inv k k x0 x1 x6 h
    (fun y0 y1 y3 y8 h =>
    some (.tuple #[], h))
    (fun y0_1 y1_2 y3_3 y18 h_4 =>
    some (.tuple #[], h_4))
theorem F72_eq : eFun env k inv 72 #[x0, x1] h = F72 inv k x0 x1 h := by
      refine (kq_fun (a := act 19 [(0, x0), (1, x1)]) (c := cp c72 1)).trans ?_
      unfold F72
      simp only [kq_seq c72 1, r72_0, kq_block c72 3 0, F72_lr_eq, res72_0, res72_1, reduceIte, reduceCtorEq, XE.exit.injEq, Nat.reduceEqDiff, Nat.reduceMul, Nat.reduceAdd] <;> kernel_rfl
theorem F72_call : eInv env (k + 1) (.func 72) #[] #[x0, x1] h = F72 (eInv env k) k x0 x1 h := kq_inv F72_eq
end Go.Proofs.Ytoleebigheobcaa.Sh
