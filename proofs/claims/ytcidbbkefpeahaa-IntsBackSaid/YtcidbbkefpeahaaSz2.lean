/- Shallow functions, part 2. Printed by a program of the prover's own from the loaded program; Lean checks it. -/
import Derived.Test.YtcidbbkefpeahaaSz1
set_option linter.unusedVariables false
set_option linter.unusedSimpArgs false
set_option maxRecDepth 100000
namespace Go.Proofs.Ytcidbbkefpeahaa.Sh
open Go Go.RowKit Go.Proofs.Ev
variable {β : Type} {inv : Inv} {k : Nat} {h : AH} {K : XE → Act → AH → Option β} {x0 x1 x2 x3 x4 x5 x6 x7 x8 x9 x10 x11 x12 x13 x14 x15 x16 x17 x18 x19 x20 x21 x22 x23 x24 x25 x26 x27 x28 x29 x30 x32 x33 x34 x36 x37 x38 x39 x41 x44 x45 x46 x50 z0 z1 : Value}
noncomputable def c60 : Code := codeOf Try.prog 60
theorem r60_0  : kCode env 60 false inv k (cp c60 2) (act 18 [(0, x0)]) h K =
    bnd (pAlloc Try.prog 51 h) fun x2 =>
    K .normal (act 18 [(0, x0), (2, x2.1)]) x2.2 := kq_reg
theorem r60_1  : kCode env 60 false inv k (cp c60 12) (act 18 [(0, x0), (2, x2)]) h K =
    bnd (pLen Try.prog #[26] x0 h) fun x6 =>
    bnd (pBin Try.prog .gtr 3 (.tmp 6) (.const (.int .i64 8)) x6 (.int .i64 8)) fun x7 =>
    K .normal (act 18 [(0, x0), (2, x2), (7, x7)]) h := kq_reg
theorem b60_rlr  : kCode env 60 false inv k (cp c60 13) (act 18 [(0, x0), (2, x2), (7, x7)]) h K = brV x7 (kCode env 60 false inv k (cp c60 26) (act 18 [(0, x0), (2, x2), (7, x7)]) h K) (kCode env 60 false inv k (cp c60 27) (act 18 [(0, x0), (2, x2), (7, x7)]) h K) := kq_cond
theorem r60_2  : kCode env 60 false inv k (cp c60 52) (act 18 [(0, x0), (2, x2), (7, x7)]) h K =
    bnd (kSt (pStore Try.prog 51 x2 (.int .u64 0) h)) fun u =>
    K .normal (act 18 [(2, x2)]) u.2 := kq_reg
theorem res60_0 : resOfFn env.P 60 .ret (act 18 [(2, x2)]) h = bnd (pLoad Try.prog 51 x2 h) fun q0 =>
    some (q0, h) := kq_res
theorem r60_3  : kCode env 60 false inv k (cp c60 28) (act 18 [(0, x0), (2, x2), (7, x7)]) h K =
    bnd (inv (.func 70) #[] #[x0] h) fun x9 =>
    K .normal (act 18 [(2, x2), (9, x9.1)]) x9.2 := kq_reg
theorem g60_lrlrr  : kCode env 60 false inv k (cp c60 58) (act 18 [(2, x2), (9, x9)]) h K = kRange env 60 inv x9 (psOf (cp c60 58)) (cp c60 116) (cp c60 117) (act 18 [(2, x2), (9, x9)]) h fun e h => sw e (K .normal (act 18 [(2, x2), (9, x9)]) h) (none) [] := kq_range (g := x9) (ids := [])
noncomputable def F60_rlrr {β : Type} (inv : Inv) (k : Nat) (x2 x9 : Value) (h : AH) (kn : (Value → Value → AH → Option β)) : Option β :=
    kRange env 60 inv x9 (psOf (cp c60 58)) (cp c60 116) (cp c60 117) (act 18 [(2, x2), (9, x9)]) h fun e h => sw e
    (kn x2 x9 h)
    none []
theorem F60_rlrr_eq  : kCode env 60 false inv k (cp c60 29) (act 18 [(2, x2), (9, x9)]) h K = F60_rlrr inv k x2 x9 h (fun y2 y9 h => K .normal (act 18 [(2, y2), (9, y9)]) h) := by
      unfold F60_rlrr
      simp only [kq_block c60 29 0, g60_lrlrr, reduceIte, reduceCtorEq, XE.exit.injEq, Nat.reduceEqDiff, Nat.reduceMul, Nat.reduceAdd] <;> kernel_rfl
theorem r60_6  : kCode env 60 false inv k (cp c60 30) (act 18 [(2, x2), (9, x9)]) h K =
    bnd (pLoad Try.prog 51 x2 h) fun x17 =>
    bnd (kSt (pStore Try.prog 51 x2 x17 h)) fun u =>
    K .normal (act 18 [(2, x2)]) u.2 := kq_reg
/-- shadowbook/octet.Of -/
noncomputable def F60 (inv : Inv) (k : Nat) (x0 : Value) (h : AH) : Option (Value × AH) :=
    bnd (pAlloc Try.prog 51 h) fun x2 =>
    bnd (pLen Try.prog #[26] x0 x2.2) fun x6 =>
    bnd (pBin Try.prog .gtr 3 (.tmp 6) (.const (.int .i64 8)) x6 (.int .i64 8)) fun x7 =>
    brV x7
    (bnd (kSt (pStore Try.prog 51 x2.1 (.int .u64 0) x2.2)) fun u =>
    bnd (pLoad Try.prog 51 x2.1 u.2) fun q0 =>
    some (q0, u.2))
    (bnd (inv (.func 70) #[] #[x0] x2.2) fun x9 =>
    F60_rlrr inv k x2.1 x9.1 x9.2
    (fun y2 y9 h =>
    bnd (pLoad Try.prog 51 y2 h) fun x17 =>
    bnd (kSt (pStore Try.prog 51 y2 x17 h)) fun u_1 =>
    bnd (pLoad Try.prog 51 y2 u_1.2) fun q0 =>
    some (q0, u_1.2)))
theorem F60_eq : eFun env k inv 60 #[x0] h = F60 inv k x0 h := by
      refine (kq_fun (a := act 18 [(0, x0)]) (c := cp c60 1)).trans ?_
      unfold F60
      simp only [kq_seq c60 1, r60_0, kq_seq c60 3, kq_seq c60 6, r60_1, b60_rlr, kq_seq c60 26, r60_2, kq_ret c60 53, res60_0, kq_skip c60 27, kq_seq c60 7, kq_seq c60 14, r60_3, F60_rlrr_eq, kq_seq c60 15, r60_6, kq_ret c60 31, reduceIte, reduceCtorEq, XE.exit.injEq, Nat.reduceEqDiff, Nat.reduceMul, Nat.reduceAdd] <;> kernel_rfl
theorem F60_call : eInv env (k + 1) (.func 60) #[] #[x0] h = F60 (eInv env k) k x0 h := kq_inv F60_eq
theorem r60_4  : kCode env 60 true inv k (cp c60 116) (act 18 [(2, x2), (9, x9), (10, x10), (11, x11)]) h K =
    K .normal (act 18 [(2, x2), (4, x11)]) h := kq_reg
theorem r60_5  : kCode env 60 true inv k (cp c60 234) (act 18 [(2, x2), (4, x4)]) h K =
    bnd (pLoad Try.prog 51 x2 h) fun x12 =>
    bnd (pBin Try.prog .shl 51 (.tmp 12) (.const (.int .u64 8)) x12 (.int .u64 8)) fun x13 =>
    bnd (pConv Try.prog 5 51 x4 h) fun x15 =>
    bnd (pBin Try.prog .or 51 (.tmp 13) (.tmp 15) x13 x15) fun x16 =>
    bnd (kSt (pStore Try.prog 51 x2 x16 h)) fun u =>
    K .normal (act 18 []) u.2 := kq_reg
noncomputable def R60_lrlrr (inv : Inv) (k l : Nat) (x2 x9 z0 z1 : Value) (h : AH) : Option (Value × AH) :=
    rdBegin l h fun h =>
    bnd (pLoad Try.prog 51 x2 h) fun x12 =>
    bnd (pBin Try.prog .shl 51 (.tmp 12) (.const (.int .u64 8)) x12 (.int .u64 8)) fun x13 =>
    bnd (pConv Try.prog 5 51 z1 h) fun x15 =>
    bnd (pBin Try.prog .or 51 (.tmp 13) (.tmp 15) x13 x15) fun x16 =>
    bnd (kSt (pStore Try.prog 51 x2 x16 h)) fun u =>
    rdEnd l .normal u.2
theorem R60_lrlrr_eq {l : Nat} {pd : Option Code} (hl : h.get l = some (.loop .ready pd 60 (act 18 [(2, x2), (9, x9)]).tmps (psOf (cp c60 58)) (cp c60 116) (cp c60 117))) : eRound env k inv l #[z0, z1] h = R60_lrlrr inv k l x2 x9 z0 z1 h := by
      refine (eRound_k (a := act 18 [(2, x2), (9, x9), (10, z0), (11, z1)]) hl (by kernel_rfl) (by kernel_rfl)).trans ?_
      unfold R60_lrlrr
      simp only [r60_4, kq_block c60 117 1, r60_5, reduceIte, reduceCtorEq, XE.exit.injEq, Nat.reduceEqDiff, Nat.reduceMul, Nat.reduceAdd] <;> kernel_rfl
noncomputable def c61 : Code := codeOf Try.prog 61
theorem r61_0  : kCode env 61 false inv k (cp c61 2) (act 15 [(0, x0)]) h K =
    K .normal (act 15 [(0, x0)]) h := kq_reg
theorem r61_1  : kCode env 61 false inv k (cp c61 12) (act 15 [(0, x0)]) h K =
    bnd (pNilCheck x0) fun x4 =>
    bnd (pFieldAddr Try.prog 79 x4 0) fun x5 =>
    bnd (pLoad Try.prog 26 x5 h) fun x6 =>
    bnd (pLen Try.prog #[26] x6 h) fun x7 =>
    bnd (pBin Try.prog .geq 3 (.tmp 7) (.const (.int .i64 10)) x7 (.int .i64 10)) fun x8 =>
    K .normal (act 15 [(0, x0), (8, x8)]) h := kq_reg
theorem b61_rlr  : kCode env 61 false inv k (cp c61 13) (act 15 [(0, x0), (8, x8)]) h K = brV x8 (kCode env 61 false inv k (cp c61 26) (act 15 [(0, x0), (8, x8)]) h K) (kCode env 61 false inv k (cp c61 27) (act 15 [(0, x0), (8, x8)]) h K) := kq_cond
theorem r61_2  : kCode env 61 false inv k (cp c61 52) (act 15 [(0, x0), (8, x8)]) h K =
    K .normal (act 15 [(2, (.bool false))]) h := kq_reg
theorem res61_0 : resOfFn env.P 61 .ret (act 15 [(2, x2)]) h = some (x2, h) := kq_res
theorem r61_3  : kCode env 61 false inv k (cp c61 14) (act 15 [(0, x0), (8, x8)]) h K =
    bnd (pNilCheck x0) fun x10 =>
    bnd (pFieldAddr Try.prog 79 x10 0) fun x11 =>
    bnd (pLoad Try.prog 26 x11 h) fun x12 =>
    bnd (inv (.func 71) #[] #[x12, (.func (.func 72) #[] #[])] h) fun x13 =>
    bnd (pUn Try.prog .not x13.1) fun x14 =>
    K .normal (act 15 [(2, x14)]) x13.2 := kq_reg
/-- (*shadowbook/octet.Reader).ends -/
noncomputable def F61 (inv : Inv) (k : Nat) (x0 : Value) (h : AH) : Option (Value × AH) :=
    bnd (pNilCheck x0) fun x4 =>
    bnd (pFieldAddr Try.prog 79 x4 0) fun x5 =>
    bnd (pLoad Try.prog 26 x5 h) fun x6 =>
    bnd (pLen Try.prog #[26] x6 h) fun x7 =>
    bnd (pBin Try.prog .geq 3 (.tmp 7) (.const (.int .i64 10)) x7 (.int .i64 10)) fun x8 =>
    brV x8
    (some ((.bool false), h))
    (bnd (pNilCheck x0) fun x10 =>
    bnd (pFieldAddr Try.prog 79 x10 0) fun x11 =>
    bnd (pLoad Try.prog 26 x11 h) fun x12 =>
    bnd (inv (.func 71) #[] #[x12, (.func (.func 72) #[] #[])] h) fun x13 =>
    bnd (pUn Try.prog .not x13.1) fun x14 =>
    some (x14, x13.2))
theorem F61_eq : eFun env k inv 61 #[x0] h = F61 inv k x0 h := by
      refine (kq_fun (a := act 15 [(0, x0)]) (c := cp c61 1)).trans ?_
      unfold F61
      simp only [kq_seq c61 1, r61_0, kq_seq c61 3, kq_seq c61 6, r61_1, b61_rlr, kq_seq c61 26, r61_2, kq_ret c61 53, res61_0, kq_skip c61 27, kq_seq c61 7, r61_3, kq_ret c61 15, reduceIte, reduceCtorEq, XE.exit.injEq, Nat.reduceEqDiff, Nat.reduceMul, Nat.reduceAdd] <;> kernel_rfl
theorem F61_call : eInv env (k + 1) (.func 61) #[] #[x0] h = F61 (eInv env k) k x0 h := kq_inv F61_eq
noncomputable def c66 : Code := codeOf Try.prog 66
theorem r66_0  : kCode env 66 false inv k (cp c66 2) (act 48 [(0, x0), (1, x1)]) h K =
    K .normal (act 48 [(0, x0), (1, x1)]) h := kq_reg
theorem r66_1  : kCode env 66 false inv k (cp c66 12) (act 48 [(0, x0), (1, x1)]) h K =
    bnd (pBin Try.prog .lss 3 (.tmp 9) (.const (.int .i64 0)) x1 (.int .i64 0)) fun x10 =>
    K .normal (act 48 [(0, x0), (1, x1), (10, x10)]) h := kq_reg
theorem b66_rlr  : kCode env 66 false inv k (cp c66 13) (act 48 [(0, x0), (1, x1), (10, x10)]) h K = brV x10 (kCode env 66 false inv k (cp c66 26) (act 48 [(0, x0), (1, x1), (10, x10)]) h K) (kCode env 66 false inv k (cp c66 27) (act 48 [(0, x0), (1, x1), (10, x10)]) h K) := kq_cond
theorem r66_2  : kCode env 66 false inv k (cp c66 26) (act 48 [(0, x0), (1, x1), (10, x10)]) h K =
    bnd (pMakeIface Try.prog 9 (.string { data := #[99, 97, 110, 110, 111, 116, 32, 98, 101, 32, 110, 101, 103, 97, 116, 105, 118, 101] })) fun x11 =>
    bnd ((none : Option (Value × AH))) fun u =>
    K .normal (act 48 [(0, x0), (1, x1)]) u.2 := kq_reg
noncomputable def F66_rlr {β : Type} (inv : Inv) (k : Nat) (x0 x1 x10 : Value) (h : AH) (kn : (Value → Value → Value → AH → Option β)) : Option β :=
    brV x10
    (bnd (pMakeIface Try.prog 9 (.string { data := #[99, 97, 110, 110, 111, 116, 32, 98, 101, 32, 110, 101, 103, 97, 116, 105, 118, 101] })) fun x11 =>
    bnd ((none : Option (Value × AH))) fun u =>
    kn x0 x1 unk u.2)
    (kn x0 x1 x10 h)
theorem F66_rlr_eq  : kCode env 66 false inv k (cp c66 13) (act 48 [(0, x0), (1, x1), (10, x10)]) h K = F66_rlr inv k x0 x1 x10 h (fun y0 y1 y10 h => K .normal (act 48 [(0, y0), (1, y1), (10, y10)]) h) := by
      unfold F66_rlr
      simp only [b66_rlr, r66_2, kq_skip c66 27, reduceIte, reduceCtorEq, XE.exit.injEq, Nat.reduceEqDiff, Nat.reduceMul, Nat.reduceAdd] <;> kernel_rfl
theorem r66_3  : kCode env 66 false inv k (cp c66 14) (act 48 [(0, x0), (1, x1), (10, x10)]) h K =
    bnd (pLen Try.prog #[25] x0 h) fun x14 =>
    bnd (pConv Try.prog 3 76 x14 h) fun x15 =>
    bnd (pConv Try.prog 3 76 x1 h) fun x17 =>
    bnd (inv (.func 73) #[] #[x15, x17] h) fun x18 =>
    bnd (pExtract x18.1 0) fun x19 =>
    bnd (pExtract x18.1 1) fun x20 =>
    K .normal (act 48 [(0, x0), (5, x19), (6, x20)]) x18.2 := kq_reg
noncomputable abbrev G66_4 {β : Type} (inv : Inv) (x0 x5 x6 : Value) (h : AH) (K : Value → AH → Option β) : Option β :=
    bnd (pBin Try.prog .gtr 76 (.tmp 21) (.const (.int .u64 0)) x5 (.int .u64 0)) fun x22 =>
    bnd (gd (some x22) false h (some (x6, h))) fun x24 =>
    bnd (gd (some x22) false x24.2 (lt (pBin Try.prog .gtr 76 (.tmp 24) (.const (.int .u64 9223372036854775807)) x24.1 (.int .u64 9223372036854775807)) x24.2)) fun x25 =>
    bnd (pickV x22 (.bool true) x25.1) fun x26 =>
    K (x26) x25.2
theorem r66_4  : kCode env 66 false inv k (cp c66 60) (act 48 [(0, x0), (5, x5), (6, x6)]) h K =
    G66_4 inv x0 x5 x6 h fun y26 h => K .normal (act 48 [(0, x0), (6, x6), (26, y26)]) h := kq_reg
theorem b66_rlrrr  : kCode env 66 false inv k (cp c66 61) (act 48 [(0, x0), (6, x6), (26, x26)]) h K = brV x26 (kCode env 66 false inv k (cp c66 122) (act 48 [(0, x0), (6, x6), (26, x26)]) h K) (kCode env 66 false inv k (cp c66 123) (act 48 [(0, x0), (6, x6), (26, x26)]) h K) := kq_cond
theorem r66_5  : kCode env 66 false inv k (cp c66 122) (act 48 [(0, x0), (6, x6), (26, x26)]) h K =
    bnd (pMakeIface Try.prog 9 (.string { data := #[116, 104, 101, 32, 114, 101, 115, 117, 108, 116, 32, 111, 102, 32, 40, 108, 101, 110, 40, 120, 41, 32, 42, 32, 99, 111, 117, 110, 116, 41, 32, 111, 118, 101, 114, 102, 108, 111, 119, 115] })) fun x27 =>
    bnd ((none : Option (Value × AH))) fun u =>
    K .normal (act 48 [(0, x0), (6, x6)]) u.2 := kq_reg
noncomputable def F66_rlrrr {β : Type} (inv : Inv) (k : Nat) (x0 x6 x26 : Value) (h : AH) (kn : (Value → Value → Value → AH → Option β)) : Option β :=
    brV x26
    (bnd (pMakeIface Try.prog 9 (.string { data := #[116, 104, 101, 32, 114, 101, 115, 117, 108, 116, 32, 111, 102, 32, 40, 108, 101, 110, 40, 120, 41, 32, 42, 32, 99, 111, 117, 110, 116, 41, 32, 111, 118, 101, 114, 102, 108, 111, 119, 115] })) fun x27 =>
    bnd ((none : Option (Value × AH))) fun u =>
    kn x0 x6 unk u.2)
    (kn x0 x6 x26 h)
theorem F66_rlrrr_eq  : kCode env 66 false inv k (cp c66 61) (act 48 [(0, x0), (6, x6), (26, x26)]) h K = F66_rlrrr inv k x0 x6 x26 h (fun y0 y6 y26 h => K .normal (act 48 [(0, y0), (6, y6), (26, y26)]) h) := by
      unfold F66_rlrrr
      simp only [b66_rlrrr, r66_5, kq_skip c66 123, reduceIte, reduceCtorEq, XE.exit.injEq, Nat.reduceEqDiff, Nat.reduceMul, Nat.reduceAdd] <;> kernel_rfl
theorem r66_6  : kCode env 66 false inv k (cp c66 62) (act 48 [(0, x0), (6, x6), (26, x26)]) h K =
    bnd (pConv Try.prog 76 3 x6 h) fun x29 =>
    bnd (pMakeSlice Try.prog 25 x29 x29 h) fun x30 =>
    K .normal (act 48 [(0, x0), (7, x30.1)]) x30.2 := kq_reg
theorem r66_7  : kCode env 66 false inv k (cp c66 126) (act 48 [(0, x0), (7, x7)]) h K =
    bnd (pCopy Try.prog #[25, 25] x7 x0 h) fun x33 =>
    K .normal (act 48 [(7, x7), (8, x33.1)]) x33.2 := kq_reg
theorem r66_8  : kCode env 66 false inv k (cp c66 4064) (act 48 [(7, x7), (8, x8)]) h K =
    bnd (pLen Try.prog #[25] x7 h) fun x36 =>
    bnd (pBin Try.prog .lss 3 (.tmp 34) (.tmp 36) x8 x36) fun x37 =>
    K .normal (act 48 [(7, x7), (8, x8), (37, x37)]) h := kq_reg
theorem b66_rllllrrrrrr  : kCode env 66 false inv k (cp c66 4065) (act 48 [(7, x7), (8, x8), (37, x37)]) h K = brV x37 (kCode env 66 false inv k (cp c66 8130) (act 48 [(7, x7), (8, x8), (37, x37)]) h K) (kCode env 66 false inv k (cp c66 8131) (act 48 [(7, x7), (8, x8), (37, x37)]) h K) := kq_cond
theorem r66_9  : kCode env 66 false inv k (cp c66 4066) (act 48 [(7, x7), (8, x8), (37, x37)]) h K =
    bnd (pSlice Try.prog 25 x7 (some x8) none none h) fun x41 =>
    bnd (pSlice Try.prog 25 x7 none (some x8) none h) fun x44 =>
    bnd (pCopy Try.prog #[25, 25] x41 x44 h) fun x45 =>
    bnd (pBin Try.prog .add 3 (.tmp 38) (.tmp 45) x8 x45.1) fun x46 =>
    K .normal (act 48 [(7, x7), (8, x46)]) x45.2 := kq_draw
noncomputable def F66_llrrrrrr {β : Type} (inv : Inv) (k : Nat) : Nat → Value → Value → AH → (Value → Value → Value → AH → Option β) → Option β
  | 0, _, _, _, _ => none
  | j + 1, x7, x8, h, ke0 =>
    bnd (pLen Try.prog #[25] x7 h) fun x36 =>
    bnd (pBin Try.prog .lss 3 (.tmp 34) (.tmp 36) x8 x36) fun x37 =>
    brV x37
    (bnd (pSlice Try.prog 25 x7 (some x8) none none h) fun x41 =>
    bnd (pSlice Try.prog 25 x7 none (some x8) none h) fun x44 =>
    bnd (pCopy Try.prog #[25, 25] x41 x44 h) fun x45 =>
    bnd (pBin Try.prog .add 3 (.tmp 38) (.tmp 45) x8 x45.1) fun x46 =>
    F66_llrrrrrr inv k j x7 x46 x45.2 ke0)
    (ke0 x7 x8 x37 h)
theorem F66_llrrrrrr_j (j : Nat) : kLoop (kCode env 66 false inv k (cp c66 1016)) j (act 48 [(7, x7), (8, x8)]) h K = F66_llrrrrrr inv k j x7 x8 h (fun y7 y8 y37 h => K (.exit 0) (act 48 [(7, y7), (8, y8), (37, y37)]) h) := by
      induction j generalizing x7 x8 h with
      | zero => rfl
      | succ j ih =>
        unfold F66_llrrrrrr
        simp only [kLoop, kq_seq c66 1016, kq_seq c66 2032, r66_8, b66_rllllrrrrrr, kq_skip c66 8130, kq_block c66 2033 1, r66_9, kq_exit c66 8131 0, ih, reduceIte, reduceCtorEq, XE.exit.injEq, Nat.reduceEqDiff, Nat.reduceMul, Nat.reduceAdd] <;> kernel_rfl
theorem F66_llrrrrrr_eq  : kCode env 66 false inv k (cp c66 508) (act 48 [(7, x7), (8, x8)]) h K = F66_llrrrrrr inv k k x7 x8 h (fun y7 y8 y37 h => K (.exit 0) (act 48 [(7, y7), (8, y8), (37, y37)]) h) := kq_loop (F66_llrrrrrr_j k)
theorem r66_10  : kCode env 66 false inv k (cp c66 510) (act 48 [(7, x7), (8, x8), (37, x37)]) h K =
    K .normal (act 48 [(4, x7)]) h := kq_reg
theorem res66_0 : resOfFn env.P 66 .ret (act 48 [(4, x4)]) h = some (x4, h) := kq_res
/-- slices.Repeat[[]int64,int64] -/
noncomputable def F66 (inv : Inv) (k : Nat) (x0 x1 : Value) (h : AH) : Option (Value × AH) :=
    bnd (pBin Try.prog .lss 3 (.tmp 9) (.const (.int .i64 0)) x1 (.int .i64 0)) fun x10 =>
    F66_rlr inv k x0 x1 x10 h
    (fun y0 y1 y10 h =>
    bnd (pLen Try.prog #[25] y0 h) fun x14 =>
    bnd (pConv Try.prog 3 76 x14 h) fun x15 =>
    bnd (pConv Try.prog 3 76 y1 h) fun x17 =>
    bnd (inv (.func 73) #[] #[x15, x17] h) fun x18 =>
    bnd (pExtract x18.1 0) fun x19 =>
    bnd (pExtract x18.1 1) fun x20 =>
    G66_4 inv y0 x19 x20 x18.2 fun y26 h_1 =>
    F66_rlrrr inv k y0 x20 y26 h_1
    (fun y0_2 y6 y26_3 h_4 =>
    bnd (pConv Try.prog 76 3 y6 h_4) fun x29 =>
    bnd (pMakeSlice Try.prog 25 x29 x29 h_4) fun x30 =>
    bnd (pCopy Try.prog #[25, 25] x30.1 y0_2 x30.2) fun x33 =>
    F66_llrrrrrr inv k k x30.1 x33.1 x33.2
    (fun y7 y8 y37 h_5 =>
    some (y7, h_5))))
theorem F66_eq : eFun env k inv 66 #[x0, x1] h = F66 inv k x0 x1 h := by
      refine (kq_fun (a := act 48 [(0, x0), (1, x1)]) (c := cp c66 1)).trans ?_
      unfold F66
      simp only [kq_seq c66 1, r66_0, kq_seq c66 3, kq_seq c66 6, r66_1, F66_rlr_eq, kq_seq c66 7, r66_3, kq_seq c66 15, kq_seq c66 30, r66_4, F66_rlrrr_eq, kq_seq c66 31, r66_6, kq_seq c66 63, r66_7, kq_seq c66 127, kq_block c66 254 0, F66_llrrrrrr_eq, kq_seq c66 255, r66_10, kq_ret c66 511, res66_0, reduceIte, reduceCtorEq, XE.exit.injEq, Nat.reduceEqDiff, Nat.reduceMul, Nat.reduceAdd] <;> kernel_rfl
theorem F66_call : eInv env (k + 1) (.func 66) #[] #[x0, x1] h = F66 (eInv env k) k x0 x1 h := kq_inv F66_eq
noncomputable def c67 : Code := codeOf Try.prog 67
theorem r67_0  : kCode env 67 false inv k (cp c67 2) (act 23 [(0, x0), (1, x1)]) h K =
    K .normal (act 23 [(0, x0), (1, x1)]) h := kq_reg
theorem r67_1  : kCode env 67 false inv k (cp c67 24) (act 23 [(0, x0), (1, x1)]) h K =
    bnd (pBin Try.prog .eql 57 (.tmp 9) (.const (.pointer none)) x0 (.pointer none)) fun x10 =>
    K .normal (act 23 [(0, x0), (1, x1), (8, x10)]) h := kq_reg
theorem b67_rllr  : kCode env 67 false inv k (cp c67 25) (act 23 [(0, x0), (1, x1), (8, x8)]) h K = brV x8 (kCode env 67 false inv k (cp c67 50) (act 23 [(0, x0), (1, x1), (8, x8)]) h K) (kCode env 67 false inv k (cp c67 51) (act 23 [(0, x0), (1, x1), (8, x8)]) h K) := kq_cond
theorem r67_2  : kCode env 67 false inv k (cp c67 100) (act 23 [(0, x0), (1, x1), (8, x8)]) h K =
    K .normal (act 23 [(4, (.slice none 0 0)), (5, (.int .i64 1))]) h := kq_reg
theorem res67_0 : resOfFn env.P 67 .ret (act 23 [(4, x4), (5, x5)]) h = some (.tuple #[x4, x5], h) := kq_res
theorem r67_3  : kCode env 67 false inv k (cp c67 102) (act 23 [(0, x0), (1, x1), (8, x8)]) h K =
    bnd (pBin Try.prog .lss 3 (.tmp 12) (.const (.int .i64 0)) x1 (.int .i64 0)) fun x13 =>
    K .normal (act 23 [(0, x0), (1, x1), (11, x13)]) h := kq_reg
theorem b67_rrrllr  : kCode env 67 false inv k (cp c67 103) (act 23 [(0, x0), (1, x1), (11, x11)]) h K = brV x11 (kCode env 67 false inv k (cp c67 206) (act 23 [(0, x0), (1, x1), (11, x11)]) h K) (kCode env 67 false inv k (cp c67 207) (act 23 [(0, x0), (1, x1), (11, x11)]) h K) := kq_cond
theorem r67_4  : kCode env 67 false inv k (cp c67 412) (act 23 [(0, x0), (1, x1), (11, x11)]) h K =
    K .normal (act 23 [(4, (.slice none 0 0)), (5, (.int .i64 2))]) h := kq_reg
theorem r67_5  : kCode env 67 false inv k (cp c67 14) (act 23 [(0, x0), (1, x1), (11, x11)]) h K =
    bnd (inv (.func 59) #[] #[x0, x1] h) fun x17 =>
    bnd (pExtract x17.1 0) fun x18 =>
    bnd (pExtract x17.1 1) fun x19 =>
    K .normal (act 23 [(6, x18), (7, x19)]) x17.2 := kq_reg
theorem r67_6  : kCode env 67 false inv k (cp c67 30) (act 23 [(6, x6), (7, x7)]) h K =
    bnd (inv (.func 58) #[] #[x6] h) fun x21 =>
    K .normal (act 23 [(4, x21.1), (5, x7)]) x21.2 := kq_reg
/-- (*shadowbook/octet.Reader).Bytes -/
noncomputable def F67 (inv : Inv) (k : Nat) (x0 x1 : Value) (h : AH) : Option (Value × AH) :=
    bnd (pBin Try.prog .eql 57 (.tmp 9) (.const (.pointer none)) x0 (.pointer none)) fun x10 =>
    brV x10
    (some (.tuple #[(.slice none 0 0), (.int .i64 1)], h))
    (bnd (pBin Try.prog .lss 3 (.tmp 12) (.const (.int .i64 0)) x1 (.int .i64 0)) fun x13 =>
    brV x13
    (some (.tuple #[(.slice none 0 0), (.int .i64 2)], h))
    (bnd (inv (.func 59) #[] #[x0, x1] h) fun x17 =>
    bnd (pExtract x17.1 0) fun x18 =>
    bnd (pExtract x17.1 1) fun x19 =>
    bnd (inv (.func 58) #[] #[x18] x17.2) fun x21 =>
    some (.tuple #[x21.1, x19], x21.2)))
theorem F67_eq : eFun env k inv 67 #[x0, x1] h = F67 inv k x0 x1 h := by
      refine (kq_fun (a := act 23 [(0, x0), (1, x1)]) (c := cp c67 1)).trans ?_
      unfold F67
      simp only [kq_seq c67 1, r67_0, kq_seq c67 3, kq_block c67 6 0, kq_seq c67 12, r67_1, b67_rllr, kq_seq c67 50, r67_2, kq_ret c67 101, res67_0, kq_seq c67 51, r67_3, b67_rrrllr, kq_seq c67 206, r67_4, kq_ret c67 413, kq_skip c67 207, kq_seq c67 7, r67_5, kq_seq c67 15, r67_6, kq_ret c67 31, reduceIte, reduceCtorEq, XE.exit.injEq, Nat.reduceEqDiff, Nat.reduceMul, Nat.reduceAdd] <;> kernel_rfl
theorem F67_call : eInv env (k + 1) (.func 67) #[] #[x0, x1] h = F67 (eInv env k) k x0 x1 h := kq_inv F67_eq
noncomputable def c68 : Code := codeOf Try.prog 68
theorem r68_0  : kCode env 68 false inv k (cp c68 2) (act 10 [(0, x0)]) h K =
    K .normal (act 10 [(0, x0)]) h := kq_reg
theorem r68_1  : kCode env 68 false inv k (cp c68 12) (act 10 [(0, x0)]) h K =
    bnd (pBin Try.prog .eql 57 (.tmp 3) (.const (.pointer none)) x0 (.pointer none)) fun x4 =>
    K .normal (act 10 [(0, x0), (4, x4)]) h := kq_reg
theorem b68_rlr  : kCode env 68 false inv k (cp c68 13) (act 10 [(0, x0), (4, x4)]) h K = brV x4 (kCode env 68 false inv k (cp c68 26) (act 10 [(0, x0), (4, x4)]) h K) (kCode env 68 false inv k (cp c68 27) (act 10 [(0, x0), (4, x4)]) h K) := kq_cond
theorem r68_2  : kCode env 68 false inv k (cp c68 52) (act 10 [(0, x0), (4, x4)]) h K =
    K .normal (act 10 [(2, (.int .i64 0))]) h := kq_reg
theorem res68_0 : resOfFn env.P 68 .ret (act 10 [(2, x2)]) h = some (x2, h) := kq_res
theorem r68_3  : kCode env 68 false inv k (cp c68 14) (act 10 [(0, x0), (4, x4)]) h K =
    bnd (pNilCheck x0) fun x6 =>
    bnd (pFieldAddr Try.prog 79 x6 0) fun x7 =>
    bnd (pLoad Try.prog 26 x7 h) fun x8 =>
    bnd (pLen Try.prog #[26] x8 h) fun x9 =>
    K .normal (act 10 [(2, x9)]) h := kq_reg
/-- (*shadowbook/octet.Reader).Left -/
noncomputable def F68 (inv : Inv) (k : Nat) (x0 : Value) (h : AH) : Option (Value × AH) :=
    bnd (pBin Try.prog .eql 57 (.tmp 3) (.const (.pointer none)) x0 (.pointer none)) fun x4 =>
    brV x4
    (some ((.int .i64 0), h))
    (bnd (pNilCheck x0) fun x6 =>
    bnd (pFieldAddr Try.prog 79 x6 0) fun x7 =>
    bnd (pLoad Try.prog 26 x7 h) fun x8 =>
    bnd (pLen Try.prog #[26] x8 h) fun x9 =>
    some (x9, h))
theorem F68_eq : eFun env k inv 68 #[x0] h = F68 inv k x0 h := by
      refine (kq_fun (a := act 10 [(0, x0)]) (c := cp c68 1)).trans ?_
      unfold F68
      simp only [kq_seq c68 1, r68_0, kq_seq c68 3, kq_seq c68 6, r68_1, b68_rlr, kq_seq c68 26, r68_2, kq_ret c68 53, res68_0, kq_skip c68 27, kq_seq c68 7, r68_3, kq_ret c68 15, reduceIte, reduceCtorEq, XE.exit.injEq, Nat.reduceEqDiff, Nat.reduceMul, Nat.reduceAdd] <;> kernel_rfl
theorem F68_call : eInv env (k + 1) (.func 68) #[] #[x0] h = F68 (eInv env k) k x0 h := kq_inv F68_eq
noncomputable def c69 : Code := codeOf Try.prog 69
theorem r69_0  : kCode env 69 false inv k (cp c69 2) (act 30 [(0, x0), (1, x1), (2, x2)]) h K =
    K .normal (act 30 [(0, x0), (1, x1), (2, x2), (6, (.slice none 0 0)), (7, (.int .i64 0))]) h := kq_reg
theorem r69_1  : kCode env 69 false inv k (cp c69 12) (act 30 [(0, x0), (1, x1), (2, x2), (6, x6), (7, x7)]) h K =
    bnd (inv (.func 74) #[] #[x0, x1, x2] h) fun x15 =>
    K .normal (act 30 [(0, x0), (1, x1), (2, x2), (6, x6), (7, x7), (8, x15.1)]) x15.2 := kq_reg
theorem r69_2  : kCode env 69 false inv k (cp c69 26) (act 30 [(0, x0), (1, x1), (2, x2), (6, x6), (7, x7), (8, x8)]) h K =
    bnd (pBin Try.prog .neq 27 (.tmp 16) (.const (.int .i64 0)) x8 (.int .i64 0)) fun x17 =>
    K .normal (act 30 [(0, x0), (1, x1), (2, x2), (6, x6), (7, x7), (8, x8), (17, x17)]) h := kq_reg
theorem b69_rrlr  : kCode env 69 false inv k (cp c69 27) (act 30 [(0, x0), (1, x1), (2, x2), (6, x6), (7, x7), (8, x8), (17, x17)]) h K = brV x17 (kCode env 69 false inv k (cp c69 54) (act 30 [(0, x0), (1, x1), (2, x2), (6, x6), (7, x7), (8, x8), (17, x17)]) h K) (kCode env 69 false inv k (cp c69 55) (act 30 [(0, x0), (1, x1), (2, x2), (6, x6), (7, x7), (8, x8), (17, x17)]) h K) := kq_cond
theorem r69_3  : kCode env 69 false inv k (cp c69 108) (act 30 [(0, x0), (1, x1), (2, x2), (6, x6), (7, x7), (8, x8), (17, x17)]) h K =
    K .normal (act 30 [(6, (.slice none 0 0)), (7, x8)]) h := kq_reg
theorem res69_0 : resOfFn env.P 69 .ret (act 30 [(6, x6), (7, x7)]) h = some (.tuple #[x6, x7], h) := kq_res
theorem r69_4  : kCode env 69 false inv k (cp c69 14) (act 30 [(0, x0), (1, x1), (2, x2), (6, x6), (7, x7), (8, x8), (17, x17)]) h K =
    bnd (pAlloc Try.prog 50 h) fun x9 =>
    K .normal (act 30 [(0, x0), (1, x1), (2, x2), (6, x6), (7, x7), (9, x9.1)]) x9.2 := kq_reg
theorem r69_5  : kCode env 69 false inv k (cp c69 60) (act 30 [(0, x0), (1, x1), (2, x2), (6, x6), (7, x7), (9, x9)]) h K =
    bnd (inv (.func 75) #[] #[x0, x1, x2] h) fun x22 =>
    K .normal (act 30 [(6, x6), (7, x7), (9, x9), (22, x22.1)]) x22.2 := kq_reg
theorem g69_lrlrrr  : kCode env 69 false inv k (cp c69 122) (act 30 [(6, x6), (7, x7), (9, x9), (22, x22)]) h K = kRange env 69 inv x22 (psOf (cp c69 122)) (cp c69 244) (cp c69 245) (act 30 [(6, x6), (7, x7), (9, x9), (22, x22)]) h fun e h => sw e (K .normal (act 30 [(6, x6), (7, x7), (9, x9), (22, x22)]) h) (none) [] := kq_range (g := x22) (ids := [])
noncomputable def F69_rlrrr {β : Type} (inv : Inv) (k : Nat) (x6 x7 x9 x22 : Value) (h : AH) (kn : (Value → Value → Value → Value → AH → Option β)) : Option β :=
    kRange env 69 inv x22 (psOf (cp c69 122)) (cp c69 244) (cp c69 245) (act 30 [(6, x6), (7, x7), (9, x9), (22, x22)]) h fun e h => sw e
    (kn x6 x7 x9 x22 h)
    none []
theorem F69_rlrrr_eq  : kCode env 69 false inv k (cp c69 61) (act 30 [(6, x6), (7, x7), (9, x9), (22, x22)]) h K = F69_rlrrr inv k x6 x7 x9 x22 h (fun y6 y7 y9 y22 h => K .normal (act 30 [(6, y6), (7, y7), (9, y9), (22, y22)]) h) := by
      unfold F69_rlrrr
      simp only [kq_block c69 61 0, g69_lrlrrr, reduceIte, reduceCtorEq, XE.exit.injEq, Nat.reduceEqDiff, Nat.reduceMul, Nat.reduceAdd] <;> kernel_rfl
theorem r69_8  : kCode env 69 false inv k (cp c69 62) (act 30 [(6, x6), (7, x7), (9, x9), (22, x22)]) h K =
    bnd (pLoad Try.prog 50 x9 h) fun x29 =>
    K .normal (act 30 [(6, x29), (7, (.int .i64 0))]) h := kq_reg
/-- shadowbook/packs.Get -/
noncomputable def F69 (inv : Inv) (k : Nat) (x0 x1 x2 : Value) (h : AH) : Option (Value × AH) :=
    bnd (inv (.func 74) #[] #[x0, x1, x2] h) fun x15 =>
    bnd (pBin Try.prog .neq 27 (.tmp 16) (.const (.int .i64 0)) x15.1 (.int .i64 0)) fun x17 =>
    brV x17
    (some (.tuple #[(.slice none 0 0), x15.1], x15.2))
    (bnd (pAlloc Try.prog 50 x15.2) fun x9 =>
    bnd (inv (.func 75) #[] #[x0, x1, x2] x9.2) fun x22 =>
    F69_rlrrr inv k (.slice none 0 0) (.int .i64 0) x9.1 x22.1 x22.2
    (fun y6 y7 y9 y22 h =>
    bnd (pLoad Try.prog 50 y9 h) fun x29 =>
    some (.tuple #[x29, (.int .i64 0)], h)))
theorem F69_eq : eFun env k inv 69 #[x0, x1, x2] h = F69 inv k x0 x1 x2 h := by
      refine (kq_fun (a := act 30 [(0, x0), (1, x1), (2, x2)]) (c := cp c69 1)).trans ?_
      unfold F69
      simp only [kq_seq c69 1, r69_0, kq_seq c69 3, kq_seq c69 6, r69_1, kq_seq c69 13, r69_2, b69_rrlr, kq_seq c69 54, r69_3, kq_ret c69 109, res69_0, kq_skip c69 55, kq_seq c69 7, r69_4, kq_seq c69 15, kq_seq c69 30, r69_5, F69_rlrrr_eq, kq_seq c69 31, r69_8, kq_ret c69 63, reduceIte, reduceCtorEq, XE.exit.injEq, Nat.reduceEqDiff, Nat.reduceMul, Nat.reduceAdd] <;> kernel_rfl
theorem F69_call : eInv env (k + 1) (.func 69) #[] #[x0, x1, x2] h = F69 (eInv env k) k x0 x1 x2 h := kq_inv F69_eq
theorem r69_6  : kCode env 69 true inv k (cp c69 244) (act 30 [(6, x6), (7, x7), (9, x9), (22, x22), (23, x23), (24, x24)]) h K =
    K .normal (act 30 [(9, x9), (11, x24)]) h := kq_reg
theorem r69_7  : kCode env 69 true inv k (cp c69 490) (act 30 [(9, x9), (11, x11)]) h K =
    bnd (pLoad Try.prog 50 x9 h) fun x25 =>
    bnd (pBuildSlice Try.prog 50 1 #[(0, x11)] h) fun x27 =>
    bnd (pAppend Try.prog #[50, 50] x25 x27.1 x27.2) fun x28 =>
    bnd (kSt (pStore Try.prog 50 x9 x28.1 x28.2)) fun u =>
    K .normal (act 30 []) u.2 := kq_reg
noncomputable def R69_lrlrrr (inv : Inv) (k l : Nat) (x6 x7 x9 x22 z0 z1 : Value) (h : AH) : Option (Value × AH) :=
    rdBegin l h fun h =>
    bnd (pLoad Try.prog 50 x9 h) fun x25 =>
    bnd (pBuildSlice Try.prog 50 1 #[(0, z1)] h) fun x27 =>
    bnd (pAppend Try.prog #[50, 50] x25 x27.1 x27.2) fun x28 =>
    bnd (kSt (pStore Try.prog 50 x9 x28.1 x28.2)) fun u =>
    rdEnd l .normal u.2
theorem R69_lrlrrr_eq {l : Nat} {pd : Option Code} (hl : h.get l = some (.loop .ready pd 69 (act 30 [(6, x6), (7, x7), (9, x9), (22, x22)]).tmps (psOf (cp c69 122)) (cp c69 244) (cp c69 245))) : eRound env k inv l #[z0, z1] h = R69_lrlrrr inv k l x6 x7 x9 x22 z0 z1 h := by
      refine (eRound_k (a := act 30 [(6, x6), (7, x7), (9, x9), (22, x22), (23, z0), (24, z1)]) hl (by kernel_rfl) (by kernel_rfl)).trans ?_
      unfold R69_lrlrrr
      simp only [r69_6, kq_block c69 245 1, r69_7, reduceIte, reduceCtorEq, XE.exit.injEq, Nat.reduceEqDiff, Nat.reduceMul, Nat.reduceAdd] <;> kernel_rfl
noncomputable def c70 : Code := codeOf Try.prog 70
theorem r70_0  : kCode env 70 false inv k (cp c70 2) (act 4 [(0, x0)]) h K =
    bnd (pBox Try.prog 26 x0 h) fun x1 =>
    K .normal (act 4 [(1, x1.1)]) x1.2 := kq_reg
theorem r70_1  : kCode env 70 false inv k (cp c70 6) (act 4 [(1, x1)]) h K =
    bnd (pMakeFunc (.func 76) #[] #[x1]) fun x3 =>
    K .normal (act 4 [(2, x3)]) h := kq_reg
theorem res70_0 : resOfFn env.P 70 .ret (act 4 [(2, x2)]) h = some (x2, h) := kq_res
/-- slices.Backward[[]byte,byte] -/
noncomputable def F70 (inv : Inv) (k : Nat) (x0 : Value) (h : AH) : Option (Value × AH) :=
    bnd (pBox Try.prog 26 x0 h) fun x1 =>
    bnd (pMakeFunc (.func 76) #[] #[x1.1]) fun x3 =>
    some (x3, x1.2)
theorem F70_eq : eFun env k inv 70 #[x0] h = F70 inv k x0 h := by
      refine (kq_fun (a := act 4 [(0, x0)]) (c := cp c70 1)).trans ?_
      unfold F70
      simp only [kq_seq c70 1, r70_0, kq_seq c70 3, r70_1, kq_ret c70 7, res70_0, reduceIte, reduceCtorEq, XE.exit.injEq, Nat.reduceEqDiff, Nat.reduceMul, Nat.reduceAdd] <;> kernel_rfl
theorem F70_call : eInv env (k + 1) (.func 70) #[] #[x0] h = F70 (eInv env k) k x0 h := kq_inv F70_eq
noncomputable def c71 : Code := codeOf Try.prog 71
theorem r71_0  : kCode env 71 false inv k (cp c71 2) (act 9 [(0, x0), (1, x1)]) h K =
    K .normal (act 9 [(0, x0), (1, x1)]) h := kq_reg
theorem r71_1  : kCode env 71 false inv k (cp c71 6) (act 9 [(0, x0), (1, x1)]) h K =
    bnd (inv (.func 77) #[] #[x0, x1] h) fun x7 =>
    bnd (pBin Try.prog .geq 3 (.tmp 7) (.const (.int .i64 0)) x7.1 (.int .i64 0)) fun x8 =>
    K .normal (act 9 [(4, x8)]) x7.2 := kq_reg
theorem res71_0 : resOfFn env.P 71 .ret (act 9 [(4, x4)]) h = some (x4, h) := kq_res
/-- slices.ContainsFunc[[]byte,byte] -/
noncomputable def F71 (inv : Inv) (k : Nat) (x0 x1 : Value) (h : AH) : Option (Value × AH) :=
    bnd (inv (.func 77) #[] #[x0, x1] h) fun x7 =>
    bnd (pBin Try.prog .geq 3 (.tmp 7) (.const (.int .i64 0)) x7.1 (.int .i64 0)) fun x8 =>
    some (x8, x7.2)
theorem F71_eq : eFun env k inv 71 #[x0, x1] h = F71 inv k x0 x1 h := by
      refine (kq_fun (a := act 9 [(0, x0), (1, x1)]) (c := cp c71 1)).trans ?_
      unfold F71
      simp only [kq_seq c71 1, r71_0, kq_seq c71 3, r71_1, kq_ret c71 7, res71_0, reduceIte, reduceCtorEq, XE.exit.injEq, Nat.reduceEqDiff, Nat.reduceMul, Nat.reduceAdd] <;> kernel_rfl
theorem F71_call : eInv env (k + 1) (.func 71) #[] #[x0, x1] h = F71 (eInv env k) k x0 x1 h := kq_inv F71_eq
noncomputable def c72 : Code := codeOf Try.prog 72
theorem r72_0  : kCode env 72 false inv k (cp c72 2) (act 5 [(0, x0)]) h K =
    K .normal (act 5 [(0, x0)]) h := kq_reg
theorem r72_1  : kCode env 72 false inv k (cp c72 6) (act 5 [(0, x0)]) h K =
    bnd (pBin Try.prog .lss 5 (.tmp 3) (.const (.int .u8 128)) x0 (.int .u8 128)) fun x4 =>
    K .normal (act 5 [(2, x4)]) h := kq_reg
theorem res72_0 : resOfFn env.P 72 .ret (act 5 [(2, x2)]) h = some (x2, h) := kq_res
/-- (*shadowbook/octet.Reader).ends$1 -/
noncomputable def F72 (inv : Inv) (k : Nat) (x0 : Value) (h : AH) : Option (Value × AH) :=
    bnd (pBin Try.prog .lss 5 (.tmp 3) (.const (.int .u8 128)) x0 (.int .u8 128)) fun x4 =>
    some (x4, h)
theorem F72_eq : eFun env k inv 72 #[x0] h = F72 inv k x0 h := by
      refine (kq_fun (a := act 5 [(0, x0)]) (c := cp c72 1)).trans ?_
      unfold F72
      simp only [kq_seq c72 1, r72_0, kq_seq c72 3, r72_1, kq_ret c72 7, res72_0, reduceIte, reduceCtorEq, XE.exit.injEq, Nat.reduceEqDiff, Nat.reduceMul, Nat.reduceAdd] <;> kernel_rfl
theorem F72_call : eInv env (k + 1) (.func 72) #[] #[x0] h = F72 (eInv env k) k x0 h := kq_inv F72_eq
noncomputable def c73 : Code := codeOf Try.prog 73
theorem r73_0  : kCode env 73 false inv k (cp c73 2) (act 30 [(0, x0), (1, x1)]) h K =
    K .normal (act 30 [(0, x0), (1, x1)]) h := kq_reg
theorem b73_lr  : kCode env 73 false inv k (cp c73 6) (act 30 [(0, x0), (1, x1)]) h K = brV (.bool false) (kCode env 73 false inv k (cp c73 12) (act 30 [(0, x0), (1, x1)]) h K) (kCode env 73 false inv k (cp c73 13) (act 30 [(0, x0), (1, x1)]) h K) := kq_cond
theorem r73_1  : kCode env 73 false inv k (cp c73 24) (act 30 [(0, x0), (1, x1)]) h K =
    bnd (pConv Try.prog 76 97 x0 h) fun x12 =>
    bnd (pConv Try.prog 76 97 x1 h) fun x14 =>
    bnd (inv (.func 78) #[] #[x12, x14] h) fun x15 =>
    bnd (pExtract x15.1 0) fun x16 =>
    bnd (pExtract x15.1 1) fun x17 =>
    K .normal (act 30 [(6, x16), (7, x17)]) x15.2 := kq_reg
theorem r73_2  : kCode env 73 false inv k (cp c73 50) (act 30 [(6, x6), (7, x7)]) h K =
    bnd (pConv Try.prog 97 76 x6 h) fun x19 =>
    bnd (pConv Try.prog 97 76 x7 h) fun x21 =>
    K .normal (act 30 [(4, x19), (5, x21)]) h := kq_reg
theorem res73_0 : resOfFn env.P 73 .ret (act 30 [(4, x4), (5, x5)]) h = some (.tuple #[x4, x5], h) := kq_res
theorem r73_3  : kCode env 73 false inv k (cp c73 14) (act 30 [(0, x0), (1, x1)]) h K =
    bnd (inv (.func 79) #[] #[x0, x1] h) fun x25 =>
    bnd (pExtract x25.1 0) fun x26 =>
    bnd (pExtract x25.1 1) fun x27 =>
    K .normal (act 30 [(8, x26), (9, x27)]) x25.2 := kq_reg
theorem r73_4  : kCode env 73 false inv k (cp c73 30) (act 30 [(8, x8), (9, x9)]) h K =
    K .normal (act 30 [(4, x8), (5, x9)]) h := kq_reg
/-- math/bits.Mul -/
noncomputable def F73 (inv : Inv) (k : Nat) (x0 x1 : Value) (h : AH) : Option (Value × AH) :=
    brV (.bool false)
    (bnd (pConv Try.prog 76 97 x0 h) fun x12 =>
    bnd (pConv Try.prog 76 97 x1 h) fun x14 =>
    bnd (inv (.func 78) #[] #[x12, x14] h) fun x15 =>
    bnd (pExtract x15.1 0) fun x16 =>
    bnd (pExtract x15.1 1) fun x17 =>
    bnd (pConv Try.prog 97 76 x16 x15.2) fun x19 =>
    bnd (pConv Try.prog 97 76 x17 x15.2) fun x21 =>
    some (.tuple #[x19, x21], x15.2))
    (bnd (inv (.func 79) #[] #[x0, x1] h) fun x25 =>
    bnd (pExtract x25.1 0) fun x26 =>
    bnd (pExtract x25.1 1) fun x27 =>
    some (.tuple #[x26, x27], x25.2))
theorem F73_eq : eFun env k inv 73 #[x0, x1] h = F73 inv k x0 x1 h := by
      refine (kq_fun (a := act 30 [(0, x0), (1, x1)]) (c := cp c73 1)).trans ?_
      unfold F73
      simp only [kq_seq c73 1, r73_0, kq_seq c73 3, b73_lr, kq_seq c73 12, r73_1, kq_seq c73 25, r73_2, kq_ret c73 51, res73_0, kq_skip c73 13, kq_seq c73 7, r73_3, kq_seq c73 15, r73_4, kq_ret c73 31, reduceIte, reduceCtorEq, XE.exit.injEq, Nat.reduceEqDiff, Nat.reduceMul, Nat.reduceAdd] <;> kernel_rfl
theorem F73_call : eInv env (k + 1) (.func 73) #[] #[x0, x1] h = F73 (eInv env k) k x0 x1 h := kq_inv F73_eq
noncomputable def c74 : Code := codeOf Try.prog 74
theorem r74_0  : kCode env 74 false inv k (cp c74 2) (act 33 [(0, x0), (1, x1), (2, x2)]) h K =
    K .normal (act 33 [(0, x0), (1, x1), (2, x2)]) h := kq_reg
theorem r74_1  : kCode env 74 false inv k (cp c74 24) (act 33 [(0, x0), (1, x1), (2, x2)]) h K =
    bnd (inv (.func 55) #[] #[x1, x2] h) fun x10 =>
    bnd (pUn Try.prog .not x10.1) fun x11 =>
    K .normal (act 33 [(0, x0), (1, x1), (2, x2), (7, x11)]) x10.2 := kq_reg
theorem b74_rllr  : kCode env 74 false inv k (cp c74 25) (act 33 [(0, x0), (1, x1), (2, x2), (7, x7)]) h K = brV x7 (kCode env 74 false inv k (cp c74 50) (act 33 [(0, x0), (1, x1), (2, x2), (7, x7)]) h K) (kCode env 74 false inv k (cp c74 51) (act 33 [(0, x0), (1, x1), (2, x2), (7, x7)]) h K) := kq_cond
theorem r74_2  : kCode env 74 false inv k (cp c74 100) (act 33 [(0, x0), (1, x1), (2, x2), (7, x7)]) h K =
    K .normal (act 33 [(6, (.int .i64 2))]) h := kq_reg
theorem res74_0 : resOfFn env.P 74 .ret (act 33 [(6, x6)]) h = some (x6, h) := kq_res
theorem r74_3  : kCode env 74 false inv k (cp c74 102) (act 33 [(0, x0), (1, x1), (2, x2), (7, x7)]) h K =
    bnd (pLen Try.prog #[26] x0 h) fun x14 =>
    bnd (inv (.func 56) #[] #[x1, x2] h) fun x17 =>
    bnd (pBin Try.prog .neq 3 (.tmp 14) (.tmp 17) x14 x17.1) fun x18 =>
    K .normal (act 33 [(0, x0), (1, x1), (2, x2), (12, x18)]) x17.2 := kq_reg
theorem b74_rrrllr  : kCode env 74 false inv k (cp c74 103) (act 33 [(0, x0), (1, x1), (2, x2), (12, x12)]) h K = brV x12 (kCode env 74 false inv k (cp c74 206) (act 33 [(0, x0), (1, x1), (2, x2), (12, x12)]) h K) (kCode env 74 false inv k (cp c74 207) (act 33 [(0, x0), (1, x1), (2, x2), (12, x12)]) h K) := kq_cond
theorem r74_4  : kCode env 74 false inv k (cp c74 412) (act 33 [(0, x0), (1, x1), (2, x2), (12, x12)]) h K =
    K .normal (act 33 [(6, (.int .i64 4))]) h := kq_reg
noncomputable abbrev G74_5 {β : Type} (inv : Inv) (x0 x1 x2 : Value) (h : AH) (K : Value → AH → Option β) : Option β :=
    bnd (pBin Try.prog .mul 3 (.tmp 21) (.tmp 22) x1 x2) fun x23 =>
    bnd (pLen Try.prog #[26] x0 h) fun x25 =>
    bnd (pBin Try.prog .mul 3 (.const (.int .i64 8)) (.tmp 25) (.int .i64 8) x25) fun x26 =>
    bnd (pBin Try.prog .mul 3 (.tmp 27) (.tmp 28) x1 x2) fun x29 =>
    bnd (pBin Try.prog .sub 3 (.tmp 26) (.tmp 29) x26 x29) fun x30 =>
    bnd (inv (.func 80) #[] #[x0, x23, x30] h) fun x31 =>
    bnd (pBin Try.prog .neq 51 (.tmp 31) (.const (.int .u64 0)) x31.1 (.int .u64 0)) fun x32 =>
    K (x32) x31.2
theorem r74_5  : kCode env 74 false inv k (cp c74 414) (act 33 [(0, x0), (1, x1), (2, x2), (12, x12)]) h K =
    G74_5 inv x0 x1 x2 h fun y19 h => K .normal (act 33 [(19, y19)]) h := kq_reg
theorem b74_rrrrrllr  : kCode env 74 false inv k (cp c74 415) (act 33 [(19, x19)]) h K = brV x19 (kCode env 74 false inv k (cp c74 830) (act 33 [(19, x19)]) h K) (kCode env 74 false inv k (cp c74 831) (act 33 [(19, x19)]) h K) := kq_cond
theorem r74_6  : kCode env 74 false inv k (cp c74 1660) (act 33 [(19, x19)]) h K =
    K .normal (act 33 [(6, (.int .i64 4))]) h := kq_reg
theorem r74_7  : kCode env 74 false inv k (cp c74 14) (act 33 [(19, x19)]) h K =
    K .normal (act 33 [(6, (.int .i64 0))]) h := kq_reg
/-- shadowbook/packs.check -/
noncomputable def F74 (inv : Inv) (k : Nat) (x0 x1 x2 : Value) (h : AH) : Option (Value × AH) :=
    bnd (inv (.func 55) #[] #[x1, x2] h) fun x10 =>
    bnd (pUn Try.prog .not x10.1) fun x11 =>
    brV x11
    (some ((.int .i64 2), x10.2))
    (bnd (pLen Try.prog #[26] x0 x10.2) fun x14 =>
    bnd (inv (.func 56) #[] #[x1, x2] x10.2) fun x17 =>
    bnd (pBin Try.prog .neq 3 (.tmp 14) (.tmp 17) x14 x17.1) fun x18 =>
    brV x18
    (some ((.int .i64 4), x17.2))
    (G74_5 inv x0 x1 x2 x17.2 fun y19 h =>
    brV y19
    (some ((.int .i64 4), h))
    (some ((.int .i64 0), h))))
theorem F74_eq : eFun env k inv 74 #[x0, x1, x2] h = F74 inv k x0 x1 x2 h := by
      refine (kq_fun (a := act 33 [(0, x0), (1, x1), (2, x2)]) (c := cp c74 1)).trans ?_
      unfold F74
      simp only [kq_seq c74 1, r74_0, kq_seq c74 3, kq_block c74 6 0, kq_seq c74 12, r74_1, b74_rllr, kq_seq c74 50, r74_2, kq_ret c74 101, res74_0, kq_seq c74 51, r74_3, b74_rrrllr, kq_seq c74 206, r74_4, kq_ret c74 413, kq_seq c74 207, r74_5, b74_rrrrrllr, kq_seq c74 830, r74_6, kq_ret c74 1661, kq_skip c74 831, kq_seq c74 7, r74_7, kq_ret c74 15, reduceIte, reduceCtorEq, XE.exit.injEq, Nat.reduceEqDiff, Nat.reduceMul, Nat.reduceAdd] <;> kernel_rfl
theorem F74_call : eInv env (k + 1) (.func 74) #[] #[x0, x1, x2] h = F74 (eInv env k) k x0 x1 x2 h := kq_inv F74_eq
noncomputable def c75 : Code := codeOf Try.prog 75
theorem r75_0  : kCode env 75 false inv k (cp c75 2) (act 8 [(0, x0), (1, x1), (2, x2)]) h K =
    bnd (pBox Try.prog 26 x0 h) fun x3 =>
    bnd (pBox Try.prog 3 x1 x3.2) fun x4 =>
    bnd (pBox Try.prog 3 x2 x4.2) fun x5 =>
    K .normal (act 8 [(3, x3.1), (4, x4.1), (5, x5.1)]) x5.2 := kq_reg
theorem r75_1  : kCode env 75 false inv k (cp c75 6) (act 8 [(3, x3), (4, x4), (5, x5)]) h K =
    bnd (pMakeFunc (.func 81) #[] #[x3, x4, x5]) fun x7 =>
    K .normal (act 8 [(6, x7)]) h := kq_reg
theorem res75_0 : resOfFn env.P 75 .ret (act 8 [(6, x6)]) h = some (x6, h) := kq_res
/-- shadowbook/packs.Each -/
noncomputable def F75 (inv : Inv) (k : Nat) (x0 x1 x2 : Value) (h : AH) : Option (Value × AH) :=
    bnd (pBox Try.prog 26 x0 h) fun x3 =>
    bnd (pBox Try.prog 3 x1 x3.2) fun x4 =>
    bnd (pBox Try.prog 3 x2 x4.2) fun x5 =>
    bnd (pMakeFunc (.func 81) #[] #[x3.1, x4.1, x5.1]) fun x7 =>
    some (x7, x5.2)
theorem F75_eq : eFun env k inv 75 #[x0, x1, x2] h = F75 inv k x0 x1 x2 h := by
      refine (kq_fun (a := act 8 [(0, x0), (1, x1), (2, x2)]) (c := cp c75 1)).trans ?_
      unfold F75
      simp only [kq_seq c75 1, r75_0, kq_seq c75 3, r75_1, kq_ret c75 7, res75_0, reduceIte, reduceCtorEq, XE.exit.injEq, Nat.reduceEqDiff, Nat.reduceMul, Nat.reduceAdd] <;> kernel_rfl
theorem F75_call : eInv env (k + 1) (.func 75) #[] #[x0, x1, x2] h = F75 (eInv env k) k x0 x1 x2 h := kq_inv F75_eq
noncomputable def c76 : Code := codeOf Try.prog 76
theorem r76_0  : kCode env 76 false inv k (cp c76 2) (act 19 [(0, x0), (1, x1)]) h K =
    bnd (pLoad Try.prog 26 x1 h) fun x4 =>
    bnd (pLen Try.prog #[26] x4 h) fun x5 =>
    bnd (pBin Try.prog .sub 3 (.tmp 5) (.const (.int .i64 1)) x5 (.int .i64 1)) fun x6 =>
    K .normal (act 19 [(0, x0), (1, x1), (3, x6)]) h := kq_reg
theorem r76_1  : kCode env 76 false inv k (cp c76 48) (act 19 [(0, x0), (1, x1), (3, x3)]) h K =
    bnd (pBin Try.prog .geq 3 (.tmp 7) (.const (.int .i64 0)) x3 (.int .i64 0)) fun x8 =>
    K .normal (act 19 [(0, x0), (1, x1), (3, x3), (8, x8)]) h := kq_reg
theorem b76_rlllr  : kCode env 76 false inv k (cp c76 49) (act 19 [(0, x0), (1, x1), (3, x3), (8, x8)]) h K = brV x8 (kCode env 76 false inv k (cp c76 98) (act 19 [(0, x0), (1, x1), (3, x3), (8, x8)]) h K) (kCode env 76 false inv k (cp c76 99) (act 19 [(0, x0), (1, x1), (3, x3), (8, x8)]) h K) := kq_cond
theorem r76_3  : kCode env 76 false inv k (cp c76 200) (act 19 [(0, x0), (1, x1), (3, x3), (8, x8)]) h K =
    bnd (pLoad Try.prog 26 x1 h) fun x13 =>
    bnd (pIndexAddr Try.prog 26 x13 x3) fun x15 =>
    bnd (pLoad Try.prog 5 x15 h) fun x16 =>
    bnd (callV inv x0 #[x3, x16] h) fun x17 =>
    bnd (pUn Try.prog .not x17.1) fun x18 =>
    K .normal (act 19 [(0, x0), (1, x1), (3, x3), (18, x18)]) x17.2 := kq_reg
theorem b76_rllrllr  : kCode env 76 false inv k (cp c76 201) (act 19 [(0, x0), (1, x1), (3, x3), (18, x18)]) h K = brV x18 (kCode env 76 false inv k (cp c76 402) (act 19 [(0, x0), (1, x1), (3, x3), (18, x18)]) h K) (kCode env 76 false inv k (cp c76 403) (act 19 [(0, x0), (1, x1), (3, x3), (18, x18)]) h K) := kq_cond
theorem r76_2  : kCode env 76 false inv k (cp c76 51) (act 19 [(0, x0), (1, x1), (3, x3), (18, x18)]) h K =
    bnd (pBin Try.prog .sub 3 (.tmp 9) (.const (.int .i64 1)) x3 (.int .i64 1)) fun x10 =>
    K .normal (act 19 [(0, x0), (1, x1), (3, x10)]) h := kq_reg
noncomputable def F76_lr {β : Type} (inv : Inv) (k : Nat) : Nat → Value → Value → Value → AH → (Value → Value → Value → Value → AH → Option β) → (Value → Value → Value → Value → AH → Option β) → Option β
  | 0, _, _, _, _, _, _ => none
  | j + 1, x0, x1, x3, h, ke0, kr =>
    bnd (pBin Try.prog .geq 3 (.tmp 7) (.const (.int .i64 0)) x3 (.int .i64 0)) fun x8 =>
    brV x8
    (bnd (pLoad Try.prog 26 x1 h) fun x13 =>
    bnd (pIndexAddr Try.prog 26 x13 x3) fun x15 =>
    bnd (pLoad Try.prog 5 x15 h) fun x16 =>
    bnd (callV inv x0 #[x3, x16] h) fun x17 =>
    bnd (pUn Try.prog .not x17.1) fun x18 =>
    brV x18
    (kr x0 x1 x3 x18 x17.2)
    (bnd (pBin Try.prog .sub 3 (.tmp 9) (.const (.int .i64 1)) x3 (.int .i64 1)) fun x10 =>
    F76_lr inv k j x0 x1 x10 x17.2 ke0 kr))
    (ke0 x0 x1 x3 x8 h)
theorem F76_lr_j (j : Nat) : kLoop (kCode env 76 false inv k (cp c76 12)) j (act 19 [(0, x0), (1, x1), (3, x3)]) h K = F76_lr inv k j x0 x1 x3 h (fun y0 y1 y3 y8 h => K (.exit 0) (act 19 [(0, y0), (1, y1), (3, y3), (8, y8)]) h) (fun y0 y1 y3 y18 h => K .ret (act 19 [(0, y0), (1, y1), (3, y3), (18, y18)]) h) := by
      induction j generalizing x0 x1 x3 h with
      | zero => rfl
      | succ j ih =>
        unfold F76_lr
        simp only [kLoop, kq_seq c76 12, kq_seq c76 24, r76_1, b76_rlllr, kq_skip c76 98, kq_seq c76 25, kq_block c76 50 1, kq_seq c76 100, r76_3, b76_rllrllr, kq_ret c76 402, kq_skip c76 403, r76_2, kq_exit c76 99 0, ih, reduceIte, reduceCtorEq, XE.exit.injEq, Nat.reduceEqDiff, Nat.reduceMul, Nat.reduceAdd] <;> kernel_rfl
theorem F76_lr_eq  : kCode env 76 false inv k (cp c76 6) (act 19 [(0, x0), (1, x1), (3, x3)]) h K = F76_lr inv k k x0 x1 x3 h (fun y0 y1 y3 y8 h => K (.exit 0) (act 19 [(0, y0), (1, y1), (3, y3), (8, y8)]) h) (fun y0 y1 y3 y18 h => K .ret (act 19 [(0, y0), (1, y1), (3, y3), (18, y18)]) h) := kq_loop (F76_lr_j k)
theorem res76_0 : resOfFn env.P 76 .normal (act 19 [(0, x0), (1, x1), (3, x3), (8, x8)]) h = some (.tuple #[], h) := kq_res
theorem res76_1 : resOfFn env.P 76 .ret (act 19 [(0, x0), (1, x1), (3, x3), (18, x18)]) h = some (.tuple #[], h) := kq_res
/-- slices.Backward[[]byte,byte]$1 -/
noncomputable def F76 (inv : Inv) (k : Nat) (x0 x1 : Value) (h : AH) : Option (Value × AH) :=
    bnd (pLoad Try.prog 26 x1 h) fun x4 =>
    bnd (pLen Try.prog #[26] x4 h) fun x5 =>
    bnd (pBin Try.prog .sub 3 (.tmp 5) (.const (.int .i64 1)) x5 (.int .i64 1)) fun x6 =>
    F76_lr inv k k x0 x1 x6 h
    (fun y0 y1 y3 y8 h =>
    some (.tuple #[], h))
    (fun y0_1 y1_2 y3_3 y18 h_4 =>
    some (.tuple #[], h_4))
theorem F76_eq : eFun env k inv 76 #[x0, x1] h = F76 inv k x0 x1 h := by
      refine (kq_fun (a := act 19 [(0, x0), (1, x1)]) (c := cp c76 1)).trans ?_
      unfold F76
      simp only [kq_seq c76 1, r76_0, kq_block c76 3 0, F76_lr_eq, res76_0, res76_1, reduceIte, reduceCtorEq, XE.exit.injEq, Nat.reduceEqDiff, Nat.reduceMul, Nat.reduceAdd] <;> kernel_rfl
theorem F76_call : eInv env (k + 1) (.func 76) #[] #[x0, x1] h = F76 (eInv env k) k x0 x1 h := kq_inv F76_eq
noncomputable def c77 : Code := codeOf Try.prog 77
theorem r77_0  : kCode env 77 false inv k (cp c77 2) (act 19 [(0, x0), (1, x1)]) h K =
    K .normal (act 19 [(0, x0), (1, x1)]) h := kq_reg
theorem r77_1  : kCode env 77 false inv k (cp c77 12) (act 19 [(0, x0), (1, x1)]) h K =
    bnd (pLen Try.prog #[26] x0 h) fun x7 =>
    K .normal (act 19 [(0, x0), (1, x1), (7, x7), (8, (.int .i64 0))]) h := kq_reg
theorem r77_2  : kCode env 77 false inv k (cp c77 104) (act 19 [(0, x0), (1, x1), (7, x7), (8, x8)]) h K =
    bnd (pBin Try.prog .lss 3 (.tmp 8) (.tmp 7) x8 x7) fun x9 =>
    K .normal (act 19 [(0, x0), (1, x1), (7, x7), (8, x8), (9, x9)]) h := kq_reg
theorem b77_lrllrlr  : kCode env 77 false inv k (cp c77 210) (act 19 [(0, x0), (1, x1), (7, x7), (8, x8), (9, x9)]) h K = brV x9 (kCode env 77 false inv k (cp c77 420) (act 19 [(0, x0), (1, x1), (7, x7), (8, x8), (9, x9)]) h K) (kCode env 77 false inv k (cp c77 421) (act 19 [(0, x0), (1, x1), (7, x7), (8, x8), (9, x9)]) h K) := kq_cond
theorem r77_3  : kCode env 77 false inv k (cp c77 1688) (act 19 [(0, x0), (1, x1), (7, x7), (8, x8), (9, x9)]) h K =
    K .normal (act 19 [(0, x0), (1, x1), (5, x8), (7, x7), (8, x8)]) h := kq_reg
theorem r77_4  : kCode env 77 false inv k (cp c77 3378) (act 19 [(0, x0), (1, x1), (5, x5), (7, x7), (8, x8)]) h K =
    bnd (pIndexAddr Try.prog 26 x0 x5) fun x14 =>
    bnd (pLoad Try.prog 5 x14 h) fun x15 =>
    bnd (callV inv x1 #[x15] h) fun x16 =>
    K .normal (act 19 [(0, x0), (1, x1), (5, x5), (7, x7), (8, x8), (16, x16.1)]) x16.2 := kq_reg
theorem b77_rrllrrllrlr  : kCode env 77 false inv k (cp c77 3379) (act 19 [(0, x0), (1, x1), (5, x5), (7, x7), (8, x8), (16, x16)]) h K = brV x16 (kCode env 77 false inv k (cp c77 6758) (act 19 [(0, x0), (1, x1), (5, x5), (7, x7), (8, x8), (16, x16)]) h K) (kCode env 77 false inv k (cp c77 6759) (act 19 [(0, x0), (1, x1), (5, x5), (7, x7), (8, x8), (16, x16)]) h K) := kq_cond
theorem r77_5  : kCode env 77 false inv k (cp c77 13516) (act 19 [(0, x0), (1, x1), (5, x5), (7, x7), (8, x8), (16, x16)]) h K =
    K .normal (act 19 [(4, x5)]) h := kq_reg
theorem r77_6  : kCode env 77 false inv k (cp c77 423) (act 19 [(0, x0), (1, x1), (5, x5), (7, x7), (8, x8), (16, x16)]) h K =
    bnd (pBin Try.prog .add 3 (.tmp 8) (.const (.int .i64 1)) x8 (.int .i64 1)) fun x18 =>
    K .normal (act 19 [(0, x0), (1, x1), (7, x7), (8, x18)]) h := kq_reg
noncomputable def F77_lrlr {β : Type} (inv : Inv) (k : Nat) : Nat → Value → Value → Value → Value → AH → (Value → Value → Value → Value → Value → AH → Option β) → (Value → AH → Option β) → Option β
  | 0, _, _, _, _, _, _, _ => none
  | j + 1, x0, x1, x7, x8, h, ke0, kr =>
    bnd (pBin Try.prog .lss 3 (.tmp 8) (.tmp 7) x8 x7) fun x9 =>
    brV x9
    (bnd (pIndexAddr Try.prog 26 x0 x8) fun x14 =>
    bnd (pLoad Try.prog 5 x14 h) fun x15 =>
    bnd (callV inv x1 #[x15] h) fun x16 =>
    brV x16.1
    (kr x8 x16.2)
    (bnd (pBin Try.prog .add 3 (.tmp 8) (.const (.int .i64 1)) x8 (.int .i64 1)) fun x18 =>
    F77_lrlr inv k j x0 x1 x7 x18 x16.2 ke0 kr))
    (ke0 x0 x1 x7 x8 x9 h)
theorem F77_lrlr_j (j : Nat) : kLoop (kCode env 77 false inv k (cp c77 52)) j (act 19 [(0, x0), (1, x1), (7, x7), (8, x8)]) h K = F77_lrlr inv k j x0 x1 x7 x8 h (fun y0 y1 y7 y8 y9 h => K (.exit 0) (act 19 [(0, y0), (1, y1), (7, y7), (8, y8), (9, y9)]) h) (fun y4 h => K .ret (act 19 [(4, y4)]) h) := by
      induction j generalizing x0 x1 x7 x8 h with
      | zero => rfl
      | succ j ih =>
        unfold F77_lrlr
        simp only [kLoop, kq_seq c77 52, r77_2, kq_seq c77 105, b77_lrllrlr, kq_skip c77 420, kq_seq c77 211, kq_block c77 422 1, kq_seq c77 844, r77_3, kq_seq c77 1689, r77_4, b77_rrllrrllrlr, kq_seq c77 6758, r77_5, kq_ret c77 13517, kq_skip c77 6759, r77_6, kq_exit c77 421 0, ih, reduceIte, reduceCtorEq, XE.exit.injEq, Nat.reduceEqDiff, Nat.reduceMul, Nat.reduceAdd] <;> kernel_rfl
theorem F77_lrlr_eq  : kCode env 77 false inv k (cp c77 26) (act 19 [(0, x0), (1, x1), (7, x7), (8, x8)]) h K = F77_lrlr inv k k x0 x1 x7 x8 h (fun y0 y1 y7 y8 y9 h => K (.exit 0) (act 19 [(0, y0), (1, y1), (7, y7), (8, y8), (9, y9)]) h) (fun y4 h => K .ret (act 19 [(4, y4)]) h) := kq_loop (F77_lrlr_j k)
theorem r77_7  : kCode env 77 false inv k (cp c77 14) (act 19 [(0, x0), (1, x1), (7, x7), (8, x8), (9, x9)]) h K =
    K .normal (act 19 [(4, (.int .i64 (-1)))]) h := kq_reg
theorem res77_0 : resOfFn env.P 77 .ret (act 19 [(4, x4)]) h = some (x4, h) := kq_res
/-- slices.IndexFunc[[]byte,byte] -/
noncomputable def F77 (inv : Inv) (k : Nat) (x0 x1 : Value) (h : AH) : Option (Value × AH) :=
    bnd (pLen Try.prog #[26] x0 h) fun x7 =>
    F77_lrlr inv k k x0 x1 x7 (.int .i64 0) h
    (fun y0 y1 y7 y8 y9 h =>
    some ((.int .i64 (-1)), h))
    (fun y4 h_1 =>
    some (y4, h_1))
theorem F77_eq : eFun env k inv 77 #[x0, x1] h = F77 inv k x0 x1 h := by
      refine (kq_fun (a := act 19 [(0, x0), (1, x1)]) (c := cp c77 1)).trans ?_
      unfold F77
      simp only [kq_seq c77 1, r77_0, kq_seq c77 3, kq_seq c77 6, r77_1, kq_block c77 13 0, F77_lrlr_eq, kq_seq c77 7, r77_7, kq_ret c77 15, res77_0, reduceIte, reduceCtorEq, XE.exit.injEq, Nat.reduceEqDiff, Nat.reduceMul, Nat.reduceAdd] <;> kernel_rfl
theorem F77_call : eInv env (k + 1) (.func 77) #[] #[x0, x1] h = F77 (eInv env k) k x0 x1 h := kq_inv F77_eq
noncomputable def c78 : Code := codeOf Try.prog 78
theorem r78_0  : kCode env 78 false inv k (cp c78 2) (act 17 [(0, x0), (1, x1)]) h K =
    K .normal (act 17 [(0, x0), (1, x1)]) h := kq_reg
theorem r78_1  : kCode env 78 false inv k (cp c78 6) (act 17 [(0, x0), (1, x1)]) h K =
    bnd (pConv Try.prog 97 51 x0 h) fun x8 =>
    bnd (pConv Try.prog 97 51 x1 h) fun x10 =>
    bnd (pBin Try.prog .mul 51 (.tmp 8) (.tmp 10) x8 x10) fun x11 =>
    K .normal (act 17 [(6, x11)]) h := kq_reg
theorem r78_2  : kCode env 78 false inv k (cp c78 14) (act 17 [(6, x6)]) h K =
    bnd (pBin Try.prog .shr 51 (.tmp 12) (.const (.int .u64 32)) x6 (.int .u64 32)) fun x13 =>
    bnd (pConv Try.prog 51 97 x13 h) fun x14 =>
    bnd (pConv Try.prog 51 97 x6 h) fun x16 =>
    K .normal (act 17 [(4, x14), (5, x16)]) h := kq_reg
theorem res78_0 : resOfFn env.P 78 .ret (act 17 [(4, x4), (5, x5)]) h = some (.tuple #[x4, x5], h) := kq_res
/-- math/bits.Mul32 -/
noncomputable def F78 (inv : Inv) (k : Nat) (x0 x1 : Value) (h : AH) : Option (Value × AH) :=
    bnd (pConv Try.prog 97 51 x0 h) fun x8 =>
    bnd (pConv Try.prog 97 51 x1 h) fun x10 =>
    bnd (pBin Try.prog .mul 51 (.tmp 8) (.tmp 10) x8 x10) fun x11 =>
    bnd (pBin Try.prog .shr 51 (.tmp 12) (.const (.int .u64 32)) x11 (.int .u64 32)) fun x13 =>
    bnd (pConv Try.prog 51 97 x13 h) fun x14 =>
    bnd (pConv Try.prog 51 97 x11 h) fun x16 =>
    some (.tuple #[x14, x16], h)
theorem F78_eq : eFun env k inv 78 #[x0, x1] h = F78 inv k x0 x1 h := by
      refine (kq_fun (a := act 17 [(0, x0), (1, x1)]) (c := cp c78 1)).trans ?_
      unfold F78
      simp only [kq_seq c78 1, r78_0, kq_seq c78 3, r78_1, kq_seq c78 7, r78_2, kq_ret c78 15, res78_0, reduceIte, reduceCtorEq, XE.exit.injEq, Nat.reduceEqDiff, Nat.reduceMul, Nat.reduceAdd] <;> kernel_rfl
theorem F78_call : eInv env (k + 1) (.func 78) #[] #[x0, x1] h = F78 (eInv env k) k x0 x1 h := kq_inv F78_eq
noncomputable def c79 : Code := codeOf Try.prog 79
theorem r79_0  : kCode env 79 false inv k (cp c79 2) (act 51 [(0, x0), (1, x1)]) h K =
    K .normal (act 51 [(0, x0), (1, x1)]) h := kq_reg
theorem r79_1  : kCode env 79 false inv k (cp c79 6) (act 51 [(0, x0), (1, x1)]) h K =
    bnd (pBin Try.prog .and 51 (.tmp 14) (.const (.int .u64 4294967295)) x0 (.int .u64 4294967295)) fun x15 =>
    K .normal (act 51 [(0, x0), (1, x1), (6, x15)]) h := kq_reg
theorem r79_2  : kCode env 79 false inv k (cp c79 14) (act 51 [(0, x0), (1, x1), (6, x6)]) h K =
    bnd (pBin Try.prog .shr 51 (.tmp 16) (.const (.int .u64 32)) x0 (.int .u64 32)) fun x17 =>
    K .normal (act 51 [(0, x0), (1, x1), (6, x6), (7, x17)]) h := kq_reg
theorem r79_3  : kCode env 79 false inv k (cp c79 30) (act 51 [(0, x0), (1, x1), (6, x6), (7, x7)]) h K =
    bnd (pBin Try.prog .and 51 (.tmp 18) (.const (.int .u64 4294967295)) x1 (.int .u64 4294967295)) fun x19 =>
    K .normal (act 51 [(0, x0), (1, x1), (6, x6), (7, x7), (8, x19)]) h := kq_reg
theorem r79_4  : kCode env 79 false inv k (cp c79 62) (act 51 [(0, x0), (1, x1), (6, x6), (7, x7), (8, x8)]) h K =
    bnd (pBin Try.prog .shr 51 (.tmp 20) (.const (.int .u64 32)) x1 (.int .u64 32)) fun x21 =>
    K .normal (act 51 [(0, x0), (1, x1), (6, x6), (7, x7), (8, x8), (9, x21)]) h := kq_reg
theorem r79_5  : kCode env 79 false inv k (cp c79 126) (act 51 [(0, x0), (1, x1), (6, x6), (7, x7), (8, x8), (9, x9)]) h K =
    bnd (pBin Try.prog .mul 51 (.tmp 22) (.tmp 23) x6 x8) fun x24 =>
    K .normal (act 51 [(0, x0), (1, x1), (6, x6), (7, x7), (8, x8), (9, x9), (10, x24)]) h := kq_reg
theorem r79_6  : kCode env 79 false inv k (cp c79 254) (act 51 [(0, x0), (1, x1), (6, x6), (7, x7), (8, x8), (9, x9), (10, x10)]) h K =
    bnd (pBin Try.prog .mul 51 (.tmp 25) (.tmp 26) x7 x8) fun x27 =>
    bnd (pBin Try.prog .shr 51 (.tmp 28) (.const (.int .u64 32)) x10 (.int .u64 32)) fun x29 =>
    bnd (pBin Try.prog .add 51 (.tmp 27) (.tmp 29) x27 x29) fun x30 =>
    K .normal (act 51 [(0, x0), (1, x1), (6, x6), (7, x7), (9, x9), (11, x30)]) h := kq_reg
theorem r79_7  : kCode env 79 false inv k (cp c79 510) (act 51 [(0, x0), (1, x1), (6, x6), (7, x7), (9, x9), (11, x11)]) h K =
    bnd (pBin Try.prog .and 51 (.tmp 31) (.const (.int .u64 4294967295)) x11 (.int .u64 4294967295)) fun x32 =>
    K .normal (act 51 [(0, x0), (1, x1), (6, x6), (7, x7), (9, x9), (11, x11), (12, x32)]) h := kq_reg
theorem r79_8  : kCode env 79 false inv k (cp c79 1022) (act 51 [(0, x0), (1, x1), (6, x6), (7, x7), (9, x9), (11, x11), (12, x12)]) h K =
    bnd (pBin Try.prog .shr 51 (.tmp 33) (.const (.int .u64 32)) x11 (.int .u64 32)) fun x34 =>
    K .normal (act 51 [(0, x0), (1, x1), (6, x6), (7, x7), (9, x9), (12, x12), (13, x34)]) h := kq_reg
theorem r79_9  : kCode env 79 false inv k (cp c79 2046) (act 51 [(0, x0), (1, x1), (6, x6), (7, x7), (9, x9), (12, x12), (13, x13)]) h K =
    bnd (pBin Try.prog .mul 51 (.tmp 36) (.tmp 37) x6 x9) fun x38 =>
    bnd (pBin Try.prog .add 51 (.tmp 35) (.tmp 38) x12 x38) fun x39 =>
    K .normal (act 51 [(0, x0), (1, x1), (7, x7), (9, x9), (12, x39), (13, x13)]) h := kq_reg
noncomputable abbrev G79_10 {β : Type} (inv : Inv) (x0 x1 x7 x9 x12 x13 : Value) (h : AH) (K : Value → AH → Option β) : Option β :=
    bnd (pBin Try.prog .mul 51 (.tmp 40) (.tmp 41) x7 x9) fun x42 =>
    bnd (pBin Try.prog .add 51 (.tmp 42) (.tmp 43) x42 x13) fun x44 =>
    bnd (pBin Try.prog .shr 51 (.tmp 45) (.const (.int .u64 32)) x12 (.int .u64 32)) fun x46 =>
    bnd (pBin Try.prog .add 51 (.tmp 44) (.tmp 46) x44 x46) fun x47 =>
    K (x47) h
theorem r79_10  : kCode env 79 false inv k (cp c79 4094) (act 51 [(0, x0), (1, x1), (7, x7), (9, x9), (12, x12), (13, x13)]) h K =
    G79_10 inv x0 x1 x7 x9 x12 x13 h fun y4 h => K .normal (act 51 [(0, x0), (1, x1), (4, y4)]) h := kq_reg
theorem r79_11  : kCode env 79 false inv k (cp c79 8190) (act 51 [(0, x0), (1, x1), (4, x4)]) h K =
    bnd (pBin Try.prog .mul 51 (.tmp 48) (.tmp 49) x0 x1) fun x50 =>
    K .normal (act 51 [(4, x4), (5, x50)]) h := kq_reg
theorem res79_0 : resOfFn env.P 79 .ret (act 51 [(4, x4), (5, x5)]) h = some (.tuple #[x4, x5], h) := kq_res
/-- math/bits.Mul64 -/
noncomputable def F79 (inv : Inv) (k : Nat) (x0 x1 : Value) (h : AH) : Option (Value × AH) :=
    bnd (pBin Try.prog .and 51 (.tmp 14) (.const (.int .u64 4294967295)) x0 (.int .u64 4294967295)) fun x15 =>
    bnd (pBin Try.prog .shr 51 (.tmp 16) (.const (.int .u64 32)) x0 (.int .u64 32)) fun x17 =>
    bnd (pBin Try.prog .and 51 (.tmp 18) (.const (.int .u64 4294967295)) x1 (.int .u64 4294967295)) fun x19 =>
    bnd (pBin Try.prog .shr 51 (.tmp 20) (.const (.int .u64 32)) x1 (.int .u64 32)) fun x21 =>
    bnd (pBin Try.prog .mul 51 (.tmp 22) (.tmp 23) x15 x19) fun x24 =>
    bnd (pBin Try.prog .mul 51 (.tmp 25) (.tmp 26) x17 x19) fun x27 =>
    bnd (pBin Try.prog .shr 51 (.tmp 28) (.const (.int .u64 32)) x24 (.int .u64 32)) fun x29 =>
    bnd (pBin Try.prog .add 51 (.tmp 27) (.tmp 29) x27 x29) fun x30 =>
    bnd (pBin Try.prog .and 51 (.tmp 31) (.const (.int .u64 4294967295)) x30 (.int .u64 4294967295)) fun x32 =>
    bnd (pBin Try.prog .shr 51 (.tmp 33) (.const (.int .u64 32)) x30 (.int .u64 32)) fun x34 =>
    bnd (pBin Try.prog .mul 51 (.tmp 36) (.tmp 37) x15 x21) fun x38 =>
    bnd (pBin Try.prog .add 51 (.tmp 35) (.tmp 38) x32 x38) fun x39 =>
    G79_10 inv x0 x1 x17 x21 x39 x34 h fun y4 h =>
    bnd (pBin Try.prog .mul 51 (.tmp 48) (.tmp 49) x0 x1) fun x50 =>
    some (.tuple #[y4, x50], h)
theorem F79_eq : eFun env k inv 79 #[x0, x1] h = F79 inv k x0 x1 h := by
      refine (kq_fun (a := act 51 [(0, x0), (1, x1)]) (c := cp c79 1)).trans ?_
      unfold F79
      simp only [kq_seq c79 1, r79_0, kq_seq c79 3, r79_1, kq_seq c79 7, r79_2, kq_seq c79 15, r79_3, kq_seq c79 31, r79_4, kq_seq c79 63, r79_5, kq_seq c79 127, r79_6, kq_seq c79 255, r79_7, kq_seq c79 511, r79_8, kq_seq c79 1023, r79_9, kq_seq c79 2047, r79_10, kq_seq c79 4095, r79_11, kq_ret c79 8191, res79_0, reduceIte, reduceCtorEq, XE.exit.injEq, Nat.reduceEqDiff, Nat.reduceMul, Nat.reduceAdd] <;> kernel_rfl
theorem F79_call : eInv env (k + 1) (.func 79) #[] #[x0, x1] h = F79 (eInv env k) k x0 x1 h := kq_inv F79_eq
noncomputable def c80 : Code := codeOf Try.prog 80
theorem r80_0  : kCode env 80 false inv k (cp c80 2) (act 32 [(0, x0), (1, x1), (2, x2)]) h K =
    K .normal (act 32 [(0, x0), (1, x1), (2, x2), (6, (.int .u64 0))]) h := kq_reg
theorem r80_1  : kCode env 80 false inv k (cp c80 12) (act 32 [(0, x0), (1, x1), (2, x2), (6, x6)]) h K =
    K .normal (act 32 [(0, x0), (1, x1), (6, x6), (9, x2), (10, (.int .i64 0))]) h := kq_reg
theorem r80_2  : kCode env 80 false inv k (cp c80 104) (act 32 [(0, x0), (1, x1), (6, x6), (9, x9), (10, x10)]) h K =
    bnd (pBin Try.prog .lss 3 (.tmp 10) (.tmp 9) x10 x9) fun x11 =>
    K .normal (act 32 [(0, x0), (1, x1), (6, x6), (9, x9), (10, x10), (11, x11)]) h := kq_reg
theorem b80_lrllrlr  : kCode env 80 false inv k (cp c80 210) (act 32 [(0, x0), (1, x1), (6, x6), (9, x9), (10, x10), (11, x11)]) h K = brV x11 (kCode env 80 false inv k (cp c80 420) (act 32 [(0, x0), (1, x1), (6, x6), (9, x9), (10, x10), (11, x11)]) h K) (kCode env 80 false inv k (cp c80 421) (act 32 [(0, x0), (1, x1), (6, x6), (9, x9), (10, x10), (11, x11)]) h K) := kq_cond
theorem r80_3  : kCode env 80 false inv k (cp c80 1688) (act 32 [(0, x0), (1, x1), (6, x6), (9, x9), (10, x10), (11, x11)]) h K =
    K .normal (act 32 [(0, x0), (1, x1), (6, x6), (7, x10), (9, x9), (10, x10)]) h := kq_reg
theorem r80_4  : kCode env 80 false inv k (cp c80 3378) (act 32 [(0, x0), (1, x1), (6, x6), (7, x7), (9, x9), (10, x10)]) h K =
    bnd (pBin Try.prog .add 3 (.tmp 13) (.tmp 14) x1 x7) fun x15 =>
    K .normal (act 32 [(0, x0), (1, x1), (6, x6), (7, x7), (8, x15), (9, x9), (10, x10)]) h := kq_reg
noncomputable abbrev G80_5 {β : Type} (inv : Inv) (x0 x1 x6 x7 x8 x9 x10 : Value) (h : AH) (K : Value → AH → Option β) : Option β :=
    bnd (pBin Try.prog .quo 3 (.tmp 18) (.const (.int .i64 8)) x8 (.int .i64 8)) fun x19 =>
    bnd (pIndexAddr Try.prog 26 x0 x19) fun x20 =>
    bnd (pLoad Try.prog 5 x20 h) fun x21 =>
    bnd (pBin Try.prog .rem 3 (.tmp 22) (.const (.int .i64 8)) x8 (.int .i64 8)) fun x23 =>
    bnd (pBin Try.prog .shr 5 (.tmp 21) (.tmp 23) x21 x23) fun x24 =>
    bnd (pBin Try.prog .and 5 (.tmp 24) (.const (.int .u8 1)) x24 (.int .u8 1)) fun x25 =>
    bnd (pConv Try.prog 5 51 x25 h) fun x26 =>
    bnd (pBin Try.prog .shl 51 (.tmp 26) (.tmp 27) x26 x7) fun x28 =>
    bnd (pBin Try.prog .or 51 (.tmp 16) (.tmp 28) x6 x28) fun x29 =>
    K (x29) h
theorem r80_5  : kCode env 80 false inv k (cp c80 3379) (act 32 [(0, x0), (1, x1), (6, x6), (7, x7), (8, x8), (9, x9), (10, x10)]) h K =
    G80_5 inv x0 x1 x6 x7 x8 x9 x10 h fun y6 h => K .normal (act 32 [(0, x0), (1, x1), (6, y6), (9, x9), (10, x10)]) h := kq_reg
theorem r80_6  : kCode env 80 false inv k (cp c80 423) (act 32 [(0, x0), (1, x1), (6, x6), (9, x9), (10, x10)]) h K =
    bnd (pBin Try.prog .add 3 (.tmp 10) (.const (.int .i64 1)) x10 (.int .i64 1)) fun x30 =>
    K .normal (act 32 [(0, x0), (1, x1), (6, x6), (9, x9), (10, x30)]) h := kq_reg
noncomputable def F80_lrlr {β : Type} (inv : Inv) (k : Nat) : Nat → Value → Value → Value → Value → Value → AH → (Value → Value → Value → Value → Value → Value → AH → Option β) → Option β
  | 0, _, _, _, _, _, _, _ => none
  | j + 1, x0, x1, x6, x9, x10, h, ke0 =>
    bnd (pBin Try.prog .lss 3 (.tmp 10) (.tmp 9) x10 x9) fun x11 =>
    brV x11
    (bnd (pBin Try.prog .add 3 (.tmp 13) (.tmp 14) x1 x10) fun x15 =>
    G80_5 inv x0 x1 x6 x10 x15 x9 x10 h fun y6 h =>
    bnd (pBin Try.prog .add 3 (.tmp 10) (.const (.int .i64 1)) x10 (.int .i64 1)) fun x30 =>
    F80_lrlr inv k j x0 x1 y6 x9 x30 h ke0)
    (ke0 x0 x1 x6 x9 x10 x11 h)
theorem F80_lrlr_j (j : Nat) : kLoop (kCode env 80 false inv k (cp c80 52)) j (act 32 [(0, x0), (1, x1), (6, x6), (9, x9), (10, x10)]) h K = F80_lrlr inv k j x0 x1 x6 x9 x10 h (fun y0 y1 y6 y9 y10 y11 h => K (.exit 0) (act 32 [(0, y0), (1, y1), (6, y6), (9, y9), (10, y10), (11, y11)]) h) := by
      induction j generalizing x0 x1 x6 x9 x10 h with
      | zero => rfl
      | succ j ih =>
        unfold F80_lrlr
        simp only [kLoop, kq_seq c80 52, r80_2, kq_seq c80 105, b80_lrllrlr, kq_skip c80 420, kq_seq c80 211, kq_block c80 422 1, kq_seq c80 844, r80_3, kq_seq c80 1689, r80_4, r80_5, r80_6, kq_exit c80 421 0, ih, reduceIte, reduceCtorEq, XE.exit.injEq, Nat.reduceEqDiff, Nat.reduceMul, Nat.reduceAdd] <;> kernel_rfl
theorem F80_lrlr_eq  : kCode env 80 false inv k (cp c80 26) (act 32 [(0, x0), (1, x1), (6, x6), (9, x9), (10, x10)]) h K = F80_lrlr inv k k x0 x1 x6 x9 x10 h (fun y0 y1 y6 y9 y10 y11 h => K (.exit 0) (act 32 [(0, y0), (1, y1), (6, y6), (9, y9), (10, y10), (11, y11)]) h) := kq_loop (F80_lrlr_j k)
theorem r80_7  : kCode env 80 false inv k (cp c80 14) (act 32 [(0, x0), (1, x1), (6, x6), (9, x9), (10, x10), (11, x11)]) h K =
    K .normal (act 32 [(6, x6)]) h := kq_reg
theorem res80_0 : resOfFn env.P 80 .ret (act 32 [(6, x6)]) h = some (x6, h) := kq_res
/-- shadowbook/packs.at -/
noncomputable def F80 (inv : Inv) (k : Nat) (x0 x1 x2 : Value) (h : AH) : Option (Value × AH) :=
    F80_lrlr inv k k x0 x1 (.int .u64 0) x2 (.int .i64 0) h
    (fun y0 y1 y6 y9 y10 y11 h =>
    some (y6, h))
theorem F80_eq : eFun env k inv 80 #[x0, x1, x2] h = F80 inv k x0 x1 x2 h := by
      refine (kq_fun (a := act 32 [(0, x0), (1, x1), (2, x2)]) (c := cp c80 1)).trans ?_
      unfold F80
      simp only [kq_seq c80 1, r80_0, kq_seq c80 3, kq_seq c80 6, r80_1, kq_block c80 13 0, F80_lrlr_eq, kq_seq c80 7, r80_7, kq_ret c80 15, res80_0, reduceIte, reduceCtorEq, XE.exit.injEq, Nat.reduceEqDiff, Nat.reduceMul, Nat.reduceAdd] <;> kernel_rfl
theorem F80_call : eInv env (k + 1) (.func 80) #[] #[x0, x1, x2] h = F80 (eInv env k) k x0 x1 x2 h := kq_inv F80_eq
noncomputable def c81 : Code := codeOf Try.prog 81
theorem r81_0  : kCode env 81 false inv k (cp c81 4) (act 26 [(0, x0), (1, x1), (2, x2), (3, x3)]) h K =
    bnd (pLoad Try.prog 26 x1 h) fun x6 =>
    bnd (pLoad Try.prog 3 x2 h) fun x7 =>
    bnd (pLoad Try.prog 3 x3 h) fun x8 =>
    bnd (inv (.func 74) #[] #[x6, x7, x8] h) fun x9 =>
    bnd (pBin Try.prog .neq 27 (.tmp 9) (.const (.int .i64 0)) x9.1 (.int .i64 0)) fun x10 =>
    K .normal (act 26 [(0, x0), (1, x1), (2, x2), (3, x3), (10, x10)]) x9.2 := kq_reg
theorem b81_rl  : kCode env 81 false inv k (cp c81 5) (act 26 [(0, x0), (1, x1), (2, x2), (3, x3), (10, x10)]) h K = brV x10 (kCode env 81 false inv k (cp c81 10) (act 26 [(0, x0), (1, x1), (2, x2), (3, x3), (10, x10)]) h K) (kCode env 81 false inv k (cp c81 11) (act 26 [(0, x0), (1, x1), (2, x2), (3, x3), (10, x10)]) h K) := kq_cond
theorem res81_0 : resOfFn env.P 81 .ret (act 26 [(0, x0), (1, x1), (2, x2), (3, x3), (10, x10)]) h = some (.tuple #[], h) := kq_res
theorem r81_1  : kCode env 81 false inv k (cp c81 6) (act 26 [(0, x0), (1, x1), (2, x2), (3, x3), (10, x10)]) h K =
    bnd (pLoad Try.prog 3 x2 h) fun x11 =>
    K .normal (act 26 [(0, x0), (1, x1), (3, x3), (11, x11), (12, (.int .i64 0))]) h := kq_reg
theorem r81_2  : kCode env 81 false inv k (cp c81 56) (act 26 [(0, x0), (1, x1), (3, x3), (11, x11), (12, x12)]) h K =
    bnd (pBin Try.prog .lss 3 (.tmp 12) (.tmp 11) x12 x11) fun x13 =>
    K .normal (act 26 [(0, x0), (1, x1), (3, x3), (11, x11), (12, x12), (13, x13)]) h := kq_reg
theorem b81_lrllrr  : kCode env 81 false inv k (cp c81 114) (act 26 [(0, x0), (1, x1), (3, x3), (11, x11), (12, x12), (13, x13)]) h K = brV x13 (kCode env 81 false inv k (cp c81 228) (act 26 [(0, x0), (1, x1), (3, x3), (11, x11), (12, x12), (13, x13)]) h K) (kCode env 81 false inv k (cp c81 229) (act 26 [(0, x0), (1, x1), (3, x3), (11, x11), (12, x12), (13, x13)]) h K) := kq_cond
theorem r81_3  : kCode env 81 false inv k (cp c81 920) (act 26 [(0, x0), (1, x1), (3, x3), (11, x11), (12, x12), (13, x13)]) h K =
    K .normal (act 26 [(0, x0), (1, x1), (3, x3), (5, x12), (11, x11), (12, x12)]) h := kq_reg
theorem r81_4  : kCode env 81 false inv k (cp c81 1842) (act 26 [(0, x0), (1, x1), (3, x3), (5, x5), (11, x11), (12, x12)]) h K =
    bnd (pLoad Try.prog 26 x1 h) fun x17 =>
    bnd (pLoad Try.prog 3 x3 h) fun x19 =>
    bnd (pBin Try.prog .mul 3 (.tmp 18) (.tmp 19) x5 x19) fun x20 =>
    bnd (pLoad Try.prog 3 x3 h) fun x21 =>
    bnd (inv (.func 80) #[] #[x17, x20, x21] h) fun x22 =>
    bnd (callV inv x0 #[x5, x22.1] x22.2) fun x23 =>
    bnd (pUn Try.prog .not x23.1) fun x24 =>
    K .normal (act 26 [(0, x0), (1, x1), (3, x3), (11, x11), (12, x12), (24, x24)]) x23.2 := kq_reg
theorem b81_rrllrrllrr  : kCode env 81 false inv k (cp c81 1843) (act 26 [(0, x0), (1, x1), (3, x3), (11, x11), (12, x12), (24, x24)]) h K = brV x24 (kCode env 81 false inv k (cp c81 3686) (act 26 [(0, x0), (1, x1), (3, x3), (11, x11), (12, x12), (24, x24)]) h K) (kCode env 81 false inv k (cp c81 3687) (act 26 [(0, x0), (1, x1), (3, x3), (11, x11), (12, x12), (24, x24)]) h K) := kq_cond
theorem r81_5  : kCode env 81 false inv k (cp c81 231) (act 26 [(0, x0), (1, x1), (3, x3), (11, x11), (12, x12), (24, x24)]) h K =
    bnd (pBin Try.prog .add 3 (.tmp 12) (.const (.int .i64 1)) x12 (.int .i64 1)) fun x25 =>
    K .normal (act 26 [(0, x0), (1, x1), (3, x3), (11, x11), (12, x25)]) h := kq_reg
noncomputable def F81_lrr {β : Type} (inv : Inv) (k : Nat) : Nat → Value → Value → Value → Value → Value → AH → (Value → Value → Value → Value → Value → Value → AH → Option β) → (Value → Value → Value → Value → Value → Value → AH → Option β) → Option β
  | 0, _, _, _, _, _, _, _, _ => none
  | j + 1, x0, x1, x3, x11, x12, h, ke0, kr =>
    bnd (pBin Try.prog .lss 3 (.tmp 12) (.tmp 11) x12 x11) fun x13 =>
    brV x13
    (bnd (pLoad Try.prog 26 x1 h) fun x17 =>
    bnd (pLoad Try.prog 3 x3 h) fun x19 =>
    bnd (pBin Try.prog .mul 3 (.tmp 18) (.tmp 19) x12 x19) fun x20 =>
    bnd (pLoad Try.prog 3 x3 h) fun x21 =>
    bnd (inv (.func 80) #[] #[x17, x20, x21] h) fun x22 =>
    bnd (callV inv x0 #[x12, x22.1] x22.2) fun x23 =>
    bnd (pUn Try.prog .not x23.1) fun x24 =>
    brV x24
    (kr x0 x1 x3 x11 x12 x24 x23.2)
    (bnd (pBin Try.prog .add 3 (.tmp 12) (.const (.int .i64 1)) x12 (.int .i64 1)) fun x25 =>
    F81_lrr inv k j x0 x1 x3 x11 x25 x23.2 ke0 kr))
    (ke0 x0 x1 x3 x11 x12 x13 h)
theorem F81_lrr_j (j : Nat) : kLoop (kCode env 81 false inv k (cp c81 28)) j (act 26 [(0, x0), (1, x1), (3, x3), (11, x11), (12, x12)]) h K = F81_lrr inv k j x0 x1 x3 x11 x12 h (fun y0 y1 y3 y11 y12 y13 h => K (.exit 0) (act 26 [(0, y0), (1, y1), (3, y3), (11, y11), (12, y12), (13, y13)]) h) (fun y0 y1 y3 y11 y12 y24 h => K .ret (act 26 [(0, y0), (1, y1), (3, y3), (11, y11), (12, y12), (24, y24)]) h) := by
      induction j generalizing x0 x1 x3 x11 x12 h with
      | zero => rfl
      | succ j ih =>
        unfold F81_lrr
        simp only [kLoop, kq_seq c81 28, r81_2, kq_seq c81 57, b81_lrllrr, kq_skip c81 228, kq_seq c81 115, kq_block c81 230 1, kq_seq c81 460, r81_3, kq_seq c81 921, r81_4, b81_rrllrrllrr, kq_ret c81 3686, kq_skip c81 3687, r81_5, kq_exit c81 229 0, ih, reduceIte, reduceCtorEq, XE.exit.injEq, Nat.reduceEqDiff, Nat.reduceMul, Nat.reduceAdd] <;> kernel_rfl
theorem F81_lrr_eq  : kCode env 81 false inv k (cp c81 14) (act 26 [(0, x0), (1, x1), (3, x3), (11, x11), (12, x12)]) h K = F81_lrr inv k k x0 x1 x3 x11 x12 h (fun y0 y1 y3 y11 y12 y13 h => K (.exit 0) (act 26 [(0, y0), (1, y1), (3, y3), (11, y11), (12, y12), (13, y13)]) h) (fun y0 y1 y3 y11 y12 y24 h => K .ret (act 26 [(0, y0), (1, y1), (3, y3), (11, y11), (12, y12), (24, y24)]) h) := kq_loop (F81_lrr_j k)
theorem res81_1 : resOfFn env.P 81 .normal (act 26 [(0, x0), (1, x1), (3, x3), (11, x11), (12, x12), (13, x13)]) h = some (.tuple #[], h) := kq_res
theorem res81_2 : resOfFn env.P 81 .ret (act 26 [(0, x0), (1, x1), (3, x3), (11, x11), (12, x12), (24, x24)]) h = some (.tuple #[], h) := kq_res
/-- shadowbook/packs.Each$1 -/
noncomputable def F81 (inv : Inv) (k : Nat) (x0 x1 x2 x3 : Value) (h : AH) : Option (Value × AH) :=
    bnd (pLoad Try.prog 26 x1 h) fun x6 =>
    bnd (pLoad Try.prog 3 x2 h) fun x7 =>
    bnd (pLoad Try.prog 3 x3 h) fun x8 =>
    bnd (inv (.func 74) #[] #[x6, x7, x8] h) fun x9 =>
    bnd (pBin Try.prog .neq 27 (.tmp 9) (.const (.int .i64 0)) x9.1 (.int .i64 0)) fun x10 =>
    brV x10
    (some (.tuple #[], x9.2))
    (bnd (pLoad Try.prog 3 x2 x9.2) fun x11 =>
    F81_lrr inv k k x0 x1 x3 x11 (.int .i64 0) x9.2
    (fun y0 y1 y3 y11 y12 y13 h =>
    some (.tuple #[], h))
    (fun y0_1 y1_2 y3_3 y11_4 y12_5 y24 h_6 =>
    some (.tuple #[], h_6)))
theorem F81_eq : eFun env k inv 81 #[x0, x1, x2, x3] h = F81 inv k x0 x1 x2 x3 h := by
      refine (kq_fun (a := act 26 [(0, x0), (1, x1), (2, x2), (3, x3)]) (c := cp c81 1)).trans ?_
      unfold F81
      simp only [kq_seq c81 1, kq_seq c81 2, r81_0, b81_rl, kq_ret c81 10, res81_0, kq_skip c81 11, kq_seq c81 3, r81_1, kq_block c81 7 0, F81_lrr_eq, res81_1, res81_2, reduceIte, reduceCtorEq, XE.exit.injEq, Nat.reduceEqDiff, Nat.reduceMul, Nat.reduceAdd] <;> kernel_rfl
theorem F81_call : eInv env (k + 1) (.func 81) #[] #[x0, x1, x2, x3] h = F81 (eInv env k) k x0 x1 x2 x3 h := kq_inv F81_eq
end Go.Proofs.Ytcidbbkefpeahaa.Sh
