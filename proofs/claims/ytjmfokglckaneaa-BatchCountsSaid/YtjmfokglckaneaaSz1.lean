/- Shallow functions, part 1. Printed by a program of the prover's own from the loaded program; Lean checks it. -/
import Derived.Test.YtjmfokglckaneaaSz0
set_option linter.unusedVariables false
set_option linter.unusedSimpArgs false
set_option maxRecDepth 100000
namespace Go.Proofs.Ytjmfokglckaneaa.Sh
open Go Go.RowKit Go.Proofs.Ev
variable {β : Type} {inv : Inv} {k : Nat} {h : AH} {K : XE → Act → AH → Option β} {x0 x1 x2 x3 x4 x5 x6 x7 x8 x9 x10 x11 x12 x13 x14 x15 x16 x17 x18 x19 x20 x21 x22 x23 x24 x25 x26 x27 x28 x29 x30 x31 x32 x33 x34 x35 x36 x37 x38 x39 x40 x41 x42 x43 x44 x45 x46 x47 x48 x49 x50 x51 x52 x53 x54 x55 x56 x57 x58 x61 x64 x65 x66 x67 x70 x97 : Value}
noncomputable def c7 : Code := codeOf Try.prog 7
theorem r7_0  : kCode env 7 false inv k (cp c7 2) (act 123 [(0, x0), (1, x1), (2, x2)]) h K =
    K .normal (act 123 [(0, x0), (1, x1), (2, x2)]) h := kq_reg
theorem r7_1  : kCode env 7 false inv k (cp c7 12) (act 123 [(0, x0), (1, x1), (2, x2)]) h K =
    bnd (inv (.func 8) #[] #[] h) fun x16 =>
    bnd (pUn Try.prog .not x16.1) fun x17 =>
    K .normal (act 123 [(0, x0), (1, x1), (2, x2), (17, x17)]) x16.2 := kq_reg
theorem b7_rlr  : kCode env 7 false inv k (cp c7 13) (act 123 [(0, x0), (1, x1), (2, x2), (17, x17)]) h K = brV x17 (kCode env 7 false inv k (cp c7 26) (act 123 [(0, x0), (1, x1), (2, x2), (17, x17)]) h K) (kCode env 7 false inv k (cp c7 27) (act 123 [(0, x0), (1, x1), (2, x2), (17, x17)]) h K) := kq_cond
theorem r7_2  : kCode env 7 false inv k (cp c7 52) (act 123 [(0, x0), (1, x1), (2, x2), (17, x17)]) h K =
    K .normal (act 123 [(6, (.bool false))]) h := kq_reg
theorem res7_0 : resOfFn env.P 7 .ret (act 123 [(6, x6)]) h = some (x6, h) := kq_res
noncomputable abbrev G7_3 {β : Type} (inv : Inv) (x0 x1 x2 : Value) (h : AH) (K : Value → AH → Option β) : Option β :=
    bnd (inv (.func 9) #[] #[x0, x1, x2] h) fun x21 =>
    bnd (pUn Try.prog .not x21.1) fun x22 =>
    bnd (gd (some x22) false x21.2 (some (x0, x21.2))) fun x24 =>
    bnd (gd (some x22) false x24.2 (some (x2, x24.2))) fun x25 =>
    bnd (gd (some x22) false x25.2 (inv (.func 10) #[] #[x24.1, x25.1] x25.2)) fun x26 =>
    bnd (gd (some x22) false x26.2 (lt (pBin Try.prog .neq 27 (.tmp 26) (.const (.int .i64 0)) x26.1 (.int .i64 0)) x26.2)) fun x27 =>
    bnd (pickV x22 (.bool true) x27.1) fun x28 =>
    bnd (gd (some x28) false x27.2 (some (x0, x27.2))) fun x30 =>
    bnd (gd (some x28) false x30.2 (some (x1, x30.2))) fun x31 =>
    bnd (gd (some x28) false x31.2 (inv (.func 11) #[] #[x30.1, x31.1] x31.2)) fun x32 =>
    bnd (gd (some x28) false x32.2 (lt (pUn Try.prog .not x32.1) x32.2)) fun x33 =>
    bnd (pickV x28 (.bool true) x33.1) fun x34 =>
    K (x34) x33.2
theorem r7_3  : kCode env 7 false inv k (cp c7 28) (act 123 [(0, x0), (1, x1), (2, x2), (17, x17)]) h K =
    G7_3 inv x0 x1 x2 h fun y34 h => K .normal (act 123 [(0, x0), (1, x1), (2, x2), (34, y34)]) h := kq_reg
theorem b7_rlrr  : kCode env 7 false inv k (cp c7 29) (act 123 [(0, x0), (1, x1), (2, x2), (34, x34)]) h K = brV x34 (kCode env 7 false inv k (cp c7 58) (act 123 [(0, x0), (1, x1), (2, x2), (34, x34)]) h K) (kCode env 7 false inv k (cp c7 59) (act 123 [(0, x0), (1, x1), (2, x2), (34, x34)]) h K) := kq_cond
theorem r7_4  : kCode env 7 false inv k (cp c7 116) (act 123 [(0, x0), (1, x1), (2, x2), (34, x34)]) h K =
    K .normal (act 123 [(6, (.bool true))]) h := kq_reg
theorem r7_5  : kCode env 7 false inv k (cp c7 30) (act 123 [(0, x0), (1, x1), (2, x2), (34, x34)]) h K =
    bnd (inv (.func 12) #[] #[x0, x1, x2] h) fun x39 =>
    bnd (pExtract x39.1 0) fun x40 =>
    bnd (pExtract x39.1 1) fun x41 =>
    bnd (pExtract x39.1 2) fun x42 =>
    K .normal (act 123 [(1, x1), (2, x2), (7, x40), (8, x41), (9, x42)]) x39.2 := kq_reg
theorem r7_6  : kCode env 7 false inv k (cp c7 62) (act 123 [(1, x1), (2, x2), (7, x7), (8, x8), (9, x9)]) h K =
    K .normal (act 123 [(1, x1), (2, x2), (7, x7), (8, x8), (9, x9), (10, (.int .i64 0)), (11, (.int .i64 0))]) h := kq_reg
theorem r7_7  : kCode env 7 false inv k (cp c7 126) (act 123 [(1, x1), (2, x2), (7, x7), (8, x8), (9, x9), (10, x10), (11, x11)]) h K =
    K .normal (act 123 [(1, x1), (2, x2), (7, x7), (8, x8), (9, x9), (10, x10), (11, x11), (12, x1)]) h := kq_reg
theorem r7_8  : kCode env 7 false inv k (cp c7 508) (act 123 [(1, x1), (2, x2), (7, x7), (8, x8), (9, x9), (10, x10), (11, x11), (12, x12)]) h K =
    K .normal (act 123 [(1, x1), (2, x2), (7, x7), (8, x8), (9, x9), (10, x10), (11, x11), (12, x12), (13, (.int .i64 0))]) h := kq_reg
theorem r7_9  : kCode env 7 false inv k (cp c7 8144) (act 123 [(1, x1), (2, x2), (7, x7), (8, x8), (9, x9), (10, x10), (11, x11), (12, x12), (13, x13)]) h K =
    bnd (pLen Try.prog #[24] x2 h) fun x46 =>
    bnd (pBin Try.prog .lss 3 (.tmp 44) (.tmp 46) x13 x46) fun x47 =>
    K .normal (act 123 [(1, x1), (2, x2), (7, x7), (8, x8), (9, x9), (10, x10), (11, x11), (12, x12), (13, x13), (47, x47)]) h := kq_reg
theorem b7_rlllrlrrrrrr  : kCode env 7 false inv k (cp c7 8145) (act 123 [(1, x1), (2, x2), (7, x7), (8, x8), (9, x9), (10, x10), (11, x11), (12, x12), (13, x13), (47, x47)]) h K = brV x47 (kCode env 7 false inv k (cp c7 16290) (act 123 [(1, x1), (2, x2), (7, x7), (8, x8), (9, x9), (10, x10), (11, x11), (12, x12), (13, x13), (47, x47)]) h K) (kCode env 7 false inv k (cp c7 16291) (act 123 [(1, x1), (2, x2), (7, x7), (8, x8), (9, x9), (10, x10), (11, x11), (12, x12), (13, x13), (47, x47)]) h K) := kq_cond
theorem r7_11  : kCode env 7 false inv k (cp c7 32584) (act 123 [(1, x1), (2, x2), (7, x7), (8, x8), (9, x9), (10, x10), (11, x11), (12, x12), (13, x13), (47, x47)]) h K =
    bnd (pIndexAddr Try.prog 24 x2 x13) fun x54 =>
    bnd (pLoad Try.prog 39 x54 h) fun x55 =>
    bnd (inv (.func 16) #[] #[x12, x55] h) fun x56 =>
    bnd (pExtract x56.1 0) fun x57 =>
    bnd (pExtract x56.1 1) fun x58 =>
    K .normal (act 123 [(1, x1), (2, x2), (7, x7), (8, x8), (9, x9), (10, x10), (11, x11), (12, x12), (13, x13), (14, x57), (15, x58)]) x56.2 := kq_reg
theorem r7_12  : kCode env 7 false inv k (cp c7 65170) (act 123 [(1, x1), (2, x2), (7, x7), (8, x8), (9, x9), (10, x10), (11, x11), (12, x12), (13, x13), (14, x14), (15, x15)]) h K =
    bnd (pBin Try.prog .add 3 (.tmp 59) (.tmp 60) x11 x15) fun x61 =>
    K .normal (act 123 [(1, x1), (2, x2), (7, x7), (8, x8), (9, x9), (10, x10), (11, x61), (12, x12), (13, x13), (14, x14), (15, x15)]) h := kq_reg
theorem r7_13  : kCode env 7 false inv k (cp c7 260684) (act 123 [(1, x1), (2, x2), (7, x7), (8, x8), (9, x9), (10, x10), (11, x11), (12, x12), (13, x13), (14, x14), (15, x15)]) h K =
    bnd (pIndexAddr Try.prog 24 x2 x13) fun x64 =>
    bnd (pFieldAddr Try.prog 39 x64 0) fun x65 =>
    bnd (pLoad Try.prog 3 x65 h) fun x66 =>
    bnd (pBin Try.prog .eql 3 (.tmp 66) (.const (.int .i64 2)) x66 (.int .i64 2)) fun x67 =>
    K .normal (act 123 [(1, x1), (2, x2), (7, x7), (8, x8), (9, x9), (10, x10), (11, x11), (12, x12), (13, x13), (14, x14), (15, x15), (67, x67)]) h := kq_reg
theorem b7_rlrrllrllrlrrrrrr  : kCode env 7 false inv k (cp c7 260685) (act 123 [(1, x1), (2, x2), (7, x7), (8, x8), (9, x9), (10, x10), (11, x11), (12, x12), (13, x13), (14, x14), (15, x15), (67, x67)]) h K = brV x67 (kCode env 7 false inv k (cp c7 521370) (act 123 [(1, x1), (2, x2), (7, x7), (8, x8), (9, x9), (10, x10), (11, x11), (12, x12), (13, x13), (14, x14), (15, x15), (67, x67)]) h K) (kCode env 7 false inv k (cp c7 521371) (act 123 [(1, x1), (2, x2), (7, x7), (8, x8), (9, x9), (10, x10), (11, x11), (12, x12), (13, x13), (14, x14), (15, x15), (67, x67)]) h K) := kq_cond
theorem r7_14  : kCode env 7 false inv k (cp c7 521370) (act 123 [(1, x1), (2, x2), (7, x7), (8, x8), (9, x9), (10, x10), (11, x11), (12, x12), (13, x13), (14, x14), (15, x15), (67, x67)]) h K =
    bnd (pBin Try.prog .add 3 (.tmp 68) (.tmp 69) x10 x15) fun x70 =>
    K .normal (act 123 [(1, x1), (2, x2), (7, x7), (8, x8), (9, x9), (10, x70), (11, x11), (12, x12), (13, x13), (14, x14), (15, x15)]) h := kq_reg
noncomputable def F7_rlrrllrllrlrrrrrr {β : Type} (inv : Inv) (k : Nat) (x1 x2 x7 x8 x9 x10 x11 x12 x13 x14 x15 x67 : Value) (h : AH) (kn : (Value → Value → Value → Value → Value → Value → Value → Value → Value → Value → Value → Value → AH → Option β)) : Option β :=
    brV x67
    (bnd (pBin Try.prog .add 3 (.tmp 68) (.tmp 69) x10 x15) fun x70 =>
    kn x1 x2 x7 x8 x9 x70 x11 x12 x13 x14 x15 unk h)
    (kn x1 x2 x7 x8 x9 x10 x11 x12 x13 x14 x15 x67 h)
theorem F7_rlrrllrllrlrrrrrr_eq  : kCode env 7 false inv k (cp c7 260685) (act 123 [(1, x1), (2, x2), (7, x7), (8, x8), (9, x9), (10, x10), (11, x11), (12, x12), (13, x13), (14, x14), (15, x15), (67, x67)]) h K = F7_rlrrllrllrlrrrrrr inv k x1 x2 x7 x8 x9 x10 x11 x12 x13 x14 x15 x67 h (fun y1 y2 y7 y8 y9 y10 y11 y12 y13 y14 y15 y67 h => K .normal (act 123 [(1, y1), (2, y2), (7, y7), (8, y8), (9, y9), (10, y10), (11, y11), (12, y12), (13, y13), (14, y14), (15, y15), (67, y67)]) h) := by
      unfold F7_rlrrllrllrlrrrrrr
      simp only [b7_rlrrllrllrlrrrrrr, r7_14, kq_skip c7 521371, reduceIte, reduceCtorEq, XE.exit.injEq, Nat.reduceEqDiff, Nat.reduceMul, Nat.reduceAdd] <;> kernel_rfl
noncomputable abbrev G7_15 {β : Type} (inv : Inv) (x1 x2 x7 x8 x9 x10 x11 x12 x13 x14 x15 : Value) (h : AH) (K : Value → AH → Option β) : Option β :=
    bnd (pIndexAddr Try.prog 24 x2 x13) fun x73 =>
    bnd (pFieldAddr Try.prog 39 x73 0) fun x74 =>
    bnd (pLoad Try.prog 3 x74 h) fun x75 =>
    bnd (pBin Try.prog .neq 3 (.tmp 75) (.const (.int .i64 1)) x75 (.int .i64 1)) fun x76 =>
    bnd (gd (some x76) true h (some (x15, h))) fun x78 =>
    bnd (gd (some x76) true x78.2 (some (x12, x78.2))) fun x79 =>
    bnd (gd (some x76) true x79.2 (lt (pLen Try.prog #[23] x79.1 x79.2) x79.2)) fun x80 =>
    bnd (gd (some x76) true x80.2 (lt (pBin Try.prog .gtr 3 (.tmp 78) (.tmp 80) x78.1 x80.1) x80.2)) fun x81 =>
    bnd (pickV x76 x81.1 (.bool false)) fun x82 =>
    bnd (gd (some x82) false x81.2 (some (x2, x81.2))) fun x84 =>
    bnd (gd (some x82) false x84.2 (some (x13, x84.2))) fun x85 =>
    bnd (gd (some x82) false x85.2 (lt (pIndexAddr Try.prog 24 x84.1 x85.1) x85.2)) fun x86 =>
    bnd (gd (some x82) false x86.2 (lt (pFieldAddr Try.prog 39 x86.1 0) x86.2)) fun x87 =>
    bnd (gd (some x82) false x87.2 (lt (pLoad Try.prog 3 x87.1 x87.2) x87.2)) fun x88 =>
    bnd (gd (some x82) false x88.2 (lt (pBin Try.prog .eql 3 (.tmp 88) (.const (.int .i64 3)) x88.1 (.int .i64 3)) x88.2)) fun x89 =>
    bnd (gd (some x82) false x89.2 (some (x89.1, x89.2))) fun x90 =>
    bnd (gd (some x90.1) true x90.2 (some (x14, x90.2))) fun x91 =>
    bnd (gd (some x90.1) true x91.2 (lt (pLen Try.prog #[23] x91.1 x91.2) x91.2)) fun x92 =>
    bnd (gd (some x90.1) true x92.2 (some (x12, x92.2))) fun x93 =>
    bnd (gd (some x90.1) true x93.2 (lt (pLen Try.prog #[23] x93.1 x93.2) x93.2)) fun x94 =>
    bnd (gd (some x90.1) true x94.2 (lt (pBin Try.prog .neq 3 (.tmp 92) (.tmp 94) x92.1 x94.1) x94.2)) fun x95 =>
    bnd (gd (some x82) false x95.2 (lt (pickV x90.1 x95.1 (.bool false)) x95.2)) fun x96 =>
    bnd (pickV x82 (.bool true) x96.1) fun x97 =>
    K (x97) x96.2
theorem r7_15  : kCode env 7 false inv k (cp c7 521372) (act 123 [(1, x1), (2, x2), (7, x7), (8, x8), (9, x9), (10, x10), (11, x11), (12, x12), (13, x13), (14, x14), (15, x15), (67, x67)]) h K =
    G7_15 inv x1 x2 x7 x8 x9 x10 x11 x12 x13 x14 x15 h fun y97 h => K .normal (act 123 [(1, x1), (2, x2), (7, x7), (8, x8), (9, x9), (10, x10), (11, x11), (13, x13), (14, x14), (97, y97)]) h := kq_reg
theorem b7_rlrrrllrllrlrrrrrr  : kCode env 7 false inv k (cp c7 521373) (act 123 [(1, x1), (2, x2), (7, x7), (8, x8), (9, x9), (10, x10), (11, x11), (13, x13), (14, x14), (97, x97)]) h K = brV x97 (kCode env 7 false inv k (cp c7 1042746) (act 123 [(1, x1), (2, x2), (7, x7), (8, x8), (9, x9), (10, x10), (11, x11), (13, x13), (14, x14), (97, x97)]) h K) (kCode env 7 false inv k (cp c7 1042747) (act 123 [(1, x1), (2, x2), (7, x7), (8, x8), (9, x9), (10, x10), (11, x11), (13, x13), (14, x14), (97, x97)]) h K) := kq_cond
theorem r7_16  : kCode env 7 false inv k (cp c7 2085492) (act 123 [(1, x1), (2, x2), (7, x7), (8, x8), (9, x9), (10, x10), (11, x11), (13, x13), (14, x14), (97, x97)]) h K =
    K .normal (act 123 [(6, (.bool false))]) h := kq_reg
theorem r7_17  : kCode env 7 false inv k (cp c7 260687) (act 123 [(1, x1), (2, x2), (7, x7), (8, x8), (9, x9), (10, x10), (11, x11), (13, x13), (14, x14), (97, x97)]) h K =
    K .normal (act 123 [(1, x1), (2, x2), (7, x7), (8, x8), (9, x9), (10, x10), (11, x11), (12, x14), (13, x13)]) h := kq_reg
theorem r7_10  : kCode env 7 false inv k (cp c7 8147) (act 123 [(1, x1), (2, x2), (7, x7), (8, x8), (9, x9), (10, x10), (11, x11), (12, x12), (13, x13)]) h K =
    bnd (pBin Try.prog .add 3 (.tmp 48) (.const (.int .i64 1)) x13 (.int .i64 1)) fun x49 =>
    K .normal (act 123 [(1, x1), (2, x2), (7, x7), (8, x8), (9, x9), (10, x10), (11, x11), (12, x12), (13, x49)]) h := kq_reg
noncomputable def F7_lrlrrrrrr {β : Type} (inv : Inv) (k : Nat) : Nat → Value → Value → Value → Value → Value → Value → Value → Value → Value → AH → (Value → Value → Value → Value → Value → Value → Value → Value → Value → Value → AH → Option β) → (Value → AH → Option β) → Option β
  | 0, _, _, _, _, _, _, _, _, _, _, _, _ => none
  | j + 1, x1, x2, x7, x8, x9, x10, x11, x12, x13, h, ke0, kr =>
    bnd (pLen Try.prog #[24] x2 h) fun x46 =>
    bnd (pBin Try.prog .lss 3 (.tmp 44) (.tmp 46) x13 x46) fun x47 =>
    brV x47
    (bnd (pIndexAddr Try.prog 24 x2 x13) fun x54 =>
    bnd (pLoad Try.prog 39 x54 h) fun x55 =>
    bnd (inv (.func 16) #[] #[x12, x55] h) fun x56 =>
    bnd (pExtract x56.1 0) fun x57 =>
    bnd (pExtract x56.1 1) fun x58 =>
    bnd (pBin Try.prog .add 3 (.tmp 59) (.tmp 60) x11 x58) fun x61 =>
    bnd (pIndexAddr Try.prog 24 x2 x13) fun x64 =>
    bnd (pFieldAddr Try.prog 39 x64 0) fun x65 =>
    bnd (pLoad Try.prog 3 x65 x56.2) fun x66 =>
    bnd (pBin Try.prog .eql 3 (.tmp 66) (.const (.int .i64 2)) x66 (.int .i64 2)) fun x67 =>
    F7_rlrrllrllrlrrrrrr inv k x1 x2 x7 x8 x9 x10 x61 x12 x13 x57 x58 x67 x56.2
    (fun y1 y2 y7 y8 y9 y10 y11 y12 y13 y14 y15 y67 h =>
    G7_15 inv y1 y2 y7 y8 y9 y10 y11 y12 y13 y14 y15 h fun y97 h_1 =>
    brV y97
    (kr (.bool false) h_1)
    (bnd (pBin Try.prog .add 3 (.tmp 48) (.const (.int .i64 1)) y13 (.int .i64 1)) fun x49 =>
    F7_lrlrrrrrr inv k j y1 y2 y7 y8 y9 y10 y11 y14 x49 h_1 ke0 kr)))
    (ke0 x1 x2 x7 x8 x9 x10 x11 x12 x13 x47 h)
theorem F7_lrlrrrrrr_j (j : Nat) : kLoop (kCode env 7 false inv k (cp c7 2036)) j (act 123 [(1, x1), (2, x2), (7, x7), (8, x8), (9, x9), (10, x10), (11, x11), (12, x12), (13, x13)]) h K = F7_lrlrrrrrr inv k j x1 x2 x7 x8 x9 x10 x11 x12 x13 h (fun y1 y2 y7 y8 y9 y10 y11 y12 y13 y47 h => K (.exit 0) (act 123 [(1, y1), (2, y2), (7, y7), (8, y8), (9, y9), (10, y10), (11, y11), (12, y12), (13, y13), (47, y47)]) h) (fun y6 h => K .ret (act 123 [(6, y6)]) h) := by
      induction j generalizing x1 x2 x7 x8 x9 x10 x11 x12 x13 h with
      | zero => rfl
      | succ j ih =>
        unfold F7_lrlrrrrrr
        simp only [kLoop, kq_seq c7 2036, kq_seq c7 4072, r7_9, b7_rlllrlrrrrrr, kq_skip c7 16290, kq_seq c7 4073, kq_block c7 8146 1, kq_seq c7 16292, r7_11, kq_seq c7 32585, r7_12, kq_seq c7 65171, kq_seq c7 130342, r7_13, F7_rlrrllrllrlrrrrrr_eq, kq_seq c7 130343, kq_seq c7 260686, r7_15, b7_rlrrrllrllrlrrrrrr, kq_seq c7 1042746, r7_16, kq_ret c7 2085493, kq_skip c7 1042747, r7_17, r7_10, kq_exit c7 16291 0, ih, reduceIte, reduceCtorEq, XE.exit.injEq, Nat.reduceEqDiff, Nat.reduceMul, Nat.reduceAdd] <;> kernel_rfl
theorem F7_lrlrrrrrr_eq  : kCode env 7 false inv k (cp c7 1018) (act 123 [(1, x1), (2, x2), (7, x7), (8, x8), (9, x9), (10, x10), (11, x11), (12, x12), (13, x13)]) h K = F7_lrlrrrrrr inv k k x1 x2 x7 x8 x9 x10 x11 x12 x13 h (fun y1 y2 y7 y8 y9 y10 y11 y12 y13 y47 h => K (.exit 0) (act 123 [(1, y1), (2, y2), (7, y7), (8, y8), (9, y9), (10, y10), (11, y11), (12, y12), (13, y13), (47, y47)]) h) (fun y6 h => K .ret (act 123 [(6, y6)]) h) := kq_loop (F7_lrlrrrrrr_j k)
noncomputable abbrev G7_18 {β : Type} (inv : Inv) (x1 x2 x7 x8 x9 x10 x11 x12 : Value) (h : AH) (K : Value → AH → Option β) : Option β :=
    bnd (pBin Try.prog .eql 27 (.tmp 99) (.const (.int .i64 0)) x9 (.int .i64 0)) fun x100 =>
    bnd (gd (some x100) true h (some (x8, h))) fun x102 =>
    bnd (gd (some x100) true x102.2 (some (x11, x102.2))) fun x103 =>
    bnd (gd (some x100) true x103.2 (lt (pBin Try.prog .eql 3 (.tmp 102) (.tmp 103) x102.1 x103.1) x103.2)) fun x104 =>
    bnd (pickV x100 x104.1 (.bool false)) fun x105 =>
    bnd (gd (some x105) true x104.2 (some (x7, x104.2))) fun x107 =>
    bnd (gd (some x105) true x107.2 (lt (pLen Try.prog #[23] x107.1 x107.2) x107.2)) fun x108 =>
    bnd (gd (some x105) true x108.2 (some (x1, x108.2))) fun x109 =>
    bnd (gd (some x105) true x109.2 (lt (pLen Try.prog #[23] x109.1 x109.2) x109.2)) fun x110 =>
    bnd (gd (some x105) true x110.2 (some (x2, x110.2))) fun x111 =>
    bnd (gd (some x105) true x111.2 (inv (.func 29) #[] #[x111.1] x111.2)) fun x112 =>
    bnd (gd (some x105) true x112.2 (lt (pBin Try.prog .add 3 (.tmp 110) (.tmp 112) x110.1 x112.1) x112.2)) fun x113 =>
    bnd (gd (some x105) true x113.2 (some (x10, x113.2))) fun x114 =>
    bnd (gd (some x105) true x114.2 (lt (pBin Try.prog .sub 3 (.tmp 113) (.tmp 114) x113.1 x114.1) x114.2)) fun x115 =>
    bnd (gd (some x105) true x115.2 (lt (pBin Try.prog .eql 3 (.tmp 108) (.tmp 115) x108.1 x115.1) x115.2)) fun x116 =>
    bnd (pickV x105 x116.1 (.bool false)) fun x117 =>
    bnd (gd (some x117) true x116.2 (some (x7, x116.2))) fun x119 =>
    bnd (gd (some x117) true x119.2 (some (x12, x119.2))) fun x120 =>
    bnd (gd (some x117) true x120.2 (inv (.func 20) #[] #[x119.1, x120.1] x120.2)) fun x121 =>
    bnd (pickV x117 x121.1 (.bool false)) fun x122 =>
    K (x122) x121.2
theorem r7_18  : kCode env 7 false inv k (cp c7 510) (act 123 [(1, x1), (2, x2), (7, x7), (8, x8), (9, x9), (10, x10), (11, x11), (12, x12), (13, x13), (47, x47)]) h K =
    G7_18 inv x1 x2 x7 x8 x9 x10 x11 x12 h fun y6 h => K .normal (act 123 [(6, y6)]) h := kq_reg
/-- shadowbook/shadowbooklaw19.BatchCounts -/
noncomputable def F7 (inv : Inv) (k : Nat) (x0 x1 x2 : Value) (h : AH) : Option (Value × AH) :=
    bnd (inv (.func 8) #[] #[] h) fun x16 =>
    bnd (pUn Try.prog .not x16.1) fun x17 =>
    brV x17
    (some ((.bool false), x16.2))
    (G7_3 inv x0 x1 x2 x16.2 fun y34 h =>
    brV y34
    (some ((.bool true), h))
    (bnd (inv (.func 12) #[] #[x0, x1, x2] h) fun x39 =>
    bnd (pExtract x39.1 0) fun x40 =>
    bnd (pExtract x39.1 1) fun x41 =>
    bnd (pExtract x39.1 2) fun x42 =>
    F7_lrlrrrrrr inv k k x1 x2 x40 x41 x42 (.int .i64 0) (.int .i64 0) x1 (.int .i64 0) x39.2
    (fun y1 y2 y7 y8 y9 y10 y11 y12 y13 y47 h_2 =>
    G7_18 inv y1 y2 y7 y8 y9 y10 y11 y12 h_2 fun y6 h_3 =>
    some (y6, h_3))
    (fun y6_4 h_5 =>
    some (y6_4, h_5))))
theorem F7_eq : eFun env k inv 7 #[x0, x1, x2] h = F7 inv k x0 x1 x2 h := by
      refine (kq_fun (a := act 123 [(0, x0), (1, x1), (2, x2)]) (c := cp c7 1)).trans ?_
      unfold F7
      simp only [kq_seq c7 1, r7_0, kq_seq c7 3, kq_seq c7 6, r7_1, b7_rlr, kq_seq c7 26, r7_2, kq_ret c7 53, res7_0, kq_skip c7 27, kq_seq c7 7, kq_seq c7 14, r7_3, b7_rlrr, kq_seq c7 58, r7_4, kq_ret c7 117, kq_skip c7 59, kq_seq c7 15, r7_5, kq_seq c7 31, r7_6, kq_seq c7 63, r7_7, kq_seq c7 127, kq_seq c7 254, r7_8, kq_block c7 509 0, F7_lrlrrrrrr_eq, kq_seq c7 255, r7_18, kq_ret c7 511, reduceIte, reduceCtorEq, XE.exit.injEq, Nat.reduceEqDiff, Nat.reduceMul, Nat.reduceAdd] <;> kernel_rfl
theorem F7_call : eInv env (k + 1) (.func 7) #[] #[x0, x1, x2] h = F7 (eInv env k) k x0 x1 x2 h := kq_inv F7_eq
noncomputable def c9 : Code := codeOf Try.prog 9
theorem r9_0  : kCode env 9 false inv k (cp c9 2) (act 17 [(0, x0), (1, x1), (2, x2)]) h K =
    K .normal (act 17 [(0, x0), (1, x1), (2, x2)]) h := kq_reg
noncomputable abbrev G9_1 {β : Type} (inv : Inv) (x0 x1 x2 : Value) (h : AH) (K : Value → AH → Option β) : Option β :=
    bnd (inv (.func 30) #[] #[x0] h) fun x8 =>
    bnd (gd (some x8.1) true x8.2 (some (x1, x8.2))) fun x10 =>
    bnd (gd (some x8.1) true x10.2 (inv (.func 31) #[] #[x10.1, (.int .i64 60)] x10.2)) fun x11 =>
    bnd (pickV x8.1 x11.1 (.bool false)) fun x12 =>
    bnd (gd (some x12) true x11.2 (some (x2, x11.2))) fun x14 =>
    bnd (gd (some x12) true x14.2 (inv (.func 32) #[] #[x14.1, (.int .i64 40)] x14.2)) fun x15 =>
    bnd (pickV x12 x15.1 (.bool false)) fun x16 =>
    K (x16) x15.2
theorem r9_1  : kCode env 9 false inv k (cp c9 6) (act 17 [(0, x0), (1, x1), (2, x2)]) h K =
    G9_1 inv x0 x1 x2 h fun y6 h => K .normal (act 17 [(6, y6)]) h := kq_reg
theorem res9_0 : resOfFn env.P 9 .ret (act 17 [(6, x6)]) h = some (x6, h) := kq_res
/-- shadowbook/shadowbooklaw19.light -/
noncomputable def F9 (inv : Inv) (k : Nat) (x0 x1 x2 : Value) (h : AH) : Option (Value × AH) :=
    G9_1 inv x0 x1 x2 h fun y6 h =>
    some (y6, h)
theorem F9_eq : eFun env k inv 9 #[x0, x1, x2] h = F9 inv k x0 x1 x2 h := by
      refine (kq_fun (a := act 17 [(0, x0), (1, x1), (2, x2)]) (c := cp c9 1)).trans ?_
      unfold F9
      simp only [kq_seq c9 1, r9_0, kq_seq c9 3, r9_1, kq_ret c9 7, res9_0, reduceIte, reduceCtorEq, XE.exit.injEq, Nat.reduceEqDiff, Nat.reduceMul, Nat.reduceAdd] <;> kernel_rfl
theorem F9_call : eInv env (k + 1) (.func 9) #[] #[x0, x1, x2] h = F9 (eInv env k) k x0 x1 x2 h := kq_inv F9_eq
noncomputable def c10 : Code := codeOf Try.prog 10
theorem r10_0  : kCode env 10 false inv k (cp c10 2) (act 36 [(0, x0), (1, x1)]) h K =
    K .normal (act 36 [(0, x0), (1, x1)]) h := kq_reg
theorem r10_1  : kCode env 10 false inv k (cp c10 12) (act 36 [(0, x0), (1, x1)]) h K =
    bnd (inv (.func 33) #[] #[x0] h) fun x11 =>
    K .normal (act 36 [(0, x0), (1, x1), (5, x11.1)]) x11.2 := kq_reg
theorem r10_2  : kCode env 10 false inv k (cp c10 26) (act 36 [(0, x0), (1, x1), (5, x5)]) h K =
    bnd (pBin Try.prog .neq 27 (.tmp 12) (.const (.int .i64 0)) x5 (.int .i64 0)) fun x13 =>
    K .normal (act 36 [(0, x0), (1, x1), (5, x5), (13, x13)]) h := kq_reg
theorem b10_rrlr  : kCode env 10 false inv k (cp c10 27) (act 36 [(0, x0), (1, x1), (5, x5), (13, x13)]) h K = brV x13 (kCode env 10 false inv k (cp c10 54) (act 36 [(0, x0), (1, x1), (5, x5), (13, x13)]) h K) (kCode env 10 false inv k (cp c10 55) (act 36 [(0, x0), (1, x1), (5, x5), (13, x13)]) h K) := kq_cond
theorem r10_3  : kCode env 10 false inv k (cp c10 108) (act 36 [(0, x0), (1, x1), (5, x5), (13, x13)]) h K =
    K .normal (act 36 [(4, x5)]) h := kq_reg
theorem res10_0 : resOfFn env.P 10 .ret (act 36 [(4, x4)]) h = some (x4, h) := kq_res
noncomputable abbrev G10_4 {β : Type} (inv : Inv) (x0 x1 : Value) (h : AH) (K : Value → AH → Option β) : Option β :=
    bnd (pLen Try.prog #[24] x1 h) fun x16 =>
    bnd (pBin Try.prog .lss 3 (.tmp 16) (.const (.int .i64 1)) x16 (.int .i64 1)) fun x17 =>
    bnd (gd (some x17) false h (some (x1, h))) fun x19 =>
    bnd (gd (some x17) false x19.2 (lt (pLen Try.prog #[24] x19.1 x19.2) x19.2)) fun x20 =>
    bnd (gd (some x17) false x20.2 (lt (pBin Try.prog .gtr 3 (.tmp 20) (.const (.int .i64 16)) x20.1 (.int .i64 16)) x20.2)) fun x21 =>
    bnd (pickV x17 (.bool true) x21.1) fun x22 =>
    K (x22) x21.2
theorem r10_4  : kCode env 10 false inv k (cp c10 28) (act 36 [(0, x0), (1, x1), (5, x5), (13, x13)]) h K =
    G10_4 inv x0 x1 h fun y22 h => K .normal (act 36 [(0, x0), (1, x1), (22, y22)]) h := kq_reg
theorem b10_rlrr  : kCode env 10 false inv k (cp c10 29) (act 36 [(0, x0), (1, x1), (22, x22)]) h K = brV x22 (kCode env 10 false inv k (cp c10 58) (act 36 [(0, x0), (1, x1), (22, x22)]) h K) (kCode env 10 false inv k (cp c10 59) (act 36 [(0, x0), (1, x1), (22, x22)]) h K) := kq_cond
theorem r10_5  : kCode env 10 false inv k (cp c10 116) (act 36 [(0, x0), (1, x1), (22, x22)]) h K =
    K .normal (act 36 [(4, (.int .i64 190))]) h := kq_reg
theorem r10_6  : kCode env 10 false inv k (cp c10 30) (act 36 [(0, x0), (1, x1), (22, x22)]) h K =
    bnd (pAlloc Try.prog 3 h) fun x6 =>
    bnd (kSt (pStore Try.prog 3 x6.1 (.int .i64 0) x6.2)) fun u =>
    K .normal (act 36 [(0, x0), (1, x1), (6, x6.1)]) u.2 := kq_reg
theorem r10_7  : kCode env 10 false inv k (cp c10 124) (act 36 [(0, x0), (1, x1), (6, x6)]) h K =
    bnd (pLen Try.prog #[24] x1 h) fun x24 =>
    K .normal (act 36 [(0, x0), (6, x6), (23, x1), (24, x24), (25, (.int .i64 0))]) h := kq_reg
theorem r10_8  : kCode env 10 false inv k (cp c10 1000) (act 36 [(0, x0), (6, x6), (23, x23), (24, x24), (25, x25)]) h K =
    bnd (pBin Try.prog .lss 3 (.tmp 25) (.tmp 24) x25 x24) fun x26 =>
    K .normal (act 36 [(0, x0), (6, x6), (23, x23), (24, x24), (25, x25), (26, x26)]) h := kq_reg
theorem b10_lrllrlrrrr  : kCode env 10 false inv k (cp c10 2002) (act 36 [(0, x0), (6, x6), (23, x23), (24, x24), (25, x25), (26, x26)]) h K = brV x26 (kCode env 10 false inv k (cp c10 4004) (act 36 [(0, x0), (6, x6), (23, x23), (24, x24), (25, x25), (26, x26)]) h K) (kCode env 10 false inv k (cp c10 4005) (act 36 [(0, x0), (6, x6), (23, x23), (24, x24), (25, x25), (26, x26)]) h K) := kq_cond
theorem r10_9  : kCode env 10 false inv k (cp c10 16024) (act 36 [(0, x0), (6, x6), (23, x23), (24, x24), (25, x25), (26, x26)]) h K =
    bnd (pIndexAddr Try.prog 24 x23 x25) fun x27 =>
    bnd (pLoad Try.prog 39 x27 h) fun x28 =>
    bnd (pAlloc Try.prog 39 h) fun x8 =>
    bnd (kSt (pStore Try.prog 39 x8.1 x28 x8.2)) fun u =>
    K .normal (act 36 [(0, x0), (6, x6), (8, x8.1), (23, x23), (24, x24), (25, x25)]) u.2 := kq_reg
theorem r10_10  : kCode env 10 false inv k (cp c10 32050) (act 36 [(0, x0), (6, x6), (8, x8), (23, x23), (24, x24), (25, x25)]) h K =
    bnd (pLoad Try.prog 39 x8 h) fun x30 =>
    bnd (inv (.func 34) #[] #[x0, x30, x6] h) fun x31 =>
    K .normal (act 36 [(0, x0), (6, x6), (9, x31.1), (23, x23), (24, x24), (25, x25)]) x31.2 := kq_reg
theorem r10_11  : kCode env 10 false inv k (cp c10 64102) (act 36 [(0, x0), (6, x6), (9, x9), (23, x23), (24, x24), (25, x25)]) h K =
    bnd (pBin Try.prog .neq 27 (.tmp 32) (.const (.int .i64 0)) x9 (.int .i64 0)) fun x33 =>
    K .normal (act 36 [(0, x0), (6, x6), (9, x9), (23, x23), (24, x24), (25, x25), (33, x33)]) h := kq_reg
theorem b10_rrrllrrllrlrrrr  : kCode env 10 false inv k (cp c10 64103) (act 36 [(0, x0), (6, x6), (9, x9), (23, x23), (24, x24), (25, x25), (33, x33)]) h K = brV x33 (kCode env 10 false inv k (cp c10 128206) (act 36 [(0, x0), (6, x6), (9, x9), (23, x23), (24, x24), (25, x25), (33, x33)]) h K) (kCode env 10 false inv k (cp c10 128207) (act 36 [(0, x0), (6, x6), (9, x9), (23, x23), (24, x24), (25, x25), (33, x33)]) h K) := kq_cond
theorem r10_12  : kCode env 10 false inv k (cp c10 256412) (act 36 [(0, x0), (6, x6), (9, x9), (23, x23), (24, x24), (25, x25), (33, x33)]) h K =
    K .normal (act 36 [(4, x9)]) h := kq_reg
theorem r10_13  : kCode env 10 false inv k (cp c10 4007) (act 36 [(0, x0), (6, x6), (9, x9), (23, x23), (24, x24), (25, x25), (33, x33)]) h K =
    bnd (pBin Try.prog .add 3 (.tmp 25) (.const (.int .i64 1)) x25 (.int .i64 1)) fun x35 =>
    K .normal (act 36 [(0, x0), (6, x6), (23, x23), (24, x24), (25, x35)]) h := kq_reg
noncomputable def F10_lrlrrrr {β : Type} (inv : Inv) (k : Nat) : Nat → Value → Value → Value → Value → Value → AH → (Value → Value → Value → Value → Value → Value → AH → Option β) → (Value → AH → Option β) → Option β
  | 0, _, _, _, _, _, _, _, _ => none
  | j + 1, x0, x6, x23, x24, x25, h, ke0, kr =>
    bnd (pBin Try.prog .lss 3 (.tmp 25) (.tmp 24) x25 x24) fun x26 =>
    brV x26
    (bnd (pIndexAddr Try.prog 24 x23 x25) fun x27 =>
    bnd (pLoad Try.prog 39 x27 h) fun x28 =>
    bnd (pAlloc Try.prog 39 h) fun x8 =>
    bnd (kSt (pStore Try.prog 39 x8.1 x28 x8.2)) fun u =>
    bnd (pLoad Try.prog 39 x8.1 u.2) fun x30 =>
    bnd (inv (.func 34) #[] #[x0, x30, x6] u.2) fun x31 =>
    bnd (pBin Try.prog .neq 27 (.tmp 32) (.const (.int .i64 0)) x31.1 (.int .i64 0)) fun x33 =>
    brV x33
    (kr x31.1 x31.2)
    (bnd (pBin Try.prog .add 3 (.tmp 25) (.const (.int .i64 1)) x25 (.int .i64 1)) fun x35 =>
    F10_lrlrrrr inv k j x0 x6 x23 x24 x35 x31.2 ke0 kr))
    (ke0 x0 x6 x23 x24 x25 x26 h)
theorem F10_lrlrrrr_j (j : Nat) : kLoop (kCode env 10 false inv k (cp c10 500)) j (act 36 [(0, x0), (6, x6), (23, x23), (24, x24), (25, x25)]) h K = F10_lrlrrrr inv k j x0 x6 x23 x24 x25 h (fun y0 y6 y23 y24 y25 y26 h => K (.exit 0) (act 36 [(0, y0), (6, y6), (23, y23), (24, y24), (25, y25), (26, y26)]) h) (fun y4 h => K .ret (act 36 [(4, y4)]) h) := by
      induction j generalizing x0 x6 x23 x24 x25 h with
      | zero => rfl
      | succ j ih =>
        unfold F10_lrlrrrr
        simp only [kLoop, kq_seq c10 500, r10_8, kq_seq c10 1001, b10_lrllrlrrrr, kq_skip c10 4004, kq_seq c10 2003, kq_block c10 4006 1, kq_seq c10 8012, r10_9, kq_seq c10 16025, r10_10, kq_seq c10 32051, r10_11, b10_rrrllrrllrlrrrr, kq_seq c10 128206, r10_12, kq_ret c10 256413, kq_skip c10 128207, r10_13, kq_exit c10 4005 0, ih, reduceIte, reduceCtorEq, XE.exit.injEq, Nat.reduceEqDiff, Nat.reduceMul, Nat.reduceAdd] <;> kernel_rfl
theorem F10_lrlrrrr_eq  : kCode env 10 false inv k (cp c10 250) (act 36 [(0, x0), (6, x6), (23, x23), (24, x24), (25, x25)]) h K = F10_lrlrrrr inv k k x0 x6 x23 x24 x25 h (fun y0 y6 y23 y24 y25 y26 h => K (.exit 0) (act 36 [(0, y0), (6, y6), (23, y23), (24, y24), (25, y25), (26, y26)]) h) (fun y4 h => K .ret (act 36 [(4, y4)]) h) := kq_loop (F10_lrlrrrr_j k)
theorem r10_14  : kCode env 10 false inv k (cp c10 126) (act 36 [(0, x0), (6, x6), (23, x23), (24, x24), (25, x25), (26, x26)]) h K =
    K .normal (act 36 [(4, (.int .i64 0))]) h := kq_reg
/-- shadowbook/batch.Check -/
noncomputable def F10 (inv : Inv) (k : Nat) (x0 x1 : Value) (h : AH) : Option (Value × AH) :=
    bnd (inv (.func 33) #[] #[x0] h) fun x11 =>
    bnd (pBin Try.prog .neq 27 (.tmp 12) (.const (.int .i64 0)) x11.1 (.int .i64 0)) fun x13 =>
    brV x13
    (some (x11.1, x11.2))
    (G10_4 inv x0 x1 x11.2 fun y22 h =>
    brV y22
    (some ((.int .i64 190), h))
    (bnd (pAlloc Try.prog 3 h) fun x6 =>
    bnd (kSt (pStore Try.prog 3 x6.1 (.int .i64 0) x6.2)) fun u =>
    bnd (pLen Try.prog #[24] x1 u.2) fun x24 =>
    F10_lrlrrrr inv k k x0 x6.1 x1 x24 (.int .i64 0) u.2
    (fun y0 y6 y23 y24 y25 y26 h_1 =>
    some ((.int .i64 0), h_1))
    (fun y4 h_2 =>
    some (y4, h_2))))
theorem F10_eq : eFun env k inv 10 #[x0, x1] h = F10 inv k x0 x1 h := by
      refine (kq_fun (a := act 36 [(0, x0), (1, x1)]) (c := cp c10 1)).trans ?_
      unfold F10
      simp only [kq_seq c10 1, r10_0, kq_seq c10 3, kq_seq c10 6, r10_1, kq_seq c10 13, r10_2, b10_rrlr, kq_seq c10 54, r10_3, kq_ret c10 109, res10_0, kq_skip c10 55, kq_seq c10 7, kq_seq c10 14, r10_4, b10_rlrr, kq_seq c10 58, r10_5, kq_ret c10 117, kq_skip c10 59, kq_seq c10 15, r10_6, kq_seq c10 31, kq_seq c10 62, r10_7, kq_block c10 125 0, F10_lrlrrrr_eq, kq_seq c10 63, r10_14, kq_ret c10 127, reduceIte, reduceCtorEq, XE.exit.injEq, Nat.reduceEqDiff, Nat.reduceMul, Nat.reduceAdd] <;> kernel_rfl
theorem F10_call : eInv env (k + 1) (.func 10) #[] #[x0, x1] h = F10 (eInv env k) k x0 x1 h := kq_inv F10_eq
noncomputable def c11 : Code := codeOf Try.prog 11
theorem r11_0  : kCode env 11 false inv k (cp c11 2) (act 19 [(0, x0), (1, x1)]) h K =
    K .normal (act 19 [(0, x0), (1, x1)]) h := kq_reg
theorem r11_1  : kCode env 11 false inv k (cp c11 12) (act 19 [(0, x0), (1, x1)]) h K =
    K .normal (act 19 [(0, x0), (1, x1), (5, (.int .i64 0))]) h := kq_reg
theorem r11_2  : kCode env 11 false inv k (cp c11 208) (act 19 [(0, x0), (1, x1), (5, x5)]) h K =
    bnd (pLen Try.prog #[23] x1 h) fun x8 =>
    bnd (pBin Try.prog .lss 3 (.tmp 6) (.tmp 8) x5 x8) fun x9 =>
    K .normal (act 19 [(0, x0), (1, x1), (5, x5), (9, x9)]) h := kq_reg
theorem b11_rlllrlr  : kCode env 11 false inv k (cp c11 209) (act 19 [(0, x0), (1, x1), (5, x5), (9, x9)]) h K = brV x9 (kCode env 11 false inv k (cp c11 418) (act 19 [(0, x0), (1, x1), (5, x5), (9, x9)]) h K) (kCode env 11 false inv k (cp c11 419) (act 19 [(0, x0), (1, x1), (5, x5), (9, x9)]) h K) := kq_cond
theorem r11_4  : kCode env 11 false inv k (cp c11 840) (act 19 [(0, x0), (1, x1), (5, x5), (9, x9)]) h K =
    bnd (pIndexAddr Try.prog 23 x1 x5) fun x15 =>
    bnd (pLoad Try.prog 37 x15 h) fun x16 =>
    bnd (inv (.func 35) #[] #[x0, x16] h) fun x17 =>
    bnd (pBin Try.prog .neq 27 (.tmp 17) (.const (.int .i64 0)) x17.1 (.int .i64 0)) fun x18 =>
    K .normal (act 19 [(0, x0), (1, x1), (5, x5), (18, x18)]) x17.2 := kq_reg
theorem b11_rllrllrlr  : kCode env 11 false inv k (cp c11 841) (act 19 [(0, x0), (1, x1), (5, x5), (18, x18)]) h K = brV x18 (kCode env 11 false inv k (cp c11 1682) (act 19 [(0, x0), (1, x1), (5, x5), (18, x18)]) h K) (kCode env 11 false inv k (cp c11 1683) (act 19 [(0, x0), (1, x1), (5, x5), (18, x18)]) h K) := kq_cond
theorem r11_5  : kCode env 11 false inv k (cp c11 3364) (act 19 [(0, x0), (1, x1), (5, x5), (18, x18)]) h K =
    K .normal (act 19 [(4, (.bool false))]) h := kq_reg
theorem r11_3  : kCode env 11 false inv k (cp c11 211) (act 19 [(0, x0), (1, x1), (5, x5), (18, x18)]) h K =
    bnd (pBin Try.prog .add 3 (.tmp 10) (.const (.int .i64 1)) x5 (.int .i64 1)) fun x11 =>
    K .normal (act 19 [(0, x0), (1, x1), (5, x11)]) h := kq_reg
noncomputable def F11_lrlr {β : Type} (inv : Inv) (k : Nat) : Nat → Value → Value → Value → AH → (Value → Value → Value → Value → AH → Option β) → (Value → AH → Option β) → Option β
  | 0, _, _, _, _, _, _ => none
  | j + 1, x0, x1, x5, h, ke0, kr =>
    bnd (pLen Try.prog #[23] x1 h) fun x8 =>
    bnd (pBin Try.prog .lss 3 (.tmp 6) (.tmp 8) x5 x8) fun x9 =>
    brV x9
    (bnd (pIndexAddr Try.prog 23 x1 x5) fun x15 =>
    bnd (pLoad Try.prog 37 x15 h) fun x16 =>
    bnd (inv (.func 35) #[] #[x0, x16] h) fun x17 =>
    bnd (pBin Try.prog .neq 27 (.tmp 17) (.const (.int .i64 0)) x17.1 (.int .i64 0)) fun x18 =>
    brV x18
    (kr (.bool false) x17.2)
    (bnd (pBin Try.prog .add 3 (.tmp 10) (.const (.int .i64 1)) x5 (.int .i64 1)) fun x11 =>
    F11_lrlr inv k j x0 x1 x11 x17.2 ke0 kr))
    (ke0 x0 x1 x5 x9 h)
theorem F11_lrlr_j (j : Nat) : kLoop (kCode env 11 false inv k (cp c11 52)) j (act 19 [(0, x0), (1, x1), (5, x5)]) h K = F11_lrlr inv k j x0 x1 x5 h (fun y0 y1 y5 y9 h => K (.exit 0) (act 19 [(0, y0), (1, y1), (5, y5), (9, y9)]) h) (fun y4 h => K .ret (act 19 [(4, y4)]) h) := by
      induction j generalizing x0 x1 x5 h with
      | zero => rfl
      | succ j ih =>
        unfold F11_lrlr
        simp only [kLoop, kq_seq c11 52, kq_seq c11 104, r11_2, b11_rlllrlr, kq_skip c11 418, kq_seq c11 105, kq_block c11 210 1, kq_seq c11 420, r11_4, b11_rllrllrlr, kq_seq c11 1682, r11_5, kq_ret c11 3365, kq_skip c11 1683, r11_3, kq_exit c11 419 0, ih, reduceIte, reduceCtorEq, XE.exit.injEq, Nat.reduceEqDiff, Nat.reduceMul, Nat.reduceAdd] <;> kernel_rfl
theorem F11_lrlr_eq  : kCode env 11 false inv k (cp c11 26) (act 19 [(0, x0), (1, x1), (5, x5)]) h K = F11_lrlr inv k k x0 x1 x5 h (fun y0 y1 y5 y9 h => K (.exit 0) (act 19 [(0, y0), (1, y1), (5, y5), (9, y9)]) h) (fun y4 h => K .ret (act 19 [(4, y4)]) h) := kq_loop (F11_lrlr_j k)
theorem r11_6  : kCode env 11 false inv k (cp c11 14) (act 19 [(0, x0), (1, x1), (5, x5), (9, x9)]) h K =
    K .normal (act 19 [(4, (.bool true))]) h := kq_reg
theorem res11_0 : resOfFn env.P 11 .ret (act 19 [(4, x4)]) h = some (x4, h) := kq_res
/-- shadowbook/shadowbooklaw19.fit -/
noncomputable def F11 (inv : Inv) (k : Nat) (x0 x1 : Value) (h : AH) : Option (Value × AH) :=
    F11_lrlr inv k k x0 x1 (.int .i64 0) h
    (fun y0 y1 y5 y9 h =>
    some ((.bool true), h))
    (fun y4 h_1 =>
    some (y4, h_1))
theorem F11_eq : eFun env k inv 11 #[x0, x1] h = F11 inv k x0 x1 h := by
      refine (kq_fun (a := act 19 [(0, x0), (1, x1)]) (c := cp c11 1)).trans ?_
      unfold F11
      simp only [kq_seq c11 1, r11_0, kq_seq c11 3, kq_seq c11 6, r11_1, kq_block c11 13 0, F11_lrlr_eq, kq_seq c11 7, r11_6, kq_ret c11 15, res11_0, reduceIte, reduceCtorEq, XE.exit.injEq, Nat.reduceEqDiff, Nat.reduceMul, Nat.reduceAdd] <;> kernel_rfl
theorem F11_call : eInv env (k + 1) (.func 11) #[] #[x0, x1] h = F11 (eInv env k) k x0 x1 h := kq_inv F11_eq
noncomputable def c12 : Code := codeOf Try.prog 12
theorem r12_0  : kCode env 12 false inv k (cp c12 2) (act 44 [(0, x0), (1, x1), (2, x2)]) h K =
    K .normal (act 44 [(0, x0), (1, x1), (2, x2), (7, (.int .i64 0))]) h := kq_reg
theorem r12_1  : kCode env 12 false inv k (cp c12 12) (act 44 [(0, x0), (1, x1), (2, x2), (7, x7)]) h K =
    bnd (inv (.func 10) #[] #[x0, x2] h) fun x16 =>
    K .normal (act 44 [(1, x1), (2, x2), (7, x7), (9, x16.1)]) x16.2 := kq_reg
theorem r12_2  : kCode env 12 false inv k (cp c12 26) (act 44 [(1, x1), (2, x2), (7, x7), (9, x9)]) h K =
    bnd (pBin Try.prog .neq 27 (.tmp 17) (.const (.int .i64 0)) x9 (.int .i64 0)) fun x18 =>
    K .normal (act 44 [(1, x1), (2, x2), (7, x7), (9, x9), (18, x18)]) h := kq_reg
theorem b12_rrlr  : kCode env 12 false inv k (cp c12 27) (act 44 [(1, x1), (2, x2), (7, x7), (9, x9), (18, x18)]) h K = brV x18 (kCode env 12 false inv k (cp c12 54) (act 44 [(1, x1), (2, x2), (7, x7), (9, x9), (18, x18)]) h K) (kCode env 12 false inv k (cp c12 55) (act 44 [(1, x1), (2, x2), (7, x7), (9, x9), (18, x18)]) h K) := kq_cond
theorem r12_3  : kCode env 12 false inv k (cp c12 108) (act 44 [(1, x1), (2, x2), (7, x7), (9, x9), (18, x18)]) h K =
    K .normal (act 44 [(6, (.slice none 0 0)), (7, (.int .i64 0)), (8, x9)]) h := kq_reg
theorem res12_0 : resOfFn env.P 12 .ret (act 44 [(6, x6), (7, x7), (8, x8)]) h = some (.tuple #[x6, x7, x8], h) := kq_res
theorem r12_4  : kCode env 12 false inv k (cp c12 14) (act 44 [(1, x1), (2, x2), (7, x7), (9, x9), (18, x18)]) h K =
    bnd (inv (.func 27) #[] #[x1] h) fun x21 =>
    K .normal (act 44 [(2, x2), (6, x21.1), (7, x7)]) x21.2 := kq_reg
theorem r12_5  : kCode env 12 false inv k (cp c12 60) (act 44 [(2, x2), (6, x6), (7, x7)]) h K =
    bnd (pLen Try.prog #[24] x2 h) fun x23 =>
    K .normal (act 44 [(6, x6), (7, x7), (22, x2), (23, x23), (24, (.int .i64 0))]) h := kq_reg
theorem r12_6  : kCode env 12 false inv k (cp c12 488) (act 44 [(6, x6), (7, x7), (22, x22), (23, x23), (24, x24)]) h K =
    bnd (pBin Try.prog .lss 3 (.tmp 24) (.tmp 23) x24 x23) fun x25 =>
    K .normal (act 44 [(6, x6), (7, x7), (22, x22), (23, x23), (24, x24), (25, x25)]) h := kq_reg
theorem b12_lrllrlrrr  : kCode env 12 false inv k (cp c12 978) (act 44 [(6, x6), (7, x7), (22, x22), (23, x23), (24, x24), (25, x25)]) h K = brV x25 (kCode env 12 false inv k (cp c12 1956) (act 44 [(6, x6), (7, x7), (22, x22), (23, x23), (24, x24), (25, x25)]) h K) (kCode env 12 false inv k (cp c12 1957) (act 44 [(6, x6), (7, x7), (22, x22), (23, x23), (24, x24), (25, x25)]) h K) := kq_cond
theorem r12_7  : kCode env 12 false inv k (cp c12 7832) (act 44 [(6, x6), (7, x7), (22, x22), (23, x23), (24, x24), (25, x25)]) h K =
    bnd (pIndexAddr Try.prog 24 x22 x24) fun x26 =>
    bnd (pLoad Try.prog 39 x26 h) fun x27 =>
    bnd (pAlloc Try.prog 39 h) fun x11 =>
    bnd (kSt (pStore Try.prog 39 x11.1 x27 x11.2)) fun u =>
    K .normal (act 44 [(6, x6), (7, x7), (11, x11.1), (22, x22), (23, x23), (24, x24)]) u.2 := kq_reg
theorem r12_8  : kCode env 12 false inv k (cp c12 15666) (act 44 [(6, x6), (7, x7), (11, x11), (22, x22), (23, x23), (24, x24)]) h K =
    bnd (pLoad Try.prog 39 x11 h) fun x30 =>
    bnd (inv (.func 16) #[] #[x6, x30] h) fun x31 =>
    bnd (pExtract x31.1 0) fun x32 =>
    bnd (pExtract x31.1 1) fun x33 =>
    K .normal (act 44 [(7, x7), (12, x32), (13, x33), (22, x22), (23, x23), (24, x24)]) x31.2 := kq_reg
theorem r12_9  : kCode env 12 false inv k (cp c12 62668) (act 44 [(7, x7), (12, x12), (13, x13), (22, x22), (23, x23), (24, x24)]) h K =
    bnd (pLen Try.prog #[23] x12 h) fun x35 =>
    bnd (pBin Try.prog .gtr 3 (.tmp 35) (.const (.int .i64 4096)) x35 (.int .i64 4096)) fun x36 =>
    K .normal (act 44 [(7, x7), (12, x12), (13, x13), (22, x22), (23, x23), (24, x24), (36, x36)]) h := kq_reg
theorem b12_rlrrllrrllrlrrr  : kCode env 12 false inv k (cp c12 62669) (act 44 [(7, x7), (12, x12), (13, x13), (22, x22), (23, x23), (24, x24), (36, x36)]) h K = brV x36 (kCode env 12 false inv k (cp c12 125338) (act 44 [(7, x7), (12, x12), (13, x13), (22, x22), (23, x23), (24, x24), (36, x36)]) h K) (kCode env 12 false inv k (cp c12 125339) (act 44 [(7, x7), (12, x12), (13, x13), (22, x22), (23, x23), (24, x24), (36, x36)]) h K) := kq_cond
theorem r12_10  : kCode env 12 false inv k (cp c12 250676) (act 44 [(7, x7), (12, x12), (13, x13), (22, x22), (23, x23), (24, x24), (36, x36)]) h K =
    K .normal (act 44 [(6, (.slice none 0 0)), (7, (.int .i64 0)), (8, (.int .i64 191))]) h := kq_reg
theorem r12_11  : kCode env 12 false inv k (cp c12 31335) (act 44 [(7, x7), (12, x12), (13, x13), (22, x22), (23, x23), (24, x24), (36, x36)]) h K =
    bnd (pBin Try.prog .add 3 (.tmp 38) (.tmp 39) x7 x13) fun x40 =>
    K .normal (act 44 [(6, x12), (7, x40), (22, x22), (23, x23), (24, x24)]) h := kq_reg
theorem r12_12  : kCode env 12 false inv k (cp c12 1959) (act 44 [(6, x6), (7, x7), (22, x22), (23, x23), (24, x24)]) h K =
    bnd (pBin Try.prog .add 3 (.tmp 24) (.const (.int .i64 1)) x24 (.int .i64 1)) fun x41 =>
    K .normal (act 44 [(6, x6), (7, x7), (22, x22), (23, x23), (24, x41)]) h := kq_reg
noncomputable def F12_lrlrrr {β : Type} (inv : Inv) (k : Nat) : Nat → Value → Value → Value → Value → Value → AH → (Value → Value → Value → Value → Value → Value → AH → Option β) → (Value → Value → Value → AH → Option β) → Option β
  | 0, _, _, _, _, _, _, _, _ => none
  | j + 1, x6, x7, x22, x23, x24, h, ke0, kr =>
    bnd (pBin Try.prog .lss 3 (.tmp 24) (.tmp 23) x24 x23) fun x25 =>
    brV x25
    (bnd (pIndexAddr Try.prog 24 x22 x24) fun x26 =>
    bnd (pLoad Try.prog 39 x26 h) fun x27 =>
    bnd (pAlloc Try.prog 39 h) fun x11 =>
    bnd (kSt (pStore Try.prog 39 x11.1 x27 x11.2)) fun u =>
    bnd (pLoad Try.prog 39 x11.1 u.2) fun x30 =>
    bnd (inv (.func 16) #[] #[x6, x30] u.2) fun x31 =>
    bnd (pExtract x31.1 0) fun x32 =>
    bnd (pExtract x31.1 1) fun x33 =>
    bnd (pLen Try.prog #[23] x32 x31.2) fun x35 =>
    bnd (pBin Try.prog .gtr 3 (.tmp 35) (.const (.int .i64 4096)) x35 (.int .i64 4096)) fun x36 =>
    brV x36
    (kr (.slice none 0 0) (.int .i64 0) (.int .i64 191) x31.2)
    (bnd (pBin Try.prog .add 3 (.tmp 38) (.tmp 39) x7 x33) fun x40 =>
    bnd (pBin Try.prog .add 3 (.tmp 24) (.const (.int .i64 1)) x24 (.int .i64 1)) fun x41 =>
    F12_lrlrrr inv k j x32 x40 x22 x23 x41 x31.2 ke0 kr))
    (ke0 x6 x7 x22 x23 x24 x25 h)
theorem F12_lrlrrr_j (j : Nat) : kLoop (kCode env 12 false inv k (cp c12 244)) j (act 44 [(6, x6), (7, x7), (22, x22), (23, x23), (24, x24)]) h K = F12_lrlrrr inv k j x6 x7 x22 x23 x24 h (fun y6 y7 y22 y23 y24 y25 h => K (.exit 0) (act 44 [(6, y6), (7, y7), (22, y22), (23, y23), (24, y24), (25, y25)]) h) (fun y6 y7 y8 h => K .ret (act 44 [(6, y6), (7, y7), (8, y8)]) h) := by
      induction j generalizing x6 x7 x22 x23 x24 h with
      | zero => rfl
      | succ j ih =>
        unfold F12_lrlrrr
        simp only [kLoop, kq_seq c12 244, r12_6, kq_seq c12 489, b12_lrllrlrrr, kq_skip c12 1956, kq_seq c12 979, kq_block c12 1958 1, kq_seq c12 3916, r12_7, kq_seq c12 7833, r12_8, kq_seq c12 15667, kq_seq c12 31334, r12_9, b12_rlrrllrrllrlrrr, kq_seq c12 125338, r12_10, kq_ret c12 250677, kq_skip c12 125339, r12_11, r12_12, kq_exit c12 1957 0, ih, reduceIte, reduceCtorEq, XE.exit.injEq, Nat.reduceEqDiff, Nat.reduceMul, Nat.reduceAdd] <;> kernel_rfl
theorem F12_lrlrrr_eq  : kCode env 12 false inv k (cp c12 122) (act 44 [(6, x6), (7, x7), (22, x22), (23, x23), (24, x24)]) h K = F12_lrlrrr inv k k x6 x7 x22 x23 x24 h (fun y6 y7 y22 y23 y24 y25 h => K (.exit 0) (act 44 [(6, y6), (7, y7), (22, y22), (23, y23), (24, y24), (25, y25)]) h) (fun y6 y7 y8 h => K .ret (act 44 [(6, y6), (7, y7), (8, y8)]) h) := kq_loop (F12_lrlrrr_j k)
theorem r12_13  : kCode env 12 false inv k (cp c12 62) (act 44 [(6, x6), (7, x7), (22, x22), (23, x23), (24, x24), (25, x25)]) h K =
    K .normal (act 44 [(6, x6), (7, x7), (8, (.int .i64 0))]) h := kq_reg
/-- shadowbook/batch.Do -/
noncomputable def F12 (inv : Inv) (k : Nat) (x0 x1 x2 : Value) (h : AH) : Option (Value × AH) :=
    bnd (inv (.func 10) #[] #[x0, x2] h) fun x16 =>
    bnd (pBin Try.prog .neq 27 (.tmp 17) (.const (.int .i64 0)) x16.1 (.int .i64 0)) fun x18 =>
    brV x18
    (some (.tuple #[(.slice none 0 0), (.int .i64 0), x16.1], x16.2))
    (bnd (inv (.func 27) #[] #[x1] x16.2) fun x21 =>
    bnd (pLen Try.prog #[24] x2 x21.2) fun x23 =>
    F12_lrlrrr inv k k x21.1 (.int .i64 0) x2 x23 (.int .i64 0) x21.2
    (fun y6 y7 y22 y23 y24 y25 h =>
    some (.tuple #[y6, y7, (.int .i64 0)], h))
    (fun y6_1 y7_2 y8 h_3 =>
    some (.tuple #[y6_1, y7_2, y8], h_3)))
theorem F12_eq : eFun env k inv 12 #[x0, x1, x2] h = F12 inv k x0 x1 x2 h := by
      refine (kq_fun (a := act 44 [(0, x0), (1, x1), (2, x2)]) (c := cp c12 1)).trans ?_
      unfold F12
      simp only [kq_seq c12 1, r12_0, kq_seq c12 3, kq_seq c12 6, r12_1, kq_seq c12 13, r12_2, b12_rrlr, kq_seq c12 54, r12_3, kq_ret c12 109, res12_0, kq_skip c12 55, kq_seq c12 7, r12_4, kq_seq c12 15, kq_seq c12 30, r12_5, kq_block c12 61 0, F12_lrlrrr_eq, kq_seq c12 31, r12_13, kq_ret c12 63, reduceIte, reduceCtorEq, XE.exit.injEq, Nat.reduceEqDiff, Nat.reduceMul, Nat.reduceAdd] <;> kernel_rfl
theorem F12_call : eInv env (k + 1) (.func 12) #[] #[x0, x1, x2] h = F12 (eInv env k) k x0 x1 x2 h := kq_inv F12_eq
noncomputable def c16 : Code := codeOf Try.prog 16
theorem r16_0  : kCode env 16 false inv k (cp c16 2) (act 59 [(0, x0), (1, x1)]) h K =
    bnd (pBox Try.prog 39 x1 h) fun x3 =>
    K .normal (act 59 [(0, x0), (3, x3.1), (5, (.int .i64 0))]) x3.2 := kq_reg
theorem r16_1  : kCode env 16 false inv k (cp c16 6) (act 59 [(0, x0), (3, x3), (5, x5)]) h K =
    bnd (inv (.func 27) #[] #[x0] h) fun x9 =>
    K .normal (act 59 [(3, x3), (4, x9.1), (5, x5)]) x9.2 := kq_reg
theorem r16_2  : kCode env 16 false inv k (cp c16 28) (act 59 [(3, x3), (4, x4), (5, x5)]) h K =
    bnd (pFieldAddr Try.prog 39 x3 0) fun x10 =>
    bnd (pLoad Try.prog 3 x10 h) fun x11 =>
    K .normal (act 59 [(3, x3), (4, x4), (5, x5), (11, x11)]) h := kq_reg
theorem r16_3  : kCode env 16 false inv k (cp c16 116) (act 59 [(3, x3), (4, x4), (5, x5), (11, x11)]) h K =
    bnd (pBin Try.prog .eql 3 (.tmp 11) (.const (.int .i64 1)) x11 (.int .i64 1)) fun x13 =>
    K .normal (act 59 [(3, x3), (4, x4), (5, x5), (11, x11), (12, x13)]) h := kq_reg
theorem b16_rlrlrr  : kCode env 16 false inv k (cp c16 117) (act 59 [(3, x3), (4, x4), (5, x5), (11, x11), (12, x12)]) h K = brV x12 (kCode env 16 false inv k (cp c16 234) (act 59 [(3, x3), (4, x4), (5, x5), (11, x11), (12, x12)]) h K) (kCode env 16 false inv k (cp c16 235) (act 59 [(3, x3), (4, x4), (5, x5), (11, x11), (12, x12)]) h K) := kq_cond
noncomputable abbrev G16_4 {β : Type} (inv : Inv) (x3 x4 : Value) (h : AH) (K : Value → Value → AH → Option β) : Option β :=
    bnd (pFieldAddr Try.prog 39 x3 1) fun x15 =>
    bnd (pLoad Try.prog 23 x15 h) fun x16 =>
    bnd (inv (.func 27) #[] #[x16] h) fun x17 =>
    bnd (pAppend Try.prog #[23, 23] x4 x17.1 x17.2) fun x18 =>
    bnd (pFieldAddr Try.prog 39 x3 1) fun x19 =>
    bnd (pLoad Try.prog 23 x19 x18.2) fun x20 =>
    bnd (pLen Try.prog #[23] x20 x18.2) fun x21 =>
    chkK ((!true || !true || (sameO (pLoad Try.prog 23 x19 h) x20 && sameO (pLoad Try.prog 23 x19 x17.2) x20)) && ((!true || !true || (sameO (pLoad Try.prog 23 x19 x17.2) x20 && sameO (pLoad Try.prog 23 x19 x18.2) x20)) && ((!true || !true || (sameO (pLen Try.prog #[23] x20 h) x21 && sameO (pLen Try.prog #[23] x20 x17.2) x21)) && ((!true || !true || (sameO (pLen Try.prog #[23] x20 x17.2) x21 && sameO (pLen Try.prog #[23] x20 x18.2) x21)) && true)))) <|
    K (x18.1) (x21) x18.2
theorem r16_4  : kCode env 16 false inv k (cp c16 468) (act 59 [(3, x3), (4, x4), (5, x5), (11, x11), (12, x12)]) h K =
    G16_4 inv x3 x4 h fun y4 y5 h => K .normal (act 59 [(4, y4), (5, y5)]) h := kq_draw
theorem r16_5  : kCode env 16 false inv k (cp c16 470) (act 59 [(3, x3), (4, x4), (5, x5), (11, x11), (12, x12)]) h K =
    bnd (pBin Try.prog .eql 3 (.tmp 11) (.const (.int .i64 2)) x11 (.int .i64 2)) fun x23 =>
    K .normal (act 59 [(3, x3), (4, x4), (5, x5), (11, x11), (22, x23)]) h := kq_reg
theorem b16_rrrlrlrr  : kCode env 16 false inv k (cp c16 471) (act 59 [(3, x3), (4, x4), (5, x5), (11, x11), (22, x22)]) h K = brV x22 (kCode env 16 false inv k (cp c16 942) (act 59 [(3, x3), (4, x4), (5, x5), (11, x11), (22, x22)]) h K) (kCode env 16 false inv k (cp c16 943) (act 59 [(3, x3), (4, x4), (5, x5), (11, x11), (22, x22)]) h K) := kq_cond
theorem r16_6  : kCode env 16 false inv k (cp c16 1884) (act 59 [(3, x3), (4, x4), (5, x5), (11, x11), (22, x22)]) h K =
    bnd (pLen Try.prog #[23] x4 h) fun x25 =>
    K .normal (act 59 [(3, x3), (4, x4), (6, x25)]) h := kq_reg
theorem r16_7  : kCode env 16 false inv k (cp c16 3770) (act 59 [(3, x3), (4, x4), (6, x6)]) h K =
    bnd (pMakeFunc (.func 37) #[] #[x3]) fun x27 =>
    bnd (inv (.func 36) #[] #[x4, x27] h) fun x28 =>
    K .normal (act 59 [(4, x28.1), (6, x6)]) x28.2 := kq_reg
theorem r16_8  : kCode env 16 false inv k (cp c16 7542) (act 59 [(4, x4), (6, x6)]) h K =
    bnd (pLen Try.prog #[23] x4 h) fun x32 =>
    bnd (pBin Try.prog .sub 3 (.tmp 30) (.tmp 32) x6 x32) fun x33 =>
    K .normal (act 59 [(4, x4), (5, x33)]) h := kq_reg
theorem r16_9  : kCode env 16 false inv k (cp c16 1886) (act 59 [(3, x3), (4, x4), (5, x5), (11, x11), (22, x22)]) h K =
    bnd (pBin Try.prog .eql 3 (.tmp 11) (.const (.int .i64 3)) x11 (.int .i64 3)) fun x35 =>
    K .normal (act 59 [(3, x3), (4, x4), (5, x5), (34, x35)]) h := kq_reg
theorem b16_rrrrrlrlrr  : kCode env 16 false inv k (cp c16 1887) (act 59 [(3, x3), (4, x4), (5, x5), (34, x34)]) h K = brV x34 (kCode env 16 false inv k (cp c16 3774) (act 59 [(3, x3), (4, x4), (5, x5), (34, x34)]) h K) (kCode env 16 false inv k (cp c16 3775) (act 59 [(3, x3), (4, x4), (5, x5), (34, x34)]) h K) := kq_cond
theorem r16_10  : kCode env 16 false inv k (cp c16 7548) (act 59 [(3, x3), (4, x4), (5, x5), (34, x34)]) h K =
    bnd (pLen Try.prog #[23] x4 h) fun x37 =>
    K .normal (act 59 [(3, x3), (4, x4), (5, x5), (37, x37), (38, (.int .i64 0))]) h := kq_reg
theorem r16_11  : kCode env 16 false inv k (cp c16 60392) (act 59 [(3, x3), (4, x4), (5, x5), (37, x37), (38, x38)]) h K =
    bnd (pBin Try.prog .lss 3 (.tmp 38) (.tmp 37) x38 x37) fun x39 =>
    K .normal (act 59 [(3, x3), (4, x4), (5, x5), (37, x37), (38, x38), (39, x39)]) h := kq_reg
theorem b16_lrllrlrrrrrlrlrr  : kCode env 16 false inv k (cp c16 120786) (act 59 [(3, x3), (4, x4), (5, x5), (37, x37), (38, x38), (39, x39)]) h K = brV x39 (kCode env 16 false inv k (cp c16 241572) (act 59 [(3, x3), (4, x4), (5, x5), (37, x37), (38, x38), (39, x39)]) h K) (kCode env 16 false inv k (cp c16 241573) (act 59 [(3, x3), (4, x4), (5, x5), (37, x37), (38, x38), (39, x39)]) h K) := kq_cond
theorem r16_12  : kCode env 16 false inv k (cp c16 966296) (act 59 [(3, x3), (4, x4), (5, x5), (37, x37), (38, x38), (39, x39)]) h K =
    K .normal (act 59 [(3, x3), (4, x4), (5, x5), (7, x38), (37, x37), (38, x38)]) h := kq_reg
theorem r16_13  : kCode env 16 false inv k (cp c16 1932594) (act 59 [(3, x3), (4, x4), (5, x5), (7, x7), (37, x37), (38, x38)]) h K =
    bnd (pFieldAddr Try.prog 39 x3 2) fun x41 =>
    bnd (pLoad Try.prog 35 x41 h) fun x42 =>
    bnd (pIndexAddr Try.prog 23 x4 x7) fun x45 =>
    bnd (pLoad Try.prog 37 x45 h) fun x46 =>
    bnd (inv (.func 38) #[] #[x42, x46] h) fun x47 =>
    K .normal (act 59 [(3, x3), (4, x4), (5, x5), (7, x7), (37, x37), (38, x38), (47, x47.1)]) x47.2 := kq_draw
theorem b16_rrllrrllrlrrrrrlrlrr  : kCode env 16 false inv k (cp c16 1932595) (act 59 [(3, x3), (4, x4), (5, x5), (7, x7), (37, x37), (38, x38), (47, x47)]) h K = brV x47 (kCode env 16 false inv k (cp c16 3865190) (act 59 [(3, x3), (4, x4), (5, x5), (7, x7), (37, x37), (38, x38), (47, x47)]) h K) (kCode env 16 false inv k (cp c16 3865191) (act 59 [(3, x3), (4, x4), (5, x5), (7, x7), (37, x37), (38, x38), (47, x47)]) h K) := kq_cond
theorem r16_14  : kCode env 16 false inv k (cp c16 7730380) (act 59 [(3, x3), (4, x4), (5, x5), (7, x7), (37, x37), (38, x38), (47, x47)]) h K =
    bnd (pIndexAddr Try.prog 23 x4 x7) fun x50 =>
    bnd (pLoad Try.prog 37 x50 h) fun x51 =>
    bnd (pLoad Try.prog 39 x3 h) fun x52 =>
    bnd (inv (.func 39) #[] #[x51, x52] h) fun x53 =>
    K .normal (act 59 [(3, x3), (4, x4), (5, x5), (37, x37), (38, x38)]) x53.2 := kq_draw
theorem r16_15  : kCode env 16 false inv k (cp c16 7730381) (act 59 [(3, x3), (4, x4), (5, x5), (37, x37), (38, x38)]) h K =
    bnd (pBin Try.prog .add 3 (.tmp 54) (.const (.int .i64 1)) x5 (.int .i64 1)) fun x55 =>
    K .normal (act 59 [(3, x3), (4, x4), (5, x55), (37, x37), (38, x38)]) h := kq_reg
noncomputable def F16_lrrllrlrrrrrlrlrr {β : Type} (inv : Inv) (k : Nat) (x3 x4 x5 x37 x38 x39 : Value) (h : AH) (kn : (Value → Value → Value → Value → Value → Value → Value → AH → Option β)) : Option β :=
    bnd (pFieldAddr Try.prog 39 x3 2) fun x41 =>
    bnd (pLoad Try.prog 35 x41 h) fun x42 =>
    bnd (pIndexAddr Try.prog 23 x4 x38) fun x45 =>
    bnd (pLoad Try.prog 37 x45 h) fun x46 =>
    bnd (inv (.func 38) #[] #[x42, x46] h) fun x47 =>
    brV x47.1
    (bnd (pIndexAddr Try.prog 23 x4 x38) fun x50 =>
    bnd (pLoad Try.prog 37 x50 x47.2) fun x51 =>
    bnd (pLoad Try.prog 39 x3 x47.2) fun x52 =>
    bnd (inv (.func 39) #[] #[x51, x52] x47.2) fun x53 =>
    bnd (pBin Try.prog .add 3 (.tmp 54) (.const (.int .i64 1)) x5 (.int .i64 1)) fun x55 =>
    kn x3 x4 x55 unk x37 x38 unk x53.2)
    (kn x3 x4 x5 x38 x37 x38 x47.1 x47.2)
theorem F16_lrrllrlrrrrrlrlrr_eq  : kCode env 16 false inv k (cp c16 241574) (act 59 [(3, x3), (4, x4), (5, x5), (37, x37), (38, x38), (39, x39)]) h K = F16_lrrllrlrrrrrlrlrr inv k x3 x4 x5 x37 x38 x39 h (fun y3 y4 y5 y7 y37 y38 y47 h => K .normal (act 59 [(3, y3), (4, y4), (5, y5), (7, y7), (37, y37), (38, y38), (47, y47)]) h) := by
      unfold F16_lrrllrlrrrrrlrlrr
      simp only [kq_block c16 241574 2, kq_seq c16 483148, r16_12, kq_seq c16 966297, r16_13, b16_rrllrrllrlrrrrrlrlrr, kq_seq c16 3865190, r16_14, r16_15, kq_skip c16 3865191, reduceIte, reduceCtorEq, XE.exit.injEq, Nat.reduceEqDiff, Nat.reduceMul, Nat.reduceAdd] <;> kernel_rfl
theorem r16_16  : kCode env 16 false inv k (cp c16 241575) (act 59 [(3, x3), (4, x4), (5, x5), (7, x7), (37, x37), (38, x38), (47, x47)]) h K =
    bnd (pBin Try.prog .add 3 (.tmp 38) (.const (.int .i64 1)) x38 (.int .i64 1)) fun x56 =>
    K .normal (act 59 [(3, x3), (4, x4), (5, x5), (37, x37), (38, x56)]) h := kq_reg
noncomputable def F16_lrlrrrrrlrlrr {β : Type} (inv : Inv) (k : Nat) : Nat → Value → Value → Value → Value → Value → AH → (Value → Value → Value → Value → Value → Value → AH → Option β) → Option β
  | 0, _, _, _, _, _, _, _ => none
  | j + 1, x3, x4, x5, x37, x38, h, ke1 =>
    bnd (pBin Try.prog .lss 3 (.tmp 38) (.tmp 37) x38 x37) fun x39 =>
    brV x39
    (F16_lrrllrlrrrrrlrlrr inv k x3 x4 x5 x37 x38 x39 h
    (fun y3 y4 y5 y7 y37 y38 y47 h =>
    bnd (pBin Try.prog .add 3 (.tmp 38) (.const (.int .i64 1)) y38 (.int .i64 1)) fun x56 =>
    F16_lrlrrrrrlrlrr inv k j y3 y4 y5 y37 x56 h ke1))
    (ke1 x3 x4 x5 x37 x38 x39 h)
theorem F16_lrlrrrrrlrlrr_j (j : Nat) : kLoop (kCode env 16 false inv k (cp c16 30196)) j (act 59 [(3, x3), (4, x4), (5, x5), (37, x37), (38, x38)]) h K = F16_lrlrrrrrlrlrr inv k j x3 x4 x5 x37 x38 h (fun y3 y4 y5 y37 y38 y39 h => K (.exit 1) (act 59 [(3, y3), (4, y4), (5, y5), (37, y37), (38, y38), (39, y39)]) h) := by
      induction j generalizing x3 x4 x5 x37 x38 h with
      | zero => rfl
      | succ j ih =>
        unfold F16_lrlrrrrrlrlrr
        simp only [kLoop, kq_seq c16 30196, r16_11, kq_seq c16 60393, b16_lrllrlrrrrrlrlrr, kq_skip c16 241572, kq_seq c16 120787, F16_lrrllrlrrrrrlrlrr_eq, r16_16, kq_exit c16 241573 1, ih, reduceIte, reduceCtorEq, XE.exit.injEq, Nat.reduceEqDiff, Nat.reduceMul, Nat.reduceAdd] <;> kernel_rfl
theorem F16_lrlrrrrrlrlrr_eq  : kCode env 16 false inv k (cp c16 15098) (act 59 [(3, x3), (4, x4), (5, x5), (37, x37), (38, x38)]) h K = F16_lrlrrrrrlrlrr inv k k x3 x4 x5 x37 x38 h (fun y3 y4 y5 y37 y38 y39 h => K (.exit 1) (act 59 [(3, y3), (4, y4), (5, y5), (37, y37), (38, y38), (39, y39)]) h) := kq_loop (F16_lrlrrrrrlrlrr_j k)
noncomputable def F16_rlrr {β : Type} (inv : Inv) (k : Nat) (x3 x4 x5 x11 : Value) (h : AH) (kn : (Value → Value → Value → Value → Value → Value → Value → AH → Option β)) (kr : (Value → Value → AH → Option β)) : Option β :=
    bnd (pBin Try.prog .eql 3 (.tmp 11) (.const (.int .i64 1)) x11 (.int .i64 1)) fun x13 =>
    brV x13
    (G16_4 inv x3 x4 h fun y4 y5 h =>
    kr y4 y5 h)
    (bnd (pBin Try.prog .eql 3 (.tmp 11) (.const (.int .i64 2)) x11 (.int .i64 2)) fun x23 =>
    brV x23
    (bnd (pLen Try.prog #[23] x4 h) fun x25 =>
    bnd (pMakeFunc (.func 37) #[] #[x3]) fun x27 =>
    bnd (inv (.func 36) #[] #[x4, x27] h) fun x28 =>
    bnd (pLen Try.prog #[23] x28.1 x28.2) fun x32 =>
    bnd (pBin Try.prog .sub 3 (.tmp 30) (.tmp 32) x25 x32) fun x33 =>
    kr x28.1 x33 x28.2)
    (bnd (pBin Try.prog .eql 3 (.tmp 11) (.const (.int .i64 3)) x11 (.int .i64 3)) fun x35 =>
    brV x35
    (bnd (pLen Try.prog #[23] x4 h) fun x37 =>
    F16_lrlrrrrrlrlrr inv k k x3 x4 x5 x37 (.int .i64 0) h
    (fun y3 y4_1 y5_2 y37 y38 y39 h_3 =>
    kn y3 y4_1 y5_2 unk y37 y38 y39 h_3))
    (kn x3 x4 x5 x35 unk unk unk h)))
theorem F16_rlrr_eq  : kCode env 16 false inv k (cp c16 29) (act 59 [(3, x3), (4, x4), (5, x5), (11, x11)]) h K = F16_rlrr inv k x3 x4 x5 x11 h (fun y3 y4 y5 y34 y37 y38 y39 h => K .normal (act 59 [(3, y3), (4, y4), (5, y5), (34, y34), (37, y37), (38, y38), (39, y39)]) h) (fun y4 y5 h => K .ret (act 59 [(4, y4), (5, y5)]) h) := by
      unfold F16_rlrr
      simp only [kq_block c16 29 0, kq_seq c16 58, r16_3, b16_rlrlrr, kq_seq c16 234, r16_4, kq_ret c16 469, kq_seq c16 235, r16_5, b16_rrrlrlrr, kq_seq c16 942, r16_6, kq_seq c16 1885, r16_7, kq_seq c16 3771, r16_8, kq_ret c16 7543, kq_seq c16 943, r16_9, b16_rrrrrlrlrr, kq_seq c16 3774, r16_10, kq_block c16 7549 1, F16_lrlrrrrrlrlrr_eq, kq_skip c16 3775, reduceIte, reduceCtorEq, XE.exit.injEq, Nat.reduceEqDiff, Nat.reduceMul, Nat.reduceAdd] <;> kernel_rfl
theorem r16_17  : kCode env 16 false inv k (cp c16 30) (act 59 [(3, x3), (4, x4), (5, x5), (34, x34), (37, x37), (38, x38), (39, x39)]) h K =
    K .normal (act 59 [(4, x4), (5, x5)]) h := kq_reg
theorem res16_0 : resOfFn env.P 16 .ret (act 59 [(4, x4), (5, x5)]) h = some (.tuple #[x4, x5], h) := kq_res
/-- shadowbook/batch.One -/
noncomputable def F16 (inv : Inv) (k : Nat) (x0 x1 : Value) (h : AH) : Option (Value × AH) :=
    bnd (pBox Try.prog 39 x1 h) fun x3 =>
    bnd (inv (.func 27) #[] #[x0] x3.2) fun x9 =>
    bnd (pFieldAddr Try.prog 39 x3.1 0) fun x10 =>
    bnd (pLoad Try.prog 3 x10 x9.2) fun x11 =>
    F16_rlrr inv k x3.1 x9.1 (.int .i64 0) x11 x9.2
    (fun y3 y4 y5 y34 y37 y38 y39 h =>
    some (.tuple #[y4, y5], h))
    (fun y4_4 y5_5 h_6 =>
    some (.tuple #[y4_4, y5_5], h_6))
theorem F16_eq : eFun env k inv 16 #[x0, x1] h = F16 inv k x0 x1 h := by
      refine (kq_fun (a := act 59 [(0, x0), (1, x1)]) (c := cp c16 1)).trans ?_
      unfold F16
      simp only [kq_seq c16 1, r16_0, kq_seq c16 3, r16_1, kq_seq c16 7, kq_seq c16 14, r16_2, F16_rlrr_eq, kq_seq c16 15, r16_17, kq_ret c16 31, res16_0, reduceIte, reduceCtorEq, XE.exit.injEq, Nat.reduceEqDiff, Nat.reduceMul, Nat.reduceAdd] <;> kernel_rfl
theorem F16_call : eInv env (k + 1) (.func 16) #[] #[x0, x1] h = F16 (eInv env k) k x0 x1 h := kq_inv F16_eq
noncomputable def c20 : Code := codeOf Try.prog 20
theorem r20_0  : kCode env 20 false inv k (cp c20 2) (act 8 [(0, x0), (1, x1)]) h K =
    K .normal (act 8 [(0, x0), (1, x1)]) h := kq_reg
theorem r20_1  : kCode env 20 false inv k (cp c20 6) (act 8 [(0, x0), (1, x1)]) h K =
    bnd (inv (.func 45) #[] #[x0, x1, (.func (.func 46) #[] #[])] h) fun x7 =>
    K .normal (act 8 [(4, x7.1)]) x7.2 := kq_reg
theorem res20_0 : resOfFn env.P 20 .ret (act 8 [(4, x4)]) h = some (x4, h) := kq_res
/-- shadowbook/batch.Same -/
noncomputable def F20 (inv : Inv) (k : Nat) (x0 x1 : Value) (h : AH) : Option (Value × AH) :=
    bnd (inv (.func 45) #[] #[x0, x1, (.func (.func 46) #[] #[])] h) fun x7 =>
    some (x7.1, x7.2)
theorem F20_eq : eFun env k inv 20 #[x0, x1] h = F20 inv k x0 x1 h := by
      refine (kq_fun (a := act 8 [(0, x0), (1, x1)]) (c := cp c20 1)).trans ?_
      unfold F20
      simp only [kq_seq c20 1, r20_0, kq_seq c20 3, r20_1, kq_ret c20 7, res20_0, reduceIte, reduceCtorEq, XE.exit.injEq, Nat.reduceEqDiff, Nat.reduceMul, Nat.reduceAdd] <;> kernel_rfl
theorem F20_call : eInv env (k + 1) (.func 20) #[] #[x0, x1] h = F20 (eInv env k) k x0 x1 h := kq_inv F20_eq
noncomputable def c27 : Code := codeOf Try.prog 27
theorem r27_0  : kCode env 27 false inv k (cp c27 2) (act 19 [(0, x0)]) h K =
    K .normal (act 19 [(0, x0)]) h := kq_reg
theorem r27_1  : kCode env 27 false inv k (cp c27 6) (act 19 [(0, x0)]) h K =
    K .normal (act 19 [(0, x0), (3, (.slice none 0 0))]) h := kq_reg
theorem r27_2  : kCode env 27 false inv k (cp c27 28) (act 19 [(0, x0), (3, x3)]) h K =
    bnd (pLen Try.prog #[23] x0 h) fun x7 =>
    K .normal (act 19 [(3, x3), (6, x0), (7, x7), (8, (.int .i64 0))]) h := kq_reg
theorem r27_3  : kCode env 27 false inv k (cp c27 232) (act 19 [(3, x3), (6, x6), (7, x7), (8, x8)]) h K =
    bnd (pBin Try.prog .lss 3 (.tmp 8) (.tmp 7) x8 x7) fun x9 =>
    K .normal (act 19 [(3, x3), (6, x6), (7, x7), (8, x8), (9, x9)]) h := kq_reg
theorem b27_lrllrlrr  : kCode env 27 false inv k (cp c27 466) (act 19 [(3, x3), (6, x6), (7, x7), (8, x8), (9, x9)]) h K = brV x9 (kCode env 27 false inv k (cp c27 932) (act 19 [(3, x3), (6, x6), (7, x7), (8, x8), (9, x9)]) h K) (kCode env 27 false inv k (cp c27 933) (act 19 [(3, x3), (6, x6), (7, x7), (8, x8), (9, x9)]) h K) := kq_cond
theorem r27_4  : kCode env 27 false inv k (cp c27 3736) (act 19 [(3, x3), (6, x6), (7, x7), (8, x8), (9, x9)]) h K =
    bnd (pIndexAddr Try.prog 23 x6 x8) fun x10 =>
    bnd (pLoad Try.prog 37 x10 h) fun x11 =>
    K .normal (act 19 [(3, x3), (5, x11), (6, x6), (7, x7), (8, x8)]) h := kq_reg
theorem r27_5  : kCode env 27 false inv k (cp c27 3737) (act 19 [(3, x3), (5, x5), (6, x6), (7, x7), (8, x8)]) h K =
    bnd (inv (.func 49) #[] #[x5] h) fun x14 =>
    bnd (pBuildSlice Try.prog 23 1 #[(0, x14.1)] x14.2) fun x15 =>
    bnd (pAppend Try.prog #[23, 23] x3 x15.1 x15.2) fun x16 =>
    K .normal (act 19 [(3, x16.1), (6, x6), (7, x7), (8, x8)]) x16.2 := kq_reg
theorem r27_6  : kCode env 27 false inv k (cp c27 935) (act 19 [(3, x3), (6, x6), (7, x7), (8, x8)]) h K =
    bnd (pBin Try.prog .add 3 (.tmp 8) (.const (.int .i64 1)) x8 (.int .i64 1)) fun x17 =>
    K .normal (act 19 [(3, x3), (6, x6), (7, x7), (8, x17)]) h := kq_reg
noncomputable def F27_lrlrr {β : Type} (inv : Inv) (k : Nat) : Nat → Value → Value → Value → Value → AH → (Value → Value → Value → Value → Value → AH → Option β) → Option β
  | 0, _, _, _, _, _, _ => none
  | j + 1, x3, x6, x7, x8, h, ke0 =>
    bnd (pBin Try.prog .lss 3 (.tmp 8) (.tmp 7) x8 x7) fun x9 =>
    brV x9
    (bnd (pIndexAddr Try.prog 23 x6 x8) fun x10 =>
    bnd (pLoad Try.prog 37 x10 h) fun x11 =>
    bnd (inv (.func 49) #[] #[x11] h) fun x14 =>
    bnd (pBuildSlice Try.prog 23 1 #[(0, x14.1)] x14.2) fun x15 =>
    bnd (pAppend Try.prog #[23, 23] x3 x15.1 x15.2) fun x16 =>
    bnd (pBin Try.prog .add 3 (.tmp 8) (.const (.int .i64 1)) x8 (.int .i64 1)) fun x17 =>
    F27_lrlrr inv k j x16.1 x6 x7 x17 x16.2 ke0)
    (ke0 x3 x6 x7 x8 x9 h)
theorem F27_lrlrr_j (j : Nat) : kLoop (kCode env 27 false inv k (cp c27 116)) j (act 19 [(3, x3), (6, x6), (7, x7), (8, x8)]) h K = F27_lrlrr inv k j x3 x6 x7 x8 h (fun y3 y6 y7 y8 y9 h => K (.exit 0) (act 19 [(3, y3), (6, y6), (7, y7), (8, y8), (9, y9)]) h) := by
      induction j generalizing x3 x6 x7 x8 h with
      | zero => rfl
      | succ j ih =>
        unfold F27_lrlrr
        simp only [kLoop, kq_seq c27 116, r27_3, kq_seq c27 233, b27_lrllrlrr, kq_skip c27 932, kq_seq c27 467, kq_block c27 934 1, kq_seq c27 1868, r27_4, r27_5, r27_6, kq_exit c27 933 0, ih, reduceIte, reduceCtorEq, XE.exit.injEq, Nat.reduceEqDiff, Nat.reduceMul, Nat.reduceAdd] <;> kernel_rfl
theorem F27_lrlrr_eq  : kCode env 27 false inv k (cp c27 58) (act 19 [(3, x3), (6, x6), (7, x7), (8, x8)]) h K = F27_lrlrr inv k k x3 x6 x7 x8 h (fun y3 y6 y7 y8 y9 h => K (.exit 0) (act 19 [(3, y3), (6, y6), (7, y7), (8, y8), (9, y9)]) h) := kq_loop (F27_lrlrr_j k)
theorem r27_7  : kCode env 27 false inv k (cp c27 30) (act 19 [(3, x3), (6, x6), (7, x7), (8, x8), (9, x9)]) h K =
    K .normal (act 19 [(2, x3)]) h := kq_reg
theorem res27_0 : resOfFn env.P 27 .ret (act 19 [(2, x2)]) h = some (x2, h) := kq_res
/-- shadowbook/batch.Copy -/
noncomputable def F27 (inv : Inv) (k : Nat) (x0 : Value) (h : AH) : Option (Value × AH) :=
    bnd (pLen Try.prog #[23] x0 h) fun x7 =>
    F27_lrlrr inv k k (.slice none 0 0) x0 x7 (.int .i64 0) h
    (fun y3 y6 y7 y8 y9 h =>
    some (y3, h))
theorem F27_eq : eFun env k inv 27 #[x0] h = F27 inv k x0 h := by
      refine (kq_fun (a := act 19 [(0, x0)]) (c := cp c27 1)).trans ?_
      unfold F27
      simp only [kq_seq c27 1, r27_0, kq_seq c27 3, r27_1, kq_seq c27 7, kq_seq c27 14, r27_2, kq_block c27 29 0, F27_lrlrr_eq, kq_seq c27 15, r27_7, kq_ret c27 31, res27_0, reduceIte, reduceCtorEq, XE.exit.injEq, Nat.reduceEqDiff, Nat.reduceMul, Nat.reduceAdd] <;> kernel_rfl
theorem F27_call : eInv env (k + 1) (.func 27) #[] #[x0] h = F27 (eInv env k) k x0 h := kq_inv F27_eq
noncomputable def c29 : Code := codeOf Try.prog 29
theorem r29_0  : kCode env 29 false inv k (cp c29 2) (act 22 [(0, x0)]) h K =
    K .normal (act 22 [(0, x0)]) h := kq_reg
theorem r29_1  : kCode env 29 false inv k (cp c29 6) (act 22 [(0, x0)]) h K =
    K .normal (act 22 [(0, x0), (3, (.int .i64 0))]) h := kq_reg
theorem r29_2  : kCode env 29 false inv k (cp c29 28) (act 22 [(0, x0), (3, x3)]) h K =
    bnd (pLen Try.prog #[24] x0 h) fun x7 =>
    K .normal (act 22 [(3, x3), (6, x0), (7, x7), (8, (.int .i64 0))]) h := kq_reg
theorem r29_3  : kCode env 29 false inv k (cp c29 232) (act 22 [(3, x3), (6, x6), (7, x7), (8, x8)]) h K =
    bnd (pBin Try.prog .lss 3 (.tmp 8) (.tmp 7) x8 x7) fun x9 =>
    K .normal (act 22 [(3, x3), (6, x6), (7, x7), (8, x8), (9, x9)]) h := kq_reg
theorem b29_lrllrlrr  : kCode env 29 false inv k (cp c29 466) (act 22 [(3, x3), (6, x6), (7, x7), (8, x8), (9, x9)]) h K = brV x9 (kCode env 29 false inv k (cp c29 932) (act 22 [(3, x3), (6, x6), (7, x7), (8, x8), (9, x9)]) h K) (kCode env 29 false inv k (cp c29 933) (act 22 [(3, x3), (6, x6), (7, x7), (8, x8), (9, x9)]) h K) := kq_cond
theorem r29_4  : kCode env 29 false inv k (cp c29 3736) (act 22 [(3, x3), (6, x6), (7, x7), (8, x8), (9, x9)]) h K =
    bnd (pIndexAddr Try.prog 24 x6 x8) fun x10 =>
    bnd (pLoad Try.prog 39 x10 h) fun x11 =>
    bnd (pAlloc Try.prog 39 h) fun x5 =>
    bnd (kSt (pStore Try.prog 39 x5.1 x11 x5.2)) fun u =>
    K .normal (act 22 [(3, x3), (5, x5.1), (6, x6), (7, x7), (8, x8)]) u.2 := kq_reg
theorem r29_5  : kCode env 29 false inv k (cp c29 7474) (act 22 [(3, x3), (5, x5), (6, x6), (7, x7), (8, x8)]) h K =
    bnd (pFieldAddr Try.prog 39 x5 0) fun x12 =>
    bnd (pLoad Try.prog 3 x12 h) fun x13 =>
    bnd (pBin Try.prog .eql 3 (.tmp 13) (.const (.int .i64 1)) x13 (.int .i64 1)) fun x14 =>
    K .normal (act 22 [(3, x3), (5, x5), (6, x6), (7, x7), (8, x8), (14, x14)]) h := kq_reg
theorem b29_rrllrrllrlrr  : kCode env 29 false inv k (cp c29 7475) (act 22 [(3, x3), (5, x5), (6, x6), (7, x7), (8, x8), (14, x14)]) h K = brV x14 (kCode env 29 false inv k (cp c29 14950) (act 22 [(3, x3), (5, x5), (6, x6), (7, x7), (8, x8), (14, x14)]) h K) (kCode env 29 false inv k (cp c29 14951) (act 22 [(3, x3), (5, x5), (6, x6), (7, x7), (8, x8), (14, x14)]) h K) := kq_cond
theorem r29_6  : kCode env 29 false inv k (cp c29 14950) (act 22 [(3, x3), (5, x5), (6, x6), (7, x7), (8, x8), (14, x14)]) h K =
    bnd (pFieldAddr Try.prog 39 x5 1) fun x16 =>
    bnd (pLoad Try.prog 23 x16 h) fun x17 =>
    bnd (pLen Try.prog #[23] x17 h) fun x18 =>
    bnd (pBin Try.prog .add 3 (.tmp 15) (.tmp 18) x3 x18) fun x19 =>
    K .normal (act 22 [(3, x19), (6, x6), (7, x7), (8, x8)]) h := kq_reg
noncomputable def F29_lrrllrlrr {β : Type} (inv : Inv) (k : Nat) (x3 x6 x7 x8 x9 : Value) (h : AH) (kn : (Value → Value → Value → Value → Value → Value → AH → Option β)) : Option β :=
    bnd (pIndexAddr Try.prog 24 x6 x8) fun x10 =>
    bnd (pLoad Try.prog 39 x10 h) fun x11 =>
    bnd (pAlloc Try.prog 39 h) fun x5 =>
    bnd (kSt (pStore Try.prog 39 x5.1 x11 x5.2)) fun u =>
    bnd (pFieldAddr Try.prog 39 x5.1 0) fun x12 =>
    bnd (pLoad Try.prog 3 x12 u.2) fun x13 =>
    bnd (pBin Try.prog .eql 3 (.tmp 13) (.const (.int .i64 1)) x13 (.int .i64 1)) fun x14 =>
    brV x14
    (bnd (pFieldAddr Try.prog 39 x5.1 1) fun x16 =>
    bnd (pLoad Try.prog 23 x16 u.2) fun x17 =>
    bnd (pLen Try.prog #[23] x17 u.2) fun x18 =>
    bnd (pBin Try.prog .add 3 (.tmp 15) (.tmp 18) x3 x18) fun x19 =>
    kn x19 unk x6 x7 x8 unk u.2)
    (kn x3 x5.1 x6 x7 x8 x14 u.2)
theorem F29_lrrllrlrr_eq  : kCode env 29 false inv k (cp c29 934) (act 22 [(3, x3), (6, x6), (7, x7), (8, x8), (9, x9)]) h K = F29_lrrllrlrr inv k x3 x6 x7 x8 x9 h (fun y3 y5 y6 y7 y8 y14 h => K .normal (act 22 [(3, y3), (5, y5), (6, y6), (7, y7), (8, y8), (14, y14)]) h) := by
      unfold F29_lrrllrlrr
      simp only [kq_block c29 934 1, kq_seq c29 1868, r29_4, kq_seq c29 3737, r29_5, b29_rrllrrllrlrr, r29_6, kq_skip c29 14951, reduceIte, reduceCtorEq, XE.exit.injEq, Nat.reduceEqDiff, Nat.reduceMul, Nat.reduceAdd] <;> kernel_rfl
theorem r29_7  : kCode env 29 false inv k (cp c29 935) (act 22 [(3, x3), (5, x5), (6, x6), (7, x7), (8, x8), (14, x14)]) h K =
    bnd (pBin Try.prog .add 3 (.tmp 8) (.const (.int .i64 1)) x8 (.int .i64 1)) fun x20 =>
    K .normal (act 22 [(3, x3), (6, x6), (7, x7), (8, x20)]) h := kq_reg
noncomputable def F29_lrlrr {β : Type} (inv : Inv) (k : Nat) : Nat → Value → Value → Value → Value → AH → (Value → Value → Value → Value → Value → AH → Option β) → Option β
  | 0, _, _, _, _, _, _ => none
  | j + 1, x3, x6, x7, x8, h, ke0 =>
    bnd (pBin Try.prog .lss 3 (.tmp 8) (.tmp 7) x8 x7) fun x9 =>
    brV x9
    (F29_lrrllrlrr inv k x3 x6 x7 x8 x9 h
    (fun y3 y5 y6 y7 y8 y14 h =>
    bnd (pBin Try.prog .add 3 (.tmp 8) (.const (.int .i64 1)) y8 (.int .i64 1)) fun x20 =>
    F29_lrlrr inv k j y3 y6 y7 x20 h ke0))
    (ke0 x3 x6 x7 x8 x9 h)
theorem F29_lrlrr_j (j : Nat) : kLoop (kCode env 29 false inv k (cp c29 116)) j (act 22 [(3, x3), (6, x6), (7, x7), (8, x8)]) h K = F29_lrlrr inv k j x3 x6 x7 x8 h (fun y3 y6 y7 y8 y9 h => K (.exit 0) (act 22 [(3, y3), (6, y6), (7, y7), (8, y8), (9, y9)]) h) := by
      induction j generalizing x3 x6 x7 x8 h with
      | zero => rfl
      | succ j ih =>
        unfold F29_lrlrr
        simp only [kLoop, kq_seq c29 116, r29_3, kq_seq c29 233, b29_lrllrlrr, kq_skip c29 932, kq_seq c29 467, F29_lrrllrlrr_eq, r29_7, kq_exit c29 933 0, ih, reduceIte, reduceCtorEq, XE.exit.injEq, Nat.reduceEqDiff, Nat.reduceMul, Nat.reduceAdd] <;> kernel_rfl
theorem F29_lrlrr_eq  : kCode env 29 false inv k (cp c29 58) (act 22 [(3, x3), (6, x6), (7, x7), (8, x8)]) h K = F29_lrlrr inv k k x3 x6 x7 x8 h (fun y3 y6 y7 y8 y9 h => K (.exit 0) (act 22 [(3, y3), (6, y6), (7, y7), (8, y8), (9, y9)]) h) := kq_loop (F29_lrlrr_j k)
theorem r29_8  : kCode env 29 false inv k (cp c29 30) (act 22 [(3, x3), (6, x6), (7, x7), (8, x8), (9, x9)]) h K =
    K .normal (act 22 [(2, x3)]) h := kq_reg
theorem res29_0 : resOfFn env.P 29 .ret (act 22 [(2, x2)]) h = some (x2, h) := kq_res
/-- shadowbook/batch.Grows -/
noncomputable def F29 (inv : Inv) (k : Nat) (x0 : Value) (h : AH) : Option (Value × AH) :=
    bnd (pLen Try.prog #[24] x0 h) fun x7 =>
    F29_lrlrr inv k k (.int .i64 0) x0 x7 (.int .i64 0) h
    (fun y3 y6 y7 y8 y9 h =>
    some (y3, h))
theorem F29_eq : eFun env k inv 29 #[x0] h = F29 inv k x0 h := by
      refine (kq_fun (a := act 22 [(0, x0)]) (c := cp c29 1)).trans ?_
      unfold F29
      simp only [kq_seq c29 1, r29_0, kq_seq c29 3, r29_1, kq_seq c29 7, kq_seq c29 14, r29_2, kq_block c29 29 0, F29_lrlrr_eq, kq_seq c29 15, r29_8, kq_ret c29 31, res29_0, reduceIte, reduceCtorEq, XE.exit.injEq, Nat.reduceEqDiff, Nat.reduceMul, Nat.reduceAdd] <;> kernel_rfl
theorem F29_call : eInv env (k + 1) (.func 29) #[] #[x0] h = F29 (eInv env k) k x0 h := kq_inv F29_eq
noncomputable def c30 : Code := codeOf Try.prog 30
theorem r30_0  : kCode env 30 false inv k (cp c30 2) (act 20 [(0, x0)]) h K =
    K .normal (act 20 [(0, x0)]) h := kq_reg
theorem r30_1  : kCode env 30 false inv k (cp c30 12) (act 20 [(0, x0)]) h K =
    K .normal (act 20 [(0, x0), (3, (.int .i64 0))]) h := kq_reg
theorem r30_2  : kCode env 30 false inv k (cp c30 208) (act 20 [(0, x0), (3, x3)]) h K =
    bnd (pLen Try.prog #[22] x0 h) fun x6 =>
    bnd (pBin Try.prog .lss 3 (.tmp 4) (.tmp 6) x3 x6) fun x7 =>
    K .normal (act 20 [(0, x0), (3, x3), (7, x7)]) h := kq_reg
theorem b30_rlllrlr  : kCode env 30 false inv k (cp c30 209) (act 20 [(0, x0), (3, x3), (7, x7)]) h K = brV x7 (kCode env 30 false inv k (cp c30 418) (act 20 [(0, x0), (3, x3), (7, x7)]) h K) (kCode env 30 false inv k (cp c30 419) (act 20 [(0, x0), (3, x3), (7, x7)]) h K) := kq_cond
theorem r30_4  : kCode env 30 false inv k (cp c30 840) (act 20 [(0, x0), (3, x3), (7, x7)]) h K =
    bnd (pIndexAddr Try.prog 22 x0 x3) fun x12 =>
    bnd (pFieldAddr Try.prog 80 x12 0) fun x13 =>
    bnd (pLoad Try.prog 9 x13 h) fun x14 =>
    bnd (pLen Try.prog #[9] x14 h) fun x15 =>
    bnd (pBin Try.prog .gtr 3 (.tmp 15) (.const (.int .i64 60)) x15 (.int .i64 60)) fun x16 =>
    K .normal (act 20 [(0, x0), (3, x3), (16, x16)]) h := kq_reg
theorem b30_rllrllrlr  : kCode env 30 false inv k (cp c30 841) (act 20 [(0, x0), (3, x3), (16, x16)]) h K = brV x16 (kCode env 30 false inv k (cp c30 1682) (act 20 [(0, x0), (3, x3), (16, x16)]) h K) (kCode env 30 false inv k (cp c30 1683) (act 20 [(0, x0), (3, x3), (16, x16)]) h K) := kq_cond
theorem r30_5  : kCode env 30 false inv k (cp c30 3364) (act 20 [(0, x0), (3, x3), (16, x16)]) h K =
    K .normal (act 20 [(2, (.bool false))]) h := kq_reg
theorem r30_3  : kCode env 30 false inv k (cp c30 211) (act 20 [(0, x0), (3, x3), (16, x16)]) h K =
    bnd (pBin Try.prog .add 3 (.tmp 8) (.const (.int .i64 1)) x3 (.int .i64 1)) fun x9 =>
    K .normal (act 20 [(0, x0), (3, x9)]) h := kq_reg
noncomputable def F30_lrlr {β : Type} (inv : Inv) (k : Nat) : Nat → Value → Value → AH → (Value → Value → Value → AH → Option β) → (Value → AH → Option β) → Option β
  | 0, _, _, _, _, _ => none
  | j + 1, x0, x3, h, ke0, kr =>
    bnd (pLen Try.prog #[22] x0 h) fun x6 =>
    bnd (pBin Try.prog .lss 3 (.tmp 4) (.tmp 6) x3 x6) fun x7 =>
    brV x7
    (bnd (pIndexAddr Try.prog 22 x0 x3) fun x12 =>
    bnd (pFieldAddr Try.prog 80 x12 0) fun x13 =>
    bnd (pLoad Try.prog 9 x13 h) fun x14 =>
    bnd (pLen Try.prog #[9] x14 h) fun x15 =>
    bnd (pBin Try.prog .gtr 3 (.tmp 15) (.const (.int .i64 60)) x15 (.int .i64 60)) fun x16 =>
    brV x16
    (kr (.bool false) h)
    (bnd (pBin Try.prog .add 3 (.tmp 8) (.const (.int .i64 1)) x3 (.int .i64 1)) fun x9 =>
    F30_lrlr inv k j x0 x9 h ke0 kr))
    (ke0 x0 x3 x7 h)
theorem F30_lrlr_j (j : Nat) : kLoop (kCode env 30 false inv k (cp c30 52)) j (act 20 [(0, x0), (3, x3)]) h K = F30_lrlr inv k j x0 x3 h (fun y0 y3 y7 h => K (.exit 0) (act 20 [(0, y0), (3, y3), (7, y7)]) h) (fun y2 h => K .ret (act 20 [(2, y2)]) h) := by
      induction j generalizing x0 x3 h with
      | zero => rfl
      | succ j ih =>
        unfold F30_lrlr
        simp only [kLoop, kq_seq c30 52, kq_seq c30 104, r30_2, b30_rlllrlr, kq_skip c30 418, kq_seq c30 105, kq_block c30 210 1, kq_seq c30 420, r30_4, b30_rllrllrlr, kq_seq c30 1682, r30_5, kq_ret c30 3365, kq_skip c30 1683, r30_3, kq_exit c30 419 0, ih, reduceIte, reduceCtorEq, XE.exit.injEq, Nat.reduceEqDiff, Nat.reduceMul, Nat.reduceAdd] <;> kernel_rfl
theorem F30_lrlr_eq  : kCode env 30 false inv k (cp c30 26) (act 20 [(0, x0), (3, x3)]) h K = F30_lrlr inv k k x0 x3 h (fun y0 y3 y7 h => K (.exit 0) (act 20 [(0, y0), (3, y3), (7, y7)]) h) (fun y2 h => K .ret (act 20 [(2, y2)]) h) := kq_loop (F30_lrlr_j k)
theorem r30_6  : kCode env 30 false inv k (cp c30 14) (act 20 [(0, x0), (3, x3), (7, x7)]) h K =
    bnd (pLen Try.prog #[22] x0 h) fun x18 =>
    bnd (pBin Try.prog .leq 3 (.tmp 18) (.const (.int .i64 20)) x18 (.int .i64 20)) fun x19 =>
    K .normal (act 20 [(2, x19)]) h := kq_reg
theorem res30_0 : resOfFn env.P 30 .ret (act 20 [(2, x2)]) h = some (x2, h) := kq_res
/-- shadowbook/shadowbookkit.LightCols -/
noncomputable def F30 (inv : Inv) (k : Nat) (x0 : Value) (h : AH) : Option (Value × AH) :=
    F30_lrlr inv k k x0 (.int .i64 0) h
    (fun y0 y3 y7 h =>
    bnd (pLen Try.prog #[22] y0 h) fun x18 =>
    bnd (pBin Try.prog .leq 3 (.tmp 18) (.const (.int .i64 20)) x18 (.int .i64 20)) fun x19 =>
    some (x19, h))
    (fun y2 h_1 =>
    some (y2, h_1))
theorem F30_eq : eFun env k inv 30 #[x0] h = F30 inv k x0 h := by
      refine (kq_fun (a := act 20 [(0, x0)]) (c := cp c30 1)).trans ?_
      unfold F30
      simp only [kq_seq c30 1, r30_0, kq_seq c30 3, kq_seq c30 6, r30_1, kq_block c30 13 0, F30_lrlr_eq, kq_seq c30 7, r30_6, kq_ret c30 15, res30_0, reduceIte, reduceCtorEq, XE.exit.injEq, Nat.reduceEqDiff, Nat.reduceMul, Nat.reduceAdd] <;> kernel_rfl
theorem F30_call : eInv env (k + 1) (.func 30) #[] #[x0] h = F30 (eInv env k) k x0 h := kq_inv F30_eq
noncomputable def c31 : Code := codeOf Try.prog 31
theorem r31_0  : kCode env 31 false inv k (cp c31 2) (act 22 [(0, x0), (1, x1)]) h K =
    K .normal (act 22 [(0, x0), (1, x1)]) h := kq_reg
theorem r31_1  : kCode env 31 false inv k (cp c31 12) (act 22 [(0, x0), (1, x1)]) h K =
    K .normal (act 22 [(0, x0), (1, x1), (5, (.int .i64 0))]) h := kq_reg
theorem r31_2  : kCode env 31 false inv k (cp c31 208) (act 22 [(0, x0), (1, x1), (5, x5)]) h K =
    bnd (pLen Try.prog #[23] x0 h) fun x8 =>
    bnd (pBin Try.prog .lss 3 (.tmp 6) (.tmp 8) x5 x8) fun x9 =>
    K .normal (act 22 [(0, x0), (1, x1), (5, x5), (9, x9)]) h := kq_reg
theorem b31_rlllrlr  : kCode env 31 false inv k (cp c31 209) (act 22 [(0, x0), (1, x1), (5, x5), (9, x9)]) h K = brV x9 (kCode env 31 false inv k (cp c31 418) (act 22 [(0, x0), (1, x1), (5, x5), (9, x9)]) h K) (kCode env 31 false inv k (cp c31 419) (act 22 [(0, x0), (1, x1), (5, x5), (9, x9)]) h K) := kq_cond
theorem r31_4  : kCode env 31 false inv k (cp c31 840) (act 22 [(0, x0), (1, x1), (5, x5), (9, x9)]) h K =
    bnd (pIndexAddr Try.prog 23 x0 x5) fun x14 =>
    bnd (pLoad Try.prog 37 x14 h) fun x15 =>
    bnd (inv (.func 50) #[] #[x15] h) fun x16 =>
    bnd (pUn Try.prog .not x16.1) fun x17 =>
    K .normal (act 22 [(0, x0), (1, x1), (5, x5), (17, x17)]) x16.2 := kq_reg
theorem b31_rllrllrlr  : kCode env 31 false inv k (cp c31 841) (act 22 [(0, x0), (1, x1), (5, x5), (17, x17)]) h K = brV x17 (kCode env 31 false inv k (cp c31 1682) (act 22 [(0, x0), (1, x1), (5, x5), (17, x17)]) h K) (kCode env 31 false inv k (cp c31 1683) (act 22 [(0, x0), (1, x1), (5, x5), (17, x17)]) h K) := kq_cond
theorem r31_5  : kCode env 31 false inv k (cp c31 3364) (act 22 [(0, x0), (1, x1), (5, x5), (17, x17)]) h K =
    K .normal (act 22 [(4, (.bool false))]) h := kq_reg
theorem r31_3  : kCode env 31 false inv k (cp c31 211) (act 22 [(0, x0), (1, x1), (5, x5), (17, x17)]) h K =
    bnd (pBin Try.prog .add 3 (.tmp 10) (.const (.int .i64 1)) x5 (.int .i64 1)) fun x11 =>
    K .normal (act 22 [(0, x0), (1, x1), (5, x11)]) h := kq_reg
noncomputable def F31_lrlr {β : Type} (inv : Inv) (k : Nat) : Nat → Value → Value → Value → AH → (Value → Value → Value → Value → AH → Option β) → (Value → AH → Option β) → Option β
  | 0, _, _, _, _, _, _ => none
  | j + 1, x0, x1, x5, h, ke0, kr =>
    bnd (pLen Try.prog #[23] x0 h) fun x8 =>
    bnd (pBin Try.prog .lss 3 (.tmp 6) (.tmp 8) x5 x8) fun x9 =>
    brV x9
    (bnd (pIndexAddr Try.prog 23 x0 x5) fun x14 =>
    bnd (pLoad Try.prog 37 x14 h) fun x15 =>
    bnd (inv (.func 50) #[] #[x15] h) fun x16 =>
    bnd (pUn Try.prog .not x16.1) fun x17 =>
    brV x17
    (kr (.bool false) x16.2)
    (bnd (pBin Try.prog .add 3 (.tmp 10) (.const (.int .i64 1)) x5 (.int .i64 1)) fun x11 =>
    F31_lrlr inv k j x0 x1 x11 x16.2 ke0 kr))
    (ke0 x0 x1 x5 x9 h)
theorem F31_lrlr_j (j : Nat) : kLoop (kCode env 31 false inv k (cp c31 52)) j (act 22 [(0, x0), (1, x1), (5, x5)]) h K = F31_lrlr inv k j x0 x1 x5 h (fun y0 y1 y5 y9 h => K (.exit 0) (act 22 [(0, y0), (1, y1), (5, y5), (9, y9)]) h) (fun y4 h => K .ret (act 22 [(4, y4)]) h) := by
      induction j generalizing x0 x1 x5 h with
      | zero => rfl
      | succ j ih =>
        unfold F31_lrlr
        simp only [kLoop, kq_seq c31 52, kq_seq c31 104, r31_2, b31_rlllrlr, kq_skip c31 418, kq_seq c31 105, kq_block c31 210 1, kq_seq c31 420, r31_4, b31_rllrllrlr, kq_seq c31 1682, r31_5, kq_ret c31 3365, kq_skip c31 1683, r31_3, kq_exit c31 419 0, ih, reduceIte, reduceCtorEq, XE.exit.injEq, Nat.reduceEqDiff, Nat.reduceMul, Nat.reduceAdd] <;> kernel_rfl
theorem F31_lrlr_eq  : kCode env 31 false inv k (cp c31 26) (act 22 [(0, x0), (1, x1), (5, x5)]) h K = F31_lrlr inv k k x0 x1 x5 h (fun y0 y1 y5 y9 h => K (.exit 0) (act 22 [(0, y0), (1, y1), (5, y5), (9, y9)]) h) (fun y4 h => K .ret (act 22 [(4, y4)]) h) := kq_loop (F31_lrlr_j k)
theorem r31_6  : kCode env 31 false inv k (cp c31 14) (act 22 [(0, x0), (1, x1), (5, x5), (9, x9)]) h K =
    bnd (pLen Try.prog #[23] x0 h) fun x19 =>
    bnd (pBin Try.prog .leq 3 (.tmp 19) (.tmp 20) x19 x1) fun x21 =>
    K .normal (act 22 [(4, x21)]) h := kq_reg
theorem res31_0 : resOfFn env.P 31 .ret (act 22 [(4, x4)]) h = some (x4, h) := kq_res
/-- shadowbook/shadowbookkit.LightRows -/
noncomputable def F31 (inv : Inv) (k : Nat) (x0 x1 : Value) (h : AH) : Option (Value × AH) :=
    F31_lrlr inv k k x0 x1 (.int .i64 0) h
    (fun y0 y1 y5 y9 h =>
    bnd (pLen Try.prog #[23] y0 h) fun x19 =>
    bnd (pBin Try.prog .leq 3 (.tmp 19) (.tmp 20) x19 y1) fun x21 =>
    some (x21, h))
    (fun y4 h_1 =>
    some (y4, h_1))
theorem F31_eq : eFun env k inv 31 #[x0, x1] h = F31 inv k x0 x1 h := by
      refine (kq_fun (a := act 22 [(0, x0), (1, x1)]) (c := cp c31 1)).trans ?_
      unfold F31
      simp only [kq_seq c31 1, r31_0, kq_seq c31 3, kq_seq c31 6, r31_1, kq_block c31 13 0, F31_lrlr_eq, kq_seq c31 7, r31_6, kq_ret c31 15, res31_0, reduceIte, reduceCtorEq, XE.exit.injEq, Nat.reduceEqDiff, Nat.reduceMul, Nat.reduceAdd] <;> kernel_rfl
theorem F31_call : eInv env (k + 1) (.func 31) #[] #[x0, x1] h = F31 (eInv env k) k x0 x1 h := kq_inv F31_eq
noncomputable def c32 : Code := codeOf Try.prog 32
theorem r32_0  : kCode env 32 false inv k (cp c32 2) (act 50 [(0, x0), (1, x1)]) h K =
    K .normal (act 50 [(0, x0), (1, x1)]) h := kq_reg
theorem r32_1  : kCode env 32 false inv k (cp c32 12) (act 50 [(0, x0), (1, x1)]) h K =
    K .normal (act 50 [(0, x0), (1, x1), (5, (.int .i64 0))]) h := kq_reg
theorem r32_2  : kCode env 32 false inv k (cp c32 208) (act 50 [(0, x0), (1, x1), (5, x5)]) h K =
    bnd (pLen Try.prog #[24] x0 h) fun x8 =>
    bnd (pBin Try.prog .lss 3 (.tmp 6) (.tmp 8) x5 x8) fun x9 =>
    K .normal (act 50 [(0, x0), (1, x1), (5, x5), (9, x9)]) h := kq_reg
theorem b32_rlllrlr  : kCode env 32 false inv k (cp c32 209) (act 50 [(0, x0), (1, x1), (5, x5), (9, x9)]) h K = brV x9 (kCode env 32 false inv k (cp c32 418) (act 50 [(0, x0), (1, x1), (5, x5), (9, x9)]) h K) (kCode env 32 false inv k (cp c32 419) (act 50 [(0, x0), (1, x1), (5, x5), (9, x9)]) h K) := kq_cond
noncomputable abbrev G32_4 {β : Type} (inv : Inv) (x0 x1 x5 : Value) (h : AH) (K : Value → AH → Option β) : Option β :=
    bnd (pIndexAddr Try.prog 24 x0 x5) fun x14 =>
    bnd (pFieldAddr Try.prog 39 x14 1) fun x15 =>
    bnd (pLoad Try.prog 23 x15 h) fun x16 =>
    bnd (inv (.func 31) #[] #[x16, x1] h) fun x18 =>
    bnd (pUn Try.prog .not x18.1) fun x19 =>
    bnd (gd (some x19) false x18.2 (some (x0, x18.2))) fun x21 =>
    bnd (gd (some x19) false x21.2 (some (x5, x21.2))) fun x22 =>
    bnd (gd (some x19) false x22.2 (lt (pIndexAddr Try.prog 24 x21.1 x22.1) x22.2)) fun x23 =>
    bnd (gd (some x19) false x23.2 (lt (pFieldAddr Try.prog 39 x23.1 2) x23.2)) fun x24 =>
    bnd (gd (some x19) false x24.2 (lt (pLoad Try.prog 35 x24.1 x24.2) x24.2)) fun x25 =>
    bnd (gd (some x19) false x25.2 (inv (.func 51) #[] #[x25.1] x25.2)) fun x26 =>
    bnd (gd (some x19) false x26.2 (lt (pUn Try.prog .not x26.1) x26.2)) fun x27 =>
    bnd (pickV x19 (.bool true) x27.1) fun x28 =>
    bnd (gd (some x28) false x27.2 (some (x0, x27.2))) fun x30 =>
    bnd (gd (some x28) false x30.2 (some (x5, x30.2))) fun x31 =>
    bnd (gd (some x28) false x31.2 (lt (pIndexAddr Try.prog 24 x30.1 x31.1) x31.2)) fun x32 =>
    bnd (gd (some x28) false x32.2 (lt (pFieldAddr Try.prog 39 x32.1 3) x32.2)) fun x33 =>
    bnd (gd (some x28) false x33.2 (lt (pLoad Try.prog 36 x33.1 x33.2) x33.2)) fun x34 =>
    bnd (gd (some x28) false x34.2 (lt (pLen Try.prog #[36] x34.1 x34.2) x34.2)) fun x35 =>
    bnd (gd (some x28) false x35.2 (lt (pBin Try.prog .gtr 3 (.tmp 35) (.const (.int .i64 20)) x35.1 (.int .i64 20)) x35.2)) fun x36 =>
    bnd (pickV x28 (.bool true) x36.1) fun x37 =>
    bnd (gd (some x37) false x36.2 (some (x0, x36.2))) fun x39 =>
    bnd (gd (some x37) false x39.2 (some (x5, x39.2))) fun x40 =>
    bnd (gd (some x37) false x40.2 (lt (pIndexAddr Try.prog 24 x39.1 x40.1) x40.2)) fun x41 =>
    bnd (gd (some x37) false x41.2 (lt (pFieldAddr Try.prog 39 x41.1 4) x41.2)) fun x42 =>
    bnd (gd (some x37) false x42.2 (lt (pLoad Try.prog 37 x42.1 x42.2) x42.2)) fun x43 =>
    bnd (gd (some x37) false x43.2 (inv (.func 50) #[] #[x43.1] x43.2)) fun x44 =>
    bnd (gd (some x37) false x44.2 (lt (pUn Try.prog .not x44.1) x44.2)) fun x45 =>
    bnd (pickV x37 (.bool true) x45.1) fun x46 =>
    K (x46) x45.2
theorem r32_4  : kCode env 32 false inv k (cp c32 840) (act 50 [(0, x0), (1, x1), (5, x5), (9, x9)]) h K =
    G32_4 inv x0 x1 x5 h fun y46 h => K .normal (act 50 [(0, x0), (1, x1), (5, x5), (46, y46)]) h := kq_reg
theorem b32_rllrllrlr  : kCode env 32 false inv k (cp c32 841) (act 50 [(0, x0), (1, x1), (5, x5), (46, x46)]) h K = brV x46 (kCode env 32 false inv k (cp c32 1682) (act 50 [(0, x0), (1, x1), (5, x5), (46, x46)]) h K) (kCode env 32 false inv k (cp c32 1683) (act 50 [(0, x0), (1, x1), (5, x5), (46, x46)]) h K) := kq_cond
theorem r32_5  : kCode env 32 false inv k (cp c32 3364) (act 50 [(0, x0), (1, x1), (5, x5), (46, x46)]) h K =
    K .normal (act 50 [(4, (.bool false))]) h := kq_reg
theorem r32_3  : kCode env 32 false inv k (cp c32 211) (act 50 [(0, x0), (1, x1), (5, x5), (46, x46)]) h K =
    bnd (pBin Try.prog .add 3 (.tmp 10) (.const (.int .i64 1)) x5 (.int .i64 1)) fun x11 =>
    K .normal (act 50 [(0, x0), (1, x1), (5, x11)]) h := kq_reg
noncomputable def F32_lrlr {β : Type} (inv : Inv) (k : Nat) : Nat → Value → Value → Value → AH → (Value → Value → Value → Value → AH → Option β) → (Value → AH → Option β) → Option β
  | 0, _, _, _, _, _, _ => none
  | j + 1, x0, x1, x5, h, ke0, kr =>
    bnd (pLen Try.prog #[24] x0 h) fun x8 =>
    bnd (pBin Try.prog .lss 3 (.tmp 6) (.tmp 8) x5 x8) fun x9 =>
    brV x9
    (G32_4 inv x0 x1 x5 h fun y46 h =>
    brV y46
    (kr (.bool false) h)
    (bnd (pBin Try.prog .add 3 (.tmp 10) (.const (.int .i64 1)) x5 (.int .i64 1)) fun x11 =>
    F32_lrlr inv k j x0 x1 x11 h ke0 kr))
    (ke0 x0 x1 x5 x9 h)
theorem F32_lrlr_j (j : Nat) : kLoop (kCode env 32 false inv k (cp c32 52)) j (act 50 [(0, x0), (1, x1), (5, x5)]) h K = F32_lrlr inv k j x0 x1 x5 h (fun y0 y1 y5 y9 h => K (.exit 0) (act 50 [(0, y0), (1, y1), (5, y5), (9, y9)]) h) (fun y4 h => K .ret (act 50 [(4, y4)]) h) := by
      induction j generalizing x0 x1 x5 h with
      | zero => rfl
      | succ j ih =>
        unfold F32_lrlr
        simp only [kLoop, kq_seq c32 52, kq_seq c32 104, r32_2, b32_rlllrlr, kq_skip c32 418, kq_seq c32 105, kq_block c32 210 1, kq_seq c32 420, r32_4, b32_rllrllrlr, kq_seq c32 1682, r32_5, kq_ret c32 3365, kq_skip c32 1683, r32_3, kq_exit c32 419 0, ih, reduceIte, reduceCtorEq, XE.exit.injEq, Nat.reduceEqDiff, Nat.reduceMul, Nat.reduceAdd] <;> kernel_rfl
theorem F32_lrlr_eq  : kCode env 32 false inv k (cp c32 26) (act 50 [(0, x0), (1, x1), (5, x5)]) h K = F32_lrlr inv k k x0 x1 x5 h (fun y0 y1 y5 y9 h => K (.exit 0) (act 50 [(0, y0), (1, y1), (5, y5), (9, y9)]) h) (fun y4 h => K .ret (act 50 [(4, y4)]) h) := kq_loop (F32_lrlr_j k)
theorem r32_6  : kCode env 32 false inv k (cp c32 14) (act 50 [(0, x0), (1, x1), (5, x5), (9, x9)]) h K =
    bnd (pLen Try.prog #[24] x0 h) fun x48 =>
    bnd (pBin Try.prog .leq 3 (.tmp 48) (.const (.int .i64 18)) x48 (.int .i64 18)) fun x49 =>
    K .normal (act 50 [(4, x49)]) h := kq_reg
theorem res32_0 : resOfFn env.P 32 .ret (act 50 [(4, x4)]) h = some (x4, h) := kq_res
/-- shadowbook/shadowbookkit.LightBatch -/
noncomputable def F32 (inv : Inv) (k : Nat) (x0 x1 : Value) (h : AH) : Option (Value × AH) :=
    F32_lrlr inv k k x0 x1 (.int .i64 0) h
    (fun y0 y1 y5 y9 h =>
    bnd (pLen Try.prog #[24] y0 h) fun x48 =>
    bnd (pBin Try.prog .leq 3 (.tmp 48) (.const (.int .i64 18)) x48 (.int .i64 18)) fun x49 =>
    some (x49, h))
    (fun y4 h_1 =>
    some (y4, h_1))
theorem F32_eq : eFun env k inv 32 #[x0, x1] h = F32 inv k x0 x1 h := by
      refine (kq_fun (a := act 50 [(0, x0), (1, x1)]) (c := cp c32 1)).trans ?_
      unfold F32
      simp only [kq_seq c32 1, r32_0, kq_seq c32 3, kq_seq c32 6, r32_1, kq_block c32 13 0, F32_lrlr_eq, kq_seq c32 7, r32_6, kq_ret c32 15, res32_0, reduceIte, reduceCtorEq, XE.exit.injEq, Nat.reduceEqDiff, Nat.reduceMul, Nat.reduceAdd] <;> kernel_rfl
theorem F32_call : eInv env (k + 1) (.func 32) #[] #[x0, x1] h = F32 (eInv env k) k x0 x1 h := kq_inv F32_eq
noncomputable def c33 : Code := codeOf Try.prog 33
theorem r33_0  : kCode env 33 false inv k (cp c33 2) (act 43 [(0, x0)]) h K =
    K .normal (act 43 [(0, x0)]) h := kq_reg
noncomputable abbrev G33_1 {β : Type} (inv : Inv) (x0 : Value) (h : AH) (K : Value → AH → Option β) : Option β :=
    bnd (pLen Try.prog #[22] x0 h) fun x7 =>
    bnd (pBin Try.prog .lss 3 (.tmp 7) (.const (.int .i64 1)) x7 (.int .i64 1)) fun x8 =>
    bnd (gd (some x8) false h (some (x0, h))) fun x10 =>
    bnd (gd (some x8) false x10.2 (lt (pLen Try.prog #[22] x10.1 x10.2) x10.2)) fun x11 =>
    bnd (gd (some x8) false x11.2 (lt (pBin Try.prog .gtr 3 (.tmp 11) (.const (.int .i64 16)) x11.1 (.int .i64 16)) x11.2)) fun x12 =>
    bnd (pickV x8 (.bool true) x12.1) fun x13 =>
    K (x13) x12.2
theorem r33_1  : kCode env 33 false inv k (cp c33 12) (act 43 [(0, x0)]) h K =
    G33_1 inv x0 h fun y13 h => K .normal (act 43 [(0, x0), (13, y13)]) h := kq_reg
theorem b33_rlr  : kCode env 33 false inv k (cp c33 13) (act 43 [(0, x0), (13, x13)]) h K = brV x13 (kCode env 33 false inv k (cp c33 26) (act 43 [(0, x0), (13, x13)]) h K) (kCode env 33 false inv k (cp c33 27) (act 43 [(0, x0), (13, x13)]) h K) := kq_cond
theorem r33_2  : kCode env 33 false inv k (cp c33 52) (act 43 [(0, x0), (13, x13)]) h K =
    K .normal (act 43 [(2, (.int .i64 171))]) h := kq_reg
theorem res33_0 : resOfFn env.P 33 .ret (act 43 [(2, x2)]) h = some (x2, h) := kq_res
theorem r33_3  : kCode env 33 false inv k (cp c33 28) (act 43 [(0, x0), (13, x13)]) h K =
    bnd (pLen Try.prog #[22] x0 h) fun x15 =>
    K .normal (act 43 [(0, x0), (14, x0), (15, x15), (16, (.int .i64 0))]) h := kq_reg
theorem r33_4  : kCode env 33 false inv k (cp c33 232) (act 43 [(0, x0), (14, x14), (15, x15), (16, x16)]) h K =
    bnd (pBin Try.prog .lss 3 (.tmp 16) (.tmp 15) x16 x15) fun x17 =>
    K .normal (act 43 [(0, x0), (14, x14), (15, x15), (16, x16), (17, x17)]) h := kq_reg
theorem b33_lrllrlrr  : kCode env 33 false inv k (cp c33 466) (act 43 [(0, x0), (14, x14), (15, x15), (16, x16), (17, x17)]) h K = brV x17 (kCode env 33 false inv k (cp c33 932) (act 43 [(0, x0), (14, x14), (15, x15), (16, x16), (17, x17)]) h K) (kCode env 33 false inv k (cp c33 933) (act 43 [(0, x0), (14, x14), (15, x15), (16, x16), (17, x17)]) h K) := kq_cond
theorem r33_5  : kCode env 33 false inv k (cp c33 3736) (act 43 [(0, x0), (14, x14), (15, x15), (16, x16), (17, x17)]) h K =
    bnd (pIndexAddr Try.prog 22 x14 x16) fun x19 =>
    bnd (pLoad Try.prog 80 x19 h) fun x20 =>
    bnd (pAlloc Try.prog 80 h) fun x4 =>
    bnd (kSt (pStore Try.prog 80 x4.1 x20 x4.2)) fun u =>
    K .normal (act 43 [(0, x0), (3, x16), (4, x4.1), (14, x14), (15, x15), (16, x16)]) u.2 := kq_reg
theorem r33_6  : kCode env 33 false inv k (cp c33 14948) (act 43 [(0, x0), (3, x3), (4, x4), (14, x14), (15, x15), (16, x16)]) h K =
    bnd (pFieldAddr Try.prog 80 x4 0) fun x21 =>
    bnd (pLoad Try.prog 9 x21 h) fun x22 =>
    bnd (inv (.func 52) #[] #[x22] h) fun x23 =>
    K .normal (act 43 [(0, x0), (3, x3), (4, x4), (5, x23.1), (14, x14), (15, x15), (16, x16)]) x23.2 := kq_reg
theorem r33_7  : kCode env 33 false inv k (cp c33 29898) (act 43 [(0, x0), (3, x3), (4, x4), (5, x5), (14, x14), (15, x15), (16, x16)]) h K =
    bnd (pBin Try.prog .neq 27 (.tmp 24) (.const (.int .i64 0)) x5 (.int .i64 0)) fun x25 =>
    K .normal (act 43 [(0, x0), (3, x3), (4, x4), (5, x5), (14, x14), (15, x15), (16, x16), (25, x25)]) h := kq_reg
theorem b33_rrlrllrrllrlrr  : kCode env 33 false inv k (cp c33 29899) (act 43 [(0, x0), (3, x3), (4, x4), (5, x5), (14, x14), (15, x15), (16, x16), (25, x25)]) h K = brV x25 (kCode env 33 false inv k (cp c33 59798) (act 43 [(0, x0), (3, x3), (4, x4), (5, x5), (14, x14), (15, x15), (16, x16), (25, x25)]) h K) (kCode env 33 false inv k (cp c33 59799) (act 43 [(0, x0), (3, x3), (4, x4), (5, x5), (14, x14), (15, x15), (16, x16), (25, x25)]) h K) := kq_cond
theorem r33_8  : kCode env 33 false inv k (cp c33 119596) (act 43 [(0, x0), (3, x3), (4, x4), (5, x5), (14, x14), (15, x15), (16, x16), (25, x25)]) h K =
    K .normal (act 43 [(2, x5)]) h := kq_reg
noncomputable abbrev G33_9 {β : Type} (inv : Inv) (x0 x3 x4 x14 x15 x16 : Value) (h : AH) (K : Value → AH → Option β) : Option β :=
    bnd (pFieldAddr Try.prog 80 x4 1) fun x27 =>
    bnd (pLoad Try.prog 3 x27 h) fun x28 =>
    bnd (pBin Try.prog .lss 3 (.tmp 28) (.const (.int .i64 1)) x28 (.int .i64 1)) fun x29 =>
    bnd (gd (some x29) false h (lt (pFieldAddr Try.prog 80 x4 1) h)) fun x31 =>
    bnd (gd (some x29) false x31.2 (lt (pLoad Try.prog 3 x31.1 x31.2) x31.2)) fun x32 =>
    bnd (gd (some x29) false x32.2 (lt (pBin Try.prog .gtr 3 (.tmp 32) (.const (.int .i64 3)) x32.1 (.int .i64 3)) x32.2)) fun x33 =>
    bnd (pickV x29 (.bool true) x33.1) fun x34 =>
    bnd (gd (some x34) false x33.2 (some (x0, x33.2))) fun x36 =>
    bnd (gd (some x34) false x36.2 (some (x3, x36.2))) fun x37 =>
    bnd (gd (some x34) false x37.2 (lt (pSlice Try.prog 22 x36.1 none (some x37.1) none x37.2) x37.2)) fun x38 =>
    bnd (gd (some x34) false x38.2 (lt (pMakeFunc (.func 54) #[] #[x4]) x38.2)) fun x39 =>
    bnd (gd (some x34) false x39.2 (inv (.func 53) #[] #[x38.1, x39.1] x39.2)) fun x40 =>
    bnd (pickV x34 (.bool true) x40.1) fun x41 =>
    K (x41) x40.2
theorem r33_9  : kCode env 33 false inv k (cp c33 14950) (act 43 [(0, x0), (3, x3), (4, x4), (5, x5), (14, x14), (15, x15), (16, x16), (25, x25)]) h K =
    G33_9 inv x0 x3 x4 x14 x15 x16 h fun y41 h => K .normal (act 43 [(0, x0), (14, x14), (15, x15), (16, x16), (41, y41)]) h := kq_reg
theorem b33_rrrllrrllrlrr  : kCode env 33 false inv k (cp c33 14951) (act 43 [(0, x0), (14, x14), (15, x15), (16, x16), (41, x41)]) h K = brV x41 (kCode env 33 false inv k (cp c33 29902) (act 43 [(0, x0), (14, x14), (15, x15), (16, x16), (41, x41)]) h K) (kCode env 33 false inv k (cp c33 29903) (act 43 [(0, x0), (14, x14), (15, x15), (16, x16), (41, x41)]) h K) := kq_cond
theorem r33_10  : kCode env 33 false inv k (cp c33 59804) (act 43 [(0, x0), (14, x14), (15, x15), (16, x16), (41, x41)]) h K =
    K .normal (act 43 [(2, (.int .i64 171))]) h := kq_reg
theorem r33_11  : kCode env 33 false inv k (cp c33 935) (act 43 [(0, x0), (14, x14), (15, x15), (16, x16), (41, x41)]) h K =
    bnd (pBin Try.prog .add 3 (.tmp 16) (.const (.int .i64 1)) x16 (.int .i64 1)) fun x42 =>
    K .normal (act 43 [(0, x0), (14, x14), (15, x15), (16, x42)]) h := kq_reg
noncomputable def F33_lrlrr {β : Type} (inv : Inv) (k : Nat) : Nat → Value → Value → Value → Value → AH → (Value → Value → Value → Value → Value → AH → Option β) → (Value → AH → Option β) → Option β
  | 0, _, _, _, _, _, _, _ => none
  | j + 1, x0, x14, x15, x16, h, ke0, kr =>
    bnd (pBin Try.prog .lss 3 (.tmp 16) (.tmp 15) x16 x15) fun x17 =>
    brV x17
    (bnd (pIndexAddr Try.prog 22 x14 x16) fun x19 =>
    bnd (pLoad Try.prog 80 x19 h) fun x20 =>
    bnd (pAlloc Try.prog 80 h) fun x4 =>
    bnd (kSt (pStore Try.prog 80 x4.1 x20 x4.2)) fun u =>
    bnd (pFieldAddr Try.prog 80 x4.1 0) fun x21 =>
    bnd (pLoad Try.prog 9 x21 u.2) fun x22 =>
    bnd (inv (.func 52) #[] #[x22] u.2) fun x23 =>
    bnd (pBin Try.prog .neq 27 (.tmp 24) (.const (.int .i64 0)) x23.1 (.int .i64 0)) fun x25 =>
    brV x25
    (kr x23.1 x23.2)
    (G33_9 inv x0 x16 x4.1 x14 x15 x16 x23.2 fun y41 h =>
    brV y41
    (kr (.int .i64 171) h)
    (bnd (pBin Try.prog .add 3 (.tmp 16) (.const (.int .i64 1)) x16 (.int .i64 1)) fun x42 =>
    F33_lrlrr inv k j x0 x14 x15 x42 h ke0 kr)))
    (ke0 x0 x14 x15 x16 x17 h)
theorem F33_lrlrr_j (j : Nat) : kLoop (kCode env 33 false inv k (cp c33 116)) j (act 43 [(0, x0), (14, x14), (15, x15), (16, x16)]) h K = F33_lrlrr inv k j x0 x14 x15 x16 h (fun y0 y14 y15 y16 y17 h => K (.exit 0) (act 43 [(0, y0), (14, y14), (15, y15), (16, y16), (17, y17)]) h) (fun y2 h => K .ret (act 43 [(2, y2)]) h) := by
      induction j generalizing x0 x14 x15 x16 h with
      | zero => rfl
      | succ j ih =>
        unfold F33_lrlrr
        simp only [kLoop, kq_seq c33 116, r33_4, kq_seq c33 233, b33_lrllrlrr, kq_skip c33 932, kq_seq c33 467, kq_block c33 934 1, kq_seq c33 1868, r33_5, kq_seq c33 3737, kq_seq c33 7474, r33_6, kq_seq c33 14949, r33_7, b33_rrlrllrrllrlrr, kq_seq c33 59798, r33_8, kq_ret c33 119597, kq_skip c33 59799, kq_seq c33 7475, r33_9, b33_rrrllrrllrlrr, kq_seq c33 29902, r33_10, kq_ret c33 59805, kq_skip c33 29903, r33_11, kq_exit c33 933 0, ih, reduceIte, reduceCtorEq, XE.exit.injEq, Nat.reduceEqDiff, Nat.reduceMul, Nat.reduceAdd] <;> kernel_rfl
theorem F33_lrlrr_eq  : kCode env 33 false inv k (cp c33 58) (act 43 [(0, x0), (14, x14), (15, x15), (16, x16)]) h K = F33_lrlrr inv k k x0 x14 x15 x16 h (fun y0 y14 y15 y16 y17 h => K (.exit 0) (act 43 [(0, y0), (14, y14), (15, y15), (16, y16), (17, y17)]) h) (fun y2 h => K .ret (act 43 [(2, y2)]) h) := kq_loop (F33_lrlrr_j k)
theorem r33_12  : kCode env 33 false inv k (cp c33 30) (act 43 [(0, x0), (14, x14), (15, x15), (16, x16), (17, x17)]) h K =
    K .normal (act 43 [(2, (.int .i64 0))]) h := kq_reg
/-- shadowbook/schema.Check -/
noncomputable def F33 (inv : Inv) (k : Nat) (x0 : Value) (h : AH) : Option (Value × AH) :=
    G33_1 inv x0 h fun y13 h =>
    brV y13
    (some ((.int .i64 171), h))
    (bnd (pLen Try.prog #[22] x0 h) fun x15 =>
    F33_lrlrr inv k k x0 x0 x15 (.int .i64 0) h
    (fun y0 y14 y15 y16 y17 h_1 =>
    some ((.int .i64 0), h_1))
    (fun y2 h_2 =>
    some (y2, h_2)))
theorem F33_eq : eFun env k inv 33 #[x0] h = F33 inv k x0 h := by
      refine (kq_fun (a := act 43 [(0, x0)]) (c := cp c33 1)).trans ?_
      unfold F33
      simp only [kq_seq c33 1, r33_0, kq_seq c33 3, kq_seq c33 6, r33_1, b33_rlr, kq_seq c33 26, r33_2, kq_ret c33 53, res33_0, kq_skip c33 27, kq_seq c33 7, kq_seq c33 14, r33_3, kq_block c33 29 0, F33_lrlrr_eq, kq_seq c33 15, r33_12, kq_ret c33 31, reduceIte, reduceCtorEq, XE.exit.injEq, Nat.reduceEqDiff, Nat.reduceMul, Nat.reduceAdd] <;> kernel_rfl
theorem F33_call : eInv env (k + 1) (.func 33) #[] #[x0] h = F33 (eInv env k) k x0 h := kq_inv F33_eq
noncomputable def c34 : Code := codeOf Try.prog 34
theorem r34_0  : kCode env 34 false inv k (cp c34 2) (act 47 [(0, x0), (1, x1), (2, x2)]) h K =
    bnd (pBox Try.prog 39 x1 h) fun x4 =>
    K .normal (act 47 [(0, x0), (2, x2), (4, x4.1)]) x4.2 := kq_reg
theorem r34_1  : kCode env 34 false inv k (cp c34 12) (act 47 [(0, x0), (2, x2), (4, x4)]) h K =
    bnd (pLoad Try.prog 39 x4 h) fun x11 =>
    bnd (inv (.func 55) #[] #[x11] h) fun x12 =>
    bnd (pUn Try.prog .not x12.1) fun x13 =>
    K .normal (act 47 [(0, x0), (2, x2), (4, x4), (13, x13)]) x12.2 := kq_reg
theorem b34_rlr  : kCode env 34 false inv k (cp c34 13) (act 47 [(0, x0), (2, x2), (4, x4), (13, x13)]) h K = brV x13 (kCode env 34 false inv k (cp c34 26) (act 47 [(0, x0), (2, x2), (4, x4), (13, x13)]) h K) (kCode env 34 false inv k (cp c34 27) (act 47 [(0, x0), (2, x2), (4, x4), (13, x13)]) h K) := kq_cond
theorem r34_2  : kCode env 34 false inv k (cp c34 52) (act 47 [(0, x0), (2, x2), (4, x4), (13, x13)]) h K =
    K .normal (act 47 [(6, (.int .i64 190))]) h := kq_reg
theorem res34_0 : resOfFn env.P 34 .ret (act 47 [(6, x6)]) h = some (x6, h) := kq_res
theorem r34_3  : kCode env 34 false inv k (cp c34 28) (act 47 [(0, x0), (2, x2), (4, x4), (13, x13)]) h K =
    bnd (pFieldAddr Try.prog 39 x4 2) fun x15 =>
    bnd (pLoad Try.prog 35 x15 h) fun x16 =>
    bnd (inv (.func 56) #[] #[x0, x16] h) fun x17 =>
    K .normal (act 47 [(0, x0), (2, x2), (4, x4), (7, x17.1)]) x17.2 := kq_reg
theorem r34_4  : kCode env 34 false inv k (cp c34 58) (act 47 [(0, x0), (2, x2), (4, x4), (7, x7)]) h K =
    bnd (pBin Try.prog .neq 27 (.tmp 18) (.const (.int .i64 0)) x7 (.int .i64 0)) fun x19 =>
    K .normal (act 47 [(0, x0), (2, x2), (4, x4), (7, x7), (19, x19)]) h := kq_reg
theorem b34_rrlrr  : kCode env 34 false inv k (cp c34 59) (act 47 [(0, x0), (2, x2), (4, x4), (7, x7), (19, x19)]) h K = brV x19 (kCode env 34 false inv k (cp c34 118) (act 47 [(0, x0), (2, x2), (4, x4), (7, x7), (19, x19)]) h K) (kCode env 34 false inv k (cp c34 119) (act 47 [(0, x0), (2, x2), (4, x4), (7, x7), (19, x19)]) h K) := kq_cond
theorem r34_5  : kCode env 34 false inv k (cp c34 236) (act 47 [(0, x0), (2, x2), (4, x4), (7, x7), (19, x19)]) h K =
    K .normal (act 47 [(6, x7)]) h := kq_reg
theorem r34_6  : kCode env 34 false inv k (cp c34 60) (act 47 [(0, x0), (2, x2), (4, x4), (7, x7), (19, x19)]) h K =
    bnd (pFieldAddr Try.prog 39 x4 1) fun x21 =>
    bnd (pLoad Try.prog 23 x21 h) fun x22 =>
    bnd (pLen Try.prog #[23] x22 h) fun x23 =>
    K .normal (act 47 [(0, x0), (2, x2), (4, x4), (22, x22), (23, x23), (24, (.int .i64 0))]) h := kq_reg
theorem r34_7  : kCode env 34 false inv k (cp c34 488) (act 47 [(0, x0), (2, x2), (4, x4), (22, x22), (23, x23), (24, x24)]) h K =
    bnd (pBin Try.prog .lss 3 (.tmp 24) (.tmp 23) x24 x23) fun x25 =>
    K .normal (act 47 [(0, x0), (2, x2), (4, x4), (22, x22), (23, x23), (24, x24), (25, x25)]) h := kq_reg
theorem b34_lrllrlrrr  : kCode env 34 false inv k (cp c34 978) (act 47 [(0, x0), (2, x2), (4, x4), (22, x22), (23, x23), (24, x24), (25, x25)]) h K = brV x25 (kCode env 34 false inv k (cp c34 1956) (act 47 [(0, x0), (2, x2), (4, x4), (22, x22), (23, x23), (24, x24), (25, x25)]) h K) (kCode env 34 false inv k (cp c34 1957) (act 47 [(0, x0), (2, x2), (4, x4), (22, x22), (23, x23), (24, x24), (25, x25)]) h K) := kq_cond
theorem r34_8  : kCode env 34 false inv k (cp c34 7832) (act 47 [(0, x0), (2, x2), (4, x4), (22, x22), (23, x23), (24, x24), (25, x25)]) h K =
    bnd (pIndexAddr Try.prog 23 x22 x24) fun x26 =>
    bnd (pLoad Try.prog 37 x26 h) fun x27 =>
    K .normal (act 47 [(0, x0), (2, x2), (4, x4), (9, x27), (22, x22), (23, x23), (24, x24)]) h := kq_reg
theorem r34_9  : kCode env 34 false inv k (cp c34 31332) (act 47 [(0, x0), (2, x2), (4, x4), (9, x9), (22, x22), (23, x23), (24, x24)]) h K =
    bnd (inv (.func 57) #[] #[x0, x9] h) fun x30 =>
    K .normal (act 47 [(0, x0), (2, x2), (4, x4), (10, x30.1), (22, x22), (23, x23), (24, x24)]) x30.2 := kq_reg
theorem r34_10  : kCode env 34 false inv k (cp c34 62666) (act 47 [(0, x0), (2, x2), (4, x4), (10, x10), (22, x22), (23, x23), (24, x24)]) h K =
    bnd (pBin Try.prog .neq 27 (.tmp 31) (.const (.int .i64 0)) x10 (.int .i64 0)) fun x32 =>
    K .normal (act 47 [(0, x0), (2, x2), (4, x4), (10, x10), (22, x22), (23, x23), (24, x24), (32, x32)]) h := kq_reg
theorem b34_rrlrllrrllrlrrr  : kCode env 34 false inv k (cp c34 62667) (act 47 [(0, x0), (2, x2), (4, x4), (10, x10), (22, x22), (23, x23), (24, x24), (32, x32)]) h K = brV x32 (kCode env 34 false inv k (cp c34 125334) (act 47 [(0, x0), (2, x2), (4, x4), (10, x10), (22, x22), (23, x23), (24, x24), (32, x32)]) h K) (kCode env 34 false inv k (cp c34 125335) (act 47 [(0, x0), (2, x2), (4, x4), (10, x10), (22, x22), (23, x23), (24, x24), (32, x32)]) h K) := kq_cond
theorem r34_11  : kCode env 34 false inv k (cp c34 250668) (act 47 [(0, x0), (2, x2), (4, x4), (10, x10), (22, x22), (23, x23), (24, x24), (32, x32)]) h K =
    K .normal (act 47 [(6, x10)]) h := kq_reg
theorem r34_12  : kCode env 34 false inv k (cp c34 31334) (act 47 [(0, x0), (2, x2), (4, x4), (10, x10), (22, x22), (23, x23), (24, x24), (32, x32)]) h K =
    bnd (pNilCheck x2) fun x35 =>
    bnd (pLoad Try.prog 3 x35 h) fun x36 =>
    bnd (pBin Try.prog .add 3 (.tmp 36) (.const (.int .i64 1)) x36 (.int .i64 1)) fun x37 =>
    bnd (pNilCheck x2) fun x38 =>
    bnd (kSt (pStore Try.prog 3 x38 x37 h)) fun u =>
    K .normal (act 47 [(0, x0), (2, x2), (4, x4), (22, x22), (23, x23), (24, x24)]) u.2 := kq_reg
theorem r34_13  : kCode env 34 false inv k (cp c34 62670) (act 47 [(0, x0), (2, x2), (4, x4), (22, x22), (23, x23), (24, x24)]) h K =
    bnd (pNilCheck x2) fun x40 =>
    bnd (pLoad Try.prog 3 x40 h) fun x41 =>
    bnd (pBin Try.prog .gtr 3 (.tmp 41) (.const (.int .i64 256)) x41 (.int .i64 256)) fun x42 =>
    K .normal (act 47 [(0, x0), (2, x2), (4, x4), (22, x22), (23, x23), (24, x24), (42, x42)]) h := kq_reg
theorem b34_rrrrllrrllrlrrr  : kCode env 34 false inv k (cp c34 62671) (act 47 [(0, x0), (2, x2), (4, x4), (22, x22), (23, x23), (24, x24), (42, x42)]) h K = brV x42 (kCode env 34 false inv k (cp c34 125342) (act 47 [(0, x0), (2, x2), (4, x4), (22, x22), (23, x23), (24, x24), (42, x42)]) h K) (kCode env 34 false inv k (cp c34 125343) (act 47 [(0, x0), (2, x2), (4, x4), (22, x22), (23, x23), (24, x24), (42, x42)]) h K) := kq_cond
theorem r34_14  : kCode env 34 false inv k (cp c34 250684) (act 47 [(0, x0), (2, x2), (4, x4), (22, x22), (23, x23), (24, x24), (42, x42)]) h K =
    K .normal (act 47 [(6, (.int .i64 191))]) h := kq_reg
theorem r34_15  : kCode env 34 false inv k (cp c34 1959) (act 47 [(0, x0), (2, x2), (4, x4), (22, x22), (23, x23), (24, x24), (42, x42)]) h K =
    bnd (pBin Try.prog .add 3 (.tmp 24) (.const (.int .i64 1)) x24 (.int .i64 1)) fun x43 =>
    K .normal (act 47 [(0, x0), (2, x2), (4, x4), (22, x22), (23, x23), (24, x43)]) h := kq_reg
noncomputable def F34_lrlrrr {β : Type} (inv : Inv) (k : Nat) : Nat → Value → Value → Value → Value → Value → Value → AH → (Value → Value → Value → Value → Value → Value → Value → AH → Option β) → (Value → AH → Option β) → Option β
  | 0, _, _, _, _, _, _, _, _, _ => none
  | j + 1, x0, x2, x4, x22, x23, x24, h, ke0, kr =>
    bnd (pBin Try.prog .lss 3 (.tmp 24) (.tmp 23) x24 x23) fun x25 =>
    brV x25
    (bnd (pIndexAddr Try.prog 23 x22 x24) fun x26 =>
    bnd (pLoad Try.prog 37 x26 h) fun x27 =>
    bnd (inv (.func 57) #[] #[x0, x27] h) fun x30 =>
    bnd (pBin Try.prog .neq 27 (.tmp 31) (.const (.int .i64 0)) x30.1 (.int .i64 0)) fun x32 =>
    brV x32
    (kr x30.1 x30.2)
    (bnd (pNilCheck x2) fun x35 =>
    bnd (pLoad Try.prog 3 x35 x30.2) fun x36 =>
    bnd (pBin Try.prog .add 3 (.tmp 36) (.const (.int .i64 1)) x36 (.int .i64 1)) fun x37 =>
    bnd (pNilCheck x2) fun x38 =>
    bnd (kSt (pStore Try.prog 3 x38 x37 x30.2)) fun u =>
    bnd (pNilCheck x2) fun x40 =>
    bnd (pLoad Try.prog 3 x40 u.2) fun x41 =>
    bnd (pBin Try.prog .gtr 3 (.tmp 41) (.const (.int .i64 256)) x41 (.int .i64 256)) fun x42 =>
    brV x42
    (kr (.int .i64 191) u.2)
    (bnd (pBin Try.prog .add 3 (.tmp 24) (.const (.int .i64 1)) x24 (.int .i64 1)) fun x43 =>
    F34_lrlrrr inv k j x0 x2 x4 x22 x23 x43 u.2 ke0 kr)))
    (ke0 x0 x2 x4 x22 x23 x24 x25 h)
theorem F34_lrlrrr_j (j : Nat) : kLoop (kCode env 34 false inv k (cp c34 244)) j (act 47 [(0, x0), (2, x2), (4, x4), (22, x22), (23, x23), (24, x24)]) h K = F34_lrlrrr inv k j x0 x2 x4 x22 x23 x24 h (fun y0 y2 y4 y22 y23 y24 y25 h => K (.exit 0) (act 47 [(0, y0), (2, y2), (4, y4), (22, y22), (23, y23), (24, y24), (25, y25)]) h) (fun y6 h => K .ret (act 47 [(6, y6)]) h) := by
      induction j generalizing x0 x2 x4 x22 x23 x24 h with
      | zero => rfl
      | succ j ih =>
        unfold F34_lrlrrr
        simp only [kLoop, kq_seq c34 244, r34_7, kq_seq c34 489, b34_lrllrlrrr, kq_skip c34 1956, kq_seq c34 979, kq_block c34 1958 1, kq_seq c34 3916, r34_8, kq_seq c34 7833, kq_seq c34 15666, r34_9, kq_seq c34 31333, r34_10, b34_rrlrllrrllrlrrr, kq_seq c34 125334, r34_11, kq_ret c34 250669, kq_skip c34 125335, kq_seq c34 15667, r34_12, kq_seq c34 31335, r34_13, b34_rrrrllrrllrlrrr, kq_seq c34 125342, r34_14, kq_ret c34 250685, kq_skip c34 125343, r34_15, kq_exit c34 1957 0, ih, reduceIte, reduceCtorEq, XE.exit.injEq, Nat.reduceEqDiff, Nat.reduceMul, Nat.reduceAdd] <;> kernel_rfl
theorem F34_lrlrrr_eq  : kCode env 34 false inv k (cp c34 122) (act 47 [(0, x0), (2, x2), (4, x4), (22, x22), (23, x23), (24, x24)]) h K = F34_lrlrrr inv k k x0 x2 x4 x22 x23 x24 h (fun y0 y2 y4 y22 y23 y24 y25 h => K (.exit 0) (act 47 [(0, y0), (2, y2), (4, y4), (22, y22), (23, y23), (24, y24), (25, y25)]) h) (fun y6 h => K .ret (act 47 [(6, y6)]) h) := kq_loop (F34_lrlrrr_j k)
theorem r34_16  : kCode env 34 false inv k (cp c34 62) (act 47 [(0, x0), (2, x2), (4, x4), (22, x22), (23, x23), (24, x24), (25, x25)]) h K =
    bnd (pLoad Try.prog 39 x4 h) fun x45 =>
    bnd (inv (.func 58) #[] #[x0, x45] h) fun x46 =>
    K .normal (act 47 [(6, x46.1)]) x46.2 := kq_reg
/-- shadowbook/batch.change -/
noncomputable def F34 (inv : Inv) (k : Nat) (x0 x1 x2 : Value) (h : AH) : Option (Value × AH) :=
    bnd (pBox Try.prog 39 x1 h) fun x4 =>
    bnd (pLoad Try.prog 39 x4.1 x4.2) fun x11 =>
    bnd (inv (.func 55) #[] #[x11] x4.2) fun x12 =>
    bnd (pUn Try.prog .not x12.1) fun x13 =>
    brV x13
    (some ((.int .i64 190), x12.2))
    (bnd (pFieldAddr Try.prog 39 x4.1 2) fun x15 =>
    bnd (pLoad Try.prog 35 x15 x12.2) fun x16 =>
    bnd (inv (.func 56) #[] #[x0, x16] x12.2) fun x17 =>
    bnd (pBin Try.prog .neq 27 (.tmp 18) (.const (.int .i64 0)) x17.1 (.int .i64 0)) fun x19 =>
    brV x19
    (some (x17.1, x17.2))
    (bnd (pFieldAddr Try.prog 39 x4.1 1) fun x21 =>
    bnd (pLoad Try.prog 23 x21 x17.2) fun x22 =>
    bnd (pLen Try.prog #[23] x22 x17.2) fun x23 =>
    F34_lrlrrr inv k k x0 x2 x4.1 x22 x23 (.int .i64 0) x17.2
    (fun y0 y2 y4 y22 y23 y24 y25 h =>
    bnd (pLoad Try.prog 39 y4 h) fun x45 =>
    bnd (inv (.func 58) #[] #[y0, x45] h) fun x46 =>
    some (x46.1, x46.2))
    (fun y6 h_1 =>
    some (y6, h_1))))
theorem F34_eq : eFun env k inv 34 #[x0, x1, x2] h = F34 inv k x0 x1 x2 h := by
      refine (kq_fun (a := act 47 [(0, x0), (1, x1), (2, x2)]) (c := cp c34 1)).trans ?_
      unfold F34
      simp only [kq_seq c34 1, r34_0, kq_seq c34 3, kq_seq c34 6, r34_1, b34_rlr, kq_seq c34 26, r34_2, kq_ret c34 53, res34_0, kq_skip c34 27, kq_seq c34 7, kq_seq c34 14, r34_3, kq_seq c34 29, r34_4, b34_rrlrr, kq_seq c34 118, r34_5, kq_ret c34 237, kq_skip c34 119, kq_seq c34 15, kq_seq c34 30, r34_6, kq_block c34 61 0, F34_lrlrrr_eq, kq_seq c34 31, r34_16, kq_ret c34 63, reduceIte, reduceCtorEq, XE.exit.injEq, Nat.reduceEqDiff, Nat.reduceMul, Nat.reduceAdd] <;> kernel_rfl
theorem F34_call : eInv env (k + 1) (.func 34) #[] #[x0, x1, x2] h = F34 (eInv env k) k x0 x1 x2 h := kq_inv F34_eq
noncomputable def c35 : Code := codeOf Try.prog 35
theorem r35_0  : kCode env 35 false inv k (cp c35 2) (act 35 [(0, x0), (1, x1)]) h K =
    K .normal (act 35 [(0, x0), (1, x1)]) h := kq_reg
theorem r35_1  : kCode env 35 false inv k (cp c35 6) (act 35 [(0, x0), (1, x1)]) h K =
    bnd (inv (.func 43) #[] #[x0] h) fun x8 =>
    K .normal (act 35 [(0, x0), (1, x1), (5, x8.1)]) x8.2 := kq_reg
theorem r35_2  : kCode env 35 false inv k (cp c35 28) (act 35 [(0, x0), (1, x1), (5, x5)]) h K =
    bnd (pBin Try.prog .neq 27 (.tmp 9) (.const (.int .i64 0)) x5 (.int .i64 0)) fun x10 =>
    K .normal (act 35 [(0, x0), (1, x1), (5, x5), (10, x10)]) h := kq_reg
theorem b35_rlrr  : kCode env 35 false inv k (cp c35 29) (act 35 [(0, x0), (1, x1), (5, x5), (10, x10)]) h K = brV x10 (kCode env 35 false inv k (cp c35 58) (act 35 [(0, x0), (1, x1), (5, x5), (10, x10)]) h K) (kCode env 35 false inv k (cp c35 59) (act 35 [(0, x0), (1, x1), (5, x5), (10, x10)]) h K) := kq_cond
theorem r35_3  : kCode env 35 false inv k (cp c35 116) (act 35 [(0, x0), (1, x1), (5, x5), (10, x10)]) h K =
    K .normal (act 35 [(4, x5)]) h := kq_reg
theorem res35_0 : resOfFn env.P 35 .ret (act 35 [(4, x4)]) h = some (x4, h) := kq_res
theorem r35_4  : kCode env 35 false inv k (cp c35 60) (act 35 [(0, x0), (1, x1), (5, x5), (10, x10)]) h K =
    bnd (pLen Try.prog #[37] x1 h) fun x13 =>
    bnd (pLen Try.prog #[22] x0 h) fun x15 =>
    bnd (pBin Try.prog .neq 3 (.tmp 13) (.tmp 15) x13 x15) fun x16 =>
    K .normal (act 35 [(0, x0), (1, x1), (16, x16)]) h := kq_reg
theorem b35_rlrrr  : kCode env 35 false inv k (cp c35 61) (act 35 [(0, x0), (1, x1), (16, x16)]) h K = brV x16 (kCode env 35 false inv k (cp c35 122) (act 35 [(0, x0), (1, x1), (16, x16)]) h K) (kCode env 35 false inv k (cp c35 123) (act 35 [(0, x0), (1, x1), (16, x16)]) h K) := kq_cond
theorem r35_5  : kCode env 35 false inv k (cp c35 244) (act 35 [(0, x0), (1, x1), (16, x16)]) h K =
    K .normal (act 35 [(4, (.int .i64 173))]) h := kq_reg
theorem r35_6  : kCode env 35 false inv k (cp c35 124) (act 35 [(0, x0), (1, x1), (16, x16)]) h K =
    K .normal (act 35 [(0, x0), (1, x1), (6, (.int .i64 0))]) h := kq_reg
theorem r35_7  : kCode env 35 false inv k (cp c35 2000) (act 35 [(0, x0), (1, x1), (6, x6)]) h K =
    bnd (pLen Try.prog #[37] x1 h) fun x19 =>
    bnd (pBin Try.prog .lss 3 (.tmp 17) (.tmp 19) x6 x19) fun x20 =>
    K .normal (act 35 [(0, x0), (1, x1), (6, x6), (20, x20)]) h := kq_reg
theorem b35_rlllrlrrrr  : kCode env 35 false inv k (cp c35 2001) (act 35 [(0, x0), (1, x1), (6, x6), (20, x20)]) h K = brV x20 (kCode env 35 false inv k (cp c35 4002) (act 35 [(0, x0), (1, x1), (6, x6), (20, x20)]) h K) (kCode env 35 false inv k (cp c35 4003) (act 35 [(0, x0), (1, x1), (6, x6), (20, x20)]) h K) := kq_cond
theorem r35_9  : kCode env 35 false inv k (cp c35 8008) (act 35 [(0, x0), (1, x1), (6, x6), (20, x20)]) h K =
    bnd (pIndexAddr Try.prog 22 x0 x6) fun x25 =>
    bnd (pLoad Try.prog 80 x25 h) fun x26 =>
    bnd (pIndexAddr Try.prog 37 x1 x6) fun x29 =>
    bnd (pLoad Try.prog 45 x29 h) fun x30 =>
    bnd (inv (.func 59) #[] #[x26, x30] h) fun x31 =>
    K .normal (act 35 [(0, x0), (1, x1), (5, x31.1), (6, x6)]) x31.2 := kq_draw
theorem r35_10  : kCode env 35 false inv k (cp c35 16018) (act 35 [(0, x0), (1, x1), (5, x5), (6, x6)]) h K =
    bnd (pBin Try.prog .neq 27 (.tmp 32) (.const (.int .i64 0)) x5 (.int .i64 0)) fun x33 =>
    K .normal (act 35 [(0, x0), (1, x1), (5, x5), (6, x6), (33, x33)]) h := kq_reg
theorem b35_rrllrllrlrrrr  : kCode env 35 false inv k (cp c35 16019) (act 35 [(0, x0), (1, x1), (5, x5), (6, x6), (33, x33)]) h K = brV x33 (kCode env 35 false inv k (cp c35 32038) (act 35 [(0, x0), (1, x1), (5, x5), (6, x6), (33, x33)]) h K) (kCode env 35 false inv k (cp c35 32039) (act 35 [(0, x0), (1, x1), (5, x5), (6, x6), (33, x33)]) h K) := kq_cond
theorem r35_11  : kCode env 35 false inv k (cp c35 64076) (act 35 [(0, x0), (1, x1), (5, x5), (6, x6), (33, x33)]) h K =
    K .normal (act 35 [(4, x5)]) h := kq_reg
theorem r35_8  : kCode env 35 false inv k (cp c35 2003) (act 35 [(0, x0), (1, x1), (5, x5), (6, x6), (33, x33)]) h K =
    bnd (pBin Try.prog .add 3 (.tmp 21) (.const (.int .i64 1)) x6 (.int .i64 1)) fun x22 =>
    K .normal (act 35 [(0, x0), (1, x1), (6, x22)]) h := kq_reg
noncomputable def F35_lrlrrrr {β : Type} (inv : Inv) (k : Nat) : Nat → Value → Value → Value → AH → (Value → Value → Value → Value → AH → Option β) → (Value → AH → Option β) → Option β
  | 0, _, _, _, _, _, _ => none
  | j + 1, x0, x1, x6, h, ke0, kr =>
    bnd (pLen Try.prog #[37] x1 h) fun x19 =>
    bnd (pBin Try.prog .lss 3 (.tmp 17) (.tmp 19) x6 x19) fun x20 =>
    brV x20
    (bnd (pIndexAddr Try.prog 22 x0 x6) fun x25 =>
    bnd (pLoad Try.prog 80 x25 h) fun x26 =>
    bnd (pIndexAddr Try.prog 37 x1 x6) fun x29 =>
    bnd (pLoad Try.prog 45 x29 h) fun x30 =>
    bnd (inv (.func 59) #[] #[x26, x30] h) fun x31 =>
    bnd (pBin Try.prog .neq 27 (.tmp 32) (.const (.int .i64 0)) x31.1 (.int .i64 0)) fun x33 =>
    brV x33
    (kr x31.1 x31.2)
    (bnd (pBin Try.prog .add 3 (.tmp 21) (.const (.int .i64 1)) x6 (.int .i64 1)) fun x22 =>
    F35_lrlrrrr inv k j x0 x1 x22 x31.2 ke0 kr))
    (ke0 x0 x1 x6 x20 h)
theorem F35_lrlrrrr_j (j : Nat) : kLoop (kCode env 35 false inv k (cp c35 500)) j (act 35 [(0, x0), (1, x1), (6, x6)]) h K = F35_lrlrrrr inv k j x0 x1 x6 h (fun y0 y1 y6 y20 h => K (.exit 0) (act 35 [(0, y0), (1, y1), (6, y6), (20, y20)]) h) (fun y4 h => K .ret (act 35 [(4, y4)]) h) := by
      induction j generalizing x0 x1 x6 h with
      | zero => rfl
      | succ j ih =>
        unfold F35_lrlrrrr
        simp only [kLoop, kq_seq c35 500, kq_seq c35 1000, r35_7, b35_rlllrlrrrr, kq_skip c35 4002, kq_seq c35 1001, kq_block c35 2002 1, kq_seq c35 4004, r35_9, kq_seq c35 8009, r35_10, b35_rrllrllrlrrrr, kq_seq c35 32038, r35_11, kq_ret c35 64077, kq_skip c35 32039, r35_8, kq_exit c35 4003 0, ih, reduceIte, reduceCtorEq, XE.exit.injEq, Nat.reduceEqDiff, Nat.reduceMul, Nat.reduceAdd] <;> kernel_rfl
theorem F35_lrlrrrr_eq  : kCode env 35 false inv k (cp c35 250) (act 35 [(0, x0), (1, x1), (6, x6)]) h K = F35_lrlrrrr inv k k x0 x1 x6 h (fun y0 y1 y6 y20 h => K (.exit 0) (act 35 [(0, y0), (1, y1), (6, y6), (20, y20)]) h) (fun y4 h => K .ret (act 35 [(4, y4)]) h) := kq_loop (F35_lrlrrrr_j k)
theorem r35_12  : kCode env 35 false inv k (cp c35 126) (act 35 [(0, x0), (1, x1), (6, x6), (20, x20)]) h K =
    K .normal (act 35 [(4, (.int .i64 0))]) h := kq_reg
/-- shadowbook/shadowbookref17.Row -/
noncomputable def F35 (inv : Inv) (k : Nat) (x0 x1 : Value) (h : AH) : Option (Value × AH) :=
    bnd (inv (.func 43) #[] #[x0] h) fun x8 =>
    bnd (pBin Try.prog .neq 27 (.tmp 9) (.const (.int .i64 0)) x8.1 (.int .i64 0)) fun x10 =>
    brV x10
    (some (x8.1, x8.2))
    (bnd (pLen Try.prog #[37] x1 x8.2) fun x13 =>
    bnd (pLen Try.prog #[22] x0 x8.2) fun x15 =>
    bnd (pBin Try.prog .neq 3 (.tmp 13) (.tmp 15) x13 x15) fun x16 =>
    brV x16
    (some ((.int .i64 173), x8.2))
    (F35_lrlrrrr inv k k x0 x1 (.int .i64 0) x8.2
    (fun y0 y1 y6 y20 h =>
    some ((.int .i64 0), h))
    (fun y4 h_1 =>
    some (y4, h_1))))
theorem F35_eq : eFun env k inv 35 #[x0, x1] h = F35 inv k x0 x1 h := by
      refine (kq_fun (a := act 35 [(0, x0), (1, x1)]) (c := cp c35 1)).trans ?_
      unfold F35
      simp only [kq_seq c35 1, r35_0, kq_seq c35 3, r35_1, kq_seq c35 7, kq_seq c35 14, r35_2, b35_rlrr, kq_seq c35 58, r35_3, kq_ret c35 117, res35_0, kq_skip c35 59, kq_seq c35 15, kq_seq c35 30, r35_4, b35_rlrrr, kq_seq c35 122, r35_5, kq_ret c35 245, kq_skip c35 123, kq_seq c35 31, kq_seq c35 62, r35_6, kq_block c35 125 0, F35_lrlrrrr_eq, kq_seq c35 63, r35_12, kq_ret c35 127, reduceIte, reduceCtorEq, XE.exit.injEq, Nat.reduceEqDiff, Nat.reduceMul, Nat.reduceAdd] <;> kernel_rfl
theorem F35_call : eInv env (k + 1) (.func 35) #[] #[x0, x1] h = F35 (eInv env k) k x0 x1 h := kq_inv F35_eq
noncomputable def c36 : Code := codeOf Try.prog 36
theorem r36_0  : kCode env 36 false inv k (cp c36 2) (act 42 [(0, x0), (1, x1)]) h K =
    K .normal (act 42 [(0, x0), (1, x1)]) h := kq_reg
theorem r36_1  : kCode env 36 false inv k (cp c36 6) (act 42 [(0, x0), (1, x1)]) h K =
    bnd (inv (.func 60) #[] #[x0, x1] h) fun x10 =>
    K .normal (act 42 [(0, x0), (1, x1), (5, x10.1)]) x10.2 := kq_reg
theorem r36_2  : kCode env 36 false inv k (cp c36 28) (act 42 [(0, x0), (1, x1), (5, x5)]) h K =
    bnd (pBin Try.prog .eql 3 (.tmp 11) (.const (.int .i64 (-1))) x5 (.int .i64 (-1))) fun x12 =>
    K .normal (act 42 [(0, x0), (1, x1), (5, x5), (12, x12)]) h := kq_reg
theorem b36_rlrr  : kCode env 36 false inv k (cp c36 29) (act 42 [(0, x0), (1, x1), (5, x5), (12, x12)]) h K = brV x12 (kCode env 36 false inv k (cp c36 58) (act 42 [(0, x0), (1, x1), (5, x5), (12, x12)]) h K) (kCode env 36 false inv k (cp c36 59) (act 42 [(0, x0), (1, x1), (5, x5), (12, x12)]) h K) := kq_cond
theorem r36_3  : kCode env 36 false inv k (cp c36 116) (act 42 [(0, x0), (1, x1), (5, x5), (12, x12)]) h K =
    K .normal (act 42 [(4, x0)]) h := kq_reg
theorem res36_0 : resOfFn env.P 36 .ret (act 42 [(4, x4)]) h = some (x4, h) := kq_res
theorem r36_4  : kCode env 36 false inv k (cp c36 60) (act 42 [(0, x0), (1, x1), (5, x5), (12, x12)]) h K =
    bnd (pBin Try.prog .add 3 (.tmp 14) (.const (.int .i64 1)) x5 (.int .i64 1)) fun x15 =>
    K .normal (act 42 [(0, x0), (1, x1), (5, x5), (6, x15)]) h := kq_reg
theorem r36_5  : kCode env 36 false inv k (cp c36 976) (act 42 [(0, x0), (1, x1), (5, x5), (6, x6)]) h K =
    bnd (pLen Try.prog #[23] x0 h) fun x18 =>
    bnd (pBin Try.prog .lss 3 (.tmp 16) (.tmp 18) x6 x18) fun x19 =>
    K .normal (act 42 [(0, x0), (1, x1), (5, x5), (6, x6), (19, x19)]) h := kq_reg
theorem b36_rlllrlrrr  : kCode env 36 false inv k (cp c36 977) (act 42 [(0, x0), (1, x1), (5, x5), (6, x6), (19, x19)]) h K = brV x19 (kCode env 36 false inv k (cp c36 1954) (act 42 [(0, x0), (1, x1), (5, x5), (6, x6), (19, x19)]) h K) (kCode env 36 false inv k (cp c36 1955) (act 42 [(0, x0), (1, x1), (5, x5), (6, x6), (19, x19)]) h K) := kq_cond
theorem r36_7  : kCode env 36 false inv k (cp c36 3912) (act 42 [(0, x0), (1, x1), (5, x5), (6, x6), (19, x19)]) h K =
    bnd (pIndexAddr Try.prog 23 x0 x6) fun x24 =>
    bnd (pLoad Try.prog 37 x24 h) fun x25 =>
    K .normal (act 42 [(0, x0), (1, x1), (5, x5), (6, x6), (7, x25)]) h := kq_reg
theorem r36_8  : kCode env 36 false inv k (cp c36 7826) (act 42 [(0, x0), (1, x1), (5, x5), (6, x6), (7, x7)]) h K =
    bnd (callV inv x1 #[x7] h) fun x28 =>
    bnd (pUn Try.prog .not x28.1) fun x29 =>
    K .normal (act 42 [(0, x0), (1, x1), (5, x5), (6, x6), (7, x7), (29, x29)]) x28.2 := kq_reg
theorem b36_rrllrllrlrrr  : kCode env 36 false inv k (cp c36 7827) (act 42 [(0, x0), (1, x1), (5, x5), (6, x6), (7, x7), (29, x29)]) h K = brV x29 (kCode env 36 false inv k (cp c36 15654) (act 42 [(0, x0), (1, x1), (5, x5), (6, x6), (7, x7), (29, x29)]) h K) (kCode env 36 false inv k (cp c36 15655) (act 42 [(0, x0), (1, x1), (5, x5), (6, x6), (7, x7), (29, x29)]) h K) := kq_cond
theorem r36_9  : kCode env 36 false inv k (cp c36 31308) (act 42 [(0, x0), (1, x1), (5, x5), (6, x6), (7, x7), (29, x29)]) h K =
    bnd (pIndexAddr Try.prog 23 x0 x5) fun x33 =>
    bnd (kSt (pStore Try.prog 37 x33 x7 h)) fun u =>
    K .normal (act 42 [(0, x0), (1, x1), (5, x5), (6, x6)]) u.2 := kq_reg
theorem r36_10  : kCode env 36 false inv k (cp c36 31309) (act 42 [(0, x0), (1, x1), (5, x5), (6, x6)]) h K =
    bnd (pBin Try.prog .add 3 (.tmp 34) (.const (.int .i64 1)) x5 (.int .i64 1)) fun x35 =>
    K .normal (act 42 [(0, x0), (1, x1), (5, x35), (6, x6)]) h := kq_reg
noncomputable def F36_lrllrlrrr {β : Type} (inv : Inv) (k : Nat) (x0 x1 x5 x6 x19 : Value) (h : AH) (kn : (Value → Value → Value → Value → Value → Value → AH → Option β)) : Option β :=
    bnd (pIndexAddr Try.prog 23 x0 x6) fun x24 =>
    bnd (pLoad Try.prog 37 x24 h) fun x25 =>
    bnd (callV inv x1 #[x25] h) fun x28 =>
    bnd (pUn Try.prog .not x28.1) fun x29 =>
    brV x29
    (bnd (pIndexAddr Try.prog 23 x0 x5) fun x33 =>
    bnd (kSt (pStore Try.prog 37 x33 x25 x28.2)) fun u =>
    bnd (pBin Try.prog .add 3 (.tmp 34) (.const (.int .i64 1)) x5 (.int .i64 1)) fun x35 =>
    kn x0 x1 x35 x6 unk unk u.2)
    (kn x0 x1 x5 x6 x25 x29 x28.2)
theorem F36_lrllrlrrr_eq  : kCode env 36 false inv k (cp c36 978) (act 42 [(0, x0), (1, x1), (5, x5), (6, x6), (19, x19)]) h K = F36_lrllrlrrr inv k x0 x1 x5 x6 x19 h (fun y0 y1 y5 y6 y7 y29 h => K .normal (act 42 [(0, y0), (1, y1), (5, y5), (6, y6), (7, y7), (29, y29)]) h) := by
      unfold F36_lrllrlrrr
      simp only [kq_block c36 978 1, kq_seq c36 1956, r36_7, kq_seq c36 3913, r36_8, b36_rrllrllrlrrr, kq_seq c36 15654, r36_9, r36_10, kq_skip c36 15655, reduceIte, reduceCtorEq, XE.exit.injEq, Nat.reduceEqDiff, Nat.reduceMul, Nat.reduceAdd] <;> kernel_rfl
theorem r36_6  : kCode env 36 false inv k (cp c36 979) (act 42 [(0, x0), (1, x1), (5, x5), (6, x6), (7, x7), (29, x29)]) h K =
    bnd (pBin Try.prog .add 3 (.tmp 20) (.const (.int .i64 1)) x6 (.int .i64 1)) fun x21 =>
    K .normal (act 42 [(0, x0), (1, x1), (5, x5), (6, x21)]) h := kq_reg
noncomputable def F36_lrlrrr {β : Type} (inv : Inv) (k : Nat) : Nat → Value → Value → Value → Value → AH → (Value → Value → Value → Value → Value → AH → Option β) → Option β
  | 0, _, _, _, _, _, _ => none
  | j + 1, x0, x1, x5, x6, h, ke0 =>
    bnd (pLen Try.prog #[23] x0 h) fun x18 =>
    bnd (pBin Try.prog .lss 3 (.tmp 16) (.tmp 18) x6 x18) fun x19 =>
    brV x19
    (F36_lrllrlrrr inv k x0 x1 x5 x6 x19 h
    (fun y0 y1 y5 y6 y7 y29 h =>
    bnd (pBin Try.prog .add 3 (.tmp 20) (.const (.int .i64 1)) y6 (.int .i64 1)) fun x21 =>
    F36_lrlrrr inv k j y0 y1 y5 x21 h ke0))
    (ke0 x0 x1 x5 x6 x19 h)
theorem F36_lrlrrr_j (j : Nat) : kLoop (kCode env 36 false inv k (cp c36 244)) j (act 42 [(0, x0), (1, x1), (5, x5), (6, x6)]) h K = F36_lrlrrr inv k j x0 x1 x5 x6 h (fun y0 y1 y5 y6 y19 h => K (.exit 0) (act 42 [(0, y0), (1, y1), (5, y5), (6, y6), (19, y19)]) h) := by
      induction j generalizing x0 x1 x5 x6 h with
      | zero => rfl
      | succ j ih =>
        unfold F36_lrlrrr
        simp only [kLoop, kq_seq c36 244, kq_seq c36 488, r36_5, b36_rlllrlrrr, kq_skip c36 1954, kq_seq c36 489, F36_lrllrlrrr_eq, r36_6, kq_exit c36 1955 0, ih, reduceIte, reduceCtorEq, XE.exit.injEq, Nat.reduceEqDiff, Nat.reduceMul, Nat.reduceAdd] <;> kernel_rfl
theorem F36_lrlrrr_eq  : kCode env 36 false inv k (cp c36 122) (act 42 [(0, x0), (1, x1), (5, x5), (6, x6)]) h K = F36_lrlrrr inv k k x0 x1 x5 x6 h (fun y0 y1 y5 y6 y19 h => K (.exit 0) (act 42 [(0, y0), (1, y1), (5, y5), (6, y6), (19, y19)]) h) := kq_loop (F36_lrlrrr_j k)
theorem r36_11  : kCode env 36 false inv k (cp c36 62) (act 42 [(0, x0), (1, x1), (5, x5), (6, x6), (19, x19)]) h K =
    bnd (pSlice Try.prog 23 x0 (some x5) none none h) fun x38 =>
    bnd (kSt (pClear Try.prog #[23] x38 h)) fun u =>
    K .normal (act 42 [(0, x0), (5, x5)]) u.2 := kq_reg
theorem r36_12  : kCode env 36 false inv k (cp c36 126) (act 42 [(0, x0), (5, x5)]) h K =
    bnd (pSlice Try.prog 23 x0 none (some x5) none h) fun x41 =>
    K .normal (act 42 [(4, x41)]) h := kq_reg
/-- slices.DeleteFunc[[][]shadowbook/api.Cell,[]shadowbook/api.Cell] -/
noncomputable def F36 (inv : Inv) (k : Nat) (x0 x1 : Value) (h : AH) : Option (Value × AH) :=
    bnd (inv (.func 60) #[] #[x0, x1] h) fun x10 =>
    bnd (pBin Try.prog .eql 3 (.tmp 11) (.const (.int .i64 (-1))) x10.1 (.int .i64 (-1))) fun x12 =>
    brV x12
    (some (x0, x10.2))
    (bnd (pBin Try.prog .add 3 (.tmp 14) (.const (.int .i64 1)) x10.1 (.int .i64 1)) fun x15 =>
    F36_lrlrrr inv k k x0 x1 x10.1 x15 x10.2
    (fun y0 y1 y5 y6 y19 h =>
    bnd (pSlice Try.prog 23 y0 (some y5) none none h) fun x38 =>
    bnd (kSt (pClear Try.prog #[23] x38 h)) fun u =>
    bnd (pSlice Try.prog 23 y0 none (some y5) none u.2) fun x41 =>
    some (x41, u.2)))
theorem F36_eq : eFun env k inv 36 #[x0, x1] h = F36 inv k x0 x1 h := by
      refine (kq_fun (a := act 42 [(0, x0), (1, x1)]) (c := cp c36 1)).trans ?_
      unfold F36
      simp only [kq_seq c36 1, r36_0, kq_seq c36 3, r36_1, kq_seq c36 7, kq_seq c36 14, r36_2, b36_rlrr, kq_seq c36 58, r36_3, kq_ret c36 117, res36_0, kq_skip c36 59, kq_seq c36 15, kq_seq c36 30, r36_4, kq_block c36 61 0, F36_lrlrrr_eq, kq_seq c36 31, r36_11, kq_seq c36 63, r36_12, kq_ret c36 127, reduceIte, reduceCtorEq, XE.exit.injEq, Nat.reduceEqDiff, Nat.reduceMul, Nat.reduceAdd] <;> kernel_rfl
theorem F36_call : eInv env (k + 1) (.func 36) #[] #[x0, x1] h = F36 (eInv env k) k x0 x1 h := kq_inv F36_eq
noncomputable def c37 : Code := codeOf Try.prog 37
theorem r37_0  : kCode env 37 false inv k (cp c37 2) (act 8 [(0, x0), (1, x1)]) h K =
    K .normal (act 8 [(0, x0), (1, x1)]) h := kq_reg
theorem r37_1  : kCode env 37 false inv k (cp c37 6) (act 8 [(0, x0), (1, x1)]) h K =
    bnd (pFieldAddr Try.prog 39 x1 2) fun x4 =>
    bnd (pLoad Try.prog 35 x4 h) fun x5 =>
    bnd (inv (.func 38) #[] #[x5, x0] h) fun x7 =>
    K .normal (act 8 [(3, x7.1)]) x7.2 := kq_reg
theorem res37_0 : resOfFn env.P 37 .ret (act 8 [(3, x3)]) h = some (x3, h) := kq_res
/-- shadowbook/batch.One$1 -/
noncomputable def F37 (inv : Inv) (k : Nat) (x0 x1 : Value) (h : AH) : Option (Value × AH) :=
    bnd (pFieldAddr Try.prog 39 x1 2) fun x4 =>
    bnd (pLoad Try.prog 35 x4 h) fun x5 =>
    bnd (inv (.func 38) #[] #[x5, x0] h) fun x7 =>
    some (x7.1, x7.2)
theorem F37_eq : eFun env k inv 37 #[x0, x1] h = F37 inv k x0 x1 h := by
      refine (kq_fun (a := act 8 [(0, x0), (1, x1)]) (c := cp c37 1)).trans ?_
      unfold F37
      simp only [kq_seq c37 1, r37_0, kq_seq c37 3, r37_1, kq_ret c37 7, res37_0, reduceIte, reduceCtorEq, XE.exit.injEq, Nat.reduceEqDiff, Nat.reduceMul, Nat.reduceAdd] <;> kernel_rfl
theorem F37_call : eInv env (k + 1) (.func 37) #[] #[x0, x1] h = F37 (eInv env k) k x0 x1 h := kq_inv F37_eq
noncomputable def c38 : Code := codeOf Try.prog 38
theorem r38_0  : kCode env 38 false inv k (cp c38 2) (act 11 [(0, x0), (1, x1)]) h K =
    bnd (pBox Try.prog 37 x1 h) fun x3 =>
    K .normal (act 11 [(0, x0), (3, x3.1)]) x3.2 := kq_reg
theorem r38_1  : kCode env 38 false inv k (cp c38 12) (act 11 [(0, x0), (3, x3)]) h K =
    bnd (pLen Try.prog #[35] x0 h) fun x6 =>
    bnd (pBin Try.prog .eql 3 (.tmp 6) (.const (.int .i64 0)) x6 (.int .i64 0)) fun x7 =>
    K .normal (act 11 [(0, x0), (3, x3), (7, x7)]) h := kq_reg
theorem b38_rlr  : kCode env 38 false inv k (cp c38 13) (act 11 [(0, x0), (3, x3), (7, x7)]) h K = brV x7 (kCode env 38 false inv k (cp c38 26) (act 11 [(0, x0), (3, x3), (7, x7)]) h K) (kCode env 38 false inv k (cp c38 27) (act 11 [(0, x0), (3, x3), (7, x7)]) h K) := kq_cond
theorem r38_2  : kCode env 38 false inv k (cp c38 52) (act 11 [(0, x0), (3, x3), (7, x7)]) h K =
    K .normal (act 11 [(4, (.bool true))]) h := kq_reg
theorem res38_0 : resOfFn env.P 38 .ret (act 11 [(4, x4)]) h = some (x4, h) := kq_res
theorem r38_3  : kCode env 38 false inv k (cp c38 14) (act 11 [(0, x0), (3, x3), (7, x7)]) h K =
    bnd (pMakeFunc (.func 62) #[] #[x3]) fun x9 =>
    bnd (inv (.func 61) #[] #[x0, (.bool false), x9] h) fun x10 =>
    K .normal (act 11 [(4, x10.1)]) x10.2 := kq_reg
/-- shadowbook/pred.Holds -/
noncomputable def F38 (inv : Inv) (k : Nat) (x0 x1 : Value) (h : AH) : Option (Value × AH) :=
    bnd (pBox Try.prog 37 x1 h) fun x3 =>
    bnd (pLen Try.prog #[35] x0 x3.2) fun x6 =>
    bnd (pBin Try.prog .eql 3 (.tmp 6) (.const (.int .i64 0)) x6 (.int .i64 0)) fun x7 =>
    brV x7
    (some ((.bool true), x3.2))
    (bnd (pMakeFunc (.func 62) #[] #[x3.1]) fun x9 =>
    bnd (inv (.func 61) #[] #[x0, (.bool false), x9] x3.2) fun x10 =>
    some (x10.1, x10.2))
theorem F38_eq : eFun env k inv 38 #[x0, x1] h = F38 inv k x0 x1 h := by
      refine (kq_fun (a := act 11 [(0, x0), (1, x1)]) (c := cp c38 1)).trans ?_
      unfold F38
      simp only [kq_seq c38 1, r38_0, kq_seq c38 3, kq_seq c38 6, r38_1, b38_rlr, kq_seq c38 26, r38_2, kq_ret c38 53, res38_0, kq_skip c38 27, kq_seq c38 7, r38_3, kq_ret c38 15, reduceIte, reduceCtorEq, XE.exit.injEq, Nat.reduceEqDiff, Nat.reduceMul, Nat.reduceAdd] <;> kernel_rfl
theorem F38_call : eInv env (k + 1) (.func 38) #[] #[x0, x1] h = F38 (eInv env k) k x0 x1 h := kq_inv F38_eq
noncomputable def c39 : Code := codeOf Try.prog 39
theorem r39_0  : kCode env 39 false inv k (cp c39 2) (act 38 [(0, x0), (1, x1)]) h K =
    bnd (pBox Try.prog 39 x1 h) fun x3 =>
    K .normal (act 38 [(0, x0), (3, x3.1)]) x3.2 := kq_reg
theorem r39_1  : kCode env 39 false inv k (cp c39 6) (act 38 [(0, x0), (3, x3)]) h K =
    bnd (pFieldAddr Try.prog 39 x3 3) fun x6 =>
    bnd (pLoad Try.prog 36 x6 h) fun x7 =>
    bnd (pLen Try.prog #[36] x7 h) fun x8 =>
    K .normal (act 38 [(0, x0), (3, x3), (7, x7), (8, x8), (9, (.int .i64 0))]) h := kq_reg
theorem r39_2  : kCode env 39 false inv k (cp c39 56) (act 38 [(0, x0), (3, x3), (7, x7), (8, x8), (9, x9)]) h K =
    bnd (pBin Try.prog .lss 3 (.tmp 9) (.tmp 8) x9 x8) fun x10 =>
    K .normal (act 38 [(0, x0), (3, x3), (7, x7), (8, x8), (9, x9), (10, x10)]) h := kq_reg
theorem b39_lrllrr  : kCode env 39 false inv k (cp c39 114) (act 38 [(0, x0), (3, x3), (7, x7), (8, x8), (9, x9), (10, x10)]) h K = brV x10 (kCode env 39 false inv k (cp c39 228) (act 38 [(0, x0), (3, x3), (7, x7), (8, x8), (9, x9), (10, x10)]) h K) (kCode env 39 false inv k (cp c39 229) (act 38 [(0, x0), (3, x3), (7, x7), (8, x8), (9, x9), (10, x10)]) h K) := kq_cond
theorem r39_3  : kCode env 39 false inv k (cp c39 920) (act 38 [(0, x0), (3, x3), (7, x7), (8, x8), (9, x9), (10, x10)]) h K =
    bnd (pIndexAddr Try.prog 36 x7 x9) fun x12 =>
    bnd (pLoad Try.prog 3 x12 h) fun x13 =>
    K .normal (act 38 [(0, x0), (3, x3), (4, x9), (5, x13), (7, x7), (8, x8), (9, x9)]) h := kq_reg
noncomputable abbrev G39_4 {β : Type} (inv : Inv) (x0 x3 x4 x5 x7 x8 x9 : Value) (h : AH) (K : Value → AH → Option β) : Option β :=
    bnd (pFieldAddr Try.prog 39 x3 4) fun x15 =>
    bnd (pLoad Try.prog 37 x15 h) fun x16 =>
    bnd (pLen Try.prog #[37] x16 h) fun x17 =>
    bnd (pBin Try.prog .lss 3 (.tmp 14) (.tmp 17) x4 x17) fun x18 =>
    bnd (gd (some x18) true h (some (x5, h))) fun x20 =>
    bnd (gd (some x18) true x20.2 (lt (pBin Try.prog .geq 3 (.tmp 20) (.const (.int .i64 0)) x20.1 (.int .i64 0)) x20.2)) fun x21 =>
    bnd (pickV x18 x21.1 (.bool false)) fun x22 =>
    bnd (gd (some x22) true x21.2 (some (x5, x21.2))) fun x24 =>
    bnd (gd (some x22) true x24.2 (some (x0, x24.2))) fun x25 =>
    bnd (gd (some x22) true x25.2 (lt (pLen Try.prog #[37] x25.1 x25.2) x25.2)) fun x26 =>
    bnd (gd (some x22) true x26.2 (lt (pBin Try.prog .lss 3 (.tmp 24) (.tmp 26) x24.1 x26.1) x26.2)) fun x27 =>
    bnd (pickV x22 x27.1 (.bool false)) fun x28 =>
    K (x28) x27.2
theorem r39_4  : kCode env 39 false inv k (cp c39 1842) (act 38 [(0, x0), (3, x3), (4, x4), (5, x5), (7, x7), (8, x8), (9, x9)]) h K =
    G39_4 inv x0 x3 x4 x5 x7 x8 x9 h fun y28 h => K .normal (act 38 [(0, x0), (3, x3), (4, x4), (5, x5), (7, x7), (8, x8), (9, x9), (28, y28)]) h := kq_reg
theorem b39_rrllrrllrr  : kCode env 39 false inv k (cp c39 1843) (act 38 [(0, x0), (3, x3), (4, x4), (5, x5), (7, x7), (8, x8), (9, x9), (28, x28)]) h K = brV x28 (kCode env 39 false inv k (cp c39 3686) (act 38 [(0, x0), (3, x3), (4, x4), (5, x5), (7, x7), (8, x8), (9, x9), (28, x28)]) h K) (kCode env 39 false inv k (cp c39 3687) (act 38 [(0, x0), (3, x3), (4, x4), (5, x5), (7, x7), (8, x8), (9, x9), (28, x28)]) h K) := kq_cond
theorem r39_5  : kCode env 39 false inv k (cp c39 3686) (act 38 [(0, x0), (3, x3), (4, x4), (5, x5), (7, x7), (8, x8), (9, x9), (28, x28)]) h K =
    bnd (pFieldAddr Try.prog 39 x3 4) fun x31 =>
    bnd (pLoad Try.prog 37 x31 h) fun x32 =>
    bnd (pIndexAddr Try.prog 37 x32 x4) fun x34 =>
    bnd (pLoad Try.prog 45 x34 h) fun x35 =>
    bnd (pIndexAddr Try.prog 37 x0 x5) fun x36 =>
    bnd (kSt (pStore Try.prog 45 x36 x35 h)) fun u =>
    K .normal (act 38 [(0, x0), (3, x3), (7, x7), (8, x8), (9, x9)]) u.2 := kq_reg
noncomputable def F39_lrrllrr {β : Type} (inv : Inv) (k : Nat) (x0 x3 x7 x8 x9 x10 : Value) (h : AH) (kn : (Value → Value → Value → Value → Value → Value → Value → Value → AH → Option β)) : Option β :=
    bnd (pIndexAddr Try.prog 36 x7 x9) fun x12 =>
    bnd (pLoad Try.prog 3 x12 h) fun x13 =>
    G39_4 inv x0 x3 x9 x13 x7 x8 x9 h fun y28 h =>
    brV y28
    (bnd (pFieldAddr Try.prog 39 x3 4) fun x31 =>
    bnd (pLoad Try.prog 37 x31 h) fun x32 =>
    bnd (pIndexAddr Try.prog 37 x32 x9) fun x34 =>
    bnd (pLoad Try.prog 45 x34 h) fun x35 =>
    bnd (pIndexAddr Try.prog 37 x0 x13) fun x36 =>
    bnd (kSt (pStore Try.prog 45 x36 x35 h)) fun u =>
    kn x0 x3 unk unk x7 x8 x9 unk u.2)
    (kn x0 x3 x9 x13 x7 x8 x9 y28 h)
theorem F39_lrrllrr_eq  : kCode env 39 false inv k (cp c39 230) (act 38 [(0, x0), (3, x3), (7, x7), (8, x8), (9, x9), (10, x10)]) h K = F39_lrrllrr inv k x0 x3 x7 x8 x9 x10 h (fun y0 y3 y4 y5 y7 y8 y9 y28 h => K .normal (act 38 [(0, y0), (3, y3), (4, y4), (5, y5), (7, y7), (8, y8), (9, y9), (28, y28)]) h) := by
      unfold F39_lrrllrr
      simp only [kq_block c39 230 1, kq_seq c39 460, r39_3, kq_seq c39 921, r39_4, b39_rrllrrllrr, r39_5, kq_skip c39 3687, reduceIte, reduceCtorEq, XE.exit.injEq, Nat.reduceEqDiff, Nat.reduceMul, Nat.reduceAdd] <;> kernel_rfl
theorem r39_6  : kCode env 39 false inv k (cp c39 231) (act 38 [(0, x0), (3, x3), (4, x4), (5, x5), (7, x7), (8, x8), (9, x9), (28, x28)]) h K =
    bnd (pBin Try.prog .add 3 (.tmp 9) (.const (.int .i64 1)) x9 (.int .i64 1)) fun x37 =>
    K .normal (act 38 [(0, x0), (3, x3), (7, x7), (8, x8), (9, x37)]) h := kq_reg
noncomputable def F39_lrr {β : Type} (inv : Inv) (k : Nat) : Nat → Value → Value → Value → Value → Value → AH → (Value → Value → Value → Value → Value → Value → AH → Option β) → Option β
  | 0, _, _, _, _, _, _, _ => none
  | j + 1, x0, x3, x7, x8, x9, h, ke0 =>
    bnd (pBin Try.prog .lss 3 (.tmp 9) (.tmp 8) x9 x8) fun x10 =>
    brV x10
    (F39_lrrllrr inv k x0 x3 x7 x8 x9 x10 h
    (fun y0 y3 y4 y5 y7 y8 y9 y28 h =>
    bnd (pBin Try.prog .add 3 (.tmp 9) (.const (.int .i64 1)) y9 (.int .i64 1)) fun x37 =>
    F39_lrr inv k j y0 y3 y7 y8 x37 h ke0))
    (ke0 x0 x3 x7 x8 x9 x10 h)
theorem F39_lrr_j (j : Nat) : kLoop (kCode env 39 false inv k (cp c39 28)) j (act 38 [(0, x0), (3, x3), (7, x7), (8, x8), (9, x9)]) h K = F39_lrr inv k j x0 x3 x7 x8 x9 h (fun y0 y3 y7 y8 y9 y10 h => K (.exit 0) (act 38 [(0, y0), (3, y3), (7, y7), (8, y8), (9, y9), (10, y10)]) h) := by
      induction j generalizing x0 x3 x7 x8 x9 h with
      | zero => rfl
      | succ j ih =>
        unfold F39_lrr
        simp only [kLoop, kq_seq c39 28, r39_2, kq_seq c39 57, b39_lrllrr, kq_skip c39 228, kq_seq c39 115, F39_lrrllrr_eq, r39_6, kq_exit c39 229 0, ih, reduceIte, reduceCtorEq, XE.exit.injEq, Nat.reduceEqDiff, Nat.reduceMul, Nat.reduceAdd] <;> kernel_rfl
theorem F39_lrr_eq  : kCode env 39 false inv k (cp c39 14) (act 38 [(0, x0), (3, x3), (7, x7), (8, x8), (9, x9)]) h K = F39_lrr inv k k x0 x3 x7 x8 x9 h (fun y0 y3 y7 y8 y9 y10 h => K (.exit 0) (act 38 [(0, y0), (3, y3), (7, y7), (8, y8), (9, y9), (10, y10)]) h) := kq_loop (F39_lrr_j k)
theorem res39_0 : resOfFn env.P 39 .normal (act 38 [(0, x0), (3, x3), (7, x7), (8, x8), (9, x9), (10, x10)]) h = some (.tuple #[], h) := kq_res
/-- shadowbook/batch.set -/
noncomputable def F39 (inv : Inv) (k : Nat) (x0 x1 : Value) (h : AH) : Option (Value × AH) :=
    bnd (pBox Try.prog 39 x1 h) fun x3 =>
    bnd (pFieldAddr Try.prog 39 x3.1 3) fun x6 =>
    bnd (pLoad Try.prog 36 x6 x3.2) fun x7 =>
    bnd (pLen Try.prog #[36] x7 x3.2) fun x8 =>
    F39_lrr inv k k x0 x3.1 x7 x8 (.int .i64 0) x3.2
    (fun y0 y3 y7 y8 y9 y10 h =>
    some (.tuple #[], h))
theorem F39_eq : eFun env k inv 39 #[x0, x1] h = F39 inv k x0 x1 h := by
      refine (kq_fun (a := act 38 [(0, x0), (1, x1)]) (c := cp c39 1)).trans ?_
      unfold F39
      simp only [kq_seq c39 1, r39_0, kq_seq c39 3, r39_1, kq_block c39 7 0, F39_lrr_eq, res39_0, reduceIte, reduceCtorEq, XE.exit.injEq, Nat.reduceEqDiff, Nat.reduceMul, Nat.reduceAdd] <;> kernel_rfl
theorem F39_call : eInv env (k + 1) (.func 39) #[] #[x0, x1] h = F39 (eInv env k) k x0 x1 h := kq_inv F39_eq
noncomputable def c43 : Code := codeOf Try.prog 43
theorem r43_0  : kCode env 43 false inv k (cp c43 2) (act 56 [(0, x0)]) h K =
    K .normal (act 56 [(0, x0)]) h := kq_reg
noncomputable abbrev G43_1 {β : Type} (inv : Inv) (x0 : Value) (h : AH) (K : Value → AH → Option β) : Option β :=
    bnd (pLen Try.prog #[22] x0 h) fun x6 =>
    bnd (pBin Try.prog .lss 3 (.tmp 6) (.const (.int .i64 1)) x6 (.int .i64 1)) fun x7 =>
    bnd (gd (some x7) false h (some (x0, h))) fun x9 =>
    bnd (gd (some x7) false x9.2 (lt (pLen Try.prog #[22] x9.1 x9.2) x9.2)) fun x10 =>
    bnd (gd (some x7) false x10.2 (lt (pBin Try.prog .gtr 3 (.tmp 10) (.const (.int .i64 16)) x10.1 (.int .i64 16)) x10.2)) fun x11 =>
    bnd (pickV x7 (.bool true) x11.1) fun x12 =>
    K (x12) x11.2
theorem r43_1  : kCode env 43 false inv k (cp c43 12) (act 56 [(0, x0)]) h K =
    G43_1 inv x0 h fun y12 h => K .normal (act 56 [(0, x0), (12, y12)]) h := kq_reg
theorem b43_rlr  : kCode env 43 false inv k (cp c43 13) (act 56 [(0, x0), (12, x12)]) h K = brV x12 (kCode env 43 false inv k (cp c43 26) (act 56 [(0, x0), (12, x12)]) h K) (kCode env 43 false inv k (cp c43 27) (act 56 [(0, x0), (12, x12)]) h K) := kq_cond
theorem r43_2  : kCode env 43 false inv k (cp c43 52) (act 56 [(0, x0), (12, x12)]) h K =
    K .normal (act 56 [(2, (.int .i64 171))]) h := kq_reg
theorem res43_0 : resOfFn env.P 43 .ret (act 56 [(2, x2)]) h = some (x2, h) := kq_res
theorem r43_3  : kCode env 43 false inv k (cp c43 28) (act 56 [(0, x0), (12, x12)]) h K =
    K .normal (act 56 [(0, x0), (3, (.int .i64 0))]) h := kq_reg
theorem r43_4  : kCode env 43 false inv k (cp c43 464) (act 56 [(0, x0), (3, x3)]) h K =
    bnd (pLen Try.prog #[22] x0 h) fun x15 =>
    bnd (pBin Try.prog .lss 3 (.tmp 13) (.tmp 15) x3 x15) fun x16 =>
    K .normal (act 56 [(0, x0), (3, x3), (16, x16)]) h := kq_reg
theorem b43_rlllrlrr  : kCode env 43 false inv k (cp c43 465) (act 56 [(0, x0), (3, x3), (16, x16)]) h K = brV x16 (kCode env 43 false inv k (cp c43 930) (act 56 [(0, x0), (3, x3), (16, x16)]) h K) (kCode env 43 false inv k (cp c43 931) (act 56 [(0, x0), (3, x3), (16, x16)]) h K) := kq_cond
theorem r43_6  : kCode env 43 false inv k (cp c43 3728) (act 56 [(0, x0), (3, x3), (16, x16)]) h K =
    bnd (pIndexAddr Try.prog 22 x0 x3) fun x21 =>
    bnd (pFieldAddr Try.prog 80 x21 0) fun x22 =>
    bnd (pLoad Try.prog 9 x22 h) fun x23 =>
    bnd (inv (.func 67) #[] #[x23] h) fun x24 =>
    bnd (pBin Try.prog .neq 27 (.tmp 24) (.const (.int .i64 0)) x24.1 (.int .i64 0)) fun x25 =>
    K .normal (act 56 [(0, x0), (3, x3), (25, x25)]) x24.2 := kq_reg
theorem b43_rlllrllrlrr  : kCode env 43 false inv k (cp c43 3729) (act 56 [(0, x0), (3, x3), (25, x25)]) h K = brV x25 (kCode env 43 false inv k (cp c43 7458) (act 56 [(0, x0), (3, x3), (25, x25)]) h K) (kCode env 43 false inv k (cp c43 7459) (act 56 [(0, x0), (3, x3), (25, x25)]) h K) := kq_cond
theorem r43_7  : kCode env 43 false inv k (cp c43 14916) (act 56 [(0, x0), (3, x3), (25, x25)]) h K =
    K .normal (act 56 [(2, (.int .i64 170))]) h := kq_reg
noncomputable abbrev G43_8 {β : Type} (inv : Inv) (x0 x3 : Value) (h : AH) (K : Value → AH → Option β) : Option β :=
    bnd (pIndexAddr Try.prog 22 x0 x3) fun x28 =>
    bnd (pFieldAddr Try.prog 80 x28 1) fun x29 =>
    bnd (pLoad Try.prog 3 x29 h) fun x30 =>
    bnd (pBin Try.prog .lss 3 (.tmp 30) (.const (.int .i64 1)) x30 (.int .i64 1)) fun x31 =>
    bnd (gd (some x31) false h (some (x0, h))) fun x33 =>
    bnd (gd (some x31) false x33.2 (some (x3, x33.2))) fun x34 =>
    bnd (gd (some x31) false x34.2 (lt (pIndexAddr Try.prog 22 x33.1 x34.1) x34.2)) fun x35 =>
    bnd (gd (some x31) false x35.2 (lt (pFieldAddr Try.prog 80 x35.1 1) x35.2)) fun x36 =>
    bnd (gd (some x31) false x36.2 (lt (pLoad Try.prog 3 x36.1 x36.2) x36.2)) fun x37 =>
    bnd (gd (some x31) false x37.2 (lt (pBin Try.prog .gtr 3 (.tmp 37) (.const (.int .i64 3)) x37.1 (.int .i64 3)) x37.2)) fun x38 =>
    bnd (pickV x31 (.bool true) x38.1) fun x39 =>
    K (x39) x38.2
theorem r43_8  : kCode env 43 false inv k (cp c43 7460) (act 56 [(0, x0), (3, x3), (25, x25)]) h K =
    G43_8 inv x0 x3 h fun y39 h => K .normal (act 56 [(0, x0), (3, x3), (39, y39)]) h := kq_reg
theorem b43_rlrllrllrlrr  : kCode env 43 false inv k (cp c43 7461) (act 56 [(0, x0), (3, x3), (39, x39)]) h K = brV x39 (kCode env 43 false inv k (cp c43 14922) (act 56 [(0, x0), (3, x3), (39, x39)]) h K) (kCode env 43 false inv k (cp c43 14923) (act 56 [(0, x0), (3, x3), (39, x39)]) h K) := kq_cond
theorem r43_9  : kCode env 43 false inv k (cp c43 29844) (act 56 [(0, x0), (3, x3), (39, x39)]) h K =
    K .normal (act 56 [(2, (.int .i64 171))]) h := kq_reg
theorem r43_10  : kCode env 43 false inv k (cp c43 7462) (act 56 [(0, x0), (3, x3), (39, x39)]) h K =
    K .normal (act 56 [(0, x0), (3, x3), (4, (.int .i64 0))]) h := kq_reg
theorem r43_11  : kCode env 43 false inv k (cp c43 119408) (act 56 [(0, x0), (3, x3), (4, x4)]) h K =
    bnd (pBin Try.prog .lss 3 (.tmp 40) (.tmp 41) x4 x3) fun x42 =>
    K .normal (act 56 [(0, x0), (3, x3), (4, x4), (42, x42)]) h := kq_reg
theorem b43_rlllrrrllrllrlrr  : kCode env 43 false inv k (cp c43 119409) (act 56 [(0, x0), (3, x3), (4, x4), (42, x42)]) h K = brV x42 (kCode env 43 false inv k (cp c43 238818) (act 56 [(0, x0), (3, x3), (4, x4), (42, x42)]) h K) (kCode env 43 false inv k (cp c43 238819) (act 56 [(0, x0), (3, x3), (4, x4), (42, x42)]) h K) := kq_cond
theorem r43_13  : kCode env 43 false inv k (cp c43 477640) (act 56 [(0, x0), (3, x3), (4, x4), (42, x42)]) h K =
    bnd (pIndexAddr Try.prog 22 x0 x4) fun x47 =>
    bnd (pFieldAddr Try.prog 80 x47 0) fun x48 =>
    bnd (pLoad Try.prog 9 x48 h) fun x49 =>
    bnd (pIndexAddr Try.prog 22 x0 x3) fun x52 =>
    bnd (pFieldAddr Try.prog 80 x52 0) fun x53 =>
    bnd (pLoad Try.prog 9 x53 h) fun x54 =>
    bnd (pBin Try.prog .eql 9 (.tmp 49) (.tmp 54) x49 x54) fun x55 =>
    K .normal (act 56 [(0, x0), (3, x3), (4, x4), (55, x55)]) h := kq_draw
theorem b43_rllrllrrrllrllrlrr  : kCode env 43 false inv k (cp c43 477641) (act 56 [(0, x0), (3, x3), (4, x4), (55, x55)]) h K = brV x55 (kCode env 43 false inv k (cp c43 955282) (act 56 [(0, x0), (3, x3), (4, x4), (55, x55)]) h K) (kCode env 43 false inv k (cp c43 955283) (act 56 [(0, x0), (3, x3), (4, x4), (55, x55)]) h K) := kq_cond
theorem r43_14  : kCode env 43 false inv k (cp c43 1910564) (act 56 [(0, x0), (3, x3), (4, x4), (55, x55)]) h K =
    K .normal (act 56 [(2, (.int .i64 171))]) h := kq_reg
theorem r43_12  : kCode env 43 false inv k (cp c43 119411) (act 56 [(0, x0), (3, x3), (4, x4), (55, x55)]) h K =
    bnd (pBin Try.prog .add 3 (.tmp 43) (.const (.int .i64 1)) x4 (.int .i64 1)) fun x44 =>
    K .normal (act 56 [(0, x0), (3, x3), (4, x44)]) h := kq_reg
noncomputable def F43_lrrrllrllrlrr {β : Type} (inv : Inv) (k : Nat) : Nat → Value → Value → Value → AH → (Value → Value → Value → Value → AH → Option β) → (Value → AH → Option β) → Option β
  | 0, _, _, _, _, _, _ => none
  | j + 1, x0, x3, x4, h, ke2, kr =>
    bnd (pBin Try.prog .lss 3 (.tmp 40) (.tmp 41) x4 x3) fun x42 =>
    brV x42
    (bnd (pIndexAddr Try.prog 22 x0 x4) fun x47 =>
    bnd (pFieldAddr Try.prog 80 x47 0) fun x48 =>
    bnd (pLoad Try.prog 9 x48 h) fun x49 =>
    bnd (pIndexAddr Try.prog 22 x0 x3) fun x52 =>
    bnd (pFieldAddr Try.prog 80 x52 0) fun x53 =>
    bnd (pLoad Try.prog 9 x53 h) fun x54 =>
    bnd (pBin Try.prog .eql 9 (.tmp 49) (.tmp 54) x49 x54) fun x55 =>
    brV x55
    (kr (.int .i64 171) h)
    (bnd (pBin Try.prog .add 3 (.tmp 43) (.const (.int .i64 1)) x4 (.int .i64 1)) fun x44 =>
    F43_lrrrllrllrlrr inv k j x0 x3 x44 h ke2 kr))
    (ke2 x0 x3 x4 x42 h)
theorem F43_lrrrllrllrlrr_j (j : Nat) : kLoop (kCode env 43 false inv k (cp c43 29852)) j (act 56 [(0, x0), (3, x3), (4, x4)]) h K = F43_lrrrllrllrlrr inv k j x0 x3 x4 h (fun y0 y3 y4 y42 h => K (.exit 2) (act 56 [(0, y0), (3, y3), (4, y4), (42, y42)]) h) (fun y2 h => K .ret (act 56 [(2, y2)]) h) := by
      induction j generalizing x0 x3 x4 h with
      | zero => rfl
      | succ j ih =>
        unfold F43_lrrrllrllrlrr
        simp only [kLoop, kq_seq c43 29852, kq_seq c43 59704, r43_11, b43_rlllrrrllrllrlrr, kq_skip c43 238818, kq_seq c43 59705, kq_block c43 119410 3, kq_seq c43 238820, r43_13, b43_rllrllrrrllrllrlrr, kq_seq c43 955282, r43_14, kq_ret c43 1910565, kq_skip c43 955283, r43_12, kq_exit c43 238819 2, ih, reduceIte, reduceCtorEq, XE.exit.injEq, Nat.reduceEqDiff, Nat.reduceMul, Nat.reduceAdd] <;> kernel_rfl
theorem F43_lrrrllrllrlrr_eq  : kCode env 43 false inv k (cp c43 14926) (act 56 [(0, x0), (3, x3), (4, x4)]) h K = F43_lrrrllrllrlrr inv k k x0 x3 x4 h (fun y0 y3 y4 y42 h => K (.exit 2) (act 56 [(0, y0), (3, y3), (4, y4), (42, y42)]) h) (fun y2 h => K .ret (act 56 [(2, y2)]) h) := kq_loop (F43_lrrrllrllrlrr_j k)
theorem r43_5  : kCode env 43 false inv k (cp c43 467) (act 56 [(0, x0), (3, x3), (4, x4), (42, x42)]) h K =
    bnd (pBin Try.prog .add 3 (.tmp 17) (.const (.int .i64 1)) x3 (.int .i64 1)) fun x18 =>
    K .normal (act 56 [(0, x0), (3, x18)]) h := kq_reg
noncomputable def F43_lrlrr {β : Type} (inv : Inv) (k : Nat) : Nat → Value → Value → AH → (Value → Value → Value → AH → Option β) → (Value → AH → Option β) → Option β
  | 0, _, _, _, _, _ => none
  | j + 1, x0, x3, h, ke0, kr =>
    bnd (pLen Try.prog #[22] x0 h) fun x15 =>
    bnd (pBin Try.prog .lss 3 (.tmp 13) (.tmp 15) x3 x15) fun x16 =>
    brV x16
    (bnd (pIndexAddr Try.prog 22 x0 x3) fun x21 =>
    bnd (pFieldAddr Try.prog 80 x21 0) fun x22 =>
    bnd (pLoad Try.prog 9 x22 h) fun x23 =>
    bnd (inv (.func 67) #[] #[x23] h) fun x24 =>
    bnd (pBin Try.prog .neq 27 (.tmp 24) (.const (.int .i64 0)) x24.1 (.int .i64 0)) fun x25 =>
    brV x25
    (kr (.int .i64 170) x24.2)
    (G43_8 inv x0 x3 x24.2 fun y39 h =>
    brV y39
    (kr (.int .i64 171) h)
    (F43_lrrrllrllrlrr inv k k x0 x3 (.int .i64 0) h
    (fun y0 y3 y4 y42 h_1 =>
    bnd (pBin Try.prog .add 3 (.tmp 17) (.const (.int .i64 1)) y3 (.int .i64 1)) fun x18 =>
    F43_lrlrr inv k j y0 x18 h_1 ke0 kr)
    (fun y2 h_2 =>
    kr y2 h_2))))
    (ke0 x0 x3 x16 h)
theorem F43_lrlrr_j (j : Nat) : kLoop (kCode env 43 false inv k (cp c43 116)) j (act 56 [(0, x0), (3, x3)]) h K = F43_lrlrr inv k j x0 x3 h (fun y0 y3 y16 h => K (.exit 0) (act 56 [(0, y0), (3, y3), (16, y16)]) h) (fun y2 h => K .ret (act 56 [(2, y2)]) h) := by
      induction j generalizing x0 x3 h with
      | zero => rfl
      | succ j ih =>
        unfold F43_lrlrr
        simp only [kLoop, kq_seq c43 116, kq_seq c43 232, r43_4, b43_rlllrlrr, kq_skip c43 930, kq_seq c43 233, kq_block c43 466 1, kq_seq c43 932, kq_seq c43 1864, r43_6, b43_rlllrllrlrr, kq_seq c43 7458, r43_7, kq_ret c43 14917, kq_skip c43 7459, kq_seq c43 1865, kq_seq c43 3730, r43_8, b43_rlrllrllrlrr, kq_seq c43 14922, r43_9, kq_ret c43 29845, kq_skip c43 14923, kq_seq c43 3731, r43_10, kq_block c43 7463 2, F43_lrrrllrllrlrr_eq, r43_5, kq_exit c43 931 0, ih, reduceIte, reduceCtorEq, XE.exit.injEq, Nat.reduceEqDiff, Nat.reduceMul, Nat.reduceAdd] <;> kernel_rfl
theorem F43_lrlrr_eq  : kCode env 43 false inv k (cp c43 58) (act 56 [(0, x0), (3, x3)]) h K = F43_lrlrr inv k k x0 x3 h (fun y0 y3 y16 h => K (.exit 0) (act 56 [(0, y0), (3, y3), (16, y16)]) h) (fun y2 h => K .ret (act 56 [(2, y2)]) h) := kq_loop (F43_lrlrr_j k)
theorem r43_15  : kCode env 43 false inv k (cp c43 30) (act 56 [(0, x0), (3, x3), (16, x16)]) h K =
    K .normal (act 56 [(2, (.int .i64 0))]) h := kq_reg
/-- shadowbook/shadowbookref17.Check -/
noncomputable def F43 (inv : Inv) (k : Nat) (x0 : Value) (h : AH) : Option (Value × AH) :=
    G43_1 inv x0 h fun y12 h =>
    brV y12
    (some ((.int .i64 171), h))
    (F43_lrlrr inv k k x0 (.int .i64 0) h
    (fun y0 y3 y16 h_3 =>
    some ((.int .i64 0), h_3))
    (fun y2 h_4 =>
    some (y2, h_4)))
theorem F43_eq : eFun env k inv 43 #[x0] h = F43 inv k x0 h := by
      refine (kq_fun (a := act 56 [(0, x0)]) (c := cp c43 1)).trans ?_
      unfold F43
      simp only [kq_seq c43 1, r43_0, kq_seq c43 3, kq_seq c43 6, r43_1, b43_rlr, kq_seq c43 26, r43_2, kq_ret c43 53, res43_0, kq_skip c43 27, kq_seq c43 7, kq_seq c43 14, r43_3, kq_block c43 29 0, F43_lrlrr_eq, kq_seq c43 15, r43_15, kq_ret c43 31, reduceIte, reduceCtorEq, XE.exit.injEq, Nat.reduceEqDiff, Nat.reduceMul, Nat.reduceAdd] <;> kernel_rfl
theorem F43_call : eInv env (k + 1) (.func 43) #[] #[x0] h = F43 (eInv env k) k x0 h := kq_inv F43_eq
noncomputable def c45 : Code := codeOf Try.prog 45
theorem r45_0  : kCode env 45 false inv k (cp c45 2) (act 32 [(0, x0), (1, x1), (2, x2)]) h K =
    K .normal (act 32 [(0, x0), (1, x1), (2, x2)]) h := kq_reg
theorem r45_1  : kCode env 45 false inv k (cp c45 12) (act 32 [(0, x0), (1, x1), (2, x2)]) h K =
    bnd (pLen Try.prog #[23] x0 h) fun x11 =>
    bnd (pLen Try.prog #[23] x1 h) fun x13 =>
    bnd (pBin Try.prog .neq 3 (.tmp 11) (.tmp 13) x11 x13) fun x14 =>
    K .normal (act 32 [(0, x0), (1, x1), (2, x2), (14, x14)]) h := kq_reg
theorem b45_rlr  : kCode env 45 false inv k (cp c45 13) (act 32 [(0, x0), (1, x1), (2, x2), (14, x14)]) h K = brV x14 (kCode env 45 false inv k (cp c45 26) (act 32 [(0, x0), (1, x1), (2, x2), (14, x14)]) h K) (kCode env 45 false inv k (cp c45 27) (act 32 [(0, x0), (1, x1), (2, x2), (14, x14)]) h K) := kq_cond
theorem r45_2  : kCode env 45 false inv k (cp c45 52) (act 32 [(0, x0), (1, x1), (2, x2), (14, x14)]) h K =
    K .normal (act 32 [(6, (.bool false))]) h := kq_reg
theorem res45_0 : resOfFn env.P 45 .ret (act 32 [(6, x6)]) h = some (x6, h) := kq_res
theorem r45_3  : kCode env 45 false inv k (cp c45 28) (act 32 [(0, x0), (1, x1), (2, x2), (14, x14)]) h K =
    bnd (pLen Try.prog #[23] x0 h) fun x16 =>
    K .normal (act 32 [(1, x1), (2, x2), (15, x0), (16, x16), (17, (.int .i64 0))]) h := kq_reg
theorem r45_4  : kCode env 45 false inv k (cp c45 232) (act 32 [(1, x1), (2, x2), (15, x15), (16, x16), (17, x17)]) h K =
    bnd (pBin Try.prog .lss 3 (.tmp 17) (.tmp 16) x17 x16) fun x18 =>
    K .normal (act 32 [(1, x1), (2, x2), (15, x15), (16, x16), (17, x17), (18, x18)]) h := kq_reg
theorem b45_lrllrlrr  : kCode env 45 false inv k (cp c45 466) (act 32 [(1, x1), (2, x2), (15, x15), (16, x16), (17, x17), (18, x18)]) h K = brV x18 (kCode env 45 false inv k (cp c45 932) (act 32 [(1, x1), (2, x2), (15, x15), (16, x16), (17, x17), (18, x18)]) h K) (kCode env 45 false inv k (cp c45 933) (act 32 [(1, x1), (2, x2), (15, x15), (16, x16), (17, x17), (18, x18)]) h K) := kq_cond
theorem r45_5  : kCode env 45 false inv k (cp c45 3736) (act 32 [(1, x1), (2, x2), (15, x15), (16, x16), (17, x17), (18, x18)]) h K =
    bnd (pIndexAddr Try.prog 23 x15 x17) fun x20 =>
    bnd (pLoad Try.prog 37 x20 h) fun x21 =>
    K .normal (act 32 [(1, x1), (2, x2), (7, x17), (8, x21), (15, x15), (16, x16), (17, x17)]) h := kq_reg
theorem r45_6  : kCode env 45 false inv k (cp c45 7474) (act 32 [(1, x1), (2, x2), (7, x7), (8, x8), (15, x15), (16, x16), (17, x17)]) h K =
    bnd (pIndexAddr Try.prog 23 x1 x7) fun x24 =>
    bnd (pLoad Try.prog 37 x24 h) fun x25 =>
    K .normal (act 32 [(1, x1), (2, x2), (8, x8), (9, x25), (15, x15), (16, x16), (17, x17)]) h := kq_reg
theorem r45_7  : kCode env 45 false inv k (cp c45 14950) (act 32 [(1, x1), (2, x2), (8, x8), (9, x9), (15, x15), (16, x16), (17, x17)]) h K =
    bnd (callV inv x2 #[x8, x9] h) fun x29 =>
    bnd (pUn Try.prog .not x29.1) fun x30 =>
    K .normal (act 32 [(1, x1), (2, x2), (15, x15), (16, x16), (17, x17), (30, x30)]) x29.2 := kq_reg
theorem b45_rrrllrrllrlrr  : kCode env 45 false inv k (cp c45 14951) (act 32 [(1, x1), (2, x2), (15, x15), (16, x16), (17, x17), (30, x30)]) h K = brV x30 (kCode env 45 false inv k (cp c45 29902) (act 32 [(1, x1), (2, x2), (15, x15), (16, x16), (17, x17), (30, x30)]) h K) (kCode env 45 false inv k (cp c45 29903) (act 32 [(1, x1), (2, x2), (15, x15), (16, x16), (17, x17), (30, x30)]) h K) := kq_cond
theorem r45_8  : kCode env 45 false inv k (cp c45 59804) (act 32 [(1, x1), (2, x2), (15, x15), (16, x16), (17, x17), (30, x30)]) h K =
    K .normal (act 32 [(6, (.bool false))]) h := kq_reg
theorem r45_9  : kCode env 45 false inv k (cp c45 935) (act 32 [(1, x1), (2, x2), (15, x15), (16, x16), (17, x17), (30, x30)]) h K =
    bnd (pBin Try.prog .add 3 (.tmp 17) (.const (.int .i64 1)) x17 (.int .i64 1)) fun x31 =>
    K .normal (act 32 [(1, x1), (2, x2), (15, x15), (16, x16), (17, x31)]) h := kq_reg
noncomputable def F45_lrlrr {β : Type} (inv : Inv) (k : Nat) : Nat → Value → Value → Value → Value → Value → AH → (Value → Value → Value → Value → Value → Value → AH → Option β) → (Value → AH → Option β) → Option β
  | 0, _, _, _, _, _, _, _, _ => none
  | j + 1, x1, x2, x15, x16, x17, h, ke0, kr =>
    bnd (pBin Try.prog .lss 3 (.tmp 17) (.tmp 16) x17 x16) fun x18 =>
    brV x18
    (bnd (pIndexAddr Try.prog 23 x15 x17) fun x20 =>
    bnd (pLoad Try.prog 37 x20 h) fun x21 =>
    bnd (pIndexAddr Try.prog 23 x1 x17) fun x24 =>
    bnd (pLoad Try.prog 37 x24 h) fun x25 =>
    bnd (callV inv x2 #[x21, x25] h) fun x29 =>
    bnd (pUn Try.prog .not x29.1) fun x30 =>
    brV x30
    (kr (.bool false) x29.2)
    (bnd (pBin Try.prog .add 3 (.tmp 17) (.const (.int .i64 1)) x17 (.int .i64 1)) fun x31 =>
    F45_lrlrr inv k j x1 x2 x15 x16 x31 x29.2 ke0 kr))
    (ke0 x1 x2 x15 x16 x17 x18 h)
theorem F45_lrlrr_j (j : Nat) : kLoop (kCode env 45 false inv k (cp c45 116)) j (act 32 [(1, x1), (2, x2), (15, x15), (16, x16), (17, x17)]) h K = F45_lrlrr inv k j x1 x2 x15 x16 x17 h (fun y1 y2 y15 y16 y17 y18 h => K (.exit 0) (act 32 [(1, y1), (2, y2), (15, y15), (16, y16), (17, y17), (18, y18)]) h) (fun y6 h => K .ret (act 32 [(6, y6)]) h) := by
      induction j generalizing x1 x2 x15 x16 x17 h with
      | zero => rfl
      | succ j ih =>
        unfold F45_lrlrr
        simp only [kLoop, kq_seq c45 116, r45_4, kq_seq c45 233, b45_lrllrlrr, kq_skip c45 932, kq_seq c45 467, kq_block c45 934 1, kq_seq c45 1868, r45_5, kq_seq c45 3737, r45_6, kq_seq c45 7475, r45_7, b45_rrrllrrllrlrr, kq_seq c45 29902, r45_8, kq_ret c45 59805, kq_skip c45 29903, r45_9, kq_exit c45 933 0, ih, reduceIte, reduceCtorEq, XE.exit.injEq, Nat.reduceEqDiff, Nat.reduceMul, Nat.reduceAdd] <;> kernel_rfl
theorem F45_lrlrr_eq  : kCode env 45 false inv k (cp c45 58) (act 32 [(1, x1), (2, x2), (15, x15), (16, x16), (17, x17)]) h K = F45_lrlrr inv k k x1 x2 x15 x16 x17 h (fun y1 y2 y15 y16 y17 y18 h => K (.exit 0) (act 32 [(1, y1), (2, y2), (15, y15), (16, y16), (17, y17), (18, y18)]) h) (fun y6 h => K .ret (act 32 [(6, y6)]) h) := kq_loop (F45_lrlrr_j k)
theorem r45_10  : kCode env 45 false inv k (cp c45 30) (act 32 [(1, x1), (2, x2), (15, x15), (16, x16), (17, x17), (18, x18)]) h K =
    K .normal (act 32 [(6, (.bool true))]) h := kq_reg
/-- slices.EqualFunc[[][]shadowbook/api.Cell,[][]shadowbook/api.Cell,[]shadowbook/api.Cell,[]shadowbook/api.Cell] -/
noncomputable def F45 (inv : Inv) (k : Nat) (x0 x1 x2 : Value) (h : AH) : Option (Value × AH) :=
    bnd (pLen Try.prog #[23] x0 h) fun x11 =>
    bnd (pLen Try.prog #[23] x1 h) fun x13 =>
    bnd (pBin Try.prog .neq 3 (.tmp 11) (.tmp 13) x11 x13) fun x14 =>
    brV x14
    (some ((.bool false), h))
    (bnd (pLen Try.prog #[23] x0 h) fun x16 =>
    F45_lrlrr inv k k x1 x2 x0 x16 (.int .i64 0) h
    (fun y1 y2 y15 y16 y17 y18 h =>
    some ((.bool true), h))
    (fun y6 h_1 =>
    some (y6, h_1)))
theorem F45_eq : eFun env k inv 45 #[x0, x1, x2] h = F45 inv k x0 x1 x2 h := by
      refine (kq_fun (a := act 32 [(0, x0), (1, x1), (2, x2)]) (c := cp c45 1)).trans ?_
      unfold F45
      simp only [kq_seq c45 1, r45_0, kq_seq c45 3, kq_seq c45 6, r45_1, b45_rlr, kq_seq c45 26, r45_2, kq_ret c45 53, res45_0, kq_skip c45 27, kq_seq c45 7, kq_seq c45 14, r45_3, kq_block c45 29 0, F45_lrlrr_eq, kq_seq c45 15, r45_10, kq_ret c45 31, reduceIte, reduceCtorEq, XE.exit.injEq, Nat.reduceEqDiff, Nat.reduceMul, Nat.reduceAdd] <;> kernel_rfl
theorem F45_call : eInv env (k + 1) (.func 45) #[] #[x0, x1, x2] h = F45 (eInv env k) k x0 x1 x2 h := kq_inv F45_eq
noncomputable def c46 : Code := codeOf Try.prog 46
theorem r46_0  : kCode env 46 false inv k (cp c46 2) (act 9 [(0, x0), (1, x1)]) h K =
    K .normal (act 9 [(0, x0), (1, x1)]) h := kq_reg
theorem r46_1  : kCode env 46 false inv k (cp c46 6) (act 9 [(0, x0), (1, x1)]) h K =
    bnd (inv (.func 47) #[] #[x0, x1] h) fun x7 =>
    bnd (pBin Try.prog .eql 3 (.tmp 7) (.const (.int .i64 0)) x7.1 (.int .i64 0)) fun x8 =>
    K .normal (act 9 [(4, x8)]) x7.2 := kq_reg
theorem res46_0 : resOfFn env.P 46 .ret (act 9 [(4, x4)]) h = some (x4, h) := kq_res
/-- shadowbook/batch.Same$1 -/
noncomputable def F46 (inv : Inv) (k : Nat) (x0 x1 : Value) (h : AH) : Option (Value × AH) :=
    bnd (inv (.func 47) #[] #[x0, x1] h) fun x7 =>
    bnd (pBin Try.prog .eql 3 (.tmp 7) (.const (.int .i64 0)) x7.1 (.int .i64 0)) fun x8 =>
    some (x8, x7.2)
theorem F46_eq : eFun env k inv 46 #[x0, x1] h = F46 inv k x0 x1 h := by
      refine (kq_fun (a := act 9 [(0, x0), (1, x1)]) (c := cp c46 1)).trans ?_
      unfold F46
      simp only [kq_seq c46 1, r46_0, kq_seq c46 3, r46_1, kq_ret c46 7, res46_0, reduceIte, reduceCtorEq, XE.exit.injEq, Nat.reduceEqDiff, Nat.reduceMul, Nat.reduceAdd] <;> kernel_rfl
theorem F46_call : eInv env (k + 1) (.func 46) #[] #[x0, x1] h = F46 (eInv env k) k x0 x1 h := kq_inv F46_eq
noncomputable def c47 : Code := codeOf Try.prog 47
theorem r47_0  : kCode env 47 false inv k (cp c47 2) (act 8 [(0, x0), (1, x1)]) h K =
    K .normal (act 8 [(0, x0), (1, x1)]) h := kq_reg
theorem r47_1  : kCode env 47 false inv k (cp c47 6) (act 8 [(0, x0), (1, x1)]) h K =
    bnd (inv (.func 69) #[] #[x0, x1, (.func (.func 70) #[] #[])] h) fun x7 =>
    K .normal (act 8 [(4, x7.1)]) x7.2 := kq_reg
theorem res47_0 : resOfFn env.P 47 .ret (act 8 [(4, x4)]) h = some (x4, h) := kq_res
/-- shadowbook/value.Rows -/
noncomputable def F47 (inv : Inv) (k : Nat) (x0 x1 : Value) (h : AH) : Option (Value × AH) :=
    bnd (inv (.func 69) #[] #[x0, x1, (.func (.func 70) #[] #[])] h) fun x7 =>
    some (x7.1, x7.2)
theorem F47_eq : eFun env k inv 47 #[x0, x1] h = F47 inv k x0 x1 h := by
      refine (kq_fun (a := act 8 [(0, x0), (1, x1)]) (c := cp c47 1)).trans ?_
      unfold F47
      simp only [kq_seq c47 1, r47_0, kq_seq c47 3, r47_1, kq_ret c47 7, res47_0, reduceIte, reduceCtorEq, XE.exit.injEq, Nat.reduceEqDiff, Nat.reduceMul, Nat.reduceAdd] <;> kernel_rfl
theorem F47_call : eInv env (k + 1) (.func 47) #[] #[x0, x1] h = F47 (eInv env k) k x0 x1 h := kq_inv F47_eq
noncomputable def c49 : Code := codeOf Try.prog 49
theorem r49_0  : kCode env 49 false inv k (cp c49 2) (act 8 [(0, x0)]) h K =
    K .normal (act 8 [(0, x0)]) h := kq_reg
theorem r49_1  : kCode env 49 false inv k (cp c49 12) (act 8 [(0, x0)]) h K =
    bnd (pBin Try.prog .eql 37 (.tmp 3) (.const (.slice none 0 0)) x0 (.slice none 0 0)) fun x4 =>
    K .normal (act 8 [(0, x0), (4, x4)]) h := kq_reg
theorem b49_rlr  : kCode env 49 false inv k (cp c49 13) (act 8 [(0, x0), (4, x4)]) h K = brV x4 (kCode env 49 false inv k (cp c49 26) (act 8 [(0, x0), (4, x4)]) h K) (kCode env 49 false inv k (cp c49 27) (act 8 [(0, x0), (4, x4)]) h K) := kq_cond
theorem r49_2  : kCode env 49 false inv k (cp c49 52) (act 8 [(0, x0), (4, x4)]) h K =
    K .normal (act 8 [(2, (.slice none 0 0))]) h := kq_reg
theorem res49_0 : resOfFn env.P 49 .ret (act 8 [(2, x2)]) h = some (x2, h) := kq_res
theorem r49_3  : kCode env 49 false inv k (cp c49 14) (act 8 [(0, x0), (4, x4)]) h K =
    bnd (pBuildSlice Try.prog 37 0 #[] h) fun x5 =>
    bnd (pAppend Try.prog #[37, 37] x5.1 x0 x5.2) fun x7 =>
    K .normal (act 8 [(2, x7.1)]) x7.2 := kq_reg
/-- slices.Clone[[]shadowbook/api.Cell,shadowbook/api.Cell] -/
noncomputable def F49 (inv : Inv) (k : Nat) (x0 : Value) (h : AH) : Option (Value × AH) :=
    bnd (pBin Try.prog .eql 37 (.tmp 3) (.const (.slice none 0 0)) x0 (.slice none 0 0)) fun x4 =>
    brV x4
    (some ((.slice none 0 0), h))
    (bnd (pBuildSlice Try.prog 37 0 #[] h) fun x5 =>
    bnd (pAppend Try.prog #[37, 37] x5.1 x0 x5.2) fun x7 =>
    some (x7.1, x7.2))
theorem F49_eq : eFun env k inv 49 #[x0] h = F49 inv k x0 h := by
      refine (kq_fun (a := act 8 [(0, x0)]) (c := cp c49 1)).trans ?_
      unfold F49
      simp only [kq_seq c49 1, r49_0, kq_seq c49 3, kq_seq c49 6, r49_1, b49_rlr, kq_seq c49 26, r49_2, kq_ret c49 53, res49_0, kq_skip c49 27, kq_seq c49 7, r49_3, kq_ret c49 15, reduceIte, reduceCtorEq, XE.exit.injEq, Nat.reduceEqDiff, Nat.reduceMul, Nat.reduceAdd] <;> kernel_rfl
theorem F49_call : eInv env (k + 1) (.func 49) #[] #[x0] h = F49 (eInv env k) k x0 h := kq_inv F49_eq
noncomputable def c50 : Code := codeOf Try.prog 50
theorem r50_0  : kCode env 50 false inv k (cp c50 2) (act 20 [(0, x0)]) h K =
    K .normal (act 20 [(0, x0)]) h := kq_reg
theorem r50_1  : kCode env 50 false inv k (cp c50 12) (act 20 [(0, x0)]) h K =
    K .normal (act 20 [(0, x0), (3, (.int .i64 0))]) h := kq_reg
theorem r50_2  : kCode env 50 false inv k (cp c50 208) (act 20 [(0, x0), (3, x3)]) h K =
    bnd (pLen Try.prog #[37] x0 h) fun x6 =>
    bnd (pBin Try.prog .lss 3 (.tmp 4) (.tmp 6) x3 x6) fun x7 =>
    K .normal (act 20 [(0, x0), (3, x3), (7, x7)]) h := kq_reg
theorem b50_rlllrlr  : kCode env 50 false inv k (cp c50 209) (act 20 [(0, x0), (3, x3), (7, x7)]) h K = brV x7 (kCode env 50 false inv k (cp c50 418) (act 20 [(0, x0), (3, x3), (7, x7)]) h K) (kCode env 50 false inv k (cp c50 419) (act 20 [(0, x0), (3, x3), (7, x7)]) h K) := kq_cond
theorem r50_4  : kCode env 50 false inv k (cp c50 840) (act 20 [(0, x0), (3, x3), (7, x7)]) h K =
    bnd (pIndexAddr Try.prog 37 x0 x3) fun x12 =>
    bnd (pFieldAddr Try.prog 45 x12 2) fun x13 =>
    bnd (pLoad Try.prog 9 x13 h) fun x14 =>
    bnd (pLen Try.prog #[9] x14 h) fun x15 =>
    bnd (pBin Try.prog .gtr 3 (.tmp 15) (.const (.int .i64 300)) x15 (.int .i64 300)) fun x16 =>
    K .normal (act 20 [(0, x0), (3, x3), (16, x16)]) h := kq_reg
theorem b50_rllrllrlr  : kCode env 50 false inv k (cp c50 841) (act 20 [(0, x0), (3, x3), (16, x16)]) h K = brV x16 (kCode env 50 false inv k (cp c50 1682) (act 20 [(0, x0), (3, x3), (16, x16)]) h K) (kCode env 50 false inv k (cp c50 1683) (act 20 [(0, x0), (3, x3), (16, x16)]) h K) := kq_cond
theorem r50_5  : kCode env 50 false inv k (cp c50 3364) (act 20 [(0, x0), (3, x3), (16, x16)]) h K =
    K .normal (act 20 [(2, (.bool false))]) h := kq_reg
theorem r50_3  : kCode env 50 false inv k (cp c50 211) (act 20 [(0, x0), (3, x3), (16, x16)]) h K =
    bnd (pBin Try.prog .add 3 (.tmp 8) (.const (.int .i64 1)) x3 (.int .i64 1)) fun x9 =>
    K .normal (act 20 [(0, x0), (3, x9)]) h := kq_reg
noncomputable def F50_lrlr {β : Type} (inv : Inv) (k : Nat) : Nat → Value → Value → AH → (Value → Value → Value → AH → Option β) → (Value → AH → Option β) → Option β
  | 0, _, _, _, _, _ => none
  | j + 1, x0, x3, h, ke0, kr =>
    bnd (pLen Try.prog #[37] x0 h) fun x6 =>
    bnd (pBin Try.prog .lss 3 (.tmp 4) (.tmp 6) x3 x6) fun x7 =>
    brV x7
    (bnd (pIndexAddr Try.prog 37 x0 x3) fun x12 =>
    bnd (pFieldAddr Try.prog 45 x12 2) fun x13 =>
    bnd (pLoad Try.prog 9 x13 h) fun x14 =>
    bnd (pLen Try.prog #[9] x14 h) fun x15 =>
    bnd (pBin Try.prog .gtr 3 (.tmp 15) (.const (.int .i64 300)) x15 (.int .i64 300)) fun x16 =>
    brV x16
    (kr (.bool false) h)
    (bnd (pBin Try.prog .add 3 (.tmp 8) (.const (.int .i64 1)) x3 (.int .i64 1)) fun x9 =>
    F50_lrlr inv k j x0 x9 h ke0 kr))
    (ke0 x0 x3 x7 h)
theorem F50_lrlr_j (j : Nat) : kLoop (kCode env 50 false inv k (cp c50 52)) j (act 20 [(0, x0), (3, x3)]) h K = F50_lrlr inv k j x0 x3 h (fun y0 y3 y7 h => K (.exit 0) (act 20 [(0, y0), (3, y3), (7, y7)]) h) (fun y2 h => K .ret (act 20 [(2, y2)]) h) := by
      induction j generalizing x0 x3 h with
      | zero => rfl
      | succ j ih =>
        unfold F50_lrlr
        simp only [kLoop, kq_seq c50 52, kq_seq c50 104, r50_2, b50_rlllrlr, kq_skip c50 418, kq_seq c50 105, kq_block c50 210 1, kq_seq c50 420, r50_4, b50_rllrllrlr, kq_seq c50 1682, r50_5, kq_ret c50 3365, kq_skip c50 1683, r50_3, kq_exit c50 419 0, ih, reduceIte, reduceCtorEq, XE.exit.injEq, Nat.reduceEqDiff, Nat.reduceMul, Nat.reduceAdd] <;> kernel_rfl
theorem F50_lrlr_eq  : kCode env 50 false inv k (cp c50 26) (act 20 [(0, x0), (3, x3)]) h K = F50_lrlr inv k k x0 x3 h (fun y0 y3 y7 h => K (.exit 0) (act 20 [(0, y0), (3, y3), (7, y7)]) h) (fun y2 h => K .ret (act 20 [(2, y2)]) h) := kq_loop (F50_lrlr_j k)
theorem r50_6  : kCode env 50 false inv k (cp c50 14) (act 20 [(0, x0), (3, x3), (7, x7)]) h K =
    bnd (pLen Try.prog #[37] x0 h) fun x18 =>
    bnd (pBin Try.prog .leq 3 (.tmp 18) (.const (.int .i64 20)) x18 (.int .i64 20)) fun x19 =>
    K .normal (act 20 [(2, x19)]) h := kq_reg
theorem res50_0 : resOfFn env.P 50 .ret (act 20 [(2, x2)]) h = some (x2, h) := kq_res
/-- shadowbook/shadowbookkit.LightRow -/
noncomputable def F50 (inv : Inv) (k : Nat) (x0 : Value) (h : AH) : Option (Value × AH) :=
    F50_lrlr inv k k x0 (.int .i64 0) h
    (fun y0 y3 y7 h =>
    bnd (pLen Try.prog #[37] y0 h) fun x18 =>
    bnd (pBin Try.prog .leq 3 (.tmp 18) (.const (.int .i64 20)) x18 (.int .i64 20)) fun x19 =>
    some (x19, h))
    (fun y2 h_1 =>
    some (y2, h_1))
theorem F50_eq : eFun env k inv 50 #[x0] h = F50 inv k x0 h := by
      refine (kq_fun (a := act 20 [(0, x0)]) (c := cp c50 1)).trans ?_
      unfold F50
      simp only [kq_seq c50 1, r50_0, kq_seq c50 3, kq_seq c50 6, r50_1, kq_block c50 13 0, F50_lrlr_eq, kq_seq c50 7, r50_6, kq_ret c50 15, res50_0, reduceIte, reduceCtorEq, XE.exit.injEq, Nat.reduceEqDiff, Nat.reduceMul, Nat.reduceAdd] <;> kernel_rfl
theorem F50_call : eInv env (k + 1) (.func 50) #[] #[x0] h = F50 (eInv env k) k x0 h := kq_inv F50_eq
noncomputable def c51 : Code := codeOf Try.prog 51
theorem r51_0  : kCode env 51 false inv k (cp c51 2) (act 30 [(0, x0)]) h K =
    K .normal (act 30 [(0, x0)]) h := kq_reg
theorem r51_1  : kCode env 51 false inv k (cp c51 12) (act 30 [(0, x0)]) h K =
    K .normal (act 30 [(0, x0), (3, (.int .i64 0))]) h := kq_reg
theorem r51_2  : kCode env 51 false inv k (cp c51 208) (act 30 [(0, x0), (3, x3)]) h K =
    bnd (pLen Try.prog #[35] x0 h) fun x6 =>
    bnd (pBin Try.prog .lss 3 (.tmp 4) (.tmp 6) x3 x6) fun x7 =>
    K .normal (act 30 [(0, x0), (3, x3), (7, x7)]) h := kq_reg
theorem b51_rlllrlr  : kCode env 51 false inv k (cp c51 209) (act 30 [(0, x0), (3, x3), (7, x7)]) h K = brV x7 (kCode env 51 false inv k (cp c51 418) (act 30 [(0, x0), (3, x3), (7, x7)]) h K) (kCode env 51 false inv k (cp c51 419) (act 30 [(0, x0), (3, x3), (7, x7)]) h K) := kq_cond
noncomputable abbrev G51_4 {β : Type} (inv : Inv) (x0 x3 : Value) (h : AH) (K : Value → AH → Option β) : Option β :=
    bnd (pIndexAddr Try.prog 35 x0 x3) fun x12 =>
    bnd (pFieldAddr Try.prog 59 x12 3) fun x13 =>
    bnd (pLoad Try.prog 36 x13 h) fun x14 =>
    bnd (pLen Try.prog #[36] x14 h) fun x15 =>
    bnd (pBin Try.prog .gtr 3 (.tmp 15) (.const (.int .i64 20)) x15 (.int .i64 20)) fun x16 =>
    bnd (gd (some x16) false h (some (x0, h))) fun x18 =>
    bnd (gd (some x16) false x18.2 (some (x3, x18.2))) fun x19 =>
    bnd (gd (some x16) false x19.2 (lt (pIndexAddr Try.prog 35 x18.1 x19.1) x19.2)) fun x20 =>
    bnd (gd (some x16) false x20.2 (lt (pFieldAddr Try.prog 59 x20.1 2) x20.2)) fun x21 =>
    bnd (gd (some x16) false x21.2 (lt (pFieldAddr Try.prog 45 x21.1 2) x21.2)) fun x22 =>
    bnd (gd (some x16) false x22.2 (lt (pLoad Try.prog 9 x22.1 x22.2) x22.2)) fun x23 =>
    bnd (gd (some x16) false x23.2 (lt (pLen Try.prog #[9] x23.1 x23.2) x23.2)) fun x24 =>
    bnd (gd (some x16) false x24.2 (lt (pBin Try.prog .gtr 3 (.tmp 24) (.const (.int .i64 300)) x24.1 (.int .i64 300)) x24.2)) fun x25 =>
    bnd (pickV x16 (.bool true) x25.1) fun x26 =>
    K (x26) x25.2
theorem r51_4  : kCode env 51 false inv k (cp c51 840) (act 30 [(0, x0), (3, x3), (7, x7)]) h K =
    G51_4 inv x0 x3 h fun y26 h => K .normal (act 30 [(0, x0), (3, x3), (26, y26)]) h := kq_reg
theorem b51_rllrllrlr  : kCode env 51 false inv k (cp c51 841) (act 30 [(0, x0), (3, x3), (26, x26)]) h K = brV x26 (kCode env 51 false inv k (cp c51 1682) (act 30 [(0, x0), (3, x3), (26, x26)]) h K) (kCode env 51 false inv k (cp c51 1683) (act 30 [(0, x0), (3, x3), (26, x26)]) h K) := kq_cond
theorem r51_5  : kCode env 51 false inv k (cp c51 3364) (act 30 [(0, x0), (3, x3), (26, x26)]) h K =
    K .normal (act 30 [(2, (.bool false))]) h := kq_reg
theorem r51_3  : kCode env 51 false inv k (cp c51 211) (act 30 [(0, x0), (3, x3), (26, x26)]) h K =
    bnd (pBin Try.prog .add 3 (.tmp 8) (.const (.int .i64 1)) x3 (.int .i64 1)) fun x9 =>
    K .normal (act 30 [(0, x0), (3, x9)]) h := kq_reg
noncomputable def F51_lrlr {β : Type} (inv : Inv) (k : Nat) : Nat → Value → Value → AH → (Value → Value → Value → AH → Option β) → (Value → AH → Option β) → Option β
  | 0, _, _, _, _, _ => none
  | j + 1, x0, x3, h, ke0, kr =>
    bnd (pLen Try.prog #[35] x0 h) fun x6 =>
    bnd (pBin Try.prog .lss 3 (.tmp 4) (.tmp 6) x3 x6) fun x7 =>
    brV x7
    (G51_4 inv x0 x3 h fun y26 h =>
    brV y26
    (kr (.bool false) h)
    (bnd (pBin Try.prog .add 3 (.tmp 8) (.const (.int .i64 1)) x3 (.int .i64 1)) fun x9 =>
    F51_lrlr inv k j x0 x9 h ke0 kr))
    (ke0 x0 x3 x7 h)
theorem F51_lrlr_j (j : Nat) : kLoop (kCode env 51 false inv k (cp c51 52)) j (act 30 [(0, x0), (3, x3)]) h K = F51_lrlr inv k j x0 x3 h (fun y0 y3 y7 h => K (.exit 0) (act 30 [(0, y0), (3, y3), (7, y7)]) h) (fun y2 h => K .ret (act 30 [(2, y2)]) h) := by
      induction j generalizing x0 x3 h with
      | zero => rfl
      | succ j ih =>
        unfold F51_lrlr
        simp only [kLoop, kq_seq c51 52, kq_seq c51 104, r51_2, b51_rlllrlr, kq_skip c51 418, kq_seq c51 105, kq_block c51 210 1, kq_seq c51 420, r51_4, b51_rllrllrlr, kq_seq c51 1682, r51_5, kq_ret c51 3365, kq_skip c51 1683, r51_3, kq_exit c51 419 0, ih, reduceIte, reduceCtorEq, XE.exit.injEq, Nat.reduceEqDiff, Nat.reduceMul, Nat.reduceAdd] <;> kernel_rfl
theorem F51_lrlr_eq  : kCode env 51 false inv k (cp c51 26) (act 30 [(0, x0), (3, x3)]) h K = F51_lrlr inv k k x0 x3 h (fun y0 y3 y7 h => K (.exit 0) (act 30 [(0, y0), (3, y3), (7, y7)]) h) (fun y2 h => K .ret (act 30 [(2, y2)]) h) := kq_loop (F51_lrlr_j k)
theorem r51_6  : kCode env 51 false inv k (cp c51 14) (act 30 [(0, x0), (3, x3), (7, x7)]) h K =
    bnd (pLen Try.prog #[35] x0 h) fun x28 =>
    bnd (pBin Try.prog .leq 3 (.tmp 28) (.const (.int .i64 20)) x28 (.int .i64 20)) fun x29 =>
    K .normal (act 30 [(2, x29)]) h := kq_reg
theorem res51_0 : resOfFn env.P 51 .ret (act 30 [(2, x2)]) h = some (x2, h) := kq_res
/-- shadowbook/shadowbookkit.LightPred -/
noncomputable def F51 (inv : Inv) (k : Nat) (x0 : Value) (h : AH) : Option (Value × AH) :=
    F51_lrlr inv k k x0 (.int .i64 0) h
    (fun y0 y3 y7 h =>
    bnd (pLen Try.prog #[35] y0 h) fun x28 =>
    bnd (pBin Try.prog .leq 3 (.tmp 28) (.const (.int .i64 20)) x28 (.int .i64 20)) fun x29 =>
    some (x29, h))
    (fun y2 h_1 =>
    some (y2, h_1))
theorem F51_eq : eFun env k inv 51 #[x0] h = F51 inv k x0 h := by
      refine (kq_fun (a := act 30 [(0, x0)]) (c := cp c51 1)).trans ?_
      unfold F51
      simp only [kq_seq c51 1, r51_0, kq_seq c51 3, kq_seq c51 6, r51_1, kq_block c51 13 0, F51_lrlr_eq, kq_seq c51 7, r51_6, kq_ret c51 15, res51_0, reduceIte, reduceCtorEq, XE.exit.injEq, Nat.reduceEqDiff, Nat.reduceMul, Nat.reduceAdd] <;> kernel_rfl
theorem F51_call : eInv env (k + 1) (.func 51) #[] #[x0] h = F51 (eInv env k) k x0 h := kq_inv F51_eq
noncomputable def c52 : Code := codeOf Try.prog 52
theorem r52_0  : kCode env 52 false inv k (cp c52 2) (act 45 [(0, x0)]) h K =
    K .normal (act 45 [(0, x0)]) h := kq_reg
noncomputable abbrev G52_1 {β : Type} (inv : Inv) (x0 : Value) (h : AH) (K : Value → AH → Option β) : Option β :=
    bnd (pLen Try.prog #[9] x0 h) fun x6 =>
    bnd (pBin Try.prog .lss 3 (.tmp 6) (.const (.int .i64 1)) x6 (.int .i64 1)) fun x7 =>
    bnd (gd (some x7) false h (some (x0, h))) fun x9 =>
    bnd (gd (some x7) false x9.2 (lt (pLen Try.prog #[9] x9.1 x9.2) x9.2)) fun x10 =>
    bnd (gd (some x7) false x10.2 (lt (pBin Try.prog .gtr 3 (.tmp 10) (.const (.int .i64 32)) x10.1 (.int .i64 32)) x10.2)) fun x11 =>
    bnd (pickV x7 (.bool true) x11.1) fun x12 =>
    K (x12) x11.2
theorem r52_1  : kCode env 52 false inv k (cp c52 24) (act 45 [(0, x0)]) h K =
    G52_1 inv x0 h fun y12 h => K .normal (act 45 [(0, x0), (12, y12)]) h := kq_reg
theorem b52_rllr  : kCode env 52 false inv k (cp c52 25) (act 45 [(0, x0), (12, x12)]) h K = brV x12 (kCode env 52 false inv k (cp c52 50) (act 45 [(0, x0), (12, x12)]) h K) (kCode env 52 false inv k (cp c52 51) (act 45 [(0, x0), (12, x12)]) h K) := kq_cond
theorem r52_2  : kCode env 52 false inv k (cp c52 100) (act 45 [(0, x0), (12, x12)]) h K =
    K .normal (act 45 [(2, (.int .i64 170))]) h := kq_reg
theorem res52_0 : resOfFn env.P 52 .ret (act 45 [(2, x2)]) h = some (x2, h) := kq_res
theorem r52_3  : kCode env 52 false inv k (cp c52 108) (act 45 [(0, x0), (12, x12)]) h K =
    bnd (pRange Try.prog 9 x0 h) fun x14 =>
    K .normal (act 45 [(14, x14.1)]) x14.2 := kq_reg
theorem r52_4  : kCode env 52 false inv k (cp c52 872) (act 45 [(3, x3), (4, x4), (14, x14), (19, x19), (34, x34)]) h K =
    bnd (pNext x14 true h) fun x15 =>
    bnd (pExtract x15.1 0) fun x16 =>
    K .normal (act 45 [(14, x14), (15, x15.1), (16, x16)]) x15.2 := kq_reg
theorem b52_lrllrlrrlr  : kCode env 52 false inv k (cp c52 1746) (act 45 [(14, x14), (15, x15), (16, x16)]) h K = brV x16 (kCode env 52 false inv k (cp c52 3492) (act 45 [(14, x14), (15, x15), (16, x16)]) h K) (kCode env 52 false inv k (cp c52 3493) (act 45 [(14, x14), (15, x15), (16, x16)]) h K) := kq_cond
theorem r52_5  : kCode env 52 false inv k (cp c52 6988) (act 45 [(14, x14), (15, x15), (16, x16)]) h K =
    bnd (pExtract x15 1) fun x17 =>
    bnd (pExtract x15 2) fun x18 =>
    K .normal (act 45 [(3, x17), (4, x18), (14, x14)]) h := kq_reg
noncomputable abbrev G52_6 {β : Type} (inv : Inv) (x3 x4 x14 : Value) (h : AH) (K : Value → AH → Option β) : Option β :=
    bnd (pBin Try.prog .geq 21 (.tmp 20) (.const (.int .i32 97)) x4 (.int .i32 97)) fun x21 =>
    bnd (gd (some x21) true h (some (x4, h))) fun x23 =>
    bnd (gd (some x21) true x23.2 (lt (pBin Try.prog .leq 21 (.tmp 23) (.const (.int .i32 122)) x23.1 (.int .i32 122)) x23.2)) fun x24 =>
    bnd (pickV x21 x24.1 (.bool false)) fun x25 =>
    K (x25) x24.2
theorem r52_6  : kCode env 52 false inv k (cp c52 111824) (act 45 [(3, x3), (4, x4), (14, x14)]) h K =
    G52_6 inv x3 x4 x14 h fun y19 h => K .normal (act 45 [(3, x3), (4, x4), (14, x14), (19, y19)]) h := kq_reg
theorem b52_rlllrlrrllrlrrlr  : kCode env 52 false inv k (cp c52 111825) (act 45 [(3, x3), (4, x4), (14, x14), (19, x19)]) h K = brV x19 (kCode env 52 false inv k (cp c52 223650) (act 45 [(3, x3), (4, x4), (14, x14), (19, x19)]) h K) (kCode env 52 false inv k (cp c52 223651) (act 45 [(3, x3), (4, x4), (14, x14), (19, x19)]) h K) := kq_cond
noncomputable abbrev G52_7 {β : Type} (inv : Inv) (x3 x4 x14 : Value) (h : AH) (K : Value → AH → Option β) : Option β :=
    bnd (pBin Try.prog .geq 21 (.tmp 26) (.const (.int .i32 65)) x4 (.int .i32 65)) fun x27 =>
    bnd (gd (some x27) true h (some (x4, h))) fun x29 =>
    bnd (gd (some x27) true x29.2 (lt (pBin Try.prog .leq 21 (.tmp 29) (.const (.int .i32 90)) x29.1 (.int .i32 90)) x29.2)) fun x30 =>
    bnd (pickV x27 x30.1 (.bool false)) fun x31 =>
    K (x31) x30.2
theorem r52_7  : kCode env 52 false inv k (cp c52 447302) (act 45 [(3, x3), (4, x4), (14, x14), (19, x19)]) h K =
    G52_7 inv x3 x4 x14 h fun y19 h => K .normal (act 45 [(3, x3), (4, x4), (14, x14), (19, y19)]) h := kq_reg
theorem b52_rrrlllrlrrllrlrrlr  : kCode env 52 false inv k (cp c52 447303) (act 45 [(3, x3), (4, x4), (14, x14), (19, x19)]) h K = brV x19 (kCode env 52 false inv k (cp c52 894606) (act 45 [(3, x3), (4, x4), (14, x14), (19, x19)]) h K) (kCode env 52 false inv k (cp c52 894607) (act 45 [(3, x3), (4, x4), (14, x14), (19, x19)]) h K) := kq_cond
theorem r52_8  : kCode env 52 false inv k (cp c52 894607) (act 45 [(3, x3), (4, x4), (14, x14), (19, x19)]) h K =
    bnd (pBin Try.prog .eql 21 (.tmp 32) (.const (.int .i32 95)) x4 (.int .i32 95)) fun x33 =>
    K .normal (act 45 [(3, x3), (4, x4), (14, x14), (19, x33)]) h := kq_reg
noncomputable def F52_rlllrlrrllrlrrlr {β : Type} (inv : Inv) (k : Nat) (x3 x4 x14 x19 : Value) (h : AH) (kn : (Value → Value → Value → Value → AH → Option β)) : Option β :=
    brV x19
    (kn x3 x4 x14 x19 h)
    (G52_7 inv x3 x4 x14 h fun y19 h =>
    brV y19
    (kn x3 x4 x14 y19 h)
    (bnd (pBin Try.prog .eql 21 (.tmp 32) (.const (.int .i32 95)) x4 (.int .i32 95)) fun x33 =>
    kn x3 x4 x14 x33 h))
theorem F52_rlllrlrrllrlrrlr_eq  : kCode env 52 false inv k (cp c52 111825) (act 45 [(3, x3), (4, x4), (14, x14), (19, x19)]) h K = F52_rlllrlrrllrlrrlr inv k x3 x4 x14 x19 h (fun y3 y4 y14 y19 h => K .normal (act 45 [(3, y3), (4, y4), (14, y14), (19, y19)]) h) := by
      unfold F52_rlllrlrrllrlrrlr
      simp only [b52_rlllrlrrllrlrrlr, kq_skip c52 223650, kq_seq c52 223651, r52_7, b52_rrrlllrlrrllrlrrlr, kq_skip c52 894606, r52_8, reduceIte, reduceCtorEq, XE.exit.injEq, Nat.reduceEqDiff, Nat.reduceMul, Nat.reduceAdd] <;> kernel_rfl
theorem b52_rllrlrrllrlrrlr  : kCode env 52 false inv k (cp c52 55913) (act 45 [(3, x3), (4, x4), (14, x14), (19, x19)]) h K = brV x19 (kCode env 52 false inv k (cp c52 111826) (act 45 [(3, x3), (4, x4), (14, x14), (19, x19)]) h K) (kCode env 52 false inv k (cp c52 111827) (act 45 [(3, x3), (4, x4), (14, x14), (19, x19)]) h K) := kq_cond
noncomputable abbrev G52_9 {β : Type} (inv : Inv) (x3 x4 x14 : Value) (h : AH) (K : Value → AH → Option β) : Option β :=
    bnd (pBin Try.prog .gtr 3 (.tmp 35) (.const (.int .i64 0)) x3 (.int .i64 0)) fun x36 =>
    bnd (gd (some x36) true h (some (x4, h))) fun x38 =>
    bnd (gd (some x36) true x38.2 (lt (pBin Try.prog .geq 21 (.tmp 38) (.const (.int .i32 48)) x38.1 (.int .i32 48)) x38.2)) fun x39 =>
    bnd (pickV x36 x39.1 (.bool false)) fun x40 =>
    bnd (gd (some x40) true x39.2 (some (x4, x39.2))) fun x42 =>
    bnd (gd (some x40) true x42.2 (lt (pBin Try.prog .leq 21 (.tmp 42) (.const (.int .i32 57)) x42.1 (.int .i32 57)) x42.2)) fun x43 =>
    bnd (pickV x40 x43.1 (.bool false)) fun x44 =>
    K (x44) x43.2
theorem r52_9  : kCode env 52 false inv k (cp c52 223654) (act 45 [(3, x3), (4, x4), (14, x14), (19, x19)]) h K =
    G52_9 inv x3 x4 x14 h fun y34 h => K .normal (act 45 [(14, x14), (34, y34)]) h := kq_reg
theorem b52_rrrllrlrrllrlrrlr  : kCode env 52 false inv k (cp c52 223655) (act 45 [(14, x14), (34, x34)]) h K = brV x34 (kCode env 52 false inv k (cp c52 447310) (act 45 [(14, x14), (34, x34)]) h K) (kCode env 52 false inv k (cp c52 447311) (act 45 [(14, x14), (34, x34)]) h K) := kq_cond
theorem r52_10  : kCode env 52 false inv k (cp c52 27958) (act 45 [(14, x14), (34, x34)]) h K =
    K .normal (act 45 [(2, (.int .i64 170))]) h := kq_reg
noncomputable def F52_lrlrrlr {β : Type} (inv : Inv) (k : Nat) : Nat → Value → Value → Value → Value → Value → AH → (Value → Value → Value → AH → Option β) → (Value → AH → Option β) → Option β
  | 0, _, _, _, _, _, _, _, _ => none
  | j + 1, x3, x4, x14, x19, x34, h, ke0, kr =>
    bnd (pNext x14 true h) fun x15 =>
    bnd (pExtract x15.1 0) fun x16 =>
    brV x16
    (bnd (pExtract x15.1 1) fun x17 =>
    bnd (pExtract x15.1 2) fun x18 =>
    G52_6 inv x17 x18 x14 x15.2 fun y19 h =>
    F52_rlllrlrrllrlrrlr inv k x17 x18 x14 y19 h
    (fun y3 y4 y14 y19_1 h_2 =>
    brV y19_1
    (F52_lrlrrlr inv k j y3 y4 y14 y19_1 unk h_2 ke0 kr)
    (G52_9 inv y3 y4 y14 h_2 fun y34 h_3 =>
    brV y34
    (F52_lrlrrlr inv k j unk unk y14 unk y34 h_3 ke0 kr)
    (kr (.int .i64 170) h_3))))
    (ke0 x14 x15.1 x16 x15.2)
theorem F52_lrlrrlr_j (j : Nat) : kLoop (kCode env 52 false inv k (cp c52 436)) j (act 45 [(3, x3), (4, x4), (14, x14), (19, x19), (34, x34)]) h K = F52_lrlrrlr inv k j x3 x4 x14 x19 x34 h (fun y14 y15 y16 h => K (.exit 0) (act 45 [(14, y14), (15, y15), (16, y16)]) h) (fun y2 h => K .ret (act 45 [(2, y2)]) h) := by
      induction j generalizing x3 x4 x14 x19 x34 h with
      | zero => rfl
      | succ j ih =>
        have ih_34 : ∀ (x3 x4 x14 x19 : Value) (h : AH), kLoop (kCode env 52 false inv k (cp c52 436)) j (act 45 [(3, x3), (4, x4), (14, x14), (19, x19)]) h K = F52_lrlrrlr inv k j x3 x4 x14 x19 unk h (fun y14 y15 y16 h => K (.exit 0) (act 45 [(14, y14), (15, y15), (16, y16)]) h) (fun y2 h => K .ret (act 45 [(2, y2)]) h) := fun x3 x4 x14 x19 h => by
          rw [show act 45 [(3, x3), (4, x4), (14, x14), (19, x19)] = act 45 [(3, x3), (4, x4), (14, x14), (19, x19), (34, unk)] from by kernel_rfl]; exact ih ..
        have ih_3_4_19 : ∀ (x14 x34 : Value) (h : AH), kLoop (kCode env 52 false inv k (cp c52 436)) j (act 45 [(14, x14), (34, x34)]) h K = F52_lrlrrlr inv k j unk unk x14 unk x34 h (fun y14 y15 y16 h => K (.exit 0) (act 45 [(14, y14), (15, y15), (16, y16)]) h) (fun y2 h => K .ret (act 45 [(2, y2)]) h) := fun x14 x34 h => by
          rw [show act 45 [(14, x14), (34, x34)] = act 45 [(3, unk), (4, unk), (14, x14), (19, unk), (34, x34)] from by kernel_rfl]; exact ih ..
        unfold F52_lrlrrlr
        simp only [kLoop, kq_seq c52 436, r52_4, kq_seq c52 873, b52_lrllrlrrlr, kq_skip c52 3492, kq_block c52 1747 1, kq_seq c52 3494, r52_5, kq_seq c52 6989, kq_block c52 13978 2, kq_seq c52 27956, kq_seq c52 55912, r52_6, F52_rlllrlrrllrlrrlr_eq, b52_rllrlrrllrlrrlr, kq_exit c52 111826 1, kq_seq c52 111827, r52_9, b52_rrrllrlrrllrlrrlr, kq_exit c52 447310 1, kq_skip c52 447311, kq_seq c52 13979, r52_10, kq_ret c52 27959, kq_exit c52 3493 0, ih, ih_34, ih_3_4_19, reduceIte, reduceCtorEq, XE.exit.injEq, Nat.reduceEqDiff, Nat.reduceMul, Nat.reduceAdd] <;> kernel_rfl
theorem F52_lrlrrlr_eq  : kCode env 52 false inv k (cp c52 218) (act 45 [(3, x3), (4, x4), (14, x14), (19, x19), (34, x34)]) h K = F52_lrlrrlr inv k k x3 x4 x14 x19 x34 h (fun y14 y15 y16 h => K (.exit 0) (act 45 [(14, y14), (15, y15), (16, y16)]) h) (fun y2 h => K .ret (act 45 [(2, y2)]) h) := kq_loop (F52_lrlrrlr_j k)
theorem F52_lrlrrlr_eq_3_4_19_34  : kCode env 52 false inv k (cp c52 218) (act 45 [(14, x14)]) h K = F52_lrlrrlr inv k k unk unk x14 unk unk h (fun y14 y15 y16 h => K (.exit 0) (act 45 [(14, y14), (15, y15), (16, y16)]) h) (fun y2 h => K .ret (act 45 [(2, y2)]) h) := by
      rw [show act 45 [(14, x14)] = act 45 [(3, unk), (4, unk), (14, x14), (19, unk), (34, unk)] from by kernel_rfl]; exact F52_lrlrrlr_eq ..
theorem r52_11  : kCode env 52 false inv k (cp c52 110) (act 45 [(14, x14), (15, x15), (16, x16)]) h K =
    K .normal (act 45 [(2, (.int .i64 0))]) h := kq_reg
/-- shadowbook/schema.Name -/
noncomputable def F52 (inv : Inv) (k : Nat) (x0 : Value) (h : AH) : Option (Value × AH) :=
    G52_1 inv x0 h fun y12 h =>
    brV y12
    (some ((.int .i64 170), h))
    (bnd (pRange Try.prog 9 x0 h) fun x14 =>
    F52_lrlrrlr inv k k unk unk x14.1 unk unk x14.2
    (fun y14 y15 y16 h_4 =>
    some ((.int .i64 0), h_4))
    (fun y2 h_5 =>
    some (y2, h_5)))
theorem F52_eq : eFun env k inv 52 #[x0] h = F52 inv k x0 h := by
      refine (kq_fun (a := act 45 [(0, x0)]) (c := cp c52 1)).trans ?_
      unfold F52
      simp only [kq_seq c52 1, r52_0, kq_scope c52 3, kq_seq c52 6, kq_seq c52 12, r52_1, b52_rllr, kq_seq c52 50, r52_2, kq_ret c52 101, res52_0, kq_skip c52 51, kq_seq c52 13, kq_label c52 26, kq_seq c52 27, kq_seq c52 54, r52_3, kq_block c52 109 0, F52_lrlrrlr_eq_3_4_19_34, kq_seq c52 55, r52_11, kq_ret c52 111, reduceIte, reduceCtorEq, XE.exit.injEq, Nat.reduceEqDiff, Nat.reduceMul, Nat.reduceAdd] <;> kernel_rfl
theorem F52_call : eInv env (k + 1) (.func 52) #[] #[x0] h = F52 (eInv env k) k x0 h := kq_inv F52_eq
noncomputable def c53 : Code := codeOf Try.prog 53
theorem r53_0  : kCode env 53 false inv k (cp c53 2) (act 9 [(0, x0), (1, x1)]) h K =
    K .normal (act 9 [(0, x0), (1, x1)]) h := kq_reg
theorem r53_1  : kCode env 53 false inv k (cp c53 6) (act 9 [(0, x0), (1, x1)]) h K =
    bnd (inv (.func 71) #[] #[x0, x1] h) fun x7 =>
    bnd (pBin Try.prog .geq 3 (.tmp 7) (.const (.int .i64 0)) x7.1 (.int .i64 0)) fun x8 =>
    K .normal (act 9 [(4, x8)]) x7.2 := kq_reg
theorem res53_0 : resOfFn env.P 53 .ret (act 9 [(4, x4)]) h = some (x4, h) := kq_res
/-- slices.ContainsFunc[[]shadowbook/api.Col,shadowbook/api.Col] -/
noncomputable def F53 (inv : Inv) (k : Nat) (x0 x1 : Value) (h : AH) : Option (Value × AH) :=
    bnd (inv (.func 71) #[] #[x0, x1] h) fun x7 =>
    bnd (pBin Try.prog .geq 3 (.tmp 7) (.const (.int .i64 0)) x7.1 (.int .i64 0)) fun x8 =>
    some (x8, x7.2)
theorem F53_eq : eFun env k inv 53 #[x0, x1] h = F53 inv k x0 x1 h := by
      refine (kq_fun (a := act 9 [(0, x0), (1, x1)]) (c := cp c53 1)).trans ?_
      unfold F53
      simp only [kq_seq c53 1, r53_0, kq_seq c53 3, r53_1, kq_ret c53 7, res53_0, reduceIte, reduceCtorEq, XE.exit.injEq, Nat.reduceEqDiff, Nat.reduceMul, Nat.reduceAdd] <;> kernel_rfl
theorem F53_call : eInv env (k + 1) (.func 53) #[] #[x0, x1] h = F53 (eInv env k) k x0 x1 h := kq_inv F53_eq
noncomputable def c54 : Code := codeOf Try.prog 54
theorem r54_0  : kCode env 54 false inv k (cp c54 2) (act 9 [(0, x0), (1, x1)]) h K =
    bnd (pBox Try.prog 80 x0 h) fun x2 =>
    K .normal (act 9 [(1, x1), (2, x2.1)]) x2.2 := kq_reg
theorem r54_1  : kCode env 54 false inv k (cp c54 6) (act 9 [(1, x1), (2, x2)]) h K =
    bnd (pFieldAddr Try.prog 80 x2 0) fun x4 =>
    bnd (pLoad Try.prog 9 x4 h) fun x5 =>
    bnd (pFieldAddr Try.prog 80 x1 0) fun x6 =>
    bnd (pLoad Try.prog 9 x6 h) fun x7 =>
    bnd (pBin Try.prog .eql 9 (.tmp 5) (.tmp 7) x5 x7) fun x8 =>
    K .normal (act 9 [(3, x8)]) h := kq_reg
theorem res54_0 : resOfFn env.P 54 .ret (act 9 [(3, x3)]) h = some (x3, h) := kq_res
/-- shadowbook/schema.Check$1 -/
noncomputable def F54 (inv : Inv) (k : Nat) (x0 x1 : Value) (h : AH) : Option (Value × AH) :=
    bnd (pBox Try.prog 80 x0 h) fun x2 =>
    bnd (pFieldAddr Try.prog 80 x2.1 0) fun x4 =>
    bnd (pLoad Try.prog 9 x4 x2.2) fun x5 =>
    bnd (pFieldAddr Try.prog 80 x1 0) fun x6 =>
    bnd (pLoad Try.prog 9 x6 x2.2) fun x7 =>
    bnd (pBin Try.prog .eql 9 (.tmp 5) (.tmp 7) x5 x7) fun x8 =>
    some (x8, x2.2)
theorem F54_eq : eFun env k inv 54 #[x0, x1] h = F54 inv k x0 x1 h := by
      refine (kq_fun (a := act 9 [(0, x0), (1, x1)]) (c := cp c54 1)).trans ?_
      unfold F54
      simp only [kq_seq c54 1, r54_0, kq_seq c54 3, r54_1, kq_ret c54 7, res54_0, reduceIte, reduceCtorEq, XE.exit.injEq, Nat.reduceEqDiff, Nat.reduceMul, Nat.reduceAdd] <;> kernel_rfl
theorem F54_call : eInv env (k + 1) (.func 54) #[] #[x0, x1] h = F54 (eInv env k) k x0 x1 h := kq_inv F54_eq
noncomputable def c55 : Code := codeOf Try.prog 55
theorem r55_0  : kCode env 55 false inv k (cp c55 2) (act 62 [(0, x0)]) h K =
    bnd (pBox Try.prog 39 x0 h) fun x1 =>
    K .normal (act 62 [(1, x1.1)]) x1.2 := kq_reg
noncomputable abbrev G55_1 {β : Type} (inv : Inv) (x1 : Value) (h : AH) (K : Value → Value → AH → Option β) : Option β :=
    bnd (pFieldAddr Try.prog 39 x1 1) fun x5 =>
    bnd (pLoad Try.prog 23 x5 h) fun x6 =>
    bnd (pLen Try.prog #[23] x6 h) fun x7 =>
    bnd (pBin Try.prog .gtr 3 (.tmp 7) (.const (.int .i64 0)) x7 (.int .i64 0)) fun x8 =>
    bnd (pFieldAddr Try.prog 39 x1 3) fun x9 =>
    bnd (pLoad Try.prog 36 x9 h) fun x10 =>
    bnd (pLen Try.prog #[36] x10 h) fun x11 =>
    bnd (pBin Try.prog .gtr 3 (.tmp 11) (.const (.int .i64 0)) x11 (.int .i64 0)) fun x12 =>
    K (x8) (x12) h
theorem r55_1  : kCode env 55 false inv k (cp c55 6) (act 62 [(1, x1)]) h K =
    G55_1 inv x1 h fun y3 y4 h => K .normal (act 62 [(1, x1), (3, y3), (4, y4)]) h := kq_draw
theorem r55_2  : kCode env 55 false inv k (cp c55 28) (act 62 [(1, x1), (3, x3), (4, x4)]) h K =
    bnd (pFieldAddr Try.prog 39 x1 0) fun x13 =>
    bnd (pLoad Try.prog 3 x13 h) fun x14 =>
    K .normal (act 62 [(1, x1), (3, x3), (4, x4), (14, x14)]) h := kq_reg
theorem r55_3  : kCode env 55 false inv k (cp c55 116) (act 62 [(1, x1), (3, x3), (4, x4), (14, x14)]) h K =
    bnd (pBin Try.prog .eql 3 (.tmp 14) (.const (.int .i64 1)) x14 (.int .i64 1)) fun x16 =>
    K .normal (act 62 [(1, x1), (3, x3), (4, x4), (14, x14), (15, x16)]) h := kq_reg
theorem b55_rlrlrr  : kCode env 55 false inv k (cp c55 117) (act 62 [(1, x1), (3, x3), (4, x4), (14, x14), (15, x15)]) h K = brV x15 (kCode env 55 false inv k (cp c55 234) (act 62 [(1, x1), (3, x3), (4, x4), (14, x14), (15, x15)]) h K) (kCode env 55 false inv k (cp c55 235) (act 62 [(1, x1), (3, x3), (4, x4), (14, x14), (15, x15)]) h K) := kq_cond
noncomputable abbrev G55_4 {β : Type} (inv : Inv) (x1 x3 x4 : Value) (h : AH) (K : Value → AH → Option β) : Option β :=
    bnd (gd (some x3) true h (some (x4, h))) fun x19 =>
    bnd (gd (some x3) true x19.2 (lt (pUn Try.prog .not x19.1) x19.2)) fun x20 =>
    bnd (pickV x3 x20.1 (.bool false)) fun x21 =>
    bnd (gd (some x21) true x20.2 (lt (pFieldAddr Try.prog 39 x1 2) x20.2)) fun x23 =>
    bnd (gd (some x21) true x23.2 (lt (pLoad Try.prog 35 x23.1 x23.2) x23.2)) fun x24 =>
    bnd (gd (some x21) true x24.2 (lt (pLen Try.prog #[35] x24.1 x24.2) x24.2)) fun x25 =>
    bnd (gd (some x21) true x25.2 (lt (pFieldAddr Try.prog 39 x1 4) x25.2)) fun x26 =>
    bnd (gd (some x21) true x26.2 (lt (pLoad Try.prog 37 x26.1 x26.2) x26.2)) fun x27 =>
    bnd (gd (some x21) true x27.2 (lt (pLen Try.prog #[37] x27.1 x27.2) x27.2)) fun x28 =>
    bnd (gd (some x21) true x28.2 (lt (pBin Try.prog .add 3 (.tmp 25) (.tmp 28) x25.1 x28.1) x28.2)) fun x29 =>
    bnd (gd (some x21) true x29.2 (lt (pBin Try.prog .eql 3 (.tmp 29) (.const (.int .i64 0)) x29.1 (.int .i64 0)) x29.2)) fun x30 =>
    bnd (pickV x21 x30.1 (.bool false)) fun x31 =>
    K (x31) x30.2
theorem r55_4  : kCode env 55 false inv k (cp c55 468) (act 62 [(1, x1), (3, x3), (4, x4), (14, x14), (15, x15)]) h K =
    G55_4 inv x1 x3 x4 h fun y2 h => K .normal (act 62 [(2, y2)]) h := kq_reg
theorem res55_0 : resOfFn env.P 55 .ret (act 62 [(2, x2)]) h = some (x2, h) := kq_res
theorem r55_5  : kCode env 55 false inv k (cp c55 470) (act 62 [(1, x1), (3, x3), (4, x4), (14, x14), (15, x15)]) h K =
    bnd (pBin Try.prog .eql 3 (.tmp 14) (.const (.int .i64 2)) x14 (.int .i64 2)) fun x33 =>
    K .normal (act 62 [(1, x1), (3, x3), (4, x4), (14, x14), (32, x33)]) h := kq_reg
theorem b55_rrrlrlrr  : kCode env 55 false inv k (cp c55 471) (act 62 [(1, x1), (3, x3), (4, x4), (14, x14), (32, x32)]) h K = brV x32 (kCode env 55 false inv k (cp c55 942) (act 62 [(1, x1), (3, x3), (4, x4), (14, x14), (32, x32)]) h K) (kCode env 55 false inv k (cp c55 943) (act 62 [(1, x1), (3, x3), (4, x4), (14, x14), (32, x32)]) h K) := kq_cond
noncomputable abbrev G55_6 {β : Type} (inv : Inv) (x1 x3 x4 : Value) (h : AH) (K : Value → AH → Option β) : Option β :=
    bnd (pUn Try.prog .not x3) fun x35 =>
    bnd (gd (some x35) true h (some (x4, h))) fun x37 =>
    bnd (gd (some x35) true x37.2 (lt (pUn Try.prog .not x37.1) x37.2)) fun x38 =>
    bnd (pickV x35 x38.1 (.bool false)) fun x39 =>
    bnd (gd (some x39) true x38.2 (lt (pFieldAddr Try.prog 39 x1 4) x38.2)) fun x41 =>
    bnd (gd (some x39) true x41.2 (lt (pLoad Try.prog 37 x41.1 x41.2) x41.2)) fun x42 =>
    bnd (gd (some x39) true x42.2 (lt (pLen Try.prog #[37] x42.1 x42.2) x42.2)) fun x43 =>
    bnd (gd (some x39) true x43.2 (lt (pBin Try.prog .eql 3 (.tmp 43) (.const (.int .i64 0)) x43.1 (.int .i64 0)) x43.2)) fun x44 =>
    bnd (pickV x39 x44.1 (.bool false)) fun x45 =>
    K (x45) x44.2
theorem r55_6  : kCode env 55 false inv k (cp c55 1884) (act 62 [(1, x1), (3, x3), (4, x4), (14, x14), (32, x32)]) h K =
    G55_6 inv x1 x3 x4 h fun y2 h => K .normal (act 62 [(2, y2)]) h := kq_reg
theorem r55_7  : kCode env 55 false inv k (cp c55 1886) (act 62 [(1, x1), (3, x3), (4, x4), (14, x14), (32, x32)]) h K =
    bnd (pBin Try.prog .eql 3 (.tmp 14) (.const (.int .i64 3)) x14 (.int .i64 3)) fun x47 =>
    K .normal (act 62 [(1, x1), (3, x3), (4, x4), (46, x47)]) h := kq_reg
theorem b55_rrrrrlrlrr  : kCode env 55 false inv k (cp c55 1887) (act 62 [(1, x1), (3, x3), (4, x4), (46, x46)]) h K = brV x46 (kCode env 55 false inv k (cp c55 3774) (act 62 [(1, x1), (3, x3), (4, x4), (46, x46)]) h K) (kCode env 55 false inv k (cp c55 3775) (act 62 [(1, x1), (3, x3), (4, x4), (46, x46)]) h K) := kq_cond
noncomputable abbrev G55_8 {β : Type} (inv : Inv) (x1 x3 x4 : Value) (h : AH) (K : Value → AH → Option β) : Option β :=
    bnd (pUn Try.prog .not x3) fun x49 =>
    bnd (gd (some x49) true h (some (x4, h))) fun x51 =>
    bnd (pickV x49 x51.1 (.bool false)) fun x52 =>
    bnd (gd (some x52) true x51.2 (lt (pFieldAddr Try.prog 39 x1 4) x51.2)) fun x54 =>
    bnd (gd (some x52) true x54.2 (lt (pLoad Try.prog 37 x54.1 x54.2) x54.2)) fun x55 =>
    bnd (gd (some x52) true x55.2 (lt (pLen Try.prog #[37] x55.1 x55.2) x55.2)) fun x56 =>
    bnd (gd (some x52) true x56.2 (lt (pFieldAddr Try.prog 39 x1 3) x56.2)) fun x57 =>
    bnd (gd (some x52) true x57.2 (lt (pLoad Try.prog 36 x57.1 x57.2) x57.2)) fun x58 =>
    bnd (gd (some x52) true x58.2 (lt (pLen Try.prog #[36] x58.1 x58.2) x58.2)) fun x59 =>
    bnd (gd (some x52) true x59.2 (lt (pBin Try.prog .eql 3 (.tmp 56) (.tmp 59) x56.1 x59.1) x59.2)) fun x60 =>
    bnd (pickV x52 x60.1 (.bool false)) fun x61 =>
    K (x61) x60.2
theorem r55_8  : kCode env 55 false inv k (cp c55 7548) (act 62 [(1, x1), (3, x3), (4, x4), (46, x46)]) h K =
    G55_8 inv x1 x3 x4 h fun y2 h => K .normal (act 62 [(2, y2)]) h := kq_reg
theorem r55_9  : kCode env 55 false inv k (cp c55 30) (act 62 [(1, x1), (3, x3), (4, x4), (46, x46)]) h K =
    K .normal (act 62 [(2, (.bool false))]) h := kq_reg
/-- shadowbook/batch.bare -/
noncomputable def F55 (inv : Inv) (k : Nat) (x0 : Value) (h : AH) : Option (Value × AH) :=
    bnd (pBox Try.prog 39 x0 h) fun x1 =>
    G55_1 inv x1.1 x1.2 fun y3 y4 h =>
    bnd (pFieldAddr Try.prog 39 x1.1 0) fun x13 =>
    bnd (pLoad Try.prog 3 x13 h) fun x14 =>
    bnd (pBin Try.prog .eql 3 (.tmp 14) (.const (.int .i64 1)) x14 (.int .i64 1)) fun x16 =>
    brV x16
    (G55_4 inv x1.1 y3 y4 h fun y2 h_1 =>
    some (y2, h_1))
    (bnd (pBin Try.prog .eql 3 (.tmp 14) (.const (.int .i64 2)) x14 (.int .i64 2)) fun x33 =>
    brV x33
    (G55_6 inv x1.1 y3 y4 h fun y2_2 h_3 =>
    some (y2_2, h_3))
    (bnd (pBin Try.prog .eql 3 (.tmp 14) (.const (.int .i64 3)) x14 (.int .i64 3)) fun x47 =>
    brV x47
    (G55_8 inv x1.1 y3 y4 h fun y2_4 h_5 =>
    some (y2_4, h_5))
    (some ((.bool false), h))))
theorem F55_eq : eFun env k inv 55 #[x0] h = F55 inv k x0 h := by
      refine (kq_fun (a := act 62 [(0, x0)]) (c := cp c55 1)).trans ?_
      unfold F55
      simp only [kq_seq c55 1, r55_0, kq_seq c55 3, r55_1, kq_seq c55 7, kq_seq c55 14, r55_2, kq_block c55 29 0, kq_seq c55 58, r55_3, b55_rlrlrr, kq_seq c55 234, r55_4, kq_ret c55 469, res55_0, kq_seq c55 235, r55_5, b55_rrrlrlrr, kq_seq c55 942, r55_6, kq_ret c55 1885, kq_seq c55 943, r55_7, b55_rrrrrlrlrr, kq_seq c55 3774, r55_8, kq_ret c55 7549, kq_skip c55 3775, kq_seq c55 15, r55_9, kq_ret c55 31, reduceIte, reduceCtorEq, XE.exit.injEq, Nat.reduceEqDiff, Nat.reduceMul, Nat.reduceAdd] <;> kernel_rfl
theorem F55_call : eInv env (k + 1) (.func 55) #[] #[x0] h = F55 (eInv env k) k x0 h := kq_inv F55_eq
noncomputable def c56 : Code := codeOf Try.prog 56
theorem r56_0  : kCode env 56 false inv k (cp c56 2) (act 66 [(0, x0), (1, x1)]) h K =
    K .normal (act 66 [(0, x0), (1, x1)]) h := kq_reg
theorem r56_1  : kCode env 56 false inv k (cp c56 12) (act 66 [(0, x0), (1, x1)]) h K =
    bnd (inv (.func 33) #[] #[x0] h) fun x12 =>
    K .normal (act 66 [(0, x0), (1, x1), (5, x12.1)]) x12.2 := kq_reg
theorem r56_2  : kCode env 56 false inv k (cp c56 26) (act 66 [(0, x0), (1, x1), (5, x5)]) h K =
    bnd (pBin Try.prog .neq 27 (.tmp 13) (.const (.int .i64 0)) x5 (.int .i64 0)) fun x14 =>
    K .normal (act 66 [(0, x0), (1, x1), (5, x5), (14, x14)]) h := kq_reg
theorem b56_rrlr  : kCode env 56 false inv k (cp c56 27) (act 66 [(0, x0), (1, x1), (5, x5), (14, x14)]) h K = brV x14 (kCode env 56 false inv k (cp c56 54) (act 66 [(0, x0), (1, x1), (5, x5), (14, x14)]) h K) (kCode env 56 false inv k (cp c56 55) (act 66 [(0, x0), (1, x1), (5, x5), (14, x14)]) h K) := kq_cond
theorem r56_3  : kCode env 56 false inv k (cp c56 108) (act 66 [(0, x0), (1, x1), (5, x5), (14, x14)]) h K =
    K .normal (act 66 [(4, x5)]) h := kq_reg
theorem res56_0 : resOfFn env.P 56 .ret (act 66 [(4, x4)]) h = some (x4, h) := kq_res
theorem r56_4  : kCode env 56 false inv k (cp c56 28) (act 66 [(0, x0), (1, x1), (5, x5), (14, x14)]) h K =
    bnd (pLen Try.prog #[35] x1 h) fun x17 =>
    bnd (pBin Try.prog .gtr 3 (.tmp 17) (.const (.int .i64 64)) x17 (.int .i64 64)) fun x18 =>
    K .normal (act 66 [(0, x0), (1, x1), (18, x18)]) h := kq_reg
theorem b56_rlrr  : kCode env 56 false inv k (cp c56 29) (act 66 [(0, x0), (1, x1), (18, x18)]) h K = brV x18 (kCode env 56 false inv k (cp c56 58) (act 66 [(0, x0), (1, x1), (18, x18)]) h K) (kCode env 56 false inv k (cp c56 59) (act 66 [(0, x0), (1, x1), (18, x18)]) h K) := kq_cond
theorem r56_5  : kCode env 56 false inv k (cp c56 116) (act 66 [(0, x0), (1, x1), (18, x18)]) h K =
    K .normal (act 66 [(4, (.int .i64 180))]) h := kq_reg
theorem r56_6  : kCode env 56 false inv k (cp c56 30) (act 66 [(0, x0), (1, x1), (18, x18)]) h K =
    bnd (pLen Try.prog #[35] x1 h) fun x20 =>
    bnd (pMakeSlice Try.prog 36 x20 x20 h) fun x21 =>
    K .normal (act 66 [(0, x0), (1, x1), (6, x21.1)]) x21.2 := kq_reg
theorem r56_7  : kCode env 56 false inv k (cp c56 124) (act 66 [(0, x0), (1, x1), (6, x6)]) h K =
    bnd (pLen Try.prog #[35] x1 h) fun x23 =>
    K .normal (act 66 [(0, x0), (1, x1), (6, x6), (22, x1), (23, x23), (24, (.int .i64 0))]) h := kq_reg
theorem r56_8  : kCode env 56 false inv k (cp c56 1000) (act 66 [(0, x0), (1, x1), (6, x6), (22, x22), (23, x23), (24, x24)]) h K =
    bnd (pBin Try.prog .lss 3 (.tmp 24) (.tmp 23) x24 x23) fun x25 =>
    K .normal (act 66 [(0, x0), (1, x1), (6, x6), (22, x22), (23, x23), (24, x24), (25, x25)]) h := kq_reg
theorem b56_lrllrlrrrr  : kCode env 56 false inv k (cp c56 2002) (act 66 [(0, x0), (1, x1), (6, x6), (22, x22), (23, x23), (24, x24), (25, x25)]) h K = brV x25 (kCode env 56 false inv k (cp c56 4004) (act 66 [(0, x0), (1, x1), (6, x6), (22, x22), (23, x23), (24, x24), (25, x25)]) h K) (kCode env 56 false inv k (cp c56 4005) (act 66 [(0, x0), (1, x1), (6, x6), (22, x22), (23, x23), (24, x24), (25, x25)]) h K) := kq_cond
theorem r56_9  : kCode env 56 false inv k (cp c56 16024) (act 66 [(0, x0), (1, x1), (6, x6), (22, x22), (23, x23), (24, x24), (25, x25)]) h K =
    bnd (pIndexAddr Try.prog 35 x22 x24) fun x27 =>
    bnd (pLoad Try.prog 59 x27 h) fun x28 =>
    bnd (pAlloc Try.prog 59 h) fun x8 =>
    bnd (kSt (pStore Try.prog 59 x8.1 x28 x8.2)) fun u =>
    K .normal (act 66 [(0, x0), (1, x1), (6, x6), (7, x24), (8, x8.1), (22, x22), (23, x23), (24, x24)]) u.2 := kq_reg
theorem r56_10  : kCode env 56 false inv k (cp c56 64100) (act 66 [(0, x0), (1, x1), (6, x6), (7, x7), (8, x8), (22, x22), (23, x23), (24, x24)]) h K =
    bnd (pLoad Try.prog 59 x8 h) fun x30 =>
    bnd (inv (.func 72) #[] #[x0, x30] h) fun x31 =>
    bnd (pUn Try.prog .not x31.1) fun x32 =>
    K .normal (act 66 [(0, x0), (1, x1), (6, x6), (7, x7), (8, x8), (22, x22), (23, x23), (24, x24), (32, x32)]) x31.2 := kq_reg
theorem b56_rlrllrrllrlrrrr  : kCode env 56 false inv k (cp c56 64101) (act 66 [(0, x0), (1, x1), (6, x6), (7, x7), (8, x8), (22, x22), (23, x23), (24, x24), (32, x32)]) h K = brV x32 (kCode env 56 false inv k (cp c56 128202) (act 66 [(0, x0), (1, x1), (6, x6), (7, x7), (8, x8), (22, x22), (23, x23), (24, x24), (32, x32)]) h K) (kCode env 56 false inv k (cp c56 128203) (act 66 [(0, x0), (1, x1), (6, x6), (7, x7), (8, x8), (22, x22), (23, x23), (24, x24), (32, x32)]) h K) := kq_cond
theorem r56_11  : kCode env 56 false inv k (cp c56 256404) (act 66 [(0, x0), (1, x1), (6, x6), (7, x7), (8, x8), (22, x22), (23, x23), (24, x24), (32, x32)]) h K =
    K .normal (act 66 [(4, (.int .i64 180))]) h := kq_reg
theorem r56_12  : kCode env 56 false inv k (cp c56 64102) (act 66 [(0, x0), (1, x1), (6, x6), (7, x7), (8, x8), (22, x22), (23, x23), (24, x24), (32, x32)]) h K =
    bnd (pFieldAddr Try.prog 59 x8 3) fun x33 =>
    bnd (pLoad Try.prog 36 x33 h) fun x34 =>
    bnd (pLen Try.prog #[36] x34 h) fun x35 =>
    K .normal (act 66 [(0, x0), (1, x1), (6, x6), (7, x7), (22, x22), (23, x23), (24, x24), (34, x34), (35, x35), (36, (.int .i64 0))]) h := kq_reg
theorem r56_13  : kCode env 56 false inv k (cp c56 512824) (act 66 [(0, x0), (1, x1), (6, x6), (7, x7), (22, x22), (23, x23), (24, x24), (34, x34), (35, x35), (36, x36)]) h K =
    bnd (pBin Try.prog .lss 3 (.tmp 36) (.tmp 35) x36 x35) fun x37 =>
    K .normal (act 66 [(0, x0), (1, x1), (6, x6), (7, x7), (22, x22), (23, x23), (24, x24), (34, x34), (35, x35), (36, x36), (37, x37)]) h := kq_reg
theorem b56_lrllrrrllrrllrlrrrr  : kCode env 56 false inv k (cp c56 1025650) (act 66 [(0, x0), (1, x1), (6, x6), (7, x7), (22, x22), (23, x23), (24, x24), (34, x34), (35, x35), (36, x36), (37, x37)]) h K = brV x37 (kCode env 56 false inv k (cp c56 2051300) (act 66 [(0, x0), (1, x1), (6, x6), (7, x7), (22, x22), (23, x23), (24, x24), (34, x34), (35, x35), (36, x36), (37, x37)]) h K) (kCode env 56 false inv k (cp c56 2051301) (act 66 [(0, x0), (1, x1), (6, x6), (7, x7), (22, x22), (23, x23), (24, x24), (34, x34), (35, x35), (36, x36), (37, x37)]) h K) := kq_cond
theorem r56_14  : kCode env 56 false inv k (cp c56 8205208) (act 66 [(0, x0), (1, x1), (6, x6), (7, x7), (22, x22), (23, x23), (24, x24), (34, x34), (35, x35), (36, x36), (37, x37)]) h K =
    bnd (pIndexAddr Try.prog 36 x34 x36) fun x38 =>
    bnd (pLoad Try.prog 3 x38 h) fun x39 =>
    K .normal (act 66 [(0, x0), (1, x1), (6, x6), (7, x7), (10, x39), (22, x22), (23, x23), (24, x24), (34, x34), (35, x35), (36, x36)]) h := kq_reg
noncomputable abbrev G56_15 {β : Type} (inv : Inv) (x0 x1 x6 x7 x10 x22 x23 x24 x34 x35 x36 : Value) (h : AH) (K : Value → AH → Option β) : Option β :=
    bnd (pBin Try.prog .lss 3 (.tmp 40) (.const (.int .i64 0)) x10 (.int .i64 0)) fun x41 =>
    bnd (gd (some x41) false h (some (x10, h))) fun x43 =>
    bnd (gd (some x41) false x43.2 (some (x7, x43.2))) fun x44 =>
    bnd (gd (some x41) false x44.2 (lt (pBin Try.prog .geq 3 (.tmp 43) (.tmp 44) x43.1 x44.1) x44.2)) fun x45 =>
    bnd (pickV x41 (.bool true) x45.1) fun x46 =>
    K (x46) x45.2
theorem r56_15  : kCode env 56 false inv k (cp c56 32820836) (act 66 [(0, x0), (1, x1), (6, x6), (7, x7), (10, x10), (22, x22), (23, x23), (24, x24), (34, x34), (35, x35), (36, x36)]) h K =
    G56_15 inv x0 x1 x6 x7 x10 x22 x23 x24 x34 x35 x36 h fun y46 h => K .normal (act 66 [(0, x0), (1, x1), (6, x6), (7, x7), (10, x10), (22, x22), (23, x23), (24, x24), (34, x34), (35, x35), (36, x36), (46, y46)]) h := kq_reg
theorem b56_rlrllrrllrrrllrrllrlrrrr  : kCode env 56 false inv k (cp c56 32820837) (act 66 [(0, x0), (1, x1), (6, x6), (7, x7), (10, x10), (22, x22), (23, x23), (24, x24), (34, x34), (35, x35), (36, x36), (46, x46)]) h K = brV x46 (kCode env 56 false inv k (cp c56 65641674) (act 66 [(0, x0), (1, x1), (6, x6), (7, x7), (10, x10), (22, x22), (23, x23), (24, x24), (34, x34), (35, x35), (36, x36), (46, x46)]) h K) (kCode env 56 false inv k (cp c56 65641675) (act 66 [(0, x0), (1, x1), (6, x6), (7, x7), (10, x10), (22, x22), (23, x23), (24, x24), (34, x34), (35, x35), (36, x36), (46, x46)]) h K) := kq_cond
theorem r56_16  : kCode env 56 false inv k (cp c56 131283348) (act 66 [(0, x0), (1, x1), (6, x6), (7, x7), (10, x10), (22, x22), (23, x23), (24, x24), (34, x34), (35, x35), (36, x36), (46, x46)]) h K =
    K .normal (act 66 [(4, (.int .i64 180))]) h := kq_reg
theorem r56_17  : kCode env 56 false inv k (cp c56 16410419) (act 66 [(0, x0), (1, x1), (6, x6), (7, x7), (10, x10), (22, x22), (23, x23), (24, x24), (34, x34), (35, x35), (36, x36), (46, x46)]) h K =
    bnd (pIndexAddr Try.prog 36 x6 x10) fun x49 =>
    bnd (pLoad Try.prog 3 x49 h) fun x50 =>
    bnd (pBin Try.prog .add 3 (.tmp 50) (.const (.int .i64 1)) x50 (.int .i64 1)) fun x51 =>
    bnd (pIndexAddr Try.prog 36 x6 x10) fun x52 =>
    bnd (kSt (pStore Try.prog 3 x52 x51 h)) fun u =>
    K .normal (act 66 [(0, x0), (1, x1), (6, x6), (7, x7), (22, x22), (23, x23), (24, x24), (34, x34), (35, x35), (36, x36)]) u.2 := kq_reg
theorem r56_18  : kCode env 56 false inv k (cp c56 2051303) (act 66 [(0, x0), (1, x1), (6, x6), (7, x7), (22, x22), (23, x23), (24, x24), (34, x34), (35, x35), (36, x36)]) h K =
    bnd (pBin Try.prog .add 3 (.tmp 36) (.const (.int .i64 1)) x36 (.int .i64 1)) fun x53 =>
    K .normal (act 66 [(0, x0), (1, x1), (6, x6), (7, x7), (22, x22), (23, x23), (24, x24), (34, x34), (35, x35), (36, x53)]) h := kq_reg
noncomputable def F56_lrrrllrrllrlrrrr {β : Type} (inv : Inv) (k : Nat) : Nat → Value → Value → Value → Value → Value → Value → Value → Value → Value → Value → AH → (Value → Value → Value → Value → Value → Value → Value → Value → Value → Value → Value → AH → Option β) → (Value → AH → Option β) → Option β
  | 0, _, _, _, _, _, _, _, _, _, _, _, _, _ => none
  | j + 1, x0, x1, x6, x7, x22, x23, x24, x34, x35, x36, h, ke2, kr =>
    bnd (pBin Try.prog .lss 3 (.tmp 36) (.tmp 35) x36 x35) fun x37 =>
    brV x37
    (bnd (pIndexAddr Try.prog 36 x34 x36) fun x38 =>
    bnd (pLoad Try.prog 3 x38 h) fun x39 =>
    G56_15 inv x0 x1 x6 x7 x39 x22 x23 x24 x34 x35 x36 h fun y46 h =>
    brV y46
    (kr (.int .i64 180) h)
    (bnd (pIndexAddr Try.prog 36 x6 x39) fun x49 =>
    bnd (pLoad Try.prog 3 x49 h) fun x50 =>
    bnd (pBin Try.prog .add 3 (.tmp 50) (.const (.int .i64 1)) x50 (.int .i64 1)) fun x51 =>
    bnd (pIndexAddr Try.prog 36 x6 x39) fun x52 =>
    bnd (kSt (pStore Try.prog 3 x52 x51 h)) fun u =>
    bnd (pBin Try.prog .add 3 (.tmp 36) (.const (.int .i64 1)) x36 (.int .i64 1)) fun x53 =>
    F56_lrrrllrrllrlrrrr inv k j x0 x1 x6 x7 x22 x23 x24 x34 x35 x53 u.2 ke2 kr))
    (ke2 x0 x1 x6 x7 x22 x23 x24 x34 x35 x36 x37 h)
theorem F56_lrrrllrrllrlrrrr_j (j : Nat) : kLoop (kCode env 56 false inv k (cp c56 256412)) j (act 66 [(0, x0), (1, x1), (6, x6), (7, x7), (22, x22), (23, x23), (24, x24), (34, x34), (35, x35), (36, x36)]) h K = F56_lrrrllrrllrlrrrr inv k j x0 x1 x6 x7 x22 x23 x24 x34 x35 x36 h (fun y0 y1 y6 y7 y22 y23 y24 y34 y35 y36 y37 h => K (.exit 2) (act 66 [(0, y0), (1, y1), (6, y6), (7, y7), (22, y22), (23, y23), (24, y24), (34, y34), (35, y35), (36, y36), (37, y37)]) h) (fun y4 h => K .ret (act 66 [(4, y4)]) h) := by
      induction j generalizing x0 x1 x6 x7 x22 x23 x24 x34 x35 x36 h with
      | zero => rfl
      | succ j ih =>
        unfold F56_lrrrllrrllrlrrrr
        simp only [kLoop, kq_seq c56 256412, r56_13, kq_seq c56 512825, b56_lrllrrrllrrllrlrrrr, kq_skip c56 2051300, kq_seq c56 1025651, kq_block c56 2051302 3, kq_seq c56 4102604, r56_14, kq_seq c56 8205209, kq_seq c56 16410418, r56_15, b56_rlrllrrllrrrllrrllrlrrrr, kq_seq c56 65641674, r56_16, kq_ret c56 131283349, kq_skip c56 65641675, r56_17, r56_18, kq_exit c56 2051301 2, ih, reduceIte, reduceCtorEq, XE.exit.injEq, Nat.reduceEqDiff, Nat.reduceMul, Nat.reduceAdd] <;> kernel_rfl
theorem F56_lrrrllrrllrlrrrr_eq  : kCode env 56 false inv k (cp c56 128206) (act 66 [(0, x0), (1, x1), (6, x6), (7, x7), (22, x22), (23, x23), (24, x24), (34, x34), (35, x35), (36, x36)]) h K = F56_lrrrllrrllrlrrrr inv k k x0 x1 x6 x7 x22 x23 x24 x34 x35 x36 h (fun y0 y1 y6 y7 y22 y23 y24 y34 y35 y36 y37 h => K (.exit 2) (act 66 [(0, y0), (1, y1), (6, y6), (7, y7), (22, y22), (23, y23), (24, y24), (34, y34), (35, y35), (36, y36), (37, y37)]) h) (fun y4 h => K .ret (act 66 [(4, y4)]) h) := kq_loop (F56_lrrrllrrllrlrrrr_j k)
theorem r56_19  : kCode env 56 false inv k (cp c56 4007) (act 66 [(0, x0), (1, x1), (6, x6), (7, x7), (22, x22), (23, x23), (24, x24), (34, x34), (35, x35), (36, x36), (37, x37)]) h K =
    bnd (pBin Try.prog .add 3 (.tmp 24) (.const (.int .i64 1)) x24 (.int .i64 1)) fun x54 =>
    K .normal (act 66 [(0, x0), (1, x1), (6, x6), (22, x22), (23, x23), (24, x54)]) h := kq_reg
noncomputable def F56_lrlrrrr {β : Type} (inv : Inv) (k : Nat) : Nat → Value → Value → Value → Value → Value → Value → AH → (Value → Value → Value → Value → Value → Value → Value → AH → Option β) → (Value → AH → Option β) → Option β
  | 0, _, _, _, _, _, _, _, _, _ => none
  | j + 1, x0, x1, x6, x22, x23, x24, h, ke0, kr =>
    bnd (pBin Try.prog .lss 3 (.tmp 24) (.tmp 23) x24 x23) fun x25 =>
    brV x25
    (bnd (pIndexAddr Try.prog 35 x22 x24) fun x27 =>
    bnd (pLoad Try.prog 59 x27 h) fun x28 =>
    bnd (pAlloc Try.prog 59 h) fun x8 =>
    bnd (kSt (pStore Try.prog 59 x8.1 x28 x8.2)) fun u =>
    bnd (pLoad Try.prog 59 x8.1 u.2) fun x30 =>
    bnd (inv (.func 72) #[] #[x0, x30] u.2) fun x31 =>
    bnd (pUn Try.prog .not x31.1) fun x32 =>
    brV x32
    (kr (.int .i64 180) x31.2)
    (bnd (pFieldAddr Try.prog 59 x8.1 3) fun x33 =>
    bnd (pLoad Try.prog 36 x33 x31.2) fun x34 =>
    bnd (pLen Try.prog #[36] x34 x31.2) fun x35 =>
    F56_lrrrllrrllrlrrrr inv k k x0 x1 x6 x24 x22 x23 x24 x34 x35 (.int .i64 0) x31.2
    (fun y0 y1 y6 y7 y22 y23 y24 y34 y35 y36 y37 h =>
    bnd (pBin Try.prog .add 3 (.tmp 24) (.const (.int .i64 1)) y24 (.int .i64 1)) fun x54 =>
    F56_lrlrrrr inv k j y0 y1 y6 y22 y23 x54 h ke0 kr)
    (fun y4 h_1 =>
    kr y4 h_1)))
    (ke0 x0 x1 x6 x22 x23 x24 x25 h)
theorem F56_lrlrrrr_j (j : Nat) : kLoop (kCode env 56 false inv k (cp c56 500)) j (act 66 [(0, x0), (1, x1), (6, x6), (22, x22), (23, x23), (24, x24)]) h K = F56_lrlrrrr inv k j x0 x1 x6 x22 x23 x24 h (fun y0 y1 y6 y22 y23 y24 y25 h => K (.exit 0) (act 66 [(0, y0), (1, y1), (6, y6), (22, y22), (23, y23), (24, y24), (25, y25)]) h) (fun y4 h => K .ret (act 66 [(4, y4)]) h) := by
      induction j generalizing x0 x1 x6 x22 x23 x24 h with
      | zero => rfl
      | succ j ih =>
        unfold F56_lrlrrrr
        simp only [kLoop, kq_seq c56 500, r56_8, kq_seq c56 1001, b56_lrllrlrrrr, kq_skip c56 4004, kq_seq c56 2003, kq_block c56 4006 1, kq_seq c56 8012, r56_9, kq_seq c56 16025, kq_seq c56 32050, r56_10, b56_rlrllrrllrlrrrr, kq_seq c56 128202, r56_11, kq_ret c56 256405, kq_skip c56 128203, kq_seq c56 32051, r56_12, kq_block c56 64103 2, F56_lrrrllrrllrlrrrr_eq, r56_19, kq_exit c56 4005 0, ih, reduceIte, reduceCtorEq, XE.exit.injEq, Nat.reduceEqDiff, Nat.reduceMul, Nat.reduceAdd] <;> kernel_rfl
theorem F56_lrlrrrr_eq  : kCode env 56 false inv k (cp c56 250) (act 66 [(0, x0), (1, x1), (6, x6), (22, x22), (23, x23), (24, x24)]) h K = F56_lrlrrrr inv k k x0 x1 x6 x22 x23 x24 h (fun y0 y1 y6 y22 y23 y24 y25 h => K (.exit 0) (act 66 [(0, y0), (1, y1), (6, y6), (22, y22), (23, y23), (24, y24), (25, y25)]) h) (fun y4 h => K .ret (act 66 [(4, y4)]) h) := kq_loop (F56_lrlrrrr_j k)
noncomputable abbrev G56_20 {β : Type} (inv : Inv) (x1 x6 : Value) (h : AH) (K : Value → AH → Option β) : Option β :=
    bnd (pLen Try.prog #[35] x1 h) fun x56 =>
    bnd (pBin Try.prog .gtr 3 (.tmp 56) (.const (.int .i64 0)) x56 (.int .i64 0)) fun x57 =>
    bnd (gd (some x57) true h (some (x6, h))) fun x59 =>
    bnd (gd (some x57) true x59.2 (some (x1, x59.2))) fun x60 =>
    bnd (gd (some x57) true x60.2 (lt (pLen Try.prog #[35] x60.1 x60.2) x60.2)) fun x61 =>
    bnd (gd (some x57) true x61.2 (lt (pBin Try.prog .sub 3 (.tmp 61) (.const (.int .i64 1)) x61.1 (.int .i64 1)) x61.2)) fun x62 =>
    bnd (gd (some x57) true x62.2 (lt (pSlice Try.prog 36 x59.1 none (some x62.1) none x62.2) x62.2)) fun x63 =>
    bnd (gd (some x57) true x63.2 (inv (.func 73) #[] #[x63.1, (.func (.func 74) #[] #[])] x63.2)) fun x64 =>
    bnd (pickV x57 x64.1 (.bool false)) fun x65 =>
    K (x65) x64.2
theorem r56_20  : kCode env 56 false inv k (cp c56 252) (act 66 [(0, x0), (1, x1), (6, x6), (22, x22), (23, x23), (24, x24), (25, x25)]) h K =
    G56_20 inv x1 x6 h fun y65 h => K .normal (act 66 [(65, y65)]) h := kq_reg
theorem b56_rlrrrrr  : kCode env 56 false inv k (cp c56 253) (act 66 [(65, x65)]) h K = brV x65 (kCode env 56 false inv k (cp c56 506) (act 66 [(65, x65)]) h K) (kCode env 56 false inv k (cp c56 507) (act 66 [(65, x65)]) h K) := kq_cond
theorem r56_21  : kCode env 56 false inv k (cp c56 1012) (act 66 [(65, x65)]) h K =
    K .normal (act 66 [(4, (.int .i64 180))]) h := kq_reg
theorem r56_22  : kCode env 56 false inv k (cp c56 254) (act 66 [(65, x65)]) h K =
    K .normal (act 66 [(4, (.int .i64 0))]) h := kq_reg
/-- shadowbook/pred.Check -/
noncomputable def F56 (inv : Inv) (k : Nat) (x0 x1 : Value) (h : AH) : Option (Value × AH) :=
    bnd (inv (.func 33) #[] #[x0] h) fun x12 =>
    bnd (pBin Try.prog .neq 27 (.tmp 13) (.const (.int .i64 0)) x12.1 (.int .i64 0)) fun x14 =>
    brV x14
    (some (x12.1, x12.2))
    (bnd (pLen Try.prog #[35] x1 x12.2) fun x17 =>
    bnd (pBin Try.prog .gtr 3 (.tmp 17) (.const (.int .i64 64)) x17 (.int .i64 64)) fun x18 =>
    brV x18
    (some ((.int .i64 180), x12.2))
    (bnd (pLen Try.prog #[35] x1 x12.2) fun x20 =>
    bnd (pMakeSlice Try.prog 36 x20 x20 x12.2) fun x21 =>
    bnd (pLen Try.prog #[35] x1 x21.2) fun x23 =>
    F56_lrlrrrr inv k k x0 x1 x21.1 x1 x23 (.int .i64 0) x21.2
    (fun y0 y1 y6 y22 y23 y24 y25 h =>
    G56_20 inv y1 y6 h fun y65 h_2 =>
    brV y65
    (some ((.int .i64 180), h_2))
    (some ((.int .i64 0), h_2)))
    (fun y4 h_3 =>
    some (y4, h_3))))
theorem F56_eq : eFun env k inv 56 #[x0, x1] h = F56 inv k x0 x1 h := by
      refine (kq_fun (a := act 66 [(0, x0), (1, x1)]) (c := cp c56 1)).trans ?_
      unfold F56
      simp only [kq_seq c56 1, r56_0, kq_seq c56 3, kq_seq c56 6, r56_1, kq_seq c56 13, r56_2, b56_rrlr, kq_seq c56 54, r56_3, kq_ret c56 109, res56_0, kq_skip c56 55, kq_seq c56 7, kq_seq c56 14, r56_4, b56_rlrr, kq_seq c56 58, r56_5, kq_ret c56 117, kq_skip c56 59, kq_seq c56 15, r56_6, kq_seq c56 31, kq_seq c56 62, r56_7, kq_block c56 125 0, F56_lrlrrrr_eq, kq_seq c56 63, kq_seq c56 126, r56_20, b56_rlrrrrr, kq_seq c56 506, r56_21, kq_ret c56 1013, kq_skip c56 507, kq_seq c56 127, r56_22, kq_ret c56 255, reduceIte, reduceCtorEq, XE.exit.injEq, Nat.reduceEqDiff, Nat.reduceMul, Nat.reduceAdd] <;> kernel_rfl
theorem F56_call : eInv env (k + 1) (.func 56) #[] #[x0, x1] h = F56 (eInv env k) k x0 x1 h := kq_inv F56_eq
noncomputable def c57 : Code := codeOf Try.prog 57
theorem r57_0  : kCode env 57 false inv k (cp c57 2) (act 36 [(0, x0), (1, x1)]) h K =
    K .normal (act 36 [(0, x0), (1, x1)]) h := kq_reg
theorem r57_1  : kCode env 57 false inv k (cp c57 12) (act 36 [(0, x0), (1, x1)]) h K =
    bnd (inv (.func 33) #[] #[x0] h) fun x10 =>
    K .normal (act 36 [(0, x0), (1, x1), (5, x10.1)]) x10.2 := kq_reg
theorem r57_2  : kCode env 57 false inv k (cp c57 26) (act 36 [(0, x0), (1, x1), (5, x5)]) h K =
    bnd (pBin Try.prog .neq 27 (.tmp 11) (.const (.int .i64 0)) x5 (.int .i64 0)) fun x12 =>
    K .normal (act 36 [(0, x0), (1, x1), (5, x5), (12, x12)]) h := kq_reg
theorem b57_rrlr  : kCode env 57 false inv k (cp c57 27) (act 36 [(0, x0), (1, x1), (5, x5), (12, x12)]) h K = brV x12 (kCode env 57 false inv k (cp c57 54) (act 36 [(0, x0), (1, x1), (5, x5), (12, x12)]) h K) (kCode env 57 false inv k (cp c57 55) (act 36 [(0, x0), (1, x1), (5, x5), (12, x12)]) h K) := kq_cond
theorem r57_3  : kCode env 57 false inv k (cp c57 108) (act 36 [(0, x0), (1, x1), (5, x5), (12, x12)]) h K =
    K .normal (act 36 [(4, x5)]) h := kq_reg
theorem res57_0 : resOfFn env.P 57 .ret (act 36 [(4, x4)]) h = some (x4, h) := kq_res
theorem r57_4  : kCode env 57 false inv k (cp c57 28) (act 36 [(0, x0), (1, x1), (5, x5), (12, x12)]) h K =
    bnd (pLen Try.prog #[37] x1 h) fun x15 =>
    bnd (pLen Try.prog #[22] x0 h) fun x17 =>
    bnd (pBin Try.prog .neq 3 (.tmp 15) (.tmp 17) x15 x17) fun x18 =>
    K .normal (act 36 [(0, x0), (1, x1), (18, x18)]) h := kq_reg
theorem b57_rlrr  : kCode env 57 false inv k (cp c57 29) (act 36 [(0, x0), (1, x1), (18, x18)]) h K = brV x18 (kCode env 57 false inv k (cp c57 58) (act 36 [(0, x0), (1, x1), (18, x18)]) h K) (kCode env 57 false inv k (cp c57 59) (act 36 [(0, x0), (1, x1), (18, x18)]) h K) := kq_cond
theorem r57_5  : kCode env 57 false inv k (cp c57 116) (act 36 [(0, x0), (1, x1), (18, x18)]) h K =
    K .normal (act 36 [(4, (.int .i64 173))]) h := kq_reg
theorem r57_6  : kCode env 57 false inv k (cp c57 60) (act 36 [(0, x0), (1, x1), (18, x18)]) h K =
    bnd (pLen Try.prog #[22] x0 h) fun x20 =>
    K .normal (act 36 [(1, x1), (19, x0), (20, x20), (21, (.int .i64 0))]) h := kq_reg
theorem r57_7  : kCode env 57 false inv k (cp c57 488) (act 36 [(1, x1), (19, x19), (20, x20), (21, x21)]) h K =
    bnd (pBin Try.prog .lss 3 (.tmp 21) (.tmp 20) x21 x20) fun x22 =>
    K .normal (act 36 [(1, x1), (19, x19), (20, x20), (21, x21), (22, x22)]) h := kq_reg
theorem b57_lrllrlrrr  : kCode env 57 false inv k (cp c57 978) (act 36 [(1, x1), (19, x19), (20, x20), (21, x21), (22, x22)]) h K = brV x22 (kCode env 57 false inv k (cp c57 1956) (act 36 [(1, x1), (19, x19), (20, x20), (21, x21), (22, x22)]) h K) (kCode env 57 false inv k (cp c57 1957) (act 36 [(1, x1), (19, x19), (20, x20), (21, x21), (22, x22)]) h K) := kq_cond
theorem r57_8  : kCode env 57 false inv k (cp c57 7832) (act 36 [(1, x1), (19, x19), (20, x20), (21, x21), (22, x22)]) h K =
    bnd (pIndexAddr Try.prog 22 x19 x21) fun x24 =>
    bnd (pLoad Try.prog 80 x24 h) fun x25 =>
    bnd (pAlloc Try.prog 80 h) fun x7 =>
    bnd (kSt (pStore Try.prog 80 x7.1 x25 x7.2)) fun u =>
    K .normal (act 36 [(1, x1), (6, x21), (7, x7.1), (19, x19), (20, x20), (21, x21)]) u.2 := kq_reg
theorem r57_9  : kCode env 57 false inv k (cp c57 15666) (act 36 [(1, x1), (6, x6), (7, x7), (19, x19), (20, x20), (21, x21)]) h K =
    bnd (pLoad Try.prog 80 x7 h) fun x26 =>
    bnd (pIndexAddr Try.prog 37 x1 x6) fun x29 =>
    bnd (pLoad Try.prog 45 x29 h) fun x30 =>
    bnd (inv (.func 75) #[] #[x26, x30] h) fun x31 =>
    K .normal (act 36 [(1, x1), (8, x31.1), (19, x19), (20, x20), (21, x21)]) x31.2 := kq_draw
theorem r57_10  : kCode env 57 false inv k (cp c57 31334) (act 36 [(1, x1), (8, x8), (19, x19), (20, x20), (21, x21)]) h K =
    bnd (pBin Try.prog .neq 27 (.tmp 32) (.const (.int .i64 0)) x8 (.int .i64 0)) fun x33 =>
    K .normal (act 36 [(1, x1), (8, x8), (19, x19), (20, x20), (21, x21), (33, x33)]) h := kq_reg
theorem b57_rrrllrrllrlrrr  : kCode env 57 false inv k (cp c57 31335) (act 36 [(1, x1), (8, x8), (19, x19), (20, x20), (21, x21), (33, x33)]) h K = brV x33 (kCode env 57 false inv k (cp c57 62670) (act 36 [(1, x1), (8, x8), (19, x19), (20, x20), (21, x21), (33, x33)]) h K) (kCode env 57 false inv k (cp c57 62671) (act 36 [(1, x1), (8, x8), (19, x19), (20, x20), (21, x21), (33, x33)]) h K) := kq_cond
theorem r57_11  : kCode env 57 false inv k (cp c57 125340) (act 36 [(1, x1), (8, x8), (19, x19), (20, x20), (21, x21), (33, x33)]) h K =
    K .normal (act 36 [(4, x8)]) h := kq_reg
theorem r57_12  : kCode env 57 false inv k (cp c57 1959) (act 36 [(1, x1), (8, x8), (19, x19), (20, x20), (21, x21), (33, x33)]) h K =
    bnd (pBin Try.prog .add 3 (.tmp 21) (.const (.int .i64 1)) x21 (.int .i64 1)) fun x35 =>
    K .normal (act 36 [(1, x1), (19, x19), (20, x20), (21, x35)]) h := kq_reg
noncomputable def F57_lrlrrr {β : Type} (inv : Inv) (k : Nat) : Nat → Value → Value → Value → Value → AH → (Value → Value → Value → Value → Value → AH → Option β) → (Value → AH → Option β) → Option β
  | 0, _, _, _, _, _, _, _ => none
  | j + 1, x1, x19, x20, x21, h, ke0, kr =>
    bnd (pBin Try.prog .lss 3 (.tmp 21) (.tmp 20) x21 x20) fun x22 =>
    brV x22
    (bnd (pIndexAddr Try.prog 22 x19 x21) fun x24 =>
    bnd (pLoad Try.prog 80 x24 h) fun x25 =>
    bnd (pAlloc Try.prog 80 h) fun x7 =>
    bnd (kSt (pStore Try.prog 80 x7.1 x25 x7.2)) fun u =>
    bnd (pLoad Try.prog 80 x7.1 u.2) fun x26 =>
    bnd (pIndexAddr Try.prog 37 x1 x21) fun x29 =>
    bnd (pLoad Try.prog 45 x29 u.2) fun x30 =>
    bnd (inv (.func 75) #[] #[x26, x30] u.2) fun x31 =>
    bnd (pBin Try.prog .neq 27 (.tmp 32) (.const (.int .i64 0)) x31.1 (.int .i64 0)) fun x33 =>
    brV x33
    (kr x31.1 x31.2)
    (bnd (pBin Try.prog .add 3 (.tmp 21) (.const (.int .i64 1)) x21 (.int .i64 1)) fun x35 =>
    F57_lrlrrr inv k j x1 x19 x20 x35 x31.2 ke0 kr))
    (ke0 x1 x19 x20 x21 x22 h)
theorem F57_lrlrrr_j (j : Nat) : kLoop (kCode env 57 false inv k (cp c57 244)) j (act 36 [(1, x1), (19, x19), (20, x20), (21, x21)]) h K = F57_lrlrrr inv k j x1 x19 x20 x21 h (fun y1 y19 y20 y21 y22 h => K (.exit 0) (act 36 [(1, y1), (19, y19), (20, y20), (21, y21), (22, y22)]) h) (fun y4 h => K .ret (act 36 [(4, y4)]) h) := by
      induction j generalizing x1 x19 x20 x21 h with
      | zero => rfl
      | succ j ih =>
        unfold F57_lrlrrr
        simp only [kLoop, kq_seq c57 244, r57_7, kq_seq c57 489, b57_lrllrlrrr, kq_skip c57 1956, kq_seq c57 979, kq_block c57 1958 1, kq_seq c57 3916, r57_8, kq_seq c57 7833, r57_9, kq_seq c57 15667, r57_10, b57_rrrllrrllrlrrr, kq_seq c57 62670, r57_11, kq_ret c57 125341, kq_skip c57 62671, r57_12, kq_exit c57 1957 0, ih, reduceIte, reduceCtorEq, XE.exit.injEq, Nat.reduceEqDiff, Nat.reduceMul, Nat.reduceAdd] <;> kernel_rfl
theorem F57_lrlrrr_eq  : kCode env 57 false inv k (cp c57 122) (act 36 [(1, x1), (19, x19), (20, x20), (21, x21)]) h K = F57_lrlrrr inv k k x1 x19 x20 x21 h (fun y1 y19 y20 y21 y22 h => K (.exit 0) (act 36 [(1, y1), (19, y19), (20, y20), (21, y21), (22, y22)]) h) (fun y4 h => K .ret (act 36 [(4, y4)]) h) := kq_loop (F57_lrlrrr_j k)
theorem r57_13  : kCode env 57 false inv k (cp c57 62) (act 36 [(1, x1), (19, x19), (20, x20), (21, x21), (22, x22)]) h K =
    K .normal (act 36 [(4, (.int .i64 0))]) h := kq_reg
/-- shadowbook/schema.Row -/
noncomputable def F57 (inv : Inv) (k : Nat) (x0 x1 : Value) (h : AH) : Option (Value × AH) :=
    bnd (inv (.func 33) #[] #[x0] h) fun x10 =>
    bnd (pBin Try.prog .neq 27 (.tmp 11) (.const (.int .i64 0)) x10.1 (.int .i64 0)) fun x12 =>
    brV x12
    (some (x10.1, x10.2))
    (bnd (pLen Try.prog #[37] x1 x10.2) fun x15 =>
    bnd (pLen Try.prog #[22] x0 x10.2) fun x17 =>
    bnd (pBin Try.prog .neq 3 (.tmp 15) (.tmp 17) x15 x17) fun x18 =>
    brV x18
    (some ((.int .i64 173), x10.2))
    (bnd (pLen Try.prog #[22] x0 x10.2) fun x20 =>
    F57_lrlrrr inv k k x1 x0 x20 (.int .i64 0) x10.2
    (fun y1 y19 y20 y21 y22 h =>
    some ((.int .i64 0), h))
    (fun y4 h_1 =>
    some (y4, h_1))))
theorem F57_eq : eFun env k inv 57 #[x0, x1] h = F57 inv k x0 x1 h := by
      refine (kq_fun (a := act 36 [(0, x0), (1, x1)]) (c := cp c57 1)).trans ?_
      unfold F57
      simp only [kq_seq c57 1, r57_0, kq_seq c57 3, kq_seq c57 6, r57_1, kq_seq c57 13, r57_2, b57_rrlr, kq_seq c57 54, r57_3, kq_ret c57 109, res57_0, kq_skip c57 55, kq_seq c57 7, kq_seq c57 14, r57_4, b57_rlrr, kq_seq c57 58, r57_5, kq_ret c57 117, kq_skip c57 59, kq_seq c57 15, kq_seq c57 30, r57_6, kq_block c57 61 0, F57_lrlrrr_eq, kq_seq c57 31, r57_13, kq_ret c57 63, reduceIte, reduceCtorEq, XE.exit.injEq, Nat.reduceEqDiff, Nat.reduceMul, Nat.reduceAdd] <;> kernel_rfl
theorem F57_call : eInv env (k + 1) (.func 57) #[] #[x0, x1] h = F57 (eInv env k) k x0 x1 h := kq_inv F57_eq
end Go.Proofs.Ytjmfokglckaneaa.Sh
