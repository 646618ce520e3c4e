/- Shallow functions, part 1. Printed by a program of the prover's own from the loaded program; Lean checks it. -/
import Derived.Test.YtjmfokglckaneaaSz0
set_option linter.unusedVariables false
set_option linter.unusedSimpArgs false
set_option maxRecDepth 100000
namespace Go.Proofs.Ytjmfokglckaneaa.Sh
open Go Go.RowKit Go.Proofs.Ev
variable {β : Type} {inv : Inv} {k : Nat} {h : AH} {K : XE → Act → AH → Option β} {x0 x1 x2 x3 x4 x5 x6 x7 x8 x9 x10 x11 x12 x13 x14 x15 x16 x17 x18 x19 x20 x21 x22 x23 x24 x25 x26 x27 x28 x29 x30 x31 x32 x33 x34 x35 x36 x37 x38 x39 x40 x41 x42 x44 x45 x46 x47 x48 x49 x50 x51 x52 x53 x54 x55 x56 x57 x58 x59 x60 x61 x62 x63 x64 x65 x66 x67 x69 x70 x71 x72 x73 x74 x75 x76 x77 x78 x79 x80 x81 x82 x83 x84 x85 x86 x87 x88 x89 x90 x91 x92 x93 x94 x95 x96 x97 x98 : Value}
noncomputable def c5 : Code := codeOf Try.prog 5
theorem r5_0  : kCode env 5 false inv k (cp c5 2) (act 115 [(0, x0), (1, x1), (2, x2)]) h K =
    K .normal (act 115 [(0, x0), (1, x1), (2, x2)]) h := kq_reg
theorem r5_1  : kCode env 5 false inv k (cp c5 12) (act 115 [(0, x0), (1, x1), (2, x2)]) h K =
    bnd (inv (.func 8) #[] #[] h) fun x18 =>
    bnd (pUn Try.prog .not x18.1) fun x19 =>
    K .normal (act 115 [(0, x0), (1, x1), (2, x2), (19, x19)]) x18.2 := kq_reg
theorem b5_rlr  : kCode env 5 false inv k (cp c5 13) (act 115 [(0, x0), (1, x1), (2, x2), (19, x19)]) h K = brV x19 (kCode env 5 false inv k (cp c5 26) (act 115 [(0, x0), (1, x1), (2, x2), (19, x19)]) h K) (kCode env 5 false inv k (cp c5 27) (act 115 [(0, x0), (1, x1), (2, x2), (19, x19)]) h K) := kq_cond
theorem r5_2  : kCode env 5 false inv k (cp c5 52) (act 115 [(0, x0), (1, x1), (2, x2), (19, x19)]) h K =
    K .normal (act 115 [(6, (.bool false))]) h := kq_reg
theorem res5_0 : resOfFn env.P 5 .ret (act 115 [(6, x6)]) h = some (x6, h) := kq_res
theorem r5_3  : kCode env 5 false inv k (cp c5 14) (act 115 [(0, x0), (1, x1), (2, x2), (19, x19)]) h K =
    bnd (pBuild Try.prog 39 #[(0, (.int .i64 2)), (2, x2)]) fun x21 =>
    bnd (pAlloc Try.prog 39 h) fun x7 =>
    bnd (kSt (pStore Try.prog 39 x7.1 x21 x7.2)) fun u =>
    K .normal (act 115 [(0, x0), (1, x1), (2, x2), (7, x7.1)]) u.2 := kq_reg
noncomputable abbrev G5_4 {β : Type} (inv : Inv) (x0 x1 x2 x7 : Value) (h : AH) (K : Value → AH → Option β) : Option β :=
    bnd (pLoad Try.prog 39 x7 h) fun x24 =>
    bnd (pBuildSlice Try.prog 24 1 #[(0, x24)] h) fun x25 =>
    bnd (inv (.func 9) #[] #[x0, x1, x25.1] x25.2) fun x26 =>
    bnd (pUn Try.prog .not x26.1) fun x27 =>
    bnd (gd (some x27) false x26.2 (some (x0, x26.2))) fun x29 =>
    bnd (gd (some x27) false x29.2 (some (x2, x29.2))) fun x30 =>
    bnd (gd (some x27) false x30.2 (inv (.func 18) #[] #[x29.1, x30.1] x30.2)) fun x31 =>
    bnd (gd (some x27) false x31.2 (lt (pBin Try.prog .neq 27 (.tmp 31) (.const (.int .i64 0)) x31.1 (.int .i64 0)) x31.2)) fun x32 =>
    bnd (pickV x27 (.bool true) x32.1) fun x33 =>
    bnd (gd (some x33) false x32.2 (some (x0, x32.2))) fun x35 =>
    bnd (gd (some x33) false x35.2 (some (x1, x35.2))) fun x36 =>
    bnd (gd (some x33) false x36.2 (inv (.func 11) #[] #[x35.1, x36.1] x36.2)) fun x37 =>
    bnd (gd (some x33) false x37.2 (lt (pUn Try.prog .not x37.1) x37.2)) fun x38 =>
    bnd (pickV x33 (.bool true) x38.1) fun x39 =>
    K (x39) x38.2
theorem r5_4  : kCode env 5 false inv k (cp c5 60) (act 115 [(0, x0), (1, x1), (2, x2), (7, x7)]) h K =
    G5_4 inv x0 x1 x2 x7 h fun y39 h => K .normal (act 115 [(1, x1), (2, x2), (7, x7), (39, y39)]) h := kq_reg
theorem b5_rlrrr  : kCode env 5 false inv k (cp c5 61) (act 115 [(1, x1), (2, x2), (7, x7), (39, x39)]) h K = brV x39 (kCode env 5 false inv k (cp c5 122) (act 115 [(1, x1), (2, x2), (7, x7), (39, x39)]) h K) (kCode env 5 false inv k (cp c5 123) (act 115 [(1, x1), (2, x2), (7, x7), (39, x39)]) h K) := kq_cond
theorem r5_5  : kCode env 5 false inv k (cp c5 244) (act 115 [(1, x1), (2, x2), (7, x7), (39, x39)]) h K =
    K .normal (act 115 [(6, (.bool true))]) h := kq_reg
theorem r5_6  : kCode env 5 false inv k (cp c5 62) (act 115 [(1, x1), (2, x2), (7, x7), (39, x39)]) h K =
    bnd (inv (.func 15) #[] #[x1] h) fun x41 =>
    K .normal (act 115 [(1, x1), (2, x2), (7, x7), (8, x41.1)]) x41.2 := kq_reg
theorem r5_7  : kCode env 5 false inv k (cp c5 126) (act 115 [(1, x1), (2, x2), (7, x7), (8, x8)]) h K =
    bnd (pLoad Try.prog 39 x7 h) fun x44 =>
    bnd (inv (.func 16) #[] #[x1, x44] h) fun x45 =>
    bnd (pExtract x45.1 0) fun x46 =>
    bnd (pExtract x45.1 1) fun x47 =>
    K .normal (act 115 [(1, x1), (2, x2), (7, x7), (8, x8), (9, x46), (10, x47)]) x45.2 := kq_reg
theorem r5_8  : kCode env 5 false inv k (cp c5 254) (act 115 [(1, x1), (2, x2), (7, x7), (8, x8), (9, x9), (10, x10)]) h K =
    bnd (pLoad Try.prog 39 x7 h) fun x50 =>
    bnd (inv (.func 16) #[] #[x9, x50] h) fun x51 =>
    bnd (pExtract x51.1 0) fun x52 =>
    bnd (pExtract x51.1 1) fun x53 =>
    K .normal (act 115 [(1, x1), (2, x2), (8, x8), (9, x9), (10, x10), (11, x52), (12, x53)]) x51.2 := kq_reg
theorem r5_9  : kCode env 5 false inv k (cp c5 510) (act 115 [(1, x1), (2, x2), (8, x8), (9, x9), (10, x10), (11, x11), (12, x12)]) h K =
    bnd (pBuildSlice Try.prog 49 1 #[(0, x2)] h) fun x55 =>
    bnd (inv (.func 19) #[] #[(.int .i64 8), x55.1] x55.2) fun x56 =>
    bnd (pBuild Try.prog 39 #[(0, (.int .i64 2)), (2, x56.1)]) fun x57 =>
    bnd (pAlloc Try.prog 39 x56.2) fun x13 =>
    bnd (kSt (pStore Try.prog 39 x13.1 x57 x13.2)) fun u =>
    K .normal (act 115 [(1, x1), (8, x8), (9, x9), (10, x10), (11, x11), (12, x12), (13, x13.1)]) u.2 := kq_reg
theorem r5_10  : kCode env 5 false inv k (cp c5 1022) (act 115 [(1, x1), (8, x8), (9, x9), (10, x10), (11, x11), (12, x12), (13, x13)]) h K =
    bnd (pLoad Try.prog 39 x13 h) fun x60 =>
    bnd (inv (.func 16) #[] #[x1, x60] h) fun x61 =>
    bnd (pExtract x61.1 0) fun x62 =>
    bnd (pExtract x61.1 1) fun x63 =>
    K .normal (act 115 [(1, x1), (8, x8), (9, x9), (10, x10), (11, x11), (12, x12), (14, x62), (15, x63)]) x61.2 := kq_reg
theorem r5_11  : kCode env 5 false inv k (cp c5 4092) (act 115 [(1, x1), (8, x8), (9, x9), (10, x10), (11, x11), (12, x12), (14, x14), (15, x15)]) h K =
    K .normal (act 115 [(1, x1), (8, x8), (9, x9), (10, x10), (11, x11), (12, x12), (14, x14), (15, x15), (16, (.int .i64 0))]) h := kq_reg
theorem r5_12  : kCode env 5 false inv k (cp c5 65488) (act 115 [(1, x1), (8, x8), (9, x9), (10, x10), (11, x11), (12, x12), (14, x14), (15, x15), (16, x16)]) h K =
    bnd (pLen Try.prog #[23] x14 h) fun x66 =>
    bnd (pBin Try.prog .lss 3 (.tmp 64) (.tmp 66) x16 x66) fun x67 =>
    K .normal (act 115 [(1, x1), (8, x8), (9, x9), (10, x10), (11, x11), (12, x12), (14, x14), (15, x15), (16, x16), (67, x67)]) h := kq_reg
theorem b5_rlllrlrrrrrrrrr  : kCode env 5 false inv k (cp c5 65489) (act 115 [(1, x1), (8, x8), (9, x9), (10, x10), (11, x11), (12, x12), (14, x14), (15, x15), (16, x16), (67, x67)]) h K = brV x67 (kCode env 5 false inv k (cp c5 130978) (act 115 [(1, x1), (8, x8), (9, x9), (10, x10), (11, x11), (12, x12), (14, x14), (15, x15), (16, x16), (67, x67)]) h K) (kCode env 5 false inv k (cp c5 130979) (act 115 [(1, x1), (8, x8), (9, x9), (10, x10), (11, x11), (12, x12), (14, x14), (15, x15), (16, x16), (67, x67)]) h K) := kq_cond
theorem r5_14  : kCode env 5 false inv k (cp c5 261960) (act 115 [(1, x1), (8, x8), (9, x9), (10, x10), (11, x11), (12, x12), (14, x14), (15, x15), (16, x16), (67, x67)]) h K =
    K .normal (act 115 [(1, x1), (8, x8), (9, x9), (10, x10), (11, x11), (12, x12), (14, x14), (15, x15), (16, x16), (17, (.int .i64 0))]) h := kq_reg
theorem r5_15  : kCode env 5 false inv k (cp c5 4191376) (act 115 [(1, x1), (8, x8), (9, x9), (10, x10), (11, x11), (12, x12), (14, x14), (15, x15), (16, x16), (17, x17)]) h K =
    bnd (pIndexAddr Try.prog 23 x14 x16) fun x73 =>
    bnd (pLoad Try.prog 37 x73 h) fun x74 =>
    bnd (pLen Try.prog #[37] x74 h) fun x75 =>
    bnd (pBin Try.prog .lss 3 (.tmp 70) (.tmp 75) x17 x75) fun x76 =>
    K .normal (act 115 [(1, x1), (8, x8), (9, x9), (10, x10), (11, x11), (12, x12), (14, x14), (15, x15), (16, x16), (17, x17), (76, x76)]) h := kq_reg
theorem b5_rlllrllrllrlrrrrrrrrr  : kCode env 5 false inv k (cp c5 4191377) (act 115 [(1, x1), (8, x8), (9, x9), (10, x10), (11, x11), (12, x12), (14, x14), (15, x15), (16, x16), (17, x17), (76, x76)]) h K = brV x76 (kCode env 5 false inv k (cp c5 8382754) (act 115 [(1, x1), (8, x8), (9, x9), (10, x10), (11, x11), (12, x12), (14, x14), (15, x15), (16, x16), (17, x17), (76, x76)]) h K) (kCode env 5 false inv k (cp c5 8382755) (act 115 [(1, x1), (8, x8), (9, x9), (10, x10), (11, x11), (12, x12), (14, x14), (15, x15), (16, x16), (17, x17), (76, x76)]) h K) := kq_cond
theorem r5_17  : kCode env 5 false inv k (cp c5 8382756) (act 115 [(1, x1), (8, x8), (9, x9), (10, x10), (11, x11), (12, x12), (14, x14), (15, x15), (16, x16), (17, x17), (76, x76)]) h K =
    bnd (pIndexAddr Try.prog 23 x14 x16) fun x81 =>
    bnd (pLoad Try.prog 37 x81 h) fun x82 =>
    bnd (pBuild Try.prog 45 #[]) fun x84 =>
    bnd (pIndexAddr Try.prog 37 x82 x17) fun x85 =>
    bnd (kSt (pStore Try.prog 45 x85 x84 h)) fun u =>
    K .normal (act 115 [(1, x1), (8, x8), (9, x9), (10, x10), (11, x11), (12, x12), (14, x14), (15, x15), (16, x16), (17, x17)]) u.2 := kq_reg
theorem r5_16  : kCode env 5 false inv k (cp c5 4191379) (act 115 [(1, x1), (8, x8), (9, x9), (10, x10), (11, x11), (12, x12), (14, x14), (15, x15), (16, x16), (17, x17)]) h K =
    bnd (pBin Try.prog .add 3 (.tmp 77) (.const (.int .i64 1)) x17 (.int .i64 1)) fun x78 =>
    K .normal (act 115 [(1, x1), (8, x8), (9, x9), (10, x10), (11, x11), (12, x12), (14, x14), (15, x15), (16, x16), (17, x78)]) h := kq_reg
noncomputable def F5_lrllrllrlrrrrrrrrr {β : Type} (inv : Inv) (k : Nat) : Nat → Value → Value → Value → Value → Value → Value → Value → Value → Value → Value → AH → (Value → Value → Value → Value → Value → Value → Value → Value → Value → Value → Value → AH → Option β) → Option β
  | 0, _, _, _, _, _, _, _, _, _, _, _, _ => none
  | j + 1, x1, x8, x9, x10, x11, x12, x14, x15, x16, x17, h, ke2 =>
    bnd (pIndexAddr Try.prog 23 x14 x16) fun x73 =>
    bnd (pLoad Try.prog 37 x73 h) fun x74 =>
    bnd (pLen Try.prog #[37] x74 h) fun x75 =>
    bnd (pBin Try.prog .lss 3 (.tmp 70) (.tmp 75) x17 x75) fun x76 =>
    brV x76
    (bnd (pIndexAddr Try.prog 23 x14 x16) fun x81 =>
    bnd (pLoad Try.prog 37 x81 h) fun x82 =>
    bnd (pBuild Try.prog 45 #[]) fun x84 =>
    bnd (pIndexAddr Try.prog 37 x82 x17) fun x85 =>
    bnd (kSt (pStore Try.prog 45 x85 x84 h)) fun u =>
    bnd (pBin Try.prog .add 3 (.tmp 77) (.const (.int .i64 1)) x17 (.int .i64 1)) fun x78 =>
    F5_lrllrllrlrrrrrrrrr inv k j x1 x8 x9 x10 x11 x12 x14 x15 x16 x78 u.2 ke2)
    (ke2 x1 x8 x9 x10 x11 x12 x14 x15 x16 x17 x76 h)
theorem F5_lrllrllrlrrrrrrrrr_j (j : Nat) : kLoop (kCode env 5 false inv k (cp c5 1047844)) j (act 115 [(1, x1), (8, x8), (9, x9), (10, x10), (11, x11), (12, x12), (14, x14), (15, x15), (16, x16), (17, x17)]) h K = F5_lrllrllrlrrrrrrrrr inv k j x1 x8 x9 x10 x11 x12 x14 x15 x16 x17 h (fun y1 y8 y9 y10 y11 y12 y14 y15 y16 y17 y76 h => K (.exit 2) (act 115 [(1, y1), (8, y8), (9, y9), (10, y10), (11, y11), (12, y12), (14, y14), (15, y15), (16, y16), (17, y17), (76, y76)]) h) := by
      induction j generalizing x1 x8 x9 x10 x11 x12 x14 x15 x16 x17 h with
      | zero => rfl
      | succ j ih =>
        unfold F5_lrllrllrlrrrrrrrrr
        simp only [kLoop, kq_seq c5 1047844, kq_seq c5 2095688, r5_15, b5_rlllrllrllrlrrrrrrrrr, kq_skip c5 8382754, kq_seq c5 2095689, kq_block c5 4191378 3, r5_17, r5_16, kq_exit c5 8382755 2, ih, reduceIte, reduceCtorEq, XE.exit.injEq, Nat.reduceEqDiff, Nat.reduceMul, Nat.reduceAdd] <;> kernel_rfl
theorem F5_lrllrllrlrrrrrrrrr_eq  : kCode env 5 false inv k (cp c5 523922) (act 115 [(1, x1), (8, x8), (9, x9), (10, x10), (11, x11), (12, x12), (14, x14), (15, x15), (16, x16), (17, x17)]) h K = F5_lrllrllrlrrrrrrrrr inv k k x1 x8 x9 x10 x11 x12 x14 x15 x16 x17 h (fun y1 y8 y9 y10 y11 y12 y14 y15 y16 y17 y76 h => K (.exit 2) (act 115 [(1, y1), (8, y8), (9, y9), (10, y10), (11, y11), (12, y12), (14, y14), (15, y15), (16, y16), (17, y17), (76, y76)]) h) := kq_loop (F5_lrllrllrlrrrrrrrrr_j k)
theorem r5_13  : kCode env 5 false inv k (cp c5 65491) (act 115 [(1, x1), (8, x8), (9, x9), (10, x10), (11, x11), (12, x12), (14, x14), (15, x15), (16, x16), (17, x17), (76, x76)]) h K =
    bnd (pBin Try.prog .add 3 (.tmp 68) (.const (.int .i64 1)) x16 (.int .i64 1)) fun x69 =>
    K .normal (act 115 [(1, x1), (8, x8), (9, x9), (10, x10), (11, x11), (12, x12), (14, x14), (15, x15), (16, x69)]) h := kq_reg
noncomputable def F5_lrlrrrrrrrrr {β : Type} (inv : Inv) (k : Nat) : Nat → Value → Value → Value → Value → Value → Value → Value → Value → Value → AH → (Value → Value → Value → Value → Value → Value → Value → Value → Value → Value → AH → Option β) → Option β
  | 0, _, _, _, _, _, _, _, _, _, _, _ => none
  | j + 1, x1, x8, x9, x10, x11, x12, x14, x15, x16, h, ke0 =>
    bnd (pLen Try.prog #[23] x14 h) fun x66 =>
    bnd (pBin Try.prog .lss 3 (.tmp 64) (.tmp 66) x16 x66) fun x67 =>
    brV x67
    (F5_lrllrllrlrrrrrrrrr inv k k x1 x8 x9 x10 x11 x12 x14 x15 x16 (.int .i64 0) h
    (fun y1 y8 y9 y10 y11 y12 y14 y15 y16 y17 y76 h =>
    bnd (pBin Try.prog .add 3 (.tmp 68) (.const (.int .i64 1)) y16 (.int .i64 1)) fun x69 =>
    F5_lrlrrrrrrrrr inv k j y1 y8 y9 y10 y11 y12 y14 y15 x69 h ke0))
    (ke0 x1 x8 x9 x10 x11 x12 x14 x15 x16 x67 h)
theorem F5_lrlrrrrrrrrr_j (j : Nat) : kLoop (kCode env 5 false inv k (cp c5 16372)) j (act 115 [(1, x1), (8, x8), (9, x9), (10, x10), (11, x11), (12, x12), (14, x14), (15, x15), (16, x16)]) h K = F5_lrlrrrrrrrrr inv k j x1 x8 x9 x10 x11 x12 x14 x15 x16 h (fun y1 y8 y9 y10 y11 y12 y14 y15 y16 y67 h => K (.exit 0) (act 115 [(1, y1), (8, y8), (9, y9), (10, y10), (11, y11), (12, y12), (14, y14), (15, y15), (16, y16), (67, y67)]) h) := by
      induction j generalizing x1 x8 x9 x10 x11 x12 x14 x15 x16 h with
      | zero => rfl
      | succ j ih =>
        unfold F5_lrlrrrrrrrrr
        simp only [kLoop, kq_seq c5 16372, kq_seq c5 32744, r5_12, b5_rlllrlrrrrrrrrr, kq_skip c5 130978, kq_seq c5 32745, kq_block c5 65490 1, kq_seq c5 130980, r5_14, kq_block c5 261961 2, F5_lrllrllrlrrrrrrrrr_eq, r5_13, kq_exit c5 130979 0, ih, reduceIte, reduceCtorEq, XE.exit.injEq, Nat.reduceEqDiff, Nat.reduceMul, Nat.reduceAdd] <;> kernel_rfl
theorem F5_lrlrrrrrrrrr_eq  : kCode env 5 false inv k (cp c5 8186) (act 115 [(1, x1), (8, x8), (9, x9), (10, x10), (11, x11), (12, x12), (14, x14), (15, x15), (16, x16)]) h K = F5_lrlrrrrrrrrr inv k k x1 x8 x9 x10 x11 x12 x14 x15 x16 h (fun y1 y8 y9 y10 y11 y12 y14 y15 y16 y67 h => K (.exit 0) (act 115 [(1, y1), (8, y8), (9, y9), (10, y10), (11, y11), (12, y12), (14, y14), (15, y15), (16, y16), (67, y67)]) h) := kq_loop (F5_lrlrrrrrrrrr_j k)
noncomputable abbrev G5_18 {β : Type} (inv : Inv) (x1 x8 x9 x10 x11 x12 x15 : Value) (h : AH) (K : Value → AH → Option β) : Option β :=
    bnd (pBin Try.prog .eql 3 (.tmp 86) (.const (.int .i64 0)) x12 (.int .i64 0)) fun x87 =>
    bnd (gd (some x87) true h (some (x9, h))) fun x89 =>
    bnd (gd (some x87) true x89.2 (some (x11, x89.2))) fun x90 =>
    bnd (gd (some x87) true x90.2 (inv (.func 20) #[] #[x89.1, x90.1] x90.2)) fun x91 =>
    bnd (pickV x87 x91.1 (.bool false)) fun x92 =>
    bnd (gd (some x92) true x91.2 (some (x10, x91.2))) fun x94 =>
    bnd (gd (some x92) true x94.2 (some (x9, x94.2))) fun x95 =>
    bnd (gd (some x92) true x95.2 (lt (pLen Try.prog #[23] x95.1 x95.2) x95.2)) fun x96 =>
    bnd (gd (some x92) true x96.2 (lt (pBin Try.prog .add 3 (.tmp 94) (.tmp 96) x94.1 x96.1) x96.2)) fun x97 =>
    bnd (gd (some x92) true x97.2 (some (x1, x97.2))) fun x98 =>
    bnd (gd (some x92) true x98.2 (lt (pLen Try.prog #[23] x98.1 x98.2) x98.2)) fun x99 =>
    bnd (gd (some x92) true x99.2 (lt (pBin Try.prog .eql 3 (.tmp 97) (.tmp 99) x97.1 x99.1) x99.2)) fun x100 =>
    bnd (pickV x92 x100.1 (.bool false)) fun x101 =>
    bnd (gd (some x101) true x100.2 (some (x10, x100.2))) fun x103 =>
    bnd (gd (some x101) true x103.2 (some (x15, x103.2))) fun x104 =>
    bnd (gd (some x101) true x104.2 (lt (pBin Try.prog .add 3 (.tmp 103) (.tmp 104) x103.1 x104.1) x104.2)) fun x105 =>
    bnd (gd (some x101) true x105.2 (some (x1, x105.2))) fun x106 =>
    bnd (gd (some x101) true x106.2 (lt (pLen Try.prog #[23] x106.1 x106.2) x106.2)) fun x107 =>
    bnd (gd (some x101) true x107.2 (lt (pBin Try.prog .eql 3 (.tmp 105) (.tmp 107) x105.1 x107.1) x107.2)) fun x108 =>
    bnd (pickV x101 x108.1 (.bool false)) fun x109 =>
    bnd (gd (some x109) true x108.2 (some (x1, x108.2))) fun x111 =>
    bnd (gd (some x109) true x111.2 (some (x8, x111.2))) fun x112 =>
    bnd (gd (some x109) true x112.2 (inv (.func 14) #[] #[x111.1, x112.1] x112.2)) fun x113 =>
    bnd (pickV x109 x113.1 (.bool false)) fun x114 =>
    K (x114) x113.2
theorem r5_18  : kCode env 5 false inv k (cp c5 4094) (act 115 [(1, x1), (8, x8), (9, x9), (10, x10), (11, x11), (12, x12), (14, x14), (15, x15), (16, x16), (67, x67)]) h K =
    G5_18 inv x1 x8 x9 x10 x11 x12 x15 h fun y6 h => K .normal (act 115 [(6, y6)]) h := kq_reg
/-- shadowbook/shadowbooklaw19.BatchAgain -/
noncomputable def F5 (inv : Inv) (k : Nat) (x0 x1 x2 : Value) (h : AH) : Option (Value × AH) :=
    bnd (inv (.func 8) #[] #[] h) fun x18 =>
    bnd (pUn Try.prog .not x18.1) fun x19 =>
    brV x19
    (some ((.bool false), x18.2))
    (bnd (pBuild Try.prog 39 #[(0, (.int .i64 2)), (2, x2)]) fun x21 =>
    bnd (pAlloc Try.prog 39 x18.2) fun x7 =>
    bnd (kSt (pStore Try.prog 39 x7.1 x21 x7.2)) fun u =>
    G5_4 inv x0 x1 x2 x7.1 u.2 fun y39 h =>
    brV y39
    (some ((.bool true), h))
    (bnd (inv (.func 15) #[] #[x1] h) fun x41 =>
    bnd (pLoad Try.prog 39 x7.1 x41.2) fun x44 =>
    bnd (inv (.func 16) #[] #[x1, x44] x41.2) fun x45 =>
    bnd (pExtract x45.1 0) fun x46 =>
    bnd (pExtract x45.1 1) fun x47 =>
    bnd (pLoad Try.prog 39 x7.1 x45.2) fun x50 =>
    bnd (inv (.func 16) #[] #[x46, x50] x45.2) fun x51 =>
    bnd (pExtract x51.1 0) fun x52 =>
    bnd (pExtract x51.1 1) fun x53 =>
    bnd (pBuildSlice Try.prog 49 1 #[(0, x2)] x51.2) fun x55 =>
    bnd (inv (.func 19) #[] #[(.int .i64 8), x55.1] x55.2) fun x56 =>
    bnd (pBuild Try.prog 39 #[(0, (.int .i64 2)), (2, x56.1)]) fun x57 =>
    bnd (pAlloc Try.prog 39 x56.2) fun x13 =>
    bnd (kSt (pStore Try.prog 39 x13.1 x57 x13.2)) fun u_1 =>
    bnd (pLoad Try.prog 39 x13.1 u_1.2) fun x60 =>
    bnd (inv (.func 16) #[] #[x1, x60] u_1.2) fun x61 =>
    bnd (pExtract x61.1 0) fun x62 =>
    bnd (pExtract x61.1 1) fun x63 =>
    F5_lrlrrrrrrrrr inv k k x1 x41.1 x46 x47 x52 x53 x62 x63 (.int .i64 0) x61.2
    (fun y1 y8 y9 y10 y11 y12 y14 y15 y16 y67 h_2 =>
    G5_18 inv y1 y8 y9 y10 y11 y12 y15 h_2 fun y6 h_3 =>
    some (y6, h_3))))
theorem F5_eq : eFun env k inv 5 #[x0, x1, x2] h = F5 inv k x0 x1 x2 h := by
      refine (kq_fun (a := act 115 [(0, x0), (1, x1), (2, x2)]) (c := cp c5 1)).trans ?_
      unfold F5
      simp only [kq_seq c5 1, r5_0, kq_seq c5 3, kq_seq c5 6, r5_1, b5_rlr, kq_seq c5 26, r5_2, kq_ret c5 53, res5_0, kq_skip c5 27, kq_seq c5 7, r5_3, kq_seq c5 15, kq_seq c5 30, r5_4, b5_rlrrr, kq_seq c5 122, r5_5, kq_ret c5 245, kq_skip c5 123, kq_seq c5 31, r5_6, kq_seq c5 63, r5_7, kq_seq c5 127, r5_8, kq_seq c5 255, r5_9, kq_seq c5 511, r5_10, kq_seq c5 1023, kq_seq c5 2046, r5_11, kq_block c5 4093 0, F5_lrlrrrrrrrrr_eq, kq_seq c5 2047, r5_18, kq_ret c5 4095, reduceIte, reduceCtorEq, XE.exit.injEq, Nat.reduceEqDiff, Nat.reduceMul, Nat.reduceAdd] <;> kernel_rfl
theorem F5_call : eInv env (k + 1) (.func 5) #[] #[x0, x1, x2] h = F5 (eInv env k) k x0 x1 x2 h := kq_inv F5_eq
noncomputable def c9 : Code := codeOf Try.prog 9
theorem r9_0  : kCode env 9 false inv k (cp c9 2) (act 17 [(0, x0), (1, x1), (2, x2)]) h K =
    K .normal (act 17 [(0, x0), (1, x1), (2, x2)]) h := kq_reg
noncomputable abbrev G9_1 {β : Type} (inv : Inv) (x0 x1 x2 : Value) (h : AH) (K : Value → AH → Option β) : Option β :=
    bnd (inv (.func 30) #[] #[x0] h) fun x8 =>
    bnd (gd (some x8.1) true x8.2 (some (x1, x8.2))) fun x10 =>
    bnd (gd (some x8.1) true x10.2 (inv (.func 31) #[] #[x10.1, (.int .i64 60)] x10.2)) fun x11 =>
    bnd (pickV x8.1 x11.1 (.bool false)) fun x12 =>
    bnd (gd (some x12) true x11.2 (some (x2, x11.2))) fun x14 =>
    bnd (gd (some x12) true x14.2 (inv (.func 32) #[] #[x14.1, (.int .i64 40)] x14.2)) fun x15 =>
    bnd (pickV x12 x15.1 (.bool false)) fun x16 =>
    K (x16) x15.2
theorem r9_1  : kCode env 9 false inv k (cp c9 6) (act 17 [(0, x0), (1, x1), (2, x2)]) h K =
    G9_1 inv x0 x1 x2 h fun y6 h => K .normal (act 17 [(6, y6)]) h := kq_reg
theorem res9_0 : resOfFn env.P 9 .ret (act 17 [(6, x6)]) h = some (x6, h) := kq_res
/-- shadowbook/shadowbooklaw19.light -/
noncomputable def F9 (inv : Inv) (k : Nat) (x0 x1 x2 : Value) (h : AH) : Option (Value × AH) :=
    G9_1 inv x0 x1 x2 h fun y6 h =>
    some (y6, h)
theorem F9_eq : eFun env k inv 9 #[x0, x1, x2] h = F9 inv k x0 x1 x2 h := by
      refine (kq_fun (a := act 17 [(0, x0), (1, x1), (2, x2)]) (c := cp c9 1)).trans ?_
      unfold F9
      simp only [kq_seq c9 1, r9_0, kq_seq c9 3, r9_1, kq_ret c9 7, res9_0, reduceIte, reduceCtorEq, XE.exit.injEq, Nat.reduceEqDiff, Nat.reduceMul, Nat.reduceAdd] <;> kernel_rfl
theorem F9_call : eInv env (k + 1) (.func 9) #[] #[x0, x1, x2] h = F9 (eInv env k) k x0 x1 x2 h := kq_inv F9_eq
noncomputable def c11 : Code := codeOf Try.prog 11
theorem r11_0  : kCode env 11 false inv k (cp c11 2) (act 19 [(0, x0), (1, x1)]) h K =
    K .normal (act 19 [(0, x0), (1, x1)]) h := kq_reg
theorem r11_1  : kCode env 11 false inv k (cp c11 12) (act 19 [(0, x0), (1, x1)]) h K =
    K .normal (act 19 [(0, x0), (1, x1), (5, (.int .i64 0))]) h := kq_reg
theorem r11_2  : kCode env 11 false inv k (cp c11 208) (act 19 [(0, x0), (1, x1), (5, x5)]) h K =
    bnd (pLen Try.prog #[23] x1 h) fun x8 =>
    bnd (pBin Try.prog .lss 3 (.tmp 6) (.tmp 8) x5 x8) fun x9 =>
    K .normal (act 19 [(0, x0), (1, x1), (5, x5), (9, x9)]) h := kq_reg
theorem b11_rlllrlr  : kCode env 11 false inv k (cp c11 209) (act 19 [(0, x0), (1, x1), (5, x5), (9, x9)]) h K = brV x9 (kCode env 11 false inv k (cp c11 418) (act 19 [(0, x0), (1, x1), (5, x5), (9, x9)]) h K) (kCode env 11 false inv k (cp c11 419) (act 19 [(0, x0), (1, x1), (5, x5), (9, x9)]) h K) := kq_cond
theorem r11_4  : kCode env 11 false inv k (cp c11 840) (act 19 [(0, x0), (1, x1), (5, x5), (9, x9)]) h K =
    bnd (pIndexAddr Try.prog 23 x1 x5) fun x15 =>
    bnd (pLoad Try.prog 37 x15 h) fun x16 =>
    bnd (inv (.func 35) #[] #[x0, x16] h) fun x17 =>
    bnd (pBin Try.prog .neq 27 (.tmp 17) (.const (.int .i64 0)) x17.1 (.int .i64 0)) fun x18 =>
    K .normal (act 19 [(0, x0), (1, x1), (5, x5), (18, x18)]) x17.2 := kq_reg
theorem b11_rllrllrlr  : kCode env 11 false inv k (cp c11 841) (act 19 [(0, x0), (1, x1), (5, x5), (18, x18)]) h K = brV x18 (kCode env 11 false inv k (cp c11 1682) (act 19 [(0, x0), (1, x1), (5, x5), (18, x18)]) h K) (kCode env 11 false inv k (cp c11 1683) (act 19 [(0, x0), (1, x1), (5, x5), (18, x18)]) h K) := kq_cond
theorem r11_5  : kCode env 11 false inv k (cp c11 3364) (act 19 [(0, x0), (1, x1), (5, x5), (18, x18)]) h K =
    K .normal (act 19 [(4, (.bool false))]) h := kq_reg
theorem r11_3  : kCode env 11 false inv k (cp c11 211) (act 19 [(0, x0), (1, x1), (5, x5), (18, x18)]) h K =
    bnd (pBin Try.prog .add 3 (.tmp 10) (.const (.int .i64 1)) x5 (.int .i64 1)) fun x11 =>
    K .normal (act 19 [(0, x0), (1, x1), (5, x11)]) h := kq_reg
noncomputable def F11_lrlr {β : Type} (inv : Inv) (k : Nat) : Nat → Value → Value → Value → AH → (Value → Value → Value → Value → AH → Option β) → (Value → AH → Option β) → Option β
  | 0, _, _, _, _, _, _ => none
  | j + 1, x0, x1, x5, h, ke0, kr =>
    bnd (pLen Try.prog #[23] x1 h) fun x8 =>
    bnd (pBin Try.prog .lss 3 (.tmp 6) (.tmp 8) x5 x8) fun x9 =>
    brV x9
    (bnd (pIndexAddr Try.prog 23 x1 x5) fun x15 =>
    bnd (pLoad Try.prog 37 x15 h) fun x16 =>
    bnd (inv (.func 35) #[] #[x0, x16] h) fun x17 =>
    bnd (pBin Try.prog .neq 27 (.tmp 17) (.const (.int .i64 0)) x17.1 (.int .i64 0)) fun x18 =>
    brV x18
    (kr (.bool false) x17.2)
    (bnd (pBin Try.prog .add 3 (.tmp 10) (.const (.int .i64 1)) x5 (.int .i64 1)) fun x11 =>
    F11_lrlr inv k j x0 x1 x11 x17.2 ke0 kr))
    (ke0 x0 x1 x5 x9 h)
theorem F11_lrlr_j (j : Nat) : kLoop (kCode env 11 false inv k (cp c11 52)) j (act 19 [(0, x0), (1, x1), (5, x5)]) h K = F11_lrlr inv k j x0 x1 x5 h (fun y0 y1 y5 y9 h => K (.exit 0) (act 19 [(0, y0), (1, y1), (5, y5), (9, y9)]) h) (fun y4 h => K .ret (act 19 [(4, y4)]) h) := by
      induction j generalizing x0 x1 x5 h with
      | zero => rfl
      | succ j ih =>
        unfold F11_lrlr
        simp only [kLoop, kq_seq c11 52, kq_seq c11 104, r11_2, b11_rlllrlr, kq_skip c11 418, kq_seq c11 105, kq_block c11 210 1, kq_seq c11 420, r11_4, b11_rllrllrlr, kq_seq c11 1682, r11_5, kq_ret c11 3365, kq_skip c11 1683, r11_3, kq_exit c11 419 0, ih, reduceIte, reduceCtorEq, XE.exit.injEq, Nat.reduceEqDiff, Nat.reduceMul, Nat.reduceAdd] <;> kernel_rfl
theorem F11_lrlr_eq  : kCode env 11 false inv k (cp c11 26) (act 19 [(0, x0), (1, x1), (5, x5)]) h K = F11_lrlr inv k k x0 x1 x5 h (fun y0 y1 y5 y9 h => K (.exit 0) (act 19 [(0, y0), (1, y1), (5, y5), (9, y9)]) h) (fun y4 h => K .ret (act 19 [(4, y4)]) h) := kq_loop (F11_lrlr_j k)
theorem r11_6  : kCode env 11 false inv k (cp c11 14) (act 19 [(0, x0), (1, x1), (5, x5), (9, x9)]) h K =
    K .normal (act 19 [(4, (.bool true))]) h := kq_reg
theorem res11_0 : resOfFn env.P 11 .ret (act 19 [(4, x4)]) h = some (x4, h) := kq_res
/-- shadowbook/shadowbooklaw19.fit -/
noncomputable def F11 (inv : Inv) (k : Nat) (x0 x1 : Value) (h : AH) : Option (Value × AH) :=
    F11_lrlr inv k k x0 x1 (.int .i64 0) h
    (fun y0 y1 y5 y9 h =>
    some ((.bool true), h))
    (fun y4 h_1 =>
    some (y4, h_1))
theorem F11_eq : eFun env k inv 11 #[x0, x1] h = F11 inv k x0 x1 h := by
      refine (kq_fun (a := act 19 [(0, x0), (1, x1)]) (c := cp c11 1)).trans ?_
      unfold F11
      simp only [kq_seq c11 1, r11_0, kq_seq c11 3, kq_seq c11 6, r11_1, kq_block c11 13 0, F11_lrlr_eq, kq_seq c11 7, r11_6, kq_ret c11 15, res11_0, reduceIte, reduceCtorEq, XE.exit.injEq, Nat.reduceEqDiff, Nat.reduceMul, Nat.reduceAdd] <;> kernel_rfl
theorem F11_call : eInv env (k + 1) (.func 11) #[] #[x0, x1] h = F11 (eInv env k) k x0 x1 h := kq_inv F11_eq
noncomputable def c14 : Code := codeOf Try.prog 14
theorem r14_0  : kCode env 14 false inv k (cp c14 2) (act 53 [(0, x0), (1, x1)]) h K =
    K .normal (act 53 [(0, x0), (1, x1)]) h := kq_reg
theorem r14_1  : kCode env 14 false inv k (cp c14 12) (act 53 [(0, x0), (1, x1)]) h K =
    bnd (pLen Try.prog #[23] x0 h) fun x8 =>
    bnd (pLen Try.prog #[23] x1 h) fun x10 =>
    bnd (pBin Try.prog .neq 3 (.tmp 8) (.tmp 10) x8 x10) fun x11 =>
    K .normal (act 53 [(0, x0), (1, x1), (11, x11)]) h := kq_reg
theorem b14_rlr  : kCode env 14 false inv k (cp c14 13) (act 53 [(0, x0), (1, x1), (11, x11)]) h K = brV x11 (kCode env 14 false inv k (cp c14 26) (act 53 [(0, x0), (1, x1), (11, x11)]) h K) (kCode env 14 false inv k (cp c14 27) (act 53 [(0, x0), (1, x1), (11, x11)]) h K) := kq_cond
theorem r14_2  : kCode env 14 false inv k (cp c14 52) (act 53 [(0, x0), (1, x1), (11, x11)]) h K =
    K .normal (act 53 [(4, (.bool false))]) h := kq_reg
theorem res14_0 : resOfFn env.P 14 .ret (act 53 [(4, x4)]) h = some (x4, h) := kq_res
theorem r14_3  : kCode env 14 false inv k (cp c14 28) (act 53 [(0, x0), (1, x1), (11, x11)]) h K =
    K .normal (act 53 [(0, x0), (1, x1), (5, (.int .i64 0))]) h := kq_reg
theorem r14_4  : kCode env 14 false inv k (cp c14 464) (act 53 [(0, x0), (1, x1), (5, x5)]) h K =
    bnd (pLen Try.prog #[23] x0 h) fun x14 =>
    bnd (pBin Try.prog .lss 3 (.tmp 12) (.tmp 14) x5 x14) fun x15 =>
    K .normal (act 53 [(0, x0), (1, x1), (5, x5), (15, x15)]) h := kq_reg
theorem b14_rlllrlrr  : kCode env 14 false inv k (cp c14 465) (act 53 [(0, x0), (1, x1), (5, x5), (15, x15)]) h K = brV x15 (kCode env 14 false inv k (cp c14 930) (act 53 [(0, x0), (1, x1), (5, x5), (15, x15)]) h K) (kCode env 14 false inv k (cp c14 931) (act 53 [(0, x0), (1, x1), (5, x5), (15, x15)]) h K) := kq_cond
theorem r14_6  : kCode env 14 false inv k (cp c14 3728) (act 53 [(0, x0), (1, x1), (5, x5), (15, x15)]) h K =
    bnd (pIndexAddr Try.prog 23 x0 x5) fun x20 =>
    bnd (pLoad Try.prog 37 x20 h) fun x21 =>
    bnd (pLen Try.prog #[37] x21 h) fun x22 =>
    bnd (pIndexAddr Try.prog 23 x1 x5) fun x25 =>
    bnd (pLoad Try.prog 37 x25 h) fun x26 =>
    bnd (pLen Try.prog #[37] x26 h) fun x27 =>
    bnd (pBin Try.prog .neq 3 (.tmp 22) (.tmp 27) x22 x27) fun x28 =>
    K .normal (act 53 [(0, x0), (1, x1), (5, x5), (28, x28)]) h := kq_draw
theorem b14_rlllrllrlrr  : kCode env 14 false inv k (cp c14 3729) (act 53 [(0, x0), (1, x1), (5, x5), (28, x28)]) h K = brV x28 (kCode env 14 false inv k (cp c14 7458) (act 53 [(0, x0), (1, x1), (5, x5), (28, x28)]) h K) (kCode env 14 false inv k (cp c14 7459) (act 53 [(0, x0), (1, x1), (5, x5), (28, x28)]) h K) := kq_cond
theorem r14_7  : kCode env 14 false inv k (cp c14 14916) (act 53 [(0, x0), (1, x1), (5, x5), (28, x28)]) h K =
    K .normal (act 53 [(4, (.bool false))]) h := kq_reg
theorem r14_8  : kCode env 14 false inv k (cp c14 3730) (act 53 [(0, x0), (1, x1), (5, x5), (28, x28)]) h K =
    K .normal (act 53 [(0, x0), (1, x1), (5, x5), (6, (.int .i64 0))]) h := kq_reg
theorem r14_9  : kCode env 14 false inv k (cp c14 59696) (act 53 [(0, x0), (1, x1), (5, x5), (6, x6)]) h K =
    bnd (pIndexAddr Try.prog 23 x0 x5) fun x32 =>
    bnd (pLoad Try.prog 37 x32 h) fun x33 =>
    bnd (pLen Try.prog #[37] x33 h) fun x34 =>
    bnd (pBin Try.prog .lss 3 (.tmp 29) (.tmp 34) x6 x34) fun x35 =>
    K .normal (act 53 [(0, x0), (1, x1), (5, x5), (6, x6), (35, x35)]) h := kq_reg
theorem b14_rlllrrllrllrlrr  : kCode env 14 false inv k (cp c14 59697) (act 53 [(0, x0), (1, x1), (5, x5), (6, x6), (35, x35)]) h K = brV x35 (kCode env 14 false inv k (cp c14 119394) (act 53 [(0, x0), (1, x1), (5, x5), (6, x6), (35, x35)]) h K) (kCode env 14 false inv k (cp c14 119395) (act 53 [(0, x0), (1, x1), (5, x5), (6, x6), (35, x35)]) h K) := kq_cond
noncomputable abbrev G14_11 {β : Type} (inv : Inv) (x0 x1 x5 x6 : Value) (h : AH) (K : Value → AH → Option β) : Option β :=
    bnd (pIndexAddr Try.prog 23 x0 x5) fun x40 =>
    bnd (pLoad Try.prog 37 x40 h) fun x41 =>
    bnd (pIndexAddr Try.prog 37 x41 x6) fun x43 =>
    bnd (pLoad Try.prog 45 x43 h) fun x44 =>
    bnd (pIndexAddr Try.prog 23 x1 x5) fun x47 =>
    bnd (pLoad Try.prog 37 x47 h) fun x48 =>
    bnd (pIndexAddr Try.prog 37 x48 x6) fun x50 =>
    bnd (pLoad Try.prog 45 x50 h) fun x51 =>
    bnd (pBin Try.prog .neq 45 (.tmp 44) (.tmp 51) x44 x51) fun x52 =>
    K (x52) h
theorem r14_11  : kCode env 14 false inv k (cp c14 238792) (act 53 [(0, x0), (1, x1), (5, x5), (6, x6), (35, x35)]) h K =
    G14_11 inv x0 x1 x5 x6 h fun y52 h => K .normal (act 53 [(0, x0), (1, x1), (5, x5), (6, x6), (52, y52)]) h := kq_draw
theorem b14_rllrllrrllrllrlrr  : kCode env 14 false inv k (cp c14 238793) (act 53 [(0, x0), (1, x1), (5, x5), (6, x6), (52, x52)]) h K = brV x52 (kCode env 14 false inv k (cp c14 477586) (act 53 [(0, x0), (1, x1), (5, x5), (6, x6), (52, x52)]) h K) (kCode env 14 false inv k (cp c14 477587) (act 53 [(0, x0), (1, x1), (5, x5), (6, x6), (52, x52)]) h K) := kq_cond
theorem r14_12  : kCode env 14 false inv k (cp c14 955172) (act 53 [(0, x0), (1, x1), (5, x5), (6, x6), (52, x52)]) h K =
    K .normal (act 53 [(4, (.bool false))]) h := kq_reg
theorem r14_10  : kCode env 14 false inv k (cp c14 59699) (act 53 [(0, x0), (1, x1), (5, x5), (6, x6), (52, x52)]) h K =
    bnd (pBin Try.prog .add 3 (.tmp 36) (.const (.int .i64 1)) x6 (.int .i64 1)) fun x37 =>
    K .normal (act 53 [(0, x0), (1, x1), (5, x5), (6, x37)]) h := kq_reg
noncomputable def F14_lrrllrllrlrr {β : Type} (inv : Inv) (k : Nat) : Nat → Value → Value → Value → Value → AH → (Value → Value → Value → Value → Value → AH → Option β) → (Value → AH → Option β) → Option β
  | 0, _, _, _, _, _, _, _ => none
  | j + 1, x0, x1, x5, x6, h, ke2, kr =>
    bnd (pIndexAddr Try.prog 23 x0 x5) fun x32 =>
    bnd (pLoad Try.prog 37 x32 h) fun x33 =>
    bnd (pLen Try.prog #[37] x33 h) fun x34 =>
    bnd (pBin Try.prog .lss 3 (.tmp 29) (.tmp 34) x6 x34) fun x35 =>
    brV x35
    (G14_11 inv x0 x1 x5 x6 h fun y52 h =>
    brV y52
    (kr (.bool false) h)
    (bnd (pBin Try.prog .add 3 (.tmp 36) (.const (.int .i64 1)) x6 (.int .i64 1)) fun x37 =>
    F14_lrrllrllrlrr inv k j x0 x1 x5 x37 h ke2 kr))
    (ke2 x0 x1 x5 x6 x35 h)
theorem F14_lrrllrllrlrr_j (j : Nat) : kLoop (kCode env 14 false inv k (cp c14 14924)) j (act 53 [(0, x0), (1, x1), (5, x5), (6, x6)]) h K = F14_lrrllrllrlrr inv k j x0 x1 x5 x6 h (fun y0 y1 y5 y6 y35 h => K (.exit 2) (act 53 [(0, y0), (1, y1), (5, y5), (6, y6), (35, y35)]) h) (fun y4 h => K .ret (act 53 [(4, y4)]) h) := by
      induction j generalizing x0 x1 x5 x6 h with
      | zero => rfl
      | succ j ih =>
        unfold F14_lrrllrllrlrr
        simp only [kLoop, kq_seq c14 14924, kq_seq c14 29848, r14_9, b14_rlllrrllrllrlrr, kq_skip c14 119394, kq_seq c14 29849, kq_block c14 59698 3, kq_seq c14 119396, r14_11, b14_rllrllrrllrllrlrr, kq_seq c14 477586, r14_12, kq_ret c14 955173, kq_skip c14 477587, r14_10, kq_exit c14 119395 2, ih, reduceIte, reduceCtorEq, XE.exit.injEq, Nat.reduceEqDiff, Nat.reduceMul, Nat.reduceAdd] <;> kernel_rfl
theorem F14_lrrllrllrlrr_eq  : kCode env 14 false inv k (cp c14 7462) (act 53 [(0, x0), (1, x1), (5, x5), (6, x6)]) h K = F14_lrrllrllrlrr inv k k x0 x1 x5 x6 h (fun y0 y1 y5 y6 y35 h => K (.exit 2) (act 53 [(0, y0), (1, y1), (5, y5), (6, y6), (35, y35)]) h) (fun y4 h => K .ret (act 53 [(4, y4)]) h) := kq_loop (F14_lrrllrllrlrr_j k)
theorem r14_5  : kCode env 14 false inv k (cp c14 467) (act 53 [(0, x0), (1, x1), (5, x5), (6, x6), (35, x35)]) h K =
    bnd (pBin Try.prog .add 3 (.tmp 16) (.const (.int .i64 1)) x5 (.int .i64 1)) fun x17 =>
    K .normal (act 53 [(0, x0), (1, x1), (5, x17)]) h := kq_reg
noncomputable def F14_lrlrr {β : Type} (inv : Inv) (k : Nat) : Nat → Value → Value → Value → AH → (Value → Value → Value → Value → AH → Option β) → (Value → AH → Option β) → Option β
  | 0, _, _, _, _, _, _ => none
  | j + 1, x0, x1, x5, h, ke0, kr =>
    bnd (pLen Try.prog #[23] x0 h) fun x14 =>
    bnd (pBin Try.prog .lss 3 (.tmp 12) (.tmp 14) x5 x14) fun x15 =>
    brV x15
    (bnd (pIndexAddr Try.prog 23 x0 x5) fun x20 =>
    bnd (pLoad Try.prog 37 x20 h) fun x21 =>
    bnd (pLen Try.prog #[37] x21 h) fun x22 =>
    bnd (pIndexAddr Try.prog 23 x1 x5) fun x25 =>
    bnd (pLoad Try.prog 37 x25 h) fun x26 =>
    bnd (pLen Try.prog #[37] x26 h) fun x27 =>
    bnd (pBin Try.prog .neq 3 (.tmp 22) (.tmp 27) x22 x27) fun x28 =>
    brV x28
    (kr (.bool false) h)
    (F14_lrrllrllrlrr inv k k x0 x1 x5 (.int .i64 0) h
    (fun y0 y1 y5 y6 y35 h =>
    bnd (pBin Try.prog .add 3 (.tmp 16) (.const (.int .i64 1)) y5 (.int .i64 1)) fun x17 =>
    F14_lrlrr inv k j y0 y1 x17 h ke0 kr)
    (fun y4 h_1 =>
    kr y4 h_1)))
    (ke0 x0 x1 x5 x15 h)
theorem F14_lrlrr_j (j : Nat) : kLoop (kCode env 14 false inv k (cp c14 116)) j (act 53 [(0, x0), (1, x1), (5, x5)]) h K = F14_lrlrr inv k j x0 x1 x5 h (fun y0 y1 y5 y15 h => K (.exit 0) (act 53 [(0, y0), (1, y1), (5, y5), (15, y15)]) h) (fun y4 h => K .ret (act 53 [(4, y4)]) h) := by
      induction j generalizing x0 x1 x5 h with
      | zero => rfl
      | succ j ih =>
        unfold F14_lrlrr
        simp only [kLoop, kq_seq c14 116, kq_seq c14 232, r14_4, b14_rlllrlrr, kq_skip c14 930, kq_seq c14 233, kq_block c14 466 1, kq_seq c14 932, kq_seq c14 1864, r14_6, b14_rlllrllrlrr, kq_seq c14 7458, r14_7, kq_ret c14 14917, kq_skip c14 7459, kq_seq c14 1865, r14_8, kq_block c14 3731 2, F14_lrrllrllrlrr_eq, r14_5, kq_exit c14 931 0, ih, reduceIte, reduceCtorEq, XE.exit.injEq, Nat.reduceEqDiff, Nat.reduceMul, Nat.reduceAdd] <;> kernel_rfl
theorem F14_lrlrr_eq  : kCode env 14 false inv k (cp c14 58) (act 53 [(0, x0), (1, x1), (5, x5)]) h K = F14_lrlrr inv k k x0 x1 x5 h (fun y0 y1 y5 y15 h => K (.exit 0) (act 53 [(0, y0), (1, y1), (5, y5), (15, y15)]) h) (fun y4 h => K .ret (act 53 [(4, y4)]) h) := kq_loop (F14_lrlrr_j k)
theorem r14_13  : kCode env 14 false inv k (cp c14 30) (act 53 [(0, x0), (1, x1), (5, x5), (15, x15)]) h K =
    K .normal (act 53 [(4, (.bool true))]) h := kq_reg
/-- shadowbook/shadowbookkit.SameRows -/
noncomputable def F14 (inv : Inv) (k : Nat) (x0 x1 : Value) (h : AH) : Option (Value × AH) :=
    bnd (pLen Try.prog #[23] x0 h) fun x8 =>
    bnd (pLen Try.prog #[23] x1 h) fun x10 =>
    bnd (pBin Try.prog .neq 3 (.tmp 8) (.tmp 10) x8 x10) fun x11 =>
    brV x11
    (some ((.bool false), h))
    (F14_lrlrr inv k k x0 x1 (.int .i64 0) h
    (fun y0 y1 y5 y15 h =>
    some ((.bool true), h))
    (fun y4 h_2 =>
    some (y4, h_2)))
theorem F14_eq : eFun env k inv 14 #[x0, x1] h = F14 inv k x0 x1 h := by
      refine (kq_fun (a := act 53 [(0, x0), (1, x1)]) (c := cp c14 1)).trans ?_
      unfold F14
      simp only [kq_seq c14 1, r14_0, kq_seq c14 3, kq_seq c14 6, r14_1, b14_rlr, kq_seq c14 26, r14_2, kq_ret c14 53, res14_0, kq_skip c14 27, kq_seq c14 7, kq_seq c14 14, r14_3, kq_block c14 29 0, F14_lrlrr_eq, kq_seq c14 15, r14_13, kq_ret c14 31, reduceIte, reduceCtorEq, XE.exit.injEq, Nat.reduceEqDiff, Nat.reduceMul, Nat.reduceAdd] <;> kernel_rfl
theorem F14_call : eInv env (k + 1) (.func 14) #[] #[x0, x1] h = F14 (eInv env k) k x0 x1 h := kq_inv F14_eq
noncomputable def c15 : Code := codeOf Try.prog 15
theorem r15_0  : kCode env 15 false inv k (cp c15 2) (act 24 [(0, x0)]) h K =
    K .normal (act 24 [(0, x0)]) h := kq_reg
theorem r15_1  : kCode env 15 false inv k (cp c15 6) (act 24 [(0, x0)]) h K =
    bnd (pLen Try.prog #[23] x0 h) fun x6 =>
    bnd (pMakeSlice Try.prog 23 x6 x6 h) fun x7 =>
    K .normal (act 24 [(0, x0), (3, x7.1)]) x7.2 := kq_reg
theorem r15_2  : kCode env 15 false inv k (cp c15 28) (act 24 [(0, x0), (3, x3)]) h K =
    K .normal (act 24 [(0, x0), (3, x3), (4, (.int .i64 0))]) h := kq_reg
theorem r15_3  : kCode env 15 false inv k (cp c15 464) (act 24 [(0, x0), (3, x3), (4, x4)]) h K =
    bnd (pLen Try.prog #[23] x0 h) fun x10 =>
    bnd (pBin Try.prog .lss 3 (.tmp 8) (.tmp 10) x4 x10) fun x11 =>
    K .normal (act 24 [(0, x0), (3, x3), (4, x4), (11, x11)]) h := kq_reg
theorem b15_rlllrlrr  : kCode env 15 false inv k (cp c15 465) (act 24 [(0, x0), (3, x3), (4, x4), (11, x11)]) h K = brV x11 (kCode env 15 false inv k (cp c15 930) (act 24 [(0, x0), (3, x3), (4, x4), (11, x11)]) h K) (kCode env 15 false inv k (cp c15 931) (act 24 [(0, x0), (3, x3), (4, x4), (11, x11)]) h K) := kq_cond
theorem r15_5  : kCode env 15 false inv k (cp c15 932) (act 24 [(0, x0), (3, x3), (4, x4), (11, x11)]) h K =
    bnd (pBuildSlice Try.prog 37 0 #[] h) fun x16 =>
    bnd (pIndexAddr Try.prog 23 x0 x4) fun x19 =>
    bnd (pLoad Try.prog 37 x19 x16.2) fun x20 =>
    bnd (pAppend Try.prog #[37, 37] x16.1 x20 x16.2) fun x21 =>
    bnd (pIndexAddr Try.prog 23 x3 x4) fun x22 =>
    bnd (kSt (pStore Try.prog 37 x22 x21.1 x21.2)) fun u =>
    K .normal (act 24 [(0, x0), (3, x3), (4, x4)]) u.2 := kq_reg
theorem r15_4  : kCode env 15 false inv k (cp c15 467) (act 24 [(0, x0), (3, x3), (4, x4)]) h K =
    bnd (pBin Try.prog .add 3 (.tmp 12) (.const (.int .i64 1)) x4 (.int .i64 1)) fun x13 =>
    K .normal (act 24 [(0, x0), (3, x3), (4, x13)]) h := kq_reg
noncomputable def F15_lrlrr {β : Type} (inv : Inv) (k : Nat) : Nat → Value → Value → Value → AH → (Value → Value → Value → Value → AH → Option β) → Option β
  | 0, _, _, _, _, _ => none
  | j + 1, x0, x3, x4, h, ke0 =>
    bnd (pLen Try.prog #[23] x0 h) fun x10 =>
    bnd (pBin Try.prog .lss 3 (.tmp 8) (.tmp 10) x4 x10) fun x11 =>
    brV x11
    (bnd (pBuildSlice Try.prog 37 0 #[] h) fun x16 =>
    bnd (pIndexAddr Try.prog 23 x0 x4) fun x19 =>
    bnd (pLoad Try.prog 37 x19 x16.2) fun x20 =>
    bnd (pAppend Try.prog #[37, 37] x16.1 x20 x16.2) fun x21 =>
    bnd (pIndexAddr Try.prog 23 x3 x4) fun x22 =>
    bnd (kSt (pStore Try.prog 37 x22 x21.1 x21.2)) fun u =>
    bnd (pBin Try.prog .add 3 (.tmp 12) (.const (.int .i64 1)) x4 (.int .i64 1)) fun x13 =>
    F15_lrlrr inv k j x0 x3 x13 u.2 ke0)
    (ke0 x0 x3 x4 x11 h)
theorem F15_lrlrr_j (j : Nat) : kLoop (kCode env 15 false inv k (cp c15 116)) j (act 24 [(0, x0), (3, x3), (4, x4)]) h K = F15_lrlrr inv k j x0 x3 x4 h (fun y0 y3 y4 y11 h => K (.exit 0) (act 24 [(0, y0), (3, y3), (4, y4), (11, y11)]) h) := by
      induction j generalizing x0 x3 x4 h with
      | zero => rfl
      | succ j ih =>
        unfold F15_lrlrr
        simp only [kLoop, kq_seq c15 116, kq_seq c15 232, r15_3, b15_rlllrlrr, kq_skip c15 930, kq_seq c15 233, kq_block c15 466 1, r15_5, r15_4, kq_exit c15 931 0, ih, reduceIte, reduceCtorEq, XE.exit.injEq, Nat.reduceEqDiff, Nat.reduceMul, Nat.reduceAdd] <;> kernel_rfl
theorem F15_lrlrr_eq  : kCode env 15 false inv k (cp c15 58) (act 24 [(0, x0), (3, x3), (4, x4)]) h K = F15_lrlrr inv k k x0 x3 x4 h (fun y0 y3 y4 y11 h => K (.exit 0) (act 24 [(0, y0), (3, y3), (4, y4), (11, y11)]) h) := kq_loop (F15_lrlrr_j k)
theorem r15_6  : kCode env 15 false inv k (cp c15 30) (act 24 [(0, x0), (3, x3), (4, x4), (11, x11)]) h K =
    K .normal (act 24 [(2, x3)]) h := kq_reg
theorem res15_0 : resOfFn env.P 15 .ret (act 24 [(2, x2)]) h = some (x2, h) := kq_res
/-- shadowbook/shadowbookkit.OwnRows -/
noncomputable def F15 (inv : Inv) (k : Nat) (x0 : Value) (h : AH) : Option (Value × AH) :=
    bnd (pLen Try.prog #[23] x0 h) fun x6 =>
    bnd (pMakeSlice Try.prog 23 x6 x6 h) fun x7 =>
    F15_lrlrr inv k k x0 x7.1 (.int .i64 0) x7.2
    (fun y0 y3 y4 y11 h =>
    some (y3, h))
theorem F15_eq : eFun env k inv 15 #[x0] h = F15 inv k x0 h := by
      refine (kq_fun (a := act 24 [(0, x0)]) (c := cp c15 1)).trans ?_
      unfold F15
      simp only [kq_seq c15 1, r15_0, kq_seq c15 3, r15_1, kq_seq c15 7, kq_seq c15 14, r15_2, kq_block c15 29 0, F15_lrlrr_eq, kq_seq c15 15, r15_6, kq_ret c15 31, res15_0, reduceIte, reduceCtorEq, XE.exit.injEq, Nat.reduceEqDiff, Nat.reduceMul, Nat.reduceAdd] <;> kernel_rfl
theorem F15_call : eInv env (k + 1) (.func 15) #[] #[x0] h = F15 (eInv env k) k x0 h := kq_inv F15_eq
noncomputable def c16 : Code := codeOf Try.prog 16
theorem r16_0  : kCode env 16 false inv k (cp c16 2) (act 59 [(0, x0), (1, x1)]) h K =
    bnd (pBox Try.prog 39 x1 h) fun x3 =>
    K .normal (act 59 [(0, x0), (3, x3.1), (5, (.int .i64 0))]) x3.2 := kq_reg
theorem r16_1  : kCode env 16 false inv k (cp c16 6) (act 59 [(0, x0), (3, x3), (5, x5)]) h K =
    bnd (inv (.func 27) #[] #[x0] h) fun x9 =>
    K .normal (act 59 [(3, x3), (4, x9.1), (5, x5)]) x9.2 := kq_reg
theorem r16_2  : kCode env 16 false inv k (cp c16 28) (act 59 [(3, x3), (4, x4), (5, x5)]) h K =
    bnd (pFieldAddr Try.prog 39 x3 0) fun x10 =>
    bnd (pLoad Try.prog 3 x10 h) fun x11 =>
    K .normal (act 59 [(3, x3), (4, x4), (5, x5), (11, x11)]) h := kq_reg
theorem r16_3  : kCode env 16 false inv k (cp c16 116) (act 59 [(3, x3), (4, x4), (5, x5), (11, x11)]) h K =
    bnd (pBin Try.prog .eql 3 (.tmp 11) (.const (.int .i64 1)) x11 (.int .i64 1)) fun x13 =>
    K .normal (act 59 [(3, x3), (4, x4), (5, x5), (11, x11), (12, x13)]) h := kq_reg
theorem b16_rlrlrr  : kCode env 16 false inv k (cp c16 117) (act 59 [(3, x3), (4, x4), (5, x5), (11, x11), (12, x12)]) h K = brV x12 (kCode env 16 false inv k (cp c16 234) (act 59 [(3, x3), (4, x4), (5, x5), (11, x11), (12, x12)]) h K) (kCode env 16 false inv k (cp c16 235) (act 59 [(3, x3), (4, x4), (5, x5), (11, x11), (12, x12)]) h K) := kq_cond
noncomputable abbrev G16_4 {β : Type} (inv : Inv) (x3 x4 : Value) (h : AH) (K : Value → Value → AH → Option β) : Option β :=
    bnd (pFieldAddr Try.prog 39 x3 1) fun x15 =>
    bnd (pLoad Try.prog 23 x15 h) fun x16 =>
    bnd (inv (.func 27) #[] #[x16] h) fun x17 =>
    bnd (pAppend Try.prog #[23, 23] x4 x17.1 x17.2) fun x18 =>
    bnd (pFieldAddr Try.prog 39 x3 1) fun x19 =>
    bnd (pLoad Try.prog 23 x19 x18.2) fun x20 =>
    bnd (pLen Try.prog #[23] x20 x18.2) fun x21 =>
    chkK ((!true || !true || (sameO (pLoad Try.prog 23 x19 h) x20 && sameO (pLoad Try.prog 23 x19 x17.2) x20)) && ((!true || !true || (sameO (pLoad Try.prog 23 x19 x17.2) x20 && sameO (pLoad Try.prog 23 x19 x18.2) x20)) && ((!true || !true || (sameO (pLen Try.prog #[23] x20 h) x21 && sameO (pLen Try.prog #[23] x20 x17.2) x21)) && ((!true || !true || (sameO (pLen Try.prog #[23] x20 x17.2) x21 && sameO (pLen Try.prog #[23] x20 x18.2) x21)) && true)))) <|
    K (x18.1) (x21) x18.2
theorem r16_4  : kCode env 16 false inv k (cp c16 468) (act 59 [(3, x3), (4, x4), (5, x5), (11, x11), (12, x12)]) h K =
    G16_4 inv x3 x4 h fun y4 y5 h => K .normal (act 59 [(4, y4), (5, y5)]) h := kq_draw
theorem r16_5  : kCode env 16 false inv k (cp c16 470) (act 59 [(3, x3), (4, x4), (5, x5), (11, x11), (12, x12)]) h K =
    bnd (pBin Try.prog .eql 3 (.tmp 11) (.const (.int .i64 2)) x11 (.int .i64 2)) fun x23 =>
    K .normal (act 59 [(3, x3), (4, x4), (5, x5), (11, x11), (22, x23)]) h := kq_reg
theorem b16_rrrlrlrr  : kCode env 16 false inv k (cp c16 471) (act 59 [(3, x3), (4, x4), (5, x5), (11, x11), (22, x22)]) h K = brV x22 (kCode env 16 false inv k (cp c16 942) (act 59 [(3, x3), (4, x4), (5, x5), (11, x11), (22, x22)]) h K) (kCode env 16 false inv k (cp c16 943) (act 59 [(3, x3), (4, x4), (5, x5), (11, x11), (22, x22)]) h K) := kq_cond
theorem r16_6  : kCode env 16 false inv k (cp c16 1884) (act 59 [(3, x3), (4, x4), (5, x5), (11, x11), (22, x22)]) h K =
    bnd (pLen Try.prog #[23] x4 h) fun x25 =>
    K .normal (act 59 [(3, x3), (4, x4), (6, x25)]) h := kq_reg
theorem r16_7  : kCode env 16 false inv k (cp c16 3770) (act 59 [(3, x3), (4, x4), (6, x6)]) h K =
    bnd (pMakeFunc (.func 37) #[] #[x3]) fun x27 =>
    bnd (inv (.func 36) #[] #[x4, x27] h) fun x28 =>
    K .normal (act 59 [(4, x28.1), (6, x6)]) x28.2 := kq_reg
theorem r16_8  : kCode env 16 false inv k (cp c16 7542) (act 59 [(4, x4), (6, x6)]) h K =
    bnd (pLen Try.prog #[23] x4 h) fun x32 =>
    bnd (pBin Try.prog .sub 3 (.tmp 30) (.tmp 32) x6 x32) fun x33 =>
    K .normal (act 59 [(4, x4), (5, x33)]) h := kq_reg
theorem r16_9  : kCode env 16 false inv k (cp c16 1886) (act 59 [(3, x3), (4, x4), (5, x5), (11, x11), (22, x22)]) h K =
    bnd (pBin Try.prog .eql 3 (.tmp 11) (.const (.int .i64 3)) x11 (.int .i64 3)) fun x35 =>
    K .normal (act 59 [(3, x3), (4, x4), (5, x5), (34, x35)]) h := kq_reg
theorem b16_rrrrrlrlrr  : kCode env 16 false inv k (cp c16 1887) (act 59 [(3, x3), (4, x4), (5, x5), (34, x34)]) h K = brV x34 (kCode env 16 false inv k (cp c16 3774) (act 59 [(3, x3), (4, x4), (5, x5), (34, x34)]) h K) (kCode env 16 false inv k (cp c16 3775) (act 59 [(3, x3), (4, x4), (5, x5), (34, x34)]) h K) := kq_cond
theorem r16_10  : kCode env 16 false inv k (cp c16 7548) (act 59 [(3, x3), (4, x4), (5, x5), (34, x34)]) h K =
    bnd (pLen Try.prog #[23] x4 h) fun x37 =>
    K .normal (act 59 [(3, x3), (4, x4), (5, x5), (37, x37), (38, (.int .i64 0))]) h := kq_reg
theorem r16_11  : kCode env 16 false inv k (cp c16 60392) (act 59 [(3, x3), (4, x4), (5, x5), (37, x37), (38, x38)]) h K =
    bnd (pBin Try.prog .lss 3 (.tmp 38) (.tmp 37) x38 x37) fun x39 =>
    K .normal (act 59 [(3, x3), (4, x4), (5, x5), (37, x37), (38, x38), (39, x39)]) h := kq_reg
theorem b16_lrllrlrrrrrlrlrr  : kCode env 16 false inv k (cp c16 120786) (act 59 [(3, x3), (4, x4), (5, x5), (37, x37), (38, x38), (39, x39)]) h K = brV x39 (kCode env 16 false inv k (cp c16 241572) (act 59 [(3, x3), (4, x4), (5, x5), (37, x37), (38, x38), (39, x39)]) h K) (kCode env 16 false inv k (cp c16 241573) (act 59 [(3, x3), (4, x4), (5, x5), (37, x37), (38, x38), (39, x39)]) h K) := kq_cond
theorem r16_12  : kCode env 16 false inv k (cp c16 966296) (act 59 [(3, x3), (4, x4), (5, x5), (37, x37), (38, x38), (39, x39)]) h K =
    K .normal (act 59 [(3, x3), (4, x4), (5, x5), (7, x38), (37, x37), (38, x38)]) h := kq_reg
theorem r16_13  : kCode env 16 false inv k (cp c16 1932594) (act 59 [(3, x3), (4, x4), (5, x5), (7, x7), (37, x37), (38, x38)]) h K =
    bnd (pFieldAddr Try.prog 39 x3 2) fun x41 =>
    bnd (pLoad Try.prog 35 x41 h) fun x42 =>
    bnd (pIndexAddr Try.prog 23 x4 x7) fun x45 =>
    bnd (pLoad Try.prog 37 x45 h) fun x46 =>
    bnd (inv (.func 38) #[] #[x42, x46] h) fun x47 =>
    K .normal (act 59 [(3, x3), (4, x4), (5, x5), (7, x7), (37, x37), (38, x38), (47, x47.1)]) x47.2 := kq_draw
theorem b16_rrllrrllrlrrrrrlrlrr  : kCode env 16 false inv k (cp c16 1932595) (act 59 [(3, x3), (4, x4), (5, x5), (7, x7), (37, x37), (38, x38), (47, x47)]) h K = brV x47 (kCode env 16 false inv k (cp c16 3865190) (act 59 [(3, x3), (4, x4), (5, x5), (7, x7), (37, x37), (38, x38), (47, x47)]) h K) (kCode env 16 false inv k (cp c16 3865191) (act 59 [(3, x3), (4, x4), (5, x5), (7, x7), (37, x37), (38, x38), (47, x47)]) h K) := kq_cond
theorem r16_14  : kCode env 16 false inv k (cp c16 7730380) (act 59 [(3, x3), (4, x4), (5, x5), (7, x7), (37, x37), (38, x38), (47, x47)]) h K =
    bnd (pIndexAddr Try.prog 23 x4 x7) fun x50 =>
    bnd (pLoad Try.prog 37 x50 h) fun x51 =>
    bnd (pLoad Try.prog 39 x3 h) fun x52 =>
    bnd (inv (.func 39) #[] #[x51, x52] h) fun x53 =>
    K .normal (act 59 [(3, x3), (4, x4), (5, x5), (37, x37), (38, x38)]) x53.2 := kq_draw
theorem r16_15  : kCode env 16 false inv k (cp c16 7730381) (act 59 [(3, x3), (4, x4), (5, x5), (37, x37), (38, x38)]) h K =
    bnd (pBin Try.prog .add 3 (.tmp 54) (.const (.int .i64 1)) x5 (.int .i64 1)) fun x55 =>
    K .normal (act 59 [(3, x3), (4, x4), (5, x55), (37, x37), (38, x38)]) h := kq_reg
noncomputable def F16_lrrllrlrrrrrlrlrr {β : Type} (inv : Inv) (k : Nat) (x3 x4 x5 x37 x38 x39 : Value) (h : AH) (kn : (Value → Value → Value → Value → Value → Value → Value → AH → Option β)) : Option β :=
    bnd (pFieldAddr Try.prog 39 x3 2) fun x41 =>
    bnd (pLoad Try.prog 35 x41 h) fun x42 =>
    bnd (pIndexAddr Try.prog 23 x4 x38) fun x45 =>
    bnd (pLoad Try.prog 37 x45 h) fun x46 =>
    bnd (inv (.func 38) #[] #[x42, x46] h) fun x47 =>
    brV x47.1
    (bnd (pIndexAddr Try.prog 23 x4 x38) fun x50 =>
    bnd (pLoad Try.prog 37 x50 x47.2) fun x51 =>
    bnd (pLoad Try.prog 39 x3 x47.2) fun x52 =>
    bnd (inv (.func 39) #[] #[x51, x52] x47.2) fun x53 =>
    bnd (pBin Try.prog .add 3 (.tmp 54) (.const (.int .i64 1)) x5 (.int .i64 1)) fun x55 =>
    kn x3 x4 x55 unk x37 x38 unk x53.2)
    (kn x3 x4 x5 x38 x37 x38 x47.1 x47.2)
theorem F16_lrrllrlrrrrrlrlrr_eq  : kCode env 16 false inv k (cp c16 241574) (act 59 [(3, x3), (4, x4), (5, x5), (37, x37), (38, x38), (39, x39)]) h K = F16_lrrllrlrrrrrlrlrr inv k x3 x4 x5 x37 x38 x39 h (fun y3 y4 y5 y7 y37 y38 y47 h => K .normal (act 59 [(3, y3), (4, y4), (5, y5), (7, y7), (37, y37), (38, y38), (47, y47)]) h) := by
      unfold F16_lrrllrlrrrrrlrlrr
      simp only [kq_block c16 241574 2, kq_seq c16 483148, r16_12, kq_seq c16 966297, r16_13, b16_rrllrrllrlrrrrrlrlrr, kq_seq c16 3865190, r16_14, r16_15, kq_skip c16 3865191, reduceIte, reduceCtorEq, XE.exit.injEq, Nat.reduceEqDiff, Nat.reduceMul, Nat.reduceAdd] <;> kernel_rfl
theorem r16_16  : kCode env 16 false inv k (cp c16 241575) (act 59 [(3, x3), (4, x4), (5, x5), (7, x7), (37, x37), (38, x38), (47, x47)]) h K =
    bnd (pBin Try.prog .add 3 (.tmp 38) (.const (.int .i64 1)) x38 (.int .i64 1)) fun x56 =>
    K .normal (act 59 [(3, x3), (4, x4), (5, x5), (37, x37), (38, x56)]) h := kq_reg
noncomputable def F16_lrlrrrrrlrlrr {β : Type} (inv : Inv) (k : Nat) : Nat → Value → Value → Value → Value → Value → AH → (Value → Value → Value → Value → Value → Value → AH → Option β) → Option β
  | 0, _, _, _, _, _, _, _ => none
  | j + 1, x3, x4, x5, x37, x38, h, ke1 =>
    bnd (pBin Try.prog .lss 3 (.tmp 38) (.tmp 37) x38 x37) fun x39 =>
    brV x39
    (F16_lrrllrlrrrrrlrlrr inv k x3 x4 x5 x37 x38 x39 h
    (fun y3 y4 y5 y7 y37 y38 y47 h =>
    bnd (pBin Try.prog .add 3 (.tmp 38) (.const (.int .i64 1)) y38 (.int .i64 1)) fun x56 =>
    F16_lrlrrrrrlrlrr inv k j y3 y4 y5 y37 x56 h ke1))
    (ke1 x3 x4 x5 x37 x38 x39 h)
theorem F16_lrlrrrrrlrlrr_j (j : Nat) : kLoop (kCode env 16 false inv k (cp c16 30196)) j (act 59 [(3, x3), (4, x4), (5, x5), (37, x37), (38, x38)]) h K = F16_lrlrrrrrlrlrr inv k j x3 x4 x5 x37 x38 h (fun y3 y4 y5 y37 y38 y39 h => K (.exit 1) (act 59 [(3, y3), (4, y4), (5, y5), (37, y37), (38, y38), (39, y39)]) h) := by
      induction j generalizing x3 x4 x5 x37 x38 h with
      | zero => rfl
      | succ j ih =>
        unfold F16_lrlrrrrrlrlrr
        simp only [kLoop, kq_seq c16 30196, r16_11, kq_seq c16 60393, b16_lrllrlrrrrrlrlrr, kq_skip c16 241572, kq_seq c16 120787, F16_lrrllrlrrrrrlrlrr_eq, r16_16, kq_exit c16 241573 1, ih, reduceIte, reduceCtorEq, XE.exit.injEq, Nat.reduceEqDiff, Nat.reduceMul, Nat.reduceAdd] <;> kernel_rfl
theorem F16_lrlrrrrrlrlrr_eq  : kCode env 16 false inv k (cp c16 15098) (act 59 [(3, x3), (4, x4), (5, x5), (37, x37), (38, x38)]) h K = F16_lrlrrrrrlrlrr inv k k x3 x4 x5 x37 x38 h (fun y3 y4 y5 y37 y38 y39 h => K (.exit 1) (act 59 [(3, y3), (4, y4), (5, y5), (37, y37), (38, y38), (39, y39)]) h) := kq_loop (F16_lrlrrrrrlrlrr_j k)
noncomputable def F16_rlrr {β : Type} (inv : Inv) (k : Nat) (x3 x4 x5 x11 : Value) (h : AH) (kn : (Value → Value → Value → Value → Value → Value → Value → AH → Option β)) (kr : (Value → Value → AH → Option β)) : Option β :=
    bnd (pBin Try.prog .eql 3 (.tmp 11) (.const (.int .i64 1)) x11 (.int .i64 1)) fun x13 =>
    brV x13
    (G16_4 inv x3 x4 h fun y4 y5 h =>
    kr y4 y5 h)
    (bnd (pBin Try.prog .eql 3 (.tmp 11) (.const (.int .i64 2)) x11 (.int .i64 2)) fun x23 =>
    brV x23
    (bnd (pLen Try.prog #[23] x4 h) fun x25 =>
    bnd (pMakeFunc (.func 37) #[] #[x3]) fun x27 =>
    bnd (inv (.func 36) #[] #[x4, x27] h) fun x28 =>
    bnd (pLen Try.prog #[23] x28.1 x28.2) fun x32 =>
    bnd (pBin Try.prog .sub 3 (.tmp 30) (.tmp 32) x25 x32) fun x33 =>
    kr x28.1 x33 x28.2)
    (bnd (pBin Try.prog .eql 3 (.tmp 11) (.const (.int .i64 3)) x11 (.int .i64 3)) fun x35 =>
    brV x35
    (bnd (pLen Try.prog #[23] x4 h) fun x37 =>
    F16_lrlrrrrrlrlrr inv k k x3 x4 x5 x37 (.int .i64 0) h
    (fun y3 y4_1 y5_2 y37 y38 y39 h_3 =>
    kn y3 y4_1 y5_2 unk y37 y38 y39 h_3))
    (kn x3 x4 x5 x35 unk unk unk h)))
theorem F16_rlrr_eq  : kCode env 16 false inv k (cp c16 29) (act 59 [(3, x3), (4, x4), (5, x5), (11, x11)]) h K = F16_rlrr inv k x3 x4 x5 x11 h (fun y3 y4 y5 y34 y37 y38 y39 h => K .normal (act 59 [(3, y3), (4, y4), (5, y5), (34, y34), (37, y37), (38, y38), (39, y39)]) h) (fun y4 y5 h => K .ret (act 59 [(4, y4), (5, y5)]) h) := by
      unfold F16_rlrr
      simp only [kq_block c16 29 0, kq_seq c16 58, r16_3, b16_rlrlrr, kq_seq c16 234, r16_4, kq_ret c16 469, kq_seq c16 235, r16_5, b16_rrrlrlrr, kq_seq c16 942, r16_6, kq_seq c16 1885, r16_7, kq_seq c16 3771, r16_8, kq_ret c16 7543, kq_seq c16 943, r16_9, b16_rrrrrlrlrr, kq_seq c16 3774, r16_10, kq_block c16 7549 1, F16_lrlrrrrrlrlrr_eq, kq_skip c16 3775, reduceIte, reduceCtorEq, XE.exit.injEq, Nat.reduceEqDiff, Nat.reduceMul, Nat.reduceAdd] <;> kernel_rfl
theorem r16_17  : kCode env 16 false inv k (cp c16 30) (act 59 [(3, x3), (4, x4), (5, x5), (34, x34), (37, x37), (38, x38), (39, x39)]) h K =
    K .normal (act 59 [(4, x4), (5, x5)]) h := kq_reg
theorem res16_0 : resOfFn env.P 16 .ret (act 59 [(4, x4), (5, x5)]) h = some (.tuple #[x4, x5], h) := kq_res
/-- shadowbook/batch.One -/
noncomputable def F16 (inv : Inv) (k : Nat) (x0 x1 : Value) (h : AH) : Option (Value × AH) :=
    bnd (pBox Try.prog 39 x1 h) fun x3 =>
    bnd (inv (.func 27) #[] #[x0] x3.2) fun x9 =>
    bnd (pFieldAddr Try.prog 39 x3.1 0) fun x10 =>
    bnd (pLoad Try.prog 3 x10 x9.2) fun x11 =>
    F16_rlrr inv k x3.1 x9.1 (.int .i64 0) x11 x9.2
    (fun y3 y4 y5 y34 y37 y38 y39 h =>
    some (.tuple #[y4, y5], h))
    (fun y4_4 y5_5 h_6 =>
    some (.tuple #[y4_4, y5_5], h_6))
theorem F16_eq : eFun env k inv 16 #[x0, x1] h = F16 inv k x0 x1 h := by
      refine (kq_fun (a := act 59 [(0, x0), (1, x1)]) (c := cp c16 1)).trans ?_
      unfold F16
      simp only [kq_seq c16 1, r16_0, kq_seq c16 3, r16_1, kq_seq c16 7, kq_seq c16 14, r16_2, F16_rlrr_eq, kq_seq c16 15, r16_17, kq_ret c16 31, res16_0, reduceIte, reduceCtorEq, XE.exit.injEq, Nat.reduceEqDiff, Nat.reduceMul, Nat.reduceAdd] <;> kernel_rfl
theorem F16_call : eInv env (k + 1) (.func 16) #[] #[x0, x1] h = F16 (eInv env k) k x0 x1 h := kq_inv F16_eq
noncomputable def c18 : Code := codeOf Try.prog 18
theorem r18_0  : kCode env 18 false inv k (cp c18 2) (act 78 [(0, x0), (1, x1)]) h K =
    K .normal (act 78 [(0, x0), (1, x1)]) h := kq_reg
theorem r18_1  : kCode env 18 false inv k (cp c18 6) (act 78 [(0, x0), (1, x1)]) h K =
    bnd (inv (.func 43) #[] #[x0] h) fun x12 =>
    K .normal (act 78 [(0, x0), (1, x1), (5, x12.1)]) x12.2 := kq_reg
theorem r18_2  : kCode env 18 false inv k (cp c18 28) (act 78 [(0, x0), (1, x1), (5, x5)]) h K =
    bnd (pBin Try.prog .neq 27 (.tmp 13) (.const (.int .i64 0)) x5 (.int .i64 0)) fun x14 =>
    K .normal (act 78 [(0, x0), (1, x1), (5, x5), (14, x14)]) h := kq_reg
theorem b18_rlrr  : kCode env 18 false inv k (cp c18 29) (act 78 [(0, x0), (1, x1), (5, x5), (14, x14)]) h K = brV x14 (kCode env 18 false inv k (cp c18 58) (act 78 [(0, x0), (1, x1), (5, x5), (14, x14)]) h K) (kCode env 18 false inv k (cp c18 59) (act 78 [(0, x0), (1, x1), (5, x5), (14, x14)]) h K) := kq_cond
theorem r18_3  : kCode env 18 false inv k (cp c18 116) (act 78 [(0, x0), (1, x1), (5, x5), (14, x14)]) h K =
    K .normal (act 78 [(4, x5)]) h := kq_reg
theorem res18_0 : resOfFn env.P 18 .ret (act 78 [(4, x4)]) h = some (x4, h) := kq_res
theorem r18_4  : kCode env 18 false inv k (cp c18 60) (act 78 [(0, x0), (1, x1), (5, x5), (14, x14)]) h K =
    bnd (pLen Try.prog #[35] x1 h) fun x17 =>
    bnd (pBin Try.prog .gtr 3 (.tmp 17) (.const (.int .i64 64)) x17 (.int .i64 64)) fun x18 =>
    K .normal (act 78 [(0, x0), (1, x1), (18, x18)]) h := kq_reg
theorem b18_rlrrr  : kCode env 18 false inv k (cp c18 61) (act 78 [(0, x0), (1, x1), (18, x18)]) h K = brV x18 (kCode env 18 false inv k (cp c18 122) (act 78 [(0, x0), (1, x1), (18, x18)]) h K) (kCode env 18 false inv k (cp c18 123) (act 78 [(0, x0), (1, x1), (18, x18)]) h K) := kq_cond
theorem r18_5  : kCode env 18 false inv k (cp c18 244) (act 78 [(0, x0), (1, x1), (18, x18)]) h K =
    K .normal (act 78 [(4, (.int .i64 180))]) h := kq_reg
theorem r18_6  : kCode env 18 false inv k (cp c18 62) (act 78 [(0, x0), (1, x1), (18, x18)]) h K =
    bnd (pLen Try.prog #[35] x1 h) fun x20 =>
    bnd (pMakeSlice Try.prog 36 x20 x20 h) fun x21 =>
    K .normal (act 78 [(0, x0), (1, x1), (6, x21.1)]) x21.2 := kq_reg
theorem r18_7  : kCode env 18 false inv k (cp c18 252) (act 78 [(0, x0), (1, x1), (6, x6)]) h K =
    K .normal (act 78 [(0, x0), (1, x1), (6, x6), (7, (.int .i64 0))]) h := kq_reg
theorem r18_8  : kCode env 18 false inv k (cp c18 4048) (act 78 [(0, x0), (1, x1), (6, x6), (7, x7)]) h K =
    bnd (pLen Try.prog #[35] x1 h) fun x24 =>
    bnd (pBin Try.prog .lss 3 (.tmp 22) (.tmp 24) x7 x24) fun x25 =>
    K .normal (act 78 [(0, x0), (1, x1), (6, x6), (7, x7), (25, x25)]) h := kq_reg
theorem b18_rlllrlrrrrr  : kCode env 18 false inv k (cp c18 4049) (act 78 [(0, x0), (1, x1), (6, x6), (7, x7), (25, x25)]) h K = brV x25 (kCode env 18 false inv k (cp c18 8098) (act 78 [(0, x0), (1, x1), (6, x6), (7, x7), (25, x25)]) h K) (kCode env 18 false inv k (cp c18 8099) (act 78 [(0, x0), (1, x1), (6, x6), (7, x7), (25, x25)]) h K) := kq_cond
theorem r18_10  : kCode env 18 false inv k (cp c18 32400) (act 78 [(0, x0), (1, x1), (6, x6), (7, x7), (25, x25)]) h K =
    bnd (pIndexAddr Try.prog 35 x1 x7) fun x31 =>
    bnd (pLoad Try.prog 59 x31 h) fun x32 =>
    bnd (inv (.func 44) #[] #[x0, x32] h) fun x33 =>
    bnd (pUn Try.prog .not x33.1) fun x34 =>
    K .normal (act 78 [(0, x0), (1, x1), (6, x6), (7, x7), (34, x34)]) x33.2 := kq_reg
theorem b18_rlllrllrlrrrrr  : kCode env 18 false inv k (cp c18 32401) (act 78 [(0, x0), (1, x1), (6, x6), (7, x7), (34, x34)]) h K = brV x34 (kCode env 18 false inv k (cp c18 64802) (act 78 [(0, x0), (1, x1), (6, x6), (7, x7), (34, x34)]) h K) (kCode env 18 false inv k (cp c18 64803) (act 78 [(0, x0), (1, x1), (6, x6), (7, x7), (34, x34)]) h K) := kq_cond
theorem r18_11  : kCode env 18 false inv k (cp c18 129604) (act 78 [(0, x0), (1, x1), (6, x6), (7, x7), (34, x34)]) h K =
    K .normal (act 78 [(4, (.int .i64 180))]) h := kq_reg
theorem r18_12  : kCode env 18 false inv k (cp c18 32402) (act 78 [(0, x0), (1, x1), (6, x6), (7, x7), (34, x34)]) h K =
    K .normal (act 78 [(0, x0), (1, x1), (6, x6), (7, x7), (8, (.int .i64 0))]) h := kq_reg
theorem r18_13  : kCode env 18 false inv k (cp c18 518448) (act 78 [(0, x0), (1, x1), (6, x6), (7, x7), (8, x8)]) h K =
    bnd (pIndexAddr Try.prog 35 x1 x7) fun x38 =>
    bnd (pFieldAddr Try.prog 59 x38 3) fun x39 =>
    bnd (pLoad Try.prog 36 x39 h) fun x40 =>
    bnd (pLen Try.prog #[36] x40 h) fun x41 =>
    bnd (pBin Try.prog .lss 3 (.tmp 35) (.tmp 41) x8 x41) fun x42 =>
    K .normal (act 78 [(0, x0), (1, x1), (6, x6), (7, x7), (8, x8), (42, x42)]) h := kq_reg
theorem b18_rlllrrllrllrlrrrrr  : kCode env 18 false inv k (cp c18 518449) (act 78 [(0, x0), (1, x1), (6, x6), (7, x7), (8, x8), (42, x42)]) h K = brV x42 (kCode env 18 false inv k (cp c18 1036898) (act 78 [(0, x0), (1, x1), (6, x6), (7, x7), (8, x8), (42, x42)]) h K) (kCode env 18 false inv k (cp c18 1036899) (act 78 [(0, x0), (1, x1), (6, x6), (7, x7), (8, x8), (42, x42)]) h K) := kq_cond
theorem r18_15  : kCode env 18 false inv k (cp c18 2073800) (act 78 [(0, x0), (1, x1), (6, x6), (7, x7), (8, x8), (42, x42)]) h K =
    bnd (pIndexAddr Try.prog 35 x1 x7) fun x47 =>
    bnd (pFieldAddr Try.prog 59 x47 3) fun x48 =>
    bnd (pLoad Try.prog 36 x48 h) fun x49 =>
    bnd (pIndexAddr Try.prog 36 x49 x8) fun x51 =>
    bnd (pLoad Try.prog 3 x51 h) fun x52 =>
    K .normal (act 78 [(0, x0), (1, x1), (6, x6), (7, x7), (8, x8), (9, x52)]) h := kq_reg
noncomputable abbrev G18_16 {β : Type} (inv : Inv) (x0 x1 x6 x7 x8 x9 : Value) (h : AH) (K : Value → AH → Option β) : Option β :=
    bnd (pBin Try.prog .lss 3 (.tmp 53) (.const (.int .i64 0)) x9 (.int .i64 0)) fun x54 =>
    bnd (gd (some x54) false h (some (x9, h))) fun x56 =>
    bnd (gd (some x54) false x56.2 (some (x7, x56.2))) fun x57 =>
    bnd (gd (some x54) false x57.2 (lt (pBin Try.prog .geq 3 (.tmp 56) (.tmp 57) x56.1 x57.1) x57.2)) fun x58 =>
    bnd (pickV x54 (.bool true) x58.1) fun x59 =>
    K (x59) x58.2
theorem r18_16  : kCode env 18 false inv k (cp c18 8295204) (act 78 [(0, x0), (1, x1), (6, x6), (7, x7), (8, x8), (9, x9)]) h K =
    G18_16 inv x0 x1 x6 x7 x8 x9 h fun y59 h => K .normal (act 78 [(0, x0), (1, x1), (6, x6), (7, x7), (8, x8), (9, x9), (59, y59)]) h := kq_reg
theorem b18_rlrllrllrrllrllrlrrrrr  : kCode env 18 false inv k (cp c18 8295205) (act 78 [(0, x0), (1, x1), (6, x6), (7, x7), (8, x8), (9, x9), (59, x59)]) h K = brV x59 (kCode env 18 false inv k (cp c18 16590410) (act 78 [(0, x0), (1, x1), (6, x6), (7, x7), (8, x8), (9, x9), (59, x59)]) h K) (kCode env 18 false inv k (cp c18 16590411) (act 78 [(0, x0), (1, x1), (6, x6), (7, x7), (8, x8), (9, x9), (59, x59)]) h K) := kq_cond
theorem r18_17  : kCode env 18 false inv k (cp c18 33180820) (act 78 [(0, x0), (1, x1), (6, x6), (7, x7), (8, x8), (9, x9), (59, x59)]) h K =
    K .normal (act 78 [(4, (.int .i64 180))]) h := kq_reg
theorem r18_18  : kCode env 18 false inv k (cp c18 4147603) (act 78 [(0, x0), (1, x1), (6, x6), (7, x7), (8, x8), (9, x9), (59, x59)]) h K =
    bnd (pIndexAddr Try.prog 36 x6 x9) fun x62 =>
    bnd (pLoad Try.prog 3 x62 h) fun x63 =>
    bnd (pBin Try.prog .add 3 (.tmp 63) (.const (.int .i64 1)) x63 (.int .i64 1)) fun x64 =>
    bnd (pIndexAddr Try.prog 36 x6 x9) fun x65 =>
    bnd (kSt (pStore Try.prog 3 x65 x64 h)) fun u =>
    K .normal (act 78 [(0, x0), (1, x1), (6, x6), (7, x7), (8, x8)]) u.2 := kq_reg
theorem r18_14  : kCode env 18 false inv k (cp c18 518451) (act 78 [(0, x0), (1, x1), (6, x6), (7, x7), (8, x8)]) h K =
    bnd (pBin Try.prog .add 3 (.tmp 43) (.const (.int .i64 1)) x8 (.int .i64 1)) fun x44 =>
    K .normal (act 78 [(0, x0), (1, x1), (6, x6), (7, x7), (8, x44)]) h := kq_reg
noncomputable def F18_lrrllrllrlrrrrr {β : Type} (inv : Inv) (k : Nat) : Nat → Value → Value → Value → Value → Value → AH → (Value → Value → Value → Value → Value → Value → AH → Option β) → (Value → AH → Option β) → Option β
  | 0, _, _, _, _, _, _, _, _ => none
  | j + 1, x0, x1, x6, x7, x8, h, ke2, kr =>
    bnd (pIndexAddr Try.prog 35 x1 x7) fun x38 =>
    bnd (pFieldAddr Try.prog 59 x38 3) fun x39 =>
    bnd (pLoad Try.prog 36 x39 h) fun x40 =>
    bnd (pLen Try.prog #[36] x40 h) fun x41 =>
    bnd (pBin Try.prog .lss 3 (.tmp 35) (.tmp 41) x8 x41) fun x42 =>
    brV x42
    (bnd (pIndexAddr Try.prog 35 x1 x7) fun x47 =>
    bnd (pFieldAddr Try.prog 59 x47 3) fun x48 =>
    bnd (pLoad Try.prog 36 x48 h) fun x49 =>
    bnd (pIndexAddr Try.prog 36 x49 x8) fun x51 =>
    bnd (pLoad Try.prog 3 x51 h) fun x52 =>
    G18_16 inv x0 x1 x6 x7 x8 x52 h fun y59 h =>
    brV y59
    (kr (.int .i64 180) h)
    (bnd (pIndexAddr Try.prog 36 x6 x52) fun x62 =>
    bnd (pLoad Try.prog 3 x62 h) fun x63 =>
    bnd (pBin Try.prog .add 3 (.tmp 63) (.const (.int .i64 1)) x63 (.int .i64 1)) fun x64 =>
    bnd (pIndexAddr Try.prog 36 x6 x52) fun x65 =>
    bnd (kSt (pStore Try.prog 3 x65 x64 h)) fun u =>
    bnd (pBin Try.prog .add 3 (.tmp 43) (.const (.int .i64 1)) x8 (.int .i64 1)) fun x44 =>
    F18_lrrllrllrlrrrrr inv k j x0 x1 x6 x7 x44 u.2 ke2 kr))
    (ke2 x0 x1 x6 x7 x8 x42 h)
theorem F18_lrrllrllrlrrrrr_j (j : Nat) : kLoop (kCode env 18 false inv k (cp c18 129612)) j (act 78 [(0, x0), (1, x1), (6, x6), (7, x7), (8, x8)]) h K = F18_lrrllrllrlrrrrr inv k j x0 x1 x6 x7 x8 h (fun y0 y1 y6 y7 y8 y42 h => K (.exit 2) (act 78 [(0, y0), (1, y1), (6, y6), (7, y7), (8, y8), (42, y42)]) h) (fun y4 h => K .ret (act 78 [(4, y4)]) h) := by
      induction j generalizing x0 x1 x6 x7 x8 h with
      | zero => rfl
      | succ j ih =>
        unfold F18_lrrllrllrlrrrrr
        simp only [kLoop, kq_seq c18 129612, kq_seq c18 259224, r18_13, b18_rlllrrllrllrlrrrrr, kq_skip c18 1036898, kq_seq c18 259225, kq_block c18 518450 3, kq_seq c18 1036900, r18_15, kq_seq c18 2073801, kq_seq c18 4147602, r18_16, b18_rlrllrllrrllrllrlrrrrr, kq_seq c18 16590410, r18_17, kq_ret c18 33180821, kq_skip c18 16590411, r18_18, r18_14, kq_exit c18 1036899 2, ih, reduceIte, reduceCtorEq, XE.exit.injEq, Nat.reduceEqDiff, Nat.reduceMul, Nat.reduceAdd] <;> kernel_rfl
theorem F18_lrrllrllrlrrrrr_eq  : kCode env 18 false inv k (cp c18 64806) (act 78 [(0, x0), (1, x1), (6, x6), (7, x7), (8, x8)]) h K = F18_lrrllrllrlrrrrr inv k k x0 x1 x6 x7 x8 h (fun y0 y1 y6 y7 y8 y42 h => K (.exit 2) (act 78 [(0, y0), (1, y1), (6, y6), (7, y7), (8, y8), (42, y42)]) h) (fun y4 h => K .ret (act 78 [(4, y4)]) h) := kq_loop (F18_lrrllrllrlrrrrr_j k)
theorem r18_9  : kCode env 18 false inv k (cp c18 4051) (act 78 [(0, x0), (1, x1), (6, x6), (7, x7), (8, x8), (42, x42)]) h K =
    bnd (pBin Try.prog .add 3 (.tmp 26) (.const (.int .i64 1)) x7 (.int .i64 1)) fun x27 =>
    K .normal (act 78 [(0, x0), (1, x1), (6, x6), (7, x27)]) h := kq_reg
noncomputable def F18_lrlrrrrr {β : Type} (inv : Inv) (k : Nat) : Nat → Value → Value → Value → Value → AH → (Value → Value → Value → Value → Value → AH → Option β) → (Value → AH → Option β) → Option β
  | 0, _, _, _, _, _, _, _ => none
  | j + 1, x0, x1, x6, x7, h, ke0, kr =>
    bnd (pLen Try.prog #[35] x1 h) fun x24 =>
    bnd (pBin Try.prog .lss 3 (.tmp 22) (.tmp 24) x7 x24) fun x25 =>
    brV x25
    (bnd (pIndexAddr Try.prog 35 x1 x7) fun x31 =>
    bnd (pLoad Try.prog 59 x31 h) fun x32 =>
    bnd (inv (.func 44) #[] #[x0, x32] h) fun x33 =>
    bnd (pUn Try.prog .not x33.1) fun x34 =>
    brV x34
    (kr (.int .i64 180) x33.2)
    (F18_lrrllrllrlrrrrr inv k k x0 x1 x6 x7 (.int .i64 0) x33.2
    (fun y0 y1 y6 y7 y8 y42 h =>
    bnd (pBin Try.prog .add 3 (.tmp 26) (.const (.int .i64 1)) y7 (.int .i64 1)) fun x27 =>
    F18_lrlrrrrr inv k j y0 y1 y6 x27 h ke0 kr)
    (fun y4 h_1 =>
    kr y4 h_1)))
    (ke0 x0 x1 x6 x7 x25 h)
theorem F18_lrlrrrrr_j (j : Nat) : kLoop (kCode env 18 false inv k (cp c18 1012)) j (act 78 [(0, x0), (1, x1), (6, x6), (7, x7)]) h K = F18_lrlrrrrr inv k j x0 x1 x6 x7 h (fun y0 y1 y6 y7 y25 h => K (.exit 0) (act 78 [(0, y0), (1, y1), (6, y6), (7, y7), (25, y25)]) h) (fun y4 h => K .ret (act 78 [(4, y4)]) h) := by
      induction j generalizing x0 x1 x6 x7 h with
      | zero => rfl
      | succ j ih =>
        unfold F18_lrlrrrrr
        simp only [kLoop, kq_seq c18 1012, kq_seq c18 2024, r18_8, b18_rlllrlrrrrr, kq_skip c18 8098, kq_seq c18 2025, kq_block c18 4050 1, kq_seq c18 8100, kq_seq c18 16200, r18_10, b18_rlllrllrlrrrrr, kq_seq c18 64802, r18_11, kq_ret c18 129605, kq_skip c18 64803, kq_seq c18 16201, r18_12, kq_block c18 32403 2, F18_lrrllrllrlrrrrr_eq, r18_9, kq_exit c18 8099 0, ih, reduceIte, reduceCtorEq, XE.exit.injEq, Nat.reduceEqDiff, Nat.reduceMul, Nat.reduceAdd] <;> kernel_rfl
theorem F18_lrlrrrrr_eq  : kCode env 18 false inv k (cp c18 506) (act 78 [(0, x0), (1, x1), (6, x6), (7, x7)]) h K = F18_lrlrrrrr inv k k x0 x1 x6 x7 h (fun y0 y1 y6 y7 y25 h => K (.exit 0) (act 78 [(0, y0), (1, y1), (6, y6), (7, y7), (25, y25)]) h) (fun y4 h => K .ret (act 78 [(4, y4)]) h) := kq_loop (F18_lrlrrrrr_j k)
theorem r18_19  : kCode env 18 false inv k (cp c18 508) (act 78 [(0, x0), (1, x1), (6, x6), (7, x7), (25, x25)]) h K =
    K .normal (act 78 [(1, x1), (6, x6), (10, (.int .i64 0))]) h := kq_reg
theorem r18_20  : kCode env 18 false inv k (cp c18 8144) (act 78 [(1, x1), (6, x6), (10, x10)]) h K =
    bnd (pBin Try.prog .add 3 (.tmp 66) (.const (.int .i64 1)) x10 (.int .i64 1)) fun x67 =>
    bnd (pLen Try.prog #[35] x1 h) fun x69 =>
    bnd (pBin Try.prog .lss 3 (.tmp 67) (.tmp 69) x67 x69) fun x70 =>
    K .normal (act 78 [(1, x1), (6, x6), (10, x10), (70, x70)]) h := kq_reg
theorem b18_rlllrlrrrrrr  : kCode env 18 false inv k (cp c18 8145) (act 78 [(1, x1), (6, x6), (10, x10), (70, x70)]) h K = brV x70 (kCode env 18 false inv k (cp c18 16290) (act 78 [(1, x1), (6, x6), (10, x10), (70, x70)]) h K) (kCode env 18 false inv k (cp c18 16291) (act 78 [(1, x1), (6, x6), (10, x10), (70, x70)]) h K) := kq_cond
theorem r18_22  : kCode env 18 false inv k (cp c18 32584) (act 78 [(1, x1), (6, x6), (10, x10), (70, x70)]) h K =
    bnd (pIndexAddr Try.prog 36 x6 x10) fun x75 =>
    bnd (pLoad Try.prog 3 x75 h) fun x76 =>
    bnd (pBin Try.prog .neq 3 (.tmp 76) (.const (.int .i64 1)) x76 (.int .i64 1)) fun x77 =>
    K .normal (act 78 [(1, x1), (6, x6), (10, x10), (77, x77)]) h := kq_reg
theorem b18_rllrllrlrrrrrr  : kCode env 18 false inv k (cp c18 32585) (act 78 [(1, x1), (6, x6), (10, x10), (77, x77)]) h K = brV x77 (kCode env 18 false inv k (cp c18 65170) (act 78 [(1, x1), (6, x6), (10, x10), (77, x77)]) h K) (kCode env 18 false inv k (cp c18 65171) (act 78 [(1, x1), (6, x6), (10, x10), (77, x77)]) h K) := kq_cond
theorem r18_23  : kCode env 18 false inv k (cp c18 130340) (act 78 [(1, x1), (6, x6), (10, x10), (77, x77)]) h K =
    K .normal (act 78 [(4, (.int .i64 180))]) h := kq_reg
theorem r18_21  : kCode env 18 false inv k (cp c18 8147) (act 78 [(1, x1), (6, x6), (10, x10), (77, x77)]) h K =
    bnd (pBin Try.prog .add 3 (.tmp 71) (.const (.int .i64 1)) x10 (.int .i64 1)) fun x72 =>
    K .normal (act 78 [(1, x1), (6, x6), (10, x72)]) h := kq_reg
noncomputable def F18_lrlrrrrrr {β : Type} (inv : Inv) (k : Nat) : Nat → Value → Value → Value → AH → (Value → Value → Value → Value → AH → Option β) → (Value → AH → Option β) → Option β
  | 0, _, _, _, _, _, _ => none
  | j + 1, x1, x6, x10, h, ke4, kr =>
    bnd (pBin Try.prog .add 3 (.tmp 66) (.const (.int .i64 1)) x10 (.int .i64 1)) fun x67 =>
    bnd (pLen Try.prog #[35] x1 h) fun x69 =>
    bnd (pBin Try.prog .lss 3 (.tmp 67) (.tmp 69) x67 x69) fun x70 =>
    brV x70
    (bnd (pIndexAddr Try.prog 36 x6 x10) fun x75 =>
    bnd (pLoad Try.prog 3 x75 h) fun x76 =>
    bnd (pBin Try.prog .neq 3 (.tmp 76) (.const (.int .i64 1)) x76 (.int .i64 1)) fun x77 =>
    brV x77
    (kr (.int .i64 180) h)
    (bnd (pBin Try.prog .add 3 (.tmp 71) (.const (.int .i64 1)) x10 (.int .i64 1)) fun x72 =>
    F18_lrlrrrrrr inv k j x1 x6 x72 h ke4 kr))
    (ke4 x1 x6 x10 x70 h)
theorem F18_lrlrrrrrr_j (j : Nat) : kLoop (kCode env 18 false inv k (cp c18 2036)) j (act 78 [(1, x1), (6, x6), (10, x10)]) h K = F18_lrlrrrrrr inv k j x1 x6 x10 h (fun y1 y6 y10 y70 h => K (.exit 4) (act 78 [(1, y1), (6, y6), (10, y10), (70, y70)]) h) (fun y4 h => K .ret (act 78 [(4, y4)]) h) := by
      induction j generalizing x1 x6 x10 h with
      | zero => rfl
      | succ j ih =>
        unfold F18_lrlrrrrrr
        simp only [kLoop, kq_seq c18 2036, kq_seq c18 4072, r18_20, b18_rlllrlrrrrrr, kq_skip c18 16290, kq_seq c18 4073, kq_block c18 8146 5, kq_seq c18 16292, r18_22, b18_rllrllrlrrrrrr, kq_seq c18 65170, r18_23, kq_ret c18 130341, kq_skip c18 65171, r18_21, kq_exit c18 16291 4, ih, reduceIte, reduceCtorEq, XE.exit.injEq, Nat.reduceEqDiff, Nat.reduceMul, Nat.reduceAdd] <;> kernel_rfl
theorem F18_lrlrrrrrr_eq  : kCode env 18 false inv k (cp c18 1018) (act 78 [(1, x1), (6, x6), (10, x10)]) h K = F18_lrlrrrrrr inv k k x1 x6 x10 h (fun y1 y6 y10 y70 h => K (.exit 4) (act 78 [(1, y1), (6, y6), (10, y10), (70, y70)]) h) (fun y4 h => K .ret (act 78 [(4, y4)]) h) := kq_loop (F18_lrlrrrrrr_j k)
theorem r18_24  : kCode env 18 false inv k (cp c18 510) (act 78 [(1, x1), (6, x6), (10, x10), (70, x70)]) h K =
    K .normal (act 78 [(4, (.int .i64 0))]) h := kq_reg
/-- shadowbook/shadowbookref18.Check -/
noncomputable def F18 (inv : Inv) (k : Nat) (x0 x1 : Value) (h : AH) : Option (Value × AH) :=
    bnd (inv (.func 43) #[] #[x0] h) fun x12 =>
    bnd (pBin Try.prog .neq 27 (.tmp 13) (.const (.int .i64 0)) x12.1 (.int .i64 0)) fun x14 =>
    brV x14
    (some (x12.1, x12.2))
    (bnd (pLen Try.prog #[35] x1 x12.2) fun x17 =>
    bnd (pBin Try.prog .gtr 3 (.tmp 17) (.const (.int .i64 64)) x17 (.int .i64 64)) fun x18 =>
    brV x18
    (some ((.int .i64 180), x12.2))
    (bnd (pLen Try.prog #[35] x1 x12.2) fun x20 =>
    bnd (pMakeSlice Try.prog 36 x20 x20 x12.2) fun x21 =>
    F18_lrlrrrrr inv k k x0 x1 x21.1 (.int .i64 0) x21.2
    (fun y0 y1 y6 y7 y25 h =>
    F18_lrlrrrrrr inv k k y1 y6 (.int .i64 0) h
    (fun y1_2 y6_3 y10 y70 h_4 =>
    some ((.int .i64 0), h_4))
    (fun y4 h_5 =>
    some (y4, h_5)))
    (fun y4_6 h_7 =>
    some (y4_6, h_7))))
theorem F18_eq : eFun env k inv 18 #[x0, x1] h = F18 inv k x0 x1 h := by
      refine (kq_fun (a := act 78 [(0, x0), (1, x1)]) (c := cp c18 1)).trans ?_
      unfold F18
      simp only [kq_seq c18 1, r18_0, kq_seq c18 3, r18_1, kq_seq c18 7, kq_seq c18 14, r18_2, b18_rlrr, kq_seq c18 58, r18_3, kq_ret c18 117, res18_0, kq_skip c18 59, kq_seq c18 15, kq_seq c18 30, r18_4, b18_rlrrr, kq_seq c18 122, r18_5, kq_ret c18 245, kq_skip c18 123, kq_seq c18 31, r18_6, kq_seq c18 63, kq_seq c18 126, r18_7, kq_block c18 253 0, F18_lrlrrrrr_eq, kq_seq c18 127, kq_seq c18 254, r18_19, kq_block c18 509 4, F18_lrlrrrrrr_eq, kq_seq c18 255, r18_24, kq_ret c18 511, reduceIte, reduceCtorEq, XE.exit.injEq, Nat.reduceEqDiff, Nat.reduceMul, Nat.reduceAdd] <;> kernel_rfl
theorem F18_call : eInv env (k + 1) (.func 18) #[] #[x0, x1] h = F18 (eInv env k) k x0 x1 h := kq_inv F18_eq
noncomputable def c19 : Code := codeOf Try.prog 19
theorem r19_0  : kCode env 19 false inv k (cp c19 2) (act 84 [(0, x0), (1, x1)]) h K =
    K .normal (act 84 [(0, x0), (1, x1)]) h := kq_reg
theorem r19_1  : kCode env 19 false inv k (cp c19 6) (act 84 [(0, x0), (1, x1)]) h K =
    K .normal (act 84 [(0, x0), (1, x1), (5, (.slice none 0 0))]) h := kq_reg
theorem r19_2  : kCode env 19 false inv k (cp c19 14) (act 84 [(0, x0), (1, x1), (5, x5)]) h K =
    bnd (pBuild Try.prog 59 #[(0, x0)]) fun x14 =>
    bnd (pAlloc Try.prog 59 h) fun x6 =>
    bnd (kSt (pStore Try.prog 59 x6.1 x14 x6.2)) fun u =>
    K .normal (act 84 [(1, x1), (5, x5), (6, x6.1)]) u.2 := kq_reg
theorem r19_3  : kCode env 19 false inv k (cp c19 60) (act 84 [(1, x1), (5, x5), (6, x6)]) h K =
    K .normal (act 84 [(1, x1), (5, x5), (6, x6), (7, (.int .i64 0))]) h := kq_reg
theorem r19_4  : kCode env 19 false inv k (cp c19 976) (act 84 [(1, x1), (5, x5), (6, x6), (7, x7)]) h K =
    bnd (pLen Try.prog #[49] x1 h) fun x17 =>
    bnd (pBin Try.prog .lss 3 (.tmp 15) (.tmp 17) x7 x17) fun x18 =>
    K .normal (act 84 [(1, x1), (5, x5), (6, x6), (7, x7), (18, x18)]) h := kq_reg
theorem b19_rlllrlrrr  : kCode env 19 false inv k (cp c19 977) (act 84 [(1, x1), (5, x5), (6, x6), (7, x7), (18, x18)]) h K = brV x18 (kCode env 19 false inv k (cp c19 1954) (act 84 [(1, x1), (5, x5), (6, x6), (7, x7), (18, x18)]) h K) (kCode env 19 false inv k (cp c19 1955) (act 84 [(1, x1), (5, x5), (6, x6), (7, x7), (18, x18)]) h K) := kq_cond
theorem r19_6  : kCode env 19 false inv k (cp c19 3912) (act 84 [(1, x1), (5, x5), (6, x6), (7, x7), (18, x18)]) h K =
    bnd (pLen Try.prog #[35] x5 h) fun x22 =>
    K .normal (act 84 [(1, x1), (5, x5), (6, x6), (7, x7), (8, x22)]) h := kq_reg
theorem r19_7  : kCode env 19 false inv k (cp c19 15652) (act 84 [(1, x1), (5, x5), (6, x6), (7, x7), (8, x8)]) h K =
    bnd (pIndexAddr Try.prog 49 x1 x7) fun x25 =>
    bnd (pLoad Try.prog 35 x25 h) fun x26 =>
    bnd (pLen Try.prog #[35] x26 h) fun x27 =>
    bnd (pBin Try.prog .eql 3 (.tmp 27) (.const (.int .i64 0)) x27 (.int .i64 0)) fun x28 =>
    K .normal (act 84 [(1, x1), (5, x5), (6, x6), (7, x7), (8, x8), (28, x28)]) h := kq_reg
theorem b19_rlrllrllrlrrr  : kCode env 19 false inv k (cp c19 15653) (act 84 [(1, x1), (5, x5), (6, x6), (7, x7), (8, x8), (28, x28)]) h K = brV x28 (kCode env 19 false inv k (cp c19 31306) (act 84 [(1, x1), (5, x5), (6, x6), (7, x7), (8, x8), (28, x28)]) h K) (kCode env 19 false inv k (cp c19 31307) (act 84 [(1, x1), (5, x5), (6, x6), (7, x7), (8, x8), (28, x28)]) h K) := kq_cond
theorem r19_8  : kCode env 19 false inv k (cp c19 31306) (act 84 [(1, x1), (5, x5), (6, x6), (7, x7), (8, x8), (28, x28)]) h K =
    bnd (pBuild Try.prog 59 #[(0, (.int .i64 1))]) fun x30 =>
    bnd (pBuildSlice Try.prog 35 1 #[(0, x30)] h) fun x31 =>
    bnd (pAppend Try.prog #[35, 35] x5 x31.1 x31.2) fun x32 =>
    K .normal (act 84 [(1, x1), (5, x32.1), (6, x6), (7, x7), (8, x8)]) x32.2 := kq_reg
noncomputable def F19_rlrllrllrlrrr {β : Type} (inv : Inv) (k : Nat) (x1 x5 x6 x7 x8 x28 : Value) (h : AH) (kn : (Value → Value → Value → Value → Value → Value → AH → Option β)) : Option β :=
    brV x28
    (bnd (pBuild Try.prog 59 #[(0, (.int .i64 1))]) fun x30 =>
    bnd (pBuildSlice Try.prog 35 1 #[(0, x30)] h) fun x31 =>
    bnd (pAppend Try.prog #[35, 35] x5 x31.1 x31.2) fun x32 =>
    kn x1 x32.1 x6 x7 x8 unk x32.2)
    (kn x1 x5 x6 x7 x8 x28 h)
theorem F19_rlrllrllrlrrr_eq  : kCode env 19 false inv k (cp c19 15653) (act 84 [(1, x1), (5, x5), (6, x6), (7, x7), (8, x8), (28, x28)]) h K = F19_rlrllrllrlrrr inv k x1 x5 x6 x7 x8 x28 h (fun y1 y5 y6 y7 y8 y28 h => K .normal (act 84 [(1, y1), (5, y5), (6, y6), (7, y7), (8, y8), (28, y28)]) h) := by
      unfold F19_rlrllrllrlrrr
      simp only [b19_rlrllrllrlrrr, r19_8, kq_skip c19 31307, reduceIte, reduceCtorEq, XE.exit.injEq, Nat.reduceEqDiff, Nat.reduceMul, Nat.reduceAdd] <;> kernel_rfl
theorem r19_9  : kCode env 19 false inv k (cp c19 31308) (act 84 [(1, x1), (5, x5), (6, x6), (7, x7), (8, x8), (28, x28)]) h K =
    K .normal (act 84 [(1, x1), (5, x5), (6, x6), (7, x7), (8, x8), (9, (.int .i64 0))]) h := kq_reg
theorem r19_10  : kCode env 19 false inv k (cp c19 500944) (act 84 [(1, x1), (5, x5), (6, x6), (7, x7), (8, x8), (9, x9)]) h K =
    bnd (pIndexAddr Try.prog 49 x1 x7) fun x36 =>
    bnd (pLoad Try.prog 35 x36 h) fun x37 =>
    bnd (pLen Try.prog #[35] x37 h) fun x38 =>
    bnd (pBin Try.prog .lss 3 (.tmp 33) (.tmp 38) x9 x38) fun x39 =>
    K .normal (act 84 [(1, x1), (5, x5), (6, x6), (7, x7), (8, x8), (9, x9), (39, x39)]) h := kq_reg
theorem b19_rlllrlrrllrllrlrrr  : kCode env 19 false inv k (cp c19 500945) (act 84 [(1, x1), (5, x5), (6, x6), (7, x7), (8, x8), (9, x9), (39, x39)]) h K = brV x39 (kCode env 19 false inv k (cp c19 1001890) (act 84 [(1, x1), (5, x5), (6, x6), (7, x7), (8, x8), (9, x9), (39, x39)]) h K) (kCode env 19 false inv k (cp c19 1001891) (act 84 [(1, x1), (5, x5), (6, x6), (7, x7), (8, x8), (9, x9), (39, x39)]) h K) := kq_cond
theorem r19_12  : kCode env 19 false inv k (cp c19 2003784) (act 84 [(1, x1), (5, x5), (6, x6), (7, x7), (8, x8), (9, x9), (39, x39)]) h K =
    bnd (pIndexAddr Try.prog 49 x1 x7) fun x44 =>
    bnd (pLoad Try.prog 35 x44 h) fun x45 =>
    bnd (pIndexAddr Try.prog 35 x45 x9) fun x47 =>
    bnd (pLoad Try.prog 59 x47 h) fun x48 =>
    bnd (pAlloc Try.prog 59 h) fun x10 =>
    bnd (kSt (pStore Try.prog 59 x10.1 x48 x10.2)) fun u =>
    K .normal (act 84 [(1, x1), (5, x5), (6, x6), (7, x7), (8, x8), (9, x9), (10, x10.1)]) u.2 := kq_reg
theorem r19_13  : kCode env 19 false inv k (cp c19 4007570) (act 84 [(1, x1), (5, x5), (6, x6), (7, x7), (8, x8), (9, x9), (10, x10)]) h K =
    K .normal (act 84 [(1, x1), (5, x5), (6, x6), (7, x7), (8, x8), (9, x9), (10, x10), (11, (.slice none 0 0))]) h := kq_reg
theorem r19_14  : kCode env 19 false inv k (cp c19 16030284) (act 84 [(1, x1), (5, x5), (6, x6), (7, x7), (8, x8), (9, x9), (10, x10), (11, x11)]) h K =
    K .normal (act 84 [(1, x1), (5, x5), (6, x6), (7, x7), (8, x8), (9, x9), (10, x10), (11, x11), (12, (.int .i64 0))]) h := kq_reg
theorem r19_15  : kCode env 19 false inv k (cp c19 256484560) (act 84 [(1, x1), (5, x5), (6, x6), (7, x7), (8, x8), (9, x9), (10, x10), (11, x11), (12, x12)]) h K =
    bnd (pFieldAddr Try.prog 59 x10 3) fun x50 =>
    bnd (pLoad Try.prog 36 x50 h) fun x51 =>
    bnd (pLen Try.prog #[36] x51 h) fun x52 =>
    bnd (pBin Try.prog .lss 3 (.tmp 49) (.tmp 52) x12 x52) fun x53 =>
    K .normal (act 84 [(1, x1), (5, x5), (6, x6), (7, x7), (8, x8), (9, x9), (10, x10), (11, x11), (12, x12), (53, x53)]) h := kq_reg
theorem b19_rlllrlrrllrllrlrrllrllrlrrr  : kCode env 19 false inv k (cp c19 256484561) (act 84 [(1, x1), (5, x5), (6, x6), (7, x7), (8, x8), (9, x9), (10, x10), (11, x11), (12, x12), (53, x53)]) h K = brV x53 (kCode env 19 false inv k (cp c19 512969122) (act 84 [(1, x1), (5, x5), (6, x6), (7, x7), (8, x8), (9, x9), (10, x10), (11, x11), (12, x12), (53, x53)]) h K) (kCode env 19 false inv k (cp c19 512969123) (act 84 [(1, x1), (5, x5), (6, x6), (7, x7), (8, x8), (9, x9), (10, x10), (11, x11), (12, x12), (53, x53)]) h K) := kq_cond
theorem r19_17  : kCode env 19 false inv k (cp c19 512969124) (act 84 [(1, x1), (5, x5), (6, x6), (7, x7), (8, x8), (9, x9), (10, x10), (11, x11), (12, x12), (53, x53)]) h K =
    bnd (pFieldAddr Try.prog 59 x10 3) fun x57 =>
    bnd (pLoad Try.prog 36 x57 h) fun x58 =>
    bnd (pIndexAddr Try.prog 36 x58 x12) fun x60 =>
    bnd (pLoad Try.prog 3 x60 h) fun x61 =>
    bnd (pBin Try.prog .add 3 (.tmp 61) (.tmp 62) x61 x8) fun x63 =>
    bnd (pBuildSlice Try.prog 36 1 #[(0, x63)] h) fun x64 =>
    bnd (pAppend Try.prog #[36, 36] x11 x64.1 x64.2) fun x65 =>
    K .normal (act 84 [(1, x1), (5, x5), (6, x6), (7, x7), (8, x8), (9, x9), (10, x10), (11, x65.1), (12, x12)]) x65.2 := kq_reg
theorem r19_16  : kCode env 19 false inv k (cp c19 256484563) (act 84 [(1, x1), (5, x5), (6, x6), (7, x7), (8, x8), (9, x9), (10, x10), (11, x11), (12, x12)]) h K =
    bnd (pBin Try.prog .add 3 (.tmp 54) (.const (.int .i64 1)) x12 (.int .i64 1)) fun x55 =>
    K .normal (act 84 [(1, x1), (5, x5), (6, x6), (7, x7), (8, x8), (9, x9), (10, x10), (11, x11), (12, x55)]) h := kq_reg
noncomputable def F19_lrlrrllrllrlrrllrllrlrrr {β : Type} (inv : Inv) (k : Nat) : Nat → Value → Value → Value → Value → Value → Value → Value → Value → Value → AH → (Value → Value → Value → Value → Value → Value → Value → Value → Value → Value → AH → Option β) → Option β
  | 0, _, _, _, _, _, _, _, _, _, _, _ => none
  | j + 1, x1, x5, x6, x7, x8, x9, x10, x11, x12, h, ke4 =>
    bnd (pFieldAddr Try.prog 59 x10 3) fun x50 =>
    bnd (pLoad Try.prog 36 x50 h) fun x51 =>
    bnd (pLen Try.prog #[36] x51 h) fun x52 =>
    bnd (pBin Try.prog .lss 3 (.tmp 49) (.tmp 52) x12 x52) fun x53 =>
    brV x53
    (bnd (pFieldAddr Try.prog 59 x10 3) fun x57 =>
    bnd (pLoad Try.prog 36 x57 h) fun x58 =>
    bnd (pIndexAddr Try.prog 36 x58 x12) fun x60 =>
    bnd (pLoad Try.prog 3 x60 h) fun x61 =>
    bnd (pBin Try.prog .add 3 (.tmp 61) (.tmp 62) x61 x8) fun x63 =>
    bnd (pBuildSlice Try.prog 36 1 #[(0, x63)] h) fun x64 =>
    bnd (pAppend Try.prog #[36, 36] x11 x64.1 x64.2) fun x65 =>
    bnd (pBin Try.prog .add 3 (.tmp 54) (.const (.int .i64 1)) x12 (.int .i64 1)) fun x55 =>
    F19_lrlrrllrllrlrrllrllrlrrr inv k j x1 x5 x6 x7 x8 x9 x10 x65.1 x55 x65.2 ke4)
    (ke4 x1 x5 x6 x7 x8 x9 x10 x11 x12 x53 h)
theorem F19_lrlrrllrllrlrrllrllrlrrr_j (j : Nat) : kLoop (kCode env 19 false inv k (cp c19 64121140)) j (act 84 [(1, x1), (5, x5), (6, x6), (7, x7), (8, x8), (9, x9), (10, x10), (11, x11), (12, x12)]) h K = F19_lrlrrllrllrlrrllrllrlrrr inv k j x1 x5 x6 x7 x8 x9 x10 x11 x12 h (fun y1 y5 y6 y7 y8 y9 y10 y11 y12 y53 h => K (.exit 4) (act 84 [(1, y1), (5, y5), (6, y6), (7, y7), (8, y8), (9, y9), (10, y10), (11, y11), (12, y12), (53, y53)]) h) := by
      induction j generalizing x1 x5 x6 x7 x8 x9 x10 x11 x12 h with
      | zero => rfl
      | succ j ih =>
        unfold F19_lrlrrllrllrlrrllrllrlrrr
        simp only [kLoop, kq_seq c19 64121140, kq_seq c19 128242280, r19_15, b19_rlllrlrrllrllrlrrllrllrlrrr, kq_skip c19 512969122, kq_seq c19 128242281, kq_block c19 256484562 5, r19_17, r19_16, kq_exit c19 512969123 4, ih, reduceIte, reduceCtorEq, XE.exit.injEq, Nat.reduceEqDiff, Nat.reduceMul, Nat.reduceAdd] <;> kernel_rfl
theorem F19_lrlrrllrllrlrrllrllrlrrr_eq  : kCode env 19 false inv k (cp c19 32060570) (act 84 [(1, x1), (5, x5), (6, x6), (7, x7), (8, x8), (9, x9), (10, x10), (11, x11), (12, x12)]) h K = F19_lrlrrllrllrlrrllrllrlrrr inv k k x1 x5 x6 x7 x8 x9 x10 x11 x12 h (fun y1 y5 y6 y7 y8 y9 y10 y11 y12 y53 h => K (.exit 4) (act 84 [(1, y1), (5, y5), (6, y6), (7, y7), (8, y8), (9, y9), (10, y10), (11, y11), (12, y12), (53, y53)]) h) := kq_loop (F19_lrlrrllrllrlrrllrllrlrrr_j k)
theorem r19_18  : kCode env 19 false inv k (cp c19 16030286) (act 84 [(1, x1), (5, x5), (6, x6), (7, x7), (8, x8), (9, x9), (10, x10), (11, x11), (12, x12), (53, x53)]) h K =
    bnd (pFieldAddr Try.prog 59 x10 3) fun x67 =>
    bnd (kSt (pStore Try.prog 36 x67 x11 h)) fun u =>
    K .normal (act 84 [(1, x1), (5, x5), (6, x6), (7, x7), (8, x8), (9, x9), (10, x10)]) u.2 := kq_reg
theorem r19_19  : kCode env 19 false inv k (cp c19 16030287) (act 84 [(1, x1), (5, x5), (6, x6), (7, x7), (8, x8), (9, x9), (10, x10)]) h K =
    bnd (pLoad Try.prog 59 x10 h) fun x69 =>
    bnd (pBuildSlice Try.prog 35 1 #[(0, x69)] h) fun x70 =>
    bnd (pAppend Try.prog #[35, 35] x5 x70.1 x70.2) fun x71 =>
    K .normal (act 84 [(1, x1), (5, x71.1), (6, x6), (7, x7), (8, x8), (9, x9)]) x71.2 := kq_reg
theorem r19_11  : kCode env 19 false inv k (cp c19 500947) (act 84 [(1, x1), (5, x5), (6, x6), (7, x7), (8, x8), (9, x9)]) h K =
    bnd (pBin Try.prog .add 3 (.tmp 40) (.const (.int .i64 1)) x9 (.int .i64 1)) fun x41 =>
    K .normal (act 84 [(1, x1), (5, x5), (6, x6), (7, x7), (8, x8), (9, x41)]) h := kq_reg
noncomputable def F19_lrlrrllrllrlrrr {β : Type} (inv : Inv) (k : Nat) : Nat → Value → Value → Value → Value → Value → Value → AH → (Value → Value → Value → Value → Value → Value → Value → AH → Option β) → Option β
  | 0, _, _, _, _, _, _, _, _ => none
  | j + 1, x1, x5, x6, x7, x8, x9, h, ke2 =>
    bnd (pIndexAddr Try.prog 49 x1 x7) fun x36 =>
    bnd (pLoad Try.prog 35 x36 h) fun x37 =>
    bnd (pLen Try.prog #[35] x37 h) fun x38 =>
    bnd (pBin Try.prog .lss 3 (.tmp 33) (.tmp 38) x9 x38) fun x39 =>
    brV x39
    (bnd (pIndexAddr Try.prog 49 x1 x7) fun x44 =>
    bnd (pLoad Try.prog 35 x44 h) fun x45 =>
    bnd (pIndexAddr Try.prog 35 x45 x9) fun x47 =>
    bnd (pLoad Try.prog 59 x47 h) fun x48 =>
    bnd (pAlloc Try.prog 59 h) fun x10 =>
    bnd (kSt (pStore Try.prog 59 x10.1 x48 x10.2)) fun u =>
    F19_lrlrrllrllrlrrllrllrlrrr inv k k x1 x5 x6 x7 x8 x9 x10.1 (.slice none 0 0) (.int .i64 0) u.2
    (fun y1 y5 y6 y7 y8 y9 y10 y11 y12 y53 h =>
    bnd (pFieldAddr Try.prog 59 y10 3) fun x67 =>
    bnd (kSt (pStore Try.prog 36 x67 y11 h)) fun u_1 =>
    bnd (pLoad Try.prog 59 y10 u_1.2) fun x69 =>
    bnd (pBuildSlice Try.prog 35 1 #[(0, x69)] u_1.2) fun x70 =>
    bnd (pAppend Try.prog #[35, 35] y5 x70.1 x70.2) fun x71 =>
    bnd (pBin Try.prog .add 3 (.tmp 40) (.const (.int .i64 1)) y9 (.int .i64 1)) fun x41 =>
    F19_lrlrrllrllrlrrr inv k j y1 x71.1 y6 y7 y8 x41 x71.2 ke2))
    (ke2 x1 x5 x6 x7 x8 x9 x39 h)
theorem F19_lrlrrllrllrlrrr_j (j : Nat) : kLoop (kCode env 19 false inv k (cp c19 125236)) j (act 84 [(1, x1), (5, x5), (6, x6), (7, x7), (8, x8), (9, x9)]) h K = F19_lrlrrllrllrlrrr inv k j x1 x5 x6 x7 x8 x9 h (fun y1 y5 y6 y7 y8 y9 y39 h => K (.exit 2) (act 84 [(1, y1), (5, y5), (6, y6), (7, y7), (8, y8), (9, y9), (39, y39)]) h) := by
      induction j generalizing x1 x5 x6 x7 x8 x9 h with
      | zero => rfl
      | succ j ih =>
        unfold F19_lrlrrllrllrlrrr
        simp only [kLoop, kq_seq c19 125236, kq_seq c19 250472, r19_10, b19_rlllrlrrllrllrlrrr, kq_skip c19 1001890, kq_seq c19 250473, kq_block c19 500946 3, kq_seq c19 1001892, r19_12, kq_seq c19 2003785, r19_13, kq_seq c19 4007571, kq_seq c19 8015142, r19_14, kq_block c19 16030285 4, F19_lrlrrllrllrlrrllrllrlrrr_eq, kq_seq c19 8015143, r19_18, r19_19, r19_11, kq_exit c19 1001891 2, ih, reduceIte, reduceCtorEq, XE.exit.injEq, Nat.reduceEqDiff, Nat.reduceMul, Nat.reduceAdd] <;> kernel_rfl
theorem F19_lrlrrllrllrlrrr_eq  : kCode env 19 false inv k (cp c19 62618) (act 84 [(1, x1), (5, x5), (6, x6), (7, x7), (8, x8), (9, x9)]) h K = F19_lrlrrllrllrlrrr inv k k x1 x5 x6 x7 x8 x9 h (fun y1 y5 y6 y7 y8 y9 y39 h => K (.exit 2) (act 84 [(1, y1), (5, y5), (6, y6), (7, y7), (8, y8), (9, y9), (39, y39)]) h) := kq_loop (F19_lrlrrllrllrlrrr_j k)
noncomputable abbrev G19_20 {β : Type} (inv : Inv) (x1 x5 x6 x7 : Value) (h : AH) (K : AH → Option β) : Option β :=
    bnd (pFieldAddr Try.prog 59 x6 3) fun x72 =>
    bnd (pLoad Try.prog 36 x72 h) fun x73 =>
    bnd (pLen Try.prog #[35] x5 h) fun x75 =>
    bnd (pBin Try.prog .sub 3 (.tmp 75) (.const (.int .i64 1)) x75 (.int .i64 1)) fun x76 =>
    bnd (pBuildSlice Try.prog 36 1 #[(0, x76)] h) fun x77 =>
    bnd (pAppend Try.prog #[36, 36] x73 x77.1 x77.2) fun x78 =>
    bnd (pFieldAddr Try.prog 59 x6 3) fun x79 =>
    bnd (kSt (pStore Try.prog 36 x79 x78.1 x78.2)) fun u =>
    K u.2
theorem r19_20  : kCode env 19 false inv k (cp c19 15655) (act 84 [(1, x1), (5, x5), (6, x6), (7, x7), (8, x8), (9, x9), (39, x39)]) h K =
    G19_20 inv x1 x5 x6 x7 h fun  h => K .normal (act 84 [(1, x1), (5, x5), (6, x6), (7, x7)]) h := kq_reg
theorem r19_5  : kCode env 19 false inv k (cp c19 979) (act 84 [(1, x1), (5, x5), (6, x6), (7, x7)]) h K =
    bnd (pBin Try.prog .add 3 (.tmp 19) (.const (.int .i64 1)) x7 (.int .i64 1)) fun x20 =>
    K .normal (act 84 [(1, x1), (5, x5), (6, x6), (7, x20)]) h := kq_reg
noncomputable def F19_lrlrrr {β : Type} (inv : Inv) (k : Nat) : Nat → Value → Value → Value → Value → AH → (Value → Value → Value → Value → Value → AH → Option β) → Option β
  | 0, _, _, _, _, _, _ => none
  | j + 1, x1, x5, x6, x7, h, ke0 =>
    bnd (pLen Try.prog #[49] x1 h) fun x17 =>
    bnd (pBin Try.prog .lss 3 (.tmp 15) (.tmp 17) x7 x17) fun x18 =>
    brV x18
    (bnd (pLen Try.prog #[35] x5 h) fun x22 =>
    bnd (pIndexAddr Try.prog 49 x1 x7) fun x25 =>
    bnd (pLoad Try.prog 35 x25 h) fun x26 =>
    bnd (pLen Try.prog #[35] x26 h) fun x27 =>
    bnd (pBin Try.prog .eql 3 (.tmp 27) (.const (.int .i64 0)) x27 (.int .i64 0)) fun x28 =>
    F19_rlrllrllrlrrr inv k x1 x5 x6 x7 x22 x28 h
    (fun y1 y5 y6 y7 y8 y28 h =>
    F19_lrlrrllrllrlrrr inv k k y1 y5 y6 y7 y8 (.int .i64 0) h
    (fun y1_2 y5_3 y6_4 y7_5 y8_6 y9 y39 h_7 =>
    G19_20 inv y1_2 y5_3 y6_4 y7_5 h_7 fun  h_8 =>
    bnd (pBin Try.prog .add 3 (.tmp 19) (.const (.int .i64 1)) y7_5 (.int .i64 1)) fun x20 =>
    F19_lrlrrr inv k j y1_2 y5_3 y6_4 x20 h_8 ke0)))
    (ke0 x1 x5 x6 x7 x18 h)
theorem F19_lrlrrr_j (j : Nat) : kLoop (kCode env 19 false inv k (cp c19 244)) j (act 84 [(1, x1), (5, x5), (6, x6), (7, x7)]) h K = F19_lrlrrr inv k j x1 x5 x6 x7 h (fun y1 y5 y6 y7 y18 h => K (.exit 0) (act 84 [(1, y1), (5, y5), (6, y6), (7, y7), (18, y18)]) h) := by
      induction j generalizing x1 x5 x6 x7 h with
      | zero => rfl
      | succ j ih =>
        unfold F19_lrlrrr
        simp only [kLoop, kq_seq c19 244, kq_seq c19 488, r19_4, b19_rlllrlrrr, kq_skip c19 1954, kq_seq c19 489, kq_block c19 978 1, kq_seq c19 1956, r19_6, kq_seq c19 3913, kq_seq c19 7826, r19_7, F19_rlrllrllrlrrr_eq, kq_seq c19 7827, kq_seq c19 15654, r19_9, kq_block c19 31309 2, F19_lrlrrllrllrlrrr_eq, r19_20, r19_5, kq_exit c19 1955 0, ih, reduceIte, reduceCtorEq, XE.exit.injEq, Nat.reduceEqDiff, Nat.reduceMul, Nat.reduceAdd] <;> kernel_rfl
theorem F19_lrlrrr_eq  : kCode env 19 false inv k (cp c19 122) (act 84 [(1, x1), (5, x5), (6, x6), (7, x7)]) h K = F19_lrlrrr inv k k x1 x5 x6 x7 h (fun y1 y5 y6 y7 y18 h => K (.exit 0) (act 84 [(1, y1), (5, y5), (6, y6), (7, y7), (18, y18)]) h) := kq_loop (F19_lrlrrr_j k)
theorem r19_21  : kCode env 19 false inv k (cp c19 62) (act 84 [(1, x1), (5, x5), (6, x6), (7, x7), (18, x18)]) h K =
    bnd (pLoad Try.prog 59 x6 h) fun x81 =>
    bnd (pBuildSlice Try.prog 35 1 #[(0, x81)] h) fun x82 =>
    bnd (pAppend Try.prog #[35, 35] x5 x82.1 x82.2) fun x83 =>
    K .normal (act 84 [(4, x83.1)]) x83.2 := kq_reg
theorem res19_0 : resOfFn env.P 19 .ret (act 84 [(4, x4)]) h = some (x4, h) := kq_res
/-- shadowbook/shadowbookref18.Join -/
noncomputable def F19 (inv : Inv) (k : Nat) (x0 x1 : Value) (h : AH) : Option (Value × AH) :=
    bnd (pBuild Try.prog 59 #[(0, x0)]) fun x14 =>
    bnd (pAlloc Try.prog 59 h) fun x6 =>
    bnd (kSt (pStore Try.prog 59 x6.1 x14 x6.2)) fun u =>
    F19_lrlrrr inv k k x1 (.slice none 0 0) x6.1 (.int .i64 0) u.2
    (fun y1 y5 y6 y7 y18 h =>
    bnd (pLoad Try.prog 59 y6 h) fun x81 =>
    bnd (pBuildSlice Try.prog 35 1 #[(0, x81)] h) fun x82 =>
    bnd (pAppend Try.prog #[35, 35] y5 x82.1 x82.2) fun x83 =>
    some (x83.1, x83.2))
theorem F19_eq : eFun env k inv 19 #[x0, x1] h = F19 inv k x0 x1 h := by
      refine (kq_fun (a := act 84 [(0, x0), (1, x1)]) (c := cp c19 1)).trans ?_
      unfold F19
      simp only [kq_seq c19 1, r19_0, kq_seq c19 3, r19_1, kq_seq c19 7, r19_2, kq_seq c19 15, kq_seq c19 30, r19_3, kq_block c19 61 0, F19_lrlrrr_eq, kq_seq c19 31, r19_21, kq_ret c19 63, res19_0, reduceIte, reduceCtorEq, XE.exit.injEq, Nat.reduceEqDiff, Nat.reduceMul, Nat.reduceAdd] <;> kernel_rfl
theorem F19_call : eInv env (k + 1) (.func 19) #[] #[x0, x1] h = F19 (eInv env k) k x0 x1 h := kq_inv F19_eq
noncomputable def c20 : Code := codeOf Try.prog 20
theorem r20_0  : kCode env 20 false inv k (cp c20 2) (act 8 [(0, x0), (1, x1)]) h K =
    K .normal (act 8 [(0, x0), (1, x1)]) h := kq_reg
theorem r20_1  : kCode env 20 false inv k (cp c20 6) (act 8 [(0, x0), (1, x1)]) h K =
    bnd (inv (.func 45) #[] #[x0, x1, (.func (.func 46) #[] #[])] h) fun x7 =>
    K .normal (act 8 [(4, x7.1)]) x7.2 := kq_reg
theorem res20_0 : resOfFn env.P 20 .ret (act 8 [(4, x4)]) h = some (x4, h) := kq_res
/-- shadowbook/batch.Same -/
noncomputable def F20 (inv : Inv) (k : Nat) (x0 x1 : Value) (h : AH) : Option (Value × AH) :=
    bnd (inv (.func 45) #[] #[x0, x1, (.func (.func 46) #[] #[])] h) fun x7 =>
    some (x7.1, x7.2)
theorem F20_eq : eFun env k inv 20 #[x0, x1] h = F20 inv k x0 x1 h := by
      refine (kq_fun (a := act 8 [(0, x0), (1, x1)]) (c := cp c20 1)).trans ?_
      unfold F20
      simp only [kq_seq c20 1, r20_0, kq_seq c20 3, r20_1, kq_ret c20 7, res20_0, reduceIte, reduceCtorEq, XE.exit.injEq, Nat.reduceEqDiff, Nat.reduceMul, Nat.reduceAdd] <;> kernel_rfl
theorem F20_call : eInv env (k + 1) (.func 20) #[] #[x0, x1] h = F20 (eInv env k) k x0 x1 h := kq_inv F20_eq
noncomputable def c27 : Code := codeOf Try.prog 27
theorem r27_0  : kCode env 27 false inv k (cp c27 2) (act 19 [(0, x0)]) h K =
    K .normal (act 19 [(0, x0)]) h := kq_reg
theorem r27_1  : kCode env 27 false inv k (cp c27 6) (act 19 [(0, x0)]) h K =
    K .normal (act 19 [(0, x0), (3, (.slice none 0 0))]) h := kq_reg
theorem r27_2  : kCode env 27 false inv k (cp c27 28) (act 19 [(0, x0), (3, x3)]) h K =
    bnd (pLen Try.prog #[23] x0 h) fun x7 =>
    K .normal (act 19 [(3, x3), (6, x0), (7, x7), (8, (.int .i64 0))]) h := kq_reg
theorem r27_3  : kCode env 27 false inv k (cp c27 232) (act 19 [(3, x3), (6, x6), (7, x7), (8, x8)]) h K =
    bnd (pBin Try.prog .lss 3 (.tmp 8) (.tmp 7) x8 x7) fun x9 =>
    K .normal (act 19 [(3, x3), (6, x6), (7, x7), (8, x8), (9, x9)]) h := kq_reg
theorem b27_lrllrlrr  : kCode env 27 false inv k (cp c27 466) (act 19 [(3, x3), (6, x6), (7, x7), (8, x8), (9, x9)]) h K = brV x9 (kCode env 27 false inv k (cp c27 932) (act 19 [(3, x3), (6, x6), (7, x7), (8, x8), (9, x9)]) h K) (kCode env 27 false inv k (cp c27 933) (act 19 [(3, x3), (6, x6), (7, x7), (8, x8), (9, x9)]) h K) := kq_cond
theorem r27_4  : kCode env 27 false inv k (cp c27 3736) (act 19 [(3, x3), (6, x6), (7, x7), (8, x8), (9, x9)]) h K =
    bnd (pIndexAddr Try.prog 23 x6 x8) fun x10 =>
    bnd (pLoad Try.prog 37 x10 h) fun x11 =>
    K .normal (act 19 [(3, x3), (5, x11), (6, x6), (7, x7), (8, x8)]) h := kq_reg
theorem r27_5  : kCode env 27 false inv k (cp c27 3737) (act 19 [(3, x3), (5, x5), (6, x6), (7, x7), (8, x8)]) h K =
    bnd (inv (.func 49) #[] #[x5] h) fun x14 =>
    bnd (pBuildSlice Try.prog 23 1 #[(0, x14.1)] x14.2) fun x15 =>
    bnd (pAppend Try.prog #[23, 23] x3 x15.1 x15.2) fun x16 =>
    K .normal (act 19 [(3, x16.1), (6, x6), (7, x7), (8, x8)]) x16.2 := kq_reg
theorem r27_6  : kCode env 27 false inv k (cp c27 935) (act 19 [(3, x3), (6, x6), (7, x7), (8, x8)]) h K =
    bnd (pBin Try.prog .add 3 (.tmp 8) (.const (.int .i64 1)) x8 (.int .i64 1)) fun x17 =>
    K .normal (act 19 [(3, x3), (6, x6), (7, x7), (8, x17)]) h := kq_reg
noncomputable def F27_lrlrr {β : Type} (inv : Inv) (k : Nat) : Nat → Value → Value → Value → Value → AH → (Value → Value → Value → Value → Value → AH → Option β) → Option β
  | 0, _, _, _, _, _, _ => none
  | j + 1, x3, x6, x7, x8, h, ke0 =>
    bnd (pBin Try.prog .lss 3 (.tmp 8) (.tmp 7) x8 x7) fun x9 =>
    brV x9
    (bnd (pIndexAddr Try.prog 23 x6 x8) fun x10 =>
    bnd (pLoad Try.prog 37 x10 h) fun x11 =>
    bnd (inv (.func 49) #[] #[x11] h) fun x14 =>
    bnd (pBuildSlice Try.prog 23 1 #[(0, x14.1)] x14.2) fun x15 =>
    bnd (pAppend Try.prog #[23, 23] x3 x15.1 x15.2) fun x16 =>
    bnd (pBin Try.prog .add 3 (.tmp 8) (.const (.int .i64 1)) x8 (.int .i64 1)) fun x17 =>
    F27_lrlrr inv k j x16.1 x6 x7 x17 x16.2 ke0)
    (ke0 x3 x6 x7 x8 x9 h)
theorem F27_lrlrr_j (j : Nat) : kLoop (kCode env 27 false inv k (cp c27 116)) j (act 19 [(3, x3), (6, x6), (7, x7), (8, x8)]) h K = F27_lrlrr inv k j x3 x6 x7 x8 h (fun y3 y6 y7 y8 y9 h => K (.exit 0) (act 19 [(3, y3), (6, y6), (7, y7), (8, y8), (9, y9)]) h) := by
      induction j generalizing x3 x6 x7 x8 h with
      | zero => rfl
      | succ j ih =>
        unfold F27_lrlrr
        simp only [kLoop, kq_seq c27 116, r27_3, kq_seq c27 233, b27_lrllrlrr, kq_skip c27 932, kq_seq c27 467, kq_block c27 934 1, kq_seq c27 1868, r27_4, r27_5, r27_6, kq_exit c27 933 0, ih, reduceIte, reduceCtorEq, XE.exit.injEq, Nat.reduceEqDiff, Nat.reduceMul, Nat.reduceAdd] <;> kernel_rfl
theorem F27_lrlrr_eq  : kCode env 27 false inv k (cp c27 58) (act 19 [(3, x3), (6, x6), (7, x7), (8, x8)]) h K = F27_lrlrr inv k k x3 x6 x7 x8 h (fun y3 y6 y7 y8 y9 h => K (.exit 0) (act 19 [(3, y3), (6, y6), (7, y7), (8, y8), (9, y9)]) h) := kq_loop (F27_lrlrr_j k)
theorem r27_7  : kCode env 27 false inv k (cp c27 30) (act 19 [(3, x3), (6, x6), (7, x7), (8, x8), (9, x9)]) h K =
    K .normal (act 19 [(2, x3)]) h := kq_reg
theorem res27_0 : resOfFn env.P 27 .ret (act 19 [(2, x2)]) h = some (x2, h) := kq_res
/-- shadowbook/batch.Copy -/
noncomputable def F27 (inv : Inv) (k : Nat) (x0 : Value) (h : AH) : Option (Value × AH) :=
    bnd (pLen Try.prog #[23] x0 h) fun x7 =>
    F27_lrlrr inv k k (.slice none 0 0) x0 x7 (.int .i64 0) h
    (fun y3 y6 y7 y8 y9 h =>
    some (y3, h))
theorem F27_eq : eFun env k inv 27 #[x0] h = F27 inv k x0 h := by
      refine (kq_fun (a := act 19 [(0, x0)]) (c := cp c27 1)).trans ?_
      unfold F27
      simp only [kq_seq c27 1, r27_0, kq_seq c27 3, r27_1, kq_seq c27 7, kq_seq c27 14, r27_2, kq_block c27 29 0, F27_lrlrr_eq, kq_seq c27 15, r27_7, kq_ret c27 31, res27_0, reduceIte, reduceCtorEq, XE.exit.injEq, Nat.reduceEqDiff, Nat.reduceMul, Nat.reduceAdd] <;> kernel_rfl
theorem F27_call : eInv env (k + 1) (.func 27) #[] #[x0] h = F27 (eInv env k) k x0 h := kq_inv F27_eq
noncomputable def c30 : Code := codeOf Try.prog 30
theorem r30_0  : kCode env 30 false inv k (cp c30 2) (act 20 [(0, x0)]) h K =
    K .normal (act 20 [(0, x0)]) h := kq_reg
theorem r30_1  : kCode env 30 false inv k (cp c30 12) (act 20 [(0, x0)]) h K =
    K .normal (act 20 [(0, x0), (3, (.int .i64 0))]) h := kq_reg
theorem r30_2  : kCode env 30 false inv k (cp c30 208) (act 20 [(0, x0), (3, x3)]) h K =
    bnd (pLen Try.prog #[22] x0 h) fun x6 =>
    bnd (pBin Try.prog .lss 3 (.tmp 4) (.tmp 6) x3 x6) fun x7 =>
    K .normal (act 20 [(0, x0), (3, x3), (7, x7)]) h := kq_reg
theorem b30_rlllrlr  : kCode env 30 false inv k (cp c30 209) (act 20 [(0, x0), (3, x3), (7, x7)]) h K = brV x7 (kCode env 30 false inv k (cp c30 418) (act 20 [(0, x0), (3, x3), (7, x7)]) h K) (kCode env 30 false inv k (cp c30 419) (act 20 [(0, x0), (3, x3), (7, x7)]) h K) := kq_cond
theorem r30_4  : kCode env 30 false inv k (cp c30 840) (act 20 [(0, x0), (3, x3), (7, x7)]) h K =
    bnd (pIndexAddr Try.prog 22 x0 x3) fun x12 =>
    bnd (pFieldAddr Try.prog 80 x12 0) fun x13 =>
    bnd (pLoad Try.prog 9 x13 h) fun x14 =>
    bnd (pLen Try.prog #[9] x14 h) fun x15 =>
    bnd (pBin Try.prog .gtr 3 (.tmp 15) (.const (.int .i64 60)) x15 (.int .i64 60)) fun x16 =>
    K .normal (act 20 [(0, x0), (3, x3), (16, x16)]) h := kq_reg
theorem b30_rllrllrlr  : kCode env 30 false inv k (cp c30 841) (act 20 [(0, x0), (3, x3), (16, x16)]) h K = brV x16 (kCode env 30 false inv k (cp c30 1682) (act 20 [(0, x0), (3, x3), (16, x16)]) h K) (kCode env 30 false inv k (cp c30 1683) (act 20 [(0, x0), (3, x3), (16, x16)]) h K) := kq_cond
theorem r30_5  : kCode env 30 false inv k (cp c30 3364) (act 20 [(0, x0), (3, x3), (16, x16)]) h K =
    K .normal (act 20 [(2, (.bool false))]) h := kq_reg
theorem r30_3  : kCode env 30 false inv k (cp c30 211) (act 20 [(0, x0), (3, x3), (16, x16)]) h K =
    bnd (pBin Try.prog .add 3 (.tmp 8) (.const (.int .i64 1)) x3 (.int .i64 1)) fun x9 =>
    K .normal (act 20 [(0, x0), (3, x9)]) h := kq_reg
noncomputable def F30_lrlr {β : Type} (inv : Inv) (k : Nat) : Nat → Value → Value → AH → (Value → Value → Value → AH → Option β) → (Value → AH → Option β) → Option β
  | 0, _, _, _, _, _ => none
  | j + 1, x0, x3, h, ke0, kr =>
    bnd (pLen Try.prog #[22] x0 h) fun x6 =>
    bnd (pBin Try.prog .lss 3 (.tmp 4) (.tmp 6) x3 x6) fun x7 =>
    brV x7
    (bnd (pIndexAddr Try.prog 22 x0 x3) fun x12 =>
    bnd (pFieldAddr Try.prog 80 x12 0) fun x13 =>
    bnd (pLoad Try.prog 9 x13 h) fun x14 =>
    bnd (pLen Try.prog #[9] x14 h) fun x15 =>
    bnd (pBin Try.prog .gtr 3 (.tmp 15) (.const (.int .i64 60)) x15 (.int .i64 60)) fun x16 =>
    brV x16
    (kr (.bool false) h)
    (bnd (pBin Try.prog .add 3 (.tmp 8) (.const (.int .i64 1)) x3 (.int .i64 1)) fun x9 =>
    F30_lrlr inv k j x0 x9 h ke0 kr))
    (ke0 x0 x3 x7 h)
theorem F30_lrlr_j (j : Nat) : kLoop (kCode env 30 false inv k (cp c30 52)) j (act 20 [(0, x0), (3, x3)]) h K = F30_lrlr inv k j x0 x3 h (fun y0 y3 y7 h => K (.exit 0) (act 20 [(0, y0), (3, y3), (7, y7)]) h) (fun y2 h => K .ret (act 20 [(2, y2)]) h) := by
      induction j generalizing x0 x3 h with
      | zero => rfl
      | succ j ih =>
        unfold F30_lrlr
        simp only [kLoop, kq_seq c30 52, kq_seq c30 104, r30_2, b30_rlllrlr, kq_skip c30 418, kq_seq c30 105, kq_block c30 210 1, kq_seq c30 420, r30_4, b30_rllrllrlr, kq_seq c30 1682, r30_5, kq_ret c30 3365, kq_skip c30 1683, r30_3, kq_exit c30 419 0, ih, reduceIte, reduceCtorEq, XE.exit.injEq, Nat.reduceEqDiff, Nat.reduceMul, Nat.reduceAdd] <;> kernel_rfl
theorem F30_lrlr_eq  : kCode env 30 false inv k (cp c30 26) (act 20 [(0, x0), (3, x3)]) h K = F30_lrlr inv k k x0 x3 h (fun y0 y3 y7 h => K (.exit 0) (act 20 [(0, y0), (3, y3), (7, y7)]) h) (fun y2 h => K .ret (act 20 [(2, y2)]) h) := kq_loop (F30_lrlr_j k)
theorem r30_6  : kCode env 30 false inv k (cp c30 14) (act 20 [(0, x0), (3, x3), (7, x7)]) h K =
    bnd (pLen Try.prog #[22] x0 h) fun x18 =>
    bnd (pBin Try.prog .leq 3 (.tmp 18) (.const (.int .i64 20)) x18 (.int .i64 20)) fun x19 =>
    K .normal (act 20 [(2, x19)]) h := kq_reg
theorem res30_0 : resOfFn env.P 30 .ret (act 20 [(2, x2)]) h = some (x2, h) := kq_res
/-- shadowbook/shadowbookkit.LightCols -/
noncomputable def F30 (inv : Inv) (k : Nat) (x0 : Value) (h : AH) : Option (Value × AH) :=
    F30_lrlr inv k k x0 (.int .i64 0) h
    (fun y0 y3 y7 h =>
    bnd (pLen Try.prog #[22] y0 h) fun x18 =>
    bnd (pBin Try.prog .leq 3 (.tmp 18) (.const (.int .i64 20)) x18 (.int .i64 20)) fun x19 =>
    some (x19, h))
    (fun y2 h_1 =>
    some (y2, h_1))
theorem F30_eq : eFun env k inv 30 #[x0] h = F30 inv k x0 h := by
      refine (kq_fun (a := act 20 [(0, x0)]) (c := cp c30 1)).trans ?_
      unfold F30
      simp only [kq_seq c30 1, r30_0, kq_seq c30 3, kq_seq c30 6, r30_1, kq_block c30 13 0, F30_lrlr_eq, kq_seq c30 7, r30_6, kq_ret c30 15, res30_0, reduceIte, reduceCtorEq, XE.exit.injEq, Nat.reduceEqDiff, Nat.reduceMul, Nat.reduceAdd] <;> kernel_rfl
theorem F30_call : eInv env (k + 1) (.func 30) #[] #[x0] h = F30 (eInv env k) k x0 h := kq_inv F30_eq
noncomputable def c31 : Code := codeOf Try.prog 31
theorem r31_0  : kCode env 31 false inv k (cp c31 2) (act 22 [(0, x0), (1, x1)]) h K =
    K .normal (act 22 [(0, x0), (1, x1)]) h := kq_reg
theorem r31_1  : kCode env 31 false inv k (cp c31 12) (act 22 [(0, x0), (1, x1)]) h K =
    K .normal (act 22 [(0, x0), (1, x1), (5, (.int .i64 0))]) h := kq_reg
theorem r31_2  : kCode env 31 false inv k (cp c31 208) (act 22 [(0, x0), (1, x1), (5, x5)]) h K =
    bnd (pLen Try.prog #[23] x0 h) fun x8 =>
    bnd (pBin Try.prog .lss 3 (.tmp 6) (.tmp 8) x5 x8) fun x9 =>
    K .normal (act 22 [(0, x0), (1, x1), (5, x5), (9, x9)]) h := kq_reg
theorem b31_rlllrlr  : kCode env 31 false inv k (cp c31 209) (act 22 [(0, x0), (1, x1), (5, x5), (9, x9)]) h K = brV x9 (kCode env 31 false inv k (cp c31 418) (act 22 [(0, x0), (1, x1), (5, x5), (9, x9)]) h K) (kCode env 31 false inv k (cp c31 419) (act 22 [(0, x0), (1, x1), (5, x5), (9, x9)]) h K) := kq_cond
theorem r31_4  : kCode env 31 false inv k (cp c31 840) (act 22 [(0, x0), (1, x1), (5, x5), (9, x9)]) h K =
    bnd (pIndexAddr Try.prog 23 x0 x5) fun x14 =>
    bnd (pLoad Try.prog 37 x14 h) fun x15 =>
    bnd (inv (.func 50) #[] #[x15] h) fun x16 =>
    bnd (pUn Try.prog .not x16.1) fun x17 =>
    K .normal (act 22 [(0, x0), (1, x1), (5, x5), (17, x17)]) x16.2 := kq_reg
theorem b31_rllrllrlr  : kCode env 31 false inv k (cp c31 841) (act 22 [(0, x0), (1, x1), (5, x5), (17, x17)]) h K = brV x17 (kCode env 31 false inv k (cp c31 1682) (act 22 [(0, x0), (1, x1), (5, x5), (17, x17)]) h K) (kCode env 31 false inv k (cp c31 1683) (act 22 [(0, x0), (1, x1), (5, x5), (17, x17)]) h K) := kq_cond
theorem r31_5  : kCode env 31 false inv k (cp c31 3364) (act 22 [(0, x0), (1, x1), (5, x5), (17, x17)]) h K =
    K .normal (act 22 [(4, (.bool false))]) h := kq_reg
theorem r31_3  : kCode env 31 false inv k (cp c31 211) (act 22 [(0, x0), (1, x1), (5, x5), (17, x17)]) h K =
    bnd (pBin Try.prog .add 3 (.tmp 10) (.const (.int .i64 1)) x5 (.int .i64 1)) fun x11 =>
    K .normal (act 22 [(0, x0), (1, x1), (5, x11)]) h := kq_reg
noncomputable def F31_lrlr {β : Type} (inv : Inv) (k : Nat) : Nat → Value → Value → Value → AH → (Value → Value → Value → Value → AH → Option β) → (Value → AH → Option β) → Option β
  | 0, _, _, _, _, _, _ => none
  | j + 1, x0, x1, x5, h, ke0, kr =>
    bnd (pLen Try.prog #[23] x0 h) fun x8 =>
    bnd (pBin Try.prog .lss 3 (.tmp 6) (.tmp 8) x5 x8) fun x9 =>
    brV x9
    (bnd (pIndexAddr Try.prog 23 x0 x5) fun x14 =>
    bnd (pLoad Try.prog 37 x14 h) fun x15 =>
    bnd (inv (.func 50) #[] #[x15] h) fun x16 =>
    bnd (pUn Try.prog .not x16.1) fun x17 =>
    brV x17
    (kr (.bool false) x16.2)
    (bnd (pBin Try.prog .add 3 (.tmp 10) (.const (.int .i64 1)) x5 (.int .i64 1)) fun x11 =>
    F31_lrlr inv k j x0 x1 x11 x16.2 ke0 kr))
    (ke0 x0 x1 x5 x9 h)
theorem F31_lrlr_j (j : Nat) : kLoop (kCode env 31 false inv k (cp c31 52)) j (act 22 [(0, x0), (1, x1), (5, x5)]) h K = F31_lrlr inv k j x0 x1 x5 h (fun y0 y1 y5 y9 h => K (.exit 0) (act 22 [(0, y0), (1, y1), (5, y5), (9, y9)]) h) (fun y4 h => K .ret (act 22 [(4, y4)]) h) := by
      induction j generalizing x0 x1 x5 h with
      | zero => rfl
      | succ j ih =>
        unfold F31_lrlr
        simp only [kLoop, kq_seq c31 52, kq_seq c31 104, r31_2, b31_rlllrlr, kq_skip c31 418, kq_seq c31 105, kq_block c31 210 1, kq_seq c31 420, r31_4, b31_rllrllrlr, kq_seq c31 1682, r31_5, kq_ret c31 3365, kq_skip c31 1683, r31_3, kq_exit c31 419 0, ih, reduceIte, reduceCtorEq, XE.exit.injEq, Nat.reduceEqDiff, Nat.reduceMul, Nat.reduceAdd] <;> kernel_rfl
theorem F31_lrlr_eq  : kCode env 31 false inv k (cp c31 26) (act 22 [(0, x0), (1, x1), (5, x5)]) h K = F31_lrlr inv k k x0 x1 x5 h (fun y0 y1 y5 y9 h => K (.exit 0) (act 22 [(0, y0), (1, y1), (5, y5), (9, y9)]) h) (fun y4 h => K .ret (act 22 [(4, y4)]) h) := kq_loop (F31_lrlr_j k)
theorem r31_6  : kCode env 31 false inv k (cp c31 14) (act 22 [(0, x0), (1, x1), (5, x5), (9, x9)]) h K =
    bnd (pLen Try.prog #[23] x0 h) fun x19 =>
    bnd (pBin Try.prog .leq 3 (.tmp 19) (.tmp 20) x19 x1) fun x21 =>
    K .normal (act 22 [(4, x21)]) h := kq_reg
theorem res31_0 : resOfFn env.P 31 .ret (act 22 [(4, x4)]) h = some (x4, h) := kq_res
/-- shadowbook/shadowbookkit.LightRows -/
noncomputable def F31 (inv : Inv) (k : Nat) (x0 x1 : Value) (h : AH) : Option (Value × AH) :=
    F31_lrlr inv k k x0 x1 (.int .i64 0) h
    (fun y0 y1 y5 y9 h =>
    bnd (pLen Try.prog #[23] y0 h) fun x19 =>
    bnd (pBin Try.prog .leq 3 (.tmp 19) (.tmp 20) x19 y1) fun x21 =>
    some (x21, h))
    (fun y4 h_1 =>
    some (y4, h_1))
theorem F31_eq : eFun env k inv 31 #[x0, x1] h = F31 inv k x0 x1 h := by
      refine (kq_fun (a := act 22 [(0, x0), (1, x1)]) (c := cp c31 1)).trans ?_
      unfold F31
      simp only [kq_seq c31 1, r31_0, kq_seq c31 3, kq_seq c31 6, r31_1, kq_block c31 13 0, F31_lrlr_eq, kq_seq c31 7, r31_6, kq_ret c31 15, res31_0, reduceIte, reduceCtorEq, XE.exit.injEq, Nat.reduceEqDiff, Nat.reduceMul, Nat.reduceAdd] <;> kernel_rfl
theorem F31_call : eInv env (k + 1) (.func 31) #[] #[x0, x1] h = F31 (eInv env k) k x0 x1 h := kq_inv F31_eq
noncomputable def c32 : Code := codeOf Try.prog 32
theorem r32_0  : kCode env 32 false inv k (cp c32 2) (act 50 [(0, x0), (1, x1)]) h K =
    K .normal (act 50 [(0, x0), (1, x1)]) h := kq_reg
theorem r32_1  : kCode env 32 false inv k (cp c32 12) (act 50 [(0, x0), (1, x1)]) h K =
    K .normal (act 50 [(0, x0), (1, x1), (5, (.int .i64 0))]) h := kq_reg
theorem r32_2  : kCode env 32 false inv k (cp c32 208) (act 50 [(0, x0), (1, x1), (5, x5)]) h K =
    bnd (pLen Try.prog #[24] x0 h) fun x8 =>
    bnd (pBin Try.prog .lss 3 (.tmp 6) (.tmp 8) x5 x8) fun x9 =>
    K .normal (act 50 [(0, x0), (1, x1), (5, x5), (9, x9)]) h := kq_reg
theorem b32_rlllrlr  : kCode env 32 false inv k (cp c32 209) (act 50 [(0, x0), (1, x1), (5, x5), (9, x9)]) h K = brV x9 (kCode env 32 false inv k (cp c32 418) (act 50 [(0, x0), (1, x1), (5, x5), (9, x9)]) h K) (kCode env 32 false inv k (cp c32 419) (act 50 [(0, x0), (1, x1), (5, x5), (9, x9)]) h K) := kq_cond
noncomputable abbrev G32_4 {β : Type} (inv : Inv) (x0 x1 x5 : Value) (h : AH) (K : Value → AH → Option β) : Option β :=
    bnd (pIndexAddr Try.prog 24 x0 x5) fun x14 =>
    bnd (pFieldAddr Try.prog 39 x14 1) fun x15 =>
    bnd (pLoad Try.prog 23 x15 h) fun x16 =>
    bnd (inv (.func 31) #[] #[x16, x1] h) fun x18 =>
    bnd (pUn Try.prog .not x18.1) fun x19 =>
    bnd (gd (some x19) false x18.2 (some (x0, x18.2))) fun x21 =>
    bnd (gd (some x19) false x21.2 (some (x5, x21.2))) fun x22 =>
    bnd (gd (some x19) false x22.2 (lt (pIndexAddr Try.prog 24 x21.1 x22.1) x22.2)) fun x23 =>
    bnd (gd (some x19) false x23.2 (lt (pFieldAddr Try.prog 39 x23.1 2) x23.2)) fun x24 =>
    bnd (gd (some x19) false x24.2 (lt (pLoad Try.prog 35 x24.1 x24.2) x24.2)) fun x25 =>
    bnd (gd (some x19) false x25.2 (inv (.func 51) #[] #[x25.1] x25.2)) fun x26 =>
    bnd (gd (some x19) false x26.2 (lt (pUn Try.prog .not x26.1) x26.2)) fun x27 =>
    bnd (pickV x19 (.bool true) x27.1) fun x28 =>
    bnd (gd (some x28) false x27.2 (some (x0, x27.2))) fun x30 =>
    bnd (gd (some x28) false x30.2 (some (x5, x30.2))) fun x31 =>
    bnd (gd (some x28) false x31.2 (lt (pIndexAddr Try.prog 24 x30.1 x31.1) x31.2)) fun x32 =>
    bnd (gd (some x28) false x32.2 (lt (pFieldAddr Try.prog 39 x32.1 3) x32.2)) fun x33 =>
    bnd (gd (some x28) false x33.2 (lt (pLoad Try.prog 36 x33.1 x33.2) x33.2)) fun x34 =>
    bnd (gd (some x28) false x34.2 (lt (pLen Try.prog #[36] x34.1 x34.2) x34.2)) fun x35 =>
    bnd (gd (some x28) false x35.2 (lt (pBin Try.prog .gtr 3 (.tmp 35) (.const (.int .i64 20)) x35.1 (.int .i64 20)) x35.2)) fun x36 =>
    bnd (pickV x28 (.bool true) x36.1) fun x37 =>
    bnd (gd (some x37) false x36.2 (some (x0, x36.2))) fun x39 =>
    bnd (gd (some x37) false x39.2 (some (x5, x39.2))) fun x40 =>
    bnd (gd (some x37) false x40.2 (lt (pIndexAddr Try.prog 24 x39.1 x40.1) x40.2)) fun x41 =>
    bnd (gd (some x37) false x41.2 (lt (pFieldAddr Try.prog 39 x41.1 4) x41.2)) fun x42 =>
    bnd (gd (some x37) false x42.2 (lt (pLoad Try.prog 37 x42.1 x42.2) x42.2)) fun x43 =>
    bnd (gd (some x37) false x43.2 (inv (.func 50) #[] #[x43.1] x43.2)) fun x44 =>
    bnd (gd (some x37) false x44.2 (lt (pUn Try.prog .not x44.1) x44.2)) fun x45 =>
    bnd (pickV x37 (.bool true) x45.1) fun x46 =>
    K (x46) x45.2
theorem r32_4  : kCode env 32 false inv k (cp c32 840) (act 50 [(0, x0), (1, x1), (5, x5), (9, x9)]) h K =
    G32_4 inv x0 x1 x5 h fun y46 h => K .normal (act 50 [(0, x0), (1, x1), (5, x5), (46, y46)]) h := kq_reg
theorem b32_rllrllrlr  : kCode env 32 false inv k (cp c32 841) (act 50 [(0, x0), (1, x1), (5, x5), (46, x46)]) h K = brV x46 (kCode env 32 false inv k (cp c32 1682) (act 50 [(0, x0), (1, x1), (5, x5), (46, x46)]) h K) (kCode env 32 false inv k (cp c32 1683) (act 50 [(0, x0), (1, x1), (5, x5), (46, x46)]) h K) := kq_cond
theorem r32_5  : kCode env 32 false inv k (cp c32 3364) (act 50 [(0, x0), (1, x1), (5, x5), (46, x46)]) h K =
    K .normal (act 50 [(4, (.bool false))]) h := kq_reg
theorem r32_3  : kCode env 32 false inv k (cp c32 211) (act 50 [(0, x0), (1, x1), (5, x5), (46, x46)]) h K =
    bnd (pBin Try.prog .add 3 (.tmp 10) (.const (.int .i64 1)) x5 (.int .i64 1)) fun x11 =>
    K .normal (act 50 [(0, x0), (1, x1), (5, x11)]) h := kq_reg
noncomputable def F32_lrlr {β : Type} (inv : Inv) (k : Nat) : Nat → Value → Value → Value → AH → (Value → Value → Value → Value → AH → Option β) → (Value → AH → Option β) → Option β
  | 0, _, _, _, _, _, _ => none
  | j + 1, x0, x1, x5, h, ke0, kr =>
    bnd (pLen Try.prog #[24] x0 h) fun x8 =>
    bnd (pBin Try.prog .lss 3 (.tmp 6) (.tmp 8) x5 x8) fun x9 =>
    brV x9
    (G32_4 inv x0 x1 x5 h fun y46 h =>
    brV y46
    (kr (.bool false) h)
    (bnd (pBin Try.prog .add 3 (.tmp 10) (.const (.int .i64 1)) x5 (.int .i64 1)) fun x11 =>
    F32_lrlr inv k j x0 x1 x11 h ke0 kr))
    (ke0 x0 x1 x5 x9 h)
theorem F32_lrlr_j (j : Nat) : kLoop (kCode env 32 false inv k (cp c32 52)) j (act 50 [(0, x0), (1, x1), (5, x5)]) h K = F32_lrlr inv k j x0 x1 x5 h (fun y0 y1 y5 y9 h => K (.exit 0) (act 50 [(0, y0), (1, y1), (5, y5), (9, y9)]) h) (fun y4 h => K .ret (act 50 [(4, y4)]) h) := by
      induction j generalizing x0 x1 x5 h with
      | zero => rfl
      | succ j ih =>
        unfold F32_lrlr
        simp only [kLoop, kq_seq c32 52, kq_seq c32 104, r32_2, b32_rlllrlr, kq_skip c32 418, kq_seq c32 105, kq_block c32 210 1, kq_seq c32 420, r32_4, b32_rllrllrlr, kq_seq c32 1682, r32_5, kq_ret c32 3365, kq_skip c32 1683, r32_3, kq_exit c32 419 0, ih, reduceIte, reduceCtorEq, XE.exit.injEq, Nat.reduceEqDiff, Nat.reduceMul, Nat.reduceAdd] <;> kernel_rfl
theorem F32_lrlr_eq  : kCode env 32 false inv k (cp c32 26) (act 50 [(0, x0), (1, x1), (5, x5)]) h K = F32_lrlr inv k k x0 x1 x5 h (fun y0 y1 y5 y9 h => K (.exit 0) (act 50 [(0, y0), (1, y1), (5, y5), (9, y9)]) h) (fun y4 h => K .ret (act 50 [(4, y4)]) h) := kq_loop (F32_lrlr_j k)
theorem r32_6  : kCode env 32 false inv k (cp c32 14) (act 50 [(0, x0), (1, x1), (5, x5), (9, x9)]) h K =
    bnd (pLen Try.prog #[24] x0 h) fun x48 =>
    bnd (pBin Try.prog .leq 3 (.tmp 48) (.const (.int .i64 18)) x48 (.int .i64 18)) fun x49 =>
    K .normal (act 50 [(4, x49)]) h := kq_reg
theorem res32_0 : resOfFn env.P 32 .ret (act 50 [(4, x4)]) h = some (x4, h) := kq_res
/-- shadowbook/shadowbookkit.LightBatch -/
noncomputable def F32 (inv : Inv) (k : Nat) (x0 x1 : Value) (h : AH) : Option (Value × AH) :=
    F32_lrlr inv k k x0 x1 (.int .i64 0) h
    (fun y0 y1 y5 y9 h =>
    bnd (pLen Try.prog #[24] y0 h) fun x48 =>
    bnd (pBin Try.prog .leq 3 (.tmp 48) (.const (.int .i64 18)) x48 (.int .i64 18)) fun x49 =>
    some (x49, h))
    (fun y4 h_1 =>
    some (y4, h_1))
theorem F32_eq : eFun env k inv 32 #[x0, x1] h = F32 inv k x0 x1 h := by
      refine (kq_fun (a := act 50 [(0, x0), (1, x1)]) (c := cp c32 1)).trans ?_
      unfold F32
      simp only [kq_seq c32 1, r32_0, kq_seq c32 3, kq_seq c32 6, r32_1, kq_block c32 13 0, F32_lrlr_eq, kq_seq c32 7, r32_6, kq_ret c32 15, res32_0, reduceIte, reduceCtorEq, XE.exit.injEq, Nat.reduceEqDiff, Nat.reduceMul, Nat.reduceAdd] <;> kernel_rfl
theorem F32_call : eInv env (k + 1) (.func 32) #[] #[x0, x1] h = F32 (eInv env k) k x0 x1 h := kq_inv F32_eq
noncomputable def c35 : Code := codeOf Try.prog 35
theorem r35_0  : kCode env 35 false inv k (cp c35 2) (act 35 [(0, x0), (1, x1)]) h K =
    K .normal (act 35 [(0, x0), (1, x1)]) h := kq_reg
theorem r35_1  : kCode env 35 false inv k (cp c35 6) (act 35 [(0, x0), (1, x1)]) h K =
    bnd (inv (.func 43) #[] #[x0] h) fun x8 =>
    K .normal (act 35 [(0, x0), (1, x1), (5, x8.1)]) x8.2 := kq_reg
theorem r35_2  : kCode env 35 false inv k (cp c35 28) (act 35 [(0, x0), (1, x1), (5, x5)]) h K =
    bnd (pBin Try.prog .neq 27 (.tmp 9) (.const (.int .i64 0)) x5 (.int .i64 0)) fun x10 =>
    K .normal (act 35 [(0, x0), (1, x1), (5, x5), (10, x10)]) h := kq_reg
theorem b35_rlrr  : kCode env 35 false inv k (cp c35 29) (act 35 [(0, x0), (1, x1), (5, x5), (10, x10)]) h K = brV x10 (kCode env 35 false inv k (cp c35 58) (act 35 [(0, x0), (1, x1), (5, x5), (10, x10)]) h K) (kCode env 35 false inv k (cp c35 59) (act 35 [(0, x0), (1, x1), (5, x5), (10, x10)]) h K) := kq_cond
theorem r35_3  : kCode env 35 false inv k (cp c35 116) (act 35 [(0, x0), (1, x1), (5, x5), (10, x10)]) h K =
    K .normal (act 35 [(4, x5)]) h := kq_reg
theorem res35_0 : resOfFn env.P 35 .ret (act 35 [(4, x4)]) h = some (x4, h) := kq_res
theorem r35_4  : kCode env 35 false inv k (cp c35 60) (act 35 [(0, x0), (1, x1), (5, x5), (10, x10)]) h K =
    bnd (pLen Try.prog #[37] x1 h) fun x13 =>
    bnd (pLen Try.prog #[22] x0 h) fun x15 =>
    bnd (pBin Try.prog .neq 3 (.tmp 13) (.tmp 15) x13 x15) fun x16 =>
    K .normal (act 35 [(0, x0), (1, x1), (16, x16)]) h := kq_reg
theorem b35_rlrrr  : kCode env 35 false inv k (cp c35 61) (act 35 [(0, x0), (1, x1), (16, x16)]) h K = brV x16 (kCode env 35 false inv k (cp c35 122) (act 35 [(0, x0), (1, x1), (16, x16)]) h K) (kCode env 35 false inv k (cp c35 123) (act 35 [(0, x0), (1, x1), (16, x16)]) h K) := kq_cond
theorem r35_5  : kCode env 35 false inv k (cp c35 244) (act 35 [(0, x0), (1, x1), (16, x16)]) h K =
    K .normal (act 35 [(4, (.int .i64 173))]) h := kq_reg
theorem r35_6  : kCode env 35 false inv k (cp c35 124) (act 35 [(0, x0), (1, x1), (16, x16)]) h K =
    K .normal (act 35 [(0, x0), (1, x1), (6, (.int .i64 0))]) h := kq_reg
theorem r35_7  : kCode env 35 false inv k (cp c35 2000) (act 35 [(0, x0), (1, x1), (6, x6)]) h K =
    bnd (pLen Try.prog #[37] x1 h) fun x19 =>
    bnd (pBin Try.prog .lss 3 (.tmp 17) (.tmp 19) x6 x19) fun x20 =>
    K .normal (act 35 [(0, x0), (1, x1), (6, x6), (20, x20)]) h := kq_reg
theorem b35_rlllrlrrrr  : kCode env 35 false inv k (cp c35 2001) (act 35 [(0, x0), (1, x1), (6, x6), (20, x20)]) h K = brV x20 (kCode env 35 false inv k (cp c35 4002) (act 35 [(0, x0), (1, x1), (6, x6), (20, x20)]) h K) (kCode env 35 false inv k (cp c35 4003) (act 35 [(0, x0), (1, x1), (6, x6), (20, x20)]) h K) := kq_cond
theorem r35_9  : kCode env 35 false inv k (cp c35 8008) (act 35 [(0, x0), (1, x1), (6, x6), (20, x20)]) h K =
    bnd (pIndexAddr Try.prog 22 x0 x6) fun x25 =>
    bnd (pLoad Try.prog 80 x25 h) fun x26 =>
    bnd (pIndexAddr Try.prog 37 x1 x6) fun x29 =>
    bnd (pLoad Try.prog 45 x29 h) fun x30 =>
    bnd (inv (.func 59) #[] #[x26, x30] h) fun x31 =>
    K .normal (act 35 [(0, x0), (1, x1), (5, x31.1), (6, x6)]) x31.2 := kq_draw
theorem r35_10  : kCode env 35 false inv k (cp c35 16018) (act 35 [(0, x0), (1, x1), (5, x5), (6, x6)]) h K =
    bnd (pBin Try.prog .neq 27 (.tmp 32) (.const (.int .i64 0)) x5 (.int .i64 0)) fun x33 =>
    K .normal (act 35 [(0, x0), (1, x1), (5, x5), (6, x6), (33, x33)]) h := kq_reg
theorem b35_rrllrllrlrrrr  : kCode env 35 false inv k (cp c35 16019) (act 35 [(0, x0), (1, x1), (5, x5), (6, x6), (33, x33)]) h K = brV x33 (kCode env 35 false inv k (cp c35 32038) (act 35 [(0, x0), (1, x1), (5, x5), (6, x6), (33, x33)]) h K) (kCode env 35 false inv k (cp c35 32039) (act 35 [(0, x0), (1, x1), (5, x5), (6, x6), (33, x33)]) h K) := kq_cond
theorem r35_11  : kCode env 35 false inv k (cp c35 64076) (act 35 [(0, x0), (1, x1), (5, x5), (6, x6), (33, x33)]) h K =
    K .normal (act 35 [(4, x5)]) h := kq_reg
theorem r35_8  : kCode env 35 false inv k (cp c35 2003) (act 35 [(0, x0), (1, x1), (5, x5), (6, x6), (33, x33)]) h K =
    bnd (pBin Try.prog .add 3 (.tmp 21) (.const (.int .i64 1)) x6 (.int .i64 1)) fun x22 =>
    K .normal (act 35 [(0, x0), (1, x1), (6, x22)]) h := kq_reg
noncomputable def F35_lrlrrrr {β : Type} (inv : Inv) (k : Nat) : Nat → Value → Value → Value → AH → (Value → Value → Value → Value → AH → Option β) → (Value → AH → Option β) → Option β
  | 0, _, _, _, _, _, _ => none
  | j + 1, x0, x1, x6, h, ke0, kr =>
    bnd (pLen Try.prog #[37] x1 h) fun x19 =>
    bnd (pBin Try.prog .lss 3 (.tmp 17) (.tmp 19) x6 x19) fun x20 =>
    brV x20
    (bnd (pIndexAddr Try.prog 22 x0 x6) fun x25 =>
    bnd (pLoad Try.prog 80 x25 h) fun x26 =>
    bnd (pIndexAddr Try.prog 37 x1 x6) fun x29 =>
    bnd (pLoad Try.prog 45 x29 h) fun x30 =>
    bnd (inv (.func 59) #[] #[x26, x30] h) fun x31 =>
    bnd (pBin Try.prog .neq 27 (.tmp 32) (.const (.int .i64 0)) x31.1 (.int .i64 0)) fun x33 =>
    brV x33
    (kr x31.1 x31.2)
    (bnd (pBin Try.prog .add 3 (.tmp 21) (.const (.int .i64 1)) x6 (.int .i64 1)) fun x22 =>
    F35_lrlrrrr inv k j x0 x1 x22 x31.2 ke0 kr))
    (ke0 x0 x1 x6 x20 h)
theorem F35_lrlrrrr_j (j : Nat) : kLoop (kCode env 35 false inv k (cp c35 500)) j (act 35 [(0, x0), (1, x1), (6, x6)]) h K = F35_lrlrrrr inv k j x0 x1 x6 h (fun y0 y1 y6 y20 h => K (.exit 0) (act 35 [(0, y0), (1, y1), (6, y6), (20, y20)]) h) (fun y4 h => K .ret (act 35 [(4, y4)]) h) := by
      induction j generalizing x0 x1 x6 h with
      | zero => rfl
      | succ j ih =>
        unfold F35_lrlrrrr
        simp only [kLoop, kq_seq c35 500, kq_seq c35 1000, r35_7, b35_rlllrlrrrr, kq_skip c35 4002, kq_seq c35 1001, kq_block c35 2002 1, kq_seq c35 4004, r35_9, kq_seq c35 8009, r35_10, b35_rrllrllrlrrrr, kq_seq c35 32038, r35_11, kq_ret c35 64077, kq_skip c35 32039, r35_8, kq_exit c35 4003 0, ih, reduceIte, reduceCtorEq, XE.exit.injEq, Nat.reduceEqDiff, Nat.reduceMul, Nat.reduceAdd] <;> kernel_rfl
theorem F35_lrlrrrr_eq  : kCode env 35 false inv k (cp c35 250) (act 35 [(0, x0), (1, x1), (6, x6)]) h K = F35_lrlrrrr inv k k x0 x1 x6 h (fun y0 y1 y6 y20 h => K (.exit 0) (act 35 [(0, y0), (1, y1), (6, y6), (20, y20)]) h) (fun y4 h => K .ret (act 35 [(4, y4)]) h) := kq_loop (F35_lrlrrrr_j k)
theorem r35_12  : kCode env 35 false inv k (cp c35 126) (act 35 [(0, x0), (1, x1), (6, x6), (20, x20)]) h K =
    K .normal (act 35 [(4, (.int .i64 0))]) h := kq_reg
/-- shadowbook/shadowbookref17.Row -/
noncomputable def F35 (inv : Inv) (k : Nat) (x0 x1 : Value) (h : AH) : Option (Value × AH) :=
    bnd (inv (.func 43) #[] #[x0] h) fun x8 =>
    bnd (pBin Try.prog .neq 27 (.tmp 9) (.const (.int .i64 0)) x8.1 (.int .i64 0)) fun x10 =>
    brV x10
    (some (x8.1, x8.2))
    (bnd (pLen Try.prog #[37] x1 x8.2) fun x13 =>
    bnd (pLen Try.prog #[22] x0 x8.2) fun x15 =>
    bnd (pBin Try.prog .neq 3 (.tmp 13) (.tmp 15) x13 x15) fun x16 =>
    brV x16
    (some ((.int .i64 173), x8.2))
    (F35_lrlrrrr inv k k x0 x1 (.int .i64 0) x8.2
    (fun y0 y1 y6 y20 h =>
    some ((.int .i64 0), h))
    (fun y4 h_1 =>
    some (y4, h_1))))
theorem F35_eq : eFun env k inv 35 #[x0, x1] h = F35 inv k x0 x1 h := by
      refine (kq_fun (a := act 35 [(0, x0), (1, x1)]) (c := cp c35 1)).trans ?_
      unfold F35
      simp only [kq_seq c35 1, r35_0, kq_seq c35 3, r35_1, kq_seq c35 7, kq_seq c35 14, r35_2, b35_rlrr, kq_seq c35 58, r35_3, kq_ret c35 117, res35_0, kq_skip c35 59, kq_seq c35 15, kq_seq c35 30, r35_4, b35_rlrrr, kq_seq c35 122, r35_5, kq_ret c35 245, kq_skip c35 123, kq_seq c35 31, kq_seq c35 62, r35_6, kq_block c35 125 0, F35_lrlrrrr_eq, kq_seq c35 63, r35_12, kq_ret c35 127, reduceIte, reduceCtorEq, XE.exit.injEq, Nat.reduceEqDiff, Nat.reduceMul, Nat.reduceAdd] <;> kernel_rfl
theorem F35_call : eInv env (k + 1) (.func 35) #[] #[x0, x1] h = F35 (eInv env k) k x0 x1 h := kq_inv F35_eq
noncomputable def c36 : Code := codeOf Try.prog 36
theorem r36_0  : kCode env 36 false inv k (cp c36 2) (act 42 [(0, x0), (1, x1)]) h K =
    K .normal (act 42 [(0, x0), (1, x1)]) h := kq_reg
theorem r36_1  : kCode env 36 false inv k (cp c36 6) (act 42 [(0, x0), (1, x1)]) h K =
    bnd (inv (.func 60) #[] #[x0, x1] h) fun x10 =>
    K .normal (act 42 [(0, x0), (1, x1), (5, x10.1)]) x10.2 := kq_reg
theorem r36_2  : kCode env 36 false inv k (cp c36 28) (act 42 [(0, x0), (1, x1), (5, x5)]) h K =
    bnd (pBin Try.prog .eql 3 (.tmp 11) (.const (.int .i64 (-1))) x5 (.int .i64 (-1))) fun x12 =>
    K .normal (act 42 [(0, x0), (1, x1), (5, x5), (12, x12)]) h := kq_reg
theorem b36_rlrr  : kCode env 36 false inv k (cp c36 29) (act 42 [(0, x0), (1, x1), (5, x5), (12, x12)]) h K = brV x12 (kCode env 36 false inv k (cp c36 58) (act 42 [(0, x0), (1, x1), (5, x5), (12, x12)]) h K) (kCode env 36 false inv k (cp c36 59) (act 42 [(0, x0), (1, x1), (5, x5), (12, x12)]) h K) := kq_cond
theorem r36_3  : kCode env 36 false inv k (cp c36 116) (act 42 [(0, x0), (1, x1), (5, x5), (12, x12)]) h K =
    K .normal (act 42 [(4, x0)]) h := kq_reg
theorem res36_0 : resOfFn env.P 36 .ret (act 42 [(4, x4)]) h = some (x4, h) := kq_res
theorem r36_4  : kCode env 36 false inv k (cp c36 60) (act 42 [(0, x0), (1, x1), (5, x5), (12, x12)]) h K =
    bnd (pBin Try.prog .add 3 (.tmp 14) (.const (.int .i64 1)) x5 (.int .i64 1)) fun x15 =>
    K .normal (act 42 [(0, x0), (1, x1), (5, x5), (6, x15)]) h := kq_reg
theorem r36_5  : kCode env 36 false inv k (cp c36 976) (act 42 [(0, x0), (1, x1), (5, x5), (6, x6)]) h K =
    bnd (pLen Try.prog #[23] x0 h) fun x18 =>
    bnd (pBin Try.prog .lss 3 (.tmp 16) (.tmp 18) x6 x18) fun x19 =>
    K .normal (act 42 [(0, x0), (1, x1), (5, x5), (6, x6), (19, x19)]) h := kq_reg
theorem b36_rlllrlrrr  : kCode env 36 false inv k (cp c36 977) (act 42 [(0, x0), (1, x1), (5, x5), (6, x6), (19, x19)]) h K = brV x19 (kCode env 36 false inv k (cp c36 1954) (act 42 [(0, x0), (1, x1), (5, x5), (6, x6), (19, x19)]) h K) (kCode env 36 false inv k (cp c36 1955) (act 42 [(0, x0), (1, x1), (5, x5), (6, x6), (19, x19)]) h K) := kq_cond
theorem r36_7  : kCode env 36 false inv k (cp c36 3912) (act 42 [(0, x0), (1, x1), (5, x5), (6, x6), (19, x19)]) h K =
    bnd (pIndexAddr Try.prog 23 x0 x6) fun x24 =>
    bnd (pLoad Try.prog 37 x24 h) fun x25 =>
    K .normal (act 42 [(0, x0), (1, x1), (5, x5), (6, x6), (7, x25)]) h := kq_reg
theorem r36_8  : kCode env 36 false inv k (cp c36 7826) (act 42 [(0, x0), (1, x1), (5, x5), (6, x6), (7, x7)]) h K =
    bnd (callV inv x1 #[x7] h) fun x28 =>
    bnd (pUn Try.prog .not x28.1) fun x29 =>
    K .normal (act 42 [(0, x0), (1, x1), (5, x5), (6, x6), (7, x7), (29, x29)]) x28.2 := kq_reg
theorem b36_rrllrllrlrrr  : kCode env 36 false inv k (cp c36 7827) (act 42 [(0, x0), (1, x1), (5, x5), (6, x6), (7, x7), (29, x29)]) h K = brV x29 (kCode env 36 false inv k (cp c36 15654) (act 42 [(0, x0), (1, x1), (5, x5), (6, x6), (7, x7), (29, x29)]) h K) (kCode env 36 false inv k (cp c36 15655) (act 42 [(0, x0), (1, x1), (5, x5), (6, x6), (7, x7), (29, x29)]) h K) := kq_cond
theorem r36_9  : kCode env 36 false inv k (cp c36 31308) (act 42 [(0, x0), (1, x1), (5, x5), (6, x6), (7, x7), (29, x29)]) h K =
    bnd (pIndexAddr Try.prog 23 x0 x5) fun x33 =>
    bnd (kSt (pStore Try.prog 37 x33 x7 h)) fun u =>
    K .normal (act 42 [(0, x0), (1, x1), (5, x5), (6, x6)]) u.2 := kq_reg
theorem r36_10  : kCode env 36 false inv k (cp c36 31309) (act 42 [(0, x0), (1, x1), (5, x5), (6, x6)]) h K =
    bnd (pBin Try.prog .add 3 (.tmp 34) (.const (.int .i64 1)) x5 (.int .i64 1)) fun x35 =>
    K .normal (act 42 [(0, x0), (1, x1), (5, x35), (6, x6)]) h := kq_reg
noncomputable def F36_lrllrlrrr {β : Type} (inv : Inv) (k : Nat) (x0 x1 x5 x6 x19 : Value) (h : AH) (kn : (Value → Value → Value → Value → Value → Value → AH → Option β)) : Option β :=
    bnd (pIndexAddr Try.prog 23 x0 x6) fun x24 =>
    bnd (pLoad Try.prog 37 x24 h) fun x25 =>
    bnd (callV inv x1 #[x25] h) fun x28 =>
    bnd (pUn Try.prog .not x28.1) fun x29 =>
    brV x29
    (bnd (pIndexAddr Try.prog 23 x0 x5) fun x33 =>
    bnd (kSt (pStore Try.prog 37 x33 x25 x28.2)) fun u =>
    bnd (pBin Try.prog .add 3 (.tmp 34) (.const (.int .i64 1)) x5 (.int .i64 1)) fun x35 =>
    kn x0 x1 x35 x6 unk unk u.2)
    (kn x0 x1 x5 x6 x25 x29 x28.2)
theorem F36_lrllrlrrr_eq  : kCode env 36 false inv k (cp c36 978) (act 42 [(0, x0), (1, x1), (5, x5), (6, x6), (19, x19)]) h K = F36_lrllrlrrr inv k x0 x1 x5 x6 x19 h (fun y0 y1 y5 y6 y7 y29 h => K .normal (act 42 [(0, y0), (1, y1), (5, y5), (6, y6), (7, y7), (29, y29)]) h) := by
      unfold F36_lrllrlrrr
      simp only [kq_block c36 978 1, kq_seq c36 1956, r36_7, kq_seq c36 3913, r36_8, b36_rrllrllrlrrr, kq_seq c36 15654, r36_9, r36_10, kq_skip c36 15655, reduceIte, reduceCtorEq, XE.exit.injEq, Nat.reduceEqDiff, Nat.reduceMul, Nat.reduceAdd] <;> kernel_rfl
theorem r36_6  : kCode env 36 false inv k (cp c36 979) (act 42 [(0, x0), (1, x1), (5, x5), (6, x6), (7, x7), (29, x29)]) h K =
    bnd (pBin Try.prog .add 3 (.tmp 20) (.const (.int .i64 1)) x6 (.int .i64 1)) fun x21 =>
    K .normal (act 42 [(0, x0), (1, x1), (5, x5), (6, x21)]) h := kq_reg
noncomputable def F36_lrlrrr {β : Type} (inv : Inv) (k : Nat) : Nat → Value → Value → Value → Value → AH → (Value → Value → Value → Value → Value → AH → Option β) → Option β
  | 0, _, _, _, _, _, _ => none
  | j + 1, x0, x1, x5, x6, h, ke0 =>
    bnd (pLen Try.prog #[23] x0 h) fun x18 =>
    bnd (pBin Try.prog .lss 3 (.tmp 16) (.tmp 18) x6 x18) fun x19 =>
    brV x19
    (F36_lrllrlrrr inv k x0 x1 x5 x6 x19 h
    (fun y0 y1 y5 y6 y7 y29 h =>
    bnd (pBin Try.prog .add 3 (.tmp 20) (.const (.int .i64 1)) y6 (.int .i64 1)) fun x21 =>
    F36_lrlrrr inv k j y0 y1 y5 x21 h ke0))
    (ke0 x0 x1 x5 x6 x19 h)
theorem F36_lrlrrr_j (j : Nat) : kLoop (kCode env 36 false inv k (cp c36 244)) j (act 42 [(0, x0), (1, x1), (5, x5), (6, x6)]) h K = F36_lrlrrr inv k j x0 x1 x5 x6 h (fun y0 y1 y5 y6 y19 h => K (.exit 0) (act 42 [(0, y0), (1, y1), (5, y5), (6, y6), (19, y19)]) h) := by
      induction j generalizing x0 x1 x5 x6 h with
      | zero => rfl
      | succ j ih =>
        unfold F36_lrlrrr
        simp only [kLoop, kq_seq c36 244, kq_seq c36 488, r36_5, b36_rlllrlrrr, kq_skip c36 1954, kq_seq c36 489, F36_lrllrlrrr_eq, r36_6, kq_exit c36 1955 0, ih, reduceIte, reduceCtorEq, XE.exit.injEq, Nat.reduceEqDiff, Nat.reduceMul, Nat.reduceAdd] <;> kernel_rfl
theorem F36_lrlrrr_eq  : kCode env 36 false inv k (cp c36 122) (act 42 [(0, x0), (1, x1), (5, x5), (6, x6)]) h K = F36_lrlrrr inv k k x0 x1 x5 x6 h (fun y0 y1 y5 y6 y19 h => K (.exit 0) (act 42 [(0, y0), (1, y1), (5, y5), (6, y6), (19, y19)]) h) := kq_loop (F36_lrlrrr_j k)
theorem r36_11  : kCode env 36 false inv k (cp c36 62) (act 42 [(0, x0), (1, x1), (5, x5), (6, x6), (19, x19)]) h K =
    bnd (pSlice Try.prog 23 x0 (some x5) none none h) fun x38 =>
    bnd (kSt (pClear Try.prog #[23] x38 h)) fun u =>
    K .normal (act 42 [(0, x0), (5, x5)]) u.2 := kq_reg
theorem r36_12  : kCode env 36 false inv k (cp c36 126) (act 42 [(0, x0), (5, x5)]) h K =
    bnd (pSlice Try.prog 23 x0 none (some x5) none h) fun x41 =>
    K .normal (act 42 [(4, x41)]) h := kq_reg
/-- slices.DeleteFunc[[][]shadowbook/api.Cell,[]shadowbook/api.Cell] -/
noncomputable def F36 (inv : Inv) (k : Nat) (x0 x1 : Value) (h : AH) : Option (Value × AH) :=
    bnd (inv (.func 60) #[] #[x0, x1] h) fun x10 =>
    bnd (pBin Try.prog .eql 3 (.tmp 11) (.const (.int .i64 (-1))) x10.1 (.int .i64 (-1))) fun x12 =>
    brV x12
    (some (x0, x10.2))
    (bnd (pBin Try.prog .add 3 (.tmp 14) (.const (.int .i64 1)) x10.1 (.int .i64 1)) fun x15 =>
    F36_lrlrrr inv k k x0 x1 x10.1 x15 x10.2
    (fun y0 y1 y5 y6 y19 h =>
    bnd (pSlice Try.prog 23 y0 (some y5) none none h) fun x38 =>
    bnd (kSt (pClear Try.prog #[23] x38 h)) fun u =>
    bnd (pSlice Try.prog 23 y0 none (some y5) none u.2) fun x41 =>
    some (x41, u.2)))
theorem F36_eq : eFun env k inv 36 #[x0, x1] h = F36 inv k x0 x1 h := by
      refine (kq_fun (a := act 42 [(0, x0), (1, x1)]) (c := cp c36 1)).trans ?_
      unfold F36
      simp only [kq_seq c36 1, r36_0, kq_seq c36 3, r36_1, kq_seq c36 7, kq_seq c36 14, r36_2, b36_rlrr, kq_seq c36 58, r36_3, kq_ret c36 117, res36_0, kq_skip c36 59, kq_seq c36 15, kq_seq c36 30, r36_4, kq_block c36 61 0, F36_lrlrrr_eq, kq_seq c36 31, r36_11, kq_seq c36 63, r36_12, kq_ret c36 127, reduceIte, reduceCtorEq, XE.exit.injEq, Nat.reduceEqDiff, Nat.reduceMul, Nat.reduceAdd] <;> kernel_rfl
theorem F36_call : eInv env (k + 1) (.func 36) #[] #[x0, x1] h = F36 (eInv env k) k x0 x1 h := kq_inv F36_eq
noncomputable def c37 : Code := codeOf Try.prog 37
theorem r37_0  : kCode env 37 false inv k (cp c37 2) (act 8 [(0, x0), (1, x1)]) h K =
    K .normal (act 8 [(0, x0), (1, x1)]) h := kq_reg
theorem r37_1  : kCode env 37 false inv k (cp c37 6) (act 8 [(0, x0), (1, x1)]) h K =
    bnd (pFieldAddr Try.prog 39 x1 2) fun x4 =>
    bnd (pLoad Try.prog 35 x4 h) fun x5 =>
    bnd (inv (.func 38) #[] #[x5, x0] h) fun x7 =>
    K .normal (act 8 [(3, x7.1)]) x7.2 := kq_reg
theorem res37_0 : resOfFn env.P 37 .ret (act 8 [(3, x3)]) h = some (x3, h) := kq_res
/-- shadowbook/batch.One$1 -/
noncomputable def F37 (inv : Inv) (k : Nat) (x0 x1 : Value) (h : AH) : Option (Value × AH) :=
    bnd (pFieldAddr Try.prog 39 x1 2) fun x4 =>
    bnd (pLoad Try.prog 35 x4 h) fun x5 =>
    bnd (inv (.func 38) #[] #[x5, x0] h) fun x7 =>
    some (x7.1, x7.2)
theorem F37_eq : eFun env k inv 37 #[x0, x1] h = F37 inv k x0 x1 h := by
      refine (kq_fun (a := act 8 [(0, x0), (1, x1)]) (c := cp c37 1)).trans ?_
      unfold F37
      simp only [kq_seq c37 1, r37_0, kq_seq c37 3, r37_1, kq_ret c37 7, res37_0, reduceIte, reduceCtorEq, XE.exit.injEq, Nat.reduceEqDiff, Nat.reduceMul, Nat.reduceAdd] <;> kernel_rfl
theorem F37_call : eInv env (k + 1) (.func 37) #[] #[x0, x1] h = F37 (eInv env k) k x0 x1 h := kq_inv F37_eq
noncomputable def c38 : Code := codeOf Try.prog 38
theorem r38_0  : kCode env 38 false inv k (cp c38 2) (act 11 [(0, x0), (1, x1)]) h K =
    bnd (pBox Try.prog 37 x1 h) fun x3 =>
    K .normal (act 11 [(0, x0), (3, x3.1)]) x3.2 := kq_reg
theorem r38_1  : kCode env 38 false inv k (cp c38 12) (act 11 [(0, x0), (3, x3)]) h K =
    bnd (pLen Try.prog #[35] x0 h) fun x6 =>
    bnd (pBin Try.prog .eql 3 (.tmp 6) (.const (.int .i64 0)) x6 (.int .i64 0)) fun x7 =>
    K .normal (act 11 [(0, x0), (3, x3), (7, x7)]) h := kq_reg
theorem b38_rlr  : kCode env 38 false inv k (cp c38 13) (act 11 [(0, x0), (3, x3), (7, x7)]) h K = brV x7 (kCode env 38 false inv k (cp c38 26) (act 11 [(0, x0), (3, x3), (7, x7)]) h K) (kCode env 38 false inv k (cp c38 27) (act 11 [(0, x0), (3, x3), (7, x7)]) h K) := kq_cond
theorem r38_2  : kCode env 38 false inv k (cp c38 52) (act 11 [(0, x0), (3, x3), (7, x7)]) h K =
    K .normal (act 11 [(4, (.bool true))]) h := kq_reg
theorem res38_0 : resOfFn env.P 38 .ret (act 11 [(4, x4)]) h = some (x4, h) := kq_res
theorem r38_3  : kCode env 38 false inv k (cp c38 14) (act 11 [(0, x0), (3, x3), (7, x7)]) h K =
    bnd (pMakeFunc (.func 62) #[] #[x3]) fun x9 =>
    bnd (inv (.func 61) #[] #[x0, (.bool false), x9] h) fun x10 =>
    K .normal (act 11 [(4, x10.1)]) x10.2 := kq_reg
/-- shadowbook/pred.Holds -/
noncomputable def F38 (inv : Inv) (k : Nat) (x0 x1 : Value) (h : AH) : Option (Value × AH) :=
    bnd (pBox Try.prog 37 x1 h) fun x3 =>
    bnd (pLen Try.prog #[35] x0 x3.2) fun x6 =>
    bnd (pBin Try.prog .eql 3 (.tmp 6) (.const (.int .i64 0)) x6 (.int .i64 0)) fun x7 =>
    brV x7
    (some ((.bool true), x3.2))
    (bnd (pMakeFunc (.func 62) #[] #[x3.1]) fun x9 =>
    bnd (inv (.func 61) #[] #[x0, (.bool false), x9] x3.2) fun x10 =>
    some (x10.1, x10.2))
theorem F38_eq : eFun env k inv 38 #[x0, x1] h = F38 inv k x0 x1 h := by
      refine (kq_fun (a := act 11 [(0, x0), (1, x1)]) (c := cp c38 1)).trans ?_
      unfold F38
      simp only [kq_seq c38 1, r38_0, kq_seq c38 3, kq_seq c38 6, r38_1, b38_rlr, kq_seq c38 26, r38_2, kq_ret c38 53, res38_0, kq_skip c38 27, kq_seq c38 7, r38_3, kq_ret c38 15, reduceIte, reduceCtorEq, XE.exit.injEq, Nat.reduceEqDiff, Nat.reduceMul, Nat.reduceAdd] <;> kernel_rfl
theorem F38_call : eInv env (k + 1) (.func 38) #[] #[x0, x1] h = F38 (eInv env k) k x0 x1 h := kq_inv F38_eq
noncomputable def c39 : Code := codeOf Try.prog 39
theorem r39_0  : kCode env 39 false inv k (cp c39 2) (act 38 [(0, x0), (1, x1)]) h K =
    bnd (pBox Try.prog 39 x1 h) fun x3 =>
    K .normal (act 38 [(0, x0), (3, x3.1)]) x3.2 := kq_reg
theorem r39_1  : kCode env 39 false inv k (cp c39 6) (act 38 [(0, x0), (3, x3)]) h K =
    bnd (pFieldAddr Try.prog 39 x3 3) fun x6 =>
    bnd (pLoad Try.prog 36 x6 h) fun x7 =>
    bnd (pLen Try.prog #[36] x7 h) fun x8 =>
    K .normal (act 38 [(0, x0), (3, x3), (7, x7), (8, x8), (9, (.int .i64 0))]) h := kq_reg
theorem r39_2  : kCode env 39 false inv k (cp c39 56) (act 38 [(0, x0), (3, x3), (7, x7), (8, x8), (9, x9)]) h K =
    bnd (pBin Try.prog .lss 3 (.tmp 9) (.tmp 8) x9 x8) fun x10 =>
    K .normal (act 38 [(0, x0), (3, x3), (7, x7), (8, x8), (9, x9), (10, x10)]) h := kq_reg
theorem b39_lrllrr  : kCode env 39 false inv k (cp c39 114) (act 38 [(0, x0), (3, x3), (7, x7), (8, x8), (9, x9), (10, x10)]) h K = brV x10 (kCode env 39 false inv k (cp c39 228) (act 38 [(0, x0), (3, x3), (7, x7), (8, x8), (9, x9), (10, x10)]) h K) (kCode env 39 false inv k (cp c39 229) (act 38 [(0, x0), (3, x3), (7, x7), (8, x8), (9, x9), (10, x10)]) h K) := kq_cond
theorem r39_3  : kCode env 39 false inv k (cp c39 920) (act 38 [(0, x0), (3, x3), (7, x7), (8, x8), (9, x9), (10, x10)]) h K =
    bnd (pIndexAddr Try.prog 36 x7 x9) fun x12 =>
    bnd (pLoad Try.prog 3 x12 h) fun x13 =>
    K .normal (act 38 [(0, x0), (3, x3), (4, x9), (5, x13), (7, x7), (8, x8), (9, x9)]) h := kq_reg
noncomputable abbrev G39_4 {β : Type} (inv : Inv) (x0 x3 x4 x5 x7 x8 x9 : Value) (h : AH) (K : Value → AH → Option β) : Option β :=
    bnd (pFieldAddr Try.prog 39 x3 4) fun x15 =>
    bnd (pLoad Try.prog 37 x15 h) fun x16 =>
    bnd (pLen Try.prog #[37] x16 h) fun x17 =>
    bnd (pBin Try.prog .lss 3 (.tmp 14) (.tmp 17) x4 x17) fun x18 =>
    bnd (gd (some x18) true h (some (x5, h))) fun x20 =>
    bnd (gd (some x18) true x20.2 (lt (pBin Try.prog .geq 3 (.tmp 20) (.const (.int .i64 0)) x20.1 (.int .i64 0)) x20.2)) fun x21 =>
    bnd (pickV x18 x21.1 (.bool false)) fun x22 =>
    bnd (gd (some x22) true x21.2 (some (x5, x21.2))) fun x24 =>
    bnd (gd (some x22) true x24.2 (some (x0, x24.2))) fun x25 =>
    bnd (gd (some x22) true x25.2 (lt (pLen Try.prog #[37] x25.1 x25.2) x25.2)) fun x26 =>
    bnd (gd (some x22) true x26.2 (lt (pBin Try.prog .lss 3 (.tmp 24) (.tmp 26) x24.1 x26.1) x26.2)) fun x27 =>
    bnd (pickV x22 x27.1 (.bool false)) fun x28 =>
    K (x28) x27.2
theorem r39_4  : kCode env 39 false inv k (cp c39 1842) (act 38 [(0, x0), (3, x3), (4, x4), (5, x5), (7, x7), (8, x8), (9, x9)]) h K =
    G39_4 inv x0 x3 x4 x5 x7 x8 x9 h fun y28 h => K .normal (act 38 [(0, x0), (3, x3), (4, x4), (5, x5), (7, x7), (8, x8), (9, x9), (28, y28)]) h := kq_reg
theorem b39_rrllrrllrr  : kCode env 39 false inv k (cp c39 1843) (act 38 [(0, x0), (3, x3), (4, x4), (5, x5), (7, x7), (8, x8), (9, x9), (28, x28)]) h K = brV x28 (kCode env 39 false inv k (cp c39 3686) (act 38 [(0, x0), (3, x3), (4, x4), (5, x5), (7, x7), (8, x8), (9, x9), (28, x28)]) h K) (kCode env 39 false inv k (cp c39 3687) (act 38 [(0, x0), (3, x3), (4, x4), (5, x5), (7, x7), (8, x8), (9, x9), (28, x28)]) h K) := kq_cond
theorem r39_5  : kCode env 39 false inv k (cp c39 3686) (act 38 [(0, x0), (3, x3), (4, x4), (5, x5), (7, x7), (8, x8), (9, x9), (28, x28)]) h K =
    bnd (pFieldAddr Try.prog 39 x3 4) fun x31 =>
    bnd (pLoad Try.prog 37 x31 h) fun x32 =>
    bnd (pIndexAddr Try.prog 37 x32 x4) fun x34 =>
    bnd (pLoad Try.prog 45 x34 h) fun x35 =>
    bnd (pIndexAddr Try.prog 37 x0 x5) fun x36 =>
    bnd (kSt (pStore Try.prog 45 x36 x35 h)) fun u =>
    K .normal (act 38 [(0, x0), (3, x3), (7, x7), (8, x8), (9, x9)]) u.2 := kq_reg
noncomputable def F39_lrrllrr {β : Type} (inv : Inv) (k : Nat) (x0 x3 x7 x8 x9 x10 : Value) (h : AH) (kn : (Value → Value → Value → Value → Value → Value → Value → Value → AH → Option β)) : Option β :=
    bnd (pIndexAddr Try.prog 36 x7 x9) fun x12 =>
    bnd (pLoad Try.prog 3 x12 h) fun x13 =>
    G39_4 inv x0 x3 x9 x13 x7 x8 x9 h fun y28 h =>
    brV y28
    (bnd (pFieldAddr Try.prog 39 x3 4) fun x31 =>
    bnd (pLoad Try.prog 37 x31 h) fun x32 =>
    bnd (pIndexAddr Try.prog 37 x32 x9) fun x34 =>
    bnd (pLoad Try.prog 45 x34 h) fun x35 =>
    bnd (pIndexAddr Try.prog 37 x0 x13) fun x36 =>
    bnd (kSt (pStore Try.prog 45 x36 x35 h)) fun u =>
    kn x0 x3 unk unk x7 x8 x9 unk u.2)
    (kn x0 x3 x9 x13 x7 x8 x9 y28 h)
theorem F39_lrrllrr_eq  : kCode env 39 false inv k (cp c39 230) (act 38 [(0, x0), (3, x3), (7, x7), (8, x8), (9, x9), (10, x10)]) h K = F39_lrrllrr inv k x0 x3 x7 x8 x9 x10 h (fun y0 y3 y4 y5 y7 y8 y9 y28 h => K .normal (act 38 [(0, y0), (3, y3), (4, y4), (5, y5), (7, y7), (8, y8), (9, y9), (28, y28)]) h) := by
      unfold F39_lrrllrr
      simp only [kq_block c39 230 1, kq_seq c39 460, r39_3, kq_seq c39 921, r39_4, b39_rrllrrllrr, r39_5, kq_skip c39 3687, reduceIte, reduceCtorEq, XE.exit.injEq, Nat.reduceEqDiff, Nat.reduceMul, Nat.reduceAdd] <;> kernel_rfl
theorem r39_6  : kCode env 39 false inv k (cp c39 231) (act 38 [(0, x0), (3, x3), (4, x4), (5, x5), (7, x7), (8, x8), (9, x9), (28, x28)]) h K =
    bnd (pBin Try.prog .add 3 (.tmp 9) (.const (.int .i64 1)) x9 (.int .i64 1)) fun x37 =>
    K .normal (act 38 [(0, x0), (3, x3), (7, x7), (8, x8), (9, x37)]) h := kq_reg
noncomputable def F39_lrr {β : Type} (inv : Inv) (k : Nat) : Nat → Value → Value → Value → Value → Value → AH → (Value → Value → Value → Value → Value → Value → AH → Option β) → Option β
  | 0, _, _, _, _, _, _, _ => none
  | j + 1, x0, x3, x7, x8, x9, h, ke0 =>
    bnd (pBin Try.prog .lss 3 (.tmp 9) (.tmp 8) x9 x8) fun x10 =>
    brV x10
    (F39_lrrllrr inv k x0 x3 x7 x8 x9 x10 h
    (fun y0 y3 y4 y5 y7 y8 y9 y28 h =>
    bnd (pBin Try.prog .add 3 (.tmp 9) (.const (.int .i64 1)) y9 (.int .i64 1)) fun x37 =>
    F39_lrr inv k j y0 y3 y7 y8 x37 h ke0))
    (ke0 x0 x3 x7 x8 x9 x10 h)
theorem F39_lrr_j (j : Nat) : kLoop (kCode env 39 false inv k (cp c39 28)) j (act 38 [(0, x0), (3, x3), (7, x7), (8, x8), (9, x9)]) h K = F39_lrr inv k j x0 x3 x7 x8 x9 h (fun y0 y3 y7 y8 y9 y10 h => K (.exit 0) (act 38 [(0, y0), (3, y3), (7, y7), (8, y8), (9, y9), (10, y10)]) h) := by
      induction j generalizing x0 x3 x7 x8 x9 h with
      | zero => rfl
      | succ j ih =>
        unfold F39_lrr
        simp only [kLoop, kq_seq c39 28, r39_2, kq_seq c39 57, b39_lrllrr, kq_skip c39 228, kq_seq c39 115, F39_lrrllrr_eq, r39_6, kq_exit c39 229 0, ih, reduceIte, reduceCtorEq, XE.exit.injEq, Nat.reduceEqDiff, Nat.reduceMul, Nat.reduceAdd] <;> kernel_rfl
theorem F39_lrr_eq  : kCode env 39 false inv k (cp c39 14) (act 38 [(0, x0), (3, x3), (7, x7), (8, x8), (9, x9)]) h K = F39_lrr inv k k x0 x3 x7 x8 x9 h (fun y0 y3 y7 y8 y9 y10 h => K (.exit 0) (act 38 [(0, y0), (3, y3), (7, y7), (8, y8), (9, y9), (10, y10)]) h) := kq_loop (F39_lrr_j k)
theorem res39_0 : resOfFn env.P 39 .normal (act 38 [(0, x0), (3, x3), (7, x7), (8, x8), (9, x9), (10, x10)]) h = some (.tuple #[], h) := kq_res
/-- shadowbook/batch.set -/
noncomputable def F39 (inv : Inv) (k : Nat) (x0 x1 : Value) (h : AH) : Option (Value × AH) :=
    bnd (pBox Try.prog 39 x1 h) fun x3 =>
    bnd (pFieldAddr Try.prog 39 x3.1 3) fun x6 =>
    bnd (pLoad Try.prog 36 x6 x3.2) fun x7 =>
    bnd (pLen Try.prog #[36] x7 x3.2) fun x8 =>
    F39_lrr inv k k x0 x3.1 x7 x8 (.int .i64 0) x3.2
    (fun y0 y3 y7 y8 y9 y10 h =>
    some (.tuple #[], h))
theorem F39_eq : eFun env k inv 39 #[x0, x1] h = F39 inv k x0 x1 h := by
      refine (kq_fun (a := act 38 [(0, x0), (1, x1)]) (c := cp c39 1)).trans ?_
      unfold F39
      simp only [kq_seq c39 1, r39_0, kq_seq c39 3, r39_1, kq_block c39 7 0, F39_lrr_eq, res39_0, reduceIte, reduceCtorEq, XE.exit.injEq, Nat.reduceEqDiff, Nat.reduceMul, Nat.reduceAdd] <;> kernel_rfl
theorem F39_call : eInv env (k + 1) (.func 39) #[] #[x0, x1] h = F39 (eInv env k) k x0 x1 h := kq_inv F39_eq
noncomputable def c41 : Code := codeOf Try.prog 41
theorem r41_0  : kCode env 41 false inv k (cp c41 2) (act 9 [(0, x0)]) h K =
    K .normal (act 9 [(0, x0)]) h := kq_reg
noncomputable abbrev G41_1 {β : Type} (inv : Inv) (x0 : Value) (h : AH) (K : Value → AH → Option β) : Option β :=
    bnd (pBin Try.prog .geq 3 (.tmp 3) (.const (.int .i64 2)) x0 (.int .i64 2)) fun x4 =>
    bnd (gd (some x4) true h (some (x0, h))) fun x6 =>
    bnd (gd (some x4) true x6.2 (lt (pBin Try.prog .leq 3 (.tmp 6) (.const (.int .i64 5)) x6.1 (.int .i64 5)) x6.2)) fun x7 =>
    bnd (pickV x4 x7.1 (.bool false)) fun x8 =>
    K (x8) x7.2
theorem r41_1  : kCode env 41 false inv k (cp c41 6) (act 9 [(0, x0)]) h K =
    G41_1 inv x0 h fun y2 h => K .normal (act 9 [(2, y2)]) h := kq_reg
theorem res41_0 : resOfFn env.P 41 .ret (act 9 [(2, x2)]) h = some (x2, h) := kq_res
/-- shadowbook/shadowbookref18.compares -/
noncomputable def F41 (inv : Inv) (k : Nat) (x0 : Value) (h : AH) : Option (Value × AH) :=
    G41_1 inv x0 h fun y2 h =>
    some (y2, h)
theorem F41_eq : eFun env k inv 41 #[x0] h = F41 inv k x0 h := by
      refine (kq_fun (a := act 9 [(0, x0)]) (c := cp c41 1)).trans ?_
      unfold F41
      simp only [kq_seq c41 1, r41_0, kq_seq c41 3, r41_1, kq_ret c41 7, res41_0, reduceIte, reduceCtorEq, XE.exit.injEq, Nat.reduceEqDiff, Nat.reduceMul, Nat.reduceAdd] <;> kernel_rfl
theorem F41_call : eInv env (k + 1) (.func 41) #[] #[x0] h = F41 (eInv env k) k x0 h := kq_inv F41_eq
noncomputable def c43 : Code := codeOf Try.prog 43
theorem r43_0  : kCode env 43 false inv k (cp c43 2) (act 56 [(0, x0)]) h K =
    K .normal (act 56 [(0, x0)]) h := kq_reg
noncomputable abbrev G43_1 {β : Type} (inv : Inv) (x0 : Value) (h : AH) (K : Value → AH → Option β) : Option β :=
    bnd (pLen Try.prog #[22] x0 h) fun x6 =>
    bnd (pBin Try.prog .lss 3 (.tmp 6) (.const (.int .i64 1)) x6 (.int .i64 1)) fun x7 =>
    bnd (gd (some x7) false h (some (x0, h))) fun x9 =>
    bnd (gd (some x7) false x9.2 (lt (pLen Try.prog #[22] x9.1 x9.2) x9.2)) fun x10 =>
    bnd (gd (some x7) false x10.2 (lt (pBin Try.prog .gtr 3 (.tmp 10) (.const (.int .i64 16)) x10.1 (.int .i64 16)) x10.2)) fun x11 =>
    bnd (pickV x7 (.bool true) x11.1) fun x12 =>
    K (x12) x11.2
theorem r43_1  : kCode env 43 false inv k (cp c43 12) (act 56 [(0, x0)]) h K =
    G43_1 inv x0 h fun y12 h => K .normal (act 56 [(0, x0), (12, y12)]) h := kq_reg
theorem b43_rlr  : kCode env 43 false inv k (cp c43 13) (act 56 [(0, x0), (12, x12)]) h K = brV x12 (kCode env 43 false inv k (cp c43 26) (act 56 [(0, x0), (12, x12)]) h K) (kCode env 43 false inv k (cp c43 27) (act 56 [(0, x0), (12, x12)]) h K) := kq_cond
theorem r43_2  : kCode env 43 false inv k (cp c43 52) (act 56 [(0, x0), (12, x12)]) h K =
    K .normal (act 56 [(2, (.int .i64 171))]) h := kq_reg
theorem res43_0 : resOfFn env.P 43 .ret (act 56 [(2, x2)]) h = some (x2, h) := kq_res
theorem r43_3  : kCode env 43 false inv k (cp c43 28) (act 56 [(0, x0), (12, x12)]) h K =
    K .normal (act 56 [(0, x0), (3, (.int .i64 0))]) h := kq_reg
theorem r43_4  : kCode env 43 false inv k (cp c43 464) (act 56 [(0, x0), (3, x3)]) h K =
    bnd (pLen Try.prog #[22] x0 h) fun x15 =>
    bnd (pBin Try.prog .lss 3 (.tmp 13) (.tmp 15) x3 x15) fun x16 =>
    K .normal (act 56 [(0, x0), (3, x3), (16, x16)]) h := kq_reg
theorem b43_rlllrlrr  : kCode env 43 false inv k (cp c43 465) (act 56 [(0, x0), (3, x3), (16, x16)]) h K = brV x16 (kCode env 43 false inv k (cp c43 930) (act 56 [(0, x0), (3, x3), (16, x16)]) h K) (kCode env 43 false inv k (cp c43 931) (act 56 [(0, x0), (3, x3), (16, x16)]) h K) := kq_cond
theorem r43_6  : kCode env 43 false inv k (cp c43 3728) (act 56 [(0, x0), (3, x3), (16, x16)]) h K =
    bnd (pIndexAddr Try.prog 22 x0 x3) fun x21 =>
    bnd (pFieldAddr Try.prog 80 x21 0) fun x22 =>
    bnd (pLoad Try.prog 9 x22 h) fun x23 =>
    bnd (inv (.func 67) #[] #[x23] h) fun x24 =>
    bnd (pBin Try.prog .neq 27 (.tmp 24) (.const (.int .i64 0)) x24.1 (.int .i64 0)) fun x25 =>
    K .normal (act 56 [(0, x0), (3, x3), (25, x25)]) x24.2 := kq_reg
theorem b43_rlllrllrlrr  : kCode env 43 false inv k (cp c43 3729) (act 56 [(0, x0), (3, x3), (25, x25)]) h K = brV x25 (kCode env 43 false inv k (cp c43 7458) (act 56 [(0, x0), (3, x3), (25, x25)]) h K) (kCode env 43 false inv k (cp c43 7459) (act 56 [(0, x0), (3, x3), (25, x25)]) h K) := kq_cond
theorem r43_7  : kCode env 43 false inv k (cp c43 14916) (act 56 [(0, x0), (3, x3), (25, x25)]) h K =
    K .normal (act 56 [(2, (.int .i64 170))]) h := kq_reg
noncomputable abbrev G43_8 {β : Type} (inv : Inv) (x0 x3 : Value) (h : AH) (K : Value → AH → Option β) : Option β :=
    bnd (pIndexAddr Try.prog 22 x0 x3) fun x28 =>
    bnd (pFieldAddr Try.prog 80 x28 1) fun x29 =>
    bnd (pLoad Try.prog 3 x29 h) fun x30 =>
    bnd (pBin Try.prog .lss 3 (.tmp 30) (.const (.int .i64 1)) x30 (.int .i64 1)) fun x31 =>
    bnd (gd (some x31) false h (some (x0, h))) fun x33 =>
    bnd (gd (some x31) false x33.2 (some (x3, x33.2))) fun x34 =>
    bnd (gd (some x31) false x34.2 (lt (pIndexAddr Try.prog 22 x33.1 x34.1) x34.2)) fun x35 =>
    bnd (gd (some x31) false x35.2 (lt (pFieldAddr Try.prog 80 x35.1 1) x35.2)) fun x36 =>
    bnd (gd (some x31) false x36.2 (lt (pLoad Try.prog 3 x36.1 x36.2) x36.2)) fun x37 =>
    bnd (gd (some x31) false x37.2 (lt (pBin Try.prog .gtr 3 (.tmp 37) (.const (.int .i64 3)) x37.1 (.int .i64 3)) x37.2)) fun x38 =>
    bnd (pickV x31 (.bool true) x38.1) fun x39 =>
    K (x39) x38.2
theorem r43_8  : kCode env 43 false inv k (cp c43 7460) (act 56 [(0, x0), (3, x3), (25, x25)]) h K =
    G43_8 inv x0 x3 h fun y39 h => K .normal (act 56 [(0, x0), (3, x3), (39, y39)]) h := kq_reg
theorem b43_rlrllrllrlrr  : kCode env 43 false inv k (cp c43 7461) (act 56 [(0, x0), (3, x3), (39, x39)]) h K = brV x39 (kCode env 43 false inv k (cp c43 14922) (act 56 [(0, x0), (3, x3), (39, x39)]) h K) (kCode env 43 false inv k (cp c43 14923) (act 56 [(0, x0), (3, x3), (39, x39)]) h K) := kq_cond
theorem r43_9  : kCode env 43 false inv k (cp c43 29844) (act 56 [(0, x0), (3, x3), (39, x39)]) h K =
    K .normal (act 56 [(2, (.int .i64 171))]) h := kq_reg
theorem r43_10  : kCode env 43 false inv k (cp c43 7462) (act 56 [(0, x0), (3, x3), (39, x39)]) h K =
    K .normal (act 56 [(0, x0), (3, x3), (4, (.int .i64 0))]) h := kq_reg
theorem r43_11  : kCode env 43 false inv k (cp c43 119408) (act 56 [(0, x0), (3, x3), (4, x4)]) h K =
    bnd (pBin Try.prog .lss 3 (.tmp 40) (.tmp 41) x4 x3) fun x42 =>
    K .normal (act 56 [(0, x0), (3, x3), (4, x4), (42, x42)]) h := kq_reg
theorem b43_rlllrrrllrllrlrr  : kCode env 43 false inv k (cp c43 119409) (act 56 [(0, x0), (3, x3), (4, x4), (42, x42)]) h K = brV x42 (kCode env 43 false inv k (cp c43 238818) (act 56 [(0, x0), (3, x3), (4, x4), (42, x42)]) h K) (kCode env 43 false inv k (cp c43 238819) (act 56 [(0, x0), (3, x3), (4, x4), (42, x42)]) h K) := kq_cond
theorem r43_13  : kCode env 43 false inv k (cp c43 477640) (act 56 [(0, x0), (3, x3), (4, x4), (42, x42)]) h K =
    bnd (pIndexAddr Try.prog 22 x0 x4) fun x47 =>
    bnd (pFieldAddr Try.prog 80 x47 0) fun x48 =>
    bnd (pLoad Try.prog 9 x48 h) fun x49 =>
    bnd (pIndexAddr Try.prog 22 x0 x3) fun x52 =>
    bnd (pFieldAddr Try.prog 80 x52 0) fun x53 =>
    bnd (pLoad Try.prog 9 x53 h) fun x54 =>
    bnd (pBin Try.prog .eql 9 (.tmp 49) (.tmp 54) x49 x54) fun x55 =>
    K .normal (act 56 [(0, x0), (3, x3), (4, x4), (55, x55)]) h := kq_draw
theorem b43_rllrllrrrllrllrlrr  : kCode env 43 false inv k (cp c43 477641) (act 56 [(0, x0), (3, x3), (4, x4), (55, x55)]) h K = brV x55 (kCode env 43 false inv k (cp c43 955282) (act 56 [(0, x0), (3, x3), (4, x4), (55, x55)]) h K) (kCode env 43 false inv k (cp c43 955283) (act 56 [(0, x0), (3, x3), (4, x4), (55, x55)]) h K) := kq_cond
theorem r43_14  : kCode env 43 false inv k (cp c43 1910564) (act 56 [(0, x0), (3, x3), (4, x4), (55, x55)]) h K =
    K .normal (act 56 [(2, (.int .i64 171))]) h := kq_reg
theorem r43_12  : kCode env 43 false inv k (cp c43 119411) (act 56 [(0, x0), (3, x3), (4, x4), (55, x55)]) h K =
    bnd (pBin Try.prog .add 3 (.tmp 43) (.const (.int .i64 1)) x4 (.int .i64 1)) fun x44 =>
    K .normal (act 56 [(0, x0), (3, x3), (4, x44)]) h := kq_reg
noncomputable def F43_lrrrllrllrlrr {β : Type} (inv : Inv) (k : Nat) : Nat → Value → Value → Value → AH → (Value → Value → Value → Value → AH → Option β) → (Value → AH → Option β) → Option β
  | 0, _, _, _, _, _, _ => none
  | j + 1, x0, x3, x4, h, ke2, kr =>
    bnd (pBin Try.prog .lss 3 (.tmp 40) (.tmp 41) x4 x3) fun x42 =>
    brV x42
    (bnd (pIndexAddr Try.prog 22 x0 x4) fun x47 =>
    bnd (pFieldAddr Try.prog 80 x47 0) fun x48 =>
    bnd (pLoad Try.prog 9 x48 h) fun x49 =>
    bnd (pIndexAddr Try.prog 22 x0 x3) fun x52 =>
    bnd (pFieldAddr Try.prog 80 x52 0) fun x53 =>
    bnd (pLoad Try.prog 9 x53 h) fun x54 =>
    bnd (pBin Try.prog .eql 9 (.tmp 49) (.tmp 54) x49 x54) fun x55 =>
    brV x55
    (kr (.int .i64 171) h)
    (bnd (pBin Try.prog .add 3 (.tmp 43) (.const (.int .i64 1)) x4 (.int .i64 1)) fun x44 =>
    F43_lrrrllrllrlrr inv k j x0 x3 x44 h ke2 kr))
    (ke2 x0 x3 x4 x42 h)
theorem F43_lrrrllrllrlrr_j (j : Nat) : kLoop (kCode env 43 false inv k (cp c43 29852)) j (act 56 [(0, x0), (3, x3), (4, x4)]) h K = F43_lrrrllrllrlrr inv k j x0 x3 x4 h (fun y0 y3 y4 y42 h => K (.exit 2) (act 56 [(0, y0), (3, y3), (4, y4), (42, y42)]) h) (fun y2 h => K .ret (act 56 [(2, y2)]) h) := by
      induction j generalizing x0 x3 x4 h with
      | zero => rfl
      | succ j ih =>
        unfold F43_lrrrllrllrlrr
        simp only [kLoop, kq_seq c43 29852, kq_seq c43 59704, r43_11, b43_rlllrrrllrllrlrr, kq_skip c43 238818, kq_seq c43 59705, kq_block c43 119410 3, kq_seq c43 238820, r43_13, b43_rllrllrrrllrllrlrr, kq_seq c43 955282, r43_14, kq_ret c43 1910565, kq_skip c43 955283, r43_12, kq_exit c43 238819 2, ih, reduceIte, reduceCtorEq, XE.exit.injEq, Nat.reduceEqDiff, Nat.reduceMul, Nat.reduceAdd] <;> kernel_rfl
theorem F43_lrrrllrllrlrr_eq  : kCode env 43 false inv k (cp c43 14926) (act 56 [(0, x0), (3, x3), (4, x4)]) h K = F43_lrrrllrllrlrr inv k k x0 x3 x4 h (fun y0 y3 y4 y42 h => K (.exit 2) (act 56 [(0, y0), (3, y3), (4, y4), (42, y42)]) h) (fun y2 h => K .ret (act 56 [(2, y2)]) h) := kq_loop (F43_lrrrllrllrlrr_j k)
theorem r43_5  : kCode env 43 false inv k (cp c43 467) (act 56 [(0, x0), (3, x3), (4, x4), (42, x42)]) h K =
    bnd (pBin Try.prog .add 3 (.tmp 17) (.const (.int .i64 1)) x3 (.int .i64 1)) fun x18 =>
    K .normal (act 56 [(0, x0), (3, x18)]) h := kq_reg
noncomputable def F43_lrlrr {β : Type} (inv : Inv) (k : Nat) : Nat → Value → Value → AH → (Value → Value → Value → AH → Option β) → (Value → AH → Option β) → Option β
  | 0, _, _, _, _, _ => none
  | j + 1, x0, x3, h, ke0, kr =>
    bnd (pLen Try.prog #[22] x0 h) fun x15 =>
    bnd (pBin Try.prog .lss 3 (.tmp 13) (.tmp 15) x3 x15) fun x16 =>
    brV x16
    (bnd (pIndexAddr Try.prog 22 x0 x3) fun x21 =>
    bnd (pFieldAddr Try.prog 80 x21 0) fun x22 =>
    bnd (pLoad Try.prog 9 x22 h) fun x23 =>
    bnd (inv (.func 67) #[] #[x23] h) fun x24 =>
    bnd (pBin Try.prog .neq 27 (.tmp 24) (.const (.int .i64 0)) x24.1 (.int .i64 0)) fun x25 =>
    brV x25
    (kr (.int .i64 170) x24.2)
    (G43_8 inv x0 x3 x24.2 fun y39 h =>
    brV y39
    (kr (.int .i64 171) h)
    (F43_lrrrllrllrlrr inv k k x0 x3 (.int .i64 0) h
    (fun y0 y3 y4 y42 h_1 =>
    bnd (pBin Try.prog .add 3 (.tmp 17) (.const (.int .i64 1)) y3 (.int .i64 1)) fun x18 =>
    F43_lrlrr inv k j y0 x18 h_1 ke0 kr)
    (fun y2 h_2 =>
    kr y2 h_2))))
    (ke0 x0 x3 x16 h)
theorem F43_lrlrr_j (j : Nat) : kLoop (kCode env 43 false inv k (cp c43 116)) j (act 56 [(0, x0), (3, x3)]) h K = F43_lrlrr inv k j x0 x3 h (fun y0 y3 y16 h => K (.exit 0) (act 56 [(0, y0), (3, y3), (16, y16)]) h) (fun y2 h => K .ret (act 56 [(2, y2)]) h) := by
      induction j generalizing x0 x3 h with
      | zero => rfl
      | succ j ih =>
        unfold F43_lrlrr
        simp only [kLoop, kq_seq c43 116, kq_seq c43 232, r43_4, b43_rlllrlrr, kq_skip c43 930, kq_seq c43 233, kq_block c43 466 1, kq_seq c43 932, kq_seq c43 1864, r43_6, b43_rlllrllrlrr, kq_seq c43 7458, r43_7, kq_ret c43 14917, kq_skip c43 7459, kq_seq c43 1865, kq_seq c43 3730, r43_8, b43_rlrllrllrlrr, kq_seq c43 14922, r43_9, kq_ret c43 29845, kq_skip c43 14923, kq_seq c43 3731, r43_10, kq_block c43 7463 2, F43_lrrrllrllrlrr_eq, r43_5, kq_exit c43 931 0, ih, reduceIte, reduceCtorEq, XE.exit.injEq, Nat.reduceEqDiff, Nat.reduceMul, Nat.reduceAdd] <;> kernel_rfl
theorem F43_lrlrr_eq  : kCode env 43 false inv k (cp c43 58) (act 56 [(0, x0), (3, x3)]) h K = F43_lrlrr inv k k x0 x3 h (fun y0 y3 y16 h => K (.exit 0) (act 56 [(0, y0), (3, y3), (16, y16)]) h) (fun y2 h => K .ret (act 56 [(2, y2)]) h) := kq_loop (F43_lrlrr_j k)
theorem r43_15  : kCode env 43 false inv k (cp c43 30) (act 56 [(0, x0), (3, x3), (16, x16)]) h K =
    K .normal (act 56 [(2, (.int .i64 0))]) h := kq_reg
/-- shadowbook/shadowbookref17.Check -/
noncomputable def F43 (inv : Inv) (k : Nat) (x0 : Value) (h : AH) : Option (Value × AH) :=
    G43_1 inv x0 h fun y12 h =>
    brV y12
    (some ((.int .i64 171), h))
    (F43_lrlrr inv k k x0 (.int .i64 0) h
    (fun y0 y3 y16 h_3 =>
    some ((.int .i64 0), h_3))
    (fun y2 h_4 =>
    some (y2, h_4)))
theorem F43_eq : eFun env k inv 43 #[x0] h = F43 inv k x0 h := by
      refine (kq_fun (a := act 56 [(0, x0)]) (c := cp c43 1)).trans ?_
      unfold F43
      simp only [kq_seq c43 1, r43_0, kq_seq c43 3, kq_seq c43 6, r43_1, b43_rlr, kq_seq c43 26, r43_2, kq_ret c43 53, res43_0, kq_skip c43 27, kq_seq c43 7, kq_seq c43 14, r43_3, kq_block c43 29 0, F43_lrlrr_eq, kq_seq c43 15, r43_15, kq_ret c43 31, reduceIte, reduceCtorEq, XE.exit.injEq, Nat.reduceEqDiff, Nat.reduceMul, Nat.reduceAdd] <;> kernel_rfl
theorem F43_call : eInv env (k + 1) (.func 43) #[] #[x0] h = F43 (eInv env k) k x0 h := kq_inv F43_eq
noncomputable def c44 : Code := codeOf Try.prog 44
theorem r44_0  : kCode env 44 false inv k (cp c44 2) (act 99 [(0, x0), (1, x1)]) h K =
    bnd (pBox Try.prog 59 x1 h) fun x3 =>
    K .normal (act 99 [(0, x0), (3, x3.1)]) x3.2 := kq_reg
noncomputable abbrev G44_1 {β : Type} (inv : Inv) (x0 x3 : Value) (h : AH) (K : Value → AH → Option β) : Option β :=
    bnd (pFieldAddr Try.prog 59 x3 0) fun x6 =>
    bnd (pLoad Try.prog 3 x6 h) fun x7 =>
    bnd (pBin Try.prog .eql 3 (.tmp 7) (.const (.int .i64 2)) x7 (.int .i64 2)) fun x8 =>
    bnd (gd (some x8) false h (lt (pFieldAddr Try.prog 59 x3 0) h)) fun x10 =>
    bnd (gd (some x8) false x10.2 (lt (pLoad Try.prog 3 x10.1 x10.2) x10.2)) fun x11 =>
    bnd (gd (some x8) false x11.2 (lt (pBin Try.prog .eql 3 (.tmp 11) (.const (.int .i64 3)) x11.1 (.int .i64 3)) x11.2)) fun x12 =>
    bnd (pickV x8 (.bool true) x12.1) fun x13 =>
    bnd (gd (some x13) false x12.2 (lt (pFieldAddr Try.prog 59 x3 0) x12.2)) fun x15 =>
    bnd (gd (some x13) false x15.2 (lt (pLoad Try.prog 3 x15.1 x15.2) x15.2)) fun x16 =>
    bnd (gd (some x13) false x16.2 (lt (pBin Try.prog .eql 3 (.tmp 16) (.const (.int .i64 4)) x16.1 (.int .i64 4)) x16.2)) fun x17 =>
    bnd (pickV x13 (.bool true) x17.1) fun x18 =>
    K (x18) x17.2
theorem r44_1  : kCode env 44 false inv k (cp c44 6) (act 99 [(0, x0), (3, x3)]) h K =
    G44_1 inv x0 x3 h fun y5 h => K .normal (act 99 [(0, x0), (3, x3), (5, y5)]) h := kq_reg
noncomputable abbrev G44_2 {β : Type} (inv : Inv) (x0 x3 x5 : Value) (h : AH) (K : Value → AH → Option β) : Option β :=
    bnd (pFieldAddr Try.prog 59 x3 0) fun x19 =>
    bnd (pLoad Try.prog 3 x19 h) fun x20 =>
    bnd (inv (.func 41) #[] #[x20] h) fun x21 =>
    bnd (gd (some x21.1) true x21.2 (lt (pFieldAddr Try.prog 59 x3 1) x21.2)) fun x23 =>
    bnd (gd (some x21.1) true x23.2 (lt (pLoad Try.prog 3 x23.1 x23.2) x23.2)) fun x24 =>
    bnd (gd (some x21.1) true x24.2 (lt (pBin Try.prog .lss 3 (.tmp 24) (.const (.int .i64 0)) x24.1 (.int .i64 0)) x24.2)) fun x25 =>
    bnd (gd (some x21.1) true x25.2 (some (x25.1, x25.2))) fun x26 =>
    bnd (gd (some x26.1) false x26.2 (lt (pFieldAddr Try.prog 59 x3 1) x26.2)) fun x27 =>
    bnd (gd (some x26.1) false x27.2 (lt (pLoad Try.prog 3 x27.1 x27.2) x27.2)) fun x28 =>
    bnd (gd (some x26.1) false x28.2 (some (x0, x28.2))) fun x29 =>
    bnd (gd (some x26.1) false x29.2 (lt (pLen Try.prog #[22] x29.1 x29.2) x29.2)) fun x30 =>
    bnd (gd (some x26.1) false x30.2 (lt (pBin Try.prog .geq 3 (.tmp 28) (.tmp 30) x28.1 x30.1) x30.2)) fun x31 =>
    bnd (gd (some x21.1) true x31.2 (lt (pickV x26.1 (.bool true) x31.1) x31.2)) fun x32 =>
    bnd (pickV x21.1 x32.1 (.bool false)) fun x33 =>
    bnd (gd (some x33) false x32.2 (lt (pFieldAddr Try.prog 59 x3 0) x32.2)) fun x35 =>
    bnd (gd (some x33) false x35.2 (lt (pLoad Try.prog 3 x35.1 x35.2) x35.2)) fun x36 =>
    bnd (gd (some x33) false x36.2 (inv (.func 41) #[] #[x36.1] x36.2)) fun x37 =>
    bnd (gd (some x33) false x37.2 (lt (pUn Try.prog .not x37.1) x37.2)) fun x38 =>
    bnd (gd (some x33) false x38.2 (some (x38.1, x38.2))) fun x39 =>
    bnd (gd (some x39.1) true x39.2 (lt (pFieldAddr Try.prog 59 x3 1) x39.2)) fun x40 =>
    bnd (gd (some x39.1) true x40.2 (lt (pLoad Try.prog 3 x40.1 x40.2) x40.2)) fun x41 =>
    bnd (gd (some x39.1) true x41.2 (lt (pBin Try.prog .neq 3 (.tmp 41) (.const (.int .i64 0)) x41.1 (.int .i64 0)) x41.2)) fun x42 =>
    bnd (gd (some x33) false x42.2 (lt (pickV x39.1 x42.1 (.bool false)) x42.2)) fun x43 =>
    bnd (pickV x33 (.bool true) x43.1) fun x44 =>
    bnd (gd (some x44) false x43.2 (some (x5, x43.2))) fun x46 =>
    bnd (gd (some x44) false x46.2 (lt (pUn Try.prog .not x46.1) x46.2)) fun x47 =>
    bnd (gd (some x44) false x47.2 (some (x47.1, x47.2))) fun x48 =>
    bnd (gd (some x48.1) true x48.2 (lt (pFieldAddr Try.prog 59 x3 2) x48.2)) fun x49 =>
    bnd (gd (some x48.1) true x49.2 (lt (pLoad Try.prog 45 x49.1 x49.2) x49.2)) fun x50 =>
    bnd (gd (some x48.1) true x50.2 (lt (pBuild Try.prog 45 #[]) x50.2)) fun x51 =>
    bnd (gd (some x48.1) true x51.2 (lt (pBin Try.prog .neq 45 (.tmp 50) (.tmp 51) x50.1 x51.1) x51.2)) fun x52 =>
    bnd (gd (some x44) false x52.2 (lt (pickV x48.1 x52.1 (.bool false)) x52.2)) fun x53 =>
    bnd (pickV x44 (.bool true) x53.1) fun x54 =>
    K (x54) x53.2
theorem r44_2  : kCode env 44 false inv k (cp c44 28) (act 99 [(0, x0), (3, x3), (5, x5)]) h K =
    G44_2 inv x0 x3 x5 h fun y54 h => K .normal (act 99 [(0, x0), (3, x3), (5, x5), (54, y54)]) h := kq_reg
theorem b44_rlrr  : kCode env 44 false inv k (cp c44 29) (act 99 [(0, x0), (3, x3), (5, x5), (54, x54)]) h K = brV x54 (kCode env 44 false inv k (cp c44 58) (act 99 [(0, x0), (3, x3), (5, x5), (54, x54)]) h K) (kCode env 44 false inv k (cp c44 59) (act 99 [(0, x0), (3, x3), (5, x5), (54, x54)]) h K) := kq_cond
theorem r44_3  : kCode env 44 false inv k (cp c44 116) (act 99 [(0, x0), (3, x3), (5, x5), (54, x54)]) h K =
    K .normal (act 99 [(4, (.bool false))]) h := kq_reg
theorem res44_0 : resOfFn env.P 44 .ret (act 99 [(4, x4)]) h = some (x4, h) := kq_res
noncomputable abbrev G44_4 {β : Type} (inv : Inv) (x0 x3 x5 : Value) (h : AH) (K : Value → AH → Option β) : Option β :=
    bnd (gd3 (some x5) true h (lt (pFieldAddr Try.prog 59 x3 2) h)) fun x57 =>
    bnd (gd3 (some x5) true x57.2.1 (lt (pLoad Try.prog 45 x57.1 x57.2.1) x57.2.1)) fun x58 =>
    bnd (gd3 (some x5) true x58.2.1 (inv (.func 68) #[] #[x58.1] x58.2.1)) fun x59 =>
    bnd (gd3 (some x5) true x59.2.1 (lt (pBin Try.prog .neq 27 (.tmp 59) (.const (.int .i64 0)) x59.1 (.int .i64 0)) x59.2.1)) fun x60 =>
    bnd (gd3 (some x5) true x60.2.1 (some (x60.1, x60.2.1))) fun x61 =>
    bnd (gd3 (some x61.1) false x61.2.1 (lt (pFieldAddr Try.prog 59 x3 2) x61.2.1)) fun x62 =>
    bnd (gd3 (some x61.1) false x62.2.1 (lt (pFieldAddr Try.prog 45 x62.1 0) x62.2.1)) fun x63 =>
    bnd (gd3 (some x61.1) false x63.2.1 (lt (pLoad Try.prog 3 x63.1 x63.2.1) x63.2.1)) fun x64 =>
    bnd (gd3 (some x61.1) false x64.2.1 (some (x0, x64.2.1))) fun x65 =>
    bnd (gd3 (some x61.1) false x65.2.1 (lt (pFieldAddr Try.prog 59 x3 1) x65.2.1)) fun x66 =>
    bnd (gd3 (some x61.1) false x66.2.1 (lt (pLoad Try.prog 3 x66.1 x66.2.1) x66.2.1)) fun x67 =>
    bnd (gd3 (some x61.1) false x67.2.1 (lt (pIndexAddr Try.prog 22 x65.1 x67.1) x67.2.1)) fun x68 =>
    bnd (gd3 (some x61.1) false x68.2.1 (lt (pFieldAddr Try.prog 80 x68.1 1) x68.2.1)) fun x69 =>
    bnd (gd3 (some x61.1) false x69.2.1 (lt (pLoad Try.prog 3 x69.1 x69.2.1) x69.2.1)) fun x70 =>
    bnd (gd3 (some x61.1) false x70.2.1 (lt (pBin Try.prog .neq 3 (.tmp 64) (.tmp 70) x64.1 x70.1) x70.2.1)) fun x71 =>
    bnd (gd3 (some x5) true x71.2.1 (lt (pickV x61.1 (.bool true) x71.1) x71.2.1)) fun x72 =>
    bnd (pickV x5 x72.1 (.bool false)) fun x73 =>
    K (x73) x72.2.1
theorem r44_4  : kCode env 44 false inv k (cp c44 60) (act 99 [(0, x0), (3, x3), (5, x5), (54, x54)]) h K =
    G44_4 inv x0 x3 x5 h fun y73 h => K .normal (act 99 [(3, x3), (73, y73)]) h := kq_draw
theorem b44_rlrrr  : kCode env 44 false inv k (cp c44 61) (act 99 [(3, x3), (73, x73)]) h K = brV x73 (kCode env 44 false inv k (cp c44 122) (act 99 [(3, x3), (73, x73)]) h K) (kCode env 44 false inv k (cp c44 123) (act 99 [(3, x3), (73, x73)]) h K) := kq_cond
theorem r44_5  : kCode env 44 false inv k (cp c44 244) (act 99 [(3, x3), (73, x73)]) h K =
    K .normal (act 99 [(4, (.bool false))]) h := kq_reg
theorem r44_6  : kCode env 44 false inv k (cp c44 124) (act 99 [(3, x3), (73, x73)]) h K =
    bnd (pFieldAddr Try.prog 59 x3 0) fun x74 =>
    bnd (pLoad Try.prog 3 x74 h) fun x75 =>
    K .normal (act 99 [(3, x3), (75, x75)]) h := kq_reg
theorem r44_7  : kCode env 44 false inv k (cp c44 1000) (act 99 [(3, x3), (75, x75)]) h K =
    bnd (pBin Try.prog .eql 3 (.tmp 75) (.const (.int .i64 1)) x75 (.int .i64 1)) fun x77 =>
    K .normal (act 99 [(3, x3), (75, x75), (76, x77)]) h := kq_reg
theorem b44_rllrlrrrr  : kCode env 44 false inv k (cp c44 1001) (act 99 [(3, x3), (75, x75), (76, x76)]) h K = brV x76 (kCode env 44 false inv k (cp c44 2002) (act 99 [(3, x3), (75, x75), (76, x76)]) h K) (kCode env 44 false inv k (cp c44 2003) (act 99 [(3, x3), (75, x75), (76, x76)]) h K) := kq_cond
theorem r44_8  : kCode env 44 false inv k (cp c44 4006) (act 99 [(3, x3), (75, x75), (76, x76)]) h K =
    bnd (pBin Try.prog .eql 3 (.tmp 75) (.const (.int .i64 2)) x75 (.int .i64 2)) fun x78 =>
    K .normal (act 99 [(3, x3), (75, x75), (76, x78)]) h := kq_reg
theorem b44_rrrllrlrrrr  : kCode env 44 false inv k (cp c44 4007) (act 99 [(3, x3), (75, x75), (76, x76)]) h K = brV x76 (kCode env 44 false inv k (cp c44 8014) (act 99 [(3, x3), (75, x75), (76, x76)]) h K) (kCode env 44 false inv k (cp c44 8015) (act 99 [(3, x3), (75, x75), (76, x76)]) h K) := kq_cond
theorem r44_9  : kCode env 44 false inv k (cp c44 16030) (act 99 [(3, x3), (75, x75), (76, x76)]) h K =
    bnd (pBin Try.prog .eql 3 (.tmp 75) (.const (.int .i64 3)) x75 (.int .i64 3)) fun x79 =>
    K .normal (act 99 [(3, x3), (75, x75), (76, x79)]) h := kq_reg
theorem b44_rrrrrllrlrrrr  : kCode env 44 false inv k (cp c44 16031) (act 99 [(3, x3), (75, x75), (76, x76)]) h K = brV x76 (kCode env 44 false inv k (cp c44 32062) (act 99 [(3, x3), (75, x75), (76, x76)]) h K) (kCode env 44 false inv k (cp c44 32063) (act 99 [(3, x3), (75, x75), (76, x76)]) h K) := kq_cond
theorem r44_10  : kCode env 44 false inv k (cp c44 64126) (act 99 [(3, x3), (75, x75), (76, x76)]) h K =
    bnd (pBin Try.prog .eql 3 (.tmp 75) (.const (.int .i64 4)) x75 (.int .i64 4)) fun x80 =>
    K .normal (act 99 [(3, x3), (75, x75), (76, x80)]) h := kq_reg
theorem b44_rrrrrrrllrlrrrr  : kCode env 44 false inv k (cp c44 64127) (act 99 [(3, x3), (75, x75), (76, x76)]) h K = brV x76 (kCode env 44 false inv k (cp c44 128254) (act 99 [(3, x3), (75, x75), (76, x76)]) h K) (kCode env 44 false inv k (cp c44 128255) (act 99 [(3, x3), (75, x75), (76, x76)]) h K) := kq_cond
theorem r44_11  : kCode env 44 false inv k (cp c44 128255) (act 99 [(3, x3), (75, x75), (76, x76)]) h K =
    bnd (pBin Try.prog .eql 3 (.tmp 75) (.const (.int .i64 5)) x75 (.int .i64 5)) fun x81 =>
    K .normal (act 99 [(3, x3), (75, x75), (76, x81)]) h := kq_reg
noncomputable def F44_rllrlrrrr {β : Type} (inv : Inv) (k : Nat) (x3 x75 x76 : Value) (h : AH) (kn : (Value → Value → Value → AH → Option β)) : Option β :=
    brV x76
    (kn x3 x75 x76 h)
    (bnd (pBin Try.prog .eql 3 (.tmp 75) (.const (.int .i64 2)) x75 (.int .i64 2)) fun x78 =>
    brV x78
    (kn x3 x75 x78 h)
    (bnd (pBin Try.prog .eql 3 (.tmp 75) (.const (.int .i64 3)) x75 (.int .i64 3)) fun x79 =>
    brV x79
    (kn x3 x75 x79 h)
    (bnd (pBin Try.prog .eql 3 (.tmp 75) (.const (.int .i64 4)) x75 (.int .i64 4)) fun x80 =>
    brV x80
    (kn x3 x75 x80 h)
    (bnd (pBin Try.prog .eql 3 (.tmp 75) (.const (.int .i64 5)) x75 (.int .i64 5)) fun x81 =>
    kn x3 x75 x81 h))))
theorem F44_rllrlrrrr_eq  : kCode env 44 false inv k (cp c44 1001) (act 99 [(3, x3), (75, x75), (76, x76)]) h K = F44_rllrlrrrr inv k x3 x75 x76 h (fun y3 y75 y76 h => K .normal (act 99 [(3, y3), (75, y75), (76, y76)]) h) := by
      unfold F44_rllrlrrrr
      simp only [b44_rllrlrrrr, kq_skip c44 2002, kq_seq c44 2003, r44_8, b44_rrrllrlrrrr, kq_skip c44 8014, kq_seq c44 8015, r44_9, b44_rrrrrllrlrrrr, kq_skip c44 32062, kq_seq c44 32063, r44_10, b44_rrrrrrrllrlrrrr, kq_skip c44 128254, r44_11, reduceIte, reduceCtorEq, XE.exit.injEq, Nat.reduceEqDiff, Nat.reduceMul, Nat.reduceAdd] <;> kernel_rfl
theorem b44_rlrlrrrr  : kCode env 44 false inv k (cp c44 501) (act 99 [(3, x3), (75, x75), (76, x76)]) h K = brV x76 (kCode env 44 false inv k (cp c44 1002) (act 99 [(3, x3), (75, x75), (76, x76)]) h K) (kCode env 44 false inv k (cp c44 1003) (act 99 [(3, x3), (75, x75), (76, x76)]) h K) := kq_cond
theorem r44_12  : kCode env 44 false inv k (cp c44 2004) (act 99 [(3, x3), (75, x75), (76, x76)]) h K =
    bnd (pFieldAddr Try.prog 59 x3 3) fun x82 =>
    bnd (pLoad Try.prog 36 x82 h) fun x83 =>
    bnd (pLen Try.prog #[36] x83 h) fun x84 =>
    bnd (pBin Try.prog .eql 3 (.tmp 84) (.const (.int .i64 0)) x84 (.int .i64 0)) fun x85 =>
    K .normal (act 99 [(4, x85)]) h := kq_reg
theorem r44_13  : kCode env 44 false inv k (cp c44 4012) (act 99 [(3, x3), (75, x75), (76, x76)]) h K =
    bnd (pBin Try.prog .eql 3 (.tmp 75) (.const (.int .i64 6)) x75 (.int .i64 6)) fun x87 =>
    K .normal (act 99 [(3, x3), (75, x75), (86, x87)]) h := kq_reg
theorem b44_rlrrlrlrrrr  : kCode env 44 false inv k (cp c44 4013) (act 99 [(3, x3), (75, x75), (86, x86)]) h K = brV x86 (kCode env 44 false inv k (cp c44 8026) (act 99 [(3, x3), (75, x75), (86, x86)]) h K) (kCode env 44 false inv k (cp c44 8027) (act 99 [(3, x3), (75, x75), (86, x86)]) h K) := kq_cond
theorem r44_14  : kCode env 44 false inv k (cp c44 8027) (act 99 [(3, x3), (75, x75), (86, x86)]) h K =
    bnd (pBin Try.prog .eql 3 (.tmp 75) (.const (.int .i64 7)) x75 (.int .i64 7)) fun x88 =>
    K .normal (act 99 [(3, x3), (75, x75), (86, x88)]) h := kq_reg
noncomputable def F44_rlrrlrlrrrr {β : Type} (inv : Inv) (k : Nat) (x3 x75 x86 : Value) (h : AH) (kn : (Value → Value → Value → AH → Option β)) : Option β :=
    brV x86
    (kn x3 x75 x86 h)
    (bnd (pBin Try.prog .eql 3 (.tmp 75) (.const (.int .i64 7)) x75 (.int .i64 7)) fun x88 =>
    kn x3 x75 x88 h)
theorem F44_rlrrlrlrrrr_eq  : kCode env 44 false inv k (cp c44 4013) (act 99 [(3, x3), (75, x75), (86, x86)]) h K = F44_rlrrlrlrrrr inv k x3 x75 x86 h (fun y3 y75 y86 h => K .normal (act 99 [(3, y3), (75, y75), (86, y86)]) h) := by
      unfold F44_rlrrlrlrrrr
      simp only [b44_rlrrlrlrrrr, kq_skip c44 8026, r44_14, reduceIte, reduceCtorEq, XE.exit.injEq, Nat.reduceEqDiff, Nat.reduceMul, Nat.reduceAdd] <;> kernel_rfl
theorem b44_rrrlrlrrrr  : kCode env 44 false inv k (cp c44 2007) (act 99 [(3, x3), (75, x75), (86, x86)]) h K = brV x86 (kCode env 44 false inv k (cp c44 4014) (act 99 [(3, x3), (75, x75), (86, x86)]) h K) (kCode env 44 false inv k (cp c44 4015) (act 99 [(3, x3), (75, x75), (86, x86)]) h K) := kq_cond
theorem r44_15  : kCode env 44 false inv k (cp c44 8028) (act 99 [(3, x3), (75, x75), (86, x86)]) h K =
    bnd (pFieldAddr Try.prog 59 x3 3) fun x89 =>
    bnd (pLoad Try.prog 36 x89 h) fun x90 =>
    bnd (pLen Try.prog #[36] x90 h) fun x91 =>
    bnd (pBin Try.prog .gtr 3 (.tmp 91) (.const (.int .i64 0)) x91 (.int .i64 0)) fun x92 =>
    K .normal (act 99 [(4, x92)]) h := kq_reg
theorem r44_16  : kCode env 44 false inv k (cp c44 8030) (act 99 [(3, x3), (75, x75), (86, x86)]) h K =
    bnd (pBin Try.prog .eql 3 (.tmp 75) (.const (.int .i64 8)) x75 (.int .i64 8)) fun x94 =>
    K .normal (act 99 [(3, x3), (93, x94)]) h := kq_reg
theorem b44_rrrrrlrlrrrr  : kCode env 44 false inv k (cp c44 8031) (act 99 [(3, x3), (93, x93)]) h K = brV x93 (kCode env 44 false inv k (cp c44 16062) (act 99 [(3, x3), (93, x93)]) h K) (kCode env 44 false inv k (cp c44 16063) (act 99 [(3, x3), (93, x93)]) h K) := kq_cond
theorem r44_17  : kCode env 44 false inv k (cp c44 32124) (act 99 [(3, x3), (93, x93)]) h K =
    bnd (pFieldAddr Try.prog 59 x3 3) fun x95 =>
    bnd (pLoad Try.prog 36 x95 h) fun x96 =>
    bnd (pLen Try.prog #[36] x96 h) fun x97 =>
    bnd (pBin Try.prog .eql 3 (.tmp 97) (.const (.int .i64 1)) x97 (.int .i64 1)) fun x98 =>
    K .normal (act 99 [(4, x98)]) h := kq_reg
theorem r44_18  : kCode env 44 false inv k (cp c44 126) (act 99 [(3, x3), (93, x93)]) h K =
    K .normal (act 99 [(4, (.bool false))]) h := kq_reg
/-- shadowbook/shadowbookref18.node -/
noncomputable def F44 (inv : Inv) (k : Nat) (x0 x1 : Value) (h : AH) : Option (Value × AH) :=
    bnd (pBox Try.prog 59 x1 h) fun x3 =>
    G44_1 inv x0 x3.1 x3.2 fun y5 h =>
    G44_2 inv x0 x3.1 y5 h fun y54 h_1 =>
    brV y54
    (some ((.bool false), h_1))
    (G44_4 inv x0 x3.1 y5 h_1 fun y73 h_2 =>
    brV y73
    (some ((.bool false), h_2))
    (bnd (pFieldAddr Try.prog 59 x3.1 0) fun x74 =>
    bnd (pLoad Try.prog 3 x74 h_2) fun x75 =>
    bnd (pBin Try.prog .eql 3 (.tmp 75) (.const (.int .i64 1)) x75 (.int .i64 1)) fun x77 =>
    F44_rllrlrrrr inv k x3.1 x75 x77 h_2
    (fun y3 y75 y76 h_3 =>
    brV y76
    (bnd (pFieldAddr Try.prog 59 y3 3) fun x82 =>
    bnd (pLoad Try.prog 36 x82 h_3) fun x83 =>
    bnd (pLen Try.prog #[36] x83 h_3) fun x84 =>
    bnd (pBin Try.prog .eql 3 (.tmp 84) (.const (.int .i64 0)) x84 (.int .i64 0)) fun x85 =>
    some (x85, h_3))
    (bnd (pBin Try.prog .eql 3 (.tmp 75) (.const (.int .i64 6)) y75 (.int .i64 6)) fun x87 =>
    F44_rlrrlrlrrrr inv k y3 y75 x87 h_3
    (fun y3_4 y75_5 y86 h_6 =>
    brV y86
    (bnd (pFieldAddr Try.prog 59 y3_4 3) fun x89 =>
    bnd (pLoad Try.prog 36 x89 h_6) fun x90 =>
    bnd (pLen Try.prog #[36] x90 h_6) fun x91 =>
    bnd (pBin Try.prog .gtr 3 (.tmp 91) (.const (.int .i64 0)) x91 (.int .i64 0)) fun x92 =>
    some (x92, h_6))
    (bnd (pBin Try.prog .eql 3 (.tmp 75) (.const (.int .i64 8)) y75_5 (.int .i64 8)) fun x94 =>
    brV x94
    (bnd (pFieldAddr Try.prog 59 y3_4 3) fun x95 =>
    bnd (pLoad Try.prog 36 x95 h_6) fun x96 =>
    bnd (pLen Try.prog #[36] x96 h_6) fun x97 =>
    bnd (pBin Try.prog .eql 3 (.tmp 97) (.const (.int .i64 1)) x97 (.int .i64 1)) fun x98 =>
    some (x98, h_6))
    (some ((.bool false), h_6))))))))
theorem F44_eq : eFun env k inv 44 #[x0, x1] h = F44 inv k x0 x1 h := by
      refine (kq_fun (a := act 99 [(0, x0), (1, x1)]) (c := cp c44 1)).trans ?_
      unfold F44
      simp only [kq_seq c44 1, r44_0, kq_seq c44 3, r44_1, kq_seq c44 7, kq_seq c44 14, r44_2, b44_rlrr, kq_seq c44 58, r44_3, kq_ret c44 117, res44_0, kq_skip c44 59, kq_seq c44 15, kq_seq c44 30, r44_4, b44_rlrrr, kq_seq c44 122, r44_5, kq_ret c44 245, kq_skip c44 123, kq_seq c44 31, kq_seq c44 62, r44_6, kq_block c44 125 0, kq_seq c44 250, kq_seq c44 500, r44_7, F44_rllrlrrrr_eq, b44_rlrlrrrr, kq_seq c44 1002, r44_12, kq_ret c44 2005, kq_seq c44 1003, kq_seq c44 2006, r44_13, F44_rlrrlrlrrrr_eq, b44_rrrlrlrrrr, kq_seq c44 4014, r44_15, kq_ret c44 8029, kq_seq c44 4015, r44_16, b44_rrrrrlrlrrrr, kq_seq c44 16062, r44_17, kq_ret c44 32125, kq_skip c44 16063, kq_seq c44 63, r44_18, kq_ret c44 127, reduceIte, reduceCtorEq, XE.exit.injEq, Nat.reduceEqDiff, Nat.reduceMul, Nat.reduceAdd] <;> kernel_rfl
theorem F44_call : eInv env (k + 1) (.func 44) #[] #[x0, x1] h = F44 (eInv env k) k x0 x1 h := kq_inv F44_eq
noncomputable def c45 : Code := codeOf Try.prog 45
theorem r45_0  : kCode env 45 false inv k (cp c45 2) (act 32 [(0, x0), (1, x1), (2, x2)]) h K =
    K .normal (act 32 [(0, x0), (1, x1), (2, x2)]) h := kq_reg
theorem r45_1  : kCode env 45 false inv k (cp c45 12) (act 32 [(0, x0), (1, x1), (2, x2)]) h K =
    bnd (pLen Try.prog #[23] x0 h) fun x11 =>
    bnd (pLen Try.prog #[23] x1 h) fun x13 =>
    bnd (pBin Try.prog .neq 3 (.tmp 11) (.tmp 13) x11 x13) fun x14 =>
    K .normal (act 32 [(0, x0), (1, x1), (2, x2), (14, x14)]) h := kq_reg
theorem b45_rlr  : kCode env 45 false inv k (cp c45 13) (act 32 [(0, x0), (1, x1), (2, x2), (14, x14)]) h K = brV x14 (kCode env 45 false inv k (cp c45 26) (act 32 [(0, x0), (1, x1), (2, x2), (14, x14)]) h K) (kCode env 45 false inv k (cp c45 27) (act 32 [(0, x0), (1, x1), (2, x2), (14, x14)]) h K) := kq_cond
theorem r45_2  : kCode env 45 false inv k (cp c45 52) (act 32 [(0, x0), (1, x1), (2, x2), (14, x14)]) h K =
    K .normal (act 32 [(6, (.bool false))]) h := kq_reg
theorem res45_0 : resOfFn env.P 45 .ret (act 32 [(6, x6)]) h = some (x6, h) := kq_res
theorem r45_3  : kCode env 45 false inv k (cp c45 28) (act 32 [(0, x0), (1, x1), (2, x2), (14, x14)]) h K =
    bnd (pLen Try.prog #[23] x0 h) fun x16 =>
    K .normal (act 32 [(1, x1), (2, x2), (15, x0), (16, x16), (17, (.int .i64 0))]) h := kq_reg
theorem r45_4  : kCode env 45 false inv k (cp c45 232) (act 32 [(1, x1), (2, x2), (15, x15), (16, x16), (17, x17)]) h K =
    bnd (pBin Try.prog .lss 3 (.tmp 17) (.tmp 16) x17 x16) fun x18 =>
    K .normal (act 32 [(1, x1), (2, x2), (15, x15), (16, x16), (17, x17), (18, x18)]) h := kq_reg
theorem b45_lrllrlrr  : kCode env 45 false inv k (cp c45 466) (act 32 [(1, x1), (2, x2), (15, x15), (16, x16), (17, x17), (18, x18)]) h K = brV x18 (kCode env 45 false inv k (cp c45 932) (act 32 [(1, x1), (2, x2), (15, x15), (16, x16), (17, x17), (18, x18)]) h K) (kCode env 45 false inv k (cp c45 933) (act 32 [(1, x1), (2, x2), (15, x15), (16, x16), (17, x17), (18, x18)]) h K) := kq_cond
theorem r45_5  : kCode env 45 false inv k (cp c45 3736) (act 32 [(1, x1), (2, x2), (15, x15), (16, x16), (17, x17), (18, x18)]) h K =
    bnd (pIndexAddr Try.prog 23 x15 x17) fun x20 =>
    bnd (pLoad Try.prog 37 x20 h) fun x21 =>
    K .normal (act 32 [(1, x1), (2, x2), (7, x17), (8, x21), (15, x15), (16, x16), (17, x17)]) h := kq_reg
theorem r45_6  : kCode env 45 false inv k (cp c45 7474) (act 32 [(1, x1), (2, x2), (7, x7), (8, x8), (15, x15), (16, x16), (17, x17)]) h K =
    bnd (pIndexAddr Try.prog 23 x1 x7) fun x24 =>
    bnd (pLoad Try.prog 37 x24 h) fun x25 =>
    K .normal (act 32 [(1, x1), (2, x2), (8, x8), (9, x25), (15, x15), (16, x16), (17, x17)]) h := kq_reg
theorem r45_7  : kCode env 45 false inv k (cp c45 14950) (act 32 [(1, x1), (2, x2), (8, x8), (9, x9), (15, x15), (16, x16), (17, x17)]) h K =
    bnd (callV inv x2 #[x8, x9] h) fun x29 =>
    bnd (pUn Try.prog .not x29.1) fun x30 =>
    K .normal (act 32 [(1, x1), (2, x2), (15, x15), (16, x16), (17, x17), (30, x30)]) x29.2 := kq_reg
theorem b45_rrrllrrllrlrr  : kCode env 45 false inv k (cp c45 14951) (act 32 [(1, x1), (2, x2), (15, x15), (16, x16), (17, x17), (30, x30)]) h K = brV x30 (kCode env 45 false inv k (cp c45 29902) (act 32 [(1, x1), (2, x2), (15, x15), (16, x16), (17, x17), (30, x30)]) h K) (kCode env 45 false inv k (cp c45 29903) (act 32 [(1, x1), (2, x2), (15, x15), (16, x16), (17, x17), (30, x30)]) h K) := kq_cond
theorem r45_8  : kCode env 45 false inv k (cp c45 59804) (act 32 [(1, x1), (2, x2), (15, x15), (16, x16), (17, x17), (30, x30)]) h K =
    K .normal (act 32 [(6, (.bool false))]) h := kq_reg
theorem r45_9  : kCode env 45 false inv k (cp c45 935) (act 32 [(1, x1), (2, x2), (15, x15), (16, x16), (17, x17), (30, x30)]) h K =
    bnd (pBin Try.prog .add 3 (.tmp 17) (.const (.int .i64 1)) x17 (.int .i64 1)) fun x31 =>
    K .normal (act 32 [(1, x1), (2, x2), (15, x15), (16, x16), (17, x31)]) h := kq_reg
noncomputable def F45_lrlrr {β : Type} (inv : Inv) (k : Nat) : Nat → Value → Value → Value → Value → Value → AH → (Value → Value → Value → Value → Value → Value → AH → Option β) → (Value → AH → Option β) → Option β
  | 0, _, _, _, _, _, _, _, _ => none
  | j + 1, x1, x2, x15, x16, x17, h, ke0, kr =>
    bnd (pBin Try.prog .lss 3 (.tmp 17) (.tmp 16) x17 x16) fun x18 =>
    brV x18
    (bnd (pIndexAddr Try.prog 23 x15 x17) fun x20 =>
    bnd (pLoad Try.prog 37 x20 h) fun x21 =>
    bnd (pIndexAddr Try.prog 23 x1 x17) fun x24 =>
    bnd (pLoad Try.prog 37 x24 h) fun x25 =>
    bnd (callV inv x2 #[x21, x25] h) fun x29 =>
    bnd (pUn Try.prog .not x29.1) fun x30 =>
    brV x30
    (kr (.bool false) x29.2)
    (bnd (pBin Try.prog .add 3 (.tmp 17) (.const (.int .i64 1)) x17 (.int .i64 1)) fun x31 =>
    F45_lrlrr inv k j x1 x2 x15 x16 x31 x29.2 ke0 kr))
    (ke0 x1 x2 x15 x16 x17 x18 h)
theorem F45_lrlrr_j (j : Nat) : kLoop (kCode env 45 false inv k (cp c45 116)) j (act 32 [(1, x1), (2, x2), (15, x15), (16, x16), (17, x17)]) h K = F45_lrlrr inv k j x1 x2 x15 x16 x17 h (fun y1 y2 y15 y16 y17 y18 h => K (.exit 0) (act 32 [(1, y1), (2, y2), (15, y15), (16, y16), (17, y17), (18, y18)]) h) (fun y6 h => K .ret (act 32 [(6, y6)]) h) := by
      induction j generalizing x1 x2 x15 x16 x17 h with
      | zero => rfl
      | succ j ih =>
        unfold F45_lrlrr
        simp only [kLoop, kq_seq c45 116, r45_4, kq_seq c45 233, b45_lrllrlrr, kq_skip c45 932, kq_seq c45 467, kq_block c45 934 1, kq_seq c45 1868, r45_5, kq_seq c45 3737, r45_6, kq_seq c45 7475, r45_7, b45_rrrllrrllrlrr, kq_seq c45 29902, r45_8, kq_ret c45 59805, kq_skip c45 29903, r45_9, kq_exit c45 933 0, ih, reduceIte, reduceCtorEq, XE.exit.injEq, Nat.reduceEqDiff, Nat.reduceMul, Nat.reduceAdd] <;> kernel_rfl
theorem F45_lrlrr_eq  : kCode env 45 false inv k (cp c45 58) (act 32 [(1, x1), (2, x2), (15, x15), (16, x16), (17, x17)]) h K = F45_lrlrr inv k k x1 x2 x15 x16 x17 h (fun y1 y2 y15 y16 y17 y18 h => K (.exit 0) (act 32 [(1, y1), (2, y2), (15, y15), (16, y16), (17, y17), (18, y18)]) h) (fun y6 h => K .ret (act 32 [(6, y6)]) h) := kq_loop (F45_lrlrr_j k)
theorem r45_10  : kCode env 45 false inv k (cp c45 30) (act 32 [(1, x1), (2, x2), (15, x15), (16, x16), (17, x17), (18, x18)]) h K =
    K .normal (act 32 [(6, (.bool true))]) h := kq_reg
/-- slices.EqualFunc[[][]shadowbook/api.Cell,[][]shadowbook/api.Cell,[]shadowbook/api.Cell,[]shadowbook/api.Cell] -/
noncomputable def F45 (inv : Inv) (k : Nat) (x0 x1 x2 : Value) (h : AH) : Option (Value × AH) :=
    bnd (pLen Try.prog #[23] x0 h) fun x11 =>
    bnd (pLen Try.prog #[23] x1 h) fun x13 =>
    bnd (pBin Try.prog .neq 3 (.tmp 11) (.tmp 13) x11 x13) fun x14 =>
    brV x14
    (some ((.bool false), h))
    (bnd (pLen Try.prog #[23] x0 h) fun x16 =>
    F45_lrlrr inv k k x1 x2 x0 x16 (.int .i64 0) h
    (fun y1 y2 y15 y16 y17 y18 h =>
    some ((.bool true), h))
    (fun y6 h_1 =>
    some (y6, h_1)))
theorem F45_eq : eFun env k inv 45 #[x0, x1, x2] h = F45 inv k x0 x1 x2 h := by
      refine (kq_fun (a := act 32 [(0, x0), (1, x1), (2, x2)]) (c := cp c45 1)).trans ?_
      unfold F45
      simp only [kq_seq c45 1, r45_0, kq_seq c45 3, kq_seq c45 6, r45_1, b45_rlr, kq_seq c45 26, r45_2, kq_ret c45 53, res45_0, kq_skip c45 27, kq_seq c45 7, kq_seq c45 14, r45_3, kq_block c45 29 0, F45_lrlrr_eq, kq_seq c45 15, r45_10, kq_ret c45 31, reduceIte, reduceCtorEq, XE.exit.injEq, Nat.reduceEqDiff, Nat.reduceMul, Nat.reduceAdd] <;> kernel_rfl
theorem F45_call : eInv env (k + 1) (.func 45) #[] #[x0, x1, x2] h = F45 (eInv env k) k x0 x1 x2 h := kq_inv F45_eq
noncomputable def c46 : Code := codeOf Try.prog 46
theorem r46_0  : kCode env 46 false inv k (cp c46 2) (act 9 [(0, x0), (1, x1)]) h K =
    K .normal (act 9 [(0, x0), (1, x1)]) h := kq_reg
theorem r46_1  : kCode env 46 false inv k (cp c46 6) (act 9 [(0, x0), (1, x1)]) h K =
    bnd (inv (.func 47) #[] #[x0, x1] h) fun x7 =>
    bnd (pBin Try.prog .eql 3 (.tmp 7) (.const (.int .i64 0)) x7.1 (.int .i64 0)) fun x8 =>
    K .normal (act 9 [(4, x8)]) x7.2 := kq_reg
theorem res46_0 : resOfFn env.P 46 .ret (act 9 [(4, x4)]) h = some (x4, h) := kq_res
/-- shadowbook/batch.Same$1 -/
noncomputable def F46 (inv : Inv) (k : Nat) (x0 x1 : Value) (h : AH) : Option (Value × AH) :=
    bnd (inv (.func 47) #[] #[x0, x1] h) fun x7 =>
    bnd (pBin Try.prog .eql 3 (.tmp 7) (.const (.int .i64 0)) x7.1 (.int .i64 0)) fun x8 =>
    some (x8, x7.2)
theorem F46_eq : eFun env k inv 46 #[x0, x1] h = F46 inv k x0 x1 h := by
      refine (kq_fun (a := act 9 [(0, x0), (1, x1)]) (c := cp c46 1)).trans ?_
      unfold F46
      simp only [kq_seq c46 1, r46_0, kq_seq c46 3, r46_1, kq_ret c46 7, res46_0, reduceIte, reduceCtorEq, XE.exit.injEq, Nat.reduceEqDiff, Nat.reduceMul, Nat.reduceAdd] <;> kernel_rfl
theorem F46_call : eInv env (k + 1) (.func 46) #[] #[x0, x1] h = F46 (eInv env k) k x0 x1 h := kq_inv F46_eq
noncomputable def c47 : Code := codeOf Try.prog 47
theorem r47_0  : kCode env 47 false inv k (cp c47 2) (act 8 [(0, x0), (1, x1)]) h K =
    K .normal (act 8 [(0, x0), (1, x1)]) h := kq_reg
theorem r47_1  : kCode env 47 false inv k (cp c47 6) (act 8 [(0, x0), (1, x1)]) h K =
    bnd (inv (.func 69) #[] #[x0, x1, (.func (.func 70) #[] #[])] h) fun x7 =>
    K .normal (act 8 [(4, x7.1)]) x7.2 := kq_reg
theorem res47_0 : resOfFn env.P 47 .ret (act 8 [(4, x4)]) h = some (x4, h) := kq_res
/-- shadowbook/value.Rows -/
noncomputable def F47 (inv : Inv) (k : Nat) (x0 x1 : Value) (h : AH) : Option (Value × AH) :=
    bnd (inv (.func 69) #[] #[x0, x1, (.func (.func 70) #[] #[])] h) fun x7 =>
    some (x7.1, x7.2)
theorem F47_eq : eFun env k inv 47 #[x0, x1] h = F47 inv k x0 x1 h := by
      refine (kq_fun (a := act 8 [(0, x0), (1, x1)]) (c := cp c47 1)).trans ?_
      unfold F47
      simp only [kq_seq c47 1, r47_0, kq_seq c47 3, r47_1, kq_ret c47 7, res47_0, reduceIte, reduceCtorEq, XE.exit.injEq, Nat.reduceEqDiff, Nat.reduceMul, Nat.reduceAdd] <;> kernel_rfl
theorem F47_call : eInv env (k + 1) (.func 47) #[] #[x0, x1] h = F47 (eInv env k) k x0 x1 h := kq_inv F47_eq
noncomputable def c49 : Code := codeOf Try.prog 49
theorem r49_0  : kCode env 49 false inv k (cp c49 2) (act 8 [(0, x0)]) h K =
    K .normal (act 8 [(0, x0)]) h := kq_reg
theorem r49_1  : kCode env 49 false inv k (cp c49 12) (act 8 [(0, x0)]) h K =
    bnd (pBin Try.prog .eql 37 (.tmp 3) (.const (.slice none 0 0)) x0 (.slice none 0 0)) fun x4 =>
    K .normal (act 8 [(0, x0), (4, x4)]) h := kq_reg
theorem b49_rlr  : kCode env 49 false inv k (cp c49 13) (act 8 [(0, x0), (4, x4)]) h K = brV x4 (kCode env 49 false inv k (cp c49 26) (act 8 [(0, x0), (4, x4)]) h K) (kCode env 49 false inv k (cp c49 27) (act 8 [(0, x0), (4, x4)]) h K) := kq_cond
theorem r49_2  : kCode env 49 false inv k (cp c49 52) (act 8 [(0, x0), (4, x4)]) h K =
    K .normal (act 8 [(2, (.slice none 0 0))]) h := kq_reg
theorem res49_0 : resOfFn env.P 49 .ret (act 8 [(2, x2)]) h = some (x2, h) := kq_res
theorem r49_3  : kCode env 49 false inv k (cp c49 14) (act 8 [(0, x0), (4, x4)]) h K =
    bnd (pBuildSlice Try.prog 37 0 #[] h) fun x5 =>
    bnd (pAppend Try.prog #[37, 37] x5.1 x0 x5.2) fun x7 =>
    K .normal (act 8 [(2, x7.1)]) x7.2 := kq_reg
/-- slices.Clone[[]shadowbook/api.Cell,shadowbook/api.Cell] -/
noncomputable def F49 (inv : Inv) (k : Nat) (x0 : Value) (h : AH) : Option (Value × AH) :=
    bnd (pBin Try.prog .eql 37 (.tmp 3) (.const (.slice none 0 0)) x0 (.slice none 0 0)) fun x4 =>
    brV x4
    (some ((.slice none 0 0), h))
    (bnd (pBuildSlice Try.prog 37 0 #[] h) fun x5 =>
    bnd (pAppend Try.prog #[37, 37] x5.1 x0 x5.2) fun x7 =>
    some (x7.1, x7.2))
theorem F49_eq : eFun env k inv 49 #[x0] h = F49 inv k x0 h := by
      refine (kq_fun (a := act 8 [(0, x0)]) (c := cp c49 1)).trans ?_
      unfold F49
      simp only [kq_seq c49 1, r49_0, kq_seq c49 3, kq_seq c49 6, r49_1, b49_rlr, kq_seq c49 26, r49_2, kq_ret c49 53, res49_0, kq_skip c49 27, kq_seq c49 7, r49_3, kq_ret c49 15, reduceIte, reduceCtorEq, XE.exit.injEq, Nat.reduceEqDiff, Nat.reduceMul, Nat.reduceAdd] <;> kernel_rfl
theorem F49_call : eInv env (k + 1) (.func 49) #[] #[x0] h = F49 (eInv env k) k x0 h := kq_inv F49_eq
noncomputable def c50 : Code := codeOf Try.prog 50
theorem r50_0  : kCode env 50 false inv k (cp c50 2) (act 20 [(0, x0)]) h K =
    K .normal (act 20 [(0, x0)]) h := kq_reg
theorem r50_1  : kCode env 50 false inv k (cp c50 12) (act 20 [(0, x0)]) h K =
    K .normal (act 20 [(0, x0), (3, (.int .i64 0))]) h := kq_reg
theorem r50_2  : kCode env 50 false inv k (cp c50 208) (act 20 [(0, x0), (3, x3)]) h K =
    bnd (pLen Try.prog #[37] x0 h) fun x6 =>
    bnd (pBin Try.prog .lss 3 (.tmp 4) (.tmp 6) x3 x6) fun x7 =>
    K .normal (act 20 [(0, x0), (3, x3), (7, x7)]) h := kq_reg
theorem b50_rlllrlr  : kCode env 50 false inv k (cp c50 209) (act 20 [(0, x0), (3, x3), (7, x7)]) h K = brV x7 (kCode env 50 false inv k (cp c50 418) (act 20 [(0, x0), (3, x3), (7, x7)]) h K) (kCode env 50 false inv k (cp c50 419) (act 20 [(0, x0), (3, x3), (7, x7)]) h K) := kq_cond
theorem r50_4  : kCode env 50 false inv k (cp c50 840) (act 20 [(0, x0), (3, x3), (7, x7)]) h K =
    bnd (pIndexAddr Try.prog 37 x0 x3) fun x12 =>
    bnd (pFieldAddr Try.prog 45 x12 2) fun x13 =>
    bnd (pLoad Try.prog 9 x13 h) fun x14 =>
    bnd (pLen Try.prog #[9] x14 h) fun x15 =>
    bnd (pBin Try.prog .gtr 3 (.tmp 15) (.const (.int .i64 300)) x15 (.int .i64 300)) fun x16 =>
    K .normal (act 20 [(0, x0), (3, x3), (16, x16)]) h := kq_reg
theorem b50_rllrllrlr  : kCode env 50 false inv k (cp c50 841) (act 20 [(0, x0), (3, x3), (16, x16)]) h K = brV x16 (kCode env 50 false inv k (cp c50 1682) (act 20 [(0, x0), (3, x3), (16, x16)]) h K) (kCode env 50 false inv k (cp c50 1683) (act 20 [(0, x0), (3, x3), (16, x16)]) h K) := kq_cond
theorem r50_5  : kCode env 50 false inv k (cp c50 3364) (act 20 [(0, x0), (3, x3), (16, x16)]) h K =
    K .normal (act 20 [(2, (.bool false))]) h := kq_reg
theorem r50_3  : kCode env 50 false inv k (cp c50 211) (act 20 [(0, x0), (3, x3), (16, x16)]) h K =
    bnd (pBin Try.prog .add 3 (.tmp 8) (.const (.int .i64 1)) x3 (.int .i64 1)) fun x9 =>
    K .normal (act 20 [(0, x0), (3, x9)]) h := kq_reg
noncomputable def F50_lrlr {β : Type} (inv : Inv) (k : Nat) : Nat → Value → Value → AH → (Value → Value → Value → AH → Option β) → (Value → AH → Option β) → Option β
  | 0, _, _, _, _, _ => none
  | j + 1, x0, x3, h, ke0, kr =>
    bnd (pLen Try.prog #[37] x0 h) fun x6 =>
    bnd (pBin Try.prog .lss 3 (.tmp 4) (.tmp 6) x3 x6) fun x7 =>
    brV x7
    (bnd (pIndexAddr Try.prog 37 x0 x3) fun x12 =>
    bnd (pFieldAddr Try.prog 45 x12 2) fun x13 =>
    bnd (pLoad Try.prog 9 x13 h) fun x14 =>
    bnd (pLen Try.prog #[9] x14 h) fun x15 =>
    bnd (pBin Try.prog .gtr 3 (.tmp 15) (.const (.int .i64 300)) x15 (.int .i64 300)) fun x16 =>
    brV x16
    (kr (.bool false) h)
    (bnd (pBin Try.prog .add 3 (.tmp 8) (.const (.int .i64 1)) x3 (.int .i64 1)) fun x9 =>
    F50_lrlr inv k j x0 x9 h ke0 kr))
    (ke0 x0 x3 x7 h)
theorem F50_lrlr_j (j : Nat) : kLoop (kCode env 50 false inv k (cp c50 52)) j (act 20 [(0, x0), (3, x3)]) h K = F50_lrlr inv k j x0 x3 h (fun y0 y3 y7 h => K (.exit 0) (act 20 [(0, y0), (3, y3), (7, y7)]) h) (fun y2 h => K .ret (act 20 [(2, y2)]) h) := by
      induction j generalizing x0 x3 h with
      | zero => rfl
      | succ j ih =>
        unfold F50_lrlr
        simp only [kLoop, kq_seq c50 52, kq_seq c50 104, r50_2, b50_rlllrlr, kq_skip c50 418, kq_seq c50 105, kq_block c50 210 1, kq_seq c50 420, r50_4, b50_rllrllrlr, kq_seq c50 1682, r50_5, kq_ret c50 3365, kq_skip c50 1683, r50_3, kq_exit c50 419 0, ih, reduceIte, reduceCtorEq, XE.exit.injEq, Nat.reduceEqDiff, Nat.reduceMul, Nat.reduceAdd] <;> kernel_rfl
theorem F50_lrlr_eq  : kCode env 50 false inv k (cp c50 26) (act 20 [(0, x0), (3, x3)]) h K = F50_lrlr inv k k x0 x3 h (fun y0 y3 y7 h => K (.exit 0) (act 20 [(0, y0), (3, y3), (7, y7)]) h) (fun y2 h => K .ret (act 20 [(2, y2)]) h) := kq_loop (F50_lrlr_j k)
theorem r50_6  : kCode env 50 false inv k (cp c50 14) (act 20 [(0, x0), (3, x3), (7, x7)]) h K =
    bnd (pLen Try.prog #[37] x0 h) fun x18 =>
    bnd (pBin Try.prog .leq 3 (.tmp 18) (.const (.int .i64 20)) x18 (.int .i64 20)) fun x19 =>
    K .normal (act 20 [(2, x19)]) h := kq_reg
theorem res50_0 : resOfFn env.P 50 .ret (act 20 [(2, x2)]) h = some (x2, h) := kq_res
/-- shadowbook/shadowbookkit.LightRow -/
noncomputable def F50 (inv : Inv) (k : Nat) (x0 : Value) (h : AH) : Option (Value × AH) :=
    F50_lrlr inv k k x0 (.int .i64 0) h
    (fun y0 y3 y7 h =>
    bnd (pLen Try.prog #[37] y0 h) fun x18 =>
    bnd (pBin Try.prog .leq 3 (.tmp 18) (.const (.int .i64 20)) x18 (.int .i64 20)) fun x19 =>
    some (x19, h))
    (fun y2 h_1 =>
    some (y2, h_1))
theorem F50_eq : eFun env k inv 50 #[x0] h = F50 inv k x0 h := by
      refine (kq_fun (a := act 20 [(0, x0)]) (c := cp c50 1)).trans ?_
      unfold F50
      simp only [kq_seq c50 1, r50_0, kq_seq c50 3, kq_seq c50 6, r50_1, kq_block c50 13 0, F50_lrlr_eq, kq_seq c50 7, r50_6, kq_ret c50 15, res50_0, reduceIte, reduceCtorEq, XE.exit.injEq, Nat.reduceEqDiff, Nat.reduceMul, Nat.reduceAdd] <;> kernel_rfl
theorem F50_call : eInv env (k + 1) (.func 50) #[] #[x0] h = F50 (eInv env k) k x0 h := kq_inv F50_eq
noncomputable def c51 : Code := codeOf Try.prog 51
theorem r51_0  : kCode env 51 false inv k (cp c51 2) (act 30 [(0, x0)]) h K =
    K .normal (act 30 [(0, x0)]) h := kq_reg
theorem r51_1  : kCode env 51 false inv k (cp c51 12) (act 30 [(0, x0)]) h K =
    K .normal (act 30 [(0, x0), (3, (.int .i64 0))]) h := kq_reg
theorem r51_2  : kCode env 51 false inv k (cp c51 208) (act 30 [(0, x0), (3, x3)]) h K =
    bnd (pLen Try.prog #[35] x0 h) fun x6 =>
    bnd (pBin Try.prog .lss 3 (.tmp 4) (.tmp 6) x3 x6) fun x7 =>
    K .normal (act 30 [(0, x0), (3, x3), (7, x7)]) h := kq_reg
theorem b51_rlllrlr  : kCode env 51 false inv k (cp c51 209) (act 30 [(0, x0), (3, x3), (7, x7)]) h K = brV x7 (kCode env 51 false inv k (cp c51 418) (act 30 [(0, x0), (3, x3), (7, x7)]) h K) (kCode env 51 false inv k (cp c51 419) (act 30 [(0, x0), (3, x3), (7, x7)]) h K) := kq_cond
noncomputable abbrev G51_4 {β : Type} (inv : Inv) (x0 x3 : Value) (h : AH) (K : Value → AH → Option β) : Option β :=
    bnd (pIndexAddr Try.prog 35 x0 x3) fun x12 =>
    bnd (pFieldAddr Try.prog 59 x12 3) fun x13 =>
    bnd (pLoad Try.prog 36 x13 h) fun x14 =>
    bnd (pLen Try.prog #[36] x14 h) fun x15 =>
    bnd (pBin Try.prog .gtr 3 (.tmp 15) (.const (.int .i64 20)) x15 (.int .i64 20)) fun x16 =>
    bnd (gd (some x16) false h (some (x0, h))) fun x18 =>
    bnd (gd (some x16) false x18.2 (some (x3, x18.2))) fun x19 =>
    bnd (gd (some x16) false x19.2 (lt (pIndexAddr Try.prog 35 x18.1 x19.1) x19.2)) fun x20 =>
    bnd (gd (some x16) false x20.2 (lt (pFieldAddr Try.prog 59 x20.1 2) x20.2)) fun x21 =>
    bnd (gd (some x16) false x21.2 (lt (pFieldAddr Try.prog 45 x21.1 2) x21.2)) fun x22 =>
    bnd (gd (some x16) false x22.2 (lt (pLoad Try.prog 9 x22.1 x22.2) x22.2)) fun x23 =>
    bnd (gd (some x16) false x23.2 (lt (pLen Try.prog #[9] x23.1 x23.2) x23.2)) fun x24 =>
    bnd (gd (some x16) false x24.2 (lt (pBin Try.prog .gtr 3 (.tmp 24) (.const (.int .i64 300)) x24.1 (.int .i64 300)) x24.2)) fun x25 =>
    bnd (pickV x16 (.bool true) x25.1) fun x26 =>
    K (x26) x25.2
theorem r51_4  : kCode env 51 false inv k (cp c51 840) (act 30 [(0, x0), (3, x3), (7, x7)]) h K =
    G51_4 inv x0 x3 h fun y26 h => K .normal (act 30 [(0, x0), (3, x3), (26, y26)]) h := kq_reg
theorem b51_rllrllrlr  : kCode env 51 false inv k (cp c51 841) (act 30 [(0, x0), (3, x3), (26, x26)]) h K = brV x26 (kCode env 51 false inv k (cp c51 1682) (act 30 [(0, x0), (3, x3), (26, x26)]) h K) (kCode env 51 false inv k (cp c51 1683) (act 30 [(0, x0), (3, x3), (26, x26)]) h K) := kq_cond
theorem r51_5  : kCode env 51 false inv k (cp c51 3364) (act 30 [(0, x0), (3, x3), (26, x26)]) h K =
    K .normal (act 30 [(2, (.bool false))]) h := kq_reg
theorem r51_3  : kCode env 51 false inv k (cp c51 211) (act 30 [(0, x0), (3, x3), (26, x26)]) h K =
    bnd (pBin Try.prog .add 3 (.tmp 8) (.const (.int .i64 1)) x3 (.int .i64 1)) fun x9 =>
    K .normal (act 30 [(0, x0), (3, x9)]) h := kq_reg
noncomputable def F51_lrlr {β : Type} (inv : Inv) (k : Nat) : Nat → Value → Value → AH → (Value → Value → Value → AH → Option β) → (Value → AH → Option β) → Option β
  | 0, _, _, _, _, _ => none
  | j + 1, x0, x3, h, ke0, kr =>
    bnd (pLen Try.prog #[35] x0 h) fun x6 =>
    bnd (pBin Try.prog .lss 3 (.tmp 4) (.tmp 6) x3 x6) fun x7 =>
    brV x7
    (G51_4 inv x0 x3 h fun y26 h =>
    brV y26
    (kr (.bool false) h)
    (bnd (pBin Try.prog .add 3 (.tmp 8) (.const (.int .i64 1)) x3 (.int .i64 1)) fun x9 =>
    F51_lrlr inv k j x0 x9 h ke0 kr))
    (ke0 x0 x3 x7 h)
theorem F51_lrlr_j (j : Nat) : kLoop (kCode env 51 false inv k (cp c51 52)) j (act 30 [(0, x0), (3, x3)]) h K = F51_lrlr inv k j x0 x3 h (fun y0 y3 y7 h => K (.exit 0) (act 30 [(0, y0), (3, y3), (7, y7)]) h) (fun y2 h => K .ret (act 30 [(2, y2)]) h) := by
      induction j generalizing x0 x3 h with
      | zero => rfl
      | succ j ih =>
        unfold F51_lrlr
        simp only [kLoop, kq_seq c51 52, kq_seq c51 104, r51_2, b51_rlllrlr, kq_skip c51 418, kq_seq c51 105, kq_block c51 210 1, kq_seq c51 420, r51_4, b51_rllrllrlr, kq_seq c51 1682, r51_5, kq_ret c51 3365, kq_skip c51 1683, r51_3, kq_exit c51 419 0, ih, reduceIte, reduceCtorEq, XE.exit.injEq, Nat.reduceEqDiff, Nat.reduceMul, Nat.reduceAdd] <;> kernel_rfl
theorem F51_lrlr_eq  : kCode env 51 false inv k (cp c51 26) (act 30 [(0, x0), (3, x3)]) h K = F51_lrlr inv k k x0 x3 h (fun y0 y3 y7 h => K (.exit 0) (act 30 [(0, y0), (3, y3), (7, y7)]) h) (fun y2 h => K .ret (act 30 [(2, y2)]) h) := kq_loop (F51_lrlr_j k)
theorem r51_6  : kCode env 51 false inv k (cp c51 14) (act 30 [(0, x0), (3, x3), (7, x7)]) h K =
    bnd (pLen Try.prog #[35] x0 h) fun x28 =>
    bnd (pBin Try.prog .leq 3 (.tmp 28) (.const (.int .i64 20)) x28 (.int .i64 20)) fun x29 =>
    K .normal (act 30 [(2, x29)]) h := kq_reg
theorem res51_0 : resOfFn env.P 51 .ret (act 30 [(2, x2)]) h = some (x2, h) := kq_res
/-- shadowbook/shadowbookkit.LightPred -/
noncomputable def F51 (inv : Inv) (k : Nat) (x0 : Value) (h : AH) : Option (Value × AH) :=
    F51_lrlr inv k k x0 (.int .i64 0) h
    (fun y0 y3 y7 h =>
    bnd (pLen Try.prog #[35] y0 h) fun x28 =>
    bnd (pBin Try.prog .leq 3 (.tmp 28) (.const (.int .i64 20)) x28 (.int .i64 20)) fun x29 =>
    some (x29, h))
    (fun y2 h_1 =>
    some (y2, h_1))
theorem F51_eq : eFun env k inv 51 #[x0] h = F51 inv k x0 h := by
      refine (kq_fun (a := act 30 [(0, x0)]) (c := cp c51 1)).trans ?_
      unfold F51
      simp only [kq_seq c51 1, r51_0, kq_seq c51 3, kq_seq c51 6, r51_1, kq_block c51 13 0, F51_lrlr_eq, kq_seq c51 7, r51_6, kq_ret c51 15, res51_0, reduceIte, reduceCtorEq, XE.exit.injEq, Nat.reduceEqDiff, Nat.reduceMul, Nat.reduceAdd] <;> kernel_rfl
theorem F51_call : eInv env (k + 1) (.func 51) #[] #[x0] h = F51 (eInv env k) k x0 h := kq_inv F51_eq
noncomputable def c59 : Code := codeOf Try.prog 59
theorem r59_0  : kCode env 59 false inv k (cp c59 2) (act 26 [(0, x0), (1, x1)]) h K =
    bnd (pBox Try.prog 80 x0 h) fun x2 =>
    bnd (pBox Try.prog 45 x1 x2.2) fun x3 =>
    K .normal (act 26 [(2, x2.1), (3, x3.1)]) x3.2 := kq_reg
theorem r59_1  : kCode env 59 false inv k (cp c59 6) (act 26 [(2, x2), (3, x3)]) h K =
    bnd (pLoad Try.prog 45 x3 h) fun x6 =>
    bnd (inv (.func 68) #[] #[x6] h) fun x7 =>
    K .normal (act 26 [(2, x2), (3, x3), (5, x7.1)]) x7.2 := kq_reg
theorem r59_2  : kCode env 59 false inv k (cp c59 28) (act 26 [(2, x2), (3, x3), (5, x5)]) h K =
    bnd (pBin Try.prog .neq 27 (.tmp 8) (.const (.int .i64 0)) x5 (.int .i64 0)) fun x9 =>
    K .normal (act 26 [(2, x2), (3, x3), (5, x5), (9, x9)]) h := kq_reg
theorem b59_rlrr  : kCode env 59 false inv k (cp c59 29) (act 26 [(2, x2), (3, x3), (5, x5), (9, x9)]) h K = brV x9 (kCode env 59 false inv k (cp c59 58) (act 26 [(2, x2), (3, x3), (5, x5), (9, x9)]) h K) (kCode env 59 false inv k (cp c59 59) (act 26 [(2, x2), (3, x3), (5, x5), (9, x9)]) h K) := kq_cond
theorem r59_3  : kCode env 59 false inv k (cp c59 116) (act 26 [(2, x2), (3, x3), (5, x5), (9, x9)]) h K =
    K .normal (act 26 [(4, x5)]) h := kq_reg
theorem res59_0 : resOfFn env.P 59 .ret (act 26 [(4, x4)]) h = some (x4, h) := kq_res
noncomputable abbrev G59_4 {β : Type} (inv : Inv) (x2 x3 : Value) (h : AH) (K : Value → AH → Option β) : Option β :=
    bnd (pFieldAddr Try.prog 45 x3 0) fun x11 =>
    bnd (pLoad Try.prog 3 x11 h) fun x12 =>
    bnd (pFieldAddr Try.prog 80 x2 1) fun x13 =>
    bnd (pLoad Try.prog 3 x13 h) fun x14 =>
    bnd (pBin Try.prog .neq 3 (.tmp 12) (.tmp 14) x12 x14) fun x15 =>
    bnd (gd (some x15) true h (lt (pFieldAddr Try.prog 45 x3 0) h)) fun x17 =>
    bnd (gd (some x15) true x17.2 (lt (pLoad Try.prog 3 x17.1 x17.2) x17.2)) fun x18 =>
    bnd (gd (some x15) true x18.2 (lt (pBin Try.prog .eql 3 (.tmp 18) (.const (.int .i64 0)) x18.1 (.int .i64 0)) x18.2)) fun x19 =>
    bnd (gd (some x15) true x19.2 (some (x19.1, x19.2))) fun x20 =>
    bnd (gd (some x20.1) true x20.2 (lt (pFieldAddr Try.prog 80 x2 2) x20.2)) fun x21 =>
    bnd (gd (some x20.1) true x21.2 (lt (pLoad Try.prog 4 x21.1 x21.2) x21.2)) fun x22 =>
    bnd (gd (some x15) true x22.2 (lt (pickV x20.1 x22.1 (.bool false)) x22.2)) fun x23 =>
    bnd (gd (some x15) true x23.2 (lt (pUn Try.prog .not x23.1) x23.2)) fun x24 =>
    bnd (pickV x15 x24.1 (.bool false)) fun x25 =>
    K (x25) x24.2
theorem r59_4  : kCode env 59 false inv k (cp c59 60) (act 26 [(2, x2), (3, x3), (5, x5), (9, x9)]) h K =
    G59_4 inv x2 x3 h fun y25 h => K .normal (act 26 [(25, y25)]) h := kq_reg
theorem b59_rlrrr  : kCode env 59 false inv k (cp c59 61) (act 26 [(25, x25)]) h K = brV x25 (kCode env 59 false inv k (cp c59 122) (act 26 [(25, x25)]) h K) (kCode env 59 false inv k (cp c59 123) (act 26 [(25, x25)]) h K) := kq_cond
theorem r59_5  : kCode env 59 false inv k (cp c59 244) (act 26 [(25, x25)]) h K =
    K .normal (act 26 [(4, (.int .i64 173))]) h := kq_reg
theorem r59_6  : kCode env 59 false inv k (cp c59 62) (act 26 [(25, x25)]) h K =
    K .normal (act 26 [(4, (.int .i64 0))]) h := kq_reg
/-- shadowbook/shadowbookref17.Cell -/
noncomputable def F59 (inv : Inv) (k : Nat) (x0 x1 : Value) (h : AH) : Option (Value × AH) :=
    bnd (pBox Try.prog 80 x0 h) fun x2 =>
    bnd (pBox Try.prog 45 x1 x2.2) fun x3 =>
    bnd (pLoad Try.prog 45 x3.1 x3.2) fun x6 =>
    bnd (inv (.func 68) #[] #[x6] x3.2) fun x7 =>
    bnd (pBin Try.prog .neq 27 (.tmp 8) (.const (.int .i64 0)) x7.1 (.int .i64 0)) fun x9 =>
    brV x9
    (some (x7.1, x7.2))
    (G59_4 inv x2.1 x3.1 x7.2 fun y25 h =>
    brV y25
    (some ((.int .i64 173), h))
    (some ((.int .i64 0), h)))
theorem F59_eq : eFun env k inv 59 #[x0, x1] h = F59 inv k x0 x1 h := by
      refine (kq_fun (a := act 26 [(0, x0), (1, x1)]) (c := cp c59 1)).trans ?_
      unfold F59
      simp only [kq_seq c59 1, r59_0, kq_seq c59 3, r59_1, kq_seq c59 7, kq_seq c59 14, r59_2, b59_rlrr, kq_seq c59 58, r59_3, kq_ret c59 117, res59_0, kq_skip c59 59, kq_seq c59 15, kq_seq c59 30, r59_4, b59_rlrrr, kq_seq c59 122, r59_5, kq_ret c59 245, kq_skip c59 123, kq_seq c59 31, r59_6, kq_ret c59 63, reduceIte, reduceCtorEq, XE.exit.injEq, Nat.reduceEqDiff, Nat.reduceMul, Nat.reduceAdd] <;> kernel_rfl
theorem F59_call : eInv env (k + 1) (.func 59) #[] #[x0, x1] h = F59 (eInv env k) k x0 x1 h := kq_inv F59_eq
noncomputable def c60 : Code := codeOf Try.prog 60
theorem r60_0  : kCode env 60 false inv k (cp c60 2) (act 19 [(0, x0), (1, x1)]) h K =
    K .normal (act 19 [(0, x0), (1, x1)]) h := kq_reg
theorem r60_1  : kCode env 60 false inv k (cp c60 12) (act 19 [(0, x0), (1, x1)]) h K =
    bnd (pLen Try.prog #[23] x0 h) fun x7 =>
    K .normal (act 19 [(0, x0), (1, x1), (7, x7), (8, (.int .i64 0))]) h := kq_reg
theorem r60_2  : kCode env 60 false inv k (cp c60 104) (act 19 [(0, x0), (1, x1), (7, x7), (8, x8)]) h K =
    bnd (pBin Try.prog .lss 3 (.tmp 8) (.tmp 7) x8 x7) fun x9 =>
    K .normal (act 19 [(0, x0), (1, x1), (7, x7), (8, x8), (9, x9)]) h := kq_reg
theorem b60_lrllrlr  : kCode env 60 false inv k (cp c60 210) (act 19 [(0, x0), (1, x1), (7, x7), (8, x8), (9, x9)]) h K = brV x9 (kCode env 60 false inv k (cp c60 420) (act 19 [(0, x0), (1, x1), (7, x7), (8, x8), (9, x9)]) h K) (kCode env 60 false inv k (cp c60 421) (act 19 [(0, x0), (1, x1), (7, x7), (8, x8), (9, x9)]) h K) := kq_cond
theorem r60_3  : kCode env 60 false inv k (cp c60 1688) (act 19 [(0, x0), (1, x1), (7, x7), (8, x8), (9, x9)]) h K =
    K .normal (act 19 [(0, x0), (1, x1), (5, x8), (7, x7), (8, x8)]) h := kq_reg
theorem r60_4  : kCode env 60 false inv k (cp c60 3378) (act 19 [(0, x0), (1, x1), (5, x5), (7, x7), (8, x8)]) h K =
    bnd (pIndexAddr Try.prog 23 x0 x5) fun x14 =>
    bnd (pLoad Try.prog 37 x14 h) fun x15 =>
    bnd (callV inv x1 #[x15] h) fun x16 =>
    K .normal (act 19 [(0, x0), (1, x1), (5, x5), (7, x7), (8, x8), (16, x16.1)]) x16.2 := kq_reg
theorem b60_rrllrrllrlr  : kCode env 60 false inv k (cp c60 3379) (act 19 [(0, x0), (1, x1), (5, x5), (7, x7), (8, x8), (16, x16)]) h K = brV x16 (kCode env 60 false inv k (cp c60 6758) (act 19 [(0, x0), (1, x1), (5, x5), (7, x7), (8, x8), (16, x16)]) h K) (kCode env 60 false inv k (cp c60 6759) (act 19 [(0, x0), (1, x1), (5, x5), (7, x7), (8, x8), (16, x16)]) h K) := kq_cond
theorem r60_5  : kCode env 60 false inv k (cp c60 13516) (act 19 [(0, x0), (1, x1), (5, x5), (7, x7), (8, x8), (16, x16)]) h K =
    K .normal (act 19 [(4, x5)]) h := kq_reg
theorem r60_6  : kCode env 60 false inv k (cp c60 423) (act 19 [(0, x0), (1, x1), (5, x5), (7, x7), (8, x8), (16, x16)]) h K =
    bnd (pBin Try.prog .add 3 (.tmp 8) (.const (.int .i64 1)) x8 (.int .i64 1)) fun x18 =>
    K .normal (act 19 [(0, x0), (1, x1), (7, x7), (8, x18)]) h := kq_reg
noncomputable def F60_lrlr {β : Type} (inv : Inv) (k : Nat) : Nat → Value → Value → Value → Value → AH → (Value → Value → Value → Value → Value → AH → Option β) → (Value → AH → Option β) → Option β
  | 0, _, _, _, _, _, _, _ => none
  | j + 1, x0, x1, x7, x8, h, ke0, kr =>
    bnd (pBin Try.prog .lss 3 (.tmp 8) (.tmp 7) x8 x7) fun x9 =>
    brV x9
    (bnd (pIndexAddr Try.prog 23 x0 x8) fun x14 =>
    bnd (pLoad Try.prog 37 x14 h) fun x15 =>
    bnd (callV inv x1 #[x15] h) fun x16 =>
    brV x16.1
    (kr x8 x16.2)
    (bnd (pBin Try.prog .add 3 (.tmp 8) (.const (.int .i64 1)) x8 (.int .i64 1)) fun x18 =>
    F60_lrlr inv k j x0 x1 x7 x18 x16.2 ke0 kr))
    (ke0 x0 x1 x7 x8 x9 h)
theorem F60_lrlr_j (j : Nat) : kLoop (kCode env 60 false inv k (cp c60 52)) j (act 19 [(0, x0), (1, x1), (7, x7), (8, x8)]) h K = F60_lrlr inv k j x0 x1 x7 x8 h (fun y0 y1 y7 y8 y9 h => K (.exit 0) (act 19 [(0, y0), (1, y1), (7, y7), (8, y8), (9, y9)]) h) (fun y4 h => K .ret (act 19 [(4, y4)]) h) := by
      induction j generalizing x0 x1 x7 x8 h with
      | zero => rfl
      | succ j ih =>
        unfold F60_lrlr
        simp only [kLoop, kq_seq c60 52, r60_2, kq_seq c60 105, b60_lrllrlr, kq_skip c60 420, kq_seq c60 211, kq_block c60 422 1, kq_seq c60 844, r60_3, kq_seq c60 1689, r60_4, b60_rrllrrllrlr, kq_seq c60 6758, r60_5, kq_ret c60 13517, kq_skip c60 6759, r60_6, kq_exit c60 421 0, ih, reduceIte, reduceCtorEq, XE.exit.injEq, Nat.reduceEqDiff, Nat.reduceMul, Nat.reduceAdd] <;> kernel_rfl
theorem F60_lrlr_eq  : kCode env 60 false inv k (cp c60 26) (act 19 [(0, x0), (1, x1), (7, x7), (8, x8)]) h K = F60_lrlr inv k k x0 x1 x7 x8 h (fun y0 y1 y7 y8 y9 h => K (.exit 0) (act 19 [(0, y0), (1, y1), (7, y7), (8, y8), (9, y9)]) h) (fun y4 h => K .ret (act 19 [(4, y4)]) h) := kq_loop (F60_lrlr_j k)
theorem r60_7  : kCode env 60 false inv k (cp c60 14) (act 19 [(0, x0), (1, x1), (7, x7), (8, x8), (9, x9)]) h K =
    K .normal (act 19 [(4, (.int .i64 (-1)))]) h := kq_reg
theorem res60_0 : resOfFn env.P 60 .ret (act 19 [(4, x4)]) h = some (x4, h) := kq_res
/-- slices.IndexFunc[[][]shadowbook/api.Cell,[]shadowbook/api.Cell] -/
noncomputable def F60 (inv : Inv) (k : Nat) (x0 x1 : Value) (h : AH) : Option (Value × AH) :=
    bnd (pLen Try.prog #[23] x0 h) fun x7 =>
    F60_lrlr inv k k x0 x1 x7 (.int .i64 0) h
    (fun y0 y1 y7 y8 y9 h =>
    some ((.int .i64 (-1)), h))
    (fun y4 h_1 =>
    some (y4, h_1))
theorem F60_eq : eFun env k inv 60 #[x0, x1] h = F60 inv k x0 x1 h := by
      refine (kq_fun (a := act 19 [(0, x0), (1, x1)]) (c := cp c60 1)).trans ?_
      unfold F60
      simp only [kq_seq c60 1, r60_0, kq_seq c60 3, kq_seq c60 6, r60_1, kq_block c60 13 0, F60_lrlr_eq, kq_seq c60 7, r60_7, kq_ret c60 15, res60_0, reduceIte, reduceCtorEq, XE.exit.injEq, Nat.reduceEqDiff, Nat.reduceMul, Nat.reduceAdd] <;> kernel_rfl
theorem F60_call : eInv env (k + 1) (.func 60) #[] #[x0, x1] h = F60 (eInv env k) k x0 x1 h := kq_inv F60_eq
noncomputable def c61 : Code := codeOf Try.prog 61
theorem r61_0  : kCode env 61 false inv k (cp c61 2) (act 58 [(0, x0), (1, x1), (2, x2)]) h K =
    K .normal (act 58 [(0, x0), (1, x1), (2, x2), (6, (.bool false))]) h := kq_reg
theorem r61_1  : kCode env 61 false inv k (cp c61 6) (act 58 [(0, x0), (1, x1), (2, x2), (6, x6)]) h K =
    bnd (pLen Try.prog #[35] x0 h) fun x15 =>
    bnd (pMakeSlice Try.prog 71 (.int .i64 0) x15 h) fun x16 =>
    K .normal (act 58 [(0, x0), (1, x1), (2, x2), (6, x6), (7, x16.1)]) x16.2 := kq_reg
theorem r61_2  : kCode env 61 false inv k (cp c61 28) (act 58 [(0, x0), (1, x1), (2, x2), (6, x6), (7, x7)]) h K =
    bnd (pLen Try.prog #[35] x0 h) fun x18 =>
    K .normal (act 58 [(1, x1), (2, x2), (6, x6), (7, x7), (17, x0), (18, x18), (19, (.int .i64 0))]) h := kq_reg
theorem r61_3  : kCode env 61 false inv k (cp c61 232) (act 58 [(1, x1), (2, x2), (6, x6), (7, x7), (17, x17), (18, x18), (19, x19)]) h K =
    bnd (pBin Try.prog .lss 3 (.tmp 19) (.tmp 18) x19 x18) fun x20 =>
    K .normal (act 58 [(1, x1), (2, x2), (6, x6), (7, x7), (17, x17), (18, x18), (19, x19), (20, x20)]) h := kq_reg
theorem b61_lrllrlrr  : kCode env 61 false inv k (cp c61 466) (act 58 [(1, x1), (2, x2), (6, x6), (7, x7), (17, x17), (18, x18), (19, x19), (20, x20)]) h K = brV x20 (kCode env 61 false inv k (cp c61 932) (act 58 [(1, x1), (2, x2), (6, x6), (7, x7), (17, x17), (18, x18), (19, x19), (20, x20)]) h K) (kCode env 61 false inv k (cp c61 933) (act 58 [(1, x1), (2, x2), (6, x6), (7, x7), (17, x17), (18, x18), (19, x19), (20, x20)]) h K) := kq_cond
theorem r61_4  : kCode env 61 false inv k (cp c61 3736) (act 58 [(1, x1), (2, x2), (6, x6), (7, x7), (17, x17), (18, x18), (19, x19), (20, x20)]) h K =
    bnd (pIndexAddr Try.prog 35 x17 x19) fun x22 =>
    bnd (pLoad Try.prog 59 x22 h) fun x23 =>
    bnd (pAlloc Try.prog 59 h) fun x9 =>
    bnd (kSt (pStore Try.prog 59 x9.1 x23 x9.2)) fun u =>
    K .normal (act 58 [(1, x1), (2, x2), (7, x7), (8, x19), (9, x9.1), (17, x17), (18, x18), (19, x19)]) u.2 := kq_reg
theorem r61_5  : kCode env 61 false inv k (cp c61 7474) (act 58 [(1, x1), (2, x2), (7, x7), (8, x8), (9, x9), (17, x17), (18, x18), (19, x19)]) h K =
    K .normal (act 58 [(1, x1), (2, x2), (7, x7), (8, x8), (9, x9), (10, (.slice none 0 0)), (17, x17), (18, x18), (19, x19)]) h := kq_reg
theorem r61_6  : kCode env 61 false inv k (cp c61 29900) (act 58 [(1, x1), (2, x2), (7, x7), (8, x8), (9, x9), (10, x10), (17, x17), (18, x18), (19, x19)]) h K =
    bnd (pFieldAddr Try.prog 59 x9 3) fun x24 =>
    bnd (pLoad Try.prog 36 x24 h) fun x25 =>
    bnd (pLen Try.prog #[36] x25 h) fun x26 =>
    K .normal (act 58 [(1, x1), (2, x2), (7, x7), (8, x8), (9, x9), (10, x10), (17, x17), (18, x18), (19, x19), (25, x25), (26, x26), (27, (.int .i64 0))]) h := kq_reg
theorem r61_7  : kCode env 61 false inv k (cp c61 239208) (act 58 [(1, x1), (2, x2), (7, x7), (8, x8), (9, x9), (10, x10), (17, x17), (18, x18), (19, x19), (25, x25), (26, x26), (27, x27)]) h K =
    bnd (pBin Try.prog .lss 3 (.tmp 27) (.tmp 26) x27 x26) fun x28 =>
    K .normal (act 58 [(1, x1), (2, x2), (7, x7), (8, x8), (9, x9), (10, x10), (17, x17), (18, x18), (19, x19), (25, x25), (26, x26), (27, x27), (28, x28)]) h := kq_reg
theorem b61_lrllrlrrllrrllrlrr  : kCode env 61 false inv k (cp c61 478418) (act 58 [(1, x1), (2, x2), (7, x7), (8, x8), (9, x9), (10, x10), (17, x17), (18, x18), (19, x19), (25, x25), (26, x26), (27, x27), (28, x28)]) h K = brV x28 (kCode env 61 false inv k (cp c61 956836) (act 58 [(1, x1), (2, x2), (7, x7), (8, x8), (9, x9), (10, x10), (17, x17), (18, x18), (19, x19), (25, x25), (26, x26), (27, x27), (28, x28)]) h K) (kCode env 61 false inv k (cp c61 956837) (act 58 [(1, x1), (2, x2), (7, x7), (8, x8), (9, x9), (10, x10), (17, x17), (18, x18), (19, x19), (25, x25), (26, x26), (27, x27), (28, x28)]) h K) := kq_cond
theorem r61_8  : kCode env 61 false inv k (cp c61 3827352) (act 58 [(1, x1), (2, x2), (7, x7), (8, x8), (9, x9), (10, x10), (17, x17), (18, x18), (19, x19), (25, x25), (26, x26), (27, x27), (28, x28)]) h K =
    bnd (pIndexAddr Try.prog 36 x25 x27) fun x29 =>
    bnd (pLoad Try.prog 3 x29 h) fun x30 =>
    K .normal (act 58 [(1, x1), (2, x2), (7, x7), (8, x8), (9, x9), (10, x10), (12, x30), (17, x17), (18, x18), (19, x19), (25, x25), (26, x26), (27, x27)]) h := kq_reg
theorem r61_9  : kCode env 61 false inv k (cp c61 7654706) (act 58 [(1, x1), (2, x2), (7, x7), (8, x8), (9, x9), (10, x10), (12, x12), (17, x17), (18, x18), (19, x19), (25, x25), (26, x26), (27, x27)]) h K =
    K .normal (act 58 [(1, x1), (2, x2), (7, x7), (8, x8), (9, x9), (10, x10), (12, x12), (13, x1), (17, x17), (18, x18), (19, x19), (25, x25), (26, x26), (27, x27)]) h := kq_reg
noncomputable abbrev G61_10 {β : Type} (inv : Inv) (x1 x2 x7 x8 x9 x10 x12 x13 x17 x18 x19 x25 x26 x27 : Value) (h : AH) (K : Value → AH → Option β) : Option β :=
    bnd (pBin Try.prog .geq 3 (.tmp 32) (.const (.int .i64 0)) x12 (.int .i64 0)) fun x33 =>
    bnd (gd (some x33) true h (some (x12, h))) fun x35 =>
    bnd (gd (some x33) true x35.2 (some (x8, x35.2))) fun x36 =>
    bnd (gd (some x33) true x36.2 (lt (pBin Try.prog .lss 3 (.tmp 35) (.tmp 36) x35.1 x36.1) x36.2)) fun x37 =>
    bnd (pickV x33 x37.1 (.bool false)) fun x38 =>
    K (x38) x37.2
theorem r61_10  : kCode env 61 false inv k (cp c61 30618828) (act 58 [(1, x1), (2, x2), (7, x7), (8, x8), (9, x9), (10, x10), (12, x12), (13, x13), (17, x17), (18, x18), (19, x19), (25, x25), (26, x26), (27, x27)]) h K =
    G61_10 inv x1 x2 x7 x8 x9 x10 x12 x13 x17 x18 x19 x25 x26 x27 h fun y38 h => K .normal (act 58 [(1, x1), (2, x2), (7, x7), (8, x8), (9, x9), (10, x10), (12, x12), (13, x13), (17, x17), (18, x18), (19, x19), (25, x25), (26, x26), (27, x27), (38, y38)]) h := kq_reg
theorem b61_rlrrllrrllrlrrllrrllrlrr  : kCode env 61 false inv k (cp c61 30618829) (act 58 [(1, x1), (2, x2), (7, x7), (8, x8), (9, x9), (10, x10), (12, x12), (13, x13), (17, x17), (18, x18), (19, x19), (25, x25), (26, x26), (27, x27), (38, x38)]) h K = brV x38 (kCode env 61 false inv k (cp c61 61237658) (act 58 [(1, x1), (2, x2), (7, x7), (8, x8), (9, x9), (10, x10), (12, x12), (13, x13), (17, x17), (18, x18), (19, x19), (25, x25), (26, x26), (27, x27), (38, x38)]) h K) (kCode env 61 false inv k (cp c61 61237659) (act 58 [(1, x1), (2, x2), (7, x7), (8, x8), (9, x9), (10, x10), (12, x12), (13, x13), (17, x17), (18, x18), (19, x19), (25, x25), (26, x26), (27, x27), (38, x38)]) h K) := kq_cond
theorem r61_11  : kCode env 61 false inv k (cp c61 61237658) (act 58 [(1, x1), (2, x2), (7, x7), (8, x8), (9, x9), (10, x10), (12, x12), (13, x13), (17, x17), (18, x18), (19, x19), (25, x25), (26, x26), (27, x27), (38, x38)]) h K =
    bnd (pIndexAddr Try.prog 71 x7 x12) fun x41 =>
    bnd (pLoad Try.prog 4 x41 h) fun x42 =>
    K .normal (act 58 [(1, x1), (2, x2), (7, x7), (8, x8), (9, x9), (10, x10), (13, x42), (17, x17), (18, x18), (19, x19), (25, x25), (26, x26), (27, x27)]) h := kq_reg
noncomputable def F61_rlrrllrrllrlrrllrrllrlrr {β : Type} (inv : Inv) (k : Nat) (x1 x2 x7 x8 x9 x10 x12 x13 x17 x18 x19 x25 x26 x27 x38 : Value) (h : AH) (kn : (Value → Value → Value → Value → Value → Value → Value → Value → Value → Value → Value → Value → Value → Value → Value → AH → Option β)) : Option β :=
    brV x38
    (bnd (pIndexAddr Try.prog 71 x7 x12) fun x41 =>
    bnd (pLoad Try.prog 4 x41 h) fun x42 =>
    kn x1 x2 x7 x8 x9 x10 unk x42 x17 x18 x19 x25 x26 x27 unk h)
    (kn x1 x2 x7 x8 x9 x10 x12 x13 x17 x18 x19 x25 x26 x27 x38 h)
theorem F61_rlrrllrrllrlrrllrrllrlrr_eq  : kCode env 61 false inv k (cp c61 30618829) (act 58 [(1, x1), (2, x2), (7, x7), (8, x8), (9, x9), (10, x10), (12, x12), (13, x13), (17, x17), (18, x18), (19, x19), (25, x25), (26, x26), (27, x27), (38, x38)]) h K = F61_rlrrllrrllrlrrllrrllrlrr inv k x1 x2 x7 x8 x9 x10 x12 x13 x17 x18 x19 x25 x26 x27 x38 h (fun y1 y2 y7 y8 y9 y10 y12 y13 y17 y18 y19 y25 y26 y27 y38 h => K .normal (act 58 [(1, y1), (2, y2), (7, y7), (8, y8), (9, y9), (10, y10), (12, y12), (13, y13), (17, y17), (18, y18), (19, y19), (25, y25), (26, y26), (27, y27), (38, y38)]) h) := by
      unfold F61_rlrrllrrllrlrrllrrllrlrr
      simp only [b61_rlrrllrrllrlrrllrrllrlrr, r61_11, kq_skip c61 61237659, reduceIte, reduceCtorEq, XE.exit.injEq, Nat.reduceEqDiff, Nat.reduceMul, Nat.reduceAdd] <;> kernel_rfl
theorem r61_12  : kCode env 61 false inv k (cp c61 15309415) (act 58 [(1, x1), (2, x2), (7, x7), (8, x8), (9, x9), (10, x10), (12, x12), (13, x13), (17, x17), (18, x18), (19, x19), (25, x25), (26, x26), (27, x27), (38, x38)]) h K =
    bnd (pBuildSlice Try.prog 71 1 #[(0, x13)] h) fun x45 =>
    bnd (pAppend Try.prog #[71, 71] x10 x45.1 x45.2) fun x46 =>
    K .normal (act 58 [(1, x1), (2, x2), (7, x7), (8, x8), (9, x9), (10, x46.1), (17, x17), (18, x18), (19, x19), (25, x25), (26, x26), (27, x27)]) x46.2 := kq_reg
theorem r61_13  : kCode env 61 false inv k (cp c61 956839) (act 58 [(1, x1), (2, x2), (7, x7), (8, x8), (9, x9), (10, x10), (17, x17), (18, x18), (19, x19), (25, x25), (26, x26), (27, x27)]) h K =
    bnd (pBin Try.prog .add 3 (.tmp 27) (.const (.int .i64 1)) x27 (.int .i64 1)) fun x47 =>
    K .normal (act 58 [(1, x1), (2, x2), (7, x7), (8, x8), (9, x9), (10, x10), (17, x17), (18, x18), (19, x19), (25, x25), (26, x26), (27, x47)]) h := kq_reg
noncomputable def F61_lrlrrllrrllrlrr {β : Type} (inv : Inv) (k : Nat) : Nat → Value → Value → Value → Value → Value → Value → Value → Value → Value → Value → Value → Value → AH → (Value → Value → Value → Value → Value → Value → Value → Value → Value → Value → Value → Value → Value → AH → Option β) → Option β
  | 0, _, _, _, _, _, _, _, _, _, _, _, _, _, _ => none
  | j + 1, x1, x2, x7, x8, x9, x10, x17, x18, x19, x25, x26, x27, h, ke2 =>
    bnd (pBin Try.prog .lss 3 (.tmp 27) (.tmp 26) x27 x26) fun x28 =>
    brV x28
    (bnd (pIndexAddr Try.prog 36 x25 x27) fun x29 =>
    bnd (pLoad Try.prog 3 x29 h) fun x30 =>
    G61_10 inv x1 x2 x7 x8 x9 x10 x30 x1 x17 x18 x19 x25 x26 x27 h fun y38 h =>
    F61_rlrrllrrllrlrrllrrllrlrr inv k x1 x2 x7 x8 x9 x10 x30 x1 x17 x18 x19 x25 x26 x27 y38 h
    (fun y1 y2 y7 y8 y9 y10 y12 y13 y17 y18 y19 y25 y26 y27 y38_1 h_2 =>
    bnd (pBuildSlice Try.prog 71 1 #[(0, y13)] h_2) fun x45 =>
    bnd (pAppend Try.prog #[71, 71] y10 x45.1 x45.2) fun x46 =>
    bnd (pBin Try.prog .add 3 (.tmp 27) (.const (.int .i64 1)) y27 (.int .i64 1)) fun x47 =>
    F61_lrlrrllrrllrlrr inv k j y1 y2 y7 y8 y9 x46.1 y17 y18 y19 y25 y26 x47 x46.2 ke2))
    (ke2 x1 x2 x7 x8 x9 x10 x17 x18 x19 x25 x26 x27 x28 h)
theorem F61_lrlrrllrrllrlrr_j (j : Nat) : kLoop (kCode env 61 false inv k (cp c61 119604)) j (act 58 [(1, x1), (2, x2), (7, x7), (8, x8), (9, x9), (10, x10), (17, x17), (18, x18), (19, x19), (25, x25), (26, x26), (27, x27)]) h K = F61_lrlrrllrrllrlrr inv k j x1 x2 x7 x8 x9 x10 x17 x18 x19 x25 x26 x27 h (fun y1 y2 y7 y8 y9 y10 y17 y18 y19 y25 y26 y27 y28 h => K (.exit 2) (act 58 [(1, y1), (2, y2), (7, y7), (8, y8), (9, y9), (10, y10), (17, y17), (18, y18), (19, y19), (25, y25), (26, y26), (27, y27), (28, y28)]) h) := by
      induction j generalizing x1 x2 x7 x8 x9 x10 x17 x18 x19 x25 x26 x27 h with
      | zero => rfl
      | succ j ih =>
        unfold F61_lrlrrllrrllrlrr
        simp only [kLoop, kq_seq c61 119604, r61_7, kq_seq c61 239209, b61_lrllrlrrllrrllrlrr, kq_skip c61 956836, kq_seq c61 478419, kq_block c61 956838 3, kq_seq c61 1913676, r61_8, kq_seq c61 3827353, r61_9, kq_seq c61 7654707, kq_seq c61 15309414, r61_10, F61_rlrrllrrllrlrrllrrllrlrr_eq, r61_12, r61_13, kq_exit c61 956837 2, ih, reduceIte, reduceCtorEq, XE.exit.injEq, Nat.reduceEqDiff, Nat.reduceMul, Nat.reduceAdd] <;> kernel_rfl
theorem F61_lrlrrllrrllrlrr_eq  : kCode env 61 false inv k (cp c61 59802) (act 58 [(1, x1), (2, x2), (7, x7), (8, x8), (9, x9), (10, x10), (17, x17), (18, x18), (19, x19), (25, x25), (26, x26), (27, x27)]) h K = F61_lrlrrllrrllrlrr inv k k x1 x2 x7 x8 x9 x10 x17 x18 x19 x25 x26 x27 h (fun y1 y2 y7 y8 y9 y10 y17 y18 y19 y25 y26 y27 y28 h => K (.exit 2) (act 58 [(1, y1), (2, y2), (7, y7), (8, y8), (9, y9), (10, y10), (17, y17), (18, y18), (19, y19), (25, y25), (26, y26), (27, y27), (28, y28)]) h) := kq_loop (F61_lrlrrllrrllrlrr_j k)
theorem r61_14  : kCode env 61 false inv k (cp c61 29902) (act 58 [(1, x1), (2, x2), (7, x7), (8, x8), (9, x9), (10, x10), (17, x17), (18, x18), (19, x19), (25, x25), (26, x26), (27, x27), (28, x28)]) h K =
    bnd (pLoad Try.prog 59 x9 h) fun x49 =>
    bnd (callV inv x2 #[x49, x10] h) fun x51 =>
    K .normal (act 58 [(1, x1), (2, x2), (6, x51.1), (7, x7), (17, x17), (18, x18), (19, x19)]) x51.2 := kq_reg
theorem r61_15  : kCode env 61 false inv k (cp c61 29903) (act 58 [(1, x1), (2, x2), (6, x6), (7, x7), (17, x17), (18, x18), (19, x19)]) h K =
    bnd (pBuildSlice Try.prog 71 1 #[(0, x6)] h) fun x54 =>
    bnd (pAppend Try.prog #[71, 71] x7 x54.1 x54.2) fun x55 =>
    K .normal (act 58 [(1, x1), (2, x2), (6, x6), (7, x55.1), (17, x17), (18, x18), (19, x19)]) x55.2 := kq_reg
theorem r61_16  : kCode env 61 false inv k (cp c61 935) (act 58 [(1, x1), (2, x2), (6, x6), (7, x7), (17, x17), (18, x18), (19, x19)]) h K =
    bnd (pBin Try.prog .add 3 (.tmp 19) (.const (.int .i64 1)) x19 (.int .i64 1)) fun x56 =>
    K .normal (act 58 [(1, x1), (2, x2), (6, x6), (7, x7), (17, x17), (18, x18), (19, x56)]) h := kq_reg
noncomputable def F61_lrlrr {β : Type} (inv : Inv) (k : Nat) : Nat → Value → Value → Value → Value → Value → Value → Value → AH → (Value → Value → Value → Value → Value → Value → Value → Value → AH → Option β) → Option β
  | 0, _, _, _, _, _, _, _, _, _ => none
  | j + 1, x1, x2, x6, x7, x17, x18, x19, h, ke0 =>
    bnd (pBin Try.prog .lss 3 (.tmp 19) (.tmp 18) x19 x18) fun x20 =>
    brV x20
    (bnd (pIndexAddr Try.prog 35 x17 x19) fun x22 =>
    bnd (pLoad Try.prog 59 x22 h) fun x23 =>
    bnd (pAlloc Try.prog 59 h) fun x9 =>
    bnd (kSt (pStore Try.prog 59 x9.1 x23 x9.2)) fun u =>
    bnd (pFieldAddr Try.prog 59 x9.1 3) fun x24 =>
    bnd (pLoad Try.prog 36 x24 u.2) fun x25 =>
    bnd (pLen Try.prog #[36] x25 u.2) fun x26 =>
    F61_lrlrrllrrllrlrr inv k k x1 x2 x7 x19 x9.1 (.slice none 0 0) x17 x18 x19 x25 x26 (.int .i64 0) u.2
    (fun y1 y2 y7 y8 y9 y10 y17 y18 y19 y25 y26 y27 y28 h =>
    bnd (pLoad Try.prog 59 y9 h) fun x49 =>
    bnd (callV inv y2 #[x49, y10] h) fun x51 =>
    bnd (pBuildSlice Try.prog 71 1 #[(0, x51.1)] x51.2) fun x54 =>
    bnd (pAppend Try.prog #[71, 71] y7 x54.1 x54.2) fun x55 =>
    bnd (pBin Try.prog .add 3 (.tmp 19) (.const (.int .i64 1)) y19 (.int .i64 1)) fun x56 =>
    F61_lrlrr inv k j y1 y2 x51.1 x55.1 y17 y18 x56 x55.2 ke0))
    (ke0 x1 x2 x6 x7 x17 x18 x19 x20 h)
theorem F61_lrlrr_j (j : Nat) : kLoop (kCode env 61 false inv k (cp c61 116)) j (act 58 [(1, x1), (2, x2), (6, x6), (7, x7), (17, x17), (18, x18), (19, x19)]) h K = F61_lrlrr inv k j x1 x2 x6 x7 x17 x18 x19 h (fun y1 y2 y6 y7 y17 y18 y19 y20 h => K (.exit 0) (act 58 [(1, y1), (2, y2), (6, y6), (7, y7), (17, y17), (18, y18), (19, y19), (20, y20)]) h) := by
      induction j generalizing x1 x2 x6 x7 x17 x18 x19 h with
      | zero => rfl
      | succ j ih =>
        unfold F61_lrlrr
        simp only [kLoop, kq_seq c61 116, r61_3, kq_seq c61 233, b61_lrllrlrr, kq_skip c61 932, kq_seq c61 467, kq_block c61 934 1, kq_seq c61 1868, r61_4, kq_seq c61 3737, r61_5, kq_seq c61 7475, kq_seq c61 14950, r61_6, kq_block c61 29901 2, F61_lrlrrllrrllrlrr_eq, kq_seq c61 14951, r61_14, r61_15, r61_16, kq_exit c61 933 0, ih, reduceIte, reduceCtorEq, XE.exit.injEq, Nat.reduceEqDiff, Nat.reduceMul, Nat.reduceAdd] <;> kernel_rfl
theorem F61_lrlrr_eq  : kCode env 61 false inv k (cp c61 58) (act 58 [(1, x1), (2, x2), (6, x6), (7, x7), (17, x17), (18, x18), (19, x19)]) h K = F61_lrlrr inv k k x1 x2 x6 x7 x17 x18 x19 h (fun y1 y2 y6 y7 y17 y18 y19 y20 h => K (.exit 0) (act 58 [(1, y1), (2, y2), (6, y6), (7, y7), (17, y17), (18, y18), (19, y19), (20, y20)]) h) := kq_loop (F61_lrlrr_j k)
theorem r61_17  : kCode env 61 false inv k (cp c61 30) (act 58 [(1, x1), (2, x2), (6, x6), (7, x7), (17, x17), (18, x18), (19, x19), (20, x20)]) h K =
    K .normal (act 58 [(6, x6)]) h := kq_reg
theorem res61_0 : resOfFn env.P 61 .ret (act 58 [(6, x6)]) h = some (x6, h) := kq_res
/-- shadowbook/pred.gone[bool] -/
noncomputable def F61 (inv : Inv) (k : Nat) (x0 x1 x2 : Value) (h : AH) : Option (Value × AH) :=
    bnd (pLen Try.prog #[35] x0 h) fun x15 =>
    bnd (pMakeSlice Try.prog 71 (.int .i64 0) x15 h) fun x16 =>
    bnd (pLen Try.prog #[35] x0 x16.2) fun x18 =>
    F61_lrlrr inv k k x1 x2 (.bool false) x16.1 x0 x18 (.int .i64 0) x16.2
    (fun y1 y2 y6 y7 y17 y18 y19 y20 h =>
    some (y6, h))
theorem F61_eq : eFun env k inv 61 #[x0, x1, x2] h = F61 inv k x0 x1 x2 h := by
      refine (kq_fun (a := act 58 [(0, x0), (1, x1), (2, x2)]) (c := cp c61 1)).trans ?_
      unfold F61
      simp only [kq_seq c61 1, r61_0, kq_seq c61 3, r61_1, kq_seq c61 7, kq_seq c61 14, r61_2, kq_block c61 29 0, F61_lrlrr_eq, kq_seq c61 15, r61_17, kq_ret c61 31, res61_0, reduceIte, reduceCtorEq, XE.exit.injEq, Nat.reduceEqDiff, Nat.reduceMul, Nat.reduceAdd] <;> kernel_rfl
theorem F61_call : eInv env (k + 1) (.func 61) #[] #[x0, x1, x2] h = F61 (eInv env k) k x0 x1 x2 h := kq_inv F61_eq
noncomputable def c62 : Code := codeOf Try.prog 62
theorem r62_0  : kCode env 62 false inv k (cp c62 2) (act 36 [(0, x0), (1, x1), (2, x2)]) h K =
    bnd (pBox Try.prog 59 x0 h) fun x3 =>
    K .normal (act 36 [(1, x1), (2, x2), (3, x3.1)]) x3.2 := kq_reg
theorem r62_1  : kCode env 62 false inv k (cp c62 24) (act 36 [(1, x1), (2, x2), (3, x3)]) h K =
    bnd (pFieldAddr Try.prog 59 x3 0) fun x7 =>
    bnd (pLoad Try.prog 3 x7 h) fun x8 =>
    bnd (inv (.func 63) #[] #[x8] h) fun x9 =>
    K .normal (act 36 [(1, x1), (2, x2), (3, x3), (6, x9.1)]) x9.2 := kq_reg
theorem b62_rllr  : kCode env 62 false inv k (cp c62 25) (act 36 [(1, x1), (2, x2), (3, x3), (6, x6)]) h K = brV x6 (kCode env 62 false inv k (cp c62 50) (act 36 [(1, x1), (2, x2), (3, x3), (6, x6)]) h K) (kCode env 62 false inv k (cp c62 51) (act 36 [(1, x1), (2, x2), (3, x3), (6, x6)]) h K) := kq_cond
theorem r62_2  : kCode env 62 false inv k (cp c62 100) (act 36 [(1, x1), (2, x2), (3, x3), (6, x6)]) h K =
    bnd (pLoad Try.prog 59 x3 h) fun x10 =>
    bnd (pLoad Try.prog 37 x2 h) fun x11 =>
    bnd (inv (.func 64) #[] #[x10, x11] h) fun x12 =>
    K .normal (act 36 [(5, x12.1)]) x12.2 := kq_reg
theorem res62_0 : resOfFn env.P 62 .ret (act 36 [(5, x5)]) h = some (x5, h) := kq_res
theorem r62_3  : kCode env 62 false inv k (cp c62 102) (act 36 [(1, x1), (2, x2), (3, x3), (6, x6)]) h K =
    bnd (pFieldAddr Try.prog 59 x3 0) fun x14 =>
    bnd (pLoad Try.prog 3 x14 h) fun x15 =>
    bnd (pBin Try.prog .eql 3 (.tmp 15) (.const (.int .i64 1)) x15 (.int .i64 1)) fun x16 =>
    K .normal (act 36 [(1, x1), (3, x3), (13, x16)]) h := kq_reg
theorem b62_rrrllr  : kCode env 62 false inv k (cp c62 103) (act 36 [(1, x1), (3, x3), (13, x13)]) h K = brV x13 (kCode env 62 false inv k (cp c62 206) (act 36 [(1, x1), (3, x3), (13, x13)]) h K) (kCode env 62 false inv k (cp c62 207) (act 36 [(1, x1), (3, x3), (13, x13)]) h K) := kq_cond
theorem r62_4  : kCode env 62 false inv k (cp c62 412) (act 36 [(1, x1), (3, x3), (13, x13)]) h K =
    K .normal (act 36 [(5, (.bool true))]) h := kq_reg
theorem r62_5  : kCode env 62 false inv k (cp c62 414) (act 36 [(1, x1), (3, x3), (13, x13)]) h K =
    bnd (pFieldAddr Try.prog 59 x3 0) fun x18 =>
    bnd (pLoad Try.prog 3 x18 h) fun x19 =>
    bnd (pBin Try.prog .eql 3 (.tmp 19) (.const (.int .i64 6)) x19 (.int .i64 6)) fun x20 =>
    K .normal (act 36 [(1, x1), (3, x3), (17, x20)]) h := kq_reg
theorem b62_rrrrrllr  : kCode env 62 false inv k (cp c62 415) (act 36 [(1, x1), (3, x3), (17, x17)]) h K = brV x17 (kCode env 62 false inv k (cp c62 830) (act 36 [(1, x1), (3, x3), (17, x17)]) h K) (kCode env 62 false inv k (cp c62 831) (act 36 [(1, x1), (3, x3), (17, x17)]) h K) := kq_cond
theorem r62_6  : kCode env 62 false inv k (cp c62 1660) (act 36 [(1, x1), (3, x3), (17, x17)]) h K =
    bnd (inv (.func 65) #[] #[x1, (.bool false)] h) fun x22 =>
    bnd (pUn Try.prog .not x22.1) fun x23 =>
    K .normal (act 36 [(5, x23)]) x22.2 := kq_reg
theorem r62_7  : kCode env 62 false inv k (cp c62 1662) (act 36 [(1, x1), (3, x3), (17, x17)]) h K =
    bnd (pFieldAddr Try.prog 59 x3 0) fun x25 =>
    bnd (pLoad Try.prog 3 x25 h) fun x26 =>
    bnd (pBin Try.prog .eql 3 (.tmp 26) (.const (.int .i64 7)) x26 (.int .i64 7)) fun x27 =>
    K .normal (act 36 [(1, x1), (3, x3), (24, x27)]) h := kq_reg
theorem b62_rrrrrrrllr  : kCode env 62 false inv k (cp c62 1663) (act 36 [(1, x1), (3, x3), (24, x24)]) h K = brV x24 (kCode env 62 false inv k (cp c62 3326) (act 36 [(1, x1), (3, x3), (24, x24)]) h K) (kCode env 62 false inv k (cp c62 3327) (act 36 [(1, x1), (3, x3), (24, x24)]) h K) := kq_cond
theorem r62_8  : kCode env 62 false inv k (cp c62 6652) (act 36 [(1, x1), (3, x3), (24, x24)]) h K =
    bnd (inv (.func 65) #[] #[x1, (.bool true)] h) fun x29 =>
    K .normal (act 36 [(5, x29.1)]) x29.2 := kq_reg
theorem r62_9  : kCode env 62 false inv k (cp c62 6654) (act 36 [(1, x1), (3, x3), (24, x24)]) h K =
    bnd (pFieldAddr Try.prog 59 x3 0) fun x31 =>
    bnd (pLoad Try.prog 3 x31 h) fun x32 =>
    bnd (pBin Try.prog .eql 3 (.tmp 32) (.const (.int .i64 8)) x32 (.int .i64 8)) fun x33 =>
    K .normal (act 36 [(1, x1), (30, x33)]) h := kq_reg
theorem b62_rrrrrrrrrllr  : kCode env 62 false inv k (cp c62 6655) (act 36 [(1, x1), (30, x30)]) h K = brV x30 (kCode env 62 false inv k (cp c62 13310) (act 36 [(1, x1), (30, x30)]) h K) (kCode env 62 false inv k (cp c62 13311) (act 36 [(1, x1), (30, x30)]) h K) := kq_cond
theorem r62_10  : kCode env 62 false inv k (cp c62 26620) (act 36 [(1, x1), (30, x30)]) h K =
    bnd (inv (.func 65) #[] #[x1, (.bool false)] h) fun x35 =>
    K .normal (act 36 [(5, x35.1)]) x35.2 := kq_reg
theorem r62_11  : kCode env 62 false inv k (cp c62 14) (act 36 [(1, x1), (30, x30)]) h K =
    K .normal (act 36 [(5, (.bool false))]) h := kq_reg
/-- shadowbook/pred.Holds$1 -/
noncomputable def F62 (inv : Inv) (k : Nat) (x0 x1 x2 : Value) (h : AH) : Option (Value × AH) :=
    bnd (pBox Try.prog 59 x0 h) fun x3 =>
    bnd (pFieldAddr Try.prog 59 x3.1 0) fun x7 =>
    bnd (pLoad Try.prog 3 x7 x3.2) fun x8 =>
    bnd (inv (.func 63) #[] #[x8] x3.2) fun x9 =>
    brV x9.1
    (bnd (pLoad Try.prog 59 x3.1 x9.2) fun x10 =>
    bnd (pLoad Try.prog 37 x2 x9.2) fun x11 =>
    bnd (inv (.func 64) #[] #[x10, x11] x9.2) fun x12 =>
    some (x12.1, x12.2))
    (bnd (pFieldAddr Try.prog 59 x3.1 0) fun x14 =>
    bnd (pLoad Try.prog 3 x14 x9.2) fun x15 =>
    bnd (pBin Try.prog .eql 3 (.tmp 15) (.const (.int .i64 1)) x15 (.int .i64 1)) fun x16 =>
    brV x16
    (some ((.bool true), x9.2))
    (bnd (pFieldAddr Try.prog 59 x3.1 0) fun x18 =>
    bnd (pLoad Try.prog 3 x18 x9.2) fun x19 =>
    bnd (pBin Try.prog .eql 3 (.tmp 19) (.const (.int .i64 6)) x19 (.int .i64 6)) fun x20 =>
    brV x20
    (bnd (inv (.func 65) #[] #[x1, (.bool false)] x9.2) fun x22 =>
    bnd (pUn Try.prog .not x22.1) fun x23 =>
    some (x23, x22.2))
    (bnd (pFieldAddr Try.prog 59 x3.1 0) fun x25 =>
    bnd (pLoad Try.prog 3 x25 x9.2) fun x26 =>
    bnd (pBin Try.prog .eql 3 (.tmp 26) (.const (.int .i64 7)) x26 (.int .i64 7)) fun x27 =>
    brV x27
    (bnd (inv (.func 65) #[] #[x1, (.bool true)] x9.2) fun x29 =>
    some (x29.1, x29.2))
    (bnd (pFieldAddr Try.prog 59 x3.1 0) fun x31 =>
    bnd (pLoad Try.prog 3 x31 x9.2) fun x32 =>
    bnd (pBin Try.prog .eql 3 (.tmp 32) (.const (.int .i64 8)) x32 (.int .i64 8)) fun x33 =>
    brV x33
    (bnd (inv (.func 65) #[] #[x1, (.bool false)] x9.2) fun x35 =>
    some (x35.1, x35.2))
    (some ((.bool false), x9.2))))))
theorem F62_eq : eFun env k inv 62 #[x0, x1, x2] h = F62 inv k x0 x1 x2 h := by
      refine (kq_fun (a := act 36 [(0, x0), (1, x1), (2, x2)]) (c := cp c62 1)).trans ?_
      unfold F62
      simp only [kq_seq c62 1, r62_0, kq_seq c62 3, kq_block c62 6 0, kq_seq c62 12, r62_1, b62_rllr, kq_seq c62 50, r62_2, kq_ret c62 101, res62_0, kq_seq c62 51, r62_3, b62_rrrllr, kq_seq c62 206, r62_4, kq_ret c62 413, kq_seq c62 207, r62_5, b62_rrrrrllr, kq_seq c62 830, r62_6, kq_ret c62 1661, kq_seq c62 831, r62_7, b62_rrrrrrrllr, kq_seq c62 3326, r62_8, kq_ret c62 6653, kq_seq c62 3327, r62_9, b62_rrrrrrrrrllr, kq_seq c62 13310, r62_10, kq_ret c62 26621, kq_skip c62 13311, kq_seq c62 7, r62_11, kq_ret c62 15, reduceIte, reduceCtorEq, XE.exit.injEq, Nat.reduceEqDiff, Nat.reduceMul, Nat.reduceAdd] <;> kernel_rfl
theorem F62_call : eInv env (k + 1) (.func 62) #[] #[x0, x1, x2] h = F62 (eInv env k) k x0 x1 x2 h := kq_inv F62_eq
noncomputable def c63 : Code := codeOf Try.prog 63
theorem r63_0  : kCode env 63 false inv k (cp c63 2) (act 9 [(0, x0)]) h K =
    K .normal (act 9 [(0, x0)]) h := kq_reg
noncomputable abbrev G63_1 {β : Type} (inv : Inv) (x0 : Value) (h : AH) (K : Value → AH → Option β) : Option β :=
    bnd (pBin Try.prog .geq 3 (.tmp 3) (.const (.int .i64 2)) x0 (.int .i64 2)) fun x4 =>
    bnd (gd (some x4) true h (some (x0, h))) fun x6 =>
    bnd (gd (some x4) true x6.2 (lt (pBin Try.prog .leq 3 (.tmp 6) (.const (.int .i64 5)) x6.1 (.int .i64 5)) x6.2)) fun x7 =>
    bnd (pickV x4 x7.1 (.bool false)) fun x8 =>
    K (x8) x7.2
theorem r63_1  : kCode env 63 false inv k (cp c63 6) (act 9 [(0, x0)]) h K =
    G63_1 inv x0 h fun y2 h => K .normal (act 9 [(2, y2)]) h := kq_reg
theorem res63_0 : resOfFn env.P 63 .ret (act 9 [(2, x2)]) h = some (x2, h) := kq_res
/-- shadowbook/pred.compares -/
noncomputable def F63 (inv : Inv) (k : Nat) (x0 : Value) (h : AH) : Option (Value × AH) :=
    G63_1 inv x0 h fun y2 h =>
    some (y2, h)
theorem F63_eq : eFun env k inv 63 #[x0] h = F63 inv k x0 h := by
      refine (kq_fun (a := act 9 [(0, x0)]) (c := cp c63 1)).trans ?_
      unfold F63
      simp only [kq_seq c63 1, r63_0, kq_seq c63 3, r63_1, kq_ret c63 7, res63_0, reduceIte, reduceCtorEq, XE.exit.injEq, Nat.reduceEqDiff, Nat.reduceMul, Nat.reduceAdd] <;> kernel_rfl
theorem F63_call : eInv env (k + 1) (.func 63) #[] #[x0] h = F63 (eInv env k) k x0 h := kq_inv F63_eq
end Go.Proofs.Ytjmfokglckaneaa.Sh
