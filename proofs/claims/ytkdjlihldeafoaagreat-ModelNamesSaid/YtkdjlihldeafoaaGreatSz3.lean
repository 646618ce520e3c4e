/- Shallow functions, part 3. Printed by a program of the prover's own from the loaded program; Lean checks it. -/
import Derived.Test.YtkdjlihldeafoaaGreatSz2
set_option linter.unusedVariables false
set_option linter.unusedSimpArgs false
set_option maxRecDepth 100000
namespace Go.Proofs.YtkdjlihldeafoaaGreat.Sh
open Go Go.RowKit Go.Proofs.Ev
variable {β : Type} {inv : Inv} {k : Nat} {h : AH} {K : XE → Act → AH → Option β} {x0 x1 x2 x3 x4 x5 x6 x7 x8 x9 x10 x11 x12 x13 x14 x15 x16 x17 x18 x19 x20 x21 x22 x23 x24 x25 x26 x27 x28 x29 x30 x31 x32 x33 x34 x35 x36 x37 x38 x39 x40 x41 x42 x43 x44 x45 x46 x47 x48 x49 x50 x51 x52 x53 x54 x55 x56 x57 x58 x59 x60 x61 x62 x63 x64 x65 x66 x67 x68 x69 x70 x71 x72 x74 x75 x76 x77 x79 x80 x81 x83 : Value}
noncomputable def c139 : Code := codeOf Tryz.prog 139
theorem r139_0  : kCode env 139 false inv k (cp c139 2) (act 84 [(0, x0), (1, x1)]) h K =
    bnd (pBox Tryz.prog 70 x1 h) fun x3 =>
    K .normal (act 84 [(0, x0), (3, x3.1)]) x3.2 := kq_reg
noncomputable abbrev G139_1 {β : Type} (inv : Inv) (x0 x3 : Value) (h : AH) (K : Value → AH → Option β) : Option β :=
    bnd (pFieldAddr Tryz.prog 70 x3 0) fun x8 =>
    bnd (pLoad Tryz.prog 3 x8 h) fun x9 =>
    bnd (inv (.func 165) #[] #[x9] h) fun x10 =>
    bnd (gd (some x10.1) true x10.2 (lt (pFieldAddr Tryz.prog 70 x3 1) x10.2)) fun x12 =>
    bnd (gd (some x10.1) true x12.2 (lt (pLoad Tryz.prog 3 x12.1 x12.2) x12.2)) fun x13 =>
    bnd (gd (some x10.1) true x13.2 (lt (pBin Tryz.prog .lss 3 (.tmp 13) (.const (.int .i64 0)) x13.1 (.int .i64 0)) x13.2)) fun x14 =>
    bnd (gd (some x10.1) true x14.2 (some (x14.1, x14.2))) fun x15 =>
    bnd (gd (some x15.1) false x15.2 (lt (pFieldAddr Tryz.prog 70 x3 1) x15.2)) fun x16 =>
    bnd (gd (some x15.1) false x16.2 (lt (pLoad Tryz.prog 3 x16.1 x16.2) x16.2)) fun x17 =>
    bnd (gd (some x15.1) false x17.2 (some (x0, x17.2))) fun x18 =>
    bnd (gd (some x15.1) false x18.2 (lt (pLen Tryz.prog #[36] x18.1 x18.2) x18.2)) fun x19 =>
    bnd (gd (some x15.1) false x19.2 (lt (pBin Tryz.prog .geq 3 (.tmp 17) (.tmp 19) x17.1 x19.1) x19.2)) fun x20 =>
    bnd (gd (some x10.1) true x20.2 (lt (pickV x15.1 (.bool true) x20.1) x20.2)) fun x21 =>
    bnd (pickV x10.1 x21.1 (.bool false)) fun x22 =>
    bnd (gd (some x22) false x21.2 (lt (pFieldAddr Tryz.prog 70 x3 0) x21.2)) fun x24 =>
    bnd (gd (some x22) false x24.2 (lt (pLoad Tryz.prog 3 x24.1 x24.2) x24.2)) fun x25 =>
    bnd (gd (some x22) false x25.2 (inv (.func 165) #[] #[x25.1] x25.2)) fun x26 =>
    bnd (gd (some x22) false x26.2 (lt (pUn Tryz.prog .not x26.1) x26.2)) fun x27 =>
    bnd (gd (some x22) false x27.2 (some (x27.1, x27.2))) fun x28 =>
    bnd (gd (some x28.1) true x28.2 (lt (pFieldAddr Tryz.prog 70 x3 1) x28.2)) fun x29 =>
    bnd (gd (some x28.1) true x29.2 (lt (pLoad Tryz.prog 3 x29.1 x29.2) x29.2)) fun x30 =>
    bnd (gd (some x28.1) true x30.2 (lt (pBin Tryz.prog .neq 3 (.tmp 30) (.const (.int .i64 0)) x30.1 (.int .i64 0)) x30.2)) fun x31 =>
    bnd (gd (some x22) false x31.2 (lt (pickV x28.1 x31.1 (.bool false)) x31.2)) fun x32 =>
    bnd (pickV x22 (.bool true) x32.1) fun x33 =>
    K (x33) x32.2
theorem r139_1  : kCode env 139 false inv k (cp c139 12) (act 84 [(0, x0), (3, x3)]) h K =
    G139_1 inv x0 x3 h fun y33 h => K .normal (act 84 [(0, x0), (3, x3), (33, y33)]) h := kq_reg
theorem b139_rlr  : kCode env 139 false inv k (cp c139 13) (act 84 [(0, x0), (3, x3), (33, x33)]) h K = brV x33 (kCode env 139 false inv k (cp c139 26) (act 84 [(0, x0), (3, x3), (33, x33)]) h K) (kCode env 139 false inv k (cp c139 27) (act 84 [(0, x0), (3, x3), (33, x33)]) h K) := kq_cond
theorem r139_2  : kCode env 139 false inv k (cp c139 52) (act 84 [(0, x0), (3, x3), (33, x33)]) h K =
    K .normal (act 84 [(4, (.bool false))]) h := kq_reg
theorem res139_0 : resOfFn env.P 139 .ret (act 84 [(4, x4)]) h = some (x4, h) := kq_res
theorem r139_3  : kCode env 139 false inv k (cp c139 28) (act 84 [(0, x0), (3, x3), (33, x33)]) h K =
    bnd (inv (.func 166) #[] #[] h) fun x35 =>
    bnd (pFieldAddr Tryz.prog 70 x3 0) fun x36 =>
    bnd (pLoad Tryz.prog 3 x36 x35.2) fun x37 =>
    bnd (pLookup Tryz.prog 187 x35.1 x37 true x35.2) fun x38 =>
    bnd (pExtract x38 0) fun x39 =>
    bnd (pExtract x38 1) fun x40 =>
    chkK ((!true || !true || (sameO (pLoad Tryz.prog 3 x36 h) x37 && sameO (pLoad Tryz.prog 3 x36 x35.2) x37)) && true) <|
    K .normal (act 84 [(0, x0), (3, x3), (6, x40)]) x35.2 := kq_draw
theorem r139_4  : kCode env 139 false inv k (cp c139 58) (act 84 [(0, x0), (3, x3), (6, x6)]) h K =
    K .normal (act 84 [(0, x0), (3, x3), (41, x6)]) h := kq_reg
theorem b139_rrlrr  : kCode env 139 false inv k (cp c139 59) (act 84 [(0, x0), (3, x3), (41, x41)]) h K = brV x41 (kCode env 139 false inv k (cp c139 118) (act 84 [(0, x0), (3, x3), (41, x41)]) h K) (kCode env 139 false inv k (cp c139 119) (act 84 [(0, x0), (3, x3), (41, x41)]) h K) := kq_cond
noncomputable abbrev G139_5 {β : Type} (inv : Inv) (x0 x3 : Value) (h : AH) (K : Value → AH → Option β) : Option β :=
    bnd (pFieldAddr Tryz.prog 70 x3 2) fun x42 =>
    bnd (pLoad Tryz.prog 49 x42 h) fun x43 =>
    bnd (inv (.func 167) #[] #[x43] h) fun x44 =>
    bnd (pBin Tryz.prog .neq 30 (.tmp 44) (.const (.int .i64 0)) x44.1 (.int .i64 0)) fun x45 =>
    bnd (gd3 (some x45) false x44.2 (lt (pFieldAddr Tryz.prog 70 x3 2) x44.2)) fun x47 =>
    bnd (gd3 (some x45) false x47.2.1 (lt (pFieldAddr Tryz.prog 49 x47.1 0) x47.2.1)) fun x48 =>
    bnd (gd3 (some x45) false x48.2.1 (lt (pLoad Tryz.prog 3 x48.1 x48.2.1) x48.2.1)) fun x49 =>
    bnd (gd3 (some x45) false x49.2.1 (some (x0, x49.2.1))) fun x50 =>
    bnd (gd3 (some x45) false x50.2.1 (lt (pFieldAddr Tryz.prog 70 x3 1) x50.2.1)) fun x51 =>
    bnd (gd3 (some x45) false x51.2.1 (lt (pLoad Tryz.prog 3 x51.1 x51.2.1) x51.2.1)) fun x52 =>
    bnd (gd3 (some x45) false x52.2.1 (lt (pIndexAddr Tryz.prog 36 x50.1 x52.1) x52.2.1)) fun x53 =>
    bnd (gd3 (some x45) false x53.2.1 (lt (pFieldAddr Tryz.prog 118 x53.1 1) x53.2.1)) fun x54 =>
    bnd (gd3 (some x45) false x54.2.1 (lt (pLoad Tryz.prog 3 x54.1 x54.2.1) x54.2.1)) fun x55 =>
    bnd (gd3 (some x45) false x55.2.1 (lt (pBin Tryz.prog .neq 3 (.tmp 49) (.tmp 55) x49.1 x55.1) x55.2.1)) fun x56 =>
    bnd (pickV x45 (.bool true) x56.1) fun x57 =>
    K (x57) x56.2.1
theorem r139_5  : kCode env 139 false inv k (cp c139 236) (act 84 [(0, x0), (3, x3), (41, x41)]) h K =
    G139_5 inv x0 x3 h fun y57 h => K .normal (act 84 [(3, x3), (57, y57)]) h := kq_draw
theorem b139_rlrrlrr  : kCode env 139 false inv k (cp c139 237) (act 84 [(3, x3), (57, x57)]) h K = brV x57 (kCode env 139 false inv k (cp c139 474) (act 84 [(3, x3), (57, x57)]) h K) (kCode env 139 false inv k (cp c139 475) (act 84 [(3, x3), (57, x57)]) h K) := kq_cond
theorem r139_6  : kCode env 139 false inv k (cp c139 948) (act 84 [(3, x3), (57, x57)]) h K =
    K .normal (act 84 [(4, (.bool false))]) h := kq_reg
theorem r139_7  : kCode env 139 false inv k (cp c139 238) (act 84 [(0, x0), (3, x3), (41, x41)]) h K =
    bnd (pFieldAddr Tryz.prog 70 x3 2) fun x58 =>
    bnd (pLoad Tryz.prog 49 x58 h) fun x59 =>
    bnd (pBuild Tryz.prog 49 #[]) fun x60 =>
    bnd (pBin Tryz.prog .neq 49 (.tmp 59) (.tmp 60) x59 x60) fun x61 =>
    K .normal (act 84 [(3, x3), (61, x61)]) h := kq_reg
theorem b139_rrrrlrr  : kCode env 139 false inv k (cp c139 239) (act 84 [(3, x3), (61, x61)]) h K = brV x61 (kCode env 139 false inv k (cp c139 478) (act 84 [(3, x3), (61, x61)]) h K) (kCode env 139 false inv k (cp c139 479) (act 84 [(3, x3), (61, x61)]) h K) := kq_cond
theorem r139_8  : kCode env 139 false inv k (cp c139 956) (act 84 [(3, x3), (61, x61)]) h K =
    K .normal (act 84 [(4, (.bool false))]) h := kq_reg
noncomputable def F139_rrlrr {β : Type} (inv : Inv) (k : Nat) (x0 x3 x41 : Value) (h : AH) (kn : (Value → Value → Value → AH → Option β)) (kr : (Value → AH → Option β)) : Option β :=
    brV x41
    (G139_5 inv x0 x3 h fun y57 h =>
    brV y57
    (kr (.bool false) h)
    (kn x3 y57 unk h))
    (bnd (pFieldAddr Tryz.prog 70 x3 2) fun x58 =>
    bnd (pLoad Tryz.prog 49 x58 h) fun x59 =>
    bnd (pBuild Tryz.prog 49 #[]) fun x60 =>
    bnd (pBin Tryz.prog .neq 49 (.tmp 59) (.tmp 60) x59 x60) fun x61 =>
    brV x61
    (kr (.bool false) h)
    (kn x3 unk x61 h))
theorem F139_rrlrr_eq  : kCode env 139 false inv k (cp c139 59) (act 84 [(0, x0), (3, x3), (41, x41)]) h K = F139_rrlrr inv k x0 x3 x41 h (fun y3 y57 y61 h => K .normal (act 84 [(3, y3), (57, y57), (61, y61)]) h) (fun y4 h => K .ret (act 84 [(4, y4)]) h) := by
      unfold F139_rrlrr
      simp only [b139_rrlrr, kq_seq c139 118, r139_5, b139_rlrrlrr, kq_seq c139 474, r139_6, kq_ret c139 949, kq_skip c139 475, kq_seq c139 119, r139_7, b139_rrrrlrr, kq_seq c139 478, r139_8, kq_ret c139 957, kq_skip c139 479, reduceIte, reduceCtorEq, XE.exit.injEq, Nat.reduceEqDiff, Nat.reduceMul, Nat.reduceAdd] <;> kernel_rfl
theorem r139_9  : kCode env 139 false inv k (cp c139 60) (act 84 [(3, x3), (57, x57), (61, x61)]) h K =
    bnd (pFieldAddr Tryz.prog 70 x3 3) fun x62 =>
    bnd (pLoad Tryz.prog 24 x62 h) fun x63 =>
    bnd (pLen Tryz.prog #[24] x63 h) fun x64 =>
    K .normal (act 84 [(3, x3), (7, x64)]) h := kq_reg
theorem r139_10  : kCode env 139 false inv k (cp c139 122) (act 84 [(3, x3), (7, x7)]) h K =
    bnd (pFieldAddr Tryz.prog 70 x3 0) fun x65 =>
    bnd (pLoad Tryz.prog 3 x65 h) fun x66 =>
    K .normal (act 84 [(7, x7), (66, x66)]) h := kq_reg
theorem r139_11  : kCode env 139 false inv k (cp c139 984) (act 84 [(7, x7), (66, x66)]) h K =
    bnd (pBin Tryz.prog .eql 3 (.tmp 66) (.const (.int .i64 1)) x66 (.int .i64 1)) fun x68 =>
    K .normal (act 84 [(7, x7), (66, x66), (67, x68)]) h := kq_reg
theorem b139_rllrrlrrr  : kCode env 139 false inv k (cp c139 985) (act 84 [(7, x7), (66, x66), (67, x67)]) h K = brV x67 (kCode env 139 false inv k (cp c139 1970) (act 84 [(7, x7), (66, x66), (67, x67)]) h K) (kCode env 139 false inv k (cp c139 1971) (act 84 [(7, x7), (66, x66), (67, x67)]) h K) := kq_cond
theorem r139_12  : kCode env 139 false inv k (cp c139 3942) (act 84 [(7, x7), (66, x66), (67, x67)]) h K =
    bnd (pBin Tryz.prog .eql 3 (.tmp 66) (.const (.int .i64 2)) x66 (.int .i64 2)) fun x69 =>
    K .normal (act 84 [(7, x7), (66, x66), (67, x69)]) h := kq_reg
theorem b139_rrrllrrlrrr  : kCode env 139 false inv k (cp c139 3943) (act 84 [(7, x7), (66, x66), (67, x67)]) h K = brV x67 (kCode env 139 false inv k (cp c139 7886) (act 84 [(7, x7), (66, x66), (67, x67)]) h K) (kCode env 139 false inv k (cp c139 7887) (act 84 [(7, x7), (66, x66), (67, x67)]) h K) := kq_cond
theorem r139_13  : kCode env 139 false inv k (cp c139 15774) (act 84 [(7, x7), (66, x66), (67, x67)]) h K =
    bnd (pBin Tryz.prog .eql 3 (.tmp 66) (.const (.int .i64 3)) x66 (.int .i64 3)) fun x70 =>
    K .normal (act 84 [(7, x7), (66, x66), (67, x70)]) h := kq_reg
theorem b139_rrrrrllrrlrrr  : kCode env 139 false inv k (cp c139 15775) (act 84 [(7, x7), (66, x66), (67, x67)]) h K = brV x67 (kCode env 139 false inv k (cp c139 31550) (act 84 [(7, x7), (66, x66), (67, x67)]) h K) (kCode env 139 false inv k (cp c139 31551) (act 84 [(7, x7), (66, x66), (67, x67)]) h K) := kq_cond
theorem r139_14  : kCode env 139 false inv k (cp c139 63102) (act 84 [(7, x7), (66, x66), (67, x67)]) h K =
    bnd (pBin Tryz.prog .eql 3 (.tmp 66) (.const (.int .i64 4)) x66 (.int .i64 4)) fun x71 =>
    K .normal (act 84 [(7, x7), (66, x66), (67, x71)]) h := kq_reg
theorem b139_rrrrrrrllrrlrrr  : kCode env 139 false inv k (cp c139 63103) (act 84 [(7, x7), (66, x66), (67, x67)]) h K = brV x67 (kCode env 139 false inv k (cp c139 126206) (act 84 [(7, x7), (66, x66), (67, x67)]) h K) (kCode env 139 false inv k (cp c139 126207) (act 84 [(7, x7), (66, x66), (67, x67)]) h K) := kq_cond
theorem r139_15  : kCode env 139 false inv k (cp c139 126207) (act 84 [(7, x7), (66, x66), (67, x67)]) h K =
    bnd (pBin Tryz.prog .eql 3 (.tmp 66) (.const (.int .i64 5)) x66 (.int .i64 5)) fun x72 =>
    K .normal (act 84 [(7, x7), (66, x66), (67, x72)]) h := kq_reg
noncomputable def F139_rllrrlrrr {β : Type} (inv : Inv) (k : Nat) (x7 x66 x67 : Value) (h : AH) (kn : (Value → Value → Value → AH → Option β)) : Option β :=
    brV x67
    (kn x7 x66 x67 h)
    (bnd (pBin Tryz.prog .eql 3 (.tmp 66) (.const (.int .i64 2)) x66 (.int .i64 2)) fun x69 =>
    brV x69
    (kn x7 x66 x69 h)
    (bnd (pBin Tryz.prog .eql 3 (.tmp 66) (.const (.int .i64 3)) x66 (.int .i64 3)) fun x70 =>
    brV x70
    (kn x7 x66 x70 h)
    (bnd (pBin Tryz.prog .eql 3 (.tmp 66) (.const (.int .i64 4)) x66 (.int .i64 4)) fun x71 =>
    brV x71
    (kn x7 x66 x71 h)
    (bnd (pBin Tryz.prog .eql 3 (.tmp 66) (.const (.int .i64 5)) x66 (.int .i64 5)) fun x72 =>
    kn x7 x66 x72 h))))
theorem F139_rllrrlrrr_eq  : kCode env 139 false inv k (cp c139 985) (act 84 [(7, x7), (66, x66), (67, x67)]) h K = F139_rllrrlrrr inv k x7 x66 x67 h (fun y7 y66 y67 h => K .normal (act 84 [(7, y7), (66, y66), (67, y67)]) h) := by
      unfold F139_rllrrlrrr
      simp only [b139_rllrrlrrr, kq_skip c139 1970, kq_seq c139 1971, r139_12, b139_rrrllrrlrrr, kq_skip c139 7886, kq_seq c139 7887, r139_13, b139_rrrrrllrrlrrr, kq_skip c139 31550, kq_seq c139 31551, r139_14, b139_rrrrrrrllrrlrrr, kq_skip c139 126206, r139_15, reduceIte, reduceCtorEq, XE.exit.injEq, Nat.reduceEqDiff, Nat.reduceMul, Nat.reduceAdd] <;> kernel_rfl
theorem b139_rlrrlrrr  : kCode env 139 false inv k (cp c139 493) (act 84 [(7, x7), (66, x66), (67, x67)]) h K = brV x67 (kCode env 139 false inv k (cp c139 986) (act 84 [(7, x7), (66, x66), (67, x67)]) h K) (kCode env 139 false inv k (cp c139 987) (act 84 [(7, x7), (66, x66), (67, x67)]) h K) := kq_cond
theorem r139_16  : kCode env 139 false inv k (cp c139 1972) (act 84 [(7, x7), (66, x66), (67, x67)]) h K =
    bnd (pBin Tryz.prog .eql 3 (.tmp 73) (.const (.int .i64 0)) x7 (.int .i64 0)) fun x74 =>
    K .normal (act 84 [(4, x74)]) h := kq_reg
theorem r139_17  : kCode env 139 false inv k (cp c139 3948) (act 84 [(7, x7), (66, x66), (67, x67)]) h K =
    bnd (pBin Tryz.prog .eql 3 (.tmp 66) (.const (.int .i64 6)) x66 (.int .i64 6)) fun x76 =>
    K .normal (act 84 [(7, x7), (66, x66), (75, x76)]) h := kq_reg
theorem b139_rlrrlrrlrrr  : kCode env 139 false inv k (cp c139 3949) (act 84 [(7, x7), (66, x66), (75, x75)]) h K = brV x75 (kCode env 139 false inv k (cp c139 7898) (act 84 [(7, x7), (66, x66), (75, x75)]) h K) (kCode env 139 false inv k (cp c139 7899) (act 84 [(7, x7), (66, x66), (75, x75)]) h K) := kq_cond
theorem r139_18  : kCode env 139 false inv k (cp c139 7899) (act 84 [(7, x7), (66, x66), (75, x75)]) h K =
    bnd (pBin Tryz.prog .eql 3 (.tmp 66) (.const (.int .i64 7)) x66 (.int .i64 7)) fun x77 =>
    K .normal (act 84 [(7, x7), (66, x66), (75, x77)]) h := kq_reg
noncomputable def F139_rlrrlrrlrrr {β : Type} (inv : Inv) (k : Nat) (x7 x66 x75 : Value) (h : AH) (kn : (Value → Value → Value → AH → Option β)) : Option β :=
    brV x75
    (kn x7 x66 x75 h)
    (bnd (pBin Tryz.prog .eql 3 (.tmp 66) (.const (.int .i64 7)) x66 (.int .i64 7)) fun x77 =>
    kn x7 x66 x77 h)
theorem F139_rlrrlrrlrrr_eq  : kCode env 139 false inv k (cp c139 3949) (act 84 [(7, x7), (66, x66), (75, x75)]) h K = F139_rlrrlrrlrrr inv k x7 x66 x75 h (fun y7 y66 y75 h => K .normal (act 84 [(7, y7), (66, y66), (75, y75)]) h) := by
      unfold F139_rlrrlrrlrrr
      simp only [b139_rlrrlrrlrrr, kq_skip c139 7898, r139_18, reduceIte, reduceCtorEq, XE.exit.injEq, Nat.reduceEqDiff, Nat.reduceMul, Nat.reduceAdd] <;> kernel_rfl
theorem b139_rrrlrrlrrr  : kCode env 139 false inv k (cp c139 1975) (act 84 [(7, x7), (66, x66), (75, x75)]) h K = brV x75 (kCode env 139 false inv k (cp c139 3950) (act 84 [(7, x7), (66, x66), (75, x75)]) h K) (kCode env 139 false inv k (cp c139 3951) (act 84 [(7, x7), (66, x66), (75, x75)]) h K) := kq_cond
theorem r139_19  : kCode env 139 false inv k (cp c139 7900) (act 84 [(7, x7), (66, x66), (75, x75)]) h K =
    bnd (pBin Tryz.prog .gtr 3 (.tmp 78) (.const (.int .i64 0)) x7 (.int .i64 0)) fun x79 =>
    K .normal (act 84 [(4, x79)]) h := kq_reg
theorem r139_20  : kCode env 139 false inv k (cp c139 7902) (act 84 [(7, x7), (66, x66), (75, x75)]) h K =
    bnd (pBin Tryz.prog .eql 3 (.tmp 66) (.const (.int .i64 8)) x66 (.int .i64 8)) fun x81 =>
    K .normal (act 84 [(7, x7), (80, x81)]) h := kq_reg
theorem b139_rrrrrlrrlrrr  : kCode env 139 false inv k (cp c139 7903) (act 84 [(7, x7), (80, x80)]) h K = brV x80 (kCode env 139 false inv k (cp c139 15806) (act 84 [(7, x7), (80, x80)]) h K) (kCode env 139 false inv k (cp c139 15807) (act 84 [(7, x7), (80, x80)]) h K) := kq_cond
theorem r139_21  : kCode env 139 false inv k (cp c139 31612) (act 84 [(7, x7), (80, x80)]) h K =
    bnd (pBin Tryz.prog .eql 3 (.tmp 82) (.const (.int .i64 1)) x7 (.int .i64 1)) fun x83 =>
    K .normal (act 84 [(4, x83)]) h := kq_reg
theorem r139_22  : kCode env 139 false inv k (cp c139 62) (act 84 [(7, x7), (80, x80)]) h K =
    K .normal (act 84 [(4, (.bool false))]) h := kq_reg
/-- shadowbook/pred.node -/
noncomputable def F139 (inv : Inv) (k : Nat) (x0 x1 : Value) (h : AH) : Option (Value × AH) :=
    bnd (pBox Tryz.prog 70 x1 h) fun x3 =>
    G139_1 inv x0 x3.1 x3.2 fun y33 h =>
    brV y33
    (some ((.bool false), h))
    (bnd (inv (.func 166) #[] #[] h) fun x35 =>
    bnd (pFieldAddr Tryz.prog 70 x3.1 0) fun x36 =>
    bnd (pLoad Tryz.prog 3 x36 x35.2) fun x37 =>
    bnd (pLookup Tryz.prog 187 x35.1 x37 true x35.2) fun x38 =>
    bnd (pExtract x38 0) fun x39 =>
    bnd (pExtract x38 1) fun x40 =>
    chkK ((!true || !true || (sameO (pLoad Tryz.prog 3 x36 h) x37 && sameO (pLoad Tryz.prog 3 x36 x35.2) x37)) && true) <|
    F139_rrlrr inv k x0 x3.1 x40 x35.2
    (fun y3 y57 y61 h_1 =>
    bnd (pFieldAddr Tryz.prog 70 y3 3) fun x62 =>
    bnd (pLoad Tryz.prog 24 x62 h_1) fun x63 =>
    bnd (pLen Tryz.prog #[24] x63 h_1) fun x64 =>
    bnd (pFieldAddr Tryz.prog 70 y3 0) fun x65 =>
    bnd (pLoad Tryz.prog 3 x65 h_1) fun x66 =>
    bnd (pBin Tryz.prog .eql 3 (.tmp 66) (.const (.int .i64 1)) x66 (.int .i64 1)) fun x68 =>
    F139_rllrrlrrr inv k x64 x66 x68 h_1
    (fun y7 y66 y67 h_2 =>
    brV y67
    (bnd (pBin Tryz.prog .eql 3 (.tmp 73) (.const (.int .i64 0)) y7 (.int .i64 0)) fun x74 =>
    some (x74, h_2))
    (bnd (pBin Tryz.prog .eql 3 (.tmp 66) (.const (.int .i64 6)) y66 (.int .i64 6)) fun x76 =>
    F139_rlrrlrrlrrr inv k y7 y66 x76 h_2
    (fun y7_3 y66_4 y75 h_5 =>
    brV y75
    (bnd (pBin Tryz.prog .gtr 3 (.tmp 78) (.const (.int .i64 0)) y7_3 (.int .i64 0)) fun x79 =>
    some (x79, h_5))
    (bnd (pBin Tryz.prog .eql 3 (.tmp 66) (.const (.int .i64 8)) y66_4 (.int .i64 8)) fun x81 =>
    brV x81
    (bnd (pBin Tryz.prog .eql 3 (.tmp 82) (.const (.int .i64 1)) y7_3 (.int .i64 1)) fun x83 =>
    some (x83, h_5))
    (some ((.bool false), h_5)))))))
    (fun y4 h_6 =>
    some (y4, h_6)))
theorem F139_eq : eFun env k inv 139 #[x0, x1] h = F139 inv k x0 x1 h := by
      refine (kq_fun (a := act 84 [(0, x0), (1, x1)]) (c := cp c139 1)).trans ?_
      unfold F139
      simp only [kq_seq c139 1, r139_0, kq_seq c139 3, kq_seq c139 6, r139_1, b139_rlr, kq_seq c139 26, r139_2, kq_ret c139 53, res139_0, kq_skip c139 27, kq_seq c139 7, kq_seq c139 14, r139_3, kq_seq c139 29, r139_4, F139_rrlrr_eq, kq_seq c139 15, kq_seq c139 30, r139_9, kq_seq c139 61, r139_10, kq_block c139 123 0, kq_seq c139 246, kq_seq c139 492, r139_11, F139_rllrrlrrr_eq, b139_rlrrlrrr, kq_seq c139 986, r139_16, kq_ret c139 1973, kq_seq c139 987, kq_seq c139 1974, r139_17, F139_rlrrlrrlrrr_eq, b139_rrrlrrlrrr, kq_seq c139 3950, r139_19, kq_ret c139 7901, kq_seq c139 3951, r139_20, b139_rrrrrlrrlrrr, kq_seq c139 15806, r139_21, kq_ret c139 31613, kq_skip c139 15807, kq_seq c139 31, r139_22, kq_ret c139 63, reduceIte, reduceCtorEq, XE.exit.injEq, Nat.reduceEqDiff, Nat.reduceMul, Nat.reduceAdd] <;> kernel_rfl
theorem F139_call : eInv env (k + 1) (.func 139) #[] #[x0, x1] h = F139 (eInv env k) k x0 x1 h := kq_inv F139_eq
noncomputable def c140 : Code := codeOf Tryz.prog 140
theorem r140_0  : kCode env 140 false inv k (cp c140 2) (act 9 [(0, x0), (1, x1)]) h K =
    K .normal (act 9 [(0, x0), (1, x1)]) h := kq_reg
theorem r140_1  : kCode env 140 false inv k (cp c140 6) (act 9 [(0, x0), (1, x1)]) h K =
    bnd (inv (.func 168) #[] #[x0, x1] h) fun x7 =>
    bnd (pBin Tryz.prog .geq 3 (.tmp 7) (.const (.int .i64 0)) x7.1 (.int .i64 0)) fun x8 =>
    K .normal (act 9 [(4, x8)]) x7.2 := kq_reg
theorem res140_0 : resOfFn env.P 140 .ret (act 9 [(4, x4)]) h = some (x4, h) := kq_res
/-- slices.ContainsFunc[[]int,int] -/
noncomputable def F140 (inv : Inv) (k : Nat) (x0 x1 : Value) (h : AH) : Option (Value × AH) :=
    bnd (inv (.func 168) #[] #[x0, x1] h) fun x7 =>
    bnd (pBin Tryz.prog .geq 3 (.tmp 7) (.const (.int .i64 0)) x7.1 (.int .i64 0)) fun x8 =>
    some (x8, x7.2)
theorem F140_eq : eFun env k inv 140 #[x0, x1] h = F140 inv k x0 x1 h := by
      refine (kq_fun (a := act 9 [(0, x0), (1, x1)]) (c := cp c140 1)).trans ?_
      unfold F140
      simp only [kq_seq c140 1, r140_0, kq_seq c140 3, r140_1, kq_ret c140 7, res140_0, reduceIte, reduceCtorEq, XE.exit.injEq, Nat.reduceEqDiff, Nat.reduceMul, Nat.reduceAdd] <;> kernel_rfl
theorem F140_call : eInv env (k + 1) (.func 140) #[] #[x0, x1] h = F140 (eInv env k) k x0 x1 h := kq_inv F140_eq
noncomputable def c141 : Code := codeOf Tryz.prog 141
theorem r141_0  : kCode env 141 false inv k (cp c141 2) (act 5 [(0, x0)]) h K =
    K .normal (act 5 [(0, x0)]) h := kq_reg
theorem r141_1  : kCode env 141 false inv k (cp c141 6) (act 5 [(0, x0)]) h K =
    bnd (pBin Tryz.prog .neq 3 (.tmp 3) (.const (.int .i64 1)) x0 (.int .i64 1)) fun x4 =>
    K .normal (act 5 [(2, x4)]) h := kq_reg
theorem res141_0 : resOfFn env.P 141 .ret (act 5 [(2, x2)]) h = some (x2, h) := kq_res
/-- shadowbook/pred.Check$1 -/
noncomputable def F141 (inv : Inv) (k : Nat) (x0 : Value) (h : AH) : Option (Value × AH) :=
    bnd (pBin Tryz.prog .neq 3 (.tmp 3) (.const (.int .i64 1)) x0 (.int .i64 1)) fun x4 =>
    some (x4, h)
theorem F141_eq : eFun env k inv 141 #[x0] h = F141 inv k x0 h := by
      refine (kq_fun (a := act 5 [(0, x0)]) (c := cp c141 1)).trans ?_
      unfold F141
      simp only [kq_seq c141 1, r141_0, kq_seq c141 3, r141_1, kq_ret c141 7, res141_0, reduceIte, reduceCtorEq, XE.exit.injEq, Nat.reduceEqDiff, Nat.reduceMul, Nat.reduceAdd] <;> kernel_rfl
theorem F141_call : eInv env (k + 1) (.func 141) #[] #[x0] h = F141 (eInv env k) k x0 h := kq_inv F141_eq
noncomputable def c142 : Code := codeOf Tryz.prog 142
theorem r142_0  : kCode env 142 false inv k (cp c142 2) (act 11 [(0, x0), (1, x1)]) h K =
    bnd (pBox Tryz.prog 45 x1 h) fun x3 =>
    K .normal (act 11 [(0, x0), (3, x3.1)]) x3.2 := kq_reg
theorem r142_1  : kCode env 142 false inv k (cp c142 12) (act 11 [(0, x0), (3, x3)]) h K =
    bnd (pLen Tryz.prog #[23] x0 h) fun x6 =>
    bnd (pBin Tryz.prog .eql 3 (.tmp 6) (.const (.int .i64 0)) x6 (.int .i64 0)) fun x7 =>
    K .normal (act 11 [(0, x0), (3, x3), (7, x7)]) h := kq_reg
theorem b142_rlr  : kCode env 142 false inv k (cp c142 13) (act 11 [(0, x0), (3, x3), (7, x7)]) h K = brV x7 (kCode env 142 false inv k (cp c142 26) (act 11 [(0, x0), (3, x3), (7, x7)]) h K) (kCode env 142 false inv k (cp c142 27) (act 11 [(0, x0), (3, x3), (7, x7)]) h K) := kq_cond
theorem r142_2  : kCode env 142 false inv k (cp c142 52) (act 11 [(0, x0), (3, x3), (7, x7)]) h K =
    K .normal (act 11 [(4, (.bool true))]) h := kq_reg
theorem res142_0 : resOfFn env.P 142 .ret (act 11 [(4, x4)]) h = some (x4, h) := kq_res
theorem r142_3  : kCode env 142 false inv k (cp c142 14) (act 11 [(0, x0), (3, x3), (7, x7)]) h K =
    bnd (pMakeFunc (.func 170) #[] #[x3]) fun x9 =>
    bnd (inv (.func 169) #[] #[x0, (.bool false), x9] h) fun x10 =>
    K .normal (act 11 [(4, x10.1)]) x10.2 := kq_reg
/-- shadowbook/pred.Holds -/
noncomputable def F142 (inv : Inv) (k : Nat) (x0 x1 : Value) (h : AH) : Option (Value × AH) :=
    bnd (pBox Tryz.prog 45 x1 h) fun x3 =>
    bnd (pLen Tryz.prog #[23] x0 x3.2) fun x6 =>
    bnd (pBin Tryz.prog .eql 3 (.tmp 6) (.const (.int .i64 0)) x6 (.int .i64 0)) fun x7 =>
    brV x7
    (some ((.bool true), x3.2))
    (bnd (pMakeFunc (.func 170) #[] #[x3.1]) fun x9 =>
    bnd (inv (.func 169) #[] #[x0, (.bool false), x9] x3.2) fun x10 =>
    some (x10.1, x10.2))
theorem F142_eq : eFun env k inv 142 #[x0, x1] h = F142 inv k x0 x1 h := by
      refine (kq_fun (a := act 11 [(0, x0), (1, x1)]) (c := cp c142 1)).trans ?_
      unfold F142
      simp only [kq_seq c142 1, r142_0, kq_seq c142 3, kq_seq c142 6, r142_1, b142_rlr, kq_seq c142 26, r142_2, kq_ret c142 53, res142_0, kq_skip c142 27, kq_seq c142 7, r142_3, kq_ret c142 15, reduceIte, reduceCtorEq, XE.exit.injEq, Nat.reduceEqDiff, Nat.reduceMul, Nat.reduceAdd] <;> kernel_rfl
theorem F142_call : eInv env (k + 1) (.func 142) #[] #[x0, x1] h = F142 (eInv env k) k x0 x1 h := kq_inv F142_eq
noncomputable def c143 : Code := codeOf Tryz.prog 143
theorem r143_0  : kCode env 143 false inv k (cp c143 2) (act 9 [(0, x0), (1, x1)]) h K =
    K .normal (act 9 [(0, x0), (1, x1)]) h := kq_reg
theorem r143_1  : kCode env 143 false inv k (cp c143 6) (act 9 [(0, x0), (1, x1)]) h K =
    bnd (inv (.func 173) #[] #[x0, x1] h) fun x7 =>
    bnd (pBin Tryz.prog .geq 3 (.tmp 7) (.const (.int .i64 0)) x7.1 (.int .i64 0)) fun x8 =>
    K .normal (act 9 [(4, x8)]) x7.2 := kq_reg
theorem res143_0 : resOfFn env.P 143 .ret (act 9 [(4, x4)]) h = some (x4, h) := kq_res
/-- slices.Contains[[]int,int] -/
noncomputable def F143 (inv : Inv) (k : Nat) (x0 x1 : Value) (h : AH) : Option (Value × AH) :=
    bnd (inv (.func 173) #[] #[x0, x1] h) fun x7 =>
    bnd (pBin Tryz.prog .geq 3 (.tmp 7) (.const (.int .i64 0)) x7.1 (.int .i64 0)) fun x8 =>
    some (x8, x7.2)
theorem F143_eq : eFun env k inv 143 #[x0, x1] h = F143 inv k x0 x1 h := by
      refine (kq_fun (a := act 9 [(0, x0), (1, x1)]) (c := cp c143 1)).trans ?_
      unfold F143
      simp only [kq_seq c143 1, r143_0, kq_seq c143 3, r143_1, kq_ret c143 7, res143_0, reduceIte, reduceCtorEq, XE.exit.injEq, Nat.reduceEqDiff, Nat.reduceMul, Nat.reduceAdd] <;> kernel_rfl
theorem F143_call : eInv env (k + 1) (.func 143) #[] #[x0, x1] h = F143 (eInv env k) k x0 x1 h := kq_inv F143_eq
noncomputable def c144 : Code := codeOf Tryz.prog 144
theorem r144_0  : kCode env 144 false inv k (cp c144 2) (act 9 [(0, x0), (1, x1)]) h K =
    K .normal (act 9 [(0, x0), (1, x1)]) h := kq_reg
theorem r144_1  : kCode env 144 false inv k (cp c144 6) (act 9 [(0, x0), (1, x1)]) h K =
    bnd (inv (.func 174) #[] #[x0, x1] h) fun x7 =>
    bnd (pBin Tryz.prog .geq 3 (.tmp 7) (.const (.int .i64 0)) x7.1 (.int .i64 0)) fun x8 =>
    K .normal (act 9 [(4, x8)]) x7.2 := kq_reg
theorem res144_0 : resOfFn env.P 144 .ret (act 9 [(4, x4)]) h = some (x4, h) := kq_res
/-- slices.ContainsFunc[[]shadowbook/api.Agg,shadowbook/api.Agg] -/
noncomputable def F144 (inv : Inv) (k : Nat) (x0 x1 : Value) (h : AH) : Option (Value × AH) :=
    bnd (inv (.func 174) #[] #[x0, x1] h) fun x7 =>
    bnd (pBin Tryz.prog .geq 3 (.tmp 7) (.const (.int .i64 0)) x7.1 (.int .i64 0)) fun x8 =>
    some (x8, x7.2)
theorem F144_eq : eFun env k inv 144 #[x0, x1] h = F144 inv k x0 x1 h := by
      refine (kq_fun (a := act 9 [(0, x0), (1, x1)]) (c := cp c144 1)).trans ?_
      unfold F144
      simp only [kq_seq c144 1, r144_0, kq_seq c144 3, r144_1, kq_ret c144 7, res144_0, reduceIte, reduceCtorEq, XE.exit.injEq, Nat.reduceEqDiff, Nat.reduceMul, Nat.reduceAdd] <;> kernel_rfl
theorem F144_call : eInv env (k + 1) (.func 144) #[] #[x0, x1] h = F144 (eInv env k) k x0 x1 h := kq_inv F144_eq
noncomputable def c145 : Code := codeOf Tryz.prog 145
theorem r145_0  : kCode env 145 false inv k (cp c145 2) (act 8 [(0, x0), (1, x1)]) h K =
    bnd (pBox Tryz.prog 43 x0 h) fun x2 =>
    K .normal (act 8 [(1, x1), (2, x2.1)]) x2.2 := kq_reg
theorem r145_1  : kCode env 145 false inv k (cp c145 6) (act 8 [(1, x1), (2, x2)]) h K =
    bnd (pLoad Tryz.prog 36 x1 h) fun x4 =>
    bnd (pLoad Tryz.prog 43 x2 h) fun x5 =>
    bnd (inv (.func 146) #[] #[x4, x5] h) fun x6 =>
    bnd (pUn Tryz.prog .not x6.1) fun x7 =>
    K .normal (act 8 [(3, x7)]) x6.2 := kq_reg
theorem res145_0 : resOfFn env.P 145 .ret (act 8 [(3, x3)]) h = some (x3, h) := kq_res
/-- shadowbook/agg.Check$1 -/
noncomputable def F145 (inv : Inv) (k : Nat) (x0 x1 : Value) (h : AH) : Option (Value × AH) :=
    bnd (pBox Tryz.prog 43 x0 h) fun x2 =>
    bnd (pLoad Tryz.prog 36 x1 x2.2) fun x4 =>
    bnd (pLoad Tryz.prog 43 x2.1 x2.2) fun x5 =>
    bnd (inv (.func 146) #[] #[x4, x5] x2.2) fun x6 =>
    bnd (pUn Tryz.prog .not x6.1) fun x7 =>
    some (x7, x6.2)
theorem F145_eq : eFun env k inv 145 #[x0, x1] h = F145 inv k x0 x1 h := by
      refine (kq_fun (a := act 8 [(0, x0), (1, x1)]) (c := cp c145 1)).trans ?_
      unfold F145
      simp only [kq_seq c145 1, r145_0, kq_seq c145 3, r145_1, kq_ret c145 7, res145_0, reduceIte, reduceCtorEq, XE.exit.injEq, Nat.reduceEqDiff, Nat.reduceMul, Nat.reduceAdd] <;> kernel_rfl
theorem F145_call : eInv env (k + 1) (.func 145) #[] #[x0, x1] h = F145 (eInv env k) k x0 x1 h := kq_inv F145_eq
noncomputable def c146 : Code := codeOf Tryz.prog 146
theorem r146_0  : kCode env 146 false inv k (cp c146 2) (act 39 [(0, x0), (1, x1)]) h K =
    bnd (pBox Tryz.prog 43 x1 h) fun x3 =>
    K .normal (act 39 [(0, x0), (3, x3.1)]) x3.2 := kq_reg
noncomputable abbrev G146_1 {β : Type} (inv : Inv) (x0 x3 : Value) (h : AH) (K : Value → AH → Option β) : Option β :=
    bnd (pFieldAddr Tryz.prog 43 x3 1) fun x6 =>
    bnd (pLoad Tryz.prog 3 x6 h) fun x7 =>
    bnd (pBin Tryz.prog .geq 3 (.tmp 7) (.const (.int .i64 0)) x7 (.int .i64 0)) fun x8 =>
    bnd (gd (some x8) true h (lt (pFieldAddr Tryz.prog 43 x3 1) h)) fun x10 =>
    bnd (gd (some x8) true x10.2 (lt (pLoad Tryz.prog 3 x10.1 x10.2) x10.2)) fun x11 =>
    bnd (gd (some x8) true x11.2 (some (x0, x11.2))) fun x12 =>
    bnd (gd (some x8) true x12.2 (lt (pLen Tryz.prog #[36] x12.1 x12.2) x12.2)) fun x13 =>
    bnd (gd (some x8) true x13.2 (lt (pBin Tryz.prog .lss 3 (.tmp 11) (.tmp 13) x11.1 x13.1) x13.2)) fun x14 =>
    bnd (pickV x8 x14.1 (.bool false)) fun x15 =>
    K (x15) x14.2
theorem r146_1  : kCode env 146 false inv k (cp c146 6) (act 39 [(0, x0), (3, x3)]) h K =
    G146_1 inv x0 x3 h fun y5 h => K .normal (act 39 [(0, x0), (3, x3), (5, y5)]) h := kq_reg
theorem r146_2  : kCode env 146 false inv k (cp c146 28) (act 39 [(0, x0), (3, x3), (5, x5)]) h K =
    bnd (pFieldAddr Tryz.prog 43 x3 0) fun x16 =>
    bnd (pLoad Tryz.prog 3 x16 h) fun x17 =>
    K .normal (act 39 [(0, x0), (3, x3), (5, x5), (17, x17)]) h := kq_reg
theorem r146_3  : kCode env 146 false inv k (cp c146 116) (act 39 [(0, x0), (3, x3), (5, x5), (17, x17)]) h K =
    bnd (pBin Tryz.prog .eql 3 (.tmp 17) (.const (.int .i64 1)) x17 (.int .i64 1)) fun x19 =>
    K .normal (act 39 [(0, x0), (3, x3), (5, x5), (17, x17), (18, x19)]) h := kq_reg
theorem b146_rlrlrr  : kCode env 146 false inv k (cp c146 117) (act 39 [(0, x0), (3, x3), (5, x5), (17, x17), (18, x18)]) h K = brV x18 (kCode env 146 false inv k (cp c146 234) (act 39 [(0, x0), (3, x3), (5, x5), (17, x17), (18, x18)]) h K) (kCode env 146 false inv k (cp c146 235) (act 39 [(0, x0), (3, x3), (5, x5), (17, x17), (18, x18)]) h K) := kq_cond
theorem r146_4  : kCode env 146 false inv k (cp c146 468) (act 39 [(0, x0), (3, x3), (5, x5), (17, x17), (18, x18)]) h K =
    bnd (pFieldAddr Tryz.prog 43 x3 1) fun x20 =>
    bnd (pLoad Tryz.prog 3 x20 h) fun x21 =>
    bnd (pBin Tryz.prog .eql 3 (.tmp 21) (.const (.int .i64 0)) x21 (.int .i64 0)) fun x22 =>
    K .normal (act 39 [(4, x22)]) h := kq_reg
theorem res146_0 : resOfFn env.P 146 .ret (act 39 [(4, x4)]) h = some (x4, h) := kq_res
theorem r146_5  : kCode env 146 false inv k (cp c146 470) (act 39 [(0, x0), (3, x3), (5, x5), (17, x17), (18, x18)]) h K =
    bnd (pBin Tryz.prog .eql 3 (.tmp 17) (.const (.int .i64 2)) x17 (.int .i64 2)) fun x24 =>
    K .normal (act 39 [(0, x0), (3, x3), (5, x5), (17, x17), (23, x24)]) h := kq_reg
theorem b146_rrrlrlrr  : kCode env 146 false inv k (cp c146 471) (act 39 [(0, x0), (3, x3), (5, x5), (17, x17), (23, x23)]) h K = brV x23 (kCode env 146 false inv k (cp c146 942) (act 39 [(0, x0), (3, x3), (5, x5), (17, x17), (23, x23)]) h K) (kCode env 146 false inv k (cp c146 943) (act 39 [(0, x0), (3, x3), (5, x5), (17, x17), (23, x23)]) h K) := kq_cond
noncomputable abbrev G146_6 {β : Type} (inv : Inv) (x0 x3 x5 : Value) (h : AH) (K : Value → AH → Option β) : Option β :=
    bnd (gd (some x5) true h (some (x0, h))) fun x27 =>
    bnd (gd (some x5) true x27.2 (lt (pFieldAddr Tryz.prog 43 x3 1) x27.2)) fun x28 =>
    bnd (gd (some x5) true x28.2 (lt (pLoad Tryz.prog 3 x28.1 x28.2) x28.2)) fun x29 =>
    bnd (gd (some x5) true x29.2 (lt (pIndexAddr Tryz.prog 36 x27.1 x29.1) x29.2)) fun x30 =>
    bnd (gd (some x5) true x30.2 (lt (pFieldAddr Tryz.prog 118 x30.1 1) x30.2)) fun x31 =>
    bnd (gd (some x5) true x31.2 (lt (pLoad Tryz.prog 3 x31.1 x31.2) x31.2)) fun x32 =>
    bnd (gd (some x5) true x32.2 (lt (pBin Tryz.prog .eql 3 (.tmp 32) (.const (.int .i64 1)) x32.1 (.int .i64 1)) x32.2)) fun x33 =>
    bnd (pickV x5 x33.1 (.bool false)) fun x34 =>
    K (x34) x33.2
theorem r146_6  : kCode env 146 false inv k (cp c146 1884) (act 39 [(0, x0), (3, x3), (5, x5), (17, x17), (23, x23)]) h K =
    G146_6 inv x0 x3 x5 h fun y4 h => K .normal (act 39 [(4, y4)]) h := kq_reg
theorem r146_7  : kCode env 146 false inv k (cp c146 3772) (act 39 [(0, x0), (3, x3), (5, x5), (17, x17), (23, x23)]) h K =
    bnd (pBin Tryz.prog .eql 3 (.tmp 17) (.const (.int .i64 3)) x17 (.int .i64 3)) fun x36 =>
    K .normal (act 39 [(5, x5), (17, x17), (35, x36)]) h := kq_reg
theorem b146_rlrrrrlrlrr  : kCode env 146 false inv k (cp c146 3773) (act 39 [(5, x5), (17, x17), (35, x35)]) h K = brV x35 (kCode env 146 false inv k (cp c146 7546) (act 39 [(5, x5), (17, x17), (35, x35)]) h K) (kCode env 146 false inv k (cp c146 7547) (act 39 [(5, x5), (17, x17), (35, x35)]) h K) := kq_cond
theorem r146_8  : kCode env 146 false inv k (cp c146 7547) (act 39 [(5, x5), (17, x17), (35, x35)]) h K =
    bnd (pBin Tryz.prog .eql 3 (.tmp 17) (.const (.int .i64 4)) x17 (.int .i64 4)) fun x37 =>
    K .normal (act 39 [(5, x5), (35, x37)]) h := kq_reg
noncomputable def F146_rlrrrrlrlrr {β : Type} (inv : Inv) (k : Nat) (x5 x17 x35 : Value) (h : AH) (kn : (Value → Value → Value → AH → Option β)) : Option β :=
    brV x35
    (kn x5 x17 x35 h)
    (bnd (pBin Tryz.prog .eql 3 (.tmp 17) (.const (.int .i64 4)) x17 (.int .i64 4)) fun x37 =>
    kn x5 unk x37 h)
theorem F146_rlrrrrlrlrr_eq  : kCode env 146 false inv k (cp c146 3773) (act 39 [(5, x5), (17, x17), (35, x35)]) h K = F146_rlrrrrlrlrr inv k x5 x17 x35 h (fun y5 y17 y35 h => K .normal (act 39 [(5, y5), (17, y17), (35, y35)]) h) := by
      unfold F146_rlrrrrlrlrr
      simp only [b146_rlrrrrlrlrr, kq_skip c146 7546, r146_8, reduceIte, reduceCtorEq, XE.exit.injEq, Nat.reduceEqDiff, Nat.reduceMul, Nat.reduceAdd] <;> kernel_rfl
theorem b146_rrrrrlrlrr  : kCode env 146 false inv k (cp c146 1887) (act 39 [(5, x5), (17, x17), (35, x35)]) h K = brV x35 (kCode env 146 false inv k (cp c146 3774) (act 39 [(5, x5), (17, x17), (35, x35)]) h K) (kCode env 146 false inv k (cp c146 3775) (act 39 [(5, x5), (17, x17), (35, x35)]) h K) := kq_cond
theorem r146_9  : kCode env 146 false inv k (cp c146 7548) (act 39 [(5, x5), (17, x17), (35, x35)]) h K =
    K .normal (act 39 [(4, x5)]) h := kq_reg
theorem r146_10  : kCode env 146 false inv k (cp c146 30) (act 39 [(5, x5), (17, x17), (35, x35)]) h K =
    K .normal (act 39 [(4, (.bool false))]) h := kq_reg
/-- shadowbook/agg.may -/
noncomputable def F146 (inv : Inv) (k : Nat) (x0 x1 : Value) (h : AH) : Option (Value × AH) :=
    bnd (pBox Tryz.prog 43 x1 h) fun x3 =>
    G146_1 inv x0 x3.1 x3.2 fun y5 h =>
    bnd (pFieldAddr Tryz.prog 43 x3.1 0) fun x16 =>
    bnd (pLoad Tryz.prog 3 x16 h) fun x17 =>
    bnd (pBin Tryz.prog .eql 3 (.tmp 17) (.const (.int .i64 1)) x17 (.int .i64 1)) fun x19 =>
    brV x19
    (bnd (pFieldAddr Tryz.prog 43 x3.1 1) fun x20 =>
    bnd (pLoad Tryz.prog 3 x20 h) fun x21 =>
    bnd (pBin Tryz.prog .eql 3 (.tmp 21) (.const (.int .i64 0)) x21 (.int .i64 0)) fun x22 =>
    some (x22, h))
    (bnd (pBin Tryz.prog .eql 3 (.tmp 17) (.const (.int .i64 2)) x17 (.int .i64 2)) fun x24 =>
    brV x24
    (G146_6 inv x0 x3.1 y5 h fun y4 h_1 =>
    some (y4, h_1))
    (bnd (pBin Tryz.prog .eql 3 (.tmp 17) (.const (.int .i64 3)) x17 (.int .i64 3)) fun x36 =>
    F146_rlrrrrlrlrr inv k y5 x17 x36 h
    (fun y5_2 y17 y35 h_3 =>
    brV y35
    (some (y5_2, h_3))
    (some ((.bool false), h_3)))))
theorem F146_eq : eFun env k inv 146 #[x0, x1] h = F146 inv k x0 x1 h := by
      refine (kq_fun (a := act 39 [(0, x0), (1, x1)]) (c := cp c146 1)).trans ?_
      unfold F146
      simp only [kq_seq c146 1, r146_0, kq_seq c146 3, r146_1, kq_seq c146 7, kq_seq c146 14, r146_2, kq_block c146 29 0, kq_seq c146 58, r146_3, b146_rlrlrr, kq_seq c146 234, r146_4, kq_ret c146 469, res146_0, kq_seq c146 235, r146_5, b146_rrrlrlrr, kq_seq c146 942, r146_6, kq_ret c146 1885, kq_seq c146 943, kq_seq c146 1886, r146_7, F146_rlrrrrlrlrr_eq, b146_rrrrrlrlrr, kq_seq c146 3774, r146_9, kq_ret c146 7549, kq_skip c146 3775, kq_seq c146 15, r146_10, kq_ret c146 31, reduceIte, reduceCtorEq, XE.exit.injEq, Nat.reduceEqDiff, Nat.reduceMul, Nat.reduceAdd] <;> kernel_rfl
theorem F146_call : eInv env (k + 1) (.func 146) #[] #[x0, x1] h = F146 (eInv env k) k x0 x1 h := kq_inv F146_eq
noncomputable def c147 : Code := codeOf Tryz.prog 147
theorem r147_0  : kCode env 147 false inv k (cp c147 2) (act 32 [(0, x0), (1, x1), (2, x2)]) h K =
    K .normal (act 32 [(0, x0), (1, x1), (2, x2)]) h := kq_reg
theorem r147_1  : kCode env 147 false inv k (cp c147 12) (act 32 [(0, x0), (1, x1), (2, x2)]) h K =
    bnd (inv (.func 114) #[] #[x0, x1, x2] h) fun x13 =>
    K .normal (act 32 [(0, x0), (1, x1), (2, x2), (8, x13.1)]) x13.2 := kq_reg
theorem r147_2  : kCode env 147 false inv k (cp c147 26) (act 32 [(0, x0), (1, x1), (2, x2), (8, x8)]) h K =
    bnd (pBin Tryz.prog .neq 30 (.tmp 14) (.const (.int .i64 0)) x8 (.int .i64 0)) fun x15 =>
    K .normal (act 32 [(0, x0), (1, x1), (2, x2), (8, x8), (15, x15)]) h := kq_reg
theorem b147_rrlr  : kCode env 147 false inv k (cp c147 27) (act 32 [(0, x0), (1, x1), (2, x2), (8, x8), (15, x15)]) h K = brV x15 (kCode env 147 false inv k (cp c147 54) (act 32 [(0, x0), (1, x1), (2, x2), (8, x8), (15, x15)]) h K) (kCode env 147 false inv k (cp c147 55) (act 32 [(0, x0), (1, x1), (2, x2), (8, x8), (15, x15)]) h K) := kq_cond
theorem r147_3  : kCode env 147 false inv k (cp c147 108) (act 32 [(0, x0), (1, x1), (2, x2), (8, x8), (15, x15)]) h K =
    K .normal (act 32 [(6, (.pointer none)), (7, x8)]) h := kq_reg
theorem res147_0 : resOfFn env.P 147 .ret (act 32 [(6, x6), (7, x7)]) h = some (.tuple #[x6, x7], h) := kq_res
theorem r147_4  : kCode env 147 false inv k (cp c147 14) (act 32 [(0, x0), (1, x1), (2, x2), (8, x8), (15, x15)]) h K =
    bnd (inv (.func 107) #[] #[x0] h) fun x18 =>
    bnd (inv (.func 175) #[] #[x1] x18.2) fun x20 =>
    bnd (inv (.func 176) #[] #[x2] x20.2) fun x22 =>
    bnd (pMakeMap Tryz.prog 197 none x22.2) fun x23 =>
    bnd (pBuild Tryz.prog 199 #[(0, x18.1), (1, x20.1), (2, x22.1), (3, x23.1)]) fun x24 =>
    bnd (pBox Tryz.prog 199 x24 x23.2) fun x25 =>
    K .normal (act 32 [(1, x1), (9, x25.1)]) x25.2 := kq_reg
theorem r147_5  : kCode env 147 false inv k (cp c147 60) (act 32 [(1, x1), (9, x9)]) h K =
    bnd (pLen Tryz.prog #[24] x1 h) fun x27 =>
    bnd (pBin Tryz.prog .eql 3 (.tmp 27) (.const (.int .i64 0)) x27 (.int .i64 0)) fun x28 =>
    K .normal (act 32 [(9, x9), (28, x28)]) h := kq_reg
theorem b147_rlrrr  : kCode env 147 false inv k (cp c147 61) (act 32 [(9, x9), (28, x28)]) h K = brV x28 (kCode env 147 false inv k (cp c147 122) (act 32 [(9, x9), (28, x28)]) h K) (kCode env 147 false inv k (cp c147 123) (act 32 [(9, x9), (28, x28)]) h K) := kq_cond
theorem r147_6  : kCode env 147 false inv k (cp c147 122) (act 32 [(9, x9), (28, x28)]) h K =
    bnd (inv (.func 177) #[] #[x9, (.slice none 0 0)] h) fun x30 =>
    K .normal (act 32 [(9, x9)]) x30.2 := kq_reg
noncomputable def F147_rlrrr {β : Type} (inv : Inv) (k : Nat) (x9 x28 : Value) (h : AH) (kn : (Value → Value → AH → Option β)) : Option β :=
    brV x28
    (bnd (inv (.func 177) #[] #[x9, (.slice none 0 0)] h) fun x30 =>
    kn x9 unk x30.2)
    (kn x9 x28 h)
theorem F147_rlrrr_eq  : kCode env 147 false inv k (cp c147 61) (act 32 [(9, x9), (28, x28)]) h K = F147_rlrrr inv k x9 x28 h (fun y9 y28 h => K .normal (act 32 [(9, y9), (28, y28)]) h) := by
      unfold F147_rlrrr
      simp only [b147_rlrrr, r147_6, kq_skip c147 123, reduceIte, reduceCtorEq, XE.exit.injEq, Nat.reduceEqDiff, Nat.reduceMul, Nat.reduceAdd] <;> kernel_rfl
theorem r147_7  : kCode env 147 false inv k (cp c147 62) (act 32 [(9, x9), (28, x28)]) h K =
    K .normal (act 32 [(6, x9), (7, (.int .i64 0))]) h := kq_reg
/-- shadowbook/agg.New -/
noncomputable def F147 (inv : Inv) (k : Nat) (x0 x1 x2 : Value) (h : AH) : Option (Value × AH) :=
    bnd (inv (.func 114) #[] #[x0, x1, x2] h) fun x13 =>
    bnd (pBin Tryz.prog .neq 30 (.tmp 14) (.const (.int .i64 0)) x13.1 (.int .i64 0)) fun x15 =>
    brV x15
    (some (.tuple #[(.pointer none), x13.1], x13.2))
    (bnd (inv (.func 107) #[] #[x0] x13.2) fun x18 =>
    bnd (inv (.func 175) #[] #[x1] x18.2) fun x20 =>
    bnd (inv (.func 176) #[] #[x2] x20.2) fun x22 =>
    bnd (pMakeMap Tryz.prog 197 none x22.2) fun x23 =>
    bnd (pBuild Tryz.prog 199 #[(0, x18.1), (1, x20.1), (2, x22.1), (3, x23.1)]) fun x24 =>
    bnd (pBox Tryz.prog 199 x24 x23.2) fun x25 =>
    bnd (pLen Tryz.prog #[24] x1 x25.2) fun x27 =>
    bnd (pBin Tryz.prog .eql 3 (.tmp 27) (.const (.int .i64 0)) x27 (.int .i64 0)) fun x28 =>
    F147_rlrrr inv k x25.1 x28 x25.2
    (fun y9 y28 h =>
    some (.tuple #[y9, (.int .i64 0)], h)))
theorem F147_eq : eFun env k inv 147 #[x0, x1, x2] h = F147 inv k x0 x1 x2 h := by
      refine (kq_fun (a := act 32 [(0, x0), (1, x1), (2, x2)]) (c := cp c147 1)).trans ?_
      unfold F147
      simp only [kq_seq c147 1, r147_0, kq_seq c147 3, kq_seq c147 6, r147_1, kq_seq c147 13, r147_2, b147_rrlr, kq_seq c147 54, r147_3, kq_ret c147 109, res147_0, kq_skip c147 55, kq_seq c147 7, r147_4, kq_seq c147 15, kq_seq c147 30, r147_5, F147_rlrrr_eq, kq_seq c147 31, r147_7, kq_ret c147 63, reduceIte, reduceCtorEq, XE.exit.injEq, Nat.reduceEqDiff, Nat.reduceMul, Nat.reduceAdd] <;> kernel_rfl
theorem F147_call : eInv env (k + 1) (.func 147) #[] #[x0, x1, x2] h = F147 (eInv env k) k x0 x1 x2 h := kq_inv F147_eq
noncomputable def c148 : Code := codeOf Tryz.prog 148
theorem r148_0  : kCode env 148 false inv k (cp c148 2) (act 46 [(0, x0), (1, x1)]) h K =
    K .normal (act 46 [(0, x0), (1, x1)]) h := kq_reg
theorem r148_1  : kCode env 148 false inv k (cp c148 12) (act 46 [(0, x0), (1, x1)]) h K =
    bnd (pBin Tryz.prog .eql 167 (.tmp 8) (.const (.pointer none)) x0 (.pointer none)) fun x9 =>
    K .normal (act 46 [(0, x0), (1, x1), (9, x9)]) h := kq_reg
theorem b148_rlr  : kCode env 148 false inv k (cp c148 13) (act 46 [(0, x0), (1, x1), (9, x9)]) h K = brV x9 (kCode env 148 false inv k (cp c148 26) (act 46 [(0, x0), (1, x1), (9, x9)]) h K) (kCode env 148 false inv k (cp c148 27) (act 46 [(0, x0), (1, x1), (9, x9)]) h K) := kq_cond
theorem r148_2  : kCode env 148 false inv k (cp c148 52) (act 46 [(0, x0), (1, x1), (9, x9)]) h K =
    K .normal (act 46 [(4, (.int .i64 1))]) h := kq_reg
theorem res148_0 : resOfFn env.P 148 .ret (act 46 [(4, x4)]) h = some (x4, h) := kq_res
theorem r148_3  : kCode env 148 false inv k (cp c148 28) (act 46 [(0, x0), (1, x1), (9, x9)]) h K =
    bnd (pNilCheck Tryz.prog x0) fun x11 =>
    bnd (pFieldAddr Tryz.prog 199 x11 0) fun x12 =>
    bnd (pLoad Tryz.prog 36 x12 h) fun x13 =>
    bnd (inv (.func 178) #[] #[x13, x1] h) fun x15 =>
    K .normal (act 46 [(0, x0), (1, x1), (5, x15.1)]) x15.2 := kq_reg
theorem r148_4  : kCode env 148 false inv k (cp c148 58) (act 46 [(0, x0), (1, x1), (5, x5)]) h K =
    bnd (pBin Tryz.prog .neq 30 (.tmp 16) (.const (.int .i64 0)) x5 (.int .i64 0)) fun x17 =>
    K .normal (act 46 [(0, x0), (1, x1), (5, x5), (17, x17)]) h := kq_reg
theorem b148_rrlrr  : kCode env 148 false inv k (cp c148 59) (act 46 [(0, x0), (1, x1), (5, x5), (17, x17)]) h K = brV x17 (kCode env 148 false inv k (cp c148 118) (act 46 [(0, x0), (1, x1), (5, x5), (17, x17)]) h K) (kCode env 148 false inv k (cp c148 119) (act 46 [(0, x0), (1, x1), (5, x5), (17, x17)]) h K) := kq_cond
theorem r148_5  : kCode env 148 false inv k (cp c148 236) (act 46 [(0, x0), (1, x1), (5, x5), (17, x17)]) h K =
    K .normal (act 46 [(4, x5)]) h := kq_reg
noncomputable abbrev G148_6 {β : Type} (inv : Inv) (x0 x1 : Value) (h : AH) (K : AH → Option β) : Option β :=
    bnd (pNilCheck Tryz.prog x0) fun x20 =>
    bnd (pFieldAddr Tryz.prog 199 x20 4) fun x21 =>
    bnd (pLoad Tryz.prog 3 x21 h) fun x22 =>
    bnd (pBin Tryz.prog .add 3 (.tmp 22) (.const (.int .i64 1)) x22 (.int .i64 1)) fun x23 =>
    bnd (pNilCheck Tryz.prog x0) fun x24 =>
    bnd (pFieldAddr Tryz.prog 199 x24 4) fun x25 =>
    bnd (kSt (pStore Tryz.prog 3 x25 x23 h)) fun u =>
    K u.2
theorem r148_6  : kCode env 148 false inv k (cp c148 30) (act 46 [(0, x0), (1, x1), (5, x5), (17, x17)]) h K =
    G148_6 inv x0 x1 h fun  h => K .normal (act 46 [(0, x0), (1, x1)]) h := kq_reg
noncomputable abbrev G148_7 {β : Type} (inv : Inv) (x0 x1 : Value) (h : AH) (K : Value → Value → Value → AH → Option β) : Option β :=
    bnd (pNilCheck Tryz.prog x0) fun x29 =>
    bnd (pFieldAddr Tryz.prog 199 x29 1) fun x30 =>
    bnd (pLoad Tryz.prog 24 x30 h) fun x31 =>
    bnd (inv (.func 113) #[] #[x1, x31] h) fun x32 =>
    bnd (inv (.func 177) #[] #[x0, x32.1] x32.2) fun x33 =>
    bnd (pNilCheck Tryz.prog x33.1) fun x34 =>
    bnd (pFieldAddr Tryz.prog 204 x34 1) fun x35 =>
    bnd (pLoad Tryz.prog 202 x35 x33.2) fun x36 =>
    bnd (pLen Tryz.prog #[202] x36 x33.2) fun x37 =>
    K (x36) (x37) ((.int .i64 0)) x33.2
theorem r148_7  : kCode env 148 false inv k (cp c148 124) (act 46 [(0, x0), (1, x1)]) h K =
    G148_7 inv x0 x1 h fun y36 y37 y38 h => K .normal (act 46 [(1, x1), (36, y36), (37, y37), (38, y38)]) h := kq_reg
theorem r148_8  : kCode env 148 false inv k (cp c148 1000) (act 46 [(1, x1), (36, x36), (37, x37), (38, x38)]) h K =
    bnd (pBin Tryz.prog .lss 3 (.tmp 38) (.tmp 37) x38 x37) fun x39 =>
    K .normal (act 46 [(1, x1), (36, x36), (37, x37), (38, x38), (39, x39)]) h := kq_reg
theorem b148_lrllrlrrrr  : kCode env 148 false inv k (cp c148 2002) (act 46 [(1, x1), (36, x36), (37, x37), (38, x38), (39, x39)]) h K = brV x39 (kCode env 148 false inv k (cp c148 4004) (act 46 [(1, x1), (36, x36), (37, x37), (38, x38), (39, x39)]) h K) (kCode env 148 false inv k (cp c148 4005) (act 46 [(1, x1), (36, x36), (37, x37), (38, x38), (39, x39)]) h K) := kq_cond
theorem r148_9  : kCode env 148 false inv k (cp c148 16024) (act 46 [(1, x1), (36, x36), (37, x37), (38, x38), (39, x39)]) h K =
    bnd (pIndexAddr Tryz.prog 202 x36 x38) fun x40 =>
    bnd (pLoad Tryz.prog 206 x40 h) fun x41 =>
    K .normal (act 46 [(1, x1), (7, x41), (36, x36), (37, x37), (38, x38)]) h := kq_reg
theorem r148_10  : kCode env 148 false inv k (cp c148 16025) (act 46 [(1, x1), (7, x7), (36, x36), (37, x37), (38, x38)]) h K =
    bnd (inv (.method "shadowbook/agg.add") #[] #[x7, x1] h) fun x44 =>
    K .normal (act 46 [(1, x1), (36, x36), (37, x37), (38, x38)]) x44.2 := kq_reg
theorem r148_11  : kCode env 148 false inv k (cp c148 4007) (act 46 [(1, x1), (36, x36), (37, x37), (38, x38)]) h K =
    bnd (pBin Tryz.prog .add 3 (.tmp 38) (.const (.int .i64 1)) x38 (.int .i64 1)) fun x45 =>
    K .normal (act 46 [(1, x1), (36, x36), (37, x37), (38, x45)]) h := kq_reg
noncomputable def F148_lrlrrrr {β : Type} (inv : Inv) (k : Nat) : Nat → Value → Value → Value → Value → AH → (Value → Value → Value → Value → Value → AH → Option β) → Option β
  | 0, _, _, _, _, _, _ => none
  | j + 1, x1, x36, x37, x38, h, ke0 =>
    bnd (pBin Tryz.prog .lss 3 (.tmp 38) (.tmp 37) x38 x37) fun x39 =>
    brV x39
    (bnd (pIndexAddr Tryz.prog 202 x36 x38) fun x40 =>
    bnd (pLoad Tryz.prog 206 x40 h) fun x41 =>
    bnd (inv (.method "shadowbook/agg.add") #[] #[x41, x1] h) fun x44 =>
    bnd (pBin Tryz.prog .add 3 (.tmp 38) (.const (.int .i64 1)) x38 (.int .i64 1)) fun x45 =>
    F148_lrlrrrr inv k j x1 x36 x37 x45 x44.2 ke0)
    (ke0 x1 x36 x37 x38 x39 h)
theorem F148_lrlrrrr_j (j : Nat) : kLoop (kCode env 148 false inv k (cp c148 500)) j (act 46 [(1, x1), (36, x36), (37, x37), (38, x38)]) h K = F148_lrlrrrr inv k j x1 x36 x37 x38 h (fun y1 y36 y37 y38 y39 h => K (.exit 0) (act 46 [(1, y1), (36, y36), (37, y37), (38, y38), (39, y39)]) h) := by
      induction j generalizing x1 x36 x37 x38 h with
      | zero => rfl
      | succ j ih =>
        unfold F148_lrlrrrr
        simp only [kLoop, kq_seq c148 500, r148_8, kq_seq c148 1001, b148_lrllrlrrrr, kq_skip c148 4004, kq_seq c148 2003, kq_block c148 4006 1, kq_seq c148 8012, r148_9, r148_10, r148_11, kq_exit c148 4005 0, ih, reduceIte, reduceCtorEq, XE.exit.injEq, Nat.reduceEqDiff, Nat.reduceMul, Nat.reduceAdd] <;> kernel_rfl
theorem F148_lrlrrrr_eq  : kCode env 148 false inv k (cp c148 250) (act 46 [(1, x1), (36, x36), (37, x37), (38, x38)]) h K = F148_lrlrrrr inv k k x1 x36 x37 x38 h (fun y1 y36 y37 y38 y39 h => K (.exit 0) (act 46 [(1, y1), (36, y36), (37, y37), (38, y38), (39, y39)]) h) := kq_loop (F148_lrlrrrr_j k)
theorem r148_12  : kCode env 148 false inv k (cp c148 126) (act 46 [(1, x1), (36, x36), (37, x37), (38, x38), (39, x39)]) h K =
    K .normal (act 46 [(4, (.int .i64 0))]) h := kq_reg
/-- (*shadowbook/agg.Acc).Add -/
noncomputable def F148 (inv : Inv) (k : Nat) (x0 x1 : Value) (h : AH) : Option (Value × AH) :=
    bnd (pBin Tryz.prog .eql 167 (.tmp 8) (.const (.pointer none)) x0 (.pointer none)) fun x9 =>
    brV x9
    (some ((.int .i64 1), h))
    (bnd (pNilCheck Tryz.prog x0) fun x11 =>
    bnd (pFieldAddr Tryz.prog 199 x11 0) fun x12 =>
    bnd (pLoad Tryz.prog 36 x12 h) fun x13 =>
    bnd (inv (.func 178) #[] #[x13, x1] h) fun x15 =>
    bnd (pBin Tryz.prog .neq 30 (.tmp 16) (.const (.int .i64 0)) x15.1 (.int .i64 0)) fun x17 =>
    brV x17
    (some (x15.1, x15.2))
    (G148_6 inv x0 x1 x15.2 fun  h =>
    G148_7 inv x0 x1 h fun y36 y37 y38 h_1 =>
    F148_lrlrrrr inv k k x1 y36 y37 y38 h_1
    (fun y1 y36_2 y37_3 y38_4 y39 h_5 =>
    some ((.int .i64 0), h_5))))
theorem F148_eq : eFun env k inv 148 #[x0, x1] h = F148 inv k x0 x1 h := by
      refine (kq_fun (a := act 46 [(0, x0), (1, x1)]) (c := cp c148 1)).trans ?_
      unfold F148
      simp only [kq_seq c148 1, r148_0, kq_seq c148 3, kq_seq c148 6, r148_1, b148_rlr, kq_seq c148 26, r148_2, kq_ret c148 53, res148_0, kq_skip c148 27, kq_seq c148 7, kq_seq c148 14, r148_3, kq_seq c148 29, r148_4, b148_rrlrr, kq_seq c148 118, r148_5, kq_ret c148 237, kq_skip c148 119, kq_seq c148 15, r148_6, kq_seq c148 31, kq_seq c148 62, r148_7, kq_block c148 125 0, F148_lrlrrrr_eq, kq_seq c148 63, r148_12, kq_ret c148 127, reduceIte, reduceCtorEq, XE.exit.injEq, Nat.reduceEqDiff, Nat.reduceMul, Nat.reduceAdd] <;> kernel_rfl
theorem F148_call : eInv env (k + 1) (.func 148) #[] #[x0, x1] h = F148 (eInv env k) k x0 x1 h := kq_inv F148_eq
noncomputable def c149 : Code := codeOf Tryz.prog 149
theorem r149_0  : kCode env 149 false inv k (cp c149 2) (act 55 [(0, x0)]) h K =
    K .normal (act 55 [(0, x0)]) h := kq_reg
theorem r149_1  : kCode env 149 false inv k (cp c149 12) (act 55 [(0, x0)]) h K =
    bnd (pBin Tryz.prog .eql 167 (.tmp 10) (.const (.pointer none)) x0 (.pointer none)) fun x11 =>
    K .normal (act 55 [(0, x0), (11, x11)]) h := kq_reg
theorem b149_rlr  : kCode env 149 false inv k (cp c149 13) (act 55 [(0, x0), (11, x11)]) h K = brV x11 (kCode env 149 false inv k (cp c149 26) (act 55 [(0, x0), (11, x11)]) h K) (kCode env 149 false inv k (cp c149 27) (act 55 [(0, x0), (11, x11)]) h K) := kq_cond
theorem r149_2  : kCode env 149 false inv k (cp c149 52) (act 55 [(0, x0), (11, x11)]) h K =
    K .normal (act 55 [(2, (.slice none 0 0))]) h := kq_reg
theorem res149_0 : resOfFn env.P 149 .ret (act 55 [(2, x2)]) h = some (x2, h) := kq_res
theorem r149_3  : kCode env 149 false inv k (cp c149 14) (act 55 [(0, x0), (11, x11)]) h K =
    K .normal (act 55 [(0, x0), (3, (.slice none 0 0))]) h := kq_reg
theorem r149_4  : kCode env 149 false inv k (cp c149 60) (act 55 [(0, x0), (3, x3)]) h K =
    bnd (pNilCheck Tryz.prog x0) fun x13 =>
    bnd (pFieldAddr Tryz.prog 199 x13 3) fun x14 =>
    bnd (pLoad Tryz.prog 197 x14 h) fun x15 =>
    bnd (inv (.func 180) #[] #[x15] h) fun x16 =>
    bnd (inv (.func 179) #[] #[x16.1] x16.2) fun x17 =>
    bnd (pLen Tryz.prog #[32] x17.1 x17.2) fun x18 =>
    K .normal (act 55 [(0, x0), (3, x3), (17, x17.1), (18, x18), (19, (.int .i64 0))]) x17.2 := kq_reg
theorem r149_5  : kCode env 149 false inv k (cp c149 488) (act 55 [(0, x0), (3, x3), (17, x17), (18, x18), (19, x19)]) h K =
    bnd (pBin Tryz.prog .lss 3 (.tmp 19) (.tmp 18) x19 x18) fun x20 =>
    K .normal (act 55 [(0, x0), (3, x3), (17, x17), (18, x18), (19, x19), (20, x20)]) h := kq_reg
theorem b149_lrllrlrrr  : kCode env 149 false inv k (cp c149 978) (act 55 [(0, x0), (3, x3), (17, x17), (18, x18), (19, x19), (20, x20)]) h K = brV x20 (kCode env 149 false inv k (cp c149 1956) (act 55 [(0, x0), (3, x3), (17, x17), (18, x18), (19, x19), (20, x20)]) h K) (kCode env 149 false inv k (cp c149 1957) (act 55 [(0, x0), (3, x3), (17, x17), (18, x18), (19, x19), (20, x20)]) h K) := kq_cond
theorem r149_6  : kCode env 149 false inv k (cp c149 7832) (act 55 [(0, x0), (3, x3), (17, x17), (18, x18), (19, x19), (20, x20)]) h K =
    bnd (pIndexAddr Tryz.prog 32 x17 x19) fun x21 =>
    bnd (pLoad Tryz.prog 9 x21 h) fun x22 =>
    K .normal (act 55 [(0, x0), (3, x3), (5, x22), (17, x17), (18, x18), (19, x19)]) h := kq_reg
theorem r149_7  : kCode env 149 false inv k (cp c149 15666) (act 55 [(0, x0), (3, x3), (5, x5), (17, x17), (18, x18), (19, x19)]) h K =
    bnd (pNilCheck Tryz.prog x0) fun x24 =>
    bnd (pFieldAddr Tryz.prog 199 x24 3) fun x25 =>
    bnd (pLoad Tryz.prog 197 x25 h) fun x26 =>
    bnd (pLookup Tryz.prog 197 x26 x5 false h) fun x28 =>
    K .normal (act 55 [(0, x0), (3, x3), (6, x28), (17, x17), (18, x18), (19, x19)]) h := kq_reg
theorem r149_8  : kCode env 149 false inv k (cp c149 31334) (act 55 [(0, x0), (3, x3), (6, x6), (17, x17), (18, x18), (19, x19)]) h K =
    bnd (pNilCheck Tryz.prog x6) fun x30 =>
    bnd (pFieldAddr Tryz.prog 204 x30 0) fun x31 =>
    bnd (pLoad Tryz.prog 45 x31 h) fun x32 =>
    bnd (inv (.func 154) #[] #[x32] h) fun x33 =>
    K .normal (act 55 [(0, x0), (3, x3), (6, x6), (7, x33.1), (17, x17), (18, x18), (19, x19)]) x33.2 := kq_reg
theorem r149_9  : kCode env 149 false inv k (cp c149 125340) (act 55 [(0, x0), (3, x3), (6, x6), (7, x7), (17, x17), (18, x18), (19, x19)]) h K =
    bnd (pNilCheck Tryz.prog x6) fun x35 =>
    bnd (pFieldAddr Tryz.prog 204 x35 1) fun x36 =>
    bnd (pLoad Tryz.prog 202 x36 h) fun x37 =>
    bnd (pLen Tryz.prog #[202] x37 h) fun x38 =>
    K .normal (act 55 [(0, x0), (3, x3), (7, x7), (17, x17), (18, x18), (19, x19), (37, x37), (38, x38), (39, (.int .i64 0))]) h := kq_reg
theorem r149_10  : kCode env 149 false inv k (cp c149 1002728) (act 55 [(0, x0), (3, x3), (7, x7), (17, x17), (18, x18), (19, x19), (37, x37), (38, x38), (39, x39)]) h K =
    bnd (pBin Tryz.prog .lss 3 (.tmp 39) (.tmp 38) x39 x38) fun x40 =>
    K .normal (act 55 [(0, x0), (3, x3), (7, x7), (17, x17), (18, x18), (19, x19), (37, x37), (38, x38), (39, x39), (40, x40)]) h := kq_reg
theorem b149_lrllrlrrrllrrllrlrrr  : kCode env 149 false inv k (cp c149 2005458) (act 55 [(0, x0), (3, x3), (7, x7), (17, x17), (18, x18), (19, x19), (37, x37), (38, x38), (39, x39), (40, x40)]) h K = brV x40 (kCode env 149 false inv k (cp c149 4010916) (act 55 [(0, x0), (3, x3), (7, x7), (17, x17), (18, x18), (19, x19), (37, x37), (38, x38), (39, x39), (40, x40)]) h K) (kCode env 149 false inv k (cp c149 4010917) (act 55 [(0, x0), (3, x3), (7, x7), (17, x17), (18, x18), (19, x19), (37, x37), (38, x38), (39, x39), (40, x40)]) h K) := kq_cond
theorem r149_11  : kCode env 149 false inv k (cp c149 16043672) (act 55 [(0, x0), (3, x3), (7, x7), (17, x17), (18, x18), (19, x19), (37, x37), (38, x38), (39, x39), (40, x40)]) h K =
    bnd (pIndexAddr Tryz.prog 202 x37 x39) fun x41 =>
    bnd (pLoad Tryz.prog 206 x41 h) fun x42 =>
    K .normal (act 55 [(0, x0), (3, x3), (7, x7), (9, x42), (17, x17), (18, x18), (19, x19), (37, x37), (38, x38), (39, x39)]) h := kq_reg
theorem r149_12  : kCode env 149 false inv k (cp c149 16043673) (act 55 [(0, x0), (3, x3), (7, x7), (9, x9), (17, x17), (18, x18), (19, x19), (37, x37), (38, x38), (39, x39)]) h K =
    bnd (inv (.method "shadowbook/agg.told") #[] #[x9] h) fun x45 =>
    bnd (pBuildSlice Tryz.prog 45 1 #[(0, x45.1)] x45.2) fun x46 =>
    bnd (pAppend Tryz.prog #[45, 45] x7 x46.1 x46.2) fun x47 =>
    K .normal (act 55 [(0, x0), (3, x3), (7, x47.1), (17, x17), (18, x18), (19, x19), (37, x37), (38, x38), (39, x39)]) x47.2 := kq_reg
theorem r149_13  : kCode env 149 false inv k (cp c149 4010919) (act 55 [(0, x0), (3, x3), (7, x7), (17, x17), (18, x18), (19, x19), (37, x37), (38, x38), (39, x39)]) h K =
    bnd (pBin Tryz.prog .add 3 (.tmp 39) (.const (.int .i64 1)) x39 (.int .i64 1)) fun x48 =>
    K .normal (act 55 [(0, x0), (3, x3), (7, x7), (17, x17), (18, x18), (19, x19), (37, x37), (38, x38), (39, x48)]) h := kq_reg
noncomputable def F149_lrlrrrllrrllrlrrr {β : Type} (inv : Inv) (k : Nat) : Nat → Value → Value → Value → Value → Value → Value → Value → Value → Value → AH → (Value → Value → Value → Value → Value → Value → Value → Value → Value → Value → AH → Option β) → Option β
  | 0, _, _, _, _, _, _, _, _, _, _, _ => none
  | j + 1, x0, x3, x7, x17, x18, x19, x37, x38, x39, h, ke2 =>
    bnd (pBin Tryz.prog .lss 3 (.tmp 39) (.tmp 38) x39 x38) fun x40 =>
    brV x40
    (bnd (pIndexAddr Tryz.prog 202 x37 x39) fun x41 =>
    bnd (pLoad Tryz.prog 206 x41 h) fun x42 =>
    bnd (inv (.method "shadowbook/agg.told") #[] #[x42] h) fun x45 =>
    bnd (pBuildSlice Tryz.prog 45 1 #[(0, x45.1)] x45.2) fun x46 =>
    bnd (pAppend Tryz.prog #[45, 45] x7 x46.1 x46.2) fun x47 =>
    bnd (pBin Tryz.prog .add 3 (.tmp 39) (.const (.int .i64 1)) x39 (.int .i64 1)) fun x48 =>
    F149_lrlrrrllrrllrlrrr inv k j x0 x3 x47.1 x17 x18 x19 x37 x38 x48 x47.2 ke2)
    (ke2 x0 x3 x7 x17 x18 x19 x37 x38 x39 x40 h)
theorem F149_lrlrrrllrrllrlrrr_j (j : Nat) : kLoop (kCode env 149 false inv k (cp c149 501364)) j (act 55 [(0, x0), (3, x3), (7, x7), (17, x17), (18, x18), (19, x19), (37, x37), (38, x38), (39, x39)]) h K = F149_lrlrrrllrrllrlrrr inv k j x0 x3 x7 x17 x18 x19 x37 x38 x39 h (fun y0 y3 y7 y17 y18 y19 y37 y38 y39 y40 h => K (.exit 2) (act 55 [(0, y0), (3, y3), (7, y7), (17, y17), (18, y18), (19, y19), (37, y37), (38, y38), (39, y39), (40, y40)]) h) := by
      induction j generalizing x0 x3 x7 x17 x18 x19 x37 x38 x39 h with
      | zero => rfl
      | succ j ih =>
        unfold F149_lrlrrrllrrllrlrrr
        simp only [kLoop, kq_seq c149 501364, r149_10, kq_seq c149 1002729, b149_lrllrlrrrllrrllrlrrr, kq_skip c149 4010916, kq_seq c149 2005459, kq_block c149 4010918 3, kq_seq c149 8021836, r149_11, r149_12, r149_13, kq_exit c149 4010917 2, ih, reduceIte, reduceCtorEq, XE.exit.injEq, Nat.reduceEqDiff, Nat.reduceMul, Nat.reduceAdd] <;> kernel_rfl
theorem F149_lrlrrrllrrllrlrrr_eq  : kCode env 149 false inv k (cp c149 250682) (act 55 [(0, x0), (3, x3), (7, x7), (17, x17), (18, x18), (19, x19), (37, x37), (38, x38), (39, x39)]) h K = F149_lrlrrrllrrllrlrrr inv k k x0 x3 x7 x17 x18 x19 x37 x38 x39 h (fun y0 y3 y7 y17 y18 y19 y37 y38 y39 y40 h => K (.exit 2) (act 55 [(0, y0), (3, y3), (7, y7), (17, y17), (18, y18), (19, y19), (37, y37), (38, y38), (39, y39), (40, y40)]) h) := kq_loop (F149_lrlrrrllrrllrlrrr_j k)
theorem r149_14  : kCode env 149 false inv k (cp c149 62671) (act 55 [(0, x0), (3, x3), (7, x7), (17, x17), (18, x18), (19, x19), (37, x37), (38, x38), (39, x39), (40, x40)]) h K =
    bnd (pBuildSlice Tryz.prog 31 1 #[(0, x7)] h) fun x51 =>
    bnd (pAppend Tryz.prog #[31, 31] x3 x51.1 x51.2) fun x52 =>
    K .normal (act 55 [(0, x0), (3, x52.1), (17, x17), (18, x18), (19, x19)]) x52.2 := kq_reg
theorem r149_15  : kCode env 149 false inv k (cp c149 1959) (act 55 [(0, x0), (3, x3), (17, x17), (18, x18), (19, x19)]) h K =
    bnd (pBin Tryz.prog .add 3 (.tmp 19) (.const (.int .i64 1)) x19 (.int .i64 1)) fun x53 =>
    K .normal (act 55 [(0, x0), (3, x3), (17, x17), (18, x18), (19, x53)]) h := kq_reg
noncomputable def F149_lrlrrr {β : Type} (inv : Inv) (k : Nat) : Nat → Value → Value → Value → Value → Value → AH → (Value → Value → Value → Value → Value → Value → AH → Option β) → Option β
  | 0, _, _, _, _, _, _, _ => none
  | j + 1, x0, x3, x17, x18, x19, h, ke0 =>
    bnd (pBin Tryz.prog .lss 3 (.tmp 19) (.tmp 18) x19 x18) fun x20 =>
    brV x20
    (bnd (pIndexAddr Tryz.prog 32 x17 x19) fun x21 =>
    bnd (pLoad Tryz.prog 9 x21 h) fun x22 =>
    bnd (pNilCheck Tryz.prog x0) fun x24 =>
    bnd (pFieldAddr Tryz.prog 199 x24 3) fun x25 =>
    bnd (pLoad Tryz.prog 197 x25 h) fun x26 =>
    bnd (pLookup Tryz.prog 197 x26 x22 false h) fun x28 =>
    bnd (pNilCheck Tryz.prog x28) fun x30 =>
    bnd (pFieldAddr Tryz.prog 204 x30 0) fun x31 =>
    bnd (pLoad Tryz.prog 45 x31 h) fun x32 =>
    bnd (inv (.func 154) #[] #[x32] h) fun x33 =>
    bnd (pNilCheck Tryz.prog x28) fun x35 =>
    bnd (pFieldAddr Tryz.prog 204 x35 1) fun x36 =>
    bnd (pLoad Tryz.prog 202 x36 x33.2) fun x37 =>
    bnd (pLen Tryz.prog #[202] x37 x33.2) fun x38 =>
    F149_lrlrrrllrrllrlrrr inv k k x0 x3 x33.1 x17 x18 x19 x37 x38 (.int .i64 0) x33.2
    (fun y0 y3 y7 y17 y18 y19 y37 y38 y39 y40 h =>
    bnd (pBuildSlice Tryz.prog 31 1 #[(0, y7)] h) fun x51 =>
    bnd (pAppend Tryz.prog #[31, 31] y3 x51.1 x51.2) fun x52 =>
    bnd (pBin Tryz.prog .add 3 (.tmp 19) (.const (.int .i64 1)) y19 (.int .i64 1)) fun x53 =>
    F149_lrlrrr inv k j y0 x52.1 y17 y18 x53 x52.2 ke0))
    (ke0 x0 x3 x17 x18 x19 x20 h)
theorem F149_lrlrrr_j (j : Nat) : kLoop (kCode env 149 false inv k (cp c149 244)) j (act 55 [(0, x0), (3, x3), (17, x17), (18, x18), (19, x19)]) h K = F149_lrlrrr inv k j x0 x3 x17 x18 x19 h (fun y0 y3 y17 y18 y19 y20 h => K (.exit 0) (act 55 [(0, y0), (3, y3), (17, y17), (18, y18), (19, y19), (20, y20)]) h) := by
      induction j generalizing x0 x3 x17 x18 x19 h with
      | zero => rfl
      | succ j ih =>
        unfold F149_lrlrrr
        simp only [kLoop, kq_seq c149 244, r149_5, kq_seq c149 489, b149_lrllrlrrr, kq_skip c149 1956, kq_seq c149 979, kq_block c149 1958 1, kq_seq c149 3916, r149_6, kq_seq c149 7833, r149_7, kq_seq c149 15667, r149_8, kq_seq c149 31335, kq_seq c149 62670, r149_9, kq_block c149 125341 2, F149_lrlrrrllrrllrlrrr_eq, r149_14, r149_15, kq_exit c149 1957 0, ih, reduceIte, reduceCtorEq, XE.exit.injEq, Nat.reduceEqDiff, Nat.reduceMul, Nat.reduceAdd] <;> kernel_rfl
theorem F149_lrlrrr_eq  : kCode env 149 false inv k (cp c149 122) (act 55 [(0, x0), (3, x3), (17, x17), (18, x18), (19, x19)]) h K = F149_lrlrrr inv k k x0 x3 x17 x18 x19 h (fun y0 y3 y17 y18 y19 y20 h => K (.exit 0) (act 55 [(0, y0), (3, y3), (17, y17), (18, y18), (19, y19), (20, y20)]) h) := kq_loop (F149_lrlrrr_j k)
theorem r149_16  : kCode env 149 false inv k (cp c149 62) (act 55 [(0, x0), (3, x3), (17, x17), (18, x18), (19, x19), (20, x20)]) h K =
    K .normal (act 55 [(2, x3)]) h := kq_reg
/-- (*shadowbook/agg.Acc).Rows -/
noncomputable def F149 (inv : Inv) (k : Nat) (x0 : Value) (h : AH) : Option (Value × AH) :=
    bnd (pBin Tryz.prog .eql 167 (.tmp 10) (.const (.pointer none)) x0 (.pointer none)) fun x11 =>
    brV x11
    (some ((.slice none 0 0), h))
    (bnd (pNilCheck Tryz.prog x0) fun x13 =>
    bnd (pFieldAddr Tryz.prog 199 x13 3) fun x14 =>
    bnd (pLoad Tryz.prog 197 x14 h) fun x15 =>
    bnd (inv (.func 180) #[] #[x15] h) fun x16 =>
    bnd (inv (.func 179) #[] #[x16.1] x16.2) fun x17 =>
    bnd (pLen Tryz.prog #[32] x17.1 x17.2) fun x18 =>
    F149_lrlrrr inv k k x0 (.slice none 0 0) x17.1 x18 (.int .i64 0) x17.2
    (fun y0 y3 y17 y18 y19 y20 h =>
    some (y3, h)))
theorem F149_eq : eFun env k inv 149 #[x0] h = F149 inv k x0 h := by
      refine (kq_fun (a := act 55 [(0, x0)]) (c := cp c149 1)).trans ?_
      unfold F149
      simp only [kq_seq c149 1, r149_0, kq_seq c149 3, kq_seq c149 6, r149_1, b149_rlr, kq_seq c149 26, r149_2, kq_ret c149 53, res149_0, kq_skip c149 27, kq_seq c149 7, r149_3, kq_seq c149 15, kq_seq c149 30, r149_4, kq_block c149 61 0, F149_lrlrrr_eq, kq_seq c149 31, r149_16, kq_ret c149 63, reduceIte, reduceCtorEq, XE.exit.injEq, Nat.reduceEqDiff, Nat.reduceMul, Nat.reduceAdd] <;> kernel_rfl
theorem F149_call : eInv env (k + 1) (.func 149) #[] #[x0] h = F149 (eInv env k) k x0 h := kq_inv F149_eq
noncomputable def c150 : Code := codeOf Tryz.prog 150
theorem r150_0  : kCode env 150 false inv k (cp c150 2) (act 36 [(0, x0)]) h K =
    K .normal (act 36 [(0, x0)]) h := kq_reg
theorem r150_1  : kCode env 150 false inv k (cp c150 6) (act 36 [(0, x0)]) h K =
    K .normal (act 36 [(0, x0), (3, (.int .i64 0))]) h := kq_reg
theorem r150_2  : kCode env 150 false inv k (cp c150 28) (act 36 [(0, x0), (3, x3)]) h K =
    bnd (pLen Tryz.prog #[213] x0 h) fun x10 =>
    K .normal (act 36 [(0, x0), (3, x3), (9, x0), (10, x10), (11, (.int .i64 0))]) h := kq_reg
theorem r150_3  : kCode env 150 false inv k (cp c150 232) (act 36 [(0, x0), (3, x3), (9, x9), (10, x10), (11, x11)]) h K =
    bnd (pBin Tryz.prog .lss 3 (.tmp 11) (.tmp 10) x11 x10) fun x12 =>
    K .normal (act 36 [(0, x0), (3, x3), (9, x9), (10, x10), (11, x11), (12, x12)]) h := kq_reg
theorem b150_lrllrlrr  : kCode env 150 false inv k (cp c150 466) (act 36 [(0, x0), (3, x3), (9, x9), (10, x10), (11, x11), (12, x12)]) h K = brV x12 (kCode env 150 false inv k (cp c150 932) (act 36 [(0, x0), (3, x3), (9, x9), (10, x10), (11, x11), (12, x12)]) h K) (kCode env 150 false inv k (cp c150 933) (act 36 [(0, x0), (3, x3), (9, x9), (10, x10), (11, x11), (12, x12)]) h K) := kq_cond
theorem r150_4  : kCode env 150 false inv k (cp c150 3736) (act 36 [(0, x0), (3, x3), (9, x9), (10, x10), (11, x11), (12, x12)]) h K =
    bnd (pIndexAddr Tryz.prog 213 x9 x11) fun x13 =>
    bnd (pLoad Tryz.prog 56 x13 h) fun x14 =>
    K .normal (act 36 [(0, x0), (3, x3), (5, x14), (9, x9), (10, x10), (11, x11)]) h := kq_reg
theorem r150_5  : kCode env 150 false inv k (cp c150 7474) (act 36 [(0, x0), (3, x3), (5, x5), (9, x9), (10, x10), (11, x11)]) h K =
    bnd (pLen Tryz.prog #[56] x5 h) fun x17 =>
    bnd (pBin Tryz.prog .add 3 (.tmp 15) (.tmp 17) x3 x17) fun x18 =>
    K .normal (act 36 [(0, x0), (3, x18), (9, x9), (10, x10), (11, x11)]) h := kq_reg
theorem r150_6  : kCode env 150 false inv k (cp c150 14950) (act 36 [(0, x0), (3, x3), (9, x9), (10, x10), (11, x11)]) h K =
    bnd (pBin Tryz.prog .lss 3 (.tmp 19) (.const (.int .i64 0)) x3 (.int .i64 0)) fun x20 =>
    K .normal (act 36 [(0, x0), (3, x3), (9, x9), (10, x10), (11, x11), (20, x20)]) h := kq_reg
theorem b150_rrrllrrllrlrr  : kCode env 150 false inv k (cp c150 14951) (act 36 [(0, x0), (3, x3), (9, x9), (10, x10), (11, x11), (20, x20)]) h K = brV x20 (kCode env 150 false inv k (cp c150 29902) (act 36 [(0, x0), (3, x3), (9, x9), (10, x10), (11, x11), (20, x20)]) h K) (kCode env 150 false inv k (cp c150 29903) (act 36 [(0, x0), (3, x3), (9, x9), (10, x10), (11, x11), (20, x20)]) h K) := kq_cond
theorem r150_7  : kCode env 150 false inv k (cp c150 29902) (act 36 [(0, x0), (3, x3), (9, x9), (10, x10), (11, x11), (20, x20)]) h K =
    bnd (pMakeIface Tryz.prog 9 (.string { data := #[108, 101, 110, 32, 111, 117, 116, 32, 111, 102, 32, 114, 97, 110, 103, 101] })) fun x21 =>
    bnd ((none : Option (Value × AH))) fun u =>
    K .normal (act 36 [(0, x0), (3, x3), (9, x9), (10, x10), (11, x11)]) u.2 := kq_reg
noncomputable def F150_lrrllrlrr {β : Type} (inv : Inv) (k : Nat) (x0 x3 x9 x10 x11 x12 : Value) (h : AH) (kn : (Value → Value → Value → Value → Value → Value → AH → Option β)) : Option β :=
    bnd (pIndexAddr Tryz.prog 213 x9 x11) fun x13 =>
    bnd (pLoad Tryz.prog 56 x13 h) fun x14 =>
    bnd (pLen Tryz.prog #[56] x14 h) fun x17 =>
    bnd (pBin Tryz.prog .add 3 (.tmp 15) (.tmp 17) x3 x17) fun x18 =>
    bnd (pBin Tryz.prog .lss 3 (.tmp 19) (.const (.int .i64 0)) x18 (.int .i64 0)) fun x20 =>
    brV x20
    (bnd (pMakeIface Tryz.prog 9 (.string { data := #[108, 101, 110, 32, 111, 117, 116, 32, 111, 102, 32, 114, 97, 110, 103, 101] })) fun x21 =>
    bnd ((none : Option (Value × AH))) fun u =>
    kn x0 x18 x9 x10 x11 unk u.2)
    (kn x0 x18 x9 x10 x11 x20 h)
theorem F150_lrrllrlrr_eq  : kCode env 150 false inv k (cp c150 934) (act 36 [(0, x0), (3, x3), (9, x9), (10, x10), (11, x11), (12, x12)]) h K = F150_lrrllrlrr inv k x0 x3 x9 x10 x11 x12 h (fun y0 y3 y9 y10 y11 y20 h => K .normal (act 36 [(0, y0), (3, y3), (9, y9), (10, y10), (11, y11), (20, y20)]) h) := by
      unfold F150_lrrllrlrr
      simp only [kq_block c150 934 1, kq_seq c150 1868, r150_4, kq_seq c150 3737, r150_5, kq_seq c150 7475, r150_6, b150_rrrllrrllrlrr, r150_7, kq_skip c150 29903, reduceIte, reduceCtorEq, XE.exit.injEq, Nat.reduceEqDiff, Nat.reduceMul, Nat.reduceAdd] <;> kernel_rfl
theorem r150_8  : kCode env 150 false inv k (cp c150 935) (act 36 [(0, x0), (3, x3), (9, x9), (10, x10), (11, x11), (20, x20)]) h K =
    bnd (pBin Tryz.prog .add 3 (.tmp 11) (.const (.int .i64 1)) x11 (.int .i64 1)) fun x22 =>
    K .normal (act 36 [(0, x0), (3, x3), (9, x9), (10, x10), (11, x22)]) h := kq_reg
noncomputable def F150_lrlrr {β : Type} (inv : Inv) (k : Nat) : Nat → Value → Value → Value → Value → Value → AH → (Value → Value → Value → Value → Value → Value → AH → Option β) → Option β
  | 0, _, _, _, _, _, _, _ => none
  | j + 1, x0, x3, x9, x10, x11, h, ke0 =>
    bnd (pBin Tryz.prog .lss 3 (.tmp 11) (.tmp 10) x11 x10) fun x12 =>
    brV x12
    (F150_lrrllrlrr inv k x0 x3 x9 x10 x11 x12 h
    (fun y0 y3 y9 y10 y11 y20 h =>
    bnd (pBin Tryz.prog .add 3 (.tmp 11) (.const (.int .i64 1)) y11 (.int .i64 1)) fun x22 =>
    F150_lrlrr inv k j y0 y3 y9 y10 x22 h ke0))
    (ke0 x0 x3 x9 x10 x11 x12 h)
theorem F150_lrlrr_j (j : Nat) : kLoop (kCode env 150 false inv k (cp c150 116)) j (act 36 [(0, x0), (3, x3), (9, x9), (10, x10), (11, x11)]) h K = F150_lrlrr inv k j x0 x3 x9 x10 x11 h (fun y0 y3 y9 y10 y11 y12 h => K (.exit 0) (act 36 [(0, y0), (3, y3), (9, y9), (10, y10), (11, y11), (12, y12)]) h) := by
      induction j generalizing x0 x3 x9 x10 x11 h with
      | zero => rfl
      | succ j ih =>
        unfold F150_lrlrr
        simp only [kLoop, kq_seq c150 116, r150_3, kq_seq c150 233, b150_lrllrlrr, kq_skip c150 932, kq_seq c150 467, F150_lrrllrlrr_eq, r150_8, kq_exit c150 933 0, ih, reduceIte, reduceCtorEq, XE.exit.injEq, Nat.reduceEqDiff, Nat.reduceMul, Nat.reduceAdd] <;> kernel_rfl
theorem F150_lrlrr_eq  : kCode env 150 false inv k (cp c150 58) (act 36 [(0, x0), (3, x3), (9, x9), (10, x10), (11, x11)]) h K = F150_lrlrr inv k k x0 x3 x9 x10 x11 h (fun y0 y3 y9 y10 y11 y12 h => K (.exit 0) (act 36 [(0, y0), (3, y3), (9, y9), (10, y10), (11, y11), (12, y12)]) h) := kq_loop (F150_lrlrr_j k)
theorem r150_9  : kCode env 150 false inv k (cp c150 30) (act 36 [(0, x0), (3, x3), (9, x9), (10, x10), (11, x11), (12, x12)]) h K =
    bnd (inv (.func 181) #[] #[(.slice none 0 0), x3] h) fun x24 =>
    K .normal (act 36 [(0, x0), (6, x24.1)]) x24.2 := kq_reg
theorem r150_10  : kCode env 150 false inv k (cp c150 124) (act 36 [(0, x0), (6, x6)]) h K =
    bnd (pLen Tryz.prog #[213] x0 h) fun x26 =>
    K .normal (act 36 [(6, x6), (25, x0), (26, x26), (27, (.int .i64 0))]) h := kq_reg
theorem r150_11  : kCode env 150 false inv k (cp c150 1000) (act 36 [(6, x6), (25, x25), (26, x26), (27, x27)]) h K =
    bnd (pBin Tryz.prog .lss 3 (.tmp 27) (.tmp 26) x27 x26) fun x28 =>
    K .normal (act 36 [(6, x6), (25, x25), (26, x26), (27, x27), (28, x28)]) h := kq_reg
theorem b150_lrllrlrrrr  : kCode env 150 false inv k (cp c150 2002) (act 36 [(6, x6), (25, x25), (26, x26), (27, x27), (28, x28)]) h K = brV x28 (kCode env 150 false inv k (cp c150 4004) (act 36 [(6, x6), (25, x25), (26, x26), (27, x27), (28, x28)]) h K) (kCode env 150 false inv k (cp c150 4005) (act 36 [(6, x6), (25, x25), (26, x26), (27, x27), (28, x28)]) h K) := kq_cond
theorem r150_12  : kCode env 150 false inv k (cp c150 16024) (act 36 [(6, x6), (25, x25), (26, x26), (27, x27), (28, x28)]) h K =
    bnd (pIndexAddr Tryz.prog 213 x25 x27) fun x29 =>
    bnd (pLoad Tryz.prog 56 x29 h) fun x30 =>
    K .normal (act 36 [(6, x6), (8, x30), (25, x25), (26, x26), (27, x27)]) h := kq_reg
theorem r150_13  : kCode env 150 false inv k (cp c150 16025) (act 36 [(6, x6), (8, x8), (25, x25), (26, x26), (27, x27)]) h K =
    bnd (pAppend Tryz.prog #[56, 56] x6 x8 h) fun x33 =>
    K .normal (act 36 [(6, x33.1), (25, x25), (26, x26), (27, x27)]) x33.2 := kq_reg
theorem r150_14  : kCode env 150 false inv k (cp c150 4007) (act 36 [(6, x6), (25, x25), (26, x26), (27, x27)]) h K =
    bnd (pBin Tryz.prog .add 3 (.tmp 27) (.const (.int .i64 1)) x27 (.int .i64 1)) fun x34 =>
    K .normal (act 36 [(6, x6), (25, x25), (26, x26), (27, x34)]) h := kq_reg
noncomputable def F150_lrlrrrr {β : Type} (inv : Inv) (k : Nat) : Nat → Value → Value → Value → Value → AH → (Value → Value → Value → Value → Value → AH → Option β) → Option β
  | 0, _, _, _, _, _, _ => none
  | j + 1, x6, x25, x26, x27, h, ke2 =>
    bnd (pBin Tryz.prog .lss 3 (.tmp 27) (.tmp 26) x27 x26) fun x28 =>
    brV x28
    (bnd (pIndexAddr Tryz.prog 213 x25 x27) fun x29 =>
    bnd (pLoad Tryz.prog 56 x29 h) fun x30 =>
    bnd (pAppend Tryz.prog #[56, 56] x6 x30 h) fun x33 =>
    bnd (pBin Tryz.prog .add 3 (.tmp 27) (.const (.int .i64 1)) x27 (.int .i64 1)) fun x34 =>
    F150_lrlrrrr inv k j x33.1 x25 x26 x34 x33.2 ke2)
    (ke2 x6 x25 x26 x27 x28 h)
theorem F150_lrlrrrr_j (j : Nat) : kLoop (kCode env 150 false inv k (cp c150 500)) j (act 36 [(6, x6), (25, x25), (26, x26), (27, x27)]) h K = F150_lrlrrrr inv k j x6 x25 x26 x27 h (fun y6 y25 y26 y27 y28 h => K (.exit 2) (act 36 [(6, y6), (25, y25), (26, y26), (27, y27), (28, y28)]) h) := by
      induction j generalizing x6 x25 x26 x27 h with
      | zero => rfl
      | succ j ih =>
        unfold F150_lrlrrrr
        simp only [kLoop, kq_seq c150 500, r150_11, kq_seq c150 1001, b150_lrllrlrrrr, kq_skip c150 4004, kq_seq c150 2003, kq_block c150 4006 3, kq_seq c150 8012, r150_12, r150_13, r150_14, kq_exit c150 4005 2, ih, reduceIte, reduceCtorEq, XE.exit.injEq, Nat.reduceEqDiff, Nat.reduceMul, Nat.reduceAdd] <;> kernel_rfl
theorem F150_lrlrrrr_eq  : kCode env 150 false inv k (cp c150 250) (act 36 [(6, x6), (25, x25), (26, x26), (27, x27)]) h K = F150_lrlrrrr inv k k x6 x25 x26 x27 h (fun y6 y25 y26 y27 y28 h => K (.exit 2) (act 36 [(6, y6), (25, y25), (26, y26), (27, y27), (28, y28)]) h) := kq_loop (F150_lrlrrrr_j k)
theorem r150_15  : kCode env 150 false inv k (cp c150 126) (act 36 [(6, x6), (25, x25), (26, x26), (27, x27), (28, x28)]) h K =
    K .normal (act 36 [(2, x6)]) h := kq_reg
theorem res150_0 : resOfFn env.P 150 .ret (act 36 [(2, x2)]) h = some (x2, h) := kq_res
/-- slices.Concat[[]shadowbook/api.Frozen,shadowbook/api.Frozen] -/
noncomputable def F150 (inv : Inv) (k : Nat) (x0 : Value) (h : AH) : Option (Value × AH) :=
    bnd (pLen Tryz.prog #[213] x0 h) fun x10 =>
    F150_lrlrr inv k k x0 (.int .i64 0) x0 x10 (.int .i64 0) h
    (fun y0 y3 y9 y10 y11 y12 h =>
    bnd (inv (.func 181) #[] #[(.slice none 0 0), y3] h) fun x24 =>
    bnd (pLen Tryz.prog #[213] y0 x24.2) fun x26 =>
    F150_lrlrrrr inv k k x24.1 y0 x26 (.int .i64 0) x24.2
    (fun y6 y25 y26 y27 y28 h_1 =>
    some (y6, h_1)))
theorem F150_eq : eFun env k inv 150 #[x0] h = F150 inv k x0 h := by
      refine (kq_fun (a := act 36 [(0, x0)]) (c := cp c150 1)).trans ?_
      unfold F150
      simp only [kq_seq c150 1, r150_0, kq_seq c150 3, r150_1, kq_seq c150 7, kq_seq c150 14, r150_2, kq_block c150 29 0, F150_lrlrr_eq, kq_seq c150 15, r150_9, kq_seq c150 31, kq_seq c150 62, r150_10, kq_block c150 125 2, F150_lrlrrrr_eq, kq_seq c150 63, r150_15, kq_ret c150 127, res150_0, reduceIte, reduceCtorEq, XE.exit.injEq, Nat.reduceEqDiff, Nat.reduceMul, Nat.reduceAdd] <;> kernel_rfl
theorem F150_call : eInv env (k + 1) (.func 150) #[] #[x0] h = F150 (eInv env k) k x0 h := kq_inv F150_eq
noncomputable def c151 : Code := codeOf Tryz.prog 151
theorem r151_0  : kCode env 151 false inv k (cp c151 2) (act 6 [(0, x0)]) h K =
    K .normal (act 6 [(0, x0)]) h := kq_reg
theorem r151_1  : kCode env 151 false inv k (cp c151 6) (act 6 [(0, x0)]) h K =
    bnd (pBin Tryz.prog .neq 3 (.tmp 3) (.tmp 4) x0 x0) fun x5 =>
    K .normal (act 6 [(2, x5)]) h := kq_reg
theorem res151_0 : resOfFn env.P 151 .ret (act 6 [(2, x2)]) h = some (x2, h) := kq_res
/-- cmp.isNaN[int] -/
noncomputable def F151 (inv : Inv) (k : Nat) (x0 : Value) (h : AH) : Option (Value × AH) :=
    bnd (pBin Tryz.prog .neq 3 (.tmp 3) (.tmp 4) x0 x0) fun x5 =>
    some (x5, h)
theorem F151_eq : eFun env k inv 151 #[x0] h = F151 inv k x0 h := by
      refine (kq_fun (a := act 6 [(0, x0)]) (c := cp c151 1)).trans ?_
      unfold F151
      simp only [kq_seq c151 1, r151_0, kq_seq c151 3, r151_1, kq_ret c151 7, res151_0, reduceIte, reduceCtorEq, XE.exit.injEq, Nat.reduceEqDiff, Nat.reduceMul, Nat.reduceAdd] <;> kernel_rfl
theorem F151_call : eInv env (k + 1) (.func 151) #[] #[x0] h = F151 (eInv env k) k x0 h := kq_inv F151_eq
noncomputable def c152 : Code := codeOf Tryz.prog 152
theorem r152_0  : kCode env 152 false inv k (cp c152 2) (act 6 [(0, x0)]) h K =
    K .normal (act 6 [(0, x0)]) h := kq_reg
theorem r152_1  : kCode env 152 false inv k (cp c152 6) (act 6 [(0, x0)]) h K =
    bnd (pBin Tryz.prog .neq 2 (.tmp 3) (.tmp 4) x0 x0) fun x5 =>
    K .normal (act 6 [(2, x5)]) h := kq_reg
theorem res152_0 : resOfFn env.P 152 .ret (act 6 [(2, x2)]) h = some (x2, h) := kq_res
/-- cmp.isNaN[int64] -/
noncomputable def F152 (inv : Inv) (k : Nat) (x0 : Value) (h : AH) : Option (Value × AH) :=
    bnd (pBin Tryz.prog .neq 2 (.tmp 3) (.tmp 4) x0 x0) fun x5 =>
    some (x5, h)
theorem F152_eq : eFun env k inv 152 #[x0] h = F152 inv k x0 h := by
      refine (kq_fun (a := act 6 [(0, x0)]) (c := cp c152 1)).trans ?_
      unfold F152
      simp only [kq_seq c152 1, r152_0, kq_seq c152 3, r152_1, kq_ret c152 7, res152_0, reduceIte, reduceCtorEq, XE.exit.injEq, Nat.reduceEqDiff, Nat.reduceMul, Nat.reduceAdd] <;> kernel_rfl
theorem F152_call : eInv env (k + 1) (.func 152) #[] #[x0] h = F152 (eInv env k) k x0 h := kq_inv F152_eq
noncomputable def c153 : Code := codeOf Tryz.prog 153
theorem r153_0  : kCode env 153 false inv k (cp c153 2) (act 8 [(0, x0), (1, x1)]) h K =
    K .normal (act 8 [(0, x0), (1, x1)]) h := kq_reg
theorem r153_1  : kCode env 153 false inv k (cp c153 6) (act 8 [(0, x0), (1, x1)]) h K =
    bnd (inv (.func 182) #[] #[x0, x1] h) fun x7 =>
    K .normal (act 8 [(4, x7.1)]) x7.2 := kq_reg
theorem res153_0 : resOfFn env.P 153 .ret (act 8 [(4, x4)]) h = some (x4, h) := kq_res
/-- internal/bytealg.CompareString -/
noncomputable def F153 (inv : Inv) (k : Nat) (x0 x1 : Value) (h : AH) : Option (Value × AH) :=
    bnd (inv (.func 182) #[] #[x0, x1] h) fun x7 =>
    some (x7.1, x7.2)
theorem F153_eq : eFun env k inv 153 #[x0, x1] h = F153 inv k x0 x1 h := by
      refine (kq_fun (a := act 8 [(0, x0), (1, x1)]) (c := cp c153 1)).trans ?_
      unfold F153
      simp only [kq_seq c153 1, r153_0, kq_seq c153 3, r153_1, kq_ret c153 7, res153_0, reduceIte, reduceCtorEq, XE.exit.injEq, Nat.reduceEqDiff, Nat.reduceMul, Nat.reduceAdd] <;> kernel_rfl
theorem F153_call : eInv env (k + 1) (.func 153) #[] #[x0, x1] h = F153 (eInv env k) k x0 x1 h := kq_inv F153_eq
noncomputable def c154 : Code := codeOf Tryz.prog 154
theorem r154_0  : kCode env 154 false inv k (cp c154 2) (act 8 [(0, x0)]) h K =
    K .normal (act 8 [(0, x0)]) h := kq_reg
theorem r154_1  : kCode env 154 false inv k (cp c154 12) (act 8 [(0, x0)]) h K =
    bnd (pBin Tryz.prog .eql 45 (.tmp 3) (.const (.slice none 0 0)) x0 (.slice none 0 0)) fun x4 =>
    K .normal (act 8 [(0, x0), (4, x4)]) h := kq_reg
theorem b154_rlr  : kCode env 154 false inv k (cp c154 13) (act 8 [(0, x0), (4, x4)]) h K = brV x4 (kCode env 154 false inv k (cp c154 26) (act 8 [(0, x0), (4, x4)]) h K) (kCode env 154 false inv k (cp c154 27) (act 8 [(0, x0), (4, x4)]) h K) := kq_cond
theorem r154_2  : kCode env 154 false inv k (cp c154 52) (act 8 [(0, x0), (4, x4)]) h K =
    K .normal (act 8 [(2, (.slice none 0 0))]) h := kq_reg
theorem res154_0 : resOfFn env.P 154 .ret (act 8 [(2, x2)]) h = some (x2, h) := kq_res
theorem r154_3  : kCode env 154 false inv k (cp c154 14) (act 8 [(0, x0), (4, x4)]) h K =
    bnd (pBuildSlice Tryz.prog 45 0 #[] h) fun x5 =>
    bnd (pAppend Tryz.prog #[45, 45] x5.1 x0 x5.2) fun x7 =>
    K .normal (act 8 [(2, x7.1)]) x7.2 := kq_reg
/-- slices.Clone[[]shadowbook/api.Cell,shadowbook/api.Cell] -/
noncomputable def F154 (inv : Inv) (k : Nat) (x0 : Value) (h : AH) : Option (Value × AH) :=
    bnd (pBin Tryz.prog .eql 45 (.tmp 3) (.const (.slice none 0 0)) x0 (.slice none 0 0)) fun x4 =>
    brV x4
    (some ((.slice none 0 0), h))
    (bnd (pBuildSlice Tryz.prog 45 0 #[] h) fun x5 =>
    bnd (pAppend Tryz.prog #[45, 45] x5.1 x0 x5.2) fun x7 =>
    some (x7.1, x7.2))
theorem F154_eq : eFun env k inv 154 #[x0] h = F154 inv k x0 h := by
      refine (kq_fun (a := act 8 [(0, x0)]) (c := cp c154 1)).trans ?_
      unfold F154
      simp only [kq_seq c154 1, r154_0, kq_seq c154 3, kq_seq c154 6, r154_1, b154_rlr, kq_seq c154 26, r154_2, kq_ret c154 53, res154_0, kq_skip c154 27, kq_seq c154 7, r154_3, kq_ret c154 15, reduceIte, reduceCtorEq, XE.exit.injEq, Nat.reduceEqDiff, Nat.reduceMul, Nat.reduceAdd] <;> kernel_rfl
theorem F154_call : eInv env (k + 1) (.func 154) #[] #[x0] h = F154 (eInv env k) k x0 h := kq_inv F154_eq
noncomputable def c159 : Code := codeOf Tryz.prog 159
theorem r159_0  : kCode env 159 false inv k (cp c159 2) (act 19 [(0, x0), (1, x1)]) h K =
    K .normal (act 19 [(0, x0), (1, x1)]) h := kq_reg
theorem r159_1  : kCode env 159 false inv k (cp c159 12) (act 19 [(0, x0), (1, x1)]) h K =
    bnd (pLen Tryz.prog #[36] x0 h) fun x7 =>
    K .normal (act 19 [(0, x0), (1, x1), (7, x7), (8, (.int .i64 0))]) h := kq_reg
theorem r159_2  : kCode env 159 false inv k (cp c159 104) (act 19 [(0, x0), (1, x1), (7, x7), (8, x8)]) h K =
    bnd (pBin Tryz.prog .lss 3 (.tmp 8) (.tmp 7) x8 x7) fun x9 =>
    K .normal (act 19 [(0, x0), (1, x1), (7, x7), (8, x8), (9, x9)]) h := kq_reg
theorem b159_lrllrlr  : kCode env 159 false inv k (cp c159 210) (act 19 [(0, x0), (1, x1), (7, x7), (8, x8), (9, x9)]) h K = brV x9 (kCode env 159 false inv k (cp c159 420) (act 19 [(0, x0), (1, x1), (7, x7), (8, x8), (9, x9)]) h K) (kCode env 159 false inv k (cp c159 421) (act 19 [(0, x0), (1, x1), (7, x7), (8, x8), (9, x9)]) h K) := kq_cond
theorem r159_3  : kCode env 159 false inv k (cp c159 1688) (act 19 [(0, x0), (1, x1), (7, x7), (8, x8), (9, x9)]) h K =
    K .normal (act 19 [(0, x0), (1, x1), (5, x8), (7, x7), (8, x8)]) h := kq_reg
theorem r159_4  : kCode env 159 false inv k (cp c159 3378) (act 19 [(0, x0), (1, x1), (5, x5), (7, x7), (8, x8)]) h K =
    bnd (pIndexAddr Tryz.prog 36 x0 x5) fun x14 =>
    bnd (pLoad Tryz.prog 118 x14 h) fun x15 =>
    bnd (callV inv x1 #[x15] h) fun x16 =>
    K .normal (act 19 [(0, x0), (1, x1), (5, x5), (7, x7), (8, x8), (16, x16.1)]) x16.2 := kq_reg
theorem b159_rrllrrllrlr  : kCode env 159 false inv k (cp c159 3379) (act 19 [(0, x0), (1, x1), (5, x5), (7, x7), (8, x8), (16, x16)]) h K = brV x16 (kCode env 159 false inv k (cp c159 6758) (act 19 [(0, x0), (1, x1), (5, x5), (7, x7), (8, x8), (16, x16)]) h K) (kCode env 159 false inv k (cp c159 6759) (act 19 [(0, x0), (1, x1), (5, x5), (7, x7), (8, x8), (16, x16)]) h K) := kq_cond
theorem r159_5  : kCode env 159 false inv k (cp c159 13516) (act 19 [(0, x0), (1, x1), (5, x5), (7, x7), (8, x8), (16, x16)]) h K =
    K .normal (act 19 [(4, x5)]) h := kq_reg
theorem r159_6  : kCode env 159 false inv k (cp c159 423) (act 19 [(0, x0), (1, x1), (5, x5), (7, x7), (8, x8), (16, x16)]) h K =
    bnd (pBin Tryz.prog .add 3 (.tmp 8) (.const (.int .i64 1)) x8 (.int .i64 1)) fun x18 =>
    K .normal (act 19 [(0, x0), (1, x1), (7, x7), (8, x18)]) h := kq_reg
noncomputable def F159_lrlr {β : Type} (inv : Inv) (k : Nat) : Nat → Value → Value → Value → Value → AH → (Value → Value → Value → Value → Value → AH → Option β) → (Value → AH → Option β) → Option β
  | 0, _, _, _, _, _, _, _ => none
  | j + 1, x0, x1, x7, x8, h, ke0, kr =>
    bnd (pBin Tryz.prog .lss 3 (.tmp 8) (.tmp 7) x8 x7) fun x9 =>
    brV x9
    (bnd (pIndexAddr Tryz.prog 36 x0 x8) fun x14 =>
    bnd (pLoad Tryz.prog 118 x14 h) fun x15 =>
    bnd (callV inv x1 #[x15] h) fun x16 =>
    brV x16.1
    (kr x8 x16.2)
    (bnd (pBin Tryz.prog .add 3 (.tmp 8) (.const (.int .i64 1)) x8 (.int .i64 1)) fun x18 =>
    F159_lrlr inv k j x0 x1 x7 x18 x16.2 ke0 kr))
    (ke0 x0 x1 x7 x8 x9 h)
theorem F159_lrlr_j (j : Nat) : kLoop (kCode env 159 false inv k (cp c159 52)) j (act 19 [(0, x0), (1, x1), (7, x7), (8, x8)]) h K = F159_lrlr inv k j x0 x1 x7 x8 h (fun y0 y1 y7 y8 y9 h => K (.exit 0) (act 19 [(0, y0), (1, y1), (7, y7), (8, y8), (9, y9)]) h) (fun y4 h => K .ret (act 19 [(4, y4)]) h) := by
      induction j generalizing x0 x1 x7 x8 h with
      | zero => rfl
      | succ j ih =>
        unfold F159_lrlr
        simp only [kLoop, kq_seq c159 52, r159_2, kq_seq c159 105, b159_lrllrlr, kq_skip c159 420, kq_seq c159 211, kq_block c159 422 1, kq_seq c159 844, r159_3, kq_seq c159 1689, r159_4, b159_rrllrrllrlr, kq_seq c159 6758, r159_5, kq_ret c159 13517, kq_skip c159 6759, r159_6, kq_exit c159 421 0, ih, reduceIte, reduceCtorEq, XE.exit.injEq, Nat.reduceEqDiff, Nat.reduceMul, Nat.reduceAdd] <;> kernel_rfl
theorem F159_lrlr_eq  : kCode env 159 false inv k (cp c159 26) (act 19 [(0, x0), (1, x1), (7, x7), (8, x8)]) h K = F159_lrlr inv k k x0 x1 x7 x8 h (fun y0 y1 y7 y8 y9 h => K (.exit 0) (act 19 [(0, y0), (1, y1), (7, y7), (8, y8), (9, y9)]) h) (fun y4 h => K .ret (act 19 [(4, y4)]) h) := kq_loop (F159_lrlr_j k)
theorem r159_7  : kCode env 159 false inv k (cp c159 14) (act 19 [(0, x0), (1, x1), (7, x7), (8, x8), (9, x9)]) h K =
    K .normal (act 19 [(4, (.int .i64 (-1)))]) h := kq_reg
theorem res159_0 : resOfFn env.P 159 .ret (act 19 [(4, x4)]) h = some (x4, h) := kq_res
/-- slices.IndexFunc[[]shadowbook/api.Col,shadowbook/api.Col] -/
noncomputable def F159 (inv : Inv) (k : Nat) (x0 x1 : Value) (h : AH) : Option (Value × AH) :=
    bnd (pLen Tryz.prog #[36] x0 h) fun x7 =>
    F159_lrlr inv k k x0 x1 x7 (.int .i64 0) h
    (fun y0 y1 y7 y8 y9 h =>
    some ((.int .i64 (-1)), h))
    (fun y4 h_1 =>
    some (y4, h_1))
theorem F159_eq : eFun env k inv 159 #[x0, x1] h = F159 inv k x0 x1 h := by
      refine (kq_fun (a := act 19 [(0, x0), (1, x1)]) (c := cp c159 1)).trans ?_
      unfold F159
      simp only [kq_seq c159 1, r159_0, kq_seq c159 3, kq_seq c159 6, r159_1, kq_block c159 13 0, F159_lrlr_eq, kq_seq c159 7, r159_7, kq_ret c159 15, res159_0, reduceIte, reduceCtorEq, XE.exit.injEq, Nat.reduceEqDiff, Nat.reduceMul, Nat.reduceAdd] <;> kernel_rfl
theorem F159_call : eInv env (k + 1) (.func 159) #[] #[x0, x1] h = F159 (eInv env k) k x0 x1 h := kq_inv F159_eq
noncomputable def c160 : Code := codeOf Tryz.prog 160
theorem r160_0  : kCode env 160 false inv k (cp c160 2) (act 27 [(0, x0), (1, x1)]) h K =
    K .normal (act 27 [(0, x0), (1, x1)]) h := kq_reg
theorem r160_1  : kCode env 160 false inv k (cp c160 12) (act 27 [(0, x0), (1, x1)]) h K =
    bnd (pBin Tryz.prog .lss 3 (.tmp 5) (.const (.int .i64 0)) x1 (.int .i64 0)) fun x6 =>
    K .normal (act 27 [(0, x0), (1, x1), (6, x6)]) h := kq_reg
theorem b160_rlr  : kCode env 160 false inv k (cp c160 13) (act 27 [(0, x0), (1, x1), (6, x6)]) h K = brV x6 (kCode env 160 false inv k (cp c160 26) (act 27 [(0, x0), (1, x1), (6, x6)]) h K) (kCode env 160 false inv k (cp c160 27) (act 27 [(0, x0), (1, x1), (6, x6)]) h K) := kq_cond
theorem r160_2  : kCode env 160 false inv k (cp c160 26) (act 27 [(0, x0), (1, x1), (6, x6)]) h K =
    bnd (pMakeIface Tryz.prog 9 (.string { data := #[99, 97, 110, 110, 111, 116, 32, 98, 101, 32, 110, 101, 103, 97, 116, 105, 118, 101] })) fun x7 =>
    bnd ((none : Option (Value × AH))) fun u =>
    K .normal (act 27 [(0, x0), (1, x1)]) u.2 := kq_reg
noncomputable def F160_rlr {β : Type} (inv : Inv) (k : Nat) (x0 x1 x6 : Value) (h : AH) (kn : (Value → Value → Value → AH → Option β)) : Option β :=
    brV x6
    (bnd (pMakeIface Tryz.prog 9 (.string { data := #[99, 97, 110, 110, 111, 116, 32, 98, 101, 32, 110, 101, 103, 97, 116, 105, 118, 101] })) fun x7 =>
    bnd ((none : Option (Value × AH))) fun u =>
    kn x0 x1 unk u.2)
    (kn x0 x1 x6 h)
theorem F160_rlr_eq  : kCode env 160 false inv k (cp c160 13) (act 27 [(0, x0), (1, x1), (6, x6)]) h K = F160_rlr inv k x0 x1 x6 h (fun y0 y1 y6 h => K .normal (act 27 [(0, y0), (1, y1), (6, y6)]) h) := by
      unfold F160_rlr
      simp only [b160_rlr, r160_2, kq_skip c160 27, reduceIte, reduceCtorEq, XE.exit.injEq, Nat.reduceEqDiff, Nat.reduceMul, Nat.reduceAdd] <;> kernel_rfl
theorem r160_3  : kCode env 160 false inv k (cp c160 28) (act 27 [(0, x0), (1, x1), (6, x6)]) h K =
    bnd (pCap Tryz.prog #[55] x0) fun x10 =>
    bnd (pLen Tryz.prog #[55] x0 h) fun x12 =>
    bnd (pBin Tryz.prog .sub 3 (.tmp 10) (.tmp 12) x10 x12) fun x13 =>
    bnd (pBin Tryz.prog .sub 3 (.tmp 8) (.tmp 13) x1 x13) fun x14 =>
    K .normal (act 27 [(0, x0), (1, x14)]) h := kq_reg
theorem r160_4  : kCode env 160 false inv k (cp c160 58) (act 27 [(0, x0), (1, x1)]) h K =
    bnd (pBin Tryz.prog .gtr 3 (.tmp 15) (.const (.int .i64 0)) x1 (.int .i64 0)) fun x16 =>
    K .normal (act 27 [(0, x0), (1, x1), (16, x16)]) h := kq_reg
theorem b160_rrlrr  : kCode env 160 false inv k (cp c160 59) (act 27 [(0, x0), (1, x1), (16, x16)]) h K = brV x16 (kCode env 160 false inv k (cp c160 118) (act 27 [(0, x0), (1, x1), (16, x16)]) h K) (kCode env 160 false inv k (cp c160 119) (act 27 [(0, x0), (1, x1), (16, x16)]) h K) := kq_cond
theorem r160_5  : kCode env 160 false inv k (cp c160 118) (act 27 [(0, x0), (1, x1), (16, x16)]) h K =
    bnd (pCap Tryz.prog #[55] x0) fun x19 =>
    bnd (pSlice Tryz.prog 55 x0 none (some x19) none h) fun x20 =>
    bnd (pAppend Tryz.prog #[55, 3] x20 x1 h) fun x22 =>
    bnd (pLen Tryz.prog #[55] x0 x22.2) fun x24 =>
    bnd (pSlice Tryz.prog 55 x22.1 none (some x24) none x22.2) fun x25 =>
    K .normal (act 27 [(0, x25)]) x22.2 := kq_reg
noncomputable def F160_rrlrr {β : Type} (inv : Inv) (k : Nat) (x0 x1 x16 : Value) (h : AH) (kn : (Value → Value → Value → AH → Option β)) : Option β :=
    brV x16
    (bnd (pCap Tryz.prog #[55] x0) fun x19 =>
    bnd (pSlice Tryz.prog 55 x0 none (some x19) none h) fun x20 =>
    bnd (pAppend Tryz.prog #[55, 3] x20 x1 h) fun x22 =>
    bnd (pLen Tryz.prog #[55] x0 x22.2) fun x24 =>
    bnd (pSlice Tryz.prog 55 x22.1 none (some x24) none x22.2) fun x25 =>
    kn x25 unk unk x22.2)
    (kn x0 x1 x16 h)
theorem F160_rrlrr_eq  : kCode env 160 false inv k (cp c160 59) (act 27 [(0, x0), (1, x1), (16, x16)]) h K = F160_rrlrr inv k x0 x1 x16 h (fun y0 y1 y16 h => K .normal (act 27 [(0, y0), (1, y1), (16, y16)]) h) := by
      unfold F160_rrlrr
      simp only [b160_rrlrr, r160_5, kq_skip c160 119, reduceIte, reduceCtorEq, XE.exit.injEq, Nat.reduceEqDiff, Nat.reduceMul, Nat.reduceAdd] <;> kernel_rfl
theorem r160_6  : kCode env 160 false inv k (cp c160 30) (act 27 [(0, x0), (1, x1), (16, x16)]) h K =
    K .normal (act 27 [(4, x0)]) h := kq_reg
theorem res160_0 : resOfFn env.P 160 .ret (act 27 [(4, x4)]) h = some (x4, h) := kq_res
/-- slices.Grow[[]shadowbook/api.Table,shadowbook/api.Table] -/
noncomputable def F160 (inv : Inv) (k : Nat) (x0 x1 : Value) (h : AH) : Option (Value × AH) :=
    bnd (pBin Tryz.prog .lss 3 (.tmp 5) (.const (.int .i64 0)) x1 (.int .i64 0)) fun x6 =>
    F160_rlr inv k x0 x1 x6 h
    (fun y0 y1 y6 h =>
    bnd (pCap Tryz.prog #[55] y0) fun x10 =>
    bnd (pLen Tryz.prog #[55] y0 h) fun x12 =>
    bnd (pBin Tryz.prog .sub 3 (.tmp 10) (.tmp 12) x10 x12) fun x13 =>
    bnd (pBin Tryz.prog .sub 3 (.tmp 8) (.tmp 13) y1 x13) fun x14 =>
    bnd (pBin Tryz.prog .gtr 3 (.tmp 15) (.const (.int .i64 0)) x14 (.int .i64 0)) fun x16 =>
    F160_rrlrr inv k y0 x14 x16 h
    (fun y0_1 y1_2 y16 h_3 =>
    some (y0_1, h_3)))
theorem F160_eq : eFun env k inv 160 #[x0, x1] h = F160 inv k x0 x1 h := by
      refine (kq_fun (a := act 27 [(0, x0), (1, x1)]) (c := cp c160 1)).trans ?_
      unfold F160
      simp only [kq_seq c160 1, r160_0, kq_seq c160 3, kq_seq c160 6, r160_1, F160_rlr_eq, kq_seq c160 7, kq_seq c160 14, r160_3, kq_seq c160 29, r160_4, F160_rrlrr_eq, kq_seq c160 15, r160_6, kq_ret c160 31, res160_0, reduceIte, reduceCtorEq, XE.exit.injEq, Nat.reduceEqDiff, Nat.reduceMul, Nat.reduceAdd] <;> kernel_rfl
theorem F160_call : eInv env (k + 1) (.func 160) #[] #[x0, x1] h = F160 (eInv env k) k x0 x1 h := kq_inv F160_eq
noncomputable def c161 : Code := codeOf Tryz.prog 161
theorem r161_0  : kCode env 161 false inv k (cp c161 2) (act 47 [(0, x0), (1, x1), (2, x2)]) h K =
    bnd (pBox Tryz.prog 134 x1 h) fun x4 =>
    K .normal (act 47 [(0, x0), (2, x2), (4, x4.1)]) x4.2 := kq_reg
theorem r161_1  : kCode env 161 false inv k (cp c161 12) (act 47 [(0, x0), (2, x2), (4, x4)]) h K =
    bnd (pLoad Tryz.prog 134 x4 h) fun x11 =>
    bnd (inv (.func 184) #[] #[x11] h) fun x12 =>
    bnd (pUn Tryz.prog .not x12.1) fun x13 =>
    K .normal (act 47 [(0, x0), (2, x2), (4, x4), (13, x13)]) x12.2 := kq_reg
theorem b161_rlr  : kCode env 161 false inv k (cp c161 13) (act 47 [(0, x0), (2, x2), (4, x4), (13, x13)]) h K = brV x13 (kCode env 161 false inv k (cp c161 26) (act 47 [(0, x0), (2, x2), (4, x4), (13, x13)]) h K) (kCode env 161 false inv k (cp c161 27) (act 47 [(0, x0), (2, x2), (4, x4), (13, x13)]) h K) := kq_cond
theorem r161_2  : kCode env 161 false inv k (cp c161 52) (act 47 [(0, x0), (2, x2), (4, x4), (13, x13)]) h K =
    K .normal (act 47 [(6, (.int .i64 190))]) h := kq_reg
theorem res161_0 : resOfFn env.P 161 .ret (act 47 [(6, x6)]) h = some (x6, h) := kq_res
theorem r161_3  : kCode env 161 false inv k (cp c161 28) (act 47 [(0, x0), (2, x2), (4, x4), (13, x13)]) h K =
    bnd (pFieldAddr Tryz.prog 134 x4 2) fun x15 =>
    bnd (pLoad Tryz.prog 23 x15 h) fun x16 =>
    bnd (inv (.func 111) #[] #[x0, x16] h) fun x17 =>
    K .normal (act 47 [(0, x0), (2, x2), (4, x4), (7, x17.1)]) x17.2 := kq_reg
theorem r161_4  : kCode env 161 false inv k (cp c161 58) (act 47 [(0, x0), (2, x2), (4, x4), (7, x7)]) h K =
    bnd (pBin Tryz.prog .neq 30 (.tmp 18) (.const (.int .i64 0)) x7 (.int .i64 0)) fun x19 =>
    K .normal (act 47 [(0, x0), (2, x2), (4, x4), (7, x7), (19, x19)]) h := kq_reg
theorem b161_rrlrr  : kCode env 161 false inv k (cp c161 59) (act 47 [(0, x0), (2, x2), (4, x4), (7, x7), (19, x19)]) h K = brV x19 (kCode env 161 false inv k (cp c161 118) (act 47 [(0, x0), (2, x2), (4, x4), (7, x7), (19, x19)]) h K) (kCode env 161 false inv k (cp c161 119) (act 47 [(0, x0), (2, x2), (4, x4), (7, x7), (19, x19)]) h K) := kq_cond
theorem r161_5  : kCode env 161 false inv k (cp c161 236) (act 47 [(0, x0), (2, x2), (4, x4), (7, x7), (19, x19)]) h K =
    K .normal (act 47 [(6, x7)]) h := kq_reg
theorem r161_6  : kCode env 161 false inv k (cp c161 60) (act 47 [(0, x0), (2, x2), (4, x4), (7, x7), (19, x19)]) h K =
    bnd (pFieldAddr Tryz.prog 134 x4 1) fun x21 =>
    bnd (pLoad Tryz.prog 31 x21 h) fun x22 =>
    bnd (pLen Tryz.prog #[31] x22 h) fun x23 =>
    K .normal (act 47 [(0, x0), (2, x2), (4, x4), (22, x22), (23, x23), (24, (.int .i64 0))]) h := kq_reg
theorem r161_7  : kCode env 161 false inv k (cp c161 488) (act 47 [(0, x0), (2, x2), (4, x4), (22, x22), (23, x23), (24, x24)]) h K =
    bnd (pBin Tryz.prog .lss 3 (.tmp 24) (.tmp 23) x24 x23) fun x25 =>
    K .normal (act 47 [(0, x0), (2, x2), (4, x4), (22, x22), (23, x23), (24, x24), (25, x25)]) h := kq_reg
theorem b161_lrllrlrrr  : kCode env 161 false inv k (cp c161 978) (act 47 [(0, x0), (2, x2), (4, x4), (22, x22), (23, x23), (24, x24), (25, x25)]) h K = brV x25 (kCode env 161 false inv k (cp c161 1956) (act 47 [(0, x0), (2, x2), (4, x4), (22, x22), (23, x23), (24, x24), (25, x25)]) h K) (kCode env 161 false inv k (cp c161 1957) (act 47 [(0, x0), (2, x2), (4, x4), (22, x22), (23, x23), (24, x24), (25, x25)]) h K) := kq_cond
theorem r161_8  : kCode env 161 false inv k (cp c161 7832) (act 47 [(0, x0), (2, x2), (4, x4), (22, x22), (23, x23), (24, x24), (25, x25)]) h K =
    bnd (pIndexAddr Tryz.prog 31 x22 x24) fun x26 =>
    bnd (pLoad Tryz.prog 45 x26 h) fun x27 =>
    K .normal (act 47 [(0, x0), (2, x2), (4, x4), (9, x27), (22, x22), (23, x23), (24, x24)]) h := kq_reg
theorem r161_9  : kCode env 161 false inv k (cp c161 31332) (act 47 [(0, x0), (2, x2), (4, x4), (9, x9), (22, x22), (23, x23), (24, x24)]) h K =
    bnd (inv (.func 178) #[] #[x0, x9] h) fun x30 =>
    K .normal (act 47 [(0, x0), (2, x2), (4, x4), (10, x30.1), (22, x22), (23, x23), (24, x24)]) x30.2 := kq_reg
theorem r161_10  : kCode env 161 false inv k (cp c161 62666) (act 47 [(0, x0), (2, x2), (4, x4), (10, x10), (22, x22), (23, x23), (24, x24)]) h K =
    bnd (pBin Tryz.prog .neq 30 (.tmp 31) (.const (.int .i64 0)) x10 (.int .i64 0)) fun x32 =>
    K .normal (act 47 [(0, x0), (2, x2), (4, x4), (10, x10), (22, x22), (23, x23), (24, x24), (32, x32)]) h := kq_reg
theorem b161_rrlrllrrllrlrrr  : kCode env 161 false inv k (cp c161 62667) (act 47 [(0, x0), (2, x2), (4, x4), (10, x10), (22, x22), (23, x23), (24, x24), (32, x32)]) h K = brV x32 (kCode env 161 false inv k (cp c161 125334) (act 47 [(0, x0), (2, x2), (4, x4), (10, x10), (22, x22), (23, x23), (24, x24), (32, x32)]) h K) (kCode env 161 false inv k (cp c161 125335) (act 47 [(0, x0), (2, x2), (4, x4), (10, x10), (22, x22), (23, x23), (24, x24), (32, x32)]) h K) := kq_cond
theorem r161_11  : kCode env 161 false inv k (cp c161 250668) (act 47 [(0, x0), (2, x2), (4, x4), (10, x10), (22, x22), (23, x23), (24, x24), (32, x32)]) h K =
    K .normal (act 47 [(6, x10)]) h := kq_reg
theorem r161_12  : kCode env 161 false inv k (cp c161 31334) (act 47 [(0, x0), (2, x2), (4, x4), (10, x10), (22, x22), (23, x23), (24, x24), (32, x32)]) h K =
    bnd (pNilCheck Tryz.prog x2) fun x35 =>
    bnd (pLoad Tryz.prog 3 x35 h) fun x36 =>
    bnd (pBin Tryz.prog .add 3 (.tmp 36) (.const (.int .i64 1)) x36 (.int .i64 1)) fun x37 =>
    bnd (pNilCheck Tryz.prog x2) fun x38 =>
    bnd (kSt (pStore Tryz.prog 3 x38 x37 h)) fun u =>
    K .normal (act 47 [(0, x0), (2, x2), (4, x4), (22, x22), (23, x23), (24, x24)]) u.2 := kq_reg
theorem r161_13  : kCode env 161 false inv k (cp c161 62670) (act 47 [(0, x0), (2, x2), (4, x4), (22, x22), (23, x23), (24, x24)]) h K =
    bnd (pNilCheck Tryz.prog x2) fun x40 =>
    bnd (pLoad Tryz.prog 3 x40 h) fun x41 =>
    bnd (pBin Tryz.prog .gtr 3 (.tmp 41) (.const (.int .i64 256)) x41 (.int .i64 256)) fun x42 =>
    K .normal (act 47 [(0, x0), (2, x2), (4, x4), (22, x22), (23, x23), (24, x24), (42, x42)]) h := kq_reg
theorem b161_rrrrllrrllrlrrr  : kCode env 161 false inv k (cp c161 62671) (act 47 [(0, x0), (2, x2), (4, x4), (22, x22), (23, x23), (24, x24), (42, x42)]) h K = brV x42 (kCode env 161 false inv k (cp c161 125342) (act 47 [(0, x0), (2, x2), (4, x4), (22, x22), (23, x23), (24, x24), (42, x42)]) h K) (kCode env 161 false inv k (cp c161 125343) (act 47 [(0, x0), (2, x2), (4, x4), (22, x22), (23, x23), (24, x24), (42, x42)]) h K) := kq_cond
theorem r161_14  : kCode env 161 false inv k (cp c161 250684) (act 47 [(0, x0), (2, x2), (4, x4), (22, x22), (23, x23), (24, x24), (42, x42)]) h K =
    K .normal (act 47 [(6, (.int .i64 191))]) h := kq_reg
theorem r161_15  : kCode env 161 false inv k (cp c161 1959) (act 47 [(0, x0), (2, x2), (4, x4), (22, x22), (23, x23), (24, x24), (42, x42)]) h K =
    bnd (pBin Tryz.prog .add 3 (.tmp 24) (.const (.int .i64 1)) x24 (.int .i64 1)) fun x43 =>
    K .normal (act 47 [(0, x0), (2, x2), (4, x4), (22, x22), (23, x23), (24, x43)]) h := kq_reg
noncomputable def F161_lrlrrr {β : Type} (inv : Inv) (k : Nat) : Nat → Value → Value → Value → Value → Value → Value → AH → (Value → Value → Value → Value → Value → Value → Value → AH → Option β) → (Value → AH → Option β) → Option β
  | 0, _, _, _, _, _, _, _, _, _ => none
  | j + 1, x0, x2, x4, x22, x23, x24, h, ke0, kr =>
    bnd (pBin Tryz.prog .lss 3 (.tmp 24) (.tmp 23) x24 x23) fun x25 =>
    brV x25
    (bnd (pIndexAddr Tryz.prog 31 x22 x24) fun x26 =>
    bnd (pLoad Tryz.prog 45 x26 h) fun x27 =>
    bnd (inv (.func 178) #[] #[x0, x27] h) fun x30 =>
    bnd (pBin Tryz.prog .neq 30 (.tmp 31) (.const (.int .i64 0)) x30.1 (.int .i64 0)) fun x32 =>
    brV x32
    (kr x30.1 x30.2)
    (bnd (pNilCheck Tryz.prog x2) fun x35 =>
    bnd (pLoad Tryz.prog 3 x35 x30.2) fun x36 =>
    bnd (pBin Tryz.prog .add 3 (.tmp 36) (.const (.int .i64 1)) x36 (.int .i64 1)) fun x37 =>
    bnd (pNilCheck Tryz.prog x2) fun x38 =>
    bnd (kSt (pStore Tryz.prog 3 x38 x37 x30.2)) fun u =>
    bnd (pNilCheck Tryz.prog x2) fun x40 =>
    bnd (pLoad Tryz.prog 3 x40 u.2) fun x41 =>
    bnd (pBin Tryz.prog .gtr 3 (.tmp 41) (.const (.int .i64 256)) x41 (.int .i64 256)) fun x42 =>
    brV x42
    (kr (.int .i64 191) u.2)
    (bnd (pBin Tryz.prog .add 3 (.tmp 24) (.const (.int .i64 1)) x24 (.int .i64 1)) fun x43 =>
    F161_lrlrrr inv k j x0 x2 x4 x22 x23 x43 u.2 ke0 kr)))
    (ke0 x0 x2 x4 x22 x23 x24 x25 h)
theorem F161_lrlrrr_j (j : Nat) : kLoop (kCode env 161 false inv k (cp c161 244)) j (act 47 [(0, x0), (2, x2), (4, x4), (22, x22), (23, x23), (24, x24)]) h K = F161_lrlrrr inv k j x0 x2 x4 x22 x23 x24 h (fun y0 y2 y4 y22 y23 y24 y25 h => K (.exit 0) (act 47 [(0, y0), (2, y2), (4, y4), (22, y22), (23, y23), (24, y24), (25, y25)]) h) (fun y6 h => K .ret (act 47 [(6, y6)]) h) := by
      induction j generalizing x0 x2 x4 x22 x23 x24 h with
      | zero => rfl
      | succ j ih =>
        unfold F161_lrlrrr
        simp only [kLoop, kq_seq c161 244, r161_7, kq_seq c161 489, b161_lrllrlrrr, kq_skip c161 1956, kq_seq c161 979, kq_block c161 1958 1, kq_seq c161 3916, r161_8, kq_seq c161 7833, kq_seq c161 15666, r161_9, kq_seq c161 31333, r161_10, b161_rrlrllrrllrlrrr, kq_seq c161 125334, r161_11, kq_ret c161 250669, kq_skip c161 125335, kq_seq c161 15667, r161_12, kq_seq c161 31335, r161_13, b161_rrrrllrrllrlrrr, kq_seq c161 125342, r161_14, kq_ret c161 250685, kq_skip c161 125343, r161_15, kq_exit c161 1957 0, ih, reduceIte, reduceCtorEq, XE.exit.injEq, Nat.reduceEqDiff, Nat.reduceMul, Nat.reduceAdd] <;> kernel_rfl
theorem F161_lrlrrr_eq  : kCode env 161 false inv k (cp c161 122) (act 47 [(0, x0), (2, x2), (4, x4), (22, x22), (23, x23), (24, x24)]) h K = F161_lrlrrr inv k k x0 x2 x4 x22 x23 x24 h (fun y0 y2 y4 y22 y23 y24 y25 h => K (.exit 0) (act 47 [(0, y0), (2, y2), (4, y4), (22, y22), (23, y23), (24, y24), (25, y25)]) h) (fun y6 h => K .ret (act 47 [(6, y6)]) h) := kq_loop (F161_lrlrrr_j k)
theorem r161_16  : kCode env 161 false inv k (cp c161 62) (act 47 [(0, x0), (2, x2), (4, x4), (22, x22), (23, x23), (24, x24), (25, x25)]) h K =
    bnd (pLoad Tryz.prog 134 x4 h) fun x45 =>
    bnd (inv (.func 185) #[] #[x0, x45] h) fun x46 =>
    K .normal (act 47 [(6, x46.1)]) x46.2 := kq_reg
/-- shadowbook/batch.change -/
noncomputable def F161 (inv : Inv) (k : Nat) (x0 x1 x2 : Value) (h : AH) : Option (Value × AH) :=
    bnd (pBox Tryz.prog 134 x1 h) fun x4 =>
    bnd (pLoad Tryz.prog 134 x4.1 x4.2) fun x11 =>
    bnd (inv (.func 184) #[] #[x11] x4.2) fun x12 =>
    bnd (pUn Tryz.prog .not x12.1) fun x13 =>
    brV x13
    (some ((.int .i64 190), x12.2))
    (bnd (pFieldAddr Tryz.prog 134 x4.1 2) fun x15 =>
    bnd (pLoad Tryz.prog 23 x15 x12.2) fun x16 =>
    bnd (inv (.func 111) #[] #[x0, x16] x12.2) fun x17 =>
    bnd (pBin Tryz.prog .neq 30 (.tmp 18) (.const (.int .i64 0)) x17.1 (.int .i64 0)) fun x19 =>
    brV x19
    (some (x17.1, x17.2))
    (bnd (pFieldAddr Tryz.prog 134 x4.1 1) fun x21 =>
    bnd (pLoad Tryz.prog 31 x21 x17.2) fun x22 =>
    bnd (pLen Tryz.prog #[31] x22 x17.2) fun x23 =>
    F161_lrlrrr inv k k x0 x2 x4.1 x22 x23 (.int .i64 0) x17.2
    (fun y0 y2 y4 y22 y23 y24 y25 h =>
    bnd (pLoad Tryz.prog 134 y4 h) fun x45 =>
    bnd (inv (.func 185) #[] #[y0, x45] h) fun x46 =>
    some (x46.1, x46.2))
    (fun y6 h_1 =>
    some (y6, h_1))))
theorem F161_eq : eFun env k inv 161 #[x0, x1, x2] h = F161 inv k x0 x1 x2 h := by
      refine (kq_fun (a := act 47 [(0, x0), (1, x1), (2, x2)]) (c := cp c161 1)).trans ?_
      unfold F161
      simp only [kq_seq c161 1, r161_0, kq_seq c161 3, kq_seq c161 6, r161_1, b161_rlr, kq_seq c161 26, r161_2, kq_ret c161 53, res161_0, kq_skip c161 27, kq_seq c161 7, kq_seq c161 14, r161_3, kq_seq c161 29, r161_4, b161_rrlrr, kq_seq c161 118, r161_5, kq_ret c161 237, kq_skip c161 119, kq_seq c161 15, kq_seq c161 30, r161_6, kq_block c161 61 0, F161_lrlrrr_eq, kq_seq c161 31, r161_16, kq_ret c161 63, reduceIte, reduceCtorEq, XE.exit.injEq, Nat.reduceEqDiff, Nat.reduceMul, Nat.reduceAdd] <;> kernel_rfl
theorem F161_call : eInv env (k + 1) (.func 161) #[] #[x0, x1, x2] h = F161 (eInv env k) k x0 x1 x2 h := kq_inv F161_eq
noncomputable def c162 : Code := codeOf Tryz.prog 162
theorem r162_0  : kCode env 162 false inv k (cp c162 2) (act 42 [(0, x0), (1, x1)]) h K =
    K .normal (act 42 [(0, x0), (1, x1)]) h := kq_reg
theorem r162_1  : kCode env 162 false inv k (cp c162 6) (act 42 [(0, x0), (1, x1)]) h K =
    bnd (inv (.func 186) #[] #[x0, x1] h) fun x10 =>
    K .normal (act 42 [(0, x0), (1, x1), (5, x10.1)]) x10.2 := kq_reg
theorem r162_2  : kCode env 162 false inv k (cp c162 28) (act 42 [(0, x0), (1, x1), (5, x5)]) h K =
    bnd (pBin Tryz.prog .eql 3 (.tmp 11) (.const (.int .i64 (-1))) x5 (.int .i64 (-1))) fun x12 =>
    K .normal (act 42 [(0, x0), (1, x1), (5, x5), (12, x12)]) h := kq_reg
theorem b162_rlrr  : kCode env 162 false inv k (cp c162 29) (act 42 [(0, x0), (1, x1), (5, x5), (12, x12)]) h K = brV x12 (kCode env 162 false inv k (cp c162 58) (act 42 [(0, x0), (1, x1), (5, x5), (12, x12)]) h K) (kCode env 162 false inv k (cp c162 59) (act 42 [(0, x0), (1, x1), (5, x5), (12, x12)]) h K) := kq_cond
theorem r162_3  : kCode env 162 false inv k (cp c162 116) (act 42 [(0, x0), (1, x1), (5, x5), (12, x12)]) h K =
    K .normal (act 42 [(4, x0)]) h := kq_reg
theorem res162_0 : resOfFn env.P 162 .ret (act 42 [(4, x4)]) h = some (x4, h) := kq_res
theorem r162_4  : kCode env 162 false inv k (cp c162 60) (act 42 [(0, x0), (1, x1), (5, x5), (12, x12)]) h K =
    bnd (pBin Tryz.prog .add 3 (.tmp 14) (.const (.int .i64 1)) x5 (.int .i64 1)) fun x15 =>
    K .normal (act 42 [(0, x0), (1, x1), (5, x5), (6, x15)]) h := kq_reg
theorem r162_5  : kCode env 162 false inv k (cp c162 976) (act 42 [(0, x0), (1, x1), (5, x5), (6, x6)]) h K =
    bnd (pLen Tryz.prog #[31] x0 h) fun x18 =>
    bnd (pBin Tryz.prog .lss 3 (.tmp 16) (.tmp 18) x6 x18) fun x19 =>
    K .normal (act 42 [(0, x0), (1, x1), (5, x5), (6, x6), (19, x19)]) h := kq_reg
theorem b162_rlllrlrrr  : kCode env 162 false inv k (cp c162 977) (act 42 [(0, x0), (1, x1), (5, x5), (6, x6), (19, x19)]) h K = brV x19 (kCode env 162 false inv k (cp c162 1954) (act 42 [(0, x0), (1, x1), (5, x5), (6, x6), (19, x19)]) h K) (kCode env 162 false inv k (cp c162 1955) (act 42 [(0, x0), (1, x1), (5, x5), (6, x6), (19, x19)]) h K) := kq_cond
theorem r162_7  : kCode env 162 false inv k (cp c162 3912) (act 42 [(0, x0), (1, x1), (5, x5), (6, x6), (19, x19)]) h K =
    bnd (pIndexAddr Tryz.prog 31 x0 x6) fun x24 =>
    bnd (pLoad Tryz.prog 45 x24 h) fun x25 =>
    K .normal (act 42 [(0, x0), (1, x1), (5, x5), (6, x6), (7, x25)]) h := kq_reg
theorem r162_8  : kCode env 162 false inv k (cp c162 7826) (act 42 [(0, x0), (1, x1), (5, x5), (6, x6), (7, x7)]) h K =
    bnd (callV inv x1 #[x7] h) fun x28 =>
    bnd (pUn Tryz.prog .not x28.1) fun x29 =>
    K .normal (act 42 [(0, x0), (1, x1), (5, x5), (6, x6), (7, x7), (29, x29)]) x28.2 := kq_reg
theorem b162_rrllrllrlrrr  : kCode env 162 false inv k (cp c162 7827) (act 42 [(0, x0), (1, x1), (5, x5), (6, x6), (7, x7), (29, x29)]) h K = brV x29 (kCode env 162 false inv k (cp c162 15654) (act 42 [(0, x0), (1, x1), (5, x5), (6, x6), (7, x7), (29, x29)]) h K) (kCode env 162 false inv k (cp c162 15655) (act 42 [(0, x0), (1, x1), (5, x5), (6, x6), (7, x7), (29, x29)]) h K) := kq_cond
theorem r162_9  : kCode env 162 false inv k (cp c162 31308) (act 42 [(0, x0), (1, x1), (5, x5), (6, x6), (7, x7), (29, x29)]) h K =
    bnd (pIndexAddr Tryz.prog 31 x0 x5) fun x33 =>
    bnd (kSt (pStore Tryz.prog 45 x33 x7 h)) fun u =>
    K .normal (act 42 [(0, x0), (1, x1), (5, x5), (6, x6)]) u.2 := kq_reg
theorem r162_10  : kCode env 162 false inv k (cp c162 31309) (act 42 [(0, x0), (1, x1), (5, x5), (6, x6)]) h K =
    bnd (pBin Tryz.prog .add 3 (.tmp 34) (.const (.int .i64 1)) x5 (.int .i64 1)) fun x35 =>
    K .normal (act 42 [(0, x0), (1, x1), (5, x35), (6, x6)]) h := kq_reg
noncomputable def F162_lrllrlrrr {β : Type} (inv : Inv) (k : Nat) (x0 x1 x5 x6 x19 : Value) (h : AH) (kn : (Value → Value → Value → Value → Value → Value → AH → Option β)) : Option β :=
    bnd (pIndexAddr Tryz.prog 31 x0 x6) fun x24 =>
    bnd (pLoad Tryz.prog 45 x24 h) fun x25 =>
    bnd (callV inv x1 #[x25] h) fun x28 =>
    bnd (pUn Tryz.prog .not x28.1) fun x29 =>
    brV x29
    (bnd (pIndexAddr Tryz.prog 31 x0 x5) fun x33 =>
    bnd (kSt (pStore Tryz.prog 45 x33 x25 x28.2)) fun u =>
    bnd (pBin Tryz.prog .add 3 (.tmp 34) (.const (.int .i64 1)) x5 (.int .i64 1)) fun x35 =>
    kn x0 x1 x35 x6 unk unk u.2)
    (kn x0 x1 x5 x6 x25 x29 x28.2)
theorem F162_lrllrlrrr_eq  : kCode env 162 false inv k (cp c162 978) (act 42 [(0, x0), (1, x1), (5, x5), (6, x6), (19, x19)]) h K = F162_lrllrlrrr inv k x0 x1 x5 x6 x19 h (fun y0 y1 y5 y6 y7 y29 h => K .normal (act 42 [(0, y0), (1, y1), (5, y5), (6, y6), (7, y7), (29, y29)]) h) := by
      unfold F162_lrllrlrrr
      simp only [kq_block c162 978 1, kq_seq c162 1956, r162_7, kq_seq c162 3913, r162_8, b162_rrllrllrlrrr, kq_seq c162 15654, r162_9, r162_10, kq_skip c162 15655, reduceIte, reduceCtorEq, XE.exit.injEq, Nat.reduceEqDiff, Nat.reduceMul, Nat.reduceAdd] <;> kernel_rfl
theorem r162_6  : kCode env 162 false inv k (cp c162 979) (act 42 [(0, x0), (1, x1), (5, x5), (6, x6), (7, x7), (29, x29)]) h K =
    bnd (pBin Tryz.prog .add 3 (.tmp 20) (.const (.int .i64 1)) x6 (.int .i64 1)) fun x21 =>
    K .normal (act 42 [(0, x0), (1, x1), (5, x5), (6, x21)]) h := kq_reg
noncomputable def F162_lrlrrr {β : Type} (inv : Inv) (k : Nat) : Nat → Value → Value → Value → Value → AH → (Value → Value → Value → Value → Value → AH → Option β) → Option β
  | 0, _, _, _, _, _, _ => none
  | j + 1, x0, x1, x5, x6, h, ke0 =>
    bnd (pLen Tryz.prog #[31] x0 h) fun x18 =>
    bnd (pBin Tryz.prog .lss 3 (.tmp 16) (.tmp 18) x6 x18) fun x19 =>
    brV x19
    (F162_lrllrlrrr inv k x0 x1 x5 x6 x19 h
    (fun y0 y1 y5 y6 y7 y29 h =>
    bnd (pBin Tryz.prog .add 3 (.tmp 20) (.const (.int .i64 1)) y6 (.int .i64 1)) fun x21 =>
    F162_lrlrrr inv k j y0 y1 y5 x21 h ke0))
    (ke0 x0 x1 x5 x6 x19 h)
theorem F162_lrlrrr_j (j : Nat) : kLoop (kCode env 162 false inv k (cp c162 244)) j (act 42 [(0, x0), (1, x1), (5, x5), (6, x6)]) h K = F162_lrlrrr inv k j x0 x1 x5 x6 h (fun y0 y1 y5 y6 y19 h => K (.exit 0) (act 42 [(0, y0), (1, y1), (5, y5), (6, y6), (19, y19)]) h) := by
      induction j generalizing x0 x1 x5 x6 h with
      | zero => rfl
      | succ j ih =>
        unfold F162_lrlrrr
        simp only [kLoop, kq_seq c162 244, kq_seq c162 488, r162_5, b162_rlllrlrrr, kq_skip c162 1954, kq_seq c162 489, F162_lrllrlrrr_eq, r162_6, kq_exit c162 1955 0, ih, reduceIte, reduceCtorEq, XE.exit.injEq, Nat.reduceEqDiff, Nat.reduceMul, Nat.reduceAdd] <;> kernel_rfl
theorem F162_lrlrrr_eq  : kCode env 162 false inv k (cp c162 122) (act 42 [(0, x0), (1, x1), (5, x5), (6, x6)]) h K = F162_lrlrrr inv k k x0 x1 x5 x6 h (fun y0 y1 y5 y6 y19 h => K (.exit 0) (act 42 [(0, y0), (1, y1), (5, y5), (6, y6), (19, y19)]) h) := kq_loop (F162_lrlrrr_j k)
theorem r162_11  : kCode env 162 false inv k (cp c162 62) (act 42 [(0, x0), (1, x1), (5, x5), (6, x6), (19, x19)]) h K =
    bnd (pSlice Tryz.prog 31 x0 (some x5) none none h) fun x38 =>
    bnd (kSt (pClear Tryz.prog #[31] x38 h)) fun u =>
    K .normal (act 42 [(0, x0), (5, x5)]) u.2 := kq_reg
theorem r162_12  : kCode env 162 false inv k (cp c162 126) (act 42 [(0, x0), (5, x5)]) h K =
    bnd (pSlice Tryz.prog 31 x0 none (some x5) none h) fun x41 =>
    K .normal (act 42 [(4, x41)]) h := kq_reg
/-- slices.DeleteFunc[[][]shadowbook/api.Cell,[]shadowbook/api.Cell] -/
noncomputable def F162 (inv : Inv) (k : Nat) (x0 x1 : Value) (h : AH) : Option (Value × AH) :=
    bnd (inv (.func 186) #[] #[x0, x1] h) fun x10 =>
    bnd (pBin Tryz.prog .eql 3 (.tmp 11) (.const (.int .i64 (-1))) x10.1 (.int .i64 (-1))) fun x12 =>
    brV x12
    (some (x0, x10.2))
    (bnd (pBin Tryz.prog .add 3 (.tmp 14) (.const (.int .i64 1)) x10.1 (.int .i64 1)) fun x15 =>
    F162_lrlrrr inv k k x0 x1 x10.1 x15 x10.2
    (fun y0 y1 y5 y6 y19 h =>
    bnd (pSlice Tryz.prog 31 y0 (some y5) none none h) fun x38 =>
    bnd (kSt (pClear Tryz.prog #[31] x38 h)) fun u =>
    bnd (pSlice Tryz.prog 31 y0 none (some y5) none u.2) fun x41 =>
    some (x41, u.2)))
theorem F162_eq : eFun env k inv 162 #[x0, x1] h = F162 inv k x0 x1 h := by
      refine (kq_fun (a := act 42 [(0, x0), (1, x1)]) (c := cp c162 1)).trans ?_
      unfold F162
      simp only [kq_seq c162 1, r162_0, kq_seq c162 3, r162_1, kq_seq c162 7, kq_seq c162 14, r162_2, b162_rlrr, kq_seq c162 58, r162_3, kq_ret c162 117, res162_0, kq_skip c162 59, kq_seq c162 15, kq_seq c162 30, r162_4, kq_block c162 61 0, F162_lrlrrr_eq, kq_seq c162 31, r162_11, kq_seq c162 63, r162_12, kq_ret c162 127, reduceIte, reduceCtorEq, XE.exit.injEq, Nat.reduceEqDiff, Nat.reduceMul, Nat.reduceAdd] <;> kernel_rfl
theorem F162_call : eInv env (k + 1) (.func 162) #[] #[x0, x1] h = F162 (eInv env k) k x0 x1 h := kq_inv F162_eq
noncomputable def c163 : Code := codeOf Tryz.prog 163
theorem r163_0  : kCode env 163 false inv k (cp c163 2) (act 8 [(0, x0), (1, x1)]) h K =
    K .normal (act 8 [(0, x0), (1, x1)]) h := kq_reg
theorem r163_1  : kCode env 163 false inv k (cp c163 6) (act 8 [(0, x0), (1, x1)]) h K =
    bnd (pFieldAddr Tryz.prog 134 x1 2) fun x4 =>
    bnd (pLoad Tryz.prog 23 x4 h) fun x5 =>
    bnd (inv (.func 142) #[] #[x5, x0] h) fun x7 =>
    K .normal (act 8 [(3, x7.1)]) x7.2 := kq_reg
theorem res163_0 : resOfFn env.P 163 .ret (act 8 [(3, x3)]) h = some (x3, h) := kq_res
/-- shadowbook/batch.One$1 -/
noncomputable def F163 (inv : Inv) (k : Nat) (x0 x1 : Value) (h : AH) : Option (Value × AH) :=
    bnd (pFieldAddr Tryz.prog 134 x1 2) fun x4 =>
    bnd (pLoad Tryz.prog 23 x4 h) fun x5 =>
    bnd (inv (.func 142) #[] #[x5, x0] h) fun x7 =>
    some (x7.1, x7.2)
theorem F163_eq : eFun env k inv 163 #[x0, x1] h = F163 inv k x0 x1 h := by
      refine (kq_fun (a := act 8 [(0, x0), (1, x1)]) (c := cp c163 1)).trans ?_
      unfold F163
      simp only [kq_seq c163 1, r163_0, kq_seq c163 3, r163_1, kq_ret c163 7, res163_0, reduceIte, reduceCtorEq, XE.exit.injEq, Nat.reduceEqDiff, Nat.reduceMul, Nat.reduceAdd] <;> kernel_rfl
theorem F163_call : eInv env (k + 1) (.func 163) #[] #[x0, x1] h = F163 (eInv env k) k x0 x1 h := kq_inv F163_eq
noncomputable def c164 : Code := codeOf Tryz.prog 164
theorem r164_0  : kCode env 164 false inv k (cp c164 2) (act 38 [(0, x0), (1, x1)]) h K =
    bnd (pBox Tryz.prog 134 x1 h) fun x3 =>
    K .normal (act 38 [(0, x0), (3, x3.1)]) x3.2 := kq_reg
theorem r164_1  : kCode env 164 false inv k (cp c164 6) (act 38 [(0, x0), (3, x3)]) h K =
    bnd (pFieldAddr Tryz.prog 134 x3 3) fun x6 =>
    bnd (pLoad Tryz.prog 24 x6 h) fun x7 =>
    bnd (pLen Tryz.prog #[24] x7 h) fun x8 =>
    K .normal (act 38 [(0, x0), (3, x3), (7, x7), (8, x8), (9, (.int .i64 0))]) h := kq_reg
theorem r164_2  : kCode env 164 false inv k (cp c164 56) (act 38 [(0, x0), (3, x3), (7, x7), (8, x8), (9, x9)]) h K =
    bnd (pBin Tryz.prog .lss 3 (.tmp 9) (.tmp 8) x9 x8) fun x10 =>
    K .normal (act 38 [(0, x0), (3, x3), (7, x7), (8, x8), (9, x9), (10, x10)]) h := kq_reg
theorem b164_lrllrr  : kCode env 164 false inv k (cp c164 114) (act 38 [(0, x0), (3, x3), (7, x7), (8, x8), (9, x9), (10, x10)]) h K = brV x10 (kCode env 164 false inv k (cp c164 228) (act 38 [(0, x0), (3, x3), (7, x7), (8, x8), (9, x9), (10, x10)]) h K) (kCode env 164 false inv k (cp c164 229) (act 38 [(0, x0), (3, x3), (7, x7), (8, x8), (9, x9), (10, x10)]) h K) := kq_cond
theorem r164_3  : kCode env 164 false inv k (cp c164 920) (act 38 [(0, x0), (3, x3), (7, x7), (8, x8), (9, x9), (10, x10)]) h K =
    bnd (pIndexAddr Tryz.prog 24 x7 x9) fun x12 =>
    bnd (pLoad Tryz.prog 3 x12 h) fun x13 =>
    K .normal (act 38 [(0, x0), (3, x3), (4, x9), (5, x13), (7, x7), (8, x8), (9, x9)]) h := kq_reg
noncomputable abbrev G164_4 {β : Type} (inv : Inv) (x0 x3 x4 x5 x7 x8 x9 : Value) (h : AH) (K : Value → AH → Option β) : Option β :=
    bnd (pFieldAddr Tryz.prog 134 x3 4) fun x15 =>
    bnd (pLoad Tryz.prog 45 x15 h) fun x16 =>
    bnd (pLen Tryz.prog #[45] x16 h) fun x17 =>
    bnd (pBin Tryz.prog .lss 3 (.tmp 14) (.tmp 17) x4 x17) fun x18 =>
    bnd (gd (some x18) true h (some (x5, h))) fun x20 =>
    bnd (gd (some x18) true x20.2 (lt (pBin Tryz.prog .geq 3 (.tmp 20) (.const (.int .i64 0)) x20.1 (.int .i64 0)) x20.2)) fun x21 =>
    bnd (pickV x18 x21.1 (.bool false)) fun x22 =>
    bnd (gd (some x22) true x21.2 (some (x5, x21.2))) fun x24 =>
    bnd (gd (some x22) true x24.2 (some (x0, x24.2))) fun x25 =>
    bnd (gd (some x22) true x25.2 (lt (pLen Tryz.prog #[45] x25.1 x25.2) x25.2)) fun x26 =>
    bnd (gd (some x22) true x26.2 (lt (pBin Tryz.prog .lss 3 (.tmp 24) (.tmp 26) x24.1 x26.1) x26.2)) fun x27 =>
    bnd (pickV x22 x27.1 (.bool false)) fun x28 =>
    K (x28) x27.2
theorem r164_4  : kCode env 164 false inv k (cp c164 1842) (act 38 [(0, x0), (3, x3), (4, x4), (5, x5), (7, x7), (8, x8), (9, x9)]) h K =
    G164_4 inv x0 x3 x4 x5 x7 x8 x9 h fun y28 h => K .normal (act 38 [(0, x0), (3, x3), (4, x4), (5, x5), (7, x7), (8, x8), (9, x9), (28, y28)]) h := kq_reg
theorem b164_rrllrrllrr  : kCode env 164 false inv k (cp c164 1843) (act 38 [(0, x0), (3, x3), (4, x4), (5, x5), (7, x7), (8, x8), (9, x9), (28, x28)]) h K = brV x28 (kCode env 164 false inv k (cp c164 3686) (act 38 [(0, x0), (3, x3), (4, x4), (5, x5), (7, x7), (8, x8), (9, x9), (28, x28)]) h K) (kCode env 164 false inv k (cp c164 3687) (act 38 [(0, x0), (3, x3), (4, x4), (5, x5), (7, x7), (8, x8), (9, x9), (28, x28)]) h K) := kq_cond
theorem r164_5  : kCode env 164 false inv k (cp c164 3686) (act 38 [(0, x0), (3, x3), (4, x4), (5, x5), (7, x7), (8, x8), (9, x9), (28, x28)]) h K =
    bnd (pFieldAddr Tryz.prog 134 x3 4) fun x31 =>
    bnd (pLoad Tryz.prog 45 x31 h) fun x32 =>
    bnd (pIndexAddr Tryz.prog 45 x32 x4) fun x34 =>
    bnd (pLoad Tryz.prog 49 x34 h) fun x35 =>
    bnd (pIndexAddr Tryz.prog 45 x0 x5) fun x36 =>
    bnd (kSt (pStore Tryz.prog 49 x36 x35 h)) fun u =>
    K .normal (act 38 [(0, x0), (3, x3), (7, x7), (8, x8), (9, x9)]) u.2 := kq_reg
noncomputable def F164_lrrllrr {β : Type} (inv : Inv) (k : Nat) (x0 x3 x7 x8 x9 x10 : Value) (h : AH) (kn : (Value → Value → Value → Value → Value → Value → Value → Value → AH → Option β)) : Option β :=
    bnd (pIndexAddr Tryz.prog 24 x7 x9) fun x12 =>
    bnd (pLoad Tryz.prog 3 x12 h) fun x13 =>
    G164_4 inv x0 x3 x9 x13 x7 x8 x9 h fun y28 h =>
    brV y28
    (bnd (pFieldAddr Tryz.prog 134 x3 4) fun x31 =>
    bnd (pLoad Tryz.prog 45 x31 h) fun x32 =>
    bnd (pIndexAddr Tryz.prog 45 x32 x9) fun x34 =>
    bnd (pLoad Tryz.prog 49 x34 h) fun x35 =>
    bnd (pIndexAddr Tryz.prog 45 x0 x13) fun x36 =>
    bnd (kSt (pStore Tryz.prog 49 x36 x35 h)) fun u =>
    kn x0 x3 unk unk x7 x8 x9 unk u.2)
    (kn x0 x3 x9 x13 x7 x8 x9 y28 h)
theorem F164_lrrllrr_eq  : kCode env 164 false inv k (cp c164 230) (act 38 [(0, x0), (3, x3), (7, x7), (8, x8), (9, x9), (10, x10)]) h K = F164_lrrllrr inv k x0 x3 x7 x8 x9 x10 h (fun y0 y3 y4 y5 y7 y8 y9 y28 h => K .normal (act 38 [(0, y0), (3, y3), (4, y4), (5, y5), (7, y7), (8, y8), (9, y9), (28, y28)]) h) := by
      unfold F164_lrrllrr
      simp only [kq_block c164 230 1, kq_seq c164 460, r164_3, kq_seq c164 921, r164_4, b164_rrllrrllrr, r164_5, kq_skip c164 3687, reduceIte, reduceCtorEq, XE.exit.injEq, Nat.reduceEqDiff, Nat.reduceMul, Nat.reduceAdd] <;> kernel_rfl
theorem r164_6  : kCode env 164 false inv k (cp c164 231) (act 38 [(0, x0), (3, x3), (4, x4), (5, x5), (7, x7), (8, x8), (9, x9), (28, x28)]) h K =
    bnd (pBin Tryz.prog .add 3 (.tmp 9) (.const (.int .i64 1)) x9 (.int .i64 1)) fun x37 =>
    K .normal (act 38 [(0, x0), (3, x3), (7, x7), (8, x8), (9, x37)]) h := kq_reg
noncomputable def F164_lrr {β : Type} (inv : Inv) (k : Nat) : Nat → Value → Value → Value → Value → Value → AH → (Value → Value → Value → Value → Value → Value → AH → Option β) → Option β
  | 0, _, _, _, _, _, _, _ => none
  | j + 1, x0, x3, x7, x8, x9, h, ke0 =>
    bnd (pBin Tryz.prog .lss 3 (.tmp 9) (.tmp 8) x9 x8) fun x10 =>
    brV x10
    (F164_lrrllrr inv k x0 x3 x7 x8 x9 x10 h
    (fun y0 y3 y4 y5 y7 y8 y9 y28 h =>
    bnd (pBin Tryz.prog .add 3 (.tmp 9) (.const (.int .i64 1)) y9 (.int .i64 1)) fun x37 =>
    F164_lrr inv k j y0 y3 y7 y8 x37 h ke0))
    (ke0 x0 x3 x7 x8 x9 x10 h)
theorem F164_lrr_j (j : Nat) : kLoop (kCode env 164 false inv k (cp c164 28)) j (act 38 [(0, x0), (3, x3), (7, x7), (8, x8), (9, x9)]) h K = F164_lrr inv k j x0 x3 x7 x8 x9 h (fun y0 y3 y7 y8 y9 y10 h => K (.exit 0) (act 38 [(0, y0), (3, y3), (7, y7), (8, y8), (9, y9), (10, y10)]) h) := by
      induction j generalizing x0 x3 x7 x8 x9 h with
      | zero => rfl
      | succ j ih =>
        unfold F164_lrr
        simp only [kLoop, kq_seq c164 28, r164_2, kq_seq c164 57, b164_lrllrr, kq_skip c164 228, kq_seq c164 115, F164_lrrllrr_eq, r164_6, kq_exit c164 229 0, ih, reduceIte, reduceCtorEq, XE.exit.injEq, Nat.reduceEqDiff, Nat.reduceMul, Nat.reduceAdd] <;> kernel_rfl
theorem F164_lrr_eq  : kCode env 164 false inv k (cp c164 14) (act 38 [(0, x0), (3, x3), (7, x7), (8, x8), (9, x9)]) h K = F164_lrr inv k k x0 x3 x7 x8 x9 h (fun y0 y3 y7 y8 y9 y10 h => K (.exit 0) (act 38 [(0, y0), (3, y3), (7, y7), (8, y8), (9, y9), (10, y10)]) h) := kq_loop (F164_lrr_j k)
theorem res164_0 : resOfFn env.P 164 .normal (act 38 [(0, x0), (3, x3), (7, x7), (8, x8), (9, x9), (10, x10)]) h = some (.tuple #[], h) := kq_res
/-- shadowbook/batch.set -/
noncomputable def F164 (inv : Inv) (k : Nat) (x0 x1 : Value) (h : AH) : Option (Value × AH) :=
    bnd (pBox Tryz.prog 134 x1 h) fun x3 =>
    bnd (pFieldAddr Tryz.prog 134 x3.1 3) fun x6 =>
    bnd (pLoad Tryz.prog 24 x6 x3.2) fun x7 =>
    bnd (pLen Tryz.prog #[24] x7 x3.2) fun x8 =>
    F164_lrr inv k k x0 x3.1 x7 x8 (.int .i64 0) x3.2
    (fun y0 y3 y7 y8 y9 y10 h =>
    some (.tuple #[], h))
theorem F164_eq : eFun env k inv 164 #[x0, x1] h = F164 inv k x0 x1 h := by
      refine (kq_fun (a := act 38 [(0, x0), (1, x1)]) (c := cp c164 1)).trans ?_
      unfold F164
      simp only [kq_seq c164 1, r164_0, kq_seq c164 3, r164_1, kq_block c164 7 0, F164_lrr_eq, res164_0, reduceIte, reduceCtorEq, XE.exit.injEq, Nat.reduceEqDiff, Nat.reduceMul, Nat.reduceAdd] <;> kernel_rfl
theorem F164_call : eInv env (k + 1) (.func 164) #[] #[x0, x1] h = F164 (eInv env k) k x0 x1 h := kq_inv F164_eq
noncomputable def c165 : Code := codeOf Tryz.prog 165
theorem r165_0  : kCode env 165 false inv k (cp c165 2) (act 9 [(0, x0)]) h K =
    K .normal (act 9 [(0, x0)]) h := kq_reg
noncomputable abbrev G165_1 {β : Type} (inv : Inv) (x0 : Value) (h : AH) (K : Value → AH → Option β) : Option β :=
    bnd (pBin Tryz.prog .geq 3 (.tmp 3) (.const (.int .i64 2)) x0 (.int .i64 2)) fun x4 =>
    bnd (gd (some x4) true h (some (x0, h))) fun x6 =>
    bnd (gd (some x4) true x6.2 (lt (pBin Tryz.prog .leq 3 (.tmp 6) (.const (.int .i64 5)) x6.1 (.int .i64 5)) x6.2)) fun x7 =>
    bnd (pickV x4 x7.1 (.bool false)) fun x8 =>
    K (x8) x7.2
theorem r165_1  : kCode env 165 false inv k (cp c165 6) (act 9 [(0, x0)]) h K =
    G165_1 inv x0 h fun y2 h => K .normal (act 9 [(2, y2)]) h := kq_reg
theorem res165_0 : resOfFn env.P 165 .ret (act 9 [(2, x2)]) h = some (x2, h) := kq_res
/-- shadowbook/pred.compares -/
noncomputable def F165 (inv : Inv) (k : Nat) (x0 : Value) (h : AH) : Option (Value × AH) :=
    G165_1 inv x0 h fun y2 h =>
    some (y2, h)
theorem F165_eq : eFun env k inv 165 #[x0] h = F165 inv k x0 h := by
      refine (kq_fun (a := act 9 [(0, x0)]) (c := cp c165 1)).trans ?_
      unfold F165
      simp only [kq_seq c165 1, r165_0, kq_seq c165 3, r165_1, kq_ret c165 7, res165_0, reduceIte, reduceCtorEq, XE.exit.injEq, Nat.reduceEqDiff, Nat.reduceMul, Nat.reduceAdd] <;> kernel_rfl
theorem F165_call : eInv env (k + 1) (.func 165) #[] #[x0] h = F165 (eInv env k) k x0 h := kq_inv F165_eq
noncomputable def c166 : Code := codeOf Tryz.prog 166
theorem r166_0  : kCode env 166 false inv k (cp c166 2) (act 3 []) h K =
    K .normal (act 3 []) h := kq_reg
theorem r166_1  : kCode env 166 false inv k (cp c166 6) (act 3 []) h K =
    bnd (pMakeMap Tryz.prog 187 none h) fun x1 =>
    bnd (kSt (pUpdate Tryz.prog 187 x1.1 (.int .i64 2) (.func (.func 187) #[] #[]) x1.2)) fun u =>
    bnd (kSt (pUpdate Tryz.prog 187 x1.1 (.int .i64 3) (.func (.func 188) #[] #[]) u.2)) fun u_1 =>
    bnd (kSt (pUpdate Tryz.prog 187 x1.1 (.int .i64 4) (.func (.func 189) #[] #[]) u_1.2)) fun u_2 =>
    K .normal (act 3 [(0, x1.1)]) u_2.2 := kq_reg
theorem res166_0 : resOfFn env.P 166 .ret (act 3 [(0, x0)]) h = some (x0, h) := kq_res
/-- shadowbook/pred.orders -/
noncomputable def F166 (inv : Inv) (k : Nat) (h : AH) : Option (Value × AH) :=
    bnd (pMakeMap Tryz.prog 187 none h) fun x1 =>
    bnd (kSt (pUpdate Tryz.prog 187 x1.1 (.int .i64 2) (.func (.func 187) #[] #[]) x1.2)) fun u =>
    bnd (kSt (pUpdate Tryz.prog 187 x1.1 (.int .i64 3) (.func (.func 188) #[] #[]) u.2)) fun u_3 =>
    bnd (kSt (pUpdate Tryz.prog 187 x1.1 (.int .i64 4) (.func (.func 189) #[] #[]) u_3.2)) fun u_4 =>
    some (x1.1, u_4.2)
theorem F166_eq : eFun env k inv 166 #[] h = F166 inv k  h := by
      refine (kq_fun (a := act 3 []) (c := cp c166 1)).trans ?_
      unfold F166
      simp only [kq_seq c166 1, r166_0, kq_seq c166 3, r166_1, kq_ret c166 7, res166_0, reduceIte, reduceCtorEq, XE.exit.injEq, Nat.reduceEqDiff, Nat.reduceMul, Nat.reduceAdd] <;> kernel_rfl
theorem F166_call : eInv env (k + 1) (.func 166) #[] #[] h = F166 (eInv env k) k  h := kq_inv F166_eq
noncomputable def c167 : Code := codeOf Tryz.prog 167
theorem r167_0  : kCode env 167 false inv k (cp c167 2) (act 40 [(0, x0)]) h K =
    bnd (pBox Tryz.prog 49 x0 h) fun x1 =>
    K .normal (act 40 [(1, x1.1)]) x1.2 := kq_reg
theorem r167_1  : kCode env 167 false inv k (cp c167 6) (act 40 [(1, x1)]) h K =
    K .normal (act 40 [(1, x1), (3, (.bool false))]) h := kq_reg
theorem r167_2  : kCode env 167 false inv k (cp c167 28) (act 40 [(1, x1), (3, x3)]) h K =
    bnd (pFieldAddr Tryz.prog 49 x1 0) fun x4 =>
    bnd (pLoad Tryz.prog 3 x4 h) fun x5 =>
    K .normal (act 40 [(1, x1), (3, x3), (5, x5)]) h := kq_reg
theorem r167_3  : kCode env 167 false inv k (cp c167 116) (act 40 [(1, x1), (3, x3), (5, x5)]) h K =
    bnd (pBin Tryz.prog .eql 3 (.tmp 5) (.const (.int .i64 0)) x5 (.int .i64 0)) fun x7 =>
    K .normal (act 40 [(1, x1), (3, x3), (5, x5), (6, x7)]) h := kq_reg
theorem b167_rlrlrr  : kCode env 167 false inv k (cp c167 117) (act 40 [(1, x1), (3, x3), (5, x5), (6, x6)]) h K = brV x6 (kCode env 167 false inv k (cp c167 234) (act 40 [(1, x1), (3, x3), (5, x5), (6, x6)]) h K) (kCode env 167 false inv k (cp c167 235) (act 40 [(1, x1), (3, x3), (5, x5), (6, x6)]) h K) := kq_cond
theorem r167_4  : kCode env 167 false inv k (cp c167 234) (act 40 [(1, x1), (3, x3), (5, x5), (6, x6)]) h K =
    bnd (pLoad Tryz.prog 49 x1 h) fun x8 =>
    bnd (pBuild Tryz.prog 49 #[]) fun x9 =>
    bnd (pBin Tryz.prog .eql 49 (.tmp 8) (.tmp 9) x8 x9) fun x10 =>
    K .normal (act 40 [(3, x10)]) h := kq_reg
theorem r167_5  : kCode env 167 false inv k (cp c167 470) (act 40 [(1, x1), (3, x3), (5, x5), (6, x6)]) h K =
    bnd (pBin Tryz.prog .eql 3 (.tmp 5) (.const (.int .i64 1)) x5 (.int .i64 1)) fun x12 =>
    K .normal (act 40 [(1, x1), (3, x3), (5, x5), (11, x12)]) h := kq_reg
theorem b167_rrrlrlrr  : kCode env 167 false inv k (cp c167 471) (act 40 [(1, x1), (3, x3), (5, x5), (11, x11)]) h K = brV x11 (kCode env 167 false inv k (cp c167 942) (act 40 [(1, x1), (3, x3), (5, x5), (11, x11)]) h K) (kCode env 167 false inv k (cp c167 943) (act 40 [(1, x1), (3, x3), (5, x5), (11, x11)]) h K) := kq_cond
theorem r167_6  : kCode env 167 false inv k (cp c167 942) (act 40 [(1, x1), (3, x3), (5, x5), (11, x11)]) h K =
    bnd (pFieldAddr Tryz.prog 49 x1 2) fun x13 =>
    bnd (pLoad Tryz.prog 9 x13 h) fun x14 =>
    bnd (pBin Tryz.prog .eql 9 (.tmp 14) (.const (.string { data := #[] })) x14 (.string { data := #[] })) fun x15 =>
    K .normal (act 40 [(3, x15)]) h := kq_reg
theorem r167_7  : kCode env 167 false inv k (cp c167 1886) (act 40 [(1, x1), (3, x3), (5, x5), (11, x11)]) h K =
    bnd (pBin Tryz.prog .eql 3 (.tmp 5) (.const (.int .i64 2)) x5 (.int .i64 2)) fun x17 =>
    K .normal (act 40 [(1, x1), (3, x3), (5, x5), (16, x17)]) h := kq_reg
theorem b167_rrrrrlrlrr  : kCode env 167 false inv k (cp c167 1887) (act 40 [(1, x1), (3, x3), (5, x5), (16, x16)]) h K = brV x16 (kCode env 167 false inv k (cp c167 3774) (act 40 [(1, x1), (3, x3), (5, x5), (16, x16)]) h K) (kCode env 167 false inv k (cp c167 3775) (act 40 [(1, x1), (3, x3), (5, x5), (16, x16)]) h K) := kq_cond
noncomputable abbrev G167_8 {β : Type} (inv : Inv) (x1 : Value) (h : AH) (K : Value → AH → Option β) : Option β :=
    bnd (pFieldAddr Tryz.prog 49 x1 2) fun x18 =>
    bnd (pLoad Tryz.prog 9 x18 h) fun x19 =>
    bnd (pBin Tryz.prog .eql 9 (.tmp 19) (.const (.string { data := #[] })) x19 (.string { data := #[] })) fun x20 =>
    bnd (gd (some x20) true h (lt (pFieldAddr Tryz.prog 49 x1 1) h)) fun x22 =>
    bnd (gd (some x20) true x22.2 (lt (pLoad Tryz.prog 2 x22.1 x22.2) x22.2)) fun x23 =>
    bnd (gd (some x20) true x23.2 (lt (pBin Tryz.prog .andNot 2 (.tmp 23) (.const (.int .i64 1)) x23.1 (.int .i64 1)) x23.2)) fun x24 =>
    bnd (gd (some x20) true x24.2 (lt (pBin Tryz.prog .eql 2 (.tmp 24) (.const (.int .i64 0)) x24.1 (.int .i64 0)) x24.2)) fun x25 =>
    bnd (pickV x20 x25.1 (.bool false)) fun x26 =>
    K (x26) x25.2
theorem r167_8  : kCode env 167 false inv k (cp c167 3774) (act 40 [(1, x1), (3, x3), (5, x5), (16, x16)]) h K =
    G167_8 inv x1 h fun y3 h => K .normal (act 40 [(3, y3)]) h := kq_reg
theorem r167_9  : kCode env 167 false inv k (cp c167 7550) (act 40 [(1, x1), (3, x3), (5, x5), (16, x16)]) h K =
    bnd (pBin Tryz.prog .eql 3 (.tmp 5) (.const (.int .i64 3)) x5 (.int .i64 3)) fun x28 =>
    K .normal (act 40 [(1, x1), (3, x3), (27, x28)]) h := kq_reg
theorem b167_rrrrrrrlrlrr  : kCode env 167 false inv k (cp c167 7551) (act 40 [(1, x1), (3, x3), (27, x27)]) h K = brV x27 (kCode env 167 false inv k (cp c167 15102) (act 40 [(1, x1), (3, x3), (27, x27)]) h K) (kCode env 167 false inv k (cp c167 15103) (act 40 [(1, x1), (3, x3), (27, x27)]) h K) := kq_cond
noncomputable abbrev G167_10 {β : Type} (inv : Inv) (x1 : Value) (h : AH) (K : Value → AH → Option β) : Option β :=
    bnd (pFieldAddr Tryz.prog 49 x1 1) fun x29 =>
    bnd (pLoad Tryz.prog 2 x29 h) fun x30 =>
    bnd (pBin Tryz.prog .eql 2 (.tmp 30) (.const (.int .i64 0)) x30 (.int .i64 0)) fun x31 =>
    bnd (gd (some x31) true h (lt (pFieldAddr Tryz.prog 49 x1 2) h)) fun x33 =>
    bnd (gd (some x31) true x33.2 (lt (pLoad Tryz.prog 9 x33.1 x33.2) x33.2)) fun x34 =>
    bnd (gd (some x31) true x34.2 (lt (pLen Tryz.prog #[9] x34.1 x34.2) x34.2)) fun x35 =>
    bnd (gd (some x31) true x35.2 (lt (pBin Tryz.prog .leq 3 (.tmp 35) (.const (.int .i64 256)) x35.1 (.int .i64 256)) x35.2)) fun x36 =>
    bnd (pickV x31 x36.1 (.bool false)) fun x37 =>
    K (x37) x36.2
theorem r167_10  : kCode env 167 false inv k (cp c167 15102) (act 40 [(1, x1), (3, x3), (27, x27)]) h K =
    G167_10 inv x1 h fun y3 h => K .normal (act 40 [(3, y3)]) h := kq_reg
noncomputable def F167_rlrr {β : Type} (inv : Inv) (k : Nat) (x1 x3 x5 : Value) (h : AH) (kn : (Value → Value → Value → AH → Option β)) : Option β :=
    bnd (pBin Tryz.prog .eql 3 (.tmp 5) (.const (.int .i64 0)) x5 (.int .i64 0)) fun x7 =>
    brV x7
    (bnd (pLoad Tryz.prog 49 x1 h) fun x8 =>
    bnd (pBuild Tryz.prog 49 #[]) fun x9 =>
    bnd (pBin Tryz.prog .eql 49 (.tmp 8) (.tmp 9) x8 x9) fun x10 =>
    kn unk x10 unk h)
    (bnd (pBin Tryz.prog .eql 3 (.tmp 5) (.const (.int .i64 1)) x5 (.int .i64 1)) fun x12 =>
    brV x12
    (bnd (pFieldAddr Tryz.prog 49 x1 2) fun x13 =>
    bnd (pLoad Tryz.prog 9 x13 h) fun x14 =>
    bnd (pBin Tryz.prog .eql 9 (.tmp 14) (.const (.string { data := #[] })) x14 (.string { data := #[] })) fun x15 =>
    kn unk x15 unk h)
    (bnd (pBin Tryz.prog .eql 3 (.tmp 5) (.const (.int .i64 2)) x5 (.int .i64 2)) fun x17 =>
    brV x17
    (G167_8 inv x1 h fun y3 h =>
    kn unk y3 unk h)
    (bnd (pBin Tryz.prog .eql 3 (.tmp 5) (.const (.int .i64 3)) x5 (.int .i64 3)) fun x28 =>
    brV x28
    (G167_10 inv x1 h fun y3_1 h_2 =>
    kn unk y3_1 unk h_2)
    (kn x1 x3 x28 h))))
theorem F167_rlrr_eq  : kCode env 167 false inv k (cp c167 29) (act 40 [(1, x1), (3, x3), (5, x5)]) h K = F167_rlrr inv k x1 x3 x5 h (fun y1 y3 y27 h => K .normal (act 40 [(1, y1), (3, y3), (27, y27)]) h) := by
      unfold F167_rlrr
      simp only [kq_block c167 29 0, kq_seq c167 58, r167_3, b167_rlrlrr, r167_4, kq_seq c167 235, r167_5, b167_rrrlrlrr, r167_6, kq_seq c167 943, r167_7, b167_rrrrrlrlrr, r167_8, kq_seq c167 3775, r167_9, b167_rrrrrrrlrlrr, r167_10, kq_skip c167 15103, reduceIte, reduceCtorEq, XE.exit.injEq, Nat.reduceEqDiff, Nat.reduceMul, Nat.reduceAdd] <;> kernel_rfl
theorem r167_11  : kCode env 167 false inv k (cp c167 60) (act 40 [(1, x1), (3, x3), (27, x27)]) h K =
    bnd (pUn Tryz.prog .not x3) fun x39 =>
    K .normal (act 40 [(39, x39)]) h := kq_reg
theorem b167_rlrrr  : kCode env 167 false inv k (cp c167 61) (act 40 [(39, x39)]) h K = brV x39 (kCode env 167 false inv k (cp c167 122) (act 40 [(39, x39)]) h K) (kCode env 167 false inv k (cp c167 123) (act 40 [(39, x39)]) h K) := kq_cond
theorem r167_12  : kCode env 167 false inv k (cp c167 244) (act 40 [(39, x39)]) h K =
    K .normal (act 40 [(2, (.int .i64 160))]) h := kq_reg
theorem res167_0 : resOfFn env.P 167 .ret (act 40 [(2, x2)]) h = some (x2, h) := kq_res
theorem r167_13  : kCode env 167 false inv k (cp c167 62) (act 40 [(39, x39)]) h K =
    K .normal (act 40 [(2, (.int .i64 0))]) h := kq_reg
/-- shadowbook/value.Check -/
noncomputable def F167 (inv : Inv) (k : Nat) (x0 : Value) (h : AH) : Option (Value × AH) :=
    bnd (pBox Tryz.prog 49 x0 h) fun x1 =>
    bnd (pFieldAddr Tryz.prog 49 x1.1 0) fun x4 =>
    bnd (pLoad Tryz.prog 3 x4 x1.2) fun x5 =>
    F167_rlrr inv k x1.1 (.bool false) x5 x1.2
    (fun y1 y3 y27 h =>
    bnd (pUn Tryz.prog .not y3) fun x39 =>
    brV x39
    (some ((.int .i64 160), h))
    (some ((.int .i64 0), h)))
theorem F167_eq : eFun env k inv 167 #[x0] h = F167 inv k x0 h := by
      refine (kq_fun (a := act 40 [(0, x0)]) (c := cp c167 1)).trans ?_
      unfold F167
      simp only [kq_seq c167 1, r167_0, kq_seq c167 3, r167_1, kq_seq c167 7, kq_seq c167 14, r167_2, F167_rlrr_eq, kq_seq c167 15, kq_seq c167 30, r167_11, b167_rlrrr, kq_seq c167 122, r167_12, kq_ret c167 245, res167_0, kq_skip c167 123, kq_seq c167 31, r167_13, kq_ret c167 63, reduceIte, reduceCtorEq, XE.exit.injEq, Nat.reduceEqDiff, Nat.reduceMul, Nat.reduceAdd] <;> kernel_rfl
theorem F167_call : eInv env (k + 1) (.func 167) #[] #[x0] h = F167 (eInv env k) k x0 h := kq_inv F167_eq
noncomputable def c168 : Code := codeOf Tryz.prog 168
theorem r168_0  : kCode env 168 false inv k (cp c168 2) (act 19 [(0, x0), (1, x1)]) h K =
    K .normal (act 19 [(0, x0), (1, x1)]) h := kq_reg
theorem r168_1  : kCode env 168 false inv k (cp c168 12) (act 19 [(0, x0), (1, x1)]) h K =
    bnd (pLen Tryz.prog #[24] x0 h) fun x7 =>
    K .normal (act 19 [(0, x0), (1, x1), (7, x7), (8, (.int .i64 0))]) h := kq_reg
theorem r168_2  : kCode env 168 false inv k (cp c168 104) (act 19 [(0, x0), (1, x1), (7, x7), (8, x8)]) h K =
    bnd (pBin Tryz.prog .lss 3 (.tmp 8) (.tmp 7) x8 x7) fun x9 =>
    K .normal (act 19 [(0, x0), (1, x1), (7, x7), (8, x8), (9, x9)]) h := kq_reg
theorem b168_lrllrlr  : kCode env 168 false inv k (cp c168 210) (act 19 [(0, x0), (1, x1), (7, x7), (8, x8), (9, x9)]) h K = brV x9 (kCode env 168 false inv k (cp c168 420) (act 19 [(0, x0), (1, x1), (7, x7), (8, x8), (9, x9)]) h K) (kCode env 168 false inv k (cp c168 421) (act 19 [(0, x0), (1, x1), (7, x7), (8, x8), (9, x9)]) h K) := kq_cond
theorem r168_3  : kCode env 168 false inv k (cp c168 1688) (act 19 [(0, x0), (1, x1), (7, x7), (8, x8), (9, x9)]) h K =
    K .normal (act 19 [(0, x0), (1, x1), (5, x8), (7, x7), (8, x8)]) h := kq_reg
theorem r168_4  : kCode env 168 false inv k (cp c168 3378) (act 19 [(0, x0), (1, x1), (5, x5), (7, x7), (8, x8)]) h K =
    bnd (pIndexAddr Tryz.prog 24 x0 x5) fun x14 =>
    bnd (pLoad Tryz.prog 3 x14 h) fun x15 =>
    bnd (callV inv x1 #[x15] h) fun x16 =>
    K .normal (act 19 [(0, x0), (1, x1), (5, x5), (7, x7), (8, x8), (16, x16.1)]) x16.2 := kq_reg
theorem b168_rrllrrllrlr  : kCode env 168 false inv k (cp c168 3379) (act 19 [(0, x0), (1, x1), (5, x5), (7, x7), (8, x8), (16, x16)]) h K = brV x16 (kCode env 168 false inv k (cp c168 6758) (act 19 [(0, x0), (1, x1), (5, x5), (7, x7), (8, x8), (16, x16)]) h K) (kCode env 168 false inv k (cp c168 6759) (act 19 [(0, x0), (1, x1), (5, x5), (7, x7), (8, x8), (16, x16)]) h K) := kq_cond
theorem r168_5  : kCode env 168 false inv k (cp c168 13516) (act 19 [(0, x0), (1, x1), (5, x5), (7, x7), (8, x8), (16, x16)]) h K =
    K .normal (act 19 [(4, x5)]) h := kq_reg
theorem r168_6  : kCode env 168 false inv k (cp c168 423) (act 19 [(0, x0), (1, x1), (5, x5), (7, x7), (8, x8), (16, x16)]) h K =
    bnd (pBin Tryz.prog .add 3 (.tmp 8) (.const (.int .i64 1)) x8 (.int .i64 1)) fun x18 =>
    K .normal (act 19 [(0, x0), (1, x1), (7, x7), (8, x18)]) h := kq_reg
noncomputable def F168_lrlr {β : Type} (inv : Inv) (k : Nat) : Nat → Value → Value → Value → Value → AH → (Value → Value → Value → Value → Value → AH → Option β) → (Value → AH → Option β) → Option β
  | 0, _, _, _, _, _, _, _ => none
  | j + 1, x0, x1, x7, x8, h, ke0, kr =>
    bnd (pBin Tryz.prog .lss 3 (.tmp 8) (.tmp 7) x8 x7) fun x9 =>
    brV x9
    (bnd (pIndexAddr Tryz.prog 24 x0 x8) fun x14 =>
    bnd (pLoad Tryz.prog 3 x14 h) fun x15 =>
    bnd (callV inv x1 #[x15] h) fun x16 =>
    brV x16.1
    (kr x8 x16.2)
    (bnd (pBin Tryz.prog .add 3 (.tmp 8) (.const (.int .i64 1)) x8 (.int .i64 1)) fun x18 =>
    F168_lrlr inv k j x0 x1 x7 x18 x16.2 ke0 kr))
    (ke0 x0 x1 x7 x8 x9 h)
theorem F168_lrlr_j (j : Nat) : kLoop (kCode env 168 false inv k (cp c168 52)) j (act 19 [(0, x0), (1, x1), (7, x7), (8, x8)]) h K = F168_lrlr inv k j x0 x1 x7 x8 h (fun y0 y1 y7 y8 y9 h => K (.exit 0) (act 19 [(0, y0), (1, y1), (7, y7), (8, y8), (9, y9)]) h) (fun y4 h => K .ret (act 19 [(4, y4)]) h) := by
      induction j generalizing x0 x1 x7 x8 h with
      | zero => rfl
      | succ j ih =>
        unfold F168_lrlr
        simp only [kLoop, kq_seq c168 52, r168_2, kq_seq c168 105, b168_lrllrlr, kq_skip c168 420, kq_seq c168 211, kq_block c168 422 1, kq_seq c168 844, r168_3, kq_seq c168 1689, r168_4, b168_rrllrrllrlr, kq_seq c168 6758, r168_5, kq_ret c168 13517, kq_skip c168 6759, r168_6, kq_exit c168 421 0, ih, reduceIte, reduceCtorEq, XE.exit.injEq, Nat.reduceEqDiff, Nat.reduceMul, Nat.reduceAdd] <;> kernel_rfl
theorem F168_lrlr_eq  : kCode env 168 false inv k (cp c168 26) (act 19 [(0, x0), (1, x1), (7, x7), (8, x8)]) h K = F168_lrlr inv k k x0 x1 x7 x8 h (fun y0 y1 y7 y8 y9 h => K (.exit 0) (act 19 [(0, y0), (1, y1), (7, y7), (8, y8), (9, y9)]) h) (fun y4 h => K .ret (act 19 [(4, y4)]) h) := kq_loop (F168_lrlr_j k)
theorem r168_7  : kCode env 168 false inv k (cp c168 14) (act 19 [(0, x0), (1, x1), (7, x7), (8, x8), (9, x9)]) h K =
    K .normal (act 19 [(4, (.int .i64 (-1)))]) h := kq_reg
theorem res168_0 : resOfFn env.P 168 .ret (act 19 [(4, x4)]) h = some (x4, h) := kq_res
/-- slices.IndexFunc[[]int,int] -/
noncomputable def F168 (inv : Inv) (k : Nat) (x0 x1 : Value) (h : AH) : Option (Value × AH) :=
    bnd (pLen Tryz.prog #[24] x0 h) fun x7 =>
    F168_lrlr inv k k x0 x1 x7 (.int .i64 0) h
    (fun y0 y1 y7 y8 y9 h =>
    some ((.int .i64 (-1)), h))
    (fun y4 h_1 =>
    some (y4, h_1))
theorem F168_eq : eFun env k inv 168 #[x0, x1] h = F168 inv k x0 x1 h := by
      refine (kq_fun (a := act 19 [(0, x0), (1, x1)]) (c := cp c168 1)).trans ?_
      unfold F168
      simp only [kq_seq c168 1, r168_0, kq_seq c168 3, kq_seq c168 6, r168_1, kq_block c168 13 0, F168_lrlr_eq, kq_seq c168 7, r168_7, kq_ret c168 15, res168_0, reduceIte, reduceCtorEq, XE.exit.injEq, Nat.reduceEqDiff, Nat.reduceMul, Nat.reduceAdd] <;> kernel_rfl
theorem F168_call : eInv env (k + 1) (.func 168) #[] #[x0, x1] h = F168 (eInv env k) k x0 x1 h := kq_inv F168_eq
noncomputable def c169 : Code := codeOf Tryz.prog 169
theorem r169_0  : kCode env 169 false inv k (cp c169 2) (act 58 [(0, x0), (1, x1), (2, x2)]) h K =
    K .normal (act 58 [(0, x0), (1, x1), (2, x2), (6, (.bool false))]) h := kq_reg
theorem r169_1  : kCode env 169 false inv k (cp c169 6) (act 58 [(0, x0), (1, x1), (2, x2), (6, x6)]) h K =
    bnd (pLen Tryz.prog #[23] x0 h) fun x15 =>
    bnd (pMakeSlice Tryz.prog 108 (.int .i64 0) x15 h) fun x16 =>
    K .normal (act 58 [(0, x0), (1, x1), (2, x2), (6, x6), (7, x16.1)]) x16.2 := kq_reg
theorem r169_2  : kCode env 169 false inv k (cp c169 28) (act 58 [(0, x0), (1, x1), (2, x2), (6, x6), (7, x7)]) h K =
    bnd (pLen Tryz.prog #[23] x0 h) fun x18 =>
    K .normal (act 58 [(1, x1), (2, x2), (6, x6), (7, x7), (17, x0), (18, x18), (19, (.int .i64 0))]) h := kq_reg
theorem r169_3  : kCode env 169 false inv k (cp c169 232) (act 58 [(1, x1), (2, x2), (6, x6), (7, x7), (17, x17), (18, x18), (19, x19)]) h K =
    bnd (pBin Tryz.prog .lss 3 (.tmp 19) (.tmp 18) x19 x18) fun x20 =>
    K .normal (act 58 [(1, x1), (2, x2), (6, x6), (7, x7), (17, x17), (18, x18), (19, x19), (20, x20)]) h := kq_reg
theorem b169_lrllrlrr  : kCode env 169 false inv k (cp c169 466) (act 58 [(1, x1), (2, x2), (6, x6), (7, x7), (17, x17), (18, x18), (19, x19), (20, x20)]) h K = brV x20 (kCode env 169 false inv k (cp c169 932) (act 58 [(1, x1), (2, x2), (6, x6), (7, x7), (17, x17), (18, x18), (19, x19), (20, x20)]) h K) (kCode env 169 false inv k (cp c169 933) (act 58 [(1, x1), (2, x2), (6, x6), (7, x7), (17, x17), (18, x18), (19, x19), (20, x20)]) h K) := kq_cond
theorem r169_4  : kCode env 169 false inv k (cp c169 3736) (act 58 [(1, x1), (2, x2), (6, x6), (7, x7), (17, x17), (18, x18), (19, x19), (20, x20)]) h K =
    bnd (pIndexAddr Tryz.prog 23 x17 x19) fun x22 =>
    bnd (pLoad Tryz.prog 70 x22 h) fun x23 =>
    bnd (pAlloc Tryz.prog 70 h) fun x9 =>
    bnd (kSt (pStore Tryz.prog 70 x9.1 x23 x9.2)) fun u =>
    K .normal (act 58 [(1, x1), (2, x2), (7, x7), (8, x19), (9, x9.1), (17, x17), (18, x18), (19, x19)]) u.2 := kq_reg
theorem r169_5  : kCode env 169 false inv k (cp c169 7474) (act 58 [(1, x1), (2, x2), (7, x7), (8, x8), (9, x9), (17, x17), (18, x18), (19, x19)]) h K =
    K .normal (act 58 [(1, x1), (2, x2), (7, x7), (8, x8), (9, x9), (10, (.slice none 0 0)), (17, x17), (18, x18), (19, x19)]) h := kq_reg
theorem r169_6  : kCode env 169 false inv k (cp c169 29900) (act 58 [(1, x1), (2, x2), (7, x7), (8, x8), (9, x9), (10, x10), (17, x17), (18, x18), (19, x19)]) h K =
    bnd (pFieldAddr Tryz.prog 70 x9 3) fun x24 =>
    bnd (pLoad Tryz.prog 24 x24 h) fun x25 =>
    bnd (pLen Tryz.prog #[24] x25 h) fun x26 =>
    K .normal (act 58 [(1, x1), (2, x2), (7, x7), (8, x8), (9, x9), (10, x10), (17, x17), (18, x18), (19, x19), (25, x25), (26, x26), (27, (.int .i64 0))]) h := kq_reg
theorem r169_7  : kCode env 169 false inv k (cp c169 239208) (act 58 [(1, x1), (2, x2), (7, x7), (8, x8), (9, x9), (10, x10), (17, x17), (18, x18), (19, x19), (25, x25), (26, x26), (27, x27)]) h K =
    bnd (pBin Tryz.prog .lss 3 (.tmp 27) (.tmp 26) x27 x26) fun x28 =>
    K .normal (act 58 [(1, x1), (2, x2), (7, x7), (8, x8), (9, x9), (10, x10), (17, x17), (18, x18), (19, x19), (25, x25), (26, x26), (27, x27), (28, x28)]) h := kq_reg
theorem b169_lrllrlrrllrrllrlrr  : kCode env 169 false inv k (cp c169 478418) (act 58 [(1, x1), (2, x2), (7, x7), (8, x8), (9, x9), (10, x10), (17, x17), (18, x18), (19, x19), (25, x25), (26, x26), (27, x27), (28, x28)]) h K = brV x28 (kCode env 169 false inv k (cp c169 956836) (act 58 [(1, x1), (2, x2), (7, x7), (8, x8), (9, x9), (10, x10), (17, x17), (18, x18), (19, x19), (25, x25), (26, x26), (27, x27), (28, x28)]) h K) (kCode env 169 false inv k (cp c169 956837) (act 58 [(1, x1), (2, x2), (7, x7), (8, x8), (9, x9), (10, x10), (17, x17), (18, x18), (19, x19), (25, x25), (26, x26), (27, x27), (28, x28)]) h K) := kq_cond
theorem r169_8  : kCode env 169 false inv k (cp c169 3827352) (act 58 [(1, x1), (2, x2), (7, x7), (8, x8), (9, x9), (10, x10), (17, x17), (18, x18), (19, x19), (25, x25), (26, x26), (27, x27), (28, x28)]) h K =
    bnd (pIndexAddr Tryz.prog 24 x25 x27) fun x29 =>
    bnd (pLoad Tryz.prog 3 x29 h) fun x30 =>
    K .normal (act 58 [(1, x1), (2, x2), (7, x7), (8, x8), (9, x9), (10, x10), (12, x30), (17, x17), (18, x18), (19, x19), (25, x25), (26, x26), (27, x27)]) h := kq_reg
theorem r169_9  : kCode env 169 false inv k (cp c169 7654706) (act 58 [(1, x1), (2, x2), (7, x7), (8, x8), (9, x9), (10, x10), (12, x12), (17, x17), (18, x18), (19, x19), (25, x25), (26, x26), (27, x27)]) h K =
    K .normal (act 58 [(1, x1), (2, x2), (7, x7), (8, x8), (9, x9), (10, x10), (12, x12), (13, x1), (17, x17), (18, x18), (19, x19), (25, x25), (26, x26), (27, x27)]) h := kq_reg
noncomputable abbrev G169_10 {β : Type} (inv : Inv) (x1 x2 x7 x8 x9 x10 x12 x13 x17 x18 x19 x25 x26 x27 : Value) (h : AH) (K : Value → AH → Option β) : Option β :=
    bnd (pBin Tryz.prog .geq 3 (.tmp 32) (.const (.int .i64 0)) x12 (.int .i64 0)) fun x33 =>
    bnd (gd (some x33) true h (some (x12, h))) fun x35 =>
    bnd (gd (some x33) true x35.2 (some (x8, x35.2))) fun x36 =>
    bnd (gd (some x33) true x36.2 (lt (pBin Tryz.prog .lss 3 (.tmp 35) (.tmp 36) x35.1 x36.1) x36.2)) fun x37 =>
    bnd (pickV x33 x37.1 (.bool false)) fun x38 =>
    K (x38) x37.2
theorem r169_10  : kCode env 169 false inv k (cp c169 30618828) (act 58 [(1, x1), (2, x2), (7, x7), (8, x8), (9, x9), (10, x10), (12, x12), (13, x13), (17, x17), (18, x18), (19, x19), (25, x25), (26, x26), (27, x27)]) h K =
    G169_10 inv x1 x2 x7 x8 x9 x10 x12 x13 x17 x18 x19 x25 x26 x27 h fun y38 h => K .normal (act 58 [(1, x1), (2, x2), (7, x7), (8, x8), (9, x9), (10, x10), (12, x12), (13, x13), (17, x17), (18, x18), (19, x19), (25, x25), (26, x26), (27, x27), (38, y38)]) h := kq_reg
theorem b169_rlrrllrrllrlrrllrrllrlrr  : kCode env 169 false inv k (cp c169 30618829) (act 58 [(1, x1), (2, x2), (7, x7), (8, x8), (9, x9), (10, x10), (12, x12), (13, x13), (17, x17), (18, x18), (19, x19), (25, x25), (26, x26), (27, x27), (38, x38)]) h K = brV x38 (kCode env 169 false inv k (cp c169 61237658) (act 58 [(1, x1), (2, x2), (7, x7), (8, x8), (9, x9), (10, x10), (12, x12), (13, x13), (17, x17), (18, x18), (19, x19), (25, x25), (26, x26), (27, x27), (38, x38)]) h K) (kCode env 169 false inv k (cp c169 61237659) (act 58 [(1, x1), (2, x2), (7, x7), (8, x8), (9, x9), (10, x10), (12, x12), (13, x13), (17, x17), (18, x18), (19, x19), (25, x25), (26, x26), (27, x27), (38, x38)]) h K) := kq_cond
theorem r169_11  : kCode env 169 false inv k (cp c169 61237658) (act 58 [(1, x1), (2, x2), (7, x7), (8, x8), (9, x9), (10, x10), (12, x12), (13, x13), (17, x17), (18, x18), (19, x19), (25, x25), (26, x26), (27, x27), (38, x38)]) h K =
    bnd (pIndexAddr Tryz.prog 108 x7 x12) fun x41 =>
    bnd (pLoad Tryz.prog 4 x41 h) fun x42 =>
    K .normal (act 58 [(1, x1), (2, x2), (7, x7), (8, x8), (9, x9), (10, x10), (13, x42), (17, x17), (18, x18), (19, x19), (25, x25), (26, x26), (27, x27)]) h := kq_reg
noncomputable def F169_rlrrllrrllrlrrllrrllrlrr {β : Type} (inv : Inv) (k : Nat) (x1 x2 x7 x8 x9 x10 x12 x13 x17 x18 x19 x25 x26 x27 x38 : Value) (h : AH) (kn : (Value → Value → Value → Value → Value → Value → Value → Value → Value → Value → Value → Value → Value → Value → Value → AH → Option β)) : Option β :=
    brV x38
    (bnd (pIndexAddr Tryz.prog 108 x7 x12) fun x41 =>
    bnd (pLoad Tryz.prog 4 x41 h) fun x42 =>
    kn x1 x2 x7 x8 x9 x10 unk x42 x17 x18 x19 x25 x26 x27 unk h)
    (kn x1 x2 x7 x8 x9 x10 x12 x13 x17 x18 x19 x25 x26 x27 x38 h)
theorem F169_rlrrllrrllrlrrllrrllrlrr_eq  : kCode env 169 false inv k (cp c169 30618829) (act 58 [(1, x1), (2, x2), (7, x7), (8, x8), (9, x9), (10, x10), (12, x12), (13, x13), (17, x17), (18, x18), (19, x19), (25, x25), (26, x26), (27, x27), (38, x38)]) h K = F169_rlrrllrrllrlrrllrrllrlrr inv k x1 x2 x7 x8 x9 x10 x12 x13 x17 x18 x19 x25 x26 x27 x38 h (fun y1 y2 y7 y8 y9 y10 y12 y13 y17 y18 y19 y25 y26 y27 y38 h => K .normal (act 58 [(1, y1), (2, y2), (7, y7), (8, y8), (9, y9), (10, y10), (12, y12), (13, y13), (17, y17), (18, y18), (19, y19), (25, y25), (26, y26), (27, y27), (38, y38)]) h) := by
      unfold F169_rlrrllrrllrlrrllrrllrlrr
      simp only [b169_rlrrllrrllrlrrllrrllrlrr, r169_11, kq_skip c169 61237659, reduceIte, reduceCtorEq, XE.exit.injEq, Nat.reduceEqDiff, Nat.reduceMul, Nat.reduceAdd] <;> kernel_rfl
theorem r169_12  : kCode env 169 false inv k (cp c169 15309415) (act 58 [(1, x1), (2, x2), (7, x7), (8, x8), (9, x9), (10, x10), (12, x12), (13, x13), (17, x17), (18, x18), (19, x19), (25, x25), (26, x26), (27, x27), (38, x38)]) h K =
    bnd (pBuildSlice Tryz.prog 108 1 #[(0, x13)] h) fun x45 =>
    bnd (pAppend Tryz.prog #[108, 108] x10 x45.1 x45.2) fun x46 =>
    K .normal (act 58 [(1, x1), (2, x2), (7, x7), (8, x8), (9, x9), (10, x46.1), (17, x17), (18, x18), (19, x19), (25, x25), (26, x26), (27, x27)]) x46.2 := kq_reg
theorem r169_13  : kCode env 169 false inv k (cp c169 956839) (act 58 [(1, x1), (2, x2), (7, x7), (8, x8), (9, x9), (10, x10), (17, x17), (18, x18), (19, x19), (25, x25), (26, x26), (27, x27)]) h K =
    bnd (pBin Tryz.prog .add 3 (.tmp 27) (.const (.int .i64 1)) x27 (.int .i64 1)) fun x47 =>
    K .normal (act 58 [(1, x1), (2, x2), (7, x7), (8, x8), (9, x9), (10, x10), (17, x17), (18, x18), (19, x19), (25, x25), (26, x26), (27, x47)]) h := kq_reg
noncomputable def F169_lrlrrllrrllrlrr {β : Type} (inv : Inv) (k : Nat) : Nat → Value → Value → Value → Value → Value → Value → Value → Value → Value → Value → Value → Value → AH → (Value → Value → Value → Value → Value → Value → Value → Value → Value → Value → Value → Value → Value → AH → Option β) → Option β
  | 0, _, _, _, _, _, _, _, _, _, _, _, _, _, _ => none
  | j + 1, x1, x2, x7, x8, x9, x10, x17, x18, x19, x25, x26, x27, h, ke2 =>
    bnd (pBin Tryz.prog .lss 3 (.tmp 27) (.tmp 26) x27 x26) fun x28 =>
    brV x28
    (bnd (pIndexAddr Tryz.prog 24 x25 x27) fun x29 =>
    bnd (pLoad Tryz.prog 3 x29 h) fun x30 =>
    G169_10 inv x1 x2 x7 x8 x9 x10 x30 x1 x17 x18 x19 x25 x26 x27 h fun y38 h =>
    F169_rlrrllrrllrlrrllrrllrlrr inv k x1 x2 x7 x8 x9 x10 x30 x1 x17 x18 x19 x25 x26 x27 y38 h
    (fun y1 y2 y7 y8 y9 y10 y12 y13 y17 y18 y19 y25 y26 y27 y38_1 h_2 =>
    bnd (pBuildSlice Tryz.prog 108 1 #[(0, y13)] h_2) fun x45 =>
    bnd (pAppend Tryz.prog #[108, 108] y10 x45.1 x45.2) fun x46 =>
    bnd (pBin Tryz.prog .add 3 (.tmp 27) (.const (.int .i64 1)) y27 (.int .i64 1)) fun x47 =>
    F169_lrlrrllrrllrlrr inv k j y1 y2 y7 y8 y9 x46.1 y17 y18 y19 y25 y26 x47 x46.2 ke2))
    (ke2 x1 x2 x7 x8 x9 x10 x17 x18 x19 x25 x26 x27 x28 h)
theorem F169_lrlrrllrrllrlrr_j (j : Nat) : kLoop (kCode env 169 false inv k (cp c169 119604)) j (act 58 [(1, x1), (2, x2), (7, x7), (8, x8), (9, x9), (10, x10), (17, x17), (18, x18), (19, x19), (25, x25), (26, x26), (27, x27)]) h K = F169_lrlrrllrrllrlrr inv k j x1 x2 x7 x8 x9 x10 x17 x18 x19 x25 x26 x27 h (fun y1 y2 y7 y8 y9 y10 y17 y18 y19 y25 y26 y27 y28 h => K (.exit 2) (act 58 [(1, y1), (2, y2), (7, y7), (8, y8), (9, y9), (10, y10), (17, y17), (18, y18), (19, y19), (25, y25), (26, y26), (27, y27), (28, y28)]) h) := by
      induction j generalizing x1 x2 x7 x8 x9 x10 x17 x18 x19 x25 x26 x27 h with
      | zero => rfl
      | succ j ih =>
        unfold F169_lrlrrllrrllrlrr
        simp only [kLoop, kq_seq c169 119604, r169_7, kq_seq c169 239209, b169_lrllrlrrllrrllrlrr, kq_skip c169 956836, kq_seq c169 478419, kq_block c169 956838 3, kq_seq c169 1913676, r169_8, kq_seq c169 3827353, r169_9, kq_seq c169 7654707, kq_seq c169 15309414, r169_10, F169_rlrrllrrllrlrrllrrllrlrr_eq, r169_12, r169_13, kq_exit c169 956837 2, ih, reduceIte, reduceCtorEq, XE.exit.injEq, Nat.reduceEqDiff, Nat.reduceMul, Nat.reduceAdd] <;> kernel_rfl
theorem F169_lrlrrllrrllrlrr_eq  : kCode env 169 false inv k (cp c169 59802) (act 58 [(1, x1), (2, x2), (7, x7), (8, x8), (9, x9), (10, x10), (17, x17), (18, x18), (19, x19), (25, x25), (26, x26), (27, x27)]) h K = F169_lrlrrllrrllrlrr inv k k x1 x2 x7 x8 x9 x10 x17 x18 x19 x25 x26 x27 h (fun y1 y2 y7 y8 y9 y10 y17 y18 y19 y25 y26 y27 y28 h => K (.exit 2) (act 58 [(1, y1), (2, y2), (7, y7), (8, y8), (9, y9), (10, y10), (17, y17), (18, y18), (19, y19), (25, y25), (26, y26), (27, y27), (28, y28)]) h) := kq_loop (F169_lrlrrllrrllrlrr_j k)
theorem r169_14  : kCode env 169 false inv k (cp c169 29902) (act 58 [(1, x1), (2, x2), (7, x7), (8, x8), (9, x9), (10, x10), (17, x17), (18, x18), (19, x19), (25, x25), (26, x26), (27, x27), (28, x28)]) h K =
    bnd (pLoad Tryz.prog 70 x9 h) fun x49 =>
    bnd (callV inv x2 #[x49, x10] h) fun x51 =>
    K .normal (act 58 [(1, x1), (2, x2), (6, x51.1), (7, x7), (17, x17), (18, x18), (19, x19)]) x51.2 := kq_reg
theorem r169_15  : kCode env 169 false inv k (cp c169 29903) (act 58 [(1, x1), (2, x2), (6, x6), (7, x7), (17, x17), (18, x18), (19, x19)]) h K =
    bnd (pBuildSlice Tryz.prog 108 1 #[(0, x6)] h) fun x54 =>
    bnd (pAppend Tryz.prog #[108, 108] x7 x54.1 x54.2) fun x55 =>
    K .normal (act 58 [(1, x1), (2, x2), (6, x6), (7, x55.1), (17, x17), (18, x18), (19, x19)]) x55.2 := kq_reg
theorem r169_16  : kCode env 169 false inv k (cp c169 935) (act 58 [(1, x1), (2, x2), (6, x6), (7, x7), (17, x17), (18, x18), (19, x19)]) h K =
    bnd (pBin Tryz.prog .add 3 (.tmp 19) (.const (.int .i64 1)) x19 (.int .i64 1)) fun x56 =>
    K .normal (act 58 [(1, x1), (2, x2), (6, x6), (7, x7), (17, x17), (18, x18), (19, x56)]) h := kq_reg
noncomputable def F169_lrlrr {β : Type} (inv : Inv) (k : Nat) : Nat → Value → Value → Value → Value → Value → Value → Value → AH → (Value → Value → Value → Value → Value → Value → Value → Value → AH → Option β) → Option β
  | 0, _, _, _, _, _, _, _, _, _ => none
  | j + 1, x1, x2, x6, x7, x17, x18, x19, h, ke0 =>
    bnd (pBin Tryz.prog .lss 3 (.tmp 19) (.tmp 18) x19 x18) fun x20 =>
    brV x20
    (bnd (pIndexAddr Tryz.prog 23 x17 x19) fun x22 =>
    bnd (pLoad Tryz.prog 70 x22 h) fun x23 =>
    bnd (pAlloc Tryz.prog 70 h) fun x9 =>
    bnd (kSt (pStore Tryz.prog 70 x9.1 x23 x9.2)) fun u =>
    bnd (pFieldAddr Tryz.prog 70 x9.1 3) fun x24 =>
    bnd (pLoad Tryz.prog 24 x24 u.2) fun x25 =>
    bnd (pLen Tryz.prog #[24] x25 u.2) fun x26 =>
    F169_lrlrrllrrllrlrr inv k k x1 x2 x7 x19 x9.1 (.slice none 0 0) x17 x18 x19 x25 x26 (.int .i64 0) u.2
    (fun y1 y2 y7 y8 y9 y10 y17 y18 y19 y25 y26 y27 y28 h =>
    bnd (pLoad Tryz.prog 70 y9 h) fun x49 =>
    bnd (callV inv y2 #[x49, y10] h) fun x51 =>
    bnd (pBuildSlice Tryz.prog 108 1 #[(0, x51.1)] x51.2) fun x54 =>
    bnd (pAppend Tryz.prog #[108, 108] y7 x54.1 x54.2) fun x55 =>
    bnd (pBin Tryz.prog .add 3 (.tmp 19) (.const (.int .i64 1)) y19 (.int .i64 1)) fun x56 =>
    F169_lrlrr inv k j y1 y2 x51.1 x55.1 y17 y18 x56 x55.2 ke0))
    (ke0 x1 x2 x6 x7 x17 x18 x19 x20 h)
theorem F169_lrlrr_j (j : Nat) : kLoop (kCode env 169 false inv k (cp c169 116)) j (act 58 [(1, x1), (2, x2), (6, x6), (7, x7), (17, x17), (18, x18), (19, x19)]) h K = F169_lrlrr inv k j x1 x2 x6 x7 x17 x18 x19 h (fun y1 y2 y6 y7 y17 y18 y19 y20 h => K (.exit 0) (act 58 [(1, y1), (2, y2), (6, y6), (7, y7), (17, y17), (18, y18), (19, y19), (20, y20)]) h) := by
      induction j generalizing x1 x2 x6 x7 x17 x18 x19 h with
      | zero => rfl
      | succ j ih =>
        unfold F169_lrlrr
        simp only [kLoop, kq_seq c169 116, r169_3, kq_seq c169 233, b169_lrllrlrr, kq_skip c169 932, kq_seq c169 467, kq_block c169 934 1, kq_seq c169 1868, r169_4, kq_seq c169 3737, r169_5, kq_seq c169 7475, kq_seq c169 14950, r169_6, kq_block c169 29901 2, F169_lrlrrllrrllrlrr_eq, kq_seq c169 14951, r169_14, r169_15, r169_16, kq_exit c169 933 0, ih, reduceIte, reduceCtorEq, XE.exit.injEq, Nat.reduceEqDiff, Nat.reduceMul, Nat.reduceAdd] <;> kernel_rfl
theorem F169_lrlrr_eq  : kCode env 169 false inv k (cp c169 58) (act 58 [(1, x1), (2, x2), (6, x6), (7, x7), (17, x17), (18, x18), (19, x19)]) h K = F169_lrlrr inv k k x1 x2 x6 x7 x17 x18 x19 h (fun y1 y2 y6 y7 y17 y18 y19 y20 h => K (.exit 0) (act 58 [(1, y1), (2, y2), (6, y6), (7, y7), (17, y17), (18, y18), (19, y19), (20, y20)]) h) := kq_loop (F169_lrlrr_j k)
theorem r169_17  : kCode env 169 false inv k (cp c169 30) (act 58 [(1, x1), (2, x2), (6, x6), (7, x7), (17, x17), (18, x18), (19, x19), (20, x20)]) h K =
    K .normal (act 58 [(6, x6)]) h := kq_reg
theorem res169_0 : resOfFn env.P 169 .ret (act 58 [(6, x6)]) h = some (x6, h) := kq_res
/-- shadowbook/pred.gone[bool] -/
noncomputable def F169 (inv : Inv) (k : Nat) (x0 x1 x2 : Value) (h : AH) : Option (Value × AH) :=
    bnd (pLen Tryz.prog #[23] x0 h) fun x15 =>
    bnd (pMakeSlice Tryz.prog 108 (.int .i64 0) x15 h) fun x16 =>
    bnd (pLen Tryz.prog #[23] x0 x16.2) fun x18 =>
    F169_lrlrr inv k k x1 x2 (.bool false) x16.1 x0 x18 (.int .i64 0) x16.2
    (fun y1 y2 y6 y7 y17 y18 y19 y20 h =>
    some (y6, h))
theorem F169_eq : eFun env k inv 169 #[x0, x1, x2] h = F169 inv k x0 x1 x2 h := by
      refine (kq_fun (a := act 58 [(0, x0), (1, x1), (2, x2)]) (c := cp c169 1)).trans ?_
      unfold F169
      simp only [kq_seq c169 1, r169_0, kq_seq c169 3, r169_1, kq_seq c169 7, kq_seq c169 14, r169_2, kq_block c169 29 0, F169_lrlrr_eq, kq_seq c169 15, r169_17, kq_ret c169 31, res169_0, reduceIte, reduceCtorEq, XE.exit.injEq, Nat.reduceEqDiff, Nat.reduceMul, Nat.reduceAdd] <;> kernel_rfl
theorem F169_call : eInv env (k + 1) (.func 169) #[] #[x0, x1, x2] h = F169 (eInv env k) k x0 x1 x2 h := kq_inv F169_eq
noncomputable def c170 : Code := codeOf Tryz.prog 170
theorem r170_0  : kCode env 170 false inv k (cp c170 2) (act 36 [(0, x0), (1, x1), (2, x2)]) h K =
    bnd (pBox Tryz.prog 70 x0 h) fun x3 =>
    K .normal (act 36 [(1, x1), (2, x2), (3, x3.1)]) x3.2 := kq_reg
theorem r170_1  : kCode env 170 false inv k (cp c170 24) (act 36 [(1, x1), (2, x2), (3, x3)]) h K =
    bnd (pFieldAddr Tryz.prog 70 x3 0) fun x7 =>
    bnd (pLoad Tryz.prog 3 x7 h) fun x8 =>
    bnd (inv (.func 165) #[] #[x8] h) fun x9 =>
    K .normal (act 36 [(1, x1), (2, x2), (3, x3), (6, x9.1)]) x9.2 := kq_reg
theorem b170_rllr  : kCode env 170 false inv k (cp c170 25) (act 36 [(1, x1), (2, x2), (3, x3), (6, x6)]) h K = brV x6 (kCode env 170 false inv k (cp c170 50) (act 36 [(1, x1), (2, x2), (3, x3), (6, x6)]) h K) (kCode env 170 false inv k (cp c170 51) (act 36 [(1, x1), (2, x2), (3, x3), (6, x6)]) h K) := kq_cond
theorem r170_2  : kCode env 170 false inv k (cp c170 100) (act 36 [(1, x1), (2, x2), (3, x3), (6, x6)]) h K =
    bnd (pLoad Tryz.prog 70 x3 h) fun x10 =>
    bnd (pLoad Tryz.prog 45 x2 h) fun x11 =>
    bnd (inv (.func 171) #[] #[x10, x11] h) fun x12 =>
    K .normal (act 36 [(5, x12.1)]) x12.2 := kq_reg
theorem res170_0 : resOfFn env.P 170 .ret (act 36 [(5, x5)]) h = some (x5, h) := kq_res
theorem r170_3  : kCode env 170 false inv k (cp c170 102) (act 36 [(1, x1), (2, x2), (3, x3), (6, x6)]) h K =
    bnd (pFieldAddr Tryz.prog 70 x3 0) fun x14 =>
    bnd (pLoad Tryz.prog 3 x14 h) fun x15 =>
    bnd (pBin Tryz.prog .eql 3 (.tmp 15) (.const (.int .i64 1)) x15 (.int .i64 1)) fun x16 =>
    K .normal (act 36 [(1, x1), (3, x3), (13, x16)]) h := kq_reg
theorem b170_rrrllr  : kCode env 170 false inv k (cp c170 103) (act 36 [(1, x1), (3, x3), (13, x13)]) h K = brV x13 (kCode env 170 false inv k (cp c170 206) (act 36 [(1, x1), (3, x3), (13, x13)]) h K) (kCode env 170 false inv k (cp c170 207) (act 36 [(1, x1), (3, x3), (13, x13)]) h K) := kq_cond
theorem r170_4  : kCode env 170 false inv k (cp c170 412) (act 36 [(1, x1), (3, x3), (13, x13)]) h K =
    K .normal (act 36 [(5, (.bool true))]) h := kq_reg
theorem r170_5  : kCode env 170 false inv k (cp c170 414) (act 36 [(1, x1), (3, x3), (13, x13)]) h K =
    bnd (pFieldAddr Tryz.prog 70 x3 0) fun x18 =>
    bnd (pLoad Tryz.prog 3 x18 h) fun x19 =>
    bnd (pBin Tryz.prog .eql 3 (.tmp 19) (.const (.int .i64 6)) x19 (.int .i64 6)) fun x20 =>
    K .normal (act 36 [(1, x1), (3, x3), (17, x20)]) h := kq_reg
theorem b170_rrrrrllr  : kCode env 170 false inv k (cp c170 415) (act 36 [(1, x1), (3, x3), (17, x17)]) h K = brV x17 (kCode env 170 false inv k (cp c170 830) (act 36 [(1, x1), (3, x3), (17, x17)]) h K) (kCode env 170 false inv k (cp c170 831) (act 36 [(1, x1), (3, x3), (17, x17)]) h K) := kq_cond
theorem r170_6  : kCode env 170 false inv k (cp c170 1660) (act 36 [(1, x1), (3, x3), (17, x17)]) h K =
    bnd (inv (.func 172) #[] #[x1, (.bool false)] h) fun x22 =>
    bnd (pUn Tryz.prog .not x22.1) fun x23 =>
    K .normal (act 36 [(5, x23)]) x22.2 := kq_reg
theorem r170_7  : kCode env 170 false inv k (cp c170 1662) (act 36 [(1, x1), (3, x3), (17, x17)]) h K =
    bnd (pFieldAddr Tryz.prog 70 x3 0) fun x25 =>
    bnd (pLoad Tryz.prog 3 x25 h) fun x26 =>
    bnd (pBin Tryz.prog .eql 3 (.tmp 26) (.const (.int .i64 7)) x26 (.int .i64 7)) fun x27 =>
    K .normal (act 36 [(1, x1), (3, x3), (24, x27)]) h := kq_reg
theorem b170_rrrrrrrllr  : kCode env 170 false inv k (cp c170 1663) (act 36 [(1, x1), (3, x3), (24, x24)]) h K = brV x24 (kCode env 170 false inv k (cp c170 3326) (act 36 [(1, x1), (3, x3), (24, x24)]) h K) (kCode env 170 false inv k (cp c170 3327) (act 36 [(1, x1), (3, x3), (24, x24)]) h K) := kq_cond
theorem r170_8  : kCode env 170 false inv k (cp c170 6652) (act 36 [(1, x1), (3, x3), (24, x24)]) h K =
    bnd (inv (.func 172) #[] #[x1, (.bool true)] h) fun x29 =>
    K .normal (act 36 [(5, x29.1)]) x29.2 := kq_reg
theorem r170_9  : kCode env 170 false inv k (cp c170 6654) (act 36 [(1, x1), (3, x3), (24, x24)]) h K =
    bnd (pFieldAddr Tryz.prog 70 x3 0) fun x31 =>
    bnd (pLoad Tryz.prog 3 x31 h) fun x32 =>
    bnd (pBin Tryz.prog .eql 3 (.tmp 32) (.const (.int .i64 8)) x32 (.int .i64 8)) fun x33 =>
    K .normal (act 36 [(1, x1), (30, x33)]) h := kq_reg
theorem b170_rrrrrrrrrllr  : kCode env 170 false inv k (cp c170 6655) (act 36 [(1, x1), (30, x30)]) h K = brV x30 (kCode env 170 false inv k (cp c170 13310) (act 36 [(1, x1), (30, x30)]) h K) (kCode env 170 false inv k (cp c170 13311) (act 36 [(1, x1), (30, x30)]) h K) := kq_cond
theorem r170_10  : kCode env 170 false inv k (cp c170 26620) (act 36 [(1, x1), (30, x30)]) h K =
    bnd (inv (.func 172) #[] #[x1, (.bool false)] h) fun x35 =>
    K .normal (act 36 [(5, x35.1)]) x35.2 := kq_reg
theorem r170_11  : kCode env 170 false inv k (cp c170 14) (act 36 [(1, x1), (30, x30)]) h K =
    K .normal (act 36 [(5, (.bool false))]) h := kq_reg
/-- shadowbook/pred.Holds$1 -/
noncomputable def F170 (inv : Inv) (k : Nat) (x0 x1 x2 : Value) (h : AH) : Option (Value × AH) :=
    bnd (pBox Tryz.prog 70 x0 h) fun x3 =>
    bnd (pFieldAddr Tryz.prog 70 x3.1 0) fun x7 =>
    bnd (pLoad Tryz.prog 3 x7 x3.2) fun x8 =>
    bnd (inv (.func 165) #[] #[x8] x3.2) fun x9 =>
    brV x9.1
    (bnd (pLoad Tryz.prog 70 x3.1 x9.2) fun x10 =>
    bnd (pLoad Tryz.prog 45 x2 x9.2) fun x11 =>
    bnd (inv (.func 171) #[] #[x10, x11] x9.2) fun x12 =>
    some (x12.1, x12.2))
    (bnd (pFieldAddr Tryz.prog 70 x3.1 0) fun x14 =>
    bnd (pLoad Tryz.prog 3 x14 x9.2) fun x15 =>
    bnd (pBin Tryz.prog .eql 3 (.tmp 15) (.const (.int .i64 1)) x15 (.int .i64 1)) fun x16 =>
    brV x16
    (some ((.bool true), x9.2))
    (bnd (pFieldAddr Tryz.prog 70 x3.1 0) fun x18 =>
    bnd (pLoad Tryz.prog 3 x18 x9.2) fun x19 =>
    bnd (pBin Tryz.prog .eql 3 (.tmp 19) (.const (.int .i64 6)) x19 (.int .i64 6)) fun x20 =>
    brV x20
    (bnd (inv (.func 172) #[] #[x1, (.bool false)] x9.2) fun x22 =>
    bnd (pUn Tryz.prog .not x22.1) fun x23 =>
    some (x23, x22.2))
    (bnd (pFieldAddr Tryz.prog 70 x3.1 0) fun x25 =>
    bnd (pLoad Tryz.prog 3 x25 x9.2) fun x26 =>
    bnd (pBin Tryz.prog .eql 3 (.tmp 26) (.const (.int .i64 7)) x26 (.int .i64 7)) fun x27 =>
    brV x27
    (bnd (inv (.func 172) #[] #[x1, (.bool true)] x9.2) fun x29 =>
    some (x29.1, x29.2))
    (bnd (pFieldAddr Tryz.prog 70 x3.1 0) fun x31 =>
    bnd (pLoad Tryz.prog 3 x31 x9.2) fun x32 =>
    bnd (pBin Tryz.prog .eql 3 (.tmp 32) (.const (.int .i64 8)) x32 (.int .i64 8)) fun x33 =>
    brV x33
    (bnd (inv (.func 172) #[] #[x1, (.bool false)] x9.2) fun x35 =>
    some (x35.1, x35.2))
    (some ((.bool false), x9.2))))))
theorem F170_eq : eFun env k inv 170 #[x0, x1, x2] h = F170 inv k x0 x1 x2 h := by
      refine (kq_fun (a := act 36 [(0, x0), (1, x1), (2, x2)]) (c := cp c170 1)).trans ?_
      unfold F170
      simp only [kq_seq c170 1, r170_0, kq_seq c170 3, kq_block c170 6 0, kq_seq c170 12, r170_1, b170_rllr, kq_seq c170 50, r170_2, kq_ret c170 101, res170_0, kq_seq c170 51, r170_3, b170_rrrllr, kq_seq c170 206, r170_4, kq_ret c170 413, kq_seq c170 207, r170_5, b170_rrrrrllr, kq_seq c170 830, r170_6, kq_ret c170 1661, kq_seq c170 831, r170_7, b170_rrrrrrrllr, kq_seq c170 3326, r170_8, kq_ret c170 6653, kq_seq c170 3327, r170_9, b170_rrrrrrrrrllr, kq_seq c170 13310, r170_10, kq_ret c170 26621, kq_skip c170 13311, kq_seq c170 7, r170_11, kq_ret c170 15, reduceIte, reduceCtorEq, XE.exit.injEq, Nat.reduceEqDiff, Nat.reduceMul, Nat.reduceAdd] <;> kernel_rfl
theorem F170_call : eInv env (k + 1) (.func 170) #[] #[x0, x1, x2] h = F170 (eInv env k) k x0 x1 x2 h := kq_inv F170_eq
noncomputable def c171 : Code := codeOf Tryz.prog 171
theorem r171_0  : kCode env 171 false inv k (cp c171 2) (act 42 [(0, x0), (1, x1)]) h K =
    bnd (pBox Tryz.prog 70 x0 h) fun x2 =>
    K .normal (act 42 [(1, x1), (2, x2.1)]) x2.2 := kq_reg
noncomputable abbrev G171_1 {β : Type} (inv : Inv) (x1 x2 : Value) (h : AH) (K : Value → AH → Option β) : Option β :=
    bnd (pFieldAddr Tryz.prog 70 x2 1) fun x7 =>
    bnd (pLoad Tryz.prog 3 x7 h) fun x8 =>
    bnd (pBin Tryz.prog .lss 3 (.tmp 8) (.const (.int .i64 0)) x8 (.int .i64 0)) fun x9 =>
    bnd (gd (some x9) false h (lt (pFieldAddr Tryz.prog 70 x2 1) h)) fun x11 =>
    bnd (gd (some x9) false x11.2 (lt (pLoad Tryz.prog 3 x11.1 x11.2) x11.2)) fun x12 =>
    bnd (gd (some x9) false x12.2 (some (x1, x12.2))) fun x13 =>
    bnd (gd (some x9) false x13.2 (lt (pLen Tryz.prog #[45] x13.1 x13.2) x13.2)) fun x14 =>
    bnd (gd (some x9) false x14.2 (lt (pBin Tryz.prog .geq 3 (.tmp 12) (.tmp 14) x12.1 x14.1) x14.2)) fun x15 =>
    bnd (pickV x9 (.bool true) x15.1) fun x16 =>
    K (x16) x15.2
theorem r171_1  : kCode env 171 false inv k (cp c171 12) (act 42 [(1, x1), (2, x2)]) h K =
    G171_1 inv x1 x2 h fun y16 h => K .normal (act 42 [(1, x1), (2, x2), (16, y16)]) h := kq_reg
theorem b171_rlr  : kCode env 171 false inv k (cp c171 13) (act 42 [(1, x1), (2, x2), (16, x16)]) h K = brV x16 (kCode env 171 false inv k (cp c171 26) (act 42 [(1, x1), (2, x2), (16, x16)]) h K) (kCode env 171 false inv k (cp c171 27) (act 42 [(1, x1), (2, x2), (16, x16)]) h K) := kq_cond
theorem r171_2  : kCode env 171 false inv k (cp c171 52) (act 42 [(1, x1), (2, x2), (16, x16)]) h K =
    K .normal (act 42 [(4, (.bool false))]) h := kq_reg
theorem res171_0 : resOfFn env.P 171 .ret (act 42 [(4, x4)]) h = some (x4, h) := kq_res
theorem r171_3  : kCode env 171 false inv k (cp c171 14) (act 42 [(1, x1), (2, x2), (16, x16)]) h K =
    bnd (pFieldAddr Tryz.prog 70 x2 1) fun x18 =>
    bnd (pLoad Tryz.prog 3 x18 h) fun x19 =>
    bnd (pIndexAddr Tryz.prog 45 x1 x19) fun x20 =>
    bnd (pLoad Tryz.prog 49 x20 h) fun x21 =>
    bnd (pAlloc Tryz.prog 49 h) fun x5 =>
    bnd (kSt (pStore Tryz.prog 49 x5.1 x21 x5.2)) fun u =>
    K .normal (act 42 [(2, x2), (5, x5.1)]) u.2 := kq_reg
theorem r171_4  : kCode env 171 false inv k (cp c171 30) (act 42 [(2, x2), (5, x5)]) h K =
    bnd (pFieldAddr Tryz.prog 49 x5 0) fun x22 =>
    bnd (pLoad Tryz.prog 3 x22 h) fun x23 =>
    bnd (pBin Tryz.prog .eql 3 (.tmp 23) (.const (.int .i64 0)) x23 (.int .i64 0)) fun x24 =>
    K .normal (act 42 [(2, x2), (5, x5), (6, x24)]) h := kq_reg
theorem r171_5  : kCode env 171 false inv k (cp c171 124) (act 42 [(2, x2), (5, x5), (6, x6)]) h K =
    bnd (pFieldAddr Tryz.prog 70 x2 0) fun x25 =>
    bnd (pLoad Tryz.prog 3 x25 h) fun x26 =>
    bnd (pBin Tryz.prog .eql 3 (.tmp 26) (.const (.int .i64 5)) x26 (.int .i64 5)) fun x27 =>
    K .normal (act 42 [(2, x2), (5, x5), (6, x6), (27, x27)]) h := kq_reg
theorem b171_rlrrrr  : kCode env 171 false inv k (cp c171 125) (act 42 [(2, x2), (5, x5), (6, x6), (27, x27)]) h K = brV x27 (kCode env 171 false inv k (cp c171 250) (act 42 [(2, x2), (5, x5), (6, x6), (27, x27)]) h K) (kCode env 171 false inv k (cp c171 251) (act 42 [(2, x2), (5, x5), (6, x6), (27, x27)]) h K) := kq_cond
theorem r171_6  : kCode env 171 false inv k (cp c171 500) (act 42 [(2, x2), (5, x5), (6, x6), (27, x27)]) h K =
    K .normal (act 42 [(4, x6)]) h := kq_reg
noncomputable abbrev G171_7 {β : Type} (inv : Inv) (x2 x5 x6 : Value) (h : AH) (K : Value → AH → Option β) : Option β :=
    bnd (pUn Tryz.prog .not x6) fun x30 =>
    bnd (gd3 (some x30) true h (inv (.func 166) #[] #[] h)) fun x32 =>
    bnd (gd3 (some x30) true x32.2.1 (lt (pFieldAddr Tryz.prog 70 x2 0) x32.2.1)) fun x33 =>
    bnd (gd3 (some x30) true x33.2.1 (lt (pLoad Tryz.prog 3 x33.1 x33.2.1) x33.2.1)) fun x34 =>
    bnd (gd3 (some x30) true x34.2.1 (lt (pLookup Tryz.prog 187 x32.1 x34.1 false x34.2.1) x34.2.1)) fun x35 =>
    bnd (gd3 (some x30) true x35.2.1 (lt (pLoad Tryz.prog 49 x5 x35.2.1) x35.2.1)) fun x36 =>
    bnd (gd3 (some x30) true x36.2.1 (lt (pFieldAddr Tryz.prog 70 x2 2) x36.2.1)) fun x37 =>
    bnd (gd3 (some x30) true x37.2.1 (lt (pLoad Tryz.prog 49 x37.1 x37.2.1) x37.2.1)) fun x38 =>
    bnd (gd3 (some x30) true x38.2.1 (inv (.func 82) #[] #[x36.1, x38.1] x38.2.1)) fun x39 =>
    bnd (gd3 (some x30) true x39.2.1 (callV inv x35.1 #[x39.1] x39.2.1)) fun x40 =>
    bnd (pickV x30 x40.1 (.bool false)) fun x41 =>
    chkK ((!x34.2.2 || !x32.2.2 || (sameO (pLoad Tryz.prog 3 x33.1 h) x34.1 && sameO (pLoad Tryz.prog 3 x33.1 x32.2.1) x34.1)) && ((!x34.2.2 || !x39.2.2 || (sameO (pLoad Tryz.prog 3 x33.1 x38.2.1) x34.1 && sameO (pLoad Tryz.prog 3 x33.1 x39.2.1) x34.1)) && ((!x35.2.2 || !x39.2.2 || (sameO (pLookup Tryz.prog 187 x32.1 x34.1 false x38.2.1) x35.1 && sameO (pLookup Tryz.prog 187 x32.1 x34.1 false x39.2.1) x35.1)) && ((!x36.2.2 || !x32.2.2 || (sameO (pLoad Tryz.prog 49 x5 h) x36.1 && sameO (pLoad Tryz.prog 49 x5 x32.2.1) x36.1)) && ((!x38.2.2 || !x32.2.2 || (sameO (pLoad Tryz.prog 49 x37.1 h) x38.1 && sameO (pLoad Tryz.prog 49 x37.1 x32.2.1) x38.1)) && true))))) <|
    K (x41) x40.2.1
theorem r171_7  : kCode env 171 false inv k (cp c171 126) (act 42 [(2, x2), (5, x5), (6, x6), (27, x27)]) h K =
    G171_7 inv x2 x5 x6 h fun y4 h => K .normal (act 42 [(4, y4)]) h := kq_draw
/-- shadowbook/pred.leaf -/
noncomputable def F171 (inv : Inv) (k : Nat) (x0 x1 : Value) (h : AH) : Option (Value × AH) :=
    bnd (pBox Tryz.prog 70 x0 h) fun x2 =>
    G171_1 inv x1 x2.1 x2.2 fun y16 h =>
    brV y16
    (some ((.bool false), h))
    (bnd (pFieldAddr Tryz.prog 70 x2.1 1) fun x18 =>
    bnd (pLoad Tryz.prog 3 x18 h) fun x19 =>
    bnd (pIndexAddr Tryz.prog 45 x1 x19) fun x20 =>
    bnd (pLoad Tryz.prog 49 x20 h) fun x21 =>
    bnd (pAlloc Tryz.prog 49 h) fun x5 =>
    bnd (kSt (pStore Tryz.prog 49 x5.1 x21 x5.2)) fun u =>
    bnd (pFieldAddr Tryz.prog 49 x5.1 0) fun x22 =>
    bnd (pLoad Tryz.prog 3 x22 u.2) fun x23 =>
    bnd (pBin Tryz.prog .eql 3 (.tmp 23) (.const (.int .i64 0)) x23 (.int .i64 0)) fun x24 =>
    bnd (pFieldAddr Tryz.prog 70 x2.1 0) fun x25 =>
    bnd (pLoad Tryz.prog 3 x25 u.2) fun x26 =>
    bnd (pBin Tryz.prog .eql 3 (.tmp 26) (.const (.int .i64 5)) x26 (.int .i64 5)) fun x27 =>
    brV x27
    (some (x24, u.2))
    (G171_7 inv x2.1 x5.1 x24 u.2 fun y4 h_1 =>
    some (y4, h_1)))
theorem F171_eq : eFun env k inv 171 #[x0, x1] h = F171 inv k x0 x1 h := by
      refine (kq_fun (a := act 42 [(0, x0), (1, x1)]) (c := cp c171 1)).trans ?_
      unfold F171
      simp only [kq_seq c171 1, r171_0, kq_seq c171 3, kq_seq c171 6, r171_1, b171_rlr, kq_seq c171 26, r171_2, kq_ret c171 53, res171_0, kq_skip c171 27, kq_seq c171 7, r171_3, kq_seq c171 15, r171_4, kq_seq c171 31, kq_seq c171 62, r171_5, b171_rlrrrr, kq_seq c171 250, r171_6, kq_ret c171 501, kq_skip c171 251, kq_seq c171 63, r171_7, kq_ret c171 127, reduceIte, reduceCtorEq, XE.exit.injEq, Nat.reduceEqDiff, Nat.reduceMul, Nat.reduceAdd] <;> kernel_rfl
theorem F171_call : eInv env (k + 1) (.func 171) #[] #[x0, x1] h = F171 (eInv env k) k x0 x1 h := kq_inv F171_eq
noncomputable def c172 : Code := codeOf Tryz.prog 172
theorem r172_0  : kCode env 172 false inv k (cp c172 2) (act 9 [(0, x0), (1, x1)]) h K =
    K .normal (act 9 [(0, x0), (1, x1)]) h := kq_reg
theorem r172_1  : kCode env 172 false inv k (cp c172 6) (act 9 [(0, x0), (1, x1)]) h K =
    bnd (inv (.func 190) #[] #[x0, x1] h) fun x7 =>
    bnd (pBin Tryz.prog .geq 3 (.tmp 7) (.const (.int .i64 0)) x7.1 (.int .i64 0)) fun x8 =>
    K .normal (act 9 [(4, x8)]) x7.2 := kq_reg
theorem res172_0 : resOfFn env.P 172 .ret (act 9 [(4, x4)]) h = some (x4, h) := kq_res
/-- slices.Contains[[]bool,bool] -/
noncomputable def F172 (inv : Inv) (k : Nat) (x0 x1 : Value) (h : AH) : Option (Value × AH) :=
    bnd (inv (.func 190) #[] #[x0, x1] h) fun x7 =>
    bnd (pBin Tryz.prog .geq 3 (.tmp 7) (.const (.int .i64 0)) x7.1 (.int .i64 0)) fun x8 =>
    some (x8, x7.2)
theorem F172_eq : eFun env k inv 172 #[x0, x1] h = F172 inv k x0 x1 h := by
      refine (kq_fun (a := act 9 [(0, x0), (1, x1)]) (c := cp c172 1)).trans ?_
      unfold F172
      simp only [kq_seq c172 1, r172_0, kq_seq c172 3, r172_1, kq_ret c172 7, res172_0, reduceIte, reduceCtorEq, XE.exit.injEq, Nat.reduceEqDiff, Nat.reduceMul, Nat.reduceAdd] <;> kernel_rfl
theorem F172_call : eInv env (k + 1) (.func 172) #[] #[x0, x1] h = F172 (eInv env k) k x0 x1 h := kq_inv F172_eq
noncomputable def c173 : Code := codeOf Tryz.prog 173
theorem r173_0  : kCode env 173 false inv k (cp c173 2) (act 19 [(0, x0), (1, x1)]) h K =
    K .normal (act 19 [(0, x0), (1, x1)]) h := kq_reg
theorem r173_1  : kCode env 173 false inv k (cp c173 12) (act 19 [(0, x0), (1, x1)]) h K =
    bnd (pLen Tryz.prog #[24] x0 h) fun x7 =>
    K .normal (act 19 [(0, x0), (1, x1), (7, x7), (8, (.int .i64 0))]) h := kq_reg
theorem r173_2  : kCode env 173 false inv k (cp c173 104) (act 19 [(0, x0), (1, x1), (7, x7), (8, x8)]) h K =
    bnd (pBin Tryz.prog .lss 3 (.tmp 8) (.tmp 7) x8 x7) fun x9 =>
    K .normal (act 19 [(0, x0), (1, x1), (7, x7), (8, x8), (9, x9)]) h := kq_reg
theorem b173_lrllrlr  : kCode env 173 false inv k (cp c173 210) (act 19 [(0, x0), (1, x1), (7, x7), (8, x8), (9, x9)]) h K = brV x9 (kCode env 173 false inv k (cp c173 420) (act 19 [(0, x0), (1, x1), (7, x7), (8, x8), (9, x9)]) h K) (kCode env 173 false inv k (cp c173 421) (act 19 [(0, x0), (1, x1), (7, x7), (8, x8), (9, x9)]) h K) := kq_cond
theorem r173_3  : kCode env 173 false inv k (cp c173 1688) (act 19 [(0, x0), (1, x1), (7, x7), (8, x8), (9, x9)]) h K =
    K .normal (act 19 [(0, x0), (1, x1), (5, x8), (7, x7), (8, x8)]) h := kq_reg
theorem r173_4  : kCode env 173 false inv k (cp c173 3378) (act 19 [(0, x0), (1, x1), (5, x5), (7, x7), (8, x8)]) h K =
    bnd (pIndexAddr Tryz.prog 24 x0 x5) fun x14 =>
    bnd (pLoad Tryz.prog 3 x14 h) fun x15 =>
    bnd (pBin Tryz.prog .eql 3 (.tmp 11) (.tmp 15) x1 x15) fun x16 =>
    K .normal (act 19 [(0, x0), (1, x1), (5, x5), (7, x7), (8, x8), (16, x16)]) h := kq_reg
theorem b173_rrllrrllrlr  : kCode env 173 false inv k (cp c173 3379) (act 19 [(0, x0), (1, x1), (5, x5), (7, x7), (8, x8), (16, x16)]) h K = brV x16 (kCode env 173 false inv k (cp c173 6758) (act 19 [(0, x0), (1, x1), (5, x5), (7, x7), (8, x8), (16, x16)]) h K) (kCode env 173 false inv k (cp c173 6759) (act 19 [(0, x0), (1, x1), (5, x5), (7, x7), (8, x8), (16, x16)]) h K) := kq_cond
theorem r173_5  : kCode env 173 false inv k (cp c173 13516) (act 19 [(0, x0), (1, x1), (5, x5), (7, x7), (8, x8), (16, x16)]) h K =
    K .normal (act 19 [(4, x5)]) h := kq_reg
theorem r173_6  : kCode env 173 false inv k (cp c173 423) (act 19 [(0, x0), (1, x1), (5, x5), (7, x7), (8, x8), (16, x16)]) h K =
    bnd (pBin Tryz.prog .add 3 (.tmp 8) (.const (.int .i64 1)) x8 (.int .i64 1)) fun x18 =>
    K .normal (act 19 [(0, x0), (1, x1), (7, x7), (8, x18)]) h := kq_reg
noncomputable def F173_lrlr {β : Type} (inv : Inv) (k : Nat) : Nat → Value → Value → Value → Value → AH → (Value → Value → Value → Value → Value → AH → Option β) → (Value → AH → Option β) → Option β
  | 0, _, _, _, _, _, _, _ => none
  | j + 1, x0, x1, x7, x8, h, ke0, kr =>
    bnd (pBin Tryz.prog .lss 3 (.tmp 8) (.tmp 7) x8 x7) fun x9 =>
    brV x9
    (bnd (pIndexAddr Tryz.prog 24 x0 x8) fun x14 =>
    bnd (pLoad Tryz.prog 3 x14 h) fun x15 =>
    bnd (pBin Tryz.prog .eql 3 (.tmp 11) (.tmp 15) x1 x15) fun x16 =>
    brV x16
    (kr x8 h)
    (bnd (pBin Tryz.prog .add 3 (.tmp 8) (.const (.int .i64 1)) x8 (.int .i64 1)) fun x18 =>
    F173_lrlr inv k j x0 x1 x7 x18 h ke0 kr))
    (ke0 x0 x1 x7 x8 x9 h)
theorem F173_lrlr_j (j : Nat) : kLoop (kCode env 173 false inv k (cp c173 52)) j (act 19 [(0, x0), (1, x1), (7, x7), (8, x8)]) h K = F173_lrlr inv k j x0 x1 x7 x8 h (fun y0 y1 y7 y8 y9 h => K (.exit 0) (act 19 [(0, y0), (1, y1), (7, y7), (8, y8), (9, y9)]) h) (fun y4 h => K .ret (act 19 [(4, y4)]) h) := by
      induction j generalizing x0 x1 x7 x8 h with
      | zero => rfl
      | succ j ih =>
        unfold F173_lrlr
        simp only [kLoop, kq_seq c173 52, r173_2, kq_seq c173 105, b173_lrllrlr, kq_skip c173 420, kq_seq c173 211, kq_block c173 422 1, kq_seq c173 844, r173_3, kq_seq c173 1689, r173_4, b173_rrllrrllrlr, kq_seq c173 6758, r173_5, kq_ret c173 13517, kq_skip c173 6759, r173_6, kq_exit c173 421 0, ih, reduceIte, reduceCtorEq, XE.exit.injEq, Nat.reduceEqDiff, Nat.reduceMul, Nat.reduceAdd] <;> kernel_rfl
theorem F173_lrlr_eq  : kCode env 173 false inv k (cp c173 26) (act 19 [(0, x0), (1, x1), (7, x7), (8, x8)]) h K = F173_lrlr inv k k x0 x1 x7 x8 h (fun y0 y1 y7 y8 y9 h => K (.exit 0) (act 19 [(0, y0), (1, y1), (7, y7), (8, y8), (9, y9)]) h) (fun y4 h => K .ret (act 19 [(4, y4)]) h) := kq_loop (F173_lrlr_j k)
theorem r173_7  : kCode env 173 false inv k (cp c173 14) (act 19 [(0, x0), (1, x1), (7, x7), (8, x8), (9, x9)]) h K =
    K .normal (act 19 [(4, (.int .i64 (-1)))]) h := kq_reg
theorem res173_0 : resOfFn env.P 173 .ret (act 19 [(4, x4)]) h = some (x4, h) := kq_res
/-- slices.Index[[]int,int] -/
noncomputable def F173 (inv : Inv) (k : Nat) (x0 x1 : Value) (h : AH) : Option (Value × AH) :=
    bnd (pLen Tryz.prog #[24] x0 h) fun x7 =>
    F173_lrlr inv k k x0 x1 x7 (.int .i64 0) h
    (fun y0 y1 y7 y8 y9 h =>
    some ((.int .i64 (-1)), h))
    (fun y4 h_1 =>
    some (y4, h_1))
theorem F173_eq : eFun env k inv 173 #[x0, x1] h = F173 inv k x0 x1 h := by
      refine (kq_fun (a := act 19 [(0, x0), (1, x1)]) (c := cp c173 1)).trans ?_
      unfold F173
      simp only [kq_seq c173 1, r173_0, kq_seq c173 3, kq_seq c173 6, r173_1, kq_block c173 13 0, F173_lrlr_eq, kq_seq c173 7, r173_7, kq_ret c173 15, res173_0, reduceIte, reduceCtorEq, XE.exit.injEq, Nat.reduceEqDiff, Nat.reduceMul, Nat.reduceAdd] <;> kernel_rfl
theorem F173_call : eInv env (k + 1) (.func 173) #[] #[x0, x1] h = F173 (eInv env k) k x0 x1 h := kq_inv F173_eq
noncomputable def c174 : Code := codeOf Tryz.prog 174
theorem r174_0  : kCode env 174 false inv k (cp c174 2) (act 19 [(0, x0), (1, x1)]) h K =
    K .normal (act 19 [(0, x0), (1, x1)]) h := kq_reg
theorem r174_1  : kCode env 174 false inv k (cp c174 12) (act 19 [(0, x0), (1, x1)]) h K =
    bnd (pLen Tryz.prog #[38] x0 h) fun x7 =>
    K .normal (act 19 [(0, x0), (1, x1), (7, x7), (8, (.int .i64 0))]) h := kq_reg
theorem r174_2  : kCode env 174 false inv k (cp c174 104) (act 19 [(0, x0), (1, x1), (7, x7), (8, x8)]) h K =
    bnd (pBin Tryz.prog .lss 3 (.tmp 8) (.tmp 7) x8 x7) fun x9 =>
    K .normal (act 19 [(0, x0), (1, x1), (7, x7), (8, x8), (9, x9)]) h := kq_reg
theorem b174_lrllrlr  : kCode env 174 false inv k (cp c174 210) (act 19 [(0, x0), (1, x1), (7, x7), (8, x8), (9, x9)]) h K = brV x9 (kCode env 174 false inv k (cp c174 420) (act 19 [(0, x0), (1, x1), (7, x7), (8, x8), (9, x9)]) h K) (kCode env 174 false inv k (cp c174 421) (act 19 [(0, x0), (1, x1), (7, x7), (8, x8), (9, x9)]) h K) := kq_cond
theorem r174_3  : kCode env 174 false inv k (cp c174 1688) (act 19 [(0, x0), (1, x1), (7, x7), (8, x8), (9, x9)]) h K =
    K .normal (act 19 [(0, x0), (1, x1), (5, x8), (7, x7), (8, x8)]) h := kq_reg
theorem r174_4  : kCode env 174 false inv k (cp c174 3378) (act 19 [(0, x0), (1, x1), (5, x5), (7, x7), (8, x8)]) h K =
    bnd (pIndexAddr Tryz.prog 38 x0 x5) fun x14 =>
    bnd (pLoad Tryz.prog 43 x14 h) fun x15 =>
    bnd (callV inv x1 #[x15] h) fun x16 =>
    K .normal (act 19 [(0, x0), (1, x1), (5, x5), (7, x7), (8, x8), (16, x16.1)]) x16.2 := kq_reg
theorem b174_rrllrrllrlr  : kCode env 174 false inv k (cp c174 3379) (act 19 [(0, x0), (1, x1), (5, x5), (7, x7), (8, x8), (16, x16)]) h K = brV x16 (kCode env 174 false inv k (cp c174 6758) (act 19 [(0, x0), (1, x1), (5, x5), (7, x7), (8, x8), (16, x16)]) h K) (kCode env 174 false inv k (cp c174 6759) (act 19 [(0, x0), (1, x1), (5, x5), (7, x7), (8, x8), (16, x16)]) h K) := kq_cond
theorem r174_5  : kCode env 174 false inv k (cp c174 13516) (act 19 [(0, x0), (1, x1), (5, x5), (7, x7), (8, x8), (16, x16)]) h K =
    K .normal (act 19 [(4, x5)]) h := kq_reg
theorem r174_6  : kCode env 174 false inv k (cp c174 423) (act 19 [(0, x0), (1, x1), (5, x5), (7, x7), (8, x8), (16, x16)]) h K =
    bnd (pBin Tryz.prog .add 3 (.tmp 8) (.const (.int .i64 1)) x8 (.int .i64 1)) fun x18 =>
    K .normal (act 19 [(0, x0), (1, x1), (7, x7), (8, x18)]) h := kq_reg
noncomputable def F174_lrlr {β : Type} (inv : Inv) (k : Nat) : Nat → Value → Value → Value → Value → AH → (Value → Value → Value → Value → Value → AH → Option β) → (Value → AH → Option β) → Option β
  | 0, _, _, _, _, _, _, _ => none
  | j + 1, x0, x1, x7, x8, h, ke0, kr =>
    bnd (pBin Tryz.prog .lss 3 (.tmp 8) (.tmp 7) x8 x7) fun x9 =>
    brV x9
    (bnd (pIndexAddr Tryz.prog 38 x0 x8) fun x14 =>
    bnd (pLoad Tryz.prog 43 x14 h) fun x15 =>
    bnd (callV inv x1 #[x15] h) fun x16 =>
    brV x16.1
    (kr x8 x16.2)
    (bnd (pBin Tryz.prog .add 3 (.tmp 8) (.const (.int .i64 1)) x8 (.int .i64 1)) fun x18 =>
    F174_lrlr inv k j x0 x1 x7 x18 x16.2 ke0 kr))
    (ke0 x0 x1 x7 x8 x9 h)
theorem F174_lrlr_j (j : Nat) : kLoop (kCode env 174 false inv k (cp c174 52)) j (act 19 [(0, x0), (1, x1), (7, x7), (8, x8)]) h K = F174_lrlr inv k j x0 x1 x7 x8 h (fun y0 y1 y7 y8 y9 h => K (.exit 0) (act 19 [(0, y0), (1, y1), (7, y7), (8, y8), (9, y9)]) h) (fun y4 h => K .ret (act 19 [(4, y4)]) h) := by
      induction j generalizing x0 x1 x7 x8 h with
      | zero => rfl
      | succ j ih =>
        unfold F174_lrlr
        simp only [kLoop, kq_seq c174 52, r174_2, kq_seq c174 105, b174_lrllrlr, kq_skip c174 420, kq_seq c174 211, kq_block c174 422 1, kq_seq c174 844, r174_3, kq_seq c174 1689, r174_4, b174_rrllrrllrlr, kq_seq c174 6758, r174_5, kq_ret c174 13517, kq_skip c174 6759, r174_6, kq_exit c174 421 0, ih, reduceIte, reduceCtorEq, XE.exit.injEq, Nat.reduceEqDiff, Nat.reduceMul, Nat.reduceAdd] <;> kernel_rfl
theorem F174_lrlr_eq  : kCode env 174 false inv k (cp c174 26) (act 19 [(0, x0), (1, x1), (7, x7), (8, x8)]) h K = F174_lrlr inv k k x0 x1 x7 x8 h (fun y0 y1 y7 y8 y9 h => K (.exit 0) (act 19 [(0, y0), (1, y1), (7, y7), (8, y8), (9, y9)]) h) (fun y4 h => K .ret (act 19 [(4, y4)]) h) := kq_loop (F174_lrlr_j k)
theorem r174_7  : kCode env 174 false inv k (cp c174 14) (act 19 [(0, x0), (1, x1), (7, x7), (8, x8), (9, x9)]) h K =
    K .normal (act 19 [(4, (.int .i64 (-1)))]) h := kq_reg
theorem res174_0 : resOfFn env.P 174 .ret (act 19 [(4, x4)]) h = some (x4, h) := kq_res
/-- slices.IndexFunc[[]shadowbook/api.Agg,shadowbook/api.Agg] -/
noncomputable def F174 (inv : Inv) (k : Nat) (x0 x1 : Value) (h : AH) : Option (Value × AH) :=
    bnd (pLen Tryz.prog #[38] x0 h) fun x7 =>
    F174_lrlr inv k k x0 x1 x7 (.int .i64 0) h
    (fun y0 y1 y7 y8 y9 h =>
    some ((.int .i64 (-1)), h))
    (fun y4 h_1 =>
    some (y4, h_1))
theorem F174_eq : eFun env k inv 174 #[x0, x1] h = F174 inv k x0 x1 h := by
      refine (kq_fun (a := act 19 [(0, x0), (1, x1)]) (c := cp c174 1)).trans ?_
      unfold F174
      simp only [kq_seq c174 1, r174_0, kq_seq c174 3, kq_seq c174 6, r174_1, kq_block c174 13 0, F174_lrlr_eq, kq_seq c174 7, r174_7, kq_ret c174 15, res174_0, reduceIte, reduceCtorEq, XE.exit.injEq, Nat.reduceEqDiff, Nat.reduceMul, Nat.reduceAdd] <;> kernel_rfl
theorem F174_call : eInv env (k + 1) (.func 174) #[] #[x0, x1] h = F174 (eInv env k) k x0 x1 h := kq_inv F174_eq
noncomputable def c175 : Code := codeOf Tryz.prog 175
theorem r175_0  : kCode env 175 false inv k (cp c175 2) (act 8 [(0, x0)]) h K =
    K .normal (act 8 [(0, x0)]) h := kq_reg
theorem r175_1  : kCode env 175 false inv k (cp c175 12) (act 8 [(0, x0)]) h K =
    bnd (pBin Tryz.prog .eql 24 (.tmp 3) (.const (.slice none 0 0)) x0 (.slice none 0 0)) fun x4 =>
    K .normal (act 8 [(0, x0), (4, x4)]) h := kq_reg
theorem b175_rlr  : kCode env 175 false inv k (cp c175 13) (act 8 [(0, x0), (4, x4)]) h K = brV x4 (kCode env 175 false inv k (cp c175 26) (act 8 [(0, x0), (4, x4)]) h K) (kCode env 175 false inv k (cp c175 27) (act 8 [(0, x0), (4, x4)]) h K) := kq_cond
theorem r175_2  : kCode env 175 false inv k (cp c175 52) (act 8 [(0, x0), (4, x4)]) h K =
    K .normal (act 8 [(2, (.slice none 0 0))]) h := kq_reg
theorem res175_0 : resOfFn env.P 175 .ret (act 8 [(2, x2)]) h = some (x2, h) := kq_res
theorem r175_3  : kCode env 175 false inv k (cp c175 14) (act 8 [(0, x0), (4, x4)]) h K =
    bnd (pBuildSlice Tryz.prog 24 0 #[] h) fun x5 =>
    bnd (pAppend Tryz.prog #[24, 24] x5.1 x0 x5.2) fun x7 =>
    K .normal (act 8 [(2, x7.1)]) x7.2 := kq_reg
/-- slices.Clone[[]int,int] -/
noncomputable def F175 (inv : Inv) (k : Nat) (x0 : Value) (h : AH) : Option (Value × AH) :=
    bnd (pBin Tryz.prog .eql 24 (.tmp 3) (.const (.slice none 0 0)) x0 (.slice none 0 0)) fun x4 =>
    brV x4
    (some ((.slice none 0 0), h))
    (bnd (pBuildSlice Tryz.prog 24 0 #[] h) fun x5 =>
    bnd (pAppend Tryz.prog #[24, 24] x5.1 x0 x5.2) fun x7 =>
    some (x7.1, x7.2))
theorem F175_eq : eFun env k inv 175 #[x0] h = F175 inv k x0 h := by
      refine (kq_fun (a := act 8 [(0, x0)]) (c := cp c175 1)).trans ?_
      unfold F175
      simp only [kq_seq c175 1, r175_0, kq_seq c175 3, kq_seq c175 6, r175_1, b175_rlr, kq_seq c175 26, r175_2, kq_ret c175 53, res175_0, kq_skip c175 27, kq_seq c175 7, r175_3, kq_ret c175 15, reduceIte, reduceCtorEq, XE.exit.injEq, Nat.reduceEqDiff, Nat.reduceMul, Nat.reduceAdd] <;> kernel_rfl
theorem F175_call : eInv env (k + 1) (.func 175) #[] #[x0] h = F175 (eInv env k) k x0 h := kq_inv F175_eq
noncomputable def c176 : Code := codeOf Tryz.prog 176
theorem r176_0  : kCode env 176 false inv k (cp c176 2) (act 8 [(0, x0)]) h K =
    K .normal (act 8 [(0, x0)]) h := kq_reg
theorem r176_1  : kCode env 176 false inv k (cp c176 12) (act 8 [(0, x0)]) h K =
    bnd (pBin Tryz.prog .eql 38 (.tmp 3) (.const (.slice none 0 0)) x0 (.slice none 0 0)) fun x4 =>
    K .normal (act 8 [(0, x0), (4, x4)]) h := kq_reg
theorem b176_rlr  : kCode env 176 false inv k (cp c176 13) (act 8 [(0, x0), (4, x4)]) h K = brV x4 (kCode env 176 false inv k (cp c176 26) (act 8 [(0, x0), (4, x4)]) h K) (kCode env 176 false inv k (cp c176 27) (act 8 [(0, x0), (4, x4)]) h K) := kq_cond
theorem r176_2  : kCode env 176 false inv k (cp c176 52) (act 8 [(0, x0), (4, x4)]) h K =
    K .normal (act 8 [(2, (.slice none 0 0))]) h := kq_reg
theorem res176_0 : resOfFn env.P 176 .ret (act 8 [(2, x2)]) h = some (x2, h) := kq_res
theorem r176_3  : kCode env 176 false inv k (cp c176 14) (act 8 [(0, x0), (4, x4)]) h K =
    bnd (pBuildSlice Tryz.prog 38 0 #[] h) fun x5 =>
    bnd (pAppend Tryz.prog #[38, 38] x5.1 x0 x5.2) fun x7 =>
    K .normal (act 8 [(2, x7.1)]) x7.2 := kq_reg
/-- slices.Clone[[]shadowbook/api.Agg,shadowbook/api.Agg] -/
noncomputable def F176 (inv : Inv) (k : Nat) (x0 : Value) (h : AH) : Option (Value × AH) :=
    bnd (pBin Tryz.prog .eql 38 (.tmp 3) (.const (.slice none 0 0)) x0 (.slice none 0 0)) fun x4 =>
    brV x4
    (some ((.slice none 0 0), h))
    (bnd (pBuildSlice Tryz.prog 38 0 #[] h) fun x5 =>
    bnd (pAppend Tryz.prog #[38, 38] x5.1 x0 x5.2) fun x7 =>
    some (x7.1, x7.2))
theorem F176_eq : eFun env k inv 176 #[x0] h = F176 inv k x0 h := by
      refine (kq_fun (a := act 8 [(0, x0)]) (c := cp c176 1)).trans ?_
      unfold F176
      simp only [kq_seq c176 1, r176_0, kq_seq c176 3, kq_seq c176 6, r176_1, b176_rlr, kq_seq c176 26, r176_2, kq_ret c176 53, res176_0, kq_skip c176 27, kq_seq c176 7, r176_3, kq_ret c176 15, reduceIte, reduceCtorEq, XE.exit.injEq, Nat.reduceEqDiff, Nat.reduceMul, Nat.reduceAdd] <;> kernel_rfl
theorem F176_call : eInv env (k + 1) (.func 176) #[] #[x0] h = F176 (eInv env k) k x0 h := kq_inv F176_eq
noncomputable def c177 : Code := codeOf Tryz.prog 177
theorem r177_0  : kCode env 177 false inv k (cp c177 2) (act 54 [(0, x0), (1, x1)]) h K =
    K .normal (act 54 [(0, x0), (1, x1)]) h := kq_reg
theorem r177_1  : kCode env 177 false inv k (cp c177 6) (act 54 [(0, x0), (1, x1)]) h K =
    bnd (inv (.func 191) #[] #[x1] h) fun x11 =>
    K .normal (act 54 [(0, x0), (1, x1), (5, x11.1)]) x11.2 := kq_reg
theorem r177_2  : kCode env 177 false inv k (cp c177 14) (act 54 [(0, x0), (1, x1), (5, x5)]) h K =
    bnd (pNilCheck Tryz.prog x0) fun x14 =>
    bnd (pFieldAddr Tryz.prog 199 x14 3) fun x15 =>
    bnd (pLoad Tryz.prog 197 x15 h) fun x16 =>
    bnd (pLookup Tryz.prog 197 x16 x5 true h) fun x18 =>
    bnd (pExtract x18 0) fun x19 =>
    bnd (pExtract x18 1) fun x20 =>
    K .normal (act 54 [(0, x0), (1, x1), (5, x5), (6, x19), (7, x20)]) h := kq_reg
theorem r177_3  : kCode env 177 false inv k (cp c177 60) (act 54 [(0, x0), (1, x1), (5, x5), (6, x6), (7, x7)]) h K =
    bnd (pUn Tryz.prog .not x7) fun x22 =>
    K .normal (act 54 [(0, x0), (1, x1), (5, x5), (6, x6), (22, x22)]) h := kq_reg
theorem b177_rlrrr  : kCode env 177 false inv k (cp c177 61) (act 54 [(0, x0), (1, x1), (5, x5), (6, x6), (22, x22)]) h K = brV x22 (kCode env 177 false inv k (cp c177 122) (act 54 [(0, x0), (1, x1), (5, x5), (6, x6), (22, x22)]) h K) (kCode env 177 false inv k (cp c177 123) (act 54 [(0, x0), (1, x1), (5, x5), (6, x6), (22, x22)]) h K) := kq_cond
theorem r177_4  : kCode env 177 false inv k (cp c177 244) (act 54 [(0, x0), (1, x1), (5, x5), (6, x6), (22, x22)]) h K =
    bnd (pBuild Tryz.prog 204 #[(0, x1)]) fun x24 =>
    bnd (pBox Tryz.prog 204 x24 h) fun x25 =>
    K .normal (act 54 [(0, x0), (5, x5), (6, x25.1)]) x25.2 := kq_reg
theorem r177_5  : kCode env 177 false inv k (cp c177 980) (act 54 [(0, x0), (5, x5), (6, x6)]) h K =
    bnd (pNilCheck Tryz.prog x0) fun x27 =>
    bnd (pFieldAddr Tryz.prog 199 x27 2) fun x28 =>
    bnd (pLoad Tryz.prog 38 x28 h) fun x29 =>
    bnd (pLen Tryz.prog #[38] x29 h) fun x30 =>
    K .normal (act 54 [(0, x0), (5, x5), (6, x6), (29, x29), (30, x30), (31, (.int .i64 0))]) h := kq_reg
theorem r177_6  : kCode env 177 false inv k (cp c177 7848) (act 54 [(0, x0), (5, x5), (6, x6), (29, x29), (30, x30), (31, x31)]) h K =
    bnd (pBin Tryz.prog .lss 3 (.tmp 31) (.tmp 30) x31 x30) fun x32 =>
    K .normal (act 54 [(0, x0), (5, x5), (6, x6), (29, x29), (30, x30), (31, x31), (32, x32)]) h := kq_reg
theorem b177_lrllrlrlrlrrr  : kCode env 177 false inv k (cp c177 15698) (act 54 [(0, x0), (5, x5), (6, x6), (29, x29), (30, x30), (31, x31), (32, x32)]) h K = brV x32 (kCode env 177 false inv k (cp c177 31396) (act 54 [(0, x0), (5, x5), (6, x6), (29, x29), (30, x30), (31, x31), (32, x32)]) h K) (kCode env 177 false inv k (cp c177 31397) (act 54 [(0, x0), (5, x5), (6, x6), (29, x29), (30, x30), (31, x31), (32, x32)]) h K) := kq_cond
theorem r177_7  : kCode env 177 false inv k (cp c177 125592) (act 54 [(0, x0), (5, x5), (6, x6), (29, x29), (30, x30), (31, x31), (32, x32)]) h K =
    bnd (pIndexAddr Tryz.prog 38 x29 x31) fun x33 =>
    bnd (pLoad Tryz.prog 43 x33 h) fun x34 =>
    bnd (pAlloc Tryz.prog 43 h) fun x9 =>
    bnd (kSt (pStore Tryz.prog 43 x9.1 x34 x9.2)) fun u =>
    K .normal (act 54 [(0, x0), (5, x5), (6, x6), (9, x9.1), (29, x29), (30, x30), (31, x31)]) u.2 := kq_reg
noncomputable abbrev G177_8 {β : Type} (inv : Inv) (x0 x5 x6 x9 x29 x30 x31 : Value) (h : AH) (K : AH → Option β) : Option β :=
    bnd (pNilCheck Tryz.prog x6) fun x37 =>
    bnd (pFieldAddr Tryz.prog 204 x37 1) fun x38 =>
    bnd (pLoad Tryz.prog 202 x38 h) fun x39 =>
    bnd (pLoad Tryz.prog 43 x9 h) fun x40 =>
    bnd (inv (.func 192) #[] #[x40] h) fun x41 =>
    bnd (pBuildSlice Tryz.prog 202 1 #[(0, x41.1)] x41.2) fun x42 =>
    bnd (pAppend Tryz.prog #[202, 202] x39 x42.1 x42.2) fun x43 =>
    bnd (pNilCheck Tryz.prog x6) fun x44 =>
    bnd (pFieldAddr Tryz.prog 204 x44 1) fun x45 =>
    bnd (kSt (pStore Tryz.prog 202 x45 x43.1 x43.2)) fun u =>
    chkK ((!true || !true || (sameO (pLoad Tryz.prog 202 x38 h) x39 && sameO (pLoad Tryz.prog 202 x38 x41.2) x39)) && ((!true || !true || (sameO (pLoad Tryz.prog 202 x38 x41.2) x39 && sameO (pLoad Tryz.prog 202 x38 x42.2) x39)) && true)) <|
    K u.2
theorem r177_8  : kCode env 177 false inv k (cp c177 125593) (act 54 [(0, x0), (5, x5), (6, x6), (9, x9), (29, x29), (30, x30), (31, x31)]) h K =
    G177_8 inv x0 x5 x6 x9 x29 x30 x31 h fun  h => K .normal (act 54 [(0, x0), (5, x5), (6, x6), (29, x29), (30, x30), (31, x31)]) h := kq_draw
theorem r177_9  : kCode env 177 false inv k (cp c177 31399) (act 54 [(0, x0), (5, x5), (6, x6), (29, x29), (30, x30), (31, x31)]) h K =
    bnd (pBin Tryz.prog .add 3 (.tmp 31) (.const (.int .i64 1)) x31 (.int .i64 1)) fun x46 =>
    K .normal (act 54 [(0, x0), (5, x5), (6, x6), (29, x29), (30, x30), (31, x46)]) h := kq_reg
noncomputable def F177_lrlrlrlrrr {β : Type} (inv : Inv) (k : Nat) : Nat → Value → Value → Value → Value → Value → Value → AH → (Value → Value → Value → Value → Value → Value → Value → AH → Option β) → Option β
  | 0, _, _, _, _, _, _, _, _ => none
  | j + 1, x0, x5, x6, x29, x30, x31, h, ke0 =>
    bnd (pBin Tryz.prog .lss 3 (.tmp 31) (.tmp 30) x31 x30) fun x32 =>
    brV x32
    (bnd (pIndexAddr Tryz.prog 38 x29 x31) fun x33 =>
    bnd (pLoad Tryz.prog 43 x33 h) fun x34 =>
    bnd (pAlloc Tryz.prog 43 h) fun x9 =>
    bnd (kSt (pStore Tryz.prog 43 x9.1 x34 x9.2)) fun u =>
    G177_8 inv x0 x5 x6 x9.1 x29 x30 x31 u.2 fun  h =>
    bnd (pBin Tryz.prog .add 3 (.tmp 31) (.const (.int .i64 1)) x31 (.int .i64 1)) fun x46 =>
    F177_lrlrlrlrrr inv k j x0 x5 x6 x29 x30 x46 h ke0)
    (ke0 x0 x5 x6 x29 x30 x31 x32 h)
theorem F177_lrlrlrlrrr_j (j : Nat) : kLoop (kCode env 177 false inv k (cp c177 3924)) j (act 54 [(0, x0), (5, x5), (6, x6), (29, x29), (30, x30), (31, x31)]) h K = F177_lrlrlrlrrr inv k j x0 x5 x6 x29 x30 x31 h (fun y0 y5 y6 y29 y30 y31 y32 h => K (.exit 0) (act 54 [(0, y0), (5, y5), (6, y6), (29, y29), (30, y30), (31, y31), (32, y32)]) h) := by
      induction j generalizing x0 x5 x6 x29 x30 x31 h with
      | zero => rfl
      | succ j ih =>
        unfold F177_lrlrlrlrrr
        simp only [kLoop, kq_seq c177 3924, r177_6, kq_seq c177 7849, b177_lrllrlrlrlrrr, kq_skip c177 31396, kq_seq c177 15699, kq_block c177 31398 1, kq_seq c177 62796, r177_7, r177_8, r177_9, kq_exit c177 31397 0, ih, reduceIte, reduceCtorEq, XE.exit.injEq, Nat.reduceEqDiff, Nat.reduceMul, Nat.reduceAdd] <;> kernel_rfl
theorem F177_lrlrlrlrrr_eq  : kCode env 177 false inv k (cp c177 1962) (act 54 [(0, x0), (5, x5), (6, x6), (29, x29), (30, x30), (31, x31)]) h K = F177_lrlrlrlrrr inv k k x0 x5 x6 x29 x30 x31 h (fun y0 y5 y6 y29 y30 y31 y32 h => K (.exit 0) (act 54 [(0, y0), (5, y5), (6, y6), (29, y29), (30, y30), (31, y31), (32, y32)]) h) := kq_loop (F177_lrlrlrlrrr_j k)
theorem r177_10  : kCode env 177 false inv k (cp c177 491) (act 54 [(0, x0), (5, x5), (6, x6), (29, x29), (30, x30), (31, x31), (32, x32)]) h K =
    bnd (pNilCheck Tryz.prog x0) fun x48 =>
    bnd (pFieldAddr Tryz.prog 199 x48 3) fun x49 =>
    bnd (pLoad Tryz.prog 197 x49 h) fun x50 =>
    bnd (kSt (pUpdate Tryz.prog 197 x50 x5 x6 h)) fun u =>
    K .normal (act 54 [(6, x6)]) u.2 := kq_reg
noncomputable def F177_rlrrr {β : Type} (inv : Inv) (k : Nat) (x0 x1 x5 x6 x22 : Value) (h : AH) (kn : (Value → Value → Value → Value → Value → AH → Option β)) : Option β :=
    brV x22
    (bnd (pBuild Tryz.prog 204 #[(0, x1)]) fun x24 =>
    bnd (pBox Tryz.prog 204 x24 h) fun x25 =>
    bnd (pNilCheck Tryz.prog x0) fun x27 =>
    bnd (pFieldAddr Tryz.prog 199 x27 2) fun x28 =>
    bnd (pLoad Tryz.prog 38 x28 x25.2) fun x29 =>
    bnd (pLen Tryz.prog #[38] x29 x25.2) fun x30 =>
    F177_lrlrlrlrrr inv k k x0 x5 x25.1 x29 x30 (.int .i64 0) x25.2
    (fun y0 y5 y6 y29 y30 y31 y32 h =>
    bnd (pNilCheck Tryz.prog y0) fun x48 =>
    bnd (pFieldAddr Tryz.prog 199 x48 3) fun x49 =>
    bnd (pLoad Tryz.prog 197 x49 h) fun x50 =>
    bnd (kSt (pUpdate Tryz.prog 197 x50 y5 y6 h)) fun u =>
    kn unk unk unk y6 unk u.2))
    (kn x0 x1 x5 x6 x22 h)
theorem F177_rlrrr_eq  : kCode env 177 false inv k (cp c177 61) (act 54 [(0, x0), (1, x1), (5, x5), (6, x6), (22, x22)]) h K = F177_rlrrr inv k x0 x1 x5 x6 x22 h (fun y0 y1 y5 y6 y22 h => K .normal (act 54 [(0, y0), (1, y1), (5, y5), (6, y6), (22, y22)]) h) := by
      unfold F177_rlrrr
      simp only [b177_rlrrr, kq_seq c177 122, r177_4, kq_seq c177 245, kq_seq c177 490, r177_5, kq_block c177 981 0, F177_lrlrlrlrrr_eq, r177_10, kq_skip c177 123, reduceIte, reduceCtorEq, XE.exit.injEq, Nat.reduceEqDiff, Nat.reduceMul, Nat.reduceAdd] <;> kernel_rfl
theorem r177_11  : kCode env 177 false inv k (cp c177 62) (act 54 [(0, x0), (1, x1), (5, x5), (6, x6), (22, x22)]) h K =
    K .normal (act 54 [(4, x6)]) h := kq_reg
theorem res177_0 : resOfFn env.P 177 .ret (act 54 [(4, x4)]) h = some (x4, h) := kq_res
/-- (*shadowbook/agg.Acc).of -/
noncomputable def F177 (inv : Inv) (k : Nat) (x0 x1 : Value) (h : AH) : Option (Value × AH) :=
    bnd (inv (.func 191) #[] #[x1] h) fun x11 =>
    bnd (pNilCheck Tryz.prog x0) fun x14 =>
    bnd (pFieldAddr Tryz.prog 199 x14 3) fun x15 =>
    bnd (pLoad Tryz.prog 197 x15 x11.2) fun x16 =>
    bnd (pLookup Tryz.prog 197 x16 x11.1 true x11.2) fun x18 =>
    bnd (pExtract x18 0) fun x19 =>
    bnd (pExtract x18 1) fun x20 =>
    bnd (pUn Tryz.prog .not x20) fun x22 =>
    F177_rlrrr inv k x0 x1 x11.1 x19 x22 x11.2
    (fun y0 y1 y5 y6 y22 h =>
    some (y6, h))
theorem F177_eq : eFun env k inv 177 #[x0, x1] h = F177 inv k x0 x1 h := by
      refine (kq_fun (a := act 54 [(0, x0), (1, x1)]) (c := cp c177 1)).trans ?_
      unfold F177
      simp only [kq_seq c177 1, r177_0, kq_seq c177 3, r177_1, kq_seq c177 7, r177_2, kq_seq c177 15, kq_seq c177 30, r177_3, F177_rlrrr_eq, kq_seq c177 31, r177_11, kq_ret c177 63, res177_0, reduceIte, reduceCtorEq, XE.exit.injEq, Nat.reduceEqDiff, Nat.reduceMul, Nat.reduceAdd] <;> kernel_rfl
theorem F177_call : eInv env (k + 1) (.func 177) #[] #[x0, x1] h = F177 (eInv env k) k x0 x1 h := kq_inv F177_eq
noncomputable def c178 : Code := codeOf Tryz.prog 178
theorem r178_0  : kCode env 178 false inv k (cp c178 2) (act 36 [(0, x0), (1, x1)]) h K =
    K .normal (act 36 [(0, x0), (1, x1)]) h := kq_reg
theorem r178_1  : kCode env 178 false inv k (cp c178 12) (act 36 [(0, x0), (1, x1)]) h K =
    bnd (inv (.func 103) #[] #[x0] h) fun x10 =>
    K .normal (act 36 [(0, x0), (1, x1), (5, x10.1)]) x10.2 := kq_reg
theorem r178_2  : kCode env 178 false inv k (cp c178 26) (act 36 [(0, x0), (1, x1), (5, x5)]) h K =
    bnd (pBin Tryz.prog .neq 30 (.tmp 11) (.const (.int .i64 0)) x5 (.int .i64 0)) fun x12 =>
    K .normal (act 36 [(0, x0), (1, x1), (5, x5), (12, x12)]) h := kq_reg
theorem b178_rrlr  : kCode env 178 false inv k (cp c178 27) (act 36 [(0, x0), (1, x1), (5, x5), (12, x12)]) h K = brV x12 (kCode env 178 false inv k (cp c178 54) (act 36 [(0, x0), (1, x1), (5, x5), (12, x12)]) h K) (kCode env 178 false inv k (cp c178 55) (act 36 [(0, x0), (1, x1), (5, x5), (12, x12)]) h K) := kq_cond
theorem r178_3  : kCode env 178 false inv k (cp c178 108) (act 36 [(0, x0), (1, x1), (5, x5), (12, x12)]) h K =
    K .normal (act 36 [(4, x5)]) h := kq_reg
theorem res178_0 : resOfFn env.P 178 .ret (act 36 [(4, x4)]) h = some (x4, h) := kq_res
theorem r178_4  : kCode env 178 false inv k (cp c178 28) (act 36 [(0, x0), (1, x1), (5, x5), (12, x12)]) h K =
    bnd (pLen Tryz.prog #[45] x1 h) fun x15 =>
    bnd (pLen Tryz.prog #[36] x0 h) fun x17 =>
    bnd (pBin Tryz.prog .neq 3 (.tmp 15) (.tmp 17) x15 x17) fun x18 =>
    K .normal (act 36 [(0, x0), (1, x1), (18, x18)]) h := kq_reg
theorem b178_rlrr  : kCode env 178 false inv k (cp c178 29) (act 36 [(0, x0), (1, x1), (18, x18)]) h K = brV x18 (kCode env 178 false inv k (cp c178 58) (act 36 [(0, x0), (1, x1), (18, x18)]) h K) (kCode env 178 false inv k (cp c178 59) (act 36 [(0, x0), (1, x1), (18, x18)]) h K) := kq_cond
theorem r178_5  : kCode env 178 false inv k (cp c178 116) (act 36 [(0, x0), (1, x1), (18, x18)]) h K =
    K .normal (act 36 [(4, (.int .i64 173))]) h := kq_reg
theorem r178_6  : kCode env 178 false inv k (cp c178 60) (act 36 [(0, x0), (1, x1), (18, x18)]) h K =
    bnd (pLen Tryz.prog #[36] x0 h) fun x20 =>
    K .normal (act 36 [(1, x1), (19, x0), (20, x20), (21, (.int .i64 0))]) h := kq_reg
theorem r178_7  : kCode env 178 false inv k (cp c178 488) (act 36 [(1, x1), (19, x19), (20, x20), (21, x21)]) h K =
    bnd (pBin Tryz.prog .lss 3 (.tmp 21) (.tmp 20) x21 x20) fun x22 =>
    K .normal (act 36 [(1, x1), (19, x19), (20, x20), (21, x21), (22, x22)]) h := kq_reg
theorem b178_lrllrlrrr  : kCode env 178 false inv k (cp c178 978) (act 36 [(1, x1), (19, x19), (20, x20), (21, x21), (22, x22)]) h K = brV x22 (kCode env 178 false inv k (cp c178 1956) (act 36 [(1, x1), (19, x19), (20, x20), (21, x21), (22, x22)]) h K) (kCode env 178 false inv k (cp c178 1957) (act 36 [(1, x1), (19, x19), (20, x20), (21, x21), (22, x22)]) h K) := kq_cond
theorem r178_8  : kCode env 178 false inv k (cp c178 7832) (act 36 [(1, x1), (19, x19), (20, x20), (21, x21), (22, x22)]) h K =
    bnd (pIndexAddr Tryz.prog 36 x19 x21) fun x24 =>
    bnd (pLoad Tryz.prog 118 x24 h) fun x25 =>
    bnd (pAlloc Tryz.prog 118 h) fun x7 =>
    bnd (kSt (pStore Tryz.prog 118 x7.1 x25 x7.2)) fun u =>
    K .normal (act 36 [(1, x1), (6, x21), (7, x7.1), (19, x19), (20, x20), (21, x21)]) u.2 := kq_reg
theorem r178_9  : kCode env 178 false inv k (cp c178 15666) (act 36 [(1, x1), (6, x6), (7, x7), (19, x19), (20, x20), (21, x21)]) h K =
    bnd (pLoad Tryz.prog 118 x7 h) fun x26 =>
    bnd (pIndexAddr Tryz.prog 45 x1 x6) fun x29 =>
    bnd (pLoad Tryz.prog 49 x29 h) fun x30 =>
    bnd (inv (.func 193) #[] #[x26, x30] h) fun x31 =>
    K .normal (act 36 [(1, x1), (8, x31.1), (19, x19), (20, x20), (21, x21)]) x31.2 := kq_draw
theorem r178_10  : kCode env 178 false inv k (cp c178 31334) (act 36 [(1, x1), (8, x8), (19, x19), (20, x20), (21, x21)]) h K =
    bnd (pBin Tryz.prog .neq 30 (.tmp 32) (.const (.int .i64 0)) x8 (.int .i64 0)) fun x33 =>
    K .normal (act 36 [(1, x1), (8, x8), (19, x19), (20, x20), (21, x21), (33, x33)]) h := kq_reg
theorem b178_rrrllrrllrlrrr  : kCode env 178 false inv k (cp c178 31335) (act 36 [(1, x1), (8, x8), (19, x19), (20, x20), (21, x21), (33, x33)]) h K = brV x33 (kCode env 178 false inv k (cp c178 62670) (act 36 [(1, x1), (8, x8), (19, x19), (20, x20), (21, x21), (33, x33)]) h K) (kCode env 178 false inv k (cp c178 62671) (act 36 [(1, x1), (8, x8), (19, x19), (20, x20), (21, x21), (33, x33)]) h K) := kq_cond
theorem r178_11  : kCode env 178 false inv k (cp c178 125340) (act 36 [(1, x1), (8, x8), (19, x19), (20, x20), (21, x21), (33, x33)]) h K =
    K .normal (act 36 [(4, x8)]) h := kq_reg
theorem r178_12  : kCode env 178 false inv k (cp c178 1959) (act 36 [(1, x1), (8, x8), (19, x19), (20, x20), (21, x21), (33, x33)]) h K =
    bnd (pBin Tryz.prog .add 3 (.tmp 21) (.const (.int .i64 1)) x21 (.int .i64 1)) fun x35 =>
    K .normal (act 36 [(1, x1), (19, x19), (20, x20), (21, x35)]) h := kq_reg
noncomputable def F178_lrlrrr {β : Type} (inv : Inv) (k : Nat) : Nat → Value → Value → Value → Value → AH → (Value → Value → Value → Value → Value → AH → Option β) → (Value → AH → Option β) → Option β
  | 0, _, _, _, _, _, _, _ => none
  | j + 1, x1, x19, x20, x21, h, ke0, kr =>
    bnd (pBin Tryz.prog .lss 3 (.tmp 21) (.tmp 20) x21 x20) fun x22 =>
    brV x22
    (bnd (pIndexAddr Tryz.prog 36 x19 x21) fun x24 =>
    bnd (pLoad Tryz.prog 118 x24 h) fun x25 =>
    bnd (pAlloc Tryz.prog 118 h) fun x7 =>
    bnd (kSt (pStore Tryz.prog 118 x7.1 x25 x7.2)) fun u =>
    bnd (pLoad Tryz.prog 118 x7.1 u.2) fun x26 =>
    bnd (pIndexAddr Tryz.prog 45 x1 x21) fun x29 =>
    bnd (pLoad Tryz.prog 49 x29 u.2) fun x30 =>
    bnd (inv (.func 193) #[] #[x26, x30] u.2) fun x31 =>
    bnd (pBin Tryz.prog .neq 30 (.tmp 32) (.const (.int .i64 0)) x31.1 (.int .i64 0)) fun x33 =>
    brV x33
    (kr x31.1 x31.2)
    (bnd (pBin Tryz.prog .add 3 (.tmp 21) (.const (.int .i64 1)) x21 (.int .i64 1)) fun x35 =>
    F178_lrlrrr inv k j x1 x19 x20 x35 x31.2 ke0 kr))
    (ke0 x1 x19 x20 x21 x22 h)
theorem F178_lrlrrr_j (j : Nat) : kLoop (kCode env 178 false inv k (cp c178 244)) j (act 36 [(1, x1), (19, x19), (20, x20), (21, x21)]) h K = F178_lrlrrr inv k j x1 x19 x20 x21 h (fun y1 y19 y20 y21 y22 h => K (.exit 0) (act 36 [(1, y1), (19, y19), (20, y20), (21, y21), (22, y22)]) h) (fun y4 h => K .ret (act 36 [(4, y4)]) h) := by
      induction j generalizing x1 x19 x20 x21 h with
      | zero => rfl
      | succ j ih =>
        unfold F178_lrlrrr
        simp only [kLoop, kq_seq c178 244, r178_7, kq_seq c178 489, b178_lrllrlrrr, kq_skip c178 1956, kq_seq c178 979, kq_block c178 1958 1, kq_seq c178 3916, r178_8, kq_seq c178 7833, r178_9, kq_seq c178 15667, r178_10, b178_rrrllrrllrlrrr, kq_seq c178 62670, r178_11, kq_ret c178 125341, kq_skip c178 62671, r178_12, kq_exit c178 1957 0, ih, reduceIte, reduceCtorEq, XE.exit.injEq, Nat.reduceEqDiff, Nat.reduceMul, Nat.reduceAdd] <;> kernel_rfl
theorem F178_lrlrrr_eq  : kCode env 178 false inv k (cp c178 122) (act 36 [(1, x1), (19, x19), (20, x20), (21, x21)]) h K = F178_lrlrrr inv k k x1 x19 x20 x21 h (fun y1 y19 y20 y21 y22 h => K (.exit 0) (act 36 [(1, y1), (19, y19), (20, y20), (21, y21), (22, y22)]) h) (fun y4 h => K .ret (act 36 [(4, y4)]) h) := kq_loop (F178_lrlrrr_j k)
theorem r178_13  : kCode env 178 false inv k (cp c178 62) (act 36 [(1, x1), (19, x19), (20, x20), (21, x21), (22, x22)]) h K =
    K .normal (act 36 [(4, (.int .i64 0))]) h := kq_reg
/-- shadowbook/schema.Row -/
noncomputable def F178 (inv : Inv) (k : Nat) (x0 x1 : Value) (h : AH) : Option (Value × AH) :=
    bnd (inv (.func 103) #[] #[x0] h) fun x10 =>
    bnd (pBin Tryz.prog .neq 30 (.tmp 11) (.const (.int .i64 0)) x10.1 (.int .i64 0)) fun x12 =>
    brV x12
    (some (x10.1, x10.2))
    (bnd (pLen Tryz.prog #[45] x1 x10.2) fun x15 =>
    bnd (pLen Tryz.prog #[36] x0 x10.2) fun x17 =>
    bnd (pBin Tryz.prog .neq 3 (.tmp 15) (.tmp 17) x15 x17) fun x18 =>
    brV x18
    (some ((.int .i64 173), x10.2))
    (bnd (pLen Tryz.prog #[36] x0 x10.2) fun x20 =>
    F178_lrlrrr inv k k x1 x0 x20 (.int .i64 0) x10.2
    (fun y1 y19 y20 y21 y22 h =>
    some ((.int .i64 0), h))
    (fun y4 h_1 =>
    some (y4, h_1))))
theorem F178_eq : eFun env k inv 178 #[x0, x1] h = F178 inv k x0 x1 h := by
      refine (kq_fun (a := act 36 [(0, x0), (1, x1)]) (c := cp c178 1)).trans ?_
      unfold F178
      simp only [kq_seq c178 1, r178_0, kq_seq c178 3, kq_seq c178 6, r178_1, kq_seq c178 13, r178_2, b178_rrlr, kq_seq c178 54, r178_3, kq_ret c178 109, res178_0, kq_skip c178 55, kq_seq c178 7, kq_seq c178 14, r178_4, b178_rlrr, kq_seq c178 58, r178_5, kq_ret c178 117, kq_skip c178 59, kq_seq c178 15, kq_seq c178 30, r178_6, kq_block c178 61 0, F178_lrlrrr_eq, kq_seq c178 31, r178_13, kq_ret c178 63, reduceIte, reduceCtorEq, XE.exit.injEq, Nat.reduceEqDiff, Nat.reduceMul, Nat.reduceAdd] <;> kernel_rfl
theorem F178_call : eInv env (k + 1) (.func 178) #[] #[x0, x1] h = F178 (eInv env k) k x0 x1 h := kq_inv F178_eq
noncomputable def c180 : Code := codeOf Tryz.prog 180
theorem r180_0  : kCode env 180 false inv k (cp c180 2) (act 4 [(0, x0)]) h K =
    bnd (pBox Tryz.prog 197 x0 h) fun x1 =>
    K .normal (act 4 [(1, x1.1)]) x1.2 := kq_reg
theorem r180_1  : kCode env 180 false inv k (cp c180 6) (act 4 [(1, x1)]) h K =
    bnd (pMakeFunc (.func 196) #[] #[x1]) fun x3 =>
    K .normal (act 4 [(2, x3)]) h := kq_reg
theorem res180_0 : resOfFn env.P 180 .ret (act 4 [(2, x2)]) h = some (x2, h) := kq_res
/-- maps.Keys[map[string]*shadowbook/agg.group,string,*shadowbook/agg.group] -/
noncomputable def F180 (inv : Inv) (k : Nat) (x0 : Value) (h : AH) : Option (Value × AH) :=
    bnd (pBox Tryz.prog 197 x0 h) fun x1 =>
    bnd (pMakeFunc (.func 196) #[] #[x1.1]) fun x3 =>
    some (x3, x1.2)
theorem F180_eq : eFun env k inv 180 #[x0] h = F180 inv k x0 h := by
      refine (kq_fun (a := act 4 [(0, x0)]) (c := cp c180 1)).trans ?_
      unfold F180
      simp only [kq_seq c180 1, r180_0, kq_seq c180 3, r180_1, kq_ret c180 7, res180_0, reduceIte, reduceCtorEq, XE.exit.injEq, Nat.reduceEqDiff, Nat.reduceMul, Nat.reduceAdd] <;> kernel_rfl
theorem F180_call : eInv env (k + 1) (.func 180) #[] #[x0] h = F180 (eInv env k) k x0 h := kq_inv F180_eq
noncomputable def c181 : Code := codeOf Tryz.prog 181
theorem r181_0  : kCode env 181 false inv k (cp c181 2) (act 27 [(0, x0), (1, x1)]) h K =
    K .normal (act 27 [(0, x0), (1, x1)]) h := kq_reg
theorem r181_1  : kCode env 181 false inv k (cp c181 12) (act 27 [(0, x0), (1, x1)]) h K =
    bnd (pBin Tryz.prog .lss 3 (.tmp 5) (.const (.int .i64 0)) x1 (.int .i64 0)) fun x6 =>
    K .normal (act 27 [(0, x0), (1, x1), (6, x6)]) h := kq_reg
theorem b181_rlr  : kCode env 181 false inv k (cp c181 13) (act 27 [(0, x0), (1, x1), (6, x6)]) h K = brV x6 (kCode env 181 false inv k (cp c181 26) (act 27 [(0, x0), (1, x1), (6, x6)]) h K) (kCode env 181 false inv k (cp c181 27) (act 27 [(0, x0), (1, x1), (6, x6)]) h K) := kq_cond
theorem r181_2  : kCode env 181 false inv k (cp c181 26) (act 27 [(0, x0), (1, x1), (6, x6)]) h K =
    bnd (pMakeIface Tryz.prog 9 (.string { data := #[99, 97, 110, 110, 111, 116, 32, 98, 101, 32, 110, 101, 103, 97, 116, 105, 118, 101] })) fun x7 =>
    bnd ((none : Option (Value × AH))) fun u =>
    K .normal (act 27 [(0, x0), (1, x1)]) u.2 := kq_reg
noncomputable def F181_rlr {β : Type} (inv : Inv) (k : Nat) (x0 x1 x6 : Value) (h : AH) (kn : (Value → Value → Value → AH → Option β)) : Option β :=
    brV x6
    (bnd (pMakeIface Tryz.prog 9 (.string { data := #[99, 97, 110, 110, 111, 116, 32, 98, 101, 32, 110, 101, 103, 97, 116, 105, 118, 101] })) fun x7 =>
    bnd ((none : Option (Value × AH))) fun u =>
    kn x0 x1 unk u.2)
    (kn x0 x1 x6 h)
theorem F181_rlr_eq  : kCode env 181 false inv k (cp c181 13) (act 27 [(0, x0), (1, x1), (6, x6)]) h K = F181_rlr inv k x0 x1 x6 h (fun y0 y1 y6 h => K .normal (act 27 [(0, y0), (1, y1), (6, y6)]) h) := by
      unfold F181_rlr
      simp only [b181_rlr, r181_2, kq_skip c181 27, reduceIte, reduceCtorEq, XE.exit.injEq, Nat.reduceEqDiff, Nat.reduceMul, Nat.reduceAdd] <;> kernel_rfl
theorem r181_3  : kCode env 181 false inv k (cp c181 28) (act 27 [(0, x0), (1, x1), (6, x6)]) h K =
    bnd (pCap Tryz.prog #[56] x0) fun x10 =>
    bnd (pLen Tryz.prog #[56] x0 h) fun x12 =>
    bnd (pBin Tryz.prog .sub 3 (.tmp 10) (.tmp 12) x10 x12) fun x13 =>
    bnd (pBin Tryz.prog .sub 3 (.tmp 8) (.tmp 13) x1 x13) fun x14 =>
    K .normal (act 27 [(0, x0), (1, x14)]) h := kq_reg
theorem r181_4  : kCode env 181 false inv k (cp c181 58) (act 27 [(0, x0), (1, x1)]) h K =
    bnd (pBin Tryz.prog .gtr 3 (.tmp 15) (.const (.int .i64 0)) x1 (.int .i64 0)) fun x16 =>
    K .normal (act 27 [(0, x0), (1, x1), (16, x16)]) h := kq_reg
theorem b181_rrlrr  : kCode env 181 false inv k (cp c181 59) (act 27 [(0, x0), (1, x1), (16, x16)]) h K = brV x16 (kCode env 181 false inv k (cp c181 118) (act 27 [(0, x0), (1, x1), (16, x16)]) h K) (kCode env 181 false inv k (cp c181 119) (act 27 [(0, x0), (1, x1), (16, x16)]) h K) := kq_cond
theorem r181_5  : kCode env 181 false inv k (cp c181 118) (act 27 [(0, x0), (1, x1), (16, x16)]) h K =
    bnd (pCap Tryz.prog #[56] x0) fun x19 =>
    bnd (pSlice Tryz.prog 56 x0 none (some x19) none h) fun x20 =>
    bnd (pAppend Tryz.prog #[56, 3] x20 x1 h) fun x22 =>
    bnd (pLen Tryz.prog #[56] x0 x22.2) fun x24 =>
    bnd (pSlice Tryz.prog 56 x22.1 none (some x24) none x22.2) fun x25 =>
    K .normal (act 27 [(0, x25)]) x22.2 := kq_reg
noncomputable def F181_rrlrr {β : Type} (inv : Inv) (k : Nat) (x0 x1 x16 : Value) (h : AH) (kn : (Value → Value → Value → AH → Option β)) : Option β :=
    brV x16
    (bnd (pCap Tryz.prog #[56] x0) fun x19 =>
    bnd (pSlice Tryz.prog 56 x0 none (some x19) none h) fun x20 =>
    bnd (pAppend Tryz.prog #[56, 3] x20 x1 h) fun x22 =>
    bnd (pLen Tryz.prog #[56] x0 x22.2) fun x24 =>
    bnd (pSlice Tryz.prog 56 x22.1 none (some x24) none x22.2) fun x25 =>
    kn x25 unk unk x22.2)
    (kn x0 x1 x16 h)
theorem F181_rrlrr_eq  : kCode env 181 false inv k (cp c181 59) (act 27 [(0, x0), (1, x1), (16, x16)]) h K = F181_rrlrr inv k x0 x1 x16 h (fun y0 y1 y16 h => K .normal (act 27 [(0, y0), (1, y1), (16, y16)]) h) := by
      unfold F181_rrlrr
      simp only [b181_rrlrr, r181_5, kq_skip c181 119, reduceIte, reduceCtorEq, XE.exit.injEq, Nat.reduceEqDiff, Nat.reduceMul, Nat.reduceAdd] <;> kernel_rfl
theorem r181_6  : kCode env 181 false inv k (cp c181 30) (act 27 [(0, x0), (1, x1), (16, x16)]) h K =
    K .normal (act 27 [(4, x0)]) h := kq_reg
theorem res181_0 : resOfFn env.P 181 .ret (act 27 [(4, x4)]) h = some (x4, h) := kq_res
/-- slices.Grow[[]shadowbook/api.Frozen,shadowbook/api.Frozen] -/
noncomputable def F181 (inv : Inv) (k : Nat) (x0 x1 : Value) (h : AH) : Option (Value × AH) :=
    bnd (pBin Tryz.prog .lss 3 (.tmp 5) (.const (.int .i64 0)) x1 (.int .i64 0)) fun x6 =>
    F181_rlr inv k x0 x1 x6 h
    (fun y0 y1 y6 h =>
    bnd (pCap Tryz.prog #[56] y0) fun x10 =>
    bnd (pLen Tryz.prog #[56] y0 h) fun x12 =>
    bnd (pBin Tryz.prog .sub 3 (.tmp 10) (.tmp 12) x10 x12) fun x13 =>
    bnd (pBin Tryz.prog .sub 3 (.tmp 8) (.tmp 13) y1 x13) fun x14 =>
    bnd (pBin Tryz.prog .gtr 3 (.tmp 15) (.const (.int .i64 0)) x14 (.int .i64 0)) fun x16 =>
    F181_rrlrr inv k y0 x14 x16 h
    (fun y0_1 y1_2 y16 h_3 =>
    some (y0_1, h_3)))
theorem F181_eq : eFun env k inv 181 #[x0, x1] h = F181 inv k x0 x1 h := by
      refine (kq_fun (a := act 27 [(0, x0), (1, x1)]) (c := cp c181 1)).trans ?_
      unfold F181
      simp only [kq_seq c181 1, r181_0, kq_seq c181 3, kq_seq c181 6, r181_1, F181_rlr_eq, kq_seq c181 7, kq_seq c181 14, r181_3, kq_seq c181 29, r181_4, F181_rrlrr_eq, kq_seq c181 15, r181_6, kq_ret c181 31, res181_0, reduceIte, reduceCtorEq, XE.exit.injEq, Nat.reduceEqDiff, Nat.reduceMul, Nat.reduceAdd] <;> kernel_rfl
theorem F181_call : eInv env (k + 1) (.func 181) #[] #[x0, x1] h = F181 (eInv env k) k x0 x1 h := kq_inv F181_eq
noncomputable def c184 : Code := codeOf Tryz.prog 184
theorem r184_0  : kCode env 184 false inv k (cp c184 2) (act 62 [(0, x0)]) h K =
    bnd (pBox Tryz.prog 134 x0 h) fun x1 =>
    K .normal (act 62 [(1, x1.1)]) x1.2 := kq_reg
noncomputable abbrev G184_1 {β : Type} (inv : Inv) (x1 : Value) (h : AH) (K : Value → Value → AH → Option β) : Option β :=
    bnd (pFieldAddr Tryz.prog 134 x1 1) fun x5 =>
    bnd (pLoad Tryz.prog 31 x5 h) fun x6 =>
    bnd (pLen Tryz.prog #[31] x6 h) fun x7 =>
    bnd (pBin Tryz.prog .gtr 3 (.tmp 7) (.const (.int .i64 0)) x7 (.int .i64 0)) fun x8 =>
    bnd (pFieldAddr Tryz.prog 134 x1 3) fun x9 =>
    bnd (pLoad Tryz.prog 24 x9 h) fun x10 =>
    bnd (pLen Tryz.prog #[24] x10 h) fun x11 =>
    bnd (pBin Tryz.prog .gtr 3 (.tmp 11) (.const (.int .i64 0)) x11 (.int .i64 0)) fun x12 =>
    K (x8) (x12) h
theorem r184_1  : kCode env 184 false inv k (cp c184 6) (act 62 [(1, x1)]) h K =
    G184_1 inv x1 h fun y3 y4 h => K .normal (act 62 [(1, x1), (3, y3), (4, y4)]) h := kq_draw
theorem r184_2  : kCode env 184 false inv k (cp c184 28) (act 62 [(1, x1), (3, x3), (4, x4)]) h K =
    bnd (pFieldAddr Tryz.prog 134 x1 0) fun x13 =>
    bnd (pLoad Tryz.prog 3 x13 h) fun x14 =>
    K .normal (act 62 [(1, x1), (3, x3), (4, x4), (14, x14)]) h := kq_reg
theorem r184_3  : kCode env 184 false inv k (cp c184 116) (act 62 [(1, x1), (3, x3), (4, x4), (14, x14)]) h K =
    bnd (pBin Tryz.prog .eql 3 (.tmp 14) (.const (.int .i64 1)) x14 (.int .i64 1)) fun x16 =>
    K .normal (act 62 [(1, x1), (3, x3), (4, x4), (14, x14), (15, x16)]) h := kq_reg
theorem b184_rlrlrr  : kCode env 184 false inv k (cp c184 117) (act 62 [(1, x1), (3, x3), (4, x4), (14, x14), (15, x15)]) h K = brV x15 (kCode env 184 false inv k (cp c184 234) (act 62 [(1, x1), (3, x3), (4, x4), (14, x14), (15, x15)]) h K) (kCode env 184 false inv k (cp c184 235) (act 62 [(1, x1), (3, x3), (4, x4), (14, x14), (15, x15)]) h K) := kq_cond
noncomputable abbrev G184_4 {β : Type} (inv : Inv) (x1 x3 x4 : Value) (h : AH) (K : Value → AH → Option β) : Option β :=
    bnd (gd (some x3) true h (some (x4, h))) fun x19 =>
    bnd (gd (some x3) true x19.2 (lt (pUn Tryz.prog .not x19.1) x19.2)) fun x20 =>
    bnd (pickV x3 x20.1 (.bool false)) fun x21 =>
    bnd (gd (some x21) true x20.2 (lt (pFieldAddr Tryz.prog 134 x1 2) x20.2)) fun x23 =>
    bnd (gd (some x21) true x23.2 (lt (pLoad Tryz.prog 23 x23.1 x23.2) x23.2)) fun x24 =>
    bnd (gd (some x21) true x24.2 (lt (pLen Tryz.prog #[23] x24.1 x24.2) x24.2)) fun x25 =>
    bnd (gd (some x21) true x25.2 (lt (pFieldAddr Tryz.prog 134 x1 4) x25.2)) fun x26 =>
    bnd (gd (some x21) true x26.2 (lt (pLoad Tryz.prog 45 x26.1 x26.2) x26.2)) fun x27 =>
    bnd (gd (some x21) true x27.2 (lt (pLen Tryz.prog #[45] x27.1 x27.2) x27.2)) fun x28 =>
    bnd (gd (some x21) true x28.2 (lt (pBin Tryz.prog .add 3 (.tmp 25) (.tmp 28) x25.1 x28.1) x28.2)) fun x29 =>
    bnd (gd (some x21) true x29.2 (lt (pBin Tryz.prog .eql 3 (.tmp 29) (.const (.int .i64 0)) x29.1 (.int .i64 0)) x29.2)) fun x30 =>
    bnd (pickV x21 x30.1 (.bool false)) fun x31 =>
    K (x31) x30.2
theorem r184_4  : kCode env 184 false inv k (cp c184 468) (act 62 [(1, x1), (3, x3), (4, x4), (14, x14), (15, x15)]) h K =
    G184_4 inv x1 x3 x4 h fun y2 h => K .normal (act 62 [(2, y2)]) h := kq_reg
theorem res184_0 : resOfFn env.P 184 .ret (act 62 [(2, x2)]) h = some (x2, h) := kq_res
theorem r184_5  : kCode env 184 false inv k (cp c184 470) (act 62 [(1, x1), (3, x3), (4, x4), (14, x14), (15, x15)]) h K =
    bnd (pBin Tryz.prog .eql 3 (.tmp 14) (.const (.int .i64 2)) x14 (.int .i64 2)) fun x33 =>
    K .normal (act 62 [(1, x1), (3, x3), (4, x4), (14, x14), (32, x33)]) h := kq_reg
theorem b184_rrrlrlrr  : kCode env 184 false inv k (cp c184 471) (act 62 [(1, x1), (3, x3), (4, x4), (14, x14), (32, x32)]) h K = brV x32 (kCode env 184 false inv k (cp c184 942) (act 62 [(1, x1), (3, x3), (4, x4), (14, x14), (32, x32)]) h K) (kCode env 184 false inv k (cp c184 943) (act 62 [(1, x1), (3, x3), (4, x4), (14, x14), (32, x32)]) h K) := kq_cond
noncomputable abbrev G184_6 {β : Type} (inv : Inv) (x1 x3 x4 : Value) (h : AH) (K : Value → AH → Option β) : Option β :=
    bnd (pUn Tryz.prog .not x3) fun x35 =>
    bnd (gd (some x35) true h (some (x4, h))) fun x37 =>
    bnd (gd (some x35) true x37.2 (lt (pUn Tryz.prog .not x37.1) x37.2)) fun x38 =>
    bnd (pickV x35 x38.1 (.bool false)) fun x39 =>
    bnd (gd (some x39) true x38.2 (lt (pFieldAddr Tryz.prog 134 x1 4) x38.2)) fun x41 =>
    bnd (gd (some x39) true x41.2 (lt (pLoad Tryz.prog 45 x41.1 x41.2) x41.2)) fun x42 =>
    bnd (gd (some x39) true x42.2 (lt (pLen Tryz.prog #[45] x42.1 x42.2) x42.2)) fun x43 =>
    bnd (gd (some x39) true x43.2 (lt (pBin Tryz.prog .eql 3 (.tmp 43) (.const (.int .i64 0)) x43.1 (.int .i64 0)) x43.2)) fun x44 =>
    bnd (pickV x39 x44.1 (.bool false)) fun x45 =>
    K (x45) x44.2
theorem r184_6  : kCode env 184 false inv k (cp c184 1884) (act 62 [(1, x1), (3, x3), (4, x4), (14, x14), (32, x32)]) h K =
    G184_6 inv x1 x3 x4 h fun y2 h => K .normal (act 62 [(2, y2)]) h := kq_reg
theorem r184_7  : kCode env 184 false inv k (cp c184 1886) (act 62 [(1, x1), (3, x3), (4, x4), (14, x14), (32, x32)]) h K =
    bnd (pBin Tryz.prog .eql 3 (.tmp 14) (.const (.int .i64 3)) x14 (.int .i64 3)) fun x47 =>
    K .normal (act 62 [(1, x1), (3, x3), (4, x4), (46, x47)]) h := kq_reg
theorem b184_rrrrrlrlrr  : kCode env 184 false inv k (cp c184 1887) (act 62 [(1, x1), (3, x3), (4, x4), (46, x46)]) h K = brV x46 (kCode env 184 false inv k (cp c184 3774) (act 62 [(1, x1), (3, x3), (4, x4), (46, x46)]) h K) (kCode env 184 false inv k (cp c184 3775) (act 62 [(1, x1), (3, x3), (4, x4), (46, x46)]) h K) := kq_cond
noncomputable abbrev G184_8 {β : Type} (inv : Inv) (x1 x3 x4 : Value) (h : AH) (K : Value → AH → Option β) : Option β :=
    bnd (pUn Tryz.prog .not x3) fun x49 =>
    bnd (gd (some x49) true h (some (x4, h))) fun x51 =>
    bnd (pickV x49 x51.1 (.bool false)) fun x52 =>
    bnd (gd (some x52) true x51.2 (lt (pFieldAddr Tryz.prog 134 x1 4) x51.2)) fun x54 =>
    bnd (gd (some x52) true x54.2 (lt (pLoad Tryz.prog 45 x54.1 x54.2) x54.2)) fun x55 =>
    bnd (gd (some x52) true x55.2 (lt (pLen Tryz.prog #[45] x55.1 x55.2) x55.2)) fun x56 =>
    bnd (gd (some x52) true x56.2 (lt (pFieldAddr Tryz.prog 134 x1 3) x56.2)) fun x57 =>
    bnd (gd (some x52) true x57.2 (lt (pLoad Tryz.prog 24 x57.1 x57.2) x57.2)) fun x58 =>
    bnd (gd (some x52) true x58.2 (lt (pLen Tryz.prog #[24] x58.1 x58.2) x58.2)) fun x59 =>
    bnd (gd (some x52) true x59.2 (lt (pBin Tryz.prog .eql 3 (.tmp 56) (.tmp 59) x56.1 x59.1) x59.2)) fun x60 =>
    bnd (pickV x52 x60.1 (.bool false)) fun x61 =>
    K (x61) x60.2
theorem r184_8  : kCode env 184 false inv k (cp c184 7548) (act 62 [(1, x1), (3, x3), (4, x4), (46, x46)]) h K =
    G184_8 inv x1 x3 x4 h fun y2 h => K .normal (act 62 [(2, y2)]) h := kq_reg
theorem r184_9  : kCode env 184 false inv k (cp c184 30) (act 62 [(1, x1), (3, x3), (4, x4), (46, x46)]) h K =
    K .normal (act 62 [(2, (.bool false))]) h := kq_reg
/-- shadowbook/batch.bare -/
noncomputable def F184 (inv : Inv) (k : Nat) (x0 : Value) (h : AH) : Option (Value × AH) :=
    bnd (pBox Tryz.prog 134 x0 h) fun x1 =>
    G184_1 inv x1.1 x1.2 fun y3 y4 h =>
    bnd (pFieldAddr Tryz.prog 134 x1.1 0) fun x13 =>
    bnd (pLoad Tryz.prog 3 x13 h) fun x14 =>
    bnd (pBin Tryz.prog .eql 3 (.tmp 14) (.const (.int .i64 1)) x14 (.int .i64 1)) fun x16 =>
    brV x16
    (G184_4 inv x1.1 y3 y4 h fun y2 h_1 =>
    some (y2, h_1))
    (bnd (pBin Tryz.prog .eql 3 (.tmp 14) (.const (.int .i64 2)) x14 (.int .i64 2)) fun x33 =>
    brV x33
    (G184_6 inv x1.1 y3 y4 h fun y2_2 h_3 =>
    some (y2_2, h_3))
    (bnd (pBin Tryz.prog .eql 3 (.tmp 14) (.const (.int .i64 3)) x14 (.int .i64 3)) fun x47 =>
    brV x47
    (G184_8 inv x1.1 y3 y4 h fun y2_4 h_5 =>
    some (y2_4, h_5))
    (some ((.bool false), h))))
theorem F184_eq : eFun env k inv 184 #[x0] h = F184 inv k x0 h := by
      refine (kq_fun (a := act 62 [(0, x0)]) (c := cp c184 1)).trans ?_
      unfold F184
      simp only [kq_seq c184 1, r184_0, kq_seq c184 3, r184_1, kq_seq c184 7, kq_seq c184 14, r184_2, kq_block c184 29 0, kq_seq c184 58, r184_3, b184_rlrlrr, kq_seq c184 234, r184_4, kq_ret c184 469, res184_0, kq_seq c184 235, r184_5, b184_rrrlrlrr, kq_seq c184 942, r184_6, kq_ret c184 1885, kq_seq c184 943, r184_7, b184_rrrrrlrlrr, kq_seq c184 3774, r184_8, kq_ret c184 7549, kq_skip c184 3775, kq_seq c184 15, r184_9, kq_ret c184 31, reduceIte, reduceCtorEq, XE.exit.injEq, Nat.reduceEqDiff, Nat.reduceMul, Nat.reduceAdd] <;> kernel_rfl
theorem F184_call : eInv env (k + 1) (.func 184) #[] #[x0] h = F184 (eInv env k) k x0 h := kq_inv F184_eq
noncomputable def c185 : Code := codeOf Tryz.prog 185
theorem r185_0  : kCode env 185 false inv k (cp c185 2) (act 69 [(0, x0), (1, x1)]) h K =
    bnd (pBox Tryz.prog 134 x1 h) fun x3 =>
    K .normal (act 69 [(0, x0), (3, x3.1)]) x3.2 := kq_reg
theorem r185_1  : kCode env 185 false inv k (cp c185 12) (act 69 [(0, x0), (3, x3)]) h K =
    bnd (pFieldAddr Tryz.prog 134 x3 3) fun x9 =>
    bnd (pLoad Tryz.prog 24 x9 h) fun x10 =>
    bnd (pLen Tryz.prog #[24] x10 h) fun x11 =>
    K .normal (act 69 [(0, x0), (3, x3), (10, x10), (11, x11), (12, (.int .i64 0))]) h := kq_reg
theorem r185_2  : kCode env 185 false inv k (cp c185 104) (act 69 [(0, x0), (3, x3), (10, x10), (11, x11), (12, x12)]) h K =
    bnd (pBin Tryz.prog .lss 3 (.tmp 12) (.tmp 11) x12 x11) fun x13 =>
    K .normal (act 69 [(0, x0), (3, x3), (10, x10), (11, x11), (12, x12), (13, x13)]) h := kq_reg
theorem b185_lrllrlr  : kCode env 185 false inv k (cp c185 210) (act 69 [(0, x0), (3, x3), (10, x10), (11, x11), (12, x12), (13, x13)]) h K = brV x13 (kCode env 185 false inv k (cp c185 420) (act 69 [(0, x0), (3, x3), (10, x10), (11, x11), (12, x12), (13, x13)]) h K) (kCode env 185 false inv k (cp c185 421) (act 69 [(0, x0), (3, x3), (10, x10), (11, x11), (12, x12), (13, x13)]) h K) := kq_cond
theorem r185_3  : kCode env 185 false inv k (cp c185 1688) (act 69 [(0, x0), (3, x3), (10, x10), (11, x11), (12, x12), (13, x13)]) h K =
    bnd (pIndexAddr Tryz.prog 24 x10 x12) fun x15 =>
    bnd (pLoad Tryz.prog 3 x15 h) fun x16 =>
    K .normal (act 69 [(0, x0), (3, x3), (5, x12), (6, x16), (10, x10), (11, x11), (12, x12)]) h := kq_reg
noncomputable abbrev G185_4 {β : Type} (inv : Inv) (x0 x3 x5 x6 x10 x11 x12 : Value) (h : AH) (K : Value → AH → Option β) : Option β :=
    bnd (pBin Tryz.prog .lss 3 (.tmp 18) (.const (.int .i64 0)) x6 (.int .i64 0)) fun x19 =>
    bnd (gd (some x19) false h (some (x6, h))) fun x21 =>
    bnd (gd (some x19) false x21.2 (some (x0, x21.2))) fun x22 =>
    bnd (gd (some x19) false x22.2 (lt (pLen Tryz.prog #[36] x22.1 x22.2) x22.2)) fun x23 =>
    bnd (gd (some x19) false x23.2 (lt (pBin Tryz.prog .geq 3 (.tmp 21) (.tmp 23) x21.1 x23.1) x23.2)) fun x24 =>
    bnd (pickV x19 (.bool true) x24.1) fun x25 =>
    K (x25) x24.2
theorem r185_4  : kCode env 185 false inv k (cp c185 13512) (act 69 [(0, x0), (3, x3), (5, x5), (6, x6), (10, x10), (11, x11), (12, x12)]) h K =
    G185_4 inv x0 x3 x5 x6 x10 x11 x12 h fun y17 h => K .normal (act 69 [(0, x0), (3, x3), (5, x5), (6, x6), (10, x10), (11, x11), (12, x12), (17, y17)]) h := kq_reg
theorem b185_rllrllrrllrlr  : kCode env 185 false inv k (cp c185 13513) (act 69 [(0, x0), (3, x3), (5, x5), (6, x6), (10, x10), (11, x11), (12, x12), (17, x17)]) h K = brV x17 (kCode env 185 false inv k (cp c185 27026) (act 69 [(0, x0), (3, x3), (5, x5), (6, x6), (10, x10), (11, x11), (12, x12), (17, x17)]) h K) (kCode env 185 false inv k (cp c185 27027) (act 69 [(0, x0), (3, x3), (5, x5), (6, x6), (10, x10), (11, x11), (12, x12), (17, x17)]) h K) := kq_cond
theorem r185_5  : kCode env 185 false inv k (cp c185 54052) (act 69 [(0, x0), (3, x3), (5, x5), (6, x6), (10, x10), (11, x11), (12, x12), (17, x17)]) h K =
    K .normal (act 69 [(4, (.int .i64 172))]) h := kq_reg
theorem r185_6  : kCode env 185 false inv k (cp c185 54054) (act 69 [(0, x0), (3, x3), (5, x5), (6, x6), (10, x10), (11, x11), (12, x12), (17, x17)]) h K =
    bnd (pFieldAddr Tryz.prog 134 x3 3) fun x27 =>
    bnd (pLoad Tryz.prog 24 x27 h) fun x28 =>
    bnd (pSlice Tryz.prog 24 x28 none (some x5) none h) fun x30 =>
    bnd (inv (.func 143) #[] #[x30, x6] h) fun x32 =>
    K .normal (act 69 [(0, x0), (3, x3), (5, x5), (6, x6), (10, x10), (11, x11), (12, x12), (26, x32.1)]) x32.2 := kq_reg
theorem b185_rrrllrllrrllrlr  : kCode env 185 false inv k (cp c185 54055) (act 69 [(0, x0), (3, x3), (5, x5), (6, x6), (10, x10), (11, x11), (12, x12), (26, x26)]) h K = brV x26 (kCode env 185 false inv k (cp c185 108110) (act 69 [(0, x0), (3, x3), (5, x5), (6, x6), (10, x10), (11, x11), (12, x12), (26, x26)]) h K) (kCode env 185 false inv k (cp c185 108111) (act 69 [(0, x0), (3, x3), (5, x5), (6, x6), (10, x10), (11, x11), (12, x12), (26, x26)]) h K) := kq_cond
theorem r185_7  : kCode env 185 false inv k (cp c185 216220) (act 69 [(0, x0), (3, x3), (5, x5), (6, x6), (10, x10), (11, x11), (12, x12), (26, x26)]) h K =
    K .normal (act 69 [(4, (.int .i64 190))]) h := kq_reg
theorem r185_8  : kCode env 185 false inv k (cp c185 13516) (act 69 [(0, x0), (3, x3), (5, x5), (6, x6), (10, x10), (11, x11), (12, x12), (26, x26)]) h K =
    bnd (pFieldAddr Tryz.prog 134 x3 4) fun x33 =>
    bnd (pLoad Tryz.prog 45 x33 h) fun x34 =>
    bnd (pIndexAddr Tryz.prog 45 x34 x5) fun x36 =>
    bnd (pLoad Tryz.prog 49 x36 h) fun x37 =>
    bnd (inv (.func 167) #[] #[x37] h) fun x38 =>
    K .normal (act 69 [(0, x0), (3, x3), (5, x5), (6, x6), (7, x38.1), (10, x10), (11, x11), (12, x12)]) x38.2 := kq_reg
theorem r185_9  : kCode env 185 false inv k (cp c185 27034) (act 69 [(0, x0), (3, x3), (5, x5), (6, x6), (7, x7), (10, x10), (11, x11), (12, x12)]) h K =
    bnd (pBin Tryz.prog .neq 30 (.tmp 39) (.const (.int .i64 0)) x7 (.int .i64 0)) fun x40 =>
    K .normal (act 69 [(0, x0), (3, x3), (5, x5), (6, x6), (7, x7), (10, x10), (11, x11), (12, x12), (40, x40)]) h := kq_reg
theorem b185_rrlrrllrrllrlr  : kCode env 185 false inv k (cp c185 27035) (act 69 [(0, x0), (3, x3), (5, x5), (6, x6), (7, x7), (10, x10), (11, x11), (12, x12), (40, x40)]) h K = brV x40 (kCode env 185 false inv k (cp c185 54070) (act 69 [(0, x0), (3, x3), (5, x5), (6, x6), (7, x7), (10, x10), (11, x11), (12, x12), (40, x40)]) h K) (kCode env 185 false inv k (cp c185 54071) (act 69 [(0, x0), (3, x3), (5, x5), (6, x6), (7, x7), (10, x10), (11, x11), (12, x12), (40, x40)]) h K) := kq_cond
theorem r185_10  : kCode env 185 false inv k (cp c185 108140) (act 69 [(0, x0), (3, x3), (5, x5), (6, x6), (7, x7), (10, x10), (11, x11), (12, x12), (40, x40)]) h K =
    K .normal (act 69 [(4, x7)]) h := kq_reg
theorem r185_11  : kCode env 185 false inv k (cp c185 13518) (act 69 [(0, x0), (3, x3), (5, x5), (6, x6), (7, x7), (10, x10), (11, x11), (12, x12), (40, x40)]) h K =
    bnd (pFieldAddr Tryz.prog 134 x3 4) fun x42 =>
    bnd (pLoad Tryz.prog 45 x42 h) fun x43 =>
    bnd (pIndexAddr Tryz.prog 45 x43 x5) fun x45 =>
    bnd (pLoad Tryz.prog 49 x45 h) fun x46 =>
    bnd (pAlloc Tryz.prog 49 h) fun x8 =>
    bnd (kSt (pStore Tryz.prog 49 x8.1 x46 x8.2)) fun u =>
    K .normal (act 69 [(0, x0), (3, x3), (6, x6), (8, x8.1), (10, x10), (11, x11), (12, x12)]) u.2 := kq_reg
noncomputable abbrev G185_12 {β : Type} (inv : Inv) (x0 x3 x6 x8 x10 x11 x12 : Value) (h : AH) (K : Value → AH → Option β) : Option β :=
    bnd (pFieldAddr Tryz.prog 49 x8 0) fun x47 =>
    bnd (pLoad Tryz.prog 3 x47 h) fun x48 =>
    bnd (pIndexAddr Tryz.prog 36 x0 x6) fun x51 =>
    bnd (pFieldAddr Tryz.prog 118 x51 1) fun x52 =>
    bnd (pLoad Tryz.prog 3 x52 h) fun x53 =>
    bnd (pBin Tryz.prog .neq 3 (.tmp 48) (.tmp 53) x48 x53) fun x54 =>
    bnd (gd3 (some x54) true h (lt (pFieldAddr Tryz.prog 49 x8 0) h)) fun x56 =>
    bnd (gd3 (some x54) true x56.2.1 (lt (pLoad Tryz.prog 3 x56.1 x56.2.1) x56.2.1)) fun x57 =>
    bnd (gd3 (some x54) true x57.2.1 (lt (pBin Tryz.prog .neq 3 (.tmp 57) (.const (.int .i64 0)) x57.1 (.int .i64 0)) x57.2.1)) fun x58 =>
    bnd (gd3 (some x54) true x58.2.1 (some (x58.1, x58.2.1))) fun x59 =>
    bnd (gd3 (some x59.1) false x59.2.1 (some (x0, x59.2.1))) fun x60 =>
    bnd (gd3 (some x59.1) false x60.2.1 (some (x6, x60.2.1))) fun x61 =>
    bnd (gd3 (some x59.1) false x61.2.1 (lt (pIndexAddr Tryz.prog 36 x60.1 x61.1) x61.2.1)) fun x62 =>
    bnd (gd3 (some x59.1) false x62.2.1 (lt (pFieldAddr Tryz.prog 118 x62.1 2) x62.2.1)) fun x63 =>
    bnd (gd3 (some x59.1) false x63.2.1 (lt (pLoad Tryz.prog 4 x63.1 x63.2.1) x63.2.1)) fun x64 =>
    bnd (gd3 (some x59.1) false x64.2.1 (lt (pUn Tryz.prog .not x64.1) x64.2.1)) fun x65 =>
    bnd (gd3 (some x54) true x65.2.1 (lt (pickV x59.1 (.bool true) x65.1) x65.2.1)) fun x66 =>
    bnd (pickV x54 x66.1 (.bool false)) fun x67 =>
    K (x67) x66.2.1
theorem r185_12  : kCode env 185 false inv k (cp c185 27038) (act 69 [(0, x0), (3, x3), (6, x6), (8, x8), (10, x10), (11, x11), (12, x12)]) h K =
    G185_12 inv x0 x3 x6 x8 x10 x11 x12 h fun y67 h => K .normal (act 69 [(0, x0), (3, x3), (10, x10), (11, x11), (12, x12), (67, y67)]) h := kq_draw
theorem b185_rrrrrllrrllrlr  : kCode env 185 false inv k (cp c185 27039) (act 69 [(0, x0), (3, x3), (10, x10), (11, x11), (12, x12), (67, x67)]) h K = brV x67 (kCode env 185 false inv k (cp c185 54078) (act 69 [(0, x0), (3, x3), (10, x10), (11, x11), (12, x12), (67, x67)]) h K) (kCode env 185 false inv k (cp c185 54079) (act 69 [(0, x0), (3, x3), (10, x10), (11, x11), (12, x12), (67, x67)]) h K) := kq_cond
theorem r185_13  : kCode env 185 false inv k (cp c185 108156) (act 69 [(0, x0), (3, x3), (10, x10), (11, x11), (12, x12), (67, x67)]) h K =
    K .normal (act 69 [(4, (.int .i64 173))]) h := kq_reg
theorem r185_14  : kCode env 185 false inv k (cp c185 423) (act 69 [(0, x0), (3, x3), (10, x10), (11, x11), (12, x12), (67, x67)]) h K =
    bnd (pBin Tryz.prog .add 3 (.tmp 12) (.const (.int .i64 1)) x12 (.int .i64 1)) fun x68 =>
    K .normal (act 69 [(0, x0), (3, x3), (10, x10), (11, x11), (12, x68)]) h := kq_reg
noncomputable def F185_lrlr {β : Type} (inv : Inv) (k : Nat) : Nat → Value → Value → Value → Value → Value → AH → (Value → Value → Value → Value → Value → Value → AH → Option β) → (Value → AH → Option β) → Option β
  | 0, _, _, _, _, _, _, _, _ => none
  | j + 1, x0, x3, x10, x11, x12, h, ke0, kr =>
    bnd (pBin Tryz.prog .lss 3 (.tmp 12) (.tmp 11) x12 x11) fun x13 =>
    brV x13
    (bnd (pIndexAddr Tryz.prog 24 x10 x12) fun x15 =>
    bnd (pLoad Tryz.prog 3 x15 h) fun x16 =>
    G185_4 inv x0 x3 x12 x16 x10 x11 x12 h fun y17 h =>
    brV y17
    (kr (.int .i64 172) h)
    (bnd (pFieldAddr Tryz.prog 134 x3 3) fun x27 =>
    bnd (pLoad Tryz.prog 24 x27 h) fun x28 =>
    bnd (pSlice Tryz.prog 24 x28 none (some x12) none h) fun x30 =>
    bnd (inv (.func 143) #[] #[x30, x16] h) fun x32 =>
    brV x32.1
    (kr (.int .i64 190) x32.2)
    (bnd (pFieldAddr Tryz.prog 134 x3 4) fun x33 =>
    bnd (pLoad Tryz.prog 45 x33 x32.2) fun x34 =>
    bnd (pIndexAddr Tryz.prog 45 x34 x12) fun x36 =>
    bnd (pLoad Tryz.prog 49 x36 x32.2) fun x37 =>
    bnd (inv (.func 167) #[] #[x37] x32.2) fun x38 =>
    bnd (pBin Tryz.prog .neq 30 (.tmp 39) (.const (.int .i64 0)) x38.1 (.int .i64 0)) fun x40 =>
    brV x40
    (kr x38.1 x38.2)
    (bnd (pFieldAddr Tryz.prog 134 x3 4) fun x42 =>
    bnd (pLoad Tryz.prog 45 x42 x38.2) fun x43 =>
    bnd (pIndexAddr Tryz.prog 45 x43 x12) fun x45 =>
    bnd (pLoad Tryz.prog 49 x45 x38.2) fun x46 =>
    bnd (pAlloc Tryz.prog 49 x38.2) fun x8 =>
    bnd (kSt (pStore Tryz.prog 49 x8.1 x46 x8.2)) fun u =>
    G185_12 inv x0 x3 x16 x8.1 x10 x11 x12 u.2 fun y67 h_1 =>
    brV y67
    (kr (.int .i64 173) h_1)
    (bnd (pBin Tryz.prog .add 3 (.tmp 12) (.const (.int .i64 1)) x12 (.int .i64 1)) fun x68 =>
    F185_lrlr inv k j x0 x3 x10 x11 x68 h_1 ke0 kr)))))
    (ke0 x0 x3 x10 x11 x12 x13 h)
theorem F185_lrlr_j (j : Nat) : kLoop (kCode env 185 false inv k (cp c185 52)) j (act 69 [(0, x0), (3, x3), (10, x10), (11, x11), (12, x12)]) h K = F185_lrlr inv k j x0 x3 x10 x11 x12 h (fun y0 y3 y10 y11 y12 y13 h => K (.exit 0) (act 69 [(0, y0), (3, y3), (10, y10), (11, y11), (12, y12), (13, y13)]) h) (fun y4 h => K .ret (act 69 [(4, y4)]) h) := by
      induction j generalizing x0 x3 x10 x11 x12 h with
      | zero => rfl
      | succ j ih =>
        unfold F185_lrlr
        simp only [kLoop, kq_seq c185 52, r185_2, kq_seq c185 105, b185_lrllrlr, kq_skip c185 420, kq_seq c185 211, kq_block c185 422 1, kq_seq c185 844, r185_3, kq_seq c185 1689, kq_block c185 3378 2, kq_seq c185 6756, r185_4, b185_rllrllrrllrlr, kq_seq c185 27026, r185_5, kq_ret c185 54053, kq_seq c185 27027, r185_6, b185_rrrllrllrrllrlr, kq_seq c185 108110, r185_7, kq_ret c185 216221, kq_skip c185 108111, kq_seq c185 3379, kq_seq c185 6758, r185_8, kq_seq c185 13517, r185_9, b185_rrlrrllrrllrlr, kq_seq c185 54070, r185_10, kq_ret c185 108141, kq_skip c185 54071, kq_seq c185 6759, r185_11, kq_seq c185 13519, r185_12, b185_rrrrrllrrllrlr, kq_seq c185 54078, r185_13, kq_ret c185 108157, kq_skip c185 54079, r185_14, kq_exit c185 421 0, ih, reduceIte, reduceCtorEq, XE.exit.injEq, Nat.reduceEqDiff, Nat.reduceMul, Nat.reduceAdd] <;> kernel_rfl
theorem F185_lrlr_eq  : kCode env 185 false inv k (cp c185 26) (act 69 [(0, x0), (3, x3), (10, x10), (11, x11), (12, x12)]) h K = F185_lrlr inv k k x0 x3 x10 x11 x12 h (fun y0 y3 y10 y11 y12 y13 h => K (.exit 0) (act 69 [(0, y0), (3, y3), (10, y10), (11, y11), (12, y12), (13, y13)]) h) (fun y4 h => K .ret (act 69 [(4, y4)]) h) := kq_loop (F185_lrlr_j k)
theorem r185_15  : kCode env 185 false inv k (cp c185 14) (act 69 [(0, x0), (3, x3), (10, x10), (11, x11), (12, x12), (13, x13)]) h K =
    K .normal (act 69 [(4, (.int .i64 0))]) h := kq_reg
theorem res185_0 : resOfFn env.P 185 .ret (act 69 [(4, x4)]) h = some (x4, h) := kq_res
/-- shadowbook/batch.update -/
noncomputable def F185 (inv : Inv) (k : Nat) (x0 x1 : Value) (h : AH) : Option (Value × AH) :=
    bnd (pBox Tryz.prog 134 x1 h) fun x3 =>
    bnd (pFieldAddr Tryz.prog 134 x3.1 3) fun x9 =>
    bnd (pLoad Tryz.prog 24 x9 x3.2) fun x10 =>
    bnd (pLen Tryz.prog #[24] x10 x3.2) fun x11 =>
    F185_lrlr inv k k x0 x3.1 x10 x11 (.int .i64 0) x3.2
    (fun y0 y3 y10 y11 y12 y13 h =>
    some ((.int .i64 0), h))
    (fun y4 h_2 =>
    some (y4, h_2))
theorem F185_eq : eFun env k inv 185 #[x0, x1] h = F185 inv k x0 x1 h := by
      refine (kq_fun (a := act 69 [(0, x0), (1, x1)]) (c := cp c185 1)).trans ?_
      unfold F185
      simp only [kq_seq c185 1, r185_0, kq_seq c185 3, kq_seq c185 6, r185_1, kq_block c185 13 0, F185_lrlr_eq, kq_seq c185 7, r185_15, kq_ret c185 15, res185_0, reduceIte, reduceCtorEq, XE.exit.injEq, Nat.reduceEqDiff, Nat.reduceMul, Nat.reduceAdd] <;> kernel_rfl
theorem F185_call : eInv env (k + 1) (.func 185) #[] #[x0, x1] h = F185 (eInv env k) k x0 x1 h := kq_inv F185_eq
end Go.Proofs.YtkdjlihldeafoaaGreat.Sh
