/- Shallow functions, part 1. Printed by a program of the prover's own from the loaded program; Lean checks it. -/
import Derived.Test.YtgklcfnjahomjaaSz0
set_option linter.unusedVariables false
set_option linter.unusedSimpArgs false
set_option maxRecDepth 100000
namespace Go.Proofs.Ytgklcfnjahomjaa.Sh
open Go Go.RowKit Go.Proofs.Ev
variable {β : Type} {inv : Inv} {k : Nat} {h : AH} {K : XE→Act→AH→Option β} {x0 x1 x2 x3 x4 x5 x6 x7 x8 x9 x10 x11 x12 x13 x14 x15 x16 x17 x18 x19 x20 x21 x22 x23 x24 x25 x26 x27 x28 x29 x30 x31 x32 x33 x34 x35 x36 x37 x38 x39 x40 x41 x42 x44 x45 x46 x47 x48 x49 x50 x51 x52 x53 x54 x55 x58 x59 x61 x62 x63 x64 x67 x68 x70 x73 x74 x76 x77 x79 x80 x82 x83 x85 x86 x88 x92 x93 x94 x97 x99 x100 x101 x102 x103 x104 x105 x108 x109 x110 x111 x113 x114 x115 x116 x118 x121 x122 x123 x124 x125 x128 x129 : Value}
noncomputable def c5 : Code:=codeOf Try.prog 5
theorem r5_0  : kCode env 5 false inv k (cp c5 2) (act 124 [(0,x0),(1,x1),(2,x2),(3,x3)]) h K =
  K .normal (act 124 [(0,x0),(1,x1),(2,x2),(3,x3)]) h:=kq_reg
theorem r5_1  : kCode env 5 false inv k (cp c5 12) (act 124 [(0,x0),(1,x1),(2,x2),(3,x3)]) h K =
  bnd (inv (.func 9) #[] #[] h) fun x18 =>
  bnd (pUn Try.prog .not x18.1) fun x19 =>
  K .normal (act 124 [(0,x0),(1,x1),(2,x2),(3,x3),(19,x19)]) x18.2:=kq_reg
theorem b5_rlr  : kCode env 5 false inv k (cp c5 13) (act 124 [(0,x0),(1,x1),(2,x2),(3,x3),(19,x19)]) h K = brV x19 (kCode env 5 false inv k (cp c5 26) (act 124 [(0,x0),(1,x1),(2,x2),(3,x3),(19,x19)]) h K) (kCode env 5 false inv k (cp c5 27) (act 124 [(0,x0),(1,x1),(2,x2),(3,x3),(19,x19)]) h K):=kq_cond
theorem r5_2  : kCode env 5 false inv k (cp c5 52) (act 124 [(0,x0),(1,x1),(2,x2),(3,x3),(19,x19)]) h K =
  K .normal (act 124 [(8,(.bool false))]) h:=kq_reg
theorem res5_0 : resOfFn env.P 5 .ret (act 124 [(8,x8)]) h = some (x8,h):=kq_res
theorem r5_3  : kCode env 5 false inv k (cp c5 28) (act 124 [(0,x0),(1,x1),(2,x2),(3,x3),(19,x19)]) h K =
  bnd (inv (.func 11) #[] #[x0,x1,x2,x3] h) fun x24 =>
  bnd (pUn Try.prog .not x24.1) fun x25 =>
  K .normal (act 124 [(0,x0),(1,x1),(2,x2),(3,x3),(25,x25)]) x24.2:=kq_reg
theorem b5_rlrr  : kCode env 5 false inv k (cp c5 29) (act 124 [(0,x0),(1,x1),(2,x2),(3,x3),(25,x25)]) h K = brV x25 (kCode env 5 false inv k (cp c5 58) (act 124 [(0,x0),(1,x1),(2,x2),(3,x3),(25,x25)]) h K) (kCode env 5 false inv k (cp c5 59) (act 124 [(0,x0),(1,x1),(2,x2),(3,x3),(25,x25)]) h K):=kq_cond
theorem r5_4  : kCode env 5 false inv k (cp c5 116) (act 124 [(0,x0),(1,x1),(2,x2),(3,x3),(25,x25)]) h K =
  K .normal (act 124 [(8,(.bool true))]) h:=kq_reg
theorem r5_5  : kCode env 5 false inv k (cp c5 30) (act 124 [(0,x0),(1,x1),(2,x2),(3,x3),(25,x25)]) h K =
  bnd (inv (.func 12) #[] #[x0,x1,x2,x3] h) fun x31 =>
  bnd (pExtract x31.1 0) fun x32 =>
  bnd (pExtract x31.1 1) fun x33 =>
  K .normal (act 124 [(0,x0),(1,x1),(2,x2),(3,x3),(9,x32),(10,x33)]) x31.2:=kq_reg
theorem r5_6  : kCode env 5 false inv k (cp c5 62) (act 124 [(0,x0),(1,x1),(2,x2),(3,x3),(9,x9),(10,x10)]) h K =
  bnd (inv (.func 17) #[] #[x0,x1,x2,x3] h) fun x39 =>
  bnd (pExtract x39.1 0) fun x40 =>
  bnd (pExtract x39.1 1) fun x41 =>
  K .normal (act 124 [(0,x0),(1,x1),(2,x2),(3,x3),(9,x9),(10,x10),(11,x40),(12,x41)]) x39.2:=kq_reg
theorem r5_7  : kCode env 5 false inv k (cp c5 126) (act 124 [(0,x0),(1,x1),(2,x2),(3,x3),(9,x9),(10,x10),(11,x11),(12,x12)]) h K =
  bnd (inv (.func 18) #[] #[x0,x2,x3] h) fun x46 =>
  bnd (pExtract x46.1 0) fun x47 =>
  bnd (pExtract x46.1 1) fun x48 =>
  K .normal (act 124 [(0,x0),(1,x1),(2,x2),(3,x3),(9,x9),(10,x10),(11,x11),(12,x12),(13,x47),(14,x48)]) x46.2:=kq_reg
noncomputable abbrev G5_8 {β : Type} (inv : Inv) (x0 x1 x2 x3 x9 x10 x11 x12 x13 x14 : Value) (h : AH) (K : Value→AH→Option β) : Option β :=
  bnd (inv (.func 16) #[] #[x9,x11] h) fun x51 =>
  bnd (pUn Try.prog .not x51.1) fun x52 =>
  bnd (gd (some x52) false x51.2 (some (x10,x51.2))) fun x54 =>
  bnd (gd (some x52) false x54.2 (some (x12,x54.2))) fun x55 =>
  bnd (gd (some x52) false x55.2 (lt (pBin Try.prog .neq 31 (.tmp 54) (.tmp 55) x54.1 x55.1) x55.2)) fun x56 =>
  bnd (pickV x52 (.bool true) x56.1) fun x57 =>
  bnd (gd (some x57) false x56.2 (some (x14,x56.2))) fun x59 =>
  bnd (gd (some x57) false x59.2 (some (x0,x59.2))) fun x60 =>
  bnd (gd (some x57) false x60.2 (some (x2,x60.2))) fun x61 =>
  bnd (gd (some x57) false x61.2 (some (x3,x61.2))) fun x62 =>
  bnd (gd (some x57) false x62.2 (inv (.func 19) #[] #[x60.1,x61.1,x62.1] x62.2)) fun x63 =>
  bnd (gd (some x57) false x63.2 (lt (pBin Try.prog .neq 31 (.tmp 59) (.tmp 63) x59.1 x63.1) x63.2)) fun x64 =>
  bnd (pickV x57 (.bool true) x64.1) fun x65 =>
  bnd (gd (some x65) false x64.2 (some (x0,x64.2))) fun x67 =>
  bnd (gd (some x65) false x67.2 (some (x2,x67.2))) fun x68 =>
  bnd (gd (some x65) false x68.2 (some (x3,x68.2))) fun x69 =>
  bnd (gd (some x65) false x69.2 (inv (.func 20) #[] #[x67.1,x68.1,x69.1] x69.2)) fun x70 =>
  bnd (gd (some x65) false x70.2 (some (x14,x70.2))) fun x71 =>
  bnd (gd (some x65) false x71.2 (lt (pBin Try.prog .neq 31 (.tmp 70) (.tmp 71) x70.1 x71.1) x71.2)) fun x72 =>
  bnd (pickV x65 (.bool true) x72.1) fun x73 =>
  bnd (gd (some x73) false x72.2 (some (x13,x72.2))) fun x75 =>
  bnd (gd (some x73) false x75.2 (lt (pBin Try.prog .eql 44 (.tmp 75) (.const (.pointer none)) x75.1 (.pointer none)) x75.2)) fun x76 =>
  bnd (gd (some x73) false x76.2 (some (x14,x76.2))) fun x77 =>
  bnd (gd (some x73) false x77.2 (lt (pBin Try.prog .neq 31 (.tmp 77) (.const (.int .i64 0)) x77.1 (.int .i64 0)) x77.2)) fun x78 =>
  bnd (gd (some x73) false x78.2 (lt (pBin Try.prog .neq 4 (.tmp 76) (.tmp 78) x76.1 x78.1) x78.2)) fun x79 =>
  bnd (pickV x73 (.bool true) x79.1) fun x80 =>
  K (x80) x79.2
theorem r5_8  : kCode env 5 false inv k (cp c5 508) (act 124 [(0,x0),(1,x1),(2,x2),(3,x3),(9,x9),(10,x10),(11,x11),(12,x12),(13,x13),(14,x14)]) h K =
  G5_8 inv x0 x1 x2 x3 x9 x10 x11 x12 x13 x14 h fun y80 h=>K .normal (act 124 [(0,x0),(1,x1),(2,x2),(3,x3),(13,x13),(80,y80)]) h:=kq_reg
theorem b5_rlrrrrrr  : kCode env 5 false inv k (cp c5 509) (act 124 [(0,x0),(1,x1),(2,x2),(3,x3),(13,x13),(80,x80)]) h K = brV x80 (kCode env 5 false inv k (cp c5 1018) (act 124 [(0,x0),(1,x1),(2,x2),(3,x3),(13,x13),(80,x80)]) h K) (kCode env 5 false inv k (cp c5 1019) (act 124 [(0,x0),(1,x1),(2,x2),(3,x3),(13,x13),(80,x80)]) h K):=kq_cond
theorem r5_9  : kCode env 5 false inv k (cp c5 2036) (act 124 [(0,x0),(1,x1),(2,x2),(3,x3),(13,x13),(80,x80)]) h K =
  K .normal (act 124 [(8,(.bool false))]) h:=kq_reg
theorem r5_10  : kCode env 5 false inv k (cp c5 1020) (act 124 [(0,x0),(1,x1),(2,x2),(3,x3),(13,x13),(80,x80)]) h K =
  bnd (pBin Try.prog .eql 44 (.tmp 81) (.const (.pointer none)) x13 (.pointer none)) fun x82 =>
  K .normal (act 124 [(0,x0),(1,x1),(2,x2),(3,x3),(13,x13),(82,x82)]) h:=kq_reg
theorem b5_rlrrrrrrr  : kCode env 5 false inv k (cp c5 1021) (act 124 [(0,x0),(1,x1),(2,x2),(3,x3),(13,x13),(82,x82)]) h K = brV x82 (kCode env 5 false inv k (cp c5 2042) (act 124 [(0,x0),(1,x1),(2,x2),(3,x3),(13,x13),(82,x82)]) h K) (kCode env 5 false inv k (cp c5 2043) (act 124 [(0,x0),(1,x1),(2,x2),(3,x3),(13,x13),(82,x82)]) h K):=kq_cond
theorem r5_11  : kCode env 5 false inv k (cp c5 4084) (act 124 [(0,x0),(1,x1),(2,x2),(3,x3),(13,x13),(82,x82)]) h K =
  K .normal (act 124 [(8,(.bool true))]) h:=kq_reg
theorem r5_12  : kCode env 5 false inv k (cp c5 1022) (act 124 [(0,x0),(1,x1),(2,x2),(3,x3),(13,x13),(82,x82)]) h K =
  K .normal (act 124 [(0,x0),(1,x1),(2,x2),(3,x3),(13,x13),(15,(.slice none 0 0))]) h:=kq_reg
theorem r5_13  : kCode env 5 false inv k (cp c5 4092) (act 124 [(0,x0),(1,x1),(2,x2),(3,x3),(13,x13),(15,x15)]) h K =
  K .normal (act 124 [(0,x0),(1,x1),(2,x2),(3,x3),(13,x13),(15,x15),(16,(.int .i64 0))]) h:=kq_reg
theorem r5_14  : kCode env 5 false inv k (cp c5 65488) (act 124 [(0,x0),(1,x1),(2,x2),(3,x3),(13,x13),(15,x15),(16,x16)]) h K =
  bnd (pLen Try.prog #[23] x1 h) fun x85 =>
  bnd (pBin Try.prog .lss 3 (.tmp 83) (.tmp 85) x16 x85) fun x86 =>
  K .normal (act 124 [(0,x0),(1,x1),(2,x2),(3,x3),(13,x13),(15,x15),(16,x16),(86,x86)]) h:=kq_reg
theorem b5_rlllrlrrrrrrrrr  : kCode env 5 false inv k (cp c5 65489) (act 124 [(0,x0),(1,x1),(2,x2),(3,x3),(13,x13),(15,x15),(16,x16),(86,x86)]) h K = brV x86 (kCode env 5 false inv k (cp c5 130978) (act 124 [(0,x0),(1,x1),(2,x2),(3,x3),(13,x13),(15,x15),(16,x16),(86,x86)]) h K) (kCode env 5 false inv k (cp c5 130979) (act 124 [(0,x0),(1,x1),(2,x2),(3,x3),(13,x13),(15,x15),(16,x16),(86,x86)]) h K):=kq_cond
theorem r5_16  : kCode env 5 false inv k (cp c5 261960) (act 124 [(0,x0),(1,x1),(2,x2),(3,x3),(13,x13),(15,x15),(16,x16),(86,x86)]) h K =
  bnd (pIndexAddr Try.prog 23 x1 x16) fun x92 =>
  bnd (pLoad Try.prog 34 x92 h) fun x93 =>
  bnd (inv (.func 21) #[] #[x13,x93] h) fun x94 =>
  K .normal (act 124 [(0,x0),(1,x1),(2,x2),(3,x3),(13,x13),(15,x15),(16,x16),(17,x94.1)]) x94.2:=kq_reg
theorem r5_17  : kCode env 5 false inv k (cp c5 1047844) (act 124 [(0,x0),(1,x1),(2,x2),(3,x3),(13,x13),(15,x15),(16,x16),(17,x17)]) h K =
  bnd (pIndexAddr Try.prog 23 x1 x16) fun x99 =>
  bnd (pLoad Try.prog 34 x99 h) fun x100 =>
  bnd (inv (.func 22) #[] #[x0,x100] h) fun x101 =>
  bnd (pBin Try.prog .neq 31 (.tmp 95) (.tmp 101) x17 x101.1) fun x102 =>
  K .normal (act 124 [(0,x0),(1,x1),(2,x2),(3,x3),(13,x13),(15,x15),(16,x16),(17,x17),(102,x102)]) x101.2:=kq_reg
theorem b5_rlrllrllrlrrrrrrrrr  : kCode env 5 false inv k (cp c5 1047845) (act 124 [(0,x0),(1,x1),(2,x2),(3,x3),(13,x13),(15,x15),(16,x16),(17,x17),(102,x102)]) h K = brV x102 (kCode env 5 false inv k (cp c5 2095690) (act 124 [(0,x0),(1,x1),(2,x2),(3,x3),(13,x13),(15,x15),(16,x16),(17,x17),(102,x102)]) h K) (kCode env 5 false inv k (cp c5 2095691) (act 124 [(0,x0),(1,x1),(2,x2),(3,x3),(13,x13),(15,x15),(16,x16),(17,x17),(102,x102)]) h K):=kq_cond
theorem r5_18  : kCode env 5 false inv k (cp c5 4191380) (act 124 [(0,x0),(1,x1),(2,x2),(3,x3),(13,x13),(15,x15),(16,x16),(17,x17),(102,x102)]) h K =
  K .normal (act 124 [(8,(.bool false))]) h:=kq_reg
theorem r5_19  : kCode env 5 false inv k (cp c5 2095692) (act 124 [(0,x0),(1,x1),(2,x2),(3,x3),(13,x13),(15,x15),(16,x16),(17,x17),(102,x102)]) h K =
  bnd (pBin Try.prog .eql 31 (.tmp 103) (.const (.int .i64 0)) x17 (.int .i64 0)) fun x104 =>
  K .normal (act 124 [(0,x0),(1,x1),(2,x2),(3,x3),(13,x13),(15,x15),(16,x16),(104,x104)]) h:=kq_reg
theorem b5_rlrrllrllrlrrrrrrrrr  : kCode env 5 false inv k (cp c5 2095693) (act 124 [(0,x0),(1,x1),(2,x2),(3,x3),(13,x13),(15,x15),(16,x16),(104,x104)]) h K = brV x104 (kCode env 5 false inv k (cp c5 4191386) (act 124 [(0,x0),(1,x1),(2,x2),(3,x3),(13,x13),(15,x15),(16,x16),(104,x104)]) h K) (kCode env 5 false inv k (cp c5 4191387) (act 124 [(0,x0),(1,x1),(2,x2),(3,x3),(13,x13),(15,x15),(16,x16),(104,x104)]) h K):=kq_cond
theorem r5_20  : kCode env 5 false inv k (cp c5 4191386) (act 124 [(0,x0),(1,x1),(2,x2),(3,x3),(13,x13),(15,x15),(16,x16),(104,x104)]) h K =
  bnd (pIndexAddr Try.prog 23 x1 x16) fun x108 =>
  bnd (pLoad Try.prog 34 x108 h) fun x109 =>
  bnd (pBuildSlice Try.prog 23 1 #[(0,x109)] h) fun x110 =>
  bnd (pAppend Try.prog #[23,23] x15 x110.1 x110.2) fun x111 =>
  K .normal (act 124 [(0,x0),(1,x1),(2,x2),(3,x3),(13,x13),(15,x111.1),(16,x16)]) x111.2:=kq_reg
noncomputable def F5_rlrrllrllrlrrrrrrrrr {β : Type} (inv : Inv) (k : Nat) (x0 x1 x2 x3 x13 x15 x16 x104 : Value) (h : AH) (kn : (Value→Value→Value→Value→Value→Value→Value→Value→AH→Option β)) : Option β :=
  brV x104
  (bnd (pIndexAddr Try.prog 23 x1 x16) fun x108 =>
  bnd (pLoad Try.prog 34 x108 h) fun x109 =>
  bnd (pBuildSlice Try.prog 23 1 #[(0,x109)] h) fun x110 =>
  bnd (pAppend Try.prog #[23,23] x15 x110.1 x110.2) fun x111 =>
  kn x0 x1 x2 x3 x13 x111.1 x16 unk x111.2)
  (kn x0 x1 x2 x3 x13 x15 x16 x104 h)
theorem F5_rlrrllrllrlrrrrrrrrr_eq  : kCode env 5 false inv k (cp c5 2095693) (act 124 [(0,x0),(1,x1),(2,x2),(3,x3),(13,x13),(15,x15),(16,x16),(104,x104)]) h K = F5_rlrrllrllrlrrrrrrrrr inv k x0 x1 x2 x3 x13 x15 x16 x104 h (fun y0 y1 y2 y3 y13 y15 y16 y104 h=>K .normal (act 124 [(0,y0),(1,y1),(2,y2),(3,y3),(13,y13),(15,y15),(16,y16),(104,y104)]) h):=by
   unfold F5_rlrrllrllrlrrrrrrrrr
   simp only [b5_rlrrllrllrlrrrrrrrrr,r5_20,kq_skip c5 4191387,reduceIte,reduceCtorEq,XE.exit.injEq,Nat.reduceEqDiff,Nat.reduceMul,Nat.reduceAdd] <;> kernel_rfl
theorem r5_21  : kCode env 5 false inv k (cp c5 2095694) (act 124 [(0,x0),(1,x1),(2,x2),(3,x3),(13,x13),(15,x15),(16,x16),(104,x104)]) h K =
  bnd (inv (.func 23) #[] #[x13] h) fun x113 =>
  bnd (pLen Try.prog #[23] x15 x113.2) fun x115 =>
  bnd (pBin Try.prog .neq 3 (.tmp 113) (.tmp 115) x113.1 x115) fun x116 =>
  K .normal (act 124 [(0,x0),(1,x1),(2,x2),(3,x3),(13,x13),(15,x15),(16,x16),(116,x116)]) x113.2:=kq_reg
theorem b5_rrrrllrllrlrrrrrrrrr  : kCode env 5 false inv k (cp c5 2095695) (act 124 [(0,x0),(1,x1),(2,x2),(3,x3),(13,x13),(15,x15),(16,x16),(116,x116)]) h K = brV x116 (kCode env 5 false inv k (cp c5 4191390) (act 124 [(0,x0),(1,x1),(2,x2),(3,x3),(13,x13),(15,x15),(16,x16),(116,x116)]) h K) (kCode env 5 false inv k (cp c5 4191391) (act 124 [(0,x0),(1,x1),(2,x2),(3,x3),(13,x13),(15,x15),(16,x16),(116,x116)]) h K):=kq_cond
theorem r5_22  : kCode env 5 false inv k (cp c5 8382780) (act 124 [(0,x0),(1,x1),(2,x2),(3,x3),(13,x13),(15,x15),(16,x16),(116,x116)]) h K =
  K .normal (act 124 [(8,(.bool false))]) h:=kq_reg
theorem r5_15  : kCode env 5 false inv k (cp c5 65491) (act 124 [(0,x0),(1,x1),(2,x2),(3,x3),(13,x13),(15,x15),(16,x16),(116,x116)]) h K =
  bnd (pBin Try.prog .add 3 (.tmp 87) (.const (.int .i64 1)) x16 (.int .i64 1)) fun x88 =>
  K .normal (act 124 [(0,x0),(1,x1),(2,x2),(3,x3),(13,x13),(15,x15),(16,x88)]) h:=kq_reg
noncomputable def F5_lrlrrrrrrrrr {β : Type} (inv : Inv) (k : Nat) : Nat→Value→Value→Value→Value→Value→Value→Value→AH→(Value→Value→Value→Value→Value→Value→Value→Value→AH→Option β)→(Value→AH→Option β)→Option β
 | 0,_,_,_,_,_,_,_,_,_,_=>none
 | j + 1,x0,x1,x2,x3,x13,x15,x16,h,ke0,kr =>
  bnd (pLen Try.prog #[23] x1 h) fun x85 =>
  bnd (pBin Try.prog .lss 3 (.tmp 83) (.tmp 85) x16 x85) fun x86 =>
  brV x86
  (bnd (pIndexAddr Try.prog 23 x1 x16) fun x92 =>
  bnd (pLoad Try.prog 34 x92 h) fun x93 =>
  bnd (inv (.func 21) #[] #[x13,x93] h) fun x94 =>
  bnd (pIndexAddr Try.prog 23 x1 x16) fun x99 =>
  bnd (pLoad Try.prog 34 x99 x94.2) fun x100 =>
  bnd (inv (.func 22) #[] #[x0,x100] x94.2) fun x101 =>
  bnd (pBin Try.prog .neq 31 (.tmp 95) (.tmp 101) x94.1 x101.1) fun x102 =>
  brV x102
  (kr (.bool false) x101.2)
  (bnd (pBin Try.prog .eql 31 (.tmp 103) (.const (.int .i64 0)) x94.1 (.int .i64 0)) fun x104 =>
  F5_rlrrllrllrlrrrrrrrrr inv k x0 x1 x2 x3 x13 x15 x16 x104 x101.2
  (fun y0 y1 y2 y3 y13 y15 y16 y104 h =>
  bnd (inv (.func 23) #[] #[y13] h) fun x113 =>
  bnd (pLen Try.prog #[23] y15 x113.2) fun x115 =>
  bnd (pBin Try.prog .neq 3 (.tmp 113) (.tmp 115) x113.1 x115) fun x116 =>
  brV x116
  (kr (.bool false) x113.2)
  (bnd (pBin Try.prog .add 3 (.tmp 87) (.const (.int .i64 1)) y16 (.int .i64 1)) fun x88 =>
  F5_lrlrrrrrrrrr inv k j y0 y1 y2 y3 y13 y15 x88 x113.2 ke0 kr))))
  (ke0 x0 x1 x2 x3 x13 x15 x16 x86 h)
theorem F5_lrlrrrrrrrrr_j (j : Nat) : kLoop (kCode env 5 false inv k (cp c5 16372)) j (act 124 [(0,x0),(1,x1),(2,x2),(3,x3),(13,x13),(15,x15),(16,x16)]) h K = F5_lrlrrrrrrrrr inv k j x0 x1 x2 x3 x13 x15 x16 h (fun y0 y1 y2 y3 y13 y15 y16 y86 h=>K (.exit 0) (act 124 [(0,y0),(1,y1),(2,y2),(3,y3),(13,y13),(15,y15),(16,y16),(86,y86)]) h) (fun y8 h=>K .ret (act 124 [(8,y8)]) h):=by
   induction j generalizing x0 x1 x2 x3 x13 x15 x16 h with
   | zero=>rfl
   | succ j ih =>
    unfold F5_lrlrrrrrrrrr
    simp only [kLoop,kq_seq c5 16372,kq_seq c5 32744,r5_14,b5_rlllrlrrrrrrrrr,kq_skip c5 130978,kq_seq c5 32745,kq_block c5 65490 1,kq_seq c5 130980,r5_16,kq_seq c5 261961,kq_seq c5 523922,r5_17,b5_rlrllrllrlrrrrrrrrr,kq_seq c5 2095690,r5_18,kq_ret c5 4191381,kq_skip c5 2095691,kq_seq c5 523923,kq_seq c5 1047846,r5_19,F5_rlrrllrllrlrrrrrrrrr_eq,kq_seq c5 1047847,r5_21,b5_rrrrllrllrlrrrrrrrrr,kq_seq c5 4191390,r5_22,kq_ret c5 8382781,kq_skip c5 4191391,r5_15,kq_exit c5 130979 0,ih,reduceIte,reduceCtorEq,XE.exit.injEq,Nat.reduceEqDiff,Nat.reduceMul,Nat.reduceAdd] <;> kernel_rfl
theorem F5_lrlrrrrrrrrr_eq  : kCode env 5 false inv k (cp c5 8186) (act 124 [(0,x0),(1,x1),(2,x2),(3,x3),(13,x13),(15,x15),(16,x16)]) h K = F5_lrlrrrrrrrrr inv k k x0 x1 x2 x3 x13 x15 x16 h (fun y0 y1 y2 y3 y13 y15 y16 y86 h=>K (.exit 0) (act 124 [(0,y0),(1,y1),(2,y2),(3,y3),(13,y13),(15,y15),(16,y16),(86,y86)]) h) (fun y8 h=>K .ret (act 124 [(8,y8)]) h):=kq_loop (F5_lrlrrrrrrrrr_j k)
theorem r5_23  : kCode env 5 false inv k (cp c5 4094) (act 124 [(0,x0),(1,x1),(2,x2),(3,x3),(13,x13),(15,x15),(16,x16),(86,x86)]) h K =
  bnd (inv (.func 24) #[] #[x13] h) fun x118 =>
  bnd (inv (.func 25) #[] #[x15,x2,x3] x118.2) fun x122 =>
  bnd (inv (.func 16) #[] #[x118.1,x122.1] x122.2) fun x123 =>
  K .normal (act 124 [(8,x123.1)]) x123.2:=kq_reg
/-- shadowbook/shadowbooklaw20.AggCalls -/
noncomputable def F5 (inv : Inv) (k : Nat) (x0 x1 x2 x3 : Value) (h : AH) : Option (Value × AH) :=
  bnd (inv (.func 9) #[] #[] h) fun x18 =>
  bnd (pUn Try.prog .not x18.1) fun x19 =>
  brV x19
  (some ((.bool false),x18.2))
  (bnd (inv (.func 11) #[] #[x0,x1,x2,x3] x18.2) fun x24 =>
  bnd (pUn Try.prog .not x24.1) fun x25 =>
  brV x25
  (some ((.bool true),x24.2))
  (bnd (inv (.func 12) #[] #[x0,x1,x2,x3] x24.2) fun x31 =>
  bnd (pExtract x31.1 0) fun x32 =>
  bnd (pExtract x31.1 1) fun x33 =>
  bnd (inv (.func 17) #[] #[x0,x1,x2,x3] x31.2) fun x39 =>
  bnd (pExtract x39.1 0) fun x40 =>
  bnd (pExtract x39.1 1) fun x41 =>
  bnd (inv (.func 18) #[] #[x0,x2,x3] x39.2) fun x46 =>
  bnd (pExtract x46.1 0) fun x47 =>
  bnd (pExtract x46.1 1) fun x48 =>
  G5_8 inv x0 x1 x2 x3 x32 x33 x40 x41 x47 x48 x46.2 fun y80 h =>
  brV y80
  (some ((.bool false),h))
  (bnd (pBin Try.prog .eql 44 (.tmp 81) (.const (.pointer none)) x47 (.pointer none)) fun x82 =>
  brV x82
  (some ((.bool true),h))
  (F5_lrlrrrrrrrrr inv k k x0 x1 x2 x3 x47 (.slice none 0 0) (.int .i64 0) h
  (fun y0 y1 y2 y3 y13 y15 y16 y86 h_1 =>
  bnd (inv (.func 24) #[] #[y13] h_1) fun x118 =>
  bnd (inv (.func 25) #[] #[y15,y2,y3] x118.2) fun x122 =>
  bnd (inv (.func 16) #[] #[x118.1,x122.1] x122.2) fun x123 =>
  some (x123.1,x123.2))
  (fun y8 h_2 =>
  some (y8,h_2))))))
theorem F5_eq : eFun env k inv 5 #[x0,x1,x2,x3] h = F5 inv k x0 x1 x2 x3 h:=by
   refine (kq_fun (a:=act 124 [(0,x0),(1,x1),(2,x2),(3,x3)]) (c:=cp c5 1)).trans ?_
   unfold F5
   simp only [kq_seq c5 1,r5_0,kq_seq c5 3,kq_seq c5 6,r5_1,b5_rlr,kq_seq c5 26,r5_2,kq_ret c5 53,res5_0,kq_skip c5 27,kq_seq c5 7,kq_seq c5 14,r5_3,b5_rlrr,kq_seq c5 58,r5_4,kq_ret c5 117,kq_skip c5 59,kq_seq c5 15,r5_5,kq_seq c5 31,r5_6,kq_seq c5 63,r5_7,kq_seq c5 127,kq_seq c5 254,r5_8,b5_rlrrrrrr,kq_seq c5 1018,r5_9,kq_ret c5 2037,kq_skip c5 1019,kq_seq c5 255,kq_seq c5 510,r5_10,b5_rlrrrrrrr,kq_seq c5 2042,r5_11,kq_ret c5 4085,kq_skip c5 2043,kq_seq c5 511,r5_12,kq_seq c5 1023,kq_seq c5 2046,r5_13,kq_block c5 4093 0,F5_lrlrrrrrrrrr_eq,kq_seq c5 2047,r5_23,kq_ret c5 4095,reduceIte,reduceCtorEq,XE.exit.injEq,Nat.reduceEqDiff,Nat.reduceMul,Nat.reduceAdd] <;> kernel_rfl
theorem F5_call : eInv env (k + 1) (.func 5) #[] #[x0,x1,x2,x3] h = F5 (eInv env k) k x0 x1 x2 x3 h:=kq_inv F5_eq
noncomputable def c11 : Code:=codeOf Try.prog 11
theorem r11_0  : kCode env 11 false inv k (cp c11 2) (act 25 [(0,x0),(1,x1),(2,x2),(3,x3)]) h K =
  K .normal (act 25 [(0,x0),(1,x1),(2,x2),(3,x3)]) h:=kq_reg
noncomputable abbrev G11_1 {β : Type} (inv : Inv) (x0 x1 x2 x3 : Value) (h : AH) (K : Value→AH→Option β) : Option β :=
  bnd (inv (.func 33) #[] #[x0] h) fun x10 =>
  bnd (gd (some x10.1) true x10.2 (some (x1,x10.2))) fun x12 =>
  bnd (gd (some x10.1) true x12.2 (inv (.func 34) #[] #[x12.1,(.int .i64 40)] x12.2)) fun x13 =>
  bnd (pickV x10.1 x13.1 (.bool false)) fun x14 =>
  bnd (gd (some x14) true x13.2 (some (x2,x13.2))) fun x16 =>
  bnd (gd (some x14) true x16.2 (lt (pLen Try.prog #[24] x16.1 x16.2) x16.2)) fun x17 =>
  bnd (gd (some x14) true x17.2 (lt (pBin Try.prog .leq 3 (.tmp 17) (.const (.int .i64 20)) x17.1 (.int .i64 20)) x17.2)) fun x18 =>
  bnd (pickV x14 x18.1 (.bool false)) fun x19 =>
  bnd (gd (some x19) true x18.2 (some (x3,x18.2))) fun x21 =>
  bnd (gd (some x19) true x21.2 (lt (pLen Try.prog #[29] x21.1 x21.2) x21.2)) fun x22 =>
  bnd (gd (some x19) true x22.2 (lt (pBin Try.prog .leq 3 (.tmp 22) (.const (.int .i64 20)) x22.1 (.int .i64 20)) x22.2)) fun x23 =>
  bnd (pickV x19 x23.1 (.bool false)) fun x24 =>
  K (x24) x23.2
theorem r11_1  : kCode env 11 false inv k (cp c11 6) (act 25 [(0,x0),(1,x1),(2,x2),(3,x3)]) h K =
  G11_1 inv x0 x1 x2 x3 h fun y8 h=>K .normal (act 25 [(8,y8)]) h:=kq_reg
theorem res11_0 : resOfFn env.P 11 .ret (act 25 [(8,x8)]) h = some (x8,h):=kq_res
/-- shadowbook/shadowbooklaw20.light -/
noncomputable def F11 (inv : Inv) (k : Nat) (x0 x1 x2 x3 : Value) (h : AH) : Option (Value × AH) :=
  G11_1 inv x0 x1 x2 x3 h fun y8 h =>
  some (y8,h)
theorem F11_eq : eFun env k inv 11 #[x0,x1,x2,x3] h = F11 inv k x0 x1 x2 x3 h:=by
   refine (kq_fun (a:=act 25 [(0,x0),(1,x1),(2,x2),(3,x3)]) (c:=cp c11 1)).trans ?_
   unfold F11
   simp only [kq_seq c11 1,r11_0,kq_seq c11 3,r11_1,kq_ret c11 7,res11_0,reduceIte,reduceCtorEq,XE.exit.injEq,Nat.reduceEqDiff,Nat.reduceMul,Nat.reduceAdd] <;> kernel_rfl
theorem F11_call : eInv env (k + 1) (.func 11) #[] #[x0,x1,x2,x3] h = F11 (eInv env k) k x0 x1 x2 x3 h:=kq_inv F11_eq
noncomputable def c12 : Code:=codeOf Try.prog 12
theorem r12_0  : kCode env 12 false inv k (cp c12 2) (act 38 [(0,x0),(1,x1),(2,x2),(3,x3)]) h K =
  K .normal (act 38 [(0,x0),(1,x1),(2,x2),(3,x3)]) h:=kq_reg
theorem r12_1  : kCode env 12 false inv k (cp c12 6) (act 38 [(0,x0),(1,x1),(2,x2),(3,x3)]) h K =
  bnd (inv (.func 18) #[] #[x0,x2,x3] h) fun x18 =>
  bnd (pExtract x18.1 0) fun x19 =>
  bnd (pExtract x18.1 1) fun x20 =>
  K .normal (act 38 [(1,x1),(10,x19),(11,x20)]) x18.2:=kq_reg
theorem r12_2  : kCode env 12 false inv k (cp c12 28) (act 38 [(1,x1),(10,x10),(11,x11)]) h K =
  bnd (pLen Try.prog #[23] x1 h) fun x22 =>
  K .normal (act 38 [(10,x10),(11,x11),(21,x1),(22,x22),(23,(.int .i64 0))]) h:=kq_reg
theorem r12_3  : kCode env 12 false inv k (cp c12 232) (act 38 [(10,x10),(11,x11),(21,x21),(22,x22),(23,x23)]) h K =
  bnd (pBin Try.prog .lss 3 (.tmp 23) (.tmp 22) x23 x22) fun x24 =>
  K .normal (act 38 [(10,x10),(11,x11),(21,x21),(22,x22),(23,x23),(24,x24)]) h:=kq_reg
theorem b12_lrllrlrr  : kCode env 12 false inv k (cp c12 466) (act 38 [(10,x10),(11,x11),(21,x21),(22,x22),(23,x23),(24,x24)]) h K = brV x24 (kCode env 12 false inv k (cp c12 932) (act 38 [(10,x10),(11,x11),(21,x21),(22,x22),(23,x23),(24,x24)]) h K) (kCode env 12 false inv k (cp c12 933) (act 38 [(10,x10),(11,x11),(21,x21),(22,x22),(23,x23),(24,x24)]) h K):=kq_cond
theorem r12_4  : kCode env 12 false inv k (cp c12 3736) (act 38 [(10,x10),(11,x11),(21,x21),(22,x22),(23,x23),(24,x24)]) h K =
  bnd (pIndexAddr Try.prog 23 x21 x23) fun x25 =>
  bnd (pLoad Try.prog 34 x25 h) fun x26 =>
  K .normal (act 38 [(10,x10),(11,x11),(13,x26),(21,x21),(22,x22),(23,x23)]) h:=kq_reg
theorem r12_5  : kCode env 12 false inv k (cp c12 14948) (act 38 [(10,x10),(11,x11),(13,x13),(21,x21),(22,x22),(23,x23)]) h K =
  bnd (pBin Try.prog .neq 31 (.tmp 27) (.const (.int .i64 0)) x11 (.int .i64 0)) fun x28 =>
  K .normal (act 38 [(10,x10),(11,x11),(13,x13),(21,x21),(22,x22),(23,x23),(28,x28)]) h:=kq_reg
theorem b12_rlrllrrllrlrr  : kCode env 12 false inv k (cp c12 14949) (act 38 [(10,x10),(11,x11),(13,x13),(21,x21),(22,x22),(23,x23),(28,x28)]) h K = brV x28 (kCode env 12 false inv k (cp c12 29898) (act 38 [(10,x10),(11,x11),(13,x13),(21,x21),(22,x22),(23,x23),(28,x28)]) h K) (kCode env 12 false inv k (cp c12 29899) (act 38 [(10,x10),(11,x11),(13,x13),(21,x21),(22,x22),(23,x23),(28,x28)]) h K):=kq_cond
theorem r12_6  : kCode env 12 false inv k (cp c12 7475) (act 38 [(10,x10),(11,x11),(13,x13),(21,x21),(22,x22),(23,x23),(28,x28)]) h K =
  bnd (inv (.func 21) #[] #[x10,x13] h) fun x31 =>
  K .normal (act 38 [(10,x10),(11,x31.1),(21,x21),(22,x22),(23,x23)]) x31.2:=kq_reg
theorem r12_7  : kCode env 12 false inv k (cp c12 935) (act 38 [(10,x10),(11,x11),(21,x21),(22,x22),(23,x23)]) h K =
  bnd (pBin Try.prog .add 3 (.tmp 23) (.const (.int .i64 1)) x23 (.int .i64 1)) fun x32 =>
  K .normal (act 38 [(10,x10),(11,x11),(21,x21),(22,x22),(23,x32)]) h:=kq_reg
noncomputable def F12_lrlrr {β : Type} (inv : Inv) (k : Nat) : Nat→Value→Value→Value→Value→Value→AH→(Value→Value→Value→Value→Value→Value→Value→Value→AH→Option β)→Option β
 | 0,_,_,_,_,_,_,_=>none
 | j + 1,x10,x11,x21,x22,x23,h,ke0 =>
  bnd (pBin Try.prog .lss 3 (.tmp 23) (.tmp 22) x23 x22) fun x24 =>
  brV x24
  (bnd (pIndexAddr Try.prog 23 x21 x23) fun x25 =>
  bnd (pLoad Try.prog 34 x25 h) fun x26 =>
  bnd (pBin Try.prog .neq 31 (.tmp 27) (.const (.int .i64 0)) x11 (.int .i64 0)) fun x28 =>
  brV x28
  (ke0 x10 x11 x26 x21 x22 x23 unk x28 h)
  (bnd (inv (.func 21) #[] #[x10,x26] h) fun x31 =>
  bnd (pBin Try.prog .add 3 (.tmp 23) (.const (.int .i64 1)) x23 (.int .i64 1)) fun x32 =>
  F12_lrlrr inv k j x10 x31.1 x21 x22 x32 x31.2 ke0))
  (ke0 x10 x11 unk x21 x22 x23 x24 unk h)
theorem F12_lrlrr_j (j : Nat) : kLoop (kCode env 12 false inv k (cp c12 116)) j (act 38 [(10,x10),(11,x11),(21,x21),(22,x22),(23,x23)]) h K = F12_lrlrr inv k j x10 x11 x21 x22 x23 h (fun y10 y11 y13 y21 y22 y23 y24 y28 h=>K (.exit 0) (act 38 [(10,y10),(11,y11),(13,y13),(21,y21),(22,y22),(23,y23),(24,y24),(28,y28)]) h):=by
   induction j generalizing x10 x11 x21 x22 x23 h with
   | zero=>rfl
   | succ j ih =>
    unfold F12_lrlrr
    simp only [kLoop,kq_seq c12 116,r12_3,kq_seq c12 233,b12_lrllrlrr,kq_skip c12 932,kq_seq c12 467,kq_block c12 934 1,kq_seq c12 1868,r12_4,kq_seq c12 3737,kq_seq c12 7474,r12_5,b12_rlrllrrllrlrr,kq_exit c12 29898 0,kq_skip c12 29899,r12_6,r12_7,kq_exit c12 933 0,ih,reduceIte,reduceCtorEq,XE.exit.injEq,Nat.reduceEqDiff,Nat.reduceMul,Nat.reduceAdd] <;> kernel_rfl
theorem F12_lrlrr_eq  : kCode env 12 false inv k (cp c12 58) (act 38 [(10,x10),(11,x11),(21,x21),(22,x22),(23,x23)]) h K = F12_lrlrr inv k k x10 x11 x21 x22 x23 h (fun y10 y11 y13 y21 y22 y23 y24 y28 h=>K (.exit 0) (act 38 [(10,y10),(11,y11),(13,y13),(21,y21),(22,y22),(23,y23),(24,y24),(28,y28)]) h):=kq_loop (F12_lrlrr_j k)
noncomputable def F12_rlrr {β : Type} (inv : Inv) (k : Nat) (x10 x11 x21 x22 x23 : Value) (h : AH) (kn : (Value→Value→Value→Value→Value→Value→Value→Value→AH→Option β)) : Option β :=
  F12_lrlrr inv k k x10 x11 x21 x22 x23 h
  (fun y10 y11 y13 y21 y22 y23 y24 y28 h =>
  kn y10 y11 y13 y21 y22 y23 y24 y28 h)
theorem F12_rlrr_eq  : kCode env 12 false inv k (cp c12 29) (act 38 [(10,x10),(11,x11),(21,x21),(22,x22),(23,x23)]) h K = F12_rlrr inv k x10 x11 x21 x22 x23 h (fun y10 y11 y13 y21 y22 y23 y24 y28 h=>K .normal (act 38 [(10,y10),(11,y11),(13,y13),(21,y21),(22,y22),(23,y23),(24,y24),(28,y28)]) h):=by
   unfold F12_rlrr
   simp only [kq_block c12 29 0,F12_lrlrr_eq,reduceIte,reduceCtorEq,XE.exit.injEq,Nat.reduceEqDiff,Nat.reduceMul,Nat.reduceAdd] <;> kernel_rfl
theorem r12_8  : kCode env 12 false inv k (cp c12 60) (act 38 [(10,x10),(11,x11),(13,x13),(21,x21),(22,x22),(23,x23),(24,x24),(28,x28)]) h K =
  bnd (pBin Try.prog .neq 31 (.tmp 33) (.const (.int .i64 0)) x11 (.int .i64 0)) fun x34 =>
  K .normal (act 38 [(10,x10),(11,x11),(34,x34)]) h:=kq_reg
theorem b12_rlrrr  : kCode env 12 false inv k (cp c12 61) (act 38 [(10,x10),(11,x11),(34,x34)]) h K = brV x34 (kCode env 12 false inv k (cp c12 122) (act 38 [(10,x10),(11,x11),(34,x34)]) h K) (kCode env 12 false inv k (cp c12 123) (act 38 [(10,x10),(11,x11),(34,x34)]) h K):=kq_cond
theorem r12_9  : kCode env 12 false inv k (cp c12 244) (act 38 [(10,x10),(11,x11),(34,x34)]) h K =
  K .normal (act 38 [(8,(.slice none 0 0)),(9,x11)]) h:=kq_reg
theorem res12_0 : resOfFn env.P 12 .ret (act 38 [(8,x8),(9,x9)]) h = some (.tuple #[x8,x9],h):=kq_res
theorem r12_10  : kCode env 12 false inv k (cp c12 62) (act 38 [(10,x10),(11,x11),(34,x34)]) h K =
  bnd (inv (.func 24) #[] #[x10] h) fun x37 =>
  K .normal (act 38 [(8,x37.1),(9,(.int .i64 0))]) x37.2:=kq_reg
/-- shadowbook/agg.Of -/
noncomputable def F12 (inv : Inv) (k : Nat) (x0 x1 x2 x3 : Value) (h : AH) : Option (Value × AH) :=
  bnd (inv (.func 18) #[] #[x0,x2,x3] h) fun x18 =>
  bnd (pExtract x18.1 0) fun x19 =>
  bnd (pExtract x18.1 1) fun x20 =>
  bnd (pLen Try.prog #[23] x1 x18.2) fun x22 =>
  F12_rlrr inv k x19 x20 x1 x22 (.int .i64 0) x18.2
  (fun y10 y11 y13 y21 y22 y23 y24 y28 h =>
  bnd (pBin Try.prog .neq 31 (.tmp 33) (.const (.int .i64 0)) y11 (.int .i64 0)) fun x34 =>
  brV x34
  (some (.tuple #[(.slice none 0 0),y11],h))
  (bnd (inv (.func 24) #[] #[y10] h) fun x37 =>
  some (.tuple #[x37.1,(.int .i64 0)],x37.2)))
theorem F12_eq : eFun env k inv 12 #[x0,x1,x2,x3] h = F12 inv k x0 x1 x2 x3 h:=by
   refine (kq_fun (a:=act 38 [(0,x0),(1,x1),(2,x2),(3,x3)]) (c:=cp c12 1)).trans ?_
   unfold F12
   simp only [kq_seq c12 1,r12_0,kq_seq c12 3,r12_1,kq_seq c12 7,kq_seq c12 14,r12_2,F12_rlrr_eq,kq_seq c12 15,kq_seq c12 30,r12_8,b12_rlrrr,kq_seq c12 122,r12_9,kq_ret c12 245,res12_0,kq_skip c12 123,kq_seq c12 31,r12_10,kq_ret c12 63,reduceIte,reduceCtorEq,XE.exit.injEq,Nat.reduceEqDiff,Nat.reduceMul,Nat.reduceAdd] <;> kernel_rfl
theorem F12_call : eInv env (k + 1) (.func 12) #[] #[x0,x1,x2,x3] h = F12 (eInv env k) k x0 x1 x2 x3 h:=kq_inv F12_eq
noncomputable def c13 : Code:=codeOf Try.prog 13
theorem r13_0  : kCode env 13 false inv k (cp c13 2) (act 42 [(0,x0),(1,x1)]) h K =
  K .normal (act 42 [(0,x0),(1,x1)]) h:=kq_reg
theorem r13_1  : kCode env 13 false inv k (cp c13 12) (act 42 [(0,x0),(1,x1)]) h K =
  K .normal (act 42 [(0,x0),(1,x1),(5,(.int .i64 0))]) h:=kq_reg
noncomputable abbrev G13_2 {β : Type} (inv : Inv) (x0 x1 x5 : Value) (h : AH) (K : Value→AH→Option β) : Option β :=
  bnd (pLen Try.prog #[34] x0 h) fun x9 =>
  bnd (pBin Try.prog .lss 3 (.tmp 7) (.tmp 9) x5 x9) fun x10 =>
  bnd (gd (some x10) true h (some (x5,h))) fun x12 =>
  bnd (gd (some x10) true x12.2 (some (x1,x12.2))) fun x13 =>
  bnd (gd (some x10) true x13.2 (lt (pLen Try.prog #[34] x13.1 x13.2) x13.2)) fun x14 =>
  bnd (gd (some x10) true x14.2 (lt (pBin Try.prog .lss 3 (.tmp 12) (.tmp 14) x12.1 x14.1) x14.2)) fun x15 =>
  bnd (pickV x10 x15.1 (.bool false)) fun x16 =>
  K (x16) x15.2
theorem r13_2  : kCode env 13 false inv k (cp c13 208) (act 42 [(0,x0),(1,x1),(5,x5)]) h K =
  G13_2 inv x0 x1 x5 h fun y16 h=>K .normal (act 42 [(0,x0),(1,x1),(5,x5),(16,y16)]) h:=kq_reg
theorem b13_rlllrlr  : kCode env 13 false inv k (cp c13 209) (act 42 [(0,x0),(1,x1),(5,x5),(16,x16)]) h K = brV x16 (kCode env 13 false inv k (cp c13 418) (act 42 [(0,x0),(1,x1),(5,x5),(16,x16)]) h K) (kCode env 13 false inv k (cp c13 419) (act 42 [(0,x0),(1,x1),(5,x5),(16,x16)]) h K):=kq_cond
theorem r13_4  : kCode env 13 false inv k (cp c13 840) (act 42 [(0,x0),(1,x1),(5,x5),(16,x16)]) h K =
  bnd (pIndexAddr Try.prog 34 x0 x5) fun x21 =>
  bnd (pLoad Try.prog 37 x21 h) fun x22 =>
  bnd (pIndexAddr Try.prog 34 x1 x5) fun x25 =>
  bnd (pLoad Try.prog 37 x25 h) fun x26 =>
  bnd (inv (.func 14) #[] #[x22,x26] h) fun x27 =>
  K .normal (act 42 [(0,x0),(1,x1),(5,x5),(6,x27.1)]) x27.2:=kq_draw
theorem r13_5  : kCode env 13 false inv k (cp c13 1682) (act 42 [(0,x0),(1,x1),(5,x5),(6,x6)]) h K =
  bnd (pBin Try.prog .neq 3 (.tmp 28) (.const (.int .i64 0)) x6 (.int .i64 0)) fun x29 =>
  K .normal (act 42 [(0,x0),(1,x1),(5,x5),(6,x6),(29,x29)]) h:=kq_reg
theorem b13_rrllrllrlr  : kCode env 13 false inv k (cp c13 1683) (act 42 [(0,x0),(1,x1),(5,x5),(6,x6),(29,x29)]) h K = brV x29 (kCode env 13 false inv k (cp c13 3366) (act 42 [(0,x0),(1,x1),(5,x5),(6,x6),(29,x29)]) h K) (kCode env 13 false inv k (cp c13 3367) (act 42 [(0,x0),(1,x1),(5,x5),(6,x6),(29,x29)]) h K):=kq_cond
theorem r13_6  : kCode env 13 false inv k (cp c13 6732) (act 42 [(0,x0),(1,x1),(5,x5),(6,x6),(29,x29)]) h K =
  K .normal (act 42 [(4,x6)]) h:=kq_reg
theorem r13_3  : kCode env 13 false inv k (cp c13 211) (act 42 [(0,x0),(1,x1),(5,x5),(6,x6),(29,x29)]) h K =
  bnd (pBin Try.prog .add 3 (.tmp 17) (.const (.int .i64 1)) x5 (.int .i64 1)) fun x18 =>
  K .normal (act 42 [(0,x0),(1,x1),(5,x18)]) h:=kq_reg
noncomputable def F13_lrlr {β : Type} (inv : Inv) (k : Nat) : Nat→Value→Value→Value→AH→(Value→Value→Value→Value→AH→Option β)→(Value→AH→Option β)→Option β
 | 0,_,_,_,_,_,_=>none
 | j + 1,x0,x1,x5,h,ke0,kr =>
  G13_2 inv x0 x1 x5 h fun y16 h =>
  brV y16
  (bnd (pIndexAddr Try.prog 34 x0 x5) fun x21 =>
  bnd (pLoad Try.prog 37 x21 h) fun x22 =>
  bnd (pIndexAddr Try.prog 34 x1 x5) fun x25 =>
  bnd (pLoad Try.prog 37 x25 h) fun x26 =>
  bnd (inv (.func 14) #[] #[x22,x26] h) fun x27 =>
  bnd (pBin Try.prog .neq 3 (.tmp 28) (.const (.int .i64 0)) x27.1 (.int .i64 0)) fun x29 =>
  brV x29
  (kr x27.1 x27.2)
  (bnd (pBin Try.prog .add 3 (.tmp 17) (.const (.int .i64 1)) x5 (.int .i64 1)) fun x18 =>
  F13_lrlr inv k j x0 x1 x18 x27.2 ke0 kr))
  (ke0 x0 x1 x5 y16 h)
theorem F13_lrlr_j (j : Nat) : kLoop (kCode env 13 false inv k (cp c13 52)) j (act 42 [(0,x0),(1,x1),(5,x5)]) h K = F13_lrlr inv k j x0 x1 x5 h (fun y0 y1 y5 y16 h=>K (.exit 0) (act 42 [(0,y0),(1,y1),(5,y5),(16,y16)]) h) (fun y4 h=>K .ret (act 42 [(4,y4)]) h):=by
   induction j generalizing x0 x1 x5 h with
   | zero=>rfl
   | succ j ih =>
    unfold F13_lrlr
    simp only [kLoop,kq_seq c13 52,kq_seq c13 104,r13_2,b13_rlllrlr,kq_skip c13 418,kq_seq c13 105,kq_block c13 210 1,kq_seq c13 420,r13_4,kq_seq c13 841,r13_5,b13_rrllrllrlr,kq_seq c13 3366,r13_6,kq_ret c13 6733,kq_skip c13 3367,r13_3,kq_exit c13 419 0,ih,reduceIte,reduceCtorEq,XE.exit.injEq,Nat.reduceEqDiff,Nat.reduceMul,Nat.reduceAdd] <;> kernel_rfl
theorem F13_lrlr_eq  : kCode env 13 false inv k (cp c13 26) (act 42 [(0,x0),(1,x1),(5,x5)]) h K = F13_lrlr inv k k x0 x1 x5 h (fun y0 y1 y5 y16 h=>K (.exit 0) (act 42 [(0,y0),(1,y1),(5,y5),(16,y16)]) h) (fun y4 h=>K .ret (act 42 [(4,y4)]) h):=kq_loop (F13_lrlr_j k)
theorem r13_7  : kCode env 13 false inv k (cp c13 14) (act 42 [(0,x0),(1,x1),(5,x5),(16,x16)]) h K =
  bnd (pLen Try.prog #[34] x0 h) fun x32 =>
  bnd (pLen Try.prog #[34] x1 h) fun x34 =>
  bnd (pBin Try.prog .lss 3 (.tmp 32) (.tmp 34) x32 x34) fun x35 =>
  bnd (pLen Try.prog #[34] x0 h) fun x37 =>
  bnd (pLen Try.prog #[34] x1 h) fun x39 =>
  bnd (pBin Try.prog .gtr 3 (.tmp 37) (.tmp 39) x37 x39) fun x40 =>
  bnd (inv (.func 35) #[] #[x35,x40] h) fun x41 =>
  K .normal (act 42 [(4,x41.1)]) x41.2:=kq_reg
theorem res13_0 : resOfFn env.P 13 .ret (act 42 [(4,x4)]) h = some (x4,h):=kq_res
/-- shadowbook/shadowbookref16.Rows -/
noncomputable def F13 (inv : Inv) (k : Nat) (x0 x1 : Value) (h : AH) : Option (Value × AH) :=
  F13_lrlr inv k k x0 x1 (.int .i64 0) h
  (fun y0 y1 y5 y16 h =>
  bnd (pLen Try.prog #[34] y0 h) fun x32 =>
  bnd (pLen Try.prog #[34] y1 h) fun x34 =>
  bnd (pBin Try.prog .lss 3 (.tmp 32) (.tmp 34) x32 x34) fun x35 =>
  bnd (pLen Try.prog #[34] y0 h) fun x37 =>
  bnd (pLen Try.prog #[34] y1 h) fun x39 =>
  bnd (pBin Try.prog .gtr 3 (.tmp 37) (.tmp 39) x37 x39) fun x40 =>
  bnd (inv (.func 35) #[] #[x35,x40] h) fun x41 =>
  some (x41.1,x41.2))
  (fun y4 h_1 =>
  some (y4,h_1))
theorem F13_eq : eFun env k inv 13 #[x0,x1] h = F13 inv k x0 x1 h:=by
   refine (kq_fun (a:=act 42 [(0,x0),(1,x1)]) (c:=cp c13 1)).trans ?_
   unfold F13
   simp only [kq_seq c13 1,r13_0,kq_seq c13 3,kq_seq c13 6,r13_1,kq_block c13 13 0,F13_lrlr_eq,kq_seq c13 7,r13_7,kq_ret c13 15,res13_0,reduceIte,reduceCtorEq,XE.exit.injEq,Nat.reduceEqDiff,Nat.reduceMul,Nat.reduceAdd] <;> kernel_rfl
theorem F13_call : eInv env (k + 1) (.func 13) #[] #[x0,x1] h = F13 (eInv env k) k x0 x1 h:=kq_inv F13_eq
noncomputable def c14 : Code:=codeOf Try.prog 14
theorem r14_0  : kCode env 14 false inv k (cp c14 2) (act 40 [(0,x0),(1,x1)]) h K =
  bnd (pBox Try.prog 37 x0 h) fun x2 =>
  bnd (pBox Try.prog 37 x1 x2.2) fun x3 =>
  K .normal (act 40 [(2,x2.1),(3,x3.1)]) x3.2:=kq_reg
theorem r14_1  : kCode env 14 false inv k (cp c14 24) (act 40 [(2,x2),(3,x3)]) h K =
  bnd (pFieldAddr Try.prog 37 x2 0) fun x6 =>
  bnd (pLoad Try.prog 3 x6 h) fun x7 =>
  bnd (pFieldAddr Try.prog 37 x3 0) fun x8 =>
  bnd (pLoad Try.prog 3 x8 h) fun x9 =>
  bnd (pBin Try.prog .neq 3 (.tmp 7) (.tmp 9) x7 x9) fun x10 =>
  K .normal (act 40 [(2,x2),(3,x3),(5,x10)]) h:=kq_reg
theorem b14_rllr  : kCode env 14 false inv k (cp c14 25) (act 40 [(2,x2),(3,x3),(5,x5)]) h K = brV x5 (kCode env 14 false inv k (cp c14 50) (act 40 [(2,x2),(3,x3),(5,x5)]) h K) (kCode env 14 false inv k (cp c14 51) (act 40 [(2,x2),(3,x3),(5,x5)]) h K):=kq_cond
theorem r14_2  : kCode env 14 false inv k (cp c14 100) (act 40 [(2,x2),(3,x3),(5,x5)]) h K =
  bnd (pFieldAddr Try.prog 37 x2 0) fun x11 =>
  bnd (pLoad Try.prog 3 x11 h) fun x12 =>
  bnd (pFieldAddr Try.prog 37 x3 0) fun x13 =>
  bnd (pLoad Try.prog 3 x13 h) fun x14 =>
  bnd (pBin Try.prog .lss 3 (.tmp 12) (.tmp 14) x12 x14) fun x15 =>
  bnd (inv (.func 35) #[] #[x15,(.bool true)] h) fun x16 =>
  K .normal (act 40 [(4,x16.1)]) x16.2:=kq_reg
theorem res14_0 : resOfFn env.P 14 .ret (act 40 [(4,x4)]) h = some (x4,h):=kq_res
theorem r14_3  : kCode env 14 false inv k (cp c14 102) (act 40 [(2,x2),(3,x3),(5,x5)]) h K =
  bnd (pFieldAddr Try.prog 37 x2 1) fun x18 =>
  bnd (pLoad Try.prog 2 x18 h) fun x19 =>
  bnd (pFieldAddr Try.prog 37 x3 1) fun x20 =>
  bnd (pLoad Try.prog 2 x20 h) fun x21 =>
  bnd (pBin Try.prog .neq 2 (.tmp 19) (.tmp 21) x19 x21) fun x22 =>
  K .normal (act 40 [(2,x2),(3,x3),(17,x22)]) h:=kq_reg
theorem b14_rrrllr  : kCode env 14 false inv k (cp c14 103) (act 40 [(2,x2),(3,x3),(17,x17)]) h K = brV x17 (kCode env 14 false inv k (cp c14 206) (act 40 [(2,x2),(3,x3),(17,x17)]) h K) (kCode env 14 false inv k (cp c14 207) (act 40 [(2,x2),(3,x3),(17,x17)]) h K):=kq_cond
theorem r14_4  : kCode env 14 false inv k (cp c14 412) (act 40 [(2,x2),(3,x3),(17,x17)]) h K =
  bnd (pFieldAddr Try.prog 37 x2 1) fun x23 =>
  bnd (pLoad Try.prog 2 x23 h) fun x24 =>
  bnd (pFieldAddr Try.prog 37 x3 1) fun x25 =>
  bnd (pLoad Try.prog 2 x25 h) fun x26 =>
  bnd (pBin Try.prog .lss 2 (.tmp 24) (.tmp 26) x24 x26) fun x27 =>
  bnd (inv (.func 35) #[] #[x27,(.bool true)] h) fun x28 =>
  K .normal (act 40 [(4,x28.1)]) x28.2:=kq_reg
noncomputable abbrev G14_5 {β : Type} (inv : Inv) (x2 x3 : Value) (h : AH) (K : Value→AH→Option β) : Option β :=
  bnd (pFieldAddr Try.prog 37 x2 2) fun x29 =>
  bnd (pLoad Try.prog 9 x29 h) fun x30 =>
  bnd (pFieldAddr Try.prog 37 x3 2) fun x31 =>
  bnd (pLoad Try.prog 9 x31 h) fun x32 =>
  bnd (pBin Try.prog .lss 9 (.tmp 30) (.tmp 32) x30 x32) fun x33 =>
  bnd (pFieldAddr Try.prog 37 x2 2) fun x34 =>
  bnd (pLoad Try.prog 9 x34 h) fun x35 =>
  bnd (pFieldAddr Try.prog 37 x3 2) fun x36 =>
  bnd (pLoad Try.prog 9 x36 h) fun x37 =>
  bnd (pBin Try.prog .gtr 9 (.tmp 35) (.tmp 37) x35 x37) fun x38 =>
  bnd (inv (.func 35) #[] #[x33,x38] h) fun x39 =>
  K (x39.1) x39.2
theorem r14_5  : kCode env 14 false inv k (cp c14 14) (act 40 [(2,x2),(3,x3),(17,x17)]) h K =
  G14_5 inv x2 x3 h fun y4 h=>K .normal (act 40 [(4,y4)]) h:=kq_reg
/-- shadowbook/shadowbookref16.Compare -/
noncomputable def F14 (inv : Inv) (k : Nat) (x0 x1 : Value) (h : AH) : Option (Value × AH) :=
  bnd (pBox Try.prog 37 x0 h) fun x2 =>
  bnd (pBox Try.prog 37 x1 x2.2) fun x3 =>
  bnd (pFieldAddr Try.prog 37 x2.1 0) fun x6 =>
  bnd (pLoad Try.prog 3 x6 x3.2) fun x7 =>
  bnd (pFieldAddr Try.prog 37 x3.1 0) fun x8 =>
  bnd (pLoad Try.prog 3 x8 x3.2) fun x9 =>
  bnd (pBin Try.prog .neq 3 (.tmp 7) (.tmp 9) x7 x9) fun x10 =>
  brV x10
  (bnd (pFieldAddr Try.prog 37 x2.1 0) fun x11 =>
  bnd (pLoad Try.prog 3 x11 x3.2) fun x12 =>
  bnd (pFieldAddr Try.prog 37 x3.1 0) fun x13 =>
  bnd (pLoad Try.prog 3 x13 x3.2) fun x14 =>
  bnd (pBin Try.prog .lss 3 (.tmp 12) (.tmp 14) x12 x14) fun x15 =>
  bnd (inv (.func 35) #[] #[x15,(.bool true)] x3.2) fun x16 =>
  some (x16.1,x16.2))
  (bnd (pFieldAddr Try.prog 37 x2.1 1) fun x18 =>
  bnd (pLoad Try.prog 2 x18 x3.2) fun x19 =>
  bnd (pFieldAddr Try.prog 37 x3.1 1) fun x20 =>
  bnd (pLoad Try.prog 2 x20 x3.2) fun x21 =>
  bnd (pBin Try.prog .neq 2 (.tmp 19) (.tmp 21) x19 x21) fun x22 =>
  brV x22
  (bnd (pFieldAddr Try.prog 37 x2.1 1) fun x23 =>
  bnd (pLoad Try.prog 2 x23 x3.2) fun x24 =>
  bnd (pFieldAddr Try.prog 37 x3.1 1) fun x25 =>
  bnd (pLoad Try.prog 2 x25 x3.2) fun x26 =>
  bnd (pBin Try.prog .lss 2 (.tmp 24) (.tmp 26) x24 x26) fun x27 =>
  bnd (inv (.func 35) #[] #[x27,(.bool true)] x3.2) fun x28 =>
  some (x28.1,x28.2))
  (G14_5 inv x2.1 x3.1 x3.2 fun y4 h =>
  some (y4,h)))
theorem F14_eq : eFun env k inv 14 #[x0,x1] h = F14 inv k x0 x1 h:=by
   refine (kq_fun (a:=act 40 [(0,x0),(1,x1)]) (c:=cp c14 1)).trans ?_
   unfold F14
   simp only [kq_seq c14 1,r14_0,kq_seq c14 3,kq_block c14 6 0,kq_seq c14 12,r14_1,b14_rllr,kq_seq c14 50,r14_2,kq_ret c14 101,res14_0,kq_seq c14 51,r14_3,b14_rrrllr,kq_seq c14 206,r14_4,kq_ret c14 413,kq_skip c14 207,kq_seq c14 7,r14_5,kq_ret c14 15,reduceIte,reduceCtorEq,XE.exit.injEq,Nat.reduceEqDiff,Nat.reduceMul,Nat.reduceAdd] <;> kernel_rfl
theorem F14_call : eInv env (k + 1) (.func 14) #[] #[x0,x1] h = F14 (eInv env k) k x0 x1 h:=kq_inv F14_eq
noncomputable def c15 : Code:=codeOf Try.prog 15
theorem r15_0  : kCode env 15 false inv k (cp c15 2) (act 41 [(0,x0),(1,x1)]) h K =
  K .normal (act 41 [(0,x0),(1,x1)]) h:=kq_reg
theorem r15_1  : kCode env 15 false inv k (cp c15 6) (act 41 [(0,x0),(1,x1)]) h K =
  K .normal (act 41 [(0,x0),(1,x1),(5,(.slice none 0 0))]) h:=kq_reg
theorem r15_2  : kCode env 15 false inv k (cp c15 28) (act 41 [(0,x0),(1,x1),(5,x5)]) h K =
  K .normal (act 41 [(0,x0),(1,x1),(5,x5),(6,(.int .i64 0))]) h:=kq_reg
theorem r15_3  : kCode env 15 false inv k (cp c15 464) (act 41 [(0,x0),(1,x1),(5,x5),(6,x6)]) h K =
  bnd (pLen Try.prog #[24] x1 h) fun x10 =>
  bnd (pBin Try.prog .lss 3 (.tmp 8) (.tmp 10) x6 x10) fun x11 =>
  K .normal (act 41 [(0,x0),(1,x1),(5,x5),(6,x6),(11,x11)]) h:=kq_reg
theorem b15_rlllrlrr  : kCode env 15 false inv k (cp c15 465) (act 41 [(0,x0),(1,x1),(5,x5),(6,x6),(11,x11)]) h K = brV x11 (kCode env 15 false inv k (cp c15 930) (act 41 [(0,x0),(1,x1),(5,x5),(6,x6),(11,x11)]) h K) (kCode env 15 false inv k (cp c15 931) (act 41 [(0,x0),(1,x1),(5,x5),(6,x6),(11,x11)]) h K):=kq_cond
theorem r15_5  : kCode env 15 false inv k (cp c15 1864) (act 41 [(0,x0),(1,x1),(5,x5),(6,x6),(11,x11)]) h K =
  bnd (pBuild Try.prog 37 #[]) fun x14 =>
  bnd (pAlloc Try.prog 37 h) fun x7 =>
  bnd (kSt (pStore Try.prog 37 x7.1 x14 x7.2)) fun u =>
  K .normal (act 41 [(0,x0),(1,x1),(5,x5),(6,x6),(7,x7.1)]) u.2:=kq_reg
noncomputable abbrev G15_6 {β : Type} (inv : Inv) (x0 x1 x5 x6 x7 : Value) (h : AH) (K : Value→AH→Option β) : Option β :=
  bnd (pIndexAddr Try.prog 24 x1 x6) fun x17 =>
  bnd (pLoad Try.prog 3 x17 h) fun x18 =>
  bnd (pBin Try.prog .geq 3 (.tmp 18) (.const (.int .i64 0)) x18 (.int .i64 0)) fun x19 =>
  bnd (gd (some x19) true h (some (x1,h))) fun x21 =>
  bnd (gd (some x19) true x21.2 (some (x6,x21.2))) fun x22 =>
  bnd (gd (some x19) true x22.2 (lt (pIndexAddr Try.prog 24 x21.1 x22.1) x22.2)) fun x23 =>
  bnd (gd (some x19) true x23.2 (lt (pLoad Try.prog 3 x23.1 x23.2) x23.2)) fun x24 =>
  bnd (gd (some x19) true x24.2 (some (x0,x24.2))) fun x25 =>
  bnd (gd (some x19) true x25.2 (lt (pLen Try.prog #[34] x25.1 x25.2) x25.2)) fun x26 =>
  bnd (gd (some x19) true x26.2 (lt (pBin Try.prog .lss 3 (.tmp 24) (.tmp 26) x24.1 x26.1) x26.2)) fun x27 =>
  bnd (pickV x19 x27.1 (.bool false)) fun x28 =>
  K (x28) x27.2
theorem r15_6  : kCode env 15 false inv k (cp c15 7460) (act 41 [(0,x0),(1,x1),(5,x5),(6,x6),(7,x7)]) h K =
  G15_6 inv x0 x1 x5 x6 x7 h fun y28 h=>K .normal (act 41 [(0,x0),(1,x1),(5,x5),(6,x6),(7,x7),(28,y28)]) h:=kq_reg
theorem b15_rlrllrllrlrr  : kCode env 15 false inv k (cp c15 7461) (act 41 [(0,x0),(1,x1),(5,x5),(6,x6),(7,x7),(28,x28)]) h K = brV x28 (kCode env 15 false inv k (cp c15 14922) (act 41 [(0,x0),(1,x1),(5,x5),(6,x6),(7,x7),(28,x28)]) h K) (kCode env 15 false inv k (cp c15 14923) (act 41 [(0,x0),(1,x1),(5,x5),(6,x6),(7,x7),(28,x28)]) h K):=kq_cond
theorem r15_7  : kCode env 15 false inv k (cp c15 14922) (act 41 [(0,x0),(1,x1),(5,x5),(6,x6),(7,x7),(28,x28)]) h K =
  bnd (pIndexAddr Try.prog 24 x1 x6) fun x32 =>
  bnd (pLoad Try.prog 3 x32 h) fun x33 =>
  bnd (pIndexAddr Try.prog 34 x0 x33) fun x34 =>
  bnd (pLoad Try.prog 37 x34 h) fun x35 =>
  bnd (kSt (pStore Try.prog 37 x7 x35 h)) fun u =>
  K .normal (act 41 [(0,x0),(1,x1),(5,x5),(6,x6),(7,x7)]) u.2:=kq_reg
noncomputable def F15_rlrllrllrlrr {β : Type} (inv : Inv) (k : Nat) (x0 x1 x5 x6 x7 x28 : Value) (h : AH) (kn : (Value→Value→Value→Value→Value→Value→AH→Option β)) : Option β :=
  brV x28
  (bnd (pIndexAddr Try.prog 24 x1 x6) fun x32 =>
  bnd (pLoad Try.prog 3 x32 h) fun x33 =>
  bnd (pIndexAddr Try.prog 34 x0 x33) fun x34 =>
  bnd (pLoad Try.prog 37 x34 h) fun x35 =>
  bnd (kSt (pStore Try.prog 37 x7 x35 h)) fun u =>
  kn x0 x1 x5 x6 x7 unk u.2)
  (kn x0 x1 x5 x6 x7 x28 h)
theorem F15_rlrllrllrlrr_eq  : kCode env 15 false inv k (cp c15 7461) (act 41 [(0,x0),(1,x1),(5,x5),(6,x6),(7,x7),(28,x28)]) h K = F15_rlrllrllrlrr inv k x0 x1 x5 x6 x7 x28 h (fun y0 y1 y5 y6 y7 y28 h=>K .normal (act 41 [(0,y0),(1,y1),(5,y5),(6,y6),(7,y7),(28,y28)]) h):=by
   unfold F15_rlrllrllrlrr
   simp only [b15_rlrllrllrlrr,r15_7,kq_skip c15 14923,reduceIte,reduceCtorEq,XE.exit.injEq,Nat.reduceEqDiff,Nat.reduceMul,Nat.reduceAdd] <;> kernel_rfl
theorem r15_8  : kCode env 15 false inv k (cp c15 3731) (act 41 [(0,x0),(1,x1),(5,x5),(6,x6),(7,x7),(28,x28)]) h K =
  bnd (pLoad Try.prog 37 x7 h) fun x37 =>
  bnd (pBuildSlice Try.prog 34 1 #[(0,x37)] h) fun x38 =>
  bnd (pAppend Try.prog #[34,34] x5 x38.1 x38.2) fun x39 =>
  K .normal (act 41 [(0,x0),(1,x1),(5,x39.1),(6,x6)]) x39.2:=kq_reg
theorem r15_4  : kCode env 15 false inv k (cp c15 467) (act 41 [(0,x0),(1,x1),(5,x5),(6,x6)]) h K =
  bnd (pBin Try.prog .add 3 (.tmp 12) (.const (.int .i64 1)) x6 (.int .i64 1)) fun x13 =>
  K .normal (act 41 [(0,x0),(1,x1),(5,x5),(6,x13)]) h:=kq_reg
noncomputable def F15_lrlrr {β : Type} (inv : Inv) (k : Nat) : Nat→Value→Value→Value→Value→AH→(Value→Value→Value→Value→Value→AH→Option β)→Option β
 | 0,_,_,_,_,_,_=>none
 | j + 1,x0,x1,x5,x6,h,ke0 =>
  bnd (pLen Try.prog #[24] x1 h) fun x10 =>
  bnd (pBin Try.prog .lss 3 (.tmp 8) (.tmp 10) x6 x10) fun x11 =>
  brV x11
  (bnd (pBuild Try.prog 37 #[]) fun x14 =>
  bnd (pAlloc Try.prog 37 h) fun x7 =>
  bnd (kSt (pStore Try.prog 37 x7.1 x14 x7.2)) fun u =>
  G15_6 inv x0 x1 x5 x6 x7.1 u.2 fun y28 h =>
  F15_rlrllrllrlrr inv k x0 x1 x5 x6 x7.1 y28 h
  (fun y0 y1 y5 y6 y7 y28_1 h_2 =>
  bnd (pLoad Try.prog 37 y7 h_2) fun x37 =>
  bnd (pBuildSlice Try.prog 34 1 #[(0,x37)] h_2) fun x38 =>
  bnd (pAppend Try.prog #[34,34] y5 x38.1 x38.2) fun x39 =>
  bnd (pBin Try.prog .add 3 (.tmp 12) (.const (.int .i64 1)) y6 (.int .i64 1)) fun x13 =>
  F15_lrlrr inv k j y0 y1 x39.1 x13 x39.2 ke0))
  (ke0 x0 x1 x5 x6 x11 h)
theorem F15_lrlrr_j (j : Nat) : kLoop (kCode env 15 false inv k (cp c15 116)) j (act 41 [(0,x0),(1,x1),(5,x5),(6,x6)]) h K = F15_lrlrr inv k j x0 x1 x5 x6 h (fun y0 y1 y5 y6 y11 h=>K (.exit 0) (act 41 [(0,y0),(1,y1),(5,y5),(6,y6),(11,y11)]) h):=by
   induction j generalizing x0 x1 x5 x6 h with
   | zero=>rfl
   | succ j ih =>
    unfold F15_lrlrr
    simp only [kLoop,kq_seq c15 116,kq_seq c15 232,r15_3,b15_rlllrlrr,kq_skip c15 930,kq_seq c15 233,kq_block c15 466 1,kq_seq c15 932,r15_5,kq_seq c15 1865,kq_seq c15 3730,r15_6,F15_rlrllrllrlrr_eq,r15_8,r15_4,kq_exit c15 931 0,ih,reduceIte,reduceCtorEq,XE.exit.injEq,Nat.reduceEqDiff,Nat.reduceMul,Nat.reduceAdd] <;> kernel_rfl
theorem F15_lrlrr_eq  : kCode env 15 false inv k (cp c15 58) (act 41 [(0,x0),(1,x1),(5,x5),(6,x6)]) h K = F15_lrlrr inv k k x0 x1 x5 x6 h (fun y0 y1 y5 y6 y11 h=>K (.exit 0) (act 41 [(0,y0),(1,y1),(5,y5),(6,y6),(11,y11)]) h):=kq_loop (F15_lrlrr_j k)
theorem r15_9  : kCode env 15 false inv k (cp c15 30) (act 41 [(0,x0),(1,x1),(5,x5),(6,x6),(11,x11)]) h K =
  K .normal (act 41 [(4,x5)]) h:=kq_reg
theorem res15_0 : resOfFn env.P 15 .ret (act 41 [(4,x4)]) h = some (x4,h):=kq_res
/-- shadowbook/shadowbookref17.Pick -/
noncomputable def F15 (inv : Inv) (k : Nat) (x0 x1 : Value) (h : AH) : Option (Value × AH) :=
  F15_lrlrr inv k k x0 x1 (.slice none 0 0) (.int .i64 0) h
  (fun y0 y1 y5 y6 y11 h =>
  some (y5,h))
theorem F15_eq : eFun env k inv 15 #[x0,x1] h = F15 inv k x0 x1 h:=by
   refine (kq_fun (a:=act 41 [(0,x0),(1,x1)]) (c:=cp c15 1)).trans ?_
   unfold F15
   simp only [kq_seq c15 1,r15_0,kq_seq c15 3,r15_1,kq_seq c15 7,kq_seq c15 14,r15_2,kq_block c15 29 0,F15_lrlrr_eq,kq_seq c15 15,r15_9,kq_ret c15 31,res15_0,reduceIte,reduceCtorEq,XE.exit.injEq,Nat.reduceEqDiff,Nat.reduceMul,Nat.reduceAdd] <;> kernel_rfl
theorem F15_call : eInv env (k + 1) (.func 15) #[] #[x0,x1] h = F15 (eInv env k) k x0 x1 h:=kq_inv F15_eq
noncomputable def c16 : Code:=codeOf Try.prog 16
theorem r16_0  : kCode env 16 false inv k (cp c16 2) (act 53 [(0,x0),(1,x1)]) h K =
  K .normal (act 53 [(0,x0),(1,x1)]) h:=kq_reg
theorem r16_1  : kCode env 16 false inv k (cp c16 12) (act 53 [(0,x0),(1,x1)]) h K =
  bnd (pLen Try.prog #[23] x0 h) fun x8 =>
  bnd (pLen Try.prog #[23] x1 h) fun x10 =>
  bnd (pBin Try.prog .neq 3 (.tmp 8) (.tmp 10) x8 x10) fun x11 =>
  K .normal (act 53 [(0,x0),(1,x1),(11,x11)]) h:=kq_reg
theorem b16_rlr  : kCode env 16 false inv k (cp c16 13) (act 53 [(0,x0),(1,x1),(11,x11)]) h K = brV x11 (kCode env 16 false inv k (cp c16 26) (act 53 [(0,x0),(1,x1),(11,x11)]) h K) (kCode env 16 false inv k (cp c16 27) (act 53 [(0,x0),(1,x1),(11,x11)]) h K):=kq_cond
theorem r16_2  : kCode env 16 false inv k (cp c16 52) (act 53 [(0,x0),(1,x1),(11,x11)]) h K =
  K .normal (act 53 [(4,(.bool false))]) h:=kq_reg
theorem res16_0 : resOfFn env.P 16 .ret (act 53 [(4,x4)]) h = some (x4,h):=kq_res
theorem r16_3  : kCode env 16 false inv k (cp c16 28) (act 53 [(0,x0),(1,x1),(11,x11)]) h K =
  K .normal (act 53 [(0,x0),(1,x1),(5,(.int .i64 0))]) h:=kq_reg
theorem r16_4  : kCode env 16 false inv k (cp c16 464) (act 53 [(0,x0),(1,x1),(5,x5)]) h K =
  bnd (pLen Try.prog #[23] x0 h) fun x14 =>
  bnd (pBin Try.prog .lss 3 (.tmp 12) (.tmp 14) x5 x14) fun x15 =>
  K .normal (act 53 [(0,x0),(1,x1),(5,x5),(15,x15)]) h:=kq_reg
theorem b16_rlllrlrr  : kCode env 16 false inv k (cp c16 465) (act 53 [(0,x0),(1,x1),(5,x5),(15,x15)]) h K = brV x15 (kCode env 16 false inv k (cp c16 930) (act 53 [(0,x0),(1,x1),(5,x5),(15,x15)]) h K) (kCode env 16 false inv k (cp c16 931) (act 53 [(0,x0),(1,x1),(5,x5),(15,x15)]) h K):=kq_cond
theorem r16_6  : kCode env 16 false inv k (cp c16 3728) (act 53 [(0,x0),(1,x1),(5,x5),(15,x15)]) h K =
  bnd (pIndexAddr Try.prog 23 x0 x5) fun x20 =>
  bnd (pLoad Try.prog 34 x20 h) fun x21 =>
  bnd (pLen Try.prog #[34] x21 h) fun x22 =>
  bnd (pIndexAddr Try.prog 23 x1 x5) fun x25 =>
  bnd (pLoad Try.prog 34 x25 h) fun x26 =>
  bnd (pLen Try.prog #[34] x26 h) fun x27 =>
  bnd (pBin Try.prog .neq 3 (.tmp 22) (.tmp 27) x22 x27) fun x28 =>
  K .normal (act 53 [(0,x0),(1,x1),(5,x5),(28,x28)]) h:=kq_draw
theorem b16_rlllrllrlrr  : kCode env 16 false inv k (cp c16 3729) (act 53 [(0,x0),(1,x1),(5,x5),(28,x28)]) h K = brV x28 (kCode env 16 false inv k (cp c16 7458) (act 53 [(0,x0),(1,x1),(5,x5),(28,x28)]) h K) (kCode env 16 false inv k (cp c16 7459) (act 53 [(0,x0),(1,x1),(5,x5),(28,x28)]) h K):=kq_cond
theorem r16_7  : kCode env 16 false inv k (cp c16 14916) (act 53 [(0,x0),(1,x1),(5,x5),(28,x28)]) h K =
  K .normal (act 53 [(4,(.bool false))]) h:=kq_reg
theorem r16_8  : kCode env 16 false inv k (cp c16 3730) (act 53 [(0,x0),(1,x1),(5,x5),(28,x28)]) h K =
  K .normal (act 53 [(0,x0),(1,x1),(5,x5),(6,(.int .i64 0))]) h:=kq_reg
theorem r16_9  : kCode env 16 false inv k (cp c16 59696) (act 53 [(0,x0),(1,x1),(5,x5),(6,x6)]) h K =
  bnd (pIndexAddr Try.prog 23 x0 x5) fun x32 =>
  bnd (pLoad Try.prog 34 x32 h) fun x33 =>
  bnd (pLen Try.prog #[34] x33 h) fun x34 =>
  bnd (pBin Try.prog .lss 3 (.tmp 29) (.tmp 34) x6 x34) fun x35 =>
  K .normal (act 53 [(0,x0),(1,x1),(5,x5),(6,x6),(35,x35)]) h:=kq_reg
theorem b16_rlllrrllrllrlrr  : kCode env 16 false inv k (cp c16 59697) (act 53 [(0,x0),(1,x1),(5,x5),(6,x6),(35,x35)]) h K = brV x35 (kCode env 16 false inv k (cp c16 119394) (act 53 [(0,x0),(1,x1),(5,x5),(6,x6),(35,x35)]) h K) (kCode env 16 false inv k (cp c16 119395) (act 53 [(0,x0),(1,x1),(5,x5),(6,x6),(35,x35)]) h K):=kq_cond
noncomputable abbrev G16_11 {β : Type} (inv : Inv) (x0 x1 x5 x6 : Value) (h : AH) (K : Value→AH→Option β) : Option β :=
  bnd (pIndexAddr Try.prog 23 x0 x5) fun x40 =>
  bnd (pLoad Try.prog 34 x40 h) fun x41 =>
  bnd (pIndexAddr Try.prog 34 x41 x6) fun x43 =>
  bnd (pLoad Try.prog 37 x43 h) fun x44 =>
  bnd (pIndexAddr Try.prog 23 x1 x5) fun x47 =>
  bnd (pLoad Try.prog 34 x47 h) fun x48 =>
  bnd (pIndexAddr Try.prog 34 x48 x6) fun x50 =>
  bnd (pLoad Try.prog 37 x50 h) fun x51 =>
  bnd (pBin Try.prog .neq 37 (.tmp 44) (.tmp 51) x44 x51) fun x52 =>
  K (x52) h
theorem r16_11  : kCode env 16 false inv k (cp c16 238792) (act 53 [(0,x0),(1,x1),(5,x5),(6,x6),(35,x35)]) h K =
  G16_11 inv x0 x1 x5 x6 h fun y52 h=>K .normal (act 53 [(0,x0),(1,x1),(5,x5),(6,x6),(52,y52)]) h:=kq_draw
theorem b16_rllrllrrllrllrlrr  : kCode env 16 false inv k (cp c16 238793) (act 53 [(0,x0),(1,x1),(5,x5),(6,x6),(52,x52)]) h K = brV x52 (kCode env 16 false inv k (cp c16 477586) (act 53 [(0,x0),(1,x1),(5,x5),(6,x6),(52,x52)]) h K) (kCode env 16 false inv k (cp c16 477587) (act 53 [(0,x0),(1,x1),(5,x5),(6,x6),(52,x52)]) h K):=kq_cond
theorem r16_12  : kCode env 16 false inv k (cp c16 955172) (act 53 [(0,x0),(1,x1),(5,x5),(6,x6),(52,x52)]) h K =
  K .normal (act 53 [(4,(.bool false))]) h:=kq_reg
theorem r16_10  : kCode env 16 false inv k (cp c16 59699) (act 53 [(0,x0),(1,x1),(5,x5),(6,x6),(52,x52)]) h K =
  bnd (pBin Try.prog .add 3 (.tmp 36) (.const (.int .i64 1)) x6 (.int .i64 1)) fun x37 =>
  K .normal (act 53 [(0,x0),(1,x1),(5,x5),(6,x37)]) h:=kq_reg
noncomputable def F16_lrrllrllrlrr {β : Type} (inv : Inv) (k : Nat) : Nat→Value→Value→Value→Value→AH→(Value→Value→Value→Value→Value→AH→Option β)→(Value→AH→Option β)→Option β
 | 0,_,_,_,_,_,_,_=>none
 | j + 1,x0,x1,x5,x6,h,ke2,kr =>
  bnd (pIndexAddr Try.prog 23 x0 x5) fun x32 =>
  bnd (pLoad Try.prog 34 x32 h) fun x33 =>
  bnd (pLen Try.prog #[34] x33 h) fun x34 =>
  bnd (pBin Try.prog .lss 3 (.tmp 29) (.tmp 34) x6 x34) fun x35 =>
  brV x35
  (G16_11 inv x0 x1 x5 x6 h fun y52 h =>
  brV y52
  (kr (.bool false) h)
  (bnd (pBin Try.prog .add 3 (.tmp 36) (.const (.int .i64 1)) x6 (.int .i64 1)) fun x37 =>
  F16_lrrllrllrlrr inv k j x0 x1 x5 x37 h ke2 kr))
  (ke2 x0 x1 x5 x6 x35 h)
theorem F16_lrrllrllrlrr_j (j : Nat) : kLoop (kCode env 16 false inv k (cp c16 14924)) j (act 53 [(0,x0),(1,x1),(5,x5),(6,x6)]) h K = F16_lrrllrllrlrr inv k j x0 x1 x5 x6 h (fun y0 y1 y5 y6 y35 h=>K (.exit 2) (act 53 [(0,y0),(1,y1),(5,y5),(6,y6),(35,y35)]) h) (fun y4 h=>K .ret (act 53 [(4,y4)]) h):=by
   induction j generalizing x0 x1 x5 x6 h with
   | zero=>rfl
   | succ j ih =>
    unfold F16_lrrllrllrlrr
    simp only [kLoop,kq_seq c16 14924,kq_seq c16 29848,r16_9,b16_rlllrrllrllrlrr,kq_skip c16 119394,kq_seq c16 29849,kq_block c16 59698 3,kq_seq c16 119396,r16_11,b16_rllrllrrllrllrlrr,kq_seq c16 477586,r16_12,kq_ret c16 955173,kq_skip c16 477587,r16_10,kq_exit c16 119395 2,ih,reduceIte,reduceCtorEq,XE.exit.injEq,Nat.reduceEqDiff,Nat.reduceMul,Nat.reduceAdd] <;> kernel_rfl
theorem F16_lrrllrllrlrr_eq  : kCode env 16 false inv k (cp c16 7462) (act 53 [(0,x0),(1,x1),(5,x5),(6,x6)]) h K = F16_lrrllrllrlrr inv k k x0 x1 x5 x6 h (fun y0 y1 y5 y6 y35 h=>K (.exit 2) (act 53 [(0,y0),(1,y1),(5,y5),(6,y6),(35,y35)]) h) (fun y4 h=>K .ret (act 53 [(4,y4)]) h):=kq_loop (F16_lrrllrllrlrr_j k)
theorem r16_5  : kCode env 16 false inv k (cp c16 467) (act 53 [(0,x0),(1,x1),(5,x5),(6,x6),(35,x35)]) h K =
  bnd (pBin Try.prog .add 3 (.tmp 16) (.const (.int .i64 1)) x5 (.int .i64 1)) fun x17 =>
  K .normal (act 53 [(0,x0),(1,x1),(5,x17)]) h:=kq_reg
noncomputable def F16_lrlrr {β : Type} (inv : Inv) (k : Nat) : Nat→Value→Value→Value→AH→(Value→Value→Value→Value→AH→Option β)→(Value→AH→Option β)→Option β
 | 0,_,_,_,_,_,_=>none
 | j + 1,x0,x1,x5,h,ke0,kr =>
  bnd (pLen Try.prog #[23] x0 h) fun x14 =>
  bnd (pBin Try.prog .lss 3 (.tmp 12) (.tmp 14) x5 x14) fun x15 =>
  brV x15
  (bnd (pIndexAddr Try.prog 23 x0 x5) fun x20 =>
  bnd (pLoad Try.prog 34 x20 h) fun x21 =>
  bnd (pLen Try.prog #[34] x21 h) fun x22 =>
  bnd (pIndexAddr Try.prog 23 x1 x5) fun x25 =>
  bnd (pLoad Try.prog 34 x25 h) fun x26 =>
  bnd (pLen Try.prog #[34] x26 h) fun x27 =>
  bnd (pBin Try.prog .neq 3 (.tmp 22) (.tmp 27) x22 x27) fun x28 =>
  brV x28
  (kr (.bool false) h)
  (F16_lrrllrllrlrr inv k k x0 x1 x5 (.int .i64 0) h
  (fun y0 y1 y5 y6 y35 h =>
  bnd (pBin Try.prog .add 3 (.tmp 16) (.const (.int .i64 1)) y5 (.int .i64 1)) fun x17 =>
  F16_lrlrr inv k j y0 y1 x17 h ke0 kr)
  (fun y4 h_1 =>
  kr y4 h_1)))
  (ke0 x0 x1 x5 x15 h)
theorem F16_lrlrr_j (j : Nat) : kLoop (kCode env 16 false inv k (cp c16 116)) j (act 53 [(0,x0),(1,x1),(5,x5)]) h K = F16_lrlrr inv k j x0 x1 x5 h (fun y0 y1 y5 y15 h=>K (.exit 0) (act 53 [(0,y0),(1,y1),(5,y5),(15,y15)]) h) (fun y4 h=>K .ret (act 53 [(4,y4)]) h):=by
   induction j generalizing x0 x1 x5 h with
   | zero=>rfl
   | succ j ih =>
    unfold F16_lrlrr
    simp only [kLoop,kq_seq c16 116,kq_seq c16 232,r16_4,b16_rlllrlrr,kq_skip c16 930,kq_seq c16 233,kq_block c16 466 1,kq_seq c16 932,kq_seq c16 1864,r16_6,b16_rlllrllrlrr,kq_seq c16 7458,r16_7,kq_ret c16 14917,kq_skip c16 7459,kq_seq c16 1865,r16_8,kq_block c16 3731 2,F16_lrrllrllrlrr_eq,r16_5,kq_exit c16 931 0,ih,reduceIte,reduceCtorEq,XE.exit.injEq,Nat.reduceEqDiff,Nat.reduceMul,Nat.reduceAdd] <;> kernel_rfl
theorem F16_lrlrr_eq  : kCode env 16 false inv k (cp c16 58) (act 53 [(0,x0),(1,x1),(5,x5)]) h K = F16_lrlrr inv k k x0 x1 x5 h (fun y0 y1 y5 y15 h=>K (.exit 0) (act 53 [(0,y0),(1,y1),(5,y5),(15,y15)]) h) (fun y4 h=>K .ret (act 53 [(4,y4)]) h):=kq_loop (F16_lrlrr_j k)
theorem r16_13  : kCode env 16 false inv k (cp c16 30) (act 53 [(0,x0),(1,x1),(5,x5),(15,x15)]) h K =
  K .normal (act 53 [(4,(.bool true))]) h:=kq_reg
/-- shadowbook/shadowbookkit.SameRows -/
noncomputable def F16 (inv : Inv) (k : Nat) (x0 x1 : Value) (h : AH) : Option (Value × AH) :=
  bnd (pLen Try.prog #[23] x0 h) fun x8 =>
  bnd (pLen Try.prog #[23] x1 h) fun x10 =>
  bnd (pBin Try.prog .neq 3 (.tmp 8) (.tmp 10) x8 x10) fun x11 =>
  brV x11
  (some ((.bool false),h))
  (F16_lrlrr inv k k x0 x1 (.int .i64 0) h
  (fun y0 y1 y5 y15 h =>
  some ((.bool true),h))
  (fun y4 h_2 =>
  some (y4,h_2)))
theorem F16_eq : eFun env k inv 16 #[x0,x1] h = F16 inv k x0 x1 h:=by
   refine (kq_fun (a:=act 53 [(0,x0),(1,x1)]) (c:=cp c16 1)).trans ?_
   unfold F16
   simp only [kq_seq c16 1,r16_0,kq_seq c16 3,kq_seq c16 6,r16_1,b16_rlr,kq_seq c16 26,r16_2,kq_ret c16 53,res16_0,kq_skip c16 27,kq_seq c16 7,kq_seq c16 14,r16_3,kq_block c16 29 0,F16_lrlrr_eq,kq_seq c16 15,r16_13,kq_ret c16 31,reduceIte,reduceCtorEq,XE.exit.injEq,Nat.reduceEqDiff,Nat.reduceMul,Nat.reduceAdd] <;> kernel_rfl
theorem F16_call : eInv env (k + 1) (.func 16) #[] #[x0,x1] h = F16 (eInv env k) k x0 x1 h:=kq_inv F16_eq
noncomputable def c17 : Code:=codeOf Try.prog 17
theorem r17_0  : kCode env 17 false inv k (cp c17 2) (act 39 [(0,x0),(1,x1),(2,x2),(3,x3)]) h K =
  K .normal (act 39 [(0,x0),(1,x1),(2,x2),(3,x3)]) h:=kq_reg
theorem r17_1  : kCode env 17 false inv k (cp c17 6) (act 39 [(0,x0),(1,x1),(2,x2),(3,x3)]) h K =
  bnd (inv (.func 19) #[] #[x0,x2,x3] h) fun x15 =>
  K .normal (act 39 [(0,x0),(1,x1),(2,x2),(3,x3),(10,x15.1)]) x15.2:=kq_reg
theorem r17_2  : kCode env 17 false inv k (cp c17 28) (act 39 [(0,x0),(1,x1),(2,x2),(3,x3),(10,x10)]) h K =
  K .normal (act 39 [(0,x0),(1,x1),(2,x2),(3,x3),(10,x10),(11,(.int .i64 0))]) h:=kq_reg
noncomputable abbrev G17_3 {β : Type} (inv : Inv) (x0 x1 x2 x3 x10 x11 : Value) (h : AH) (K : Value→AH→Option β) : Option β :=
  bnd (pLen Try.prog #[23] x1 h) fun x18 =>
  bnd (pBin Try.prog .lss 3 (.tmp 16) (.tmp 18) x11 x18) fun x19 =>
  bnd (gd (some x19) true h (some (x10,h))) fun x21 =>
  bnd (gd (some x19) true x21.2 (lt (pBin Try.prog .eql 31 (.tmp 21) (.const (.int .i64 0)) x21.1 (.int .i64 0)) x21.2)) fun x22 =>
  bnd (pickV x19 x22.1 (.bool false)) fun x23 =>
  K (x23) x22.2
theorem r17_3  : kCode env 17 false inv k (cp c17 464) (act 39 [(0,x0),(1,x1),(2,x2),(3,x3),(10,x10),(11,x11)]) h K =
  G17_3 inv x0 x1 x2 x3 x10 x11 h fun y23 h=>K .normal (act 39 [(0,x0),(1,x1),(2,x2),(3,x3),(10,x10),(11,x11),(23,y23)]) h:=kq_reg
theorem b17_rlllrlrr  : kCode env 17 false inv k (cp c17 465) (act 39 [(0,x0),(1,x1),(2,x2),(3,x3),(10,x10),(11,x11),(23,x23)]) h K = brV x23 (kCode env 17 false inv k (cp c17 930) (act 39 [(0,x0),(1,x1),(2,x2),(3,x3),(10,x10),(11,x11),(23,x23)]) h K) (kCode env 17 false inv k (cp c17 931) (act 39 [(0,x0),(1,x1),(2,x2),(3,x3),(10,x10),(11,x11),(23,x23)]) h K):=kq_cond
theorem r17_5  : kCode env 17 false inv k (cp c17 932) (act 39 [(0,x0),(1,x1),(2,x2),(3,x3),(10,x10),(11,x11),(23,x23)]) h K =
  bnd (pIndexAddr Try.prog 23 x1 x11) fun x29 =>
  bnd (pLoad Try.prog 34 x29 h) fun x30 =>
  bnd (inv (.func 22) #[] #[x0,x30] h) fun x31 =>
  K .normal (act 39 [(0,x0),(1,x1),(2,x2),(3,x3),(10,x31.1),(11,x11)]) x31.2:=kq_reg
theorem r17_4  : kCode env 17 false inv k (cp c17 467) (act 39 [(0,x0),(1,x1),(2,x2),(3,x3),(10,x10),(11,x11)]) h K =
  bnd (pBin Try.prog .add 3 (.tmp 24) (.const (.int .i64 1)) x11 (.int .i64 1)) fun x25 =>
  K .normal (act 39 [(0,x0),(1,x1),(2,x2),(3,x3),(10,x10),(11,x25)]) h:=kq_reg
noncomputable def F17_lrlrr {β : Type} (inv : Inv) (k : Nat) : Nat→Value→Value→Value→Value→Value→Value→AH→(Value→Value→Value→Value→Value→Value→Value→AH→Option β)→Option β
 | 0,_,_,_,_,_,_,_,_=>none
 | j + 1,x0,x1,x2,x3,x10,x11,h,ke0 =>
  G17_3 inv x0 x1 x2 x3 x10 x11 h fun y23 h =>
  brV y23
  (bnd (pIndexAddr Try.prog 23 x1 x11) fun x29 =>
  bnd (pLoad Try.prog 34 x29 h) fun x30 =>
  bnd (inv (.func 22) #[] #[x0,x30] h) fun x31 =>
  bnd (pBin Try.prog .add 3 (.tmp 24) (.const (.int .i64 1)) x11 (.int .i64 1)) fun x25 =>
  F17_lrlrr inv k j x0 x1 x2 x3 x31.1 x25 x31.2 ke0)
  (ke0 x0 x1 x2 x3 x10 x11 y23 h)
theorem F17_lrlrr_j (j : Nat) : kLoop (kCode env 17 false inv k (cp c17 116)) j (act 39 [(0,x0),(1,x1),(2,x2),(3,x3),(10,x10),(11,x11)]) h K = F17_lrlrr inv k j x0 x1 x2 x3 x10 x11 h (fun y0 y1 y2 y3 y10 y11 y23 h=>K (.exit 0) (act 39 [(0,y0),(1,y1),(2,y2),(3,y3),(10,y10),(11,y11),(23,y23)]) h):=by
   induction j generalizing x0 x1 x2 x3 x10 x11 h with
   | zero=>rfl
   | succ j ih =>
    unfold F17_lrlrr
    simp only [kLoop,kq_seq c17 116,kq_seq c17 232,r17_3,b17_rlllrlrr,kq_skip c17 930,kq_seq c17 233,kq_block c17 466 1,r17_5,r17_4,kq_exit c17 931 0,ih,reduceIte,reduceCtorEq,XE.exit.injEq,Nat.reduceEqDiff,Nat.reduceMul,Nat.reduceAdd] <;> kernel_rfl
theorem F17_lrlrr_eq  : kCode env 17 false inv k (cp c17 58) (act 39 [(0,x0),(1,x1),(2,x2),(3,x3),(10,x10),(11,x11)]) h K = F17_lrlrr inv k k x0 x1 x2 x3 x10 x11 h (fun y0 y1 y2 y3 y10 y11 y23 h=>K (.exit 0) (act 39 [(0,y0),(1,y1),(2,y2),(3,y3),(10,y10),(11,y11),(23,y23)]) h):=kq_loop (F17_lrlrr_j k)
theorem r17_6  : kCode env 17 false inv k (cp c17 60) (act 39 [(0,x0),(1,x1),(2,x2),(3,x3),(10,x10),(11,x11),(23,x23)]) h K =
  bnd (pBin Try.prog .neq 31 (.tmp 32) (.const (.int .i64 0)) x10 (.int .i64 0)) fun x33 =>
  K .normal (act 39 [(1,x1),(2,x2),(3,x3),(10,x10),(33,x33)]) h:=kq_reg
theorem b17_rlrrr  : kCode env 17 false inv k (cp c17 61) (act 39 [(1,x1),(2,x2),(3,x3),(10,x10),(33,x33)]) h K = brV x33 (kCode env 17 false inv k (cp c17 122) (act 39 [(1,x1),(2,x2),(3,x3),(10,x10),(33,x33)]) h K) (kCode env 17 false inv k (cp c17 123) (act 39 [(1,x1),(2,x2),(3,x3),(10,x10),(33,x33)]) h K):=kq_cond
theorem r17_7  : kCode env 17 false inv k (cp c17 244) (act 39 [(1,x1),(2,x2),(3,x3),(10,x10),(33,x33)]) h K =
  K .normal (act 39 [(8,(.slice none 0 0)),(9,x10)]) h:=kq_reg
theorem res17_0 : resOfFn env.P 17 .ret (act 39 [(8,x8),(9,x9)]) h = some (.tuple #[x8,x9],h):=kq_res
theorem r17_8  : kCode env 17 false inv k (cp c17 62) (act 39 [(1,x1),(2,x2),(3,x3),(10,x10),(33,x33)]) h K =
  bnd (inv (.func 25) #[] #[x1,x2,x3] h) fun x38 =>
  K .normal (act 39 [(8,x38.1),(9,(.int .i64 0))]) x38.2:=kq_reg
/-- shadowbook/shadowbookref20.Of -/
noncomputable def F17 (inv : Inv) (k : Nat) (x0 x1 x2 x3 : Value) (h : AH) : Option (Value × AH) :=
  bnd (inv (.func 19) #[] #[x0,x2,x3] h) fun x15 =>
  F17_lrlrr inv k k x0 x1 x2 x3 x15.1 (.int .i64 0) x15.2
  (fun y0 y1 y2 y3 y10 y11 y23 h =>
  bnd (pBin Try.prog .neq 31 (.tmp 32) (.const (.int .i64 0)) y10 (.int .i64 0)) fun x33 =>
  brV x33
  (some (.tuple #[(.slice none 0 0),y10],h))
  (bnd (inv (.func 25) #[] #[y1,y2,y3] h) fun x38 =>
  some (.tuple #[x38.1,(.int .i64 0)],x38.2)))
theorem F17_eq : eFun env k inv 17 #[x0,x1,x2,x3] h = F17 inv k x0 x1 x2 x3 h:=by
   refine (kq_fun (a:=act 39 [(0,x0),(1,x1),(2,x2),(3,x3)]) (c:=cp c17 1)).trans ?_
   unfold F17
   simp only [kq_seq c17 1,r17_0,kq_seq c17 3,r17_1,kq_seq c17 7,kq_seq c17 14,r17_2,kq_block c17 29 0,F17_lrlrr_eq,kq_seq c17 15,kq_seq c17 30,r17_6,b17_rlrrr,kq_seq c17 122,r17_7,kq_ret c17 245,res17_0,kq_skip c17 123,kq_seq c17 31,r17_8,kq_ret c17 63,reduceIte,reduceCtorEq,XE.exit.injEq,Nat.reduceEqDiff,Nat.reduceMul,Nat.reduceAdd] <;> kernel_rfl
theorem F17_call : eInv env (k + 1) (.func 17) #[] #[x0,x1,x2,x3] h = F17 (eInv env k) k x0 x1 x2 x3 h:=kq_inv F17_eq
noncomputable def c18 : Code:=codeOf Try.prog 18
theorem r18_0  : kCode env 18 false inv k (cp c18 2) (act 32 [(0,x0),(1,x1),(2,x2)]) h K =
  K .normal (act 32 [(0,x0),(1,x1),(2,x2)]) h:=kq_reg
theorem r18_1  : kCode env 18 false inv k (cp c18 12) (act 32 [(0,x0),(1,x1),(2,x2)]) h K =
  bnd (inv (.func 20) #[] #[x0,x1,x2] h) fun x13 =>
  K .normal (act 32 [(0,x0),(1,x1),(2,x2),(8,x13.1)]) x13.2:=kq_reg
theorem r18_2  : kCode env 18 false inv k (cp c18 26) (act 32 [(0,x0),(1,x1),(2,x2),(8,x8)]) h K =
  bnd (pBin Try.prog .neq 31 (.tmp 14) (.const (.int .i64 0)) x8 (.int .i64 0)) fun x15 =>
  K .normal (act 32 [(0,x0),(1,x1),(2,x2),(8,x8),(15,x15)]) h:=kq_reg
theorem b18_rrlr  : kCode env 18 false inv k (cp c18 27) (act 32 [(0,x0),(1,x1),(2,x2),(8,x8),(15,x15)]) h K = brV x15 (kCode env 18 false inv k (cp c18 54) (act 32 [(0,x0),(1,x1),(2,x2),(8,x8),(15,x15)]) h K) (kCode env 18 false inv k (cp c18 55) (act 32 [(0,x0),(1,x1),(2,x2),(8,x8),(15,x15)]) h K):=kq_cond
theorem r18_3  : kCode env 18 false inv k (cp c18 108) (act 32 [(0,x0),(1,x1),(2,x2),(8,x8),(15,x15)]) h K =
  K .normal (act 32 [(6,(.pointer none)),(7,x8)]) h:=kq_reg
theorem res18_0 : resOfFn env.P 18 .ret (act 32 [(6,x6),(7,x7)]) h = some (.tuple #[x6,x7],h):=kq_res
theorem r18_4  : kCode env 18 false inv k (cp c18 14) (act 32 [(0,x0),(1,x1),(2,x2),(8,x8),(15,x15)]) h K =
  bnd (inv (.func 36) #[] #[x0] h) fun x18 =>
  bnd (inv (.func 37) #[] #[x1] x18.2) fun x20 =>
  bnd (inv (.func 38) #[] #[x2] x20.2) fun x22 =>
  bnd (pMakeMap Try.prog 67 none x22.2) fun x23 =>
  bnd (pBuild Try.prog 69 #[(0,x18.1),(1,x20.1),(2,x22.1),(3,x23.1)]) fun x24 =>
  bnd (pBox Try.prog 69 x24 x23.2) fun x25 =>
  K .normal (act 32 [(1,x1),(9,x25.1)]) x25.2:=kq_reg
theorem r18_5  : kCode env 18 false inv k (cp c18 60) (act 32 [(1,x1),(9,x9)]) h K =
  bnd (pLen Try.prog #[24] x1 h) fun x27 =>
  bnd (pBin Try.prog .eql 3 (.tmp 27) (.const (.int .i64 0)) x27 (.int .i64 0)) fun x28 =>
  K .normal (act 32 [(9,x9),(28,x28)]) h:=kq_reg
theorem b18_rlrrr  : kCode env 18 false inv k (cp c18 61) (act 32 [(9,x9),(28,x28)]) h K = brV x28 (kCode env 18 false inv k (cp c18 122) (act 32 [(9,x9),(28,x28)]) h K) (kCode env 18 false inv k (cp c18 123) (act 32 [(9,x9),(28,x28)]) h K):=kq_cond
theorem r18_6  : kCode env 18 false inv k (cp c18 122) (act 32 [(9,x9),(28,x28)]) h K =
  bnd (inv (.func 39) #[] #[x9,(.slice none 0 0)] h) fun x30 =>
  K .normal (act 32 [(9,x9)]) x30.2:=kq_reg
noncomputable def F18_rlrrr {β : Type} (inv : Inv) (k : Nat) (x9 x28 : Value) (h : AH) (kn : (Value→Value→AH→Option β)) : Option β :=
  brV x28
  (bnd (inv (.func 39) #[] #[x9,(.slice none 0 0)] h) fun x30 =>
  kn x9 unk x30.2)
  (kn x9 x28 h)
theorem F18_rlrrr_eq  : kCode env 18 false inv k (cp c18 61) (act 32 [(9,x9),(28,x28)]) h K = F18_rlrrr inv k x9 x28 h (fun y9 y28 h=>K .normal (act 32 [(9,y9),(28,y28)]) h):=by
   unfold F18_rlrrr
   simp only [b18_rlrrr,r18_6,kq_skip c18 123,reduceIte,reduceCtorEq,XE.exit.injEq,Nat.reduceEqDiff,Nat.reduceMul,Nat.reduceAdd] <;> kernel_rfl
theorem r18_7  : kCode env 18 false inv k (cp c18 62) (act 32 [(9,x9),(28,x28)]) h K =
  K .normal (act 32 [(6,x9),(7,(.int .i64 0))]) h:=kq_reg
/-- shadowbook/agg.New -/
noncomputable def F18 (inv : Inv) (k : Nat) (x0 x1 x2 : Value) (h : AH) : Option (Value × AH) :=
  bnd (inv (.func 20) #[] #[x0,x1,x2] h) fun x13 =>
  bnd (pBin Try.prog .neq 31 (.tmp 14) (.const (.int .i64 0)) x13.1 (.int .i64 0)) fun x15 =>
  brV x15
  (some (.tuple #[(.pointer none),x13.1],x13.2))
  (bnd (inv (.func 36) #[] #[x0] x13.2) fun x18 =>
  bnd (inv (.func 37) #[] #[x1] x18.2) fun x20 =>
  bnd (inv (.func 38) #[] #[x2] x20.2) fun x22 =>
  bnd (pMakeMap Try.prog 67 none x22.2) fun x23 =>
  bnd (pBuild Try.prog 69 #[(0,x18.1),(1,x20.1),(2,x22.1),(3,x23.1)]) fun x24 =>
  bnd (pBox Try.prog 69 x24 x23.2) fun x25 =>
  bnd (pLen Try.prog #[24] x1 x25.2) fun x27 =>
  bnd (pBin Try.prog .eql 3 (.tmp 27) (.const (.int .i64 0)) x27 (.int .i64 0)) fun x28 =>
  F18_rlrrr inv k x25.1 x28 x25.2
  (fun y9 y28 h =>
  some (.tuple #[y9,(.int .i64 0)],h)))
theorem F18_eq : eFun env k inv 18 #[x0,x1,x2] h = F18 inv k x0 x1 x2 h:=by
   refine (kq_fun (a:=act 32 [(0,x0),(1,x1),(2,x2)]) (c:=cp c18 1)).trans ?_
   unfold F18
   simp only [kq_seq c18 1,r18_0,kq_seq c18 3,kq_seq c18 6,r18_1,kq_seq c18 13,r18_2,b18_rrlr,kq_seq c18 54,r18_3,kq_ret c18 109,res18_0,kq_skip c18 55,kq_seq c18 7,r18_4,kq_seq c18 15,kq_seq c18 30,r18_5,F18_rlrrr_eq,kq_seq c18 31,r18_7,kq_ret c18 63,reduceIte,reduceCtorEq,XE.exit.injEq,Nat.reduceEqDiff,Nat.reduceMul,Nat.reduceAdd] <;> kernel_rfl
theorem F18_call : eInv env (k + 1) (.func 18) #[] #[x0,x1,x2] h = F18 (eInv env k) k x0 x1 x2 h:=kq_inv F18_eq
noncomputable def c19 : Code:=codeOf Try.prog 19
theorem r19_0  : kCode env 19 false inv k (cp c19 2) (act 122 [(0,x0),(1,x1),(2,x2)]) h K =
  K .normal (act 122 [(0,x0),(1,x1),(2,x2)]) h:=kq_reg
theorem r19_1  : kCode env 19 false inv k (cp c19 6) (act 122 [(0,x0),(1,x1),(2,x2)]) h K =
  bnd (inv (.func 40) #[] #[x0] h) fun x14 =>
  K .normal (act 122 [(0,x0),(1,x1),(2,x2),(7,x14.1)]) x14.2:=kq_reg
theorem r19_2  : kCode env 19 false inv k (cp c19 28) (act 122 [(0,x0),(1,x1),(2,x2),(7,x7)]) h K =
  bnd (pBin Try.prog .neq 31 (.tmp 15) (.const (.int .i64 0)) x7 (.int .i64 0)) fun x16 =>
  K .normal (act 122 [(0,x0),(1,x1),(2,x2),(7,x7),(16,x16)]) h:=kq_reg
theorem b19_rlrr  : kCode env 19 false inv k (cp c19 29) (act 122 [(0,x0),(1,x1),(2,x2),(7,x7),(16,x16)]) h K = brV x16 (kCode env 19 false inv k (cp c19 58) (act 122 [(0,x0),(1,x1),(2,x2),(7,x7),(16,x16)]) h K) (kCode env 19 false inv k (cp c19 59) (act 122 [(0,x0),(1,x1),(2,x2),(7,x7),(16,x16)]) h K):=kq_cond
theorem r19_3  : kCode env 19 false inv k (cp c19 116) (act 122 [(0,x0),(1,x1),(2,x2),(7,x7),(16,x16)]) h K =
  K .normal (act 122 [(6,x7)]) h:=kq_reg
theorem res19_0 : resOfFn env.P 19 .ret (act 122 [(6,x6)]) h = some (x6,h):=kq_res
noncomputable abbrev G19_4 {β : Type} (inv : Inv) (x0 x1 x2 : Value) (h : AH) (K : Value→AH→Option β) : Option β :=
  bnd (pLen Try.prog #[29] x2 h) fun x19 =>
  bnd (pBin Try.prog .lss 3 (.tmp 19) (.const (.int .i64 1)) x19 (.int .i64 1)) fun x20 =>
  bnd (gd (some x20) false h (some (x2,h))) fun x22 =>
  bnd (gd (some x20) false x22.2 (lt (pLen Try.prog #[29] x22.1 x22.2) x22.2)) fun x23 =>
  bnd (gd (some x20) false x23.2 (lt (pBin Try.prog .gtr 3 (.tmp 23) (.const (.int .i64 8)) x23.1 (.int .i64 8)) x23.2)) fun x24 =>
  bnd (pickV x20 (.bool true) x24.1) fun x25 =>
  bnd (gd (some x25) false x24.2 (some (x1,x24.2))) fun x27 =>
  bnd (gd (some x25) false x27.2 (lt (pLen Try.prog #[24] x27.1 x27.2) x27.2)) fun x28 =>
  bnd (gd (some x25) false x28.2 (lt (pBin Try.prog .gtr 3 (.tmp 28) (.const (.int .i64 8)) x28.1 (.int .i64 8)) x28.2)) fun x29 =>
  bnd (pickV x25 (.bool true) x29.1) fun x30 =>
  K (x30) x29.2
theorem r19_4  : kCode env 19 false inv k (cp c19 60) (act 122 [(0,x0),(1,x1),(2,x2),(7,x7),(16,x16)]) h K =
  G19_4 inv x0 x1 x2 h fun y30 h=>K .normal (act 122 [(0,x0),(1,x1),(2,x2),(30,y30)]) h:=kq_reg
theorem b19_rlrrr  : kCode env 19 false inv k (cp c19 61) (act 122 [(0,x0),(1,x1),(2,x2),(30,x30)]) h K = brV x30 (kCode env 19 false inv k (cp c19 122) (act 122 [(0,x0),(1,x1),(2,x2),(30,x30)]) h K) (kCode env 19 false inv k (cp c19 123) (act 122 [(0,x0),(1,x1),(2,x2),(30,x30)]) h K):=kq_cond
theorem r19_5  : kCode env 19 false inv k (cp c19 244) (act 122 [(0,x0),(1,x1),(2,x2),(30,x30)]) h K =
  K .normal (act 122 [(6,(.int .i64 200))]) h:=kq_reg
theorem r19_6  : kCode env 19 false inv k (cp c19 124) (act 122 [(0,x0),(1,x1),(2,x2),(30,x30)]) h K =
  K .normal (act 122 [(0,x0),(1,x1),(2,x2),(8,(.int .i64 0))]) h:=kq_reg
theorem r19_7  : kCode env 19 false inv k (cp c19 2000) (act 122 [(0,x0),(1,x1),(2,x2),(8,x8)]) h K =
  bnd (pLen Try.prog #[24] x1 h) fun x33 =>
  bnd (pBin Try.prog .lss 3 (.tmp 31) (.tmp 33) x8 x33) fun x34 =>
  K .normal (act 122 [(0,x0),(1,x1),(2,x2),(8,x8),(34,x34)]) h:=kq_reg
theorem b19_rlllrlrrrr  : kCode env 19 false inv k (cp c19 2001) (act 122 [(0,x0),(1,x1),(2,x2),(8,x8),(34,x34)]) h K = brV x34 (kCode env 19 false inv k (cp c19 4002) (act 122 [(0,x0),(1,x1),(2,x2),(8,x8),(34,x34)]) h K) (kCode env 19 false inv k (cp c19 4003) (act 122 [(0,x0),(1,x1),(2,x2),(8,x8),(34,x34)]) h K):=kq_cond
noncomputable abbrev G19_9 {β : Type} (inv : Inv) (x0 x1 x2 x8 : Value) (h : AH) (K : Value→AH→Option β) : Option β :=
  bnd (pIndexAddr Try.prog 24 x1 x8) fun x39 =>
  bnd (pLoad Try.prog 3 x39 h) fun x40 =>
  bnd (pBin Try.prog .lss 3 (.tmp 40) (.const (.int .i64 0)) x40 (.int .i64 0)) fun x41 =>
  bnd (gd (some x41) false h (some (x1,h))) fun x43 =>
  bnd (gd (some x41) false x43.2 (some (x8,x43.2))) fun x44 =>
  bnd (gd (some x41) false x44.2 (lt (pIndexAddr Try.prog 24 x43.1 x44.1) x44.2)) fun x45 =>
  bnd (gd (some x41) false x45.2 (lt (pLoad Try.prog 3 x45.1 x45.2) x45.2)) fun x46 =>
  bnd (gd (some x41) false x46.2 (some (x0,x46.2))) fun x47 =>
  bnd (gd (some x41) false x47.2 (lt (pLen Try.prog #[22] x47.1 x47.2) x47.2)) fun x48 =>
  bnd (gd (some x41) false x48.2 (lt (pBin Try.prog .geq 3 (.tmp 46) (.tmp 48) x46.1 x48.1) x48.2)) fun x49 =>
  bnd (pickV x41 (.bool true) x49.1) fun x50 =>
  K (x50) x49.2
theorem r19_9  : kCode env 19 false inv k (cp c19 16016) (act 122 [(0,x0),(1,x1),(2,x2),(8,x8),(34,x34)]) h K =
  G19_9 inv x0 x1 x2 x8 h fun y50 h=>K .normal (act 122 [(0,x0),(1,x1),(2,x2),(8,x8),(50,y50)]) h:=kq_reg
theorem b19_rlllrllrlrrrr  : kCode env 19 false inv k (cp c19 16017) (act 122 [(0,x0),(1,x1),(2,x2),(8,x8),(50,x50)]) h K = brV x50 (kCode env 19 false inv k (cp c19 32034) (act 122 [(0,x0),(1,x1),(2,x2),(8,x8),(50,x50)]) h K) (kCode env 19 false inv k (cp c19 32035) (act 122 [(0,x0),(1,x1),(2,x2),(8,x8),(50,x50)]) h K):=kq_cond
theorem r19_10  : kCode env 19 false inv k (cp c19 64068) (act 122 [(0,x0),(1,x1),(2,x2),(8,x8),(50,x50)]) h K =
  K .normal (act 122 [(6,(.int .i64 200))]) h:=kq_reg
theorem r19_11  : kCode env 19 false inv k (cp c19 16018) (act 122 [(0,x0),(1,x1),(2,x2),(8,x8),(50,x50)]) h K =
  K .normal (act 122 [(0,x0),(1,x1),(2,x2),(8,x8),(9,(.int .i64 0))]) h:=kq_reg
theorem r19_12  : kCode env 19 false inv k (cp c19 256304) (act 122 [(0,x0),(1,x1),(2,x2),(8,x8),(9,x9)]) h K =
  bnd (pBin Try.prog .lss 3 (.tmp 51) (.tmp 52) x9 x8) fun x53 =>
  K .normal (act 122 [(0,x0),(1,x1),(2,x2),(8,x8),(9,x9),(53,x53)]) h:=kq_reg
theorem b19_rlllrrllrllrlrrrr  : kCode env 19 false inv k (cp c19 256305) (act 122 [(0,x0),(1,x1),(2,x2),(8,x8),(9,x9),(53,x53)]) h K = brV x53 (kCode env 19 false inv k (cp c19 512610) (act 122 [(0,x0),(1,x1),(2,x2),(8,x8),(9,x9),(53,x53)]) h K) (kCode env 19 false inv k (cp c19 512611) (act 122 [(0,x0),(1,x1),(2,x2),(8,x8),(9,x9),(53,x53)]) h K):=kq_cond
theorem r19_14  : kCode env 19 false inv k (cp c19 1025224) (act 122 [(0,x0),(1,x1),(2,x2),(8,x8),(9,x9),(53,x53)]) h K =
  bnd (pIndexAddr Try.prog 24 x1 x9) fun x58 =>
  bnd (pLoad Try.prog 3 x58 h) fun x59 =>
  bnd (pIndexAddr Try.prog 24 x1 x8) fun x62 =>
  bnd (pLoad Try.prog 3 x62 h) fun x63 =>
  bnd (pBin Try.prog .eql 3 (.tmp 59) (.tmp 63) x59 x63) fun x64 =>
  K .normal (act 122 [(0,x0),(1,x1),(2,x2),(8,x8),(9,x9),(64,x64)]) h:=kq_draw
theorem b19_rllrllrrllrllrlrrrr  : kCode env 19 false inv k (cp c19 1025225) (act 122 [(0,x0),(1,x1),(2,x2),(8,x8),(9,x9),(64,x64)]) h K = brV x64 (kCode env 19 false inv k (cp c19 2050450) (act 122 [(0,x0),(1,x1),(2,x2),(8,x8),(9,x9),(64,x64)]) h K) (kCode env 19 false inv k (cp c19 2050451) (act 122 [(0,x0),(1,x1),(2,x2),(8,x8),(9,x9),(64,x64)]) h K):=kq_cond
theorem r19_15  : kCode env 19 false inv k (cp c19 4100900) (act 122 [(0,x0),(1,x1),(2,x2),(8,x8),(9,x9),(64,x64)]) h K =
  K .normal (act 122 [(6,(.int .i64 200))]) h:=kq_reg
theorem r19_13  : kCode env 19 false inv k (cp c19 256307) (act 122 [(0,x0),(1,x1),(2,x2),(8,x8),(9,x9),(64,x64)]) h K =
  bnd (pBin Try.prog .add 3 (.tmp 54) (.const (.int .i64 1)) x9 (.int .i64 1)) fun x55 =>
  K .normal (act 122 [(0,x0),(1,x1),(2,x2),(8,x8),(9,x55)]) h:=kq_reg
noncomputable def F19_lrrllrllrlrrrr {β : Type} (inv : Inv) (k : Nat) : Nat→Value→Value→Value→Value→Value→AH→(Value→Value→Value→Value→Value→Value→AH→Option β)→(Value→AH→Option β)→Option β
 | 0,_,_,_,_,_,_,_,_=>none
 | j + 1,x0,x1,x2,x8,x9,h,ke2,kr =>
  bnd (pBin Try.prog .lss 3 (.tmp 51) (.tmp 52) x9 x8) fun x53 =>
  brV x53
  (bnd (pIndexAddr Try.prog 24 x1 x9) fun x58 =>
  bnd (pLoad Try.prog 3 x58 h) fun x59 =>
  bnd (pIndexAddr Try.prog 24 x1 x8) fun x62 =>
  bnd (pLoad Try.prog 3 x62 h) fun x63 =>
  bnd (pBin Try.prog .eql 3 (.tmp 59) (.tmp 63) x59 x63) fun x64 =>
  brV x64
  (kr (.int .i64 200) h)
  (bnd (pBin Try.prog .add 3 (.tmp 54) (.const (.int .i64 1)) x9 (.int .i64 1)) fun x55 =>
  F19_lrrllrllrlrrrr inv k j x0 x1 x2 x8 x55 h ke2 kr))
  (ke2 x0 x1 x2 x8 x9 x53 h)
theorem F19_lrrllrllrlrrrr_j (j : Nat) : kLoop (kCode env 19 false inv k (cp c19 64076)) j (act 122 [(0,x0),(1,x1),(2,x2),(8,x8),(9,x9)]) h K = F19_lrrllrllrlrrrr inv k j x0 x1 x2 x8 x9 h (fun y0 y1 y2 y8 y9 y53 h=>K (.exit 2) (act 122 [(0,y0),(1,y1),(2,y2),(8,y8),(9,y9),(53,y53)]) h) (fun y6 h=>K .ret (act 122 [(6,y6)]) h):=by
   induction j generalizing x0 x1 x2 x8 x9 h with
   | zero=>rfl
   | succ j ih =>
    unfold F19_lrrllrllrlrrrr
    simp only [kLoop,kq_seq c19 64076,kq_seq c19 128152,r19_12,b19_rlllrrllrllrlrrrr,kq_skip c19 512610,kq_seq c19 128153,kq_block c19 256306 3,kq_seq c19 512612,r19_14,b19_rllrllrrllrllrlrrrr,kq_seq c19 2050450,r19_15,kq_ret c19 4100901,kq_skip c19 2050451,r19_13,kq_exit c19 512611 2,ih,reduceIte,reduceCtorEq,XE.exit.injEq,Nat.reduceEqDiff,Nat.reduceMul,Nat.reduceAdd] <;> kernel_rfl
theorem F19_lrrllrllrlrrrr_eq  : kCode env 19 false inv k (cp c19 32038) (act 122 [(0,x0),(1,x1),(2,x2),(8,x8),(9,x9)]) h K = F19_lrrllrllrlrrrr inv k k x0 x1 x2 x8 x9 h (fun y0 y1 y2 y8 y9 y53 h=>K (.exit 2) (act 122 [(0,y0),(1,y1),(2,y2),(8,y8),(9,y9),(53,y53)]) h) (fun y6 h=>K .ret (act 122 [(6,y6)]) h):=kq_loop (F19_lrrllrllrlrrrr_j k)
theorem r19_8  : kCode env 19 false inv k (cp c19 2003) (act 122 [(0,x0),(1,x1),(2,x2),(8,x8),(9,x9),(53,x53)]) h K =
  bnd (pBin Try.prog .add 3 (.tmp 35) (.const (.int .i64 1)) x8 (.int .i64 1)) fun x36 =>
  K .normal (act 122 [(0,x0),(1,x1),(2,x2),(8,x36)]) h:=kq_reg
noncomputable def F19_lrlrrrr {β : Type} (inv : Inv) (k : Nat) : Nat→Value→Value→Value→Value→AH→(Value→Value→Value→Value→Value→AH→Option β)→(Value→AH→Option β)→Option β
 | 0,_,_,_,_,_,_,_=>none
 | j + 1,x0,x1,x2,x8,h,ke0,kr =>
  bnd (pLen Try.prog #[24] x1 h) fun x33 =>
  bnd (pBin Try.prog .lss 3 (.tmp 31) (.tmp 33) x8 x33) fun x34 =>
  brV x34
  (G19_9 inv x0 x1 x2 x8 h fun y50 h =>
  brV y50
  (kr (.int .i64 200) h)
  (F19_lrrllrllrlrrrr inv k k x0 x1 x2 x8 (.int .i64 0) h
  (fun y0 y1 y2 y8 y9 y53 h_1 =>
  bnd (pBin Try.prog .add 3 (.tmp 35) (.const (.int .i64 1)) y8 (.int .i64 1)) fun x36 =>
  F19_lrlrrrr inv k j y0 y1 y2 x36 h_1 ke0 kr)
  (fun y6 h_2 =>
  kr y6 h_2)))
  (ke0 x0 x1 x2 x8 x34 h)
theorem F19_lrlrrrr_j (j : Nat) : kLoop (kCode env 19 false inv k (cp c19 500)) j (act 122 [(0,x0),(1,x1),(2,x2),(8,x8)]) h K = F19_lrlrrrr inv k j x0 x1 x2 x8 h (fun y0 y1 y2 y8 y34 h=>K (.exit 0) (act 122 [(0,y0),(1,y1),(2,y2),(8,y8),(34,y34)]) h) (fun y6 h=>K .ret (act 122 [(6,y6)]) h):=by
   induction j generalizing x0 x1 x2 x8 h with
   | zero=>rfl
   | succ j ih =>
    unfold F19_lrlrrrr
    simp only [kLoop,kq_seq c19 500,kq_seq c19 1000,r19_7,b19_rlllrlrrrr,kq_skip c19 4002,kq_seq c19 1001,kq_block c19 2002 1,kq_seq c19 4004,kq_seq c19 8008,r19_9,b19_rlllrllrlrrrr,kq_seq c19 32034,r19_10,kq_ret c19 64069,kq_skip c19 32035,kq_seq c19 8009,r19_11,kq_block c19 16019 2,F19_lrrllrllrlrrrr_eq,r19_8,kq_exit c19 4003 0,ih,reduceIte,reduceCtorEq,XE.exit.injEq,Nat.reduceEqDiff,Nat.reduceMul,Nat.reduceAdd] <;> kernel_rfl
theorem F19_lrlrrrr_eq  : kCode env 19 false inv k (cp c19 250) (act 122 [(0,x0),(1,x1),(2,x2),(8,x8)]) h K = F19_lrlrrrr inv k k x0 x1 x2 x8 h (fun y0 y1 y2 y8 y34 h=>K (.exit 0) (act 122 [(0,y0),(1,y1),(2,y2),(8,y8),(34,y34)]) h) (fun y6 h=>K .ret (act 122 [(6,y6)]) h):=kq_loop (F19_lrlrrrr_j k)
theorem r19_16  : kCode env 19 false inv k (cp c19 252) (act 122 [(0,x0),(1,x1),(2,x2),(8,x8),(34,x34)]) h K =
  K .normal (act 122 [(0,x0),(2,x2),(10,(.int .i64 0))]) h:=kq_reg
theorem r19_17  : kCode env 19 false inv k (cp c19 4048) (act 122 [(0,x0),(2,x2),(10,x10)]) h K =
  bnd (pLen Try.prog #[29] x2 h) fun x67 =>
  bnd (pBin Try.prog .lss 3 (.tmp 65) (.tmp 67) x10 x67) fun x68 =>
  K .normal (act 122 [(0,x0),(2,x2),(10,x10),(68,x68)]) h:=kq_reg
theorem b19_rlllrlrrrrr  : kCode env 19 false inv k (cp c19 4049) (act 122 [(0,x0),(2,x2),(10,x10),(68,x68)]) h K = brV x68 (kCode env 19 false inv k (cp c19 8098) (act 122 [(0,x0),(2,x2),(10,x10),(68,x68)]) h K) (kCode env 19 false inv k (cp c19 8099) (act 122 [(0,x0),(2,x2),(10,x10),(68,x68)]) h K):=kq_cond
theorem r19_19  : kCode env 19 false inv k (cp c19 16200) (act 122 [(0,x0),(2,x2),(10,x10),(68,x68)]) h K =
  bnd (pIndexAddr Try.prog 29 x2 x10) fun x73 =>
  bnd (pLoad Try.prog 28 x73 h) fun x74 =>
  bnd (pAlloc Try.prog 28 h) fun x11 =>
  bnd (kSt (pStore Try.prog 28 x11.1 x74 x11.2)) fun u =>
  K .normal (act 122 [(0,x0),(2,x2),(10,x10),(11,x11.1)]) u.2:=kq_reg
noncomputable abbrev G19_20 {β : Type} (inv : Inv) (x0 x2 x10 x11 : Value) (h : AH) (K : Value→AH→Option β) : Option β :=
  bnd (pFieldAddr Try.prog 28 x11 1) fun x75 =>
  bnd (pLoad Try.prog 3 x75 h) fun x76 =>
  bnd (pBin Try.prog .geq 3 (.tmp 76) (.const (.int .i64 0)) x76 (.int .i64 0)) fun x77 =>
  bnd (gd (some x77) true h (lt (pFieldAddr Try.prog 28 x11 1) h)) fun x79 =>
  bnd (gd (some x77) true x79.2 (lt (pLoad Try.prog 3 x79.1 x79.2) x79.2)) fun x80 =>
  bnd (gd (some x77) true x80.2 (some (x0,x80.2))) fun x81 =>
  bnd (gd (some x77) true x81.2 (lt (pLen Try.prog #[22] x81.1 x81.2) x81.2)) fun x82 =>
  bnd (gd (some x77) true x82.2 (lt (pBin Try.prog .lss 3 (.tmp 80) (.tmp 82) x80.1 x82.1) x82.2)) fun x83 =>
  bnd (pickV x77 x83.1 (.bool false)) fun x84 =>
  K (x84) x83.2
theorem r19_20  : kCode env 19 false inv k (cp c19 32402) (act 122 [(0,x0),(2,x2),(10,x10),(11,x11)]) h K =
  G19_20 inv x0 x2 x10 x11 h fun y12 h=>K .normal (act 122 [(0,x0),(2,x2),(10,x10),(11,x11),(12,y12)]) h:=kq_reg
noncomputable abbrev G19_22 {β : Type} (inv : Inv) (x0 x2 x10 x11 x12 : Value) (h : AH) (K : Value→AH→Option β) : Option β :=
  bnd (pFieldAddr Try.prog 28 x11 0) fun x86 =>
  bnd (pLoad Try.prog 3 x86 h) fun x87 =>
  bnd (pBin Try.prog .eql 3 (.tmp 87) (.const (.int .i64 1)) x87 (.int .i64 1)) fun x88 =>
  bnd (gd (some x88) true h (lt (pFieldAddr Try.prog 28 x11 1) h)) fun x90 =>
  bnd (gd (some x88) true x90.2 (lt (pLoad Try.prog 3 x90.1 x90.2) x90.2)) fun x91 =>
  bnd (gd (some x88) true x91.2 (lt (pBin Try.prog .eql 3 (.tmp 91) (.const (.int .i64 0)) x91.1 (.int .i64 0)) x91.2)) fun x92 =>
  bnd (pickV x88 x92.1 (.bool false)) fun x93 =>
  K (x93) x92.2
theorem r19_22  : kCode env 19 false inv k (cp c19 129612) (act 122 [(0,x0),(2,x2),(10,x10),(11,x11),(12,x12)]) h K =
  G19_22 inv x0 x2 x10 x11 x12 h fun y85 h=>K .normal (act 122 [(0,x0),(2,x2),(10,x10),(11,x11),(12,x12),(85,y85)]) h:=kq_reg
theorem b19_rlrrllrllrlrrrrr  : kCode env 19 false inv k (cp c19 129613) (act 122 [(0,x0),(2,x2),(10,x10),(11,x11),(12,x12),(85,x85)]) h K = brV x85 (kCode env 19 false inv k (cp c19 259226) (act 122 [(0,x0),(2,x2),(10,x10),(11,x11),(12,x12),(85,x85)]) h K) (kCode env 19 false inv k (cp c19 259227) (act 122 [(0,x0),(2,x2),(10,x10),(11,x11),(12,x12),(85,x85)]) h K):=kq_cond
noncomputable abbrev G19_23 {β : Type} (inv : Inv) (x0 x2 x10 x11 x12 : Value) (h : AH) (K : Value→AH→Option β) : Option β :=
  bnd (pFieldAddr Try.prog 28 x11 0) fun x95 =>
  bnd (pLoad Try.prog 3 x95 h) fun x96 =>
  bnd (pBin Try.prog .eql 3 (.tmp 96) (.const (.int .i64 2)) x96 (.int .i64 2)) fun x97 =>
  bnd (gd (some x97) true h (some (x12,h))) fun x99 =>
  bnd (pickV x97 x99.1 (.bool false)) fun x100 =>
  bnd (gd (some x100) true x99.2 (some (x0,x99.2))) fun x102 =>
  bnd (gd (some x100) true x102.2 (lt (pFieldAddr Try.prog 28 x11 1) x102.2)) fun x103 =>
  bnd (gd (some x100) true x103.2 (lt (pLoad Try.prog 3 x103.1 x103.2) x103.2)) fun x104 =>
  bnd (gd (some x100) true x104.2 (lt (pIndexAddr Try.prog 22 x102.1 x104.1) x104.2)) fun x105 =>
  bnd (gd (some x100) true x105.2 (lt (pFieldAddr Try.prog 42 x105.1 1) x105.2)) fun x106 =>
  bnd (gd (some x100) true x106.2 (lt (pLoad Try.prog 3 x106.1 x106.2) x106.2)) fun x107 =>
  bnd (gd (some x100) true x107.2 (lt (pBin Try.prog .eql 3 (.tmp 107) (.const (.int .i64 1)) x107.1 (.int .i64 1)) x107.2)) fun x108 =>
  bnd (pickV x100 x108.1 (.bool false)) fun x109 =>
  K (x109) x108.2
theorem r19_23  : kCode env 19 false inv k (cp c19 518454) (act 122 [(0,x0),(2,x2),(10,x10),(11,x11),(12,x12),(85,x85)]) h K =
  G19_23 inv x0 x2 x10 x11 x12 h fun y94 h=>K .normal (act 122 [(0,x0),(2,x2),(10,x10),(11,x11),(12,x12),(94,y94)]) h:=kq_reg
theorem b19_rrrlrrllrllrlrrrrr  : kCode env 19 false inv k (cp c19 518455) (act 122 [(0,x0),(2,x2),(10,x10),(11,x11),(12,x12),(94,x94)]) h K = brV x94 (kCode env 19 false inv k (cp c19 1036910) (act 122 [(0,x0),(2,x2),(10,x10),(11,x11),(12,x12),(94,x94)]) h K) (kCode env 19 false inv k (cp c19 1036911) (act 122 [(0,x0),(2,x2),(10,x10),(11,x11),(12,x12),(94,x94)]) h K):=kq_cond
noncomputable abbrev G19_24 {β : Type} (inv : Inv) (x0 x2 x10 x11 x12 : Value) (h : AH) (K : Value→AH→Option β) : Option β :=
  bnd (pFieldAddr Try.prog 28 x11 0) fun x111 =>
  bnd (pLoad Try.prog 3 x111 h) fun x112 =>
  bnd (pBin Try.prog .eql 3 (.tmp 112) (.const (.int .i64 3)) x112 (.int .i64 3)) fun x113 =>
  bnd (gd (some x113) false h (lt (pFieldAddr Try.prog 28 x11 0) h)) fun x115 =>
  bnd (gd (some x113) false x115.2 (lt (pLoad Try.prog 3 x115.1 x115.2) x115.2)) fun x116 =>
  bnd (gd (some x113) false x116.2 (lt (pBin Try.prog .eql 3 (.tmp 116) (.const (.int .i64 4)) x116.1 (.int .i64 4)) x116.2)) fun x117 =>
  bnd (pickV x113 (.bool true) x117.1) fun x118 =>
  bnd (gd (some x118) true x117.2 (some (x12,x117.2))) fun x120 =>
  bnd (pickV x118 x120.1 (.bool false)) fun x121 =>
  K (x121) x120.2
theorem r19_24  : kCode env 19 false inv k (cp c19 2073822) (act 122 [(0,x0),(2,x2),(10,x10),(11,x11),(12,x12),(94,x94)]) h K =
  G19_24 inv x0 x2 x10 x11 x12 h fun y110 h=>K .normal (act 122 [(0,x0),(2,x2),(10,x10),(110,y110)]) h:=kq_reg
theorem b19_rrrrrlrrllrllrlrrrrr  : kCode env 19 false inv k (cp c19 2073823) (act 122 [(0,x0),(2,x2),(10,x10),(110,x110)]) h K = brV x110 (kCode env 19 false inv k (cp c19 4147646) (act 122 [(0,x0),(2,x2),(10,x10),(110,x110)]) h K) (kCode env 19 false inv k (cp c19 4147647) (act 122 [(0,x0),(2,x2),(10,x10),(110,x110)]) h K):=kq_cond
theorem r19_21  : kCode env 19 false inv k (cp c19 8295294) (act 122 [(0,x0),(2,x2),(10,x10),(110,x110)]) h K =
  K .normal (act 122 [(6,(.int .i64 200))]) h:=kq_reg
noncomputable def F19_lrllrlrrrrr {β : Type} (inv : Inv) (k : Nat) (x0 x2 x10 x68 : Value) (h : AH) (kn : (Value→Value→Value→Value→Value→Value→Value→Value→AH→Option β)) (kr : (Value→AH→Option β)) : Option β :=
  bnd (pIndexAddr Try.prog 29 x2 x10) fun x73 =>
  bnd (pLoad Try.prog 28 x73 h) fun x74 =>
  bnd (pAlloc Try.prog 28 h) fun x11 =>
  bnd (kSt (pStore Try.prog 28 x11.1 x74 x11.2)) fun u =>
  G19_20 inv x0 x2 x10 x11.1 u.2 fun y12 h =>
  G19_22 inv x0 x2 x10 x11.1 y12 h fun y85 h_4 =>
  brV y85
  (kn x0 x2 x10 x11.1 y12 y85 unk unk h_4)
  (G19_23 inv x0 x2 x10 x11.1 y12 h_4 fun y94 h_5 =>
  brV y94
  (kn x0 x2 x10 x11.1 y12 unk y94 unk h_5)
  (G19_24 inv x0 x2 x10 x11.1 y12 h_5 fun y110 h_6 =>
  brV y110
  (kn x0 x2 x10 unk unk unk unk y110 h_6)
  (kr (.int .i64 200) h_6)))
theorem F19_lrllrlrrrrr_eq  : kCode env 19 false inv k (cp c19 4050) (act 122 [(0,x0),(2,x2),(10,x10),(68,x68)]) h K = F19_lrllrlrrrrr inv k x0 x2 x10 x68 h (fun y0 y2 y10 y11 y12 y85 y94 y110 h=>K .normal (act 122 [(0,y0),(2,y2),(10,y10),(11,y11),(12,y12),(85,y85),(94,y94),(110,y110)]) h) (fun y6 h=>K .ret (act 122 [(6,y6)]) h):=by
   unfold F19_lrllrlrrrrr
   simp only [kq_block c19 4050 5,kq_seq c19 8100,r19_19,kq_seq c19 16201,r19_20,kq_block c19 32403 6,kq_seq c19 64806,r19_22,b19_rlrrllrllrlrrrrr,kq_skip c19 259226,kq_seq c19 259227,r19_23,b19_rrrlrrllrllrlrrrrr,kq_skip c19 1036910,kq_seq c19 1036911,r19_24,b19_rrrrrlrrllrllrlrrrrr,kq_skip c19 4147646,kq_seq c19 4147647,r19_21,kq_ret c19 8295295,reduceIte,reduceCtorEq,XE.exit.injEq,Nat.reduceEqDiff,Nat.reduceMul,Nat.reduceAdd] <;> kernel_rfl
theorem r19_18  : kCode env 19 false inv k (cp c19 4051) (act 122 [(0,x0),(2,x2),(10,x10),(11,x11),(12,x12),(85,x85),(94,x94),(110,x110)]) h K =
  bnd (pBin Try.prog .add 3 (.tmp 69) (.const (.int .i64 1)) x10 (.int .i64 1)) fun x70 =>
  K .normal (act 122 [(0,x0),(2,x2),(10,x70)]) h:=kq_reg
noncomputable def F19_lrlrrrrr {β : Type} (inv : Inv) (k : Nat) : Nat→Value→Value→Value→AH→(Value→Value→Value→Value→AH→Option β)→(Value→AH→Option β)→Option β
 | 0,_,_,_,_,_,_=>none
 | j + 1,x0,x2,x10,h,ke4,kr =>
  bnd (pLen Try.prog #[29] x2 h) fun x67 =>
  bnd (pBin Try.prog .lss 3 (.tmp 65) (.tmp 67) x10 x67) fun x68 =>
  brV x68
  (F19_lrllrlrrrrr inv k x0 x2 x10 x68 h
  (fun y0 y2 y10 y11 y12 y85 y94 y110 h =>
  bnd (pBin Try.prog .add 3 (.tmp 69) (.const (.int .i64 1)) y10 (.int .i64 1)) fun x70 =>
  F19_lrlrrrrr inv k j y0 y2 x70 h ke4 kr)
  (fun y6 h_7 =>
  kr y6 h_7))
  (ke4 x0 x2 x10 x68 h)
theorem F19_lrlrrrrr_j (j : Nat) : kLoop (kCode env 19 false inv k (cp c19 1012)) j (act 122 [(0,x0),(2,x2),(10,x10)]) h K = F19_lrlrrrrr inv k j x0 x2 x10 h (fun y0 y2 y10 y68 h=>K (.exit 4) (act 122 [(0,y0),(2,y2),(10,y10),(68,y68)]) h) (fun y6 h=>K .ret (act 122 [(6,y6)]) h):=by
   induction j generalizing x0 x2 x10 h with
   | zero=>rfl
   | succ j ih =>
    unfold F19_lrlrrrrr
    simp only [kLoop,kq_seq c19 1012,kq_seq c19 2024,r19_17,b19_rlllrlrrrrr,kq_skip c19 8098,kq_seq c19 2025,F19_lrllrlrrrrr_eq,r19_18,kq_exit c19 8099 4,ih,reduceIte,reduceCtorEq,XE.exit.injEq,Nat.reduceEqDiff,Nat.reduceMul,Nat.reduceAdd] <;> kernel_rfl
theorem F19_lrlrrrrr_eq  : kCode env 19 false inv k (cp c19 506) (act 122 [(0,x0),(2,x2),(10,x10)]) h K = F19_lrlrrrrr inv k k x0 x2 x10 h (fun y0 y2 y10 y68 h=>K (.exit 4) (act 122 [(0,y0),(2,y2),(10,y10),(68,y68)]) h) (fun y6 h=>K .ret (act 122 [(6,y6)]) h):=kq_loop (F19_lrlrrrrr_j k)
theorem r19_25  : kCode env 19 false inv k (cp c19 254) (act 122 [(0,x0),(2,x2),(10,x10),(68,x68)]) h K =
  K .normal (act 122 [(6,(.int .i64 0))]) h:=kq_reg
/-- shadowbook/shadowbookref20.Check -/
noncomputable def F19 (inv : Inv) (k : Nat) (x0 x1 x2 : Value) (h : AH) : Option (Value × AH) :=
  bnd (inv (.func 40) #[] #[x0] h) fun x14 =>
  bnd (pBin Try.prog .neq 31 (.tmp 15) (.const (.int .i64 0)) x14.1 (.int .i64 0)) fun x16 =>
  brV x16
  (some (x14.1,x14.2))
  (G19_4 inv x0 x1 x2 x14.2 fun y30 h =>
  brV y30
  (some ((.int .i64 200),h))
  (F19_lrlrrrr inv k k x0 x1 x2 (.int .i64 0) h
  (fun y0 y1 y2 y8 y34 h_3 =>
  F19_lrlrrrrr inv k k y0 y2 (.int .i64 0) h_3
  (fun y0_8 y2_9 y10 y68 h_10 =>
  some ((.int .i64 0),h_10))
  (fun y6 h_11 =>
  some (y6,h_11)))
  (fun y6_12 h_13 =>
  some (y6_12,h_13))))
theorem F19_eq : eFun env k inv 19 #[x0,x1,x2] h = F19 inv k x0 x1 x2 h:=by
   refine (kq_fun (a:=act 122 [(0,x0),(1,x1),(2,x2)]) (c:=cp c19 1)).trans ?_
   unfold F19
   simp only [kq_seq c19 1,r19_0,kq_seq c19 3,r19_1,kq_seq c19 7,kq_seq c19 14,r19_2,b19_rlrr,kq_seq c19 58,r19_3,kq_ret c19 117,res19_0,kq_skip c19 59,kq_seq c19 15,kq_seq c19 30,r19_4,b19_rlrrr,kq_seq c19 122,r19_5,kq_ret c19 245,kq_skip c19 123,kq_seq c19 31,kq_seq c19 62,r19_6,kq_block c19 125 0,F19_lrlrrrr_eq,kq_seq c19 63,kq_seq c19 126,r19_16,kq_block c19 253 4,F19_lrlrrrrr_eq,kq_seq c19 127,r19_25,kq_ret c19 255,reduceIte,reduceCtorEq,XE.exit.injEq,Nat.reduceEqDiff,Nat.reduceMul,Nat.reduceAdd] <;> kernel_rfl
theorem F19_call : eInv env (k + 1) (.func 19) #[] #[x0,x1,x2] h = F19 (eInv env k) k x0 x1 x2 h:=kq_inv F19_eq
noncomputable def c20 : Code:=codeOf Try.prog 20
theorem r20_0  : kCode env 20 false inv k (cp c20 2) (act 54 [(0,x0),(1,x1),(2,x2)]) h K =
  bnd (pBox Try.prog 22 x0 h) fun x3 =>
  K .normal (act 54 [(1,x1),(2,x2),(3,x3.1)]) x3.2:=kq_reg
theorem r20_1  : kCode env 20 false inv k (cp c20 12) (act 54 [(1,x1),(2,x2),(3,x3)]) h K =
  bnd (pLoad Try.prog 22 x3 h) fun x10 =>
  bnd (inv (.func 41) #[] #[x10] h) fun x11 =>
  K .normal (act 54 [(1,x1),(2,x2),(3,x3),(7,x11.1)]) x11.2:=kq_reg
theorem r20_2  : kCode env 20 false inv k (cp c20 26) (act 54 [(1,x1),(2,x2),(3,x3),(7,x7)]) h K =
  bnd (pBin Try.prog .neq 31 (.tmp 12) (.const (.int .i64 0)) x7 (.int .i64 0)) fun x13 =>
  K .normal (act 54 [(1,x1),(2,x2),(3,x3),(7,x7),(13,x13)]) h:=kq_reg
theorem b20_rrlr  : kCode env 20 false inv k (cp c20 27) (act 54 [(1,x1),(2,x2),(3,x3),(7,x7),(13,x13)]) h K = brV x13 (kCode env 20 false inv k (cp c20 54) (act 54 [(1,x1),(2,x2),(3,x3),(7,x7),(13,x13)]) h K) (kCode env 20 false inv k (cp c20 55) (act 54 [(1,x1),(2,x2),(3,x3),(7,x7),(13,x13)]) h K):=kq_cond
theorem r20_3  : kCode env 20 false inv k (cp c20 108) (act 54 [(1,x1),(2,x2),(3,x3),(7,x7),(13,x13)]) h K =
  K .normal (act 54 [(6,x7)]) h:=kq_reg
theorem res20_0 : resOfFn env.P 20 .ret (act 54 [(6,x6)]) h = some (x6,h):=kq_res
noncomputable abbrev G20_4 {β : Type} (inv : Inv) (x1 x2 x3 : Value) (h : AH) (K : Value→AH→Option β) : Option β :=
  bnd (pLen Try.prog #[29] x2 h) fun x16 =>
  bnd (pBin Try.prog .lss 3 (.tmp 16) (.const (.int .i64 1)) x16 (.int .i64 1)) fun x17 =>
  bnd (gd (some x17) false h (some (x2,h))) fun x19 =>
  bnd (gd (some x17) false x19.2 (lt (pLen Try.prog #[29] x19.1 x19.2) x19.2)) fun x20 =>
  bnd (gd (some x17) false x20.2 (lt (pBin Try.prog .gtr 3 (.tmp 20) (.const (.int .i64 8)) x20.1 (.int .i64 8)) x20.2)) fun x21 =>
  bnd (pickV x17 (.bool true) x21.1) fun x22 =>
  bnd (gd (some x22) false x21.2 (some (x1,x21.2))) fun x24 =>
  bnd (gd (some x22) false x24.2 (lt (pLen Try.prog #[24] x24.1 x24.2) x24.2)) fun x25 =>
  bnd (gd (some x22) false x25.2 (lt (pBin Try.prog .gtr 3 (.tmp 25) (.const (.int .i64 8)) x25.1 (.int .i64 8)) x25.2)) fun x26 =>
  bnd (pickV x22 (.bool true) x26.1) fun x27 =>
  K (x27) x26.2
theorem r20_4  : kCode env 20 false inv k (cp c20 28) (act 54 [(1,x1),(2,x2),(3,x3),(7,x7),(13,x13)]) h K =
  G20_4 inv x1 x2 x3 h fun y27 h=>K .normal (act 54 [(1,x1),(2,x2),(3,x3),(27,y27)]) h:=kq_reg
theorem b20_rlrr  : kCode env 20 false inv k (cp c20 29) (act 54 [(1,x1),(2,x2),(3,x3),(27,x27)]) h K = brV x27 (kCode env 20 false inv k (cp c20 58) (act 54 [(1,x1),(2,x2),(3,x3),(27,x27)]) h K) (kCode env 20 false inv k (cp c20 59) (act 54 [(1,x1),(2,x2),(3,x3),(27,x27)]) h K):=kq_cond
theorem r20_5  : kCode env 20 false inv k (cp c20 116) (act 54 [(1,x1),(2,x2),(3,x3),(27,x27)]) h K =
  K .normal (act 54 [(6,(.int .i64 200))]) h:=kq_reg
theorem r20_6  : kCode env 20 false inv k (cp c20 60) (act 54 [(1,x1),(2,x2),(3,x3),(27,x27)]) h K =
  bnd (pLen Try.prog #[24] x1 h) fun x29 =>
  K .normal (act 54 [(1,x1),(2,x2),(3,x3),(28,x1),(29,x29),(30,(.int .i64 0))]) h:=kq_reg
theorem r20_7  : kCode env 20 false inv k (cp c20 488) (act 54 [(1,x1),(2,x2),(3,x3),(28,x28),(29,x29),(30,x30)]) h K =
  bnd (pBin Try.prog .lss 3 (.tmp 30) (.tmp 29) x30 x29) fun x31 =>
  K .normal (act 54 [(1,x1),(2,x2),(3,x3),(28,x28),(29,x29),(30,x30),(31,x31)]) h:=kq_reg
theorem b20_lrllrlrrr  : kCode env 20 false inv k (cp c20 978) (act 54 [(1,x1),(2,x2),(3,x3),(28,x28),(29,x29),(30,x30),(31,x31)]) h K = brV x31 (kCode env 20 false inv k (cp c20 1956) (act 54 [(1,x1),(2,x2),(3,x3),(28,x28),(29,x29),(30,x30),(31,x31)]) h K) (kCode env 20 false inv k (cp c20 1957) (act 54 [(1,x1),(2,x2),(3,x3),(28,x28),(29,x29),(30,x30),(31,x31)]) h K):=kq_cond
theorem r20_8  : kCode env 20 false inv k (cp c20 7832) (act 54 [(1,x1),(2,x2),(3,x3),(28,x28),(29,x29),(30,x30),(31,x31)]) h K =
  bnd (pIndexAddr Try.prog 24 x28 x30) fun x33 =>
  bnd (pLoad Try.prog 3 x33 h) fun x34 =>
  K .normal (act 54 [(1,x1),(2,x2),(3,x3),(8,x30),(9,x34),(28,x28),(29,x29),(30,x30)]) h:=kq_reg
noncomputable abbrev G20_9 {β : Type} (inv : Inv) (x1 x2 x3 x8 x9 x28 x29 x30 : Value) (h : AH) (K : Value→AH→Option β) : Option β :=
  bnd (pBin Try.prog .lss 3 (.tmp 35) (.const (.int .i64 0)) x9 (.int .i64 0)) fun x36 =>
  bnd (gd (some x36) false h (some (x9,h))) fun x38 =>
  bnd (gd (some x36) false x38.2 (lt (pLoad Try.prog 22 x3 x38.2) x38.2)) fun x39 =>
  bnd (gd (some x36) false x39.2 (lt (pLen Try.prog #[22] x39.1 x39.2) x39.2)) fun x40 =>
  bnd (gd (some x36) false x40.2 (lt (pBin Try.prog .geq 3 (.tmp 38) (.tmp 40) x38.1 x40.1) x40.2)) fun x41 =>
  bnd (pickV x36 (.bool true) x41.1) fun x42 =>
  bnd (gd (some x42) false x41.2 (some (x1,x41.2))) fun x44 =>
  bnd (gd (some x42) false x44.2 (some (x8,x44.2))) fun x45 =>
  bnd (gd (some x42) false x45.2 (lt (pSlice Try.prog 24 x44.1 none (some x45.1) none x45.2) x45.2)) fun x46 =>
  bnd (gd (some x42) false x46.2 (some (x9,x46.2))) fun x47 =>
  bnd (gd (some x42) false x47.2 (inv (.func 42) #[] #[x46.1,x47.1] x47.2)) fun x48 =>
  bnd (pickV x42 (.bool true) x48.1) fun x49 =>
  K (x49) x48.2
theorem r20_9  : kCode env 20 false inv k (cp c20 15666) (act 54 [(1,x1),(2,x2),(3,x3),(8,x8),(9,x9),(28,x28),(29,x29),(30,x30)]) h K =
  G20_9 inv x1 x2 x3 x8 x9 x28 x29 x30 h fun y49 h=>K .normal (act 54 [(1,x1),(2,x2),(3,x3),(28,x28),(29,x29),(30,x30),(49,y49)]) h:=kq_reg
theorem b20_rrllrrllrlrrr  : kCode env 20 false inv k (cp c20 15667) (act 54 [(1,x1),(2,x2),(3,x3),(28,x28),(29,x29),(30,x30),(49,x49)]) h K = brV x49 (kCode env 20 false inv k (cp c20 31334) (act 54 [(1,x1),(2,x2),(3,x3),(28,x28),(29,x29),(30,x30),(49,x49)]) h K) (kCode env 20 false inv k (cp c20 31335) (act 54 [(1,x1),(2,x2),(3,x3),(28,x28),(29,x29),(30,x30),(49,x49)]) h K):=kq_cond
theorem r20_10  : kCode env 20 false inv k (cp c20 62668) (act 54 [(1,x1),(2,x2),(3,x3),(28,x28),(29,x29),(30,x30),(49,x49)]) h K =
  K .normal (act 54 [(6,(.int .i64 200))]) h:=kq_reg
theorem r20_11  : kCode env 20 false inv k (cp c20 1959) (act 54 [(1,x1),(2,x2),(3,x3),(28,x28),(29,x29),(30,x30),(49,x49)]) h K =
  bnd (pBin Try.prog .add 3 (.tmp 30) (.const (.int .i64 1)) x30 (.int .i64 1)) fun x50 =>
  K .normal (act 54 [(1,x1),(2,x2),(3,x3),(28,x28),(29,x29),(30,x50)]) h:=kq_reg
noncomputable def F20_lrlrrr {β : Type} (inv : Inv) (k : Nat) : Nat→Value→Value→Value→Value→Value→Value→AH→(Value→Value→Value→Value→Value→Value→Value→AH→Option β)→(Value→AH→Option β)→Option β
 | 0,_,_,_,_,_,_,_,_,_=>none
 | j + 1,x1,x2,x3,x28,x29,x30,h,ke0,kr =>
  bnd (pBin Try.prog .lss 3 (.tmp 30) (.tmp 29) x30 x29) fun x31 =>
  brV x31
  (bnd (pIndexAddr Try.prog 24 x28 x30) fun x33 =>
  bnd (pLoad Try.prog 3 x33 h) fun x34 =>
  G20_9 inv x1 x2 x3 x30 x34 x28 x29 x30 h fun y49 h =>
  brV y49
  (kr (.int .i64 200) h)
  (bnd (pBin Try.prog .add 3 (.tmp 30) (.const (.int .i64 1)) x30 (.int .i64 1)) fun x50 =>
  F20_lrlrrr inv k j x1 x2 x3 x28 x29 x50 h ke0 kr))
  (ke0 x1 x2 x3 x28 x29 x30 x31 h)
theorem F20_lrlrrr_j (j : Nat) : kLoop (kCode env 20 false inv k (cp c20 244)) j (act 54 [(1,x1),(2,x2),(3,x3),(28,x28),(29,x29),(30,x30)]) h K = F20_lrlrrr inv k j x1 x2 x3 x28 x29 x30 h (fun y1 y2 y3 y28 y29 y30 y31 h=>K (.exit 0) (act 54 [(1,y1),(2,y2),(3,y3),(28,y28),(29,y29),(30,y30),(31,y31)]) h) (fun y6 h=>K .ret (act 54 [(6,y6)]) h):=by
   induction j generalizing x1 x2 x3 x28 x29 x30 h with
   | zero=>rfl
   | succ j ih =>
    unfold F20_lrlrrr
    simp only [kLoop,kq_seq c20 244,r20_7,kq_seq c20 489,b20_lrllrlrrr,kq_skip c20 1956,kq_seq c20 979,kq_block c20 1958 1,kq_seq c20 3916,r20_8,kq_seq c20 7833,r20_9,b20_rrllrrllrlrrr,kq_seq c20 31334,r20_10,kq_ret c20 62669,kq_skip c20 31335,r20_11,kq_exit c20 1957 0,ih,reduceIte,reduceCtorEq,XE.exit.injEq,Nat.reduceEqDiff,Nat.reduceMul,Nat.reduceAdd] <;> kernel_rfl
theorem F20_lrlrrr_eq  : kCode env 20 false inv k (cp c20 122) (act 54 [(1,x1),(2,x2),(3,x3),(28,x28),(29,x29),(30,x30)]) h K = F20_lrlrrr inv k k x1 x2 x3 x28 x29 x30 h (fun y1 y2 y3 y28 y29 y30 y31 h=>K (.exit 0) (act 54 [(1,y1),(2,y2),(3,y3),(28,y28),(29,y29),(30,y30),(31,y31)]) h) (fun y6 h=>K .ret (act 54 [(6,y6)]) h):=kq_loop (F20_lrlrrr_j k)
theorem r20_12  : kCode env 20 false inv k (cp c20 124) (act 54 [(1,x1),(2,x2),(3,x3),(28,x28),(29,x29),(30,x30),(31,x31)]) h K =
  bnd (pMakeFunc (.func 44) #[] #[x3]) fun x52 =>
  bnd (inv (.func 43) #[] #[x2,x52] h) fun x53 =>
  K .normal (act 54 [(53,x53.1)]) x53.2:=kq_reg
theorem b20_rlrrrr  : kCode env 20 false inv k (cp c20 125) (act 54 [(53,x53)]) h K = brV x53 (kCode env 20 false inv k (cp c20 250) (act 54 [(53,x53)]) h K) (kCode env 20 false inv k (cp c20 251) (act 54 [(53,x53)]) h K):=kq_cond
theorem r20_13  : kCode env 20 false inv k (cp c20 500) (act 54 [(53,x53)]) h K =
  K .normal (act 54 [(6,(.int .i64 200))]) h:=kq_reg
theorem r20_14  : kCode env 20 false inv k (cp c20 126) (act 54 [(53,x53)]) h K =
  K .normal (act 54 [(6,(.int .i64 0))]) h:=kq_reg
/-- shadowbook/agg.Check -/
noncomputable def F20 (inv : Inv) (k : Nat) (x0 x1 x2 : Value) (h : AH) : Option (Value × AH) :=
  bnd (pBox Try.prog 22 x0 h) fun x3 =>
  bnd (pLoad Try.prog 22 x3.1 x3.2) fun x10 =>
  bnd (inv (.func 41) #[] #[x10] x3.2) fun x11 =>
  bnd (pBin Try.prog .neq 31 (.tmp 12) (.const (.int .i64 0)) x11.1 (.int .i64 0)) fun x13 =>
  brV x13
  (some (x11.1,x11.2))
  (G20_4 inv x1 x2 x3.1 x11.2 fun y27 h =>
  brV y27
  (some ((.int .i64 200),h))
  (bnd (pLen Try.prog #[24] x1 h) fun x29 =>
  F20_lrlrrr inv k k x1 x2 x3.1 x1 x29 (.int .i64 0) h
  (fun y1 y2 y3 y28 y29 y30 y31 h_1 =>
  bnd (pMakeFunc (.func 44) #[] #[y3]) fun x52 =>
  bnd (inv (.func 43) #[] #[y2,x52] h_1) fun x53 =>
  brV x53.1
  (some ((.int .i64 200),x53.2))
  (some ((.int .i64 0),x53.2)))
  (fun y6 h_2 =>
  some (y6,h_2))))
theorem F20_eq : eFun env k inv 20 #[x0,x1,x2] h = F20 inv k x0 x1 x2 h:=by
   refine (kq_fun (a:=act 54 [(0,x0),(1,x1),(2,x2)]) (c:=cp c20 1)).trans ?_
   unfold F20
   simp only [kq_seq c20 1,r20_0,kq_seq c20 3,kq_seq c20 6,r20_1,kq_seq c20 13,r20_2,b20_rrlr,kq_seq c20 54,r20_3,kq_ret c20 109,res20_0,kq_skip c20 55,kq_seq c20 7,kq_seq c20 14,r20_4,b20_rlrr,kq_seq c20 58,r20_5,kq_ret c20 117,kq_skip c20 59,kq_seq c20 15,kq_seq c20 30,r20_6,kq_block c20 61 0,F20_lrlrrr_eq,kq_seq c20 31,kq_seq c20 62,r20_12,b20_rlrrrr,kq_seq c20 250,r20_13,kq_ret c20 501,kq_skip c20 251,kq_seq c20 63,r20_14,kq_ret c20 127,reduceIte,reduceCtorEq,XE.exit.injEq,Nat.reduceEqDiff,Nat.reduceMul,Nat.reduceAdd] <;> kernel_rfl
theorem F20_call : eInv env (k + 1) (.func 20) #[] #[x0,x1,x2] h = F20 (eInv env k) k x0 x1 x2 h:=kq_inv F20_eq
noncomputable def c21 : Code:=codeOf Try.prog 21
theorem r21_0  : kCode env 21 false inv k (cp c21 2) (act 46 [(0,x0),(1,x1)]) h K =
  K .normal (act 46 [(0,x0),(1,x1)]) h:=kq_reg
theorem r21_1  : kCode env 21 false inv k (cp c21 12) (act 46 [(0,x0),(1,x1)]) h K =
  bnd (pBin Try.prog .eql 44 (.tmp 8) (.const (.pointer none)) x0 (.pointer none)) fun x9 =>
  K .normal (act 46 [(0,x0),(1,x1),(9,x9)]) h:=kq_reg
theorem b21_rlr  : kCode env 21 false inv k (cp c21 13) (act 46 [(0,x0),(1,x1),(9,x9)]) h K = brV x9 (kCode env 21 false inv k (cp c21 26) (act 46 [(0,x0),(1,x1),(9,x9)]) h K) (kCode env 21 false inv k (cp c21 27) (act 46 [(0,x0),(1,x1),(9,x9)]) h K):=kq_cond
theorem r21_2  : kCode env 21 false inv k (cp c21 52) (act 46 [(0,x0),(1,x1),(9,x9)]) h K =
  K .normal (act 46 [(4,(.int .i64 1))]) h:=kq_reg
theorem res21_0 : resOfFn env.P 21 .ret (act 46 [(4,x4)]) h = some (x4,h):=kq_res
theorem r21_3  : kCode env 21 false inv k (cp c21 28) (act 46 [(0,x0),(1,x1),(9,x9)]) h K =
  bnd (pNilCheck Try.prog x0) fun x11 =>
  bnd (pFieldAddr Try.prog 69 x11 0) fun x12 =>
  bnd (pLoad Try.prog 22 x12 h) fun x13 =>
  bnd (inv (.func 46) #[] #[x13,x1] h) fun x15 =>
  K .normal (act 46 [(0,x0),(1,x1),(5,x15.1)]) x15.2:=kq_reg
theorem r21_4  : kCode env 21 false inv k (cp c21 58) (act 46 [(0,x0),(1,x1),(5,x5)]) h K =
  bnd (pBin Try.prog .neq 31 (.tmp 16) (.const (.int .i64 0)) x5 (.int .i64 0)) fun x17 =>
  K .normal (act 46 [(0,x0),(1,x1),(5,x5),(17,x17)]) h:=kq_reg
theorem b21_rrlrr  : kCode env 21 false inv k (cp c21 59) (act 46 [(0,x0),(1,x1),(5,x5),(17,x17)]) h K = brV x17 (kCode env 21 false inv k (cp c21 118) (act 46 [(0,x0),(1,x1),(5,x5),(17,x17)]) h K) (kCode env 21 false inv k (cp c21 119) (act 46 [(0,x0),(1,x1),(5,x5),(17,x17)]) h K):=kq_cond
theorem r21_5  : kCode env 21 false inv k (cp c21 236) (act 46 [(0,x0),(1,x1),(5,x5),(17,x17)]) h K =
  K .normal (act 46 [(4,x5)]) h:=kq_reg
theorem r21_6  : kCode env 21 false inv k (cp c21 30) (act 46 [(0,x0),(1,x1),(5,x5),(17,x17)]) h K =
  bnd (pNilCheck Try.prog x0) fun x20 =>
  bnd (pFieldAddr Try.prog 69 x20 4) fun x21 =>
  bnd (pLoad Try.prog 3 x21 h) fun x22 =>
  bnd (pBin Try.prog .add 3 (.tmp 22) (.const (.int .i64 1)) x22 (.int .i64 1)) fun x23 =>
  bnd (pNilCheck Try.prog x0) fun x24 =>
  bnd (pFieldAddr Try.prog 69 x24 4) fun x25 =>
  bnd (kSt (pStore Try.prog 3 x25 x23 h)) fun u =>
  K .normal (act 46 [(0,x0),(1,x1)]) u.2:=kq_reg
theorem r21_7  : kCode env 21 false inv k (cp c21 124) (act 46 [(0,x0),(1,x1)]) h K =
  bnd (pNilCheck Try.prog x0) fun x29 =>
  bnd (pFieldAddr Try.prog 69 x29 1) fun x30 =>
  bnd (pLoad Try.prog 24 x30 h) fun x31 =>
  bnd (inv (.func 47) #[] #[x1,x31] h) fun x32 =>
  bnd (inv (.func 39) #[] #[x0,x32.1] x32.2) fun x33 =>
  bnd (pNilCheck Try.prog x33.1) fun x34 =>
  bnd (pFieldAddr Try.prog 79 x34 1) fun x35 =>
  bnd (pLoad Try.prog 77 x35 x33.2) fun x36 =>
  bnd (pLen Try.prog #[77] x36 x33.2) fun x37 =>
  K .normal (act 46 [(1,x1),(36,x36),(37,x37),(38,(.int .i64 0))]) x33.2:=kq_reg
theorem r21_8  : kCode env 21 false inv k (cp c21 1000) (act 46 [(1,x1),(36,x36),(37,x37),(38,x38)]) h K =
  bnd (pBin Try.prog .lss 3 (.tmp 38) (.tmp 37) x38 x37) fun x39 =>
  K .normal (act 46 [(1,x1),(36,x36),(37,x37),(38,x38),(39,x39)]) h:=kq_reg
theorem b21_lrllrlrrrr  : kCode env 21 false inv k (cp c21 2002) (act 46 [(1,x1),(36,x36),(37,x37),(38,x38),(39,x39)]) h K = brV x39 (kCode env 21 false inv k (cp c21 4004) (act 46 [(1,x1),(36,x36),(37,x37),(38,x38),(39,x39)]) h K) (kCode env 21 false inv k (cp c21 4005) (act 46 [(1,x1),(36,x36),(37,x37),(38,x38),(39,x39)]) h K):=kq_cond
theorem r21_9  : kCode env 21 false inv k (cp c21 16024) (act 46 [(1,x1),(36,x36),(37,x37),(38,x38),(39,x39)]) h K =
  bnd (pIndexAddr Try.prog 77 x36 x38) fun x40 =>
  bnd (pLoad Try.prog 81 x40 h) fun x41 =>
  K .normal (act 46 [(1,x1),(7,x41),(36,x36),(37,x37),(38,x38)]) h:=kq_reg
theorem r21_10  : kCode env 21 false inv k (cp c21 16025) (act 46 [(1,x1),(7,x7),(36,x36),(37,x37),(38,x38)]) h K =
  bnd (inv (.method "shadowbook/agg.add") #[] #[x7, x1] h) fun x44 =>
  K .normal (act 46 [(1,x1),(36,x36),(37,x37),(38,x38)]) x44.2:=kq_reg
theorem r21_11  : kCode env 21 false inv k (cp c21 4007) (act 46 [(1,x1),(36,x36),(37,x37),(38,x38)]) h K =
  bnd (pBin Try.prog .add 3 (.tmp 38) (.const (.int .i64 1)) x38 (.int .i64 1)) fun x45 =>
  K .normal (act 46 [(1,x1),(36,x36),(37,x37),(38,x45)]) h:=kq_reg
noncomputable def F21_lrlrrrr {β : Type} (inv : Inv) (k : Nat) : Nat→Value→Value→Value→Value→AH→(Value→Value→Value→Value→Value→AH→Option β)→Option β
 | 0,_,_,_,_,_,_=>none
 | j + 1,x1,x36,x37,x38,h,ke0 =>
  bnd (pBin Try.prog .lss 3 (.tmp 38) (.tmp 37) x38 x37) fun x39 =>
  brV x39
  (bnd (pIndexAddr Try.prog 77 x36 x38) fun x40 =>
  bnd (pLoad Try.prog 81 x40 h) fun x41 =>
  bnd (inv (.method "shadowbook/agg.add") #[] #[x41, x1] h) fun x44 =>
  bnd (pBin Try.prog .add 3 (.tmp 38) (.const (.int .i64 1)) x38 (.int .i64 1)) fun x45 =>
  F21_lrlrrrr inv k j x1 x36 x37 x45 x44.2 ke0)
  (ke0 x1 x36 x37 x38 x39 h)
theorem F21_lrlrrrr_j (j : Nat) : kLoop (kCode env 21 false inv k (cp c21 500)) j (act 46 [(1,x1),(36,x36),(37,x37),(38,x38)]) h K = F21_lrlrrrr inv k j x1 x36 x37 x38 h (fun y1 y36 y37 y38 y39 h=>K (.exit 0) (act 46 [(1,y1),(36,y36),(37,y37),(38,y38),(39,y39)]) h):=by
   induction j generalizing x1 x36 x37 x38 h with
   | zero=>rfl
   | succ j ih =>
    unfold F21_lrlrrrr
    simp only [kLoop,kq_seq c21 500,r21_8,kq_seq c21 1001,b21_lrllrlrrrr,kq_skip c21 4004,kq_seq c21 2003,kq_block c21 4006 1,kq_seq c21 8012,r21_9,r21_10,r21_11,kq_exit c21 4005 0,ih,reduceIte,reduceCtorEq,XE.exit.injEq,Nat.reduceEqDiff,Nat.reduceMul,Nat.reduceAdd] <;> kernel_rfl
theorem F21_lrlrrrr_eq  : kCode env 21 false inv k (cp c21 250) (act 46 [(1,x1),(36,x36),(37,x37),(38,x38)]) h K = F21_lrlrrrr inv k k x1 x36 x37 x38 h (fun y1 y36 y37 y38 y39 h=>K (.exit 0) (act 46 [(1,y1),(36,y36),(37,y37),(38,y38),(39,y39)]) h):=kq_loop (F21_lrlrrrr_j k)
theorem r21_12  : kCode env 21 false inv k (cp c21 126) (act 46 [(1,x1),(36,x36),(37,x37),(38,x38),(39,x39)]) h K =
  K .normal (act 46 [(4,(.int .i64 0))]) h:=kq_reg
/-- (*shadowbook/agg.Acc).Add -/
noncomputable def F21 (inv : Inv) (k : Nat) (x0 x1 : Value) (h : AH) : Option (Value × AH) :=
  bnd (pBin Try.prog .eql 44 (.tmp 8) (.const (.pointer none)) x0 (.pointer none)) fun x9 =>
  brV x9
  (some ((.int .i64 1),h))
  (bnd (pNilCheck Try.prog x0) fun x11 =>
  bnd (pFieldAddr Try.prog 69 x11 0) fun x12 =>
  bnd (pLoad Try.prog 22 x12 h) fun x13 =>
  bnd (inv (.func 46) #[] #[x13,x1] h) fun x15 =>
  bnd (pBin Try.prog .neq 31 (.tmp 16) (.const (.int .i64 0)) x15.1 (.int .i64 0)) fun x17 =>
  brV x17
  (some (x15.1,x15.2))
  (bnd (pNilCheck Try.prog x0) fun x20 =>
  bnd (pFieldAddr Try.prog 69 x20 4) fun x21 =>
  bnd (pLoad Try.prog 3 x21 x15.2) fun x22 =>
  bnd (pBin Try.prog .add 3 (.tmp 22) (.const (.int .i64 1)) x22 (.int .i64 1)) fun x23 =>
  bnd (pNilCheck Try.prog x0) fun x24 =>
  bnd (pFieldAddr Try.prog 69 x24 4) fun x25 =>
  bnd (kSt (pStore Try.prog 3 x25 x23 x15.2)) fun u =>
  bnd (pNilCheck Try.prog x0) fun x29 =>
  bnd (pFieldAddr Try.prog 69 x29 1) fun x30 =>
  bnd (pLoad Try.prog 24 x30 u.2) fun x31 =>
  bnd (inv (.func 47) #[] #[x1,x31] u.2) fun x32 =>
  bnd (inv (.func 39) #[] #[x0,x32.1] x32.2) fun x33 =>
  bnd (pNilCheck Try.prog x33.1) fun x34 =>
  bnd (pFieldAddr Try.prog 79 x34 1) fun x35 =>
  bnd (pLoad Try.prog 77 x35 x33.2) fun x36 =>
  bnd (pLen Try.prog #[77] x36 x33.2) fun x37 =>
  F21_lrlrrrr inv k k x1 x36 x37 (.int .i64 0) x33.2
  (fun y1 y36 y37 y38 y39 h =>
  some ((.int .i64 0),h))))
theorem F21_eq : eFun env k inv 21 #[x0,x1] h = F21 inv k x0 x1 h:=by
   refine (kq_fun (a:=act 46 [(0,x0),(1,x1)]) (c:=cp c21 1)).trans ?_
   unfold F21
   simp only [kq_seq c21 1,r21_0,kq_seq c21 3,kq_seq c21 6,r21_1,b21_rlr,kq_seq c21 26,r21_2,kq_ret c21 53,res21_0,kq_skip c21 27,kq_seq c21 7,kq_seq c21 14,r21_3,kq_seq c21 29,r21_4,b21_rrlrr,kq_seq c21 118,r21_5,kq_ret c21 237,kq_skip c21 119,kq_seq c21 15,r21_6,kq_seq c21 31,kq_seq c21 62,r21_7,kq_block c21 125 0,F21_lrlrrrr_eq,kq_seq c21 63,r21_12,kq_ret c21 127,reduceIte,reduceCtorEq,XE.exit.injEq,Nat.reduceEqDiff,Nat.reduceMul,Nat.reduceAdd] <;> kernel_rfl
theorem F21_call : eInv env (k + 1) (.func 21) #[] #[x0,x1] h = F21 (eInv env k) k x0 x1 h:=kq_inv F21_eq
noncomputable def c22 : Code:=codeOf Try.prog 22
theorem r22_0  : kCode env 22 false inv k (cp c22 2) (act 35 [(0,x0),(1,x1)]) h K =
  K .normal (act 35 [(0,x0),(1,x1)]) h:=kq_reg
theorem r22_1  : kCode env 22 false inv k (cp c22 6) (act 35 [(0,x0),(1,x1)]) h K =
  bnd (inv (.func 40) #[] #[x0] h) fun x8 =>
  K .normal (act 35 [(0,x0),(1,x1),(5,x8.1)]) x8.2:=kq_reg
theorem r22_2  : kCode env 22 false inv k (cp c22 28) (act 35 [(0,x0),(1,x1),(5,x5)]) h K =
  bnd (pBin Try.prog .neq 31 (.tmp 9) (.const (.int .i64 0)) x5 (.int .i64 0)) fun x10 =>
  K .normal (act 35 [(0,x0),(1,x1),(5,x5),(10,x10)]) h:=kq_reg
theorem b22_rlrr  : kCode env 22 false inv k (cp c22 29) (act 35 [(0,x0),(1,x1),(5,x5),(10,x10)]) h K = brV x10 (kCode env 22 false inv k (cp c22 58) (act 35 [(0,x0),(1,x1),(5,x5),(10,x10)]) h K) (kCode env 22 false inv k (cp c22 59) (act 35 [(0,x0),(1,x1),(5,x5),(10,x10)]) h K):=kq_cond
theorem r22_3  : kCode env 22 false inv k (cp c22 116) (act 35 [(0,x0),(1,x1),(5,x5),(10,x10)]) h K =
  K .normal (act 35 [(4,x5)]) h:=kq_reg
theorem res22_0 : resOfFn env.P 22 .ret (act 35 [(4,x4)]) h = some (x4,h):=kq_res
theorem r22_4  : kCode env 22 false inv k (cp c22 60) (act 35 [(0,x0),(1,x1),(5,x5),(10,x10)]) h K =
  bnd (pLen Try.prog #[34] x1 h) fun x13 =>
  bnd (pLen Try.prog #[22] x0 h) fun x15 =>
  bnd (pBin Try.prog .neq 3 (.tmp 13) (.tmp 15) x13 x15) fun x16 =>
  K .normal (act 35 [(0,x0),(1,x1),(16,x16)]) h:=kq_reg
theorem b22_rlrrr  : kCode env 22 false inv k (cp c22 61) (act 35 [(0,x0),(1,x1),(16,x16)]) h K = brV x16 (kCode env 22 false inv k (cp c22 122) (act 35 [(0,x0),(1,x1),(16,x16)]) h K) (kCode env 22 false inv k (cp c22 123) (act 35 [(0,x0),(1,x1),(16,x16)]) h K):=kq_cond
theorem r22_5  : kCode env 22 false inv k (cp c22 244) (act 35 [(0,x0),(1,x1),(16,x16)]) h K =
  K .normal (act 35 [(4,(.int .i64 173))]) h:=kq_reg
theorem r22_6  : kCode env 22 false inv k (cp c22 124) (act 35 [(0,x0),(1,x1),(16,x16)]) h K =
  K .normal (act 35 [(0,x0),(1,x1),(6,(.int .i64 0))]) h:=kq_reg
theorem r22_7  : kCode env 22 false inv k (cp c22 2000) (act 35 [(0,x0),(1,x1),(6,x6)]) h K =
  bnd (pLen Try.prog #[34] x1 h) fun x19 =>
  bnd (pBin Try.prog .lss 3 (.tmp 17) (.tmp 19) x6 x19) fun x20 =>
  K .normal (act 35 [(0,x0),(1,x1),(6,x6),(20,x20)]) h:=kq_reg
theorem b22_rlllrlrrrr  : kCode env 22 false inv k (cp c22 2001) (act 35 [(0,x0),(1,x1),(6,x6),(20,x20)]) h K = brV x20 (kCode env 22 false inv k (cp c22 4002) (act 35 [(0,x0),(1,x1),(6,x6),(20,x20)]) h K) (kCode env 22 false inv k (cp c22 4003) (act 35 [(0,x0),(1,x1),(6,x6),(20,x20)]) h K):=kq_cond
theorem r22_9  : kCode env 22 false inv k (cp c22 8008) (act 35 [(0,x0),(1,x1),(6,x6),(20,x20)]) h K =
  bnd (pIndexAddr Try.prog 22 x0 x6) fun x25 =>
  bnd (pLoad Try.prog 42 x25 h) fun x26 =>
  bnd (pIndexAddr Try.prog 34 x1 x6) fun x29 =>
  bnd (pLoad Try.prog 37 x29 h) fun x30 =>
  bnd (inv (.func 48) #[] #[x26,x30] h) fun x31 =>
  K .normal (act 35 [(0,x0),(1,x1),(5,x31.1),(6,x6)]) x31.2:=kq_draw
theorem r22_10  : kCode env 22 false inv k (cp c22 16018) (act 35 [(0,x0),(1,x1),(5,x5),(6,x6)]) h K =
  bnd (pBin Try.prog .neq 31 (.tmp 32) (.const (.int .i64 0)) x5 (.int .i64 0)) fun x33 =>
  K .normal (act 35 [(0,x0),(1,x1),(5,x5),(6,x6),(33,x33)]) h:=kq_reg
theorem b22_rrllrllrlrrrr  : kCode env 22 false inv k (cp c22 16019) (act 35 [(0,x0),(1,x1),(5,x5),(6,x6),(33,x33)]) h K = brV x33 (kCode env 22 false inv k (cp c22 32038) (act 35 [(0,x0),(1,x1),(5,x5),(6,x6),(33,x33)]) h K) (kCode env 22 false inv k (cp c22 32039) (act 35 [(0,x0),(1,x1),(5,x5),(6,x6),(33,x33)]) h K):=kq_cond
theorem r22_11  : kCode env 22 false inv k (cp c22 64076) (act 35 [(0,x0),(1,x1),(5,x5),(6,x6),(33,x33)]) h K =
  K .normal (act 35 [(4,x5)]) h:=kq_reg
theorem r22_8  : kCode env 22 false inv k (cp c22 2003) (act 35 [(0,x0),(1,x1),(5,x5),(6,x6),(33,x33)]) h K =
  bnd (pBin Try.prog .add 3 (.tmp 21) (.const (.int .i64 1)) x6 (.int .i64 1)) fun x22 =>
  K .normal (act 35 [(0,x0),(1,x1),(6,x22)]) h:=kq_reg
noncomputable def F22_lrlrrrr {β : Type} (inv : Inv) (k : Nat) : Nat→Value→Value→Value→AH→(Value→Value→Value→Value→AH→Option β)→(Value→AH→Option β)→Option β
 | 0,_,_,_,_,_,_=>none
 | j + 1,x0,x1,x6,h,ke0,kr =>
  bnd (pLen Try.prog #[34] x1 h) fun x19 =>
  bnd (pBin Try.prog .lss 3 (.tmp 17) (.tmp 19) x6 x19) fun x20 =>
  brV x20
  (bnd (pIndexAddr Try.prog 22 x0 x6) fun x25 =>
  bnd (pLoad Try.prog 42 x25 h) fun x26 =>
  bnd (pIndexAddr Try.prog 34 x1 x6) fun x29 =>
  bnd (pLoad Try.prog 37 x29 h) fun x30 =>
  bnd (inv (.func 48) #[] #[x26,x30] h) fun x31 =>
  bnd (pBin Try.prog .neq 31 (.tmp 32) (.const (.int .i64 0)) x31.1 (.int .i64 0)) fun x33 =>
  brV x33
  (kr x31.1 x31.2)
  (bnd (pBin Try.prog .add 3 (.tmp 21) (.const (.int .i64 1)) x6 (.int .i64 1)) fun x22 =>
  F22_lrlrrrr inv k j x0 x1 x22 x31.2 ke0 kr))
  (ke0 x0 x1 x6 x20 h)
theorem F22_lrlrrrr_j (j : Nat) : kLoop (kCode env 22 false inv k (cp c22 500)) j (act 35 [(0,x0),(1,x1),(6,x6)]) h K = F22_lrlrrrr inv k j x0 x1 x6 h (fun y0 y1 y6 y20 h=>K (.exit 0) (act 35 [(0,y0),(1,y1),(6,y6),(20,y20)]) h) (fun y4 h=>K .ret (act 35 [(4,y4)]) h):=by
   induction j generalizing x0 x1 x6 h with
   | zero=>rfl
   | succ j ih =>
    unfold F22_lrlrrrr
    simp only [kLoop,kq_seq c22 500,kq_seq c22 1000,r22_7,b22_rlllrlrrrr,kq_skip c22 4002,kq_seq c22 1001,kq_block c22 2002 1,kq_seq c22 4004,r22_9,kq_seq c22 8009,r22_10,b22_rrllrllrlrrrr,kq_seq c22 32038,r22_11,kq_ret c22 64077,kq_skip c22 32039,r22_8,kq_exit c22 4003 0,ih,reduceIte,reduceCtorEq,XE.exit.injEq,Nat.reduceEqDiff,Nat.reduceMul,Nat.reduceAdd] <;> kernel_rfl
theorem F22_lrlrrrr_eq  : kCode env 22 false inv k (cp c22 250) (act 35 [(0,x0),(1,x1),(6,x6)]) h K = F22_lrlrrrr inv k k x0 x1 x6 h (fun y0 y1 y6 y20 h=>K (.exit 0) (act 35 [(0,y0),(1,y1),(6,y6),(20,y20)]) h) (fun y4 h=>K .ret (act 35 [(4,y4)]) h):=kq_loop (F22_lrlrrrr_j k)
theorem r22_12  : kCode env 22 false inv k (cp c22 126) (act 35 [(0,x0),(1,x1),(6,x6),(20,x20)]) h K =
  K .normal (act 35 [(4,(.int .i64 0))]) h:=kq_reg
/-- shadowbook/shadowbookref17.Row -/
noncomputable def F22 (inv : Inv) (k : Nat) (x0 x1 : Value) (h : AH) : Option (Value × AH) :=
  bnd (inv (.func 40) #[] #[x0] h) fun x8 =>
  bnd (pBin Try.prog .neq 31 (.tmp 9) (.const (.int .i64 0)) x8.1 (.int .i64 0)) fun x10 =>
  brV x10
  (some (x8.1,x8.2))
  (bnd (pLen Try.prog #[34] x1 x8.2) fun x13 =>
  bnd (pLen Try.prog #[22] x0 x8.2) fun x15 =>
  bnd (pBin Try.prog .neq 3 (.tmp 13) (.tmp 15) x13 x15) fun x16 =>
  brV x16
  (some ((.int .i64 173),x8.2))
  (F22_lrlrrrr inv k k x0 x1 (.int .i64 0) x8.2
  (fun y0 y1 y6 y20 h =>
  some ((.int .i64 0),h))
  (fun y4 h_1 =>
  some (y4,h_1))))
theorem F22_eq : eFun env k inv 22 #[x0,x1] h = F22 inv k x0 x1 h:=by
   refine (kq_fun (a:=act 35 [(0,x0),(1,x1)]) (c:=cp c22 1)).trans ?_
   unfold F22
   simp only [kq_seq c22 1,r22_0,kq_seq c22 3,r22_1,kq_seq c22 7,kq_seq c22 14,r22_2,b22_rlrr,kq_seq c22 58,r22_3,kq_ret c22 117,res22_0,kq_skip c22 59,kq_seq c22 15,kq_seq c22 30,r22_4,b22_rlrrr,kq_seq c22 122,r22_5,kq_ret c22 245,kq_skip c22 123,kq_seq c22 31,kq_seq c22 62,r22_6,kq_block c22 125 0,F22_lrlrrrr_eq,kq_seq c22 63,r22_12,kq_ret c22 127,reduceIte,reduceCtorEq,XE.exit.injEq,Nat.reduceEqDiff,Nat.reduceMul,Nat.reduceAdd] <;> kernel_rfl
theorem F22_call : eInv env (k + 1) (.func 22) #[] #[x0,x1] h = F22 (eInv env k) k x0 x1 h:=kq_inv F22_eq
noncomputable def c23 : Code:=codeOf Try.prog 23
theorem r23_0  : kCode env 23 false inv k (cp c23 2) (act 9 [(0,x0)]) h K =
  K .normal (act 9 [(0,x0)]) h:=kq_reg
theorem r23_1  : kCode env 23 false inv k (cp c23 12) (act 9 [(0,x0)]) h K =
  bnd (pBin Try.prog .eql 44 (.tmp 3) (.const (.pointer none)) x0 (.pointer none)) fun x4 =>
  K .normal (act 9 [(0,x0),(4,x4)]) h:=kq_reg
theorem b23_rlr  : kCode env 23 false inv k (cp c23 13) (act 9 [(0,x0),(4,x4)]) h K = brV x4 (kCode env 23 false inv k (cp c23 26) (act 9 [(0,x0),(4,x4)]) h K) (kCode env 23 false inv k (cp c23 27) (act 9 [(0,x0),(4,x4)]) h K):=kq_cond
theorem r23_2  : kCode env 23 false inv k (cp c23 52) (act 9 [(0,x0),(4,x4)]) h K =
  K .normal (act 9 [(2,(.int .i64 0))]) h:=kq_reg
theorem res23_0 : resOfFn env.P 23 .ret (act 9 [(2,x2)]) h = some (x2,h):=kq_res
theorem r23_3  : kCode env 23 false inv k (cp c23 14) (act 9 [(0,x0),(4,x4)]) h K =
  bnd (pNilCheck Try.prog x0) fun x6 =>
  bnd (pFieldAddr Try.prog 69 x6 4) fun x7 =>
  bnd (pLoad Try.prog 3 x7 h) fun x8 =>
  K .normal (act 9 [(2,x8)]) h:=kq_reg
/-- (*shadowbook/agg.Acc).Len -/
noncomputable def F23 (inv : Inv) (k : Nat) (x0 : Value) (h : AH) : Option (Value × AH) :=
  bnd (pBin Try.prog .eql 44 (.tmp 3) (.const (.pointer none)) x0 (.pointer none)) fun x4 =>
  brV x4
  (some ((.int .i64 0),h))
  (bnd (pNilCheck Try.prog x0) fun x6 =>
  bnd (pFieldAddr Try.prog 69 x6 4) fun x7 =>
  bnd (pLoad Try.prog 3 x7 h) fun x8 =>
  some (x8,h))
theorem F23_eq : eFun env k inv 23 #[x0] h = F23 inv k x0 h:=by
   refine (kq_fun (a:=act 9 [(0,x0)]) (c:=cp c23 1)).trans ?_
   unfold F23
   simp only [kq_seq c23 1,r23_0,kq_seq c23 3,kq_seq c23 6,r23_1,b23_rlr,kq_seq c23 26,r23_2,kq_ret c23 53,res23_0,kq_skip c23 27,kq_seq c23 7,r23_3,kq_ret c23 15,reduceIte,reduceCtorEq,XE.exit.injEq,Nat.reduceEqDiff,Nat.reduceMul,Nat.reduceAdd] <;> kernel_rfl
theorem F23_call : eInv env (k + 1) (.func 23) #[] #[x0] h = F23 (eInv env k) k x0 h:=kq_inv F23_eq
noncomputable def c24 : Code:=codeOf Try.prog 24
theorem r24_0  : kCode env 24 false inv k (cp c24 2) (act 55 [(0,x0)]) h K =
  K .normal (act 55 [(0,x0)]) h:=kq_reg
theorem r24_1  : kCode env 24 false inv k (cp c24 12) (act 55 [(0,x0)]) h K =
  bnd (pBin Try.prog .eql 44 (.tmp 10) (.const (.pointer none)) x0 (.pointer none)) fun x11 =>
  K .normal (act 55 [(0,x0),(11,x11)]) h:=kq_reg
theorem b24_rlr  : kCode env 24 false inv k (cp c24 13) (act 55 [(0,x0),(11,x11)]) h K = brV x11 (kCode env 24 false inv k (cp c24 26) (act 55 [(0,x0),(11,x11)]) h K) (kCode env 24 false inv k (cp c24 27) (act 55 [(0,x0),(11,x11)]) h K):=kq_cond
theorem r24_2  : kCode env 24 false inv k (cp c24 52) (act 55 [(0,x0),(11,x11)]) h K =
  K .normal (act 55 [(2,(.slice none 0 0))]) h:=kq_reg
theorem res24_0 : resOfFn env.P 24 .ret (act 55 [(2,x2)]) h = some (x2,h):=kq_res
theorem r24_3  : kCode env 24 false inv k (cp c24 14) (act 55 [(0,x0),(11,x11)]) h K =
  K .normal (act 55 [(0,x0),(3,(.slice none 0 0))]) h:=kq_reg
theorem r24_4  : kCode env 24 false inv k (cp c24 60) (act 55 [(0,x0),(3,x3)]) h K =
  bnd (pNilCheck Try.prog x0) fun x13 =>
  bnd (pFieldAddr Try.prog 69 x13 3) fun x14 =>
  bnd (pLoad Try.prog 67 x14 h) fun x15 =>
  bnd (inv (.func 50) #[] #[x15] h) fun x16 =>
  bnd (inv (.func 49) #[] #[x16.1] x16.2) fun x17 =>
  bnd (pLen Try.prog #[84] x17.1 x17.2) fun x18 =>
  K .normal (act 55 [(0,x0),(3,x3),(17,x17.1),(18,x18),(19,(.int .i64 0))]) x17.2:=kq_reg
theorem r24_5  : kCode env 24 false inv k (cp c24 488) (act 55 [(0,x0),(3,x3),(17,x17),(18,x18),(19,x19)]) h K =
  bnd (pBin Try.prog .lss 3 (.tmp 19) (.tmp 18) x19 x18) fun x20 =>
  K .normal (act 55 [(0,x0),(3,x3),(17,x17),(18,x18),(19,x19),(20,x20)]) h:=kq_reg
theorem b24_lrllrlrrr  : kCode env 24 false inv k (cp c24 978) (act 55 [(0,x0),(3,x3),(17,x17),(18,x18),(19,x19),(20,x20)]) h K = brV x20 (kCode env 24 false inv k (cp c24 1956) (act 55 [(0,x0),(3,x3),(17,x17),(18,x18),(19,x19),(20,x20)]) h K) (kCode env 24 false inv k (cp c24 1957) (act 55 [(0,x0),(3,x3),(17,x17),(18,x18),(19,x19),(20,x20)]) h K):=kq_cond
theorem r24_6  : kCode env 24 false inv k (cp c24 7832) (act 55 [(0,x0),(3,x3),(17,x17),(18,x18),(19,x19),(20,x20)]) h K =
  bnd (pIndexAddr Try.prog 84 x17 x19) fun x21 =>
  bnd (pLoad Try.prog 9 x21 h) fun x22 =>
  K .normal (act 55 [(0,x0),(3,x3),(5,x22),(17,x17),(18,x18),(19,x19)]) h:=kq_reg
theorem r24_7  : kCode env 24 false inv k (cp c24 15666) (act 55 [(0,x0),(3,x3),(5,x5),(17,x17),(18,x18),(19,x19)]) h K =
  bnd (pNilCheck Try.prog x0) fun x24 =>
  bnd (pFieldAddr Try.prog 69 x24 3) fun x25 =>
  bnd (pLoad Try.prog 67 x25 h) fun x26 =>
  bnd (pLookup Try.prog 67 x26 x5 false h) fun x28 =>
  K .normal (act 55 [(0,x0),(3,x3),(6,x28),(17,x17),(18,x18),(19,x19)]) h:=kq_reg
theorem r24_8  : kCode env 24 false inv k (cp c24 31334) (act 55 [(0,x0),(3,x3),(6,x6),(17,x17),(18,x18),(19,x19)]) h K =
  bnd (pNilCheck Try.prog x6) fun x30 =>
  bnd (pFieldAddr Try.prog 79 x30 0) fun x31 =>
  bnd (pLoad Try.prog 34 x31 h) fun x32 =>
  bnd (inv (.func 51) #[] #[x32] h) fun x33 =>
  K .normal (act 55 [(0,x0),(3,x3),(6,x6),(7,x33.1),(17,x17),(18,x18),(19,x19)]) x33.2:=kq_reg
theorem r24_9  : kCode env 24 false inv k (cp c24 125340) (act 55 [(0,x0),(3,x3),(6,x6),(7,x7),(17,x17),(18,x18),(19,x19)]) h K =
  bnd (pNilCheck Try.prog x6) fun x35 =>
  bnd (pFieldAddr Try.prog 79 x35 1) fun x36 =>
  bnd (pLoad Try.prog 77 x36 h) fun x37 =>
  bnd (pLen Try.prog #[77] x37 h) fun x38 =>
  K .normal (act 55 [(0,x0),(3,x3),(7,x7),(17,x17),(18,x18),(19,x19),(37,x37),(38,x38),(39,(.int .i64 0))]) h:=kq_reg
theorem r24_10  : kCode env 24 false inv k (cp c24 1002728) (act 55 [(0,x0),(3,x3),(7,x7),(17,x17),(18,x18),(19,x19),(37,x37),(38,x38),(39,x39)]) h K =
  bnd (pBin Try.prog .lss 3 (.tmp 39) (.tmp 38) x39 x38) fun x40 =>
  K .normal (act 55 [(0,x0),(3,x3),(7,x7),(17,x17),(18,x18),(19,x19),(37,x37),(38,x38),(39,x39),(40,x40)]) h:=kq_reg
theorem b24_lrllrlrrrllrrllrlrrr  : kCode env 24 false inv k (cp c24 2005458) (act 55 [(0,x0),(3,x3),(7,x7),(17,x17),(18,x18),(19,x19),(37,x37),(38,x38),(39,x39),(40,x40)]) h K = brV x40 (kCode env 24 false inv k (cp c24 4010916) (act 55 [(0,x0),(3,x3),(7,x7),(17,x17),(18,x18),(19,x19),(37,x37),(38,x38),(39,x39),(40,x40)]) h K) (kCode env 24 false inv k (cp c24 4010917) (act 55 [(0,x0),(3,x3),(7,x7),(17,x17),(18,x18),(19,x19),(37,x37),(38,x38),(39,x39),(40,x40)]) h K):=kq_cond
theorem r24_11  : kCode env 24 false inv k (cp c24 16043672) (act 55 [(0,x0),(3,x3),(7,x7),(17,x17),(18,x18),(19,x19),(37,x37),(38,x38),(39,x39),(40,x40)]) h K =
  bnd (pIndexAddr Try.prog 77 x37 x39) fun x41 =>
  bnd (pLoad Try.prog 81 x41 h) fun x42 =>
  K .normal (act 55 [(0,x0),(3,x3),(7,x7),(9,x42),(17,x17),(18,x18),(19,x19),(37,x37),(38,x38),(39,x39)]) h:=kq_reg
theorem r24_12  : kCode env 24 false inv k (cp c24 16043673) (act 55 [(0,x0),(3,x3),(7,x7),(9,x9),(17,x17),(18,x18),(19,x19),(37,x37),(38,x38),(39,x39)]) h K =
  bnd (inv (.method "shadowbook/agg.told") #[] #[x9] h) fun x45 =>
  bnd (pBuildSlice Try.prog 34 1 #[(0,x45.1)] x45.2) fun x46 =>
  bnd (pAppend Try.prog #[34,34] x7 x46.1 x46.2) fun x47 =>
  K .normal (act 55 [(0,x0),(3,x3),(7,x47.1),(17,x17),(18,x18),(19,x19),(37,x37),(38,x38),(39,x39)]) x47.2:=kq_reg
theorem r24_13  : kCode env 24 false inv k (cp c24 4010919) (act 55 [(0,x0),(3,x3),(7,x7),(17,x17),(18,x18),(19,x19),(37,x37),(38,x38),(39,x39)]) h K =
  bnd (pBin Try.prog .add 3 (.tmp 39) (.const (.int .i64 1)) x39 (.int .i64 1)) fun x48 =>
  K .normal (act 55 [(0,x0),(3,x3),(7,x7),(17,x17),(18,x18),(19,x19),(37,x37),(38,x38),(39,x48)]) h:=kq_reg
noncomputable def F24_lrlrrrllrrllrlrrr {β : Type} (inv : Inv) (k : Nat) : Nat→Value→Value→Value→Value→Value→Value→Value→Value→Value→AH→(Value→Value→Value→Value→Value→Value→Value→Value→Value→Value→AH→Option β)→Option β
 | 0,_,_,_,_,_,_,_,_,_,_,_=>none
 | j + 1,x0,x3,x7,x17,x18,x19,x37,x38,x39,h,ke2 =>
  bnd (pBin Try.prog .lss 3 (.tmp 39) (.tmp 38) x39 x38) fun x40 =>
  brV x40
  (bnd (pIndexAddr Try.prog 77 x37 x39) fun x41 =>
  bnd (pLoad Try.prog 81 x41 h) fun x42 =>
  bnd (inv (.method "shadowbook/agg.told") #[] #[x42] h) fun x45 =>
  bnd (pBuildSlice Try.prog 34 1 #[(0,x45.1)] x45.2) fun x46 =>
  bnd (pAppend Try.prog #[34,34] x7 x46.1 x46.2) fun x47 =>
  bnd (pBin Try.prog .add 3 (.tmp 39) (.const (.int .i64 1)) x39 (.int .i64 1)) fun x48 =>
  F24_lrlrrrllrrllrlrrr inv k j x0 x3 x47.1 x17 x18 x19 x37 x38 x48 x47.2 ke2)
  (ke2 x0 x3 x7 x17 x18 x19 x37 x38 x39 x40 h)
theorem F24_lrlrrrllrrllrlrrr_j (j : Nat) : kLoop (kCode env 24 false inv k (cp c24 501364)) j (act 55 [(0,x0),(3,x3),(7,x7),(17,x17),(18,x18),(19,x19),(37,x37),(38,x38),(39,x39)]) h K = F24_lrlrrrllrrllrlrrr inv k j x0 x3 x7 x17 x18 x19 x37 x38 x39 h (fun y0 y3 y7 y17 y18 y19 y37 y38 y39 y40 h=>K (.exit 2) (act 55 [(0,y0),(3,y3),(7,y7),(17,y17),(18,y18),(19,y19),(37,y37),(38,y38),(39,y39),(40,y40)]) h):=by
   induction j generalizing x0 x3 x7 x17 x18 x19 x37 x38 x39 h with
   | zero=>rfl
   | succ j ih =>
    unfold F24_lrlrrrllrrllrlrrr
    simp only [kLoop,kq_seq c24 501364,r24_10,kq_seq c24 1002729,b24_lrllrlrrrllrrllrlrrr,kq_skip c24 4010916,kq_seq c24 2005459,kq_block c24 4010918 3,kq_seq c24 8021836,r24_11,r24_12,r24_13,kq_exit c24 4010917 2,ih,reduceIte,reduceCtorEq,XE.exit.injEq,Nat.reduceEqDiff,Nat.reduceMul,Nat.reduceAdd] <;> kernel_rfl
theorem F24_lrlrrrllrrllrlrrr_eq  : kCode env 24 false inv k (cp c24 250682) (act 55 [(0,x0),(3,x3),(7,x7),(17,x17),(18,x18),(19,x19),(37,x37),(38,x38),(39,x39)]) h K = F24_lrlrrrllrrllrlrrr inv k k x0 x3 x7 x17 x18 x19 x37 x38 x39 h (fun y0 y3 y7 y17 y18 y19 y37 y38 y39 y40 h=>K (.exit 2) (act 55 [(0,y0),(3,y3),(7,y7),(17,y17),(18,y18),(19,y19),(37,y37),(38,y38),(39,y39),(40,y40)]) h):=kq_loop (F24_lrlrrrllrrllrlrrr_j k)
theorem r24_14  : kCode env 24 false inv k (cp c24 62671) (act 55 [(0,x0),(3,x3),(7,x7),(17,x17),(18,x18),(19,x19),(37,x37),(38,x38),(39,x39),(40,x40)]) h K =
  bnd (pBuildSlice Try.prog 23 1 #[(0,x7)] h) fun x51 =>
  bnd (pAppend Try.prog #[23,23] x3 x51.1 x51.2) fun x52 =>
  K .normal (act 55 [(0,x0),(3,x52.1),(17,x17),(18,x18),(19,x19)]) x52.2:=kq_reg
theorem r24_15  : kCode env 24 false inv k (cp c24 1959) (act 55 [(0,x0),(3,x3),(17,x17),(18,x18),(19,x19)]) h K =
  bnd (pBin Try.prog .add 3 (.tmp 19) (.const (.int .i64 1)) x19 (.int .i64 1)) fun x53 =>
  K .normal (act 55 [(0,x0),(3,x3),(17,x17),(18,x18),(19,x53)]) h:=kq_reg
noncomputable def F24_lrlrrr {β : Type} (inv : Inv) (k : Nat) : Nat→Value→Value→Value→Value→Value→AH→(Value→Value→Value→Value→Value→Value→AH→Option β)→Option β
 | 0,_,_,_,_,_,_,_=>none
 | j + 1,x0,x3,x17,x18,x19,h,ke0 =>
  bnd (pBin Try.prog .lss 3 (.tmp 19) (.tmp 18) x19 x18) fun x20 =>
  brV x20
  (bnd (pIndexAddr Try.prog 84 x17 x19) fun x21 =>
  bnd (pLoad Try.prog 9 x21 h) fun x22 =>
  bnd (pNilCheck Try.prog x0) fun x24 =>
  bnd (pFieldAddr Try.prog 69 x24 3) fun x25 =>
  bnd (pLoad Try.prog 67 x25 h) fun x26 =>
  bnd (pLookup Try.prog 67 x26 x22 false h) fun x28 =>
  bnd (pNilCheck Try.prog x28) fun x30 =>
  bnd (pFieldAddr Try.prog 79 x30 0) fun x31 =>
  bnd (pLoad Try.prog 34 x31 h) fun x32 =>
  bnd (inv (.func 51) #[] #[x32] h) fun x33 =>
  bnd (pNilCheck Try.prog x28) fun x35 =>
  bnd (pFieldAddr Try.prog 79 x35 1) fun x36 =>
  bnd (pLoad Try.prog 77 x36 x33.2) fun x37 =>
  bnd (pLen Try.prog #[77] x37 x33.2) fun x38 =>
  F24_lrlrrrllrrllrlrrr inv k k x0 x3 x33.1 x17 x18 x19 x37 x38 (.int .i64 0) x33.2
  (fun y0 y3 y7 y17 y18 y19 y37 y38 y39 y40 h =>
  bnd (pBuildSlice Try.prog 23 1 #[(0,y7)] h) fun x51 =>
  bnd (pAppend Try.prog #[23,23] y3 x51.1 x51.2) fun x52 =>
  bnd (pBin Try.prog .add 3 (.tmp 19) (.const (.int .i64 1)) y19 (.int .i64 1)) fun x53 =>
  F24_lrlrrr inv k j y0 x52.1 y17 y18 x53 x52.2 ke0))
  (ke0 x0 x3 x17 x18 x19 x20 h)
theorem F24_lrlrrr_j (j : Nat) : kLoop (kCode env 24 false inv k (cp c24 244)) j (act 55 [(0,x0),(3,x3),(17,x17),(18,x18),(19,x19)]) h K = F24_lrlrrr inv k j x0 x3 x17 x18 x19 h (fun y0 y3 y17 y18 y19 y20 h=>K (.exit 0) (act 55 [(0,y0),(3,y3),(17,y17),(18,y18),(19,y19),(20,y20)]) h):=by
   induction j generalizing x0 x3 x17 x18 x19 h with
   | zero=>rfl
   | succ j ih =>
    unfold F24_lrlrrr
    simp only [kLoop,kq_seq c24 244,r24_5,kq_seq c24 489,b24_lrllrlrrr,kq_skip c24 1956,kq_seq c24 979,kq_block c24 1958 1,kq_seq c24 3916,r24_6,kq_seq c24 7833,r24_7,kq_seq c24 15667,r24_8,kq_seq c24 31335,kq_seq c24 62670,r24_9,kq_block c24 125341 2,F24_lrlrrrllrrllrlrrr_eq,r24_14,r24_15,kq_exit c24 1957 0,ih,reduceIte,reduceCtorEq,XE.exit.injEq,Nat.reduceEqDiff,Nat.reduceMul,Nat.reduceAdd] <;> kernel_rfl
theorem F24_lrlrrr_eq  : kCode env 24 false inv k (cp c24 122) (act 55 [(0,x0),(3,x3),(17,x17),(18,x18),(19,x19)]) h K = F24_lrlrrr inv k k x0 x3 x17 x18 x19 h (fun y0 y3 y17 y18 y19 y20 h=>K (.exit 0) (act 55 [(0,y0),(3,y3),(17,y17),(18,y18),(19,y19),(20,y20)]) h):=kq_loop (F24_lrlrrr_j k)
theorem r24_16  : kCode env 24 false inv k (cp c24 62) (act 55 [(0,x0),(3,x3),(17,x17),(18,x18),(19,x19),(20,x20)]) h K =
  K .normal (act 55 [(2,x3)]) h:=kq_reg
/-- (*shadowbook/agg.Acc).Rows -/
noncomputable def F24 (inv : Inv) (k : Nat) (x0 : Value) (h : AH) : Option (Value × AH) :=
  bnd (pBin Try.prog .eql 44 (.tmp 10) (.const (.pointer none)) x0 (.pointer none)) fun x11 =>
  brV x11
  (some ((.slice none 0 0),h))
  (bnd (pNilCheck Try.prog x0) fun x13 =>
  bnd (pFieldAddr Try.prog 69 x13 3) fun x14 =>
  bnd (pLoad Try.prog 67 x14 h) fun x15 =>
  bnd (inv (.func 50) #[] #[x15] h) fun x16 =>
  bnd (inv (.func 49) #[] #[x16.1] x16.2) fun x17 =>
  bnd (pLen Try.prog #[84] x17.1 x17.2) fun x18 =>
  F24_lrlrrr inv k k x0 (.slice none 0 0) x17.1 x18 (.int .i64 0) x17.2
  (fun y0 y3 y17 y18 y19 y20 h =>
  some (y3,h)))
theorem F24_eq : eFun env k inv 24 #[x0] h = F24 inv k x0 h:=by
   refine (kq_fun (a:=act 55 [(0,x0)]) (c:=cp c24 1)).trans ?_
   unfold F24
   simp only [kq_seq c24 1,r24_0,kq_seq c24 3,kq_seq c24 6,r24_1,b24_rlr,kq_seq c24 26,r24_2,kq_ret c24 53,res24_0,kq_skip c24 27,kq_seq c24 7,r24_3,kq_seq c24 15,kq_seq c24 30,r24_4,kq_block c24 61 0,F24_lrlrrr_eq,kq_seq c24 31,r24_16,kq_ret c24 63,reduceIte,reduceCtorEq,XE.exit.injEq,Nat.reduceEqDiff,Nat.reduceMul,Nat.reduceAdd] <;> kernel_rfl
theorem F24_call : eInv env (k + 1) (.func 24) #[] #[x0] h = F24 (eInv env k) k x0 h:=kq_inv F24_eq
noncomputable def c25 : Code:=codeOf Try.prog 25
theorem r25_0  : kCode env 25 false inv k (cp c25 2) (act 131 [(0,x0),(1,x1),(2,x2)]) h K =
  K .normal (act 131 [(0,x0),(1,x1),(2,x2)]) h:=kq_reg
theorem r25_1  : kCode env 25 false inv k (cp c25 6) (act 131 [(0,x0),(1,x1),(2,x2)]) h K =
  K .normal (act 131 [(0,x0),(1,x1),(2,x2),(7,(.slice none 0 0))]) h:=kq_reg
theorem r25_2  : kCode env 25 false inv k (cp c25 28) (act 131 [(0,x0),(1,x1),(2,x2),(7,x7)]) h K =
  bnd (pLen Try.prog #[24] x1 h) fun x18 =>
  bnd (pBin Try.prog .eql 3 (.tmp 18) (.const (.int .i64 0)) x18 (.int .i64 0)) fun x19 =>
  K .normal (act 131 [(0,x0),(1,x1),(2,x2),(7,x7),(19,x19)]) h:=kq_reg
theorem b25_rlrr  : kCode env 25 false inv k (cp c25 29) (act 131 [(0,x0),(1,x1),(2,x2),(7,x7),(19,x19)]) h K = brV x19 (kCode env 25 false inv k (cp c25 58) (act 131 [(0,x0),(1,x1),(2,x2),(7,x7),(19,x19)]) h K) (kCode env 25 false inv k (cp c25 59) (act 131 [(0,x0),(1,x1),(2,x2),(7,x7),(19,x19)]) h K):=kq_cond
theorem r25_3  : kCode env 25 false inv k (cp c25 58) (act 131 [(0,x0),(1,x1),(2,x2),(7,x7),(19,x19)]) h K =
  bnd (pBuildSlice Try.prog 34 0 #[] h) fun x20 =>
  bnd (pBuildSlice Try.prog 23 1 #[(0,x20.1)] x20.2) fun x21 =>
  K .normal (act 131 [(0,x0),(1,x1),(2,x2),(7,x21.1)]) x21.2:=kq_reg
noncomputable def F25_rlrr {β : Type} (inv : Inv) (k : Nat) (x0 x1 x2 x7 x19 : Value) (h : AH) (kn : (Value→Value→Value→Value→Value→AH→Option β)) : Option β :=
  brV x19
  (bnd (pBuildSlice Try.prog 34 0 #[] h) fun x20 =>
  bnd (pBuildSlice Try.prog 23 1 #[(0,x20.1)] x20.2) fun x21 =>
  kn x0 x1 x2 x21.1 unk x21.2)
  (kn x0 x1 x2 x7 x19 h)
theorem F25_rlrr_eq  : kCode env 25 false inv k (cp c25 29) (act 131 [(0,x0),(1,x1),(2,x2),(7,x7),(19,x19)]) h K = F25_rlrr inv k x0 x1 x2 x7 x19 h (fun y0 y1 y2 y7 y19 h=>K .normal (act 131 [(0,y0),(1,y1),(2,y2),(7,y7),(19,y19)]) h):=by
   unfold F25_rlrr
   simp only [b25_rlrr,r25_3,kq_skip c25 59,reduceIte,reduceCtorEq,XE.exit.injEq,Nat.reduceEqDiff,Nat.reduceMul,Nat.reduceAdd] <;> kernel_rfl
theorem r25_4  : kCode env 25 false inv k (cp c25 60) (act 131 [(0,x0),(1,x1),(2,x2),(7,x7),(19,x19)]) h K =
  K .normal (act 131 [(0,x0),(1,x1),(2,x2),(7,x7),(8,(.int .i64 0))]) h:=kq_reg
theorem r25_5  : kCode env 25 false inv k (cp c25 976) (act 131 [(0,x0),(1,x1),(2,x2),(7,x7),(8,x8)]) h K =
  bnd (pLen Try.prog #[23] x0 h) fun x24 =>
  bnd (pBin Try.prog .lss 3 (.tmp 22) (.tmp 24) x8 x24) fun x25 =>
  K .normal (act 131 [(0,x0),(1,x1),(2,x2),(7,x7),(8,x8),(25,x25)]) h:=kq_reg
theorem b25_rlllrlrrr  : kCode env 25 false inv k (cp c25 977) (act 131 [(0,x0),(1,x1),(2,x2),(7,x7),(8,x8),(25,x25)]) h K = brV x25 (kCode env 25 false inv k (cp c25 1954) (act 131 [(0,x0),(1,x1),(2,x2),(7,x7),(8,x8),(25,x25)]) h K) (kCode env 25 false inv k (cp c25 1955) (act 131 [(0,x0),(1,x1),(2,x2),(7,x7),(8,x8),(25,x25)]) h K):=kq_cond
theorem r25_7  : kCode env 25 false inv k (cp c25 3912) (act 131 [(0,x0),(1,x1),(2,x2),(7,x7),(8,x8),(25,x25)]) h K =
  bnd (pIndexAddr Try.prog 23 x0 x8) fun x30 =>
  bnd (pLoad Try.prog 34 x30 h) fun x31 =>
  bnd (inv (.func 15) #[] #[x31,x1] h) fun x33 =>
  K .normal (act 131 [(0,x0),(1,x1),(2,x2),(7,x7),(8,x8),(9,x33.1)]) x33.2:=kq_reg
theorem r25_8  : kCode env 25 false inv k (cp c25 7826) (act 131 [(0,x0),(1,x1),(2,x2),(7,x7),(8,x8),(9,x9)]) h K =
  bnd (pLen Try.prog #[23] x7 h) fun x35 =>
  K .normal (act 131 [(0,x0),(1,x1),(2,x2),(7,x7),(8,x8),(9,x9),(10,x35)]) h:=kq_reg
noncomputable abbrev G25_9 {β : Type} (inv : Inv) (x0 x1 x2 x7 x8 x9 x10 : Value) (h : AH) (K : Value→AH→Option β) : Option β :=
  bnd (pBin Try.prog .gtr 3 (.tmp 36) (.const (.int .i64 0)) x10 (.int .i64 0)) fun x37 =>
  bnd (gd (some x37) true h (some (x7,h))) fun x39 =>
  bnd (gd (some x37) true x39.2 (some (x10,x39.2))) fun x40 =>
  bnd (gd (some x37) true x40.2 (lt (pBin Try.prog .sub 3 (.tmp 40) (.const (.int .i64 1)) x40.1 (.int .i64 1)) x40.2)) fun x41 =>
  bnd (gd (some x37) true x41.2 (lt (pIndexAddr Try.prog 23 x39.1 x41.1) x41.2)) fun x42 =>
  bnd (gd (some x37) true x42.2 (lt (pLoad Try.prog 34 x42.1 x42.2) x42.2)) fun x43 =>
  bnd (gd (some x37) true x43.2 (some (x9,x43.2))) fun x44 =>
  bnd (gd (some x37) true x44.2 (inv (.func 13) #[] #[x43.1,x44.1] x44.2)) fun x45 =>
  bnd (gd (some x37) true x45.2 (lt (pBin Try.prog .gtr 3 (.tmp 45) (.const (.int .i64 0)) x45.1 (.int .i64 0)) x45.2)) fun x46 =>
  bnd (pickV x37 x46.1 (.bool false)) fun x47 =>
  K (x47) x46.2
theorem r25_9  : kCode env 25 false inv k (cp c25 250464) (act 131 [(0,x0),(1,x1),(2,x2),(7,x7),(8,x8),(9,x9),(10,x10)]) h K =
  G25_9 inv x0 x1 x2 x7 x8 x9 x10 h fun y47 h=>K .normal (act 131 [(0,x0),(1,x1),(2,x2),(7,x7),(8,x8),(9,x9),(10,x10),(47,y47)]) h:=kq_reg
theorem b25_rllllrrllrllrlrrr  : kCode env 25 false inv k (cp c25 250465) (act 131 [(0,x0),(1,x1),(2,x2),(7,x7),(8,x8),(9,x9),(10,x10),(47,x47)]) h K = brV x47 (kCode env 25 false inv k (cp c25 500930) (act 131 [(0,x0),(1,x1),(2,x2),(7,x7),(8,x8),(9,x9),(10,x10),(47,x47)]) h K) (kCode env 25 false inv k (cp c25 500931) (act 131 [(0,x0),(1,x1),(2,x2),(7,x7),(8,x8),(9,x9),(10,x10),(47,x47)]) h K):=kq_cond
theorem r25_10  : kCode env 25 false inv k (cp c25 250466) (act 131 [(0,x0),(1,x1),(2,x2),(7,x7),(8,x8),(9,x9),(10,x10),(47,x47)]) h K =
  bnd (pBin Try.prog .sub 3 (.tmp 48) (.const (.int .i64 1)) x10 (.int .i64 1)) fun x49 =>
  K .normal (act 131 [(0,x0),(1,x1),(2,x2),(7,x7),(8,x8),(9,x9),(10,x49)]) h:=kq_reg
noncomputable def F25_llrrllrllrlrrr {β : Type} (inv : Inv) (k : Nat) : Nat→Value→Value→Value→Value→Value→Value→Value→AH→(Value→Value→Value→Value→Value→Value→Value→Value→AH→Option β)→Option β
 | 0,_,_,_,_,_,_,_,_,_=>none
 | j + 1,x0,x1,x2,x7,x8,x9,x10,h,ke2 =>
  G25_9 inv x0 x1 x2 x7 x8 x9 x10 h fun y47 h =>
  brV y47
  (bnd (pBin Try.prog .sub 3 (.tmp 48) (.const (.int .i64 1)) x10 (.int .i64 1)) fun x49 =>
  F25_llrrllrllrlrrr inv k j x0 x1 x2 x7 x8 x9 x49 h ke2)
  (ke2 x0 x1 x2 x7 x8 x9 x10 y47 h)
theorem F25_llrrllrllrlrrr_j (j : Nat) : kLoop (kCode env 25 false inv k (cp c25 62616)) j (act 131 [(0,x0),(1,x1),(2,x2),(7,x7),(8,x8),(9,x9),(10,x10)]) h K = F25_llrrllrllrlrrr inv k j x0 x1 x2 x7 x8 x9 x10 h (fun y0 y1 y2 y7 y8 y9 y10 y47 h=>K (.exit 2) (act 131 [(0,y0),(1,y1),(2,y2),(7,y7),(8,y8),(9,y9),(10,y10),(47,y47)]) h):=by
   induction j generalizing x0 x1 x2 x7 x8 x9 x10 h with
   | zero=>rfl
   | succ j ih =>
    unfold F25_llrrllrllrlrrr
    simp only [kLoop,kq_seq c25 62616,kq_seq c25 125232,r25_9,b25_rllllrrllrllrlrrr,kq_skip c25 500930,kq_block c25 125233 3,r25_10,kq_exit c25 500931 2,ih,reduceIte,reduceCtorEq,XE.exit.injEq,Nat.reduceEqDiff,Nat.reduceMul,Nat.reduceAdd] <;> kernel_rfl
theorem F25_llrrllrllrlrrr_eq  : kCode env 25 false inv k (cp c25 31308) (act 131 [(0,x0),(1,x1),(2,x2),(7,x7),(8,x8),(9,x9),(10,x10)]) h K = F25_llrrllrllrlrrr inv k k x0 x1 x2 x7 x8 x9 x10 h (fun y0 y1 y2 y7 y8 y9 y10 y47 h=>K (.exit 2) (act 131 [(0,y0),(1,y1),(2,y2),(7,y7),(8,y8),(9,y9),(10,y10),(47,y47)]) h):=kq_loop (F25_llrrllrllrlrrr_j k)
noncomputable abbrev G25_11 {β : Type} (inv : Inv) (x0 x1 x2 x7 x8 x9 x10 : Value) (h : AH) (K : Value→AH→Option β) : Option β :=
  bnd (pBin Try.prog .eql 3 (.tmp 50) (.const (.int .i64 0)) x10 (.int .i64 0)) fun x51 =>
  bnd (gd (some x51) false h (some (x7,h))) fun x53 =>
  bnd (gd (some x51) false x53.2 (some (x10,x53.2))) fun x54 =>
  bnd (gd (some x51) false x54.2 (lt (pBin Try.prog .sub 3 (.tmp 54) (.const (.int .i64 1)) x54.1 (.int .i64 1)) x54.2)) fun x55 =>
  bnd (gd (some x51) false x55.2 (lt (pIndexAddr Try.prog 23 x53.1 x55.1) x55.2)) fun x56 =>
  bnd (gd (some x51) false x56.2 (lt (pLoad Try.prog 34 x56.1 x56.2) x56.2)) fun x57 =>
  bnd (gd (some x51) false x57.2 (some (x9,x57.2))) fun x58 =>
  bnd (gd (some x51) false x58.2 (inv (.func 13) #[] #[x57.1,x58.1] x58.2)) fun x59 =>
  bnd (gd (some x51) false x59.2 (lt (pBin Try.prog .neq 3 (.tmp 59) (.const (.int .i64 0)) x59.1 (.int .i64 0)) x59.2)) fun x60 =>
  bnd (pickV x51 (.bool true) x60.1) fun x61 =>
  K (x61) x60.2
theorem r25_11  : kCode env 25 false inv k (cp c25 31310) (act 131 [(0,x0),(1,x1),(2,x2),(7,x7),(8,x8),(9,x9),(10,x10),(47,x47)]) h K =
  G25_11 inv x0 x1 x2 x7 x8 x9 x10 h fun y61 h=>K .normal (act 131 [(0,x0),(1,x1),(2,x2),(7,x7),(8,x8),(9,x9),(10,x10),(61,y61)]) h:=kq_reg
theorem b25_rrrrllrllrlrrr  : kCode env 25 false inv k (cp c25 31311) (act 131 [(0,x0),(1,x1),(2,x2),(7,x7),(8,x8),(9,x9),(10,x10),(61,x61)]) h K = brV x61 (kCode env 25 false inv k (cp c25 62622) (act 131 [(0,x0),(1,x1),(2,x2),(7,x7),(8,x8),(9,x9),(10,x10),(61,x61)]) h K) (kCode env 25 false inv k (cp c25 62623) (act 131 [(0,x0),(1,x1),(2,x2),(7,x7),(8,x8),(9,x9),(10,x10),(61,x61)]) h K):=kq_cond
noncomputable abbrev G25_12 {β : Type} (inv : Inv) (x0 x1 x2 x7 x8 x9 x10 : Value) (h : AH) (K : Value→AH→Option β) : Option β :=
  bnd (pBuildSlice Try.prog 23 0 #[] h) fun x62 =>
  bnd (pBuildSlice Try.prog 23 1 #[(0,x9)] x62.2) fun x68 =>
  bnd (pSlice Try.prog 23 x7 none (some x10) none x68.2) fun x65 =>
  bnd (pAppend Try.prog #[23,23] x62.1 x65 x68.2) fun x66 =>
  bnd (pAppend Try.prog #[23,23] x66.1 x68.1 x66.2) fun x69 =>
  bnd (pSlice Try.prog 23 x7 (some x10) none none x69.2) fun x72 =>
  bnd (pAppend Try.prog #[23,23] x69.1 x72 x69.2) fun x73 =>
  chkK ((!true || !true || (sameO (pSlice Try.prog 23 x7 none (some x10) none h) x65 && sameO (pSlice Try.prog 23 x7 none (some x10) none x62.2) x65)) && ((!true || !true || (sameO (pSlice Try.prog 23 x7 none (some x10) none x62.2) x65 && sameO (pSlice Try.prog 23 x7 none (some x10) none x68.2) x65)) && ((!true || !true || (sameO (pSlice Try.prog 23 x7 (some x10) none none h) x72 && sameO (pSlice Try.prog 23 x7 (some x10) none none x62.2) x72)) && ((!true || !true || (sameO (pSlice Try.prog 23 x7 (some x10) none none x62.2) x72 && sameO (pSlice Try.prog 23 x7 (some x10) none none x68.2) x72)) && ((!true || !true || (sameO (pSlice Try.prog 23 x7 (some x10) none none x68.2) x72 && sameO (pSlice Try.prog 23 x7 (some x10) none none x66.2) x72)) && ((!true || !true || (sameO (pSlice Try.prog 23 x7 (some x10) none none x66.2) x72 && sameO (pSlice Try.prog 23 x7 (some x10) none none x69.2) x72)) && true)))))) <|
  K (x73.1) x73.2
theorem r25_12  : kCode env 25 false inv k (cp c25 62622) (act 131 [(0,x0),(1,x1),(2,x2),(7,x7),(8,x8),(9,x9),(10,x10),(61,x61)]) h K =
  G25_12 inv x0 x1 x2 x7 x8 x9 x10 h fun y7 h=>K .normal (act 131 [(0,x0),(1,x1),(2,x2),(7,y7),(8,x8)]) h:=kq_draw
noncomputable def F25_lrllrlrrr {β : Type} (inv : Inv) (k : Nat) (x0 x1 x2 x7 x8 x25 : Value) (h : AH) (kn : (Value→Value→Value→Value→Value→Value→Value→Value→AH→Option β)) : Option β :=
  bnd (pIndexAddr Try.prog 23 x0 x8) fun x30 =>
  bnd (pLoad Try.prog 34 x30 h) fun x31 =>
  bnd (inv (.func 15) #[] #[x31,x1] h) fun x33 =>
  bnd (pLen Try.prog #[23] x7 x33.2) fun x35 =>
  F25_llrrllrllrlrrr inv k k x0 x1 x2 x7 x8 x33.1 x35 x33.2
  (fun y0 y1 y2 y7 y8 y9 y10 y47 h =>
  G25_11 inv y0 y1 y2 y7 y8 y9 y10 h fun y61 h_1 =>
  brV y61
  (G25_12 inv y0 y1 y2 y7 y8 y9 y10 h_1 fun y7_2 h_3 =>
  kn y0 y1 y2 y7_2 y8 unk unk unk h_3)
  (kn y0 y1 y2 y7 y8 y9 y10 y61 h_1))
theorem F25_lrllrlrrr_eq  : kCode env 25 false inv k (cp c25 978) (act 131 [(0,x0),(1,x1),(2,x2),(7,x7),(8,x8),(25,x25)]) h K = F25_lrllrlrrr inv k x0 x1 x2 x7 x8 x25 h (fun y0 y1 y2 y7 y8 y9 y10 y61 h=>K .normal (act 131 [(0,y0),(1,y1),(2,y2),(7,y7),(8,y8),(9,y9),(10,y10),(61,y61)]) h):=by
   unfold F25_lrllrlrrr
   simp only [kq_block c25 978 1,kq_seq c25 1956,r25_7,kq_seq c25 3913,r25_8,kq_seq c25 7827,kq_block c25 15654 2,F25_llrrllrllrlrrr_eq,kq_seq c25 15655,r25_11,b25_rrrrllrllrlrrr,r25_12,kq_skip c25 62623,reduceIte,reduceCtorEq,XE.exit.injEq,Nat.reduceEqDiff,Nat.reduceMul,Nat.reduceAdd] <;> kernel_rfl
theorem r25_6  : kCode env 25 false inv k (cp c25 979) (act 131 [(0,x0),(1,x1),(2,x2),(7,x7),(8,x8),(9,x9),(10,x10),(61,x61)]) h K =
  bnd (pBin Try.prog .add 3 (.tmp 26) (.const (.int .i64 1)) x8 (.int .i64 1)) fun x27 =>
  K .normal (act 131 [(0,x0),(1,x1),(2,x2),(7,x7),(8,x27)]) h:=kq_reg
noncomputable def F25_lrlrrr {β : Type} (inv : Inv) (k : Nat) : Nat→Value→Value→Value→Value→Value→AH→(Value→Value→Value→Value→Value→Value→AH→Option β)→Option β
 | 0,_,_,_,_,_,_,_=>none
 | j + 1,x0,x1,x2,x7,x8,h,ke0 =>
  bnd (pLen Try.prog #[23] x0 h) fun x24 =>
  bnd (pBin Try.prog .lss 3 (.tmp 22) (.tmp 24) x8 x24) fun x25 =>
  brV x25
  (F25_lrllrlrrr inv k x0 x1 x2 x7 x8 x25 h
  (fun y0 y1 y2 y7 y8 y9 y10 y61 h =>
  bnd (pBin Try.prog .add 3 (.tmp 26) (.const (.int .i64 1)) y8 (.int .i64 1)) fun x27 =>
  F25_lrlrrr inv k j y0 y1 y2 y7 x27 h ke0))
  (ke0 x0 x1 x2 x7 x8 x25 h)
theorem F25_lrlrrr_j (j : Nat) : kLoop (kCode env 25 false inv k (cp c25 244)) j (act 131 [(0,x0),(1,x1),(2,x2),(7,x7),(8,x8)]) h K = F25_lrlrrr inv k j x0 x1 x2 x7 x8 h (fun y0 y1 y2 y7 y8 y25 h=>K (.exit 0) (act 131 [(0,y0),(1,y1),(2,y2),(7,y7),(8,y8),(25,y25)]) h):=by
   induction j generalizing x0 x1 x2 x7 x8 h with
   | zero=>rfl
   | succ j ih =>
    unfold F25_lrlrrr
    simp only [kLoop,kq_seq c25 244,kq_seq c25 488,r25_5,b25_rlllrlrrr,kq_skip c25 1954,kq_seq c25 489,F25_lrllrlrrr_eq,r25_6,kq_exit c25 1955 0,ih,reduceIte,reduceCtorEq,XE.exit.injEq,Nat.reduceEqDiff,Nat.reduceMul,Nat.reduceAdd] <;> kernel_rfl
theorem F25_lrlrrr_eq  : kCode env 25 false inv k (cp c25 122) (act 131 [(0,x0),(1,x1),(2,x2),(7,x7),(8,x8)]) h K = F25_lrlrrr inv k k x0 x1 x2 x7 x8 h (fun y0 y1 y2 y7 y8 y25 h=>K (.exit 0) (act 131 [(0,y0),(1,y1),(2,y2),(7,y7),(8,y8),(25,y25)]) h):=kq_loop (F25_lrlrrr_j k)
theorem r25_13  : kCode env 25 false inv k (cp c25 62) (act 131 [(0,x0),(1,x1),(2,x2),(7,x7),(8,x8),(25,x25)]) h K =
  K .normal (act 131 [(0,x0),(1,x1),(2,x2),(7,x7),(11,(.slice none 0 0))]) h:=kq_reg
theorem r25_14  : kCode env 25 false inv k (cp c25 252) (act 131 [(0,x0),(1,x1),(2,x2),(7,x7),(11,x11)]) h K =
  K .normal (act 131 [(0,x0),(1,x1),(2,x2),(7,x7),(11,x11),(12,(.int .i64 0))]) h:=kq_reg
theorem r25_15  : kCode env 25 false inv k (cp c25 4048) (act 131 [(0,x0),(1,x1),(2,x2),(7,x7),(11,x11),(12,x12)]) h K =
  bnd (pLen Try.prog #[23] x7 h) fun x76 =>
  bnd (pBin Try.prog .lss 3 (.tmp 74) (.tmp 76) x12 x76) fun x77 =>
  K .normal (act 131 [(0,x0),(1,x1),(2,x2),(7,x7),(11,x11),(12,x12),(77,x77)]) h:=kq_reg
theorem b25_rlllrlrrrrr  : kCode env 25 false inv k (cp c25 4049) (act 131 [(0,x0),(1,x1),(2,x2),(7,x7),(11,x11),(12,x12),(77,x77)]) h K = brV x77 (kCode env 25 false inv k (cp c25 8098) (act 131 [(0,x0),(1,x1),(2,x2),(7,x7),(11,x11),(12,x12),(77,x77)]) h K) (kCode env 25 false inv k (cp c25 8099) (act 131 [(0,x0),(1,x1),(2,x2),(7,x7),(11,x11),(12,x12),(77,x77)]) h K):=kq_cond
theorem r25_17  : kCode env 25 false inv k (cp c25 16200) (act 131 [(0,x0),(1,x1),(2,x2),(7,x7),(11,x11),(12,x12),(77,x77)]) h K =
  K .normal (act 131 [(0,x0),(1,x1),(2,x2),(7,x7),(11,x11),(12,x12),(13,(.slice none 0 0))]) h:=kq_reg
theorem r25_18  : kCode env 25 false inv k (cp c25 64804) (act 131 [(0,x0),(1,x1),(2,x2),(7,x7),(11,x11),(12,x12),(13,x13)]) h K =
  K .normal (act 131 [(0,x0),(1,x1),(2,x2),(7,x7),(11,x11),(12,x12),(13,x13),(14,(.int .i64 0))]) h:=kq_reg
theorem r25_19  : kCode env 25 false inv k (cp c25 1036880) (act 131 [(0,x0),(1,x1),(2,x2),(7,x7),(11,x11),(12,x12),(13,x13),(14,x14)]) h K =
  bnd (pLen Try.prog #[23] x0 h) fun x82 =>
  bnd (pBin Try.prog .lss 3 (.tmp 80) (.tmp 82) x14 x82) fun x83 =>
  K .normal (act 131 [(0,x0),(1,x1),(2,x2),(7,x7),(11,x11),(12,x12),(13,x13),(14,x14),(83,x83)]) h:=kq_reg
theorem b25_rlllrlrllrllrlrrrrr  : kCode env 25 false inv k (cp c25 1036881) (act 131 [(0,x0),(1,x1),(2,x2),(7,x7),(11,x11),(12,x12),(13,x13),(14,x14),(83,x83)]) h K = brV x83 (kCode env 25 false inv k (cp c25 2073762) (act 131 [(0,x0),(1,x1),(2,x2),(7,x7),(11,x11),(12,x12),(13,x13),(14,x14),(83,x83)]) h K) (kCode env 25 false inv k (cp c25 2073763) (act 131 [(0,x0),(1,x1),(2,x2),(7,x7),(11,x11),(12,x12),(13,x13),(14,x14),(83,x83)]) h K):=kq_cond
noncomputable abbrev G25_21 {β : Type} (inv : Inv) (x0 x1 x2 x7 x11 x12 x13 x14 : Value) (h : AH) (K : Value→AH→Option β) : Option β :=
  bnd (pIndexAddr Try.prog 23 x0 x14) fun x88 =>
  bnd (pLoad Try.prog 34 x88 h) fun x89 =>
  bnd (inv (.func 15) #[] #[x89,x1] h) fun x91 =>
  bnd (pIndexAddr Try.prog 23 x7 x12) fun x94 =>
  bnd (pLoad Try.prog 34 x94 x91.2) fun x95 =>
  bnd (inv (.func 13) #[] #[x91.1,x95] x91.2) fun x96 =>
  bnd (pBin Try.prog .eql 3 (.tmp 96) (.const (.int .i64 0)) x96.1 (.int .i64 0)) fun x97 =>
  chkK ((!true || !true || (sameO (pLoad Try.prog 34 x94 h) x95 && sameO (pLoad Try.prog 34 x94 x91.2) x95)) && true) <|
  K (x97) x96.2
theorem r25_21  : kCode env 25 false inv k (cp c25 4147528) (act 131 [(0,x0),(1,x1),(2,x2),(7,x7),(11,x11),(12,x12),(13,x13),(14,x14),(83,x83)]) h K =
  G25_21 inv x0 x1 x2 x7 x11 x12 x13 x14 h fun y97 h=>K .normal (act 131 [(0,x0),(1,x1),(2,x2),(7,x7),(11,x11),(12,x12),(13,x13),(14,x14),(97,y97)]) h:=kq_draw
theorem b25_rllrllrlrllrllrlrrrrr  : kCode env 25 false inv k (cp c25 4147529) (act 131 [(0,x0),(1,x1),(2,x2),(7,x7),(11,x11),(12,x12),(13,x13),(14,x14),(97,x97)]) h K = brV x97 (kCode env 25 false inv k (cp c25 8295058) (act 131 [(0,x0),(1,x1),(2,x2),(7,x7),(11,x11),(12,x12),(13,x13),(14,x14),(97,x97)]) h K) (kCode env 25 false inv k (cp c25 8295059) (act 131 [(0,x0),(1,x1),(2,x2),(7,x7),(11,x11),(12,x12),(13,x13),(14,x14),(97,x97)]) h K):=kq_cond
theorem r25_22  : kCode env 25 false inv k (cp c25 8295058) (act 131 [(0,x0),(1,x1),(2,x2),(7,x7),(11,x11),(12,x12),(13,x13),(14,x14),(97,x97)]) h K =
  bnd (pIndexAddr Try.prog 23 x0 x14) fun x101 =>
  bnd (pLoad Try.prog 34 x101 h) fun x102 =>
  bnd (pBuildSlice Try.prog 23 1 #[(0,x102)] h) fun x103 =>
  bnd (pAppend Try.prog #[23,23] x13 x103.1 x103.2) fun x104 =>
  K .normal (act 131 [(0,x0),(1,x1),(2,x2),(7,x7),(11,x11),(12,x12),(13,x104.1),(14,x14)]) x104.2:=kq_reg
noncomputable def F25_lrllrlrllrllrlrrrrr {β : Type} (inv : Inv) (k : Nat) (x0 x1 x2 x7 x11 x12 x13 x14 x83 : Value) (h : AH) (kn : (Value→Value→Value→Value→Value→Value→Value→Value→Value→AH→Option β)) : Option β :=
  G25_21 inv x0 x1 x2 x7 x11 x12 x13 x14 h fun y97 h =>
  brV y97
  (bnd (pIndexAddr Try.prog 23 x0 x14) fun x101 =>
  bnd (pLoad Try.prog 34 x101 h) fun x102 =>
  bnd (pBuildSlice Try.prog 23 1 #[(0,x102)] h) fun x103 =>
  bnd (pAppend Try.prog #[23,23] x13 x103.1 x103.2) fun x104 =>
  kn x0 x1 x2 x7 x11 x12 x104.1 x14 unk x104.2)
  (kn x0 x1 x2 x7 x11 x12 x13 x14 y97 h)
theorem F25_lrllrlrllrllrlrrrrr_eq  : kCode env 25 false inv k (cp c25 1036882) (act 131 [(0,x0),(1,x1),(2,x2),(7,x7),(11,x11),(12,x12),(13,x13),(14,x14),(83,x83)]) h K = F25_lrllrlrllrllrlrrrrr inv k x0 x1 x2 x7 x11 x12 x13 x14 x83 h (fun y0 y1 y2 y7 y11 y12 y13 y14 y97 h=>K .normal (act 131 [(0,y0),(1,y1),(2,y2),(7,y7),(11,y11),(12,y12),(13,y13),(14,y14),(97,y97)]) h):=by
   unfold F25_lrllrlrllrllrlrrrrr
   simp only [kq_block c25 1036882 7,kq_seq c25 2073764,r25_21,b25_rllrllrlrllrllrlrrrrr,r25_22,kq_skip c25 8295059,reduceIte,reduceCtorEq,XE.exit.injEq,Nat.reduceEqDiff,Nat.reduceMul,Nat.reduceAdd] <;> kernel_rfl
theorem r25_20  : kCode env 25 false inv k (cp c25 1036883) (act 131 [(0,x0),(1,x1),(2,x2),(7,x7),(11,x11),(12,x12),(13,x13),(14,x14),(97,x97)]) h K =
  bnd (pBin Try.prog .add 3 (.tmp 84) (.const (.int .i64 1)) x14 (.int .i64 1)) fun x85 =>
  K .normal (act 131 [(0,x0),(1,x1),(2,x2),(7,x7),(11,x11),(12,x12),(13,x13),(14,x85)]) h:=kq_reg
noncomputable def F25_lrlrllrllrlrrrrr {β : Type} (inv : Inv) (k : Nat) : Nat→Value→Value→Value→Value→Value→Value→Value→Value→AH→(Value→Value→Value→Value→Value→Value→Value→Value→Value→AH→Option β)→Option β
 | 0,_,_,_,_,_,_,_,_,_,_=>none
 | j + 1,x0,x1,x2,x7,x11,x12,x13,x14,h,ke6 =>
  bnd (pLen Try.prog #[23] x0 h) fun x82 =>
  bnd (pBin Try.prog .lss 3 (.tmp 80) (.tmp 82) x14 x82) fun x83 =>
  brV x83
  (F25_lrllrlrllrllrlrrrrr inv k x0 x1 x2 x7 x11 x12 x13 x14 x83 h
  (fun y0 y1 y2 y7 y11 y12 y13 y14 y97 h =>
  bnd (pBin Try.prog .add 3 (.tmp 84) (.const (.int .i64 1)) y14 (.int .i64 1)) fun x85 =>
  F25_lrlrllrllrlrrrrr inv k j y0 y1 y2 y7 y11 y12 y13 x85 h ke6))
  (ke6 x0 x1 x2 x7 x11 x12 x13 x14 x83 h)
theorem F25_lrlrllrllrlrrrrr_j (j : Nat) : kLoop (kCode env 25 false inv k (cp c25 259220)) j (act 131 [(0,x0),(1,x1),(2,x2),(7,x7),(11,x11),(12,x12),(13,x13),(14,x14)]) h K = F25_lrlrllrllrlrrrrr inv k j x0 x1 x2 x7 x11 x12 x13 x14 h (fun y0 y1 y2 y7 y11 y12 y13 y14 y83 h=>K (.exit 6) (act 131 [(0,y0),(1,y1),(2,y2),(7,y7),(11,y11),(12,y12),(13,y13),(14,y14),(83,y83)]) h):=by
   induction j generalizing x0 x1 x2 x7 x11 x12 x13 x14 h with
   | zero=>rfl
   | succ j ih =>
    unfold F25_lrlrllrllrlrrrrr
    simp only [kLoop,kq_seq c25 259220,kq_seq c25 518440,r25_19,b25_rlllrlrllrllrlrrrrr,kq_skip c25 2073762,kq_seq c25 518441,F25_lrllrlrllrllrlrrrrr_eq,r25_20,kq_exit c25 2073763 6,ih,reduceIte,reduceCtorEq,XE.exit.injEq,Nat.reduceEqDiff,Nat.reduceMul,Nat.reduceAdd] <;> kernel_rfl
theorem F25_lrlrllrllrlrrrrr_eq  : kCode env 25 false inv k (cp c25 129610) (act 131 [(0,x0),(1,x1),(2,x2),(7,x7),(11,x11),(12,x12),(13,x13),(14,x14)]) h K = F25_lrlrllrllrlrrrrr inv k k x0 x1 x2 x7 x11 x12 x13 x14 h (fun y0 y1 y2 y7 y11 y12 y13 y14 y83 h=>K (.exit 6) (act 131 [(0,y0),(1,y1),(2,y2),(7,y7),(11,y11),(12,y12),(13,y13),(14,y14),(83,y83)]) h):=kq_loop (F25_lrlrllrllrlrrrrr_j k)
theorem r25_23  : kCode env 25 false inv k (cp c25 64806) (act 131 [(0,x0),(1,x1),(2,x2),(7,x7),(11,x11),(12,x12),(13,x13),(14,x14),(83,x83)]) h K =
  bnd (pBuildSlice Try.prog 34 0 #[] h) fun x105 =>
  bnd (pIndexAddr Try.prog 23 x7 x12) fun x108 =>
  bnd (pLoad Try.prog 34 x108 x105.2) fun x109 =>
  bnd (pAppend Try.prog #[34,34] x105.1 x109 x105.2) fun x110 =>
  K .normal (act 131 [(0,x0),(1,x1),(2,x2),(7,x7),(11,x11),(12,x12),(13,x13),(15,x110.1)]) x110.2:=kq_reg
theorem r25_24  : kCode env 25 false inv k (cp c25 259228) (act 131 [(0,x0),(1,x1),(2,x2),(7,x7),(11,x11),(12,x12),(13,x13),(15,x15)]) h K =
  K .normal (act 131 [(0,x0),(1,x1),(2,x2),(7,x7),(11,x11),(12,x12),(13,x13),(15,x15),(16,(.int .i64 0))]) h:=kq_reg
theorem r25_25  : kCode env 25 false inv k (cp c25 4147664) (act 131 [(0,x0),(1,x1),(2,x2),(7,x7),(11,x11),(12,x12),(13,x13),(15,x15),(16,x16)]) h K =
  bnd (pLen Try.prog #[29] x2 h) fun x113 =>
  bnd (pBin Try.prog .lss 3 (.tmp 111) (.tmp 113) x16 x113) fun x114 =>
  K .normal (act 131 [(0,x0),(1,x1),(2,x2),(7,x7),(11,x11),(12,x12),(13,x13),(15,x15),(16,x16),(114,x114)]) h:=kq_reg
theorem b25_rlllrlrrrllrllrlrrrrr  : kCode env 25 false inv k (cp c25 4147665) (act 131 [(0,x0),(1,x1),(2,x2),(7,x7),(11,x11),(12,x12),(13,x13),(15,x15),(16,x16),(114,x114)]) h K = brV x114 (kCode env 25 false inv k (cp c25 8295330) (act 131 [(0,x0),(1,x1),(2,x2),(7,x7),(11,x11),(12,x12),(13,x13),(15,x15),(16,x16),(114,x114)]) h K) (kCode env 25 false inv k (cp c25 8295331) (act 131 [(0,x0),(1,x1),(2,x2),(7,x7),(11,x11),(12,x12),(13,x13),(15,x15),(16,x16),(114,x114)]) h K):=kq_cond
theorem r25_27  : kCode env 25 false inv k (cp c25 8295332) (act 131 [(0,x0),(1,x1),(2,x2),(7,x7),(11,x11),(12,x12),(13,x13),(15,x15),(16,x16),(114,x114)]) h K =
  bnd (pIndexAddr Try.prog 29 x2 x16) fun x121 =>
  bnd (pLoad Try.prog 28 x121 h) fun x122 =>
  bnd (inv (.func 52) #[] #[x13,x122] h) fun x123 =>
  bnd (pBuildSlice Try.prog 34 1 #[(0,x123.1)] x123.2) fun x124 =>
  bnd (pAppend Try.prog #[34,34] x15 x124.1 x124.2) fun x125 =>
  K .normal (act 131 [(0,x0),(1,x1),(2,x2),(7,x7),(11,x11),(12,x12),(13,x13),(15,x125.1),(16,x16)]) x125.2:=kq_reg
theorem r25_26  : kCode env 25 false inv k (cp c25 4147667) (act 131 [(0,x0),(1,x1),(2,x2),(7,x7),(11,x11),(12,x12),(13,x13),(15,x15),(16,x16)]) h K =
  bnd (pBin Try.prog .add 3 (.tmp 115) (.const (.int .i64 1)) x16 (.int .i64 1)) fun x116 =>
  K .normal (act 131 [(0,x0),(1,x1),(2,x2),(7,x7),(11,x11),(12,x12),(13,x13),(15,x15),(16,x116)]) h:=kq_reg
noncomputable def F25_lrlrrrllrllrlrrrrr {β : Type} (inv : Inv) (k : Nat) : Nat→Value→Value→Value→Value→Value→Value→Value→Value→Value→AH→(Value→Value→Value→Value→Value→Value→Value→Value→Value→Value→AH→Option β)→Option β
 | 0,_,_,_,_,_,_,_,_,_,_,_=>none
 | j + 1,x0,x1,x2,x7,x11,x12,x13,x15,x16,h,ke8 =>
  bnd (pLen Try.prog #[29] x2 h) fun x113 =>
  bnd (pBin Try.prog .lss 3 (.tmp 111) (.tmp 113) x16 x113) fun x114 =>
  brV x114
  (bnd (pIndexAddr Try.prog 29 x2 x16) fun x121 =>
  bnd (pLoad Try.prog 28 x121 h) fun x122 =>
  bnd (inv (.func 52) #[] #[x13,x122] h) fun x123 =>
  bnd (pBuildSlice Try.prog 34 1 #[(0,x123.1)] x123.2) fun x124 =>
  bnd (pAppend Try.prog #[34,34] x15 x124.1 x124.2) fun x125 =>
  bnd (pBin Try.prog .add 3 (.tmp 115) (.const (.int .i64 1)) x16 (.int .i64 1)) fun x116 =>
  F25_lrlrrrllrllrlrrrrr inv k j x0 x1 x2 x7 x11 x12 x13 x125.1 x116 x125.2 ke8)
  (ke8 x0 x1 x2 x7 x11 x12 x13 x15 x16 x114 h)
theorem F25_lrlrrrllrllrlrrrrr_j (j : Nat) : kLoop (kCode env 25 false inv k (cp c25 1036916)) j (act 131 [(0,x0),(1,x1),(2,x2),(7,x7),(11,x11),(12,x12),(13,x13),(15,x15),(16,x16)]) h K = F25_lrlrrrllrllrlrrrrr inv k j x0 x1 x2 x7 x11 x12 x13 x15 x16 h (fun y0 y1 y2 y7 y11 y12 y13 y15 y16 y114 h=>K (.exit 8) (act 131 [(0,y0),(1,y1),(2,y2),(7,y7),(11,y11),(12,y12),(13,y13),(15,y15),(16,y16),(114,y114)]) h):=by
   induction j generalizing x0 x1 x2 x7 x11 x12 x13 x15 x16 h with
   | zero=>rfl
   | succ j ih =>
    unfold F25_lrlrrrllrllrlrrrrr
    simp only [kLoop,kq_seq c25 1036916,kq_seq c25 2073832,r25_25,b25_rlllrlrrrllrllrlrrrrr,kq_skip c25 8295330,kq_seq c25 2073833,kq_block c25 4147666 9,r25_27,r25_26,kq_exit c25 8295331 8,ih,reduceIte,reduceCtorEq,XE.exit.injEq,Nat.reduceEqDiff,Nat.reduceMul,Nat.reduceAdd] <;> kernel_rfl
theorem F25_lrlrrrllrllrlrrrrr_eq  : kCode env 25 false inv k (cp c25 518458) (act 131 [(0,x0),(1,x1),(2,x2),(7,x7),(11,x11),(12,x12),(13,x13),(15,x15),(16,x16)]) h K = F25_lrlrrrllrllrlrrrrr inv k k x0 x1 x2 x7 x11 x12 x13 x15 x16 h (fun y0 y1 y2 y7 y11 y12 y13 y15 y16 y114 h=>K (.exit 8) (act 131 [(0,y0),(1,y1),(2,y2),(7,y7),(11,y11),(12,y12),(13,y13),(15,y15),(16,y16),(114,y114)]) h):=kq_loop (F25_lrlrrrllrllrlrrrrr_j k)
theorem r25_28  : kCode env 25 false inv k (cp c25 129615) (act 131 [(0,x0),(1,x1),(2,x2),(7,x7),(11,x11),(12,x12),(13,x13),(15,x15),(16,x16),(114,x114)]) h K =
  bnd (pBuildSlice Try.prog 23 1 #[(0,x15)] h) fun x128 =>
  bnd (pAppend Try.prog #[23,23] x11 x128.1 x128.2) fun x129 =>
  K .normal (act 131 [(0,x0),(1,x1),(2,x2),(7,x7),(11,x129.1),(12,x12)]) x129.2:=kq_reg
theorem r25_16  : kCode env 25 false inv k (cp c25 4051) (act 131 [(0,x0),(1,x1),(2,x2),(7,x7),(11,x11),(12,x12)]) h K =
  bnd (pBin Try.prog .add 3 (.tmp 78) (.const (.int .i64 1)) x12 (.int .i64 1)) fun x79 =>
  K .normal (act 131 [(0,x0),(1,x1),(2,x2),(7,x7),(11,x11),(12,x79)]) h:=kq_reg
noncomputable def F25_lrlrrrrr {β : Type} (inv : Inv) (k : Nat) : Nat→Value→Value→Value→Value→Value→Value→AH→(Value→Value→Value→Value→Value→Value→Value→AH→Option β)→Option β
 | 0,_,_,_,_,_,_,_,_=>none
 | j + 1,x0,x1,x2,x7,x11,x12,h,ke4 =>
  bnd (pLen Try.prog #[23] x7 h) fun x76 =>
  bnd (pBin Try.prog .lss 3 (.tmp 74) (.tmp 76) x12 x76) fun x77 =>
  brV x77
  (F25_lrlrllrllrlrrrrr inv k k x0 x1 x2 x7 x11 x12 (.slice none 0 0) (.int .i64 0) h
  (fun y0 y1 y2 y7 y11 y12 y13 y14 y83 h =>
  bnd (pBuildSlice Try.prog 34 0 #[] h) fun x105 =>
  bnd (pIndexAddr Try.prog 23 y7 y12) fun x108 =>
  bnd (pLoad Try.prog 34 x108 x105.2) fun x109 =>
  bnd (pAppend Try.prog #[34,34] x105.1 x109 x105.2) fun x110 =>
  F25_lrlrrrllrllrlrrrrr inv k k y0 y1 y2 y7 y11 y12 y13 x110.1 (.int .i64 0) x110.2
  (fun y0_9 y1_10 y2_11 y7_12 y11_13 y12_14 y13_15 y15 y16 y114 h_16 =>
  bnd (pBuildSlice Try.prog 23 1 #[(0,y15)] h_16) fun x128 =>
  bnd (pAppend Try.prog #[23,23] y11_13 x128.1 x128.2) fun x129 =>
  bnd (pBin Try.prog .add 3 (.tmp 78) (.const (.int .i64 1)) y12_14 (.int .i64 1)) fun x79 =>
  F25_lrlrrrrr inv k j y0_9 y1_10 y2_11 y7_12 x129.1 x79 x129.2 ke4)))
  (ke4 x0 x1 x2 x7 x11 x12 x77 h)
theorem F25_lrlrrrrr_j (j : Nat) : kLoop (kCode env 25 false inv k (cp c25 1012)) j (act 131 [(0,x0),(1,x1),(2,x2),(7,x7),(11,x11),(12,x12)]) h K = F25_lrlrrrrr inv k j x0 x1 x2 x7 x11 x12 h (fun y0 y1 y2 y7 y11 y12 y77 h=>K (.exit 4) (act 131 [(0,y0),(1,y1),(2,y2),(7,y7),(11,y11),(12,y12),(77,y77)]) h):=by
   induction j generalizing x0 x1 x2 x7 x11 x12 h with
   | zero=>rfl
   | succ j ih =>
    unfold F25_lrlrrrrr
    simp only [kLoop,kq_seq c25 1012,kq_seq c25 2024,r25_15,b25_rlllrlrrrrr,kq_skip c25 8098,kq_seq c25 2025,kq_block c25 4050 5,kq_seq c25 8100,r25_17,kq_seq c25 16201,kq_seq c25 32402,r25_18,kq_block c25 64805 6,F25_lrlrllrllrlrrrrr_eq,kq_seq c25 32403,r25_23,kq_seq c25 64807,kq_seq c25 129614,r25_24,kq_block c25 259229 8,F25_lrlrrrllrllrlrrrrr_eq,r25_28,r25_16,kq_exit c25 8099 4,ih,reduceIte,reduceCtorEq,XE.exit.injEq,Nat.reduceEqDiff,Nat.reduceMul,Nat.reduceAdd] <;> kernel_rfl
theorem F25_lrlrrrrr_eq  : kCode env 25 false inv k (cp c25 506) (act 131 [(0,x0),(1,x1),(2,x2),(7,x7),(11,x11),(12,x12)]) h K = F25_lrlrrrrr inv k k x0 x1 x2 x7 x11 x12 h (fun y0 y1 y2 y7 y11 y12 y77 h=>K (.exit 4) (act 131 [(0,y0),(1,y1),(2,y2),(7,y7),(11,y11),(12,y12),(77,y77)]) h):=kq_loop (F25_lrlrrrrr_j k)
theorem r25_29  : kCode env 25 false inv k (cp c25 254) (act 131 [(0,x0),(1,x1),(2,x2),(7,x7),(11,x11),(12,x12),(77,x77)]) h K =
  K .normal (act 131 [(6,x11)]) h:=kq_reg
theorem res25_0 : resOfFn env.P 25 .ret (act 131 [(6,x6)]) h = some (x6,h):=kq_res
/-- shadowbook/shadowbookref20.Told -/
noncomputable def F25 (inv : Inv) (k : Nat) (x0 x1 x2 : Value) (h : AH) : Option (Value × AH) :=
  bnd (pLen Try.prog #[24] x1 h) fun x18 =>
  bnd (pBin Try.prog .eql 3 (.tmp 18) (.const (.int .i64 0)) x18 (.int .i64 0)) fun x19 =>
  F25_rlrr inv k x0 x1 x2 (.slice none 0 0) x19 h
  (fun y0 y1 y2 y7 y19 h =>
  F25_lrlrrr inv k k y0 y1 y2 y7 (.int .i64 0) h
  (fun y0_4 y1_5 y2_6 y7_7 y8 y25 h_8 =>
  F25_lrlrrrrr inv k k y0_4 y1_5 y2_6 y7_7 (.slice none 0 0) (.int .i64 0) h_8
  (fun y0_17 y1_18 y2_19 y7_20 y11 y12 y77 h_21 =>
  some (y11,h_21))))
theorem F25_eq : eFun env k inv 25 #[x0,x1,x2] h = F25 inv k x0 x1 x2 h:=by
   refine (kq_fun (a:=act 131 [(0,x0),(1,x1),(2,x2)]) (c:=cp c25 1)).trans ?_
   unfold F25
   simp only [kq_seq c25 1,r25_0,kq_seq c25 3,r25_1,kq_seq c25 7,kq_seq c25 14,r25_2,F25_rlrr_eq,kq_seq c25 15,kq_seq c25 30,r25_4,kq_block c25 61 0,F25_lrlrrr_eq,kq_seq c25 31,r25_13,kq_seq c25 63,kq_seq c25 126,r25_14,kq_block c25 253 4,F25_lrlrrrrr_eq,kq_seq c25 127,r25_29,kq_ret c25 255,res25_0,reduceIte,reduceCtorEq,XE.exit.injEq,Nat.reduceEqDiff,Nat.reduceMul,Nat.reduceAdd] <;> kernel_rfl
theorem F25_call : eInv env (k + 1) (.func 25) #[] #[x0,x1,x2] h = F25 (eInv env k) k x0 x1 x2 h:=kq_inv F25_eq
noncomputable def c33 : Code:=codeOf Try.prog 33
theorem r33_0  : kCode env 33 false inv k (cp c33 2) (act 20 [(0,x0)]) h K =
  K .normal (act 20 [(0,x0)]) h:=kq_reg
theorem r33_1  : kCode env 33 false inv k (cp c33 12) (act 20 [(0,x0)]) h K =
  K .normal (act 20 [(0,x0),(3,(.int .i64 0))]) h:=kq_reg
theorem r33_2  : kCode env 33 false inv k (cp c33 208) (act 20 [(0,x0),(3,x3)]) h K =
  bnd (pLen Try.prog #[22] x0 h) fun x6 =>
  bnd (pBin Try.prog .lss 3 (.tmp 4) (.tmp 6) x3 x6) fun x7 =>
  K .normal (act 20 [(0,x0),(3,x3),(7,x7)]) h:=kq_reg
theorem b33_rlllrlr  : kCode env 33 false inv k (cp c33 209) (act 20 [(0,x0),(3,x3),(7,x7)]) h K = brV x7 (kCode env 33 false inv k (cp c33 418) (act 20 [(0,x0),(3,x3),(7,x7)]) h K) (kCode env 33 false inv k (cp c33 419) (act 20 [(0,x0),(3,x3),(7,x7)]) h K):=kq_cond
theorem r33_4  : kCode env 33 false inv k (cp c33 840) (act 20 [(0,x0),(3,x3),(7,x7)]) h K =
  bnd (pIndexAddr Try.prog 22 x0 x3) fun x12 =>
  bnd (pFieldAddr Try.prog 42 x12 0) fun x13 =>
  bnd (pLoad Try.prog 9 x13 h) fun x14 =>
  bnd (pLen Try.prog #[9] x14 h) fun x15 =>
  bnd (pBin Try.prog .gtr 3 (.tmp 15) (.const (.int .i64 60)) x15 (.int .i64 60)) fun x16 =>
  K .normal (act 20 [(0,x0),(3,x3),(16,x16)]) h:=kq_reg
theorem b33_rllrllrlr  : kCode env 33 false inv k (cp c33 841) (act 20 [(0,x0),(3,x3),(16,x16)]) h K = brV x16 (kCode env 33 false inv k (cp c33 1682) (act 20 [(0,x0),(3,x3),(16,x16)]) h K) (kCode env 33 false inv k (cp c33 1683) (act 20 [(0,x0),(3,x3),(16,x16)]) h K):=kq_cond
theorem r33_5  : kCode env 33 false inv k (cp c33 3364) (act 20 [(0,x0),(3,x3),(16,x16)]) h K =
  K .normal (act 20 [(2,(.bool false))]) h:=kq_reg
theorem r33_3  : kCode env 33 false inv k (cp c33 211) (act 20 [(0,x0),(3,x3),(16,x16)]) h K =
  bnd (pBin Try.prog .add 3 (.tmp 8) (.const (.int .i64 1)) x3 (.int .i64 1)) fun x9 =>
  K .normal (act 20 [(0,x0),(3,x9)]) h:=kq_reg
noncomputable def F33_lrlr {β : Type} (inv : Inv) (k : Nat) : Nat→Value→Value→AH→(Value→Value→Value→AH→Option β)→(Value→AH→Option β)→Option β
 | 0,_,_,_,_,_=>none
 | j + 1,x0,x3,h,ke0,kr =>
  bnd (pLen Try.prog #[22] x0 h) fun x6 =>
  bnd (pBin Try.prog .lss 3 (.tmp 4) (.tmp 6) x3 x6) fun x7 =>
  brV x7
  (bnd (pIndexAddr Try.prog 22 x0 x3) fun x12 =>
  bnd (pFieldAddr Try.prog 42 x12 0) fun x13 =>
  bnd (pLoad Try.prog 9 x13 h) fun x14 =>
  bnd (pLen Try.prog #[9] x14 h) fun x15 =>
  bnd (pBin Try.prog .gtr 3 (.tmp 15) (.const (.int .i64 60)) x15 (.int .i64 60)) fun x16 =>
  brV x16
  (kr (.bool false) h)
  (bnd (pBin Try.prog .add 3 (.tmp 8) (.const (.int .i64 1)) x3 (.int .i64 1)) fun x9 =>
  F33_lrlr inv k j x0 x9 h ke0 kr))
  (ke0 x0 x3 x7 h)
theorem F33_lrlr_j (j : Nat) : kLoop (kCode env 33 false inv k (cp c33 52)) j (act 20 [(0,x0),(3,x3)]) h K = F33_lrlr inv k j x0 x3 h (fun y0 y3 y7 h=>K (.exit 0) (act 20 [(0,y0),(3,y3),(7,y7)]) h) (fun y2 h=>K .ret (act 20 [(2,y2)]) h):=by
   induction j generalizing x0 x3 h with
   | zero=>rfl
   | succ j ih =>
    unfold F33_lrlr
    simp only [kLoop,kq_seq c33 52,kq_seq c33 104,r33_2,b33_rlllrlr,kq_skip c33 418,kq_seq c33 105,kq_block c33 210 1,kq_seq c33 420,r33_4,b33_rllrllrlr,kq_seq c33 1682,r33_5,kq_ret c33 3365,kq_skip c33 1683,r33_3,kq_exit c33 419 0,ih,reduceIte,reduceCtorEq,XE.exit.injEq,Nat.reduceEqDiff,Nat.reduceMul,Nat.reduceAdd] <;> kernel_rfl
theorem F33_lrlr_eq  : kCode env 33 false inv k (cp c33 26) (act 20 [(0,x0),(3,x3)]) h K = F33_lrlr inv k k x0 x3 h (fun y0 y3 y7 h=>K (.exit 0) (act 20 [(0,y0),(3,y3),(7,y7)]) h) (fun y2 h=>K .ret (act 20 [(2,y2)]) h):=kq_loop (F33_lrlr_j k)
theorem r33_6  : kCode env 33 false inv k (cp c33 14) (act 20 [(0,x0),(3,x3),(7,x7)]) h K =
  bnd (pLen Try.prog #[22] x0 h) fun x18 =>
  bnd (pBin Try.prog .leq 3 (.tmp 18) (.const (.int .i64 20)) x18 (.int .i64 20)) fun x19 =>
  K .normal (act 20 [(2,x19)]) h:=kq_reg
theorem res33_0 : resOfFn env.P 33 .ret (act 20 [(2,x2)]) h = some (x2,h):=kq_res
/-- shadowbook/shadowbookkit.LightCols -/
noncomputable def F33 (inv : Inv) (k : Nat) (x0 : Value) (h : AH) : Option (Value × AH) :=
  F33_lrlr inv k k x0 (.int .i64 0) h
  (fun y0 y3 y7 h =>
  bnd (pLen Try.prog #[22] y0 h) fun x18 =>
  bnd (pBin Try.prog .leq 3 (.tmp 18) (.const (.int .i64 20)) x18 (.int .i64 20)) fun x19 =>
  some (x19,h))
  (fun y2 h_1 =>
  some (y2,h_1))
theorem F33_eq : eFun env k inv 33 #[x0] h = F33 inv k x0 h:=by
   refine (kq_fun (a:=act 20 [(0,x0)]) (c:=cp c33 1)).trans ?_
   unfold F33
   simp only [kq_seq c33 1,r33_0,kq_seq c33 3,kq_seq c33 6,r33_1,kq_block c33 13 0,F33_lrlr_eq,kq_seq c33 7,r33_6,kq_ret c33 15,res33_0,reduceIte,reduceCtorEq,XE.exit.injEq,Nat.reduceEqDiff,Nat.reduceMul,Nat.reduceAdd] <;> kernel_rfl
theorem F33_call : eInv env (k + 1) (.func 33) #[] #[x0] h = F33 (eInv env k) k x0 h:=kq_inv F33_eq
noncomputable def c34 : Code:=codeOf Try.prog 34
theorem r34_0  : kCode env 34 false inv k (cp c34 2) (act 22 [(0,x0),(1,x1)]) h K =
  K .normal (act 22 [(0,x0),(1,x1)]) h:=kq_reg
theorem r34_1  : kCode env 34 false inv k (cp c34 12) (act 22 [(0,x0),(1,x1)]) h K =
  K .normal (act 22 [(0,x0),(1,x1),(5,(.int .i64 0))]) h:=kq_reg
theorem r34_2  : kCode env 34 false inv k (cp c34 208) (act 22 [(0,x0),(1,x1),(5,x5)]) h K =
  bnd (pLen Try.prog #[23] x0 h) fun x8 =>
  bnd (pBin Try.prog .lss 3 (.tmp 6) (.tmp 8) x5 x8) fun x9 =>
  K .normal (act 22 [(0,x0),(1,x1),(5,x5),(9,x9)]) h:=kq_reg
theorem b34_rlllrlr  : kCode env 34 false inv k (cp c34 209) (act 22 [(0,x0),(1,x1),(5,x5),(9,x9)]) h K = brV x9 (kCode env 34 false inv k (cp c34 418) (act 22 [(0,x0),(1,x1),(5,x5),(9,x9)]) h K) (kCode env 34 false inv k (cp c34 419) (act 22 [(0,x0),(1,x1),(5,x5),(9,x9)]) h K):=kq_cond
theorem r34_4  : kCode env 34 false inv k (cp c34 840) (act 22 [(0,x0),(1,x1),(5,x5),(9,x9)]) h K =
  bnd (pIndexAddr Try.prog 23 x0 x5) fun x14 =>
  bnd (pLoad Try.prog 34 x14 h) fun x15 =>
  bnd (inv (.func 56) #[] #[x15] h) fun x16 =>
  bnd (pUn Try.prog .not x16.1) fun x17 =>
  K .normal (act 22 [(0,x0),(1,x1),(5,x5),(17,x17)]) x16.2:=kq_reg
theorem b34_rllrllrlr  : kCode env 34 false inv k (cp c34 841) (act 22 [(0,x0),(1,x1),(5,x5),(17,x17)]) h K = brV x17 (kCode env 34 false inv k (cp c34 1682) (act 22 [(0,x0),(1,x1),(5,x5),(17,x17)]) h K) (kCode env 34 false inv k (cp c34 1683) (act 22 [(0,x0),(1,x1),(5,x5),(17,x17)]) h K):=kq_cond
theorem r34_5  : kCode env 34 false inv k (cp c34 3364) (act 22 [(0,x0),(1,x1),(5,x5),(17,x17)]) h K =
  K .normal (act 22 [(4,(.bool false))]) h:=kq_reg
theorem r34_3  : kCode env 34 false inv k (cp c34 211) (act 22 [(0,x0),(1,x1),(5,x5),(17,x17)]) h K =
  bnd (pBin Try.prog .add 3 (.tmp 10) (.const (.int .i64 1)) x5 (.int .i64 1)) fun x11 =>
  K .normal (act 22 [(0,x0),(1,x1),(5,x11)]) h:=kq_reg
noncomputable def F34_lrlr {β : Type} (inv : Inv) (k : Nat) : Nat→Value→Value→Value→AH→(Value→Value→Value→Value→AH→Option β)→(Value→AH→Option β)→Option β
 | 0,_,_,_,_,_,_=>none
 | j + 1,x0,x1,x5,h,ke0,kr =>
  bnd (pLen Try.prog #[23] x0 h) fun x8 =>
  bnd (pBin Try.prog .lss 3 (.tmp 6) (.tmp 8) x5 x8) fun x9 =>
  brV x9
  (bnd (pIndexAddr Try.prog 23 x0 x5) fun x14 =>
  bnd (pLoad Try.prog 34 x14 h) fun x15 =>
  bnd (inv (.func 56) #[] #[x15] h) fun x16 =>
  bnd (pUn Try.prog .not x16.1) fun x17 =>
  brV x17
  (kr (.bool false) x16.2)
  (bnd (pBin Try.prog .add 3 (.tmp 10) (.const (.int .i64 1)) x5 (.int .i64 1)) fun x11 =>
  F34_lrlr inv k j x0 x1 x11 x16.2 ke0 kr))
  (ke0 x0 x1 x5 x9 h)
theorem F34_lrlr_j (j : Nat) : kLoop (kCode env 34 false inv k (cp c34 52)) j (act 22 [(0,x0),(1,x1),(5,x5)]) h K = F34_lrlr inv k j x0 x1 x5 h (fun y0 y1 y5 y9 h=>K (.exit 0) (act 22 [(0,y0),(1,y1),(5,y5),(9,y9)]) h) (fun y4 h=>K .ret (act 22 [(4,y4)]) h):=by
   induction j generalizing x0 x1 x5 h with
   | zero=>rfl
   | succ j ih =>
    unfold F34_lrlr
    simp only [kLoop,kq_seq c34 52,kq_seq c34 104,r34_2,b34_rlllrlr,kq_skip c34 418,kq_seq c34 105,kq_block c34 210 1,kq_seq c34 420,r34_4,b34_rllrllrlr,kq_seq c34 1682,r34_5,kq_ret c34 3365,kq_skip c34 1683,r34_3,kq_exit c34 419 0,ih,reduceIte,reduceCtorEq,XE.exit.injEq,Nat.reduceEqDiff,Nat.reduceMul,Nat.reduceAdd] <;> kernel_rfl
theorem F34_lrlr_eq  : kCode env 34 false inv k (cp c34 26) (act 22 [(0,x0),(1,x1),(5,x5)]) h K = F34_lrlr inv k k x0 x1 x5 h (fun y0 y1 y5 y9 h=>K (.exit 0) (act 22 [(0,y0),(1,y1),(5,y5),(9,y9)]) h) (fun y4 h=>K .ret (act 22 [(4,y4)]) h):=kq_loop (F34_lrlr_j k)
theorem r34_6  : kCode env 34 false inv k (cp c34 14) (act 22 [(0,x0),(1,x1),(5,x5),(9,x9)]) h K =
  bnd (pLen Try.prog #[23] x0 h) fun x19 =>
  bnd (pBin Try.prog .leq 3 (.tmp 19) (.tmp 20) x19 x1) fun x21 =>
  K .normal (act 22 [(4,x21)]) h:=kq_reg
theorem res34_0 : resOfFn env.P 34 .ret (act 22 [(4,x4)]) h = some (x4,h):=kq_res
/-- shadowbook/shadowbookkit.LightRows -/
noncomputable def F34 (inv : Inv) (k : Nat) (x0 x1 : Value) (h : AH) : Option (Value × AH) :=
  F34_lrlr inv k k x0 x1 (.int .i64 0) h
  (fun y0 y1 y5 y9 h =>
  bnd (pLen Try.prog #[23] y0 h) fun x19 =>
  bnd (pBin Try.prog .leq 3 (.tmp 19) (.tmp 20) x19 y1) fun x21 =>
  some (x21,h))
  (fun y4 h_1 =>
  some (y4,h_1))
theorem F34_eq : eFun env k inv 34 #[x0,x1] h = F34 inv k x0 x1 h:=by
   refine (kq_fun (a:=act 22 [(0,x0),(1,x1)]) (c:=cp c34 1)).trans ?_
   unfold F34
   simp only [kq_seq c34 1,r34_0,kq_seq c34 3,kq_seq c34 6,r34_1,kq_block c34 13 0,F34_lrlr_eq,kq_seq c34 7,r34_6,kq_ret c34 15,res34_0,reduceIte,reduceCtorEq,XE.exit.injEq,Nat.reduceEqDiff,Nat.reduceMul,Nat.reduceAdd] <;> kernel_rfl
theorem F34_call : eInv env (k + 1) (.func 34) #[] #[x0,x1] h = F34 (eInv env k) k x0 x1 h:=kq_inv F34_eq
noncomputable def c35 : Code:=codeOf Try.prog 35
theorem r35_0  : kCode env 35 false inv k (cp c35 2) (act 9 [(0,x0),(1,x1)]) h K =
  K .normal (act 9 [(0,x0),(1,x1)]) h:=kq_reg
theorem r35_1  : kCode env 35 false inv k (cp c35 24) (act 9 [(0,x0),(1,x1)]) h K =
  K .normal (act 9 [(1,x1),(5,x0)]) h:=kq_reg
theorem b35_rllr  : kCode env 35 false inv k (cp c35 25) (act 9 [(1,x1),(5,x5)]) h K = brV x5 (kCode env 35 false inv k (cp c35 50) (act 9 [(1,x1),(5,x5)]) h K) (kCode env 35 false inv k (cp c35 51) (act 9 [(1,x1),(5,x5)]) h K):=kq_cond
theorem r35_2  : kCode env 35 false inv k (cp c35 100) (act 9 [(1,x1),(5,x5)]) h K =
  K .normal (act 9 [(4,(.int .i64 (-1)))]) h:=kq_reg
theorem res35_0 : resOfFn env.P 35 .ret (act 9 [(4,x4)]) h = some (x4,h):=kq_res
theorem r35_3  : kCode env 35 false inv k (cp c35 102) (act 9 [(1,x1),(5,x5)]) h K =
  K .normal (act 9 [(7,x1)]) h:=kq_reg
theorem b35_rrrllr  : kCode env 35 false inv k (cp c35 103) (act 9 [(7,x7)]) h K = brV x7 (kCode env 35 false inv k (cp c35 206) (act 9 [(7,x7)]) h K) (kCode env 35 false inv k (cp c35 207) (act 9 [(7,x7)]) h K):=kq_cond
theorem r35_4  : kCode env 35 false inv k (cp c35 412) (act 9 [(7,x7)]) h K =
  K .normal (act 9 [(4,(.int .i64 1))]) h:=kq_reg
theorem r35_5  : kCode env 35 false inv k (cp c35 14) (act 9 [(7,x7)]) h K =
  K .normal (act 9 [(4,(.int .i64 0))]) h:=kq_reg
/-- shadowbook/shadowbookref16.sign -/
noncomputable def F35 (inv : Inv) (k : Nat) (x0 x1 : Value) (h : AH) : Option (Value × AH) :=
  brV x0
  (some ((.int .i64 (-1)),h))
  (brV x1
  (some ((.int .i64 1),h))
  (some ((.int .i64 0),h)))
theorem F35_eq : eFun env k inv 35 #[x0,x1] h = F35 inv k x0 x1 h:=by
   refine (kq_fun (a:=act 9 [(0,x0),(1,x1)]) (c:=cp c35 1)).trans ?_
   unfold F35
   simp only [kq_seq c35 1,r35_0,kq_seq c35 3,kq_block c35 6 0,kq_seq c35 12,r35_1,b35_rllr,kq_seq c35 50,r35_2,kq_ret c35 101,res35_0,kq_seq c35 51,r35_3,b35_rrrllr,kq_seq c35 206,r35_4,kq_ret c35 413,kq_skip c35 207,kq_seq c35 7,r35_5,kq_ret c35 15,reduceIte,reduceCtorEq,XE.exit.injEq,Nat.reduceEqDiff,Nat.reduceMul,Nat.reduceAdd] <;> kernel_rfl
theorem F35_call : eInv env (k + 1) (.func 35) #[] #[x0,x1] h = F35 (eInv env k) k x0 x1 h:=kq_inv F35_eq
noncomputable def c36 : Code:=codeOf Try.prog 36
theorem r36_0  : kCode env 36 false inv k (cp c36 2) (act 8 [(0,x0)]) h K =
  K .normal (act 8 [(0,x0)]) h:=kq_reg
theorem r36_1  : kCode env 36 false inv k (cp c36 12) (act 8 [(0,x0)]) h K =
  bnd (pBin Try.prog .eql 22 (.tmp 3) (.const (.slice none 0 0)) x0 (.slice none 0 0)) fun x4 =>
  K .normal (act 8 [(0,x0),(4,x4)]) h:=kq_reg
theorem b36_rlr  : kCode env 36 false inv k (cp c36 13) (act 8 [(0,x0),(4,x4)]) h K = brV x4 (kCode env 36 false inv k (cp c36 26) (act 8 [(0,x0),(4,x4)]) h K) (kCode env 36 false inv k (cp c36 27) (act 8 [(0,x0),(4,x4)]) h K):=kq_cond
theorem r36_2  : kCode env 36 false inv k (cp c36 52) (act 8 [(0,x0),(4,x4)]) h K =
  K .normal (act 8 [(2,(.slice none 0 0))]) h:=kq_reg
theorem res36_0 : resOfFn env.P 36 .ret (act 8 [(2,x2)]) h = some (x2,h):=kq_res
theorem r36_3  : kCode env 36 false inv k (cp c36 14) (act 8 [(0,x0),(4,x4)]) h K =
  bnd (pBuildSlice Try.prog 22 0 #[] h) fun x5 =>
  bnd (pAppend Try.prog #[22,22] x5.1 x0 x5.2) fun x7 =>
  K .normal (act 8 [(2,x7.1)]) x7.2:=kq_reg
/-- slices.Clone[[]shadowbook/api.Col,shadowbook/api.Col] -/
noncomputable def F36 (inv : Inv) (k : Nat) (x0 : Value) (h : AH) : Option (Value × AH) :=
  bnd (pBin Try.prog .eql 22 (.tmp 3) (.const (.slice none 0 0)) x0 (.slice none 0 0)) fun x4 =>
  brV x4
  (some ((.slice none 0 0),h))
  (bnd (pBuildSlice Try.prog 22 0 #[] h) fun x5 =>
  bnd (pAppend Try.prog #[22,22] x5.1 x0 x5.2) fun x7 =>
  some (x7.1,x7.2))
theorem F36_eq : eFun env k inv 36 #[x0] h = F36 inv k x0 h:=by
   refine (kq_fun (a:=act 8 [(0,x0)]) (c:=cp c36 1)).trans ?_
   unfold F36
   simp only [kq_seq c36 1,r36_0,kq_seq c36 3,kq_seq c36 6,r36_1,b36_rlr,kq_seq c36 26,r36_2,kq_ret c36 53,res36_0,kq_skip c36 27,kq_seq c36 7,r36_3,kq_ret c36 15,reduceIte,reduceCtorEq,XE.exit.injEq,Nat.reduceEqDiff,Nat.reduceMul,Nat.reduceAdd] <;> kernel_rfl
theorem F36_call : eInv env (k + 1) (.func 36) #[] #[x0] h = F36 (eInv env k) k x0 h:=kq_inv F36_eq
noncomputable def c37 : Code:=codeOf Try.prog 37
theorem r37_0  : kCode env 37 false inv k (cp c37 2) (act 8 [(0,x0)]) h K =
  K .normal (act 8 [(0,x0)]) h:=kq_reg
theorem r37_1  : kCode env 37 false inv k (cp c37 12) (act 8 [(0,x0)]) h K =
  bnd (pBin Try.prog .eql 24 (.tmp 3) (.const (.slice none 0 0)) x0 (.slice none 0 0)) fun x4 =>
  K .normal (act 8 [(0,x0),(4,x4)]) h:=kq_reg
theorem b37_rlr  : kCode env 37 false inv k (cp c37 13) (act 8 [(0,x0),(4,x4)]) h K = brV x4 (kCode env 37 false inv k (cp c37 26) (act 8 [(0,x0),(4,x4)]) h K) (kCode env 37 false inv k (cp c37 27) (act 8 [(0,x0),(4,x4)]) h K):=kq_cond
theorem r37_2  : kCode env 37 false inv k (cp c37 52) (act 8 [(0,x0),(4,x4)]) h K =
  K .normal (act 8 [(2,(.slice none 0 0))]) h:=kq_reg
theorem res37_0 : resOfFn env.P 37 .ret (act 8 [(2,x2)]) h = some (x2,h):=kq_res
theorem r37_3  : kCode env 37 false inv k (cp c37 14) (act 8 [(0,x0),(4,x4)]) h K =
  bnd (pBuildSlice Try.prog 24 0 #[] h) fun x5 =>
  bnd (pAppend Try.prog #[24,24] x5.1 x0 x5.2) fun x7 =>
  K .normal (act 8 [(2,x7.1)]) x7.2:=kq_reg
/-- slices.Clone[[]int,int] -/
noncomputable def F37 (inv : Inv) (k : Nat) (x0 : Value) (h : AH) : Option (Value × AH) :=
  bnd (pBin Try.prog .eql 24 (.tmp 3) (.const (.slice none 0 0)) x0 (.slice none 0 0)) fun x4 =>
  brV x4
  (some ((.slice none 0 0),h))
  (bnd (pBuildSlice Try.prog 24 0 #[] h) fun x5 =>
  bnd (pAppend Try.prog #[24,24] x5.1 x0 x5.2) fun x7 =>
  some (x7.1,x7.2))
theorem F37_eq : eFun env k inv 37 #[x0] h = F37 inv k x0 h:=by
   refine (kq_fun (a:=act 8 [(0,x0)]) (c:=cp c37 1)).trans ?_
   unfold F37
   simp only [kq_seq c37 1,r37_0,kq_seq c37 3,kq_seq c37 6,r37_1,b37_rlr,kq_seq c37 26,r37_2,kq_ret c37 53,res37_0,kq_skip c37 27,kq_seq c37 7,r37_3,kq_ret c37 15,reduceIte,reduceCtorEq,XE.exit.injEq,Nat.reduceEqDiff,Nat.reduceMul,Nat.reduceAdd] <;> kernel_rfl
theorem F37_call : eInv env (k + 1) (.func 37) #[] #[x0] h = F37 (eInv env k) k x0 h:=kq_inv F37_eq
noncomputable def c38 : Code:=codeOf Try.prog 38
theorem r38_0  : kCode env 38 false inv k (cp c38 2) (act 8 [(0,x0)]) h K =
  K .normal (act 8 [(0,x0)]) h:=kq_reg
theorem r38_1  : kCode env 38 false inv k (cp c38 12) (act 8 [(0,x0)]) h K =
  bnd (pBin Try.prog .eql 29 (.tmp 3) (.const (.slice none 0 0)) x0 (.slice none 0 0)) fun x4 =>
  K .normal (act 8 [(0,x0),(4,x4)]) h:=kq_reg
theorem b38_rlr  : kCode env 38 false inv k (cp c38 13) (act 8 [(0,x0),(4,x4)]) h K = brV x4 (kCode env 38 false inv k (cp c38 26) (act 8 [(0,x0),(4,x4)]) h K) (kCode env 38 false inv k (cp c38 27) (act 8 [(0,x0),(4,x4)]) h K):=kq_cond
theorem r38_2  : kCode env 38 false inv k (cp c38 52) (act 8 [(0,x0),(4,x4)]) h K =
  K .normal (act 8 [(2,(.slice none 0 0))]) h:=kq_reg
theorem res38_0 : resOfFn env.P 38 .ret (act 8 [(2,x2)]) h = some (x2,h):=kq_res
theorem r38_3  : kCode env 38 false inv k (cp c38 14) (act 8 [(0,x0),(4,x4)]) h K =
  bnd (pBuildSlice Try.prog 29 0 #[] h) fun x5 =>
  bnd (pAppend Try.prog #[29,29] x5.1 x0 x5.2) fun x7 =>
  K .normal (act 8 [(2,x7.1)]) x7.2:=kq_reg
/-- slices.Clone[[]shadowbook/api.Agg,shadowbook/api.Agg] -/
noncomputable def F38 (inv : Inv) (k : Nat) (x0 : Value) (h : AH) : Option (Value × AH) :=
  bnd (pBin Try.prog .eql 29 (.tmp 3) (.const (.slice none 0 0)) x0 (.slice none 0 0)) fun x4 =>
  brV x4
  (some ((.slice none 0 0),h))
  (bnd (pBuildSlice Try.prog 29 0 #[] h) fun x5 =>
  bnd (pAppend Try.prog #[29,29] x5.1 x0 x5.2) fun x7 =>
  some (x7.1,x7.2))
theorem F38_eq : eFun env k inv 38 #[x0] h = F38 inv k x0 h:=by
   refine (kq_fun (a:=act 8 [(0,x0)]) (c:=cp c38 1)).trans ?_
   unfold F38
   simp only [kq_seq c38 1,r38_0,kq_seq c38 3,kq_seq c38 6,r38_1,b38_rlr,kq_seq c38 26,r38_2,kq_ret c38 53,res38_0,kq_skip c38 27,kq_seq c38 7,r38_3,kq_ret c38 15,reduceIte,reduceCtorEq,XE.exit.injEq,Nat.reduceEqDiff,Nat.reduceMul,Nat.reduceAdd] <;> kernel_rfl
theorem F38_call : eInv env (k + 1) (.func 38) #[] #[x0] h = F38 (eInv env k) k x0 h:=kq_inv F38_eq
noncomputable def c39 : Code:=codeOf Try.prog 39
theorem r39_0  : kCode env 39 false inv k (cp c39 2) (act 54 [(0,x0),(1,x1)]) h K =
  K .normal (act 54 [(0,x0),(1,x1)]) h:=kq_reg
theorem r39_1  : kCode env 39 false inv k (cp c39 6) (act 54 [(0,x0),(1,x1)]) h K =
  bnd (inv (.func 57) #[] #[x1] h) fun x11 =>
  K .normal (act 54 [(0,x0),(1,x1),(5,x11.1)]) x11.2:=kq_reg
theorem r39_2  : kCode env 39 false inv k (cp c39 14) (act 54 [(0,x0),(1,x1),(5,x5)]) h K =
  bnd (pNilCheck Try.prog x0) fun x14 =>
  bnd (pFieldAddr Try.prog 69 x14 3) fun x15 =>
  bnd (pLoad Try.prog 67 x15 h) fun x16 =>
  bnd (pLookup Try.prog 67 x16 x5 true h) fun x18 =>
  bnd (pExtract x18 0) fun x19 =>
  bnd (pExtract x18 1) fun x20 =>
  K .normal (act 54 [(0,x0),(1,x1),(5,x5),(6,x19),(7,x20)]) h:=kq_reg
theorem r39_3  : kCode env 39 false inv k (cp c39 60) (act 54 [(0,x0),(1,x1),(5,x5),(6,x6),(7,x7)]) h K =
  bnd (pUn Try.prog .not x7) fun x22 =>
  K .normal (act 54 [(0,x0),(1,x1),(5,x5),(6,x6),(22,x22)]) h:=kq_reg
theorem b39_rlrrr  : kCode env 39 false inv k (cp c39 61) (act 54 [(0,x0),(1,x1),(5,x5),(6,x6),(22,x22)]) h K = brV x22 (kCode env 39 false inv k (cp c39 122) (act 54 [(0,x0),(1,x1),(5,x5),(6,x6),(22,x22)]) h K) (kCode env 39 false inv k (cp c39 123) (act 54 [(0,x0),(1,x1),(5,x5),(6,x6),(22,x22)]) h K):=kq_cond
theorem r39_4  : kCode env 39 false inv k (cp c39 244) (act 54 [(0,x0),(1,x1),(5,x5),(6,x6),(22,x22)]) h K =
  bnd (pBuild Try.prog 79 #[(0,x1)]) fun x24 =>
  bnd (pBox Try.prog 79 x24 h) fun x25 =>
  K .normal (act 54 [(0,x0),(5,x5),(6,x25.1)]) x25.2:=kq_reg
theorem r39_5  : kCode env 39 false inv k (cp c39 980) (act 54 [(0,x0),(5,x5),(6,x6)]) h K =
  bnd (pNilCheck Try.prog x0) fun x27 =>
  bnd (pFieldAddr Try.prog 69 x27 2) fun x28 =>
  bnd (pLoad Try.prog 29 x28 h) fun x29 =>
  bnd (pLen Try.prog #[29] x29 h) fun x30 =>
  K .normal (act 54 [(0,x0),(5,x5),(6,x6),(29,x29),(30,x30),(31,(.int .i64 0))]) h:=kq_reg
theorem r39_6  : kCode env 39 false inv k (cp c39 7848) (act 54 [(0,x0),(5,x5),(6,x6),(29,x29),(30,x30),(31,x31)]) h K =
  bnd (pBin Try.prog .lss 3 (.tmp 31) (.tmp 30) x31 x30) fun x32 =>
  K .normal (act 54 [(0,x0),(5,x5),(6,x6),(29,x29),(30,x30),(31,x31),(32,x32)]) h:=kq_reg
theorem b39_lrllrlrlrlrrr  : kCode env 39 false inv k (cp c39 15698) (act 54 [(0,x0),(5,x5),(6,x6),(29,x29),(30,x30),(31,x31),(32,x32)]) h K = brV x32 (kCode env 39 false inv k (cp c39 31396) (act 54 [(0,x0),(5,x5),(6,x6),(29,x29),(30,x30),(31,x31),(32,x32)]) h K) (kCode env 39 false inv k (cp c39 31397) (act 54 [(0,x0),(5,x5),(6,x6),(29,x29),(30,x30),(31,x31),(32,x32)]) h K):=kq_cond
theorem r39_7  : kCode env 39 false inv k (cp c39 125592) (act 54 [(0,x0),(5,x5),(6,x6),(29,x29),(30,x30),(31,x31),(32,x32)]) h K =
  bnd (pIndexAddr Try.prog 29 x29 x31) fun x33 =>
  bnd (pLoad Try.prog 28 x33 h) fun x34 =>
  bnd (pAlloc Try.prog 28 h) fun x9 =>
  bnd (kSt (pStore Try.prog 28 x9.1 x34 x9.2)) fun u =>
  K .normal (act 54 [(0,x0),(5,x5),(6,x6),(9,x9.1),(29,x29),(30,x30),(31,x31)]) u.2:=kq_reg
noncomputable abbrev G39_8 {β : Type} (inv : Inv) (x0 x5 x6 x9 x29 x30 x31 : Value) (h : AH) (K : AH→Option β) : Option β :=
  bnd (pNilCheck Try.prog x6) fun x37 =>
  bnd (pFieldAddr Try.prog 79 x37 1) fun x38 =>
  bnd (pLoad Try.prog 77 x38 h) fun x39 =>
  bnd (pLoad Try.prog 28 x9 h) fun x40 =>
  bnd (inv (.func 58) #[] #[x40] h) fun x41 =>
  bnd (pBuildSlice Try.prog 77 1 #[(0,x41.1)] x41.2) fun x42 =>
  bnd (pAppend Try.prog #[77,77] x39 x42.1 x42.2) fun x43 =>
  bnd (pNilCheck Try.prog x6) fun x44 =>
  bnd (pFieldAddr Try.prog 79 x44 1) fun x45 =>
  bnd (kSt (pStore Try.prog 77 x45 x43.1 x43.2)) fun u =>
  chkK ((!true || !true || (sameO (pLoad Try.prog 77 x38 h) x39 && sameO (pLoad Try.prog 77 x38 x41.2) x39)) && ((!true || !true || (sameO (pLoad Try.prog 77 x38 x41.2) x39 && sameO (pLoad Try.prog 77 x38 x42.2) x39)) && true)) <|
  K u.2
theorem r39_8  : kCode env 39 false inv k (cp c39 125593) (act 54 [(0,x0),(5,x5),(6,x6),(9,x9),(29,x29),(30,x30),(31,x31)]) h K =
  G39_8 inv x0 x5 x6 x9 x29 x30 x31 h fun  h=>K .normal (act 54 [(0,x0),(5,x5),(6,x6),(29,x29),(30,x30),(31,x31)]) h:=kq_draw
theorem r39_9  : kCode env 39 false inv k (cp c39 31399) (act 54 [(0,x0),(5,x5),(6,x6),(29,x29),(30,x30),(31,x31)]) h K =
  bnd (pBin Try.prog .add 3 (.tmp 31) (.const (.int .i64 1)) x31 (.int .i64 1)) fun x46 =>
  K .normal (act 54 [(0,x0),(5,x5),(6,x6),(29,x29),(30,x30),(31,x46)]) h:=kq_reg
noncomputable def F39_lrlrlrlrrr {β : Type} (inv : Inv) (k : Nat) : Nat→Value→Value→Value→Value→Value→Value→AH→(Value→Value→Value→Value→Value→Value→Value→AH→Option β)→Option β
 | 0,_,_,_,_,_,_,_,_=>none
 | j + 1,x0,x5,x6,x29,x30,x31,h,ke0 =>
  bnd (pBin Try.prog .lss 3 (.tmp 31) (.tmp 30) x31 x30) fun x32 =>
  brV x32
  (bnd (pIndexAddr Try.prog 29 x29 x31) fun x33 =>
  bnd (pLoad Try.prog 28 x33 h) fun x34 =>
  bnd (pAlloc Try.prog 28 h) fun x9 =>
  bnd (kSt (pStore Try.prog 28 x9.1 x34 x9.2)) fun u =>
  G39_8 inv x0 x5 x6 x9.1 x29 x30 x31 u.2 fun  h =>
  bnd (pBin Try.prog .add 3 (.tmp 31) (.const (.int .i64 1)) x31 (.int .i64 1)) fun x46 =>
  F39_lrlrlrlrrr inv k j x0 x5 x6 x29 x30 x46 h ke0)
  (ke0 x0 x5 x6 x29 x30 x31 x32 h)
theorem F39_lrlrlrlrrr_j (j : Nat) : kLoop (kCode env 39 false inv k (cp c39 3924)) j (act 54 [(0,x0),(5,x5),(6,x6),(29,x29),(30,x30),(31,x31)]) h K = F39_lrlrlrlrrr inv k j x0 x5 x6 x29 x30 x31 h (fun y0 y5 y6 y29 y30 y31 y32 h=>K (.exit 0) (act 54 [(0,y0),(5,y5),(6,y6),(29,y29),(30,y30),(31,y31),(32,y32)]) h):=by
   induction j generalizing x0 x5 x6 x29 x30 x31 h with
   | zero=>rfl
   | succ j ih =>
    unfold F39_lrlrlrlrrr
    simp only [kLoop,kq_seq c39 3924,r39_6,kq_seq c39 7849,b39_lrllrlrlrlrrr,kq_skip c39 31396,kq_seq c39 15699,kq_block c39 31398 1,kq_seq c39 62796,r39_7,r39_8,r39_9,kq_exit c39 31397 0,ih,reduceIte,reduceCtorEq,XE.exit.injEq,Nat.reduceEqDiff,Nat.reduceMul,Nat.reduceAdd] <;> kernel_rfl
theorem F39_lrlrlrlrrr_eq  : kCode env 39 false inv k (cp c39 1962) (act 54 [(0,x0),(5,x5),(6,x6),(29,x29),(30,x30),(31,x31)]) h K = F39_lrlrlrlrrr inv k k x0 x5 x6 x29 x30 x31 h (fun y0 y5 y6 y29 y30 y31 y32 h=>K (.exit 0) (act 54 [(0,y0),(5,y5),(6,y6),(29,y29),(30,y30),(31,y31),(32,y32)]) h):=kq_loop (F39_lrlrlrlrrr_j k)
theorem r39_10  : kCode env 39 false inv k (cp c39 491) (act 54 [(0,x0),(5,x5),(6,x6),(29,x29),(30,x30),(31,x31),(32,x32)]) h K =
  bnd (pNilCheck Try.prog x0) fun x48 =>
  bnd (pFieldAddr Try.prog 69 x48 3) fun x49 =>
  bnd (pLoad Try.prog 67 x49 h) fun x50 =>
  bnd (kSt (pUpdate Try.prog 67 x50 x5 x6 h)) fun u =>
  K .normal (act 54 [(6,x6)]) u.2:=kq_reg
noncomputable def F39_rlrrr {β : Type} (inv : Inv) (k : Nat) (x0 x1 x5 x6 x22 : Value) (h : AH) (kn : (Value→Value→Value→Value→Value→AH→Option β)) : Option β :=
  brV x22
  (bnd (pBuild Try.prog 79 #[(0,x1)]) fun x24 =>
  bnd (pBox Try.prog 79 x24 h) fun x25 =>
  bnd (pNilCheck Try.prog x0) fun x27 =>
  bnd (pFieldAddr Try.prog 69 x27 2) fun x28 =>
  bnd (pLoad Try.prog 29 x28 x25.2) fun x29 =>
  bnd (pLen Try.prog #[29] x29 x25.2) fun x30 =>
  F39_lrlrlrlrrr inv k k x0 x5 x25.1 x29 x30 (.int .i64 0) x25.2
  (fun y0 y5 y6 y29 y30 y31 y32 h =>
  bnd (pNilCheck Try.prog y0) fun x48 =>
  bnd (pFieldAddr Try.prog 69 x48 3) fun x49 =>
  bnd (pLoad Try.prog 67 x49 h) fun x50 =>
  bnd (kSt (pUpdate Try.prog 67 x50 y5 y6 h)) fun u =>
  kn unk unk unk y6 unk u.2))
  (kn x0 x1 x5 x6 x22 h)
theorem F39_rlrrr_eq  : kCode env 39 false inv k (cp c39 61) (act 54 [(0,x0),(1,x1),(5,x5),(6,x6),(22,x22)]) h K = F39_rlrrr inv k x0 x1 x5 x6 x22 h (fun y0 y1 y5 y6 y22 h=>K .normal (act 54 [(0,y0),(1,y1),(5,y5),(6,y6),(22,y22)]) h):=by
   unfold F39_rlrrr
   simp only [b39_rlrrr,kq_seq c39 122,r39_4,kq_seq c39 245,kq_seq c39 490,r39_5,kq_block c39 981 0,F39_lrlrlrlrrr_eq,r39_10,kq_skip c39 123,reduceIte,reduceCtorEq,XE.exit.injEq,Nat.reduceEqDiff,Nat.reduceMul,Nat.reduceAdd] <;> kernel_rfl
theorem r39_11  : kCode env 39 false inv k (cp c39 62) (act 54 [(0,x0),(1,x1),(5,x5),(6,x6),(22,x22)]) h K =
  K .normal (act 54 [(4,x6)]) h:=kq_reg
theorem res39_0 : resOfFn env.P 39 .ret (act 54 [(4,x4)]) h = some (x4,h):=kq_res
/-- (*shadowbook/agg.Acc).of -/
noncomputable def F39 (inv : Inv) (k : Nat) (x0 x1 : Value) (h : AH) : Option (Value × AH) :=
  bnd (inv (.func 57) #[] #[x1] h) fun x11 =>
  bnd (pNilCheck Try.prog x0) fun x14 =>
  bnd (pFieldAddr Try.prog 69 x14 3) fun x15 =>
  bnd (pLoad Try.prog 67 x15 x11.2) fun x16 =>
  bnd (pLookup Try.prog 67 x16 x11.1 true x11.2) fun x18 =>
  bnd (pExtract x18 0) fun x19 =>
  bnd (pExtract x18 1) fun x20 =>
  bnd (pUn Try.prog .not x20) fun x22 =>
  F39_rlrrr inv k x0 x1 x11.1 x19 x22 x11.2
  (fun y0 y1 y5 y6 y22 h =>
  some (y6,h))
theorem F39_eq : eFun env k inv 39 #[x0,x1] h = F39 inv k x0 x1 h:=by
   refine (kq_fun (a:=act 54 [(0,x0),(1,x1)]) (c:=cp c39 1)).trans ?_
   unfold F39
   simp only [kq_seq c39 1,r39_0,kq_seq c39 3,r39_1,kq_seq c39 7,r39_2,kq_seq c39 15,kq_seq c39 30,r39_3,F39_rlrrr_eq,kq_seq c39 31,r39_11,kq_ret c39 63,res39_0,reduceIte,reduceCtorEq,XE.exit.injEq,Nat.reduceEqDiff,Nat.reduceMul,Nat.reduceAdd] <;> kernel_rfl
theorem F39_call : eInv env (k + 1) (.func 39) #[] #[x0,x1] h = F39 (eInv env k) k x0 x1 h:=kq_inv F39_eq
noncomputable def c40 : Code:=codeOf Try.prog 40
theorem r40_0  : kCode env 40 false inv k (cp c40 2) (act 56 [(0,x0)]) h K =
  K .normal (act 56 [(0,x0)]) h:=kq_reg
noncomputable abbrev G40_1 {β : Type} (inv : Inv) (x0 : Value) (h : AH) (K : Value→AH→Option β) : Option β :=
  bnd (pLen Try.prog #[22] x0 h) fun x6 =>
  bnd (pBin Try.prog .lss 3 (.tmp 6) (.const (.int .i64 1)) x6 (.int .i64 1)) fun x7 =>
  bnd (gd (some x7) false h (some (x0,h))) fun x9 =>
  bnd (gd (some x7) false x9.2 (lt (pLen Try.prog #[22] x9.1 x9.2) x9.2)) fun x10 =>
  bnd (gd (some x7) false x10.2 (lt (pBin Try.prog .gtr 3 (.tmp 10) (.const (.int .i64 16)) x10.1 (.int .i64 16)) x10.2)) fun x11 =>
  bnd (pickV x7 (.bool true) x11.1) fun x12 =>
  K (x12) x11.2
theorem r40_1  : kCode env 40 false inv k (cp c40 12) (act 56 [(0,x0)]) h K =
  G40_1 inv x0 h fun y12 h=>K .normal (act 56 [(0,x0),(12,y12)]) h:=kq_reg
theorem b40_rlr  : kCode env 40 false inv k (cp c40 13) (act 56 [(0,x0),(12,x12)]) h K = brV x12 (kCode env 40 false inv k (cp c40 26) (act 56 [(0,x0),(12,x12)]) h K) (kCode env 40 false inv k (cp c40 27) (act 56 [(0,x0),(12,x12)]) h K):=kq_cond
theorem r40_2  : kCode env 40 false inv k (cp c40 52) (act 56 [(0,x0),(12,x12)]) h K =
  K .normal (act 56 [(2,(.int .i64 171))]) h:=kq_reg
theorem res40_0 : resOfFn env.P 40 .ret (act 56 [(2,x2)]) h = some (x2,h):=kq_res
theorem r40_3  : kCode env 40 false inv k (cp c40 28) (act 56 [(0,x0),(12,x12)]) h K =
  K .normal (act 56 [(0,x0),(3,(.int .i64 0))]) h:=kq_reg
theorem r40_4  : kCode env 40 false inv k (cp c40 464) (act 56 [(0,x0),(3,x3)]) h K =
  bnd (pLen Try.prog #[22] x0 h) fun x15 =>
  bnd (pBin Try.prog .lss 3 (.tmp 13) (.tmp 15) x3 x15) fun x16 =>
  K .normal (act 56 [(0,x0),(3,x3),(16,x16)]) h:=kq_reg
theorem b40_rlllrlrr  : kCode env 40 false inv k (cp c40 465) (act 56 [(0,x0),(3,x3),(16,x16)]) h K = brV x16 (kCode env 40 false inv k (cp c40 930) (act 56 [(0,x0),(3,x3),(16,x16)]) h K) (kCode env 40 false inv k (cp c40 931) (act 56 [(0,x0),(3,x3),(16,x16)]) h K):=kq_cond
theorem r40_6  : kCode env 40 false inv k (cp c40 3728) (act 56 [(0,x0),(3,x3),(16,x16)]) h K =
  bnd (pIndexAddr Try.prog 22 x0 x3) fun x21 =>
  bnd (pFieldAddr Try.prog 42 x21 0) fun x22 =>
  bnd (pLoad Try.prog 9 x22 h) fun x23 =>
  bnd (inv (.func 59) #[] #[x23] h) fun x24 =>
  bnd (pBin Try.prog .neq 31 (.tmp 24) (.const (.int .i64 0)) x24.1 (.int .i64 0)) fun x25 =>
  K .normal (act 56 [(0,x0),(3,x3),(25,x25)]) x24.2:=kq_reg
theorem b40_rlllrllrlrr  : kCode env 40 false inv k (cp c40 3729) (act 56 [(0,x0),(3,x3),(25,x25)]) h K = brV x25 (kCode env 40 false inv k (cp c40 7458) (act 56 [(0,x0),(3,x3),(25,x25)]) h K) (kCode env 40 false inv k (cp c40 7459) (act 56 [(0,x0),(3,x3),(25,x25)]) h K):=kq_cond
theorem r40_7  : kCode env 40 false inv k (cp c40 14916) (act 56 [(0,x0),(3,x3),(25,x25)]) h K =
  K .normal (act 56 [(2,(.int .i64 170))]) h:=kq_reg
noncomputable abbrev G40_8 {β : Type} (inv : Inv) (x0 x3 : Value) (h : AH) (K : Value→AH→Option β) : Option β :=
  bnd (pIndexAddr Try.prog 22 x0 x3) fun x28 =>
  bnd (pFieldAddr Try.prog 42 x28 1) fun x29 =>
  bnd (pLoad Try.prog 3 x29 h) fun x30 =>
  bnd (pBin Try.prog .lss 3 (.tmp 30) (.const (.int .i64 1)) x30 (.int .i64 1)) fun x31 =>
  bnd (gd (some x31) false h (some (x0,h))) fun x33 =>
  bnd (gd (some x31) false x33.2 (some (x3,x33.2))) fun x34 =>
  bnd (gd (some x31) false x34.2 (lt (pIndexAddr Try.prog 22 x33.1 x34.1) x34.2)) fun x35 =>
  bnd (gd (some x31) false x35.2 (lt (pFieldAddr Try.prog 42 x35.1 1) x35.2)) fun x36 =>
  bnd (gd (some x31) false x36.2 (lt (pLoad Try.prog 3 x36.1 x36.2) x36.2)) fun x37 =>
  bnd (gd (some x31) false x37.2 (lt (pBin Try.prog .gtr 3 (.tmp 37) (.const (.int .i64 3)) x37.1 (.int .i64 3)) x37.2)) fun x38 =>
  bnd (pickV x31 (.bool true) x38.1) fun x39 =>
  K (x39) x38.2
theorem r40_8  : kCode env 40 false inv k (cp c40 7460) (act 56 [(0,x0),(3,x3),(25,x25)]) h K =
  G40_8 inv x0 x3 h fun y39 h=>K .normal (act 56 [(0,x0),(3,x3),(39,y39)]) h:=kq_reg
theorem b40_rlrllrllrlrr  : kCode env 40 false inv k (cp c40 7461) (act 56 [(0,x0),(3,x3),(39,x39)]) h K = brV x39 (kCode env 40 false inv k (cp c40 14922) (act 56 [(0,x0),(3,x3),(39,x39)]) h K) (kCode env 40 false inv k (cp c40 14923) (act 56 [(0,x0),(3,x3),(39,x39)]) h K):=kq_cond
theorem r40_9  : kCode env 40 false inv k (cp c40 29844) (act 56 [(0,x0),(3,x3),(39,x39)]) h K =
  K .normal (act 56 [(2,(.int .i64 171))]) h:=kq_reg
theorem r40_10  : kCode env 40 false inv k (cp c40 7462) (act 56 [(0,x0),(3,x3),(39,x39)]) h K =
  K .normal (act 56 [(0,x0),(3,x3),(4,(.int .i64 0))]) h:=kq_reg
theorem r40_11  : kCode env 40 false inv k (cp c40 119408) (act 56 [(0,x0),(3,x3),(4,x4)]) h K =
  bnd (pBin Try.prog .lss 3 (.tmp 40) (.tmp 41) x4 x3) fun x42 =>
  K .normal (act 56 [(0,x0),(3,x3),(4,x4),(42,x42)]) h:=kq_reg
theorem b40_rlllrrrllrllrlrr  : kCode env 40 false inv k (cp c40 119409) (act 56 [(0,x0),(3,x3),(4,x4),(42,x42)]) h K = brV x42 (kCode env 40 false inv k (cp c40 238818) (act 56 [(0,x0),(3,x3),(4,x4),(42,x42)]) h K) (kCode env 40 false inv k (cp c40 238819) (act 56 [(0,x0),(3,x3),(4,x4),(42,x42)]) h K):=kq_cond
theorem r40_13  : kCode env 40 false inv k (cp c40 477640) (act 56 [(0,x0),(3,x3),(4,x4),(42,x42)]) h K =
  bnd (pIndexAddr Try.prog 22 x0 x4) fun x47 =>
  bnd (pFieldAddr Try.prog 42 x47 0) fun x48 =>
  bnd (pLoad Try.prog 9 x48 h) fun x49 =>
  bnd (pIndexAddr Try.prog 22 x0 x3) fun x52 =>
  bnd (pFieldAddr Try.prog 42 x52 0) fun x53 =>
  bnd (pLoad Try.prog 9 x53 h) fun x54 =>
  bnd (pBin Try.prog .eql 9 (.tmp 49) (.tmp 54) x49 x54) fun x55 =>
  K .normal (act 56 [(0,x0),(3,x3),(4,x4),(55,x55)]) h:=kq_draw
theorem b40_rllrllrrrllrllrlrr  : kCode env 40 false inv k (cp c40 477641) (act 56 [(0,x0),(3,x3),(4,x4),(55,x55)]) h K = brV x55 (kCode env 40 false inv k (cp c40 955282) (act 56 [(0,x0),(3,x3),(4,x4),(55,x55)]) h K) (kCode env 40 false inv k (cp c40 955283) (act 56 [(0,x0),(3,x3),(4,x4),(55,x55)]) h K):=kq_cond
theorem r40_14  : kCode env 40 false inv k (cp c40 1910564) (act 56 [(0,x0),(3,x3),(4,x4),(55,x55)]) h K =
  K .normal (act 56 [(2,(.int .i64 171))]) h:=kq_reg
theorem r40_12  : kCode env 40 false inv k (cp c40 119411) (act 56 [(0,x0),(3,x3),(4,x4),(55,x55)]) h K =
  bnd (pBin Try.prog .add 3 (.tmp 43) (.const (.int .i64 1)) x4 (.int .i64 1)) fun x44 =>
  K .normal (act 56 [(0,x0),(3,x3),(4,x44)]) h:=kq_reg
noncomputable def F40_lrrrllrllrlrr {β : Type} (inv : Inv) (k : Nat) : Nat→Value→Value→Value→AH→(Value→Value→Value→Value→AH→Option β)→(Value→AH→Option β)→Option β
 | 0,_,_,_,_,_,_=>none
 | j + 1,x0,x3,x4,h,ke2,kr =>
  bnd (pBin Try.prog .lss 3 (.tmp 40) (.tmp 41) x4 x3) fun x42 =>
  brV x42
  (bnd (pIndexAddr Try.prog 22 x0 x4) fun x47 =>
  bnd (pFieldAddr Try.prog 42 x47 0) fun x48 =>
  bnd (pLoad Try.prog 9 x48 h) fun x49 =>
  bnd (pIndexAddr Try.prog 22 x0 x3) fun x52 =>
  bnd (pFieldAddr Try.prog 42 x52 0) fun x53 =>
  bnd (pLoad Try.prog 9 x53 h) fun x54 =>
  bnd (pBin Try.prog .eql 9 (.tmp 49) (.tmp 54) x49 x54) fun x55 =>
  brV x55
  (kr (.int .i64 171) h)
  (bnd (pBin Try.prog .add 3 (.tmp 43) (.const (.int .i64 1)) x4 (.int .i64 1)) fun x44 =>
  F40_lrrrllrllrlrr inv k j x0 x3 x44 h ke2 kr))
  (ke2 x0 x3 x4 x42 h)
theorem F40_lrrrllrllrlrr_j (j : Nat) : kLoop (kCode env 40 false inv k (cp c40 29852)) j (act 56 [(0,x0),(3,x3),(4,x4)]) h K = F40_lrrrllrllrlrr inv k j x0 x3 x4 h (fun y0 y3 y4 y42 h=>K (.exit 2) (act 56 [(0,y0),(3,y3),(4,y4),(42,y42)]) h) (fun y2 h=>K .ret (act 56 [(2,y2)]) h):=by
   induction j generalizing x0 x3 x4 h with
   | zero=>rfl
   | succ j ih =>
    unfold F40_lrrrllrllrlrr
    simp only [kLoop,kq_seq c40 29852,kq_seq c40 59704,r40_11,b40_rlllrrrllrllrlrr,kq_skip c40 238818,kq_seq c40 59705,kq_block c40 119410 3,kq_seq c40 238820,r40_13,b40_rllrllrrrllrllrlrr,kq_seq c40 955282,r40_14,kq_ret c40 1910565,kq_skip c40 955283,r40_12,kq_exit c40 238819 2,ih,reduceIte,reduceCtorEq,XE.exit.injEq,Nat.reduceEqDiff,Nat.reduceMul,Nat.reduceAdd] <;> kernel_rfl
theorem F40_lrrrllrllrlrr_eq  : kCode env 40 false inv k (cp c40 14926) (act 56 [(0,x0),(3,x3),(4,x4)]) h K = F40_lrrrllrllrlrr inv k k x0 x3 x4 h (fun y0 y3 y4 y42 h=>K (.exit 2) (act 56 [(0,y0),(3,y3),(4,y4),(42,y42)]) h) (fun y2 h=>K .ret (act 56 [(2,y2)]) h):=kq_loop (F40_lrrrllrllrlrr_j k)
theorem r40_5  : kCode env 40 false inv k (cp c40 467) (act 56 [(0,x0),(3,x3),(4,x4),(42,x42)]) h K =
  bnd (pBin Try.prog .add 3 (.tmp 17) (.const (.int .i64 1)) x3 (.int .i64 1)) fun x18 =>
  K .normal (act 56 [(0,x0),(3,x18)]) h:=kq_reg
noncomputable def F40_lrlrr {β : Type} (inv : Inv) (k : Nat) : Nat→Value→Value→AH→(Value→Value→Value→AH→Option β)→(Value→AH→Option β)→Option β
 | 0,_,_,_,_,_=>none
 | j + 1,x0,x3,h,ke0,kr =>
  bnd (pLen Try.prog #[22] x0 h) fun x15 =>
  bnd (pBin Try.prog .lss 3 (.tmp 13) (.tmp 15) x3 x15) fun x16 =>
  brV x16
  (bnd (pIndexAddr Try.prog 22 x0 x3) fun x21 =>
  bnd (pFieldAddr Try.prog 42 x21 0) fun x22 =>
  bnd (pLoad Try.prog 9 x22 h) fun x23 =>
  bnd (inv (.func 59) #[] #[x23] h) fun x24 =>
  bnd (pBin Try.prog .neq 31 (.tmp 24) (.const (.int .i64 0)) x24.1 (.int .i64 0)) fun x25 =>
  brV x25
  (kr (.int .i64 170) x24.2)
  (G40_8 inv x0 x3 x24.2 fun y39 h =>
  brV y39
  (kr (.int .i64 171) h)
  (F40_lrrrllrllrlrr inv k k x0 x3 (.int .i64 0) h
  (fun y0 y3 y4 y42 h_1 =>
  bnd (pBin Try.prog .add 3 (.tmp 17) (.const (.int .i64 1)) y3 (.int .i64 1)) fun x18 =>
  F40_lrlrr inv k j y0 x18 h_1 ke0 kr)
  (fun y2 h_2 =>
  kr y2 h_2))))
  (ke0 x0 x3 x16 h)
theorem F40_lrlrr_j (j : Nat) : kLoop (kCode env 40 false inv k (cp c40 116)) j (act 56 [(0,x0),(3,x3)]) h K = F40_lrlrr inv k j x0 x3 h (fun y0 y3 y16 h=>K (.exit 0) (act 56 [(0,y0),(3,y3),(16,y16)]) h) (fun y2 h=>K .ret (act 56 [(2,y2)]) h):=by
   induction j generalizing x0 x3 h with
   | zero=>rfl
   | succ j ih =>
    unfold F40_lrlrr
    simp only [kLoop,kq_seq c40 116,kq_seq c40 232,r40_4,b40_rlllrlrr,kq_skip c40 930,kq_seq c40 233,kq_block c40 466 1,kq_seq c40 932,kq_seq c40 1864,r40_6,b40_rlllrllrlrr,kq_seq c40 7458,r40_7,kq_ret c40 14917,kq_skip c40 7459,kq_seq c40 1865,kq_seq c40 3730,r40_8,b40_rlrllrllrlrr,kq_seq c40 14922,r40_9,kq_ret c40 29845,kq_skip c40 14923,kq_seq c40 3731,r40_10,kq_block c40 7463 2,F40_lrrrllrllrlrr_eq,r40_5,kq_exit c40 931 0,ih,reduceIte,reduceCtorEq,XE.exit.injEq,Nat.reduceEqDiff,Nat.reduceMul,Nat.reduceAdd] <;> kernel_rfl
theorem F40_lrlrr_eq  : kCode env 40 false inv k (cp c40 58) (act 56 [(0,x0),(3,x3)]) h K = F40_lrlrr inv k k x0 x3 h (fun y0 y3 y16 h=>K (.exit 0) (act 56 [(0,y0),(3,y3),(16,y16)]) h) (fun y2 h=>K .ret (act 56 [(2,y2)]) h):=kq_loop (F40_lrlrr_j k)
theorem r40_15  : kCode env 40 false inv k (cp c40 30) (act 56 [(0,x0),(3,x3),(16,x16)]) h K =
  K .normal (act 56 [(2,(.int .i64 0))]) h:=kq_reg
/-- shadowbook/shadowbookref17.Check -/
noncomputable def F40 (inv : Inv) (k : Nat) (x0 : Value) (h : AH) : Option (Value × AH) :=
  G40_1 inv x0 h fun y12 h =>
  brV y12
  (some ((.int .i64 171),h))
  (F40_lrlrr inv k k x0 (.int .i64 0) h
  (fun y0 y3 y16 h_3 =>
  some ((.int .i64 0),h_3))
  (fun y2 h_4 =>
  some (y2,h_4)))
theorem F40_eq : eFun env k inv 40 #[x0] h = F40 inv k x0 h:=by
   refine (kq_fun (a:=act 56 [(0,x0)]) (c:=cp c40 1)).trans ?_
   unfold F40
   simp only [kq_seq c40 1,r40_0,kq_seq c40 3,kq_seq c40 6,r40_1,b40_rlr,kq_seq c40 26,r40_2,kq_ret c40 53,res40_0,kq_skip c40 27,kq_seq c40 7,kq_seq c40 14,r40_3,kq_block c40 29 0,F40_lrlrr_eq,kq_seq c40 15,r40_15,kq_ret c40 31,reduceIte,reduceCtorEq,XE.exit.injEq,Nat.reduceEqDiff,Nat.reduceMul,Nat.reduceAdd] <;> kernel_rfl
theorem F40_call : eInv env (k + 1) (.func 40) #[] #[x0] h = F40 (eInv env k) k x0 h:=kq_inv F40_eq
noncomputable def c41 : Code:=codeOf Try.prog 41
theorem r41_0  : kCode env 41 false inv k (cp c41 2) (act 43 [(0,x0)]) h K =
  K .normal (act 43 [(0,x0)]) h:=kq_reg
noncomputable abbrev G41_1 {β : Type} (inv : Inv) (x0 : Value) (h : AH) (K : Value→AH→Option β) : Option β :=
  bnd (pLen Try.prog #[22] x0 h) fun x7 =>
  bnd (pBin Try.prog .lss 3 (.tmp 7) (.const (.int .i64 1)) x7 (.int .i64 1)) fun x8 =>
  bnd (gd (some x8) false h (some (x0,h))) fun x10 =>
  bnd (gd (some x8) false x10.2 (lt (pLen Try.prog #[22] x10.1 x10.2) x10.2)) fun x11 =>
  bnd (gd (some x8) false x11.2 (lt (pBin Try.prog .gtr 3 (.tmp 11) (.const (.int .i64 16)) x11.1 (.int .i64 16)) x11.2)) fun x12 =>
  bnd (pickV x8 (.bool true) x12.1) fun x13 =>
  K (x13) x12.2
theorem r41_1  : kCode env 41 false inv k (cp c41 12) (act 43 [(0,x0)]) h K =
  G41_1 inv x0 h fun y13 h=>K .normal (act 43 [(0,x0),(13,y13)]) h:=kq_reg
theorem b41_rlr  : kCode env 41 false inv k (cp c41 13) (act 43 [(0,x0),(13,x13)]) h K = brV x13 (kCode env 41 false inv k (cp c41 26) (act 43 [(0,x0),(13,x13)]) h K) (kCode env 41 false inv k (cp c41 27) (act 43 [(0,x0),(13,x13)]) h K):=kq_cond
theorem r41_2  : kCode env 41 false inv k (cp c41 52) (act 43 [(0,x0),(13,x13)]) h K =
  K .normal (act 43 [(2,(.int .i64 171))]) h:=kq_reg
theorem res41_0 : resOfFn env.P 41 .ret (act 43 [(2,x2)]) h = some (x2,h):=kq_res
theorem r41_3  : kCode env 41 false inv k (cp c41 28) (act 43 [(0,x0),(13,x13)]) h K =
  bnd (pLen Try.prog #[22] x0 h) fun x15 =>
  K .normal (act 43 [(0,x0),(14,x0),(15,x15),(16,(.int .i64 0))]) h:=kq_reg
theorem r41_4  : kCode env 41 false inv k (cp c41 232) (act 43 [(0,x0),(14,x14),(15,x15),(16,x16)]) h K =
  bnd (pBin Try.prog .lss 3 (.tmp 16) (.tmp 15) x16 x15) fun x17 =>
  K .normal (act 43 [(0,x0),(14,x14),(15,x15),(16,x16),(17,x17)]) h:=kq_reg
theorem b41_lrllrlrr  : kCode env 41 false inv k (cp c41 466) (act 43 [(0,x0),(14,x14),(15,x15),(16,x16),(17,x17)]) h K = brV x17 (kCode env 41 false inv k (cp c41 932) (act 43 [(0,x0),(14,x14),(15,x15),(16,x16),(17,x17)]) h K) (kCode env 41 false inv k (cp c41 933) (act 43 [(0,x0),(14,x14),(15,x15),(16,x16),(17,x17)]) h K):=kq_cond
theorem r41_5  : kCode env 41 false inv k (cp c41 3736) (act 43 [(0,x0),(14,x14),(15,x15),(16,x16),(17,x17)]) h K =
  bnd (pIndexAddr Try.prog 22 x14 x16) fun x19 =>
  bnd (pLoad Try.prog 42 x19 h) fun x20 =>
  bnd (pAlloc Try.prog 42 h) fun x4 =>
  bnd (kSt (pStore Try.prog 42 x4.1 x20 x4.2)) fun u =>
  K .normal (act 43 [(0,x0),(3,x16),(4,x4.1),(14,x14),(15,x15),(16,x16)]) u.2:=kq_reg
theorem r41_6  : kCode env 41 false inv k (cp c41 14948) (act 43 [(0,x0),(3,x3),(4,x4),(14,x14),(15,x15),(16,x16)]) h K =
  bnd (pFieldAddr Try.prog 42 x4 0) fun x21 =>
  bnd (pLoad Try.prog 9 x21 h) fun x22 =>
  bnd (inv (.func 60) #[] #[x22] h) fun x23 =>
  K .normal (act 43 [(0,x0),(3,x3),(4,x4),(5,x23.1),(14,x14),(15,x15),(16,x16)]) x23.2:=kq_reg
theorem r41_7  : kCode env 41 false inv k (cp c41 29898) (act 43 [(0,x0),(3,x3),(4,x4),(5,x5),(14,x14),(15,x15),(16,x16)]) h K =
  bnd (pBin Try.prog .neq 31 (.tmp 24) (.const (.int .i64 0)) x5 (.int .i64 0)) fun x25 =>
  K .normal (act 43 [(0,x0),(3,x3),(4,x4),(5,x5),(14,x14),(15,x15),(16,x16),(25,x25)]) h:=kq_reg
theorem b41_rrlrllrrllrlrr  : kCode env 41 false inv k (cp c41 29899) (act 43 [(0,x0),(3,x3),(4,x4),(5,x5),(14,x14),(15,x15),(16,x16),(25,x25)]) h K = brV x25 (kCode env 41 false inv k (cp c41 59798) (act 43 [(0,x0),(3,x3),(4,x4),(5,x5),(14,x14),(15,x15),(16,x16),(25,x25)]) h K) (kCode env 41 false inv k (cp c41 59799) (act 43 [(0,x0),(3,x3),(4,x4),(5,x5),(14,x14),(15,x15),(16,x16),(25,x25)]) h K):=kq_cond
theorem r41_8  : kCode env 41 false inv k (cp c41 119596) (act 43 [(0,x0),(3,x3),(4,x4),(5,x5),(14,x14),(15,x15),(16,x16),(25,x25)]) h K =
  K .normal (act 43 [(2,x5)]) h:=kq_reg
noncomputable abbrev G41_9 {β : Type} (inv : Inv) (x0 x3 x4 x14 x15 x16 : Value) (h : AH) (K : Value→AH→Option β) : Option β :=
  bnd (pFieldAddr Try.prog 42 x4 1) fun x27 =>
  bnd (pLoad Try.prog 3 x27 h) fun x28 =>
  bnd (pBin Try.prog .lss 3 (.tmp 28) (.const (.int .i64 1)) x28 (.int .i64 1)) fun x29 =>
  bnd (gd (some x29) false h (lt (pFieldAddr Try.prog 42 x4 1) h)) fun x31 =>
  bnd (gd (some x29) false x31.2 (lt (pLoad Try.prog 3 x31.1 x31.2) x31.2)) fun x32 =>
  bnd (gd (some x29) false x32.2 (lt (pBin Try.prog .gtr 3 (.tmp 32) (.const (.int .i64 3)) x32.1 (.int .i64 3)) x32.2)) fun x33 =>
  bnd (pickV x29 (.bool true) x33.1) fun x34 =>
  bnd (gd (some x34) false x33.2 (some (x0,x33.2))) fun x36 =>
  bnd (gd (some x34) false x36.2 (some (x3,x36.2))) fun x37 =>
  bnd (gd (some x34) false x37.2 (lt (pSlice Try.prog 22 x36.1 none (some x37.1) none x37.2) x37.2)) fun x38 =>
  bnd (gd (some x34) false x38.2 (lt (pMakeFunc (.func 62) #[] #[x4]) x38.2)) fun x39 =>
  bnd (gd (some x34) false x39.2 (inv (.func 61) #[] #[x38.1,x39.1] x39.2)) fun x40 =>
  bnd (pickV x34 (.bool true) x40.1) fun x41 =>
  K (x41) x40.2
theorem r41_9  : kCode env 41 false inv k (cp c41 14950) (act 43 [(0,x0),(3,x3),(4,x4),(5,x5),(14,x14),(15,x15),(16,x16),(25,x25)]) h K =
  G41_9 inv x0 x3 x4 x14 x15 x16 h fun y41 h=>K .normal (act 43 [(0,x0),(14,x14),(15,x15),(16,x16),(41,y41)]) h:=kq_reg
theorem b41_rrrllrrllrlrr  : kCode env 41 false inv k (cp c41 14951) (act 43 [(0,x0),(14,x14),(15,x15),(16,x16),(41,x41)]) h K = brV x41 (kCode env 41 false inv k (cp c41 29902) (act 43 [(0,x0),(14,x14),(15,x15),(16,x16),(41,x41)]) h K) (kCode env 41 false inv k (cp c41 29903) (act 43 [(0,x0),(14,x14),(15,x15),(16,x16),(41,x41)]) h K):=kq_cond
theorem r41_10  : kCode env 41 false inv k (cp c41 59804) (act 43 [(0,x0),(14,x14),(15,x15),(16,x16),(41,x41)]) h K =
  K .normal (act 43 [(2,(.int .i64 171))]) h:=kq_reg
theorem r41_11  : kCode env 41 false inv k (cp c41 935) (act 43 [(0,x0),(14,x14),(15,x15),(16,x16),(41,x41)]) h K =
  bnd (pBin Try.prog .add 3 (.tmp 16) (.const (.int .i64 1)) x16 (.int .i64 1)) fun x42 =>
  K .normal (act 43 [(0,x0),(14,x14),(15,x15),(16,x42)]) h:=kq_reg
noncomputable def F41_lrlrr {β : Type} (inv : Inv) (k : Nat) : Nat→Value→Value→Value→Value→AH→(Value→Value→Value→Value→Value→AH→Option β)→(Value→AH→Option β)→Option β
 | 0,_,_,_,_,_,_,_=>none
 | j + 1,x0,x14,x15,x16,h,ke0,kr =>
  bnd (pBin Try.prog .lss 3 (.tmp 16) (.tmp 15) x16 x15) fun x17 =>
  brV x17
  (bnd (pIndexAddr Try.prog 22 x14 x16) fun x19 =>
  bnd (pLoad Try.prog 42 x19 h) fun x20 =>
  bnd (pAlloc Try.prog 42 h) fun x4 =>
  bnd (kSt (pStore Try.prog 42 x4.1 x20 x4.2)) fun u =>
  bnd (pFieldAddr Try.prog 42 x4.1 0) fun x21 =>
  bnd (pLoad Try.prog 9 x21 u.2) fun x22 =>
  bnd (inv (.func 60) #[] #[x22] u.2) fun x23 =>
  bnd (pBin Try.prog .neq 31 (.tmp 24) (.const (.int .i64 0)) x23.1 (.int .i64 0)) fun x25 =>
  brV x25
  (kr x23.1 x23.2)
  (G41_9 inv x0 x16 x4.1 x14 x15 x16 x23.2 fun y41 h =>
  brV y41
  (kr (.int .i64 171) h)
  (bnd (pBin Try.prog .add 3 (.tmp 16) (.const (.int .i64 1)) x16 (.int .i64 1)) fun x42 =>
  F41_lrlrr inv k j x0 x14 x15 x42 h ke0 kr)))
  (ke0 x0 x14 x15 x16 x17 h)
theorem F41_lrlrr_j (j : Nat) : kLoop (kCode env 41 false inv k (cp c41 116)) j (act 43 [(0,x0),(14,x14),(15,x15),(16,x16)]) h K = F41_lrlrr inv k j x0 x14 x15 x16 h (fun y0 y14 y15 y16 y17 h=>K (.exit 0) (act 43 [(0,y0),(14,y14),(15,y15),(16,y16),(17,y17)]) h) (fun y2 h=>K .ret (act 43 [(2,y2)]) h):=by
   induction j generalizing x0 x14 x15 x16 h with
   | zero=>rfl
   | succ j ih =>
    unfold F41_lrlrr
    simp only [kLoop,kq_seq c41 116,r41_4,kq_seq c41 233,b41_lrllrlrr,kq_skip c41 932,kq_seq c41 467,kq_block c41 934 1,kq_seq c41 1868,r41_5,kq_seq c41 3737,kq_seq c41 7474,r41_6,kq_seq c41 14949,r41_7,b41_rrlrllrrllrlrr,kq_seq c41 59798,r41_8,kq_ret c41 119597,kq_skip c41 59799,kq_seq c41 7475,r41_9,b41_rrrllrrllrlrr,kq_seq c41 29902,r41_10,kq_ret c41 59805,kq_skip c41 29903,r41_11,kq_exit c41 933 0,ih,reduceIte,reduceCtorEq,XE.exit.injEq,Nat.reduceEqDiff,Nat.reduceMul,Nat.reduceAdd] <;> kernel_rfl
theorem F41_lrlrr_eq  : kCode env 41 false inv k (cp c41 58) (act 43 [(0,x0),(14,x14),(15,x15),(16,x16)]) h K = F41_lrlrr inv k k x0 x14 x15 x16 h (fun y0 y14 y15 y16 y17 h=>K (.exit 0) (act 43 [(0,y0),(14,y14),(15,y15),(16,y16),(17,y17)]) h) (fun y2 h=>K .ret (act 43 [(2,y2)]) h):=kq_loop (F41_lrlrr_j k)
theorem r41_12  : kCode env 41 false inv k (cp c41 30) (act 43 [(0,x0),(14,x14),(15,x15),(16,x16),(17,x17)]) h K =
  K .normal (act 43 [(2,(.int .i64 0))]) h:=kq_reg
/-- shadowbook/schema.Check -/
noncomputable def F41 (inv : Inv) (k : Nat) (x0 : Value) (h : AH) : Option (Value × AH) :=
  G41_1 inv x0 h fun y13 h =>
  brV y13
  (some ((.int .i64 171),h))
  (bnd (pLen Try.prog #[22] x0 h) fun x15 =>
  F41_lrlrr inv k k x0 x0 x15 (.int .i64 0) h
  (fun y0 y14 y15 y16 y17 h_1 =>
  some ((.int .i64 0),h_1))
  (fun y2 h_2 =>
  some (y2,h_2)))
theorem F41_eq : eFun env k inv 41 #[x0] h = F41 inv k x0 h:=by
   refine (kq_fun (a:=act 43 [(0,x0)]) (c:=cp c41 1)).trans ?_
   unfold F41
   simp only [kq_seq c41 1,r41_0,kq_seq c41 3,kq_seq c41 6,r41_1,b41_rlr,kq_seq c41 26,r41_2,kq_ret c41 53,res41_0,kq_skip c41 27,kq_seq c41 7,kq_seq c41 14,r41_3,kq_block c41 29 0,F41_lrlrr_eq,kq_seq c41 15,r41_12,kq_ret c41 31,reduceIte,reduceCtorEq,XE.exit.injEq,Nat.reduceEqDiff,Nat.reduceMul,Nat.reduceAdd] <;> kernel_rfl
theorem F41_call : eInv env (k + 1) (.func 41) #[] #[x0] h = F41 (eInv env k) k x0 h:=kq_inv F41_eq
noncomputable def c42 : Code:=codeOf Try.prog 42
theorem r42_0  : kCode env 42 false inv k (cp c42 2) (act 9 [(0,x0),(1,x1)]) h K =
  K .normal (act 9 [(0,x0),(1,x1)]) h:=kq_reg
theorem r42_1  : kCode env 42 false inv k (cp c42 6) (act 9 [(0,x0),(1,x1)]) h K =
  bnd (inv (.func 63) #[] #[x0,x1] h) fun x7 =>
  bnd (pBin Try.prog .geq 3 (.tmp 7) (.const (.int .i64 0)) x7.1 (.int .i64 0)) fun x8 =>
  K .normal (act 9 [(4,x8)]) x7.2:=kq_reg
theorem res42_0 : resOfFn env.P 42 .ret (act 9 [(4,x4)]) h = some (x4,h):=kq_res
/-- slices.Contains[[]int,int] -/
noncomputable def F42 (inv : Inv) (k : Nat) (x0 x1 : Value) (h : AH) : Option (Value × AH) :=
  bnd (inv (.func 63) #[] #[x0,x1] h) fun x7 =>
  bnd (pBin Try.prog .geq 3 (.tmp 7) (.const (.int .i64 0)) x7.1 (.int .i64 0)) fun x8 =>
  some (x8,x7.2)
theorem F42_eq : eFun env k inv 42 #[x0,x1] h = F42 inv k x0 x1 h:=by
   refine (kq_fun (a:=act 9 [(0,x0),(1,x1)]) (c:=cp c42 1)).trans ?_
   unfold F42
   simp only [kq_seq c42 1,r42_0,kq_seq c42 3,r42_1,kq_ret c42 7,res42_0,reduceIte,reduceCtorEq,XE.exit.injEq,Nat.reduceEqDiff,Nat.reduceMul,Nat.reduceAdd] <;> kernel_rfl
theorem F42_call : eInv env (k + 1) (.func 42) #[] #[x0,x1] h = F42 (eInv env k) k x0 x1 h:=kq_inv F42_eq
noncomputable def c43 : Code:=codeOf Try.prog 43
theorem r43_0  : kCode env 43 false inv k (cp c43 2) (act 9 [(0,x0),(1,x1)]) h K =
  K .normal (act 9 [(0,x0),(1,x1)]) h:=kq_reg
theorem r43_1  : kCode env 43 false inv k (cp c43 6) (act 9 [(0,x0),(1,x1)]) h K =
  bnd (inv (.func 64) #[] #[x0,x1] h) fun x7 =>
  bnd (pBin Try.prog .geq 3 (.tmp 7) (.const (.int .i64 0)) x7.1 (.int .i64 0)) fun x8 =>
  K .normal (act 9 [(4,x8)]) x7.2:=kq_reg
theorem res43_0 : resOfFn env.P 43 .ret (act 9 [(4,x4)]) h = some (x4,h):=kq_res
/-- slices.ContainsFunc[[]shadowbook/api.Agg,shadowbook/api.Agg] -/
noncomputable def F43 (inv : Inv) (k : Nat) (x0 x1 : Value) (h : AH) : Option (Value × AH) :=
  bnd (inv (.func 64) #[] #[x0,x1] h) fun x7 =>
  bnd (pBin Try.prog .geq 3 (.tmp 7) (.const (.int .i64 0)) x7.1 (.int .i64 0)) fun x8 =>
  some (x8,x7.2)
theorem F43_eq : eFun env k inv 43 #[x0,x1] h = F43 inv k x0 x1 h:=by
   refine (kq_fun (a:=act 9 [(0,x0),(1,x1)]) (c:=cp c43 1)).trans ?_
   unfold F43
   simp only [kq_seq c43 1,r43_0,kq_seq c43 3,r43_1,kq_ret c43 7,res43_0,reduceIte,reduceCtorEq,XE.exit.injEq,Nat.reduceEqDiff,Nat.reduceMul,Nat.reduceAdd] <;> kernel_rfl
theorem F43_call : eInv env (k + 1) (.func 43) #[] #[x0,x1] h = F43 (eInv env k) k x0 x1 h:=kq_inv F43_eq
noncomputable def c44 : Code:=codeOf Try.prog 44
theorem r44_0  : kCode env 44 false inv k (cp c44 2) (act 8 [(0,x0),(1,x1)]) h K =
  bnd (pBox Try.prog 28 x0 h) fun x2 =>
  K .normal (act 8 [(1,x1),(2,x2.1)]) x2.2:=kq_reg
theorem r44_1  : kCode env 44 false inv k (cp c44 6) (act 8 [(1,x1),(2,x2)]) h K =
  bnd (pLoad Try.prog 22 x1 h) fun x4 =>
  bnd (pLoad Try.prog 28 x2 h) fun x5 =>
  bnd (inv (.func 45) #[] #[x4,x5] h) fun x6 =>
  bnd (pUn Try.prog .not x6.1) fun x7 =>
  K .normal (act 8 [(3,x7)]) x6.2:=kq_reg
theorem res44_0 : resOfFn env.P 44 .ret (act 8 [(3,x3)]) h = some (x3,h):=kq_res
/-- shadowbook/agg.Check$1 -/
noncomputable def F44 (inv : Inv) (k : Nat) (x0 x1 : Value) (h : AH) : Option (Value × AH) :=
  bnd (pBox Try.prog 28 x0 h) fun x2 =>
  bnd (pLoad Try.prog 22 x1 x2.2) fun x4 =>
  bnd (pLoad Try.prog 28 x2.1 x2.2) fun x5 =>
  bnd (inv (.func 45) #[] #[x4,x5] x2.2) fun x6 =>
  bnd (pUn Try.prog .not x6.1) fun x7 =>
  some (x7,x6.2)
theorem F44_eq : eFun env k inv 44 #[x0,x1] h = F44 inv k x0 x1 h:=by
   refine (kq_fun (a:=act 8 [(0,x0),(1,x1)]) (c:=cp c44 1)).trans ?_
   unfold F44
   simp only [kq_seq c44 1,r44_0,kq_seq c44 3,r44_1,kq_ret c44 7,res44_0,reduceIte,reduceCtorEq,XE.exit.injEq,Nat.reduceEqDiff,Nat.reduceMul,Nat.reduceAdd] <;> kernel_rfl
theorem F44_call : eInv env (k + 1) (.func 44) #[] #[x0,x1] h = F44 (eInv env k) k x0 x1 h:=kq_inv F44_eq
end Go.Proofs.Ytgklcfnjahomjaa.Sh
