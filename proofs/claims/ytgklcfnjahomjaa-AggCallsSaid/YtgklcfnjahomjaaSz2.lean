/- Shallow functions, part 2. Printed by a program of the prover's own from the loaded program; Lean checks it. -/
import Derived.Test.YtgklcfnjahomjaaSz1
set_option linter.unusedVariables false
set_option linter.unusedSimpArgs false
set_option maxRecDepth 100000
namespace Go.Proofs.Ytgklcfnjahomjaa.Sh
open Go Go.RowKit Go.Proofs.Ev
variable {β : Type} {inv : Inv} {k : Nat} {h : AH} {K : XE→Act→AH→Option β} {x0 x1 x2 x3 x4 x5 x6 x7 x8 x9 x10 x11 x12 x13 x14 x15 x16 x17 x18 x19 x20 x21 x22 x23 x24 x25 x26 x27 x28 x29 x30 x31 x32 x33 x34 x35 x36 x37 x38 x39 x40 x41 x42 x43 x44 x45 x46 x47 x48 x49 x50 x51 x52 x54 x55 x56 x58 x60 x61 x62 x64 x65 x67 x68 : Value}
noncomputable def c45 : Code:=codeOf Try.prog 45
theorem r45_0  : kCode env 45 false inv k (cp c45 2) (act 39 [(0,x0),(1,x1)]) h K =
  bnd (pBox Try.prog 28 x1 h) fun x3 =>
  K .normal (act 39 [(0,x0),(3,x3.1)]) x3.2:=kq_reg
noncomputable abbrev G45_1 {β : Type} (inv : Inv) (x0 x3 : Value) (h : AH) (K : Value→AH→Option β) : Option β :=
  bnd (pFieldAddr Try.prog 28 x3 1) fun x6 =>
  bnd (pLoad Try.prog 3 x6 h) fun x7 =>
  bnd (pBin Try.prog .geq 3 (.tmp 7) (.const (.int .i64 0)) x7 (.int .i64 0)) fun x8 =>
  bnd (gd (some x8) true h (lt (pFieldAddr Try.prog 28 x3 1) h)) fun x10 =>
  bnd (gd (some x8) true x10.2 (lt (pLoad Try.prog 3 x10.1 x10.2) x10.2)) fun x11 =>
  bnd (gd (some x8) true x11.2 (some (x0,x11.2))) fun x12 =>
  bnd (gd (some x8) true x12.2 (lt (pLen Try.prog #[22] x12.1 x12.2) x12.2)) fun x13 =>
  bnd (gd (some x8) true x13.2 (lt (pBin Try.prog .lss 3 (.tmp 11) (.tmp 13) x11.1 x13.1) x13.2)) fun x14 =>
  bnd (pickV x8 x14.1 (.bool false)) fun x15 =>
  K (x15) x14.2
theorem r45_1  : kCode env 45 false inv k (cp c45 6) (act 39 [(0,x0),(3,x3)]) h K =
  G45_1 inv x0 x3 h fun y5 h=>K .normal (act 39 [(0,x0),(3,x3),(5,y5)]) h:=kq_reg
theorem r45_2  : kCode env 45 false inv k (cp c45 28) (act 39 [(0,x0),(3,x3),(5,x5)]) h K =
  bnd (pFieldAddr Try.prog 28 x3 0) fun x16 =>
  bnd (pLoad Try.prog 3 x16 h) fun x17 =>
  K .normal (act 39 [(0,x0),(3,x3),(5,x5),(17,x17)]) h:=kq_reg
theorem r45_3  : kCode env 45 false inv k (cp c45 116) (act 39 [(0,x0),(3,x3),(5,x5),(17,x17)]) h K =
  bnd (pBin Try.prog .eql 3 (.tmp 17) (.const (.int .i64 1)) x17 (.int .i64 1)) fun x19 =>
  K .normal (act 39 [(0,x0),(3,x3),(5,x5),(17,x17),(18,x19)]) h:=kq_reg
theorem b45_rlrlrr  : kCode env 45 false inv k (cp c45 117) (act 39 [(0,x0),(3,x3),(5,x5),(17,x17),(18,x18)]) h K = brV x18 (kCode env 45 false inv k (cp c45 234) (act 39 [(0,x0),(3,x3),(5,x5),(17,x17),(18,x18)]) h K) (kCode env 45 false inv k (cp c45 235) (act 39 [(0,x0),(3,x3),(5,x5),(17,x17),(18,x18)]) h K):=kq_cond
theorem r45_4  : kCode env 45 false inv k (cp c45 468) (act 39 [(0,x0),(3,x3),(5,x5),(17,x17),(18,x18)]) h K =
  bnd (pFieldAddr Try.prog 28 x3 1) fun x20 =>
  bnd (pLoad Try.prog 3 x20 h) fun x21 =>
  bnd (pBin Try.prog .eql 3 (.tmp 21) (.const (.int .i64 0)) x21 (.int .i64 0)) fun x22 =>
  K .normal (act 39 [(4,x22)]) h:=kq_reg
theorem res45_0 : resOfFn env.P 45 .ret (act 39 [(4,x4)]) h = some (x4,h):=kq_res
theorem r45_5  : kCode env 45 false inv k (cp c45 470) (act 39 [(0,x0),(3,x3),(5,x5),(17,x17),(18,x18)]) h K =
  bnd (pBin Try.prog .eql 3 (.tmp 17) (.const (.int .i64 2)) x17 (.int .i64 2)) fun x24 =>
  K .normal (act 39 [(0,x0),(3,x3),(5,x5),(17,x17),(23,x24)]) h:=kq_reg
theorem b45_rrrlrlrr  : kCode env 45 false inv k (cp c45 471) (act 39 [(0,x0),(3,x3),(5,x5),(17,x17),(23,x23)]) h K = brV x23 (kCode env 45 false inv k (cp c45 942) (act 39 [(0,x0),(3,x3),(5,x5),(17,x17),(23,x23)]) h K) (kCode env 45 false inv k (cp c45 943) (act 39 [(0,x0),(3,x3),(5,x5),(17,x17),(23,x23)]) h K):=kq_cond
noncomputable abbrev G45_6 {β : Type} (inv : Inv) (x0 x3 x5 : Value) (h : AH) (K : Value→AH→Option β) : Option β :=
  bnd (gd (some x5) true h (some (x0,h))) fun x27 =>
  bnd (gd (some x5) true x27.2 (lt (pFieldAddr Try.prog 28 x3 1) x27.2)) fun x28 =>
  bnd (gd (some x5) true x28.2 (lt (pLoad Try.prog 3 x28.1 x28.2) x28.2)) fun x29 =>
  bnd (gd (some x5) true x29.2 (lt (pIndexAddr Try.prog 22 x27.1 x29.1) x29.2)) fun x30 =>
  bnd (gd (some x5) true x30.2 (lt (pFieldAddr Try.prog 42 x30.1 1) x30.2)) fun x31 =>
  bnd (gd (some x5) true x31.2 (lt (pLoad Try.prog 3 x31.1 x31.2) x31.2)) fun x32 =>
  bnd (gd (some x5) true x32.2 (lt (pBin Try.prog .eql 3 (.tmp 32) (.const (.int .i64 1)) x32.1 (.int .i64 1)) x32.2)) fun x33 =>
  bnd (pickV x5 x33.1 (.bool false)) fun x34 =>
  K (x34) x33.2
theorem r45_6  : kCode env 45 false inv k (cp c45 1884) (act 39 [(0,x0),(3,x3),(5,x5),(17,x17),(23,x23)]) h K =
  G45_6 inv x0 x3 x5 h fun y4 h=>K .normal (act 39 [(4,y4)]) h:=kq_reg
theorem r45_7  : kCode env 45 false inv k (cp c45 3772) (act 39 [(0,x0),(3,x3),(5,x5),(17,x17),(23,x23)]) h K =
  bnd (pBin Try.prog .eql 3 (.tmp 17) (.const (.int .i64 3)) x17 (.int .i64 3)) fun x36 =>
  K .normal (act 39 [(5,x5),(17,x17),(35,x36)]) h:=kq_reg
theorem b45_rlrrrrlrlrr  : kCode env 45 false inv k (cp c45 3773) (act 39 [(5,x5),(17,x17),(35,x35)]) h K = brV x35 (kCode env 45 false inv k (cp c45 7546) (act 39 [(5,x5),(17,x17),(35,x35)]) h K) (kCode env 45 false inv k (cp c45 7547) (act 39 [(5,x5),(17,x17),(35,x35)]) h K):=kq_cond
theorem r45_8  : kCode env 45 false inv k (cp c45 7547) (act 39 [(5,x5),(17,x17),(35,x35)]) h K =
  bnd (pBin Try.prog .eql 3 (.tmp 17) (.const (.int .i64 4)) x17 (.int .i64 4)) fun x37 =>
  K .normal (act 39 [(5,x5),(35,x37)]) h:=kq_reg
noncomputable def F45_rlrrrrlrlrr {β : Type} (inv : Inv) (k : Nat) (x5 x17 x35 : Value) (h : AH) (kn : (Value→Value→Value→AH→Option β)) : Option β :=
  brV x35
  (kn x5 x17 x35 h)
  (bnd (pBin Try.prog .eql 3 (.tmp 17) (.const (.int .i64 4)) x17 (.int .i64 4)) fun x37 =>
  kn x5 unk x37 h)
theorem F45_rlrrrrlrlrr_eq  : kCode env 45 false inv k (cp c45 3773) (act 39 [(5,x5),(17,x17),(35,x35)]) h K = F45_rlrrrrlrlrr inv k x5 x17 x35 h (fun y5 y17 y35 h=>K .normal (act 39 [(5,y5),(17,y17),(35,y35)]) h):=by
   unfold F45_rlrrrrlrlrr
   simp only [b45_rlrrrrlrlrr,kq_skip c45 7546,r45_8,reduceIte,reduceCtorEq,XE.exit.injEq,Nat.reduceEqDiff,Nat.reduceMul,Nat.reduceAdd] <;> kernel_rfl
theorem b45_rrrrrlrlrr  : kCode env 45 false inv k (cp c45 1887) (act 39 [(5,x5),(17,x17),(35,x35)]) h K = brV x35 (kCode env 45 false inv k (cp c45 3774) (act 39 [(5,x5),(17,x17),(35,x35)]) h K) (kCode env 45 false inv k (cp c45 3775) (act 39 [(5,x5),(17,x17),(35,x35)]) h K):=kq_cond
theorem r45_9  : kCode env 45 false inv k (cp c45 7548) (act 39 [(5,x5),(17,x17),(35,x35)]) h K =
  K .normal (act 39 [(4,x5)]) h:=kq_reg
theorem r45_10  : kCode env 45 false inv k (cp c45 30) (act 39 [(5,x5),(17,x17),(35,x35)]) h K =
  K .normal (act 39 [(4,(.bool false))]) h:=kq_reg
/-- shadowbook/agg.may -/
noncomputable def F45 (inv : Inv) (k : Nat) (x0 x1 : Value) (h : AH) : Option (Value × AH) :=
  bnd (pBox Try.prog 28 x1 h) fun x3 =>
  G45_1 inv x0 x3.1 x3.2 fun y5 h =>
  bnd (pFieldAddr Try.prog 28 x3.1 0) fun x16 =>
  bnd (pLoad Try.prog 3 x16 h) fun x17 =>
  bnd (pBin Try.prog .eql 3 (.tmp 17) (.const (.int .i64 1)) x17 (.int .i64 1)) fun x19 =>
  brV x19
  (bnd (pFieldAddr Try.prog 28 x3.1 1) fun x20 =>
  bnd (pLoad Try.prog 3 x20 h) fun x21 =>
  bnd (pBin Try.prog .eql 3 (.tmp 21) (.const (.int .i64 0)) x21 (.int .i64 0)) fun x22 =>
  some (x22,h))
  (bnd (pBin Try.prog .eql 3 (.tmp 17) (.const (.int .i64 2)) x17 (.int .i64 2)) fun x24 =>
  brV x24
  (G45_6 inv x0 x3.1 y5 h fun y4 h_1 =>
  some (y4,h_1))
  (bnd (pBin Try.prog .eql 3 (.tmp 17) (.const (.int .i64 3)) x17 (.int .i64 3)) fun x36 =>
  F45_rlrrrrlrlrr inv k y5 x17 x36 h
  (fun y5_2 y17 y35 h_3 =>
  brV y35
  (some (y5_2,h_3))
  (some ((.bool false),h_3)))))
theorem F45_eq : eFun env k inv 45 #[x0,x1] h = F45 inv k x0 x1 h:=by
   refine (kq_fun (a:=act 39 [(0,x0),(1,x1)]) (c:=cp c45 1)).trans ?_
   unfold F45
   simp only [kq_seq c45 1,r45_0,kq_seq c45 3,r45_1,kq_seq c45 7,kq_seq c45 14,r45_2,kq_block c45 29 0,kq_seq c45 58,r45_3,b45_rlrlrr,kq_seq c45 234,r45_4,kq_ret c45 469,res45_0,kq_seq c45 235,r45_5,b45_rrrlrlrr,kq_seq c45 942,r45_6,kq_ret c45 1885,kq_seq c45 943,kq_seq c45 1886,r45_7,F45_rlrrrrlrlrr_eq,b45_rrrrrlrlrr,kq_seq c45 3774,r45_9,kq_ret c45 7549,kq_skip c45 3775,kq_seq c45 15,r45_10,kq_ret c45 31,reduceIte,reduceCtorEq,XE.exit.injEq,Nat.reduceEqDiff,Nat.reduceMul,Nat.reduceAdd] <;> kernel_rfl
theorem F45_call : eInv env (k + 1) (.func 45) #[] #[x0,x1] h = F45 (eInv env k) k x0 x1 h:=kq_inv F45_eq
noncomputable def c46 : Code:=codeOf Try.prog 46
theorem r46_0  : kCode env 46 false inv k (cp c46 2) (act 36 [(0,x0),(1,x1)]) h K =
  K .normal (act 36 [(0,x0),(1,x1)]) h:=kq_reg
theorem r46_1  : kCode env 46 false inv k (cp c46 12) (act 36 [(0,x0),(1,x1)]) h K =
  bnd (inv (.func 41) #[] #[x0] h) fun x10 =>
  K .normal (act 36 [(0,x0),(1,x1),(5,x10.1)]) x10.2:=kq_reg
theorem r46_2  : kCode env 46 false inv k (cp c46 26) (act 36 [(0,x0),(1,x1),(5,x5)]) h K =
  bnd (pBin Try.prog .neq 31 (.tmp 11) (.const (.int .i64 0)) x5 (.int .i64 0)) fun x12 =>
  K .normal (act 36 [(0,x0),(1,x1),(5,x5),(12,x12)]) h:=kq_reg
theorem b46_rrlr  : kCode env 46 false inv k (cp c46 27) (act 36 [(0,x0),(1,x1),(5,x5),(12,x12)]) h K = brV x12 (kCode env 46 false inv k (cp c46 54) (act 36 [(0,x0),(1,x1),(5,x5),(12,x12)]) h K) (kCode env 46 false inv k (cp c46 55) (act 36 [(0,x0),(1,x1),(5,x5),(12,x12)]) h K):=kq_cond
theorem r46_3  : kCode env 46 false inv k (cp c46 108) (act 36 [(0,x0),(1,x1),(5,x5),(12,x12)]) h K =
  K .normal (act 36 [(4,x5)]) h:=kq_reg
theorem res46_0 : resOfFn env.P 46 .ret (act 36 [(4,x4)]) h = some (x4,h):=kq_res
theorem r46_4  : kCode env 46 false inv k (cp c46 28) (act 36 [(0,x0),(1,x1),(5,x5),(12,x12)]) h K =
  bnd (pLen Try.prog #[34] x1 h) fun x15 =>
  bnd (pLen Try.prog #[22] x0 h) fun x17 =>
  bnd (pBin Try.prog .neq 3 (.tmp 15) (.tmp 17) x15 x17) fun x18 =>
  K .normal (act 36 [(0,x0),(1,x1),(18,x18)]) h:=kq_reg
theorem b46_rlrr  : kCode env 46 false inv k (cp c46 29) (act 36 [(0,x0),(1,x1),(18,x18)]) h K = brV x18 (kCode env 46 false inv k (cp c46 58) (act 36 [(0,x0),(1,x1),(18,x18)]) h K) (kCode env 46 false inv k (cp c46 59) (act 36 [(0,x0),(1,x1),(18,x18)]) h K):=kq_cond
theorem r46_5  : kCode env 46 false inv k (cp c46 116) (act 36 [(0,x0),(1,x1),(18,x18)]) h K =
  K .normal (act 36 [(4,(.int .i64 173))]) h:=kq_reg
theorem r46_6  : kCode env 46 false inv k (cp c46 60) (act 36 [(0,x0),(1,x1),(18,x18)]) h K =
  bnd (pLen Try.prog #[22] x0 h) fun x20 =>
  K .normal (act 36 [(1,x1),(19,x0),(20,x20),(21,(.int .i64 0))]) h:=kq_reg
theorem r46_7  : kCode env 46 false inv k (cp c46 488) (act 36 [(1,x1),(19,x19),(20,x20),(21,x21)]) h K =
  bnd (pBin Try.prog .lss 3 (.tmp 21) (.tmp 20) x21 x20) fun x22 =>
  K .normal (act 36 [(1,x1),(19,x19),(20,x20),(21,x21),(22,x22)]) h:=kq_reg
theorem b46_lrllrlrrr  : kCode env 46 false inv k (cp c46 978) (act 36 [(1,x1),(19,x19),(20,x20),(21,x21),(22,x22)]) h K = brV x22 (kCode env 46 false inv k (cp c46 1956) (act 36 [(1,x1),(19,x19),(20,x20),(21,x21),(22,x22)]) h K) (kCode env 46 false inv k (cp c46 1957) (act 36 [(1,x1),(19,x19),(20,x20),(21,x21),(22,x22)]) h K):=kq_cond
theorem r46_8  : kCode env 46 false inv k (cp c46 7832) (act 36 [(1,x1),(19,x19),(20,x20),(21,x21),(22,x22)]) h K =
  bnd (pIndexAddr Try.prog 22 x19 x21) fun x24 =>
  bnd (pLoad Try.prog 42 x24 h) fun x25 =>
  bnd (pAlloc Try.prog 42 h) fun x7 =>
  bnd (kSt (pStore Try.prog 42 x7.1 x25 x7.2)) fun u =>
  K .normal (act 36 [(1,x1),(6,x21),(7,x7.1),(19,x19),(20,x20),(21,x21)]) u.2:=kq_reg
theorem r46_9  : kCode env 46 false inv k (cp c46 15666) (act 36 [(1,x1),(6,x6),(7,x7),(19,x19),(20,x20),(21,x21)]) h K =
  bnd (pLoad Try.prog 42 x7 h) fun x26 =>
  bnd (pIndexAddr Try.prog 34 x1 x6) fun x29 =>
  bnd (pLoad Try.prog 37 x29 h) fun x30 =>
  bnd (inv (.func 65) #[] #[x26,x30] h) fun x31 =>
  K .normal (act 36 [(1,x1),(8,x31.1),(19,x19),(20,x20),(21,x21)]) x31.2:=kq_draw
theorem r46_10  : kCode env 46 false inv k (cp c46 31334) (act 36 [(1,x1),(8,x8),(19,x19),(20,x20),(21,x21)]) h K =
  bnd (pBin Try.prog .neq 31 (.tmp 32) (.const (.int .i64 0)) x8 (.int .i64 0)) fun x33 =>
  K .normal (act 36 [(1,x1),(8,x8),(19,x19),(20,x20),(21,x21),(33,x33)]) h:=kq_reg
theorem b46_rrrllrrllrlrrr  : kCode env 46 false inv k (cp c46 31335) (act 36 [(1,x1),(8,x8),(19,x19),(20,x20),(21,x21),(33,x33)]) h K = brV x33 (kCode env 46 false inv k (cp c46 62670) (act 36 [(1,x1),(8,x8),(19,x19),(20,x20),(21,x21),(33,x33)]) h K) (kCode env 46 false inv k (cp c46 62671) (act 36 [(1,x1),(8,x8),(19,x19),(20,x20),(21,x21),(33,x33)]) h K):=kq_cond
theorem r46_11  : kCode env 46 false inv k (cp c46 125340) (act 36 [(1,x1),(8,x8),(19,x19),(20,x20),(21,x21),(33,x33)]) h K =
  K .normal (act 36 [(4,x8)]) h:=kq_reg
theorem r46_12  : kCode env 46 false inv k (cp c46 1959) (act 36 [(1,x1),(8,x8),(19,x19),(20,x20),(21,x21),(33,x33)]) h K =
  bnd (pBin Try.prog .add 3 (.tmp 21) (.const (.int .i64 1)) x21 (.int .i64 1)) fun x35 =>
  K .normal (act 36 [(1,x1),(19,x19),(20,x20),(21,x35)]) h:=kq_reg
noncomputable def F46_lrlrrr {β : Type} (inv : Inv) (k : Nat) : Nat→Value→Value→Value→Value→AH→(Value→Value→Value→Value→Value→AH→Option β)→(Value→AH→Option β)→Option β
 | 0,_,_,_,_,_,_,_=>none
 | j + 1,x1,x19,x20,x21,h,ke0,kr =>
  bnd (pBin Try.prog .lss 3 (.tmp 21) (.tmp 20) x21 x20) fun x22 =>
  brV x22
  (bnd (pIndexAddr Try.prog 22 x19 x21) fun x24 =>
  bnd (pLoad Try.prog 42 x24 h) fun x25 =>
  bnd (pAlloc Try.prog 42 h) fun x7 =>
  bnd (kSt (pStore Try.prog 42 x7.1 x25 x7.2)) fun u =>
  bnd (pLoad Try.prog 42 x7.1 u.2) fun x26 =>
  bnd (pIndexAddr Try.prog 34 x1 x21) fun x29 =>
  bnd (pLoad Try.prog 37 x29 u.2) fun x30 =>
  bnd (inv (.func 65) #[] #[x26,x30] u.2) fun x31 =>
  bnd (pBin Try.prog .neq 31 (.tmp 32) (.const (.int .i64 0)) x31.1 (.int .i64 0)) fun x33 =>
  brV x33
  (kr x31.1 x31.2)
  (bnd (pBin Try.prog .add 3 (.tmp 21) (.const (.int .i64 1)) x21 (.int .i64 1)) fun x35 =>
  F46_lrlrrr inv k j x1 x19 x20 x35 x31.2 ke0 kr))
  (ke0 x1 x19 x20 x21 x22 h)
theorem F46_lrlrrr_j (j : Nat) : kLoop (kCode env 46 false inv k (cp c46 244)) j (act 36 [(1,x1),(19,x19),(20,x20),(21,x21)]) h K = F46_lrlrrr inv k j x1 x19 x20 x21 h (fun y1 y19 y20 y21 y22 h=>K (.exit 0) (act 36 [(1,y1),(19,y19),(20,y20),(21,y21),(22,y22)]) h) (fun y4 h=>K .ret (act 36 [(4,y4)]) h):=by
   induction j generalizing x1 x19 x20 x21 h with
   | zero=>rfl
   | succ j ih =>
    unfold F46_lrlrrr
    simp only [kLoop,kq_seq c46 244,r46_7,kq_seq c46 489,b46_lrllrlrrr,kq_skip c46 1956,kq_seq c46 979,kq_block c46 1958 1,kq_seq c46 3916,r46_8,kq_seq c46 7833,r46_9,kq_seq c46 15667,r46_10,b46_rrrllrrllrlrrr,kq_seq c46 62670,r46_11,kq_ret c46 125341,kq_skip c46 62671,r46_12,kq_exit c46 1957 0,ih,reduceIte,reduceCtorEq,XE.exit.injEq,Nat.reduceEqDiff,Nat.reduceMul,Nat.reduceAdd] <;> kernel_rfl
theorem F46_lrlrrr_eq  : kCode env 46 false inv k (cp c46 122) (act 36 [(1,x1),(19,x19),(20,x20),(21,x21)]) h K = F46_lrlrrr inv k k x1 x19 x20 x21 h (fun y1 y19 y20 y21 y22 h=>K (.exit 0) (act 36 [(1,y1),(19,y19),(20,y20),(21,y21),(22,y22)]) h) (fun y4 h=>K .ret (act 36 [(4,y4)]) h):=kq_loop (F46_lrlrrr_j k)
theorem r46_13  : kCode env 46 false inv k (cp c46 62) (act 36 [(1,x1),(19,x19),(20,x20),(21,x21),(22,x22)]) h K =
  K .normal (act 36 [(4,(.int .i64 0))]) h:=kq_reg
/-- shadowbook/schema.Row -/
noncomputable def F46 (inv : Inv) (k : Nat) (x0 x1 : Value) (h : AH) : Option (Value × AH) :=
  bnd (inv (.func 41) #[] #[x0] h) fun x10 =>
  bnd (pBin Try.prog .neq 31 (.tmp 11) (.const (.int .i64 0)) x10.1 (.int .i64 0)) fun x12 =>
  brV x12
  (some (x10.1,x10.2))
  (bnd (pLen Try.prog #[34] x1 x10.2) fun x15 =>
  bnd (pLen Try.prog #[22] x0 x10.2) fun x17 =>
  bnd (pBin Try.prog .neq 3 (.tmp 15) (.tmp 17) x15 x17) fun x18 =>
  brV x18
  (some ((.int .i64 173),x10.2))
  (bnd (pLen Try.prog #[22] x0 x10.2) fun x20 =>
  F46_lrlrrr inv k k x1 x0 x20 (.int .i64 0) x10.2
  (fun y1 y19 y20 y21 y22 h =>
  some ((.int .i64 0),h))
  (fun y4 h_1 =>
  some (y4,h_1))))
theorem F46_eq : eFun env k inv 46 #[x0,x1] h = F46 inv k x0 x1 h:=by
   refine (kq_fun (a:=act 36 [(0,x0),(1,x1)]) (c:=cp c46 1)).trans ?_
   unfold F46
   simp only [kq_seq c46 1,r46_0,kq_seq c46 3,kq_seq c46 6,r46_1,kq_seq c46 13,r46_2,b46_rrlr,kq_seq c46 54,r46_3,kq_ret c46 109,res46_0,kq_skip c46 55,kq_seq c46 7,kq_seq c46 14,r46_4,b46_rlrr,kq_seq c46 58,r46_5,kq_ret c46 117,kq_skip c46 59,kq_seq c46 15,kq_seq c46 30,r46_6,kq_block c46 61 0,F46_lrlrrr_eq,kq_seq c46 31,r46_13,kq_ret c46 63,reduceIte,reduceCtorEq,XE.exit.injEq,Nat.reduceEqDiff,Nat.reduceMul,Nat.reduceAdd] <;> kernel_rfl
theorem F46_call : eInv env (k + 1) (.func 46) #[] #[x0,x1] h = F46 (eInv env k) k x0 x1 h:=kq_inv F46_eq
noncomputable def c47 : Code:=codeOf Try.prog 47
theorem r47_0  : kCode env 47 false inv k (cp c47 2) (act 34 [(0,x0),(1,x1)]) h K =
  K .normal (act 34 [(0,x0),(1,x1)]) h:=kq_reg
theorem r47_1  : kCode env 47 false inv k (cp c47 6) (act 34 [(0,x0),(1,x1)]) h K =
  K .normal (act 34 [(0,x0),(1,x1),(5,(.slice none 0 0))]) h:=kq_reg
theorem r47_2  : kCode env 47 false inv k (cp c47 28) (act 34 [(0,x0),(1,x1),(5,x5)]) h K =
  bnd (pLen Try.prog #[24] x1 h) fun x10 =>
  K .normal (act 34 [(0,x0),(5,x5),(9,x1),(10,x10),(11,(.int .i64 0))]) h:=kq_reg
theorem r47_3  : kCode env 47 false inv k (cp c47 232) (act 34 [(0,x0),(5,x5),(9,x9),(10,x10),(11,x11)]) h K =
  bnd (pBin Try.prog .lss 3 (.tmp 11) (.tmp 10) x11 x10) fun x12 =>
  K .normal (act 34 [(0,x0),(5,x5),(9,x9),(10,x10),(11,x11),(12,x12)]) h:=kq_reg
theorem b47_lrllrlrr  : kCode env 47 false inv k (cp c47 466) (act 34 [(0,x0),(5,x5),(9,x9),(10,x10),(11,x11),(12,x12)]) h K = brV x12 (kCode env 47 false inv k (cp c47 932) (act 34 [(0,x0),(5,x5),(9,x9),(10,x10),(11,x11),(12,x12)]) h K) (kCode env 47 false inv k (cp c47 933) (act 34 [(0,x0),(5,x5),(9,x9),(10,x10),(11,x11),(12,x12)]) h K):=kq_cond
theorem r47_4  : kCode env 47 false inv k (cp c47 3736) (act 34 [(0,x0),(5,x5),(9,x9),(10,x10),(11,x11),(12,x12)]) h K =
  bnd (pIndexAddr Try.prog 24 x9 x11) fun x13 =>
  bnd (pLoad Try.prog 3 x13 h) fun x14 =>
  K .normal (act 34 [(0,x0),(5,x5),(7,x14),(9,x9),(10,x10),(11,x11)]) h:=kq_reg
theorem r47_5  : kCode env 47 false inv k (cp c47 7474) (act 34 [(0,x0),(5,x5),(7,x7),(9,x9),(10,x10),(11,x11)]) h K =
  bnd (pBuild Try.prog 37 #[]) fun x15 =>
  bnd (pAlloc Try.prog 37 h) fun x8 =>
  bnd (kSt (pStore Try.prog 37 x8.1 x15 x8.2)) fun u =>
  K .normal (act 34 [(0,x0),(5,x5),(7,x7),(8,x8.1),(9,x9),(10,x10),(11,x11)]) u.2:=kq_reg
noncomputable abbrev G47_6 {β : Type} (inv : Inv) (x0 x5 x7 x8 x9 x10 x11 : Value) (h : AH) (K : Value→AH→Option β) : Option β :=
  bnd (pBin Try.prog .geq 3 (.tmp 16) (.const (.int .i64 0)) x7 (.int .i64 0)) fun x17 =>
  bnd (gd (some x17) true h (some (x7,h))) fun x19 =>
  bnd (gd (some x17) true x19.2 (some (x0,x19.2))) fun x20 =>
  bnd (gd (some x17) true x20.2 (lt (pLen Try.prog #[34] x20.1 x20.2) x20.2)) fun x21 =>
  bnd (gd (some x17) true x21.2 (lt (pBin Try.prog .lss 3 (.tmp 19) (.tmp 21) x19.1 x21.1) x21.2)) fun x22 =>
  bnd (pickV x17 x22.1 (.bool false)) fun x23 =>
  K (x23) x22.2
theorem r47_6  : kCode env 47 false inv k (cp c47 29900) (act 34 [(0,x0),(5,x5),(7,x7),(8,x8),(9,x9),(10,x10),(11,x11)]) h K =
  G47_6 inv x0 x5 x7 x8 x9 x10 x11 h fun y23 h=>K .normal (act 34 [(0,x0),(5,x5),(7,x7),(8,x8),(9,x9),(10,x10),(11,x11),(23,y23)]) h:=kq_reg
theorem b47_rlrrllrrllrlrr  : kCode env 47 false inv k (cp c47 29901) (act 34 [(0,x0),(5,x5),(7,x7),(8,x8),(9,x9),(10,x10),(11,x11),(23,x23)]) h K = brV x23 (kCode env 47 false inv k (cp c47 59802) (act 34 [(0,x0),(5,x5),(7,x7),(8,x8),(9,x9),(10,x10),(11,x11),(23,x23)]) h K) (kCode env 47 false inv k (cp c47 59803) (act 34 [(0,x0),(5,x5),(7,x7),(8,x8),(9,x9),(10,x10),(11,x11),(23,x23)]) h K):=kq_cond
theorem r47_7  : kCode env 47 false inv k (cp c47 59802) (act 34 [(0,x0),(5,x5),(7,x7),(8,x8),(9,x9),(10,x10),(11,x11),(23,x23)]) h K =
  bnd (pIndexAddr Try.prog 34 x0 x7) fun x26 =>
  bnd (pLoad Try.prog 37 x26 h) fun x27 =>
  bnd (kSt (pStore Try.prog 37 x8 x27 h)) fun u =>
  K .normal (act 34 [(0,x0),(5,x5),(8,x8),(9,x9),(10,x10),(11,x11)]) u.2:=kq_reg
noncomputable def F47_rlrrllrrllrlrr {β : Type} (inv : Inv) (k : Nat) (x0 x5 x7 x8 x9 x10 x11 x23 : Value) (h : AH) (kn : (Value→Value→Value→Value→Value→Value→Value→Value→AH→Option β)) : Option β :=
  brV x23
  (bnd (pIndexAddr Try.prog 34 x0 x7) fun x26 =>
  bnd (pLoad Try.prog 37 x26 h) fun x27 =>
  bnd (kSt (pStore Try.prog 37 x8 x27 h)) fun u =>
  kn x0 x5 unk x8 x9 x10 x11 unk u.2)
  (kn x0 x5 x7 x8 x9 x10 x11 x23 h)
theorem F47_rlrrllrrllrlrr_eq  : kCode env 47 false inv k (cp c47 29901) (act 34 [(0,x0),(5,x5),(7,x7),(8,x8),(9,x9),(10,x10),(11,x11),(23,x23)]) h K = F47_rlrrllrrllrlrr inv k x0 x5 x7 x8 x9 x10 x11 x23 h (fun y0 y5 y7 y8 y9 y10 y11 y23 h=>K .normal (act 34 [(0,y0),(5,y5),(7,y7),(8,y8),(9,y9),(10,y10),(11,y11),(23,y23)]) h):=by
   unfold F47_rlrrllrrllrlrr
   simp only [b47_rlrrllrrllrlrr,r47_7,kq_skip c47 59803,reduceIte,reduceCtorEq,XE.exit.injEq,Nat.reduceEqDiff,Nat.reduceMul,Nat.reduceAdd] <;> kernel_rfl
theorem r47_8  : kCode env 47 false inv k (cp c47 14951) (act 34 [(0,x0),(5,x5),(7,x7),(8,x8),(9,x9),(10,x10),(11,x11),(23,x23)]) h K =
  bnd (pLoad Try.prog 37 x8 h) fun x29 =>
  bnd (pBuildSlice Try.prog 34 1 #[(0,x29)] h) fun x30 =>
  bnd (pAppend Try.prog #[34,34] x5 x30.1 x30.2) fun x31 =>
  K .normal (act 34 [(0,x0),(5,x31.1),(9,x9),(10,x10),(11,x11)]) x31.2:=kq_reg
theorem r47_9  : kCode env 47 false inv k (cp c47 935) (act 34 [(0,x0),(5,x5),(9,x9),(10,x10),(11,x11)]) h K =
  bnd (pBin Try.prog .add 3 (.tmp 11) (.const (.int .i64 1)) x11 (.int .i64 1)) fun x32 =>
  K .normal (act 34 [(0,x0),(5,x5),(9,x9),(10,x10),(11,x32)]) h:=kq_reg
noncomputable def F47_lrlrr {β : Type} (inv : Inv) (k : Nat) : Nat→Value→Value→Value→Value→Value→AH→(Value→Value→Value→Value→Value→Value→AH→Option β)→Option β
 | 0,_,_,_,_,_,_,_=>none
 | j + 1,x0,x5,x9,x10,x11,h,ke0 =>
  bnd (pBin Try.prog .lss 3 (.tmp 11) (.tmp 10) x11 x10) fun x12 =>
  brV x12
  (bnd (pIndexAddr Try.prog 24 x9 x11) fun x13 =>
  bnd (pLoad Try.prog 3 x13 h) fun x14 =>
  bnd (pBuild Try.prog 37 #[]) fun x15 =>
  bnd (pAlloc Try.prog 37 h) fun x8 =>
  bnd (kSt (pStore Try.prog 37 x8.1 x15 x8.2)) fun u =>
  G47_6 inv x0 x5 x14 x8.1 x9 x10 x11 u.2 fun y23 h =>
  F47_rlrrllrrllrlrr inv k x0 x5 x14 x8.1 x9 x10 x11 y23 h
  (fun y0 y5 y7 y8 y9 y10 y11 y23_1 h_2 =>
  bnd (pLoad Try.prog 37 y8 h_2) fun x29 =>
  bnd (pBuildSlice Try.prog 34 1 #[(0,x29)] h_2) fun x30 =>
  bnd (pAppend Try.prog #[34,34] y5 x30.1 x30.2) fun x31 =>
  bnd (pBin Try.prog .add 3 (.tmp 11) (.const (.int .i64 1)) y11 (.int .i64 1)) fun x32 =>
  F47_lrlrr inv k j y0 x31.1 y9 y10 x32 x31.2 ke0))
  (ke0 x0 x5 x9 x10 x11 x12 h)
theorem F47_lrlrr_j (j : Nat) : kLoop (kCode env 47 false inv k (cp c47 116)) j (act 34 [(0,x0),(5,x5),(9,x9),(10,x10),(11,x11)]) h K = F47_lrlrr inv k j x0 x5 x9 x10 x11 h (fun y0 y5 y9 y10 y11 y12 h=>K (.exit 0) (act 34 [(0,y0),(5,y5),(9,y9),(10,y10),(11,y11),(12,y12)]) h):=by
   induction j generalizing x0 x5 x9 x10 x11 h with
   | zero=>rfl
   | succ j ih =>
    unfold F47_lrlrr
    simp only [kLoop,kq_seq c47 116,r47_3,kq_seq c47 233,b47_lrllrlrr,kq_skip c47 932,kq_seq c47 467,kq_block c47 934 1,kq_seq c47 1868,r47_4,kq_seq c47 3737,r47_5,kq_seq c47 7475,kq_seq c47 14950,r47_6,F47_rlrrllrrllrlrr_eq,r47_8,r47_9,kq_exit c47 933 0,ih,reduceIte,reduceCtorEq,XE.exit.injEq,Nat.reduceEqDiff,Nat.reduceMul,Nat.reduceAdd] <;> kernel_rfl
theorem F47_lrlrr_eq  : kCode env 47 false inv k (cp c47 58) (act 34 [(0,x0),(5,x5),(9,x9),(10,x10),(11,x11)]) h K = F47_lrlrr inv k k x0 x5 x9 x10 x11 h (fun y0 y5 y9 y10 y11 y12 h=>K (.exit 0) (act 34 [(0,y0),(5,y5),(9,y9),(10,y10),(11,y11),(12,y12)]) h):=kq_loop (F47_lrlrr_j k)
theorem r47_10  : kCode env 47 false inv k (cp c47 30) (act 34 [(0,x0),(5,x5),(9,x9),(10,x10),(11,x11),(12,x12)]) h K =
  K .normal (act 34 [(4,x5)]) h:=kq_reg
theorem res47_0 : resOfFn env.P 47 .ret (act 34 [(4,x4)]) h = some (x4,h):=kq_res
/-- shadowbook/schema.Pick -/
noncomputable def F47 (inv : Inv) (k : Nat) (x0 x1 : Value) (h : AH) : Option (Value × AH) :=
  bnd (pLen Try.prog #[24] x1 h) fun x10 =>
  F47_lrlrr inv k k x0 (.slice none 0 0) x1 x10 (.int .i64 0) h
  (fun y0 y5 y9 y10 y11 y12 h =>
  some (y5,h))
theorem F47_eq : eFun env k inv 47 #[x0,x1] h = F47 inv k x0 x1 h:=by
   refine (kq_fun (a:=act 34 [(0,x0),(1,x1)]) (c:=cp c47 1)).trans ?_
   unfold F47
   simp only [kq_seq c47 1,r47_0,kq_seq c47 3,r47_1,kq_seq c47 7,kq_seq c47 14,r47_2,kq_block c47 29 0,F47_lrlrr_eq,kq_seq c47 15,r47_10,kq_ret c47 31,res47_0,reduceIte,reduceCtorEq,XE.exit.injEq,Nat.reduceEqDiff,Nat.reduceMul,Nat.reduceAdd] <;> kernel_rfl
theorem F47_call : eInv env (k + 1) (.func 47) #[] #[x0,x1] h = F47 (eInv env k) k x0 x1 h:=kq_inv F47_eq
noncomputable def c48 : Code:=codeOf Try.prog 48
theorem r48_0  : kCode env 48 false inv k (cp c48 2) (act 26 [(0,x0),(1,x1)]) h K =
  bnd (pBox Try.prog 42 x0 h) fun x2 =>
  bnd (pBox Try.prog 37 x1 x2.2) fun x3 =>
  K .normal (act 26 [(2,x2.1),(3,x3.1)]) x3.2:=kq_reg
theorem r48_1  : kCode env 48 false inv k (cp c48 6) (act 26 [(2,x2),(3,x3)]) h K =
  bnd (pLoad Try.prog 37 x3 h) fun x6 =>
  bnd (inv (.func 66) #[] #[x6] h) fun x7 =>
  K .normal (act 26 [(2,x2),(3,x3),(5,x7.1)]) x7.2:=kq_reg
theorem r48_2  : kCode env 48 false inv k (cp c48 28) (act 26 [(2,x2),(3,x3),(5,x5)]) h K =
  bnd (pBin Try.prog .neq 31 (.tmp 8) (.const (.int .i64 0)) x5 (.int .i64 0)) fun x9 =>
  K .normal (act 26 [(2,x2),(3,x3),(5,x5),(9,x9)]) h:=kq_reg
theorem b48_rlrr  : kCode env 48 false inv k (cp c48 29) (act 26 [(2,x2),(3,x3),(5,x5),(9,x9)]) h K = brV x9 (kCode env 48 false inv k (cp c48 58) (act 26 [(2,x2),(3,x3),(5,x5),(9,x9)]) h K) (kCode env 48 false inv k (cp c48 59) (act 26 [(2,x2),(3,x3),(5,x5),(9,x9)]) h K):=kq_cond
theorem r48_3  : kCode env 48 false inv k (cp c48 116) (act 26 [(2,x2),(3,x3),(5,x5),(9,x9)]) h K =
  K .normal (act 26 [(4,x5)]) h:=kq_reg
theorem res48_0 : resOfFn env.P 48 .ret (act 26 [(4,x4)]) h = some (x4,h):=kq_res
noncomputable abbrev G48_4 {β : Type} (inv : Inv) (x2 x3 : Value) (h : AH) (K : Value→AH→Option β) : Option β :=
  bnd (pFieldAddr Try.prog 37 x3 0) fun x11 =>
  bnd (pLoad Try.prog 3 x11 h) fun x12 =>
  bnd (pFieldAddr Try.prog 42 x2 1) fun x13 =>
  bnd (pLoad Try.prog 3 x13 h) fun x14 =>
  bnd (pBin Try.prog .neq 3 (.tmp 12) (.tmp 14) x12 x14) fun x15 =>
  bnd (gd (some x15) true h (lt (pFieldAddr Try.prog 37 x3 0) h)) fun x17 =>
  bnd (gd (some x15) true x17.2 (lt (pLoad Try.prog 3 x17.1 x17.2) x17.2)) fun x18 =>
  bnd (gd (some x15) true x18.2 (lt (pBin Try.prog .eql 3 (.tmp 18) (.const (.int .i64 0)) x18.1 (.int .i64 0)) x18.2)) fun x19 =>
  bnd (gd (some x15) true x19.2 (some (x19.1,x19.2))) fun x20 =>
  bnd (gd (some x20.1) true x20.2 (lt (pFieldAddr Try.prog 42 x2 2) x20.2)) fun x21 =>
  bnd (gd (some x20.1) true x21.2 (lt (pLoad Try.prog 4 x21.1 x21.2) x21.2)) fun x22 =>
  bnd (gd (some x15) true x22.2 (lt (pickV x20.1 x22.1 (.bool false)) x22.2)) fun x23 =>
  bnd (gd (some x15) true x23.2 (lt (pUn Try.prog .not x23.1) x23.2)) fun x24 =>
  bnd (pickV x15 x24.1 (.bool false)) fun x25 =>
  K (x25) x24.2
theorem r48_4  : kCode env 48 false inv k (cp c48 60) (act 26 [(2,x2),(3,x3),(5,x5),(9,x9)]) h K =
  G48_4 inv x2 x3 h fun y25 h=>K .normal (act 26 [(25,y25)]) h:=kq_reg
theorem b48_rlrrr  : kCode env 48 false inv k (cp c48 61) (act 26 [(25,x25)]) h K = brV x25 (kCode env 48 false inv k (cp c48 122) (act 26 [(25,x25)]) h K) (kCode env 48 false inv k (cp c48 123) (act 26 [(25,x25)]) h K):=kq_cond
theorem r48_5  : kCode env 48 false inv k (cp c48 244) (act 26 [(25,x25)]) h K =
  K .normal (act 26 [(4,(.int .i64 173))]) h:=kq_reg
theorem r48_6  : kCode env 48 false inv k (cp c48 62) (act 26 [(25,x25)]) h K =
  K .normal (act 26 [(4,(.int .i64 0))]) h:=kq_reg
/-- shadowbook/shadowbookref17.Cell -/
noncomputable def F48 (inv : Inv) (k : Nat) (x0 x1 : Value) (h : AH) : Option (Value × AH) :=
  bnd (pBox Try.prog 42 x0 h) fun x2 =>
  bnd (pBox Try.prog 37 x1 x2.2) fun x3 =>
  bnd (pLoad Try.prog 37 x3.1 x3.2) fun x6 =>
  bnd (inv (.func 66) #[] #[x6] x3.2) fun x7 =>
  bnd (pBin Try.prog .neq 31 (.tmp 8) (.const (.int .i64 0)) x7.1 (.int .i64 0)) fun x9 =>
  brV x9
  (some (x7.1,x7.2))
  (G48_4 inv x2.1 x3.1 x7.2 fun y25 h =>
  brV y25
  (some ((.int .i64 173),h))
  (some ((.int .i64 0),h)))
theorem F48_eq : eFun env k inv 48 #[x0,x1] h = F48 inv k x0 x1 h:=by
   refine (kq_fun (a:=act 26 [(0,x0),(1,x1)]) (c:=cp c48 1)).trans ?_
   unfold F48
   simp only [kq_seq c48 1,r48_0,kq_seq c48 3,r48_1,kq_seq c48 7,kq_seq c48 14,r48_2,b48_rlrr,kq_seq c48 58,r48_3,kq_ret c48 117,res48_0,kq_skip c48 59,kq_seq c48 15,kq_seq c48 30,r48_4,b48_rlrrr,kq_seq c48 122,r48_5,kq_ret c48 245,kq_skip c48 123,kq_seq c48 31,r48_6,kq_ret c48 63,reduceIte,reduceCtorEq,XE.exit.injEq,Nat.reduceEqDiff,Nat.reduceMul,Nat.reduceAdd] <;> kernel_rfl
theorem F48_call : eInv env (k + 1) (.func 48) #[] #[x0,x1] h = F48 (eInv env k) k x0 x1 h:=kq_inv F48_eq
noncomputable def c50 : Code:=codeOf Try.prog 50
theorem r50_0  : kCode env 50 false inv k (cp c50 2) (act 4 [(0,x0)]) h K =
  bnd (pBox Try.prog 67 x0 h) fun x1 =>
  K .normal (act 4 [(1,x1.1)]) x1.2:=kq_reg
theorem r50_1  : kCode env 50 false inv k (cp c50 6) (act 4 [(1,x1)]) h K =
  bnd (pMakeFunc (.func 69) #[] #[x1]) fun x3 =>
  K .normal (act 4 [(2,x3)]) h:=kq_reg
theorem res50_0 : resOfFn env.P 50 .ret (act 4 [(2,x2)]) h = some (x2,h):=kq_res
/-- maps.Keys[map[string]*shadowbook/agg.group,string,*shadowbook/agg.group] -/
noncomputable def F50 (inv : Inv) (k : Nat) (x0 : Value) (h : AH) : Option (Value × AH) :=
  bnd (pBox Try.prog 67 x0 h) fun x1 =>
  bnd (pMakeFunc (.func 69) #[] #[x1.1]) fun x3 =>
  some (x3,x1.2)
theorem F50_eq : eFun env k inv 50 #[x0] h = F50 inv k x0 h:=by
   refine (kq_fun (a:=act 4 [(0,x0)]) (c:=cp c50 1)).trans ?_
   unfold F50
   simp only [kq_seq c50 1,r50_0,kq_seq c50 3,r50_1,kq_ret c50 7,res50_0,reduceIte,reduceCtorEq,XE.exit.injEq,Nat.reduceEqDiff,Nat.reduceMul,Nat.reduceAdd] <;> kernel_rfl
theorem F50_call : eInv env (k + 1) (.func 50) #[] #[x0] h = F50 (eInv env k) k x0 h:=kq_inv F50_eq
noncomputable def c51 : Code:=codeOf Try.prog 51
theorem r51_0  : kCode env 51 false inv k (cp c51 2) (act 8 [(0,x0)]) h K =
  K .normal (act 8 [(0,x0)]) h:=kq_reg
theorem r51_1  : kCode env 51 false inv k (cp c51 12) (act 8 [(0,x0)]) h K =
  bnd (pBin Try.prog .eql 34 (.tmp 3) (.const (.slice none 0 0)) x0 (.slice none 0 0)) fun x4 =>
  K .normal (act 8 [(0,x0),(4,x4)]) h:=kq_reg
theorem b51_rlr  : kCode env 51 false inv k (cp c51 13) (act 8 [(0,x0),(4,x4)]) h K = brV x4 (kCode env 51 false inv k (cp c51 26) (act 8 [(0,x0),(4,x4)]) h K) (kCode env 51 false inv k (cp c51 27) (act 8 [(0,x0),(4,x4)]) h K):=kq_cond
theorem r51_2  : kCode env 51 false inv k (cp c51 52) (act 8 [(0,x0),(4,x4)]) h K =
  K .normal (act 8 [(2,(.slice none 0 0))]) h:=kq_reg
theorem res51_0 : resOfFn env.P 51 .ret (act 8 [(2,x2)]) h = some (x2,h):=kq_res
theorem r51_3  : kCode env 51 false inv k (cp c51 14) (act 8 [(0,x0),(4,x4)]) h K =
  bnd (pBuildSlice Try.prog 34 0 #[] h) fun x5 =>
  bnd (pAppend Try.prog #[34,34] x5.1 x0 x5.2) fun x7 =>
  K .normal (act 8 [(2,x7.1)]) x7.2:=kq_reg
/-- slices.Clone[[]shadowbook/api.Cell,shadowbook/api.Cell] -/
noncomputable def F51 (inv : Inv) (k : Nat) (x0 : Value) (h : AH) : Option (Value × AH) :=
  bnd (pBin Try.prog .eql 34 (.tmp 3) (.const (.slice none 0 0)) x0 (.slice none 0 0)) fun x4 =>
  brV x4
  (some ((.slice none 0 0),h))
  (bnd (pBuildSlice Try.prog 34 0 #[] h) fun x5 =>
  bnd (pAppend Try.prog #[34,34] x5.1 x0 x5.2) fun x7 =>
  some (x7.1,x7.2))
theorem F51_eq : eFun env k inv 51 #[x0] h = F51 inv k x0 h:=by
   refine (kq_fun (a:=act 8 [(0,x0)]) (c:=cp c51 1)).trans ?_
   unfold F51
   simp only [kq_seq c51 1,r51_0,kq_seq c51 3,kq_seq c51 6,r51_1,b51_rlr,kq_seq c51 26,r51_2,kq_ret c51 53,res51_0,kq_skip c51 27,kq_seq c51 7,r51_3,kq_ret c51 15,reduceIte,reduceCtorEq,XE.exit.injEq,Nat.reduceEqDiff,Nat.reduceMul,Nat.reduceAdd] <;> kernel_rfl
theorem F51_call : eInv env (k + 1) (.func 51) #[] #[x0] h = F51 (eInv env k) k x0 h:=kq_inv F51_eq
noncomputable def c52 : Code:=codeOf Try.prog 52
theorem r52_0  : kCode env 52 false inv k (cp c52 2) (act 69 [(0,x0),(1,x1)]) h K =
  bnd (pBox Try.prog 28 x1 h) fun x3 =>
  bnd (pAlloc Try.prog 37 x3.2) fun x4 =>
  K .normal (act 69 [(0,x0),(3,x3.1),(4,x4.1)]) x4.2:=kq_reg
theorem r52_1  : kCode env 52 false inv k (cp c52 12) (act 69 [(0,x0),(3,x3),(4,x4)]) h K =
  bnd (pFieldAddr Try.prog 28 x3 0) fun x8 =>
  bnd (pLoad Try.prog 3 x8 h) fun x9 =>
  bnd (pBin Try.prog .eql 3 (.tmp 9) (.const (.int .i64 1)) x9 (.int .i64 1)) fun x10 =>
  K .normal (act 69 [(0,x0),(3,x3),(4,x4),(10,x10)]) h:=kq_reg
theorem b52_rlr  : kCode env 52 false inv k (cp c52 13) (act 69 [(0,x0),(3,x3),(4,x4),(10,x10)]) h K = brV x10 (kCode env 52 false inv k (cp c52 26) (act 69 [(0,x0),(3,x3),(4,x4),(10,x10)]) h K) (kCode env 52 false inv k (cp c52 27) (act 69 [(0,x0),(3,x3),(4,x4),(10,x10)]) h K):=kq_cond
theorem r52_2  : kCode env 52 false inv k (cp c52 52) (act 69 [(0,x0),(3,x3),(4,x4),(10,x10)]) h K =
  bnd (pLen Try.prog #[23] x0 h) fun x12 =>
  bnd (pBuild Try.prog 37 #[(0,(.int .i64 1)),(1,x12)]) fun x13 =>
  bnd (kSt (pStore Try.prog 37 x4 x13 h)) fun u =>
  K .normal (act 69 [(4,x4)]) u.2:=kq_reg
theorem res52_0 : resOfFn env.P 52 .ret (act 69 [(4,x4)]) h = bnd (pLoad Try.prog 37 x4 h) fun q0 =>
  some (q0,h):=kq_res
theorem r52_3  : kCode env 52 false inv k (cp c52 14) (act 69 [(0,x0),(3,x3),(4,x4),(10,x10)]) h K =
  bnd (pBuild Try.prog 37 #[]) fun x14 =>
  bnd (pAlloc Try.prog 37 h) fun x5 =>
  bnd (kSt (pStore Try.prog 37 x5.1 x14 x5.2)) fun u =>
  K .normal (act 69 [(0,x0),(3,x3),(4,x4),(5,x5.1)]) u.2:=kq_reg
theorem r52_4  : kCode env 52 false inv k (cp c52 60) (act 69 [(0,x0),(3,x3),(4,x4),(5,x5)]) h K =
  K .normal (act 69 [(0,x0),(3,x3),(4,x4),(5,x5),(6,(.int .i64 0))]) h:=kq_reg
theorem r52_5  : kCode env 52 false inv k (cp c52 976) (act 69 [(0,x0),(3,x3),(4,x4),(5,x5),(6,x6)]) h K =
  bnd (pLen Try.prog #[23] x0 h) fun x17 =>
  bnd (pBin Try.prog .lss 3 (.tmp 15) (.tmp 17) x6 x17) fun x18 =>
  K .normal (act 69 [(0,x0),(3,x3),(4,x4),(5,x5),(6,x6),(18,x18)]) h:=kq_reg
theorem b52_rlllrlrrr  : kCode env 52 false inv k (cp c52 977) (act 69 [(0,x0),(3,x3),(4,x4),(5,x5),(6,x6),(18,x18)]) h K = brV x18 (kCode env 52 false inv k (cp c52 1954) (act 69 [(0,x0),(3,x3),(4,x4),(5,x5),(6,x6),(18,x18)]) h K) (kCode env 52 false inv k (cp c52 1955) (act 69 [(0,x0),(3,x3),(4,x4),(5,x5),(6,x6),(18,x18)]) h K):=kq_cond
noncomputable abbrev G52_7 {β : Type} (inv : Inv) (x0 x3 x4 x5 x6 : Value) (h : AH) (K : Value→AH→Option β) : Option β :=
  bnd (pIndexAddr Try.prog 23 x0 x6) fun x23 =>
  bnd (pLoad Try.prog 34 x23 h) fun x24 =>
  bnd (pFieldAddr Try.prog 28 x3 1) fun x25 =>
  bnd (pLoad Try.prog 3 x25 h) fun x26 =>
  bnd (pIndexAddr Try.prog 34 x24 x26) fun x27 =>
  bnd (pLoad Try.prog 37 x27 h) fun x28 =>
  bnd (pAlloc Try.prog 37 h) fun x7 =>
  bnd (kSt (pStore Try.prog 37 x7.1 x28 x7.2)) fun u =>
  chkK ((!true || !true || (sameO (pLoad Try.prog 34 x23 h) x24 && sameO (pLoad Try.prog 34 x23 x7.2) x24)) && ((!true || !true || (sameO (pLoad Try.prog 3 x25 h) x26 && sameO (pLoad Try.prog 3 x25 x7.2) x26)) && ((!true || !true || (sameO (pLoad Try.prog 37 x27 h) x28 && sameO (pLoad Try.prog 37 x27 x7.2) x28)) && true))) <|
  K (x7.1) u.2
theorem r52_7  : kCode env 52 false inv k (cp c52 3912) (act 69 [(0,x0),(3,x3),(4,x4),(5,x5),(6,x6),(18,x18)]) h K =
  G52_7 inv x0 x3 x4 x5 x6 h fun y7 h=>K .normal (act 69 [(0,x0),(3,x3),(4,x4),(5,x5),(6,x6),(7,y7)]) h:=kq_draw
theorem r52_8  : kCode env 52 false inv k (cp c52 15652) (act 69 [(0,x0),(3,x3),(4,x4),(5,x5),(6,x6),(7,x7)]) h K =
  bnd (pFieldAddr Try.prog 37 x7 0) fun x30 =>
  bnd (pLoad Try.prog 3 x30 h) fun x31 =>
  bnd (pBin Try.prog .eql 3 (.tmp 31) (.const (.int .i64 0)) x31 (.int .i64 0)) fun x32 =>
  K .normal (act 69 [(0,x0),(3,x3),(4,x4),(5,x5),(6,x6),(7,x7),(29,x32)]) h:=kq_reg
theorem b52_rlrllrllrlrrr  : kCode env 52 false inv k (cp c52 15653) (act 69 [(0,x0),(3,x3),(4,x4),(5,x5),(6,x6),(7,x7),(29,x29)]) h K = brV x29 (kCode env 52 false inv k (cp c52 31306) (act 69 [(0,x0),(3,x3),(4,x4),(5,x5),(6,x6),(7,x7),(29,x29)]) h K) (kCode env 52 false inv k (cp c52 31307) (act 69 [(0,x0),(3,x3),(4,x4),(5,x5),(6,x6),(7,x7),(29,x29)]) h K):=kq_cond
theorem r52_9  : kCode env 52 false inv k (cp c52 62614) (act 69 [(0,x0),(3,x3),(4,x4),(5,x5),(6,x6),(7,x7),(29,x29)]) h K =
  bnd (pFieldAddr Try.prog 37 x5 0) fun x34 =>
  bnd (pLoad Try.prog 3 x34 h) fun x35 =>
  bnd (pBin Try.prog .eql 3 (.tmp 35) (.const (.int .i64 0)) x35 (.int .i64 0)) fun x36 =>
  K .normal (act 69 [(0,x0),(3,x3),(4,x4),(5,x5),(6,x6),(7,x7),(33,x36)]) h:=kq_reg
theorem b52_rrrlrllrllrlrrr  : kCode env 52 false inv k (cp c52 62615) (act 69 [(0,x0),(3,x3),(4,x4),(5,x5),(6,x6),(7,x7),(33,x33)]) h K = brV x33 (kCode env 52 false inv k (cp c52 125230) (act 69 [(0,x0),(3,x3),(4,x4),(5,x5),(6,x6),(7,x7),(33,x33)]) h K) (kCode env 52 false inv k (cp c52 125231) (act 69 [(0,x0),(3,x3),(4,x4),(5,x5),(6,x6),(7,x7),(33,x33)]) h K):=kq_cond
theorem r52_10  : kCode env 52 false inv k (cp c52 125230) (act 69 [(0,x0),(3,x3),(4,x4),(5,x5),(6,x6),(7,x7),(33,x33)]) h K =
  bnd (pLoad Try.prog 37 x7 h) fun x37 =>
  bnd (kSt (pStore Try.prog 37 x5 x37 h)) fun u =>
  K .normal (act 69 [(0,x0),(3,x3),(4,x4),(5,x5),(6,x6)]) u.2:=kq_reg
theorem r52_11  : kCode env 52 false inv k (cp c52 250462) (act 69 [(0,x0),(3,x3),(4,x4),(5,x5),(6,x6),(7,x7),(33,x33)]) h K =
  bnd (pFieldAddr Try.prog 28 x3 0) fun x39 =>
  bnd (pLoad Try.prog 3 x39 h) fun x40 =>
  bnd (pBin Try.prog .eql 3 (.tmp 40) (.const (.int .i64 2)) x40 (.int .i64 2)) fun x41 =>
  K .normal (act 69 [(0,x0),(3,x3),(4,x4),(5,x5),(6,x6),(7,x7),(38,x41)]) h:=kq_reg
theorem b52_rrrrrlrllrllrlrrr  : kCode env 52 false inv k (cp c52 250463) (act 69 [(0,x0),(3,x3),(4,x4),(5,x5),(6,x6),(7,x7),(38,x38)]) h K = brV x38 (kCode env 52 false inv k (cp c52 500926) (act 69 [(0,x0),(3,x3),(4,x4),(5,x5),(6,x6),(7,x7),(38,x38)]) h K) (kCode env 52 false inv k (cp c52 500927) (act 69 [(0,x0),(3,x3),(4,x4),(5,x5),(6,x6),(7,x7),(38,x38)]) h K):=kq_cond
theorem r52_12  : kCode env 52 false inv k (cp c52 500926) (act 69 [(0,x0),(3,x3),(4,x4),(5,x5),(6,x6),(7,x7),(38,x38)]) h K =
  bnd (pFieldAddr Try.prog 37 x5 1) fun x42 =>
  bnd (pLoad Try.prog 2 x42 h) fun x43 =>
  bnd (pFieldAddr Try.prog 37 x7 1) fun x44 =>
  bnd (pLoad Try.prog 2 x44 h) fun x45 =>
  bnd (pBin Try.prog .add 2 (.tmp 43) (.tmp 45) x43 x45) fun x46 =>
  bnd (pFieldAddr Try.prog 37 x5 1) fun x47 =>
  bnd (kSt (pStore Try.prog 2 x47 x46 h)) fun u =>
  K .normal (act 69 [(0,x0),(3,x3),(4,x4),(5,x5),(6,x6)]) u.2:=kq_reg
noncomputable abbrev G52_13 {β : Type} (inv : Inv) (x0 x3 x4 x5 x6 x7 : Value) (h : AH) (K : Value→AH→Option β) : Option β :=
  bnd (pFieldAddr Try.prog 28 x3 0) fun x49 =>
  bnd (pLoad Try.prog 3 x49 h) fun x50 =>
  bnd (pBin Try.prog .eql 3 (.tmp 50) (.const (.int .i64 3)) x50 (.int .i64 3)) fun x51 =>
  bnd (gd (some x51) true h (lt (pLoad Try.prog 37 x7 h) h)) fun x53 =>
  bnd (gd (some x51) true x53.2 (lt (pLoad Try.prog 37 x5 x53.2) x53.2)) fun x54 =>
  bnd (gd (some x51) true x54.2 (inv (.func 14) #[] #[x53.1,x54.1] x54.2)) fun x55 =>
  bnd (gd (some x51) true x55.2 (lt (pBin Try.prog .lss 3 (.tmp 55) (.const (.int .i64 0)) x55.1 (.int .i64 0)) x55.2)) fun x56 =>
  bnd (pickV x51 x56.1 (.bool false)) fun x57 =>
  K (x57) x56.2
theorem r52_13  : kCode env 52 false inv k (cp c52 2003708) (act 69 [(0,x0),(3,x3),(4,x4),(5,x5),(6,x6),(7,x7),(38,x38)]) h K =
  G52_13 inv x0 x3 x4 x5 x6 x7 h fun y48 h=>K .normal (act 69 [(0,x0),(3,x3),(4,x4),(5,x5),(6,x6),(7,x7),(48,y48)]) h:=kq_reg
theorem b52_rlrrrrrrlrllrllrlrrr  : kCode env 52 false inv k (cp c52 2003709) (act 69 [(0,x0),(3,x3),(4,x4),(5,x5),(6,x6),(7,x7),(48,x48)]) h K = brV x48 (kCode env 52 false inv k (cp c52 4007418) (act 69 [(0,x0),(3,x3),(4,x4),(5,x5),(6,x6),(7,x7),(48,x48)]) h K) (kCode env 52 false inv k (cp c52 4007419) (act 69 [(0,x0),(3,x3),(4,x4),(5,x5),(6,x6),(7,x7),(48,x48)]) h K):=kq_cond
noncomputable abbrev G52_14 {β : Type} (inv : Inv) (x0 x3 x4 x5 x6 x7 : Value) (h : AH) (K : Value→AH→Option β) : Option β :=
  bnd (pFieldAddr Try.prog 28 x3 0) fun x58 =>
  bnd (pLoad Try.prog 3 x58 h) fun x59 =>
  bnd (pBin Try.prog .eql 3 (.tmp 59) (.const (.int .i64 4)) x59 (.int .i64 4)) fun x60 =>
  bnd (gd (some x60) true h (lt (pLoad Try.prog 37 x7 h) h)) fun x62 =>
  bnd (gd (some x60) true x62.2 (lt (pLoad Try.prog 37 x5 x62.2) x62.2)) fun x63 =>
  bnd (gd (some x60) true x63.2 (inv (.func 14) #[] #[x62.1,x63.1] x63.2)) fun x64 =>
  bnd (gd (some x60) true x64.2 (lt (pBin Try.prog .gtr 3 (.tmp 64) (.const (.int .i64 0)) x64.1 (.int .i64 0)) x64.2)) fun x65 =>
  bnd (pickV x60 x65.1 (.bool false)) fun x66 =>
  K (x66) x65.2
theorem r52_14  : kCode env 52 false inv k (cp c52 4007419) (act 69 [(0,x0),(3,x3),(4,x4),(5,x5),(6,x6),(7,x7),(48,x48)]) h K =
  G52_14 inv x0 x3 x4 x5 x6 x7 h fun y48 h=>K .normal (act 69 [(0,x0),(3,x3),(4,x4),(5,x5),(6,x6),(7,x7),(48,y48)]) h:=kq_reg
noncomputable def F52_rlrrrrrrlrllrllrlrrr {β : Type} (inv : Inv) (k : Nat) (x0 x3 x4 x5 x6 x7 x48 : Value) (h : AH) (kn : (Value→Value→Value→Value→Value→Value→Value→AH→Option β)) : Option β :=
  brV x48
  (kn x0 x3 x4 x5 x6 x7 x48 h)
  (G52_14 inv x0 x3 x4 x5 x6 x7 h fun y48 h =>
  kn x0 x3 x4 x5 x6 x7 y48 h)
theorem F52_rlrrrrrrlrllrllrlrrr_eq  : kCode env 52 false inv k (cp c52 2003709) (act 69 [(0,x0),(3,x3),(4,x4),(5,x5),(6,x6),(7,x7),(48,x48)]) h K = F52_rlrrrrrrlrllrllrlrrr inv k x0 x3 x4 x5 x6 x7 x48 h (fun y0 y3 y4 y5 y6 y7 y48 h=>K .normal (act 69 [(0,y0),(3,y3),(4,y4),(5,y5),(6,y6),(7,y7),(48,y48)]) h):=by
   unfold F52_rlrrrrrrlrllrllrlrrr
   simp only [b52_rlrrrrrrlrllrllrlrrr,kq_skip c52 4007418,r52_14,reduceIte,reduceCtorEq,XE.exit.injEq,Nat.reduceEqDiff,Nat.reduceMul,Nat.reduceAdd] <;> kernel_rfl
theorem b52_rrrrrrrlrllrllrlrrr  : kCode env 52 false inv k (cp c52 1001855) (act 69 [(0,x0),(3,x3),(4,x4),(5,x5),(6,x6),(7,x7),(48,x48)]) h K = brV x48 (kCode env 52 false inv k (cp c52 2003710) (act 69 [(0,x0),(3,x3),(4,x4),(5,x5),(6,x6),(7,x7),(48,x48)]) h K) (kCode env 52 false inv k (cp c52 2003711) (act 69 [(0,x0),(3,x3),(4,x4),(5,x5),(6,x6),(7,x7),(48,x48)]) h K):=kq_cond
theorem r52_15  : kCode env 52 false inv k (cp c52 2003710) (act 69 [(0,x0),(3,x3),(4,x4),(5,x5),(6,x6),(7,x7),(48,x48)]) h K =
  bnd (pLoad Try.prog 37 x7 h) fun x67 =>
  bnd (kSt (pStore Try.prog 37 x5 x67 h)) fun u =>
  K .normal (act 69 [(0,x0),(3,x3),(4,x4),(5,x5),(6,x6)]) u.2:=kq_reg
noncomputable def F52_lrllrlrrr {β : Type} (inv : Inv) (k : Nat) (x0 x3 x4 x5 x6 x18 : Value) (h : AH) (kn : (Value→Value→Value→Value→Value→Value→Value→Value→AH→Option β)) : Option β :=
  G52_7 inv x0 x3 x4 x5 x6 h fun y7 h =>
  bnd (pFieldAddr Try.prog 37 y7 0) fun x30 =>
  bnd (pLoad Try.prog 3 x30 h) fun x31 =>
  bnd (pBin Try.prog .eql 3 (.tmp 31) (.const (.int .i64 0)) x31 (.int .i64 0)) fun x32 =>
  brV x32
  (kn x0 x3 x4 x5 x6 y7 x32 unk h)
  (bnd (pFieldAddr Try.prog 37 x5 0) fun x34 =>
  bnd (pLoad Try.prog 3 x34 h) fun x35 =>
  bnd (pBin Try.prog .eql 3 (.tmp 35) (.const (.int .i64 0)) x35 (.int .i64 0)) fun x36 =>
  brV x36
  (bnd (pLoad Try.prog 37 y7 h) fun x37 =>
  bnd (kSt (pStore Try.prog 37 x5 x37 h)) fun u =>
  kn x0 x3 x4 x5 x6 unk unk unk u.2)
  (bnd (pFieldAddr Try.prog 28 x3 0) fun x39 =>
  bnd (pLoad Try.prog 3 x39 h) fun x40 =>
  bnd (pBin Try.prog .eql 3 (.tmp 40) (.const (.int .i64 2)) x40 (.int .i64 2)) fun x41 =>
  brV x41
  (bnd (pFieldAddr Try.prog 37 x5 1) fun x42 =>
  bnd (pLoad Try.prog 2 x42 h) fun x43 =>
  bnd (pFieldAddr Try.prog 37 y7 1) fun x44 =>
  bnd (pLoad Try.prog 2 x44 h) fun x45 =>
  bnd (pBin Try.prog .add 2 (.tmp 43) (.tmp 45) x43 x45) fun x46 =>
  bnd (pFieldAddr Try.prog 37 x5 1) fun x47 =>
  bnd (kSt (pStore Try.prog 2 x47 x46 h)) fun u_2 =>
  kn x0 x3 x4 x5 x6 unk unk unk u_2.2)
  (G52_13 inv x0 x3 x4 x5 x6 y7 h fun y48 h_3 =>
  F52_rlrrrrrrlrllrllrlrrr inv k x0 x3 x4 x5 x6 y7 y48 h_3
  (fun y0 y3 y4 y5 y6 y7_4 y48_5 h_6 =>
  brV y48_5
  (bnd (pLoad Try.prog 37 y7_4 h_6) fun x67 =>
  bnd (kSt (pStore Try.prog 37 y5 x67 h_6)) fun u_7 =>
  kn y0 y3 y4 y5 y6 unk unk unk u_7.2)
  (kn y0 y3 y4 y5 y6 y7_4 unk y48_5 h_6)))))
theorem F52_lrllrlrrr_eq  : kCode env 52 false inv k (cp c52 978) (act 69 [(0,x0),(3,x3),(4,x4),(5,x5),(6,x6),(18,x18)]) h K = F52_lrllrlrrr inv k x0 x3 x4 x5 x6 x18 h (fun y0 y3 y4 y5 y6 y7 y29 y48 h=>K .normal (act 69 [(0,y0),(3,y3),(4,y4),(5,y5),(6,y6),(7,y7),(29,y29),(48,y48)]) h):=by
   unfold F52_lrllrlrrr
   simp only [kq_block c52 978 1,kq_seq c52 1956,r52_7,kq_block c52 3913 2,kq_seq c52 7826,r52_8,b52_rlrllrllrlrrr,kq_skip c52 31306,kq_seq c52 31307,r52_9,b52_rrrlrllrllrlrrr,r52_10,kq_seq c52 125231,r52_11,b52_rrrrrlrllrllrlrrr,r52_12,kq_seq c52 500927,kq_seq c52 1001854,r52_13,F52_rlrrrrrrlrllrllrlrrr_eq,b52_rrrrrrrlrllrllrlrrr,r52_15,kq_skip c52 2003711,reduceIte,reduceCtorEq,XE.exit.injEq,Nat.reduceEqDiff,Nat.reduceMul,Nat.reduceAdd] <;> kernel_rfl
theorem r52_6  : kCode env 52 false inv k (cp c52 979) (act 69 [(0,x0),(3,x3),(4,x4),(5,x5),(6,x6),(7,x7),(29,x29),(48,x48)]) h K =
  bnd (pBin Try.prog .add 3 (.tmp 19) (.const (.int .i64 1)) x6 (.int .i64 1)) fun x20 =>
  K .normal (act 69 [(0,x0),(3,x3),(4,x4),(5,x5),(6,x20)]) h:=kq_reg
noncomputable def F52_lrlrrr {β : Type} (inv : Inv) (k : Nat) : Nat→Value→Value→Value→Value→Value→AH→(Value→Value→Value→Value→Value→Value→AH→Option β)→Option β
 | 0,_,_,_,_,_,_,_=>none
 | j + 1,x0,x3,x4,x5,x6,h,ke0 =>
  bnd (pLen Try.prog #[23] x0 h) fun x17 =>
  bnd (pBin Try.prog .lss 3 (.tmp 15) (.tmp 17) x6 x17) fun x18 =>
  brV x18
  (F52_lrllrlrrr inv k x0 x3 x4 x5 x6 x18 h
  (fun y0 y3 y4 y5 y6 y7 y29 y48 h =>
  bnd (pBin Try.prog .add 3 (.tmp 19) (.const (.int .i64 1)) y6 (.int .i64 1)) fun x20 =>
  F52_lrlrrr inv k j y0 y3 y4 y5 x20 h ke0))
  (ke0 x0 x3 x4 x5 x6 x18 h)
theorem F52_lrlrrr_j (j : Nat) : kLoop (kCode env 52 false inv k (cp c52 244)) j (act 69 [(0,x0),(3,x3),(4,x4),(5,x5),(6,x6)]) h K = F52_lrlrrr inv k j x0 x3 x4 x5 x6 h (fun y0 y3 y4 y5 y6 y18 h=>K (.exit 0) (act 69 [(0,y0),(3,y3),(4,y4),(5,y5),(6,y6),(18,y18)]) h):=by
   induction j generalizing x0 x3 x4 x5 x6 h with
   | zero=>rfl
   | succ j ih =>
    unfold F52_lrlrrr
    simp only [kLoop,kq_seq c52 244,kq_seq c52 488,r52_5,b52_rlllrlrrr,kq_skip c52 1954,kq_seq c52 489,F52_lrllrlrrr_eq,r52_6,kq_exit c52 1955 0,ih,reduceIte,reduceCtorEq,XE.exit.injEq,Nat.reduceEqDiff,Nat.reduceMul,Nat.reduceAdd] <;> kernel_rfl
theorem F52_lrlrrr_eq  : kCode env 52 false inv k (cp c52 122) (act 69 [(0,x0),(3,x3),(4,x4),(5,x5),(6,x6)]) h K = F52_lrlrrr inv k k x0 x3 x4 x5 x6 h (fun y0 y3 y4 y5 y6 y18 h=>K (.exit 0) (act 69 [(0,y0),(3,y3),(4,y4),(5,y5),(6,y6),(18,y18)]) h):=kq_loop (F52_lrlrrr_j k)
theorem r52_16  : kCode env 52 false inv k (cp c52 62) (act 69 [(0,x0),(3,x3),(4,x4),(5,x5),(6,x6),(18,x18)]) h K =
  bnd (pLoad Try.prog 37 x5 h) fun x68 =>
  bnd (kSt (pStore Try.prog 37 x4 x68 h)) fun u =>
  K .normal (act 69 [(4,x4)]) u.2:=kq_reg
/-- shadowbook/shadowbookref20.one -/
noncomputable def F52 (inv : Inv) (k : Nat) (x0 x1 : Value) (h : AH) : Option (Value × AH) :=
  bnd (pBox Try.prog 28 x1 h) fun x3 =>
  bnd (pAlloc Try.prog 37 x3.2) fun x4 =>
  bnd (pFieldAddr Try.prog 28 x3.1 0) fun x8 =>
  bnd (pLoad Try.prog 3 x8 x4.2) fun x9 =>
  bnd (pBin Try.prog .eql 3 (.tmp 9) (.const (.int .i64 1)) x9 (.int .i64 1)) fun x10 =>
  brV x10
  (bnd (pLen Try.prog #[23] x0 x4.2) fun x12 =>
  bnd (pBuild Try.prog 37 #[(0,(.int .i64 1)),(1,x12)]) fun x13 =>
  bnd (kSt (pStore Try.prog 37 x4.1 x13 x4.2)) fun u =>
  bnd (pLoad Try.prog 37 x4.1 u.2) fun q0 =>
  some (q0,u.2))
  (bnd (pBuild Try.prog 37 #[]) fun x14 =>
  bnd (pAlloc Try.prog 37 x4.2) fun x5 =>
  bnd (kSt (pStore Try.prog 37 x5.1 x14 x5.2)) fun u_1 =>
  F52_lrlrrr inv k k x0 x3.1 x4.1 x5.1 (.int .i64 0) u_1.2
  (fun y0 y3 y4 y5 y6 y18 h =>
  bnd (pLoad Try.prog 37 y5 h) fun x68 =>
  bnd (kSt (pStore Try.prog 37 y4 x68 h)) fun u_8 =>
  bnd (pLoad Try.prog 37 y4 u_8.2) fun q0 =>
  some (q0,u_8.2)))
theorem F52_eq : eFun env k inv 52 #[x0,x1] h = F52 inv k x0 x1 h:=by
   refine (kq_fun (a:=act 69 [(0,x0),(1,x1)]) (c:=cp c52 1)).trans ?_
   unfold F52
   simp only [kq_seq c52 1,r52_0,kq_seq c52 3,kq_seq c52 6,r52_1,b52_rlr,kq_seq c52 26,r52_2,kq_ret c52 53,res52_0,kq_skip c52 27,kq_seq c52 7,r52_3,kq_seq c52 15,kq_seq c52 30,r52_4,kq_block c52 61 0,F52_lrlrrr_eq,kq_seq c52 31,r52_16,kq_ret c52 63,reduceIte,reduceCtorEq,XE.exit.injEq,Nat.reduceEqDiff,Nat.reduceMul,Nat.reduceAdd] <;> kernel_rfl
theorem F52_call : eInv env (k + 1) (.func 52) #[] #[x0,x1] h = F52 (eInv env k) k x0 x1 h:=kq_inv F52_eq
noncomputable def c56 : Code:=codeOf Try.prog 56
theorem r56_0  : kCode env 56 false inv k (cp c56 2) (act 20 [(0,x0)]) h K =
  K .normal (act 20 [(0,x0)]) h:=kq_reg
theorem r56_1  : kCode env 56 false inv k (cp c56 12) (act 20 [(0,x0)]) h K =
  K .normal (act 20 [(0,x0),(3,(.int .i64 0))]) h:=kq_reg
theorem r56_2  : kCode env 56 false inv k (cp c56 208) (act 20 [(0,x0),(3,x3)]) h K =
  bnd (pLen Try.prog #[34] x0 h) fun x6 =>
  bnd (pBin Try.prog .lss 3 (.tmp 4) (.tmp 6) x3 x6) fun x7 =>
  K .normal (act 20 [(0,x0),(3,x3),(7,x7)]) h:=kq_reg
theorem b56_rlllrlr  : kCode env 56 false inv k (cp c56 209) (act 20 [(0,x0),(3,x3),(7,x7)]) h K = brV x7 (kCode env 56 false inv k (cp c56 418) (act 20 [(0,x0),(3,x3),(7,x7)]) h K) (kCode env 56 false inv k (cp c56 419) (act 20 [(0,x0),(3,x3),(7,x7)]) h K):=kq_cond
theorem r56_4  : kCode env 56 false inv k (cp c56 840) (act 20 [(0,x0),(3,x3),(7,x7)]) h K =
  bnd (pIndexAddr Try.prog 34 x0 x3) fun x12 =>
  bnd (pFieldAddr Try.prog 37 x12 2) fun x13 =>
  bnd (pLoad Try.prog 9 x13 h) fun x14 =>
  bnd (pLen Try.prog #[9] x14 h) fun x15 =>
  bnd (pBin Try.prog .gtr 3 (.tmp 15) (.const (.int .i64 300)) x15 (.int .i64 300)) fun x16 =>
  K .normal (act 20 [(0,x0),(3,x3),(16,x16)]) h:=kq_reg
theorem b56_rllrllrlr  : kCode env 56 false inv k (cp c56 841) (act 20 [(0,x0),(3,x3),(16,x16)]) h K = brV x16 (kCode env 56 false inv k (cp c56 1682) (act 20 [(0,x0),(3,x3),(16,x16)]) h K) (kCode env 56 false inv k (cp c56 1683) (act 20 [(0,x0),(3,x3),(16,x16)]) h K):=kq_cond
theorem r56_5  : kCode env 56 false inv k (cp c56 3364) (act 20 [(0,x0),(3,x3),(16,x16)]) h K =
  K .normal (act 20 [(2,(.bool false))]) h:=kq_reg
theorem r56_3  : kCode env 56 false inv k (cp c56 211) (act 20 [(0,x0),(3,x3),(16,x16)]) h K =
  bnd (pBin Try.prog .add 3 (.tmp 8) (.const (.int .i64 1)) x3 (.int .i64 1)) fun x9 =>
  K .normal (act 20 [(0,x0),(3,x9)]) h:=kq_reg
noncomputable def F56_lrlr {β : Type} (inv : Inv) (k : Nat) : Nat→Value→Value→AH→(Value→Value→Value→AH→Option β)→(Value→AH→Option β)→Option β
 | 0,_,_,_,_,_=>none
 | j + 1,x0,x3,h,ke0,kr =>
  bnd (pLen Try.prog #[34] x0 h) fun x6 =>
  bnd (pBin Try.prog .lss 3 (.tmp 4) (.tmp 6) x3 x6) fun x7 =>
  brV x7
  (bnd (pIndexAddr Try.prog 34 x0 x3) fun x12 =>
  bnd (pFieldAddr Try.prog 37 x12 2) fun x13 =>
  bnd (pLoad Try.prog 9 x13 h) fun x14 =>
  bnd (pLen Try.prog #[9] x14 h) fun x15 =>
  bnd (pBin Try.prog .gtr 3 (.tmp 15) (.const (.int .i64 300)) x15 (.int .i64 300)) fun x16 =>
  brV x16
  (kr (.bool false) h)
  (bnd (pBin Try.prog .add 3 (.tmp 8) (.const (.int .i64 1)) x3 (.int .i64 1)) fun x9 =>
  F56_lrlr inv k j x0 x9 h ke0 kr))
  (ke0 x0 x3 x7 h)
theorem F56_lrlr_j (j : Nat) : kLoop (kCode env 56 false inv k (cp c56 52)) j (act 20 [(0,x0),(3,x3)]) h K = F56_lrlr inv k j x0 x3 h (fun y0 y3 y7 h=>K (.exit 0) (act 20 [(0,y0),(3,y3),(7,y7)]) h) (fun y2 h=>K .ret (act 20 [(2,y2)]) h):=by
   induction j generalizing x0 x3 h with
   | zero=>rfl
   | succ j ih =>
    unfold F56_lrlr
    simp only [kLoop,kq_seq c56 52,kq_seq c56 104,r56_2,b56_rlllrlr,kq_skip c56 418,kq_seq c56 105,kq_block c56 210 1,kq_seq c56 420,r56_4,b56_rllrllrlr,kq_seq c56 1682,r56_5,kq_ret c56 3365,kq_skip c56 1683,r56_3,kq_exit c56 419 0,ih,reduceIte,reduceCtorEq,XE.exit.injEq,Nat.reduceEqDiff,Nat.reduceMul,Nat.reduceAdd] <;> kernel_rfl
theorem F56_lrlr_eq  : kCode env 56 false inv k (cp c56 26) (act 20 [(0,x0),(3,x3)]) h K = F56_lrlr inv k k x0 x3 h (fun y0 y3 y7 h=>K (.exit 0) (act 20 [(0,y0),(3,y3),(7,y7)]) h) (fun y2 h=>K .ret (act 20 [(2,y2)]) h):=kq_loop (F56_lrlr_j k)
theorem r56_6  : kCode env 56 false inv k (cp c56 14) (act 20 [(0,x0),(3,x3),(7,x7)]) h K =
  bnd (pLen Try.prog #[34] x0 h) fun x18 =>
  bnd (pBin Try.prog .leq 3 (.tmp 18) (.const (.int .i64 20)) x18 (.int .i64 20)) fun x19 =>
  K .normal (act 20 [(2,x19)]) h:=kq_reg
theorem res56_0 : resOfFn env.P 56 .ret (act 20 [(2,x2)]) h = some (x2,h):=kq_res
/-- shadowbook/shadowbookkit.LightRow -/
noncomputable def F56 (inv : Inv) (k : Nat) (x0 : Value) (h : AH) : Option (Value × AH) :=
  F56_lrlr inv k k x0 (.int .i64 0) h
  (fun y0 y3 y7 h =>
  bnd (pLen Try.prog #[34] y0 h) fun x18 =>
  bnd (pBin Try.prog .leq 3 (.tmp 18) (.const (.int .i64 20)) x18 (.int .i64 20)) fun x19 =>
  some (x19,h))
  (fun y2 h_1 =>
  some (y2,h_1))
theorem F56_eq : eFun env k inv 56 #[x0] h = F56 inv k x0 h:=by
   refine (kq_fun (a:=act 20 [(0,x0)]) (c:=cp c56 1)).trans ?_
   unfold F56
   simp only [kq_seq c56 1,r56_0,kq_seq c56 3,kq_seq c56 6,r56_1,kq_block c56 13 0,F56_lrlr_eq,kq_seq c56 7,r56_6,kq_ret c56 15,res56_0,reduceIte,reduceCtorEq,XE.exit.injEq,Nat.reduceEqDiff,Nat.reduceMul,Nat.reduceAdd] <;> kernel_rfl
theorem F56_call : eInv env (k + 1) (.func 56) #[] #[x0] h = F56 (eInv env k) k x0 h:=kq_inv F56_eq
noncomputable def c57 : Code:=codeOf Try.prog 57
theorem r57_0  : kCode env 57 false inv k (cp c57 2) (act 21 [(0,x0)]) h K =
  K .normal (act 21 [(0,x0)]) h:=kq_reg
theorem r57_1  : kCode env 57 false inv k (cp c57 6) (act 21 [(0,x0)]) h K =
  K .normal (act 21 [(0,x0),(3,(.slice none 0 0))]) h:=kq_reg
theorem r57_2  : kCode env 57 false inv k (cp c57 28) (act 21 [(0,x0),(3,x3)]) h K =
  bnd (pLen Try.prog #[34] x0 h) fun x7 =>
  K .normal (act 21 [(3,x3),(6,x0),(7,x7),(8,(.int .i64 0))]) h:=kq_reg
theorem r57_3  : kCode env 57 false inv k (cp c57 232) (act 21 [(3,x3),(6,x6),(7,x7),(8,x8)]) h K =
  bnd (pBin Try.prog .lss 3 (.tmp 8) (.tmp 7) x8 x7) fun x9 =>
  K .normal (act 21 [(3,x3),(6,x6),(7,x7),(8,x8),(9,x9)]) h:=kq_reg
theorem b57_lrllrlrr  : kCode env 57 false inv k (cp c57 466) (act 21 [(3,x3),(6,x6),(7,x7),(8,x8),(9,x9)]) h K = brV x9 (kCode env 57 false inv k (cp c57 932) (act 21 [(3,x3),(6,x6),(7,x7),(8,x8),(9,x9)]) h K) (kCode env 57 false inv k (cp c57 933) (act 21 [(3,x3),(6,x6),(7,x7),(8,x8),(9,x9)]) h K):=kq_cond
theorem r57_4  : kCode env 57 false inv k (cp c57 3736) (act 21 [(3,x3),(6,x6),(7,x7),(8,x8),(9,x9)]) h K =
  bnd (pIndexAddr Try.prog 34 x6 x8) fun x10 =>
  bnd (pLoad Try.prog 37 x10 h) fun x11 =>
  bnd (pAlloc Try.prog 37 h) fun x5 =>
  bnd (kSt (pStore Try.prog 37 x5.1 x11 x5.2)) fun u =>
  K .normal (act 21 [(3,x3),(5,x5.1),(6,x6),(7,x7),(8,x8)]) u.2:=kq_reg
theorem r57_5  : kCode env 57 false inv k (cp c57 14948) (act 21 [(3,x3),(5,x5),(6,x6),(7,x7),(8,x8)]) h K =
  bnd (pLoad Try.prog 37 x5 h) fun x12 =>
  bnd (inv (.func 70) #[] #[x12] h) fun x13 =>
  bnd (pBin Try.prog .neq 31 (.tmp 13) (.const (.int .i64 0)) x13.1 (.int .i64 0)) fun x14 =>
  K .normal (act 21 [(3,x3),(5,x5),(6,x6),(7,x7),(8,x8),(14,x14)]) x13.2:=kq_reg
theorem b57_rlrllrrllrlrr  : kCode env 57 false inv k (cp c57 14949) (act 21 [(3,x3),(5,x5),(6,x6),(7,x7),(8,x8),(14,x14)]) h K = brV x14 (kCode env 57 false inv k (cp c57 29898) (act 21 [(3,x3),(5,x5),(6,x6),(7,x7),(8,x8),(14,x14)]) h K) (kCode env 57 false inv k (cp c57 29899) (act 21 [(3,x3),(5,x5),(6,x6),(7,x7),(8,x8),(14,x14)]) h K):=kq_cond
theorem r57_6  : kCode env 57 false inv k (cp c57 59796) (act 21 [(3,x3),(5,x5),(6,x6),(7,x7),(8,x8),(14,x14)]) h K =
  K .normal (act 21 [(2,(.string { data:=#[] }))]) h:=kq_reg
theorem r57_7  : kCode env 57 false inv k (cp c57 7475) (act 21 [(3,x3),(5,x5),(6,x6),(7,x7),(8,x8),(14,x14)]) h K =
  bnd (pLoad Try.prog 37 x5 h) fun x16 =>
  bnd (inv (.func 71) #[] #[x3,x16] h) fun x17 =>
  K .normal (act 21 [(3,x17.1),(6,x6),(7,x7),(8,x8)]) x17.2:=kq_reg
theorem r57_8  : kCode env 57 false inv k (cp c57 935) (act 21 [(3,x3),(6,x6),(7,x7),(8,x8)]) h K =
  bnd (pBin Try.prog .add 3 (.tmp 8) (.const (.int .i64 1)) x8 (.int .i64 1)) fun x18 =>
  K .normal (act 21 [(3,x3),(6,x6),(7,x7),(8,x18)]) h:=kq_reg
noncomputable def F57_lrlrr {β : Type} (inv : Inv) (k : Nat) : Nat→Value→Value→Value→Value→AH→(Value→Value→Value→Value→Value→AH→Option β)→(Value→AH→Option β)→Option β
 | 0,_,_,_,_,_,_,_=>none
 | j + 1,x3,x6,x7,x8,h,ke0,kr =>
  bnd (pBin Try.prog .lss 3 (.tmp 8) (.tmp 7) x8 x7) fun x9 =>
  brV x9
  (bnd (pIndexAddr Try.prog 34 x6 x8) fun x10 =>
  bnd (pLoad Try.prog 37 x10 h) fun x11 =>
  bnd (pAlloc Try.prog 37 h) fun x5 =>
  bnd (kSt (pStore Try.prog 37 x5.1 x11 x5.2)) fun u =>
  bnd (pLoad Try.prog 37 x5.1 u.2) fun x12 =>
  bnd (inv (.func 70) #[] #[x12] u.2) fun x13 =>
  bnd (pBin Try.prog .neq 31 (.tmp 13) (.const (.int .i64 0)) x13.1 (.int .i64 0)) fun x14 =>
  brV x14
  (kr (.string { data:=#[] }) x13.2)
  (bnd (pLoad Try.prog 37 x5.1 x13.2) fun x16 =>
  bnd (inv (.func 71) #[] #[x3,x16] x13.2) fun x17 =>
  bnd (pBin Try.prog .add 3 (.tmp 8) (.const (.int .i64 1)) x8 (.int .i64 1)) fun x18 =>
  F57_lrlrr inv k j x17.1 x6 x7 x18 x17.2 ke0 kr))
  (ke0 x3 x6 x7 x8 x9 h)
theorem F57_lrlrr_j (j : Nat) : kLoop (kCode env 57 false inv k (cp c57 116)) j (act 21 [(3,x3),(6,x6),(7,x7),(8,x8)]) h K = F57_lrlrr inv k j x3 x6 x7 x8 h (fun y3 y6 y7 y8 y9 h=>K (.exit 0) (act 21 [(3,y3),(6,y6),(7,y7),(8,y8),(9,y9)]) h) (fun y2 h=>K .ret (act 21 [(2,y2)]) h):=by
   induction j generalizing x3 x6 x7 x8 h with
   | zero=>rfl
   | succ j ih =>
    unfold F57_lrlrr
    simp only [kLoop,kq_seq c57 116,r57_3,kq_seq c57 233,b57_lrllrlrr,kq_skip c57 932,kq_seq c57 467,kq_block c57 934 1,kq_seq c57 1868,r57_4,kq_seq c57 3737,kq_seq c57 7474,r57_5,b57_rlrllrrllrlrr,kq_seq c57 29898,r57_6,kq_ret c57 59797,kq_skip c57 29899,r57_7,r57_8,kq_exit c57 933 0,ih,reduceIte,reduceCtorEq,XE.exit.injEq,Nat.reduceEqDiff,Nat.reduceMul,Nat.reduceAdd] <;> kernel_rfl
theorem F57_lrlrr_eq  : kCode env 57 false inv k (cp c57 58) (act 21 [(3,x3),(6,x6),(7,x7),(8,x8)]) h K = F57_lrlrr inv k k x3 x6 x7 x8 h (fun y3 y6 y7 y8 y9 h=>K (.exit 0) (act 21 [(3,y3),(6,y6),(7,y7),(8,y8),(9,y9)]) h) (fun y2 h=>K .ret (act 21 [(2,y2)]) h):=kq_loop (F57_lrlrr_j k)
theorem r57_9  : kCode env 57 false inv k (cp c57 30) (act 21 [(3,x3),(6,x6),(7,x7),(8,x8),(9,x9)]) h K =
  bnd (pConv Try.prog 107 9 x3 h) fun x20 =>
  K .normal (act 21 [(2,x20)]) h:=kq_reg
theorem res57_0 : resOfFn env.P 57 .ret (act 21 [(2,x2)]) h = some (x2,h):=kq_res
/-- shadowbook/value.Key -/
noncomputable def F57 (inv : Inv) (k : Nat) (x0 : Value) (h : AH) : Option (Value × AH) :=
  bnd (pLen Try.prog #[34] x0 h) fun x7 =>
  F57_lrlrr inv k k (.slice none 0 0) x0 x7 (.int .i64 0) h
  (fun y3 y6 y7 y8 y9 h =>
  bnd (pConv Try.prog 107 9 y3 h) fun x20 =>
  some (x20,h))
  (fun y2 h_1 =>
  some (y2,h_1))
theorem F57_eq : eFun env k inv 57 #[x0] h = F57 inv k x0 h:=by
   refine (kq_fun (a:=act 21 [(0,x0)]) (c:=cp c57 1)).trans ?_
   unfold F57
   simp only [kq_seq c57 1,r57_0,kq_seq c57 3,r57_1,kq_seq c57 7,kq_seq c57 14,r57_2,kq_block c57 29 0,F57_lrlrr_eq,kq_seq c57 15,r57_9,kq_ret c57 31,res57_0,reduceIte,reduceCtorEq,XE.exit.injEq,Nat.reduceEqDiff,Nat.reduceMul,Nat.reduceAdd] <;> kernel_rfl
theorem F57_call : eInv env (k + 1) (.func 57) #[] #[x0] h = F57 (eInv env k) k x0 h:=kq_inv F57_eq
noncomputable def c58 : Code:=codeOf Try.prog 58
theorem r58_0  : kCode env 58 false inv k (cp c58 2) (act 29 [(0,x0)]) h K =
  bnd (pBox Try.prog 28 x0 h) fun x1 =>
  K .normal (act 29 [(1,x1.1)]) x1.2:=kq_reg
theorem r58_1  : kCode env 58 false inv k (cp c58 12) (act 29 [(1,x1)]) h K =
  bnd (pFieldAddr Try.prog 28 x1 0) fun x3 =>
  bnd (pLoad Try.prog 3 x3 h) fun x4 =>
  K .normal (act 29 [(1,x1),(4,x4)]) h:=kq_reg
theorem r58_2  : kCode env 58 false inv k (cp c58 52) (act 29 [(1,x1),(4,x4)]) h K =
  bnd (pBin Try.prog .eql 3 (.tmp 4) (.const (.int .i64 1)) x4 (.int .i64 1)) fun x6 =>
  K .normal (act 29 [(1,x1),(4,x4),(5,x6)]) h:=kq_reg
theorem b58_rlrlr  : kCode env 58 false inv k (cp c58 53) (act 29 [(1,x1),(4,x4),(5,x5)]) h K = brV x5 (kCode env 58 false inv k (cp c58 106) (act 29 [(1,x1),(4,x4),(5,x5)]) h K) (kCode env 58 false inv k (cp c58 107) (act 29 [(1,x1),(4,x4),(5,x5)]) h K):=kq_cond
theorem r58_3  : kCode env 58 false inv k (cp c58 212) (act 29 [(1,x1),(4,x4),(5,x5)]) h K =
  bnd (pBuild Try.prog 111 #[]) fun x7 =>
  bnd (pBox Try.prog 111 x7 h) fun x8 =>
  bnd (pMakeIface Try.prog 109 x8.1) fun x9 =>
  K .normal (act 29 [(2,x9)]) x8.2:=kq_reg
theorem res58_0 : resOfFn env.P 58 .ret (act 29 [(2,x2)]) h = some (x2,h):=kq_res
theorem r58_4  : kCode env 58 false inv k (cp c58 214) (act 29 [(1,x1),(4,x4),(5,x5)]) h K =
  bnd (pBin Try.prog .eql 3 (.tmp 4) (.const (.int .i64 2)) x4 (.int .i64 2)) fun x11 =>
  K .normal (act 29 [(1,x1),(4,x4),(10,x11)]) h:=kq_reg
theorem b58_rrrlrlr  : kCode env 58 false inv k (cp c58 215) (act 29 [(1,x1),(4,x4),(10,x10)]) h K = brV x10 (kCode env 58 false inv k (cp c58 430) (act 29 [(1,x1),(4,x4),(10,x10)]) h K) (kCode env 58 false inv k (cp c58 431) (act 29 [(1,x1),(4,x4),(10,x10)]) h K):=kq_cond
theorem r58_5  : kCode env 58 false inv k (cp c58 860) (act 29 [(1,x1),(4,x4),(10,x10)]) h K =
  bnd (pFieldAddr Try.prog 28 x1 1) fun x12 =>
  bnd (pLoad Try.prog 3 x12 h) fun x13 =>
  bnd (pBuild Try.prog 114 #[(0,x13)]) fun x14 =>
  bnd (pBox Try.prog 114 x14 h) fun x15 =>
  bnd (pMakeIface Try.prog 112 x15.1) fun x16 =>
  K .normal (act 29 [(2,x16)]) x15.2:=kq_reg
theorem r58_6  : kCode env 58 false inv k (cp c58 862) (act 29 [(1,x1),(4,x4),(10,x10)]) h K =
  bnd (pBin Try.prog .eql 3 (.tmp 4) (.const (.int .i64 3)) x4 (.int .i64 3)) fun x18 =>
  K .normal (act 29 [(1,x1),(17,x18)]) h:=kq_reg
theorem b58_rrrrrlrlr  : kCode env 58 false inv k (cp c58 863) (act 29 [(1,x1),(17,x17)]) h K = brV x17 (kCode env 58 false inv k (cp c58 1726) (act 29 [(1,x1),(17,x17)]) h K) (kCode env 58 false inv k (cp c58 1727) (act 29 [(1,x1),(17,x17)]) h K):=kq_cond
theorem r58_7  : kCode env 58 false inv k (cp c58 3452) (act 29 [(1,x1),(17,x17)]) h K =
  bnd (pFieldAddr Try.prog 28 x1 1) fun x19 =>
  bnd (pLoad Try.prog 3 x19 h) fun x20 =>
  bnd (pBuild Try.prog 117 #[(0,x20),(1,(.int .i64 (-1)))]) fun x21 =>
  bnd (pBox Try.prog 117 x21 h) fun x22 =>
  bnd (pMakeIface Try.prog 115 x22.1) fun x23 =>
  K .normal (act 29 [(2,x23)]) x22.2:=kq_reg
theorem r58_8  : kCode env 58 false inv k (cp c58 14) (act 29 [(1,x1),(17,x17)]) h K =
  bnd (pFieldAddr Try.prog 28 x1 1) fun x24 =>
  bnd (pLoad Try.prog 3 x24 h) fun x25 =>
  bnd (pBuild Try.prog 117 #[(0,x25),(1,(.int .i64 1))]) fun x26 =>
  bnd (pBox Try.prog 117 x26 h) fun x27 =>
  bnd (pMakeIface Try.prog 115 x27.1) fun x28 =>
  K .normal (act 29 [(2,x28)]) x27.2:=kq_reg
/-- shadowbook/agg.of -/
noncomputable def F58 (inv : Inv) (k : Nat) (x0 : Value) (h : AH) : Option (Value × AH) :=
  bnd (pBox Try.prog 28 x0 h) fun x1 =>
  bnd (pFieldAddr Try.prog 28 x1.1 0) fun x3 =>
  bnd (pLoad Try.prog 3 x3 x1.2) fun x4 =>
  bnd (pBin Try.prog .eql 3 (.tmp 4) (.const (.int .i64 1)) x4 (.int .i64 1)) fun x6 =>
  brV x6
  (bnd (pBuild Try.prog 111 #[]) fun x7 =>
  bnd (pBox Try.prog 111 x7 x1.2) fun x8 =>
  bnd (pMakeIface Try.prog 109 x8.1) fun x9 =>
  some (x9,x8.2))
  (bnd (pBin Try.prog .eql 3 (.tmp 4) (.const (.int .i64 2)) x4 (.int .i64 2)) fun x11 =>
  brV x11
  (bnd (pFieldAddr Try.prog 28 x1.1 1) fun x12 =>
  bnd (pLoad Try.prog 3 x12 x1.2) fun x13 =>
  bnd (pBuild Try.prog 114 #[(0,x13)]) fun x14 =>
  bnd (pBox Try.prog 114 x14 x1.2) fun x15 =>
  bnd (pMakeIface Try.prog 112 x15.1) fun x16 =>
  some (x16,x15.2))
  (bnd (pBin Try.prog .eql 3 (.tmp 4) (.const (.int .i64 3)) x4 (.int .i64 3)) fun x18 =>
  brV x18
  (bnd (pFieldAddr Try.prog 28 x1.1 1) fun x19 =>
  bnd (pLoad Try.prog 3 x19 x1.2) fun x20 =>
  bnd (pBuild Try.prog 117 #[(0,x20),(1,(.int .i64 (-1)))]) fun x21 =>
  bnd (pBox Try.prog 117 x21 x1.2) fun x22 =>
  bnd (pMakeIface Try.prog 115 x22.1) fun x23 =>
  some (x23,x22.2))
  (bnd (pFieldAddr Try.prog 28 x1.1 1) fun x24 =>
  bnd (pLoad Try.prog 3 x24 x1.2) fun x25 =>
  bnd (pBuild Try.prog 117 #[(0,x25),(1,(.int .i64 1))]) fun x26 =>
  bnd (pBox Try.prog 117 x26 x1.2) fun x27 =>
  bnd (pMakeIface Try.prog 115 x27.1) fun x28 =>
  some (x28,x27.2))))
theorem F58_eq : eFun env k inv 58 #[x0] h = F58 inv k x0 h:=by
   refine (kq_fun (a:=act 29 [(0,x0)]) (c:=cp c58 1)).trans ?_
   unfold F58
   simp only [kq_seq c58 1,r58_0,kq_seq c58 3,kq_seq c58 6,r58_1,kq_block c58 13 0,kq_seq c58 26,r58_2,b58_rlrlr,kq_seq c58 106,r58_3,kq_ret c58 213,res58_0,kq_seq c58 107,r58_4,b58_rrrlrlr,kq_seq c58 430,r58_5,kq_ret c58 861,kq_seq c58 431,r58_6,b58_rrrrrlrlr,kq_seq c58 1726,r58_7,kq_ret c58 3453,kq_skip c58 1727,kq_seq c58 7,r58_8,kq_ret c58 15,reduceIte,reduceCtorEq,XE.exit.injEq,Nat.reduceEqDiff,Nat.reduceMul,Nat.reduceAdd] <;> kernel_rfl
theorem F58_call : eInv env (k + 1) (.func 58) #[] #[x0] h = F58 (eInv env k) k x0 h:=kq_inv F58_eq
noncomputable def c59 : Code:=codeOf Try.prog 59
theorem r59_0  : kCode env 59 false inv k (cp c59 2) (act 55 [(0,x0)]) h K =
  K .normal (act 55 [(0,x0)]) h:=kq_reg
noncomputable abbrev G59_1 {β : Type} (inv : Inv) (x0 : Value) (h : AH) (K : Value→AH→Option β) : Option β :=
  bnd (pLen Try.prog #[9] x0 h) fun x7 =>
  bnd (pBin Try.prog .lss 3 (.tmp 7) (.const (.int .i64 1)) x7 (.int .i64 1)) fun x8 =>
  bnd (gd (some x8) false h (some (x0,h))) fun x10 =>
  bnd (gd (some x8) false x10.2 (lt (pLen Try.prog #[9] x10.1 x10.2) x10.2)) fun x11 =>
  bnd (gd (some x8) false x11.2 (lt (pBin Try.prog .gtr 3 (.tmp 11) (.const (.int .i64 32)) x11.1 (.int .i64 32)) x11.2)) fun x12 =>
  bnd (pickV x8 (.bool true) x12.1) fun x13 =>
  K (x13) x12.2
theorem r59_1  : kCode env 59 false inv k (cp c59 12) (act 55 [(0,x0)]) h K =
  G59_1 inv x0 h fun y13 h=>K .normal (act 55 [(0,x0),(13,y13)]) h:=kq_reg
theorem b59_rlr  : kCode env 59 false inv k (cp c59 13) (act 55 [(0,x0),(13,x13)]) h K = brV x13 (kCode env 59 false inv k (cp c59 26) (act 55 [(0,x0),(13,x13)]) h K) (kCode env 59 false inv k (cp c59 27) (act 55 [(0,x0),(13,x13)]) h K):=kq_cond
theorem r59_2  : kCode env 59 false inv k (cp c59 52) (act 55 [(0,x0),(13,x13)]) h K =
  K .normal (act 55 [(2,(.int .i64 170))]) h:=kq_reg
theorem res59_0 : resOfFn env.P 59 .ret (act 55 [(2,x2)]) h = some (x2,h):=kq_res
theorem r59_3  : kCode env 59 false inv k (cp c59 28) (act 55 [(0,x0),(13,x13)]) h K =
  K .normal (act 55 [(0,x0),(3,(.int .i64 0))]) h:=kq_reg
theorem r59_4  : kCode env 59 false inv k (cp c59 464) (act 55 [(0,x0),(3,x3)]) h K =
  bnd (pLen Try.prog #[9] x0 h) fun x16 =>
  bnd (pBin Try.prog .lss 3 (.tmp 14) (.tmp 16) x3 x16) fun x17 =>
  K .normal (act 55 [(0,x0),(3,x3),(17,x17)]) h:=kq_reg
theorem b59_rlllrlrr  : kCode env 59 false inv k (cp c59 465) (act 55 [(0,x0),(3,x3),(17,x17)]) h K = brV x17 (kCode env 59 false inv k (cp c59 930) (act 55 [(0,x0),(3,x3),(17,x17)]) h K) (kCode env 59 false inv k (cp c59 931) (act 55 [(0,x0),(3,x3),(17,x17)]) h K):=kq_cond
theorem r59_6  : kCode env 59 false inv k (cp c59 1864) (act 55 [(0,x0),(3,x3),(17,x17)]) h K =
  bnd (pIndex Try.prog 9 x0 x3) fun x22 =>
  K .normal (act 55 [(0,x0),(3,x3),(4,x22)]) h:=kq_reg
noncomputable abbrev G59_7 {β : Type} (inv : Inv) (x0 x3 x4 : Value) (h : AH) (K : Value→AH→Option β) : Option β :=
  bnd (pBin Try.prog .geq 5 (.tmp 23) (.const (.int .u8 48)) x4 (.int .u8 48)) fun x24 =>
  bnd (gd (some x24) true h (some (x4,h))) fun x26 =>
  bnd (gd (some x24) true x26.2 (lt (pBin Try.prog .leq 5 (.tmp 26) (.const (.int .u8 57)) x26.1 (.int .u8 57)) x26.2)) fun x27 =>
  bnd (pickV x24 x27.1 (.bool false)) fun x28 =>
  K (x28) x27.2
theorem r59_7  : kCode env 59 false inv k (cp c59 3730) (act 55 [(0,x0),(3,x3),(4,x4)]) h K =
  G59_7 inv x0 x3 x4 h fun y5 h=>K .normal (act 55 [(0,x0),(3,x3),(4,x4),(5,y5)]) h:=kq_reg
noncomputable abbrev G59_8 {β : Type} (inv : Inv) (x0 x3 x4 x5 : Value) (h : AH) (K : Value→AH→Option β) : Option β :=
  bnd (pBin Try.prog .geq 5 (.tmp 29) (.const (.int .u8 97)) x4 (.int .u8 97)) fun x30 =>
  bnd (gd (some x30) true h (some (x4,h))) fun x32 =>
  bnd (gd (some x30) true x32.2 (lt (pBin Try.prog .leq 5 (.tmp 32) (.const (.int .u8 122)) x32.1 (.int .u8 122)) x32.2)) fun x33 =>
  bnd (pickV x30 x33.1 (.bool false)) fun x34 =>
  bnd (gd (some x34) false x33.2 (some (x4,x33.2))) fun x36 =>
  bnd (gd (some x34) false x36.2 (lt (pBin Try.prog .geq 5 (.tmp 36) (.const (.int .u8 65)) x36.1 (.int .u8 65)) x36.2)) fun x37 =>
  bnd (gd (some x34) false x37.2 (some (x37.1,x37.2))) fun x38 =>
  bnd (gd (some x38.1) true x38.2 (some (x4,x38.2))) fun x39 =>
  bnd (gd (some x38.1) true x39.2 (lt (pBin Try.prog .leq 5 (.tmp 39) (.const (.int .u8 90)) x39.1 (.int .u8 90)) x39.2)) fun x40 =>
  bnd (gd (some x34) false x40.2 (lt (pickV x38.1 x40.1 (.bool false)) x40.2)) fun x41 =>
  bnd (pickV x34 (.bool true) x41.1) fun x42 =>
  bnd (gd (some x42) false x41.2 (some (x4,x41.2))) fun x44 =>
  bnd (gd (some x42) false x44.2 (lt (pBin Try.prog .eql 5 (.tmp 44) (.const (.int .u8 95)) x44.1 (.int .u8 95)) x44.2)) fun x45 =>
  bnd (pickV x42 (.bool true) x45.1) fun x46 =>
  bnd (gd (some x46) false x45.2 (some (x5,x45.2))) fun x48 =>
  bnd (gd (some x46) false x48.2 (some (x48.1,x48.2))) fun x49 =>
  bnd (gd (some x49.1) true x49.2 (some (x3,x49.2))) fun x50 =>
  bnd (gd (some x49.1) true x50.2 (lt (pBin Try.prog .gtr 3 (.tmp 50) (.const (.int .i64 0)) x50.1 (.int .i64 0)) x50.2)) fun x51 =>
  bnd (gd (some x46) false x51.2 (lt (pickV x49.1 x51.1 (.bool false)) x51.2)) fun x52 =>
  bnd (pickV x46 (.bool true) x52.1) fun x53 =>
  bnd (pUn Try.prog .not x53) fun x54 =>
  K (x54) x52.2
theorem r59_8  : kCode env 59 false inv k (cp c59 7462) (act 55 [(0,x0),(3,x3),(4,x4),(5,x5)]) h K =
  G59_8 inv x0 x3 x4 x5 h fun y54 h=>K .normal (act 55 [(0,x0),(3,x3),(54,y54)]) h:=kq_reg
theorem b59_rrrllrllrlrr  : kCode env 59 false inv k (cp c59 7463) (act 55 [(0,x0),(3,x3),(54,x54)]) h K = brV x54 (kCode env 59 false inv k (cp c59 14926) (act 55 [(0,x0),(3,x3),(54,x54)]) h K) (kCode env 59 false inv k (cp c59 14927) (act 55 [(0,x0),(3,x3),(54,x54)]) h K):=kq_cond
theorem r59_9  : kCode env 59 false inv k (cp c59 29852) (act 55 [(0,x0),(3,x3),(54,x54)]) h K =
  K .normal (act 55 [(2,(.int .i64 170))]) h:=kq_reg
theorem r59_5  : kCode env 59 false inv k (cp c59 467) (act 55 [(0,x0),(3,x3),(54,x54)]) h K =
  bnd (pBin Try.prog .add 3 (.tmp 18) (.const (.int .i64 1)) x3 (.int .i64 1)) fun x19 =>
  K .normal (act 55 [(0,x0),(3,x19)]) h:=kq_reg
noncomputable def F59_lrlrr {β : Type} (inv : Inv) (k : Nat) : Nat→Value→Value→AH→(Value→Value→Value→AH→Option β)→(Value→AH→Option β)→Option β
 | 0,_,_,_,_,_=>none
 | j + 1,x0,x3,h,ke0,kr =>
  bnd (pLen Try.prog #[9] x0 h) fun x16 =>
  bnd (pBin Try.prog .lss 3 (.tmp 14) (.tmp 16) x3 x16) fun x17 =>
  brV x17
  (bnd (pIndex Try.prog 9 x0 x3) fun x22 =>
  G59_7 inv x0 x3 x22 h fun y5 h =>
  G59_8 inv x0 x3 x22 y5 h fun y54 h_1 =>
  brV y54
  (kr (.int .i64 170) h_1)
  (bnd (pBin Try.prog .add 3 (.tmp 18) (.const (.int .i64 1)) x3 (.int .i64 1)) fun x19 =>
  F59_lrlrr inv k j x0 x19 h_1 ke0 kr))
  (ke0 x0 x3 x17 h)
theorem F59_lrlrr_j (j : Nat) : kLoop (kCode env 59 false inv k (cp c59 116)) j (act 55 [(0,x0),(3,x3)]) h K = F59_lrlrr inv k j x0 x3 h (fun y0 y3 y17 h=>K (.exit 0) (act 55 [(0,y0),(3,y3),(17,y17)]) h) (fun y2 h=>K .ret (act 55 [(2,y2)]) h):=by
   induction j generalizing x0 x3 h with
   | zero=>rfl
   | succ j ih =>
    unfold F59_lrlrr
    simp only [kLoop,kq_seq c59 116,kq_seq c59 232,r59_4,b59_rlllrlrr,kq_skip c59 930,kq_seq c59 233,kq_block c59 466 1,kq_seq c59 932,r59_6,kq_seq c59 1865,r59_7,kq_seq c59 3731,r59_8,b59_rrrllrllrlrr,kq_seq c59 14926,r59_9,kq_ret c59 29853,kq_skip c59 14927,r59_5,kq_exit c59 931 0,ih,reduceIte,reduceCtorEq,XE.exit.injEq,Nat.reduceEqDiff,Nat.reduceMul,Nat.reduceAdd] <;> kernel_rfl
theorem F59_lrlrr_eq  : kCode env 59 false inv k (cp c59 58) (act 55 [(0,x0),(3,x3)]) h K = F59_lrlrr inv k k x0 x3 h (fun y0 y3 y17 h=>K (.exit 0) (act 55 [(0,y0),(3,y3),(17,y17)]) h) (fun y2 h=>K .ret (act 55 [(2,y2)]) h):=kq_loop (F59_lrlrr_j k)
theorem r59_10  : kCode env 59 false inv k (cp c59 30) (act 55 [(0,x0),(3,x3),(17,x17)]) h K =
  K .normal (act 55 [(2,(.int .i64 0))]) h:=kq_reg
/-- shadowbook/shadowbookref17.Name -/
noncomputable def F59 (inv : Inv) (k : Nat) (x0 : Value) (h : AH) : Option (Value × AH) :=
  G59_1 inv x0 h fun y13 h =>
  brV y13
  (some ((.int .i64 170),h))
  (F59_lrlrr inv k k x0 (.int .i64 0) h
  (fun y0 y3 y17 h_2 =>
  some ((.int .i64 0),h_2))
  (fun y2 h_3 =>
  some (y2,h_3)))
theorem F59_eq : eFun env k inv 59 #[x0] h = F59 inv k x0 h:=by
   refine (kq_fun (a:=act 55 [(0,x0)]) (c:=cp c59 1)).trans ?_
   unfold F59
   simp only [kq_seq c59 1,r59_0,kq_seq c59 3,kq_seq c59 6,r59_1,b59_rlr,kq_seq c59 26,r59_2,kq_ret c59 53,res59_0,kq_skip c59 27,kq_seq c59 7,kq_seq c59 14,r59_3,kq_block c59 29 0,F59_lrlrr_eq,kq_seq c59 15,r59_10,kq_ret c59 31,reduceIte,reduceCtorEq,XE.exit.injEq,Nat.reduceEqDiff,Nat.reduceMul,Nat.reduceAdd] <;> kernel_rfl
theorem F59_call : eInv env (k + 1) (.func 59) #[] #[x0] h = F59 (eInv env k) k x0 h:=kq_inv F59_eq
noncomputable def c60 : Code:=codeOf Try.prog 60
theorem r60_0  : kCode env 60 false inv k (cp c60 2) (act 45 [(0,x0)]) h K =
  K .normal (act 45 [(0,x0)]) h:=kq_reg
noncomputable abbrev G60_1 {β : Type} (inv : Inv) (x0 : Value) (h : AH) (K : Value→AH→Option β) : Option β :=
  bnd (pLen Try.prog #[9] x0 h) fun x6 =>
  bnd (pBin Try.prog .lss 3 (.tmp 6) (.const (.int .i64 1)) x6 (.int .i64 1)) fun x7 =>
  bnd (gd (some x7) false h (some (x0,h))) fun x9 =>
  bnd (gd (some x7) false x9.2 (lt (pLen Try.prog #[9] x9.1 x9.2) x9.2)) fun x10 =>
  bnd (gd (some x7) false x10.2 (lt (pBin Try.prog .gtr 3 (.tmp 10) (.const (.int .i64 32)) x10.1 (.int .i64 32)) x10.2)) fun x11 =>
  bnd (pickV x7 (.bool true) x11.1) fun x12 =>
  K (x12) x11.2
theorem r60_1  : kCode env 60 false inv k (cp c60 24) (act 45 [(0,x0)]) h K =
  G60_1 inv x0 h fun y12 h=>K .normal (act 45 [(0,x0),(12,y12)]) h:=kq_reg
theorem b60_rllr  : kCode env 60 false inv k (cp c60 25) (act 45 [(0,x0),(12,x12)]) h K = brV x12 (kCode env 60 false inv k (cp c60 50) (act 45 [(0,x0),(12,x12)]) h K) (kCode env 60 false inv k (cp c60 51) (act 45 [(0,x0),(12,x12)]) h K):=kq_cond
theorem r60_2  : kCode env 60 false inv k (cp c60 100) (act 45 [(0,x0),(12,x12)]) h K =
  K .normal (act 45 [(2,(.int .i64 170))]) h:=kq_reg
theorem res60_0 : resOfFn env.P 60 .ret (act 45 [(2,x2)]) h = some (x2,h):=kq_res
theorem r60_3  : kCode env 60 false inv k (cp c60 108) (act 45 [(0,x0),(12,x12)]) h K =
  bnd (pRange Try.prog 9 x0 h) fun x14 =>
  K .normal (act 45 [(14,x14.1)]) x14.2:=kq_reg
theorem r60_4  : kCode env 60 false inv k (cp c60 872) (act 45 [(3,x3),(4,x4),(14,x14),(19,x19),(34,x34)]) h K =
  bnd (pNext x14 true h) fun x15 =>
  bnd (pExtract x15.1 0) fun x16 =>
  K .normal (act 45 [(14,x14),(15,x15.1),(16,x16)]) x15.2:=kq_reg
theorem b60_lrllrlrrlr  : kCode env 60 false inv k (cp c60 1746) (act 45 [(14,x14),(15,x15),(16,x16)]) h K = brV x16 (kCode env 60 false inv k (cp c60 3492) (act 45 [(14,x14),(15,x15),(16,x16)]) h K) (kCode env 60 false inv k (cp c60 3493) (act 45 [(14,x14),(15,x15),(16,x16)]) h K):=kq_cond
theorem r60_5  : kCode env 60 false inv k (cp c60 6988) (act 45 [(14,x14),(15,x15),(16,x16)]) h K =
  bnd (pExtract x15 1) fun x17 =>
  bnd (pExtract x15 2) fun x18 =>
  K .normal (act 45 [(3,x17),(4,x18),(14,x14)]) h:=kq_reg
noncomputable abbrev G60_6 {β : Type} (inv : Inv) (x3 x4 x14 : Value) (h : AH) (K : Value→AH→Option β) : Option β :=
  bnd (pBin Try.prog .geq 21 (.tmp 20) (.const (.int .i32 97)) x4 (.int .i32 97)) fun x21 =>
  bnd (gd (some x21) true h (some (x4,h))) fun x23 =>
  bnd (gd (some x21) true x23.2 (lt (pBin Try.prog .leq 21 (.tmp 23) (.const (.int .i32 122)) x23.1 (.int .i32 122)) x23.2)) fun x24 =>
  bnd (pickV x21 x24.1 (.bool false)) fun x25 =>
  K (x25) x24.2
theorem r60_6  : kCode env 60 false inv k (cp c60 111824) (act 45 [(3,x3),(4,x4),(14,x14)]) h K =
  G60_6 inv x3 x4 x14 h fun y19 h=>K .normal (act 45 [(3,x3),(4,x4),(14,x14),(19,y19)]) h:=kq_reg
theorem b60_rlllrlrrllrlrrlr  : kCode env 60 false inv k (cp c60 111825) (act 45 [(3,x3),(4,x4),(14,x14),(19,x19)]) h K = brV x19 (kCode env 60 false inv k (cp c60 223650) (act 45 [(3,x3),(4,x4),(14,x14),(19,x19)]) h K) (kCode env 60 false inv k (cp c60 223651) (act 45 [(3,x3),(4,x4),(14,x14),(19,x19)]) h K):=kq_cond
noncomputable abbrev G60_7 {β : Type} (inv : Inv) (x3 x4 x14 : Value) (h : AH) (K : Value→AH→Option β) : Option β :=
  bnd (pBin Try.prog .geq 21 (.tmp 26) (.const (.int .i32 65)) x4 (.int .i32 65)) fun x27 =>
  bnd (gd (some x27) true h (some (x4,h))) fun x29 =>
  bnd (gd (some x27) true x29.2 (lt (pBin Try.prog .leq 21 (.tmp 29) (.const (.int .i32 90)) x29.1 (.int .i32 90)) x29.2)) fun x30 =>
  bnd (pickV x27 x30.1 (.bool false)) fun x31 =>
  K (x31) x30.2
theorem r60_7  : kCode env 60 false inv k (cp c60 447302) (act 45 [(3,x3),(4,x4),(14,x14),(19,x19)]) h K =
  G60_7 inv x3 x4 x14 h fun y19 h=>K .normal (act 45 [(3,x3),(4,x4),(14,x14),(19,y19)]) h:=kq_reg
theorem b60_rrrlllrlrrllrlrrlr  : kCode env 60 false inv k (cp c60 447303) (act 45 [(3,x3),(4,x4),(14,x14),(19,x19)]) h K = brV x19 (kCode env 60 false inv k (cp c60 894606) (act 45 [(3,x3),(4,x4),(14,x14),(19,x19)]) h K) (kCode env 60 false inv k (cp c60 894607) (act 45 [(3,x3),(4,x4),(14,x14),(19,x19)]) h K):=kq_cond
theorem r60_8  : kCode env 60 false inv k (cp c60 894607) (act 45 [(3,x3),(4,x4),(14,x14),(19,x19)]) h K =
  bnd (pBin Try.prog .eql 21 (.tmp 32) (.const (.int .i32 95)) x4 (.int .i32 95)) fun x33 =>
  K .normal (act 45 [(3,x3),(4,x4),(14,x14),(19,x33)]) h:=kq_reg
noncomputable def F60_rlllrlrrllrlrrlr {β : Type} (inv : Inv) (k : Nat) (x3 x4 x14 x19 : Value) (h : AH) (kn : (Value→Value→Value→Value→AH→Option β)) : Option β :=
  brV x19
  (kn x3 x4 x14 x19 h)
  (G60_7 inv x3 x4 x14 h fun y19 h =>
  brV y19
  (kn x3 x4 x14 y19 h)
  (bnd (pBin Try.prog .eql 21 (.tmp 32) (.const (.int .i32 95)) x4 (.int .i32 95)) fun x33 =>
  kn x3 x4 x14 x33 h))
theorem F60_rlllrlrrllrlrrlr_eq  : kCode env 60 false inv k (cp c60 111825) (act 45 [(3,x3),(4,x4),(14,x14),(19,x19)]) h K = F60_rlllrlrrllrlrrlr inv k x3 x4 x14 x19 h (fun y3 y4 y14 y19 h=>K .normal (act 45 [(3,y3),(4,y4),(14,y14),(19,y19)]) h):=by
   unfold F60_rlllrlrrllrlrrlr
   simp only [b60_rlllrlrrllrlrrlr,kq_skip c60 223650,kq_seq c60 223651,r60_7,b60_rrrlllrlrrllrlrrlr,kq_skip c60 894606,r60_8,reduceIte,reduceCtorEq,XE.exit.injEq,Nat.reduceEqDiff,Nat.reduceMul,Nat.reduceAdd] <;> kernel_rfl
theorem b60_rllrlrrllrlrrlr  : kCode env 60 false inv k (cp c60 55913) (act 45 [(3,x3),(4,x4),(14,x14),(19,x19)]) h K = brV x19 (kCode env 60 false inv k (cp c60 111826) (act 45 [(3,x3),(4,x4),(14,x14),(19,x19)]) h K) (kCode env 60 false inv k (cp c60 111827) (act 45 [(3,x3),(4,x4),(14,x14),(19,x19)]) h K):=kq_cond
noncomputable abbrev G60_9 {β : Type} (inv : Inv) (x3 x4 x14 : Value) (h : AH) (K : Value→AH→Option β) : Option β :=
  bnd (pBin Try.prog .gtr 3 (.tmp 35) (.const (.int .i64 0)) x3 (.int .i64 0)) fun x36 =>
  bnd (gd (some x36) true h (some (x4,h))) fun x38 =>
  bnd (gd (some x36) true x38.2 (lt (pBin Try.prog .geq 21 (.tmp 38) (.const (.int .i32 48)) x38.1 (.int .i32 48)) x38.2)) fun x39 =>
  bnd (pickV x36 x39.1 (.bool false)) fun x40 =>
  bnd (gd (some x40) true x39.2 (some (x4,x39.2))) fun x42 =>
  bnd (gd (some x40) true x42.2 (lt (pBin Try.prog .leq 21 (.tmp 42) (.const (.int .i32 57)) x42.1 (.int .i32 57)) x42.2)) fun x43 =>
  bnd (pickV x40 x43.1 (.bool false)) fun x44 =>
  K (x44) x43.2
theorem r60_9  : kCode env 60 false inv k (cp c60 223654) (act 45 [(3,x3),(4,x4),(14,x14),(19,x19)]) h K =
  G60_9 inv x3 x4 x14 h fun y34 h=>K .normal (act 45 [(14,x14),(34,y34)]) h:=kq_reg
theorem b60_rrrllrlrrllrlrrlr  : kCode env 60 false inv k (cp c60 223655) (act 45 [(14,x14),(34,x34)]) h K = brV x34 (kCode env 60 false inv k (cp c60 447310) (act 45 [(14,x14),(34,x34)]) h K) (kCode env 60 false inv k (cp c60 447311) (act 45 [(14,x14),(34,x34)]) h K):=kq_cond
theorem r60_10  : kCode env 60 false inv k (cp c60 27958) (act 45 [(14,x14),(34,x34)]) h K =
  K .normal (act 45 [(2,(.int .i64 170))]) h:=kq_reg
noncomputable def F60_lrlrrlr {β : Type} (inv : Inv) (k : Nat) : Nat→Value→Value→Value→Value→Value→AH→(Value→Value→Value→AH→Option β)→(Value→AH→Option β)→Option β
 | 0,_,_,_,_,_,_,_,_=>none
 | j + 1,x3,x4,x14,x19,x34,h,ke0,kr =>
  bnd (pNext x14 true h) fun x15 =>
  bnd (pExtract x15.1 0) fun x16 =>
  brV x16
  (bnd (pExtract x15.1 1) fun x17 =>
  bnd (pExtract x15.1 2) fun x18 =>
  G60_6 inv x17 x18 x14 x15.2 fun y19 h =>
  F60_rlllrlrrllrlrrlr inv k x17 x18 x14 y19 h
  (fun y3 y4 y14 y19_1 h_2 =>
  brV y19_1
  (F60_lrlrrlr inv k j y3 y4 y14 y19_1 unk h_2 ke0 kr)
  (G60_9 inv y3 y4 y14 h_2 fun y34 h_3 =>
  brV y34
  (F60_lrlrrlr inv k j unk unk y14 unk y34 h_3 ke0 kr)
  (kr (.int .i64 170) h_3))))
  (ke0 x14 x15.1 x16 x15.2)
theorem F60_lrlrrlr_j (j : Nat) : kLoop (kCode env 60 false inv k (cp c60 436)) j (act 45 [(3,x3),(4,x4),(14,x14),(19,x19),(34,x34)]) h K = F60_lrlrrlr inv k j x3 x4 x14 x19 x34 h (fun y14 y15 y16 h=>K (.exit 0) (act 45 [(14,y14),(15,y15),(16,y16)]) h) (fun y2 h=>K .ret (act 45 [(2,y2)]) h):=by
   induction j generalizing x3 x4 x14 x19 x34 h with
   | zero=>rfl
   | succ j ih =>
    have ih_34 : ∀ (x3 x4 x14 x19 : Value) (h : AH),kLoop (kCode env 60 false inv k (cp c60 436)) j (act 45 [(3,x3),(4,x4),(14,x14),(19,x19)]) h K = F60_lrlrrlr inv k j x3 x4 x14 x19 unk h (fun y14 y15 y16 h=>K (.exit 0) (act 45 [(14,y14),(15,y15),(16,y16)]) h) (fun y2 h=>K .ret (act 45 [(2,y2)]) h):=fun x3 x4 x14 x19 h=>by
     rw [show act 45 [(3,x3),(4,x4),(14,x14),(19,x19)] = act 45 [(3,x3),(4,x4),(14,x14),(19,x19),(34,unk)] from by kernel_rfl]; exact ih ..
    have ih_3_4_19 : ∀ (x14 x34 : Value) (h : AH),kLoop (kCode env 60 false inv k (cp c60 436)) j (act 45 [(14,x14),(34,x34)]) h K = F60_lrlrrlr inv k j unk unk x14 unk x34 h (fun y14 y15 y16 h=>K (.exit 0) (act 45 [(14,y14),(15,y15),(16,y16)]) h) (fun y2 h=>K .ret (act 45 [(2,y2)]) h):=fun x14 x34 h=>by
     rw [show act 45 [(14,x14),(34,x34)] = act 45 [(3,unk),(4,unk),(14,x14),(19,unk),(34,x34)] from by kernel_rfl]; exact ih ..
    unfold F60_lrlrrlr
    simp only [kLoop,kq_seq c60 436,r60_4,kq_seq c60 873,b60_lrllrlrrlr,kq_skip c60 3492,kq_block c60 1747 1,kq_seq c60 3494,r60_5,kq_seq c60 6989,kq_block c60 13978 2,kq_seq c60 27956,kq_seq c60 55912,r60_6,F60_rlllrlrrllrlrrlr_eq,b60_rllrlrrllrlrrlr,kq_exit c60 111826 1,kq_seq c60 111827,r60_9,b60_rrrllrlrrllrlrrlr,kq_exit c60 447310 1,kq_skip c60 447311,kq_seq c60 13979,r60_10,kq_ret c60 27959,kq_exit c60 3493 0,ih,ih_34,ih_3_4_19,reduceIte,reduceCtorEq,XE.exit.injEq,Nat.reduceEqDiff,Nat.reduceMul,Nat.reduceAdd] <;> kernel_rfl
theorem F60_lrlrrlr_eq  : kCode env 60 false inv k (cp c60 218) (act 45 [(3,x3),(4,x4),(14,x14),(19,x19),(34,x34)]) h K = F60_lrlrrlr inv k k x3 x4 x14 x19 x34 h (fun y14 y15 y16 h=>K (.exit 0) (act 45 [(14,y14),(15,y15),(16,y16)]) h) (fun y2 h=>K .ret (act 45 [(2,y2)]) h):=kq_loop (F60_lrlrrlr_j k)
theorem F60_lrlrrlr_eq_3_4_19_34  : kCode env 60 false inv k (cp c60 218) (act 45 [(14,x14)]) h K = F60_lrlrrlr inv k k unk unk x14 unk unk h (fun y14 y15 y16 h=>K (.exit 0) (act 45 [(14,y14),(15,y15),(16,y16)]) h) (fun y2 h=>K .ret (act 45 [(2,y2)]) h):=by
   rw [show act 45 [(14,x14)] = act 45 [(3,unk),(4,unk),(14,x14),(19,unk),(34,unk)] from by kernel_rfl]; exact F60_lrlrrlr_eq ..
theorem r60_11  : kCode env 60 false inv k (cp c60 110) (act 45 [(14,x14),(15,x15),(16,x16)]) h K =
  K .normal (act 45 [(2,(.int .i64 0))]) h:=kq_reg
/-- shadowbook/schema.Name -/
noncomputable def F60 (inv : Inv) (k : Nat) (x0 : Value) (h : AH) : Option (Value × AH) :=
  G60_1 inv x0 h fun y12 h =>
  brV y12
  (some ((.int .i64 170),h))
  (bnd (pRange Try.prog 9 x0 h) fun x14 =>
  F60_lrlrrlr inv k k unk unk x14.1 unk unk x14.2
  (fun y14 y15 y16 h_4 =>
  some ((.int .i64 0),h_4))
  (fun y2 h_5 =>
  some (y2,h_5)))
theorem F60_eq : eFun env k inv 60 #[x0] h = F60 inv k x0 h:=by
   refine (kq_fun (a:=act 45 [(0,x0)]) (c:=cp c60 1)).trans ?_
   unfold F60
   simp only [kq_seq c60 1,r60_0,kq_scope c60 3,kq_seq c60 6,kq_seq c60 12,r60_1,b60_rllr,kq_seq c60 50,r60_2,kq_ret c60 101,res60_0,kq_skip c60 51,kq_seq c60 13,kq_label c60 26,kq_seq c60 27,kq_seq c60 54,r60_3,kq_block c60 109 0,F60_lrlrrlr_eq_3_4_19_34,kq_seq c60 55,r60_11,kq_ret c60 111,reduceIte,reduceCtorEq,XE.exit.injEq,Nat.reduceEqDiff,Nat.reduceMul,Nat.reduceAdd] <;> kernel_rfl
theorem F60_call : eInv env (k + 1) (.func 60) #[] #[x0] h = F60 (eInv env k) k x0 h:=kq_inv F60_eq
noncomputable def c61 : Code:=codeOf Try.prog 61
theorem r61_0  : kCode env 61 false inv k (cp c61 2) (act 9 [(0,x0),(1,x1)]) h K =
  K .normal (act 9 [(0,x0),(1,x1)]) h:=kq_reg
theorem r61_1  : kCode env 61 false inv k (cp c61 6) (act 9 [(0,x0),(1,x1)]) h K =
  bnd (inv (.func 72) #[] #[x0,x1] h) fun x7 =>
  bnd (pBin Try.prog .geq 3 (.tmp 7) (.const (.int .i64 0)) x7.1 (.int .i64 0)) fun x8 =>
  K .normal (act 9 [(4,x8)]) x7.2:=kq_reg
theorem res61_0 : resOfFn env.P 61 .ret (act 9 [(4,x4)]) h = some (x4,h):=kq_res
/-- slices.ContainsFunc[[]shadowbook/api.Col,shadowbook/api.Col] -/
noncomputable def F61 (inv : Inv) (k : Nat) (x0 x1 : Value) (h : AH) : Option (Value × AH) :=
  bnd (inv (.func 72) #[] #[x0,x1] h) fun x7 =>
  bnd (pBin Try.prog .geq 3 (.tmp 7) (.const (.int .i64 0)) x7.1 (.int .i64 0)) fun x8 =>
  some (x8,x7.2)
theorem F61_eq : eFun env k inv 61 #[x0,x1] h = F61 inv k x0 x1 h:=by
   refine (kq_fun (a:=act 9 [(0,x0),(1,x1)]) (c:=cp c61 1)).trans ?_
   unfold F61
   simp only [kq_seq c61 1,r61_0,kq_seq c61 3,r61_1,kq_ret c61 7,res61_0,reduceIte,reduceCtorEq,XE.exit.injEq,Nat.reduceEqDiff,Nat.reduceMul,Nat.reduceAdd] <;> kernel_rfl
theorem F61_call : eInv env (k + 1) (.func 61) #[] #[x0,x1] h = F61 (eInv env k) k x0 x1 h:=kq_inv F61_eq
noncomputable def c62 : Code:=codeOf Try.prog 62
theorem r62_0  : kCode env 62 false inv k (cp c62 2) (act 9 [(0,x0),(1,x1)]) h K =
  bnd (pBox Try.prog 42 x0 h) fun x2 =>
  K .normal (act 9 [(1,x1),(2,x2.1)]) x2.2:=kq_reg
theorem r62_1  : kCode env 62 false inv k (cp c62 6) (act 9 [(1,x1),(2,x2)]) h K =
  bnd (pFieldAddr Try.prog 42 x2 0) fun x4 =>
  bnd (pLoad Try.prog 9 x4 h) fun x5 =>
  bnd (pFieldAddr Try.prog 42 x1 0) fun x6 =>
  bnd (pLoad Try.prog 9 x6 h) fun x7 =>
  bnd (pBin Try.prog .eql 9 (.tmp 5) (.tmp 7) x5 x7) fun x8 =>
  K .normal (act 9 [(3,x8)]) h:=kq_reg
theorem res62_0 : resOfFn env.P 62 .ret (act 9 [(3,x3)]) h = some (x3,h):=kq_res
/-- shadowbook/schema.Check$1 -/
noncomputable def F62 (inv : Inv) (k : Nat) (x0 x1 : Value) (h : AH) : Option (Value × AH) :=
  bnd (pBox Try.prog 42 x0 h) fun x2 =>
  bnd (pFieldAddr Try.prog 42 x2.1 0) fun x4 =>
  bnd (pLoad Try.prog 9 x4 x2.2) fun x5 =>
  bnd (pFieldAddr Try.prog 42 x1 0) fun x6 =>
  bnd (pLoad Try.prog 9 x6 x2.2) fun x7 =>
  bnd (pBin Try.prog .eql 9 (.tmp 5) (.tmp 7) x5 x7) fun x8 =>
  some (x8,x2.2)
theorem F62_eq : eFun env k inv 62 #[x0,x1] h = F62 inv k x0 x1 h:=by
   refine (kq_fun (a:=act 9 [(0,x0),(1,x1)]) (c:=cp c62 1)).trans ?_
   unfold F62
   simp only [kq_seq c62 1,r62_0,kq_seq c62 3,r62_1,kq_ret c62 7,res62_0,reduceIte,reduceCtorEq,XE.exit.injEq,Nat.reduceEqDiff,Nat.reduceMul,Nat.reduceAdd] <;> kernel_rfl
theorem F62_call : eInv env (k + 1) (.func 62) #[] #[x0,x1] h = F62 (eInv env k) k x0 x1 h:=kq_inv F62_eq
noncomputable def c63 : Code:=codeOf Try.prog 63
theorem r63_0  : kCode env 63 false inv k (cp c63 2) (act 19 [(0,x0),(1,x1)]) h K =
  K .normal (act 19 [(0,x0),(1,x1)]) h:=kq_reg
theorem r63_1  : kCode env 63 false inv k (cp c63 12) (act 19 [(0,x0),(1,x1)]) h K =
  bnd (pLen Try.prog #[24] x0 h) fun x7 =>
  K .normal (act 19 [(0,x0),(1,x1),(7,x7),(8,(.int .i64 0))]) h:=kq_reg
theorem r63_2  : kCode env 63 false inv k (cp c63 104) (act 19 [(0,x0),(1,x1),(7,x7),(8,x8)]) h K =
  bnd (pBin Try.prog .lss 3 (.tmp 8) (.tmp 7) x8 x7) fun x9 =>
  K .normal (act 19 [(0,x0),(1,x1),(7,x7),(8,x8),(9,x9)]) h:=kq_reg
theorem b63_lrllrlr  : kCode env 63 false inv k (cp c63 210) (act 19 [(0,x0),(1,x1),(7,x7),(8,x8),(9,x9)]) h K = brV x9 (kCode env 63 false inv k (cp c63 420) (act 19 [(0,x0),(1,x1),(7,x7),(8,x8),(9,x9)]) h K) (kCode env 63 false inv k (cp c63 421) (act 19 [(0,x0),(1,x1),(7,x7),(8,x8),(9,x9)]) h K):=kq_cond
theorem r63_3  : kCode env 63 false inv k (cp c63 1688) (act 19 [(0,x0),(1,x1),(7,x7),(8,x8),(9,x9)]) h K =
  K .normal (act 19 [(0,x0),(1,x1),(5,x8),(7,x7),(8,x8)]) h:=kq_reg
theorem r63_4  : kCode env 63 false inv k (cp c63 3378) (act 19 [(0,x0),(1,x1),(5,x5),(7,x7),(8,x8)]) h K =
  bnd (pIndexAddr Try.prog 24 x0 x5) fun x14 =>
  bnd (pLoad Try.prog 3 x14 h) fun x15 =>
  bnd (pBin Try.prog .eql 3 (.tmp 11) (.tmp 15) x1 x15) fun x16 =>
  K .normal (act 19 [(0,x0),(1,x1),(5,x5),(7,x7),(8,x8),(16,x16)]) h:=kq_reg
theorem b63_rrllrrllrlr  : kCode env 63 false inv k (cp c63 3379) (act 19 [(0,x0),(1,x1),(5,x5),(7,x7),(8,x8),(16,x16)]) h K = brV x16 (kCode env 63 false inv k (cp c63 6758) (act 19 [(0,x0),(1,x1),(5,x5),(7,x7),(8,x8),(16,x16)]) h K) (kCode env 63 false inv k (cp c63 6759) (act 19 [(0,x0),(1,x1),(5,x5),(7,x7),(8,x8),(16,x16)]) h K):=kq_cond
theorem r63_5  : kCode env 63 false inv k (cp c63 13516) (act 19 [(0,x0),(1,x1),(5,x5),(7,x7),(8,x8),(16,x16)]) h K =
  K .normal (act 19 [(4,x5)]) h:=kq_reg
theorem r63_6  : kCode env 63 false inv k (cp c63 423) (act 19 [(0,x0),(1,x1),(5,x5),(7,x7),(8,x8),(16,x16)]) h K =
  bnd (pBin Try.prog .add 3 (.tmp 8) (.const (.int .i64 1)) x8 (.int .i64 1)) fun x18 =>
  K .normal (act 19 [(0,x0),(1,x1),(7,x7),(8,x18)]) h:=kq_reg
noncomputable def F63_lrlr {β : Type} (inv : Inv) (k : Nat) : Nat→Value→Value→Value→Value→AH→(Value→Value→Value→Value→Value→AH→Option β)→(Value→AH→Option β)→Option β
 | 0,_,_,_,_,_,_,_=>none
 | j + 1,x0,x1,x7,x8,h,ke0,kr =>
  bnd (pBin Try.prog .lss 3 (.tmp 8) (.tmp 7) x8 x7) fun x9 =>
  brV x9
  (bnd (pIndexAddr Try.prog 24 x0 x8) fun x14 =>
  bnd (pLoad Try.prog 3 x14 h) fun x15 =>
  bnd (pBin Try.prog .eql 3 (.tmp 11) (.tmp 15) x1 x15) fun x16 =>
  brV x16
  (kr x8 h)
  (bnd (pBin Try.prog .add 3 (.tmp 8) (.const (.int .i64 1)) x8 (.int .i64 1)) fun x18 =>
  F63_lrlr inv k j x0 x1 x7 x18 h ke0 kr))
  (ke0 x0 x1 x7 x8 x9 h)
theorem F63_lrlr_j (j : Nat) : kLoop (kCode env 63 false inv k (cp c63 52)) j (act 19 [(0,x0),(1,x1),(7,x7),(8,x8)]) h K = F63_lrlr inv k j x0 x1 x7 x8 h (fun y0 y1 y7 y8 y9 h=>K (.exit 0) (act 19 [(0,y0),(1,y1),(7,y7),(8,y8),(9,y9)]) h) (fun y4 h=>K .ret (act 19 [(4,y4)]) h):=by
   induction j generalizing x0 x1 x7 x8 h with
   | zero=>rfl
   | succ j ih =>
    unfold F63_lrlr
    simp only [kLoop,kq_seq c63 52,r63_2,kq_seq c63 105,b63_lrllrlr,kq_skip c63 420,kq_seq c63 211,kq_block c63 422 1,kq_seq c63 844,r63_3,kq_seq c63 1689,r63_4,b63_rrllrrllrlr,kq_seq c63 6758,r63_5,kq_ret c63 13517,kq_skip c63 6759,r63_6,kq_exit c63 421 0,ih,reduceIte,reduceCtorEq,XE.exit.injEq,Nat.reduceEqDiff,Nat.reduceMul,Nat.reduceAdd] <;> kernel_rfl
theorem F63_lrlr_eq  : kCode env 63 false inv k (cp c63 26) (act 19 [(0,x0),(1,x1),(7,x7),(8,x8)]) h K = F63_lrlr inv k k x0 x1 x7 x8 h (fun y0 y1 y7 y8 y9 h=>K (.exit 0) (act 19 [(0,y0),(1,y1),(7,y7),(8,y8),(9,y9)]) h) (fun y4 h=>K .ret (act 19 [(4,y4)]) h):=kq_loop (F63_lrlr_j k)
theorem r63_7  : kCode env 63 false inv k (cp c63 14) (act 19 [(0,x0),(1,x1),(7,x7),(8,x8),(9,x9)]) h K =
  K .normal (act 19 [(4,(.int .i64 (-1)))]) h:=kq_reg
theorem res63_0 : resOfFn env.P 63 .ret (act 19 [(4,x4)]) h = some (x4,h):=kq_res
/-- slices.Index[[]int,int] -/
noncomputable def F63 (inv : Inv) (k : Nat) (x0 x1 : Value) (h : AH) : Option (Value × AH) :=
  bnd (pLen Try.prog #[24] x0 h) fun x7 =>
  F63_lrlr inv k k x0 x1 x7 (.int .i64 0) h
  (fun y0 y1 y7 y8 y9 h =>
  some ((.int .i64 (-1)),h))
  (fun y4 h_1 =>
  some (y4,h_1))
theorem F63_eq : eFun env k inv 63 #[x0,x1] h = F63 inv k x0 x1 h:=by
   refine (kq_fun (a:=act 19 [(0,x0),(1,x1)]) (c:=cp c63 1)).trans ?_
   unfold F63
   simp only [kq_seq c63 1,r63_0,kq_seq c63 3,kq_seq c63 6,r63_1,kq_block c63 13 0,F63_lrlr_eq,kq_seq c63 7,r63_7,kq_ret c63 15,res63_0,reduceIte,reduceCtorEq,XE.exit.injEq,Nat.reduceEqDiff,Nat.reduceMul,Nat.reduceAdd] <;> kernel_rfl
theorem F63_call : eInv env (k + 1) (.func 63) #[] #[x0,x1] h = F63 (eInv env k) k x0 x1 h:=kq_inv F63_eq
noncomputable def c64 : Code:=codeOf Try.prog 64
theorem r64_0  : kCode env 64 false inv k (cp c64 2) (act 19 [(0,x0),(1,x1)]) h K =
  K .normal (act 19 [(0,x0),(1,x1)]) h:=kq_reg
theorem r64_1  : kCode env 64 false inv k (cp c64 12) (act 19 [(0,x0),(1,x1)]) h K =
  bnd (pLen Try.prog #[29] x0 h) fun x7 =>
  K .normal (act 19 [(0,x0),(1,x1),(7,x7),(8,(.int .i64 0))]) h:=kq_reg
theorem r64_2  : kCode env 64 false inv k (cp c64 104) (act 19 [(0,x0),(1,x1),(7,x7),(8,x8)]) h K =
  bnd (pBin Try.prog .lss 3 (.tmp 8) (.tmp 7) x8 x7) fun x9 =>
  K .normal (act 19 [(0,x0),(1,x1),(7,x7),(8,x8),(9,x9)]) h:=kq_reg
theorem b64_lrllrlr  : kCode env 64 false inv k (cp c64 210) (act 19 [(0,x0),(1,x1),(7,x7),(8,x8),(9,x9)]) h K = brV x9 (kCode env 64 false inv k (cp c64 420) (act 19 [(0,x0),(1,x1),(7,x7),(8,x8),(9,x9)]) h K) (kCode env 64 false inv k (cp c64 421) (act 19 [(0,x0),(1,x1),(7,x7),(8,x8),(9,x9)]) h K):=kq_cond
theorem r64_3  : kCode env 64 false inv k (cp c64 1688) (act 19 [(0,x0),(1,x1),(7,x7),(8,x8),(9,x9)]) h K =
  K .normal (act 19 [(0,x0),(1,x1),(5,x8),(7,x7),(8,x8)]) h:=kq_reg
theorem r64_4  : kCode env 64 false inv k (cp c64 3378) (act 19 [(0,x0),(1,x1),(5,x5),(7,x7),(8,x8)]) h K =
  bnd (pIndexAddr Try.prog 29 x0 x5) fun x14 =>
  bnd (pLoad Try.prog 28 x14 h) fun x15 =>
  bnd (callV inv x1 #[x15] h) fun x16 =>
  K .normal (act 19 [(0,x0),(1,x1),(5,x5),(7,x7),(8,x8),(16,x16.1)]) x16.2:=kq_reg
theorem b64_rrllrrllrlr  : kCode env 64 false inv k (cp c64 3379) (act 19 [(0,x0),(1,x1),(5,x5),(7,x7),(8,x8),(16,x16)]) h K = brV x16 (kCode env 64 false inv k (cp c64 6758) (act 19 [(0,x0),(1,x1),(5,x5),(7,x7),(8,x8),(16,x16)]) h K) (kCode env 64 false inv k (cp c64 6759) (act 19 [(0,x0),(1,x1),(5,x5),(7,x7),(8,x8),(16,x16)]) h K):=kq_cond
theorem r64_5  : kCode env 64 false inv k (cp c64 13516) (act 19 [(0,x0),(1,x1),(5,x5),(7,x7),(8,x8),(16,x16)]) h K =
  K .normal (act 19 [(4,x5)]) h:=kq_reg
theorem r64_6  : kCode env 64 false inv k (cp c64 423) (act 19 [(0,x0),(1,x1),(5,x5),(7,x7),(8,x8),(16,x16)]) h K =
  bnd (pBin Try.prog .add 3 (.tmp 8) (.const (.int .i64 1)) x8 (.int .i64 1)) fun x18 =>
  K .normal (act 19 [(0,x0),(1,x1),(7,x7),(8,x18)]) h:=kq_reg
noncomputable def F64_lrlr {β : Type} (inv : Inv) (k : Nat) : Nat→Value→Value→Value→Value→AH→(Value→Value→Value→Value→Value→AH→Option β)→(Value→AH→Option β)→Option β
 | 0,_,_,_,_,_,_,_=>none
 | j + 1,x0,x1,x7,x8,h,ke0,kr =>
  bnd (pBin Try.prog .lss 3 (.tmp 8) (.tmp 7) x8 x7) fun x9 =>
  brV x9
  (bnd (pIndexAddr Try.prog 29 x0 x8) fun x14 =>
  bnd (pLoad Try.prog 28 x14 h) fun x15 =>
  bnd (callV inv x1 #[x15] h) fun x16 =>
  brV x16.1
  (kr x8 x16.2)
  (bnd (pBin Try.prog .add 3 (.tmp 8) (.const (.int .i64 1)) x8 (.int .i64 1)) fun x18 =>
  F64_lrlr inv k j x0 x1 x7 x18 x16.2 ke0 kr))
  (ke0 x0 x1 x7 x8 x9 h)
theorem F64_lrlr_j (j : Nat) : kLoop (kCode env 64 false inv k (cp c64 52)) j (act 19 [(0,x0),(1,x1),(7,x7),(8,x8)]) h K = F64_lrlr inv k j x0 x1 x7 x8 h (fun y0 y1 y7 y8 y9 h=>K (.exit 0) (act 19 [(0,y0),(1,y1),(7,y7),(8,y8),(9,y9)]) h) (fun y4 h=>K .ret (act 19 [(4,y4)]) h):=by
   induction j generalizing x0 x1 x7 x8 h with
   | zero=>rfl
   | succ j ih =>
    unfold F64_lrlr
    simp only [kLoop,kq_seq c64 52,r64_2,kq_seq c64 105,b64_lrllrlr,kq_skip c64 420,kq_seq c64 211,kq_block c64 422 1,kq_seq c64 844,r64_3,kq_seq c64 1689,r64_4,b64_rrllrrllrlr,kq_seq c64 6758,r64_5,kq_ret c64 13517,kq_skip c64 6759,r64_6,kq_exit c64 421 0,ih,reduceIte,reduceCtorEq,XE.exit.injEq,Nat.reduceEqDiff,Nat.reduceMul,Nat.reduceAdd] <;> kernel_rfl
theorem F64_lrlr_eq  : kCode env 64 false inv k (cp c64 26) (act 19 [(0,x0),(1,x1),(7,x7),(8,x8)]) h K = F64_lrlr inv k k x0 x1 x7 x8 h (fun y0 y1 y7 y8 y9 h=>K (.exit 0) (act 19 [(0,y0),(1,y1),(7,y7),(8,y8),(9,y9)]) h) (fun y4 h=>K .ret (act 19 [(4,y4)]) h):=kq_loop (F64_lrlr_j k)
theorem r64_7  : kCode env 64 false inv k (cp c64 14) (act 19 [(0,x0),(1,x1),(7,x7),(8,x8),(9,x9)]) h K =
  K .normal (act 19 [(4,(.int .i64 (-1)))]) h:=kq_reg
theorem res64_0 : resOfFn env.P 64 .ret (act 19 [(4,x4)]) h = some (x4,h):=kq_res
/-- slices.IndexFunc[[]shadowbook/api.Agg,shadowbook/api.Agg] -/
noncomputable def F64 (inv : Inv) (k : Nat) (x0 x1 : Value) (h : AH) : Option (Value × AH) :=
  bnd (pLen Try.prog #[29] x0 h) fun x7 =>
  F64_lrlr inv k k x0 x1 x7 (.int .i64 0) h
  (fun y0 y1 y7 y8 y9 h =>
  some ((.int .i64 (-1)),h))
  (fun y4 h_1 =>
  some (y4,h_1))
theorem F64_eq : eFun env k inv 64 #[x0,x1] h = F64 inv k x0 x1 h:=by
   refine (kq_fun (a:=act 19 [(0,x0),(1,x1)]) (c:=cp c64 1)).trans ?_
   unfold F64
   simp only [kq_seq c64 1,r64_0,kq_seq c64 3,kq_seq c64 6,r64_1,kq_block c64 13 0,F64_lrlr_eq,kq_seq c64 7,r64_7,kq_ret c64 15,res64_0,reduceIte,reduceCtorEq,XE.exit.injEq,Nat.reduceEqDiff,Nat.reduceMul,Nat.reduceAdd] <;> kernel_rfl
theorem F64_call : eInv env (k + 1) (.func 64) #[] #[x0,x1] h = F64 (eInv env k) k x0 x1 h:=kq_inv F64_eq
noncomputable def c65 : Code:=codeOf Try.prog 65
theorem r65_0  : kCode env 65 false inv k (cp c65 2) (act 25 [(0,x0),(1,x1)]) h K =
  bnd (pBox Try.prog 42 x0 h) fun x2 =>
  bnd (pBox Try.prog 37 x1 x2.2) fun x3 =>
  K .normal (act 25 [(2,x2.1),(3,x3.1)]) x3.2:=kq_reg
theorem r65_1  : kCode env 65 false inv k (cp c65 12) (act 25 [(2,x2),(3,x3)]) h K =
  bnd (pLoad Try.prog 37 x3 h) fun x6 =>
  bnd (inv (.func 70) #[] #[x6] h) fun x7 =>
  K .normal (act 25 [(2,x2),(3,x3),(5,x7.1)]) x7.2:=kq_reg
theorem r65_2  : kCode env 65 false inv k (cp c65 26) (act 25 [(2,x2),(3,x3),(5,x5)]) h K =
  bnd (pBin Try.prog .neq 31 (.tmp 8) (.const (.int .i64 0)) x5 (.int .i64 0)) fun x9 =>
  K .normal (act 25 [(2,x2),(3,x3),(5,x5),(9,x9)]) h:=kq_reg
theorem b65_rrlr  : kCode env 65 false inv k (cp c65 27) (act 25 [(2,x2),(3,x3),(5,x5),(9,x9)]) h K = brV x9 (kCode env 65 false inv k (cp c65 54) (act 25 [(2,x2),(3,x3),(5,x5),(9,x9)]) h K) (kCode env 65 false inv k (cp c65 55) (act 25 [(2,x2),(3,x3),(5,x5),(9,x9)]) h K):=kq_cond
theorem r65_3  : kCode env 65 false inv k (cp c65 108) (act 25 [(2,x2),(3,x3),(5,x5),(9,x9)]) h K =
  K .normal (act 25 [(4,x5)]) h:=kq_reg
theorem res65_0 : resOfFn env.P 65 .ret (act 25 [(4,x4)]) h = some (x4,h):=kq_res
noncomputable abbrev G65_4 {β : Type} (inv : Inv) (x2 x3 : Value) (h : AH) (K : Value→AH→Option β) : Option β :=
  bnd (pFieldAddr Try.prog 37 x3 0) fun x11 =>
  bnd (pLoad Try.prog 3 x11 h) fun x12 =>
  bnd (pFieldAddr Try.prog 42 x2 1) fun x13 =>
  bnd (pLoad Try.prog 3 x13 h) fun x14 =>
  bnd (pBin Try.prog .eql 3 (.tmp 12) (.tmp 14) x12 x14) fun x15 =>
  bnd (gd (some x15) false h (lt (pFieldAddr Try.prog 37 x3 0) h)) fun x17 =>
  bnd (gd (some x15) false x17.2 (lt (pLoad Try.prog 3 x17.1 x17.2) x17.2)) fun x18 =>
  bnd (gd (some x15) false x18.2 (lt (pBin Try.prog .eql 3 (.tmp 18) (.const (.int .i64 0)) x18.1 (.int .i64 0)) x18.2)) fun x19 =>
  bnd (gd (some x15) false x19.2 (some (x19.1,x19.2))) fun x20 =>
  bnd (gd (some x20.1) true x20.2 (lt (pFieldAddr Try.prog 42 x2 2) x20.2)) fun x21 =>
  bnd (gd (some x20.1) true x21.2 (lt (pLoad Try.prog 4 x21.1 x21.2) x21.2)) fun x22 =>
  bnd (gd (some x15) false x22.2 (lt (pickV x20.1 x22.1 (.bool false)) x22.2)) fun x23 =>
  bnd (pickV x15 (.bool true) x23.1) fun x24 =>
  K (x24) x23.2
theorem r65_4  : kCode env 65 false inv k (cp c65 28) (act 25 [(2,x2),(3,x3),(5,x5),(9,x9)]) h K =
  G65_4 inv x2 x3 h fun y24 h=>K .normal (act 25 [(24,y24)]) h:=kq_reg
theorem b65_rlrr  : kCode env 65 false inv k (cp c65 29) (act 25 [(24,x24)]) h K = brV x24 (kCode env 65 false inv k (cp c65 58) (act 25 [(24,x24)]) h K) (kCode env 65 false inv k (cp c65 59) (act 25 [(24,x24)]) h K):=kq_cond
theorem r65_5  : kCode env 65 false inv k (cp c65 116) (act 25 [(24,x24)]) h K =
  K .normal (act 25 [(4,(.int .i64 0))]) h:=kq_reg
theorem r65_6  : kCode env 65 false inv k (cp c65 30) (act 25 [(24,x24)]) h K =
  K .normal (act 25 [(4,(.int .i64 173))]) h:=kq_reg
/-- shadowbook/schema.Fits -/
noncomputable def F65 (inv : Inv) (k : Nat) (x0 x1 : Value) (h : AH) : Option (Value × AH) :=
  bnd (pBox Try.prog 42 x0 h) fun x2 =>
  bnd (pBox Try.prog 37 x1 x2.2) fun x3 =>
  bnd (pLoad Try.prog 37 x3.1 x3.2) fun x6 =>
  bnd (inv (.func 70) #[] #[x6] x3.2) fun x7 =>
  bnd (pBin Try.prog .neq 31 (.tmp 8) (.const (.int .i64 0)) x7.1 (.int .i64 0)) fun x9 =>
  brV x9
  (some (x7.1,x7.2))
  (G65_4 inv x2.1 x3.1 x7.2 fun y24 h =>
  brV y24
  (some ((.int .i64 0),h))
  (some ((.int .i64 173),h)))
theorem F65_eq : eFun env k inv 65 #[x0,x1] h = F65 inv k x0 x1 h:=by
   refine (kq_fun (a:=act 25 [(0,x0),(1,x1)]) (c:=cp c65 1)).trans ?_
   unfold F65
   simp only [kq_seq c65 1,r65_0,kq_seq c65 3,kq_seq c65 6,r65_1,kq_seq c65 13,r65_2,b65_rrlr,kq_seq c65 54,r65_3,kq_ret c65 109,res65_0,kq_skip c65 55,kq_seq c65 7,kq_seq c65 14,r65_4,b65_rlrr,kq_seq c65 58,r65_5,kq_ret c65 117,kq_skip c65 59,kq_seq c65 15,r65_6,kq_ret c65 31,reduceIte,reduceCtorEq,XE.exit.injEq,Nat.reduceEqDiff,Nat.reduceMul,Nat.reduceAdd] <;> kernel_rfl
theorem F65_call : eInv env (k + 1) (.func 65) #[] #[x0,x1] h = F65 (eInv env k) k x0 x1 h:=kq_inv F65_eq
noncomputable def c66 : Code:=codeOf Try.prog 66
theorem r66_0  : kCode env 66 false inv k (cp c66 2) (act 49 [(0,x0)]) h K =
  bnd (pBox Try.prog 37 x0 h) fun x1 =>
  K .normal (act 49 [(1,x1.1)]) x1.2:=kq_reg
theorem r66_1  : kCode env 66 false inv k (cp c66 6) (act 49 [(1,x1)]) h K =
  K .normal (act 49 [(1,x1),(3,(.bool false))]) h:=kq_reg
theorem r66_2  : kCode env 66 false inv k (cp c66 28) (act 49 [(1,x1),(3,x3)]) h K =
  bnd (pFieldAddr Try.prog 37 x1 0) fun x4 =>
  bnd (pLoad Try.prog 3 x4 h) fun x5 =>
  K .normal (act 49 [(1,x1),(3,x3),(5,x5)]) h:=kq_reg
theorem r66_3  : kCode env 66 false inv k (cp c66 116) (act 49 [(1,x1),(3,x3),(5,x5)]) h K =
  bnd (pBin Try.prog .eql 3 (.tmp 5) (.const (.int .i64 0)) x5 (.int .i64 0)) fun x7 =>
  K .normal (act 49 [(1,x1),(3,x3),(5,x5),(6,x7)]) h:=kq_reg
theorem b66_rlrlrr  : kCode env 66 false inv k (cp c66 117) (act 49 [(1,x1),(3,x3),(5,x5),(6,x6)]) h K = brV x6 (kCode env 66 false inv k (cp c66 234) (act 49 [(1,x1),(3,x3),(5,x5),(6,x6)]) h K) (kCode env 66 false inv k (cp c66 235) (act 49 [(1,x1),(3,x3),(5,x5),(6,x6)]) h K):=kq_cond
noncomputable abbrev G66_4 {β : Type} (inv : Inv) (x1 : Value) (h : AH) (K : Value→AH→Option β) : Option β :=
  bnd (pFieldAddr Try.prog 37 x1 1) fun x8 =>
  bnd (pLoad Try.prog 2 x8 h) fun x9 =>
  bnd (pBin Try.prog .eql 2 (.tmp 9) (.const (.int .i64 0)) x9 (.int .i64 0)) fun x10 =>
  bnd (gd (some x10) true h (lt (pFieldAddr Try.prog 37 x1 2) h)) fun x12 =>
  bnd (gd (some x10) true x12.2 (lt (pLoad Try.prog 9 x12.1 x12.2) x12.2)) fun x13 =>
  bnd (gd (some x10) true x13.2 (lt (pBin Try.prog .eql 9 (.tmp 13) (.const (.string { data:=#[] })) x13.1 (.string { data:=#[] })) x13.2)) fun x14 =>
  bnd (pickV x10 x14.1 (.bool false)) fun x15 =>
  K (x15) x14.2
theorem r66_4  : kCode env 66 false inv k (cp c66 234) (act 49 [(1,x1),(3,x3),(5,x5),(6,x6)]) h K =
  G66_4 inv x1 h fun y3 h=>K .normal (act 49 [(3,y3)]) h:=kq_reg
theorem r66_5  : kCode env 66 false inv k (cp c66 470) (act 49 [(1,x1),(3,x3),(5,x5),(6,x6)]) h K =
  bnd (pBin Try.prog .eql 3 (.tmp 5) (.const (.int .i64 1)) x5 (.int .i64 1)) fun x17 =>
  K .normal (act 49 [(1,x1),(3,x3),(5,x5),(16,x17)]) h:=kq_reg
theorem b66_rrrlrlrr  : kCode env 66 false inv k (cp c66 471) (act 49 [(1,x1),(3,x3),(5,x5),(16,x16)]) h K = brV x16 (kCode env 66 false inv k (cp c66 942) (act 49 [(1,x1),(3,x3),(5,x5),(16,x16)]) h K) (kCode env 66 false inv k (cp c66 943) (act 49 [(1,x1),(3,x3),(5,x5),(16,x16)]) h K):=kq_cond
theorem r66_6  : kCode env 66 false inv k (cp c66 942) (act 49 [(1,x1),(3,x3),(5,x5),(16,x16)]) h K =
  bnd (pFieldAddr Try.prog 37 x1 2) fun x18 =>
  bnd (pLoad Try.prog 9 x18 h) fun x19 =>
  bnd (pBin Try.prog .eql 9 (.tmp 19) (.const (.string { data:=#[] })) x19 (.string { data:=#[] })) fun x20 =>
  K .normal (act 49 [(3,x20)]) h:=kq_reg
theorem r66_7  : kCode env 66 false inv k (cp c66 1886) (act 49 [(1,x1),(3,x3),(5,x5),(16,x16)]) h K =
  bnd (pBin Try.prog .eql 3 (.tmp 5) (.const (.int .i64 2)) x5 (.int .i64 2)) fun x22 =>
  K .normal (act 49 [(1,x1),(3,x3),(5,x5),(21,x22)]) h:=kq_reg
theorem b66_rrrrrlrlrr  : kCode env 66 false inv k (cp c66 1887) (act 49 [(1,x1),(3,x3),(5,x5),(21,x21)]) h K = brV x21 (kCode env 66 false inv k (cp c66 3774) (act 49 [(1,x1),(3,x3),(5,x5),(21,x21)]) h K) (kCode env 66 false inv k (cp c66 3775) (act 49 [(1,x1),(3,x3),(5,x5),(21,x21)]) h K):=kq_cond
noncomputable abbrev G66_8 {β : Type} (inv : Inv) (x1 : Value) (h : AH) (K : Value→AH→Option β) : Option β :=
  bnd (pFieldAddr Try.prog 37 x1 2) fun x23 =>
  bnd (pLoad Try.prog 9 x23 h) fun x24 =>
  bnd (pBin Try.prog .eql 9 (.tmp 24) (.const (.string { data:=#[] })) x24 (.string { data:=#[] })) fun x25 =>
  bnd (gd (some x25) true h (lt (pFieldAddr Try.prog 37 x1 1) h)) fun x27 =>
  bnd (gd (some x25) true x27.2 (lt (pLoad Try.prog 2 x27.1 x27.2) x27.2)) fun x28 =>
  bnd (gd (some x25) true x28.2 (lt (pBin Try.prog .eql 2 (.tmp 28) (.const (.int .i64 0)) x28.1 (.int .i64 0)) x28.2)) fun x29 =>
  bnd (gd (some x25) true x29.2 (some (x29.1,x29.2))) fun x30 =>
  bnd (gd (some x30.1) false x30.2 (lt (pFieldAddr Try.prog 37 x1 1) x30.2)) fun x31 =>
  bnd (gd (some x30.1) false x31.2 (lt (pLoad Try.prog 2 x31.1 x31.2) x31.2)) fun x32 =>
  bnd (gd (some x30.1) false x32.2 (lt (pBin Try.prog .eql 2 (.tmp 32) (.const (.int .i64 1)) x32.1 (.int .i64 1)) x32.2)) fun x33 =>
  bnd (gd (some x25) true x33.2 (lt (pickV x30.1 (.bool true) x33.1) x33.2)) fun x34 =>
  bnd (pickV x25 x34.1 (.bool false)) fun x35 =>
  K (x35) x34.2
theorem r66_8  : kCode env 66 false inv k (cp c66 3774) (act 49 [(1,x1),(3,x3),(5,x5),(21,x21)]) h K =
  G66_8 inv x1 h fun y3 h=>K .normal (act 49 [(3,y3)]) h:=kq_reg
theorem r66_9  : kCode env 66 false inv k (cp c66 7550) (act 49 [(1,x1),(3,x3),(5,x5),(21,x21)]) h K =
  bnd (pBin Try.prog .eql 3 (.tmp 5) (.const (.int .i64 3)) x5 (.int .i64 3)) fun x37 =>
  K .normal (act 49 [(1,x1),(3,x3),(36,x37)]) h:=kq_reg
theorem b66_rrrrrrrlrlrr  : kCode env 66 false inv k (cp c66 7551) (act 49 [(1,x1),(3,x3),(36,x36)]) h K = brV x36 (kCode env 66 false inv k (cp c66 15102) (act 49 [(1,x1),(3,x3),(36,x36)]) h K) (kCode env 66 false inv k (cp c66 15103) (act 49 [(1,x1),(3,x3),(36,x36)]) h K):=kq_cond
noncomputable abbrev G66_10 {β : Type} (inv : Inv) (x1 : Value) (h : AH) (K : Value→AH→Option β) : Option β :=
  bnd (pFieldAddr Try.prog 37 x1 1) fun x38 =>
  bnd (pLoad Try.prog 2 x38 h) fun x39 =>
  bnd (pBin Try.prog .eql 2 (.tmp 39) (.const (.int .i64 0)) x39 (.int .i64 0)) fun x40 =>
  bnd (gd (some x40) true h (lt (pFieldAddr Try.prog 37 x1 2) h)) fun x42 =>
  bnd (gd (some x40) true x42.2 (lt (pLoad Try.prog 9 x42.1 x42.2) x42.2)) fun x43 =>
  bnd (gd (some x40) true x43.2 (lt (pLen Try.prog #[9] x43.1 x43.2) x43.2)) fun x44 =>
  bnd (gd (some x40) true x44.2 (lt (pBin Try.prog .leq 3 (.tmp 44) (.const (.int .i64 256)) x44.1 (.int .i64 256)) x44.2)) fun x45 =>
  bnd (pickV x40 x45.1 (.bool false)) fun x46 =>
  K (x46) x45.2
theorem r66_10  : kCode env 66 false inv k (cp c66 15102) (act 49 [(1,x1),(3,x3),(36,x36)]) h K =
  G66_10 inv x1 h fun y3 h=>K .normal (act 49 [(3,y3)]) h:=kq_reg
noncomputable def F66_rlrr {β : Type} (inv : Inv) (k : Nat) (x1 x3 x5 : Value) (h : AH) (kn : (Value→Value→Value→AH→Option β)) : Option β :=
  bnd (pBin Try.prog .eql 3 (.tmp 5) (.const (.int .i64 0)) x5 (.int .i64 0)) fun x7 =>
  brV x7
  (G66_4 inv x1 h fun y3 h =>
  kn unk y3 unk h)
  (bnd (pBin Try.prog .eql 3 (.tmp 5) (.const (.int .i64 1)) x5 (.int .i64 1)) fun x17 =>
  brV x17
  (bnd (pFieldAddr Try.prog 37 x1 2) fun x18 =>
  bnd (pLoad Try.prog 9 x18 h) fun x19 =>
  bnd (pBin Try.prog .eql 9 (.tmp 19) (.const (.string { data:=#[] })) x19 (.string { data:=#[] })) fun x20 =>
  kn unk x20 unk h)
  (bnd (pBin Try.prog .eql 3 (.tmp 5) (.const (.int .i64 2)) x5 (.int .i64 2)) fun x22 =>
  brV x22
  (G66_8 inv x1 h fun y3_1 h_2 =>
  kn unk y3_1 unk h_2)
  (bnd (pBin Try.prog .eql 3 (.tmp 5) (.const (.int .i64 3)) x5 (.int .i64 3)) fun x37 =>
  brV x37
  (G66_10 inv x1 h fun y3_3 h_4 =>
  kn unk y3_3 unk h_4)
  (kn x1 x3 x37 h))))
theorem F66_rlrr_eq  : kCode env 66 false inv k (cp c66 29) (act 49 [(1,x1),(3,x3),(5,x5)]) h K = F66_rlrr inv k x1 x3 x5 h (fun y1 y3 y36 h=>K .normal (act 49 [(1,y1),(3,y3),(36,y36)]) h):=by
   unfold F66_rlrr
   simp only [kq_block c66 29 0,kq_seq c66 58,r66_3,b66_rlrlrr,r66_4,kq_seq c66 235,r66_5,b66_rrrlrlrr,r66_6,kq_seq c66 943,r66_7,b66_rrrrrlrlrr,r66_8,kq_seq c66 3775,r66_9,b66_rrrrrrrlrlrr,r66_10,kq_skip c66 15103,reduceIte,reduceCtorEq,XE.exit.injEq,Nat.reduceEqDiff,Nat.reduceMul,Nat.reduceAdd] <;> kernel_rfl
theorem r66_11  : kCode env 66 false inv k (cp c66 60) (act 49 [(1,x1),(3,x3),(36,x36)]) h K =
  bnd (pUn Try.prog .not x3) fun x48 =>
  K .normal (act 49 [(48,x48)]) h:=kq_reg
theorem b66_rlrrr  : kCode env 66 false inv k (cp c66 61) (act 49 [(48,x48)]) h K = brV x48 (kCode env 66 false inv k (cp c66 122) (act 49 [(48,x48)]) h K) (kCode env 66 false inv k (cp c66 123) (act 49 [(48,x48)]) h K):=kq_cond
theorem r66_12  : kCode env 66 false inv k (cp c66 244) (act 49 [(48,x48)]) h K =
  K .normal (act 49 [(2,(.int .i64 160))]) h:=kq_reg
theorem res66_0 : resOfFn env.P 66 .ret (act 49 [(2,x2)]) h = some (x2,h):=kq_res
theorem r66_13  : kCode env 66 false inv k (cp c66 62) (act 49 [(48,x48)]) h K =
  K .normal (act 49 [(2,(.int .i64 0))]) h:=kq_reg
/-- shadowbook/shadowbookref16.Check -/
noncomputable def F66 (inv : Inv) (k : Nat) (x0 : Value) (h : AH) : Option (Value × AH) :=
  bnd (pBox Try.prog 37 x0 h) fun x1 =>
  bnd (pFieldAddr Try.prog 37 x1.1 0) fun x4 =>
  bnd (pLoad Try.prog 3 x4 x1.2) fun x5 =>
  F66_rlrr inv k x1.1 (.bool false) x5 x1.2
  (fun y1 y3 y36 h =>
  bnd (pUn Try.prog .not y3) fun x48 =>
  brV x48
  (some ((.int .i64 160),h))
  (some ((.int .i64 0),h)))
theorem F66_eq : eFun env k inv 66 #[x0] h = F66 inv k x0 h:=by
   refine (kq_fun (a:=act 49 [(0,x0)]) (c:=cp c66 1)).trans ?_
   unfold F66
   simp only [kq_seq c66 1,r66_0,kq_seq c66 3,r66_1,kq_seq c66 7,kq_seq c66 14,r66_2,F66_rlrr_eq,kq_seq c66 15,kq_seq c66 30,r66_11,b66_rlrrr,kq_seq c66 122,r66_12,kq_ret c66 245,res66_0,kq_skip c66 123,kq_seq c66 31,r66_13,kq_ret c66 63,reduceIte,reduceCtorEq,XE.exit.injEq,Nat.reduceEqDiff,Nat.reduceMul,Nat.reduceAdd] <;> kernel_rfl
theorem F66_call : eInv env (k + 1) (.func 66) #[] #[x0] h = F66 (eInv env k) k x0 h:=kq_inv F66_eq
noncomputable def c69 : Code:=codeOf Try.prog 69
theorem r69_0  : kCode env 69 false inv k (cp c69 2) (act 14 [(0,x0),(1,x1)]) h K =
  bnd (pLoad Try.prog 67 x1 h) fun x4 =>
  bnd (pRange Try.prog 67 x4 h) fun x5 =>
  K .normal (act 14 [(0,x0),(5,x5.1)]) x5.2:=kq_reg
theorem r69_1  : kCode env 69 false inv k (cp c69 24) (act 14 [(0,x0),(5,x5),(13,x13)]) h K =
  bnd (pNext x5 false h) fun x6 =>
  bnd (pExtract x6.1 0) fun x7 =>
  K .normal (act 14 [(0,x0),(5,x5),(7,x7)]) x6.2:=kq_reg
theorem b69_lrllr  : kCode env 69 false inv k (cp c69 50) (act 14 [(0,x0),(5,x5),(7,x7)]) h K = brV x7 (kCode env 69 false inv k (cp c69 100) (act 14 [(0,x0),(5,x5),(7,x7)]) h K) (kCode env 69 false inv k (cp c69 101) (act 14 [(0,x0),(5,x5),(7,x7)]) h K):=kq_cond
theorem r69_2  : kCode env 69 false inv k (cp c69 204) (act 14 [(0,x0),(5,x5),(7,x7)]) h K =
  bnd (pEntry x5 h) fun x8 =>
  bnd (pExtract x8.1 0) fun x9 =>
  K .normal (act 14 [(0,x0),(3,x9),(5,x5)]) x8.2:=kq_reg
theorem r69_3  : kCode env 69 false inv k (cp c69 410) (act 14 [(0,x0),(3,x3),(5,x5)]) h K =
  bnd (callV inv x0 #[x3] h) fun x12 =>
  bnd (pUn Try.prog .not x12.1) fun x13 =>
  K .normal (act 14 [(0,x0),(5,x5),(13,x13)]) x12.2:=kq_reg
theorem b69_rrlrrllr  : kCode env 69 false inv k (cp c69 411) (act 14 [(0,x0),(5,x5),(13,x13)]) h K = brV x13 (kCode env 69 false inv k (cp c69 822) (act 14 [(0,x0),(5,x5),(13,x13)]) h K) (kCode env 69 false inv k (cp c69 823) (act 14 [(0,x0),(5,x5),(13,x13)]) h K):=kq_cond
noncomputable def F69_lr {β : Type} (inv : Inv) (k : Nat) : Nat→Value→Value→Value→AH→(Value→Value→Value→AH→Option β)→(Value→Value→Value→AH→Option β)→Option β
 | 0,_,_,_,_,_,_=>none
 | j + 1,x0,x5,x13,h,ke0,kr =>
  bnd (pNext x5 false h) fun x6 =>
  bnd (pExtract x6.1 0) fun x7 =>
  brV x7
  (bnd (pEntry x5 x6.2) fun x8 =>
  bnd (pExtract x8.1 0) fun x9 =>
  bnd (callV inv x0 #[x9] x8.2) fun x12 =>
  bnd (pUn Try.prog .not x12.1) fun x13_1 =>
  brV x13_1
  (kr x0 x5 x13_1 x12.2)
  (F69_lr inv k j x0 x5 x13_1 x12.2 ke0 kr))
  (ke0 x0 x5 x7 x6.2)
theorem F69_lr_j (j : Nat) : kLoop (kCode env 69 false inv k (cp c69 12)) j (act 14 [(0,x0),(5,x5),(13,x13)]) h K = F69_lr inv k j x0 x5 x13 h (fun y0 y5 y7 h=>K (.exit 0) (act 14 [(0,y0),(5,y5),(7,y7)]) h) (fun y0 y5 y13 h=>K .ret (act 14 [(0,y0),(5,y5),(13,y13)]) h):=by
   induction j generalizing x0 x5 x13 h with
   | zero=>rfl
   | succ j ih =>
    unfold F69_lr
    simp only [kLoop,kq_seq c69 12,r69_1,kq_seq c69 25,b69_lrllr,kq_skip c69 100,kq_block c69 51 1,kq_seq c69 102,r69_2,kq_seq c69 205,r69_3,b69_rrlrrllr,kq_ret c69 822,kq_skip c69 823,kq_exit c69 101 0,ih,reduceIte,reduceCtorEq,XE.exit.injEq,Nat.reduceEqDiff,Nat.reduceMul,Nat.reduceAdd] <;> kernel_rfl
theorem F69_lr_eq  : kCode env 69 false inv k (cp c69 6) (act 14 [(0,x0),(5,x5),(13,x13)]) h K = F69_lr inv k k x0 x5 x13 h (fun y0 y5 y7 h=>K (.exit 0) (act 14 [(0,y0),(5,y5),(7,y7)]) h) (fun y0 y5 y13 h=>K .ret (act 14 [(0,y0),(5,y5),(13,y13)]) h):=kq_loop (F69_lr_j k)
theorem F69_lr_eq_13  : kCode env 69 false inv k (cp c69 6) (act 14 [(0,x0),(5,x5)]) h K = F69_lr inv k k x0 x5 unk h (fun y0 y5 y7 h=>K (.exit 0) (act 14 [(0,y0),(5,y5),(7,y7)]) h) (fun y0 y5 y13 h=>K .ret (act 14 [(0,y0),(5,y5),(13,y13)]) h):=by
   rw [show act 14 [(0,x0),(5,x5)] = act 14 [(0,x0),(5,x5),(13,unk)] from by kernel_rfl]; exact F69_lr_eq ..
theorem res69_0 : resOfFn env.P 69 .normal (act 14 [(0,x0),(5,x5),(7,x7)]) h = some (.tuple #[],h):=kq_res
theorem res69_1 : resOfFn env.P 69 .ret (act 14 [(0,x0),(5,x5),(13,x13)]) h = some (.tuple #[],h):=kq_res
/-- maps.Keys[map[string]*shadowbook/agg.group,string,*shadowbook/agg.group]$1 -/
noncomputable def F69 (inv : Inv) (k : Nat) (x0 x1 : Value) (h : AH) : Option (Value × AH) :=
  bnd (pLoad Try.prog 67 x1 h) fun x4 =>
  bnd (pRange Try.prog 67 x4 h) fun x5 =>
  F69_lr inv k k x0 x5.1 unk x5.2
  (fun y0 y5 y7 h =>
  some (.tuple #[],h))
  (fun y0_2 y5_3 y13 h_4 =>
  some (.tuple #[],h_4))
theorem F69_eq : eFun env k inv 69 #[x0,x1] h = F69 inv k x0 x1 h:=by
   refine (kq_fun (a:=act 14 [(0,x0),(1,x1)]) (c:=cp c69 1)).trans ?_
   unfold F69
   simp only [kq_seq c69 1,r69_0,kq_block c69 3 0,F69_lr_eq_13,res69_0,res69_1,reduceIte,reduceCtorEq,XE.exit.injEq,Nat.reduceEqDiff,Nat.reduceMul,Nat.reduceAdd] <;> kernel_rfl
theorem F69_call : eInv env (k + 1) (.func 69) #[] #[x0,x1] h = F69 (eInv env k) k x0 x1 h:=kq_inv F69_eq
noncomputable def c70 : Code:=codeOf Try.prog 70
theorem r70_0  : kCode env 70 false inv k (cp c70 2) (act 40 [(0,x0)]) h K =
  bnd (pBox Try.prog 37 x0 h) fun x1 =>
  K .normal (act 40 [(1,x1.1)]) x1.2:=kq_reg
theorem r70_1  : kCode env 70 false inv k (cp c70 6) (act 40 [(1,x1)]) h K =
  K .normal (act 40 [(1,x1),(3,(.bool false))]) h:=kq_reg
theorem r70_2  : kCode env 70 false inv k (cp c70 28) (act 40 [(1,x1),(3,x3)]) h K =
  bnd (pFieldAddr Try.prog 37 x1 0) fun x4 =>
  bnd (pLoad Try.prog 3 x4 h) fun x5 =>
  K .normal (act 40 [(1,x1),(3,x3),(5,x5)]) h:=kq_reg
theorem r70_3  : kCode env 70 false inv k (cp c70 116) (act 40 [(1,x1),(3,x3),(5,x5)]) h K =
  bnd (pBin Try.prog .eql 3 (.tmp 5) (.const (.int .i64 0)) x5 (.int .i64 0)) fun x7 =>
  K .normal (act 40 [(1,x1),(3,x3),(5,x5),(6,x7)]) h:=kq_reg
theorem b70_rlrlrr  : kCode env 70 false inv k (cp c70 117) (act 40 [(1,x1),(3,x3),(5,x5),(6,x6)]) h K = brV x6 (kCode env 70 false inv k (cp c70 234) (act 40 [(1,x1),(3,x3),(5,x5),(6,x6)]) h K) (kCode env 70 false inv k (cp c70 235) (act 40 [(1,x1),(3,x3),(5,x5),(6,x6)]) h K):=kq_cond
theorem r70_4  : kCode env 70 false inv k (cp c70 234) (act 40 [(1,x1),(3,x3),(5,x5),(6,x6)]) h K =
  bnd (pLoad Try.prog 37 x1 h) fun x8 =>
  bnd (pBuild Try.prog 37 #[]) fun x9 =>
  bnd (pBin Try.prog .eql 37 (.tmp 8) (.tmp 9) x8 x9) fun x10 =>
  K .normal (act 40 [(3,x10)]) h:=kq_reg
theorem r70_5  : kCode env 70 false inv k (cp c70 470) (act 40 [(1,x1),(3,x3),(5,x5),(6,x6)]) h K =
  bnd (pBin Try.prog .eql 3 (.tmp 5) (.const (.int .i64 1)) x5 (.int .i64 1)) fun x12 =>
  K .normal (act 40 [(1,x1),(3,x3),(5,x5),(11,x12)]) h:=kq_reg
theorem b70_rrrlrlrr  : kCode env 70 false inv k (cp c70 471) (act 40 [(1,x1),(3,x3),(5,x5),(11,x11)]) h K = brV x11 (kCode env 70 false inv k (cp c70 942) (act 40 [(1,x1),(3,x3),(5,x5),(11,x11)]) h K) (kCode env 70 false inv k (cp c70 943) (act 40 [(1,x1),(3,x3),(5,x5),(11,x11)]) h K):=kq_cond
theorem r70_6  : kCode env 70 false inv k (cp c70 942) (act 40 [(1,x1),(3,x3),(5,x5),(11,x11)]) h K =
  bnd (pFieldAddr Try.prog 37 x1 2) fun x13 =>
  bnd (pLoad Try.prog 9 x13 h) fun x14 =>
  bnd (pBin Try.prog .eql 9 (.tmp 14) (.const (.string { data:=#[] })) x14 (.string { data:=#[] })) fun x15 =>
  K .normal (act 40 [(3,x15)]) h:=kq_reg
theorem r70_7  : kCode env 70 false inv k (cp c70 1886) (act 40 [(1,x1),(3,x3),(5,x5),(11,x11)]) h K =
  bnd (pBin Try.prog .eql 3 (.tmp 5) (.const (.int .i64 2)) x5 (.int .i64 2)) fun x17 =>
  K .normal (act 40 [(1,x1),(3,x3),(5,x5),(16,x17)]) h:=kq_reg
theorem b70_rrrrrlrlrr  : kCode env 70 false inv k (cp c70 1887) (act 40 [(1,x1),(3,x3),(5,x5),(16,x16)]) h K = brV x16 (kCode env 70 false inv k (cp c70 3774) (act 40 [(1,x1),(3,x3),(5,x5),(16,x16)]) h K) (kCode env 70 false inv k (cp c70 3775) (act 40 [(1,x1),(3,x3),(5,x5),(16,x16)]) h K):=kq_cond
noncomputable abbrev G70_8 {β : Type} (inv : Inv) (x1 : Value) (h : AH) (K : Value→AH→Option β) : Option β :=
  bnd (pFieldAddr Try.prog 37 x1 2) fun x18 =>
  bnd (pLoad Try.prog 9 x18 h) fun x19 =>
  bnd (pBin Try.prog .eql 9 (.tmp 19) (.const (.string { data:=#[] })) x19 (.string { data:=#[] })) fun x20 =>
  bnd (gd (some x20) true h (lt (pFieldAddr Try.prog 37 x1 1) h)) fun x22 =>
  bnd (gd (some x20) true x22.2 (lt (pLoad Try.prog 2 x22.1 x22.2) x22.2)) fun x23 =>
  bnd (gd (some x20) true x23.2 (lt (pBin Try.prog .andNot 2 (.tmp 23) (.const (.int .i64 1)) x23.1 (.int .i64 1)) x23.2)) fun x24 =>
  bnd (gd (some x20) true x24.2 (lt (pBin Try.prog .eql 2 (.tmp 24) (.const (.int .i64 0)) x24.1 (.int .i64 0)) x24.2)) fun x25 =>
  bnd (pickV x20 x25.1 (.bool false)) fun x26 =>
  K (x26) x25.2
theorem r70_8  : kCode env 70 false inv k (cp c70 3774) (act 40 [(1,x1),(3,x3),(5,x5),(16,x16)]) h K =
  G70_8 inv x1 h fun y3 h=>K .normal (act 40 [(3,y3)]) h:=kq_reg
theorem r70_9  : kCode env 70 false inv k (cp c70 7550) (act 40 [(1,x1),(3,x3),(5,x5),(16,x16)]) h K =
  bnd (pBin Try.prog .eql 3 (.tmp 5) (.const (.int .i64 3)) x5 (.int .i64 3)) fun x28 =>
  K .normal (act 40 [(1,x1),(3,x3),(27,x28)]) h:=kq_reg
theorem b70_rrrrrrrlrlrr  : kCode env 70 false inv k (cp c70 7551) (act 40 [(1,x1),(3,x3),(27,x27)]) h K = brV x27 (kCode env 70 false inv k (cp c70 15102) (act 40 [(1,x1),(3,x3),(27,x27)]) h K) (kCode env 70 false inv k (cp c70 15103) (act 40 [(1,x1),(3,x3),(27,x27)]) h K):=kq_cond
noncomputable abbrev G70_10 {β : Type} (inv : Inv) (x1 : Value) (h : AH) (K : Value→AH→Option β) : Option β :=
  bnd (pFieldAddr Try.prog 37 x1 1) fun x29 =>
  bnd (pLoad Try.prog 2 x29 h) fun x30 =>
  bnd (pBin Try.prog .eql 2 (.tmp 30) (.const (.int .i64 0)) x30 (.int .i64 0)) fun x31 =>
  bnd (gd (some x31) true h (lt (pFieldAddr Try.prog 37 x1 2) h)) fun x33 =>
  bnd (gd (some x31) true x33.2 (lt (pLoad Try.prog 9 x33.1 x33.2) x33.2)) fun x34 =>
  bnd (gd (some x31) true x34.2 (lt (pLen Try.prog #[9] x34.1 x34.2) x34.2)) fun x35 =>
  bnd (gd (some x31) true x35.2 (lt (pBin Try.prog .leq 3 (.tmp 35) (.const (.int .i64 256)) x35.1 (.int .i64 256)) x35.2)) fun x36 =>
  bnd (pickV x31 x36.1 (.bool false)) fun x37 =>
  K (x37) x36.2
theorem r70_10  : kCode env 70 false inv k (cp c70 15102) (act 40 [(1,x1),(3,x3),(27,x27)]) h K =
  G70_10 inv x1 h fun y3 h=>K .normal (act 40 [(3,y3)]) h:=kq_reg
noncomputable def F70_rlrr {β : Type} (inv : Inv) (k : Nat) (x1 x3 x5 : Value) (h : AH) (kn : (Value→Value→Value→AH→Option β)) : Option β :=
  bnd (pBin Try.prog .eql 3 (.tmp 5) (.const (.int .i64 0)) x5 (.int .i64 0)) fun x7 =>
  brV x7
  (bnd (pLoad Try.prog 37 x1 h) fun x8 =>
  bnd (pBuild Try.prog 37 #[]) fun x9 =>
  bnd (pBin Try.prog .eql 37 (.tmp 8) (.tmp 9) x8 x9) fun x10 =>
  kn unk x10 unk h)
  (bnd (pBin Try.prog .eql 3 (.tmp 5) (.const (.int .i64 1)) x5 (.int .i64 1)) fun x12 =>
  brV x12
  (bnd (pFieldAddr Try.prog 37 x1 2) fun x13 =>
  bnd (pLoad Try.prog 9 x13 h) fun x14 =>
  bnd (pBin Try.prog .eql 9 (.tmp 14) (.const (.string { data:=#[] })) x14 (.string { data:=#[] })) fun x15 =>
  kn unk x15 unk h)
  (bnd (pBin Try.prog .eql 3 (.tmp 5) (.const (.int .i64 2)) x5 (.int .i64 2)) fun x17 =>
  brV x17
  (G70_8 inv x1 h fun y3 h =>
  kn unk y3 unk h)
  (bnd (pBin Try.prog .eql 3 (.tmp 5) (.const (.int .i64 3)) x5 (.int .i64 3)) fun x28 =>
  brV x28
  (G70_10 inv x1 h fun y3_1 h_2 =>
  kn unk y3_1 unk h_2)
  (kn x1 x3 x28 h))))
theorem F70_rlrr_eq  : kCode env 70 false inv k (cp c70 29) (act 40 [(1,x1),(3,x3),(5,x5)]) h K = F70_rlrr inv k x1 x3 x5 h (fun y1 y3 y27 h=>K .normal (act 40 [(1,y1),(3,y3),(27,y27)]) h):=by
   unfold F70_rlrr
   simp only [kq_block c70 29 0,kq_seq c70 58,r70_3,b70_rlrlrr,r70_4,kq_seq c70 235,r70_5,b70_rrrlrlrr,r70_6,kq_seq c70 943,r70_7,b70_rrrrrlrlrr,r70_8,kq_seq c70 3775,r70_9,b70_rrrrrrrlrlrr,r70_10,kq_skip c70 15103,reduceIte,reduceCtorEq,XE.exit.injEq,Nat.reduceEqDiff,Nat.reduceMul,Nat.reduceAdd] <;> kernel_rfl
theorem r70_11  : kCode env 70 false inv k (cp c70 60) (act 40 [(1,x1),(3,x3),(27,x27)]) h K =
  bnd (pUn Try.prog .not x3) fun x39 =>
  K .normal (act 40 [(39,x39)]) h:=kq_reg
theorem b70_rlrrr  : kCode env 70 false inv k (cp c70 61) (act 40 [(39,x39)]) h K = brV x39 (kCode env 70 false inv k (cp c70 122) (act 40 [(39,x39)]) h K) (kCode env 70 false inv k (cp c70 123) (act 40 [(39,x39)]) h K):=kq_cond
theorem r70_12  : kCode env 70 false inv k (cp c70 244) (act 40 [(39,x39)]) h K =
  K .normal (act 40 [(2,(.int .i64 160))]) h:=kq_reg
theorem res70_0 : resOfFn env.P 70 .ret (act 40 [(2,x2)]) h = some (x2,h):=kq_res
theorem r70_13  : kCode env 70 false inv k (cp c70 62) (act 40 [(39,x39)]) h K =
  K .normal (act 40 [(2,(.int .i64 0))]) h:=kq_reg
/-- shadowbook/value.Check -/
noncomputable def F70 (inv : Inv) (k : Nat) (x0 : Value) (h : AH) : Option (Value × AH) :=
  bnd (pBox Try.prog 37 x0 h) fun x1 =>
  bnd (pFieldAddr Try.prog 37 x1.1 0) fun x4 =>
  bnd (pLoad Try.prog 3 x4 x1.2) fun x5 =>
  F70_rlrr inv k x1.1 (.bool false) x5 x1.2
  (fun y1 y3 y27 h =>
  bnd (pUn Try.prog .not y3) fun x39 =>
  brV x39
  (some ((.int .i64 160),h))
  (some ((.int .i64 0),h)))
theorem F70_eq : eFun env k inv 70 #[x0] h = F70 inv k x0 h:=by
   refine (kq_fun (a:=act 40 [(0,x0)]) (c:=cp c70 1)).trans ?_
   unfold F70
   simp only [kq_seq c70 1,r70_0,kq_seq c70 3,r70_1,kq_seq c70 7,kq_seq c70 14,r70_2,F70_rlrr_eq,kq_seq c70 15,kq_seq c70 30,r70_11,b70_rlrrr,kq_seq c70 122,r70_12,kq_ret c70 245,res70_0,kq_skip c70 123,kq_seq c70 31,r70_13,kq_ret c70 63,reduceIte,reduceCtorEq,XE.exit.injEq,Nat.reduceEqDiff,Nat.reduceMul,Nat.reduceAdd] <;> kernel_rfl
theorem F70_call : eInv env (k + 1) (.func 70) #[] #[x0] h = F70 (eInv env k) k x0 h:=kq_inv F70_eq
noncomputable def c71 : Code:=codeOf Try.prog 71
theorem r71_0  : kCode env 71 false inv k (cp c71 2) (act 67 [(0,x0),(1,x1)]) h K =
  bnd (pBox Try.prog 37 x1 h) fun x3 =>
  K .normal (act 67 [(0,x0),(3,x3.1)]) x3.2:=kq_reg
theorem r71_1  : kCode env 71 false inv k (cp c71 6) (act 67 [(0,x0),(3,x3)]) h K =
  bnd (pFieldAddr Try.prog 37 x3 0) fun x10 =>
  bnd (pLoad Try.prog 3 x10 h) fun x11 =>
  bnd (pConv Try.prog 3 5 x11 h) fun x12 =>
  bnd (pBuildSlice Try.prog 107 1 #[(0,x12)] h) fun x13 =>
  bnd (pAppend Try.prog #[107,107] x0 x13.1 x13.2) fun x14 =>
  K .normal (act 67 [(0,x14.1),(3,x3)]) x14.2:=kq_reg
theorem r71_2  : kCode env 71 false inv k (cp c71 28) (act 67 [(0,x0),(3,x3)]) h K =
  bnd (pFieldAddr Try.prog 37 x3 0) fun x15 =>
  bnd (pLoad Try.prog 3 x15 h) fun x16 =>
  K .normal (act 67 [(0,x0),(3,x3),(16,x16)]) h:=kq_reg
theorem r71_3  : kCode env 71 false inv k (cp c71 116) (act 67 [(0,x0),(3,x3),(16,x16)]) h K =
  bnd (pBin Try.prog .eql 3 (.tmp 16) (.const (.int .i64 1)) x16 (.int .i64 1)) fun x18 =>
  K .normal (act 67 [(0,x0),(3,x3),(16,x16),(17,x18)]) h:=kq_reg
theorem b71_rlrlrr  : kCode env 71 false inv k (cp c71 117) (act 67 [(0,x0),(3,x3),(16,x16),(17,x17)]) h K = brV x17 (kCode env 71 false inv k (cp c71 234) (act 67 [(0,x0),(3,x3),(16,x16),(17,x17)]) h K) (kCode env 71 false inv k (cp c71 235) (act 67 [(0,x0),(3,x3),(16,x16),(17,x17)]) h K):=kq_cond
theorem r71_4  : kCode env 71 false inv k (cp c71 468) (act 67 [(0,x0),(3,x3),(16,x16),(17,x17)]) h K =
  bnd (pFieldAddr Try.prog 37 x3 1) fun x19 =>
  bnd (pLoad Try.prog 2 x19 h) fun x20 =>
  bnd (pConv Try.prog 2 123 x20 h) fun x21 =>
  bnd (pBin Try.prog .xor 123 (.tmp 21) (.const (.int .u64 9223372036854775808)) x21 (.int .u64 9223372036854775808)) fun x22 =>
  K .normal (act 67 [(0,x0),(5,x22)]) h:=kq_reg
theorem r71_5  : kCode env 71 false inv k (cp c71 938) (act 67 [(0,x0),(5,x5)]) h K =
  K .normal (act 67 [(0,x0),(5,x5),(6,(.int .i64 7))]) h:=kq_reg
theorem r71_6  : kCode env 71 false inv k (cp c71 15024) (act 67 [(0,x0),(5,x5),(6,x6)]) h K =
  bnd (pBin Try.prog .geq 3 (.tmp 23) (.const (.int .i64 0)) x6 (.int .i64 0)) fun x24 =>
  K .normal (act 67 [(0,x0),(5,x5),(6,x6),(24,x24)]) h:=kq_reg
theorem b71_rlllrrlrlrlrr  : kCode env 71 false inv k (cp c71 15025) (act 67 [(0,x0),(5,x5),(6,x6),(24,x24)]) h K = brV x24 (kCode env 71 false inv k (cp c71 30050) (act 67 [(0,x0),(5,x5),(6,x6),(24,x24)]) h K) (kCode env 71 false inv k (cp c71 30051) (act 67 [(0,x0),(5,x5),(6,x6),(24,x24)]) h K):=kq_cond
theorem r71_8  : kCode env 71 false inv k (cp c71 30052) (act 67 [(0,x0),(5,x5),(6,x6),(24,x24)]) h K =
  bnd (pBin Try.prog .mul 3 (.const (.int .i64 8)) (.tmp 29) (.int .i64 8) x6) fun x30 =>
  bnd (pBin Try.prog .shr 123 (.tmp 28) (.tmp 30) x5 x30) fun x31 =>
  bnd (pConv Try.prog 123 5 x31 h) fun x32 =>
  bnd (pBuildSlice Try.prog 107 1 #[(0,x32)] h) fun x33 =>
  bnd (pAppend Try.prog #[107,107] x0 x33.1 x33.2) fun x34 =>
  K .normal (act 67 [(0,x34.1),(5,x5),(6,x6)]) x34.2:=kq_reg
theorem r71_7  : kCode env 71 false inv k (cp c71 15027) (act 67 [(0,x0),(5,x5),(6,x6)]) h K =
  bnd (pBin Try.prog .sub 3 (.tmp 25) (.const (.int .i64 1)) x6 (.int .i64 1)) fun x26 =>
  K .normal (act 67 [(0,x0),(5,x5),(6,x26)]) h:=kq_reg
noncomputable def F71_lrrlrlrlrr {β : Type} (inv : Inv) (k : Nat) : Nat→Value→Value→Value→AH→(Value→Value→Value→Value→AH→Option β)→Option β
 | 0,_,_,_,_,_=>none
 | j + 1,x0,x5,x6,h,ke1 =>
  bnd (pBin Try.prog .geq 3 (.tmp 23) (.const (.int .i64 0)) x6 (.int .i64 0)) fun x24 =>
  brV x24
  (bnd (pBin Try.prog .mul 3 (.const (.int .i64 8)) (.tmp 29) (.int .i64 8) x6) fun x30 =>
  bnd (pBin Try.prog .shr 123 (.tmp 28) (.tmp 30) x5 x30) fun x31 =>
  bnd (pConv Try.prog 123 5 x31 h) fun x32 =>
  bnd (pBuildSlice Try.prog 107 1 #[(0,x32)] h) fun x33 =>
  bnd (pAppend Try.prog #[107,107] x0 x33.1 x33.2) fun x34 =>
  bnd (pBin Try.prog .sub 3 (.tmp 25) (.const (.int .i64 1)) x6 (.int .i64 1)) fun x26 =>
  F71_lrrlrlrlrr inv k j x34.1 x5 x26 x34.2 ke1)
  (ke1 x0 x5 x6 x24 h)
theorem F71_lrrlrlrlrr_j (j : Nat) : kLoop (kCode env 71 false inv k (cp c71 3756)) j (act 67 [(0,x0),(5,x5),(6,x6)]) h K = F71_lrrlrlrlrr inv k j x0 x5 x6 h (fun y0 y5 y6 y24 h=>K (.exit 1) (act 67 [(0,y0),(5,y5),(6,y6),(24,y24)]) h):=by
   induction j generalizing x0 x5 x6 h with
   | zero=>rfl
   | succ j ih =>
    unfold F71_lrrlrlrlrr
    simp only [kLoop,kq_seq c71 3756,kq_seq c71 7512,r71_6,b71_rlllrrlrlrlrr,kq_skip c71 30050,kq_seq c71 7513,kq_block c71 15026 2,r71_8,r71_7,kq_exit c71 30051 1,ih,reduceIte,reduceCtorEq,XE.exit.injEq,Nat.reduceEqDiff,Nat.reduceMul,Nat.reduceAdd] <;> kernel_rfl
theorem F71_lrrlrlrlrr_eq  : kCode env 71 false inv k (cp c71 1878) (act 67 [(0,x0),(5,x5),(6,x6)]) h K = F71_lrrlrlrlrr inv k k x0 x5 x6 h (fun y0 y5 y6 y24 h=>K (.exit 1) (act 67 [(0,y0),(5,y5),(6,y6),(24,y24)]) h):=kq_loop (F71_lrrlrlrlrr_j k)
theorem r71_9  : kCode env 71 false inv k (cp c71 470) (act 67 [(0,x0),(3,x3),(16,x16),(17,x17)]) h K =
  bnd (pBin Try.prog .eql 3 (.tmp 16) (.const (.int .i64 2)) x16 (.int .i64 2)) fun x36 =>
  K .normal (act 67 [(0,x0),(3,x3),(16,x16),(35,x36)]) h:=kq_reg
theorem b71_rrrlrlrr  : kCode env 71 false inv k (cp c71 471) (act 67 [(0,x0),(3,x3),(16,x16),(35,x35)]) h K = brV x35 (kCode env 71 false inv k (cp c71 942) (act 67 [(0,x0),(3,x3),(16,x16),(35,x35)]) h K) (kCode env 71 false inv k (cp c71 943) (act 67 [(0,x0),(3,x3),(16,x16),(35,x35)]) h K):=kq_cond
theorem r71_10  : kCode env 71 false inv k (cp c71 942) (act 67 [(0,x0),(3,x3),(16,x16),(35,x35)]) h K =
  bnd (pFieldAddr Try.prog 37 x3 1) fun x38 =>
  bnd (pLoad Try.prog 2 x38 h) fun x39 =>
  bnd (pConv Try.prog 2 5 x39 h) fun x40 =>
  bnd (pBuildSlice Try.prog 107 1 #[(0,x40)] h) fun x41 =>
  bnd (pAppend Try.prog #[107,107] x0 x41.1 x41.2) fun x42 =>
  K .normal (act 67 [(0,x42.1)]) x42.2:=kq_reg
theorem r71_11  : kCode env 71 false inv k (cp c71 1886) (act 67 [(0,x0),(3,x3),(16,x16),(35,x35)]) h K =
  bnd (pBin Try.prog .eql 3 (.tmp 16) (.const (.int .i64 3)) x16 (.int .i64 3)) fun x44 =>
  K .normal (act 67 [(0,x0),(3,x3),(43,x44)]) h:=kq_reg
theorem b71_rrrrrlrlrr  : kCode env 71 false inv k (cp c71 1887) (act 67 [(0,x0),(3,x3),(43,x43)]) h K = brV x43 (kCode env 71 false inv k (cp c71 3774) (act 67 [(0,x0),(3,x3),(43,x43)]) h K) (kCode env 71 false inv k (cp c71 3775) (act 67 [(0,x0),(3,x3),(43,x43)]) h K):=kq_cond
theorem r71_12  : kCode env 71 false inv k (cp c71 15096) (act 67 [(0,x0),(3,x3),(43,x43)]) h K =
  bnd (pFieldAddr Try.prog 37 x3 2) fun x45 =>
  bnd (pLoad Try.prog 9 x45 h) fun x46 =>
  bnd (pBytes Try.prog 9 107 x46 h) fun x47 =>
  bnd (pLen Try.prog #[107] x47.1 x47.2) fun x48 =>
  K .normal (act 67 [(0,x0),(47,x47.1),(48,x48),(49,(.int .i64 0))]) x47.2:=kq_reg
theorem r71_13  : kCode env 71 false inv k (cp c71 120776) (act 67 [(0,x0),(47,x47),(48,x48),(49,x49)]) h K =
  bnd (pBin Try.prog .lss 3 (.tmp 49) (.tmp 48) x49 x48) fun x50 =>
  K .normal (act 67 [(0,x0),(47,x47),(48,x48),(49,x49),(50,x50)]) h:=kq_reg
theorem b71_lrllrllrrrrrlrlrr  : kCode env 71 false inv k (cp c71 241554) (act 67 [(0,x0),(47,x47),(48,x48),(49,x49),(50,x50)]) h K = brV x50 (kCode env 71 false inv k (cp c71 483108) (act 67 [(0,x0),(47,x47),(48,x48),(49,x49),(50,x50)]) h K) (kCode env 71 false inv k (cp c71 483109) (act 67 [(0,x0),(47,x47),(48,x48),(49,x49),(50,x50)]) h K):=kq_cond
theorem r71_14  : kCode env 71 false inv k (cp c71 1932440) (act 67 [(0,x0),(47,x47),(48,x48),(49,x49),(50,x50)]) h K =
  bnd (pIndexAddr Try.prog 107 x47 x49) fun x51 =>
  bnd (pLoad Try.prog 5 x51 h) fun x52 =>
  K .normal (act 67 [(0,x0),(8,x52),(47,x47),(48,x48),(49,x49)]) h:=kq_reg
theorem r71_15  : kCode env 71 false inv k (cp c71 3864882) (act 67 [(0,x0),(8,x8),(47,x47),(48,x48),(49,x49)]) h K =
  bnd (pBuildSlice Try.prog 107 1 #[(0,x8)] h) fun x55 =>
  bnd (pAppend Try.prog #[107,107] x0 x55.1 x55.2) fun x56 =>
  K .normal (act 67 [(0,x56.1),(8,x8),(47,x47),(48,x48),(49,x49)]) x56.2:=kq_reg
theorem r71_16  : kCode env 71 false inv k (cp c71 7729766) (act 67 [(0,x0),(8,x8),(47,x47),(48,x48),(49,x49)]) h K =
  bnd (pBin Try.prog .eql 5 (.tmp 57) (.const (.int .u8 0)) x8 (.int .u8 0)) fun x58 =>
  K .normal (act 67 [(0,x0),(47,x47),(48,x48),(49,x49),(58,x58)]) h:=kq_reg
theorem b71_rrrllrrllrllrrrrrlrlrr  : kCode env 71 false inv k (cp c71 7729767) (act 67 [(0,x0),(47,x47),(48,x48),(49,x49),(58,x58)]) h K = brV x58 (kCode env 71 false inv k (cp c71 15459534) (act 67 [(0,x0),(47,x47),(48,x48),(49,x49),(58,x58)]) h K) (kCode env 71 false inv k (cp c71 15459535) (act 67 [(0,x0),(47,x47),(48,x48),(49,x49),(58,x58)]) h K):=kq_cond
theorem r71_17  : kCode env 71 false inv k (cp c71 15459534) (act 67 [(0,x0),(47,x47),(48,x48),(49,x49),(58,x58)]) h K =
  bnd (pBuildSlice Try.prog 107 1 #[(0,(.int .u8 255))] h) fun x60 =>
  bnd (pAppend Try.prog #[107,107] x0 x60.1 x60.2) fun x61 =>
  K .normal (act 67 [(0,x61.1),(47,x47),(48,x48),(49,x49)]) x61.2:=kq_reg
noncomputable def F71_lrrllrllrrrrrlrlrr {β : Type} (inv : Inv) (k : Nat) (x0 x47 x48 x49 x50 : Value) (h : AH) (kn : (Value→Value→Value→Value→Value→AH→Option β)) : Option β :=
  bnd (pIndexAddr Try.prog 107 x47 x49) fun x51 =>
  bnd (pLoad Try.prog 5 x51 h) fun x52 =>
  bnd (pBuildSlice Try.prog 107 1 #[(0,x52)] h) fun x55 =>
  bnd (pAppend Try.prog #[107,107] x0 x55.1 x55.2) fun x56 =>
  bnd (pBin Try.prog .eql 5 (.tmp 57) (.const (.int .u8 0)) x52 (.int .u8 0)) fun x58 =>
  brV x58
  (bnd (pBuildSlice Try.prog 107 1 #[(0,(.int .u8 255))] x56.2) fun x60 =>
  bnd (pAppend Try.prog #[107,107] x56.1 x60.1 x60.2) fun x61 =>
  kn x61.1 x47 x48 x49 unk x61.2)
  (kn x56.1 x47 x48 x49 x58 x56.2)
theorem F71_lrrllrllrrrrrlrlrr_eq  : kCode env 71 false inv k (cp c71 483110) (act 67 [(0,x0),(47,x47),(48,x48),(49,x49),(50,x50)]) h K = F71_lrrllrllrrrrrlrlrr inv k x0 x47 x48 x49 x50 h (fun y0 y47 y48 y49 y58 h=>K .normal (act 67 [(0,y0),(47,y47),(48,y48),(49,y49),(58,y58)]) h):=by
   unfold F71_lrrllrllrrrrrlrlrr
   simp only [kq_block c71 483110 4,kq_seq c71 966220,r71_14,kq_seq c71 1932441,r71_15,kq_seq c71 3864883,r71_16,b71_rrrllrrllrllrrrrrlrlrr,r71_17,kq_skip c71 15459535,reduceIte,reduceCtorEq,XE.exit.injEq,Nat.reduceEqDiff,Nat.reduceMul,Nat.reduceAdd] <;> kernel_rfl
theorem r71_18  : kCode env 71 false inv k (cp c71 483111) (act 67 [(0,x0),(47,x47),(48,x48),(49,x49),(58,x58)]) h K =
  bnd (pBin Try.prog .add 3 (.tmp 49) (.const (.int .i64 1)) x49 (.int .i64 1)) fun x62 =>
  K .normal (act 67 [(0,x0),(47,x47),(48,x48),(49,x62)]) h:=kq_reg
noncomputable def F71_lrllrrrrrlrlrr {β : Type} (inv : Inv) (k : Nat) : Nat→Value→Value→Value→Value→AH→(Value→Value→Value→Value→Value→AH→Option β)→Option β
 | 0,_,_,_,_,_,_=>none
 | j + 1,x0,x47,x48,x49,h,ke3 =>
  bnd (pBin Try.prog .lss 3 (.tmp 49) (.tmp 48) x49 x48) fun x50 =>
  brV x50
  (F71_lrrllrllrrrrrlrlrr inv k x0 x47 x48 x49 x50 h
  (fun y0 y47 y48 y49 y58 h =>
  bnd (pBin Try.prog .add 3 (.tmp 49) (.const (.int .i64 1)) y49 (.int .i64 1)) fun x62 =>
  F71_lrllrrrrrlrlrr inv k j y0 y47 y48 x62 h ke3))
  (ke3 x0 x47 x48 x49 x50 h)
theorem F71_lrllrrrrrlrlrr_j (j : Nat) : kLoop (kCode env 71 false inv k (cp c71 60388)) j (act 67 [(0,x0),(47,x47),(48,x48),(49,x49)]) h K = F71_lrllrrrrrlrlrr inv k j x0 x47 x48 x49 h (fun y0 y47 y48 y49 y50 h=>K (.exit 3) (act 67 [(0,y0),(47,y47),(48,y48),(49,y49),(50,y50)]) h):=by
   induction j generalizing x0 x47 x48 x49 h with
   | zero=>rfl
   | succ j ih =>
    unfold F71_lrllrrrrrlrlrr
    simp only [kLoop,kq_seq c71 60388,r71_13,kq_seq c71 120777,b71_lrllrllrrrrrlrlrr,kq_skip c71 483108,kq_seq c71 241555,F71_lrrllrllrrrrrlrlrr_eq,r71_18,kq_exit c71 483109 3,ih,reduceIte,reduceCtorEq,XE.exit.injEq,Nat.reduceEqDiff,Nat.reduceMul,Nat.reduceAdd] <;> kernel_rfl
theorem F71_lrllrrrrrlrlrr_eq  : kCode env 71 false inv k (cp c71 30194) (act 67 [(0,x0),(47,x47),(48,x48),(49,x49)]) h K = F71_lrllrrrrrlrlrr inv k k x0 x47 x48 x49 h (fun y0 y47 y48 y49 y50 h=>K (.exit 3) (act 67 [(0,y0),(47,y47),(48,y48),(49,y49),(50,y50)]) h):=kq_loop (F71_lrllrrrrrlrlrr_j k)
theorem r71_19  : kCode env 71 false inv k (cp c71 7549) (act 67 [(0,x0),(47,x47),(48,x48),(49,x49),(50,x50)]) h K =
  bnd (pBuildSlice Try.prog 107 2 #[(0,(.int .u8 0)),(1,(.int .u8 0))] h) fun x64 =>
  bnd (pAppend Try.prog #[107,107] x0 x64.1 x64.2) fun x65 =>
  K .normal (act 67 [(0,x65.1)]) x65.2:=kq_reg
noncomputable def F71_rlrr {β : Type} (inv : Inv) (k : Nat) (x0 x3 x16 : Value) (h : AH) (kn : (Value→Value→Value→Value→Value→Value→AH→Option β)) : Option β :=
  bnd (pBin Try.prog .eql 3 (.tmp 16) (.const (.int .i64 1)) x16 (.int .i64 1)) fun x18 =>
  brV x18
  (bnd (pFieldAddr Try.prog 37 x3 1) fun x19 =>
  bnd (pLoad Try.prog 2 x19 h) fun x20 =>
  bnd (pConv Try.prog 2 123 x20 h) fun x21 =>
  bnd (pBin Try.prog .xor 123 (.tmp 21) (.const (.int .u64 9223372036854775808)) x21 (.int .u64 9223372036854775808)) fun x22 =>
  F71_lrrlrlrlrr inv k k x0 x22 (.int .i64 7) h
  (fun y0 y5 y6 y24 h =>
  kn y0 unk y5 y6 y24 unk h))
  (bnd (pBin Try.prog .eql 3 (.tmp 16) (.const (.int .i64 2)) x16 (.int .i64 2)) fun x36 =>
  brV x36
  (bnd (pFieldAddr Try.prog 37 x3 1) fun x38 =>
  bnd (pLoad Try.prog 2 x38 h) fun x39 =>
  bnd (pConv Try.prog 2 5 x39 h) fun x40 =>
  bnd (pBuildSlice Try.prog 107 1 #[(0,x40)] h) fun x41 =>
  bnd (pAppend Try.prog #[107,107] x0 x41.1 x41.2) fun x42 =>
  kn x42.1 unk unk unk unk unk x42.2)
  (bnd (pBin Try.prog .eql 3 (.tmp 16) (.const (.int .i64 3)) x16 (.int .i64 3)) fun x44 =>
  brV x44
  (bnd (pFieldAddr Try.prog 37 x3 2) fun x45 =>
  bnd (pLoad Try.prog 9 x45 h) fun x46 =>
  bnd (pBytes Try.prog 9 107 x46 h) fun x47 =>
  bnd (pLen Try.prog #[107] x47.1 x47.2) fun x48 =>
  F71_lrllrrrrrlrlrr inv k k x0 x47.1 x48 (.int .i64 0) x47.2
  (fun y0_1 y47 y48 y49 y50 h_2 =>
  bnd (pBuildSlice Try.prog 107 2 #[(0,(.int .u8 0)),(1,(.int .u8 0))] h_2) fun x64 =>
  bnd (pAppend Try.prog #[107,107] y0_1 x64.1 x64.2) fun x65 =>
  kn x65.1 unk unk unk unk unk x65.2))
  (kn x0 x3 unk unk unk x44 h)))
theorem F71_rlrr_eq  : kCode env 71 false inv k (cp c71 29) (act 67 [(0,x0),(3,x3),(16,x16)]) h K = F71_rlrr inv k x0 x3 x16 h (fun y0 y3 y5 y6 y24 y43 h=>K .normal (act 67 [(0,y0),(3,y3),(5,y5),(6,y6),(24,y24),(43,y43)]) h):=by
   unfold F71_rlrr
   simp only [kq_block c71 29 0,kq_seq c71 58,r71_3,b71_rlrlrr,kq_seq c71 234,r71_4,kq_seq c71 469,r71_5,kq_block c71 939 1,F71_lrrlrlrlrr_eq,kq_seq c71 235,r71_9,b71_rrrlrlrr,r71_10,kq_seq c71 943,r71_11,b71_rrrrrlrlrr,kq_seq c71 3774,kq_seq c71 7548,r71_12,kq_block c71 15097 3,F71_lrllrrrrrlrlrr_eq,r71_19,kq_skip c71 3775,reduceIte,reduceCtorEq,XE.exit.injEq,Nat.reduceEqDiff,Nat.reduceMul,Nat.reduceAdd] <;> kernel_rfl
theorem r71_20  : kCode env 71 false inv k (cp c71 30) (act 67 [(0,x0),(3,x3),(5,x5),(6,x6),(24,x24),(43,x43)]) h K =
  K .normal (act 67 [(4,x0)]) h:=kq_reg
theorem res71_0 : resOfFn env.P 71 .ret (act 67 [(4,x4)]) h = some (x4,h):=kq_res
/-- shadowbook/value.key -/
noncomputable def F71 (inv : Inv) (k : Nat) (x0 x1 : Value) (h : AH) : Option (Value × AH) :=
  bnd (pBox Try.prog 37 x1 h) fun x3 =>
  bnd (pFieldAddr Try.prog 37 x3.1 0) fun x10 =>
  bnd (pLoad Try.prog 3 x10 x3.2) fun x11 =>
  bnd (pConv Try.prog 3 5 x11 x3.2) fun x12 =>
  bnd (pBuildSlice Try.prog 107 1 #[(0,x12)] x3.2) fun x13 =>
  bnd (pAppend Try.prog #[107,107] x0 x13.1 x13.2) fun x14 =>
  bnd (pFieldAddr Try.prog 37 x3.1 0) fun x15 =>
  bnd (pLoad Try.prog 3 x15 x14.2) fun x16 =>
  F71_rlrr inv k x14.1 x3.1 x16 x14.2
  (fun y0 y3 y5 y6 y24 y43 h =>
  some (y0,h))
theorem F71_eq : eFun env k inv 71 #[x0,x1] h = F71 inv k x0 x1 h:=by
   refine (kq_fun (a:=act 67 [(0,x0),(1,x1)]) (c:=cp c71 1)).trans ?_
   unfold F71
   simp only [kq_seq c71 1,r71_0,kq_seq c71 3,r71_1,kq_seq c71 7,kq_seq c71 14,r71_2,F71_rlrr_eq,kq_seq c71 15,r71_20,kq_ret c71 31,res71_0,reduceIte,reduceCtorEq,XE.exit.injEq,Nat.reduceEqDiff,Nat.reduceMul,Nat.reduceAdd] <;> kernel_rfl
theorem F71_call : eInv env (k + 1) (.func 71) #[] #[x0,x1] h = F71 (eInv env k) k x0 x1 h:=kq_inv F71_eq
noncomputable def c72 : Code:=codeOf Try.prog 72
theorem r72_0  : kCode env 72 false inv k (cp c72 2) (act 19 [(0,x0),(1,x1)]) h K =
  K .normal (act 19 [(0,x0),(1,x1)]) h:=kq_reg
theorem r72_1  : kCode env 72 false inv k (cp c72 12) (act 19 [(0,x0),(1,x1)]) h K =
  bnd (pLen Try.prog #[22] x0 h) fun x7 =>
  K .normal (act 19 [(0,x0),(1,x1),(7,x7),(8,(.int .i64 0))]) h:=kq_reg
theorem r72_2  : kCode env 72 false inv k (cp c72 104) (act 19 [(0,x0),(1,x1),(7,x7),(8,x8)]) h K =
  bnd (pBin Try.prog .lss 3 (.tmp 8) (.tmp 7) x8 x7) fun x9 =>
  K .normal (act 19 [(0,x0),(1,x1),(7,x7),(8,x8),(9,x9)]) h:=kq_reg
theorem b72_lrllrlr  : kCode env 72 false inv k (cp c72 210) (act 19 [(0,x0),(1,x1),(7,x7),(8,x8),(9,x9)]) h K = brV x9 (kCode env 72 false inv k (cp c72 420) (act 19 [(0,x0),(1,x1),(7,x7),(8,x8),(9,x9)]) h K) (kCode env 72 false inv k (cp c72 421) (act 19 [(0,x0),(1,x1),(7,x7),(8,x8),(9,x9)]) h K):=kq_cond
theorem r72_3  : kCode env 72 false inv k (cp c72 1688) (act 19 [(0,x0),(1,x1),(7,x7),(8,x8),(9,x9)]) h K =
  K .normal (act 19 [(0,x0),(1,x1),(5,x8),(7,x7),(8,x8)]) h:=kq_reg
theorem r72_4  : kCode env 72 false inv k (cp c72 3378) (act 19 [(0,x0),(1,x1),(5,x5),(7,x7),(8,x8)]) h K =
  bnd (pIndexAddr Try.prog 22 x0 x5) fun x14 =>
  bnd (pLoad Try.prog 42 x14 h) fun x15 =>
  bnd (callV inv x1 #[x15] h) fun x16 =>
  K .normal (act 19 [(0,x0),(1,x1),(5,x5),(7,x7),(8,x8),(16,x16.1)]) x16.2:=kq_reg
theorem b72_rrllrrllrlr  : kCode env 72 false inv k (cp c72 3379) (act 19 [(0,x0),(1,x1),(5,x5),(7,x7),(8,x8),(16,x16)]) h K = brV x16 (kCode env 72 false inv k (cp c72 6758) (act 19 [(0,x0),(1,x1),(5,x5),(7,x7),(8,x8),(16,x16)]) h K) (kCode env 72 false inv k (cp c72 6759) (act 19 [(0,x0),(1,x1),(5,x5),(7,x7),(8,x8),(16,x16)]) h K):=kq_cond
theorem r72_5  : kCode env 72 false inv k (cp c72 13516) (act 19 [(0,x0),(1,x1),(5,x5),(7,x7),(8,x8),(16,x16)]) h K =
  K .normal (act 19 [(4,x5)]) h:=kq_reg
theorem r72_6  : kCode env 72 false inv k (cp c72 423) (act 19 [(0,x0),(1,x1),(5,x5),(7,x7),(8,x8),(16,x16)]) h K =
  bnd (pBin Try.prog .add 3 (.tmp 8) (.const (.int .i64 1)) x8 (.int .i64 1)) fun x18 =>
  K .normal (act 19 [(0,x0),(1,x1),(7,x7),(8,x18)]) h:=kq_reg
noncomputable def F72_lrlr {β : Type} (inv : Inv) (k : Nat) : Nat→Value→Value→Value→Value→AH→(Value→Value→Value→Value→Value→AH→Option β)→(Value→AH→Option β)→Option β
 | 0,_,_,_,_,_,_,_=>none
 | j + 1,x0,x1,x7,x8,h,ke0,kr =>
  bnd (pBin Try.prog .lss 3 (.tmp 8) (.tmp 7) x8 x7) fun x9 =>
  brV x9
  (bnd (pIndexAddr Try.prog 22 x0 x8) fun x14 =>
  bnd (pLoad Try.prog 42 x14 h) fun x15 =>
  bnd (callV inv x1 #[x15] h) fun x16 =>
  brV x16.1
  (kr x8 x16.2)
  (bnd (pBin Try.prog .add 3 (.tmp 8) (.const (.int .i64 1)) x8 (.int .i64 1)) fun x18 =>
  F72_lrlr inv k j x0 x1 x7 x18 x16.2 ke0 kr))
  (ke0 x0 x1 x7 x8 x9 h)
theorem F72_lrlr_j (j : Nat) : kLoop (kCode env 72 false inv k (cp c72 52)) j (act 19 [(0,x0),(1,x1),(7,x7),(8,x8)]) h K = F72_lrlr inv k j x0 x1 x7 x8 h (fun y0 y1 y7 y8 y9 h=>K (.exit 0) (act 19 [(0,y0),(1,y1),(7,y7),(8,y8),(9,y9)]) h) (fun y4 h=>K .ret (act 19 [(4,y4)]) h):=by
   induction j generalizing x0 x1 x7 x8 h with
   | zero=>rfl
   | succ j ih =>
    unfold F72_lrlr
    simp only [kLoop,kq_seq c72 52,r72_2,kq_seq c72 105,b72_lrllrlr,kq_skip c72 420,kq_seq c72 211,kq_block c72 422 1,kq_seq c72 844,r72_3,kq_seq c72 1689,r72_4,b72_rrllrrllrlr,kq_seq c72 6758,r72_5,kq_ret c72 13517,kq_skip c72 6759,r72_6,kq_exit c72 421 0,ih,reduceIte,reduceCtorEq,XE.exit.injEq,Nat.reduceEqDiff,Nat.reduceMul,Nat.reduceAdd] <;> kernel_rfl
theorem F72_lrlr_eq  : kCode env 72 false inv k (cp c72 26) (act 19 [(0,x0),(1,x1),(7,x7),(8,x8)]) h K = F72_lrlr inv k k x0 x1 x7 x8 h (fun y0 y1 y7 y8 y9 h=>K (.exit 0) (act 19 [(0,y0),(1,y1),(7,y7),(8,y8),(9,y9)]) h) (fun y4 h=>K .ret (act 19 [(4,y4)]) h):=kq_loop (F72_lrlr_j k)
theorem r72_7  : kCode env 72 false inv k (cp c72 14) (act 19 [(0,x0),(1,x1),(7,x7),(8,x8),(9,x9)]) h K =
  K .normal (act 19 [(4,(.int .i64 (-1)))]) h:=kq_reg
theorem res72_0 : resOfFn env.P 72 .ret (act 19 [(4,x4)]) h = some (x4,h):=kq_res
/-- slices.IndexFunc[[]shadowbook/api.Col,shadowbook/api.Col] -/
noncomputable def F72 (inv : Inv) (k : Nat) (x0 x1 : Value) (h : AH) : Option (Value × AH) :=
  bnd (pLen Try.prog #[22] x0 h) fun x7 =>
  F72_lrlr inv k k x0 x1 x7 (.int .i64 0) h
  (fun y0 y1 y7 y8 y9 h =>
  some ((.int .i64 (-1)),h))
  (fun y4 h_1 =>
  some (y4,h_1))
theorem F72_eq : eFun env k inv 72 #[x0,x1] h = F72 inv k x0 x1 h:=by
   refine (kq_fun (a:=act 19 [(0,x0),(1,x1)]) (c:=cp c72 1)).trans ?_
   unfold F72
   simp only [kq_seq c72 1,r72_0,kq_seq c72 3,kq_seq c72 6,r72_1,kq_block c72 13 0,F72_lrlr_eq,kq_seq c72 7,r72_7,kq_ret c72 15,res72_0,reduceIte,reduceCtorEq,XE.exit.injEq,Nat.reduceEqDiff,Nat.reduceMul,Nat.reduceAdd] <;> kernel_rfl
theorem F72_call : eInv env (k + 1) (.func 72) #[] #[x0,x1] h = F72 (eInv env k) k x0 x1 h:=kq_inv F72_eq
noncomputable def c109 : Code:=codeOf Try.prog 109
theorem r109_0  : kCode env 109 false inv k (cp c109 1) (act 11 [(0,x0),(1,x1)]) h K =
  bnd (pNilCheck Try.prog x0) fun x5 =>
  bnd (pFieldAddr Try.prog 111 x5 0) fun x6 =>
  bnd (pLoad Try.prog 2 x6 h) fun x7 =>
  bnd (pBin Try.prog .add 2 (.tmp 7) (.const (.int .i64 1)) x7 (.int .i64 1)) fun x8 =>
  bnd (pNilCheck Try.prog x0) fun x9 =>
  bnd (pFieldAddr Try.prog 111 x9 0) fun x10 =>
  bnd (kSt (pStore Try.prog 2 x10 x8 h)) fun u =>
  K .normal (act 11 []) u.2:=kq_reg
theorem res109_0 : resOfFn env.P 109 .normal (act 11 []) h = some (.tuple #[],h):=kq_res
/-- (*shadowbook/agg.count).add -/
noncomputable def F109 (inv : Inv) (k : Nat) (x0 x1 : Value) (h : AH) : Option (Value × AH) :=
  bnd (pNilCheck Try.prog x0) fun x5 =>
  bnd (pFieldAddr Try.prog 111 x5 0) fun x6 =>
  bnd (pLoad Try.prog 2 x6 h) fun x7 =>
  bnd (pBin Try.prog .add 2 (.tmp 7) (.const (.int .i64 1)) x7 (.int .i64 1)) fun x8 =>
  bnd (pNilCheck Try.prog x0) fun x9 =>
  bnd (pFieldAddr Try.prog 111 x9 0) fun x10 =>
  bnd (kSt (pStore Try.prog 2 x10 x8 h)) fun u =>
  some (.tuple #[],u.2)
theorem F109_eq : eFun env k inv 109 #[x0,x1] h = F109 inv k x0 x1 h:=by
   refine (kq_fun (a:=act 11 [(0,x0),(1,x1)]) (c:=cp c109 1)).trans ?_
   unfold F109
   simp only [r109_0,res109_0,reduceIte,reduceCtorEq,XE.exit.injEq,Nat.reduceEqDiff,Nat.reduceMul,Nat.reduceAdd] <;> kernel_rfl
theorem F109_call : eInv env (k + 1) (.func 109) #[] #[x0,x1] h = F109 (eInv env k) k x0 x1 h:=kq_inv F109_eq
noncomputable def c111 : Code:=codeOf Try.prog 111
theorem r111_0  : kCode env 111 false inv k (cp c111 2) (act 8 [(0,x0)]) h K =
  bnd (pAlloc Try.prog 37 h) fun x2 =>
  K .normal (act 8 [(0,x0),(2,x2.1)]) x2.2:=kq_reg
theorem r111_1  : kCode env 111 false inv k (cp c111 6) (act 8 [(0,x0),(2,x2)]) h K =
  bnd (pNilCheck Try.prog x0) fun x4 =>
  bnd (pFieldAddr Try.prog 111 x4 0) fun x5 =>
  bnd (pLoad Try.prog 2 x5 h) fun x6 =>
  bnd (pBuild Try.prog 37 #[(0,(.int .i64 1)),(1,x6)]) fun x7 =>
  bnd (kSt (pStore Try.prog 37 x2 x7 h)) fun u =>
  K .normal (act 8 [(2,x2)]) u.2:=kq_reg
theorem res111_0 : resOfFn env.P 111 .ret (act 8 [(2,x2)]) h = bnd (pLoad Try.prog 37 x2 h) fun q0 =>
  some (q0,h):=kq_res
/-- (*shadowbook/agg.count).told -/
noncomputable def F111 (inv : Inv) (k : Nat) (x0 : Value) (h : AH) : Option (Value × AH) :=
  bnd (pAlloc Try.prog 37 h) fun x2 =>
  bnd (pNilCheck Try.prog x0) fun x4 =>
  bnd (pFieldAddr Try.prog 111 x4 0) fun x5 =>
  bnd (pLoad Try.prog 2 x5 x2.2) fun x6 =>
  bnd (pBuild Try.prog 37 #[(0,(.int .i64 1)),(1,x6)]) fun x7 =>
  bnd (kSt (pStore Try.prog 37 x2.1 x7 x2.2)) fun u =>
  bnd (pLoad Try.prog 37 x2.1 u.2) fun q0 =>
  some (q0,u.2)
theorem F111_eq : eFun env k inv 111 #[x0] h = F111 inv k x0 h:=by
   refine (kq_fun (a:=act 8 [(0,x0)]) (c:=cp c111 1)).trans ?_
   unfold F111
   simp only [kq_seq c111 1,r111_0,kq_seq c111 3,r111_1,kq_ret c111 7,res111_0,reduceIte,reduceCtorEq,XE.exit.injEq,Nat.reduceEqDiff,Nat.reduceMul,Nat.reduceAdd] <;> kernel_rfl
theorem F111_call : eInv env (k + 1) (.func 111) #[] #[x0] h = F111 (eInv env k) k x0 h:=kq_inv F111_eq
noncomputable def c112 : Code:=codeOf Try.prog 112
theorem r112_0  : kCode env 112 false inv k (cp c112 1) (act 13 [(0,x0),(1,x1)]) h K =
  bnd (pNilCheck Try.prog x0) fun x7 =>
  bnd (pFieldAddr Try.prog 114 x7 0) fun x8 =>
  bnd (pLoad Try.prog 3 x8 h) fun x9 =>
  bnd (pIndexAddr Try.prog 34 x1 x9) fun x10 =>
  bnd (pLoad Try.prog 37 x10 h) fun x11 =>
  bnd (inv (.func 115) #[] #[x0,x11] h) fun x12 =>
  K .normal (act 13 []) x12.2:=kq_reg
theorem res112_0 : resOfFn env.P 112 .normal (act 13 []) h = some (.tuple #[],h):=kq_res
/-- (*shadowbook/agg.sum).add -/
noncomputable def F112 (inv : Inv) (k : Nat) (x0 x1 : Value) (h : AH) : Option (Value × AH) :=
  bnd (pNilCheck Try.prog x0) fun x7 =>
  bnd (pFieldAddr Try.prog 114 x7 0) fun x8 =>
  bnd (pLoad Try.prog 3 x8 h) fun x9 =>
  bnd (pIndexAddr Try.prog 34 x1 x9) fun x10 =>
  bnd (pLoad Try.prog 37 x10 h) fun x11 =>
  bnd (inv (.func 115) #[] #[x0,x11] h) fun x12 =>
  some (.tuple #[],x12.2)
theorem F112_eq : eFun env k inv 112 #[x0,x1] h = F112 inv k x0 x1 h:=by
   refine (kq_fun (a:=act 13 [(0,x0),(1,x1)]) (c:=cp c112 1)).trans ?_
   unfold F112
   simp only [r112_0,res112_0,reduceIte,reduceCtorEq,XE.exit.injEq,Nat.reduceEqDiff,Nat.reduceMul,Nat.reduceAdd] <;> kernel_rfl
theorem F112_call : eInv env (k + 1) (.func 112) #[] #[x0,x1] h = F112 (eInv env k) k x0 x1 h:=kq_inv F112_eq
noncomputable def c114 : Code:=codeOf Try.prog 114
theorem r114_0  : kCode env 114 false inv k (cp c114 2) (act 7 [(0,x0)]) h K =
  bnd (pAlloc Try.prog 37 h) fun x2 =>
  K .normal (act 7 [(0,x0),(2,x2.1)]) x2.2:=kq_reg
theorem r114_1  : kCode env 114 false inv k (cp c114 6) (act 7 [(0,x0),(2,x2)]) h K =
  bnd (pNilCheck Try.prog x0) fun x4 =>
  bnd (pFieldAddr Try.prog 114 x4 1) fun x5 =>
  bnd (pLoad Try.prog 37 x5 h) fun x6 =>
  bnd (kSt (pStore Try.prog 37 x2 x6 h)) fun u =>
  K .normal (act 7 [(2,x2)]) u.2:=kq_reg
theorem res114_0 : resOfFn env.P 114 .ret (act 7 [(2,x2)]) h = bnd (pLoad Try.prog 37 x2 h) fun q0 =>
  some (q0,h):=kq_res
/-- (*shadowbook/agg.sum).told -/
noncomputable def F114 (inv : Inv) (k : Nat) (x0 : Value) (h : AH) : Option (Value × AH) :=
  bnd (pAlloc Try.prog 37 h) fun x2 =>
  bnd (pNilCheck Try.prog x0) fun x4 =>
  bnd (pFieldAddr Try.prog 114 x4 1) fun x5 =>
  bnd (pLoad Try.prog 37 x5 x2.2) fun x6 =>
  bnd (kSt (pStore Try.prog 37 x2.1 x6 x2.2)) fun u =>
  bnd (pLoad Try.prog 37 x2.1 u.2) fun q0 =>
  some (q0,u.2)
theorem F114_eq : eFun env k inv 114 #[x0] h = F114 inv k x0 h:=by
   refine (kq_fun (a:=act 7 [(0,x0)]) (c:=cp c114 1)).trans ?_
   unfold F114
   simp only [kq_seq c114 1,r114_0,kq_seq c114 3,r114_1,kq_ret c114 7,res114_0,reduceIte,reduceCtorEq,XE.exit.injEq,Nat.reduceEqDiff,Nat.reduceMul,Nat.reduceAdd] <;> kernel_rfl
theorem F114_call : eInv env (k + 1) (.func 114) #[] #[x0] h = F114 (eInv env k) k x0 h:=kq_inv F114_eq
noncomputable def c115 : Code:=codeOf Try.prog 115
theorem r115_0  : kCode env 115 false inv k (cp c115 2) (act 25 [(0,x0),(1,x1)]) h K =
  bnd (pBox Try.prog 37 x1 h) fun x3 =>
  K .normal (act 25 [(0,x0),(3,x3.1)]) x3.2:=kq_reg
theorem r115_1  : kCode env 115 false inv k (cp c115 6) (act 25 [(0,x0),(3,x3)]) h K =
  bnd (pFieldAddr Try.prog 37 x3 0) fun x4 =>
  bnd (pLoad Try.prog 3 x4 h) fun x5 =>
  bnd (pBin Try.prog .neq 3 (.tmp 5) (.const (.int .i64 0)) x5 (.int .i64 0)) fun x6 =>
  K .normal (act 25 [(0,x0),(3,x3),(6,x6)]) h:=kq_reg
theorem b115_rr  : kCode env 115 false inv k (cp c115 7) (act 25 [(0,x0),(3,x3),(6,x6)]) h K = brV x6 (kCode env 115 false inv k (cp c115 14) (act 25 [(0,x0),(3,x3),(6,x6)]) h K) (kCode env 115 false inv k (cp c115 15) (act 25 [(0,x0),(3,x3),(6,x6)]) h K):=kq_cond
noncomputable abbrev G115_2 {β : Type} (inv : Inv) (x0 x3 : Value) (h : AH) (K : AH→Option β) : Option β :=
  bnd (pFieldAddr Try.prog 37 x3 0) fun x9 =>
  bnd (pLoad Try.prog 3 x9 h) fun x10 =>
  bnd (pNilCheck Try.prog x0) fun x12 =>
  bnd (pFieldAddr Try.prog 114 x12 1) fun x13 =>
  bnd (pFieldAddr Try.prog 37 x13 1) fun x14 =>
  bnd (pLoad Try.prog 2 x14 h) fun x15 =>
  bnd (pFieldAddr Try.prog 37 x3 1) fun x16 =>
  bnd (pLoad Try.prog 2 x16 h) fun x17 =>
  bnd (pBin Try.prog .add 2 (.tmp 15) (.tmp 17) x15 x17) fun x18 =>
  bnd (pNilCheck Try.prog x0) fun x19 =>
  bnd (pFieldAddr Try.prog 114 x19 1) fun x20 =>
  bnd (pFieldAddr Try.prog 37 x20 0) fun x21 =>
  bnd (kSt (pStore Try.prog 3 x21 x10 h)) fun u =>
  bnd (pNilCheck Try.prog x0) fun x22 =>
  bnd (pFieldAddr Try.prog 114 x22 1) fun x23 =>
  bnd (pFieldAddr Try.prog 37 x23 1) fun x24 =>
  bnd (kSt (pStore Try.prog 2 x24 x18 u.2)) fun u_1 =>
  chkK ((!true || !true || (sameO (pLoad Try.prog 2 x16 h) x17 && sameO (pLoad Try.prog 2 x16 u.2) x17)) && true) <|
  K u_1.2
theorem r115_2  : kCode env 115 false inv k (cp c115 14) (act 25 [(0,x0),(3,x3),(6,x6)]) h K =
  G115_2 inv x0 x3 h fun  h=>K .normal (act 25 []) h:=kq_draw
theorem res115_0 : resOfFn env.P 115 .normal (act 25 []) h = some (.tuple #[],h):=kq_res
theorem res115_1 : resOfFn env.P 115 .normal (act 25 [(0,x0),(3,x3),(6,x6)]) h = some (.tuple #[],h):=kq_res
/-- (*shadowbook/agg.sum).put -/
noncomputable def F115 (inv : Inv) (k : Nat) (x0 x1 : Value) (h : AH) : Option (Value × AH) :=
  bnd (pBox Try.prog 37 x1 h) fun x3 =>
  bnd (pFieldAddr Try.prog 37 x3.1 0) fun x4 =>
  bnd (pLoad Try.prog 3 x4 x3.2) fun x5 =>
  bnd (pBin Try.prog .neq 3 (.tmp 5) (.const (.int .i64 0)) x5 (.int .i64 0)) fun x6 =>
  brV x6
  (G115_2 inv x0 x3.1 x3.2 fun  h =>
  some (.tuple #[],h))
  (some (.tuple #[],x3.2))
theorem F115_eq : eFun env k inv 115 #[x0,x1] h = F115 inv k x0 x1 h:=by
   refine (kq_fun (a:=act 25 [(0,x0),(1,x1)]) (c:=cp c115 1)).trans ?_
   unfold F115
   simp only [kq_seq c115 1,r115_0,kq_seq c115 3,r115_1,b115_rr,r115_2,res115_0,kq_skip c115 15,res115_1,reduceIte,reduceCtorEq,XE.exit.injEq,Nat.reduceEqDiff,Nat.reduceMul,Nat.reduceAdd] <;> kernel_rfl
theorem F115_call : eInv env (k + 1) (.func 115) #[] #[x0,x1] h = F115 (eInv env k) k x0 x1 h:=kq_inv F115_eq
noncomputable def c116 : Code:=codeOf Try.prog 116
theorem r116_0  : kCode env 116 false inv k (cp c116 1) (act 13 [(0,x0),(1,x1)]) h K =
  bnd (pNilCheck Try.prog x0) fun x7 =>
  bnd (pFieldAddr Try.prog 117 x7 0) fun x8 =>
  bnd (pLoad Try.prog 3 x8 h) fun x9 =>
  bnd (pIndexAddr Try.prog 34 x1 x9) fun x10 =>
  bnd (pLoad Try.prog 37 x10 h) fun x11 =>
  bnd (inv (.func 119) #[] #[x0,x11] h) fun x12 =>
  K .normal (act 13 []) x12.2:=kq_reg
theorem res116_0 : resOfFn env.P 116 .normal (act 13 []) h = some (.tuple #[],h):=kq_res
/-- (*shadowbook/agg.most).add -/
noncomputable def F116 (inv : Inv) (k : Nat) (x0 x1 : Value) (h : AH) : Option (Value × AH) :=
  bnd (pNilCheck Try.prog x0) fun x7 =>
  bnd (pFieldAddr Try.prog 117 x7 0) fun x8 =>
  bnd (pLoad Try.prog 3 x8 h) fun x9 =>
  bnd (pIndexAddr Try.prog 34 x1 x9) fun x10 =>
  bnd (pLoad Try.prog 37 x10 h) fun x11 =>
  bnd (inv (.func 119) #[] #[x0,x11] h) fun x12 =>
  some (.tuple #[],x12.2)
theorem F116_eq : eFun env k inv 116 #[x0,x1] h = F116 inv k x0 x1 h:=by
   refine (kq_fun (a:=act 13 [(0,x0),(1,x1)]) (c:=cp c116 1)).trans ?_
   unfold F116
   simp only [r116_0,res116_0,reduceIte,reduceCtorEq,XE.exit.injEq,Nat.reduceEqDiff,Nat.reduceMul,Nat.reduceAdd] <;> kernel_rfl
theorem F116_call : eInv env (k + 1) (.func 116) #[] #[x0,x1] h = F116 (eInv env k) k x0 x1 h:=kq_inv F116_eq
noncomputable def c118 : Code:=codeOf Try.prog 118
theorem r118_0  : kCode env 118 false inv k (cp c118 2) (act 7 [(0,x0)]) h K =
  bnd (pAlloc Try.prog 37 h) fun x2 =>
  K .normal (act 7 [(0,x0),(2,x2.1)]) x2.2:=kq_reg
theorem r118_1  : kCode env 118 false inv k (cp c118 6) (act 7 [(0,x0),(2,x2)]) h K =
  bnd (pNilCheck Try.prog x0) fun x4 =>
  bnd (pFieldAddr Try.prog 117 x4 2) fun x5 =>
  bnd (pLoad Try.prog 37 x5 h) fun x6 =>
  bnd (kSt (pStore Try.prog 37 x2 x6 h)) fun u =>
  K .normal (act 7 [(2,x2)]) u.2:=kq_reg
theorem res118_0 : resOfFn env.P 118 .ret (act 7 [(2,x2)]) h = bnd (pLoad Try.prog 37 x2 h) fun q0 =>
  some (q0,h):=kq_res
/-- (*shadowbook/agg.most).told -/
noncomputable def F118 (inv : Inv) (k : Nat) (x0 : Value) (h : AH) : Option (Value × AH) :=
  bnd (pAlloc Try.prog 37 h) fun x2 =>
  bnd (pNilCheck Try.prog x0) fun x4 =>
  bnd (pFieldAddr Try.prog 117 x4 2) fun x5 =>
  bnd (pLoad Try.prog 37 x5 x2.2) fun x6 =>
  bnd (kSt (pStore Try.prog 37 x2.1 x6 x2.2)) fun u =>
  bnd (pLoad Try.prog 37 x2.1 u.2) fun q0 =>
  some (q0,u.2)
theorem F118_eq : eFun env k inv 118 #[x0] h = F118 inv k x0 h:=by
   refine (kq_fun (a:=act 7 [(0,x0)]) (c:=cp c118 1)).trans ?_
   unfold F118
   simp only [kq_seq c118 1,r118_0,kq_seq c118 3,r118_1,kq_ret c118 7,res118_0,reduceIte,reduceCtorEq,XE.exit.injEq,Nat.reduceEqDiff,Nat.reduceMul,Nat.reduceAdd] <;> kernel_rfl
theorem F118_call : eInv env (k + 1) (.func 118) #[] #[x0] h = F118 (eInv env k) k x0 h:=kq_inv F118_eq
noncomputable def c119 : Code:=codeOf Try.prog 119
theorem r119_0  : kCode env 119 false inv k (cp c119 2) (act 33 [(0,x0),(1,x1)]) h K =
  bnd (pBox Try.prog 37 x1 h) fun x3 =>
  K .normal (act 33 [(0,x0),(3,x3.1)]) x3.2:=kq_reg
noncomputable abbrev G119_1 {β : Type} (inv : Inv) (x0 x3 : Value) (h : AH) (K : Value→AH→Option β) : Option β :=
  bnd (pFieldAddr Try.prog 37 x3 0) fun x4 =>
  bnd (pLoad Try.prog 3 x4 h) fun x5 =>
  bnd (pBin Try.prog .neq 3 (.tmp 5) (.const (.int .i64 0)) x5 (.int .i64 0)) fun x6 =>
  bnd (gd3 (some x6) true h (some (x0,h))) fun x8 =>
  bnd (gd3 (some x6) true x8.2.1 (lt (pNilCheck Try.prog x8.1) x8.2.1)) fun x9 =>
  bnd (gd3 (some x6) true x9.2.1 (lt (pFieldAddr Try.prog 117 x9.1 2) x9.2.1)) fun x10 =>
  bnd (gd3 (some x6) true x10.2.1 (lt (pFieldAddr Try.prog 37 x10.1 0) x10.2.1)) fun x11 =>
  bnd (gd3 (some x6) true x11.2.1 (lt (pLoad Try.prog 3 x11.1 x11.2.1) x11.2.1)) fun x12 =>
  bnd (gd3 (some x6) true x12.2.1 (lt (pBin Try.prog .eql 3 (.tmp 12) (.const (.int .i64 0)) x12.1 (.int .i64 0)) x12.2.1)) fun x13 =>
  bnd (gd3 (some x6) true x13.2.1 (some (x13.1,x13.2.1))) fun x14 =>
  bnd (gd3 (some x14.1) false x14.2.1 (some (x0,x14.2.1))) fun x15 =>
  bnd (gd3 (some x14.1) false x15.2.1 (lt (pNilCheck Try.prog x15.1) x15.2.1)) fun x16 =>
  bnd (gd3 (some x14.1) false x16.2.1 (lt (pFieldAddr Try.prog 117 x16.1 1) x16.2.1)) fun x17 =>
  bnd (gd3 (some x14.1) false x17.2.1 (lt (pLoad Try.prog 3 x17.1 x17.2.1) x17.2.1)) fun x18 =>
  bnd (gd3 (some x14.1) false x18.2.1 (lt (pLoad Try.prog 37 x3 x18.2.1) x18.2.1)) fun x19 =>
  bnd (gd3 (some x14.1) false x19.2.1 (some (x0,x19.2.1))) fun x20 =>
  bnd (gd3 (some x14.1) false x20.2.1 (lt (pNilCheck Try.prog x20.1) x20.2.1)) fun x21 =>
  bnd (gd3 (some x14.1) false x21.2.1 (lt (pFieldAddr Try.prog 117 x21.1 2) x21.2.1)) fun x22 =>
  bnd (gd3 (some x14.1) false x22.2.1 (lt (pLoad Try.prog 37 x22.1 x22.2.1) x22.2.1)) fun x23 =>
  bnd (gd3 (some x14.1) false x23.2.1 (inv (.func 120) #[] #[x19.1,x23.1] x23.2.1)) fun x24 =>
  bnd (gd3 (some x14.1) false x24.2.1 (lt (pBin Try.prog .mul 3 (.tmp 18) (.tmp 24) x18.1 x24.1) x24.2.1)) fun x25 =>
  bnd (gd3 (some x14.1) false x25.2.1 (lt (pBin Try.prog .gtr 3 (.tmp 25) (.const (.int .i64 0)) x25.1 (.int .i64 0)) x25.2.1)) fun x26 =>
  bnd (gd3 (some x6) true x26.2.1 (lt (pickV x14.1 (.bool true) x26.1) x26.2.1)) fun x27 =>
  bnd (pickV x6 x27.1 (.bool false)) fun x28 =>
  chkK ((!x18.2.2 || !x24.2.2 || (sameO (pLoad Try.prog 3 x17.1 x23.2.1) x18.1 && sameO (pLoad Try.prog 3 x17.1 x24.2.1) x18.1)) && true) <|
  K (x28) x27.2.1
theorem r119_1  : kCode env 119 false inv k (cp c119 6) (act 33 [(0,x0),(3,x3)]) h K =
  G119_1 inv x0 x3 h fun y28 h=>K .normal (act 33 [(0,x0),(3,x3),(28,y28)]) h:=kq_draw
theorem b119_rr  : kCode env 119 false inv k (cp c119 7) (act 33 [(0,x0),(3,x3),(28,x28)]) h K = brV x28 (kCode env 119 false inv k (cp c119 14) (act 33 [(0,x0),(3,x3),(28,x28)]) h K) (kCode env 119 false inv k (cp c119 15) (act 33 [(0,x0),(3,x3),(28,x28)]) h K):=kq_cond
theorem r119_2  : kCode env 119 false inv k (cp c119 14) (act 33 [(0,x0),(3,x3),(28,x28)]) h K =
  bnd (pLoad Try.prog 37 x3 h) fun x30 =>
  bnd (pNilCheck Try.prog x0) fun x31 =>
  bnd (pFieldAddr Try.prog 117 x31 2) fun x32 =>
  bnd (kSt (pStore Try.prog 37 x32 x30 h)) fun u =>
  K .normal (act 33 []) u.2:=kq_reg
theorem res119_0 : resOfFn env.P 119 .normal (act 33 []) h = some (.tuple #[],h):=kq_res
theorem res119_1 : resOfFn env.P 119 .normal (act 33 [(0,x0),(3,x3),(28,x28)]) h = some (.tuple #[],h):=kq_res
/-- (*shadowbook/agg.most).put -/
noncomputable def F119 (inv : Inv) (k : Nat) (x0 x1 : Value) (h : AH) : Option (Value × AH) :=
  bnd (pBox Try.prog 37 x1 h) fun x3 =>
  G119_1 inv x0 x3.1 x3.2 fun y28 h =>
  brV y28
  (bnd (pLoad Try.prog 37 x3.1 h) fun x30 =>
  bnd (pNilCheck Try.prog x0) fun x31 =>
  bnd (pFieldAddr Try.prog 117 x31 2) fun x32 =>
  bnd (kSt (pStore Try.prog 37 x32 x30 h)) fun u =>
  some (.tuple #[],u.2))
  (some (.tuple #[],h))
theorem F119_eq : eFun env k inv 119 #[x0,x1] h = F119 inv k x0 x1 h:=by
   refine (kq_fun (a:=act 33 [(0,x0),(1,x1)]) (c:=cp c119 1)).trans ?_
   unfold F119
   simp only [kq_seq c119 1,r119_0,kq_seq c119 3,r119_1,b119_rr,r119_2,res119_0,kq_skip c119 15,res119_1,reduceIte,reduceCtorEq,XE.exit.injEq,Nat.reduceEqDiff,Nat.reduceMul,Nat.reduceAdd] <;> kernel_rfl
theorem F119_call : eInv env (k + 1) (.func 119) #[] #[x0,x1] h = F119 (eInv env k) k x0 x1 h:=kq_inv F119_eq
noncomputable def c120 : Code:=codeOf Try.prog 120
theorem r120_0  : kCode env 120 false inv k (cp c120 2) (act 22 [(0,x0),(1,x1)]) h K =
  bnd (pBox Try.prog 37 x0 h) fun x2 =>
  bnd (pBox Try.prog 37 x1 x2.2) fun x3 =>
  K .normal (act 22 [(2,x2.1),(3,x3.1)]) x3.2:=kq_reg
noncomputable abbrev G120_1 {β : Type} (inv : Inv) (x2 x3 : Value) (h : AH) (K : Value→AH→Option β) : Option β :=
  bnd (pFieldAddr Try.prog 37 x2 0) fun x5 =>
  bnd (pLoad Try.prog 3 x5 h) fun x6 =>
  bnd (pFieldAddr Try.prog 37 x3 0) fun x7 =>
  bnd (pLoad Try.prog 3 x7 h) fun x8 =>
  bnd (inv (.func 122) #[] #[x6,x8] h) fun x9 =>
  bnd (pFieldAddr Try.prog 37 x2 1) fun x10 =>
  bnd (pLoad Try.prog 2 x10 x9.2) fun x11 =>
  bnd (pFieldAddr Try.prog 37 x3 1) fun x12 =>
  bnd (pLoad Try.prog 2 x12 x9.2) fun x13 =>
  bnd (inv (.func 123) #[] #[x11,x13] x9.2) fun x14 =>
  bnd (pFieldAddr Try.prog 37 x2 2) fun x15 =>
  bnd (pLoad Try.prog 9 x15 x14.2) fun x16 =>
  bnd (pFieldAddr Try.prog 37 x3 2) fun x17 =>
  bnd (pLoad Try.prog 9 x17 x14.2) fun x18 =>
  bnd (inv (.func 124) #[] #[x16,x18] x14.2) fun x19 =>
  bnd (pBuildSlice Try.prog 24 3 #[(0,x9.1),(1,x14.1),(2,x19.1)] x19.2) fun x20 =>
  bnd (inv (.func 121) #[] #[x20.1] x20.2) fun x21 =>
  chkK ((!true || !true || (sameO (pLoad Try.prog 2 x10 h) x11 && sameO (pLoad Try.prog 2 x10 x9.2) x11)) && ((!true || !true || (sameO (pLoad Try.prog 2 x12 h) x13 && sameO (pLoad Try.prog 2 x12 x9.2) x13)) && ((!true || !true || (sameO (pLoad Try.prog 9 x15 h) x16 && sameO (pLoad Try.prog 9 x15 x9.2) x16)) && ((!true || !true || (sameO (pLoad Try.prog 9 x15 x9.2) x16 && sameO (pLoad Try.prog 9 x15 x14.2) x16)) && ((!true || !true || (sameO (pLoad Try.prog 9 x17 h) x18 && sameO (pLoad Try.prog 9 x17 x9.2) x18)) && ((!true || !true || (sameO (pLoad Try.prog 9 x17 x9.2) x18 && sameO (pLoad Try.prog 9 x17 x14.2) x18)) && true)))))) <|
  K (x21.1) x21.2
theorem r120_1  : kCode env 120 false inv k (cp c120 6) (act 22 [(2,x2),(3,x3)]) h K =
  G120_1 inv x2 x3 h fun y4 h=>K .normal (act 22 [(4,y4)]) h:=kq_draw
theorem res120_0 : resOfFn env.P 120 .ret (act 22 [(4,x4)]) h = some (x4,h):=kq_res
/-- shadowbook/value.Compare -/
noncomputable def F120 (inv : Inv) (k : Nat) (x0 x1 : Value) (h : AH) : Option (Value × AH) :=
  bnd (pBox Try.prog 37 x0 h) fun x2 =>
  bnd (pBox Try.prog 37 x1 x2.2) fun x3 =>
  G120_1 inv x2.1 x3.1 x3.2 fun y4 h =>
  some (y4,h)
theorem F120_eq : eFun env k inv 120 #[x0,x1] h = F120 inv k x0 x1 h:=by
   refine (kq_fun (a:=act 22 [(0,x0),(1,x1)]) (c:=cp c120 1)).trans ?_
   unfold F120
   simp only [kq_seq c120 1,r120_0,kq_seq c120 3,r120_1,kq_ret c120 7,res120_0,reduceIte,reduceCtorEq,XE.exit.injEq,Nat.reduceEqDiff,Nat.reduceMul,Nat.reduceAdd] <;> kernel_rfl
theorem F120_call : eInv env (k + 1) (.func 120) #[] #[x0,x1] h = F120 (eInv env k) k x0 x1 h:=kq_inv F120_eq
noncomputable def c121 : Code:=codeOf Try.prog 121
theorem r121_0  : kCode env 121 false inv k (cp c121 2) (act 18 [(0,x0)]) h K =
  K .normal (act 18 [(0,x0)]) h:=kq_reg
theorem r121_1  : kCode env 121 false inv k (cp c121 6) (act 18 [(0,x0)]) h K =
  K .normal (act 18 [(0,x0),(3,(.int .i64 0))]) h:=kq_reg
theorem r121_2  : kCode env 121 false inv k (cp c121 28) (act 18 [(0,x0),(3,x3)]) h K =
  bnd (pLen Try.prog #[24] x0 h) fun x7 =>
  K .normal (act 18 [(3,x3),(6,x0),(7,x7),(8,(.int .i64 0))]) h:=kq_reg
theorem r121_3  : kCode env 121 false inv k (cp c121 232) (act 18 [(3,x3),(6,x6),(7,x7),(8,x8)]) h K =
  bnd (pBin Try.prog .lss 3 (.tmp 8) (.tmp 7) x8 x7) fun x9 =>
  K .normal (act 18 [(3,x3),(6,x6),(7,x7),(8,x8),(9,x9)]) h:=kq_reg
theorem b121_lrllrlrr  : kCode env 121 false inv k (cp c121 466) (act 18 [(3,x3),(6,x6),(7,x7),(8,x8),(9,x9)]) h K = brV x9 (kCode env 121 false inv k (cp c121 932) (act 18 [(3,x3),(6,x6),(7,x7),(8,x8),(9,x9)]) h K) (kCode env 121 false inv k (cp c121 933) (act 18 [(3,x3),(6,x6),(7,x7),(8,x8),(9,x9)]) h K):=kq_cond
theorem r121_4  : kCode env 121 false inv k (cp c121 3736) (act 18 [(3,x3),(6,x6),(7,x7),(8,x8),(9,x9)]) h K =
  bnd (pIndexAddr Try.prog 24 x6 x8) fun x10 =>
  bnd (pLoad Try.prog 3 x10 h) fun x11 =>
  K .normal (act 18 [(3,x3),(5,x11),(6,x6),(7,x7),(8,x8)]) h:=kq_reg
theorem r121_5  : kCode env 121 false inv k (cp c121 7474) (act 18 [(3,x3),(5,x5),(6,x6),(7,x7),(8,x8)]) h K =
  bnd (pBin Try.prog .neq 3 (.tmp 12) (.tmp 13) x5 x3) fun x14 =>
  K .normal (act 18 [(3,x3),(5,x5),(6,x6),(7,x7),(8,x8),(14,x14)]) h:=kq_reg
theorem b121_rrllrrllrlrr  : kCode env 121 false inv k (cp c121 7475) (act 18 [(3,x3),(5,x5),(6,x6),(7,x7),(8,x8),(14,x14)]) h K = brV x14 (kCode env 121 false inv k (cp c121 14950) (act 18 [(3,x3),(5,x5),(6,x6),(7,x7),(8,x8),(14,x14)]) h K) (kCode env 121 false inv k (cp c121 14951) (act 18 [(3,x3),(5,x5),(6,x6),(7,x7),(8,x8),(14,x14)]) h K):=kq_cond
theorem r121_6  : kCode env 121 false inv k (cp c121 29900) (act 18 [(3,x3),(5,x5),(6,x6),(7,x7),(8,x8),(14,x14)]) h K =
  K .normal (act 18 [(2,x5)]) h:=kq_reg
theorem r121_7  : kCode env 121 false inv k (cp c121 935) (act 18 [(3,x3),(5,x5),(6,x6),(7,x7),(8,x8),(14,x14)]) h K =
  bnd (pBin Try.prog .add 3 (.tmp 8) (.const (.int .i64 1)) x8 (.int .i64 1)) fun x16 =>
  K .normal (act 18 [(3,x3),(6,x6),(7,x7),(8,x16)]) h:=kq_reg
noncomputable def F121_lrlrr {β : Type} (inv : Inv) (k : Nat) : Nat→Value→Value→Value→Value→AH→(Value→Value→Value→Value→Value→AH→Option β)→(Value→AH→Option β)→Option β
 | 0,_,_,_,_,_,_,_=>none
 | j + 1,x3,x6,x7,x8,h,ke0,kr =>
  bnd (pBin Try.prog .lss 3 (.tmp 8) (.tmp 7) x8 x7) fun x9 =>
  brV x9
  (bnd (pIndexAddr Try.prog 24 x6 x8) fun x10 =>
  bnd (pLoad Try.prog 3 x10 h) fun x11 =>
  bnd (pBin Try.prog .neq 3 (.tmp 12) (.tmp 13) x11 x3) fun x14 =>
  brV x14
  (kr x11 h)
  (bnd (pBin Try.prog .add 3 (.tmp 8) (.const (.int .i64 1)) x8 (.int .i64 1)) fun x16 =>
  F121_lrlrr inv k j x3 x6 x7 x16 h ke0 kr))
  (ke0 x3 x6 x7 x8 x9 h)
theorem F121_lrlrr_j (j : Nat) : kLoop (kCode env 121 false inv k (cp c121 116)) j (act 18 [(3,x3),(6,x6),(7,x7),(8,x8)]) h K = F121_lrlrr inv k j x3 x6 x7 x8 h (fun y3 y6 y7 y8 y9 h=>K (.exit 0) (act 18 [(3,y3),(6,y6),(7,y7),(8,y8),(9,y9)]) h) (fun y2 h=>K .ret (act 18 [(2,y2)]) h):=by
   induction j generalizing x3 x6 x7 x8 h with
   | zero=>rfl
   | succ j ih =>
    unfold F121_lrlrr
    simp only [kLoop,kq_seq c121 116,r121_3,kq_seq c121 233,b121_lrllrlrr,kq_skip c121 932,kq_seq c121 467,kq_block c121 934 1,kq_seq c121 1868,r121_4,kq_seq c121 3737,r121_5,b121_rrllrrllrlrr,kq_seq c121 14950,r121_6,kq_ret c121 29901,kq_skip c121 14951,r121_7,kq_exit c121 933 0,ih,reduceIte,reduceCtorEq,XE.exit.injEq,Nat.reduceEqDiff,Nat.reduceMul,Nat.reduceAdd] <;> kernel_rfl
theorem F121_lrlrr_eq  : kCode env 121 false inv k (cp c121 58) (act 18 [(3,x3),(6,x6),(7,x7),(8,x8)]) h K = F121_lrlrr inv k k x3 x6 x7 x8 h (fun y3 y6 y7 y8 y9 h=>K (.exit 0) (act 18 [(3,y3),(6,y6),(7,y7),(8,y8),(9,y9)]) h) (fun y2 h=>K .ret (act 18 [(2,y2)]) h):=kq_loop (F121_lrlrr_j k)
theorem r121_8  : kCode env 121 false inv k (cp c121 30) (act 18 [(3,x3),(6,x6),(7,x7),(8,x8),(9,x9)]) h K =
  K .normal (act 18 [(2,x3)]) h:=kq_reg
theorem res121_0 : resOfFn env.P 121 .ret (act 18 [(2,x2)]) h = some (x2,h):=kq_res
/-- cmp.Or[int] -/
noncomputable def F121 (inv : Inv) (k : Nat) (x0 : Value) (h : AH) : Option (Value × AH) :=
  bnd (pLen Try.prog #[24] x0 h) fun x7 =>
  F121_lrlrr inv k k (.int .i64 0) x0 x7 (.int .i64 0) h
  (fun y3 y6 y7 y8 y9 h =>
  some (y3,h))
  (fun y2 h_1 =>
  some (y2,h_1))
theorem F121_eq : eFun env k inv 121 #[x0] h = F121 inv k x0 h:=by
   refine (kq_fun (a:=act 18 [(0,x0)]) (c:=cp c121 1)).trans ?_
   unfold F121
   simp only [kq_seq c121 1,r121_0,kq_seq c121 3,r121_1,kq_seq c121 7,kq_seq c121 14,r121_2,kq_block c121 29 0,F121_lrlrr_eq,kq_seq c121 15,r121_8,kq_ret c121 31,res121_0,reduceIte,reduceCtorEq,XE.exit.injEq,Nat.reduceEqDiff,Nat.reduceMul,Nat.reduceAdd] <;> kernel_rfl
theorem F121_call : eInv env (k + 1) (.func 121) #[] #[x0] h = F121 (eInv env k) k x0 h:=kq_inv F121_eq
noncomputable def c122 : Code:=codeOf Try.prog 122
theorem r122_0  : kCode env 122 false inv k (cp c122 2) (act 20 [(0,x0),(1,x1)]) h K =
  K .normal (act 20 [(0,x0),(1,x1)]) h:=kq_reg
theorem r122_1  : kCode env 122 false inv k (cp c122 6) (act 20 [(0,x0),(1,x1)]) h K =
  bnd (inv (.func 125) #[] #[x0] h) fun x8 =>
  K .normal (act 20 [(0,x0),(1,x1),(5,x8.1)]) x8.2:=kq_reg
theorem r122_2  : kCode env 122 false inv k (cp c122 14) (act 20 [(0,x0),(1,x1),(5,x5)]) h K =
  bnd (inv (.func 125) #[] #[x1] h) fun x10 =>
  K .normal (act 20 [(0,x0),(1,x1),(5,x5),(6,x10.1)]) x10.2:=kq_reg
theorem r122_3  : kCode env 122 false inv k (cp c122 60) (act 20 [(0,x0),(1,x1),(5,x5),(6,x6)]) h K =
  K .normal (act 20 [(0,x0),(1,x1),(6,x6),(11,x5)]) h:=kq_reg
theorem b122_rlrrr  : kCode env 122 false inv k (cp c122 61) (act 20 [(0,x0),(1,x1),(6,x6),(11,x11)]) h K = brV x11 (kCode env 122 false inv k (cp c122 122) (act 20 [(0,x0),(1,x1),(6,x6),(11,x11)]) h K) (kCode env 122 false inv k (cp c122 123) (act 20 [(0,x0),(1,x1),(6,x6),(11,x11)]) h K):=kq_cond
theorem r122_4  : kCode env 122 false inv k (cp c122 488) (act 20 [(0,x0),(1,x1),(6,x6),(11,x11)]) h K =
  K .normal (act 20 [(12,x6)]) h:=kq_reg
theorem b122_rllrlrrr  : kCode env 122 false inv k (cp c122 489) (act 20 [(12,x12)]) h K = brV x12 (kCode env 122 false inv k (cp c122 978) (act 20 [(12,x12)]) h K) (kCode env 122 false inv k (cp c122 979) (act 20 [(12,x12)]) h K):=kq_cond
theorem r122_5  : kCode env 122 false inv k (cp c122 1956) (act 20 [(12,x12)]) h K =
  K .normal (act 20 [(4,(.int .i64 0))]) h:=kq_reg
theorem res122_0 : resOfFn env.P 122 .ret (act 20 [(4,x4)]) h = some (x4,h):=kq_res
theorem r122_6  : kCode env 122 false inv k (cp c122 490) (act 20 [(12,x12)]) h K =
  K .normal (act 20 [(4,(.int .i64 (-1)))]) h:=kq_reg
theorem r122_7  : kCode env 122 false inv k (cp c122 124) (act 20 [(0,x0),(1,x1),(6,x6),(11,x11)]) h K =
  K .normal (act 20 [(0,x0),(1,x1),(13,x6)]) h:=kq_reg
theorem b122_rlrrrr  : kCode env 122 false inv k (cp c122 125) (act 20 [(0,x0),(1,x1),(13,x13)]) h K = brV x13 (kCode env 122 false inv k (cp c122 250) (act 20 [(0,x0),(1,x1),(13,x13)]) h K) (kCode env 122 false inv k (cp c122 251) (act 20 [(0,x0),(1,x1),(13,x13)]) h K):=kq_cond
theorem r122_8  : kCode env 122 false inv k (cp c122 500) (act 20 [(0,x0),(1,x1),(13,x13)]) h K =
  K .normal (act 20 [(4,(.int .i64 1))]) h:=kq_reg
theorem r122_9  : kCode env 122 false inv k (cp c122 252) (act 20 [(0,x0),(1,x1),(13,x13)]) h K =
  bnd (pBin Try.prog .lss 3 (.tmp 14) (.tmp 15) x0 x1) fun x16 =>
  K .normal (act 20 [(0,x0),(1,x1),(16,x16)]) h:=kq_reg
theorem b122_rlrrrrr  : kCode env 122 false inv k (cp c122 253) (act 20 [(0,x0),(1,x1),(16,x16)]) h K = brV x16 (kCode env 122 false inv k (cp c122 506) (act 20 [(0,x0),(1,x1),(16,x16)]) h K) (kCode env 122 false inv k (cp c122 507) (act 20 [(0,x0),(1,x1),(16,x16)]) h K):=kq_cond
theorem r122_10  : kCode env 122 false inv k (cp c122 1012) (act 20 [(0,x0),(1,x1),(16,x16)]) h K =
  K .normal (act 20 [(4,(.int .i64 (-1)))]) h:=kq_reg
theorem r122_11  : kCode env 122 false inv k (cp c122 508) (act 20 [(0,x0),(1,x1),(16,x16)]) h K =
  bnd (pBin Try.prog .gtr 3 (.tmp 17) (.tmp 18) x0 x1) fun x19 =>
  K .normal (act 20 [(19,x19)]) h:=kq_reg
theorem b122_rlrrrrrr  : kCode env 122 false inv k (cp c122 509) (act 20 [(19,x19)]) h K = brV x19 (kCode env 122 false inv k (cp c122 1018) (act 20 [(19,x19)]) h K) (kCode env 122 false inv k (cp c122 1019) (act 20 [(19,x19)]) h K):=kq_cond
theorem r122_12  : kCode env 122 false inv k (cp c122 2036) (act 20 [(19,x19)]) h K =
  K .normal (act 20 [(4,(.int .i64 1))]) h:=kq_reg
theorem r122_13  : kCode env 122 false inv k (cp c122 510) (act 20 [(19,x19)]) h K =
  K .normal (act 20 [(4,(.int .i64 0))]) h:=kq_reg
/-- cmp.Compare[int] -/
noncomputable def F122 (inv : Inv) (k : Nat) (x0 x1 : Value) (h : AH) : Option (Value × AH) :=
  bnd (inv (.func 125) #[] #[x0] h) fun x8 =>
  bnd (inv (.func 125) #[] #[x1] x8.2) fun x10 =>
  brV x8.1
  (brV x10.1
  (some ((.int .i64 0),x10.2))
  (some ((.int .i64 (-1)),x10.2)))
  (brV x10.1
  (some ((.int .i64 1),x10.2))
  (bnd (pBin Try.prog .lss 3 (.tmp 14) (.tmp 15) x0 x1) fun x16 =>
  brV x16
  (some ((.int .i64 (-1)),x10.2))
  (bnd (pBin Try.prog .gtr 3 (.tmp 17) (.tmp 18) x0 x1) fun x19 =>
  brV x19
  (some ((.int .i64 1),x10.2))
  (some ((.int .i64 0),x10.2)))))
theorem F122_eq : eFun env k inv 122 #[x0,x1] h = F122 inv k x0 x1 h:=by
   refine (kq_fun (a:=act 20 [(0,x0),(1,x1)]) (c:=cp c122 1)).trans ?_
   unfold F122
   simp only [kq_seq c122 1,r122_0,kq_seq c122 3,r122_1,kq_seq c122 7,r122_2,kq_seq c122 15,kq_seq c122 30,r122_3,b122_rlrrr,kq_seq c122 122,kq_seq c122 244,r122_4,b122_rllrlrrr,kq_seq c122 978,r122_5,kq_ret c122 1957,res122_0,kq_skip c122 979,kq_seq c122 245,r122_6,kq_ret c122 491,kq_skip c122 123,kq_seq c122 31,kq_seq c122 62,r122_7,b122_rlrrrr,kq_seq c122 250,r122_8,kq_ret c122 501,kq_skip c122 251,kq_seq c122 63,kq_seq c122 126,r122_9,b122_rlrrrrr,kq_seq c122 506,r122_10,kq_ret c122 1013,kq_skip c122 507,kq_seq c122 127,kq_seq c122 254,r122_11,b122_rlrrrrrr,kq_seq c122 1018,r122_12,kq_ret c122 2037,kq_skip c122 1019,kq_seq c122 255,r122_13,kq_ret c122 511,reduceIte,reduceCtorEq,XE.exit.injEq,Nat.reduceEqDiff,Nat.reduceMul,Nat.reduceAdd] <;> kernel_rfl
theorem F122_call : eInv env (k + 1) (.func 122) #[] #[x0,x1] h = F122 (eInv env k) k x0 x1 h:=kq_inv F122_eq
noncomputable def c123 : Code:=codeOf Try.prog 123
theorem r123_0  : kCode env 123 false inv k (cp c123 2) (act 20 [(0,x0),(1,x1)]) h K =
  K .normal (act 20 [(0,x0),(1,x1)]) h:=kq_reg
theorem r123_1  : kCode env 123 false inv k (cp c123 6) (act 20 [(0,x0),(1,x1)]) h K =
  bnd (inv (.func 126) #[] #[x0] h) fun x8 =>
  K .normal (act 20 [(0,x0),(1,x1),(5,x8.1)]) x8.2:=kq_reg
theorem r123_2  : kCode env 123 false inv k (cp c123 14) (act 20 [(0,x0),(1,x1),(5,x5)]) h K =
  bnd (inv (.func 126) #[] #[x1] h) fun x10 =>
  K .normal (act 20 [(0,x0),(1,x1),(5,x5),(6,x10.1)]) x10.2:=kq_reg
theorem r123_3  : kCode env 123 false inv k (cp c123 60) (act 20 [(0,x0),(1,x1),(5,x5),(6,x6)]) h K =
  K .normal (act 20 [(0,x0),(1,x1),(6,x6),(11,x5)]) h:=kq_reg
theorem b123_rlrrr  : kCode env 123 false inv k (cp c123 61) (act 20 [(0,x0),(1,x1),(6,x6),(11,x11)]) h K = brV x11 (kCode env 123 false inv k (cp c123 122) (act 20 [(0,x0),(1,x1),(6,x6),(11,x11)]) h K) (kCode env 123 false inv k (cp c123 123) (act 20 [(0,x0),(1,x1),(6,x6),(11,x11)]) h K):=kq_cond
theorem r123_4  : kCode env 123 false inv k (cp c123 488) (act 20 [(0,x0),(1,x1),(6,x6),(11,x11)]) h K =
  K .normal (act 20 [(12,x6)]) h:=kq_reg
theorem b123_rllrlrrr  : kCode env 123 false inv k (cp c123 489) (act 20 [(12,x12)]) h K = brV x12 (kCode env 123 false inv k (cp c123 978) (act 20 [(12,x12)]) h K) (kCode env 123 false inv k (cp c123 979) (act 20 [(12,x12)]) h K):=kq_cond
theorem r123_5  : kCode env 123 false inv k (cp c123 1956) (act 20 [(12,x12)]) h K =
  K .normal (act 20 [(4,(.int .i64 0))]) h:=kq_reg
theorem res123_0 : resOfFn env.P 123 .ret (act 20 [(4,x4)]) h = some (x4,h):=kq_res
theorem r123_6  : kCode env 123 false inv k (cp c123 490) (act 20 [(12,x12)]) h K =
  K .normal (act 20 [(4,(.int .i64 (-1)))]) h:=kq_reg
theorem r123_7  : kCode env 123 false inv k (cp c123 124) (act 20 [(0,x0),(1,x1),(6,x6),(11,x11)]) h K =
  K .normal (act 20 [(0,x0),(1,x1),(13,x6)]) h:=kq_reg
theorem b123_rlrrrr  : kCode env 123 false inv k (cp c123 125) (act 20 [(0,x0),(1,x1),(13,x13)]) h K = brV x13 (kCode env 123 false inv k (cp c123 250) (act 20 [(0,x0),(1,x1),(13,x13)]) h K) (kCode env 123 false inv k (cp c123 251) (act 20 [(0,x0),(1,x1),(13,x13)]) h K):=kq_cond
theorem r123_8  : kCode env 123 false inv k (cp c123 500) (act 20 [(0,x0),(1,x1),(13,x13)]) h K =
  K .normal (act 20 [(4,(.int .i64 1))]) h:=kq_reg
theorem r123_9  : kCode env 123 false inv k (cp c123 252) (act 20 [(0,x0),(1,x1),(13,x13)]) h K =
  bnd (pBin Try.prog .lss 2 (.tmp 14) (.tmp 15) x0 x1) fun x16 =>
  K .normal (act 20 [(0,x0),(1,x1),(16,x16)]) h:=kq_reg
theorem b123_rlrrrrr  : kCode env 123 false inv k (cp c123 253) (act 20 [(0,x0),(1,x1),(16,x16)]) h K = brV x16 (kCode env 123 false inv k (cp c123 506) (act 20 [(0,x0),(1,x1),(16,x16)]) h K) (kCode env 123 false inv k (cp c123 507) (act 20 [(0,x0),(1,x1),(16,x16)]) h K):=kq_cond
theorem r123_10  : kCode env 123 false inv k (cp c123 1012) (act 20 [(0,x0),(1,x1),(16,x16)]) h K =
  K .normal (act 20 [(4,(.int .i64 (-1)))]) h:=kq_reg
theorem r123_11  : kCode env 123 false inv k (cp c123 508) (act 20 [(0,x0),(1,x1),(16,x16)]) h K =
  bnd (pBin Try.prog .gtr 2 (.tmp 17) (.tmp 18) x0 x1) fun x19 =>
  K .normal (act 20 [(19,x19)]) h:=kq_reg
theorem b123_rlrrrrrr  : kCode env 123 false inv k (cp c123 509) (act 20 [(19,x19)]) h K = brV x19 (kCode env 123 false inv k (cp c123 1018) (act 20 [(19,x19)]) h K) (kCode env 123 false inv k (cp c123 1019) (act 20 [(19,x19)]) h K):=kq_cond
theorem r123_12  : kCode env 123 false inv k (cp c123 2036) (act 20 [(19,x19)]) h K =
  K .normal (act 20 [(4,(.int .i64 1))]) h:=kq_reg
theorem r123_13  : kCode env 123 false inv k (cp c123 510) (act 20 [(19,x19)]) h K =
  K .normal (act 20 [(4,(.int .i64 0))]) h:=kq_reg
/-- cmp.Compare[int64] -/
noncomputable def F123 (inv : Inv) (k : Nat) (x0 x1 : Value) (h : AH) : Option (Value × AH) :=
  bnd (inv (.func 126) #[] #[x0] h) fun x8 =>
  bnd (inv (.func 126) #[] #[x1] x8.2) fun x10 =>
  brV x8.1
  (brV x10.1
  (some ((.int .i64 0),x10.2))
  (some ((.int .i64 (-1)),x10.2)))
  (brV x10.1
  (some ((.int .i64 1),x10.2))
  (bnd (pBin Try.prog .lss 2 (.tmp 14) (.tmp 15) x0 x1) fun x16 =>
  brV x16
  (some ((.int .i64 (-1)),x10.2))
  (bnd (pBin Try.prog .gtr 2 (.tmp 17) (.tmp 18) x0 x1) fun x19 =>
  brV x19
  (some ((.int .i64 1),x10.2))
  (some ((.int .i64 0),x10.2)))))
theorem F123_eq : eFun env k inv 123 #[x0,x1] h = F123 inv k x0 x1 h:=by
   refine (kq_fun (a:=act 20 [(0,x0),(1,x1)]) (c:=cp c123 1)).trans ?_
   unfold F123
   simp only [kq_seq c123 1,r123_0,kq_seq c123 3,r123_1,kq_seq c123 7,r123_2,kq_seq c123 15,kq_seq c123 30,r123_3,b123_rlrrr,kq_seq c123 122,kq_seq c123 244,r123_4,b123_rllrlrrr,kq_seq c123 978,r123_5,kq_ret c123 1957,res123_0,kq_skip c123 979,kq_seq c123 245,r123_6,kq_ret c123 491,kq_skip c123 123,kq_seq c123 31,kq_seq c123 62,r123_7,b123_rlrrrr,kq_seq c123 250,r123_8,kq_ret c123 501,kq_skip c123 251,kq_seq c123 63,kq_seq c123 126,r123_9,b123_rlrrrrr,kq_seq c123 506,r123_10,kq_ret c123 1013,kq_skip c123 507,kq_seq c123 127,kq_seq c123 254,r123_11,b123_rlrrrrrr,kq_seq c123 1018,r123_12,kq_ret c123 2037,kq_skip c123 1019,kq_seq c123 255,r123_13,kq_ret c123 511,reduceIte,reduceCtorEq,XE.exit.injEq,Nat.reduceEqDiff,Nat.reduceMul,Nat.reduceAdd] <;> kernel_rfl
theorem F123_call : eInv env (k + 1) (.func 123) #[] #[x0,x1] h = F123 (eInv env k) k x0 x1 h:=kq_inv F123_eq
noncomputable def c124 : Code:=codeOf Try.prog 124
theorem r124_0  : kCode env 124 false inv k (cp c124 2) (act 8 [(0,x0),(1,x1)]) h K =
  K .normal (act 8 [(0,x0),(1,x1)]) h:=kq_reg
theorem r124_1  : kCode env 124 false inv k (cp c124 6) (act 8 [(0,x0),(1,x1)]) h K =
  bnd (inv (.func 127) #[] #[x0,x1] h) fun x7 =>
  K .normal (act 8 [(4,x7.1)]) x7.2:=kq_reg
theorem res124_0 : resOfFn env.P 124 .ret (act 8 [(4,x4)]) h = some (x4,h):=kq_res
/-- strings.Compare -/
noncomputable def F124 (inv : Inv) (k : Nat) (x0 x1 : Value) (h : AH) : Option (Value × AH) :=
  bnd (inv (.func 127) #[] #[x0,x1] h) fun x7 =>
  some (x7.1,x7.2)
theorem F124_eq : eFun env k inv 124 #[x0,x1] h = F124 inv k x0 x1 h:=by
   refine (kq_fun (a:=act 8 [(0,x0),(1,x1)]) (c:=cp c124 1)).trans ?_
   unfold F124
   simp only [kq_seq c124 1,r124_0,kq_seq c124 3,r124_1,kq_ret c124 7,res124_0,reduceIte,reduceCtorEq,XE.exit.injEq,Nat.reduceEqDiff,Nat.reduceMul,Nat.reduceAdd] <;> kernel_rfl
theorem F124_call : eInv env (k + 1) (.func 124) #[] #[x0,x1] h = F124 (eInv env k) k x0 x1 h:=kq_inv F124_eq
noncomputable def c125 : Code:=codeOf Try.prog 125
theorem r125_0  : kCode env 125 false inv k (cp c125 2) (act 6 [(0,x0)]) h K =
  K .normal (act 6 [(0,x0)]) h:=kq_reg
theorem r125_1  : kCode env 125 false inv k (cp c125 6) (act 6 [(0,x0)]) h K =
  bnd (pBin Try.prog .neq 3 (.tmp 3) (.tmp 4) x0 x0) fun x5 =>
  K .normal (act 6 [(2,x5)]) h:=kq_reg
theorem res125_0 : resOfFn env.P 125 .ret (act 6 [(2,x2)]) h = some (x2,h):=kq_res
/-- cmp.isNaN[int] -/
noncomputable def F125 (inv : Inv) (k : Nat) (x0 : Value) (h : AH) : Option (Value × AH) :=
  bnd (pBin Try.prog .neq 3 (.tmp 3) (.tmp 4) x0 x0) fun x5 =>
  some (x5,h)
theorem F125_eq : eFun env k inv 125 #[x0] h = F125 inv k x0 h:=by
   refine (kq_fun (a:=act 6 [(0,x0)]) (c:=cp c125 1)).trans ?_
   unfold F125
   simp only [kq_seq c125 1,r125_0,kq_seq c125 3,r125_1,kq_ret c125 7,res125_0,reduceIte,reduceCtorEq,XE.exit.injEq,Nat.reduceEqDiff,Nat.reduceMul,Nat.reduceAdd] <;> kernel_rfl
theorem F125_call : eInv env (k + 1) (.func 125) #[] #[x0] h = F125 (eInv env k) k x0 h:=kq_inv F125_eq
noncomputable def c126 : Code:=codeOf Try.prog 126
theorem r126_0  : kCode env 126 false inv k (cp c126 2) (act 6 [(0,x0)]) h K =
  K .normal (act 6 [(0,x0)]) h:=kq_reg
theorem r126_1  : kCode env 126 false inv k (cp c126 6) (act 6 [(0,x0)]) h K =
  bnd (pBin Try.prog .neq 2 (.tmp 3) (.tmp 4) x0 x0) fun x5 =>
  K .normal (act 6 [(2,x5)]) h:=kq_reg
theorem res126_0 : resOfFn env.P 126 .ret (act 6 [(2,x2)]) h = some (x2,h):=kq_res
/-- cmp.isNaN[int64] -/
noncomputable def F126 (inv : Inv) (k : Nat) (x0 : Value) (h : AH) : Option (Value × AH) :=
  bnd (pBin Try.prog .neq 2 (.tmp 3) (.tmp 4) x0 x0) fun x5 =>
  some (x5,h)
theorem F126_eq : eFun env k inv 126 #[x0] h = F126 inv k x0 h:=by
   refine (kq_fun (a:=act 6 [(0,x0)]) (c:=cp c126 1)).trans ?_
   unfold F126
   simp only [kq_seq c126 1,r126_0,kq_seq c126 3,r126_1,kq_ret c126 7,res126_0,reduceIte,reduceCtorEq,XE.exit.injEq,Nat.reduceEqDiff,Nat.reduceMul,Nat.reduceAdd] <;> kernel_rfl
theorem F126_call : eInv env (k + 1) (.func 126) #[] #[x0] h = F126 (eInv env k) k x0 h:=kq_inv F126_eq
noncomputable def c127 : Code:=codeOf Try.prog 127
theorem r127_0  : kCode env 127 false inv k (cp c127 2) (act 8 [(0,x0),(1,x1)]) h K =
  K .normal (act 8 [(0,x0),(1,x1)]) h:=kq_reg
theorem r127_1  : kCode env 127 false inv k (cp c127 6) (act 8 [(0,x0),(1,x1)]) h K =
  bnd (inv (.func 128) #[] #[x0,x1] h) fun x7 =>
  K .normal (act 8 [(4,x7.1)]) x7.2:=kq_reg
theorem res127_0 : resOfFn env.P 127 .ret (act 8 [(4,x4)]) h = some (x4,h):=kq_res
/-- internal/bytealg.CompareString -/
noncomputable def F127 (inv : Inv) (k : Nat) (x0 x1 : Value) (h : AH) : Option (Value × AH) :=
  bnd (inv (.func 128) #[] #[x0,x1] h) fun x7 =>
  some (x7.1,x7.2)
theorem F127_eq : eFun env k inv 127 #[x0,x1] h = F127 inv k x0 x1 h:=by
   refine (kq_fun (a:=act 8 [(0,x0),(1,x1)]) (c:=cp c127 1)).trans ?_
   unfold F127
   simp only [kq_seq c127 1,r127_0,kq_seq c127 3,r127_1,kq_ret c127 7,res127_0,reduceIte,reduceCtorEq,XE.exit.injEq,Nat.reduceEqDiff,Nat.reduceMul,Nat.reduceAdd] <;> kernel_rfl
theorem F127_call : eInv env (k + 1) (.func 127) #[] #[x0,x1] h = F127 (eInv env k) k x0 x1 h:=kq_inv F127_eq
end Go.Proofs.Ytgklcfnjahomjaa.Sh
