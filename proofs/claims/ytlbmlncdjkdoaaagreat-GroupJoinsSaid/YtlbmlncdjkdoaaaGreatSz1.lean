/- Shallow functions, part 1. Printed by a program of the prover's own from the loaded program; Lean checks it. -/
import Derived.Test.YtlbmlncdjkdoaaaGreatSz0
set_option linter.unusedVariables false
set_option linter.unusedSimpArgs false
set_option maxRecDepth 100000
namespace Go.Proofs.YtlbmlncdjkdoaaaGreat.Sh
open Go Go.RowKit Go.Proofs.Ev
open Tryz (prog)
noncomputable section
variable {β : Type} {inv : Inv} {k : Nat} {h : AH} {K : XE→Act→AH→Option β} {x0 x1 x2 x3 x4 x6 x7 x9 x22 z0 z1 : Value}
abbrev G5_3 {β : Type} (inv : Inv) (x0 x1 x2 : Value) (h : AH) (K : Value→AH→Option β) : Option β :=
  bnd (inv (.func 10) #[] #[x0,x1] h) fun x25 =>
  bnd (pUn prog .not x25.1) fun x26 =>
  bnd (gd (some x26) false x25.2 (some (x1,x25.2))) fun x28 =>
  bnd (gd (some x26) false x28.2 (lt (pLen prog #[23] x28.1 x28.2) x28.2)) fun x29 =>
  bnd (gd (some x26) false x29.2 (lt (pBin prog .lss 3 (.tmp 29) (.const (.int .i64 2)) x29.1 (.int .i64 2)) x29.2)) fun x30 =>
  bnd (pickV x26 (.bool true) x30.1) fun x31 =>
  K (x31) x30.2
abbrev G5_14 {β : Type} (inv : Inv) (x0 x1 x11 x13 x14 x15 x16 x17 x18 x19 : Value) (h : AH) (K : Value→AH→Option β) : Option β :=
  bnd (pBin prog .neq 28 (.tmp 83) (.const (.int .i64 0)) x11 (.int .i64 0)) fun x84 =>
  bnd (gd (some x84) false h (some (x13,h))) fun x86 =>
  bnd (gd (some x84) false x86.2 (lt (pBin prog .neq 28 (.tmp 86) (.const (.int .i64 0)) x86.1 (.int .i64 0)) x86.2)) fun x87 =>
  bnd (pickV x84 (.bool true) x87.1) fun x88 =>
  bnd (gd (some x88) false x87.2 (some (x15,x87.2))) fun x90 =>
  bnd (gd (some x88) false x90.2 (lt (pBin prog .neq 28 (.tmp 90) (.const (.int .i64 0)) x90.1 (.int .i64 0)) x90.2)) fun x91 =>
  bnd (pickV x88 (.bool true) x91.1) fun x92 =>
  bnd (gd (some x92) false x91.2 (some (x17,x91.2))) fun x94 =>
  bnd (gd (some x92) false x94.2 (lt (pBin prog .neq 28 (.tmp 94) (.const (.int .i64 0)) x94.1 (.int .i64 0)) x94.2)) fun x95 =>
  bnd (pickV x92 (.bool true) x95.1) fun x96 =>
  bnd (gd (some x96) false x95.2 (some (x19,x95.2))) fun x98 =>
  bnd (gd (some x96) false x98.2 (lt (pBin prog .neq 28 (.tmp 98) (.const (.int .i64 0)) x98.1 (.int .i64 0)) x98.2)) fun x99 =>
  bnd (pickV x96 (.bool true) x99.1) fun x100 =>
  bnd (gd (some x100) false x99.2 (some (x14,x99.2))) fun x102 =>
  bnd (gd (some x100) false x102.2 (lt (pLen prog #[49] x102.1 x102.2) x102.2)) fun x103 =>
  bnd (gd (some x100) false x103.2 (some (x0,x103.2))) fun x104 =>
  bnd (gd (some x100) false x104.2 (lt (pLen prog #[22] x104.1 x104.2) x104.2)) fun x105 =>
  bnd (gd (some x100) false x105.2 (lt (pBin prog .neq 3 (.tmp 103) (.tmp 105) x103.1 x105.1) x105.2)) fun x106 =>
  bnd (pickV x100 (.bool true) x106.1) fun x107 =>
  bnd (gd (some x107) false x106.2 (some (x16,x106.2))) fun x109 =>
  bnd (gd (some x107) false x109.2 (lt (pLen prog #[49] x109.1 x109.2) x109.2)) fun x110 =>
  bnd (gd (some x107) false x110.2 (some (x14,x110.2))) fun x111 =>
  bnd (gd (some x107) false x111.2 (lt (pLen prog #[49] x111.1 x111.2) x111.2)) fun x112 =>
  bnd (gd (some x107) false x112.2 (lt (pBin prog .neq 3 (.tmp 110) (.tmp 112) x110.1 x112.1) x112.2)) fun x113 =>
  bnd (pickV x107 (.bool true) x113.1) fun x114 =>
  bnd (gd (some x114) false x113.2 (some (x18,x113.2))) fun x116 =>
  bnd (gd (some x114) false x116.2 (lt (pLen prog #[49] x116.1 x116.2) x116.2)) fun x117 =>
  bnd (gd (some x114) false x117.2 (some (x14,x117.2))) fun x118 =>
  bnd (gd (some x114) false x118.2 (lt (pLen prog #[49] x118.1 x118.2) x118.2)) fun x119 =>
  bnd (gd (some x114) false x119.2 (lt (pBin prog .neq 3 (.tmp 117) (.tmp 119) x117.1 x119.1) x119.2)) fun x120 =>
  bnd (pickV x114 (.bool true) x120.1) fun x121 =>
  K (x121) x120.2
abbrev G5_19 {β : Type} (inv : Inv) (x1 x14 x16 x18 x20 : Value) (h : AH) (K : Value→AH→Option β) : Option β :=
  bnd (pIndexAddr prog 49 x14 x20) fun x130 =>
  bnd (pLoad prog 53 x130 h) fun x131 =>
  bnd (pIndexAddr prog 49 x16 x20) fun x134 =>
  bnd (pLoad prog 53 x134 h) fun x135 =>
  bnd (pIndexAddr prog 49 x18 x20) fun x138 =>
  bnd (pLoad prog 53 x138 h) fun x139 =>
  bnd (inv (.func 24) #[] #[x135,x139] h) fun x140 =>
  bnd (pBin prog .neq 53 (.tmp 131) (.tmp 140) x131 x140.1) fun x141 =>
  bnd (gd3 (some x141) false x140.2 (some (x14,x140.2))) fun x143 =>
  bnd (gd3 (some x141) false x143.2.1 (some (x20,x143.2.1))) fun x144 =>
  bnd (gd3 (some x141) false x144.2.1 (lt (pIndexAddr prog 49 x143.1 x144.1) x144.2.1)) fun x145 =>
  bnd (gd3 (some x141) false x145.2.1 (lt (pFieldAddr prog 53 x145.1 0) x145.2.1)) fun x146 =>
  bnd (gd3 (some x141) false x146.2.1 (lt (pLoad prog 3 x146.1 x146.2.1) x146.2.1)) fun x147 =>
  bnd (gd3 (some x141) false x147.2.1 (some (x1,x147.2.1))) fun x148 =>
  bnd (gd3 (some x141) false x148.2.1 (lt (pLen prog #[23] x148.1 x148.2.1) x148.2.1)) fun x149 =>
  bnd (gd3 (some x141) false x149.2.1 (lt (pBin prog .neq 3 (.tmp 147) (.tmp 149) x147.1 x149.1) x149.2.1)) fun x150 =>
  bnd (pickV x141 (.bool true) x150.1) fun x151 =>
  chkK ((!true || !true || (sameO (pLoad prog 53 x130 h) x131 && sameO (pLoad prog 53 x130 x140.2) x131)) && true) <|
  K (x151) x150.2.1
def F5_lrlrrrrrrrrrrrr {β : Type} (inv : Inv) (k : Nat) : Nat→Value→Value→Value→Value→Value→AH→(Value→Value→Value→Value→Value→Value→AH→Option β)→(Value→AH→Option β)→Option β
 | 0,_,_,_,_,_,_,_,_=>none
 | j + 1,x1,x14,x16,x18,x20,h,ke0,kr =>
  bnd (pLen prog #[49] x14 h) fun x124 =>
  bnd (pBin prog .lss 3 (.tmp 122) (.tmp 124) x20 x124) fun x125 =>
  brV x125
  (G5_19 inv x1 x14 x16 x18 x20 h fun y151 h =>
  brV y151
  (kr (.bool false) h)
  (bnd (pBin prog .add 3 (.tmp 126) (.const (.int .i64 1)) x20 (.int .i64 1)) fun x127 =>
  F5_lrlrrrrrrrrrrrr inv k j x1 x14 x16 x18 x127 h ke0 kr))
  (ke0 x1 x14 x16 x18 x20 x125 h)
def e5_0 : Ent env 5 false 152:=.lp [] 65530 [1,14,16,18,20] [(.exit 0,[1,14,16,18,20,125]),(.ret,[6])] F5_lrlrrrrrrrrrrrr
/-- shadowbook/shadowbooklaw22.GroupJoins -/
def F5 (inv : Inv) (k : Nat) (x0 x1 x2 : Value) (h : AH) : Option (Value × AH) :=
  bnd (inv (.func 9) #[] #[] h) fun x21 =>
  bnd (pUn prog .not x21.1) fun x22 =>
  brV x22
  (some ((.bool false),x21.2))
  (G5_3 inv x0 x1 x2 x21.2 fun y31 h =>
  brV y31
  (some ((.bool true),h))
  (bnd (inv (.func 11) #[] #[x0,x1] h) fun x35 =>
  bnd (pExtract x35.1 0) fun x36 =>
  bnd (pExtract x35.1 1) fun x37 =>
  bnd (pBin prog .neq 28 (.tmp 38) (.const (.int .i64 0)) x37 (.int .i64 0)) fun x39 =>
  brV x39
  (bnd (pLen prog #[27] x36 x35.2) fun x41 =>
  bnd (pBin prog .eql 3 (.tmp 41) (.const (.int .i64 0)) x41 (.int .i64 0)) fun x42 =>
  some (x42,x35.2))
  (bnd (pLen prog #[23] x1 x35.2) fun x45 =>
  bnd (pBin prog .sub 3 (.tmp 45) (.const (.int .i64 1)) x45 (.int .i64 1)) fun x46 =>
  bnd (inv (.func 15) #[] #[x2,x46] x35.2) fun x47 =>
  bnd (pBin prog .add 3 (.const (.int .i64 1)) (.tmp 47) (.int .i64 1) x47.1) fun x48 =>
  bnd (pSlice prog 23 x1 none (some x48) none x47.2) fun x53 =>
  bnd (inv (.func 11) #[] #[x0,x53] x47.2) fun x54 =>
  bnd (pExtract x54.1 0) fun x55 =>
  bnd (pExtract x54.1 1) fun x56 =>
  bnd (pSlice prog 23 x1 (some x48) none none x54.2) fun x61 =>
  bnd (inv (.func 11) #[] #[x0,x61] x54.2) fun x62 =>
  bnd (pExtract x62.1 0) fun x63 =>
  bnd (pExtract x62.1 1) fun x64 =>
  bnd (inv (.func 23) #[] #[x0,x36] x62.2) fun x68 =>
  bnd (pExtract x68.1 0) fun x69 =>
  bnd (pExtract x68.1 1) fun x70 =>
  bnd (inv (.func 23) #[] #[x0,x55] x68.2) fun x74 =>
  bnd (pExtract x74.1 0) fun x75 =>
  bnd (pExtract x74.1 1) fun x76 =>
  bnd (inv (.func 23) #[] #[x0,x63] x74.2) fun x80 =>
  bnd (pExtract x80.1 0) fun x81 =>
  bnd (pExtract x80.1 1) fun x82 =>
  G5_14 inv x0 x1 x56 x64 x69 x70 x75 x76 x81 x82 x80.2 fun y121 h_1 =>
  brV y121
  (some ((.bool false),h_1))
  (F5_lrlrrrrrrrrrrrr inv k k x1 x69 x75 x81 (.int .i64 0) h_1
  (fun y1 y14 y16 y18 y20 y125 h_2 =>
  some ((.bool true),h_2))
  (fun y6 h_3 =>
  some (y6,h_3))))))
theorem F5_eq : eFun env k inv 5 #[x0,x1,x2] h = F5 inv k x0 x1 x2 h:=ks_fun (n:=152) [e5_0]
theorem F5_call : eInv env (k + 1) (.func 5) #[] #[x0,x1,x2] h = F5 (eInv env k) k x0 x1 x2 h:=kq_inv F5_eq
/-- shadowbook/shadowbooklaw22.light -/
def F10 (inv : Inv) (k : Nat) (x0 x1 : Value) (h : AH) : Option (Value × AH) :=
  bnd (inv (.func 17) #[] #[x0] h) fun x6 =>
  bnd (gd (some x6.1) true x6.2 (some (x1,x6.2))) fun x8 =>
  bnd (gd (some x6.1) true x8.2 (inv (.func 18) #[] #[x8.1,(.int .i64 70)] x8.2)) fun x9 =>
  bnd (pickV x6.1 x9.1 (.bool false)) fun x10 =>
  some (x10,x9.2)
theorem F10_eq : eFun env k inv 10 #[x0,x1] h = F10 inv k x0 x1 h:=ks_fun (n:=11) []
theorem F10_call : eInv env (k + 1) (.func 10) #[] #[x0,x1] h = F10 (eInv env k) k x0 x1 h:=kq_inv F10_eq
abbrev G11_4 {β : Type} (inv : Inv) (x0 x1 : Value) (h : AH) (K : Value→AH→Option β) : Option β :=
  bnd (pLen prog #[23] x1 h) fun x19 =>
  bnd (pBin prog .lss 3 (.tmp 19) (.const (.int .i64 1)) x19 (.int .i64 1)) fun x20 =>
  bnd (gd (some x20) false h (some (x1,h))) fun x22 =>
  bnd (gd (some x20) false x22.2 (lt (pLen prog #[23] x22.1 x22.2) x22.2)) fun x23 =>
  bnd (gd (some x20) false x23.2 (lt (pBin prog .gtr 3 (.tmp 23) (.const (.int .i64 64)) x23.1 (.int .i64 64)) x23.2)) fun x24 =>
  bnd (pickV x20 (.bool true) x24.1) fun x25 =>
  K (x25) x24.2
def F11_lrlrrrrr {β : Type} (inv : Inv) (k : Nat) : Nat→Value→Value→Value→Value→Value→AH→(Value→Value→Value→Value→Value→Value→AH→Option β)→(Value→Value→AH→Option β)→Option β
 | 0,_,_,_,_,_,_,_,_=>none
 | j + 1,x0,x8,x36,x37,x38,h,ke0,kr =>
  bnd (pBin prog .lss 3 (.tmp 38) (.tmp 37) x38 x37) fun x39 =>
  brV x39
  (bnd (pIndexAddr prog 23 x36 x38) fun x41 =>
  bnd (pLoad prog 34 x41 h) fun x42 =>
  bnd (pIndexAddr prog 22 x0 x38) fun x46 =>
  bnd (pFieldAddr prog 73 x46 1) fun x47 =>
  bnd (pLoad prog 3 x47 h) fun x48 =>
  bnd (inv (.func 45) #[] #[x48,x42] h) fun x50 =>
  bnd (pExtract x50.1 0) fun x51 =>
  bnd (pExtract x50.1 1) fun x52 =>
  bnd (pBin prog .neq 28 (.tmp 53) (.const (.int .i64 0)) x52 (.int .i64 0)) fun x54 =>
  brV x54
  (kr (.slice none 0 0) x52 x50.2)
  (bnd (pBuildSlice prog 27 1 #[(0,x51)] x50.2) fun x58 =>
  bnd (pAppend prog #[27,27] x8 x58.1 x58.2) fun x59 =>
  bnd (pBin prog .add 3 (.tmp 38) (.const (.int .i64 1)) x38 (.int .i64 1)) fun x60 =>
  F11_lrlrrrrr inv k j x0 x59.1 x36 x37 x60 x59.2 ke0 kr))
  (ke0 x0 x8 x36 x37 x38 x39 h)
def e11_0 : Ent env 11 false 62:=.lp [] 506 [0,8,36,37,38] [(.exit 0,[0,8,36,37,38,39]),(.ret,[4,5])] F11_lrlrrrrr
/-- shadowbook/group.Put -/
def F11 (inv : Inv) (k : Nat) (x0 x1 : Value) (h : AH) : Option (Value × AH) :=
  bnd (inv (.func 42) #[] #[x0] h) fun x14 =>
  bnd (pBin prog .neq 28 (.tmp 15) (.const (.int .i64 0)) x14.1 (.int .i64 0)) fun x16 =>
  brV x16
  (some (.tuple #[(.slice none 0 0),x14.1],x14.2))
  (G11_4 inv x0 x1 x14.2 fun y25 h =>
  brV y25
  (some (.tuple #[(.slice none 0 0),(.int .i64 12)],h))
  (bnd (inv (.func 43) #[] #[x0,x1] h) fun x28 =>
  bnd (pBin prog .neq 28 (.tmp 29) (.const (.int .i64 0)) x28.1 (.int .i64 0)) fun x30 =>
  brV x30
  (some (.tuple #[(.slice none 0 0),x28.1],x28.2))
  (bnd (pLen prog #[22] x0 x28.2) fun x34 =>
  bnd (pBuild prog 39 #[]) fun x35 =>
  bnd (inv (.func 44) #[] #[x1,x34,x35] x28.2) fun x36 =>
  bnd (pLen prog #[23] x36.1 x36.2) fun x37 =>
  F11_lrlrrrrr inv k k x0 (.slice none 0 0) x36.1 x37 (.int .i64 0) x36.2
  (fun y0 y8 y36 y37 y38 y39 h_1 =>
  some (.tuple #[y8,(.int .i64 0)],h_1))
  (fun y4 y5 h_2 =>
  some (.tuple #[y4,y5],h_2)))))
theorem F11_eq : eFun env k inv 11 #[x0,x1] h = F11 inv k x0 x1 h:=ks_fun (n:=62) [e11_0]
theorem F11_call : eInv env (k + 1) (.func 11) #[] #[x0,x1] h = F11 (eInv env k) k x0 x1 h:=kq_inv F11_eq
def F15_rlrrr {β : Type} (inv : Inv) (k : Nat) (x1 x5 x12 : Value) (h : AH) (kn : (Value→Value→Value→AH→Option β)) : Option β :=
  brV x12
  (bnd (pBin prog .add 3 (.tmp 13) (.tmp 14) x5 x1) fun x15 =>
  kn unk x15 unk h)
  (kn x1 x5 x12 h)
def e15_0 : Ent env 15 false 17:=.jn [] 61 [1,5,12] [(.normal,[1,5,12])] F15_rlrrr
/-- shadowbook/shadowbookkit.Pick -/
def F15 (inv : Inv) (k : Nat) (x0 x1 : Value) (h : AH) : Option (Value × AH) :=
  bnd (pBin prog .lss 3 (.tmp 6) (.const (.int .i64 1)) x1 (.int .i64 1)) fun x7 =>
  brV x7
  (some ((.int .i64 0),h))
  (bnd (pBin prog .rem 3 (.tmp 8) (.tmp 9) x0 x1) fun x10 =>
  bnd (pBin prog .lss 3 (.tmp 11) (.const (.int .i64 0)) x10 (.int .i64 0)) fun x12 =>
  F15_rlrrr inv k x1 x10 x12 h
  (fun y1 y5 y12 h =>
  some (y5,h)))
theorem F15_eq : eFun env k inv 15 #[x0,x1] h = F15 inv k x0 x1 h:=ks_fun (n:=17) [e15_0]
theorem F15_call : eInv env (k + 1) (.func 15) #[] #[x0,x1] h = F15 (eInv env k) k x0 x1 h:=kq_inv F15_eq
def F17_lrlr {β : Type} (inv : Inv) (k : Nat) : Nat→Value→Value→AH→(Value→Value→Value→AH→Option β)→(Value→AH→Option β)→Option β
 | 0,_,_,_,_,_=>none
 | j + 1,x0,x3,h,ke0,kr =>
  bnd (pLen prog #[22] x0 h) fun x6 =>
  bnd (pBin prog .lss 3 (.tmp 4) (.tmp 6) x3 x6) fun x7 =>
  brV x7
  (bnd (pIndexAddr prog 22 x0 x3) fun x12 =>
  bnd (pFieldAddr prog 73 x12 0) fun x13 =>
  bnd (pLoad prog 9 x13 h) fun x14 =>
  bnd (pLen prog #[9] x14 h) fun x15 =>
  bnd (pBin prog .gtr 3 (.tmp 15) (.const (.int .i64 60)) x15 (.int .i64 60)) fun x16 =>
  brV x16
  (kr (.bool false) h)
  (bnd (pBin prog .add 3 (.tmp 8) (.const (.int .i64 1)) x3 (.int .i64 1)) fun x9 =>
  F17_lrlr inv k j x0 x9 h ke0 kr))
  (ke0 x0 x3 x7 h)
def e17_0 : Ent env 17 false 20:=.lp [] 26 [0,3] [(.exit 0,[0,3,7]),(.ret,[2])] F17_lrlr
/-- shadowbook/shadowbookkit.LightCols -/
def F17 (inv : Inv) (k : Nat) (x0 : Value) (h : AH) : Option (Value × AH) :=
  F17_lrlr inv k k x0 (.int .i64 0) h
  (fun y0 y3 y7 h =>
  bnd (pLen prog #[22] y0 h) fun x18 =>
  bnd (pBin prog .leq 3 (.tmp 18) (.const (.int .i64 20)) x18 (.int .i64 20)) fun x19 =>
  some (x19,h))
  (fun y2 h_1 =>
  some (y2,h_1))
theorem F17_eq : eFun env k inv 17 #[x0] h = F17 inv k x0 h:=ks_fun (n:=20) [e17_0]
theorem F17_call : eInv env (k + 1) (.func 17) #[] #[x0] h = F17 (eInv env k) k x0 h:=kq_inv F17_eq
def F18_lrlr {β : Type} (inv : Inv) (k : Nat) : Nat→Value→Value→Value→AH→(Value→Value→Value→Value→AH→Option β)→(Value→AH→Option β)→Option β
 | 0,_,_,_,_,_,_=>none
 | j + 1,x0,x1,x5,h,ke0,kr =>
  bnd (pLen prog #[23] x0 h) fun x8 =>
  bnd (pBin prog .lss 3 (.tmp 6) (.tmp 8) x5 x8) fun x9 =>
  brV x9
  (bnd (pIndexAddr prog 23 x0 x5) fun x14 =>
  bnd (pLoad prog 34 x14 h) fun x15 =>
  bnd (inv (.func 47) #[] #[x15] h) fun x16 =>
  bnd (pUn prog .not x16.1) fun x17 =>
  brV x17
  (kr (.bool false) x16.2)
  (bnd (pBin prog .add 3 (.tmp 10) (.const (.int .i64 1)) x5 (.int .i64 1)) fun x11 =>
  F18_lrlr inv k j x0 x1 x11 x16.2 ke0 kr))
  (ke0 x0 x1 x5 x9 h)
def e18_0 : Ent env 18 false 22:=.lp [] 26 [0,1,5] [(.exit 0,[0,1,5,9]),(.ret,[4])] F18_lrlr
/-- shadowbook/shadowbookkit.LightRows -/
def F18 (inv : Inv) (k : Nat) (x0 x1 : Value) (h : AH) : Option (Value × AH) :=
  F18_lrlr inv k k x0 x1 (.int .i64 0) h
  (fun y0 y1 y5 y9 h =>
  bnd (pLen prog #[23] y0 h) fun x19 =>
  bnd (pBin prog .leq 3 (.tmp 19) (.tmp 20) x19 y1) fun x21 =>
  some (x21,h))
  (fun y4 h_1 =>
  some (y4,h_1))
theorem F18_eq : eFun env k inv 18 #[x0,x1] h = F18 inv k x0 x1 h:=ks_fun (n:=22) [e18_0]
theorem F18_call : eInv env (k + 1) (.func 18) #[] #[x0,x1] h = F18 (eInv env k) k x0 x1 h:=kq_inv F18_eq
abbrev G23_12 {β : Type} (inv : Inv) (x0 x7 x8 x10 x11 x19 x20 x21 : Value) (h : AH) (K : Value→AH→Option β) : Option β :=
  bnd (pIndexAddr prog 22 x0 x8) fun x41 =>
  bnd (pLoad prog 73 x41 h) fun x42 =>
  bnd (pFieldAddr prog 53 x11 1) fun x44 =>
  bnd (pLoad prog 3 x44 h) fun x45 =>
  bnd (pFieldAddr prog 53 x11 0) fun x46 =>
  bnd (pLoad prog 3 x46 h) fun x47 =>
  bnd (pIndexAddr prog 49 x7 (.int .i64 0)) fun x49 =>
  bnd (pFieldAddr prog 53 x49 0) fun x50 =>
  bnd (pLoad prog 3 x50 h) fun x51 =>
  bnd (inv (.func 53) #[] #[x42,x10,x45,x47,x51] h) fun x52 =>
  bnd (pUn prog .not x52.1) fun x53 =>
  K (x53) x52.2
def F23_lrlrrr {β : Type} (inv : Inv) (k : Nat) : Nat→Value→Value→Value→Value→Value→AH→(Value→Value→Value→Value→Value→Value→AH→Option β)→(Value→Value→AH→Option β)→Option β
 | 0,_,_,_,_,_,_,_,_=>none
 | j + 1,x0,x7,x19,x20,x21,h,ke0,kr =>
  bnd (pBin prog .lss 3 (.tmp 21) (.tmp 20) x21 x20) fun x22 =>
  brV x22
  (bnd (pIndexAddr prog 27 x19 x21) fun x24 =>
  bnd (pLoad prog 9 x24 h) fun x25 =>
  bnd (inv (.func 52) #[] #[x25] h) fun x28 =>
  bnd (pExtract x28.1 0) fun x29 =>
  bnd (pExtract x28.1 1) fun x30 =>
  bnd (pExtract x28.1 2) fun x31 =>
  bnd (pAlloc prog 53 x28.2) fun x11 =>
  bnd (kSt (pStore prog 53 x11.1 x30 x11.2)) fun u =>
  bnd (pBin prog .neq 28 (.tmp 32) (.const (.int .i64 0)) x31 (.int .i64 0)) fun x33 =>
  brV x33
  (kr (.slice none 0 0) x31 u.2)
  (bnd (pLoad prog 53 x11.1 u.2) fun x36 =>
  bnd (pBuildSlice prog 49 1 #[(0,x36)] u.2) fun x37 =>
  bnd (pAppend prog #[49,49] x7 x37.1 x37.2) fun x38 =>
  G23_12 inv x0 x38.1 x21 x29 x11.1 x19 x20 x21 x38.2 fun y53 h =>
  brV y53
  (kr (.slice none 0 0) (.int .i64 4) h)
  (bnd (pBin prog .add 3 (.tmp 21) (.const (.int .i64 1)) x21 (.int .i64 1)) fun x54 =>
  F23_lrlrrr inv k j x0 x38.1 x19 x20 x54 h ke0 kr)))
  (ke0 x0 x7 x19 x20 x21 x22 h)
def e23_0 : Ent env 23 false 56:=.lp [] 122 [0,7,19,20,21] [(.exit 0,[0,7,19,20,21,22]),(.ret,[4,5])] F23_lrlrrr
/-- shadowbook/group.Zones -/
def F23 (inv : Inv) (k : Nat) (x0 x1 : Value) (h : AH) : Option (Value × AH) :=
  bnd (inv (.func 51) #[] #[x0,x1] h) fun x15 =>
  bnd (pBin prog .neq 28 (.tmp 16) (.const (.int .i64 0)) x15.1 (.int .i64 0)) fun x17 =>
  brV x17
  (some (.tuple #[(.slice none 0 0),x15.1],x15.2))
  (bnd (pLen prog #[27] x1 x15.2) fun x20 =>
  F23_lrlrrr inv k k x0 (.slice none 0 0) x1 x20 (.int .i64 0) x15.2
  (fun y0 y7 y19 y20 y21 y22 h =>
  some (.tuple #[y7,(.int .i64 0)],h))
  (fun y4 y5 h_1 =>
  some (.tuple #[y4,y5],h_1)))
theorem F23_eq : eFun env k inv 23 #[x0,x1] h = F23 inv k x0 x1 h:=ks_fun (n:=56) [e23_0]
theorem F23_call : eInv env (k + 1) (.func 23) #[] #[x0,x1] h = F23 (eInv env k) k x0 x1 h:=kq_inv F23_eq
abbrev G24_1 {β : Type} (inv : Inv) (x2 x3 x4 : Value) (h : AH) (K : Value→AH→Option β) : Option β :=
  bnd (pFieldAddr prog 53 x2 0) fun x6 =>
  bnd (pLoad prog 3 x6 h) fun x7 =>
  bnd (pFieldAddr prog 53 x3 0) fun x8 =>
  bnd (pLoad prog 3 x8 h) fun x9 =>
  bnd (pBin prog .add 3 (.tmp 7) (.tmp 9) x7 x9) fun x10 =>
  bnd (pFieldAddr prog 53 x2 1) fun x11 =>
  bnd (pLoad prog 3 x11 h) fun x12 =>
  bnd (pFieldAddr prog 53 x3 1) fun x13 =>
  bnd (pLoad prog 3 x13 h) fun x14 =>
  bnd (pBin prog .add 3 (.tmp 12) (.tmp 14) x12 x14) fun x15 =>
  bnd (pFieldAddr prog 53 x2 2) fun x16 =>
  bnd (pLoad prog 39 x16 h) fun x17 =>
  bnd (pFieldAddr prog 53 x2 3) fun x18 =>
  bnd (pLoad prog 39 x18 h) fun x19 =>
  bnd (pBuild prog 53 #[(0,x10),(1,x15),(2,x17),(3,x19)]) fun x20 =>
  bnd (pAlloc prog 53 h) fun x5 =>
  bnd (kSt (pStore prog 53 x5.1 x20 x5.2)) fun u =>
  K (x5.1) u.2
abbrev G24_3 {β : Type} (inv : Inv) (x3 x4 x5 : Value) (h : AH) (K : AH→Option β) : Option β :=
  bnd (pFieldAddr prog 53 x3 2) fun x26 =>
  bnd (pLoad prog 39 x26 h) fun x27 =>
  bnd (pFieldAddr prog 53 x3 3) fun x28 =>
  bnd (pLoad prog 39 x28 h) fun x29 =>
  bnd (pFieldAddr prog 53 x5 2) fun x30 =>
  bnd (kSt (pStore prog 39 x30 x27 h)) fun u =>
  bnd (pFieldAddr prog 53 x5 3) fun x31 =>
  bnd (kSt (pStore prog 39 x31 x29 u.2)) fun u_1 =>
  chkK ((!true || !true || (sameO (pLoad prog 39 x28 h) x29 && sameO (pLoad prog 39 x28 u.2) x29)) && true) <|
  K u_1.2
def F24_rllrrrlrr {β : Type} (inv : Inv) (k : Nat) (x3 x4 x5 x42 : Value) (h : AH) (kn : (Value→Value→Value→Value→AH→Option β)) : Option β :=
  brV x42
  (bnd (pFieldAddr prog 53 x3 2) fun x43 =>
  bnd (pLoad prog 39 x43 h) fun x44 =>
  bnd (pFieldAddr prog 53 x5 2) fun x45 =>
  bnd (kSt (pStore prog 39 x45 x44 h)) fun u =>
  kn x3 x4 x5 unk u.2)
  (kn x3 x4 x5 x42 h)
def e24_0 : Ent env 24 false 56:=.jn [] 953 [3,4,5,42] [(.normal,[3,4,5,42])] F24_rllrrrlrr
def F24_rlrr {β : Type} (inv : Inv) (k : Nat) (x3 x4 x5 x25 : Value) (h : AH) (kn : (Value→Value→Value→Value→Value→AH→Option β)) : Option β :=
  brV x25
  (G24_3 inv x3 x4 x5 h fun  h =>
  kn unk x4 x5 unk unk h)
  (bnd (pFieldAddr prog 53 x3 0) fun x32 =>
  bnd (pLoad prog 3 x32 h) fun x33 =>
  bnd (pFieldAddr prog 53 x3 1) fun x34 =>
  bnd (pLoad prog 3 x34 h) fun x35 =>
  bnd (pBin prog .neq 3 (.tmp 33) (.tmp 35) x33 x35) fun x36 =>
  brV x36
  (bnd (pFieldAddr prog 53 x3 2) fun x37 =>
  bnd (pLoad prog 39 x37 h) fun x38 =>
  bnd (pFieldAddr prog 53 x5 2) fun x39 =>
  bnd (pLoad prog 39 x39 h) fun x40 =>
  bnd (inv (.func 54) #[] #[x38,x40] h) fun x41 =>
  bnd (pBin prog .lss 3 (.tmp 41) (.const (.int .i64 0)) x41.1 (.int .i64 0)) fun x42 =>
  F24_rllrrrlrr inv k x3 x4 x5 x42 x41.2
  (fun y3 y4 y5 y42 h_2 =>
  bnd (pFieldAddr prog 53 y3 3) fun x46 =>
  bnd (pLoad prog 39 x46 h_2) fun x47 =>
  bnd (pFieldAddr prog 53 y5 3) fun x48 =>
  bnd (pLoad prog 39 x48 h_2) fun x49 =>
  bnd (inv (.func 54) #[] #[x47,x49] h_2) fun x50 =>
  bnd (pBin prog .gtr 3 (.tmp 50) (.const (.int .i64 0)) x50.1 (.int .i64 0)) fun x51 =>
  brV x51
  (bnd (pFieldAddr prog 53 y3 3) fun x52 =>
  bnd (pLoad prog 39 x52 x50.2) fun x53 =>
  bnd (pFieldAddr prog 53 y5 3) fun x54 =>
  bnd (kSt (pStore prog 39 x54 x53 x50.2)) fun u =>
  kn unk y4 y5 unk unk u.2)
  (kn y3 y4 y5 unk x51 x50.2)))
  (kn x3 x4 x5 x36 unk h))
def e24_1 : Ent env 24 false 56:=.jn [e24_0] 29 [3,4,5,25] [(.normal,[3,4,5,36,51])] F24_rlrr
/-- shadowbook/shadowbookref09.Join -/
def F24 (inv : Inv) (k : Nat) (x0 x1 : Value) (h : AH) : Option (Value × AH) :=
  bnd (pBox prog 53 x0 h) fun x2 =>
  bnd (pBox prog 53 x1 x2.2) fun x3 =>
  bnd (pAlloc prog 53 x3.2) fun x4 =>
  G24_1 inv x2.1 x3.1 x4.1 x4.2 fun y5 h =>
  bnd (pFieldAddr prog 53 x2.1 0) fun x21 =>
  bnd (pLoad prog 3 x21 h) fun x22 =>
  bnd (pFieldAddr prog 53 x2.1 1) fun x23 =>
  bnd (pLoad prog 3 x23 h) fun x24 =>
  bnd (pBin prog .eql 3 (.tmp 22) (.tmp 24) x22 x24) fun x25 =>
  F24_rlrr inv k x3.1 x4.1 y5 x25 h
  (fun y3 y4 y5_3 y36 y51 h_4 =>
  bnd (pLoad prog 53 y5_3 h_4) fun x55 =>
  bnd (kSt (pStore prog 53 y4 x55 h_4)) fun u =>
  bnd (pLoad prog 53 y4 u.2) fun q0 =>
  some (q0,u.2))
theorem F24_eq : eFun env k inv 24 #[x0,x1] h = F24 inv k x0 x1 h:=ks_fun (n:=56) [e24_0,e24_1]
theorem F24_call : eInv env (k + 1) (.func 24) #[] #[x0,x1] h = F24 (eInv env k) k x0 x1 h:=kq_inv F24_eq
abbrev G42_1 {β : Type} (inv : Inv) (x0 : Value) (h : AH) (K : Value→AH→Option β) : Option β :=
  bnd (pLen prog #[22] x0 h) fun x7 =>
  bnd (pBin prog .lss 3 (.tmp 7) (.const (.int .i64 1)) x7 (.int .i64 1)) fun x8 =>
  bnd (gd (some x8) false h (some (x0,h))) fun x10 =>
  bnd (gd (some x8) false x10.2 (lt (pLen prog #[22] x10.1 x10.2) x10.2)) fun x11 =>
  bnd (gd (some x8) false x11.2 (lt (pBin prog .gtr 3 (.tmp 11) (.const (.int .i64 16)) x11.1 (.int .i64 16)) x11.2)) fun x12 =>
  bnd (pickV x8 (.bool true) x12.1) fun x13 =>
  K (x13) x12.2
abbrev G42_9 {β : Type} (inv : Inv) (x0 x3 x4 x14 x15 x16 : Value) (h : AH) (K : Value→AH→Option β) : Option β :=
  bnd (pFieldAddr prog 73 x4 1) fun x27 =>
  bnd (pLoad prog 3 x27 h) fun x28 =>
  bnd (pBin prog .lss 3 (.tmp 28) (.const (.int .i64 1)) x28 (.int .i64 1)) fun x29 =>
  bnd (gd (some x29) false h (lt (pFieldAddr prog 73 x4 1) h)) fun x31 =>
  bnd (gd (some x29) false x31.2 (lt (pLoad prog 3 x31.1 x31.2) x31.2)) fun x32 =>
  bnd (gd (some x29) false x32.2 (lt (pBin prog .gtr 3 (.tmp 32) (.const (.int .i64 3)) x32.1 (.int .i64 3)) x32.2)) fun x33 =>
  bnd (pickV x29 (.bool true) x33.1) fun x34 =>
  bnd (gd (some x34) false x33.2 (some (x0,x33.2))) fun x36 =>
  bnd (gd (some x34) false x36.2 (some (x3,x36.2))) fun x37 =>
  bnd (gd (some x34) false x37.2 (lt (pSlice prog 22 x36.1 none (some x37.1) none x37.2) x37.2)) fun x38 =>
  bnd (gd (some x34) false x38.2 (lt (pMakeFunc (.func 66) #[] #[x4]) x38.2)) fun x39 =>
  bnd (gd (some x34) false x39.2 (inv (.func 65) #[] #[x38.1,x39.1] x39.2)) fun x40 =>
  bnd (pickV x34 (.bool true) x40.1) fun x41 =>
  K (x41) x40.2
def F42_lrlrr {β : Type} (inv : Inv) (k : Nat) : Nat→Value→Value→Value→Value→AH→(Value→Value→Value→Value→Value→AH→Option β)→(Value→AH→Option β)→Option β
 | 0,_,_,_,_,_,_,_=>none
 | j + 1,x0,x14,x15,x16,h,ke0,kr =>
  bnd (pBin prog .lss 3 (.tmp 16) (.tmp 15) x16 x15) fun x17 =>
  brV x17
  (bnd (pIndexAddr prog 22 x14 x16) fun x19 =>
  bnd (pLoad prog 73 x19 h) fun x20 =>
  bnd (pAlloc prog 73 h) fun x4 =>
  bnd (kSt (pStore prog 73 x4.1 x20 x4.2)) fun u =>
  bnd (pFieldAddr prog 73 x4.1 0) fun x21 =>
  bnd (pLoad prog 9 x21 u.2) fun x22 =>
  bnd (inv (.func 64) #[] #[x22] u.2) fun x23 =>
  bnd (pBin prog .neq 28 (.tmp 24) (.const (.int .i64 0)) x23.1 (.int .i64 0)) fun x25 =>
  brV x25
  (kr x23.1 x23.2)
  (G42_9 inv x0 x16 x4.1 x14 x15 x16 x23.2 fun y41 h =>
  brV y41
  (kr (.int .i64 171) h)
  (bnd (pBin prog .add 3 (.tmp 16) (.const (.int .i64 1)) x16 (.int .i64 1)) fun x42 =>
  F42_lrlrr inv k j x0 x14 x15 x42 h ke0 kr)))
  (ke0 x0 x14 x15 x16 x17 h)
def e42_0 : Ent env 42 false 43:=.lp [] 58 [0,14,15,16] [(.exit 0,[0,14,15,16,17]),(.ret,[2])] F42_lrlrr
/-- shadowbook/schema.Check -/
def F42 (inv : Inv) (k : Nat) (x0 : Value) (h : AH) : Option (Value × AH) :=
  G42_1 inv x0 h fun y13 h =>
  brV y13
  (some ((.int .i64 171),h))
  (bnd (pLen prog #[22] x0 h) fun x15 =>
  F42_lrlrr inv k k x0 x0 x15 (.int .i64 0) h
  (fun y0 y14 y15 y16 y17 h_1 =>
  some ((.int .i64 0),h_1))
  (fun y2 h_2 =>
  some (y2,h_2)))
theorem F42_eq : eFun env k inv 42 #[x0] h = F42 inv k x0 h:=ks_fun (n:=43) [e42_0]
theorem F42_call : eInv env (k + 1) (.func 42) #[] #[x0] h = F42 (eInv env k) k x0 h:=kq_inv F42_eq
def F43_lrlr {β : Type} (inv : Inv) (k : Nat) : Nat→Value→Value→Value→Value→AH→(Value→Value→Value→Value→Value→AH→Option β)→(Value→AH→Option β)→Option β
 | 0,_,_,_,_,_,_,_=>none
 | j + 1,x0,x8,x9,x10,h,ke0,kr =>
  bnd (pBin prog .lss 3 (.tmp 10) (.tmp 9) x10 x9) fun x11 =>
  brV x11
  (bnd (pIndexAddr prog 23 x8 x10) fun x12 =>
  bnd (pLoad prog 34 x12 h) fun x13 =>
  bnd (inv (.func 67) #[] #[x0,x13] h) fun x16 =>
  bnd (pBin prog .neq 28 (.tmp 17) (.const (.int .i64 0)) x16.1 (.int .i64 0)) fun x18 =>
  brV x18
  (kr x16.1 x16.2)
  (bnd (pBin prog .add 3 (.tmp 10) (.const (.int .i64 1)) x10 (.int .i64 1)) fun x20 =>
  F43_lrlr inv k j x0 x8 x9 x20 x16.2 ke0 kr))
  (ke0 x0 x8 x9 x10 x11 h)
def e43_0 : Ent env 43 false 21:=.lp [] 26 [0,8,9,10] [(.exit 0,[0,8,9,10,11]),(.ret,[4])] F43_lrlr
/-- shadowbook/group.rows -/
def F43 (inv : Inv) (k : Nat) (x0 x1 : Value) (h : AH) : Option (Value × AH) :=
  bnd (pLen prog #[23] x1 h) fun x9 =>
  F43_lrlr inv k k x0 x1 x9 (.int .i64 0) h
  (fun y0 y8 y9 y10 y11 h =>
  some ((.int .i64 0),h))
  (fun y4 h_1 =>
  some (y4,h_1))
theorem F43_eq : eFun env k inv 43 #[x0,x1] h = F43 inv k x0 x1 h:=ks_fun (n:=21) [e43_0]
theorem F43_call : eInv env (k + 1) (.func 43) #[] #[x0,x1] h = F43 (eInv env k) k x0 x1 h:=kq_inv F43_eq
def F44_rlrrllrrllrrllrrllrlrr {β : Type} (inv : Inv) (k : Nat) (x0 x5 x7 x8 x10 x11 x15 x16 x19 x20 x21 x29 : Value) (h : AH) (kn : (Value→Value→Value→Value→Value→Value→Value→Value→Value→Value→Value→Value→AH→Option β)) : Option β :=
  brV x29
  (bnd (pIndexAddr prog 34 x10 x8) fun x32 =>
  bnd (pLoad prog 39 x32 h) fun x33 =>
  bnd (kSt (pStore prog 39 x11 x33 h)) fun u =>
  kn x0 x5 x7 x8 unk x11 x15 x16 x19 x20 x21 unk u.2)
  (kn x0 x5 x7 x8 x10 x11 x15 x16 x19 x20 x21 x29 h)
def e44_0 : Ent env 44 false 47:=.jn [] 7654605 [0,5,7,8,10,11,15,16,19,20,21,29] [(.normal,[0,5,7,8,10,11,15,16,19,20,21,29])] F44_rlrrllrrllrrllrrllrlrr
abbrev G44_11 {β : Type} (inv : Inv) (x0 x5 x7 x8 x11 x15 x16 x19 x20 x21 : Value) (h : AH) (K : AH→Option β) : Option β :=
  bnd (pIndexAddr prog 23 x7 x8) fun x38 =>
  bnd (pLoad prog 34 x38 h) fun x39 =>
  bnd (pLoad prog 39 x11 h) fun x40 =>
  bnd (pBuildSlice prog 34 1 #[(0,x40)] h) fun x41 =>
  bnd (pAppend prog #[34,34] x39 x41.1 x41.2) fun x42 =>
  bnd (pIndexAddr prog 23 x7 x8) fun x43 =>
  bnd (kSt (pStore prog 34 x43 x42.1 x42.2)) fun u =>
  chkK ((!true || !true || (sameO (pLoad prog 34 x38 h) x39 && sameO (pLoad prog 34 x38 x41.2) x39)) && true) <|
  K u.2
def F44_lrrllrrllrlrr {β : Type} (inv : Inv) (k : Nat) : Nat→Value→Value→Value→Value→Value→Value→Value→Value→Value→AH→(Value→Value→Value→Value→Value→Value→Value→Value→Value→Value→AH→Option β)→Option β
 | 0,_,_,_,_,_,_,_,_,_,_,_=>none
 | j + 1,x0,x5,x7,x8,x15,x16,x19,x20,x21,h,ke2 =>
  bnd (pBin prog .lss 3 (.tmp 21) (.tmp 20) x21 x20) fun x22 =>
  brV x22
  (bnd (pIndexAddr prog 23 x19 x21) fun x23 =>
  bnd (pLoad prog 34 x23 h) fun x24 =>
  bnd (pLoad prog 39 x5 h) fun x25 =>
  bnd (pAlloc prog 39 h) fun x11 =>
  bnd (kSt (pStore prog 39 x11.1 x25 x11.2)) fun u =>
  bnd (pLen prog #[34] x24 u.2) fun x28 =>
  bnd (pBin prog .lss 3 (.tmp 26) (.tmp 28) x8 x28) fun x29 =>
  F44_rlrrllrrllrrllrrllrlrr inv k x0 x5 x7 x8 x24 x11.1 x15 x16 x19 x20 x21 x29 u.2
  (fun y0 y5 y7 y8 y10 y11 y15 y16 y19 y20 y21 y29 h =>
  G44_11 inv y0 y5 y7 y8 y11 y15 y16 y19 y20 y21 h fun  h_1 =>
  bnd (pBin prog .add 3 (.tmp 21) (.const (.int .i64 1)) y21 (.int .i64 1)) fun x44 =>
  F44_lrrllrrllrlrr inv k j y0 y5 y7 y8 y15 y16 y19 y20 x44 h_1 ke2))
  (ke2 x0 x5 x7 x8 x15 x16 x19 x20 x21 x22 h)
def e44_1 : Ent env 44 false 47:=.lp [e44_0] 14950 [0,5,7,8,15,16,19,20,21] [(.exit 2,[0,5,7,8,15,16,19,20,21,22])] F44_lrrllrrllrlrr
def F44_lrlrr {β : Type} (inv : Inv) (k : Nat) : Nat→Value→Value→Value→Value→Value→AH→(Value→Value→Value→Value→Value→Value→AH→Option β)→Option β
 | 0,_,_,_,_,_,_,_=>none
 | j + 1,x0,x5,x7,x15,x16,h,ke0 =>
  bnd (pBin prog .lss 3 (.tmp 16) (.tmp 15) x16 x15) fun x17 =>
  brV x17
  (bnd (pLen prog #[23] x0 h) fun x20 =>
  F44_lrrllrrllrlrr inv k k x0 x5 x7 x16 x15 x16 x0 x20 (.int .i64 0) h
  (fun y0 y5 y7 y8 y15 y16 y19 y20 y21 y22 h =>
  bnd (pBin prog .add 3 (.tmp 16) (.const (.int .i64 1)) y16 (.int .i64 1)) fun x45 =>
  F44_lrlrr inv k j y0 y5 y7 y15 x45 h ke0))
  (ke0 x0 x5 x7 x15 x16 x17 h)
def e44_2 : Ent env 44 false 47:=.lp [e44_0,e44_1] 58 [0,5,7,15,16] [(.exit 0,[0,5,7,15,16,17])] F44_lrlrr
/-- shadowbook/group.turned[shadowbook/api.Cell] -/
def F44 (inv : Inv) (k : Nat) (x0 x1 x2 : Value) (h : AH) : Option (Value × AH) :=
  bnd (pBox prog 39 x2 h) fun x5 =>
  bnd (pMakeSlice prog 23 x1 x1 x5.2) fun x13 =>
  bnd (pLen prog #[23] x13.1 x13.2) fun x15 =>
  F44_lrlrr inv k k x0 x5.1 x13.1 x15 (.int .i64 0) x13.2
  (fun y0 y5 y7 y15 y16 y17 h =>
  some (y7,h))
theorem F44_eq : eFun env k inv 44 #[x0,x1,x2] h = F44 inv k x0 x1 x2 h:=ks_fun (n:=47) [e44_0,e44_1,e44_2]
theorem F44_call : eInv env (k + 1) (.func 44) #[] #[x0,x1,x2] h = F44 (eInv env k) k x0 x1 x2 h:=kq_inv F44_eq
def F45_lrrllrlrrrr {β : Type} (inv : Inv) (k : Nat) (x0 x7 x8 x25 x26 x27 x28 : Value) (h : AH) (kn : (Value→Value→Value→Value→Value→Value→Value→Value→AH→Option β)) : Option β :=
  bnd (pIndexAddr prog 34 x25 x27) fun x30 =>
  bnd (pLoad prog 39 x30 h) fun x31 =>
  bnd (pAlloc prog 39 h) fun x10 =>
  bnd (kSt (pStore prog 39 x10.1 x31 x10.2)) fun u =>
  bnd (pFieldAddr prog 39 x10.1 0) fun x34 =>
  bnd (pLoad prog 3 x34 u.2) fun x35 =>
  bnd (pBin prog .eql 3 (.tmp 35) (.const (.int .i64 0)) x35 (.int .i64 0)) fun x36 =>
  bnd (pIndexAddr prog 92 x7 x27) fun x37 =>
  bnd (kSt (pStore prog 4 x37 x36 u.2)) fun u_1 =>
  bnd (pIndexAddr prog 92 x7 x27) fun x40 =>
  bnd (pLoad prog 4 x40 u_1.2) fun x41 =>
  bnd (pUn prog .not x41) fun x42 =>
  brV x42
  (bnd (pLoad prog 39 x10.1 u_1.2) fun x44 =>
  bnd (pBuildSlice prog 34 1 #[(0,x44)] u_1.2) fun x45 =>
  bnd (pAppend prog #[34,34] x8 x45.1 x45.2) fun x46 =>
  kn x0 x7 x46.1 unk x25 x26 x27 unk x46.2)
  (kn x0 x7 x8 x10.1 x25 x26 x27 x42 u_1.2)
def e45_0 : Ent env 45 false 88:=.jn [] 4006 [0,7,8,25,26,27,28] [(.normal,[0,7,8,10,25,26,27,42])] F45_lrrllrlrrrr
def F45_lrlrrrr {β : Type} (inv : Inv) (k : Nat) : Nat→Value→Value→Value→Value→Value→Value→AH→(Value→Value→Value→Value→Value→Value→Value→AH→Option β)→Option β
 | 0,_,_,_,_,_,_,_,_=>none
 | j + 1,x0,x7,x8,x25,x26,x27,h,ke0 =>
  bnd (pBin prog .lss 3 (.tmp 27) (.tmp 26) x27 x26) fun x28 =>
  brV x28
  (F45_lrrllrlrrrr inv k x0 x7 x8 x25 x26 x27 x28 h
  (fun y0 y7 y8 y10 y25 y26 y27 y42 h =>
  bnd (pBin prog .add 3 (.tmp 27) (.const (.int .i64 1)) y27 (.int .i64 1)) fun x47 =>
  F45_lrlrrrr inv k j y0 y7 y8 y25 y26 x47 h ke0))
  (ke0 x0 x7 x8 x25 x26 x27 x28 h)
def e45_1 : Ent env 45 false 88:=.lp [e45_0] 250 [0,7,8,25,26,27] [(.exit 0,[0,7,8,25,26,27,28])] F45_lrlrrrr
/-- shadowbook/segment.Put -/
def F45 (inv : Inv) (k : Nat) (x0 x1 : Value) (h : AH) : Option (Value × AH) :=
  bnd (inv (.func 68) #[] #[x0,x1] h) fun x18 =>
  bnd (pBin prog .neq 28 (.tmp 19) (.const (.int .i64 0)) x18.1 (.int .i64 0)) fun x20 =>
  brV x20
  (some (.tuple #[(.string { data:=#[] }),x18.1],x18.2))
  (bnd (pLen prog #[34] x1 x18.2) fun x23 =>
  bnd (pMakeSlice prog 92 x23 x23 x18.2) fun x24 =>
  bnd (pLen prog #[34] x1 x24.2) fun x26 =>
  F45_lrlrrrr inv k k x0 x24.1 (.slice none 0 0) x1 x26 (.int .i64 0) x24.2
  (fun y0 y7 y8 y25 y26 y27 y28 h =>
  bnd (inv (.func 69) #[] #[y7] h) fun x50 =>
  bnd (pExtract x50.1 0) fun x51 =>
  bnd (pExtract x50.1 1) fun x52 =>
  bnd (pBin prog .neq 28 (.tmp 53) (.const (.int .i64 0)) x52 (.int .i64 0)) fun x54 =>
  brV x54
  (some (.tuple #[(.string { data:=#[] }),x52],x50.2))
  (bnd (pConv prog 3 5 y0 x50.2) fun x57 =>
  bnd (pBuildSlice prog 93 1 #[(0,x57)] x50.2) fun x58 =>
  bnd (pAppend prog #[93,93] x58.1 x51 x58.2) fun x60 =>
  bnd (pLen prog #[34] y8 x60.2) fun x62 =>
  bnd (pBin prog .eql 3 (.tmp 62) (.const (.int .i64 0)) x62 (.int .i64 0)) fun x63 =>
  brV x63
  (bnd (pConv prog 93 9 x60.1 x60.2) fun x65 =>
  some (.tuple #[x65,(.int .i64 0)],x60.2))
  (bnd (inv (.func 70) #[] #[y0] x60.2) fun x67 =>
  bnd (inv (.method "shadowbook/segment.cells") #[] #[x67.1, y8] x67.2) fun x71 =>
  bnd (pExtract x71.1 0) fun x72 =>
  bnd (pExtract x71.1 1) fun x73 =>
  bnd (pBin prog .neq 28 (.tmp 74) (.const (.int .i64 0)) x73 (.int .i64 0)) fun x75 =>
  brV x75
  (some (.tuple #[(.string { data:=#[] }),x73],x71.2))
  (bnd (inv (.func 71) #[] #[y8] x71.2) fun x80 =>
  bnd (pMakeFunc (.method "shadowbook/segment.zone") #[x67.1] #[]) fun x81 =>
  bnd (pNilCheck prog x81) fun x82 =>
  bnd (inv (.method "shadowbook/segment.zone") #[] #[x67.1, x60.1, x80.1] x80.2) fun x84 =>
  bnd (pAppend prog #[93,93] x84.1 x72 x84.2) fun x86 =>
  bnd (pConv prog 93 9 x86.1 x86.2) fun x87 =>
  some (.tuple #[x87,(.int .i64 0)],x86.2))))))
theorem F45_eq : eFun env k inv 45 #[x0,x1] h = F45 inv k x0 x1 h:=ks_fun (n:=88) [e45_0,e45_1]
theorem F45_call : eInv env (k + 1) (.func 45) #[] #[x0,x1] h = F45 (eInv env k) k x0 x1 h:=kq_inv F45_eq
def F47_lrlr {β : Type} (inv : Inv) (k : Nat) : Nat→Value→Value→AH→(Value→Value→Value→AH→Option β)→(Value→AH→Option β)→Option β
 | 0,_,_,_,_,_=>none
 | j + 1,x0,x3,h,ke0,kr =>
  bnd (pLen prog #[34] x0 h) fun x6 =>
  bnd (pBin prog .lss 3 (.tmp 4) (.tmp 6) x3 x6) fun x7 =>
  brV x7
  (bnd (pIndexAddr prog 34 x0 x3) fun x12 =>
  bnd (pFieldAddr prog 39 x12 2) fun x13 =>
  bnd (pLoad prog 9 x13 h) fun x14 =>
  bnd (pLen prog #[9] x14 h) fun x15 =>
  bnd (pBin prog .gtr 3 (.tmp 15) (.const (.int .i64 300)) x15 (.int .i64 300)) fun x16 =>
  brV x16
  (kr (.bool false) h)
  (bnd (pBin prog .add 3 (.tmp 8) (.const (.int .i64 1)) x3 (.int .i64 1)) fun x9 =>
  F47_lrlr inv k j x0 x9 h ke0 kr))
  (ke0 x0 x3 x7 h)
def e47_0 : Ent env 47 false 20:=.lp [] 26 [0,3] [(.exit 0,[0,3,7]),(.ret,[2])] F47_lrlr
/-- shadowbook/shadowbookkit.LightRow -/
def F47 (inv : Inv) (k : Nat) (x0 : Value) (h : AH) : Option (Value × AH) :=
  F47_lrlr inv k k x0 (.int .i64 0) h
  (fun y0 y3 y7 h =>
  bnd (pLen prog #[34] y0 h) fun x18 =>
  bnd (pBin prog .leq 3 (.tmp 18) (.const (.int .i64 20)) x18 (.int .i64 20)) fun x19 =>
  some (x19,h))
  (fun y2 h_1 =>
  some (y2,h_1))
theorem F47_eq : eFun env k inv 47 #[x0] h = F47 inv k x0 h:=ks_fun (n:=20) [e47_0]
theorem F47_call : eInv env (k + 1) (.func 47) #[] #[x0] h = F47 (eInv env k) k x0 h:=kq_inv F47_eq
/-- shadowbook/group.head -/
def F51 (inv : Inv) (k : Nat) (x0 x1 : Value) (h : AH) : Option (Value × AH) :=
  bnd (inv (.func 42) #[] #[x0] h) fun x7 =>
  bnd (pBin prog .neq 28 (.tmp 8) (.const (.int .i64 0)) x7.1 (.int .i64 0)) fun x9 =>
  brV x9
  (some (x7.1,x7.2))
  (bnd (pLen prog #[27] x1 x7.2) fun x12 =>
  bnd (pLen prog #[22] x0 x7.2) fun x14 =>
  bnd (pBin prog .neq 3 (.tmp 12) (.tmp 14) x12 x14) fun x15 =>
  brV x15
  (some ((.int .i64 4),x7.2))
  (some ((.int .i64 0),x7.2)))
theorem F51_eq : eFun env k inv 51 #[x0,x1] h = F51 inv k x0 x1 h:=ks_fun (n:=16) []
theorem F51_call : eInv env (k + 1) (.func 51) #[] #[x0,x1] h = F51 (eInv env k) k x0 x1 h:=kq_inv F51_eq
/-- shadowbook/segment.Zone -/
def F52 (inv : Inv) (k : Nat) (x0 : Value) (h : AH) : Option (Value × AH) :=
  bnd (pAlloc prog 53 h) fun x3 =>
  bnd (inv (.func 73) #[] #[x0] x3.2) fun x8 =>
  bnd (pExtract x8.1 0) fun x9 =>
  bnd (pExtract x8.1 1) fun x10 =>
  bnd (pAlloc prog 104 x8.2) fun x5 =>
  bnd (kSt (pStore prog 104 x5.1 x9 x5.2)) fun u =>
  bnd (pBin prog .neq 28 (.tmp 11) (.const (.int .i64 0)) x10 (.int .i64 0)) fun x12 =>
  brV x12
  (bnd (pBuild prog 53 #[]) fun x13 =>
  bnd (kSt (pStore prog 53 x3.1 x13 u.2)) fun u_1 =>
  bnd (pLoad prog 53 x3.1 u_1.2) fun q1 =>
  some (.tuple #[(.int .i64 0),q1,x10],u_1.2))
  (bnd (pFieldAddr prog 104 x5.1 0) fun x15 =>
  bnd (pLoad prog 3 x15 u.2) fun x16 =>
  bnd (pFieldAddr prog 104 x5.1 2) fun x17 =>
  bnd (pLoad prog 53 x17 u.2) fun x18 =>
  bnd (kSt (pStore prog 53 x3.1 x18 u.2)) fun u_2 =>
  bnd (pLoad prog 53 x3.1 u_2.2) fun q1 =>
  some (.tuple #[x16,q1,(.int .i64 0)],u_2.2))
theorem F52_eq : eFun env k inv 52 #[x0] h = F52 inv k x0 h:=ks_fun (n:=19) []
theorem F52_call : eInv env (k + 1) (.func 52) #[] #[x0] h = F52 (eInv env k) k x0 h:=kq_inv F52_eq
abbrev G53_1 {β : Type} (inv : Inv) (x1 x2 x3 x4 x5 : Value) (h : AH) (K : Value→AH→Option β) : Option β :=
  bnd (pFieldAddr prog 73 x5 1) fun x12 =>
  bnd (pLoad prog 3 x12 h) fun x13 =>
  bnd (pBin prog .eql 3 (.tmp 11) (.tmp 13) x1 x13) fun x14 =>
  bnd (gd (some x14) true h (lt (pFieldAddr prog 73 x5 2) h)) fun x16 =>
  bnd (gd (some x14) true x16.2 (lt (pLoad prog 4 x16.1 x16.2) x16.2)) fun x17 =>
  bnd (gd (some x14) true x17.2 (some (x17.1,x17.2))) fun x18 =>
  bnd (gd (some x18.1) false x18.2 (some (x2,x18.2))) fun x19 =>
  bnd (gd (some x18.1) false x19.2 (lt (pBin prog .eql 3 (.tmp 19) (.const (.int .i64 0)) x19.1 (.int .i64 0)) x19.2)) fun x20 =>
  bnd (gd (some x14) true x20.2 (lt (pickV x18.1 (.bool true) x20.1) x20.2)) fun x21 =>
  bnd (pickV x14 x21.1 (.bool false)) fun x22 =>
  bnd (gd (some x22) true x21.2 (some (x3,x21.2))) fun x24 =>
  bnd (gd (some x22) true x24.2 (lt (pBin prog .geq 3 (.tmp 24) (.const (.int .i64 1)) x24.1 (.int .i64 1)) x24.2)) fun x25 =>
  bnd (pickV x22 x25.1 (.bool false)) fun x26 =>
  bnd (gd (some x26) true x25.2 (some (x3,x25.2))) fun x28 =>
  bnd (gd (some x26) true x28.2 (lt (pBin prog .leq 3 (.tmp 28) (.const (.int .i64 64)) x28.1 (.int .i64 64)) x28.2)) fun x29 =>
  bnd (pickV x26 x29.1 (.bool false)) fun x30 =>
  bnd (gd (some x30) true x29.2 (some (x3,x29.2))) fun x32 =>
  bnd (gd (some x30) true x32.2 (some (x4,x32.2))) fun x33 =>
  bnd (gd (some x30) true x33.2 (lt (pBin prog .eql 3 (.tmp 32) (.tmp 33) x32.1 x33.1) x33.2)) fun x34 =>
  bnd (pickV x30 x34.1 (.bool false)) fun x35 =>
  K (x35) x34.2
/-- shadowbook/group.fits -/
def F53 (inv : Inv) (k : Nat) (x0 x1 x2 x3 x4 : Value) (h : AH) : Option (Value × AH) :=
  bnd (pBox prog 73 x0 h) fun x5 =>
  G53_1 inv x1 x2 x3 x4 x5.1 x5.2 fun y10 h =>
  some (y10,h)
theorem F53_eq : eFun env k inv 53 #[x0,x1,x2,x3,x4] h = F53 inv k x0 x1 x2 x3 x4 h:=ks_fun (n:=36) []
theorem F53_call : eInv env (k + 1) (.func 53) #[] #[x0,x1,x2,x3,x4] h = F53 (eInv env k) k x0 x1 x2 x3 x4 h:=kq_inv F53_eq
/-- shadowbook/shadowbookref09.Compare -/
def F54 (inv : Inv) (k : Nat) (x0 x1 : Value) (h : AH) : Option (Value × AH) :=
  bnd (pBox prog 39 x0 h) fun x2 =>
  bnd (pBox prog 39 x1 x2.2) fun x3 =>
  bnd (pFieldAddr prog 39 x2.1 0) fun x6 =>
  bnd (pLoad prog 3 x6 x3.2) fun x7 =>
  bnd (pFieldAddr prog 39 x3.1 0) fun x8 =>
  bnd (pLoad prog 3 x8 x3.2) fun x9 =>
  bnd (pBin prog .neq 3 (.tmp 7) (.tmp 9) x7 x9) fun x10 =>
  brV x10
  (bnd (pFieldAddr prog 39 x2.1 0) fun x11 =>
  bnd (pLoad prog 3 x11 x3.2) fun x12 =>
  bnd (pFieldAddr prog 39 x3.1 0) fun x13 =>
  bnd (pLoad prog 3 x13 x3.2) fun x14 =>
  bnd (pBin prog .lss 3 (.tmp 12) (.tmp 14) x12 x14) fun x15 =>
  brV x15
  (some ((.int .i64 (-1)),x3.2))
  (some ((.int .i64 1),x3.2)))
  (bnd (pFieldAddr prog 39 x2.1 1) fun x17 =>
  bnd (pLoad prog 2 x17 x3.2) fun x18 =>
  bnd (pFieldAddr prog 39 x3.1 1) fun x19 =>
  bnd (pLoad prog 2 x19 x3.2) fun x20 =>
  bnd (pBin prog .neq 2 (.tmp 18) (.tmp 20) x18 x20) fun x21 =>
  brV x21
  (bnd (pFieldAddr prog 39 x2.1 1) fun x22 =>
  bnd (pLoad prog 2 x22 x3.2) fun x23 =>
  bnd (pFieldAddr prog 39 x3.1 1) fun x24 =>
  bnd (pLoad prog 2 x24 x3.2) fun x25 =>
  bnd (pBin prog .lss 2 (.tmp 23) (.tmp 25) x23 x25) fun x26 =>
  brV x26
  (some ((.int .i64 (-1)),x3.2))
  (some ((.int .i64 1),x3.2)))
  (bnd (pFieldAddr prog 39 x2.1 2) fun x28 =>
  bnd (pLoad prog 9 x28 x3.2) fun x29 =>
  bnd (pFieldAddr prog 39 x3.1 2) fun x30 =>
  bnd (pLoad prog 9 x30 x3.2) fun x31 =>
  bnd (pBin prog .neq 9 (.tmp 29) (.tmp 31) x29 x31) fun x32 =>
  brV x32
  (bnd (pFieldAddr prog 39 x2.1 2) fun x33 =>
  bnd (pLoad prog 9 x33 x3.2) fun x34 =>
  bnd (pFieldAddr prog 39 x3.1 2) fun x35 =>
  bnd (pLoad prog 9 x35 x3.2) fun x36 =>
  bnd (pBin prog .lss 9 (.tmp 34) (.tmp 36) x34 x36) fun x37 =>
  brV x37
  (some ((.int .i64 (-1)),x3.2))
  (some ((.int .i64 1),x3.2)))
  (some ((.int .i64 0),x3.2))))
theorem F54_eq : eFun env k inv 54 #[x0,x1] h = F54 inv k x0 x1 h:=ks_fun (n:=38) []
theorem F54_call : eInv env (k + 1) (.func 54) #[] #[x0,x1] h = F54 (eInv env k) k x0 x1 h:=kq_inv F54_eq
/-- slices.ContainsFunc[[]string,string] -/
def F61 (inv : Inv) (k : Nat) (x0 x1 : Value) (h : AH) : Option (Value × AH) :=
  bnd (inv (.func 81) #[] #[x0,x1] h) fun x7 =>
  bnd (pBin prog .geq 3 (.tmp 7) (.const (.int .i64 0)) x7.1 (.int .i64 0)) fun x8 =>
  some (x8,x7.2)
theorem F61_eq : eFun env k inv 61 #[x0,x1] h = F61 inv k x0 x1 h:=ks_fun (n:=9) []
theorem F61_call : eInv env (k + 1) (.func 61) #[] #[x0,x1] h = F61 (eInv env k) k x0 x1 h:=kq_inv F61_eq
abbrev G64_1 {β : Type} (inv : Inv) (x0 : Value) (h : AH) (K : Value→AH→Option β) : Option β :=
  bnd (pLen prog #[9] x0 h) fun x6 =>
  bnd (pBin prog .lss 3 (.tmp 6) (.const (.int .i64 1)) x6 (.int .i64 1)) fun x7 =>
  bnd (gd (some x7) false h (some (x0,h))) fun x9 =>
  bnd (gd (some x7) false x9.2 (lt (pLen prog #[9] x9.1 x9.2) x9.2)) fun x10 =>
  bnd (gd (some x7) false x10.2 (lt (pBin prog .gtr 3 (.tmp 10) (.const (.int .i64 32)) x10.1 (.int .i64 32)) x10.2)) fun x11 =>
  bnd (pickV x7 (.bool true) x11.1) fun x12 =>
  K (x12) x11.2
abbrev G64_6 {β : Type} (inv : Inv) (x3 x4 x14 : Value) (h : AH) (K : Value→AH→Option β) : Option β :=
  bnd (pBin prog .geq 21 (.tmp 20) (.const (.int .i32 97)) x4 (.int .i32 97)) fun x21 =>
  bnd (gd (some x21) true h (some (x4,h))) fun x23 =>
  bnd (gd (some x21) true x23.2 (lt (pBin prog .leq 21 (.tmp 23) (.const (.int .i32 122)) x23.1 (.int .i32 122)) x23.2)) fun x24 =>
  bnd (pickV x21 x24.1 (.bool false)) fun x25 =>
  K (x25) x24.2
abbrev G64_7 {β : Type} (inv : Inv) (x3 x4 x14 : Value) (h : AH) (K : Value→AH→Option β) : Option β :=
  bnd (pBin prog .geq 21 (.tmp 26) (.const (.int .i32 65)) x4 (.int .i32 65)) fun x27 =>
  bnd (gd (some x27) true h (some (x4,h))) fun x29 =>
  bnd (gd (some x27) true x29.2 (lt (pBin prog .leq 21 (.tmp 29) (.const (.int .i32 90)) x29.1 (.int .i32 90)) x29.2)) fun x30 =>
  bnd (pickV x27 x30.1 (.bool false)) fun x31 =>
  K (x31) x30.2
def F64_rlllrlrrllrlrrlr {β : Type} (inv : Inv) (k : Nat) (x3 x4 x14 x19 : Value) (h : AH) (kn : (Value→Value→Value→Value→AH→Option β)) : Option β :=
  brV x19
  (kn x3 x4 x14 x19 h)
  (G64_7 inv x3 x4 x14 h fun y19 h =>
  brV y19
  (kn x3 x4 x14 y19 h)
  (bnd (pBin prog .eql 21 (.tmp 32) (.const (.int .i32 95)) x4 (.int .i32 95)) fun x33 =>
  kn x3 x4 x14 x33 h))
def e64_0 : Ent env 64 false 45:=.jn [] 111825 [3,4,14,19] [(.normal,[3,4,14,19])] F64_rlllrlrrllrlrrlr
abbrev G64_9 {β : Type} (inv : Inv) (x3 x4 x14 : Value) (h : AH) (K : Value→AH→Option β) : Option β :=
  bnd (pBin prog .gtr 3 (.tmp 35) (.const (.int .i64 0)) x3 (.int .i64 0)) fun x36 =>
  bnd (gd (some x36) true h (some (x4,h))) fun x38 =>
  bnd (gd (some x36) true x38.2 (lt (pBin prog .geq 21 (.tmp 38) (.const (.int .i32 48)) x38.1 (.int .i32 48)) x38.2)) fun x39 =>
  bnd (pickV x36 x39.1 (.bool false)) fun x40 =>
  bnd (gd (some x40) true x39.2 (some (x4,x39.2))) fun x42 =>
  bnd (gd (some x40) true x42.2 (lt (pBin prog .leq 21 (.tmp 42) (.const (.int .i32 57)) x42.1 (.int .i32 57)) x42.2)) fun x43 =>
  bnd (pickV x40 x43.1 (.bool false)) fun x44 =>
  K (x44) x43.2
def F64_lrlrrlr {β : Type} (inv : Inv) (k : Nat) : Nat→Value→Value→Value→Value→Value→AH→(Value→Value→Value→AH→Option β)→(Value→AH→Option β)→Option β
 | 0,_,_,_,_,_,_,_,_=>none
 | j + 1,x3,x4,x14,x19,x34,h,ke0,kr =>
  bnd (pNext x14 true h) fun x15 =>
  bnd (pExtract x15.1 0) fun x16 =>
  brV x16
  (bnd (pExtract x15.1 1) fun x17 =>
  bnd (pExtract x15.1 2) fun x18 =>
  G64_6 inv x17 x18 x14 x15.2 fun y19 h =>
  F64_rlllrlrrllrlrrlr inv k x17 x18 x14 y19 h
  (fun y3 y4 y14 y19_1 h_2 =>
  brV y19_1
  (F64_lrlrrlr inv k j y3 y4 y14 y19_1 unk h_2 ke0 kr)
  (G64_9 inv y3 y4 y14 h_2 fun y34 h_3 =>
  brV y34
  (F64_lrlrrlr inv k j unk unk y14 unk y34 h_3 ke0 kr)
  (kr (.int .i64 170) h_3))))
  (ke0 x14 x15.1 x16 x15.2)
def e64_1 : Ent env 64 false 45:=.lp [e64_0] 218 [3,4,14,19,34] [(.exit 0,[14,15,16]),(.ret,[2])] F64_lrlrrlr
/-- shadowbook/schema.Name -/
def F64 (inv : Inv) (k : Nat) (x0 : Value) (h : AH) : Option (Value × AH) :=
  G64_1 inv x0 h fun y12 h =>
  brV y12
  (some ((.int .i64 170),h))
  (bnd (pRange prog 9 x0 h) fun x14 =>
  F64_lrlrrlr inv k k unk unk x14.1 unk unk x14.2
  (fun y14 y15 y16 h_4 =>
  some ((.int .i64 0),h_4))
  (fun y2 h_5 =>
  some (y2,h_5)))
theorem F64_eq : eFun env k inv 64 #[x0] h = F64 inv k x0 h:=ks_fun (n:=45) [e64_0,e64_1]
theorem F64_call : eInv env (k + 1) (.func 64) #[] #[x0] h = F64 (eInv env k) k x0 h:=kq_inv F64_eq
/-- slices.ContainsFunc[[]shadowbook/api.Col,shadowbook/api.Col] -/
def F65 (inv : Inv) (k : Nat) (x0 x1 : Value) (h : AH) : Option (Value × AH) :=
  bnd (inv (.func 83) #[] #[x0,x1] h) fun x7 =>
  bnd (pBin prog .geq 3 (.tmp 7) (.const (.int .i64 0)) x7.1 (.int .i64 0)) fun x8 =>
  some (x8,x7.2)
theorem F65_eq : eFun env k inv 65 #[x0,x1] h = F65 inv k x0 x1 h:=ks_fun (n:=9) []
theorem F65_call : eInv env (k + 1) (.func 65) #[] #[x0,x1] h = F65 (eInv env k) k x0 x1 h:=kq_inv F65_eq
/-- shadowbook/schema.Check$1 -/
def F66 (inv : Inv) (k : Nat) (x0 x1 : Value) (h : AH) : Option (Value × AH) :=
  bnd (pBox prog 73 x0 h) fun x2 =>
  bnd (pFieldAddr prog 73 x2.1 0) fun x4 =>
  bnd (pLoad prog 9 x4 x2.2) fun x5 =>
  bnd (pFieldAddr prog 73 x1 0) fun x6 =>
  bnd (pLoad prog 9 x6 x2.2) fun x7 =>
  bnd (pBin prog .eql 9 (.tmp 5) (.tmp 7) x5 x7) fun x8 =>
  some (x8,x2.2)
theorem F66_eq : eFun env k inv 66 #[x0,x1] h = F66 inv k x0 x1 h:=ks_fun (n:=9) []
theorem F66_call : eInv env (k + 1) (.func 66) #[] #[x0,x1] h = F66 (eInv env k) k x0 x1 h:=kq_inv F66_eq
def F67_lrlrrr {β : Type} (inv : Inv) (k : Nat) : Nat→Value→Value→Value→Value→AH→(Value→Value→Value→Value→Value→AH→Option β)→(Value→AH→Option β)→Option β
 | 0,_,_,_,_,_,_,_=>none
 | j + 1,x1,x19,x20,x21,h,ke0,kr =>
  bnd (pBin prog .lss 3 (.tmp 21) (.tmp 20) x21 x20) fun x22 =>
  brV x22
  (bnd (pIndexAddr prog 22 x19 x21) fun x24 =>
  bnd (pLoad prog 73 x24 h) fun x25 =>
  bnd (pAlloc prog 73 h) fun x7 =>
  bnd (kSt (pStore prog 73 x7.1 x25 x7.2)) fun u =>
  bnd (pLoad prog 73 x7.1 u.2) fun x26 =>
  bnd (pIndexAddr prog 34 x1 x21) fun x29 =>
  bnd (pLoad prog 39 x29 u.2) fun x30 =>
  bnd (inv (.func 84) #[] #[x26,x30] u.2) fun x31 =>
  bnd (pBin prog .neq 28 (.tmp 32) (.const (.int .i64 0)) x31.1 (.int .i64 0)) fun x33 =>
  brV x33
  (kr x31.1 x31.2)
  (bnd (pBin prog .add 3 (.tmp 21) (.const (.int .i64 1)) x21 (.int .i64 1)) fun x35 =>
  F67_lrlrrr inv k j x1 x19 x20 x35 x31.2 ke0 kr))
  (ke0 x1 x19 x20 x21 x22 h)
def e67_0 : Ent env 67 false 36:=.lp [] 122 [1,19,20,21] [(.exit 0,[1,19,20,21,22]),(.ret,[4])] F67_lrlrrr
/-- shadowbook/schema.Row -/
def F67 (inv : Inv) (k : Nat) (x0 x1 : Value) (h : AH) : Option (Value × AH) :=
  bnd (inv (.func 42) #[] #[x0] h) fun x10 =>
  bnd (pBin prog .neq 28 (.tmp 11) (.const (.int .i64 0)) x10.1 (.int .i64 0)) fun x12 =>
  brV x12
  (some (x10.1,x10.2))
  (bnd (pLen prog #[34] x1 x10.2) fun x15 =>
  bnd (pLen prog #[22] x0 x10.2) fun x17 =>
  bnd (pBin prog .neq 3 (.tmp 15) (.tmp 17) x15 x17) fun x18 =>
  brV x18
  (some ((.int .i64 173),x10.2))
  (bnd (pLen prog #[22] x0 x10.2) fun x20 =>
  F67_lrlrrr inv k k x1 x0 x20 (.int .i64 0) x10.2
  (fun y1 y19 y20 y21 y22 h =>
  some ((.int .i64 0),h))
  (fun y4 h_1 =>
  some (y4,h_1))))
theorem F67_eq : eFun env k inv 67 #[x0,x1] h = F67 inv k x0 x1 h:=ks_fun (n:=36) [e67_0]
theorem F67_call : eInv env (k + 1) (.func 67) #[] #[x0,x1] h = F67 (eInv env k) k x0 x1 h:=kq_inv F67_eq
abbrev G68_11 {β : Type} (inv : Inv) (x0 x6 x14 x15 x16 : Value) (h : AH) (K : Value→AH→Option β) : Option β :=
  bnd (pFieldAddr prog 39 x6 0) fun x25 =>
  bnd (pLoad prog 3 x25 h) fun x26 =>
  bnd (pBin prog .neq 3 (.tmp 26) (.tmp 27) x26 x0) fun x28 =>
  bnd (gd (some x28) true h (lt (pFieldAddr prog 39 x6 0) h)) fun x30 =>
  bnd (gd (some x28) true x30.2 (lt (pLoad prog 3 x30.1 x30.2) x30.2)) fun x31 =>
  bnd (gd (some x28) true x31.2 (lt (pBin prog .neq 3 (.tmp 31) (.const (.int .i64 0)) x31.1 (.int .i64 0)) x31.2)) fun x32 =>
  bnd (pickV x28 x32.1 (.bool false)) fun x33 =>
  K (x33) x32.2
def F68_lrlrrr {β : Type} (inv : Inv) (k : Nat) : Nat→Value→Value→Value→Value→AH→(Value→Value→Value→Value→Value→AH→Option β)→(Value→AH→Option β)→Option β
 | 0,_,_,_,_,_,_,_=>none
 | j + 1,x0,x14,x15,x16,h,ke0,kr =>
  bnd (pBin prog .lss 3 (.tmp 16) (.tmp 15) x16 x15) fun x17 =>
  brV x17
  (bnd (pIndexAddr prog 34 x14 x16) fun x18 =>
  bnd (pLoad prog 39 x18 h) fun x19 =>
  bnd (pAlloc prog 39 h) fun x6 =>
  bnd (kSt (pStore prog 39 x6.1 x19 x6.2)) fun u =>
  bnd (pLoad prog 39 x6.1 u.2) fun x20 =>
  bnd (inv (.func 85) #[] #[x20] u.2) fun x21 =>
  bnd (pBin prog .neq 28 (.tmp 22) (.const (.int .i64 0)) x21.1 (.int .i64 0)) fun x23 =>
  brV x23
  (kr x21.1 x21.2)
  (G68_11 inv x0 x6.1 x14 x15 x16 x21.2 fun y33 h =>
  brV y33
  (kr (.int .i64 11) h)
  (bnd (pBin prog .add 3 (.tmp 16) (.const (.int .i64 1)) x16 (.int .i64 1)) fun x34 =>
  F68_lrlrrr inv k j x0 x14 x15 x34 h ke0 kr)))
  (ke0 x0 x14 x15 x16 x17 h)
def e68_0 : Ent env 68 false 35:=.lp [] 122 [0,14,15,16] [(.exit 0,[0,14,15,16,17]),(.ret,[4])] F68_lrlrrr
/-- shadowbook/segment.Check -/
def F68 (inv : Inv) (k : Nat) (x0 x1 : Value) (h : AH) : Option (Value × AH) :=
  bnd (inv (.func 70) #[] #[x0] h) fun x9 =>
  bnd (pBin prog .eql 97 (.tmp 9) (.const .nilIface) x9.1 .nilIface) fun x10 =>
  brV x10
  (some ((.int .i64 2),x9.2))
  (bnd (pLen prog #[34] x1 x9.2) fun x12 =>
  bnd (pBin prog .gtr 3 (.tmp 12) (.const (.int .i64 4096)) x12 (.int .i64 4096)) fun x13 =>
  brV x13
  (some ((.int .i64 3),x9.2))
  (bnd (pLen prog #[34] x1 x9.2) fun x15 =>
  F68_lrlrrr inv k k x0 x1 x15 (.int .i64 0) x9.2
  (fun y0 y14 y15 y16 y17 h =>
  some ((.int .i64 0),h))
  (fun y4 h_1 =>
  some (y4,h_1))))
theorem F68_eq : eFun env k inv 68 #[x0,x1] h = F68 inv k x0 x1 h:=ks_fun (n:=35) [e68_0]
theorem F68_call : eInv env (k + 1) (.func 68) #[] #[x0,x1] h = F68 (eInv env k) k x0 x1 h:=kq_inv F68_eq
/-- shadowbook/nulls.Put -/
def F69 (inv : Inv) (k : Nat) (x0 : Value) (h : AH) : Option (Value × AH) :=
  bnd (pLen prog #[92] x0 h) fun x9 =>
  bnd (pBin prog .gtr 3 (.tmp 9) (.const (.int .i64 4096)) x9 (.int .i64 4096)) fun x10 =>
  brV x10
  (some (.tuple #[(.slice none 0 0),(.int .i64 3)],h))
  (bnd (pLen prog #[92] x0 h) fun x13 =>
  bnd (pConv prog 3 121 x13 h) fun x14 =>
  bnd (inv (.func 86) #[] #[(.slice none 0 0),x14] h) fun x15 =>
  bnd (inv (.func 87) #[] #[x0] x15.2) fun x17 =>
  bnd (pBuildSlice prog 93 1 #[(0,x17.1)] x17.2) fun x18 =>
  bnd (pAppend prog #[93,93] x15.1 x18.1 x18.2) fun x19 =>
  bnd (inv (.func 87) #[] #[x0] x19.2) fun x21 =>
  bnd (pBin prog .neq 5 (.tmp 21) (.const (.int .u8 2)) x21.1 (.int .u8 2)) fun x22 =>
  brV x22
  (some (.tuple #[x19.1,(.int .i64 0)],x21.2))
  (bnd (inv (.func 89) #[] #[x0] x21.2) fun x26 =>
  bnd (inv (.func 88) #[] #[x26.1,(.int .i64 1)] x26.2) fun x27 =>
  bnd (pExtract x27.1 0) fun x28 =>
  bnd (pExtract x27.1 1) fun x29 =>
  bnd (pAppend prog #[93,93] x19.1 x28 x27.2) fun x32 =>
  some (.tuple #[x32.1,x29],x32.2)))
theorem F69_eq : eFun env k inv 69 #[x0] h = F69 inv k x0 h:=ks_fun (n:=34) []
theorem F69_call : eInv env (k + 1) (.func 69) #[] #[x0] h = F69 (eInv env k) k x0 h:=kq_inv F69_eq
/-- shadowbook/segment.of -/
def F70 (inv : Inv) (k : Nat) (x0 : Value) (h : AH) : Option (Value × AH) :=
  bnd (pBin prog .eql 3 (.tmp 3) (.const (.int .i64 1)) x0 (.int .i64 1)) fun x5 =>
  brV x5
  (bnd (inv (.func 90) #[] #[] h) fun x6 =>
  bnd (pMakeIface prog 132 x6.1) fun x7 =>
  some (x7,x6.2))
  (bnd (pBin prog .eql 3 (.tmp 3) (.const (.int .i64 2)) x0 (.int .i64 2)) fun x9 =>
  brV x9
  (bnd (inv (.func 91) #[] #[] h) fun x10 =>
  bnd (pMakeIface prog 140 x10.1) fun x11 =>
  some (x11,x10.2))
  (bnd (pBin prog .eql 3 (.tmp 3) (.const (.int .i64 3)) x0 (.int .i64 3)) fun x13 =>
  brV x13
  (bnd (inv (.func 92) #[] #[] h) fun x14 =>
  bnd (pMakeIface prog 148 x14.1) fun x15 =>
  some (x15,x14.2))
  (some (.nilIface,h))))
theorem F70_eq : eFun env k inv 70 #[x0] h = F70 inv k x0 h:=ks_fun (n:=16) []
theorem F70_call : eInv env (k + 1) (.func 70) #[] #[x0] h = F70 (eInv env k) k x0 h:=kq_inv F70_eq
def F71_lrlr {β : Type} (inv : Inv) (k : Nat) : Nat→Value→Value→Value→Value→AH→(Value→Value→Value→Value→Value→AH→Option β)→Option β
 | 0,_,_,_,_,_,_=>none
 | j + 1,x2,x5,x6,x7,h,ke0 =>
  bnd (pBin prog .lss 3 (.tmp 7) (.tmp 6) x7 x6) fun x8 =>
  brV x8
  (bnd (pIndexAddr prog 34 x5 x7) fun x9 =>
  bnd (pLoad prog 39 x9 h) fun x10 =>
  bnd (pAlloc prog 39 h) fun x4 =>
  bnd (kSt (pStore prog 39 x4.1 x10 x4.2)) fun u =>
  bnd (pLoad prog 53 x2 u.2) fun x11 =>
  bnd (pLoad prog 39 x4.1 u.2) fun x12 =>
  bnd (inv (.func 94) #[] #[x12] u.2) fun x13 =>
  bnd (inv (.func 93) #[] #[x11,x13.1] x13.2) fun x14 =>
  bnd (kSt (pStore prog 53 x2 x14.1 x14.2)) fun u_1 =>
  chkK ((!true || !true || (sameO (pLoad prog 53 x2 u.2) x11 && sameO (pLoad prog 53 x2 x13.2) x11)) && true) <|
  bnd (pBin prog .add 3 (.tmp 7) (.const (.int .i64 1)) x7 (.int .i64 1)) fun x15 =>
  F71_lrlr inv k j x2 x5 x6 x15 u_1.2 ke0)
  (ke0 x2 x5 x6 x7 x8 h)
def e71_0 : Ent env 71 false 17:=.lp [] 26 [2,5,6,7] [(.exit 0,[2,5,6,7,8])] F71_lrlr
/-- shadowbook/zone.Of -/
def F71 (inv : Inv) (k : Nat) (x0 : Value) (h : AH) : Option (Value × AH) :=
  bnd (pAlloc prog 53 h) fun x2 =>
  bnd (pLen prog #[34] x0 x2.2) fun x6 =>
  F71_lrlr inv k k x2.1 x0 x6 (.int .i64 0) x2.2
  (fun y2 y5 y6 y7 y8 h =>
  bnd (pLoad prog 53 y2 h) fun x16 =>
  bnd (kSt (pStore prog 53 y2 x16 h)) fun u =>
  bnd (pLoad prog 53 y2 u.2) fun q0 =>
  some (q0,u.2))
theorem F71_eq : eFun env k inv 71 #[x0] h = F71 inv k x0 h:=ks_fun (n:=17) [e71_0]
theorem F71_call : eInv env (k + 1) (.func 71) #[] #[x0] h = F71 (eInv env k) k x0 h:=kq_inv F71_eq
abbrev G73_14 {β : Type} (inv : Inv) (x2 x4 x7 : Value) (h : AH) (K : Value→AH→Option β) : Option β :=
  bnd (inv (.method "shadowbook/segment.ends") #[] #[x4, x7] h) fun x56 =>
  bnd (pExtract x56.1 0) fun x57 =>
  bnd (pExtract x56.1 1) fun x58 =>
  bnd (pExtract x56.1 2) fun x59 =>
  bnd (pFieldAddr prog 104 x2 2) fun x60 =>
  bnd (pFieldAddr prog 53 x60 2) fun x61 =>
  bnd (kSt (pStore prog 39 x61 x57 x56.2)) fun u =>
  bnd (pFieldAddr prog 104 x2 2) fun x62 =>
  bnd (pFieldAddr prog 53 x62 3) fun x63 =>
  bnd (kSt (pStore prog 39 x63 x58 u.2)) fun u_6 =>
  K (x59) u_6.2
abbrev G73_15 {β : Type} (inv : Inv) (x2 x3 x7 : Value) (h : AH) (K : Value→AH→Option β) : Option β :=
  bnd (pBin prog .neq 28 (.tmp 64) (.const (.int .i64 0)) x3 (.int .i64 0)) fun x65 =>
  bnd (gd (some x65) false h (lt (pFieldAddr prog 104 x2 2) h)) fun x67 =>
  bnd (gd (some x65) false x67.2 (lt (pLoad prog 53 x67.1 x67.2) x67.2)) fun x68 =>
  bnd (gd (some x65) false x68.2 (lt (pFieldAddr prog 104 x2 0) x68.2)) fun x69 =>
  bnd (gd (some x65) false x69.2 (lt (pLoad prog 3 x69.1 x69.2) x69.2)) fun x70 =>
  bnd (gd (some x65) false x70.2 (inv (.func 98) #[] #[x68.1,x70.1] x70.2)) fun x71 =>
  bnd (gd (some x65) false x71.2 (lt (pBin prog .neq 28 (.tmp 71) (.const (.int .i64 0)) x71.1 (.int .i64 0)) x71.2)) fun x72 =>
  bnd (pickV x65 (.bool true) x72.1) fun x73 =>
  K (x73) x72.2
def F73_rlrrrrrrrrrr {β : Type} (inv : Inv) (k : Nat) (x2 x4 x7 x52 : Value) (h : AH) (kn : (Value→Value→Value→Value→Value→AH→Option β)) (kr : (Value→Value→AH→Option β)) : Option β :=
  brV x52
  (G73_14 inv x2 x4 x7 h fun y3 h =>
  G73_15 inv x2 y3 x7 h fun y73 h_7 =>
  brV y73
  (bnd (pLoad prog 104 x2 h_7) fun x74 =>
  bnd (kSt (pStore prog 104 x2 x74 h_7)) fun u =>
  kr x2 (.int .i64 4) u.2)
  (kn x2 unk x7 unk y73 h_7))
  (kn x2 x4 x7 x52 unk h)
def e73_0 : Ent env 73 false 85:=.jn [] 8189 [2,4,7,52] [(.normal,[2,4,7,52,73]),(.ret,[2,3])] F73_rlrrrrrrrrrr
/-- shadowbook/segment.open -/
def F73 (inv : Inv) (k : Nat) (x0 : Value) (h : AH) : Option (Value × AH) :=
  bnd (pAlloc prog 104 h) fun x2 =>
  bnd (pBin prog .eql 9 (.tmp 8) (.const (.string { data:=#[] })) x0 (.string { data:=#[] })) fun x9 =>
  brV x9
  (bnd (pLoad prog 104 x2.1 x2.2) fun x10 =>
  bnd (kSt (pStore prog 104 x2.1 x10 x2.2)) fun u =>
  bnd (pLoad prog 104 x2.1 u.2) fun q0 =>
  some (.tuple #[q0,(.int .i64 4)],u.2))
  (bnd (pIndex prog 9 x0 (.int .i64 0)) fun x12 =>
  bnd (pConv prog 5 3 x12 x2.2) fun x13 =>
  bnd (pFieldAddr prog 104 x2.1 0) fun x14 =>
  bnd (kSt (pStore prog 3 x14 x13 x2.2)) fun u_1 =>
  bnd (pFieldAddr prog 104 x2.1 0) fun x15 =>
  bnd (pLoad prog 3 x15 u_1.2) fun x16 =>
  bnd (inv (.func 70) #[] #[x16] u_1.2) fun x17 =>
  bnd (pBin prog .eql 97 (.tmp 18) (.const .nilIface) x17.1 .nilIface) fun x19 =>
  brV x19
  (bnd (pLoad prog 104 x2.1 x17.2) fun x20 =>
  bnd (kSt (pStore prog 104 x2.1 x20 x17.2)) fun u_2 =>
  bnd (pLoad prog 104 x2.1 u_2.2) fun q0 =>
  some (.tuple #[q0,(.int .i64 4)],u_2.2))
  (bnd (pSlice prog 9 x0 (some (.int .i64 1)) none none x17.2) fun x23 =>
  bnd (pBytes prog 9 93 x23 x17.2) fun x24 =>
  bnd (inv (.func 95) #[] #[x24.1] x24.2) fun x25 =>
  bnd (pExtract x25.1 0) fun x26 =>
  bnd (pExtract x25.1 1) fun x27 =>
  bnd (pExtract x25.1 2) fun x28 =>
  bnd (pBin prog .neq 28 (.tmp 29) (.const (.int .i64 0)) x28 (.int .i64 0)) fun x30 =>
  brV x30
  (bnd (pLoad prog 104 x2.1 x25.2) fun x31 =>
  bnd (kSt (pStore prog 104 x2.1 x31 x25.2)) fun u_3 =>
  bnd (pLoad prog 104 x2.1 u_3.2) fun q0 =>
  some (.tuple #[q0,(.int .i64 4)],u_3.2))
  (bnd (pFieldAddr prog 104 x2.1 1) fun x33 =>
  bnd (kSt (pStore prog 92 x33 x26 x25.2)) fun u_4 =>
  bnd (pLen prog #[92] x26 u_4.2) fun x35 =>
  bnd (inv (.func 96) #[] #[x26] u_4.2) fun x37 =>
  bnd (pBuild prog 53 #[(0,x35),(1,x37.1)]) fun x38 =>
  bnd (pFieldAddr prog 104 x2.1 2) fun x39 =>
  bnd (kSt (pStore prog 53 x39 x38 x37.2)) fun u_5 =>
  bnd (pBin prog .add 3 (.const (.int .i64 1)) (.tmp 41) (.int .i64 1) x27) fun x42 =>
  bnd (pSlice prog 9 x0 (some x42) none none u_5.2) fun x43 =>
  bnd (pBytes prog 9 93 x43 u_5.2) fun x44 =>
  bnd (inv (.func 97) #[] #[x44.1] x44.2) fun x45 =>
  bnd (pFieldAddr prog 104 x2.1 2) fun x46 =>
  bnd (pFieldAddr prog 53 x46 0) fun x47 =>
  bnd (pLoad prog 3 x47 x45.2) fun x48 =>
  bnd (pFieldAddr prog 104 x2.1 2) fun x49 =>
  bnd (pFieldAddr prog 53 x49 1) fun x50 =>
  bnd (pLoad prog 3 x50 x45.2) fun x51 =>
  bnd (pBin prog .neq 3 (.tmp 48) (.tmp 51) x48 x51) fun x52 =>
  F73_rlrrrrrrrrrr inv k x2.1 x17.1 x45.1 x52 x45.2
  (fun y2 y4 y7 y52 y73 h =>
  bnd (inv (.func 100) #[] #[y7] h) fun x78 =>
  bnd (inv (.func 99) #[] #[y7,x78.1] x78.2) fun x79 =>
  bnd (pExtract x79.1 0) fun x80 =>
  bnd (pExtract x79.1 1) fun x81 =>
  bnd (pFieldAddr prog 104 y2 3) fun x82 =>
  bnd (kSt (pStore prog 93 x82 x80 x79.2)) fun u_8 =>
  bnd (pLoad prog 104 y2 u_8.2) fun x83 =>
  bnd (kSt (pStore prog 104 y2 x83 u_8.2)) fun u_9 =>
  bnd (pLoad prog 104 y2 u_9.2) fun q0 =>
  some (.tuple #[q0,x81],u_9.2))
  (fun y2_10 y3 h_11 =>
  bnd (pLoad prog 104 y2_10 h_11) fun q0 =>
  some (.tuple #[q0,y3],h_11)))))
theorem F73_eq : eFun env k inv 73 #[x0] h = F73 inv k x0 h:=ks_fun (n:=85) [e73_0]
theorem F73_call : eInv env (k + 1) (.func 73) #[] #[x0] h = F73 (eInv env k) k x0 h:=kq_inv F73_eq
def F81_lrlr {β : Type} (inv : Inv) (k : Nat) : Nat→Value→Value→Value→Value→AH→(Value→Value→Value→Value→Value→AH→Option β)→(Value→AH→Option β)→Option β
 | 0,_,_,_,_,_,_,_=>none
 | j + 1,x0,x1,x7,x8,h,ke0,kr =>
  bnd (pBin prog .lss 3 (.tmp 8) (.tmp 7) x8 x7) fun x9 =>
  brV x9
  (bnd (pIndexAddr prog 27 x0 x8) fun x14 =>
  bnd (pLoad prog 9 x14 h) fun x15 =>
  bnd (callV inv x1 #[x15] h) fun x16 =>
  brV x16.1
  (kr x8 x16.2)
  (bnd (pBin prog .add 3 (.tmp 8) (.const (.int .i64 1)) x8 (.int .i64 1)) fun x18 =>
  F81_lrlr inv k j x0 x1 x7 x18 x16.2 ke0 kr))
  (ke0 x0 x1 x7 x8 x9 h)
def e81_0 : Ent env 81 false 19:=.lp [] 26 [0,1,7,8] [(.exit 0,[0,1,7,8,9]),(.ret,[4])] F81_lrlr
/-- slices.IndexFunc[[]string,string] -/
def F81 (inv : Inv) (k : Nat) (x0 x1 : Value) (h : AH) : Option (Value × AH) :=
  bnd (pLen prog #[27] x0 h) fun x7 =>
  F81_lrlr inv k k x0 x1 x7 (.int .i64 0) h
  (fun y0 y1 y7 y8 y9 h =>
  some ((.int .i64 (-1)),h))
  (fun y4 h_1 =>
  some (y4,h_1))
theorem F81_eq : eFun env k inv 81 #[x0,x1] h = F81 inv k x0 x1 h:=ks_fun (n:=19) [e81_0]
theorem F81_call : eInv env (k + 1) (.func 81) #[] #[x0,x1] h = F81 (eInv env k) k x0 x1 h:=kq_inv F81_eq
def F83_lrlr {β : Type} (inv : Inv) (k : Nat) : Nat→Value→Value→Value→Value→AH→(Value→Value→Value→Value→Value→AH→Option β)→(Value→AH→Option β)→Option β
 | 0,_,_,_,_,_,_,_=>none
 | j + 1,x0,x1,x7,x8,h,ke0,kr =>
  bnd (pBin prog .lss 3 (.tmp 8) (.tmp 7) x8 x7) fun x9 =>
  brV x9
  (bnd (pIndexAddr prog 22 x0 x8) fun x14 =>
  bnd (pLoad prog 73 x14 h) fun x15 =>
  bnd (callV inv x1 #[x15] h) fun x16 =>
  brV x16.1
  (kr x8 x16.2)
  (bnd (pBin prog .add 3 (.tmp 8) (.const (.int .i64 1)) x8 (.int .i64 1)) fun x18 =>
  F83_lrlr inv k j x0 x1 x7 x18 x16.2 ke0 kr))
  (ke0 x0 x1 x7 x8 x9 h)
def e83_0 : Ent env 83 false 19:=.lp [] 26 [0,1,7,8] [(.exit 0,[0,1,7,8,9]),(.ret,[4])] F83_lrlr
/-- slices.IndexFunc[[]shadowbook/api.Col,shadowbook/api.Col] -/
def F83 (inv : Inv) (k : Nat) (x0 x1 : Value) (h : AH) : Option (Value × AH) :=
  bnd (pLen prog #[22] x0 h) fun x7 =>
  F83_lrlr inv k k x0 x1 x7 (.int .i64 0) h
  (fun y0 y1 y7 y8 y9 h =>
  some ((.int .i64 (-1)),h))
  (fun y4 h_1 =>
  some (y4,h_1))
theorem F83_eq : eFun env k inv 83 #[x0,x1] h = F83 inv k x0 x1 h:=ks_fun (n:=19) [e83_0]
theorem F83_call : eInv env (k + 1) (.func 83) #[] #[x0,x1] h = F83 (eInv env k) k x0 x1 h:=kq_inv F83_eq
abbrev G84_4 {β : Type} (inv : Inv) (x2 x3 : Value) (h : AH) (K : Value→AH→Option β) : Option β :=
  bnd (pFieldAddr prog 39 x3 0) fun x11 =>
  bnd (pLoad prog 3 x11 h) fun x12 =>
  bnd (pFieldAddr prog 73 x2 1) fun x13 =>
  bnd (pLoad prog 3 x13 h) fun x14 =>
  bnd (pBin prog .eql 3 (.tmp 12) (.tmp 14) x12 x14) fun x15 =>
  bnd (gd (some x15) false h (lt (pFieldAddr prog 39 x3 0) h)) fun x17 =>
  bnd (gd (some x15) false x17.2 (lt (pLoad prog 3 x17.1 x17.2) x17.2)) fun x18 =>
  bnd (gd (some x15) false x18.2 (lt (pBin prog .eql 3 (.tmp 18) (.const (.int .i64 0)) x18.1 (.int .i64 0)) x18.2)) fun x19 =>
  bnd (gd (some x15) false x19.2 (some (x19.1,x19.2))) fun x20 =>
  bnd (gd (some x20.1) true x20.2 (lt (pFieldAddr prog 73 x2 2) x20.2)) fun x21 =>
  bnd (gd (some x20.1) true x21.2 (lt (pLoad prog 4 x21.1 x21.2) x21.2)) fun x22 =>
  bnd (gd (some x15) false x22.2 (lt (pickV x20.1 x22.1 (.bool false)) x22.2)) fun x23 =>
  bnd (pickV x15 (.bool true) x23.1) fun x24 =>
  K (x24) x23.2
/-- shadowbook/schema.Fits -/
def F84 (inv : Inv) (k : Nat) (x0 x1 : Value) (h : AH) : Option (Value × AH) :=
  bnd (pBox prog 73 x0 h) fun x2 =>
  bnd (pBox prog 39 x1 x2.2) fun x3 =>
  bnd (pLoad prog 39 x3.1 x3.2) fun x6 =>
  bnd (inv (.func 116) #[] #[x6] x3.2) fun x7 =>
  bnd (pBin prog .neq 28 (.tmp 8) (.const (.int .i64 0)) x7.1 (.int .i64 0)) fun x9 =>
  brV x9
  (some (x7.1,x7.2))
  (G84_4 inv x2.1 x3.1 x7.2 fun y24 h =>
  brV y24
  (some ((.int .i64 0),h))
  (some ((.int .i64 173),h)))
theorem F84_eq : eFun env k inv 84 #[x0,x1] h = F84 inv k x0 x1 h:=ks_fun (n:=25) []
theorem F84_call : eInv env (k + 1) (.func 84) #[] #[x0,x1] h = F84 (eInv env k) k x0 x1 h:=kq_inv F84_eq
def F85_rlrrr {β : Type} (inv : Inv) (k : Nat) (x1 x3 x12 : Value) (h : AH) (kn : (Value→Value→Value→Value→AH→Option β)) (kr : (Value→AH→Option β)) : Option β :=
  bnd (pBin prog .eql 3 (.tmp 12) (.const (.int .i64 0)) x12 (.int .i64 0)) fun x14 =>
  brV x14
  (kn x1 x3 x12 x14 h)
  (bnd (pBin prog .eql 3 (.tmp 12) (.const (.int .i64 1)) x12 (.int .i64 1)) fun x16 =>
  brV x16
  (bnd (pFieldAddr prog 39 x1 1) fun x17 =>
  bnd (pLoad prog 2 x17 h) fun x18 =>
  bnd (pFieldAddr prog 39 x3 1) fun x19 =>
  bnd (kSt (pStore prog 2 x19 x18 h)) fun u =>
  kn x1 x3 unk unk u.2)
  (bnd (pBin prog .eql 3 (.tmp 12) (.const (.int .i64 2)) x12 (.int .i64 2)) fun x21 =>
  brV x21
  (bnd (pFieldAddr prog 39 x1 1) fun x22 =>
  bnd (pLoad prog 2 x22 h) fun x23 =>
  bnd (pBin prog .and 2 (.tmp 23) (.const (.int .i64 1)) x23 (.int .i64 1)) fun x24 =>
  bnd (pFieldAddr prog 39 x3 1) fun x25 =>
  bnd (kSt (pStore prog 2 x25 x24 h)) fun u_1 =>
  kn x1 x3 unk unk u_1.2)
  (bnd (pBin prog .eql 3 (.tmp 12) (.const (.int .i64 3)) x12 (.int .i64 3)) fun x27 =>
  brV x27
  (bnd (pFieldAddr prog 39 x1 2) fun x28 =>
  bnd (pLoad prog 9 x28 h) fun x29 =>
  bnd (pFieldAddr prog 39 x3 2) fun x30 =>
  bnd (kSt (pStore prog 9 x30 x29 h)) fun u_2 =>
  kn x1 x3 unk unk u_2.2)
  (kr (.int .i64 2) h))))
def e85_0 : Ent env 85 false 34:=.jn [] 61 [1,3,12] [(.normal,[1,3,12,13]),(.ret,[2])] F85_rlrrr
/-- shadowbook/zone.Cell -/
def F85 (inv : Inv) (k : Nat) (x0 : Value) (h : AH) : Option (Value × AH) :=
  bnd (pBox prog 39 x0 h) fun x1 =>
  bnd (pFieldAddr prog 39 x1.1 2) fun x4 =>
  bnd (pLoad prog 9 x4 x1.2) fun x5 =>
  bnd (pLen prog #[9] x5 x1.2) fun x6 =>
  bnd (pBin prog .gtr 3 (.tmp 6) (.const (.int .i64 65536)) x6 (.int .i64 65536)) fun x7 =>
  brV x7
  (some ((.int .i64 3),x1.2))
  (bnd (pFieldAddr prog 39 x1.1 0) fun x8 =>
  bnd (pLoad prog 3 x8 x1.2) fun x9 =>
  bnd (pBuild prog 39 #[(0,x9)]) fun x10 =>
  bnd (pAlloc prog 39 x1.2) fun x3 =>
  bnd (kSt (pStore prog 39 x3.1 x10 x3.2)) fun u =>
  bnd (pFieldAddr prog 39 x1.1 0) fun x11 =>
  bnd (pLoad prog 3 x11 u.2) fun x12 =>
  F85_rlrrr inv k x1.1 x3.1 x12 u.2
  (fun y1 y3 y12 y13 h =>
  bnd (pLoad prog 39 y3 h) fun x31 =>
  bnd (pLoad prog 39 y1 h) fun x32 =>
  bnd (pBin prog .neq 39 (.tmp 31) (.tmp 32) x31 x32) fun x33 =>
  brV x33
  (some ((.int .i64 2),h))
  (some ((.int .i64 0),h)))
  (fun y2 h_3 =>
  some (y2,h_3)))
theorem F85_eq : eFun env k inv 85 #[x0] h = F85 inv k x0 h:=ks_fun (n:=34) [e85_0]
theorem F85_call : eInv env (k + 1) (.func 85) #[] #[x0] h = F85 (eInv env k) k x0 h:=kq_inv F85_eq
def F86_llr {β : Type} (inv : Inv) (k : Nat) : Nat→Value→Value→AH→(Value→Value→Value→AH→Option β)→Option β
 | 0,_,_,_,_=>none
 | j + 1,x0,x1,h,ke0 =>
  bnd (pBin prog .geq 121 (.tmp 5) (.const (.int .u64 128)) x1 (.int .u64 128)) fun x6 =>
  brV x6
  (bnd (pConv prog 121 5 x1 h) fun x11 =>
  bnd (pBin prog .or 5 (.tmp 11) (.const (.int .u8 128)) x11 (.int .u8 128)) fun x12 =>
  bnd (pBuildSlice prog 93 1 #[(0,x12)] h) fun x13 =>
  bnd (pAppend prog #[93,93] x0 x13.1 x13.2) fun x14 =>
  bnd (pBin prog .shr 121 (.tmp 7) (.const (.int .u64 7)) x1 (.int .u64 7)) fun x8 =>
  F86_llr inv k j x14.1 x8 x14.2 ke0)
  (ke0 x0 x1 x6 h)
def e86_0 : Ent env 86 false 20:=.lp [] 12 [0,1] [(.exit 0,[0,1,6])] F86_llr
/-- shadowbook/octet.PutVar -/
def F86 (inv : Inv) (k : Nat) (x0 x1 : Value) (h : AH) : Option (Value × AH) :=
  F86_llr inv k k x0 x1 h
  (fun y0 y1 y6 h =>
  bnd (pConv prog 121 5 y1 h) fun x17 =>
  bnd (pBuildSlice prog 93 1 #[(0,x17)] h) fun x18 =>
  bnd (pAppend prog #[93,93] y0 x18.1 x18.2) fun x19 =>
  some (x19.1,x19.2))
theorem F86_eq : eFun env k inv 86 #[x0,x1] h = F86 inv k x0 x1 h:=ks_fun (n:=20) [e86_0]
theorem F86_call : eInv env (k + 1) (.func 86) #[] #[x0,x1] h = F86 (eInv env k) k x0 x1 h:=kq_inv F86_eq
/-- (shadowbook/nulls.flags).form -/
def F87 (inv : Inv) (k : Nat) (x0 : Value) (h : AH) : Option (Value × AH) :=
  bnd (inv (.func 117) #[] #[x0] h) fun x4 =>
  bnd (pBin prog .eql 3 (.tmp 4) (.const (.int .i64 0)) x4.1 (.int .i64 0)) fun x6 =>
  brV x6
  (some ((.int .u8 0),x4.2))
  (bnd (pLen prog #[119] x0 x4.2) fun x9 =>
  bnd (pBin prog .eql 3 (.tmp 4) (.tmp 9) x4.1 x9) fun x10 =>
  brV x10
  (some ((.int .u8 1),x4.2))
  (some ((.int .u8 2),x4.2)))
theorem F87_eq : eFun env k inv 87 #[x0] h = F87 inv k x0 h:=ks_fun (n:=11) []
theorem F87_call : eInv env (k + 1) (.func 87) #[] #[x0] h = F87 (eInv env k) k x0 h:=kq_inv F87_eq
def F88_lrrllrrllrlrrrrrr {β : Type} (inv : Inv) (k : Nat) : Nat→Value→Value→Value→Value→Value→Value→Value→Value→Value→Value→Value→AH→(Value→Value→Value→Value→Value→Value→Value→Value→Value→Value→Value→Value→AH→Option β)→Option β
 | 0,_,_,_,_,_,_,_,_,_,_,_,_,_=>none
 | j + 1,x1,x6,x7,x8,x9,x11,x29,x30,x31,x35,x36,h,ke3 =>
  bnd (pBin prog .lss 3 (.tmp 36) (.tmp 35) x36 x35) fun x37 =>
  brV x37
  (bnd (pBin prog .and 121 (.tmp 39) (.const (.int .u64 1)) x11 (.int .u64 1)) fun x40 =>
  bnd (pConv prog 121 5 x40 h) fun x41 =>
  bnd (callV inv x9 #[x41] h) fun x42 =>
  bnd (pBin prog .shr 121 (.tmp 43) (.const (.int .u64 1)) x11 (.int .u64 1)) fun x44 =>
  bnd (pBin prog .add 3 (.tmp 36) (.const (.int .i64 1)) x36 (.int .i64 1)) fun x45 =>
  F88_lrrllrrllrlrrrrrr inv k j x1 x6 x7 x8 x9 x44 x29 x30 x31 x35 x45 x42.2 ke3)
  (ke3 x1 x6 x7 x8 x9 x11 x29 x30 x31 x35 x36 x37 h)
def e88_0 : Ent env 88 false 54:=.lp [] 260710 [1,6,7,8,9,11,29,30,31,35,36] [(.exit 3,[1,6,7,8,9,11,29,30,31,35,36,37])] F88_lrrllrrllrlrrrrrr
def F88_lrlrrrrrr {β : Type} (inv : Inv) (k : Nat) : Nat→Value→Value→Value→Value→Value→Value→Value→Value→AH→(Value→Value→Value→Value→Value→Value→Value→Value→Value→AH→Option β)→Option β
 | 0,_,_,_,_,_,_,_,_,_,_=>none
 | j + 1,x1,x6,x7,x8,x9,x29,x30,x31,h,ke1 =>
  bnd (pBin prog .lss 3 (.tmp 31) (.tmp 30) x31 x30) fun x32 =>
  brV x32
  (bnd (pIndexAddr prog 124 x29 x31) fun x33 =>
  bnd (pLoad prog 121 x33 h) fun x34 =>
  F88_lrrllrrllrlrrrrrr inv k k x1 x6 x7 x8 x9 x34 x29 x30 x31 x1 (.int .i64 0) h
  (fun y1 y6 y7 y8 y9 y11 y29 y30 y31 y35 y36 y37 h =>
  bnd (pBin prog .add 3 (.tmp 31) (.const (.int .i64 1)) y31 (.int .i64 1)) fun x46 =>
  F88_lrlrrrrrr inv k j y1 y6 y7 y8 y9 y29 y30 x46 h ke1))
  (ke1 x1 x6 x7 x8 x9 x29 x30 x31 x32 h)
def e88_1 : Ent env 88 false 54:=.lp [e88_0] 1018 [1,6,7,8,9,29,30,31] [(.exit 1,[1,6,7,8,9,29,30,31,32])] F88_lrlrrrrrr
def F88_rlrrrrrrr {β : Type} (inv : Inv) (k : Nat) (x6 x7 x48 : Value) (h : AH) (kn : (Value→Value→Value→AH→Option β)) : Option β :=
  brV x48
  (bnd (pLoad prog 93 x6 h) fun x49 =>
  bnd (pLoad prog 5 x7 h) fun x50 =>
  bnd (pBuildSlice prog 93 1 #[(0,x50)] h) fun x51 =>
  bnd (pAppend prog #[93,93] x49 x51.1 x51.2) fun x52 =>
  bnd (kSt (pStore prog 93 x6 x52.1 x52.2)) fun u =>
  kn x6 unk unk u.2)
  (kn x6 x7 x48 h)
def e88_2 : Ent env 88 false 54:=.jn [e88_0,e88_1] 1021 [6,7,48] [(.normal,[6,7,48])] F88_rlrrrrrrr
/-- shadowbook/packs.Put -/
def F88 (inv : Inv) (k : Nat) (x0 x1 : Value) (h : AH) : Option (Value × AH) :=
  bnd (pLen prog #[124] x0 h) fun x14 =>
  bnd (inv (.func 118) #[] #[x14,x1] h) fun x16 =>
  bnd (pUn prog .not x16.1) fun x17 =>
  brV x17
  (some (.tuple #[(.slice none 0 0),(.int .i64 2)],x16.2))
  (bnd (inv (.func 119) #[] #[x0] x16.2) fun x20 =>
  bnd (pBin prog .gtr 3 (.tmp 20) (.tmp 21) x20.1 x1) fun x22 =>
  brV x22
  (some (.tuple #[(.slice none 0 0),(.int .i64 3)],x20.2))
  (bnd (pLen prog #[124] x0 x20.2) fun x24 =>
  bnd (inv (.func 120) #[] #[x24,x1] x20.2) fun x26 =>
  bnd (pMakeSlice prog 93 (.int .i64 0) x26.1 x26.2) fun x27 =>
  bnd (pAlloc prog 93 x27.2) fun x6 =>
  bnd (kSt (pStore prog 93 x6.1 x27.1 x6.2)) fun u =>
  bnd (pAlloc prog 5 u.2) fun x7 =>
  bnd (pAlloc prog 3 x7.2) fun x8 =>
  bnd (kSt (pStore prog 3 x8.1 (.int .i64 0) x8.2)) fun u_1 =>
  bnd (pMakeFunc (.func 121) #[] #[x7.1,x8.1,x6.1]) fun x28 =>
  bnd (pLen prog #[124] x0 u_1.2) fun x30 =>
  F88_lrlrrrrrr inv k k x1 x6.1 x7.1 x8.1 x28 x0 x30 (.int .i64 0) u_1.2
  (fun y1 y6 y7 y8 y9 y29 y30 y31 y32 h =>
  bnd (pLoad prog 3 y8 h) fun x47 =>
  bnd (pBin prog .gtr 3 (.tmp 47) (.const (.int .i64 0)) x47 (.int .i64 0)) fun x48 =>
  F88_rlrrrrrrr inv k y6 y7 x48 h
  (fun y6_2 y7_3 y48 h_4 =>
  bnd (pLoad prog 93 y6_2 h_4) fun x53 =>
  some (.tuple #[x53,(.int .i64 0)],h_4)))))
theorem F88_eq : eFun env k inv 88 #[x0,x1] h = F88 inv k x0 x1 h:=ks_fun (n:=54) [e88_0,e88_1,e88_2]
theorem F88_call : eInv env (k + 1) (.func 88) #[] #[x0,x1] h = F88 (eInv env k) k x0 x1 h:=kq_inv F88_eq
def F89_lrrllrlrr {β : Type} (inv : Inv) (k : Nat) (x3 x9 x10 x11 x12 : Value) (h : AH) (kn : (Value→Value→Value→Value→Value→Value→AH→Option β)) : Option β :=
  bnd (pIndexAddr prog 119 x9 x11) fun x14 =>
  bnd (pLoad prog 4 x14 h) fun x15 =>
  brV x15
  (bnd (pIndexAddr prog 124 x3 x11) fun x19 =>
  bnd (kSt (pStore prog 121 x19 (.int .u64 1) h)) fun u =>
  kn x3 unk x9 x10 x11 unk u.2)
  (kn x3 x11 x9 x10 x11 x15 h)
def e89_0 : Ent env 89 false 22:=.jn [] 934 [3,9,10,11,12] [(.normal,[3,4,9,10,11,16])] F89_lrrllrlrr
def F89_lrlrr {β : Type} (inv : Inv) (k : Nat) : Nat→Value→Value→Value→Value→AH→(Value→Value→Value→Value→Value→AH→Option β)→Option β
 | 0,_,_,_,_,_,_=>none
 | j + 1,x3,x9,x10,x11,h,ke0 =>
  bnd (pBin prog .lss 3 (.tmp 11) (.tmp 10) x11 x10) fun x12 =>
  brV x12
  (F89_lrrllrlrr inv k x3 x9 x10 x11 x12 h
  (fun y3 y4 y9 y10 y11 y16 h =>
  bnd (pBin prog .add 3 (.tmp 11) (.const (.int .i64 1)) y11 (.int .i64 1)) fun x20 =>
  F89_lrlrr inv k j y3 y9 y10 x20 h ke0))
  (ke0 x3 x9 x10 x11 x12 h)
def e89_1 : Ent env 89 false 22:=.lp [e89_0] 58 [3,9,10,11] [(.exit 0,[3,9,10,11,12])] F89_lrlrr
/-- (shadowbook/nulls.flags).numbers -/
def F89 (inv : Inv) (k : Nat) (x0 : Value) (h : AH) : Option (Value × AH) :=
  bnd (pLen prog #[119] x0 h) fun x7 =>
  bnd (pMakeSlice prog 124 x7 x7 h) fun x8 =>
  bnd (pLen prog #[119] x0 x8.2) fun x10 =>
  F89_lrlrr inv k k x8.1 x0 x10 (.int .i64 0) x8.2
  (fun y3 y9 y10 y11 y12 h =>
  some (y3,h))
theorem F89_eq : eFun env k inv 89 #[x0] h = F89 inv k x0 h:=ks_fun (n:=22) [e89_0,e89_1]
theorem F89_call : eInv env (k + 1) (.func 89) #[] #[x0] h = F89 (eInv env k) k x0 h:=kq_inv F89_eq
/-- shadowbook/segment.numbers -/
def F90 (inv : Inv) (k : Nat) (h : AH) : Option (Value × AH) :=
  bnd (pAlloc prog 132 h) fun x0 =>
  bnd (pBuild prog 132 #[(0,(.func (.func 122) #[] #[])),(1,(.func (.func 123) #[] #[])),(2,(.func (.func 124) #[] #[])),(3,(.func (.func 126) #[] #[])),(4,(.func (.func 128) #[] #[])),(5,(.func (.func 129) #[] #[]))]) fun x1 =>
  bnd (kSt (pStore prog 132 x0.1 x1 x0.2)) fun u =>
  bnd (pLoad prog 132 x0.1 u.2) fun q0 =>
  some (q0,u.2)
theorem F90_eq : eFun env k inv 90 #[] h = F90 inv k  h:=ks_fun (n:=2) []
theorem F90_call : eInv env (k + 1) (.func 90) #[] #[] h = F90 (eInv env k) k  h:=kq_inv F90_eq
/-- shadowbook/segment.truths -/
def F91 (inv : Inv) (k : Nat) (h : AH) : Option (Value × AH) :=
  bnd (pAlloc prog 140 h) fun x0 =>
  bnd (pBuild prog 140 #[(0,(.func (.func 131) #[] #[])),(1,(.func (.func 132) #[] #[])),(2,(.func (.func 133) #[] #[])),(3,(.func (.func 134) #[] #[])),(4,(.func (.func 135) #[] #[])),(5,(.func (.func 136) #[] #[]))]) fun x1 =>
  bnd (kSt (pStore prog 140 x0.1 x1 x0.2)) fun u =>
  bnd (pLoad prog 140 x0.1 u.2) fun q0 =>
  some (q0,u.2)
theorem F91_eq : eFun env k inv 91 #[] h = F91 inv k  h:=ks_fun (n:=2) []
theorem F91_call : eInv env (k + 1) (.func 91) #[] #[] h = F91 (eInv env k) k  h:=kq_inv F91_eq
/-- shadowbook/segment.words -/
def F92 (inv : Inv) (k : Nat) (h : AH) : Option (Value × AH) :=
  bnd (pAlloc prog 148 h) fun x0 =>
  bnd (pBuild prog 148 #[(0,(.func (.func 138) #[] #[])),(1,(.func (.func 139) #[] #[])),(2,(.func (.func 140) #[] #[])),(3,(.func (.func 141) #[] #[])),(4,(.func (.func 143) #[] #[])),(5,(.func (.func 144) #[] #[]))]) fun x1 =>
  bnd (kSt (pStore prog 148 x0.1 x1 x0.2)) fun u =>
  bnd (pLoad prog 148 x0.1 u.2) fun q0 =>
  some (q0,u.2)
theorem F92_eq : eFun env k inv 92 #[] h = F92 inv k  h:=ks_fun (n:=2) []
theorem F92_call : eInv env (k + 1) (.func 92) #[] #[] h = F92 (eInv env k) k  h:=kq_inv F92_eq
abbrev G93_1 {β : Type} (inv : Inv) (x2 x3 x4 : Value) (h : AH) (K : Value→AH→Option β) : Option β :=
  bnd (pFieldAddr prog 53 x2 0) fun x6 =>
  bnd (pLoad prog 3 x6 h) fun x7 =>
  bnd (pFieldAddr prog 53 x3 0) fun x8 =>
  bnd (pLoad prog 3 x8 h) fun x9 =>
  bnd (pBin prog .add 3 (.tmp 7) (.tmp 9) x7 x9) fun x10 =>
  bnd (pFieldAddr prog 53 x2 1) fun x11 =>
  bnd (pLoad prog 3 x11 h) fun x12 =>
  bnd (pFieldAddr prog 53 x3 1) fun x13 =>
  bnd (pLoad prog 3 x13 h) fun x14 =>
  bnd (pBin prog .add 3 (.tmp 12) (.tmp 14) x12 x14) fun x15 =>
  bnd (pFieldAddr prog 53 x2 2) fun x16 =>
  bnd (pLoad prog 39 x16 h) fun x17 =>
  bnd (pFieldAddr prog 53 x2 3) fun x18 =>
  bnd (pLoad prog 39 x18 h) fun x19 =>
  bnd (pBuild prog 53 #[(0,x10),(1,x15),(2,x17),(3,x19)]) fun x20 =>
  bnd (pAlloc prog 53 h) fun x5 =>
  bnd (kSt (pStore prog 53 x5.1 x20 x5.2)) fun u =>
  K (x5.1) u.2
abbrev G93_3 {β : Type} (inv : Inv) (x3 x4 x5 : Value) (h : AH) (K : AH→Option β) : Option β :=
  bnd (pFieldAddr prog 53 x3 2) fun x27 =>
  bnd (pLoad prog 39 x27 h) fun x28 =>
  bnd (pFieldAddr prog 53 x3 3) fun x29 =>
  bnd (pLoad prog 39 x29 h) fun x30 =>
  bnd (pFieldAddr prog 53 x5 2) fun x31 =>
  bnd (kSt (pStore prog 39 x31 x28 h)) fun u =>
  bnd (pFieldAddr prog 53 x5 3) fun x32 =>
  bnd (kSt (pStore prog 39 x32 x30 u.2)) fun u_1 =>
  chkK ((!true || !true || (sameO (pLoad prog 39 x29 h) x30 && sameO (pLoad prog 39 x29 u.2) x30)) && true) <|
  K u_1.2
def F93_rllrrrllrr {β : Type} (inv : Inv) (k : Nat) (x3 x4 x5 x44 : Value) (h : AH) (kn : (Value→Value→Value→Value→AH→Option β)) : Option β :=
  brV x44
  (bnd (pFieldAddr prog 53 x3 2) fun x45 =>
  bnd (pLoad prog 39 x45 h) fun x46 =>
  bnd (pFieldAddr prog 53 x5 2) fun x47 =>
  bnd (kSt (pStore prog 39 x47 x46 h)) fun u =>
  kn x3 x4 x5 unk u.2)
  (kn x3 x4 x5 x44 h)
def e93_0 : Ent env 93 false 58:=.jn [] 1849 [3,4,5,44] [(.normal,[3,4,5,44])] F93_rllrrrllrr
def F93_lrr {β : Type} (inv : Inv) (k : Nat) (x2 x3 x4 x5 : Value) (h : AH) (kn : (Value→Value→Value→Value→Value→AH→Option β)) : Option β :=
  bnd (pFieldAddr prog 53 x2 0) fun x22 =>
  bnd (pLoad prog 3 x22 h) fun x23 =>
  bnd (pFieldAddr prog 53 x2 1) fun x24 =>
  bnd (pLoad prog 3 x24 h) fun x25 =>
  bnd (pBin prog .eql 3 (.tmp 23) (.tmp 25) x23 x25) fun x26 =>
  brV x26
  (G93_3 inv x3 x4 x5 h fun  h =>
  kn unk x4 x5 unk unk h)
  (bnd (pFieldAddr prog 53 x3 0) fun x34 =>
  bnd (pLoad prog 3 x34 h) fun x35 =>
  bnd (pFieldAddr prog 53 x3 1) fun x36 =>
  bnd (pLoad prog 3 x36 h) fun x37 =>
  bnd (pBin prog .neq 3 (.tmp 35) (.tmp 37) x35 x37) fun x38 =>
  brV x38
  (bnd (pFieldAddr prog 53 x3 2) fun x39 =>
  bnd (pLoad prog 39 x39 h) fun x40 =>
  bnd (pFieldAddr prog 53 x5 2) fun x41 =>
  bnd (pLoad prog 39 x41 h) fun x42 =>
  bnd (inv (.func 146) #[] #[x40,x42] h) fun x43 =>
  bnd (pBin prog .lss 3 (.tmp 43) (.const (.int .i64 0)) x43.1 (.int .i64 0)) fun x44 =>
  F93_rllrrrllrr inv k x3 x4 x5 x44 x43.2
  (fun y3 y4 y5 y44 h_2 =>
  bnd (pFieldAddr prog 53 y3 3) fun x48 =>
  bnd (pLoad prog 39 x48 h_2) fun x49 =>
  bnd (pFieldAddr prog 53 y5 3) fun x50 =>
  bnd (pLoad prog 39 x50 h_2) fun x51 =>
  bnd (inv (.func 146) #[] #[x49,x51] h_2) fun x52 =>
  bnd (pBin prog .gtr 3 (.tmp 52) (.const (.int .i64 0)) x52.1 (.int .i64 0)) fun x53 =>
  brV x53
  (bnd (pFieldAddr prog 53 y3 3) fun x54 =>
  bnd (pLoad prog 39 x54 x52.2) fun x55 =>
  bnd (pFieldAddr prog 53 y5 3) fun x56 =>
  bnd (kSt (pStore prog 39 x56 x55 x52.2)) fun u =>
  kn unk y4 y5 unk unk u.2)
  (kn y3 y4 y5 unk x53 x52.2)))
  (kn x3 x4 x5 x38 unk h))
def e93_1 : Ent env 93 false 58:=.jn [e93_0] 14 [2,3,4,5] [(.normal,[3,4,5,33,53])] F93_lrr
/-- shadowbook/zone.Join -/
def F93 (inv : Inv) (k : Nat) (x0 x1 : Value) (h : AH) : Option (Value × AH) :=
  bnd (pBox prog 53 x0 h) fun x2 =>
  bnd (pBox prog 53 x1 x2.2) fun x3 =>
  bnd (pAlloc prog 53 x3.2) fun x4 =>
  G93_1 inv x2.1 x3.1 x4.1 x4.2 fun y5 h =>
  F93_lrr inv k x2.1 x3.1 x4.1 y5 h
  (fun y3 y4 y5_3 y33 y53 h_4 =>
  bnd (pLoad prog 53 y5_3 h_4) fun x57 =>
  bnd (kSt (pStore prog 53 y4 x57 h_4)) fun u =>
  bnd (pLoad prog 53 y4 u.2) fun q0 =>
  some (q0,u.2))
theorem F93_eq : eFun env k inv 93 #[x0,x1] h = F93 inv k x0 x1 h:=ks_fun (n:=58) [e93_0,e93_1]
theorem F93_call : eInv env (k + 1) (.func 93) #[] #[x0,x1] h = F93 (eInv env k) k x0 x1 h:=kq_inv F93_eq
/-- shadowbook/zone.one -/
def F94 (inv : Inv) (k : Nat) (x0 : Value) (h : AH) : Option (Value × AH) :=
  bnd (pBox prog 39 x0 h) fun x1 =>
  bnd (pAlloc prog 53 x1.2) fun x2 =>
  bnd (pFieldAddr prog 39 x1.1 0) fun x3 =>
  bnd (pLoad prog 3 x3 x2.2) fun x4 =>
  bnd (pBin prog .eql 3 (.tmp 4) (.const (.int .i64 0)) x4 (.int .i64 0)) fun x5 =>
  brV x5
  (bnd (pBuild prog 53 #[(0,(.int .i64 1)),(1,(.int .i64 1))]) fun x6 =>
  bnd (kSt (pStore prog 53 x2.1 x6 x2.2)) fun u =>
  bnd (pLoad prog 53 x2.1 u.2) fun q0 =>
  some (q0,u.2))
  (bnd (pLoad prog 39 x1.1 x2.2) fun x7 =>
  bnd (pLoad prog 39 x1.1 x2.2) fun x8 =>
  bnd (pBuild prog 53 #[(0,(.int .i64 1)),(2,x7),(3,x8)]) fun x9 =>
  bnd (kSt (pStore prog 53 x2.1 x9 x2.2)) fun u_1 =>
  bnd (pLoad prog 53 x2.1 u_1.2) fun q0 =>
  some (q0,u_1.2))
theorem F94_eq : eFun env k inv 94 #[x0] h = F94 inv k x0 h:=ks_fun (n:=10) []
theorem F94_call : eInv env (k + 1) (.func 94) #[] #[x0] h = F94 (eInv env k) k x0 h:=kq_inv F94_eq
abbrev G95_3 {β : Type} (inv : Inv) (x0 x4 x5 x6 : Value) (h : AH) (K : Value→AH→Option β) : Option β :=
  bnd (pBin prog .neq 28 (.tmp 21) (.const (.int .i64 0)) x4 (.int .i64 0)) fun x22 =>
  bnd (gd (some x22) false h (some (x6,h))) fun x24 =>
  bnd (gd (some x22) false x24.2 (lt (pBin prog .gtr 121 (.tmp 24) (.const (.int .u64 4096)) x24.1 (.int .u64 4096)) x24.2)) fun x25 =>
  bnd (pickV x22 (.bool true) x25.1) fun x26 =>
  K (x26) x25.2
abbrev G95_6 {β : Type} (inv : Inv) (x0 x4 x5 x6 x7 : Value) (h : AH) (K : Value→AH→Option β) : Option β :=
  bnd (pBin prog .neq 28 (.tmp 32) (.const (.int .i64 0)) x4 (.int .i64 0)) fun x33 =>
  bnd (gd (some x33) false h (some (x7,h))) fun x35 =>
  bnd (gd (some x33) false x35.2 (lt (pBin prog .gtr 121 (.tmp 35) (.const (.int .u64 2)) x35.1 (.int .u64 2)) x35.2)) fun x36 =>
  bnd (pickV x33 (.bool true) x36.1) fun x37 =>
  K (x37) x36.2
def F95_lrrrrrlrlrrrrrrr {β : Type} (inv : Inv) (k : Nat) : Nat→Value→Value→Value→Value→Value→Value→AH→(Value→Value→Value→Value→Value→Value→Value→AH→Option β)→Option β
 | 0,_,_,_,_,_,_,_,_=>none
 | j + 1,x0,x2,x5,x10,x66,x67,h,ke0 =>
  bnd (pBin prog .lss 3 (.tmp 67) (.tmp 66) x67 x66) fun x68 =>
  brV x68
  (bnd (pIndexAddr prog 124 x10 x67) fun x74 =>
  bnd (pLoad prog 121 x74 h) fun x75 =>
  bnd (pBin prog .eql 121 (.tmp 75) (.const (.int .u64 1)) x75 (.int .u64 1)) fun x76 =>
  bnd (pIndexAddr prog 92 x2 x67) fun x77 =>
  bnd (kSt (pStore prog 4 x77 x76 h)) fun u =>
  bnd (pBin prog .add 3 (.tmp 67) (.const (.int .i64 1)) x67 (.int .i64 1)) fun x78 =>
  F95_lrrrrrlrlrrrrrrr inv k j x0 x2 x5 x10 x66 x78 u.2 ke0)
  (ke0 x0 x2 x5 x10 x66 x67 x68 h)
def e95_0 : Ent env 95 false 101:=.lp [] 130750 [0,2,5,10,66,67] [(.exit 0,[0,2,5,10,66,67,68])] F95_lrrrrrlrlrrrrrrr
def F95_rlrrrrrrr {β : Type} (inv : Inv) (k : Nat) (x0 x2 x5 x6 x45 : Value) (h : AH) (kn : (Value→Value→Value→Value→Value→Value→Value→Value→Value→AH→Option β)) (kr : (Value→Value→Value→AH→Option β)) : Option β :=
  brV x45
  (bnd (pConv prog 121 3 x6 h) fun x49 =>
  bnd (inv (.func 120) #[] #[x49,(.int .i64 1)] h) fun x50 =>
  bnd (inv (.func 99) #[] #[x5,x50.1] x50.2) fun x51 =>
  bnd (pExtract x51.1 0) fun x52 =>
  bnd (pExtract x51.1 1) fun x53 =>
  bnd (pBin prog .neq 28 (.tmp 54) (.const (.int .i64 0)) x53 (.int .i64 0)) fun x55 =>
  brV x55
  (kr (.slice none 0 0) (.int .i64 0) (.int .i64 4) x51.2)
  (bnd (pConv prog 121 3 x6 x51.2) fun x59 =>
  bnd (inv (.func 137) #[] #[x52,x59,(.int .i64 1)] x51.2) fun x60 =>
  bnd (pExtract x60.1 0) fun x61 =>
  bnd (pExtract x60.1 1) fun x62 =>
  bnd (pBin prog .neq 28 (.tmp 63) (.const (.int .i64 0)) x62 (.int .i64 0)) fun x64 =>
  brV x64
  (kr (.slice none 0 0) (.int .i64 0) (.int .i64 4) x60.2)
  (bnd (pLen prog #[92] x2 x60.2) fun x66 =>
  F95_lrrrrrlrlrrrrrrr inv k k x0 x2 x5 x61 x66 (.int .i64 0) x60.2
  (fun y0 y2 y5 y10 y66 y67 y68 h =>
  kn y0 y2 y5 unk y10 unk y66 y67 y68 h))))
  (kn x0 x2 x5 x6 unk x45 unk unk unk h)
def e95_1 : Ent env 95 false 101:=.jn [e95_0] 1021 [0,2,5,6,45] [(.normal,[0,2,5,6,10,45,66,67,68]),(.ret,[2,3,4])] F95_rlrrrrrrr
abbrev G95_23 {β : Type} (inv : Inv) (x0 x2 x3 x12 x13 : Value) (h : AH) (K : Value→AH→Option β) : Option β :=
  bnd (pBin prog .neq 28 (.tmp 89) (.const (.int .i64 0)) x13 (.int .i64 0)) fun x90 =>
  bnd (gd (some x90) false h (some (x12,h))) fun x92 =>
  bnd (gd (some x90) false x92.2 (some (x0,x92.2))) fun x93 =>
  bnd (gd (some x90) false x93.2 (some (x3,x93.2))) fun x94 =>
  bnd (gd (some x90) false x94.2 (lt (pSlice prog 93 x93.1 none (some x94.1) none x94.2) x94.2)) fun x95 =>
  bnd (gd (some x90) false x95.2 (inv (.func 148) #[] #[x92.1,x95.1] x95.2)) fun x96 =>
  bnd (gd (some x90) false x96.2 (lt (pUn prog .not x96.1) x96.2)) fun x97 =>
  bnd (pickV x90 (.bool true) x97.1) fun x98 =>
  K (x98) x97.2
/-- shadowbook/nulls.Get -/
def F95 (inv : Inv) (k : Nat) (x0 : Value) (h : AH) : Option (Value × AH) :=
  bnd (inv (.func 97) #[] #[x0] h) fun x15 =>
  bnd (inv (.func 142) #[] #[x15.1] x15.2) fun x18 =>
  bnd (pExtract x18.1 0) fun x19 =>
  bnd (pExtract x18.1 1) fun x20 =>
  G95_3 inv x0 x20 x15.1 x19 x18.2 fun y26 h =>
  brV y26
  (some (.tuple #[(.slice none 0 0),(.int .i64 0),(.int .i64 4)],h))
  (bnd (inv (.func 127) #[] #[x15.1,(.int .i64 1)] h) fun x29 =>
  bnd (pExtract x29.1 0) fun x30 =>
  bnd (pExtract x29.1 1) fun x31 =>
  G95_6 inv x0 x31 x15.1 x19 x30 x29.2 fun y37 h_1 =>
  brV y37
  (some (.tuple #[(.slice none 0 0),(.int .i64 0),(.int .i64 4)],h_1))
  (bnd (pBin prog .eql 121 (.tmp 38) (.const (.int .u64 1)) x30 (.int .u64 1)) fun x39 =>
  bnd (pBuildSlice prog 92 1 #[(0,x39)] h_1) fun x40 =>
  bnd (pConv prog 121 3 x19 x40.2) fun x42 =>
  bnd (inv (.func 147) #[] #[x40.1,x42] x40.2) fun x43 =>
  bnd (pBin prog .eql 121 (.tmp 44) (.const (.int .u64 2)) x30 (.int .u64 2)) fun x45 =>
  F95_rlrrrrrrr inv k x0 x43.1 x15.1 x19 x45 x43.2
  (fun y0 y2 y5 y6 y10 y45 y66 y67 y68 h_2 =>
  bnd (pLen prog #[93] y0 h_2) fun x80 =>
  bnd (inv (.func 100) #[] #[y5] h_2) fun x82 =>
  bnd (pBin prog .sub 3 (.tmp 80) (.tmp 82) x80 x82.1) fun x83 =>
  bnd (inv (.func 69) #[] #[y2] x82.2) fun x86 =>
  bnd (pExtract x86.1 0) fun x87 =>
  bnd (pExtract x86.1 1) fun x88 =>
  G95_23 inv y0 y2 x83 x87 x88 x86.2 fun y98 h_3 =>
  brV y98
  (some (.tuple #[(.slice none 0 0),(.int .i64 0),(.int .i64 4)],h_3))
  (some (.tuple #[y2,x83,(.int .i64 0)],h_3)))
  (fun y2_4 y3 y4 h_5 =>
  some (.tuple #[y2_4,y3,y4],h_5))))
theorem F95_eq : eFun env k inv 95 #[x0] h = F95 inv k x0 h:=ks_fun (n:=101) [e95_0,e95_1]
theorem F95_call : eInv env (k + 1) (.func 95) #[] #[x0] h = F95 (eInv env k) k x0 h:=kq_inv F95_eq
/-- shadowbook/nulls.Count -/
def F96 (inv : Inv) (k : Nat) (x0 : Value) (h : AH) : Option (Value × AH) :=
  bnd (inv (.func 117) #[] #[x0] h) fun x4 =>
  some (x4.1,x4.2)
theorem F96_eq : eFun env k inv 96 #[x0] h = F96 inv k x0 h:=ks_fun (n:=5) []
theorem F96_call : eInv env (k + 1) (.func 96) #[] #[x0] h = F96 (eInv env k) k x0 h:=kq_inv F96_eq
/-- shadowbook/octet.New -/
def F97 (inv : Inv) (k : Nat) (x0 : Value) (h : AH) : Option (Value × AH) :=
  bnd (inv (.func 149) #[] #[x0] h) fun x4 =>
  bnd (pBuild prog 185 #[(0,x4.1)]) fun x5 =>
  bnd (pBox prog 185 x5 x4.2) fun x6 =>
  some (x6.1,x6.2)
theorem F97_eq : eFun env k inv 97 #[x0] h = F97 inv k x0 h:=ks_fun (n:=7) []
theorem F97_call : eInv env (k + 1) (.func 97) #[] #[x0] h = F97 (eInv env k) k x0 h:=kq_inv F97_eq
abbrev G98_1 {β : Type} (inv : Inv) (x1 x2 : Value) (h : AH) (K : Value→AH→Option β) : Option β :=
  bnd (pBin prog .lss 3 (.tmp 6) (.const (.int .i64 1)) x1 (.int .i64 1)) fun x7 =>
  bnd (gd (some x7) false h (some (x1,h))) fun x9 =>
  bnd (gd (some x7) false x9.2 (lt (pBin prog .gtr 3 (.tmp 9) (.const (.int .i64 3)) x9.1 (.int .i64 3)) x9.2)) fun x10 =>
  bnd (pickV x7 (.bool true) x10.1) fun x11 =>
  bnd (gd (some x11) false x10.2 (lt (pFieldAddr prog 53 x2 0) x10.2)) fun x13 =>
  bnd (gd (some x11) false x13.2 (lt (pLoad prog 3 x13.1 x13.2) x13.2)) fun x14 =>
  bnd (gd (some x11) false x14.2 (lt (pBin prog .lss 3 (.tmp 14) (.const (.int .i64 0)) x14.1 (.int .i64 0)) x14.2)) fun x15 =>
  bnd (pickV x11 (.bool true) x15.1) fun x16 =>
  bnd (gd (some x16) false x15.2 (lt (pFieldAddr prog 53 x2 1) x15.2)) fun x18 =>
  bnd (gd (some x16) false x18.2 (lt (pLoad prog 3 x18.1 x18.2) x18.2)) fun x19 =>
  bnd (gd (some x16) false x19.2 (lt (pBin prog .lss 3 (.tmp 19) (.const (.int .i64 0)) x19.1 (.int .i64 0)) x19.2)) fun x20 =>
  bnd (pickV x16 (.bool true) x20.1) fun x21 =>
  bnd (gd (some x21) false x20.2 (lt (pFieldAddr prog 53 x2 1) x20.2)) fun x23 =>
  bnd (gd (some x21) false x23.2 (lt (pLoad prog 3 x23.1 x23.2) x23.2)) fun x24 =>
  bnd (gd (some x21) false x24.2 (lt (pFieldAddr prog 53 x2 0) x24.2)) fun x25 =>
  bnd (gd (some x21) false x25.2 (lt (pLoad prog 3 x25.1 x25.2) x25.2)) fun x26 =>
  bnd (gd (some x21) false x26.2 (lt (pBin prog .gtr 3 (.tmp 24) (.tmp 26) x24.1 x26.1) x26.2)) fun x27 =>
  bnd (pickV x21 (.bool true) x27.1) fun x28 =>
  K (x28) x27.2
abbrev G98_3 {β : Type} (inv : Inv) (x1 x2 : Value) (h : AH) (K : Value→AH→Option β) : Option β :=
  bnd (pFieldAddr prog 53 x2 2) fun x29 =>
  bnd (pLoad prog 39 x29 h) fun x30 =>
  bnd (pBuild prog 39 #[]) fun x31 =>
  bnd (pBin prog .eql 39 (.tmp 30) (.tmp 31) x30 x31) fun x32 =>
  bnd (gd (some x32) true h (lt (pFieldAddr prog 53 x2 3) h)) fun x34 =>
  bnd (gd (some x32) true x34.2 (lt (pLoad prog 39 x34.1 x34.2) x34.2)) fun x35 =>
  bnd (gd (some x32) true x35.2 (lt (pBuild prog 39 #[]) x35.2)) fun x36 =>
  bnd (gd (some x32) true x36.2 (lt (pBin prog .eql 39 (.tmp 35) (.tmp 36) x35.1 x36.1) x36.2)) fun x37 =>
  bnd (pickV x32 x37.1 (.bool false)) fun x38 =>
  K (x38) x37.2
abbrev G98_6 {β : Type} (inv : Inv) (x1 x2 : Value) (h : AH) (K : Value→AH→Option β) : Option β :=
  bnd (pFieldAddr prog 53 x2 1) fun x47 =>
  bnd (pLoad prog 3 x47 h) fun x48 =>
  bnd (pFieldAddr prog 53 x2 0) fun x49 =>
  bnd (pLoad prog 3 x49 h) fun x50 =>
  bnd (pBin prog .eql 3 (.tmp 48) (.tmp 50) x48 x50) fun x51 =>
  bnd (gd (some x51) false h (lt (pFieldAddr prog 53 x2 2) h)) fun x53 =>
  bnd (gd (some x51) false x53.2 (lt (pFieldAddr prog 39 x53.1 0) x53.2)) fun x54 =>
  bnd (gd (some x51) false x54.2 (lt (pLoad prog 3 x54.1 x54.2) x54.2)) fun x55 =>
  bnd (gd (some x51) false x55.2 (some (x1,x55.2))) fun x56 =>
  bnd (gd (some x51) false x56.2 (lt (pBin prog .neq 3 (.tmp 55) (.tmp 56) x55.1 x56.1) x56.2)) fun x57 =>
  bnd (pickV x51 (.bool true) x57.1) fun x58 =>
  bnd (gd (some x58) false x57.2 (lt (pFieldAddr prog 53 x2 3) x57.2)) fun x60 =>
  bnd (gd (some x58) false x60.2 (lt (pFieldAddr prog 39 x60.1 0) x60.2)) fun x61 =>
  bnd (gd (some x58) false x61.2 (lt (pLoad prog 3 x61.1 x61.2) x61.2)) fun x62 =>
  bnd (gd (some x58) false x62.2 (some (x1,x62.2))) fun x63 =>
  bnd (gd (some x58) false x63.2 (lt (pBin prog .neq 3 (.tmp 62) (.tmp 63) x62.1 x63.1) x63.2)) fun x64 =>
  bnd (pickV x58 (.bool true) x64.1) fun x65 =>
  bnd (gd (some x65) false x64.2 (lt (pFieldAddr prog 53 x2 2) x64.2)) fun x67 =>
  bnd (gd (some x65) false x67.2 (lt (pLoad prog 39 x67.1 x67.2) x67.2)) fun x68 =>
  bnd (gd (some x65) false x68.2 (inv (.func 85) #[] #[x68.1] x68.2)) fun x69 =>
  bnd (gd (some x65) false x69.2 (lt (pBin prog .neq 28 (.tmp 69) (.const (.int .i64 0)) x69.1 (.int .i64 0)) x69.2)) fun x70 =>
  bnd (pickV x65 (.bool true) x70.1) fun x71 =>
  bnd (gd (some x71) false x70.2 (lt (pFieldAddr prog 53 x2 3) x70.2)) fun x73 =>
  bnd (gd (some x71) false x73.2 (lt (pLoad prog 39 x73.1 x73.2) x73.2)) fun x74 =>
  bnd (gd (some x71) false x74.2 (inv (.func 85) #[] #[x74.1] x74.2)) fun x75 =>
  bnd (gd (some x71) false x75.2 (lt (pBin prog .neq 28 (.tmp 75) (.const (.int .i64 0)) x75.1 (.int .i64 0)) x75.2)) fun x76 =>
  bnd (pickV x71 (.bool true) x76.1) fun x77 =>
  bnd (gd (some x77) false x76.2 (lt (pFieldAddr prog 53 x2 2) x76.2)) fun x79 =>
  bnd (gd (some x77) false x79.2 (lt (pLoad prog 39 x79.1 x79.2) x79.2)) fun x80 =>
  bnd (gd (some x77) false x80.2 (lt (pFieldAddr prog 53 x2 3) x80.2)) fun x81 =>
  bnd (gd (some x77) false x81.2 (lt (pLoad prog 39 x81.1 x81.2) x81.2)) fun x82 =>
  bnd (gd (some x77) false x82.2 (inv (.func 146) #[] #[x80.1,x82.1] x82.2)) fun x83 =>
  bnd (gd (some x77) false x83.2 (lt (pBin prog .gtr 3 (.tmp 83) (.const (.int .i64 0)) x83.1 (.int .i64 0)) x83.2)) fun x84 =>
  bnd (pickV x77 (.bool true) x84.1) fun x85 =>
  K (x85) x84.2
/-- shadowbook/zone.Check -/
def F98 (inv : Inv) (k : Nat) (x0 x1 : Value) (h : AH) : Option (Value × AH) :=
  bnd (pBox prog 53 x0 h) fun x2 =>
  G98_1 inv x1 x2.1 x2.2 fun y28 h =>
  brV y28
  (some ((.int .i64 2),h))
  (G98_3 inv x1 x2.1 h fun y5 h_1 =>
  bnd (pFieldAddr prog 53 x2.1 1) fun x39 =>
  bnd (pLoad prog 3 x39 h_1) fun x40 =>
  bnd (pFieldAddr prog 53 x2.1 0) fun x41 =>
  bnd (pLoad prog 3 x41 h_1) fun x42 =>
  bnd (pBin prog .eql 3 (.tmp 40) (.tmp 42) x40 x42) fun x43 =>
  bnd (gd (some x43) true h_1 (some (y5,h_1))) fun x45 =>
  bnd (pickV x43 x45.1 (.bool false)) fun x46 =>
  brV x46
  (some ((.int .i64 0),x45.2))
  (G98_6 inv x1 x2.1 x45.2 fun y85 h_2 =>
  brV y85
  (some ((.int .i64 2),h_2))
  (some ((.int .i64 0),h_2))))
theorem F98_eq : eFun env k inv 98 #[x0,x1] h = F98 inv k x0 x1 h:=ks_fun (n:=86) []
theorem F98_call : eInv env (k + 1) (.func 98) #[] #[x0,x1] h = F98 (eInv env k) k x0 x1 h:=kq_inv F98_eq
/-- (*shadowbook/octet.Reader).Bytes -/
def F99 (inv : Inv) (k : Nat) (x0 x1 : Value) (h : AH) : Option (Value × AH) :=
  bnd (pBin prog .eql 154 (.tmp 9) (.const (.pointer none)) x0 (.pointer none)) fun x10 =>
  brV x10
  (some (.tuple #[(.slice none 0 0),(.int .i64 1)],h))
  (bnd (pBin prog .lss 3 (.tmp 12) (.const (.int .i64 0)) x1 (.int .i64 0)) fun x13 =>
  brV x13
  (some (.tuple #[(.slice none 0 0),(.int .i64 2)],h))
  (bnd (inv (.func 150) #[] #[x0,x1] h) fun x17 =>
  bnd (pExtract x17.1 0) fun x18 =>
  bnd (pExtract x17.1 1) fun x19 =>
  bnd (inv (.func 149) #[] #[x18] x17.2) fun x21 =>
  some (.tuple #[x21.1,x19],x21.2)))
theorem F99_eq : eFun env k inv 99 #[x0,x1] h = F99 inv k x0 x1 h:=ks_fun (n:=23) []
theorem F99_call : eInv env (k + 1) (.func 99) #[] #[x0,x1] h = F99 (eInv env k) k x0 x1 h:=kq_inv F99_eq
/-- (*shadowbook/octet.Reader).Left -/
def F100 (inv : Inv) (k : Nat) (x0 : Value) (h : AH) : Option (Value × AH) :=
  bnd (pBin prog .eql 154 (.tmp 3) (.const (.pointer none)) x0 (.pointer none)) fun x4 =>
  brV x4
  (some ((.int .i64 0),h))
  (bnd (pNilCheck prog x0) fun x6 =>
  bnd (pFieldAddr prog 185 x6 0) fun x7 =>
  bnd (pLoad prog 93 x7 h) fun x8 =>
  bnd (pLen prog #[93] x8 h) fun x9 =>
  some (x9,h))
theorem F100_eq : eFun env k inv 100 #[x0] h = F100 inv k x0 h:=ks_fun (n:=10) []
theorem F100_call : eInv env (k + 1) (.func 100) #[] #[x0] h = F100 (eInv env k) k x0 h:=kq_inv F100_eq
abbrev G116_8 {β : Type} (inv : Inv) (x1 : Value) (h : AH) (K : Value→AH→Option β) : Option β :=
  bnd (pFieldAddr prog 39 x1 2) fun x18 =>
  bnd (pLoad prog 9 x18 h) fun x19 =>
  bnd (pBin prog .eql 9 (.tmp 19) (.const (.string { data:=#[] })) x19 (.string { data:=#[] })) fun x20 =>
  bnd (gd (some x20) true h (lt (pFieldAddr prog 39 x1 1) h)) fun x22 =>
  bnd (gd (some x20) true x22.2 (lt (pLoad prog 2 x22.1 x22.2) x22.2)) fun x23 =>
  bnd (gd (some x20) true x23.2 (lt (pBin prog .andNot 2 (.tmp 23) (.const (.int .i64 1)) x23.1 (.int .i64 1)) x23.2)) fun x24 =>
  bnd (gd (some x20) true x24.2 (lt (pBin prog .eql 2 (.tmp 24) (.const (.int .i64 0)) x24.1 (.int .i64 0)) x24.2)) fun x25 =>
  bnd (pickV x20 x25.1 (.bool false)) fun x26 =>
  K (x26) x25.2
abbrev G116_10 {β : Type} (inv : Inv) (x1 : Value) (h : AH) (K : Value→AH→Option β) : Option β :=
  bnd (pFieldAddr prog 39 x1 1) fun x29 =>
  bnd (pLoad prog 2 x29 h) fun x30 =>
  bnd (pBin prog .eql 2 (.tmp 30) (.const (.int .i64 0)) x30 (.int .i64 0)) fun x31 =>
  bnd (gd (some x31) true h (lt (pFieldAddr prog 39 x1 2) h)) fun x33 =>
  bnd (gd (some x31) true x33.2 (lt (pLoad prog 9 x33.1 x33.2) x33.2)) fun x34 =>
  bnd (gd (some x31) true x34.2 (lt (pLen prog #[9] x34.1 x34.2) x34.2)) fun x35 =>
  bnd (gd (some x31) true x35.2 (lt (pBin prog .leq 3 (.tmp 35) (.const (.int .i64 256)) x35.1 (.int .i64 256)) x35.2)) fun x36 =>
  bnd (pickV x31 x36.1 (.bool false)) fun x37 =>
  K (x37) x36.2
def F116_rlrr {β : Type} (inv : Inv) (k : Nat) (x1 x3 x5 : Value) (h : AH) (kn : (Value→Value→Value→AH→Option β)) : Option β :=
  bnd (pBin prog .eql 3 (.tmp 5) (.const (.int .i64 0)) x5 (.int .i64 0)) fun x7 =>
  brV x7
  (bnd (pLoad prog 39 x1 h) fun x8 =>
  bnd (pBuild prog 39 #[]) fun x9 =>
  bnd (pBin prog .eql 39 (.tmp 8) (.tmp 9) x8 x9) fun x10 =>
  kn unk x10 unk h)
  (bnd (pBin prog .eql 3 (.tmp 5) (.const (.int .i64 1)) x5 (.int .i64 1)) fun x12 =>
  brV x12
  (bnd (pFieldAddr prog 39 x1 2) fun x13 =>
  bnd (pLoad prog 9 x13 h) fun x14 =>
  bnd (pBin prog .eql 9 (.tmp 14) (.const (.string { data:=#[] })) x14 (.string { data:=#[] })) fun x15 =>
  kn unk x15 unk h)
  (bnd (pBin prog .eql 3 (.tmp 5) (.const (.int .i64 2)) x5 (.int .i64 2)) fun x17 =>
  brV x17
  (G116_8 inv x1 h fun y3 h =>
  kn unk y3 unk h)
  (bnd (pBin prog .eql 3 (.tmp 5) (.const (.int .i64 3)) x5 (.int .i64 3)) fun x28 =>
  brV x28
  (G116_10 inv x1 h fun y3_1 h_2 =>
  kn unk y3_1 unk h_2)
  (kn x1 x3 x28 h))))
def e116_0 : Ent env 116 false 40:=.jn [] 29 [1,3,5] [(.normal,[1,3,27])] F116_rlrr
/-- shadowbook/value.Check -/
def F116 (inv : Inv) (k : Nat) (x0 : Value) (h : AH) : Option (Value × AH) :=
  bnd (pBox prog 39 x0 h) fun x1 =>
  bnd (pFieldAddr prog 39 x1.1 0) fun x4 =>
  bnd (pLoad prog 3 x4 x1.2) fun x5 =>
  F116_rlrr inv k x1.1 (.bool false) x5 x1.2
  (fun y1 y3 y27 h =>
  bnd (pUn prog .not y3) fun x39 =>
  brV x39
  (some ((.int .i64 160),h))
  (some ((.int .i64 0),h)))
theorem F116_eq : eFun env k inv 116 #[x0] h = F116 inv k x0 h:=ks_fun (n:=40) [e116_0]
theorem F116_call : eInv env (k + 1) (.func 116) #[] #[x0] h = F116 (eInv env k) k x0 h:=kq_inv F116_eq
def F117_lrrllrlr {β : Type} (inv : Inv) (k : Nat) (x2 x5 x6 x7 x8 : Value) (h : AH) (kn : (Value→Value→Value→Value→Value→AH→Option β)) : Option β :=
  bnd (pIndexAddr prog 119 x5 x7) fun x9 =>
  bnd (pLoad prog 4 x9 h) fun x10 =>
  brV x10
  (bnd (pBin prog .add 3 (.tmp 12) (.const (.int .i64 1)) x2 (.int .i64 1)) fun x13 =>
  kn x13 x5 x6 x7 unk h)
  (kn x2 x5 x6 x7 x10 h)
def e117_0 : Ent env 117 false 16:=.jn [] 422 [2,5,6,7,8] [(.normal,[2,5,6,7,11])] F117_lrrllrlr
def F117_lrlr {β : Type} (inv : Inv) (k : Nat) : Nat→Value→Value→Value→Value→AH→(Value→Value→Value→Value→Value→AH→Option β)→Option β
 | 0,_,_,_,_,_,_=>none
 | j + 1,x2,x5,x6,x7,h,ke0 =>
  bnd (pBin prog .lss 3 (.tmp 7) (.tmp 6) x7 x6) fun x8 =>
  brV x8
  (F117_lrrllrlr inv k x2 x5 x6 x7 x8 h
  (fun y2 y5 y6 y7 y11 h =>
  bnd (pBin prog .add 3 (.tmp 7) (.const (.int .i64 1)) y7 (.int .i64 1)) fun x14 =>
  F117_lrlr inv k j y2 y5 y6 x14 h ke0))
  (ke0 x2 x5 x6 x7 x8 h)
def e117_1 : Ent env 117 false 16:=.lp [e117_0] 26 [2,5,6,7] [(.exit 0,[2,5,6,7,8])] F117_lrlr
/-- (shadowbook/nulls.flags).count -/
def F117 (inv : Inv) (k : Nat) (x0 : Value) (h : AH) : Option (Value × AH) :=
  bnd (pLen prog #[119] x0 h) fun x6 =>
  F117_lrlr inv k k (.int .i64 0) x0 x6 (.int .i64 0) h
  (fun y2 y5 y6 y7 y8 h =>
  some (y2,h))
theorem F117_eq : eFun env k inv 117 #[x0] h = F117 inv k x0 h:=ks_fun (n:=16) [e117_0,e117_1]
theorem F117_call : eInv env (k + 1) (.func 117) #[] #[x0] h = F117 (eInv env k) k x0 h:=kq_inv F117_eq
abbrev G118_1 {β : Type} (inv : Inv) (x0 x1 : Value) (h : AH) (K : Value→AH→Option β) : Option β :=
  bnd (pBin prog .geq 3 (.tmp 5) (.const (.int .i64 0)) x0 (.int .i64 0)) fun x6 =>
  bnd (gd (some x6) true h (some (x0,h))) fun x8 =>
  bnd (gd (some x6) true x8.2 (lt (pBin prog .leq 3 (.tmp 8) (.const (.int .i64 65536)) x8.1 (.int .i64 65536)) x8.2)) fun x9 =>
  bnd (pickV x6 x9.1 (.bool false)) fun x10 =>
  bnd (gd (some x10) true x9.2 (some (x1,x9.2))) fun x12 =>
  bnd (gd (some x10) true x12.2 (lt (pBin prog .geq 3 (.tmp 12) (.const (.int .i64 0)) x12.1 (.int .i64 0)) x12.2)) fun x13 =>
  bnd (pickV x10 x13.1 (.bool false)) fun x14 =>
  bnd (gd (some x14) true x13.2 (some (x1,x13.2))) fun x16 =>
  bnd (gd (some x14) true x16.2 (lt (pBin prog .leq 3 (.tmp 16) (.const (.int .i64 64)) x16.1 (.int .i64 64)) x16.2)) fun x17 =>
  bnd (pickV x14 x17.1 (.bool false)) fun x18 =>
  K (x18) x17.2
/-- shadowbook/packs.may -/
def F118 (inv : Inv) (k : Nat) (x0 x1 : Value) (h : AH) : Option (Value × AH) :=
  G118_1 inv x0 x1 h fun y4 h =>
  some (y4,h)
theorem F118_eq : eFun env k inv 118 #[x0,x1] h = F118 inv k x0 x1 h:=ks_fun (n:=19) []
theorem F118_call : eInv env (k + 1) (.func 118) #[] #[x0,x1] h = F118 (eInv env k) k x0 x1 h:=kq_inv F118_eq
def F119_lrlrr {β : Type} (inv : Inv) (k : Nat) : Nat→Value→Value→Value→Value→AH→(Value→Value→Value→Value→Value→AH→Option β)→Option β
 | 0,_,_,_,_,_,_=>none
 | j + 1,x3,x6,x7,x8,h,ke0 =>
  bnd (pBin prog .lss 3 (.tmp 8) (.tmp 7) x8 x7) fun x9 =>
  brV x9
  (bnd (pIndexAddr prog 124 x6 x8) fun x10 =>
  bnd (pLoad prog 121 x10 h) fun x11 =>
  bnd (pBin prog .or 121 (.tmp 12) (.tmp 13) x3 x11) fun x14 =>
  bnd (pBin prog .add 3 (.tmp 8) (.const (.int .i64 1)) x8 (.int .i64 1)) fun x15 =>
  F119_lrlrr inv k j x14 x6 x7 x15 h ke0)
  (ke0 x3 x6 x7 x8 x9 h)
def e119_0 : Ent env 119 false 18:=.lp [] 58 [3,6,7,8] [(.exit 0,[3,6,7,8,9])] F119_lrlrr
/-- shadowbook/packs.Width -/
def F119 (inv : Inv) (k : Nat) (x0 : Value) (h : AH) : Option (Value × AH) :=
  bnd (pLen prog #[124] x0 h) fun x7 =>
  F119_lrlrr inv k k (.int .u64 0) x0 x7 (.int .i64 0) h
  (fun y3 y6 y7 y8 y9 h =>
  bnd (inv (.func 167) #[] #[y3] h) fun x17 =>
  some (x17.1,x17.2))
theorem F119_eq : eFun env k inv 119 #[x0] h = F119 inv k x0 h:=ks_fun (n:=18) [e119_0]
theorem F119_call : eInv env (k + 1) (.func 119) #[] #[x0] h = F119 (eInv env k) k x0 h:=kq_inv F119_eq
abbrev G120_3 {β : Type} (inv : Inv) (x0 x1 : Value) (h : AH) (K : Value→AH→Option β) : Option β :=
  bnd (pBin prog .mul 3 (.tmp 9) (.tmp 10) x0 x1) fun x11 =>
  bnd (pBin prog .add 3 (.tmp 11) (.const (.int .i64 8)) x11 (.int .i64 8)) fun x12 =>
  bnd (pBin prog .sub 3 (.tmp 12) (.const (.int .i64 1)) x12 (.int .i64 1)) fun x13 =>
  bnd (pBin prog .quo 3 (.tmp 13) (.const (.int .i64 8)) x13 (.int .i64 8)) fun x14 =>
  K (x14) h
/-- shadowbook/packs.Size -/
def F120 (inv : Inv) (k : Nat) (x0 x1 : Value) (h : AH) : Option (Value × AH) :=
  bnd (inv (.func 118) #[] #[x0,x1] h) fun x7 =>
  bnd (pUn prog .not x7.1) fun x8 =>
  brV x8
  (some ((.int .i64 0),x7.2))
  (G120_3 inv x0 x1 x7.2 fun y4 h =>
  some (y4,h))
theorem F120_eq : eFun env k inv 120 #[x0,x1] h = F120 inv k x0 x1 h:=ks_fun (n:=15) []
theorem F120_call : eInv env (k + 1) (.func 120) #[] #[x0,x1] h = F120 (eInv env k) k x0 x1 h:=kq_inv F120_eq
/-- shadowbook/packs.Put$1 -/
def F121 (inv : Inv) (k : Nat) (x0 x1 x2 x3 : Value) (h : AH) : Option (Value × AH) :=
  bnd (pLoad prog 5 x1 h) fun x5 =>
  bnd (pLoad prog 3 x2 h) fun x7 =>
  bnd (pBin prog .shl 5 (.tmp 6) (.tmp 7) x0 x7) fun x8 =>
  bnd (pBin prog .or 5 (.tmp 5) (.tmp 8) x5 x8) fun x9 =>
  bnd (kSt (pStore prog 5 x1 x9 h)) fun u =>
  bnd (pLoad prog 3 x2 u.2) fun x10 =>
  bnd (pBin prog .add 3 (.tmp 10) (.const (.int .i64 1)) x10 (.int .i64 1)) fun x11 =>
  bnd (kSt (pStore prog 3 x2 x11 u.2)) fun u_1 =>
  bnd (pLoad prog 3 x2 u_1.2) fun x12 =>
  bnd (pBin prog .eql 3 (.tmp 12) (.const (.int .i64 8)) x12 (.int .i64 8)) fun x13 =>
  brV x13
  (bnd (pLoad prog 93 x3 u_1.2) fun x14 =>
  bnd (pLoad prog 5 x1 u_1.2) fun x15 =>
  bnd (pBuildSlice prog 93 1 #[(0,x15)] u_1.2) fun x16 =>
  bnd (pAppend prog #[93,93] x14 x16.1 x16.2) fun x17 =>
  bnd (kSt (pStore prog 93 x3 x17.1 x17.2)) fun u_2 =>
  bnd (kSt (pStore prog 5 x1 (.int .u8 0) u_2.2)) fun u_4 =>
  bnd (kSt (pStore prog 3 x2 (.int .i64 0) u_4.2)) fun u_5 =>
  some (.tuple #[],u_5.2))
  (some (.tuple #[],u_1.2))
theorem F121_eq : eFun env k inv 121 #[x0,x1,x2,x3] h = F121 inv k x0 x1 x2 x3 h:=ks_fun (n:=18) []
theorem F121_call : eInv env (k + 1) (.func 121) #[] #[x0,x1,x2,x3] h = F121 (eInv env k) k x0 x1 x2 x3 h:=kq_inv F121_eq
/-- shadowbook/segment.numbers$1 -/
def F122 (inv : Inv) (k : Nat) (x0 : Value) (h : AH) : Option (Value × AH) :=
  bnd (pBox prog 39 x0 h) fun x1 =>
  bnd (pFieldAddr prog 39 x1.1 1) fun x3 =>
  bnd (pLoad prog 2 x3 x1.2) fun x4 =>
  some (x4,x1.2)
theorem F122_eq : eFun env k inv 122 #[x0] h = F122 inv k x0 h:=ks_fun (n:=5) []
theorem F122_call : eInv env (k + 1) (.func 122) #[] #[x0] h = F122 (eInv env k) k x0 h:=kq_inv F122_eq
/-- shadowbook/segment.numbers$2 -/
def F123 (inv : Inv) (k : Nat) (x0 : Value) (h : AH) : Option (Value × AH) :=
  bnd (pAlloc prog 39 h) fun x2 =>
  bnd (pBuild prog 39 #[(0,(.int .i64 1)),(1,x0)]) fun x4 =>
  bnd (kSt (pStore prog 39 x2.1 x4 x2.2)) fun u =>
  bnd (pLoad prog 39 x2.1 u.2) fun q0 =>
  some (q0,u.2)
theorem F123_eq : eFun env k inv 123 #[x0] h = F123 inv k x0 h:=ks_fun (n:=5) []
theorem F123_call : eInv env (k + 1) (.func 123) #[] #[x0] h = F123 (eInv env k) k x0 h:=kq_inv F123_eq
/-- shadowbook/segment.numbers$3 -/
def F124 (inv : Inv) (k : Nat) (x0 x1 : Value) (h : AH) : Option (Value × AH) :=
  bnd (pConv prog 2 121 x1 h) fun x7 =>
  bnd (inv (.func 125) #[] #[x0,x7,(.int .i64 8)] h) fun x8 =>
  some (x8.1,x8.2)
theorem F124_eq : eFun env k inv 124 #[x0,x1] h = F124 inv k x0 x1 h:=ks_fun (n:=9) []
theorem F124_call : eInv env (k + 1) (.func 124) #[] #[x0,x1] h = F124 (eInv env k) k x0 x1 h:=kq_inv F124_eq
abbrev G125_1 {β : Type} (inv : Inv) (x0 x1 x2 : Value) (h : AH) (K : Value→AH→Option β) : Option β :=
  bnd (pBin prog .lss 3 (.tmp 8) (.const (.int .i64 1)) x2 (.int .i64 1)) fun x9 =>
  bnd (gd (some x9) false h (some (x2,h))) fun x11 =>
  bnd (gd (some x9) false x11.2 (lt (pBin prog .gtr 3 (.tmp 11) (.const (.int .i64 8)) x11.1 (.int .i64 8)) x11.2)) fun x12 =>
  bnd (pickV x9 (.bool true) x12.1) fun x13 =>
  K (x13) x12.2
def F125_lrlrr {β : Type} (inv : Inv) (k : Nat) : Nat→Value→Value→Value→Value→AH→(Value→Value→Value→Value→Value→AH→Option β)→Option β
 | 0,_,_,_,_,_,_=>none
 | j + 1,x0,x1,x15,x16,h,ke0 =>
  bnd (pBin prog .lss 3 (.tmp 16) (.tmp 15) x16 x15) fun x17 =>
  brV x17
  (bnd (pBin prog .mul 3 (.const (.int .i64 8)) (.tmp 21) (.int .i64 8) x16) fun x22 =>
  bnd (pBin prog .shr 121 (.tmp 20) (.tmp 22) x1 x22) fun x23 =>
  bnd (pConv prog 121 5 x23 h) fun x24 =>
  bnd (pBuildSlice prog 93 1 #[(0,x24)] h) fun x25 =>
  bnd (pAppend prog #[93,93] x0 x25.1 x25.2) fun x26 =>
  bnd (pBin prog .add 3 (.tmp 16) (.const (.int .i64 1)) x16 (.int .i64 1)) fun x27 =>
  F125_lrlrr inv k j x26.1 x1 x15 x27 x26.2 ke0)
  (ke0 x0 x1 x15 x16 x17 h)
def e125_0 : Ent env 125 false 29:=.lp [] 58 [0,1,15,16] [(.exit 0,[0,1,15,16,17])] F125_lrlrr
/-- shadowbook/octet.Put -/
def F125 (inv : Inv) (k : Nat) (x0 x1 x2 : Value) (h : AH) : Option (Value × AH) :=
  G125_1 inv x0 x1 x2 h fun y13 h =>
  brV y13
  (some (x0,h))
  (F125_lrlrr inv k k x0 x1 x2 (.int .i64 0) h
  (fun y0 y1 y15 y16 y17 h_1 =>
  some (y0,h_1)))
theorem F125_eq : eFun env k inv 125 #[x0,x1,x2] h = F125 inv k x0 x1 x2 h:=ks_fun (n:=29) [e125_0]
theorem F125_call : eInv env (k + 1) (.func 125) #[] #[x0,x1,x2] h = F125 (eInv env k) k x0 x1 x2 h:=kq_inv F125_eq
/-- shadowbook/segment.numbers$4 -/
def F126 (inv : Inv) (k : Nat) (x0 : Value) (h : AH) : Option (Value × AH) :=
  bnd (inv (.func 127) #[] #[x0,(.int .i64 8)] h) fun x8 =>
  bnd (pExtract x8.1 0) fun x9 =>
  bnd (pExtract x8.1 1) fun x10 =>
  bnd (pConv prog 121 2 x9 x8.2) fun x12 =>
  some (.tuple #[x12,x10],x8.2)
theorem F126_eq : eFun env k inv 126 #[x0] h = F126 inv k x0 h:=ks_fun (n:=14) []
theorem F126_call : eInv env (k + 1) (.func 126) #[] #[x0] h = F126 (eInv env k) k x0 h:=kq_inv F126_eq
abbrev G127_3 {β : Type} (inv : Inv) (x0 x1 : Value) (h : AH) (K : Value→AH→Option β) : Option β :=
  bnd (pBin prog .lss 3 (.tmp 12) (.const (.int .i64 1)) x1 (.int .i64 1)) fun x13 =>
  bnd (gd (some x13) false h (some (x1,h))) fun x15 =>
  bnd (gd (some x13) false x15.2 (lt (pBin prog .gtr 3 (.tmp 15) (.const (.int .i64 8)) x15.1 (.int .i64 8)) x15.2)) fun x16 =>
  bnd (pickV x13 (.bool true) x16.1) fun x17 =>
  K (x17) x16.2
/-- (*shadowbook/octet.Reader).Number -/
def F127 (inv : Inv) (k : Nat) (x0 x1 : Value) (h : AH) : Option (Value × AH) :=
  bnd (pBin prog .eql 154 (.tmp 9) (.const (.pointer none)) x0 (.pointer none)) fun x10 =>
  brV x10
  (some (.tuple #[(.int .u64 0),(.int .i64 1)],h))
  (G127_3 inv x0 x1 h fun y11 h =>
  brV y11
  (some (.tuple #[(.int .u64 0),(.int .i64 2)],h))
  (bnd (inv (.func 150) #[] #[x0,x1] h) fun x21 =>
  bnd (pExtract x21.1 0) fun x22 =>
  bnd (pExtract x21.1 1) fun x23 =>
  bnd (inv (.func 168) #[] #[x22] x21.2) fun x25 =>
  some (.tuple #[x25.1,x23],x25.2)))
theorem F127_eq : eFun env k inv 127 #[x0,x1] h = F127 inv k x0 x1 h:=ks_fun (n:=27) []
theorem F127_call : eInv env (k + 1) (.func 127) #[] #[x0,x1] h = F127 (eInv env k) k x0 x1 h:=kq_inv F127_eq
def F128_lrlrr {β : Type} (inv : Inv) (k : Nat) : Nat→Value→Value→Value→Value→Value→AH→(Value→Value→Value→Value→Value→Value→AH→Option β)→(Value→Value→AH→Option β)→Option β
 | 0,_,_,_,_,_,_,_,_=>none
 | j + 1,x0,x4,x9,x10,x11,h,ke0,kr =>
  bnd (pBin prog .lss 3 (.tmp 11) (.tmp 10) x11 x10) fun x12 =>
  brV x12
  (bnd (pIndexAddr prog 196 x9 x11) fun x13 =>
  bnd (pLoad prog 200 x13 h) fun x14 =>
  bnd (pAlloc prog 200 h) fun x6 =>
  bnd (kSt (pStore prog 200 x6.1 x14 x6.2)) fun u =>
  bnd (pFieldAddr prog 200 x6.1 1) fun x16 =>
  bnd (pLoad prog 129 x16 u.2) fun x17 =>
  bnd (callV inv x17 #[x0] u.2) fun x19 =>
  bnd (pExtract x19.1 0) fun x20 =>
  bnd (pExtract x19.1 1) fun x21 =>
  bnd (pBin prog .neq 28 (.tmp 22) (.const (.int .i64 0)) x21 (.int .i64 0)) fun x23 =>
  brV x23
  (kr (.slice none 0 0) x21 x19.2)
  (bnd (pBuildSlice prog 195 1 #[(0,x20)] x19.2) fun x27 =>
  bnd (pAppend prog #[195,195] x4 x27.1 x27.2) fun x28 =>
  bnd (pBin prog .add 3 (.tmp 11) (.const (.int .i64 1)) x11 (.int .i64 1)) fun x29 =>
  F128_lrlrr inv k j x0 x28.1 x9 x10 x29 x28.2 ke0 kr))
  (ke0 x0 x4 x9 x10 x11 x12 h)
def e128_0 : Ent env 128 false 32:=.lp [] 58 [0,4,9,10,11] [(.exit 0,[0,4,9,10,11,12]),(.ret,[2,3])] F128_lrlrr
/-- shadowbook/ints.Put -/
def F128 (inv : Inv) (k : Nat) (x0 : Value) (h : AH) : Option (Value × AH) :=
  bnd (inv (.func 169) #[] #[] h) fun x9 =>
  bnd (pLen prog #[196] x9.1 x9.2) fun x10 =>
  F128_lrlrr inv k k x0 (.slice none 0 0) x9.1 x10 (.int .i64 0) x9.2
  (fun y0 y4 y9 y10 y11 y12 h =>
  bnd (inv (.func 170) #[] #[y4,(.func (.func 171) #[] #[])] h) fun x31 =>
  some (.tuple #[x31.1,(.int .i64 0)],x31.2))
  (fun y2 y3 h_1 =>
  some (.tuple #[y2,y3],h_1))
theorem F128_eq : eFun env k inv 128 #[x0] h = F128 inv k x0 h:=ks_fun (n:=32) [e128_0]
theorem F128_call : eInv env (k + 1) (.func 128) #[] #[x0] h = F128 (eInv env k) k x0 h:=kq_inv F128_eq
/-- shadowbook/segment.numbers$5 -/
def F129 (inv : Inv) (k : Nat) (x0 x1 : Value) (h : AH) : Option (Value × AH) :=
  bnd (inv (.func 130) #[] #[x0] h) fun x7 =>
  bnd (pExtract x7.1 0) fun x8 =>
  bnd (pExtract x7.1 1) fun x9 =>
  some (.tuple #[x8,x9],x7.2)
theorem F129_eq : eFun env k inv 129 #[x0,x1] h = F129 inv k x0 x1 h:=ks_fun (n:=10) []
theorem F129_call : eInv env (k + 1) (.func 129) #[] #[x0,x1] h = F129 (eInv env k) k x0 x1 h:=kq_inv F129_eq
abbrev G130_6 {β : Type} (inv : Inv) (x0 x4 x5 x6 x7 : Value) (h : AH) (K : Value→AH→Option β) : Option β :=
  bnd (pBin prog .neq 28 (.tmp 27) (.const (.int .i64 0)) x6 (.int .i64 0)) fun x28 =>
  bnd (gd (some x28) false h (some (x7,h))) fun x30 =>
  bnd (gd (some x28) false x30.2 (lt (pBin prog .gtr 121 (.tmp 30) (.const (.int .u64 4096)) x30.1 (.int .u64 4096)) x30.2)) fun x31 =>
  bnd (pickV x28 (.bool true) x31.1) fun x32 =>
  K (x32) x31.2
abbrev G130_16 {β : Type} (inv : Inv) (x0 x10 x11 x12 : Value) (h : AH) (K : Value→AH→Option β) : Option β :=
  bnd (pBin prog .neq 28 (.tmp 60) (.const (.int .i64 0)) x12 (.int .i64 0)) fun x61 =>
  bnd (gd (some x61) false h (some (x11,h))) fun x63 =>
  bnd (gd (some x61) false x63.2 (some (x0,x63.2))) fun x64 =>
  bnd (gd (some x61) false x64.2 (inv (.func 148) #[] #[x63.1,x64.1] x64.2)) fun x65 =>
  bnd (gd (some x61) false x65.2 (lt (pUn prog .not x65.1) x65.2)) fun x66 =>
  bnd (pickV x61 (.bool true) x66.1) fun x67 =>
  K (x67) x66.2
/-- shadowbook/ints.Get -/
def F130 (inv : Inv) (k : Nat) (x0 : Value) (h : AH) : Option (Value × AH) :=
  bnd (inv (.func 97) #[] #[x0] h) fun x14 =>
  bnd (inv (.func 127) #[] #[x14.1,(.int .i64 1)] x14.2) fun x17 =>
  bnd (pExtract x17.1 0) fun x18 =>
  bnd (pExtract x17.1 1) fun x19 =>
  bnd (pAlloc prog 121 x17.2) fun x5 =>
  bnd (kSt (pStore prog 121 x5.1 x18 x5.2)) fun u =>
  bnd (pBin prog .neq 28 (.tmp 20) (.const (.int .i64 0)) x19 (.int .i64 0)) fun x21 =>
  brV x21
  (some (.tuple #[(.slice none 0 0),(.int .i64 4)],u.2))
  (bnd (inv (.func 142) #[] #[x14.1] u.2) fun x24 =>
  bnd (pExtract x24.1 0) fun x25 =>
  bnd (pExtract x24.1 1) fun x26 =>
  G130_6 inv x0 x14.1 x5.1 x26 x25 x24.2 fun y32 h =>
  brV y32
  (some (.tuple #[(.slice none 0 0),(.int .i64 4)],h))
  (bnd (inv (.func 169) #[] #[] h) fun x33 =>
  bnd (pMakeFunc (.func 174) #[] #[x5.1]) fun x34 =>
  bnd (inv (.func 173) #[] #[x33.1,x34] x33.2) fun x35 =>
  bnd (pBin prog .lss 3 (.tmp 36) (.const (.int .i64 0)) x35.1 (.int .i64 0)) fun x37 =>
  brV x37
  (some (.tuple #[(.slice none 0 0),(.int .i64 4)],x35.2))
  (bnd (inv (.func 169) #[] #[] x35.2) fun x38 =>
  bnd (pIndexAddr prog 196 x38.1 x35.1) fun x40 =>
  bnd (pLoad prog 200 x40 x38.2) fun x41 =>
  bnd (pAlloc prog 200 x38.2) fun x9 =>
  bnd (kSt (pStore prog 200 x9.1 x41 x9.2)) fun u_1 =>
  bnd (pFieldAddr prog 200 x9.1 2) fun x43 =>
  bnd (pLoad prog 198 x43 u_1.2) fun x44 =>
  bnd (pConv prog 121 3 x25 u_1.2) fun x47 =>
  bnd (callV inv x44 #[x14.1,x47] u_1.2) fun x48 =>
  bnd (pExtract x48.1 0) fun x49 =>
  bnd (pExtract x48.1 1) fun x50 =>
  bnd (pBin prog .neq 28 (.tmp 51) (.const (.int .i64 0)) x50 (.int .i64 0)) fun x52 =>
  brV x52
  (some (.tuple #[(.slice none 0 0),(.int .i64 4)],x48.2))
  (bnd (pFieldAddr prog 200 x9.1 1) fun x54 =>
  bnd (pLoad prog 129 x54 x48.2) fun x55 =>
  bnd (callV inv x55 #[x49] x48.2) fun x57 =>
  bnd (pExtract x57.1 0) fun x58 =>
  bnd (pExtract x57.1 1) fun x59 =>
  G130_16 inv x0 x49 x58 x59 x57.2 fun y67 h_2 =>
  brV y67
  (some (.tuple #[(.slice none 0 0),(.int .i64 4)],h_2))
  (some (.tuple #[x49,(.int .i64 0)],h_2))))))
theorem F130_eq : eFun env k inv 130 #[x0] h = F130 inv k x0 h:=ks_fun (n:=69) []
theorem F130_call : eInv env (k + 1) (.func 130) #[] #[x0] h = F130 (eInv env k) k x0 h:=kq_inv F130_eq
/-- shadowbook/segment.truths$1 -/
def F131 (inv : Inv) (k : Nat) (x0 : Value) (h : AH) : Option (Value × AH) :=
  bnd (pBox prog 39 x0 h) fun x1 =>
  bnd (pFieldAddr prog 39 x1.1 1) fun x3 =>
  bnd (pLoad prog 2 x3 x1.2) fun x4 =>
  bnd (pConv prog 2 121 x4 x1.2) fun x5 =>
  some (x5,x1.2)
theorem F131_eq : eFun env k inv 131 #[x0] h = F131 inv k x0 h:=ks_fun (n:=6) []
theorem F131_call : eInv env (k + 1) (.func 131) #[] #[x0] h = F131 (eInv env k) k x0 h:=kq_inv F131_eq
/-- shadowbook/segment.truths$2 -/
def F132 (inv : Inv) (k : Nat) (x0 : Value) (h : AH) : Option (Value × AH) :=
  bnd (pAlloc prog 39 h) fun x2 =>
  bnd (pConv prog 121 2 x0 x2.2) fun x4 =>
  bnd (pBuild prog 39 #[(0,(.int .i64 2)),(1,x4)]) fun x5 =>
  bnd (kSt (pStore prog 39 x2.1 x5 x2.2)) fun u =>
  bnd (pLoad prog 39 x2.1 u.2) fun q0 =>
  some (q0,u.2)
theorem F132_eq : eFun env k inv 132 #[x0] h = F132 inv k x0 h:=ks_fun (n:=6) []
theorem F132_call : eInv env (k + 1) (.func 132) #[] #[x0] h = F132 (eInv env k) k x0 h:=kq_inv F132_eq
/-- shadowbook/segment.truths$3 -/
def F133 (inv : Inv) (k : Nat) (x0 x1 : Value) (h : AH) : Option (Value × AH) :=
  bnd (pConv prog 121 5 x1 h) fun x7 =>
  bnd (pBuildSlice prog 93 1 #[(0,x7)] h) fun x8 =>
  bnd (pAppend prog #[93,93] x0 x8.1 x8.2) fun x9 =>
  some (x9.1,x9.2)
theorem F133_eq : eFun env k inv 133 #[x0,x1] h = F133 inv k x0 x1 h:=ks_fun (n:=10) []
theorem F133_call : eInv env (k + 1) (.func 133) #[] #[x0,x1] h = F133 (eInv env k) k x0 x1 h:=kq_inv F133_eq
/-- shadowbook/segment.truths$4 -/
def F134 (inv : Inv) (k : Nat) (x0 : Value) (h : AH) : Option (Value × AH) :=
  bnd (inv (.func 127) #[] #[x0,(.int .i64 1)] h) fun x5 =>
  bnd (pExtract x5.1 0) fun x6 =>
  bnd (pExtract x5.1 1) fun x7 =>
  some (.tuple #[x6,x7],x5.2)
theorem F134_eq : eFun env k inv 134 #[x0] h = F134 inv k x0 h:=ks_fun (n:=8) []
theorem F134_call : eInv env (k + 1) (.func 134) #[] #[x0] h = F134 (eInv env k) k x0 h:=kq_inv F134_eq
/-- shadowbook/segment.truths$5 -/
def F135 (inv : Inv) (k : Nat) (x0 : Value) (h : AH) : Option (Value × AH) :=
  bnd (inv (.func 88) #[] #[x0,(.int .i64 1)] h) fun x5 =>
  bnd (pExtract x5.1 0) fun x6 =>
  bnd (pExtract x5.1 1) fun x7 =>
  some (.tuple #[x6,x7],x5.2)
theorem F135_eq : eFun env k inv 135 #[x0] h = F135 inv k x0 h:=ks_fun (n:=8) []
theorem F135_call : eInv env (k + 1) (.func 135) #[] #[x0] h = F135 (eInv env k) k x0 h:=kq_inv F135_eq
/-- shadowbook/segment.truths$6 -/
def F136 (inv : Inv) (k : Nat) (x0 x1 : Value) (h : AH) : Option (Value × AH) :=
  bnd (inv (.func 137) #[] #[x0,x1,(.int .i64 1)] h) fun x8 =>
  bnd (pExtract x8.1 0) fun x9 =>
  bnd (pExtract x8.1 1) fun x10 =>
  some (.tuple #[x9,x10],x8.2)
theorem F136_eq : eFun env k inv 136 #[x0,x1] h = F136 inv k x0 x1 h:=ks_fun (n:=11) []
theorem F136_call : eInv env (k + 1) (.func 136) #[] #[x0,x1] h = F136 (eInv env k) k x0 x1 h:=kq_inv F136_eq
def c137 : Code:=codeOf prog 137
def F137_rlrrr {β : Type} (inv : Inv) (k : Nat) (x6 x7 x9 x22 : Value) (h : AH) (kn : (Value→Value→Value→Value→AH→Option β)) : Option β :=
  kRange env 137 inv x22 (psOf (cp c137 122)) (cp c137 244) (cp c137 245) (act 30 [(6,x6),(7,x7),(9,x9),(22,x22)]) h fun e h=>sw e
  (kn x6 x7 x9 x22 h)
  none []
def e137_0 : Ent env 137 false 30:=.jn [] 61 [6,7,9,22] [(.normal,[6,7,9,22])] F137_rlrrr
/-- shadowbook/packs.Get -/
def F137 (inv : Inv) (k : Nat) (x0 x1 x2 : Value) (h : AH) : Option (Value × AH) :=
  bnd (inv (.func 175) #[] #[x0,x1,x2] h) fun x15 =>
  bnd (pBin prog .neq 28 (.tmp 16) (.const (.int .i64 0)) x15.1 (.int .i64 0)) fun x17 =>
  brV x17
  (some (.tuple #[(.slice none 0 0),x15.1],x15.2))
  (bnd (pAlloc prog 124 x15.2) fun x9 =>
  bnd (inv (.func 176) #[] #[x0,x1,x2] x9.2) fun x22 =>
  F137_rlrrr inv k (.slice none 0 0) (.int .i64 0) x9.1 x22.1 x22.2
  (fun y6 y7 y9 y22 h =>
  bnd (pLoad prog 124 y9 h) fun x29 =>
  some (.tuple #[x29,(.int .i64 0)],h)))
theorem F137_eq : eFun env k inv 137 #[x0,x1,x2] h = F137 inv k x0 x1 x2 h:=ks_fun (n:=30) [e137_0]
theorem F137_call : eInv env (k + 1) (.func 137) #[] #[x0,x1,x2] h = F137 (eInv env k) k x0 x1 x2 h:=kq_inv F137_eq
def R137_lrlrrr (inv : Inv) (k l : Nat) (x6 x7 x9 x22 z0 z1 : Value) (h : AH) : Option (Value × AH) :=
  rdBegin l h fun h =>
  bnd (pLoad prog 124 x9 h) fun x25 =>
  bnd (pBuildSlice prog 124 1 #[(0,z1)] h) fun x27 =>
  bnd (pAppend prog #[124,124] x25 x27.1 x27.2) fun x28 =>
  bnd (kSt (pStore prog 124 x9 x28.1 x28.2)) fun u =>
  rdEnd l .normal u.2
theorem R137_lrlrrr_eq {l : Nat} {pd : Option Code} (hl : h.get l = some (.loop .ready pd 137 (act 30 [(6,x6),(7,x7),(9,x9),(22,x22)]).tmps (psOf (cp c137 122)) (cp c137 244) (cp c137 245))) : eRound env k inv l #[z0,z1] h = R137_lrlrrr inv k l x6 x7 x9 x22 z0 z1 h:=ks_round (n:=30) [] 122 hl [(6,x6),(7,x7),(9,x9),(22,x22),(23,z0),(24,z1)]
/-- shadowbook/segment.words$1 -/
def F138 (inv : Inv) (k : Nat) (x0 : Value) (h : AH) : Option (Value × AH) :=
  bnd (pBox prog 39 x0 h) fun x1 =>
  bnd (pFieldAddr prog 39 x1.1 2) fun x3 =>
  bnd (pLoad prog 9 x3 x1.2) fun x4 =>
  some (x4,x1.2)
theorem F138_eq : eFun env k inv 138 #[x0] h = F138 inv k x0 h:=ks_fun (n:=5) []
theorem F138_call : eInv env (k + 1) (.func 138) #[] #[x0] h = F138 (eInv env k) k x0 h:=kq_inv F138_eq
/-- shadowbook/segment.words$2 -/
def F139 (inv : Inv) (k : Nat) (x0 : Value) (h : AH) : Option (Value × AH) :=
  bnd (pAlloc prog 39 h) fun x2 =>
  bnd (pBuild prog 39 #[(0,(.int .i64 3)),(2,x0)]) fun x4 =>
  bnd (kSt (pStore prog 39 x2.1 x4 x2.2)) fun u =>
  bnd (pLoad prog 39 x2.1 u.2) fun q0 =>
  some (q0,u.2)
theorem F139_eq : eFun env k inv 139 #[x0] h = F139 inv k x0 h:=ks_fun (n:=5) []
theorem F139_call : eInv env (k + 1) (.func 139) #[] #[x0] h = F139 (eInv env k) k x0 h:=kq_inv F139_eq
/-- shadowbook/segment.words$3 -/
def F140 (inv : Inv) (k : Nat) (x0 x1 : Value) (h : AH) : Option (Value × AH) :=
  bnd (pLen prog #[9] x1 h) fun x7 =>
  bnd (pConv prog 3 121 x7 h) fun x8 =>
  bnd (inv (.func 86) #[] #[x0,x8] h) fun x9 =>
  bnd (pAppend prog #[93,9] x9.1 x1 x9.2) fun x11 =>
  some (x11.1,x11.2)
theorem F140_eq : eFun env k inv 140 #[x0,x1] h = F140 inv k x0 x1 h:=ks_fun (n:=12) []
theorem F140_call : eInv env (k + 1) (.func 140) #[] #[x0,x1] h = F140 (eInv env k) k x0 x1 h:=kq_inv F140_eq
abbrev G141_2 {β : Type} (inv : Inv) (x0 x4 x5 : Value) (h : AH) (K : Value→AH→Option β) : Option β :=
  bnd (pBin prog .neq 28 (.tmp 12) (.const (.int .i64 0)) x5 (.int .i64 0)) fun x13 =>
  bnd (gd (some x13) false h (some (x4,h))) fun x15 =>
  bnd (gd (some x13) false x15.2 (lt (pBin prog .gtr 121 (.tmp 15) (.const (.int .u64 65536)) x15.1 (.int .u64 65536)) x15.2)) fun x16 =>
  bnd (pickV x13 (.bool true) x16.1) fun x17 =>
  K (x17) x16.2
/-- shadowbook/segment.words$4 -/
def F141 (inv : Inv) (k : Nat) (x0 : Value) (h : AH) : Option (Value × AH) :=
  bnd (inv (.func 142) #[] #[x0] h) fun x9 =>
  bnd (pExtract x9.1 0) fun x10 =>
  bnd (pExtract x9.1 1) fun x11 =>
  G141_2 inv x0 x10 x11 x9.2 fun y17 h =>
  brV y17
  (some (.tuple #[(.string { data:=#[] }),(.int .i64 4)],h))
  (bnd (pConv prog 121 3 x10 h) fun x21 =>
  bnd (inv (.func 99) #[] #[x0,x21] h) fun x22 =>
  bnd (pExtract x22.1 0) fun x23 =>
  bnd (pExtract x22.1 1) fun x24 =>
  bnd (pConv prog 93 9 x23 x22.2) fun x26 =>
  some (.tuple #[x26,x24],x22.2))
theorem F141_eq : eFun env k inv 141 #[x0] h = F141 inv k x0 h:=ks_fun (n:=28) []
theorem F141_call : eInv env (k + 1) (.func 141) #[] #[x0] h = F141 (eInv env k) k x0 h:=kq_inv F141_eq
abbrev G142_8 {β : Type} (inv : Inv) (x0 x2 x4 x5 x6 x12 x13 x14 : Value) (h : AH) (K : Value→AH→Option β) : Option β :=
  bnd (pBin prog .eql 3 (.tmp 24) (.const (.int .i64 9)) x4 (.int .i64 9)) fun x25 =>
  bnd (gd (some x25) true h (some (x6,h))) fun x27 =>
  bnd (gd (some x25) true x27.2 (lt (pBin prog .gtr 121 (.tmp 27) (.const (.int .u64 1)) x27.1 (.int .u64 1)) x27.2)) fun x28 =>
  bnd (pickV x25 x28.1 (.bool false)) fun x29 =>
  K (x29) x28.2
abbrev G142_11 {β : Type} (inv : Inv) (x0 x2 x4 x6 : Value) (h : AH) (K : Value→AH→Option β) : Option β :=
  bnd (pBin prog .eql 121 (.tmp 38) (.const (.int .u64 0)) x6 (.int .u64 0)) fun x39 =>
  bnd (gd (some x39) true h (some (x4,h))) fun x41 =>
  bnd (gd (some x39) true x41.2 (lt (pBin prog .gtr 3 (.tmp 41) (.const (.int .i64 0)) x41.1 (.int .i64 0)) x41.2)) fun x42 =>
  bnd (pickV x39 x42.1 (.bool false)) fun x43 =>
  K (x43) x42.2
abbrev G142_12 {β : Type} (inv : Inv) (x0 x2 x4 : Value) (h : AH) (K : AH→Option β) : Option β :=
  bnd (pNilCheck prog x0) fun x46 =>
  bnd (pFieldAddr prog 185 x46 0) fun x47 =>
  bnd (pLoad prog 93 x47 h) fun x48 =>
  bnd (pBin prog .add 3 (.tmp 49) (.const (.int .i64 1)) x4 (.int .i64 1)) fun x50 =>
  bnd (pSlice prog 93 x48 (some x50) none none h) fun x51 =>
  bnd (pNilCheck prog x0) fun x52 =>
  bnd (pFieldAddr prog 185 x52 0) fun x53 =>
  bnd (kSt (pStore prog 93 x53 x51 h)) fun u =>
  K u.2
def F142_lrlrr {β : Type} (inv : Inv) (k : Nat) : Nat→Value→Value→Value→Value→Value→AH→(Value→Value→Value→Value→Value→Value→Value→Value→Value→Value→Value→Value→AH→Option β)→(Value→Value→AH→Option β)→Option β
 | 0,_,_,_,_,_,_,_,_=>none
 | j + 1,x0,x2,x12,x13,x14,h,ke0,kr =>
  bnd (pBin prog .lss 3 (.tmp 14) (.tmp 13) x14 x13) fun x15 =>
  brV x15
  (bnd (pIndexAddr prog 93 x12 x14) fun x17 =>
  bnd (pLoad prog 5 x17 h) fun x18 =>
  bnd (pBin prog .eql 3 (.tmp 19) (.const (.int .i64 10)) x14 (.int .i64 10)) fun x20 =>
  brV x20
  (ke0 x0 x2 x14 x18 unk x12 x13 x14 unk x20 unk unk h)
  (bnd (pBin prog .andNot 5 (.tmp 21) (.const (.int .u8 128)) x18 (.int .u8 128)) fun x22 =>
  bnd (pConv prog 5 121 x22 h) fun x23 =>
  G142_8 inv x0 x2 x14 x18 x23 x12 x13 x14 h fun y29 h =>
  brV y29
  (ke0 x0 x2 x14 x18 x23 x12 x13 x14 unk unk y29 unk h)
  (bnd (pBin prog .mul 3 (.const (.int .i64 7)) (.tmp 32) (.int .i64 7) x14) fun x33 =>
  bnd (pBin prog .shl 121 (.tmp 31) (.tmp 33) x23 x33) fun x34 =>
  bnd (pBin prog .or 121 (.tmp 30) (.tmp 34) x2 x34) fun x35 =>
  bnd (pBin prog .geq 5 (.tmp 36) (.const (.int .u8 128)) x18 (.int .u8 128)) fun x37 =>
  brV x37
  (bnd (pBin prog .add 3 (.tmp 14) (.const (.int .i64 1)) x14 (.int .i64 1)) fun x55 =>
  F142_lrlrr inv k j x0 x35 x12 x13 x55 h ke0 kr)
  (G142_11 inv x0 x35 x14 x23 h fun y43 h_1 =>
  brV y43
  (ke0 x0 x35 x14 unk unk unk unk unk unk unk unk y43 h_1)
  (G142_12 inv x0 x35 x14 h_1 fun  h_2 =>
  kr x35 (.int .i64 0) h_2)))))
  (ke0 x0 x2 unk unk unk x12 x13 x14 x15 unk unk unk h)
def e142_0 : Ent env 142 false 58:=.lp [] 58 [0,2,12,13,14] [(.exit 0,[0,2,4,5,6,12,13,14,15,20,29,43]),(.ret,[2,3])] F142_lrlrr
def F142_rlrr {β : Type} (inv : Inv) (k : Nat) (x0 x2 x12 x13 x14 : Value) (h : AH) (kn : (Value→Value→Value→Value→Value→Value→Value→Value→Value→Value→Value→Value→AH→Option β)) (kr : (Value→Value→AH→Option β)) : Option β :=
  F142_lrlrr inv k k x0 x2 x12 x13 x14 h
  (fun y0 y2 y4 y5 y6 y12 y13 y14 y15 y20 y29 y43 h =>
  kn y0 y2 y4 y5 y6 y12 y13 y14 y15 y20 y29 y43 h)
  (fun y2_3 y3 h_4 =>
  kr y2_3 y3 h_4)
def e142_1 : Ent env 142 false 58:=.jn [e142_0] 29 [0,2,12,13,14] [(.normal,[0,2,4,5,6,12,13,14,15,20,29,43]),(.ret,[2,3])] F142_rlrr
/-- (*shadowbook/octet.Reader).Var -/
def F142 (inv : Inv) (k : Nat) (x0 : Value) (h : AH) : Option (Value × AH) :=
  bnd (pBin prog .eql 154 (.tmp 7) (.const (.pointer none)) x0 (.pointer none)) fun x8 =>
  brV x8
  (some (.tuple #[(.int .u64 0),(.int .i64 1)],h))
  (bnd (pNilCheck prog x0) fun x10 =>
  bnd (pFieldAddr prog 185 x10 0) fun x11 =>
  bnd (pLoad prog 93 x11 h) fun x12 =>
  bnd (pLen prog #[93] x12 h) fun x13 =>
  F142_rlrr inv k x0 (.int .u64 0) x12 x13 (.int .i64 0) h
  (fun y0 y2 y4 y5 y6 y12 y13 y14 y15 y20 y29 y43 h =>
  bnd (inv (.func 177) #[] #[y0] h) fun x57 =>
  brV x57.1
  (some (.tuple #[(.int .u64 0),(.int .i64 7)],x57.2))
  (some (.tuple #[(.int .u64 0),(.int .i64 4)],x57.2)))
  (fun y2_5 y3 h_6 =>
  some (.tuple #[y2_5,y3],h_6)))
theorem F142_eq : eFun env k inv 142 #[x0] h = F142 inv k x0 h:=ks_fun (n:=58) [e142_0,e142_1]
theorem F142_call : eInv env (k + 1) (.func 142) #[] #[x0] h = F142 (eInv env k) k x0 h:=kq_inv F142_eq
abbrev G143_5 {β : Type} (inv : Inv) (x4 x6 x7 : Value) (h : AH) (K : Value→AH→Option β) : Option β :=
  bnd (pBin prog .eql 28 (.tmp 21) (.const (.int .i64 0)) x7 (.int .i64 0)) fun x22 =>
  bnd (gd (some x22) true h (some (x6,h))) fun x24 =>
  bnd (gd (some x22) true x24.2 (lt (pLen prog #[93] x24.1 x24.2) x24.2)) fun x25 =>
  bnd (gd (some x22) true x25.2 (some (x4,x25.2))) fun x26 =>
  bnd (gd (some x22) true x26.2 (lt (pLen prog #[93] x26.1 x26.2) x26.2)) fun x27 =>
  bnd (gd (some x22) true x27.2 (lt (pBin prog .lss 3 (.tmp 25) (.tmp 27) x25.1 x27.1) x27.2)) fun x28 =>
  bnd (pickV x22 x28.1 (.bool false)) fun x29 =>
  K (x29) x28.2
/-- shadowbook/texts.Put -/
def F143 (inv : Inv) (k : Nat) (x0 : Value) (h : AH) : Option (Value × AH) :=
  bnd (inv (.func 178) #[] #[x0] h) fun x10 =>
  bnd (pExtract x10.1 0) fun x11 =>
  bnd (pExtract x10.1 1) fun x12 =>
  bnd (pBin prog .neq 28 (.tmp 13) (.const (.int .i64 0)) x12 (.int .i64 0)) fun x14 =>
  brV x14
  (some (.tuple #[(.slice none 0 0),x12],x10.2))
  (bnd (inv (.func 179) #[] #[x0] x10.2) fun x18 =>
  bnd (pExtract x18.1 0) fun x19 =>
  bnd (pExtract x18.1 1) fun x20 =>
  G143_5 inv x11 x19 x20 x18.2 fun y29 h =>
  brV y29
  (some (.tuple #[x19,(.int .i64 0)],h))
  (some (.tuple #[x11,(.int .i64 0)],h)))
theorem F143_eq : eFun env k inv 143 #[x0] h = F143 inv k x0 h:=ks_fun (n:=32) []
theorem F143_call : eInv env (k + 1) (.func 143) #[] #[x0] h = F143 (eInv env k) k x0 h:=kq_inv F143_eq
/-- shadowbook/segment.words$5 -/
def F144 (inv : Inv) (k : Nat) (x0 x1 : Value) (h : AH) : Option (Value × AH) :=
  bnd (inv (.func 145) #[] #[x0] h) fun x7 =>
  bnd (pExtract x7.1 0) fun x8 =>
  bnd (pExtract x7.1 1) fun x9 =>
  some (.tuple #[x8,x9],x7.2)
theorem F144_eq : eFun env k inv 144 #[x0,x1] h = F144 inv k x0 x1 h:=ks_fun (n:=10) []
theorem F144_call : eInv env (k + 1) (.func 144) #[] #[x0,x1] h = F144 (eInv env k) k x0 x1 h:=kq_inv F144_eq
abbrev G146_1 {β : Type} (inv : Inv) (x2 x3 : Value) (h : AH) (K : Value→AH→Option β) : Option β :=
  bnd (pFieldAddr prog 39 x2 0) fun x5 =>
  bnd (pLoad prog 3 x5 h) fun x6 =>
  bnd (pFieldAddr prog 39 x3 0) fun x7 =>
  bnd (pLoad prog 3 x7 h) fun x8 =>
  bnd (inv (.func 172) #[] #[x6,x8] h) fun x9 =>
  bnd (pFieldAddr prog 39 x2 1) fun x10 =>
  bnd (pLoad prog 2 x10 x9.2) fun x11 =>
  bnd (pFieldAddr prog 39 x3 1) fun x12 =>
  bnd (pLoad prog 2 x12 x9.2) fun x13 =>
  bnd (inv (.func 183) #[] #[x11,x13] x9.2) fun x14 =>
  bnd (pFieldAddr prog 39 x2 2) fun x15 =>
  bnd (pLoad prog 9 x15 x14.2) fun x16 =>
  bnd (pFieldAddr prog 39 x3 2) fun x17 =>
  bnd (pLoad prog 9 x17 x14.2) fun x18 =>
  bnd (inv (.func 184) #[] #[x16,x18] x14.2) fun x19 =>
  bnd (pBuildSlice prog 24 3 #[(0,x9.1),(1,x14.1),(2,x19.1)] x19.2) fun x20 =>
  bnd (inv (.func 182) #[] #[x20.1] x20.2) fun x21 =>
  chkK ((!true || !true || (sameO (pLoad prog 2 x10 h) x11 && sameO (pLoad prog 2 x10 x9.2) x11)) && ((!true || !true || (sameO (pLoad prog 2 x12 h) x13 && sameO (pLoad prog 2 x12 x9.2) x13)) && ((!true || !true || (sameO (pLoad prog 9 x15 h) x16 && sameO (pLoad prog 9 x15 x9.2) x16)) && ((!true || !true || (sameO (pLoad prog 9 x15 x9.2) x16 && sameO (pLoad prog 9 x15 x14.2) x16)) && ((!true || !true || (sameO (pLoad prog 9 x17 h) x18 && sameO (pLoad prog 9 x17 x9.2) x18)) && ((!true || !true || (sameO (pLoad prog 9 x17 x9.2) x18 && sameO (pLoad prog 9 x17 x14.2) x18)) && true)))))) <|
  K (x21.1) x21.2
/-- shadowbook/zone.Compare -/
def F146 (inv : Inv) (k : Nat) (x0 x1 : Value) (h : AH) : Option (Value × AH) :=
  bnd (pBox prog 39 x0 h) fun x2 =>
  bnd (pBox prog 39 x1 x2.2) fun x3 =>
  G146_1 inv x2.1 x3.1 x3.2 fun y4 h =>
  some (y4,h)
theorem F146_eq : eFun env k inv 146 #[x0,x1] h = F146 inv k x0 x1 h:=ks_fun (n:=22) []
theorem F146_call : eInv env (k + 1) (.func 146) #[] #[x0,x1] h = F146 (eInv env k) k x0 x1 h:=kq_inv F146_eq
def F147_rlr {β : Type} (inv : Inv) (k : Nat) (x0 x1 x10 : Value) (h : AH) (kn : (Value→Value→Value→AH→Option β)) : Option β :=
  brV x10
  (bnd (pMakeIface prog 9 (.string { data:=#[99,97,110,110,111,116,32,98,101,32,110,101,103,97,116,105,118,101] })) fun x11 =>
  bnd ((none : Option (Value × AH))) fun u =>
  kn x0 x1 unk u.2)
  (kn x0 x1 x10 h)
def e147_0 : Ent env 147 false 48:=.jn [] 13 [0,1,10] [(.normal,[0,1,10])] F147_rlr
abbrev G147_4 {β : Type} (inv : Inv) (x0 x5 x6 : Value) (h : AH) (K : Value→AH→Option β) : Option β :=
  bnd (pBin prog .gtr 101 (.tmp 21) (.const (.int .u64 0)) x5 (.int .u64 0)) fun x22 =>
  bnd (gd (some x22) false h (some (x6,h))) fun x24 =>
  bnd (gd (some x22) false x24.2 (lt (pBin prog .gtr 101 (.tmp 24) (.const (.int .u64 9223372036854775807)) x24.1 (.int .u64 9223372036854775807)) x24.2)) fun x25 =>
  bnd (pickV x22 (.bool true) x25.1) fun x26 =>
  K (x26) x25.2
def F147_rlrrr {β : Type} (inv : Inv) (k : Nat) (x0 x6 x26 : Value) (h : AH) (kn : (Value→Value→Value→AH→Option β)) : Option β :=
  brV x26
  (bnd (pMakeIface prog 9 (.string { data:=#[116,104,101,32,114,101,115,117,108,116,32,111,102,32,40,108,101,110,40,120,41,32,42,32,99,111,117,110,116,41,32,111,118,101,114,102,108,111,119,115] })) fun x27 =>
  bnd ((none : Option (Value × AH))) fun u =>
  kn x0 x6 unk u.2)
  (kn x0 x6 x26 h)
def e147_1 : Ent env 147 false 48:=.jn [e147_0] 61 [0,6,26] [(.normal,[0,6,26])] F147_rlrrr
def F147_llrrrrrr {β : Type} (inv : Inv) (k : Nat) : Nat→Value→Value→AH→(Value→Value→Value→AH→Option β)→Option β
 | 0,_,_,_,_=>none
 | j + 1,x7,x8,h,ke0 =>
  bnd (pLen prog #[92] x7 h) fun x36 =>
  bnd (pBin prog .lss 3 (.tmp 34) (.tmp 36) x8 x36) fun x37 =>
  brV x37
  (bnd (pSlice prog 92 x7 (some x8) none none h) fun x41 =>
  bnd (pSlice prog 92 x7 none (some x8) none h) fun x44 =>
  bnd (pCopy prog #[92,92] x41 x44 h) fun x45 =>
  bnd (pBin prog .add 3 (.tmp 38) (.tmp 45) x8 x45.1) fun x46 =>
  F147_llrrrrrr inv k j x7 x46 x45.2 ke0)
  (ke0 x7 x8 x37 h)
def e147_2 : Ent env 147 false 48:=.lp [e147_0,e147_1] 508 [7,8] [(.exit 0,[7,8,37])] F147_llrrrrrr
/-- slices.Repeat[[]bool,bool] -/
def F147 (inv : Inv) (k : Nat) (x0 x1 : Value) (h : AH) : Option (Value × AH) :=
  bnd (pBin prog .lss 3 (.tmp 9) (.const (.int .i64 0)) x1 (.int .i64 0)) fun x10 =>
  F147_rlr inv k x0 x1 x10 h
  (fun y0 y1 y10 h =>
  bnd (pLen prog #[92] y0 h) fun x14 =>
  bnd (pConv prog 3 101 x14 h) fun x15 =>
  bnd (pConv prog 3 101 y1 h) fun x17 =>
  bnd (inv (.func 185) #[] #[x15,x17] h) fun x18 =>
  bnd (pExtract x18.1 0) fun x19 =>
  bnd (pExtract x18.1 1) fun x20 =>
  G147_4 inv y0 x19 x20 x18.2 fun y26 h_1 =>
  F147_rlrrr inv k y0 x20 y26 h_1
  (fun y0_2 y6 y26_3 h_4 =>
  bnd (pConv prog 101 3 y6 h_4) fun x29 =>
  bnd (pMakeSlice prog 92 x29 x29 h_4) fun x30 =>
  bnd (pCopy prog #[92,92] x30.1 y0_2 x30.2) fun x33 =>
  F147_llrrrrrr inv k k x30.1 x33.1 x33.2
  (fun y7 y8 y37 h_5 =>
  some (y7,h_5))))
theorem F147_eq : eFun env k inv 147 #[x0,x1] h = F147 inv k x0 x1 h:=ks_fun (n:=48) [e147_0,e147_1,e147_2]
theorem F147_call : eInv env (k + 1) (.func 147) #[] #[x0,x1] h = F147 (eInv env k) k x0 x1 h:=kq_inv F147_eq
/-- bytes.Equal -/
def F148 (inv : Inv) (k : Nat) (x0 x1 : Value) (h : AH) : Option (Value × AH) :=
  bnd (pConv prog 93 9 x0 h) fun x6 =>
  bnd (pConv prog 93 9 x1 h) fun x8 =>
  bnd (pBin prog .eql 9 (.tmp 6) (.tmp 8) x6 x8) fun x9 =>
  some (x9,h)
theorem F148_eq : eFun env k inv 148 #[x0,x1] h = F148 inv k x0 x1 h:=ks_fun (n:=10) []
theorem F148_call : eInv env (k + 1) (.func 148) #[] #[x0,x1] h = F148 (eInv env k) k x0 x1 h:=kq_inv F148_eq
/-- slices.Clone[[]byte,byte] -/
def F149 (inv : Inv) (k : Nat) (x0 : Value) (h : AH) : Option (Value × AH) :=
  bnd (pBin prog .eql 93 (.tmp 3) (.const (.slice none 0 0)) x0 (.slice none 0 0)) fun x4 =>
  brV x4
  (some ((.slice none 0 0),h))
  (bnd (pBuildSlice prog 93 0 #[] h) fun x5 =>
  bnd (pAppend prog #[93,93] x5.1 x0 x5.2) fun x7 =>
  some (x7.1,x7.2))
theorem F149_eq : eFun env k inv 149 #[x0] h = F149 inv k x0 h:=ks_fun (n:=8) []
theorem F149_call : eInv env (k + 1) (.func 149) #[] #[x0] h = F149 (eInv env k) k x0 h:=kq_inv F149_eq
/-- (*shadowbook/octet.Reader).take -/
def F150 (inv : Inv) (k : Nat) (x0 x1 : Value) (h : AH) : Option (Value × AH) :=
  bnd (pNilCheck prog x0) fun x8 =>
  bnd (pFieldAddr prog 185 x8 0) fun x9 =>
  bnd (pLoad prog 93 x9 h) fun x10 =>
  bnd (pLen prog #[93] x10 h) fun x11 =>
  bnd (pBin prog .lss 3 (.tmp 11) (.tmp 12) x11 x1) fun x13 =>
  brV x13
  (some (.tuple #[(.slice none 0 0),(.int .i64 7)],h))
  (bnd (pNilCheck prog x0) fun x15 =>
  bnd (pFieldAddr prog 185 x15 0) fun x16 =>
  bnd (pLoad prog 93 x16 h) fun x17 =>
  bnd (pSlice prog 93 x17 none (some x1) (some x1) h) fun x20 =>
  bnd (pNilCheck prog x0) fun x23 =>
  bnd (pFieldAddr prog 185 x23 0) fun x24 =>
  bnd (pLoad prog 93 x24 h) fun x25 =>
  bnd (pSlice prog 93 x25 (some x1) none none h) fun x27 =>
  bnd (pNilCheck prog x0) fun x28 =>
  bnd (pFieldAddr prog 185 x28 0) fun x29 =>
  bnd (kSt (pStore prog 93 x29 x27 h)) fun u =>
  some (.tuple #[x20,(.int .i64 0)],u.2))
theorem F150_eq : eFun env k inv 150 #[x0,x1] h = F150 inv k x0 x1 h:=ks_fun (n:=31) []
theorem F150_call : eInv env (k + 1) (.func 150) #[] #[x0,x1] h = F150 (eInv env k) k x0 x1 h:=kq_inv F150_eq
def F167_rlr {β : Type} (inv : Inv) (k : Nat) (x0 x2 x4 : Value) (h : AH) (kn : (Value→Value→Value→AH→Option β)) : Option β :=
  brV x4
  (bnd (pBin prog .shr 121 (.tmp 5) (.const (.int .u64 32)) x0 (.int .u64 32)) fun x6 =>
  kn x6 (.int .i64 32) unk h)
  (kn x0 x2 x4 h)
def e167_0 : Ent env 167 false 25:=.jn [] 13 [0,2,4] [(.normal,[0,2,4])] F167_rlr
def F167_rlrr {β : Type} (inv : Inv) (k : Nat) (x0 x2 x8 : Value) (h : AH) (kn : (Value→Value→Value→AH→Option β)) : Option β :=
  brV x8
  (bnd (pBin prog .shr 121 (.tmp 9) (.const (.int .u64 16)) x0 (.int .u64 16)) fun x10 =>
  bnd (pBin prog .add 3 (.tmp 11) (.const (.int .i64 16)) x2 (.int .i64 16)) fun x12 =>
  kn x10 x12 unk h)
  (kn x0 x2 x8 h)
def e167_1 : Ent env 167 false 25:=.jn [e167_0] 29 [0,2,8] [(.normal,[0,2,8])] F167_rlrr
def F167_rlrrr {β : Type} (inv : Inv) (k : Nat) (x0 x2 x14 : Value) (h : AH) (kn : (Value→Value→Value→AH→Option β)) : Option β :=
  brV x14
  (bnd (pBin prog .shr 121 (.tmp 15) (.const (.int .u64 8)) x0 (.int .u64 8)) fun x16 =>
  bnd (pBin prog .add 3 (.tmp 17) (.const (.int .i64 8)) x2 (.int .i64 8)) fun x18 =>
  kn x16 x18 unk h)
  (kn x0 x2 x14 h)
def e167_2 : Ent env 167 false 25:=.jn [e167_0,e167_1] 61 [0,2,14] [(.normal,[0,2,14])] F167_rlrrr
abbrev G167_10 {β : Type} (inv : Inv) (x0 x2 : Value) (h : AH) (K : Value→AH→Option β) : Option β :=
  bnd (pConv prog 121 5 x0 h) fun x21 =>
  bnd (pIndex prog 9 (.string { data:=#[0,1,2,2,3,3,3,3,4,4,4,4,4,4,4,4,5,5,5,5,5,5,5,5,5,5,5,5,5,5,5,5,6,6,6,6,6,6,6,6,6,6,6,6,6,6,6,6,6,6,6,6,6,6,6,6,6,6,6,6,6,6,6,6,7,7,7,7,7,7,7,7,7,7,7,7,7,7,7,7,7,7,7,7,7,7,7,7,7,7,7,7,7,7,7,7,7,7,7,7,7,7,7,7,7,7,7,7,7,7,7,7,7,7,7,7,7,7,7,7,7,7,7,7,7,7,7,7,8,8,8,8,8,8,8,8,8,8,8,8,8,8,8,8,8,8,8,8,8,8,8,8,8,8,8,8,8,8,8,8,8,8,8,8,8,8,8,8,8,8,8,8,8,8,8,8,8,8,8,8,8,8,8,8,8,8,8,8,8,8,8,8,8,8,8,8,8,8,8,8,8,8,8,8,8,8,8,8,8,8,8,8,8,8,8,8,8,8,8,8,8,8,8,8,8,8,8,8,8,8,8,8,8,8,8,8,8,8,8,8,8,8,8,8,8,8,8,8,8,8,8,8,8,8,8,8] }) x21) fun x22 =>
  bnd (pConv prog 5 3 x22 h) fun x23 =>
  bnd (pBin prog .add 3 (.tmp 19) (.tmp 23) x2 x23) fun x24 =>
  K (x24) h
/-- math/bits.Len64 -/
def F167 (inv : Inv) (k : Nat) (x0 : Value) (h : AH) : Option (Value × AH) :=
  bnd (pBin prog .geq 121 (.tmp 3) (.const (.int .u64 4294967296)) x0 (.int .u64 4294967296)) fun x4 =>
  F167_rlr inv k x0 (.int .i64 0) x4 h
  (fun y0 y2 y4 h =>
  bnd (pBin prog .geq 121 (.tmp 7) (.const (.int .u64 65536)) y0 (.int .u64 65536)) fun x8 =>
  F167_rlrr inv k y0 y2 x8 h
  (fun y0_1 y2_2 y8 h_3 =>
  bnd (pBin prog .geq 121 (.tmp 13) (.const (.int .u64 256)) y0_1 (.int .u64 256)) fun x14 =>
  F167_rlrrr inv k y0_1 y2_2 x14 h_3
  (fun y0_4 y2_5 y14 h_6 =>
  G167_10 inv y0_4 y2_5 h_6 fun y2_7 h_8 =>
  some (y2_7,h_8))))
theorem F167_eq : eFun env k inv 167 #[x0] h = F167 inv k x0 h:=ks_fun (n:=25) [e167_0,e167_1,e167_2]
theorem F167_call : eInv env (k + 1) (.func 167) #[] #[x0] h = F167 (eInv env k) k x0 h:=kq_inv F167_eq
def c168 : Code:=codeOf prog 168
def F168_rlrr {β : Type} (inv : Inv) (k : Nat) (x2 x9 : Value) (h : AH) (kn : (Value→Value→AH→Option β)) : Option β :=
  kRange env 168 inv x9 (psOf (cp c168 58)) (cp c168 116) (cp c168 117) (act 18 [(2,x2),(9,x9)]) h fun e h=>sw e
  (kn x2 x9 h)
  none []
def e168_0 : Ent env 168 false 18:=.jn [] 29 [2,9] [(.normal,[2,9])] F168_rlrr
/-- shadowbook/octet.Of -/
def F168 (inv : Inv) (k : Nat) (x0 : Value) (h : AH) : Option (Value × AH) :=
  bnd (pAlloc prog 121 h) fun x2 =>
  bnd (pLen prog #[93] x0 x2.2) fun x6 =>
  bnd (pBin prog .gtr 3 (.tmp 6) (.const (.int .i64 8)) x6 (.int .i64 8)) fun x7 =>
  brV x7
  (bnd (kSt (pStore prog 121 x2.1 (.int .u64 0) x2.2)) fun u =>
  bnd (pLoad prog 121 x2.1 u.2) fun q0 =>
  some (q0,u.2))
  (bnd (inv (.func 191) #[] #[x0] x2.2) fun x9 =>
  F168_rlrr inv k x2.1 x9.1 x9.2
  (fun y2 y9 h =>
  bnd (pLoad prog 121 y2 h) fun x17 =>
  bnd (kSt (pStore prog 121 y2 x17 h)) fun u_1 =>
  bnd (pLoad prog 121 y2 u_1.2) fun q0 =>
  some (q0,u_1.2)))
theorem F168_eq : eFun env k inv 168 #[x0] h = F168 inv k x0 h:=ks_fun (n:=18) [e168_0]
theorem F168_call : eInv env (k + 1) (.func 168) #[] #[x0] h = F168 (eInv env k) k x0 h:=kq_inv F168_eq
def R168_lrlrr (inv : Inv) (k l : Nat) (x2 x9 z0 z1 : Value) (h : AH) : Option (Value × AH) :=
  rdBegin l h fun h =>
  bnd (pLoad prog 121 x2 h) fun x12 =>
  bnd (pBin prog .shl 121 (.tmp 12) (.const (.int .u64 8)) x12 (.int .u64 8)) fun x13 =>
  bnd (pConv prog 5 121 z1 h) fun x15 =>
  bnd (pBin prog .or 121 (.tmp 13) (.tmp 15) x13 x15) fun x16 =>
  bnd (kSt (pStore prog 121 x2 x16 h)) fun u =>
  rdEnd l .normal u.2
theorem R168_lrlrr_eq {l : Nat} {pd : Option Code} (hl : h.get l = some (.loop .ready pd 168 (act 18 [(2,x2),(9,x9)]).tmps (psOf (cp c168 58)) (cp c168 116) (cp c168 117))) : eRound env k inv l #[z0,z1] h = R168_lrlrr inv k l x2 x9 z0 z1 h:=ks_round (n:=18) [] 58 hl [(2,x2),(9,x9),(10,z0),(11,z1)]
abbrev G169_1 {β : Type} (inv : Inv) (h : AH) (K : Value→AH→Option β) : Option β :=
  bnd (pBuild prog 200 #[(0,(.int .u8 1)),(1,(.func (.func 192) #[] #[])),(2,(.func (.func 193) #[] #[]))]) fun x1 =>
  bnd (pBuild prog 200 #[(0,(.int .u8 2)),(1,(.func (.func 194) #[] #[])),(2,(.func (.func 195) #[] #[]))]) fun x2 =>
  bnd (pBuild prog 200 #[(0,(.int .u8 3)),(1,(.func (.func 196) #[] #[])),(2,(.func (.func 197) #[] #[]))]) fun x3 =>
  bnd (pBuildSlice prog 196 3 #[(0,x1),(1,x2),(2,x3)] h) fun x4 =>
  K (x4.1) x4.2
/-- shadowbook/ints.forms -/
def F169 (inv : Inv) (k : Nat) (h : AH) : Option (Value × AH) :=
  G169_1 inv  h fun y0 h =>
  some (y0,h)
theorem F169_eq : eFun env k inv 169 #[] h = F169 inv k  h:=ks_fun (n:=5) []
theorem F169_call : eInv env (k + 1) (.func 169) #[] #[] h = F169 (eInv env k) k  h:=kq_inv F169_eq
def F170_rlr {β : Type} (inv : Inv) (k : Nat) (x0 x1 x9 : Value) (h : AH) (kn : (Value→Value→Value→AH→Option β)) : Option β :=
  brV x9
  (bnd (pMakeIface prog 9 (.string { data:=#[115,108,105,99,101,115,46,77,105,110,70,117,110,99,58,32,101,109,112,116,121,32,108,105,115,116] })) fun x10 =>
  bnd ((none : Option (Value × AH))) fun u =>
  kn x0 x1 unk u.2)
  (kn x0 x1 x9 h)
def e170_0 : Ent env 170 false 33:=.jn [] 13 [0,1,9] [(.normal,[0,1,9])] F170_rlr
def F170_lrllrlrrr {β : Type} (inv : Inv) (k : Nat) (x0 x1 x5 x6 x17 : Value) (h : AH) (kn : (Value→Value→Value→Value→Value→AH→Option β)) : Option β :=
  bnd (pIndexAddr prog 195 x0 x6) fun x23 =>
  bnd (pLoad prog 93 x23 h) fun x24 =>
  bnd (callV inv x1 #[x24,x5] h) fun x26 =>
  bnd (pBin prog .lss 3 (.tmp 26) (.const (.int .i64 0)) x26.1 (.int .i64 0)) fun x27 =>
  brV x27
  (bnd (pIndexAddr prog 195 x0 x6) fun x30 =>
  bnd (pLoad prog 93 x30 x26.2) fun x31 =>
  kn x0 x1 x31 x6 unk x26.2)
  (kn x0 x1 x5 x6 x27 x26.2)
def e170_1 : Ent env 170 false 33:=.jn [e170_0] 978 [0,1,5,6,17] [(.normal,[0,1,5,6,27])] F170_lrllrlrrr
def F170_lrlrrr {β : Type} (inv : Inv) (k : Nat) : Nat→Value→Value→Value→Value→AH→(Value→Value→Value→Value→Value→AH→Option β)→Option β
 | 0,_,_,_,_,_,_=>none
 | j + 1,x0,x1,x5,x6,h,ke0 =>
  bnd (pLen prog #[195] x0 h) fun x16 =>
  bnd (pBin prog .lss 3 (.tmp 14) (.tmp 16) x6 x16) fun x17 =>
  brV x17
  (F170_lrllrlrrr inv k x0 x1 x5 x6 x17 h
  (fun y0 y1 y5 y6 y27 h =>
  bnd (pBin prog .add 3 (.tmp 18) (.const (.int .i64 1)) y6 (.int .i64 1)) fun x19 =>
  F170_lrlrrr inv k j y0 y1 y5 x19 h ke0))
  (ke0 x0 x1 x5 x6 x17 h)
def e170_2 : Ent env 170 false 33:=.lp [e170_0,e170_1] 122 [0,1,5,6] [(.exit 0,[0,1,5,6,17])] F170_lrlrrr
/-- slices.MinFunc[[][]byte,[]byte] -/
def F170 (inv : Inv) (k : Nat) (x0 x1 : Value) (h : AH) : Option (Value × AH) :=
  bnd (pLen prog #[195] x0 h) fun x8 =>
  bnd (pBin prog .lss 3 (.tmp 8) (.const (.int .i64 1)) x8 (.int .i64 1)) fun x9 =>
  F170_rlr inv k x0 x1 x9 h
  (fun y0 y1 y9 h =>
  bnd (pIndexAddr prog 195 y0 (.int .i64 0)) fun x12 =>
  bnd (pLoad prog 93 x12 h) fun x13 =>
  F170_lrlrrr inv k k y0 y1 x13 (.int .i64 1) h
  (fun y0_1 y1_2 y5 y6 y17 h_3 =>
  some (y5,h_3)))
theorem F170_eq : eFun env k inv 170 #[x0,x1] h = F170 inv k x0 x1 h:=ks_fun (n:=33) [e170_0,e170_1,e170_2]
theorem F170_call : eInv env (k + 1) (.func 170) #[] #[x0,x1] h = F170 (eInv env k) k x0 x1 h:=kq_inv F170_eq
/-- shadowbook/ints.Put$1 -/
def F171 (inv : Inv) (k : Nat) (x0 x1 : Value) (h : AH) : Option (Value × AH) :=
  bnd (pLen prog #[93] x0 h) fun x6 =>
  bnd (pLen prog #[93] x1 h) fun x8 =>
  bnd (inv (.func 172) #[] #[x6,x8] h) fun x9 =>
  some (x9.1,x9.2)
theorem F171_eq : eFun env k inv 171 #[x0,x1] h = F171 inv k x0 x1 h:=ks_fun (n:=10) []
theorem F171_call : eInv env (k + 1) (.func 171) #[] #[x0,x1] h = F171 (eInv env k) k x0 x1 h:=kq_inv F171_eq
/-- cmp.Compare[int] -/
def F172 (inv : Inv) (k : Nat) (x0 x1 : Value) (h : AH) : Option (Value × AH) :=
  bnd (inv (.func 198) #[] #[x0] h) fun x8 =>
  bnd (inv (.func 198) #[] #[x1] x8.2) fun x10 =>
  brV x8.1
  (brV x10.1
  (some ((.int .i64 0),x10.2))
  (some ((.int .i64 (-1)),x10.2)))
  (brV x10.1
  (some ((.int .i64 1),x10.2))
  (bnd (pBin prog .lss 3 (.tmp 14) (.tmp 15) x0 x1) fun x16 =>
  brV x16
  (some ((.int .i64 (-1)),x10.2))
  (bnd (pBin prog .gtr 3 (.tmp 17) (.tmp 18) x0 x1) fun x19 =>
  brV x19
  (some ((.int .i64 1),x10.2))
  (some ((.int .i64 0),x10.2)))))
theorem F172_eq : eFun env k inv 172 #[x0,x1] h = F172 inv k x0 x1 h:=ks_fun (n:=20) []
theorem F172_call : eInv env (k + 1) (.func 172) #[] #[x0,x1] h = F172 (eInv env k) k x0 x1 h:=kq_inv F172_eq
def F173_lrlr {β : Type} (inv : Inv) (k : Nat) : Nat→Value→Value→Value→Value→AH→(Value→Value→Value→Value→Value→AH→Option β)→(Value→AH→Option β)→Option β
 | 0,_,_,_,_,_,_,_=>none
 | j + 1,x0,x1,x7,x8,h,ke0,kr =>
  bnd (pBin prog .lss 3 (.tmp 8) (.tmp 7) x8 x7) fun x9 =>
  brV x9
  (bnd (pIndexAddr prog 196 x0 x8) fun x14 =>
  bnd (pLoad prog 200 x14 h) fun x15 =>
  bnd (callV inv x1 #[x15] h) fun x16 =>
  brV x16.1
  (kr x8 x16.2)
  (bnd (pBin prog .add 3 (.tmp 8) (.const (.int .i64 1)) x8 (.int .i64 1)) fun x18 =>
  F173_lrlr inv k j x0 x1 x7 x18 x16.2 ke0 kr))
  (ke0 x0 x1 x7 x8 x9 h)
def e173_0 : Ent env 173 false 19:=.lp [] 26 [0,1,7,8] [(.exit 0,[0,1,7,8,9]),(.ret,[4])] F173_lrlr
/-- slices.IndexFunc[[]shadowbook/ints.form,shadowbook/ints.form] -/
def F173 (inv : Inv) (k : Nat) (x0 x1 : Value) (h : AH) : Option (Value × AH) :=
  bnd (pLen prog #[196] x0 h) fun x7 =>
  F173_lrlr inv k k x0 x1 x7 (.int .i64 0) h
  (fun y0 y1 y7 y8 y9 h =>
  some ((.int .i64 (-1)),h))
  (fun y4 h_1 =>
  some (y4,h_1))
theorem F173_eq : eFun env k inv 173 #[x0,x1] h = F173 inv k x0 x1 h:=ks_fun (n:=19) [e173_0]
theorem F173_call : eInv env (k + 1) (.func 173) #[] #[x0,x1] h = F173 (eInv env k) k x0 x1 h:=kq_inv F173_eq
/-- shadowbook/ints.Get$1 -/
def F174 (inv : Inv) (k : Nat) (x0 x1 : Value) (h : AH) : Option (Value × AH) :=
  bnd (pBox prog 200 x0 h) fun x2 =>
  bnd (pFieldAddr prog 200 x2.1 0) fun x4 =>
  bnd (pLoad prog 5 x4 x2.2) fun x5 =>
  bnd (pConv prog 5 121 x5 x2.2) fun x6 =>
  bnd (pLoad prog 121 x1 x2.2) fun x7 =>
  bnd (pBin prog .eql 121 (.tmp 6) (.tmp 7) x6 x7) fun x8 =>
  some (x8,x2.2)
theorem F174_eq : eFun env k inv 174 #[x0,x1] h = F174 inv k x0 x1 h:=ks_fun (n:=9) []
theorem F174_call : eInv env (k + 1) (.func 174) #[] #[x0,x1] h = F174 (eInv env k) k x0 x1 h:=kq_inv F174_eq
abbrev G175_5 {β : Type} (inv : Inv) (x0 x1 x2 : Value) (h : AH) (K : Value→AH→Option β) : Option β :=
  bnd (pBin prog .mul 3 (.tmp 21) (.tmp 22) x1 x2) fun x23 =>
  bnd (pLen prog #[93] x0 h) fun x25 =>
  bnd (pBin prog .mul 3 (.const (.int .i64 8)) (.tmp 25) (.int .i64 8) x25) fun x26 =>
  bnd (pBin prog .mul 3 (.tmp 27) (.tmp 28) x1 x2) fun x29 =>
  bnd (pBin prog .sub 3 (.tmp 26) (.tmp 29) x26 x29) fun x30 =>
  bnd (inv (.func 199) #[] #[x0,x23,x30] h) fun x31 =>
  bnd (pBin prog .neq 121 (.tmp 31) (.const (.int .u64 0)) x31.1 (.int .u64 0)) fun x32 =>
  K (x32) x31.2
/-- shadowbook/packs.check -/
def F175 (inv : Inv) (k : Nat) (x0 x1 x2 : Value) (h : AH) : Option (Value × AH) :=
  bnd (inv (.func 118) #[] #[x1,x2] h) fun x10 =>
  bnd (pUn prog .not x10.1) fun x11 =>
  brV x11
  (some ((.int .i64 2),x10.2))
  (bnd (pLen prog #[93] x0 x10.2) fun x14 =>
  bnd (inv (.func 120) #[] #[x1,x2] x10.2) fun x17 =>
  bnd (pBin prog .neq 3 (.tmp 14) (.tmp 17) x14 x17.1) fun x18 =>
  brV x18
  (some ((.int .i64 4),x17.2))
  (G175_5 inv x0 x1 x2 x17.2 fun y19 h =>
  brV y19
  (some ((.int .i64 4),h))
  (some ((.int .i64 0),h))))
theorem F175_eq : eFun env k inv 175 #[x0,x1,x2] h = F175 inv k x0 x1 x2 h:=ks_fun (n:=33) []
theorem F175_call : eInv env (k + 1) (.func 175) #[] #[x0,x1,x2] h = F175 (eInv env k) k x0 x1 x2 h:=kq_inv F175_eq
/-- shadowbook/packs.Each -/
def F176 (inv : Inv) (k : Nat) (x0 x1 x2 : Value) (h : AH) : Option (Value × AH) :=
  bnd (pBox prog 93 x0 h) fun x3 =>
  bnd (pBox prog 3 x1 x3.2) fun x4 =>
  bnd (pBox prog 3 x2 x4.2) fun x5 =>
  bnd (pMakeFunc (.func 200) #[] #[x3.1,x4.1,x5.1]) fun x7 =>
  some (x7,x5.2)
theorem F176_eq : eFun env k inv 176 #[x0,x1,x2] h = F176 inv k x0 x1 x2 h:=ks_fun (n:=8) []
theorem F176_call : eInv env (k + 1) (.func 176) #[] #[x0,x1,x2] h = F176 (eInv env k) k x0 x1 x2 h:=kq_inv F176_eq
/-- (*shadowbook/octet.Reader).ends -/
def F177 (inv : Inv) (k : Nat) (x0 : Value) (h : AH) : Option (Value × AH) :=
  bnd (pNilCheck prog x0) fun x4 =>
  bnd (pFieldAddr prog 185 x4 0) fun x5 =>
  bnd (pLoad prog 93 x5 h) fun x6 =>
  bnd (pLen prog #[93] x6 h) fun x7 =>
  bnd (pBin prog .geq 3 (.tmp 7) (.const (.int .i64 10)) x7 (.int .i64 10)) fun x8 =>
  brV x8
  (some ((.bool false),h))
  (bnd (pNilCheck prog x0) fun x10 =>
  bnd (pFieldAddr prog 185 x10 0) fun x11 =>
  bnd (pLoad prog 93 x11 h) fun x12 =>
  bnd (inv (.func 201) #[] #[x12,(.func (.func 202) #[] #[])] h) fun x13 =>
  bnd (pUn prog .not x13.1) fun x14 =>
  some (x14,x13.2))
theorem F177_eq : eFun env k inv 177 #[x0] h = F177 inv k x0 h:=ks_fun (n:=15) []
theorem F177_call : eInv env (k + 1) (.func 177) #[] #[x0] h = F177 (eInv env k) k x0 h:=kq_inv F177_eq
def F178_lrlrrr {β : Type} (inv : Inv) (k : Nat) : Nat→Value→Value→Value→Value→AH→(Value→Value→Value→Value→Value→AH→Option β)→Option β
 | 0,_,_,_,_,_,_=>none
 | j + 1,x5,x18,x19,x20,h,ke0 =>
  bnd (pBin prog .lss 3 (.tmp 20) (.tmp 19) x20 x19) fun x21 =>
  brV x21
  (bnd (pIndexAddr prog 27 x18 x20) fun x22 =>
  bnd (pLoad prog 9 x22 h) fun x23 =>
  bnd (inv (.func 204) #[] #[x5,x23] h) fun x26 =>
  bnd (pBin prog .add 3 (.tmp 20) (.const (.int .i64 1)) x20 (.int .i64 1)) fun x27 =>
  F178_lrlrrr inv k j x26.1 x18 x19 x27 x26.2 ke0)
  (ke0 x5 x18 x19 x20 x21 h)
def e178_0 : Ent env 178 false 29:=.lp [] 122 [5,18,19,20] [(.exit 0,[5,18,19,20,21])] F178_lrlrrr
/-- shadowbook/texts.Plain -/
def F178 (inv : Inv) (k : Nat) (x0 : Value) (h : AH) : Option (Value × AH) :=
  bnd (inv (.func 203) #[] #[x0] h) fun x9 =>
  bnd (pBin prog .neq 28 (.tmp 10) (.const (.int .i64 0)) x9.1 (.int .i64 0)) fun x11 =>
  brV x11
  (some (.tuple #[(.slice none 0 0),x9.1],x9.2))
  (bnd (pBuildSlice prog 93 1 #[(0,(.int .u8 1))] x9.2) fun x13 =>
  bnd (pLen prog #[27] x0 x13.2) fun x15 =>
  bnd (pConv prog 3 121 x15 x13.2) fun x16 =>
  bnd (inv (.func 86) #[] #[x13.1,x16] x13.2) fun x17 =>
  bnd (pLen prog #[27] x0 x17.2) fun x19 =>
  F178_lrlrrr inv k k x17.1 x0 x19 (.int .i64 0) x17.2
  (fun y5 y18 y19 y20 y21 h =>
  some (.tuple #[y5,(.int .i64 0)],h)))
theorem F178_eq : eFun env k inv 178 #[x0] h = F178 inv k x0 h:=ks_fun (n:=29) [e178_0]
theorem F178_call : eInv env (k + 1) (.func 178) #[] #[x0] h = F178 (eInv env k) k x0 h:=kq_inv F178_eq
def F179_lrlrrrr {β : Type} (inv : Inv) (k : Nat) : Nat→Value→Value→Value→Value→Value→Value→AH→(Value→Value→Value→Value→Value→Value→Value→AH→Option β)→Option β
 | 0,_,_,_,_,_,_,_,_=>none
 | j + 1,x0,x5,x6,x33,x34,x35,h,ke0 =>
  bnd (pBin prog .lss 3 (.tmp 35) (.tmp 34) x35 x34) fun x36 =>
  brV x36
  (bnd (pIndexAddr prog 27 x33 x35) fun x37 =>
  bnd (pLoad prog 9 x37 h) fun x38 =>
  bnd (inv (.func 204) #[] #[x6,x38] h) fun x41 =>
  bnd (pBin prog .add 3 (.tmp 35) (.const (.int .i64 1)) x35 (.int .i64 1)) fun x42 =>
  F179_lrlrrrr inv k j x0 x5 x41.1 x33 x34 x42 x41.2 ke0)
  (ke0 x0 x5 x6 x33 x34 x35 x36 h)
def e179_0 : Ent env 179 false 79:=.lp [] 250 [0,5,6,33,34,35] [(.exit 0,[0,5,6,33,34,35,36])] F179_lrlrrrr
def F179_lrlrrrrrr {β : Type} (inv : Inv) (k : Nat) : Nat→Value→Value→Value→Value→Value→Value→AH→(Value→Value→Value→Value→Value→Value→Value→AH→Option β)→Option β
 | 0,_,_,_,_,_,_,_,_=>none
 | j + 1,x5,x6,x9,x43,x44,x45,h,ke2 =>
  bnd (pBin prog .lss 3 (.tmp 45) (.tmp 44) x45 x44) fun x46 =>
  brV x46
  (bnd (pIndexAddr prog 27 x43 x45) fun x47 =>
  bnd (pLoad prog 9 x47 h) fun x48 =>
  bnd (inv (.func 206) #[] #[x5,x48] h) fun x52 =>
  bnd (pExtract x52.1 0) fun x53 =>
  bnd (pExtract x52.1 1) fun x54 =>
  bnd (pConv prog 3 121 x53 x52.2) fun x57 =>
  bnd (pBuildSlice prog 124 1 #[(0,x57)] x52.2) fun x58 =>
  bnd (pAppend prog #[124,124] x9 x58.1 x58.2) fun x59 =>
  bnd (pBin prog .add 3 (.tmp 45) (.const (.int .i64 1)) x45 (.int .i64 1)) fun x60 =>
  F179_lrlrrrrrr inv k j x5 x6 x59.1 x43 x44 x60 x59.2 ke2)
  (ke2 x5 x6 x9 x43 x44 x45 x46 h)
def e179_1 : Ent env 179 false 79:=.lp [e179_0] 1018 [5,6,9,43,44,45] [(.exit 2,[5,6,9,43,44,45,46])] F179_lrlrrrrrr
/-- shadowbook/texts.Dict -/
def F179 (inv : Inv) (k : Nat) (x0 : Value) (h : AH) : Option (Value × AH) :=
  bnd (inv (.func 203) #[] #[x0] h) fun x18 =>
  bnd (pBin prog .neq 28 (.tmp 19) (.const (.int .i64 0)) x18.1 (.int .i64 0)) fun x20 =>
  brV x20
  (some (.tuple #[(.slice none 0 0),x18.1],x18.2))
  (bnd (inv (.func 205) #[] #[x0] x18.2) fun x23 =>
  bnd (pBuildSlice prog 93 1 #[(0,(.int .u8 2))] x23.2) fun x24 =>
  bnd (pLen prog #[27] x0 x24.2) fun x26 =>
  bnd (pConv prog 3 121 x26 x24.2) fun x27 =>
  bnd (inv (.func 86) #[] #[x24.1,x27] x24.2) fun x28 =>
  bnd (pLen prog #[27] x23.1 x28.2) fun x30 =>
  bnd (pConv prog 3 121 x30 x28.2) fun x31 =>
  bnd (inv (.func 86) #[] #[x28.1,x31] x28.2) fun x32 =>
  bnd (pLen prog #[27] x23.1 x32.2) fun x34 =>
  F179_lrlrrrr inv k k x0 x23.1 x32.1 x23.1 x34 (.int .i64 0) x32.2
  (fun y0 y5 y6 y33 y34 y35 y36 h =>
  bnd (pLen prog #[27] y0 h) fun x44 =>
  F179_lrlrrrrrr inv k k y5 y6 (.slice none 0 0) y0 x44 (.int .i64 0) h
  (fun y5_1 y6_2 y9 y43 y44 y45 y46 h_3 =>
  bnd (inv (.func 119) #[] #[y9] h_3) fun x62 =>
  bnd (inv (.func 88) #[] #[y9,x62.1] x62.2) fun x66 =>
  bnd (pExtract x66.1 0) fun x67 =>
  bnd (pExtract x66.1 1) fun x68 =>
  bnd (pBin prog .neq 28 (.tmp 69) (.const (.int .i64 0)) x68 (.int .i64 0)) fun x70 =>
  brV x70
  (some (.tuple #[(.slice none 0 0),x68],x66.2))
  (bnd (pConv prog 3 5 x62.1 x66.2) fun x74 =>
  bnd (pBuildSlice prog 93 1 #[(0,x74)] x66.2) fun x75 =>
  bnd (pAppend prog #[93,93] y6_2 x75.1 x75.2) fun x76 =>
  bnd (pAppend prog #[93,93] x76.1 x67 x76.2) fun x78 =>
  some (.tuple #[x78.1,(.int .i64 0)],x78.2)))))
theorem F179_eq : eFun env k inv 179 #[x0] h = F179 inv k x0 h:=ks_fun (n:=79) [e179_0,e179_1]
theorem F179_call : eInv env (k + 1) (.func 179) #[] #[x0] h = F179 (eInv env k) k x0 h:=kq_inv F179_eq
def F182_lrlrr {β : Type} (inv : Inv) (k : Nat) : Nat→Value→Value→Value→Value→AH→(Value→Value→Value→Value→Value→AH→Option β)→(Value→AH→Option β)→Option β
 | 0,_,_,_,_,_,_,_=>none
 | j + 1,x3,x6,x7,x8,h,ke0,kr =>
  bnd (pBin prog .lss 3 (.tmp 8) (.tmp 7) x8 x7) fun x9 =>
  brV x9
  (bnd (pIndexAddr prog 24 x6 x8) fun x10 =>
  bnd (pLoad prog 3 x10 h) fun x11 =>
  bnd (pBin prog .neq 3 (.tmp 12) (.tmp 13) x11 x3) fun x14 =>
  brV x14
  (kr x11 h)
  (bnd (pBin prog .add 3 (.tmp 8) (.const (.int .i64 1)) x8 (.int .i64 1)) fun x16 =>
  F182_lrlrr inv k j x3 x6 x7 x16 h ke0 kr))
  (ke0 x3 x6 x7 x8 x9 h)
def e182_0 : Ent env 182 false 18:=.lp [] 58 [3,6,7,8] [(.exit 0,[3,6,7,8,9]),(.ret,[2])] F182_lrlrr
/-- cmp.Or[int] -/
def F182 (inv : Inv) (k : Nat) (x0 : Value) (h : AH) : Option (Value × AH) :=
  bnd (pLen prog #[24] x0 h) fun x7 =>
  F182_lrlrr inv k k (.int .i64 0) x0 x7 (.int .i64 0) h
  (fun y3 y6 y7 y8 y9 h =>
  some (y3,h))
  (fun y2 h_1 =>
  some (y2,h_1))
theorem F182_eq : eFun env k inv 182 #[x0] h = F182 inv k x0 h:=ks_fun (n:=18) [e182_0]
theorem F182_call : eInv env (k + 1) (.func 182) #[] #[x0] h = F182 (eInv env k) k x0 h:=kq_inv F182_eq
/-- cmp.Compare[int64] -/
def F183 (inv : Inv) (k : Nat) (x0 x1 : Value) (h : AH) : Option (Value × AH) :=
  bnd (inv (.func 207) #[] #[x0] h) fun x8 =>
  bnd (inv (.func 207) #[] #[x1] x8.2) fun x10 =>
  brV x8.1
  (brV x10.1
  (some ((.int .i64 0),x10.2))
  (some ((.int .i64 (-1)),x10.2)))
  (brV x10.1
  (some ((.int .i64 1),x10.2))
  (bnd (pBin prog .lss 2 (.tmp 14) (.tmp 15) x0 x1) fun x16 =>
  brV x16
  (some ((.int .i64 (-1)),x10.2))
  (bnd (pBin prog .gtr 2 (.tmp 17) (.tmp 18) x0 x1) fun x19 =>
  brV x19
  (some ((.int .i64 1),x10.2))
  (some ((.int .i64 0),x10.2)))))
theorem F183_eq : eFun env k inv 183 #[x0,x1] h = F183 inv k x0 x1 h:=ks_fun (n:=20) []
theorem F183_call : eInv env (k + 1) (.func 183) #[] #[x0,x1] h = F183 (eInv env k) k x0 x1 h:=kq_inv F183_eq
/-- strings.Compare -/
def F184 (inv : Inv) (k : Nat) (x0 x1 : Value) (h : AH) : Option (Value × AH) :=
  bnd (inv (.func 208) #[] #[x0,x1] h) fun x7 =>
  some (x7.1,x7.2)
theorem F184_eq : eFun env k inv 184 #[x0,x1] h = F184 inv k x0 x1 h:=ks_fun (n:=8) []
theorem F184_call : eInv env (k + 1) (.func 184) #[] #[x0,x1] h = F184 (eInv env k) k x0 x1 h:=kq_inv F184_eq
/-- math/bits.Mul -/
def F185 (inv : Inv) (k : Nat) (x0 x1 : Value) (h : AH) : Option (Value × AH) :=
  brV (.bool false)
  (bnd (pConv prog 101 229 x0 h) fun x12 =>
  bnd (pConv prog 101 229 x1 h) fun x14 =>
  bnd (inv (.func 209) #[] #[x12,x14] h) fun x15 =>
  bnd (pExtract x15.1 0) fun x16 =>
  bnd (pExtract x15.1 1) fun x17 =>
  bnd (pConv prog 229 101 x16 x15.2) fun x19 =>
  bnd (pConv prog 229 101 x17 x15.2) fun x21 =>
  some (.tuple #[x19,x21],x15.2))
  (bnd (inv (.func 210) #[] #[x0,x1] h) fun x25 =>
  bnd (pExtract x25.1 0) fun x26 =>
  bnd (pExtract x25.1 1) fun x27 =>
  some (.tuple #[x26,x27],x25.2))
theorem F185_eq : eFun env k inv 185 #[x0,x1] h = F185 inv k x0 x1 h:=ks_fun (n:=30) []
theorem F185_call : eInv env (k + 1) (.func 185) #[] #[x0,x1] h = F185 (eInv env k) k x0 x1 h:=kq_inv F185_eq
/-- slices.Backward[[]byte,byte] -/
def F191 (inv : Inv) (k : Nat) (x0 : Value) (h : AH) : Option (Value × AH) :=
  bnd (pBox prog 93 x0 h) fun x1 =>
  bnd (pMakeFunc (.func 211) #[] #[x1.1]) fun x3 =>
  some (x3,x1.2)
theorem F191_eq : eFun env k inv 191 #[x0] h = F191 inv k x0 h:=ks_fun (n:=4) []
theorem F191_call : eInv env (k + 1) (.func 191) #[] #[x0] h = F191 (eInv env k) k x0 h:=kq_inv F191_eq
def F192_lrlrrr {β : Type} (inv : Inv) (k : Nat) : Nat→Value→Value→Value→Value→AH→(Value→Value→Value→Value→Value→AH→Option β)→Option β
 | 0,_,_,_,_,_,_=>none
 | j + 1,x4,x13,x14,x15,h,ke0 =>
  bnd (pBin prog .lss 3 (.tmp 15) (.tmp 14) x15 x14) fun x16 =>
  brV x16
  (bnd (pIndexAddr prog 163 x13 x15) fun x17 =>
  bnd (pLoad prog 2 x17 h) fun x18 =>
  bnd (pConv prog 2 121 x18 h) fun x21 =>
  bnd (inv (.func 125) #[] #[x4,x21,(.int .i64 8)] h) fun x22 =>
  bnd (pBin prog .add 3 (.tmp 15) (.const (.int .i64 1)) x15 (.int .i64 1)) fun x23 =>
  F192_lrlrrr inv k j x22.1 x13 x14 x23 x22.2 ke0)
  (ke0 x4 x13 x14 x15 x16 h)
def e192_0 : Ent env 192 false 25:=.lp [] 122 [4,13,14,15] [(.exit 0,[4,13,14,15,16])] F192_lrlrrr
/-- shadowbook/ints.Plain -/
def F192 (inv : Inv) (k : Nat) (x0 : Value) (h : AH) : Option (Value × AH) :=
  bnd (pLen prog #[163] x0 h) fun x8 =>
  bnd (pBin prog .gtr 3 (.tmp 8) (.const (.int .i64 4096)) x8 (.int .i64 4096)) fun x9 =>
  brV x9
  (some (.tuple #[(.slice none 0 0),(.int .i64 3)],h))
  (bnd (pLen prog #[163] x0 h) fun x11 =>
  bnd (inv (.func 212) #[] #[(.int .u8 1),x11] h) fun x12 =>
  bnd (pLen prog #[163] x0 x12.2) fun x14 =>
  F192_lrlrrr inv k k x12.1 x0 x14 (.int .i64 0) x12.2
  (fun y4 y13 y14 y15 y16 h =>
  some (.tuple #[y4,(.int .i64 0)],h)))
theorem F192_eq : eFun env k inv 192 #[x0] h = F192 inv k x0 h:=ks_fun (n:=25) [e192_0]
theorem F192_call : eInv env (k + 1) (.func 192) #[] #[x0] h = F192 (eInv env k) k x0 h:=kq_inv F192_eq
def F193_lrlr {β : Type} (inv : Inv) (k : Nat) : Nat→Value→Value→Value→Value→AH→(Value→Value→Value→Value→Value→AH→Option β)→(Value→Value→AH→Option β)→Option β
 | 0,_,_,_,_,_,_,_=>none
 | j + 1,x0,x4,x8,x9,h,ke0,kr =>
  bnd (pBin prog .lss 3 (.tmp 9) (.tmp 8) x9 x8) fun x10 =>
  brV x10
  (bnd (inv (.func 127) #[] #[x0,(.int .i64 8)] h) fun x13 =>
  bnd (pExtract x13.1 0) fun x14 =>
  bnd (pExtract x13.1 1) fun x15 =>
  bnd (pBin prog .neq 28 (.tmp 16) (.const (.int .i64 0)) x15 (.int .i64 0)) fun x17 =>
  brV x17
  (kr (.slice none 0 0) x15 x13.2)
  (bnd (pConv prog 121 2 x14 x13.2) fun x21 =>
  bnd (pBuildSlice prog 163 1 #[(0,x21)] x13.2) fun x22 =>
  bnd (pAppend prog #[163,163] x4 x22.1 x22.2) fun x23 =>
  bnd (pBin prog .add 3 (.tmp 9) (.const (.int .i64 1)) x9 (.int .i64 1)) fun x24 =>
  F193_lrlr inv k j x0 x23.1 x8 x24 x23.2 ke0 kr))
  (ke0 x0 x4 x8 x9 x10 h)
def e193_0 : Ent env 193 false 26:=.lp [] 26 [0,4,8,9] [(.exit 0,[0,4,8,9,10]),(.ret,[4,5])] F193_lrlr
/-- shadowbook/ints.plain -/
def F193 (inv : Inv) (k : Nat) (x0 x1 : Value) (h : AH) : Option (Value × AH) :=
  F193_lrlr inv k k x0 (.slice none 0 0) x1 (.int .i64 0) h
  (fun y0 y4 y8 y9 y10 h =>
  some (.tuple #[y4,(.int .i64 0)],h))
  (fun y4_1 y5 h_2 =>
  some (.tuple #[y4_1,y5],h_2))
theorem F193_eq : eFun env k inv 193 #[x0,x1] h = F193 inv k x0 x1 h:=ks_fun (n:=26) [e193_0]
theorem F193_call : eInv env (k + 1) (.func 193) #[] #[x0,x1] h = F193 (eInv env k) k x0 x1 h:=kq_inv F193_eq
abbrev G194_8 {β : Type} (inv : Inv) (x0 x4 x5 x6 x14 x15 : Value) (h : AH) (K : Value→AH→Option β) : Option β :=
  bnd (pBin prog .add 3 (.tmp 18) (.const (.int .i64 1)) x6 (.int .i64 1)) fun x19 =>
  bnd (pLen prog #[163] x0 h) fun x21 =>
  bnd (pBin prog .lss 3 (.tmp 19) (.tmp 21) x19 x21) fun x22 =>
  bnd (gd3 (some x22) true h (some (x0,h))) fun x24 =>
  bnd (gd3 (some x22) true x24.2.1 (some (x6,x24.2.1))) fun x25 =>
  bnd (gd3 (some x22) true x25.2.1 (lt (pBin prog .add 3 (.tmp 25) (.const (.int .i64 1)) x25.1 (.int .i64 1)) x25.2.1)) fun x26 =>
  bnd (gd3 (some x22) true x26.2.1 (lt (pIndexAddr prog 163 x24.1 x26.1) x26.2.1)) fun x27 =>
  bnd (gd3 (some x22) true x27.2.1 (lt (pLoad prog 2 x27.1 x27.2.1) x27.2.1)) fun x28 =>
  bnd (gd3 (some x22) true x28.2.1 (some (x0,x28.2.1))) fun x29 =>
  bnd (gd3 (some x22) true x29.2.1 (some (x5,x29.2.1))) fun x30 =>
  bnd (gd3 (some x22) true x30.2.1 (lt (pIndexAddr prog 163 x29.1 x30.1) x30.2.1)) fun x31 =>
  bnd (gd3 (some x22) true x31.2.1 (lt (pLoad prog 2 x31.1 x31.2.1) x31.2.1)) fun x32 =>
  bnd (gd3 (some x22) true x32.2.1 (lt (pBin prog .eql 2 (.tmp 28) (.tmp 32) x28.1 x32.1) x32.2.1)) fun x33 =>
  bnd (pickV x22 x33.1 (.bool false)) fun x34 =>
  K (x34) x33.2.1
abbrev G194_9 {β : Type} (inv : Inv) (x0 x4 x5 x6 x14 x15 : Value) (h : AH) (K : Value→AH→Option β) : Option β :=
  bnd (pBin prog .add 3 (.tmp 36) (.const (.int .i64 1)) x6 (.int .i64 1)) fun x37 =>
  bnd (pBin prog .sub 3 (.tmp 37) (.tmp 38) x37 x5) fun x39 =>
  bnd (pConv prog 3 121 x39 h) fun x40 =>
  bnd (inv (.func 86) #[] #[x4,x40] h) fun x41 =>
  bnd (pIndexAddr prog 163 x0 x6) fun x44 =>
  bnd (pLoad prog 2 x44 x41.2) fun x45 =>
  bnd (pConv prog 2 121 x45 x41.2) fun x46 =>
  bnd (inv (.func 125) #[] #[x41.1,x46,(.int .i64 8)] x41.2) fun x47 =>
  chkK ((!true || !true || (sameO (pLoad prog 2 x44 h) x45 && sameO (pLoad prog 2 x44 x41.2) x45)) && ((!true || !true || (sameO (pConv prog 2 121 x45 h) x46 && sameO (pConv prog 2 121 x45 x41.2) x46)) && true)) <|
  K (x47.1) x47.2
def F194_lrrllrlrrrrlr {β : Type} (inv : Inv) (k : Nat) (x0 x4 x5 x14 x15 x16 : Value) (h : AH) (kn : (Value→Value→Value→Value→Value→Value→Value→AH→Option β)) : Option β :=
  G194_8 inv x0 x4 x5 x15 x14 x15 h fun y34 h =>
  brV y34
  (kn x0 x4 x5 x15 x14 x15 y34 h)
  (G194_9 inv x0 x4 x5 x15 x14 x15 h fun y4 h_1 =>
  bnd (pBin prog .add 3 (.tmp 48) (.const (.int .i64 1)) x15 (.int .i64 1)) fun x49 =>
  kn x0 y4 x49 unk x14 x15 unk h_1)
def e194_0 : Ent env 194 false 52:=.jn [] 14246 [0,4,5,14,15,16] [(.normal,[0,4,5,6,14,15,34])] F194_lrrllrlrrrrlr
def F194_lrlrrrrlr {β : Type} (inv : Inv) (k : Nat) : Nat→Value→Value→Value→Value→Value→AH→(Value→Value→Value→Value→Value→Value→AH→Option β)→Option β
 | 0,_,_,_,_,_,_,_=>none
 | j + 1,x0,x4,x5,x14,x15,h,ke0 =>
  bnd (pBin prog .lss 3 (.tmp 15) (.tmp 14) x15 x14) fun x16 =>
  brV x16
  (F194_lrrllrlrrrrlr inv k x0 x4 x5 x14 x15 x16 h
  (fun y0 y4 y5 y6 y14 y15 y34 h =>
  bnd (pBin prog .add 3 (.tmp 15) (.const (.int .i64 1)) y15 (.int .i64 1)) fun x50 =>
  F194_lrlrrrrlr inv k j y0 y4 y5 y14 x50 h ke0))
  (ke0 x0 x4 x5 x14 x15 x16 h)
def e194_1 : Ent env 194 false 52:=.lp [e194_0] 890 [0,4,5,14,15] [(.exit 0,[0,4,5,14,15,16])] F194_lrlrrrrlr
/-- shadowbook/ints.Runs -/
def F194 (inv : Inv) (k : Nat) (x0 : Value) (h : AH) : Option (Value × AH) :=
  bnd (pLen prog #[163] x0 h) fun x8 =>
  bnd (pBin prog .gtr 3 (.tmp 8) (.const (.int .i64 4096)) x8 (.int .i64 4096)) fun x9 =>
  brV x9
  (some (.tuple #[(.slice none 0 0),(.int .i64 3)],h))
  (bnd (pLen prog #[163] x0 h) fun x11 =>
  bnd (inv (.func 212) #[] #[(.int .u8 2),x11] h) fun x12 =>
  bnd (pLen prog #[163] x0 x12.2) fun x14 =>
  F194_lrlrrrrlr inv k k x0 x12.1 (.int .i64 0) x14 (.int .i64 0) x12.2
  (fun y0 y4 y5 y14 y15 y16 h =>
  some (.tuple #[y4,(.int .i64 0)],h)))
theorem F194_eq : eFun env k inv 194 #[x0] h = F194 inv k x0 h:=ks_fun (n:=52) [e194_0,e194_1]
theorem F194_call : eInv env (k + 1) (.func 194) #[] #[x0] h = F194 (eInv env k) k x0 h:=kq_inv F194_eq
abbrev G195_6 {β : Type} (inv : Inv) (x0 x1 x4 x6 x7 x8 : Value) (h : AH) (K : Value→AH→Option β) : Option β :=
  bnd (pBin prog .neq 28 (.tmp 26) (.const (.int .i64 0)) x7 (.int .i64 0)) fun x27 =>
  bnd (gd (some x27) false h (some (x6,h))) fun x29 =>
  bnd (gd (some x27) false x29.2 (lt (pBin prog .lss 121 (.tmp 29) (.const (.int .u64 1)) x29.1 (.int .u64 1)) x29.2)) fun x30 =>
  bnd (pickV x27 (.bool true) x30.1) fun x31 =>
  bnd (gd (some x31) false x30.2 (some (x6,x30.2))) fun x33 =>
  bnd (gd (some x31) false x33.2 (some (x1,x33.2))) fun x34 =>
  bnd (gd (some x31) false x34.2 (some (x4,x34.2))) fun x35 =>
  bnd (gd (some x31) false x35.2 (lt (pLen prog #[163] x35.1 x35.2) x35.2)) fun x36 =>
  bnd (gd (some x31) false x36.2 (lt (pBin prog .sub 3 (.tmp 34) (.tmp 36) x34.1 x36.1) x36.2)) fun x37 =>
  bnd (gd (some x31) false x37.2 (lt (pConv prog 3 121 x37.1 x37.2) x37.2)) fun x38 =>
  bnd (gd (some x31) false x38.2 (lt (pBin prog .gtr 121 (.tmp 33) (.tmp 38) x33.1 x38.1) x38.2)) fun x39 =>
  bnd (pickV x31 (.bool true) x39.1) fun x40 =>
  K (x40) x39.2
def F195_llr {β : Type} (inv : Inv) (k : Nat) : Nat→Value→Value→Value→AH→(Value→Value→Value→Value→AH→Option β)→(Value→Value→AH→Option β)→Option β
 | 0,_,_,_,_,_,_=>none
 | j + 1,x0,x1,x4,h,ke0,kr =>
  bnd (pLen prog #[163] x4 h) fun x10 =>
  bnd (pBin prog .lss 3 (.tmp 10) (.tmp 11) x10 x1) fun x12 =>
  brV x12
  (bnd (inv (.func 142) #[] #[x0] h) fun x15 =>
  bnd (pExtract x15.1 0) fun x16 =>
  bnd (pExtract x15.1 1) fun x17 =>
  bnd (pBin prog .neq 28 (.tmp 18) (.const (.int .i64 0)) x17 (.int .i64 0)) fun x19 =>
  brV x19
  (kr (.slice none 0 0) x17 x15.2)
  (bnd (inv (.func 127) #[] #[x0,(.int .i64 8)] x15.2) fun x23 =>
  bnd (pExtract x23.1 0) fun x24 =>
  bnd (pExtract x23.1 1) fun x25 =>
  G195_6 inv x0 x1 x4 x16 x25 x24 x23.2 fun y40 h =>
  brV y40
  (kr (.slice none 0 0) (.int .i64 4) h)
  (bnd (pConv prog 121 2 x24 h) fun x43 =>
  bnd (pBuildSlice prog 163 1 #[(0,x43)] h) fun x44 =>
  bnd (pConv prog 121 3 x16 x44.2) fun x46 =>
  bnd (inv (.func 213) #[] #[x44.1,x46] x44.2) fun x47 =>
  bnd (pAppend prog #[163,163] x4 x47.1 x47.2) fun x48 =>
  F195_llr inv k j x0 x1 x48.1 x48.2 ke0 kr)))
  (ke0 x0 x1 x4 x12 h)
def e195_0 : Ent env 195 false 50:=.lp [] 12 [0,1,4] [(.exit 0,[0,1,4,12]),(.ret,[4,5])] F195_llr
/-- shadowbook/ints.runs -/
def F195 (inv : Inv) (k : Nat) (x0 x1 : Value) (h : AH) : Option (Value × AH) :=
  F195_llr inv k k x0 x1 (.slice none 0 0) h
  (fun y0 y1 y4 y12 h =>
  some (.tuple #[y4,(.int .i64 0)],h))
  (fun y4_1 y5 h_2 =>
  some (.tuple #[y4_1,y5],h_2))
theorem F195_eq : eFun env k inv 195 #[x0,x1] h = F195 inv k x0 x1 h:=ks_fun (n:=50) [e195_0]
theorem F195_call : eInv env (k + 1) (.func 195) #[] #[x0,x1] h = F195 (eInv env k) k x0 x1 h:=kq_inv F195_eq
def F196_rlrrr {β : Type} (inv : Inv) (k : Nat) (x0 x4 x17 : Value) (h : AH) (kn : (Value→Value→Value→AH→Option β)) : Option β :=
  brV x17
  (bnd (inv (.func 214) #[] #[x0] h) fun x19 =>
  kn x0 x19.1 unk x19.2)
  (kn x0 x4 x17 h)
def e196_0 : Ent env 196 false 59:=.jn [] 61 [0,4,17] [(.normal,[0,4,17])] F196_rlrrr
def F196_lrlrrrrr {β : Type} (inv : Inv) (k : Nat) : Nat→Value→Value→Value→Value→Value→Value→AH→(Value→Value→Value→Value→Value→Value→Value→AH→Option β)→Option β
 | 0,_,_,_,_,_,_,_,_=>none
 | j + 1,x0,x4,x5,x20,x21,x22,h,ke0 =>
  bnd (pBin prog .lss 3 (.tmp 22) (.tmp 21) x22 x21) fun x23 =>
  brV x23
  (bnd (pIndexAddr prog 163 x20 x22) fun x24 =>
  bnd (pLoad prog 2 x24 h) fun x25 =>
  bnd (pConv prog 2 121 x25 h) fun x28 =>
  bnd (pConv prog 2 121 x4 h) fun x30 =>
  bnd (pBin prog .sub 121 (.tmp 28) (.tmp 30) x28 x30) fun x31 =>
  bnd (pBuildSlice prog 124 1 #[(0,x31)] h) fun x32 =>
  bnd (pAppend prog #[124,124] x5 x32.1 x32.2) fun x33 =>
  bnd (pBin prog .add 3 (.tmp 22) (.const (.int .i64 1)) x22 (.int .i64 1)) fun x34 =>
  F196_lrlrrrrr inv k j x0 x4 x33.1 x20 x21 x34 x33.2 ke0)
  (ke0 x0 x4 x5 x20 x21 x22 x23 h)
def e196_1 : Ent env 196 false 59:=.lp [e196_0] 506 [0,4,5,20,21,22] [(.exit 0,[0,4,5,20,21,22,23])] F196_lrlrrrrr
/-- shadowbook/ints.Packed -/
def F196 (inv : Inv) (k : Nat) (x0 : Value) (h : AH) : Option (Value × AH) :=
  bnd (pLen prog #[163] x0 h) fun x13 =>
  bnd (pBin prog .gtr 3 (.tmp 13) (.const (.int .i64 4096)) x13 (.int .i64 4096)) fun x14 =>
  brV x14
  (some (.tuple #[(.slice none 0 0),(.int .i64 3)],h))
  (bnd (pLen prog #[163] x0 h) fun x16 =>
  bnd (pBin prog .gtr 3 (.tmp 16) (.const (.int .i64 0)) x16 (.int .i64 0)) fun x17 =>
  F196_rlrrr inv k x0 (.int .i64 0) x17 h
  (fun y0 y4 y17 h =>
  bnd (pLen prog #[163] y0 h) fun x21 =>
  F196_lrlrrrrr inv k k y0 y4 (.slice none 0 0) y0 x21 (.int .i64 0) h
  (fun y0_1 y4_2 y5 y20 y21 y22 y23 h_3 =>
  bnd (inv (.func 119) #[] #[y5] h_3) fun x36 =>
  bnd (inv (.func 88) #[] #[y5,x36.1] x36.2) fun x40 =>
  bnd (pExtract x40.1 0) fun x41 =>
  bnd (pExtract x40.1 1) fun x42 =>
  bnd (pBin prog .neq 28 (.tmp 43) (.const (.int .i64 0)) x42 (.int .i64 0)) fun x44 =>
  brV x44
  (some (.tuple #[(.slice none 0 0),x42],x40.2))
  (bnd (pLen prog #[163] y0_1 x40.2) fun x47 =>
  bnd (inv (.func 212) #[] #[(.int .u8 3),x47] x40.2) fun x48 =>
  bnd (pConv prog 2 121 y4_2 x48.2) fun x50 =>
  bnd (inv (.func 125) #[] #[x48.1,x50,(.int .i64 8)] x48.2) fun x51 =>
  bnd (pConv prog 3 5 x36.1 x51.2) fun x54 =>
  bnd (pBuildSlice prog 93 1 #[(0,x54)] x51.2) fun x55 =>
  bnd (pAppend prog #[93,93] x51.1 x55.1 x55.2) fun x56 =>
  bnd (pAppend prog #[93,93] x56.1 x41 x56.2) fun x58 =>
  some (.tuple #[x58.1,(.int .i64 0)],x58.2)))))
theorem F196_eq : eFun env k inv 196 #[x0] h = F196 inv k x0 h:=ks_fun (n:=59) [e196_0,e196_1]
theorem F196_call : eInv env (k + 1) (.func 196) #[] #[x0] h = F196 (eInv env k) k x0 h:=kq_inv F196_eq
def F197_lrlrrrrrrrr {β : Type} (inv : Inv) (k : Nat) : Nat→Value→Value→Value→Value→Value→Value→AH→(Value→Value→Value→Value→Value→Value→Value→AH→Option β)→Option β
 | 0,_,_,_,_,_,_,_,_=>none
 | j + 1,x4,x5,x6,x46,x47,x48,h,ke0 =>
  bnd (pBin prog .lss 3 (.tmp 48) (.tmp 47) x48 x47) fun x49 =>
  brV x49
  (bnd (pIndexAddr prog 124 x46 x48) fun x50 =>
  bnd (pLoad prog 121 x50 h) fun x51 =>
  bnd (pBin prog .add 121 (.tmp 53) (.tmp 54) x6 x51) fun x55 =>
  bnd (pConv prog 121 2 x55 h) fun x56 =>
  bnd (pBuildSlice prog 163 1 #[(0,x56)] h) fun x57 =>
  bnd (pAppend prog #[163,163] x4 x57.1 x57.2) fun x58 =>
  bnd (pBin prog .add 3 (.tmp 48) (.const (.int .i64 1)) x48 (.int .i64 1)) fun x59 =>
  F197_lrlrrrrrrrr inv k j x58.1 x5 x6 x46 x47 x59 x58.2 ke0)
  (ke0 x4 x5 x6 x46 x47 x48 x49 h)
def e197_0 : Ent env 197 false 62:=.lp [] 4090 [4,5,6,46,47,48] [(.exit 0,[4,5,6,46,47,48,49])] F197_lrlrrrrrrrr
/-- shadowbook/ints.packed -/
def F197 (inv : Inv) (k : Nat) (x0 x1 : Value) (h : AH) : Option (Value × AH) :=
  bnd (inv (.func 127) #[] #[x0,(.int .i64 8)] h) fun x14 =>
  bnd (pExtract x14.1 0) fun x15 =>
  bnd (pExtract x14.1 1) fun x16 =>
  bnd (pBin prog .neq 28 (.tmp 17) (.const (.int .i64 0)) x16 (.int .i64 0)) fun x18 =>
  brV x18
  (some (.tuple #[(.slice none 0 0),x16],x14.2))
  (bnd (inv (.func 127) #[] #[x0,(.int .i64 1)] x14.2) fun x22 =>
  bnd (pExtract x22.1 0) fun x23 =>
  bnd (pExtract x22.1 1) fun x24 =>
  bnd (pBin prog .neq 28 (.tmp 25) (.const (.int .i64 0)) x24 (.int .i64 0)) fun x26 =>
  brV x26
  (some (.tuple #[(.slice none 0 0),x24],x22.2))
  (bnd (inv (.func 100) #[] #[x0] x22.2) fun x31 =>
  bnd (inv (.func 99) #[] #[x0,x31.1] x31.2) fun x32 =>
  bnd (pExtract x32.1 0) fun x33 =>
  bnd (pExtract x32.1 1) fun x34 =>
  bnd (pBin prog .neq 28 (.tmp 35) (.const (.int .i64 0)) x34 (.int .i64 0)) fun x36 =>
  brV x36
  (some (.tuple #[(.slice none 0 0),x34],x32.2))
  (bnd (pConv prog 121 3 x23 x32.2) fun x42 =>
  bnd (inv (.func 137) #[] #[x33,x1,x42] x32.2) fun x43 =>
  bnd (pExtract x43.1 0) fun x44 =>
  bnd (pExtract x43.1 1) fun x45 =>
  bnd (pLen prog #[124] x44 x43.2) fun x47 =>
  F197_lrlrrrrrrrr inv k k (.slice none 0 0) x45 x15 x44 x47 (.int .i64 0) x43.2
  (fun y4 y5 y6 y46 y47 y48 y49 h =>
  some (.tuple #[y4,y5],h)))))
theorem F197_eq : eFun env k inv 197 #[x0,x1] h = F197 inv k x0 x1 h:=ks_fun (n:=62) [e197_0]
theorem F197_call : eInv env (k + 1) (.func 197) #[] #[x0,x1] h = F197 (eInv env k) k x0 x1 h:=kq_inv F197_eq
/-- cmp.isNaN[int] -/
def F198 (inv : Inv) (k : Nat) (x0 : Value) (h : AH) : Option (Value × AH) :=
  bnd (pBin prog .neq 3 (.tmp 3) (.tmp 4) x0 x0) fun x5 =>
  some (x5,h)
theorem F198_eq : eFun env k inv 198 #[x0] h = F198 inv k x0 h:=ks_fun (n:=6) []
theorem F198_call : eInv env (k + 1) (.func 198) #[] #[x0] h = F198 (eInv env k) k x0 h:=kq_inv F198_eq
abbrev G199_5 {β : Type} (inv : Inv) (x0 x1 x6 x7 x8 x9 x10 : Value) (h : AH) (K : Value→AH→Option β) : Option β :=
  bnd (pBin prog .quo 3 (.tmp 18) (.const (.int .i64 8)) x8 (.int .i64 8)) fun x19 =>
  bnd (pIndexAddr prog 93 x0 x19) fun x20 =>
  bnd (pLoad prog 5 x20 h) fun x21 =>
  bnd (pBin prog .rem 3 (.tmp 22) (.const (.int .i64 8)) x8 (.int .i64 8)) fun x23 =>
  bnd (pBin prog .shr 5 (.tmp 21) (.tmp 23) x21 x23) fun x24 =>
  bnd (pBin prog .and 5 (.tmp 24) (.const (.int .u8 1)) x24 (.int .u8 1)) fun x25 =>
  bnd (pConv prog 5 121 x25 h) fun x26 =>
  bnd (pBin prog .shl 121 (.tmp 26) (.tmp 27) x26 x7) fun x28 =>
  bnd (pBin prog .or 121 (.tmp 16) (.tmp 28) x6 x28) fun x29 =>
  K (x29) h
def F199_lrlr {β : Type} (inv : Inv) (k : Nat) : Nat→Value→Value→Value→Value→Value→AH→(Value→Value→Value→Value→Value→Value→AH→Option β)→Option β
 | 0,_,_,_,_,_,_,_=>none
 | j + 1,x0,x1,x6,x9,x10,h,ke0 =>
  bnd (pBin prog .lss 3 (.tmp 10) (.tmp 9) x10 x9) fun x11 =>
  brV x11
  (bnd (pBin prog .add 3 (.tmp 13) (.tmp 14) x1 x10) fun x15 =>
  G199_5 inv x0 x1 x6 x10 x15 x9 x10 h fun y6 h =>
  bnd (pBin prog .add 3 (.tmp 10) (.const (.int .i64 1)) x10 (.int .i64 1)) fun x30 =>
  F199_lrlr inv k j x0 x1 y6 x9 x30 h ke0)
  (ke0 x0 x1 x6 x9 x10 x11 h)
def e199_0 : Ent env 199 false 32:=.lp [] 26 [0,1,6,9,10] [(.exit 0,[0,1,6,9,10,11])] F199_lrlr
/-- shadowbook/packs.at -/
def F199 (inv : Inv) (k : Nat) (x0 x1 x2 : Value) (h : AH) : Option (Value × AH) :=
  F199_lrlr inv k k x0 x1 (.int .u64 0) x2 (.int .i64 0) h
  (fun y0 y1 y6 y9 y10 y11 h =>
  some (y6,h))
theorem F199_eq : eFun env k inv 199 #[x0,x1,x2] h = F199 inv k x0 x1 x2 h:=ks_fun (n:=32) [e199_0]
theorem F199_call : eInv env (k + 1) (.func 199) #[] #[x0,x1,x2] h = F199 (eInv env k) k x0 x1 x2 h:=kq_inv F199_eq
def F200_lrr {β : Type} (inv : Inv) (k : Nat) : Nat→Value→Value→Value→Value→Value→AH→(Value→Value→Value→Value→Value→Value→AH→Option β)→(Value→Value→Value→Value→Value→Value→AH→Option β)→Option β
 | 0,_,_,_,_,_,_,_,_=>none
 | j + 1,x0,x1,x3,x11,x12,h,ke0,kr =>
  bnd (pBin prog .lss 3 (.tmp 12) (.tmp 11) x12 x11) fun x13 =>
  brV x13
  (bnd (pLoad prog 93 x1 h) fun x17 =>
  bnd (pLoad prog 3 x3 h) fun x19 =>
  bnd (pBin prog .mul 3 (.tmp 18) (.tmp 19) x12 x19) fun x20 =>
  bnd (pLoad prog 3 x3 h) fun x21 =>
  bnd (inv (.func 199) #[] #[x17,x20,x21] h) fun x22 =>
  bnd (callV inv x0 #[x12,x22.1] x22.2) fun x23 =>
  bnd (pUn prog .not x23.1) fun x24 =>
  brV x24
  (kr x0 x1 x3 x11 x12 x24 x23.2)
  (bnd (pBin prog .add 3 (.tmp 12) (.const (.int .i64 1)) x12 (.int .i64 1)) fun x25 =>
  F200_lrr inv k j x0 x1 x3 x11 x25 x23.2 ke0 kr))
  (ke0 x0 x1 x3 x11 x12 x13 h)
def e200_0 : Ent env 200 false 26:=.lp [] 14 [0,1,3,11,12] [(.exit 0,[0,1,3,11,12,13]),(.ret,[0,1,3,11,12,24])] F200_lrr
/-- shadowbook/packs.Each$1 -/
def F200 (inv : Inv) (k : Nat) (x0 x1 x2 x3 : Value) (h : AH) : Option (Value × AH) :=
  bnd (pLoad prog 93 x1 h) fun x6 =>
  bnd (pLoad prog 3 x2 h) fun x7 =>
  bnd (pLoad prog 3 x3 h) fun x8 =>
  bnd (inv (.func 175) #[] #[x6,x7,x8] h) fun x9 =>
  bnd (pBin prog .neq 28 (.tmp 9) (.const (.int .i64 0)) x9.1 (.int .i64 0)) fun x10 =>
  brV x10
  (some (.tuple #[],x9.2))
  (bnd (pLoad prog 3 x2 x9.2) fun x11 =>
  F200_lrr inv k k x0 x1 x3 x11 (.int .i64 0) x9.2
  (fun y0 y1 y3 y11 y12 y13 h =>
  some (.tuple #[],h))
  (fun y0_1 y1_2 y3_3 y11_4 y12_5 y24 h_6 =>
  some (.tuple #[],h_6)))
theorem F200_eq : eFun env k inv 200 #[x0,x1,x2,x3] h = F200 inv k x0 x1 x2 x3 h:=ks_fun (n:=26) [e200_0]
theorem F200_call : eInv env (k + 1) (.func 200) #[] #[x0,x1,x2,x3] h = F200 (eInv env k) k x0 x1 x2 x3 h:=kq_inv F200_eq
/-- slices.ContainsFunc[[]byte,byte] -/
def F201 (inv : Inv) (k : Nat) (x0 x1 : Value) (h : AH) : Option (Value × AH) :=
  bnd (inv (.func 215) #[] #[x0,x1] h) fun x7 =>
  bnd (pBin prog .geq 3 (.tmp 7) (.const (.int .i64 0)) x7.1 (.int .i64 0)) fun x8 =>
  some (x8,x7.2)
theorem F201_eq : eFun env k inv 201 #[x0,x1] h = F201 inv k x0 x1 h:=ks_fun (n:=9) []
theorem F201_call : eInv env (k + 1) (.func 201) #[] #[x0,x1] h = F201 (eInv env k) k x0 x1 h:=kq_inv F201_eq
/-- (*shadowbook/octet.Reader).ends$1 -/
def F202 (inv : Inv) (k : Nat) (x0 : Value) (h : AH) : Option (Value × AH) :=
  bnd (pBin prog .lss 5 (.tmp 3) (.const (.int .u8 128)) x0 (.int .u8 128)) fun x4 =>
  some (x4,h)
theorem F202_eq : eFun env k inv 202 #[x0] h = F202 inv k x0 h:=ks_fun (n:=5) []
theorem F202_call : eInv env (k + 1) (.func 202) #[] #[x0] h = F202 (eInv env k) k x0 h:=kq_inv F202_eq
/-- shadowbook/texts.check -/
def F203 (inv : Inv) (k : Nat) (x0 : Value) (h : AH) : Option (Value × AH) :=
  bnd (pLen prog #[27] x0 h) fun x4 =>
  bnd (pBin prog .gtr 3 (.tmp 4) (.const (.int .i64 4096)) x4 (.int .i64 4096)) fun x5 =>
  bnd (gd (some x5) false h (some (x0,h))) fun x7 =>
  bnd (gd (some x5) false x7.2 (inv (.func 61) #[] #[x7.1,(.func (.func 216) #[] #[])] x7.2)) fun x8 =>
  bnd (pickV x5 (.bool true) x8.1) fun x9 =>
  brV x9
  (some ((.int .i64 3),x8.2))
  (some ((.int .i64 0),x8.2))
theorem F203_eq : eFun env k inv 203 #[x0] h = F203 inv k x0 h:=ks_fun (n:=10) []
theorem F203_call : eInv env (k + 1) (.func 203) #[] #[x0] h = F203 (eInv env k) k x0 h:=kq_inv F203_eq
/-- shadowbook/texts.text -/
def F204 (inv : Inv) (k : Nat) (x0 x1 : Value) (h : AH) : Option (Value × AH) :=
  bnd (pLen prog #[9] x1 h) fun x7 =>
  bnd (pConv prog 3 121 x7 h) fun x8 =>
  bnd (inv (.func 86) #[] #[x0,x8] h) fun x9 =>
  bnd (pAppend prog #[93,9] x9.1 x1 x9.2) fun x11 =>
  some (x11.1,x11.2)
theorem F204_eq : eFun env k inv 204 #[x0,x1] h = F204 inv k x0 x1 h:=ks_fun (n:=12) []
theorem F204_call : eInv env (k + 1) (.func 204) #[] #[x0,x1] h = F204 (eInv env k) k x0 x1 h:=kq_inv F204_eq
def F205_lrlrr {β : Type} (inv : Inv) (k : Nat) : Nat→Value→Value→Value→Value→AH→(Value→Value→Value→Value→Value→AH→Option β)→Option β
 | 0,_,_,_,_,_,_=>none
 | j + 1,x3,x7,x8,x9,h,ke0 =>
  bnd (pBin prog .lss 3 (.tmp 9) (.tmp 8) x9 x8) fun x10 =>
  brV x10
  (bnd (pIndexAddr prog 27 x7 x9) fun x11 =>
  bnd (pLoad prog 9 x11 h) fun x12 =>
  bnd (pBuild prog 239 #[]) fun x15 =>
  bnd (kSt (pUpdate prog 238 x3 x12 x15 h)) fun u =>
  bnd (pBin prog .add 3 (.tmp 9) (.const (.int .i64 1)) x9 (.int .i64 1)) fun x16 =>
  F205_lrlrr inv k j x3 x7 x8 x16 u.2 ke0)
  (ke0 x3 x7 x8 x9 x10 h)
def e205_0 : Ent env 205 false 20:=.lp [] 58 [3,7,8,9] [(.exit 0,[3,7,8,9,10])] F205_lrlrr
/-- shadowbook/texts.Words -/
def F205 (inv : Inv) (k : Nat) (x0 : Value) (h : AH) : Option (Value × AH) :=
  bnd (pMakeMap prog 238 none h) fun x6 =>
  bnd (pLen prog #[27] x0 x6.2) fun x8 =>
  F205_lrlrr inv k k x6.1 x0 x8 (.int .i64 0) x6.2
  (fun y3 y7 y8 y9 y10 h =>
  bnd (inv (.func 218) #[] #[y3] h) fun x18 =>
  bnd (inv (.func 217) #[] #[x18.1] x18.2) fun x19 =>
  some (x19.1,x19.2))
theorem F205_eq : eFun env k inv 205 #[x0] h = F205 inv k x0 h:=ks_fun (n:=20) [e205_0]
theorem F205_call : eInv env (k + 1) (.func 205) #[] #[x0] h = F205 (eInv env k) k x0 h:=kq_inv F205_eq
def F206_llrrr {β : Type} (inv : Inv) (k : Nat) : Nat→Value→Value→Value→Value→Value→AH→(Value→Value→Value→Value→Value→Value→AH→Option β)→Option β
 | 0,_,_,_,_,_,_,_=>none
 | j + 1,x0,x1,x6,x7,x8,h,ke0 =>
  bnd (pBin prog .lss 3 (.tmp 13) (.tmp 14) x7 x8) fun x15 =>
  brV x15
  (bnd (pBin prog .add 3 (.tmp 16) (.tmp 17) x7 x8) fun x18 =>
  bnd (pConv prog 3 101 x18 h) fun x19 =>
  bnd (pBin prog .shr 101 (.tmp 19) (.const (.int .u64 1)) x19 (.int .u64 1)) fun x20 =>
  bnd (pConv prog 101 3 x20 h) fun x21 =>
  bnd (pIndexAddr prog 27 x0 x21) fun x24 =>
  bnd (pLoad prog 9 x24 h) fun x25 =>
  bnd (inv (.func 219) #[] #[x25,x1] h) fun x27 =>
  brV x27.1
  (bnd (pBin prog .add 3 (.tmp 28) (.const (.int .i64 1)) x21 (.int .i64 1)) fun x29 =>
  F206_llrrr inv k j x0 x1 x6 x29 x8 x27.2 ke0)
  (F206_llrrr inv k j x0 x1 x6 x7 x21 x27.2 ke0))
  (ke0 x0 x1 x6 x7 x8 x15 h)
def e206_0 : Ent env 206 false 54:=.lp [] 60 [0,1,6,7,8] [(.exit 0,[0,1,6,7,8,15])] F206_llrrr
abbrev G206_8 {β : Type} (inv : Inv) (x0 x1 x6 x7 : Value) (h : AH) (K : Value→Value→AH→Option β) : Option β :=
  bnd (pBin prog .lss 3 (.tmp 32) (.tmp 33) x7 x6) fun x34 =>
  bnd (gd (some x34) true h (some (x0,h))) fun x36 =>
  bnd (gd (some x34) true x36.2 (some (x7,x36.2))) fun x37 =>
  bnd (gd (some x34) true x37.2 (lt (pIndexAddr prog 27 x36.1 x37.1) x37.2)) fun x38 =>
  bnd (gd (some x34) true x38.2 (lt (pLoad prog 9 x38.1 x38.2) x38.2)) fun x39 =>
  bnd (gd (some x34) true x39.2 (some (x1,x39.2))) fun x40 =>
  bnd (gd (some x34) true x40.2 (lt (pBin prog .eql 9 (.tmp 39) (.tmp 40) x39.1 x40.1) x40.2)) fun x41 =>
  bnd (gd (some x34) true x41.2 (some (x41.1,x41.2))) fun x42 =>
  bnd (gd (some x42.1) false x42.2 (some (x0,x42.2))) fun x43 =>
  bnd (gd (some x42.1) false x43.2 (some (x7,x43.2))) fun x44 =>
  bnd (gd (some x42.1) false x44.2 (lt (pIndexAddr prog 27 x43.1 x44.1) x44.2)) fun x45 =>
  bnd (gd (some x42.1) false x45.2 (lt (pLoad prog 9 x45.1 x45.2) x45.2)) fun x46 =>
  bnd (gd (some x42.1) false x46.2 (inv (.func 220) #[] #[x46.1] x46.2)) fun x47 =>
  bnd (gd (some x42.1) false x47.2 (some (x47.1,x47.2))) fun x48 =>
  bnd (gd (some x48.1) true x48.2 (some (x1,x48.2))) fun x49 =>
  bnd (gd (some x48.1) true x49.2 (inv (.func 220) #[] #[x49.1] x49.2)) fun x50 =>
  bnd (gd (some x42.1) false x50.2 (lt (pickV x48.1 x50.1 (.bool false)) x50.2)) fun x51 =>
  bnd (gd (some x34) true x51.2 (lt (pickV x42.1 (.bool true) x51.1) x51.2)) fun x52 =>
  bnd (pickV x34 x52.1 (.bool false)) fun x53 =>
  K (x7) (x53) x52.2
/-- slices.BinarySearch[[]string,string] -/
def F206 (inv : Inv) (k : Nat) (x0 x1 : Value) (h : AH) : Option (Value × AH) :=
  bnd (pLen prog #[27] x0 h) fun x11 =>
  F206_llrrr inv k k x0 x1 x11 (.int .i64 0) x11 h
  (fun y0 y1 y6 y7 y8 y15 h =>
  G206_8 inv y0 y1 y6 y7 h fun y4 y5 h_1 =>
  some (.tuple #[y4,y5],h_1))
theorem F206_eq : eFun env k inv 206 #[x0,x1] h = F206 inv k x0 x1 h:=ks_fun (n:=54) [e206_0]
theorem F206_call : eInv env (k + 1) (.func 206) #[] #[x0,x1] h = F206 (eInv env k) k x0 x1 h:=kq_inv F206_eq
/-- cmp.isNaN[int64] -/
def F207 (inv : Inv) (k : Nat) (x0 : Value) (h : AH) : Option (Value × AH) :=
  bnd (pBin prog .neq 2 (.tmp 3) (.tmp 4) x0 x0) fun x5 =>
  some (x5,h)
theorem F207_eq : eFun env k inv 207 #[x0] h = F207 inv k x0 h:=ks_fun (n:=6) []
theorem F207_call : eInv env (k + 1) (.func 207) #[] #[x0] h = F207 (eInv env k) k x0 h:=kq_inv F207_eq
/-- internal/bytealg.CompareString -/
def F208 (inv : Inv) (k : Nat) (x0 x1 : Value) (h : AH) : Option (Value × AH) :=
  bnd (inv (.func 221) #[] #[x0,x1] h) fun x7 =>
  some (x7.1,x7.2)
theorem F208_eq : eFun env k inv 208 #[x0,x1] h = F208 inv k x0 x1 h:=ks_fun (n:=8) []
theorem F208_call : eInv env (k + 1) (.func 208) #[] #[x0,x1] h = F208 (eInv env k) k x0 x1 h:=kq_inv F208_eq
abbrev G210_10 {β : Type} (inv : Inv) (x0 x1 x7 x9 x12 x13 : Value) (h : AH) (K : Value→AH→Option β) : Option β :=
  bnd (pBin prog .mul 121 (.tmp 40) (.tmp 41) x7 x9) fun x42 =>
  bnd (pBin prog .add 121 (.tmp 42) (.tmp 43) x42 x13) fun x44 =>
  bnd (pBin prog .shr 121 (.tmp 45) (.const (.int .u64 32)) x12 (.int .u64 32)) fun x46 =>
  bnd (pBin prog .add 121 (.tmp 44) (.tmp 46) x44 x46) fun x47 =>
  K (x47) h
/-- math/bits.Mul64 -/
def F210 (inv : Inv) (k : Nat) (x0 x1 : Value) (h : AH) : Option (Value × AH) :=
  bnd (pBin prog .and 121 (.tmp 14) (.const (.int .u64 4294967295)) x0 (.int .u64 4294967295)) fun x15 =>
  bnd (pBin prog .shr 121 (.tmp 16) (.const (.int .u64 32)) x0 (.int .u64 32)) fun x17 =>
  bnd (pBin prog .and 121 (.tmp 18) (.const (.int .u64 4294967295)) x1 (.int .u64 4294967295)) fun x19 =>
  bnd (pBin prog .shr 121 (.tmp 20) (.const (.int .u64 32)) x1 (.int .u64 32)) fun x21 =>
  bnd (pBin prog .mul 121 (.tmp 22) (.tmp 23) x15 x19) fun x24 =>
  bnd (pBin prog .mul 121 (.tmp 25) (.tmp 26) x17 x19) fun x27 =>
  bnd (pBin prog .shr 121 (.tmp 28) (.const (.int .u64 32)) x24 (.int .u64 32)) fun x29 =>
  bnd (pBin prog .add 121 (.tmp 27) (.tmp 29) x27 x29) fun x30 =>
  bnd (pBin prog .and 121 (.tmp 31) (.const (.int .u64 4294967295)) x30 (.int .u64 4294967295)) fun x32 =>
  bnd (pBin prog .shr 121 (.tmp 33) (.const (.int .u64 32)) x30 (.int .u64 32)) fun x34 =>
  bnd (pBin prog .mul 121 (.tmp 36) (.tmp 37) x15 x21) fun x38 =>
  bnd (pBin prog .add 121 (.tmp 35) (.tmp 38) x32 x38) fun x39 =>
  G210_10 inv x0 x1 x17 x21 x39 x34 h fun y4 h =>
  bnd (pBin prog .mul 121 (.tmp 48) (.tmp 49) x0 x1) fun x50 =>
  some (.tuple #[y4,x50],h)
theorem F210_eq : eFun env k inv 210 #[x0,x1] h = F210 inv k x0 x1 h:=ks_fun (n:=51) []
theorem F210_call : eInv env (k + 1) (.func 210) #[] #[x0,x1] h = F210 (eInv env k) k x0 x1 h:=kq_inv F210_eq
def F211_lr {β : Type} (inv : Inv) (k : Nat) : Nat→Value→Value→Value→AH→(Value→Value→Value→Value→AH→Option β)→(Value→Value→Value→Value→AH→Option β)→Option β
 | 0,_,_,_,_,_,_=>none
 | j + 1,x0,x1,x3,h,ke0,kr =>
  bnd (pBin prog .geq 3 (.tmp 7) (.const (.int .i64 0)) x3 (.int .i64 0)) fun x8 =>
  brV x8
  (bnd (pLoad prog 93 x1 h) fun x13 =>
  bnd (pIndexAddr prog 93 x13 x3) fun x15 =>
  bnd (pLoad prog 5 x15 h) fun x16 =>
  bnd (callV inv x0 #[x3,x16] h) fun x17 =>
  bnd (pUn prog .not x17.1) fun x18 =>
  brV x18
  (kr x0 x1 x3 x18 x17.2)
  (bnd (pBin prog .sub 3 (.tmp 9) (.const (.int .i64 1)) x3 (.int .i64 1)) fun x10 =>
  F211_lr inv k j x0 x1 x10 x17.2 ke0 kr))
  (ke0 x0 x1 x3 x8 h)
def e211_0 : Ent env 211 false 19:=.lp [] 6 [0,1,3] [(.exit 0,[0,1,3,8]),(.ret,[0,1,3,18])] F211_lr
/-- slices.Backward[[]byte,byte]$1 -/
def F211 (inv : Inv) (k : Nat) (x0 x1 : Value) (h : AH) : Option (Value × AH) :=
  bnd (pLoad prog 93 x1 h) fun x4 =>
  bnd (pLen prog #[93] x4 h) fun x5 =>
  bnd (pBin prog .sub 3 (.tmp 5) (.const (.int .i64 1)) x5 (.int .i64 1)) fun x6 =>
  F211_lr inv k k x0 x1 x6 h
  (fun y0 y1 y3 y8 h =>
  some (.tuple #[],h))
  (fun y0_1 y1_2 y3_3 y18 h_4 =>
  some (.tuple #[],h_4))
theorem F211_eq : eFun env k inv 211 #[x0,x1] h = F211 inv k x0 x1 h:=ks_fun (n:=19) [e211_0]
theorem F211_call : eInv env (k + 1) (.func 211) #[] #[x0,x1] h = F211 (eInv env k) k x0 x1 h:=kq_inv F211_eq
/-- shadowbook/ints.head -/
def F212 (inv : Inv) (k : Nat) (x0 x1 : Value) (h : AH) : Option (Value × AH) :=
  bnd (pBuildSlice prog 93 1 #[(0,x0)] h) fun x6 =>
  bnd (pConv prog 3 121 x1 x6.2) fun x8 =>
  bnd (inv (.func 86) #[] #[x6.1,x8] x6.2) fun x9 =>
  some (x9.1,x9.2)
theorem F212_eq : eFun env k inv 212 #[x0,x1] h = F212 inv k x0 x1 h:=ks_fun (n:=10) []
theorem F212_call : eInv env (k + 1) (.func 212) #[] #[x0,x1] h = F212 (eInv env k) k x0 x1 h:=kq_inv F212_eq
def F214_rlr {β : Type} (inv : Inv) (k : Nat) (x0 x7 : Value) (h : AH) (kn : (Value→Value→AH→Option β)) : Option β :=
  brV x7
  (bnd (pMakeIface prog 9 (.string { data:=#[115,108,105,99,101,115,46,77,105,110,58,32,101,109,112,116,121,32,108,105,115,116] })) fun x8 =>
  bnd ((none : Option (Value × AH))) fun u =>
  kn x0 unk u.2)
  (kn x0 x7 h)
def e214_0 : Ent env 214 false 25:=.jn [] 13 [0,7] [(.normal,[0,7])] F214_rlr
def F214_lrlrrr {β : Type} (inv : Inv) (k : Nat) : Nat→Value→Value→Value→AH→(Value→Value→Value→Value→AH→Option β)→Option β
 | 0,_,_,_,_,_=>none
 | j + 1,x0,x3,x4,h,ke0 =>
  bnd (pLen prog #[163] x0 h) fun x14 =>
  bnd (pBin prog .lss 3 (.tmp 12) (.tmp 14) x4 x14) fun x15 =>
  brV x15
  (bnd (pIndexAddr prog 163 x0 x4) fun x21 =>
  bnd (pLoad prog 2 x21 h) fun x22 =>
  bnd (pMinMax prog false #[x3,x22]) fun x23 =>
  bnd (pBin prog .add 3 (.tmp 16) (.const (.int .i64 1)) x4 (.int .i64 1)) fun x17 =>
  F214_lrlrrr inv k j x0 x23 x17 h ke0)
  (ke0 x0 x3 x4 x15 h)
def e214_1 : Ent env 214 false 25:=.lp [e214_0] 122 [0,3,4] [(.exit 0,[0,3,4,15])] F214_lrlrrr
/-- slices.Min[[]int64,int64] -/
def F214 (inv : Inv) (k : Nat) (x0 : Value) (h : AH) : Option (Value × AH) :=
  bnd (pLen prog #[163] x0 h) fun x6 =>
  bnd (pBin prog .lss 3 (.tmp 6) (.const (.int .i64 1)) x6 (.int .i64 1)) fun x7 =>
  F214_rlr inv k x0 x7 h
  (fun y0 y7 h =>
  bnd (pIndexAddr prog 163 y0 (.int .i64 0)) fun x10 =>
  bnd (pLoad prog 2 x10 h) fun x11 =>
  F214_lrlrrr inv k k y0 x11 (.int .i64 1) h
  (fun y0_1 y3 y4 y15 h_2 =>
  some (y3,h_2)))
theorem F214_eq : eFun env k inv 214 #[x0] h = F214 inv k x0 h:=ks_fun (n:=25) [e214_0,e214_1]
theorem F214_call : eInv env (k + 1) (.func 214) #[] #[x0] h = F214 (eInv env k) k x0 h:=kq_inv F214_eq
def F215_lrlr {β : Type} (inv : Inv) (k : Nat) : Nat→Value→Value→Value→Value→AH→(Value→Value→Value→Value→Value→AH→Option β)→(Value→AH→Option β)→Option β
 | 0,_,_,_,_,_,_,_=>none
 | j + 1,x0,x1,x7,x8,h,ke0,kr =>
  bnd (pBin prog .lss 3 (.tmp 8) (.tmp 7) x8 x7) fun x9 =>
  brV x9
  (bnd (pIndexAddr prog 93 x0 x8) fun x14 =>
  bnd (pLoad prog 5 x14 h) fun x15 =>
  bnd (callV inv x1 #[x15] h) fun x16 =>
  brV x16.1
  (kr x8 x16.2)
  (bnd (pBin prog .add 3 (.tmp 8) (.const (.int .i64 1)) x8 (.int .i64 1)) fun x18 =>
  F215_lrlr inv k j x0 x1 x7 x18 x16.2 ke0 kr))
  (ke0 x0 x1 x7 x8 x9 h)
def e215_0 : Ent env 215 false 19:=.lp [] 26 [0,1,7,8] [(.exit 0,[0,1,7,8,9]),(.ret,[4])] F215_lrlr
/-- slices.IndexFunc[[]byte,byte] -/
def F215 (inv : Inv) (k : Nat) (x0 x1 : Value) (h : AH) : Option (Value × AH) :=
  bnd (pLen prog #[93] x0 h) fun x7 =>
  F215_lrlr inv k k x0 x1 x7 (.int .i64 0) h
  (fun y0 y1 y7 y8 y9 h =>
  some ((.int .i64 (-1)),h))
  (fun y4 h_1 =>
  some (y4,h_1))
theorem F215_eq : eFun env k inv 215 #[x0,x1] h = F215 inv k x0 x1 h:=ks_fun (n:=19) [e215_0]
theorem F215_call : eInv env (k + 1) (.func 215) #[] #[x0,x1] h = F215 (eInv env k) k x0 x1 h:=kq_inv F215_eq
/-- shadowbook/texts.check$1 -/
def F216 (inv : Inv) (k : Nat) (x0 : Value) (h : AH) : Option (Value × AH) :=
  bnd (pLen prog #[9] x0 h) fun x4 =>
  bnd (pBin prog .gtr 3 (.tmp 4) (.const (.int .i64 65536)) x4 (.int .i64 65536)) fun x5 =>
  some (x5,h)
theorem F216_eq : eFun env k inv 216 #[x0] h = F216 inv k x0 h:=ks_fun (n:=6) []
theorem F216_call : eInv env (k + 1) (.func 216) #[] #[x0] h = F216 (eInv env k) k x0 h:=kq_inv F216_eq
/-- maps.Keys[map[string]struct{},string,struct{}] -/
def F218 (inv : Inv) (k : Nat) (x0 : Value) (h : AH) : Option (Value × AH) :=
  bnd (pBox prog 238 x0 h) fun x1 =>
  bnd (pMakeFunc (.func 224) #[] #[x1.1]) fun x3 =>
  some (x3,x1.2)
theorem F218_eq : eFun env k inv 218 #[x0] h = F218 inv k x0 h:=ks_fun (n:=4) []
theorem F218_call : eInv env (k + 1) (.func 218) #[] #[x0] h = F218 (eInv env k) k x0 h:=kq_inv F218_eq
abbrev G219_1 {β : Type} (inv : Inv) (x0 x1 : Value) (h : AH) (K : Value→AH→Option β) : Option β :=
  bnd (inv (.func 225) #[] #[x0] h) fun x6 =>
  bnd (gd (some x6.1) true x6.2 (some (x1,x6.2))) fun x8 =>
  bnd (gd (some x6.1) true x8.2 (inv (.func 225) #[] #[x8.1] x8.2)) fun x9 =>
  bnd (gd (some x6.1) true x9.2 (lt (pUn prog .not x9.1) x9.2)) fun x10 =>
  bnd (pickV x6.1 x10.1 (.bool false)) fun x11 =>
  bnd (gd (some x11) false x10.2 (some (x0,x10.2))) fun x13 =>
  bnd (gd (some x11) false x13.2 (some (x1,x13.2))) fun x14 =>
  bnd (gd (some x11) false x14.2 (lt (pBin prog .lss 9 (.tmp 13) (.tmp 14) x13.1 x14.1) x14.2)) fun x15 =>
  bnd (pickV x11 (.bool true) x15.1) fun x16 =>
  K (x16) x15.2
/-- cmp.Less[string] -/
def F219 (inv : Inv) (k : Nat) (x0 x1 : Value) (h : AH) : Option (Value × AH) :=
  G219_1 inv x0 x1 h fun y4 h =>
  some (y4,h)
theorem F219_eq : eFun env k inv 219 #[x0,x1] h = F219 inv k x0 x1 h:=ks_fun (n:=17) []
theorem F219_call : eInv env (k + 1) (.func 219) #[] #[x0,x1] h = F219 (eInv env k) k x0 x1 h:=kq_inv F219_eq
/-- cmp.isNaN[string] -/
def F225 (inv : Inv) (k : Nat) (x0 : Value) (h : AH) : Option (Value × AH) :=
  bnd (pBin prog .neq 9 (.tmp 3) (.tmp 4) x0 x0) fun x5 =>
  some (x5,h)
theorem F225_eq : eFun env k inv 225 #[x0] h = F225 inv k x0 h:=ks_fun (n:=6) []
theorem F225_call : eInv env (k + 1) (.func 225) #[] #[x0] h = F225 (eInv env k) k x0 h:=kq_inv F225_eq
def F260_lrlrr {β : Type} (inv : Inv) (k : Nat) : Nat→Value→Value→Value→Value→Value→AH→(Value→Value→Value→Value→Value→Value→AH→Option β)→Option β
 | 0,_,_,_,_,_,_,_=>none
 | j + 1,x2,x6,x9,x10,x11,h,ke0 =>
  bnd (pBin prog .lss 3 (.tmp 11) (.tmp 10) x11 x10) fun x12 =>
  brV x12
  (bnd (pIndexAddr prog 34 x9 x11) fun x13 =>
  bnd (pLoad prog 39 x13 h) fun x14 =>
  bnd (pAlloc prog 39 h) fun x8 =>
  bnd (kSt (pStore prog 39 x8.1 x14 x8.2)) fun u =>
  bnd (pFieldAddr prog 132 x2 0) fun x16 =>
  bnd (pLoad prog 126 x16 u.2) fun x17 =>
  bnd (pLoad prog 39 x8.1 u.2) fun x18 =>
  bnd (callV inv x17 #[x18] u.2) fun x19 =>
  bnd (pBuildSlice prog 163 1 #[(0,x19.1)] x19.2) fun x20 =>
  bnd (pAppend prog #[163,163] x6 x20.1 x20.2) fun x21 =>
  bnd (pBin prog .add 3 (.tmp 11) (.const (.int .i64 1)) x11 (.int .i64 1)) fun x22 =>
  F260_lrlrr inv k j x2 x21.1 x9 x10 x22 x21.2 ke0)
  (ke0 x2 x6 x9 x10 x11 x12 h)
def e260_0 : Ent env 260 false 29:=.lp [] 58 [2,6,9,10,11] [(.exit 0,[2,6,9,10,11,12])] F260_lrlrr
/-- (shadowbook/segment.codec[int64]).cells -/
def F260 (inv : Inv) (k : Nat) (x0 x1 : Value) (h : AH) : Option (Value × AH) :=
  bnd (pBox prog 132 x0 h) fun x2 =>
  bnd (pLen prog #[34] x1 x2.2) fun x10 =>
  F260_lrlrr inv k k x2.1 (.slice none 0 0) x1 x10 (.int .i64 0) x2.2
  (fun y2 y6 y9 y10 y11 y12 h =>
  bnd (pFieldAddr prog 132 y2 4) fun x23 =>
  bnd (pLoad prog 129 x23 h) fun x24 =>
  bnd (callV inv x24 #[y6] h) fun x26 =>
  bnd (pExtract x26.1 0) fun x27 =>
  bnd (pExtract x26.1 1) fun x28 =>
  some (.tuple #[x27,x28],x26.2))
theorem F260_eq : eFun env k inv 260 #[x0,x1] h = F260 inv k x0 x1 h:=ks_fun (n:=29) [e260_0]
theorem F260_call : eInv env (k + 1) (.func 260) #[] #[x0,x1] h = F260 (eInv env k) k x0 x1 h:=kq_inv F260_eq
abbrev G261_5 {β : Type} (inv : Inv) (x2 x4 x5 x6 x7 x8 : Value) (h : AH) (K : AH→Option β) : Option β :=
  bnd (pFieldAddr prog 132 x2 1) fun x28 =>
  bnd (pLoad prog 66 x28 h) fun x29 =>
  bnd (callV inv x29 #[x7] h) fun x31 =>
  bnd (pFieldAddr prog 132 x2 1) fun x32 =>
  bnd (pLoad prog 66 x32 x31.2) fun x33 =>
  bnd (callV inv x33 #[x8] x31.2) fun x35 =>
  bnd (kSt (pStore prog 39 x4 x31.1 x35.2)) fun u =>
  bnd (kSt (pStore prog 39 x5 x35.1 u.2)) fun u_3 =>
  chkK ((!true || !true || (sameO (pLoad prog 66 x32 h) x33 && sameO (pLoad prog 66 x32 x31.2) x33)) && true) <|
  K u_3.2
/-- (shadowbook/segment.codec[int64]).ends -/
def F261 (inv : Inv) (k : Nat) (x0 x1 : Value) (h : AH) : Option (Value × AH) :=
  bnd (pBox prog 132 x0 h) fun x2 =>
  bnd (pAlloc prog 39 x2.2) fun x4 =>
  bnd (pAlloc prog 39 x4.2) fun x5 =>
  bnd (pFieldAddr prog 132 x2.1 3) fun x10 =>
  bnd (pLoad prog 128 x10 x5.2) fun x11 =>
  bnd (callV inv x11 #[x1] x5.2) fun x13 =>
  bnd (pExtract x13.1 0) fun x14 =>
  bnd (pExtract x13.1 1) fun x15 =>
  bnd (pBin prog .neq 28 (.tmp 16) (.const (.int .i64 0)) x15 (.int .i64 0)) fun x17 =>
  brV x17
  (bnd (pLoad prog 39 x4.1 x13.2) fun x18 =>
  bnd (pLoad prog 39 x5.1 x13.2) fun x19 =>
  bnd (kSt (pStore prog 39 x4.1 x18 x13.2)) fun u =>
  bnd (kSt (pStore prog 39 x5.1 x19 u.2)) fun u_2 =>
  chkK ((!true || !true || (sameO (pLoad prog 39 x5.1 x13.2) x19 && sameO (pLoad prog 39 x5.1 u.2) x19)) && true) <|
  bnd (pLoad prog 39 x4.1 u_2.2) fun q0 =>
  bnd (pLoad prog 39 x5.1 u_2.2) fun q1 =>
  some (.tuple #[q0,q1,x15],u_2.2))
  (bnd (pFieldAddr prog 132 x2.1 3) fun x22 =>
  bnd (pLoad prog 128 x22 x13.2) fun x23 =>
  bnd (callV inv x23 #[x1] x13.2) fun x25 =>
  bnd (pExtract x25.1 0) fun x26 =>
  bnd (pExtract x25.1 1) fun x27 =>
  G261_5 inv x2.1 x4.1 x5.1 x27 x14 x26 x25.2 fun  h =>
  bnd (pLoad prog 39 x4.1 h) fun q0 =>
  bnd (pLoad prog 39 x5.1 h) fun q1 =>
  some (.tuple #[q0,q1,x27],h))
theorem F261_eq : eFun env k inv 261 #[x0,x1] h = F261 inv k x0 x1 h:=ks_fun (n:=37) []
theorem F261_call : eInv env (k + 1) (.func 261) #[] #[x0,x1] h = F261 (eInv env k) k x0 x1 h:=kq_inv F261_eq
abbrev G262_1 {β : Type} (inv : Inv) (x1 x3 x5 : Value) (h : AH) (K : Value→AH→Option β) : Option β :=
  bnd (pFieldAddr prog 132 x3 2) fun x7 =>
  bnd (pLoad prog 127 x7 h) fun x8 =>
  bnd (pFieldAddr prog 132 x3 2) fun x9 =>
  bnd (pLoad prog 127 x9 h) fun x10 =>
  bnd (pFieldAddr prog 132 x3 0) fun x12 =>
  bnd (pLoad prog 126 x12 h) fun x13 =>
  bnd (pFieldAddr prog 53 x5 2) fun x14 =>
  bnd (pLoad prog 39 x14 h) fun x15 =>
  bnd (callV inv x13 #[x15] h) fun x16 =>
  bnd (callV inv x10 #[x1,x16.1] x16.2) fun x17 =>
  bnd (pFieldAddr prog 132 x3 0) fun x18 =>
  bnd (pLoad prog 126 x18 x17.2) fun x19 =>
  bnd (pFieldAddr prog 53 x5 3) fun x20 =>
  bnd (pLoad prog 39 x20 x17.2) fun x21 =>
  bnd (callV inv x19 #[x21] x17.2) fun x22 =>
  bnd (callV inv x8 #[x17.1,x22.1] x22.2) fun x23 =>
  chkK ((!true || !true || (sameO (pLoad prog 127 x7 h) x8 && sameO (pLoad prog 127 x7 x16.2) x8)) && ((!true || !true || (sameO (pLoad prog 127 x7 x16.2) x8 && sameO (pLoad prog 127 x7 x17.2) x8)) && ((!true || !true || (sameO (pLoad prog 127 x7 x17.2) x8 && sameO (pLoad prog 127 x7 x22.2) x8)) && ((!true || !true || (sameO (pLoad prog 127 x9 h) x10 && sameO (pLoad prog 127 x9 x16.2) x10)) && ((!true || !true || (sameO (pLoad prog 126 x18 h) x19 && sameO (pLoad prog 126 x18 x16.2) x19)) && ((!true || !true || (sameO (pLoad prog 126 x18 x16.2) x19 && sameO (pLoad prog 126 x18 x17.2) x19)) && ((!true || !true || (sameO (pLoad prog 39 x20 h) x21 && sameO (pLoad prog 39 x20 x16.2) x21)) && ((!true || !true || (sameO (pLoad prog 39 x20 x16.2) x21 && sameO (pLoad prog 39 x20 x17.2) x21)) && true)))))))) <|
  K (x23.1) x23.2
/-- (shadowbook/segment.codec[int64]).zone -/
def F262 (inv : Inv) (k : Nat) (x0 x1 x2 : Value) (h : AH) : Option (Value × AH) :=
  bnd (pBox prog 132 x0 h) fun x3 =>
  bnd (pBox prog 53 x2 x3.2) fun x5 =>
  G262_1 inv x1 x3.1 x5.1 x5.2 fun y6 h =>
  some (y6,h)
theorem F262_eq : eFun env k inv 262 #[x0,x1,x2] h = F262 inv k x0 x1 x2 h:=ks_fun (n:=24) []
theorem F262_call : eInv env (k + 1) (.func 262) #[] #[x0,x1,x2] h = F262 (eInv env k) k x0 x1 x2 h:=kq_inv F262_eq
def F264_lrlrr {β : Type} (inv : Inv) (k : Nat) : Nat→Value→Value→Value→Value→Value→AH→(Value→Value→Value→Value→Value→Value→AH→Option β)→Option β
 | 0,_,_,_,_,_,_,_=>none
 | j + 1,x2,x6,x9,x10,x11,h,ke0 =>
  bnd (pBin prog .lss 3 (.tmp 11) (.tmp 10) x11 x10) fun x12 =>
  brV x12
  (bnd (pIndexAddr prog 34 x9 x11) fun x13 =>
  bnd (pLoad prog 39 x13 h) fun x14 =>
  bnd (pAlloc prog 39 h) fun x8 =>
  bnd (kSt (pStore prog 39 x8.1 x14 x8.2)) fun u =>
  bnd (pFieldAddr prog 140 x2 0) fun x16 =>
  bnd (pLoad prog 134 x16 u.2) fun x17 =>
  bnd (pLoad prog 39 x8.1 u.2) fun x18 =>
  bnd (callV inv x17 #[x18] u.2) fun x19 =>
  bnd (pBuildSlice prog 124 1 #[(0,x19.1)] x19.2) fun x20 =>
  bnd (pAppend prog #[124,124] x6 x20.1 x20.2) fun x21 =>
  bnd (pBin prog .add 3 (.tmp 11) (.const (.int .i64 1)) x11 (.int .i64 1)) fun x22 =>
  F264_lrlrr inv k j x2 x21.1 x9 x10 x22 x21.2 ke0)
  (ke0 x2 x6 x9 x10 x11 x12 h)
def e264_0 : Ent env 264 false 29:=.lp [] 58 [2,6,9,10,11] [(.exit 0,[2,6,9,10,11,12])] F264_lrlrr
/-- (shadowbook/segment.codec[uint64]).cells -/
def F264 (inv : Inv) (k : Nat) (x0 x1 : Value) (h : AH) : Option (Value × AH) :=
  bnd (pBox prog 140 x0 h) fun x2 =>
  bnd (pLen prog #[34] x1 x2.2) fun x10 =>
  F264_lrlrr inv k k x2.1 (.slice none 0 0) x1 x10 (.int .i64 0) x2.2
  (fun y2 y6 y9 y10 y11 y12 h =>
  bnd (pFieldAddr prog 140 y2 4) fun x23 =>
  bnd (pLoad prog 137 x23 h) fun x24 =>
  bnd (callV inv x24 #[y6] h) fun x26 =>
  bnd (pExtract x26.1 0) fun x27 =>
  bnd (pExtract x26.1 1) fun x28 =>
  some (.tuple #[x27,x28],x26.2))
theorem F264_eq : eFun env k inv 264 #[x0,x1] h = F264 inv k x0 x1 h:=ks_fun (n:=29) [e264_0]
theorem F264_call : eInv env (k + 1) (.func 264) #[] #[x0,x1] h = F264 (eInv env k) k x0 x1 h:=kq_inv F264_eq
abbrev G265_5 {β : Type} (inv : Inv) (x2 x4 x5 x6 x7 x8 : Value) (h : AH) (K : AH→Option β) : Option β :=
  bnd (pFieldAddr prog 140 x2 1) fun x28 =>
  bnd (pLoad prog 135 x28 h) fun x29 =>
  bnd (callV inv x29 #[x7] h) fun x31 =>
  bnd (pFieldAddr prog 140 x2 1) fun x32 =>
  bnd (pLoad prog 135 x32 x31.2) fun x33 =>
  bnd (callV inv x33 #[x8] x31.2) fun x35 =>
  bnd (kSt (pStore prog 39 x4 x31.1 x35.2)) fun u =>
  bnd (kSt (pStore prog 39 x5 x35.1 u.2)) fun u_3 =>
  chkK ((!true || !true || (sameO (pLoad prog 135 x32 h) x33 && sameO (pLoad prog 135 x32 x31.2) x33)) && true) <|
  K u_3.2
/-- (shadowbook/segment.codec[uint64]).ends -/
def F265 (inv : Inv) (k : Nat) (x0 x1 : Value) (h : AH) : Option (Value × AH) :=
  bnd (pBox prog 140 x0 h) fun x2 =>
  bnd (pAlloc prog 39 x2.2) fun x4 =>
  bnd (pAlloc prog 39 x4.2) fun x5 =>
  bnd (pFieldAddr prog 140 x2.1 3) fun x10 =>
  bnd (pLoad prog 136 x10 x5.2) fun x11 =>
  bnd (callV inv x11 #[x1] x5.2) fun x13 =>
  bnd (pExtract x13.1 0) fun x14 =>
  bnd (pExtract x13.1 1) fun x15 =>
  bnd (pBin prog .neq 28 (.tmp 16) (.const (.int .i64 0)) x15 (.int .i64 0)) fun x17 =>
  brV x17
  (bnd (pLoad prog 39 x4.1 x13.2) fun x18 =>
  bnd (pLoad prog 39 x5.1 x13.2) fun x19 =>
  bnd (kSt (pStore prog 39 x4.1 x18 x13.2)) fun u =>
  bnd (kSt (pStore prog 39 x5.1 x19 u.2)) fun u_2 =>
  chkK ((!true || !true || (sameO (pLoad prog 39 x5.1 x13.2) x19 && sameO (pLoad prog 39 x5.1 u.2) x19)) && true) <|
  bnd (pLoad prog 39 x4.1 u_2.2) fun q0 =>
  bnd (pLoad prog 39 x5.1 u_2.2) fun q1 =>
  some (.tuple #[q0,q1,x15],u_2.2))
  (bnd (pFieldAddr prog 140 x2.1 3) fun x22 =>
  bnd (pLoad prog 136 x22 x13.2) fun x23 =>
  bnd (callV inv x23 #[x1] x13.2) fun x25 =>
  bnd (pExtract x25.1 0) fun x26 =>
  bnd (pExtract x25.1 1) fun x27 =>
  G265_5 inv x2.1 x4.1 x5.1 x27 x14 x26 x25.2 fun  h =>
  bnd (pLoad prog 39 x4.1 h) fun q0 =>
  bnd (pLoad prog 39 x5.1 h) fun q1 =>
  some (.tuple #[q0,q1,x27],h))
theorem F265_eq : eFun env k inv 265 #[x0,x1] h = F265 inv k x0 x1 h:=ks_fun (n:=37) []
theorem F265_call : eInv env (k + 1) (.func 265) #[] #[x0,x1] h = F265 (eInv env k) k x0 x1 h:=kq_inv F265_eq
abbrev G266_1 {β : Type} (inv : Inv) (x1 x3 x5 : Value) (h : AH) (K : Value→AH→Option β) : Option β :=
  bnd (pFieldAddr prog 140 x3 2) fun x7 =>
  bnd (pLoad prog 120 x7 h) fun x8 =>
  bnd (pFieldAddr prog 140 x3 2) fun x9 =>
  bnd (pLoad prog 120 x9 h) fun x10 =>
  bnd (pFieldAddr prog 140 x3 0) fun x12 =>
  bnd (pLoad prog 134 x12 h) fun x13 =>
  bnd (pFieldAddr prog 53 x5 2) fun x14 =>
  bnd (pLoad prog 39 x14 h) fun x15 =>
  bnd (callV inv x13 #[x15] h) fun x16 =>
  bnd (callV inv x10 #[x1,x16.1] x16.2) fun x17 =>
  bnd (pFieldAddr prog 140 x3 0) fun x18 =>
  bnd (pLoad prog 134 x18 x17.2) fun x19 =>
  bnd (pFieldAddr prog 53 x5 3) fun x20 =>
  bnd (pLoad prog 39 x20 x17.2) fun x21 =>
  bnd (callV inv x19 #[x21] x17.2) fun x22 =>
  bnd (callV inv x8 #[x17.1,x22.1] x22.2) fun x23 =>
  chkK ((!true || !true || (sameO (pLoad prog 120 x7 h) x8 && sameO (pLoad prog 120 x7 x16.2) x8)) && ((!true || !true || (sameO (pLoad prog 120 x7 x16.2) x8 && sameO (pLoad prog 120 x7 x17.2) x8)) && ((!true || !true || (sameO (pLoad prog 120 x7 x17.2) x8 && sameO (pLoad prog 120 x7 x22.2) x8)) && ((!true || !true || (sameO (pLoad prog 120 x9 h) x10 && sameO (pLoad prog 120 x9 x16.2) x10)) && ((!true || !true || (sameO (pLoad prog 134 x18 h) x19 && sameO (pLoad prog 134 x18 x16.2) x19)) && ((!true || !true || (sameO (pLoad prog 134 x18 x16.2) x19 && sameO (pLoad prog 134 x18 x17.2) x19)) && ((!true || !true || (sameO (pLoad prog 39 x20 h) x21 && sameO (pLoad prog 39 x20 x16.2) x21)) && ((!true || !true || (sameO (pLoad prog 39 x20 x16.2) x21 && sameO (pLoad prog 39 x20 x17.2) x21)) && true)))))))) <|
  K (x23.1) x23.2
/-- (shadowbook/segment.codec[uint64]).zone -/
def F266 (inv : Inv) (k : Nat) (x0 x1 x2 : Value) (h : AH) : Option (Value × AH) :=
  bnd (pBox prog 140 x0 h) fun x3 =>
  bnd (pBox prog 53 x2 x3.2) fun x5 =>
  G266_1 inv x1 x3.1 x5.1 x5.2 fun y6 h =>
  some (y6,h)
theorem F266_eq : eFun env k inv 266 #[x0,x1,x2] h = F266 inv k x0 x1 x2 h:=ks_fun (n:=24) []
theorem F266_call : eInv env (k + 1) (.func 266) #[] #[x0,x1,x2] h = F266 (eInv env k) k x0 x1 x2 h:=kq_inv F266_eq
def F268_lrlrr {β : Type} (inv : Inv) (k : Nat) : Nat→Value→Value→Value→Value→Value→AH→(Value→Value→Value→Value→Value→Value→AH→Option β)→Option β
 | 0,_,_,_,_,_,_,_=>none
 | j + 1,x2,x6,x9,x10,x11,h,ke0 =>
  bnd (pBin prog .lss 3 (.tmp 11) (.tmp 10) x11 x10) fun x12 =>
  brV x12
  (bnd (pIndexAddr prog 34 x9 x11) fun x13 =>
  bnd (pLoad prog 39 x13 h) fun x14 =>
  bnd (pAlloc prog 39 h) fun x8 =>
  bnd (kSt (pStore prog 39 x8.1 x14 x8.2)) fun u =>
  bnd (pFieldAddr prog 148 x2 0) fun x16 =>
  bnd (pLoad prog 142 x16 u.2) fun x17 =>
  bnd (pLoad prog 39 x8.1 u.2) fun x18 =>
  bnd (callV inv x17 #[x18] u.2) fun x19 =>
  bnd (pBuildSlice prog 27 1 #[(0,x19.1)] x19.2) fun x20 =>
  bnd (pAppend prog #[27,27] x6 x20.1 x20.2) fun x21 =>
  bnd (pBin prog .add 3 (.tmp 11) (.const (.int .i64 1)) x11 (.int .i64 1)) fun x22 =>
  F268_lrlrr inv k j x2 x21.1 x9 x10 x22 x21.2 ke0)
  (ke0 x2 x6 x9 x10 x11 x12 h)
def e268_0 : Ent env 268 false 29:=.lp [] 58 [2,6,9,10,11] [(.exit 0,[2,6,9,10,11,12])] F268_lrlrr
/-- (shadowbook/segment.codec[string]).cells -/
def F268 (inv : Inv) (k : Nat) (x0 x1 : Value) (h : AH) : Option (Value × AH) :=
  bnd (pBox prog 148 x0 h) fun x2 =>
  bnd (pLen prog #[34] x1 x2.2) fun x10 =>
  F268_lrlrr inv k k x2.1 (.slice none 0 0) x1 x10 (.int .i64 0) x2.2
  (fun y2 y6 y9 y10 y11 y12 h =>
  bnd (pFieldAddr prog 148 y2 4) fun x23 =>
  bnd (pLoad prog 145 x23 h) fun x24 =>
  bnd (callV inv x24 #[y6] h) fun x26 =>
  bnd (pExtract x26.1 0) fun x27 =>
  bnd (pExtract x26.1 1) fun x28 =>
  some (.tuple #[x27,x28],x26.2))
theorem F268_eq : eFun env k inv 268 #[x0,x1] h = F268 inv k x0 x1 h:=ks_fun (n:=29) [e268_0]
theorem F268_call : eInv env (k + 1) (.func 268) #[] #[x0,x1] h = F268 (eInv env k) k x0 x1 h:=kq_inv F268_eq
abbrev G269_5 {β : Type} (inv : Inv) (x2 x4 x5 x6 x7 x8 : Value) (h : AH) (K : AH→Option β) : Option β :=
  bnd (pFieldAddr prog 148 x2 1) fun x28 =>
  bnd (pLoad prog 117 x28 h) fun x29 =>
  bnd (callV inv x29 #[x7] h) fun x31 =>
  bnd (pFieldAddr prog 148 x2 1) fun x32 =>
  bnd (pLoad prog 117 x32 x31.2) fun x33 =>
  bnd (callV inv x33 #[x8] x31.2) fun x35 =>
  bnd (kSt (pStore prog 39 x4 x31.1 x35.2)) fun u =>
  bnd (kSt (pStore prog 39 x5 x35.1 u.2)) fun u_3 =>
  chkK ((!true || !true || (sameO (pLoad prog 117 x32 h) x33 && sameO (pLoad prog 117 x32 x31.2) x33)) && true) <|
  K u_3.2
/-- (shadowbook/segment.codec[string]).ends -/
def F269 (inv : Inv) (k : Nat) (x0 x1 : Value) (h : AH) : Option (Value × AH) :=
  bnd (pBox prog 148 x0 h) fun x2 =>
  bnd (pAlloc prog 39 x2.2) fun x4 =>
  bnd (pAlloc prog 39 x4.2) fun x5 =>
  bnd (pFieldAddr prog 148 x2.1 3) fun x10 =>
  bnd (pLoad prog 144 x10 x5.2) fun x11 =>
  bnd (callV inv x11 #[x1] x5.2) fun x13 =>
  bnd (pExtract x13.1 0) fun x14 =>
  bnd (pExtract x13.1 1) fun x15 =>
  bnd (pBin prog .neq 28 (.tmp 16) (.const (.int .i64 0)) x15 (.int .i64 0)) fun x17 =>
  brV x17
  (bnd (pLoad prog 39 x4.1 x13.2) fun x18 =>
  bnd (pLoad prog 39 x5.1 x13.2) fun x19 =>
  bnd (kSt (pStore prog 39 x4.1 x18 x13.2)) fun u =>
  bnd (kSt (pStore prog 39 x5.1 x19 u.2)) fun u_2 =>
  chkK ((!true || !true || (sameO (pLoad prog 39 x5.1 x13.2) x19 && sameO (pLoad prog 39 x5.1 u.2) x19)) && true) <|
  bnd (pLoad prog 39 x4.1 u_2.2) fun q0 =>
  bnd (pLoad prog 39 x5.1 u_2.2) fun q1 =>
  some (.tuple #[q0,q1,x15],u_2.2))
  (bnd (pFieldAddr prog 148 x2.1 3) fun x22 =>
  bnd (pLoad prog 144 x22 x13.2) fun x23 =>
  bnd (callV inv x23 #[x1] x13.2) fun x25 =>
  bnd (pExtract x25.1 0) fun x26 =>
  bnd (pExtract x25.1 1) fun x27 =>
  G269_5 inv x2.1 x4.1 x5.1 x27 x14 x26 x25.2 fun  h =>
  bnd (pLoad prog 39 x4.1 h) fun q0 =>
  bnd (pLoad prog 39 x5.1 h) fun q1 =>
  some (.tuple #[q0,q1,x27],h))
theorem F269_eq : eFun env k inv 269 #[x0,x1] h = F269 inv k x0 x1 h:=ks_fun (n:=37) []
theorem F269_call : eInv env (k + 1) (.func 269) #[] #[x0,x1] h = F269 (eInv env k) k x0 x1 h:=kq_inv F269_eq
abbrev G270_1 {β : Type} (inv : Inv) (x1 x3 x5 : Value) (h : AH) (K : Value→AH→Option β) : Option β :=
  bnd (pFieldAddr prog 148 x3 2) fun x7 =>
  bnd (pLoad prog 143 x7 h) fun x8 =>
  bnd (pFieldAddr prog 148 x3 2) fun x9 =>
  bnd (pLoad prog 143 x9 h) fun x10 =>
  bnd (pFieldAddr prog 148 x3 0) fun x12 =>
  bnd (pLoad prog 142 x12 h) fun x13 =>
  bnd (pFieldAddr prog 53 x5 2) fun x14 =>
  bnd (pLoad prog 39 x14 h) fun x15 =>
  bnd (callV inv x13 #[x15] h) fun x16 =>
  bnd (callV inv x10 #[x1,x16.1] x16.2) fun x17 =>
  bnd (pFieldAddr prog 148 x3 0) fun x18 =>
  bnd (pLoad prog 142 x18 x17.2) fun x19 =>
  bnd (pFieldAddr prog 53 x5 3) fun x20 =>
  bnd (pLoad prog 39 x20 x17.2) fun x21 =>
  bnd (callV inv x19 #[x21] x17.2) fun x22 =>
  bnd (callV inv x8 #[x17.1,x22.1] x22.2) fun x23 =>
  chkK ((!true || !true || (sameO (pLoad prog 143 x7 h) x8 && sameO (pLoad prog 143 x7 x16.2) x8)) && ((!true || !true || (sameO (pLoad prog 143 x7 x16.2) x8 && sameO (pLoad prog 143 x7 x17.2) x8)) && ((!true || !true || (sameO (pLoad prog 143 x7 x17.2) x8 && sameO (pLoad prog 143 x7 x22.2) x8)) && ((!true || !true || (sameO (pLoad prog 143 x9 h) x10 && sameO (pLoad prog 143 x9 x16.2) x10)) && ((!true || !true || (sameO (pLoad prog 142 x18 h) x19 && sameO (pLoad prog 142 x18 x16.2) x19)) && ((!true || !true || (sameO (pLoad prog 142 x18 x16.2) x19 && sameO (pLoad prog 142 x18 x17.2) x19)) && ((!true || !true || (sameO (pLoad prog 39 x20 h) x21 && sameO (pLoad prog 39 x20 x16.2) x21)) && ((!true || !true || (sameO (pLoad prog 39 x20 x16.2) x21 && sameO (pLoad prog 39 x20 x17.2) x21)) && true)))))))) <|
  K (x23.1) x23.2
/-- (shadowbook/segment.codec[string]).zone -/
def F270 (inv : Inv) (k : Nat) (x0 x1 x2 : Value) (h : AH) : Option (Value × AH) :=
  bnd (pBox prog 148 x0 h) fun x3 =>
  bnd (pBox prog 53 x2 x3.2) fun x5 =>
  G270_1 inv x1 x3.1 x5.1 x5.2 fun y6 h =>
  some (y6,h)
theorem F270_eq : eFun env k inv 270 #[x0,x1,x2] h = F270 inv k x0 x1 x2 h:=ks_fun (n:=24) []
theorem F270_call : eInv env (k + 1) (.func 270) #[] #[x0,x1,x2] h = F270 (eInv env k) k x0 x1 x2 h:=kq_inv F270_eq
end
end Go.Proofs.YtlbmlncdjkdoaaaGreat.Sh
