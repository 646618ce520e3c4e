/- Shallow functions, part 1. Printed by a program of the prover's own from the loaded program; Lean checks it. -/
import Derived.Test.YtlbmlncdjkdoaaaGreatSz0
set_option linter.unusedVariables false
set_option linter.unusedSimpArgs false
set_option maxRecDepth 100000
namespace Go.Proofs.YtlbmlncdjkdoaaaGreat.Sh
open Go Go.RowKit Go.Proofs.Ev
open Tryz (prog)
noncomputable section
variable {β : Type} {inv : Inv} {k : Nat} {h : AH} {K : XE→Act→AH→Option β} {x0 x1 x2 x3 x4 : Value}
abbrev G3_3 {β : Type} (inv : Inv) (x0 x1 x2 x3 x4 : Value) (h : AH) (K : Value→AH→Option β) : Option β :=
  bnd (inv (.func 10) #[] #[x0,x1] h) fun x30 =>
  bnd (pUn prog .not x30.1) fun x31 =>
  bnd (gd (some x31) false x30.2 (some (x2,x30.2))) fun x33 =>
  bnd (gd (some x31) false x33.2 (lt (pLen prog #[24] x33.1 x33.2) x33.2)) fun x34 =>
  bnd (gd (some x31) false x34.2 (lt (pBin prog .gtr 3 (.tmp 34) (.const (.int .i64 20)) x34.1 (.int .i64 20)) x34.2)) fun x35 =>
  bnd (pickV x31 (.bool true) x35.1) fun x36 =>
  K (x36) x35.2
abbrev G3_7 {β : Type} (inv : Inv) (x0 x1 x2 x3 x4 x11 x12 x13 x14 : Value) (h : AH) (K : Value→AH→Option β) : Option β :=
  bnd (pBin prog .neq 28 (.tmp 49) (.const (.int .i64 0)) x12 (.int .i64 0)) fun x50 =>
  bnd (gd (some x50) false h (some (x14,h))) fun x52 =>
  bnd (gd (some x50) false x52.2 (lt (pBin prog .neq 28 (.tmp 52) (.const (.int .i64 0)) x52.1 (.int .i64 0)) x52.2)) fun x53 =>
  bnd (pickV x50 (.bool true) x53.1) fun x54 =>
  bnd (gd (some x54) false x53.2 (some (x13,x53.2))) fun x56 =>
  bnd (gd (some x54) false x56.2 (inv (.func 13) #[] #[x56.1] x56.2)) fun x57 =>
  bnd (gd (some x54) false x57.2 (lt (pBin prog .neq 28 (.tmp 57) (.const (.int .i64 0)) x57.1 (.int .i64 0)) x57.2)) fun x58 =>
  bnd (pickV x54 (.bool true) x58.1) fun x59 =>
  K (x59) x58.2
abbrev G3_9 {β : Type} (inv : Inv) (x0 x1 x2 x3 x4 x11 x13 : Value) (h : AH) (K : Value→AH→Option β) : Option β :=
  bnd (pLen prog #[27] x11 h) fun x61 =>
  bnd (pLen prog #[22] x0 h) fun x63 =>
  bnd (pBin prog .neq 3 (.tmp 61) (.tmp 63) x61 x63) fun x64 =>
  bnd (gd (some x64) false h (some (x1,h))) fun x66 =>
  bnd (gd (some x64) false x66.2 (lt (pLen prog #[23] x66.1 x66.2) x66.2)) fun x67 =>
  bnd (gd (some x64) false x67.2 (lt (pBin prog .eql 3 (.tmp 67) (.const (.int .i64 0)) x67.1 (.int .i64 0)) x67.2)) fun x68 =>
  bnd (pickV x64 (.bool true) x68.1) fun x69 =>
  bnd (gd (some x69) false x68.2 (some (x0,x68.2))) fun x71 =>
  bnd (gd (some x69) false x71.2 (lt (pLen prog #[22] x71.1 x71.2) x71.2)) fun x72 =>
  bnd (gd (some x69) false x72.2 (lt (pBin prog .eql 3 (.tmp 72) (.const (.int .i64 0)) x72.1 (.int .i64 0)) x72.2)) fun x73 =>
  bnd (pickV x69 (.bool true) x73.1) fun x74 =>
  K (x74) x73.2
def F3_lrlrrrrrrrr {β : Type} (inv : Inv) (k : Nat) : Nat→Value→Value→Value→Value→Value→Value→Value→Value→Value→AH→(Value→Value→Value→Value→Value→Value→Value→Value→Value→Value→AH→Option β)→(Value→AH→Option β)→Option β
 | 0,_,_,_,_,_,_,_,_,_,_,_,_=>none
 | j + 1,x0,x1,x2,x3,x4,x11,x13,x15,x16,h,ke0,kr =>
  bnd (pLen prog #[23] x1 h) fun x77 =>
  bnd (pBin prog .lss 3 (.tmp 75) (.tmp 77) x16 x77) fun x78 =>
  brV x78
  (bnd (pIndexAddr prog 23 x1 x16) fun x83 =>
  bnd (pLoad prog 34 x83 h) fun x84 =>
  bnd (pLen prog #[34] x84 h) fun x85 =>
  bnd (pLen prog #[22] x0 h) fun x87 =>
  bnd (pBin prog .neq 3 (.tmp 85) (.tmp 87) x85 x87) fun x88 =>
  brV x88
  (kr (.bool false) h)
  (bnd (pIndexAddr prog 23 x1 x16) fun x92 =>
  bnd (pLoad prog 34 x92 h) fun x93 =>
  bnd (inv (.func 14) #[] #[x93,x2] h) fun x95 =>
  bnd (pBuildSlice prog 23 1 #[(0,x95.1)] x95.2) fun x96 =>
  bnd (pAppend prog #[23,23] x15 x96.1 x96.2) fun x97 =>
  bnd (pBin prog .add 3 (.tmp 79) (.const (.int .i64 1)) x16 (.int .i64 1)) fun x80 =>
  F3_lrlrrrrrrrr inv k j x0 x1 x2 x3 x4 x11 x13 x97.1 x80 x97.2 ke0 kr))
  (ke0 x0 x1 x2 x3 x4 x11 x13 x15 x16 x78 h)
def e3_0 : Ent env 3 false 209:=.lp [] 4090 [0,1,2,3,4,11,13,15,16] [(.exit 0,[0,1,2,3,4,11,13,15,16,78]),(.ret,[10])] F3_lrlrrrrrrrr
abbrev G3_19 {β : Type} (inv : Inv) (x0 x1 x2 x3 x4 x11 x17 x18 : Value) (h : AH) (K : Value→AH→Option β) : Option β :=
  bnd (pBin prog .neq 28 (.tmp 104) (.const (.int .i64 0)) x18 (.int .i64 0)) fun x105 =>
  bnd (gd (some x105) false h (some (x17,h))) fun x107 =>
  bnd (gd (some x105) false x107.2 (lt (pLen prog #[27] x107.1 x107.2) x107.2)) fun x108 =>
  bnd (gd (some x105) false x108.2 (some (x2,x108.2))) fun x109 =>
  bnd (gd (some x105) false x109.2 (lt (pLen prog #[24] x109.1 x109.2) x109.2)) fun x110 =>
  bnd (gd (some x105) false x110.2 (lt (pBin prog .neq 3 (.tmp 108) (.tmp 110) x108.1 x110.1) x110.2)) fun x111 =>
  bnd (pickV x105 (.bool true) x111.1) fun x112 =>
  K (x112) x111.2
def F3_lrlrrrrrrrrrrr {β : Type} (inv : Inv) (k : Nat) : Nat→Value→Value→Value→Value→Value→Value→Value→Value→AH→(Value→Value→Value→Value→Value→Value→Value→Value→Value→AH→Option β)→(Value→AH→Option β)→Option β
 | 0,_,_,_,_,_,_,_,_,_,_,_=>none
 | j + 1,x0,x1,x2,x3,x4,x11,x17,x19,h,ke2,kr =>
  bnd (pLen prog #[27] x17 h) fun x115 =>
  bnd (pBin prog .lss 3 (.tmp 113) (.tmp 115) x19 x115) fun x116 =>
  brV x116
  (bnd (pIndexAddr prog 27 x17 x19) fun x121 =>
  bnd (pLoad prog 9 x121 h) fun x122 =>
  bnd (pIndexAddr prog 24 x2 x19) fun x126 =>
  bnd (pLoad prog 3 x126 h) fun x127 =>
  bnd (pIndexAddr prog 27 x11 x127) fun x128 =>
  bnd (pLoad prog 9 x128 h) fun x129 =>
  bnd (pBin prog .neq 9 (.tmp 122) (.tmp 129) x122 x129) fun x130 =>
  brV x130
  (kr (.bool false) h)
  (bnd (pBin prog .add 3 (.tmp 117) (.const (.int .i64 1)) x19 (.int .i64 1)) fun x118 =>
  F3_lrlrrrrrrrrrrr inv k j x0 x1 x2 x3 x4 x11 x17 x118 h ke2 kr))
  (ke2 x0 x1 x2 x3 x4 x11 x17 x19 x116 h)
def e3_1 : Ent env 3 false 209:=.lp [e3_0] 32762 [0,1,2,3,4,11,17,19] [(.exit 2,[0,1,2,3,4,11,17,19,116]),(.ret,[10])] F3_lrlrrrrrrrrrrr
abbrev G3_28 {β : Type} (inv : Inv) (x0 x1 x11 x20 x21 x22 : Value) (h : AH) (K : AH→Option β) : Option β :=
  bnd (pIndexAddr prog 23 x22 x20) fun x143 =>
  bnd (pLoad prog 34 x143 h) fun x144 =>
  bnd (pBin prog .add 3 (.tmp 147) (.const (.int .i64 1)) x20 (.int .i64 1)) fun x148 =>
  bnd (pLen prog #[23] x1 h) fun x150 =>
  bnd (pBin prog .rem 3 (.tmp 148) (.tmp 150) x148 x150) fun x151 =>
  bnd (pIndexAddr prog 23 x1 x151) fun x152 =>
  bnd (pLoad prog 34 x152 h) fun x153 =>
  bnd (pIndexAddr prog 34 x153 x21) fun x155 =>
  bnd (pLoad prog 39 x155 h) fun x156 =>
  bnd (pIndexAddr prog 34 x144 x21) fun x157 =>
  bnd (kSt (pStore prog 39 x157 x156 h)) fun u =>
  K u.2
abbrev G3_30 {β : Type} (inv : Inv) (x1 x11 x20 x21 x22 x23 x24 : Value) (h : AH) (K : Value→AH→Option β) : Option β :=
  bnd (pBin prog .neq 28 (.tmp 164) (.const (.int .i64 0)) x24 (.int .i64 0)) fun x165 =>
  bnd (gd (some x165) false h (some (x23,h))) fun x167 =>
  bnd (gd (some x165) false x167.2 (lt (pLen prog #[27] x167.1 x167.2) x167.2)) fun x168 =>
  bnd (gd (some x165) false x168.2 (some (x11,x168.2))) fun x169 =>
  bnd (gd (some x165) false x169.2 (lt (pLen prog #[27] x169.1 x169.2) x169.2)) fun x170 =>
  bnd (gd (some x165) false x170.2 (lt (pBin prog .neq 3 (.tmp 168) (.tmp 170) x168.1 x170.1) x170.2)) fun x171 =>
  bnd (pickV x165 (.bool true) x171.1) fun x172 =>
  K (x172) x171.2
abbrev G3_35 {β : Type} (inv : Inv) (x1 x11 x20 x21 x22 x23 x25 : Value) (h : AH) (K : Value→AH→Option β) : Option β :=
  bnd (pIndexAddr prog 27 x23 x25) fun x181 =>
  bnd (pLoad prog 9 x181 h) fun x182 =>
  bnd (pIndexAddr prog 27 x11 x25) fun x185 =>
  bnd (pLoad prog 9 x185 h) fun x186 =>
  bnd (pBin prog .eql 9 (.tmp 182) (.tmp 186) x182 x186) fun x187 =>
  bnd (pBin prog .neq 3 (.tmp 188) (.tmp 189) x25 x21) fun x190 =>
  bnd (gd3 (some x190) false h (some (x22,h))) fun x192 =>
  bnd (gd3 (some x190) false x192.2.1 (some (x20,x192.2.1))) fun x193 =>
  bnd (gd3 (some x190) false x193.2.1 (lt (pIndexAddr prog 23 x192.1 x193.1) x193.2.1)) fun x194 =>
  bnd (gd3 (some x190) false x194.2.1 (lt (pLoad prog 34 x194.1 x194.2.1) x194.2.1)) fun x195 =>
  bnd (gd3 (some x190) false x195.2.1 (some (x21,x195.2.1))) fun x196 =>
  bnd (gd3 (some x190) false x196.2.1 (lt (pIndexAddr prog 34 x195.1 x196.1) x196.2.1)) fun x197 =>
  bnd (gd3 (some x190) false x197.2.1 (lt (pLoad prog 39 x197.1 x197.2.1) x197.2.1)) fun x198 =>
  bnd (gd3 (some x190) false x198.2.1 (some (x1,x198.2.1))) fun x199 =>
  bnd (gd3 (some x190) false x199.2.1 (some (x20,x199.2.1))) fun x200 =>
  bnd (gd3 (some x190) false x200.2.1 (lt (pIndexAddr prog 23 x199.1 x200.1) x200.2.1)) fun x201 =>
  bnd (gd3 (some x190) false x201.2.1 (lt (pLoad prog 34 x201.1 x201.2.1) x201.2.1)) fun x202 =>
  bnd (gd3 (some x190) false x202.2.1 (some (x21,x202.2.1))) fun x203 =>
  bnd (gd3 (some x190) false x203.2.1 (lt (pIndexAddr prog 34 x202.1 x203.1) x203.2.1)) fun x204 =>
  bnd (gd3 (some x190) false x204.2.1 (lt (pLoad prog 39 x204.1 x204.2.1) x204.2.1)) fun x205 =>
  bnd (gd3 (some x190) false x205.2.1 (lt (pBin prog .eql 39 (.tmp 198) (.tmp 205) x198.1 x205.1) x205.2.1)) fun x206 =>
  bnd (pickV x190 (.bool true) x206.1) fun x207 =>
  bnd (pBin prog .neq 4 (.tmp 187) (.tmp 207) x187 x207) fun x208 =>
  K (x208) x206.2.1
def F3_lrlrrrrrrrrrrrrrrrrr {β : Type} (inv : Inv) (k : Nat) : Nat→Value→Value→Value→Value→Value→Value→Value→AH→(Value→Value→Value→Value→Value→Value→Value→Value→AH→Option β)→(Value→AH→Option β)→Option β
 | 0,_,_,_,_,_,_,_,_,_,_=>none
 | j + 1,x1,x11,x20,x21,x22,x23,x25,h,ke4,kr =>
  bnd (pLen prog #[27] x23 h) fun x175 =>
  bnd (pBin prog .lss 3 (.tmp 173) (.tmp 175) x25 x175) fun x176 =>
  brV x176
  (G3_35 inv x1 x11 x20 x21 x22 x23 x25 h fun y208 h =>
  brV y208
  (kr (.bool false) h)
  (bnd (pBin prog .add 3 (.tmp 177) (.const (.int .i64 1)) x25 (.int .i64 1)) fun x178 =>
  F3_lrlrrrrrrrrrrrrrrrrr inv k j x1 x11 x20 x21 x22 x23 x178 h ke4 kr))
  (ke4 x1 x11 x20 x21 x22 x23 x25 x176 h)
def e3_2 : Ent env 3 false 209:=.lp [e3_0,e3_1] 2097146 [1,11,20,21,22,23,25] [(.exit 4,[1,11,20,21,22,23,25,176]),(.ret,[10])] F3_lrlrrrrrrrrrrrrrrrrr
/-- shadowbook/shadowbooklaw22.GroupTaken -/
def F3 (inv : Inv) (k : Nat) (x0 x1 x2 x3 x4 : Value) (h : AH) : Option (Value × AH) :=
  bnd (inv (.func 9) #[] #[] h) fun x26 =>
  bnd (pUn prog .not x26.1) fun x27 =>
  brV x27
  (some ((.bool false),x26.2))
  (G3_3 inv x0 x1 x2 x3 x4 x26.2 fun y36 h =>
  brV y36
  (some ((.bool true),h))
  (bnd (inv (.func 11) #[] #[x0,x1] h) fun x40 =>
  bnd (pExtract x40.1 0) fun x41 =>
  bnd (pExtract x40.1 1) fun x42 =>
  bnd (inv (.func 12) #[] #[x0,x2] x40.2) fun x46 =>
  bnd (pExtract x46.1 0) fun x47 =>
  bnd (pExtract x46.1 1) fun x48 =>
  G3_7 inv x0 x1 x2 x3 x4 x41 x42 x47 x48 x46.2 fun y59 h_1 =>
  brV y59
  (some ((.bool true),h_1))
  (G3_9 inv x0 x1 x2 x3 x4 x41 x47 h_1 fun y74 h_2 =>
  brV y74
  (some ((.bool false),h_2))
  (F3_lrlrrrrrrrr inv k k x0 x1 x2 x3 x4 x41 x47 (.slice none 0 0) (.int .i64 0) h_2
  (fun y0 y1 y2 y3 y4 y11 y13 y15 y16 y78 h_3 =>
  bnd (inv (.func 11) #[] #[y13,y15] h_3) fun x101 =>
  bnd (pExtract x101.1 0) fun x102 =>
  bnd (pExtract x101.1 1) fun x103 =>
  G3_19 inv y0 y1 y2 y3 y4 y11 x102 x103 x101.2 fun y112 h_4 =>
  brV y112
  (some ((.bool false),h_4))
  (F3_lrlrrrrrrrrrrr inv k k y0 y1 y2 y3 y4 y11 x102 (.int .i64 0) h_4
  (fun y0_5 y1_6 y2_7 y3_8 y4_9 y11_10 y17 y19 y116 h_11 =>
  bnd (pLen prog #[23] y1_6 h_11) fun x133 =>
  bnd (inv (.func 15) #[] #[y3_8,x133] h_11) fun x134 =>
  bnd (pLen prog #[22] y0_5 x134.2) fun x137 =>
  bnd (inv (.func 15) #[] #[y4_9,x137] x134.2) fun x138 =>
  bnd (inv (.func 16) #[] #[y1_6] x138.2) fun x140 =>
  G3_28 inv y0_5 y1_6 y11_10 x134.1 x138.1 x140.1 x140.2 fun  h_12 =>
  bnd (inv (.func 11) #[] #[y0_5,x140.1] h_12) fun x161 =>
  bnd (pExtract x161.1 0) fun x162 =>
  bnd (pExtract x161.1 1) fun x163 =>
  G3_30 inv y1_6 y11_10 x134.1 x138.1 x140.1 x162 x163 x161.2 fun y172 h_13 =>
  brV y172
  (some ((.bool false),h_13))
  (F3_lrlrrrrrrrrrrrrrrrrr inv k k y1_6 y11_10 x134.1 x138.1 x140.1 x162 (.int .i64 0) h_13
  (fun y1_14 y11_15 y20 y21 y22 y23 y25 y176 h_16 =>
  some ((.bool true),h_16))
  (fun y10 h_17 =>
  some (y10,h_17))))
  (fun y10_18 h_19 =>
  some (y10_18,h_19))))
  (fun y10_20 h_21 =>
  some (y10_20,h_21))))))
theorem F3_eq : eFun env k inv 3 #[x0,x1,x2,x3,x4] h = F3 inv k x0 x1 x2 x3 x4 h:=ks_fun (n:=209) [e3_0,e3_1,e3_2]
theorem F3_call : eInv env (k + 1) (.func 3) #[] #[x0,x1,x2,x3,x4] h = F3 (eInv env k) k x0 x1 x2 x3 x4 h:=kq_inv F3_eq
/-- shadowbook/shadowbooklaw22.light -/
def F10 (inv : Inv) (k : Nat) (x0 x1 : Value) (h : AH) : Option (Value × AH) :=
  bnd (inv (.func 17) #[] #[x0] h) fun x6 =>
  bnd (gd (some x6.1) true x6.2 (some (x1,x6.2))) fun x8 =>
  bnd (gd (some x6.1) true x8.2 (inv (.func 18) #[] #[x8.1,(.int .i64 70)] x8.2)) fun x9 =>
  bnd (pickV x6.1 x9.1 (.bool false)) fun x10 =>
  some (x10,x9.2)
theorem F10_eq : eFun env k inv 10 #[x0,x1] h = F10 inv k x0 x1 h:=ks_fun (n:=11) []
theorem F10_call : eInv env (k + 1) (.func 10) #[] #[x0,x1] h = F10 (eInv env k) k x0 x1 h:=kq_inv F10_eq
abbrev G11_4 {β : Type} (inv : Inv) (x0 x1 : Value) (h : AH) (K : Value→AH→Option β) : Option β :=
  bnd (pLen prog #[23] x1 h) fun x19 =>
  bnd (pBin prog .lss 3 (.tmp 19) (.const (.int .i64 1)) x19 (.int .i64 1)) fun x20 =>
  bnd (gd (some x20) false h (some (x1,h))) fun x22 =>
  bnd (gd (some x20) false x22.2 (lt (pLen prog #[23] x22.1 x22.2) x22.2)) fun x23 =>
  bnd (gd (some x20) false x23.2 (lt (pBin prog .gtr 3 (.tmp 23) (.const (.int .i64 64)) x23.1 (.int .i64 64)) x23.2)) fun x24 =>
  bnd (pickV x20 (.bool true) x24.1) fun x25 =>
  K (x25) x24.2
def F11_lrlrrrrr {β : Type} (inv : Inv) (k : Nat) : Nat→Value→Value→Value→Value→Value→AH→(Value→Value→Value→Value→Value→Value→AH→Option β)→(Value→Value→AH→Option β)→Option β
 | 0,_,_,_,_,_,_,_,_=>none
 | j + 1,x0,x8,x36,x37,x38,h,ke0,kr =>
  bnd (pBin prog .lss 3 (.tmp 38) (.tmp 37) x38 x37) fun x39 =>
  brV x39
  (bnd (pIndexAddr prog 23 x36 x38) fun x41 =>
  bnd (pLoad prog 34 x41 h) fun x42 =>
  bnd (pIndexAddr prog 22 x0 x38) fun x46 =>
  bnd (pFieldAddr prog 73 x46 1) fun x47 =>
  bnd (pLoad prog 3 x47 h) fun x48 =>
  bnd (inv (.func 45) #[] #[x48,x42] h) fun x50 =>
  bnd (pExtract x50.1 0) fun x51 =>
  bnd (pExtract x50.1 1) fun x52 =>
  bnd (pBin prog .neq 28 (.tmp 53) (.const (.int .i64 0)) x52 (.int .i64 0)) fun x54 =>
  brV x54
  (kr (.slice none 0 0) x52 x50.2)
  (bnd (pBuildSlice prog 27 1 #[(0,x51)] x50.2) fun x58 =>
  bnd (pAppend prog #[27,27] x8 x58.1 x58.2) fun x59 =>
  bnd (pBin prog .add 3 (.tmp 38) (.const (.int .i64 1)) x38 (.int .i64 1)) fun x60 =>
  F11_lrlrrrrr inv k j x0 x59.1 x36 x37 x60 x59.2 ke0 kr))
  (ke0 x0 x8 x36 x37 x38 x39 h)
def e11_0 : Ent env 11 false 62:=.lp [] 506 [0,8,36,37,38] [(.exit 0,[0,8,36,37,38,39]),(.ret,[4,5])] F11_lrlrrrrr
/-- shadowbook/group.Put -/
def F11 (inv : Inv) (k : Nat) (x0 x1 : Value) (h : AH) : Option (Value × AH) :=
  bnd (inv (.func 42) #[] #[x0] h) fun x14 =>
  bnd (pBin prog .neq 28 (.tmp 15) (.const (.int .i64 0)) x14.1 (.int .i64 0)) fun x16 =>
  brV x16
  (some (.tuple #[(.slice none 0 0),x14.1],x14.2))
  (G11_4 inv x0 x1 x14.2 fun y25 h =>
  brV y25
  (some (.tuple #[(.slice none 0 0),(.int .i64 12)],h))
  (bnd (inv (.func 43) #[] #[x0,x1] h) fun x28 =>
  bnd (pBin prog .neq 28 (.tmp 29) (.const (.int .i64 0)) x28.1 (.int .i64 0)) fun x30 =>
  brV x30
  (some (.tuple #[(.slice none 0 0),x28.1],x28.2))
  (bnd (pLen prog #[22] x0 x28.2) fun x34 =>
  bnd (pBuild prog 39 #[]) fun x35 =>
  bnd (inv (.func 44) #[] #[x1,x34,x35] x28.2) fun x36 =>
  bnd (pLen prog #[23] x36.1 x36.2) fun x37 =>
  F11_lrlrrrrr inv k k x0 (.slice none 0 0) x36.1 x37 (.int .i64 0) x36.2
  (fun y0 y8 y36 y37 y38 y39 h_1 =>
  some (.tuple #[y8,(.int .i64 0)],h_1))
  (fun y4 y5 h_2 =>
  some (.tuple #[y4,y5],h_2)))))
theorem F11_eq : eFun env k inv 11 #[x0,x1] h = F11 inv k x0 x1 h:=ks_fun (n:=62) [e11_0]
theorem F11_call : eInv env (k + 1) (.func 11) #[] #[x0,x1] h = F11 (eInv env k) k x0 x1 h:=kq_inv F11_eq
abbrev G12_5 {β : Type} (inv : Inv) (x0 x1 x6 x7 : Value) (h : AH) (K : Value→AH→Option β) : Option β :=
  bnd (pIndexAddr prog 24 x1 x7) fun x16 =>
  bnd (pLoad prog 3 x16 h) fun x17 =>
  bnd (pBin prog .lss 3 (.tmp 17) (.const (.int .i64 0)) x17 (.int .i64 0)) fun x18 =>
  bnd (gd (some x18) false h (some (x1,h))) fun x20 =>
  bnd (gd (some x18) false x20.2 (some (x7,x20.2))) fun x21 =>
  bnd (gd (some x18) false x21.2 (lt (pIndexAddr prog 24 x20.1 x21.1) x21.2)) fun x22 =>
  bnd (gd (some x18) false x22.2 (lt (pLoad prog 3 x22.1 x22.2) x22.2)) fun x23 =>
  bnd (gd (some x18) false x23.2 (some (x0,x23.2))) fun x24 =>
  bnd (gd (some x18) false x24.2 (lt (pLen prog #[22] x24.1 x24.2) x24.2)) fun x25 =>
  bnd (gd (some x18) false x25.2 (lt (pBin prog .geq 3 (.tmp 23) (.tmp 25) x23.1 x25.1) x25.2)) fun x26 =>
  bnd (pickV x18 (.bool true) x26.1) fun x27 =>
  K (x27) x26.2
def F12_lrlrr {β : Type} (inv : Inv) (k : Nat) : Nat→Value→Value→Value→Value→AH→(Value→Value→Value→Value→Value→AH→Option β)→(Value→Value→AH→Option β)→Option β
 | 0,_,_,_,_,_,_,_=>none
 | j + 1,x0,x1,x6,x7,h,ke0,kr =>
  bnd (pLen prog #[24] x1 h) fun x10 =>
  bnd (pBin prog .lss 3 (.tmp 8) (.tmp 10) x7 x10) fun x11 =>
  brV x11
  (G12_5 inv x0 x1 x6 x7 h fun y27 h =>
  brV y27
  (kr (.slice none 0 0) (.int .i64 172) h)
  (bnd (pIndexAddr prog 24 x1 x7) fun x32 =>
  bnd (pLoad prog 3 x32 h) fun x33 =>
  bnd (pIndexAddr prog 22 x0 x33) fun x34 =>
  bnd (pLoad prog 73 x34 h) fun x35 =>
  bnd (pBuildSlice prog 22 1 #[(0,x35)] h) fun x36 =>
  bnd (pAppend prog #[22,22] x6 x36.1 x36.2) fun x37 =>
  bnd (pBin prog .add 3 (.tmp 12) (.const (.int .i64 1)) x7 (.int .i64 1)) fun x13 =>
  F12_lrlrr inv k j x0 x1 x37.1 x13 x37.2 ke0 kr))
  (ke0 x0 x1 x6 x7 x11 h)
def e12_0 : Ent env 12 false 39:=.lp [] 58 [0,1,6,7] [(.exit 0,[0,1,6,7,11]),(.ret,[4,5])] F12_lrlrr
/-- shadowbook/shadowbookref17.Take -/
def F12 (inv : Inv) (k : Nat) (x0 x1 : Value) (h : AH) : Option (Value × AH) :=
  F12_lrlrr inv k k x0 x1 (.slice none 0 0) (.int .i64 0) h
  (fun y0 y1 y6 y7 y11 h =>
  some (.tuple #[y6,(.int .i64 0)],h))
  (fun y4 y5 h_1 =>
  some (.tuple #[y4,y5],h_1))
theorem F12_eq : eFun env k inv 12 #[x0,x1] h = F12 inv k x0 x1 h:=ks_fun (n:=39) [e12_0]
theorem F12_call : eInv env (k + 1) (.func 12) #[] #[x0,x1] h = F12 (eInv env k) k x0 x1 h:=kq_inv F12_eq
abbrev G13_1 {β : Type} (inv : Inv) (x0 : Value) (h : AH) (K : Value→AH→Option β) : Option β :=
  bnd (pLen prog #[22] x0 h) fun x6 =>
  bnd (pBin prog .lss 3 (.tmp 6) (.const (.int .i64 1)) x6 (.int .i64 1)) fun x7 =>
  bnd (gd (some x7) false h (some (x0,h))) fun x9 =>
  bnd (gd (some x7) false x9.2 (lt (pLen prog #[22] x9.1 x9.2) x9.2)) fun x10 =>
  bnd (gd (some x7) false x10.2 (lt (pBin prog .gtr 3 (.tmp 10) (.const (.int .i64 16)) x10.1 (.int .i64 16)) x10.2)) fun x11 =>
  bnd (pickV x7 (.bool true) x11.1) fun x12 =>
  K (x12) x11.2
abbrev G13_8 {β : Type} (inv : Inv) (x0 x3 : Value) (h : AH) (K : Value→AH→Option β) : Option β :=
  bnd (pIndexAddr prog 22 x0 x3) fun x28 =>
  bnd (pFieldAddr prog 73 x28 1) fun x29 =>
  bnd (pLoad prog 3 x29 h) fun x30 =>
  bnd (pBin prog .lss 3 (.tmp 30) (.const (.int .i64 1)) x30 (.int .i64 1)) fun x31 =>
  bnd (gd (some x31) false h (some (x0,h))) fun x33 =>
  bnd (gd (some x31) false x33.2 (some (x3,x33.2))) fun x34 =>
  bnd (gd (some x31) false x34.2 (lt (pIndexAddr prog 22 x33.1 x34.1) x34.2)) fun x35 =>
  bnd (gd (some x31) false x35.2 (lt (pFieldAddr prog 73 x35.1 1) x35.2)) fun x36 =>
  bnd (gd (some x31) false x36.2 (lt (pLoad prog 3 x36.1 x36.2) x36.2)) fun x37 =>
  bnd (gd (some x31) false x37.2 (lt (pBin prog .gtr 3 (.tmp 37) (.const (.int .i64 3)) x37.1 (.int .i64 3)) x37.2)) fun x38 =>
  bnd (pickV x31 (.bool true) x38.1) fun x39 =>
  K (x39) x38.2
def F13_lrrrllrllrlrr {β : Type} (inv : Inv) (k : Nat) : Nat→Value→Value→Value→AH→(Value→Value→Value→Value→AH→Option β)→(Value→AH→Option β)→Option β
 | 0,_,_,_,_,_,_=>none
 | j + 1,x0,x3,x4,h,ke2,kr =>
  bnd (pBin prog .lss 3 (.tmp 40) (.tmp 41) x4 x3) fun x42 =>
  brV x42
  (bnd (pIndexAddr prog 22 x0 x4) fun x47 =>
  bnd (pFieldAddr prog 73 x47 0) fun x48 =>
  bnd (pLoad prog 9 x48 h) fun x49 =>
  bnd (pIndexAddr prog 22 x0 x3) fun x52 =>
  bnd (pFieldAddr prog 73 x52 0) fun x53 =>
  bnd (pLoad prog 9 x53 h) fun x54 =>
  bnd (pBin prog .eql 9 (.tmp 49) (.tmp 54) x49 x54) fun x55 =>
  brV x55
  (kr (.int .i64 171) h)
  (bnd (pBin prog .add 3 (.tmp 43) (.const (.int .i64 1)) x4 (.int .i64 1)) fun x44 =>
  F13_lrrrllrllrlrr inv k j x0 x3 x44 h ke2 kr))
  (ke2 x0 x3 x4 x42 h)
def e13_0 : Ent env 13 false 56:=.lp [] 14926 [0,3,4] [(.exit 2,[0,3,4,42]),(.ret,[2])] F13_lrrrllrllrlrr
def F13_lrlrr {β : Type} (inv : Inv) (k : Nat) : Nat→Value→Value→AH→(Value→Value→Value→AH→Option β)→(Value→AH→Option β)→Option β
 | 0,_,_,_,_,_=>none
 | j + 1,x0,x3,h,ke0,kr =>
  bnd (pLen prog #[22] x0 h) fun x15 =>
  bnd (pBin prog .lss 3 (.tmp 13) (.tmp 15) x3 x15) fun x16 =>
  brV x16
  (bnd (pIndexAddr prog 22 x0 x3) fun x21 =>
  bnd (pFieldAddr prog 73 x21 0) fun x22 =>
  bnd (pLoad prog 9 x22 h) fun x23 =>
  bnd (inv (.func 46) #[] #[x23] h) fun x24 =>
  bnd (pBin prog .neq 28 (.tmp 24) (.const (.int .i64 0)) x24.1 (.int .i64 0)) fun x25 =>
  brV x25
  (kr (.int .i64 170) x24.2)
  (G13_8 inv x0 x3 x24.2 fun y39 h =>
  brV y39
  (kr (.int .i64 171) h)
  (F13_lrrrllrllrlrr inv k k x0 x3 (.int .i64 0) h
  (fun y0 y3 y4 y42 h_1 =>
  bnd (pBin prog .add 3 (.tmp 17) (.const (.int .i64 1)) y3 (.int .i64 1)) fun x18 =>
  F13_lrlrr inv k j y0 x18 h_1 ke0 kr)
  (fun y2 h_2 =>
  kr y2 h_2))))
  (ke0 x0 x3 x16 h)
def e13_1 : Ent env 13 false 56:=.lp [e13_0] 58 [0,3] [(.exit 0,[0,3,16]),(.ret,[2])] F13_lrlrr
/-- shadowbook/shadowbookref17.Check -/
def F13 (inv : Inv) (k : Nat) (x0 : Value) (h : AH) : Option (Value × AH) :=
  G13_1 inv x0 h fun y12 h =>
  brV y12
  (some ((.int .i64 171),h))
  (F13_lrlrr inv k k x0 (.int .i64 0) h
  (fun y0 y3 y16 h_3 =>
  some ((.int .i64 0),h_3))
  (fun y2 h_4 =>
  some (y2,h_4)))
theorem F13_eq : eFun env k inv 13 #[x0] h = F13 inv k x0 h:=ks_fun (n:=56) [e13_0,e13_1]
theorem F13_call : eInv env (k + 1) (.func 13) #[] #[x0] h = F13 (eInv env k) k x0 h:=kq_inv F13_eq
abbrev G14_6 {β : Type} (inv : Inv) (x0 x1 x5 x6 x7 : Value) (h : AH) (K : Value→AH→Option β) : Option β :=
  bnd (pIndexAddr prog 24 x1 x6) fun x17 =>
  bnd (pLoad prog 3 x17 h) fun x18 =>
  bnd (pBin prog .geq 3 (.tmp 18) (.const (.int .i64 0)) x18 (.int .i64 0)) fun x19 =>
  bnd (gd (some x19) true h (some (x1,h))) fun x21 =>
  bnd (gd (some x19) true x21.2 (some (x6,x21.2))) fun x22 =>
  bnd (gd (some x19) true x22.2 (lt (pIndexAddr prog 24 x21.1 x22.1) x22.2)) fun x23 =>
  bnd (gd (some x19) true x23.2 (lt (pLoad prog 3 x23.1 x23.2) x23.2)) fun x24 =>
  bnd (gd (some x19) true x24.2 (some (x0,x24.2))) fun x25 =>
  bnd (gd (some x19) true x25.2 (lt (pLen prog #[34] x25.1 x25.2) x25.2)) fun x26 =>
  bnd (gd (some x19) true x26.2 (lt (pBin prog .lss 3 (.tmp 24) (.tmp 26) x24.1 x26.1) x26.2)) fun x27 =>
  bnd (pickV x19 x27.1 (.bool false)) fun x28 =>
  K (x28) x27.2
def F14_rlrllrllrlrr {β : Type} (inv : Inv) (k : Nat) (x0 x1 x5 x6 x7 x28 : Value) (h : AH) (kn : (Value→Value→Value→Value→Value→Value→AH→Option β)) : Option β :=
  brV x28
  (bnd (pIndexAddr prog 24 x1 x6) fun x32 =>
  bnd (pLoad prog 3 x32 h) fun x33 =>
  bnd (pIndexAddr prog 34 x0 x33) fun x34 =>
  bnd (pLoad prog 39 x34 h) fun x35 =>
  bnd (kSt (pStore prog 39 x7 x35 h)) fun u =>
  kn x0 x1 x5 x6 x7 unk u.2)
  (kn x0 x1 x5 x6 x7 x28 h)
def e14_0 : Ent env 14 false 41:=.jn [] 7461 [0,1,5,6,7,28] [(.normal,[0,1,5,6,7,28])] F14_rlrllrllrlrr
def F14_lrlrr {β : Type} (inv : Inv) (k : Nat) : Nat→Value→Value→Value→Value→AH→(Value→Value→Value→Value→Value→AH→Option β)→Option β
 | 0,_,_,_,_,_,_=>none
 | j + 1,x0,x1,x5,x6,h,ke0 =>
  bnd (pLen prog #[24] x1 h) fun x10 =>
  bnd (pBin prog .lss 3 (.tmp 8) (.tmp 10) x6 x10) fun x11 =>
  brV x11
  (bnd (pBuild prog 39 #[]) fun x14 =>
  bnd (pAlloc prog 39 h) fun x7 =>
  bnd (kSt (pStore prog 39 x7.1 x14 x7.2)) fun u =>
  G14_6 inv x0 x1 x5 x6 x7.1 u.2 fun y28 h =>
  F14_rlrllrllrlrr inv k x0 x1 x5 x6 x7.1 y28 h
  (fun y0 y1 y5 y6 y7 y28_1 h_2 =>
  bnd (pLoad prog 39 y7 h_2) fun x37 =>
  bnd (pBuildSlice prog 34 1 #[(0,x37)] h_2) fun x38 =>
  bnd (pAppend prog #[34,34] y5 x38.1 x38.2) fun x39 =>
  bnd (pBin prog .add 3 (.tmp 12) (.const (.int .i64 1)) y6 (.int .i64 1)) fun x13 =>
  F14_lrlrr inv k j y0 y1 x39.1 x13 x39.2 ke0))
  (ke0 x0 x1 x5 x6 x11 h)
def e14_1 : Ent env 14 false 41:=.lp [e14_0] 58 [0,1,5,6] [(.exit 0,[0,1,5,6,11])] F14_lrlrr
/-- shadowbook/shadowbookref17.Pick -/
def F14 (inv : Inv) (k : Nat) (x0 x1 : Value) (h : AH) : Option (Value × AH) :=
  F14_lrlrr inv k k x0 x1 (.slice none 0 0) (.int .i64 0) h
  (fun y0 y1 y5 y6 y11 h =>
  some (y5,h))
theorem F14_eq : eFun env k inv 14 #[x0,x1] h = F14 inv k x0 x1 h:=ks_fun (n:=41) [e14_0,e14_1]
theorem F14_call : eInv env (k + 1) (.func 14) #[] #[x0,x1] h = F14 (eInv env k) k x0 x1 h:=kq_inv F14_eq
def F15_rlrrr {β : Type} (inv : Inv) (k : Nat) (x1 x5 x12 : Value) (h : AH) (kn : (Value→Value→Value→AH→Option β)) : Option β :=
  brV x12
  (bnd (pBin prog .add 3 (.tmp 13) (.tmp 14) x5 x1) fun x15 =>
  kn unk x15 unk h)
  (kn x1 x5 x12 h)
def e15_0 : Ent env 15 false 17:=.jn [] 61 [1,5,12] [(.normal,[1,5,12])] F15_rlrrr
/-- shadowbook/shadowbookkit.Pick -/
def F15 (inv : Inv) (k : Nat) (x0 x1 : Value) (h : AH) : Option (Value × AH) :=
  bnd (pBin prog .lss 3 (.tmp 6) (.const (.int .i64 1)) x1 (.int .i64 1)) fun x7 =>
  brV x7
  (some ((.int .i64 0),h))
  (bnd (pBin prog .rem 3 (.tmp 8) (.tmp 9) x0 x1) fun x10 =>
  bnd (pBin prog .lss 3 (.tmp 11) (.const (.int .i64 0)) x10 (.int .i64 0)) fun x12 =>
  F15_rlrrr inv k x1 x10 x12 h
  (fun y1 y5 y12 h =>
  some (y5,h)))
theorem F15_eq : eFun env k inv 15 #[x0,x1] h = F15 inv k x0 x1 h:=ks_fun (n:=17) [e15_0]
theorem F15_call : eInv env (k + 1) (.func 15) #[] #[x0,x1] h = F15 (eInv env k) k x0 x1 h:=kq_inv F15_eq
def F16_lrlrr {β : Type} (inv : Inv) (k : Nat) : Nat→Value→Value→Value→AH→(Value→Value→Value→Value→AH→Option β)→Option β
 | 0,_,_,_,_,_=>none
 | j + 1,x0,x3,x4,h,ke0 =>
  bnd (pLen prog #[23] x0 h) fun x10 =>
  bnd (pBin prog .lss 3 (.tmp 8) (.tmp 10) x4 x10) fun x11 =>
  brV x11
  (bnd (pBuildSlice prog 34 0 #[] h) fun x16 =>
  bnd (pIndexAddr prog 23 x0 x4) fun x19 =>
  bnd (pLoad prog 34 x19 x16.2) fun x20 =>
  bnd (pAppend prog #[34,34] x16.1 x20 x16.2) fun x21 =>
  bnd (pIndexAddr prog 23 x3 x4) fun x22 =>
  bnd (kSt (pStore prog 34 x22 x21.1 x21.2)) fun u =>
  bnd (pBin prog .add 3 (.tmp 12) (.const (.int .i64 1)) x4 (.int .i64 1)) fun x13 =>
  F16_lrlrr inv k j x0 x3 x13 u.2 ke0)
  (ke0 x0 x3 x4 x11 h)
def e16_0 : Ent env 16 false 24:=.lp [] 58 [0,3,4] [(.exit 0,[0,3,4,11])] F16_lrlrr
/-- shadowbook/shadowbookkit.OwnRows -/
def F16 (inv : Inv) (k : Nat) (x0 : Value) (h : AH) : Option (Value × AH) :=
  bnd (pLen prog #[23] x0 h) fun x6 =>
  bnd (pMakeSlice prog 23 x6 x6 h) fun x7 =>
  F16_lrlrr inv k k x0 x7.1 (.int .i64 0) x7.2
  (fun y0 y3 y4 y11 h =>
  some (y3,h))
theorem F16_eq : eFun env k inv 16 #[x0] h = F16 inv k x0 h:=ks_fun (n:=24) [e16_0]
theorem F16_call : eInv env (k + 1) (.func 16) #[] #[x0] h = F16 (eInv env k) k x0 h:=kq_inv F16_eq
def F17_lrlr {β : Type} (inv : Inv) (k : Nat) : Nat→Value→Value→AH→(Value→Value→Value→AH→Option β)→(Value→AH→Option β)→Option β
 | 0,_,_,_,_,_=>none
 | j + 1,x0,x3,h,ke0,kr =>
  bnd (pLen prog #[22] x0 h) fun x6 =>
  bnd (pBin prog .lss 3 (.tmp 4) (.tmp 6) x3 x6) fun x7 =>
  brV x7
  (bnd (pIndexAddr prog 22 x0 x3) fun x12 =>
  bnd (pFieldAddr prog 73 x12 0) fun x13 =>
  bnd (pLoad prog 9 x13 h) fun x14 =>
  bnd (pLen prog #[9] x14 h) fun x15 =>
  bnd (pBin prog .gtr 3 (.tmp 15) (.const (.int .i64 60)) x15 (.int .i64 60)) fun x16 =>
  brV x16
  (kr (.bool false) h)
  (bnd (pBin prog .add 3 (.tmp 8) (.const (.int .i64 1)) x3 (.int .i64 1)) fun x9 =>
  F17_lrlr inv k j x0 x9 h ke0 kr))
  (ke0 x0 x3 x7 h)
def e17_0 : Ent env 17 false 20:=.lp [] 26 [0,3] [(.exit 0,[0,3,7]),(.ret,[2])] F17_lrlr
/-- shadowbook/shadowbookkit.LightCols -/
def F17 (inv : Inv) (k : Nat) (x0 : Value) (h : AH) : Option (Value × AH) :=
  F17_lrlr inv k k x0 (.int .i64 0) h
  (fun y0 y3 y7 h =>
  bnd (pLen prog #[22] y0 h) fun x18 =>
  bnd (pBin prog .leq 3 (.tmp 18) (.const (.int .i64 20)) x18 (.int .i64 20)) fun x19 =>
  some (x19,h))
  (fun y2 h_1 =>
  some (y2,h_1))
theorem F17_eq : eFun env k inv 17 #[x0] h = F17 inv k x0 h:=ks_fun (n:=20) [e17_0]
theorem F17_call : eInv env (k + 1) (.func 17) #[] #[x0] h = F17 (eInv env k) k x0 h:=kq_inv F17_eq
def F18_lrlr {β : Type} (inv : Inv) (k : Nat) : Nat→Value→Value→Value→AH→(Value→Value→Value→Value→AH→Option β)→(Value→AH→Option β)→Option β
 | 0,_,_,_,_,_,_=>none
 | j + 1,x0,x1,x5,h,ke0,kr =>
  bnd (pLen prog #[23] x0 h) fun x8 =>
  bnd (pBin prog .lss 3 (.tmp 6) (.tmp 8) x5 x8) fun x9 =>
  brV x9
  (bnd (pIndexAddr prog 23 x0 x5) fun x14 =>
  bnd (pLoad prog 34 x14 h) fun x15 =>
  bnd (inv (.func 47) #[] #[x15] h) fun x16 =>
  bnd (pUn prog .not x16.1) fun x17 =>
  brV x17
  (kr (.bool false) x16.2)
  (bnd (pBin prog .add 3 (.tmp 10) (.const (.int .i64 1)) x5 (.int .i64 1)) fun x11 =>
  F18_lrlr inv k j x0 x1 x11 x16.2 ke0 kr))
  (ke0 x0 x1 x5 x9 h)
def e18_0 : Ent env 18 false 22:=.lp [] 26 [0,1,5] [(.exit 0,[0,1,5,9]),(.ret,[4])] F18_lrlr
/-- shadowbook/shadowbookkit.LightRows -/
def F18 (inv : Inv) (k : Nat) (x0 x1 : Value) (h : AH) : Option (Value × AH) :=
  F18_lrlr inv k k x0 x1 (.int .i64 0) h
  (fun y0 y1 y5 y9 h =>
  bnd (pLen prog #[23] y0 h) fun x19 =>
  bnd (pBin prog .leq 3 (.tmp 19) (.tmp 20) x19 y1) fun x21 =>
  some (x21,h))
  (fun y4 h_1 =>
  some (y4,h_1))
theorem F18_eq : eFun env k inv 18 #[x0,x1] h = F18 inv k x0 x1 h:=ks_fun (n:=22) [e18_0]
theorem F18_call : eInv env (k + 1) (.func 18) #[] #[x0,x1] h = F18 (eInv env k) k x0 x1 h:=kq_inv F18_eq
abbrev G42_1 {β : Type} (inv : Inv) (x0 : Value) (h : AH) (K : Value→AH→Option β) : Option β :=
  bnd (pLen prog #[22] x0 h) fun x7 =>
  bnd (pBin prog .lss 3 (.tmp 7) (.const (.int .i64 1)) x7 (.int .i64 1)) fun x8 =>
  bnd (gd (some x8) false h (some (x0,h))) fun x10 =>
  bnd (gd (some x8) false x10.2 (lt (pLen prog #[22] x10.1 x10.2) x10.2)) fun x11 =>
  bnd (gd (some x8) false x11.2 (lt (pBin prog .gtr 3 (.tmp 11) (.const (.int .i64 16)) x11.1 (.int .i64 16)) x11.2)) fun x12 =>
  bnd (pickV x8 (.bool true) x12.1) fun x13 =>
  K (x13) x12.2
abbrev G42_9 {β : Type} (inv : Inv) (x0 x3 x4 x14 x15 x16 : Value) (h : AH) (K : Value→AH→Option β) : Option β :=
  bnd (pFieldAddr prog 73 x4 1) fun x27 =>
  bnd (pLoad prog 3 x27 h) fun x28 =>
  bnd (pBin prog .lss 3 (.tmp 28) (.const (.int .i64 1)) x28 (.int .i64 1)) fun x29 =>
  bnd (gd (some x29) false h (lt (pFieldAddr prog 73 x4 1) h)) fun x31 =>
  bnd (gd (some x29) false x31.2 (lt (pLoad prog 3 x31.1 x31.2) x31.2)) fun x32 =>
  bnd (gd (some x29) false x32.2 (lt (pBin prog .gtr 3 (.tmp 32) (.const (.int .i64 3)) x32.1 (.int .i64 3)) x32.2)) fun x33 =>
  bnd (pickV x29 (.bool true) x33.1) fun x34 =>
  bnd (gd (some x34) false x33.2 (some (x0,x33.2))) fun x36 =>
  bnd (gd (some x34) false x36.2 (some (x3,x36.2))) fun x37 =>
  bnd (gd (some x34) false x37.2 (lt (pSlice prog 22 x36.1 none (some x37.1) none x37.2) x37.2)) fun x38 =>
  bnd (gd (some x34) false x38.2 (lt (pMakeFunc (.func 66) #[] #[x4]) x38.2)) fun x39 =>
  bnd (gd (some x34) false x39.2 (inv (.func 65) #[] #[x38.1,x39.1] x39.2)) fun x40 =>
  bnd (pickV x34 (.bool true) x40.1) fun x41 =>
  K (x41) x40.2
def F42_lrlrr {β : Type} (inv : Inv) (k : Nat) : Nat→Value→Value→Value→Value→AH→(Value→Value→Value→Value→Value→AH→Option β)→(Value→AH→Option β)→Option β
 | 0,_,_,_,_,_,_,_=>none
 | j + 1,x0,x14,x15,x16,h,ke0,kr =>
  bnd (pBin prog .lss 3 (.tmp 16) (.tmp 15) x16 x15) fun x17 =>
  brV x17
  (bnd (pIndexAddr prog 22 x14 x16) fun x19 =>
  bnd (pLoad prog 73 x19 h) fun x20 =>
  bnd (pAlloc prog 73 h) fun x4 =>
  bnd (kSt (pStore prog 73 x4.1 x20 x4.2)) fun u =>
  bnd (pFieldAddr prog 73 x4.1 0) fun x21 =>
  bnd (pLoad prog 9 x21 u.2) fun x22 =>
  bnd (inv (.func 64) #[] #[x22] u.2) fun x23 =>
  bnd (pBin prog .neq 28 (.tmp 24) (.const (.int .i64 0)) x23.1 (.int .i64 0)) fun x25 =>
  brV x25
  (kr x23.1 x23.2)
  (G42_9 inv x0 x16 x4.1 x14 x15 x16 x23.2 fun y41 h =>
  brV y41
  (kr (.int .i64 171) h)
  (bnd (pBin prog .add 3 (.tmp 16) (.const (.int .i64 1)) x16 (.int .i64 1)) fun x42 =>
  F42_lrlrr inv k j x0 x14 x15 x42 h ke0 kr)))
  (ke0 x0 x14 x15 x16 x17 h)
def e42_0 : Ent env 42 false 43:=.lp [] 58 [0,14,15,16] [(.exit 0,[0,14,15,16,17]),(.ret,[2])] F42_lrlrr
/-- shadowbook/schema.Check -/
def F42 (inv : Inv) (k : Nat) (x0 : Value) (h : AH) : Option (Value × AH) :=
  G42_1 inv x0 h fun y13 h =>
  brV y13
  (some ((.int .i64 171),h))
  (bnd (pLen prog #[22] x0 h) fun x15 =>
  F42_lrlrr inv k k x0 x0 x15 (.int .i64 0) h
  (fun y0 y14 y15 y16 y17 h_1 =>
  some ((.int .i64 0),h_1))
  (fun y2 h_2 =>
  some (y2,h_2)))
theorem F42_eq : eFun env k inv 42 #[x0] h = F42 inv k x0 h:=ks_fun (n:=43) [e42_0]
theorem F42_call : eInv env (k + 1) (.func 42) #[] #[x0] h = F42 (eInv env k) k x0 h:=kq_inv F42_eq
def F43_lrlr {β : Type} (inv : Inv) (k : Nat) : Nat→Value→Value→Value→Value→AH→(Value→Value→Value→Value→Value→AH→Option β)→(Value→AH→Option β)→Option β
 | 0,_,_,_,_,_,_,_=>none
 | j + 1,x0,x8,x9,x10,h,ke0,kr =>
  bnd (pBin prog .lss 3 (.tmp 10) (.tmp 9) x10 x9) fun x11 =>
  brV x11
  (bnd (pIndexAddr prog 23 x8 x10) fun x12 =>
  bnd (pLoad prog 34 x12 h) fun x13 =>
  bnd (inv (.func 67) #[] #[x0,x13] h) fun x16 =>
  bnd (pBin prog .neq 28 (.tmp 17) (.const (.int .i64 0)) x16.1 (.int .i64 0)) fun x18 =>
  brV x18
  (kr x16.1 x16.2)
  (bnd (pBin prog .add 3 (.tmp 10) (.const (.int .i64 1)) x10 (.int .i64 1)) fun x20 =>
  F43_lrlr inv k j x0 x8 x9 x20 x16.2 ke0 kr))
  (ke0 x0 x8 x9 x10 x11 h)
def e43_0 : Ent env 43 false 21:=.lp [] 26 [0,8,9,10] [(.exit 0,[0,8,9,10,11]),(.ret,[4])] F43_lrlr
/-- shadowbook/group.rows -/
def F43 (inv : Inv) (k : Nat) (x0 x1 : Value) (h : AH) : Option (Value × AH) :=
  bnd (pLen prog #[23] x1 h) fun x9 =>
  F43_lrlr inv k k x0 x1 x9 (.int .i64 0) h
  (fun y0 y8 y9 y10 y11 h =>
  some ((.int .i64 0),h))
  (fun y4 h_1 =>
  some (y4,h_1))
theorem F43_eq : eFun env k inv 43 #[x0,x1] h = F43 inv k x0 x1 h:=ks_fun (n:=21) [e43_0]
theorem F43_call : eInv env (k + 1) (.func 43) #[] #[x0,x1] h = F43 (eInv env k) k x0 x1 h:=kq_inv F43_eq
def F44_rlrrllrrllrrllrrllrlrr {β : Type} (inv : Inv) (k : Nat) (x0 x5 x7 x8 x10 x11 x15 x16 x19 x20 x21 x29 : Value) (h : AH) (kn : (Value→Value→Value→Value→Value→Value→Value→Value→Value→Value→Value→Value→AH→Option β)) : Option β :=
  brV x29
  (bnd (pIndexAddr prog 34 x10 x8) fun x32 =>
  bnd (pLoad prog 39 x32 h) fun x33 =>
  bnd (kSt (pStore prog 39 x11 x33 h)) fun u =>
  kn x0 x5 x7 x8 unk x11 x15 x16 x19 x20 x21 unk u.2)
  (kn x0 x5 x7 x8 x10 x11 x15 x16 x19 x20 x21 x29 h)
def e44_0 : Ent env 44 false 47:=.jn [] 7654605 [0,5,7,8,10,11,15,16,19,20,21,29] [(.normal,[0,5,7,8,10,11,15,16,19,20,21,29])] F44_rlrrllrrllrrllrrllrlrr
abbrev G44_11 {β : Type} (inv : Inv) (x0 x5 x7 x8 x11 x15 x16 x19 x20 x21 : Value) (h : AH) (K : AH→Option β) : Option β :=
  bnd (pIndexAddr prog 23 x7 x8) fun x38 =>
  bnd (pLoad prog 34 x38 h) fun x39 =>
  bnd (pLoad prog 39 x11 h) fun x40 =>
  bnd (pBuildSlice prog 34 1 #[(0,x40)] h) fun x41 =>
  bnd (pAppend prog #[34,34] x39 x41.1 x41.2) fun x42 =>
  bnd (pIndexAddr prog 23 x7 x8) fun x43 =>
  bnd (kSt (pStore prog 34 x43 x42.1 x42.2)) fun u =>
  chkK ((!true || !true || (sameO (pLoad prog 34 x38 h) x39 && sameO (pLoad prog 34 x38 x41.2) x39)) && true) <|
  K u.2
def F44_lrrllrrllrlrr {β : Type} (inv : Inv) (k : Nat) : Nat→Value→Value→Value→Value→Value→Value→Value→Value→Value→AH→(Value→Value→Value→Value→Value→Value→Value→Value→Value→Value→AH→Option β)→Option β
 | 0,_,_,_,_,_,_,_,_,_,_,_=>none
 | j + 1,x0,x5,x7,x8,x15,x16,x19,x20,x21,h,ke2 =>
  bnd (pBin prog .lss 3 (.tmp 21) (.tmp 20) x21 x20) fun x22 =>
  brV x22
  (bnd (pIndexAddr prog 23 x19 x21) fun x23 =>
  bnd (pLoad prog 34 x23 h) fun x24 =>
  bnd (pLoad prog 39 x5 h) fun x25 =>
  bnd (pAlloc prog 39 h) fun x11 =>
  bnd (kSt (pStore prog 39 x11.1 x25 x11.2)) fun u =>
  bnd (pLen prog #[34] x24 u.2) fun x28 =>
  bnd (pBin prog .lss 3 (.tmp 26) (.tmp 28) x8 x28) fun x29 =>
  F44_rlrrllrrllrrllrrllrlrr inv k x0 x5 x7 x8 x24 x11.1 x15 x16 x19 x20 x21 x29 u.2
  (fun y0 y5 y7 y8 y10 y11 y15 y16 y19 y20 y21 y29 h =>
  G44_11 inv y0 y5 y7 y8 y11 y15 y16 y19 y20 y21 h fun  h_1 =>
  bnd (pBin prog .add 3 (.tmp 21) (.const (.int .i64 1)) y21 (.int .i64 1)) fun x44 =>
  F44_lrrllrrllrlrr inv k j y0 y5 y7 y8 y15 y16 y19 y20 x44 h_1 ke2))
  (ke2 x0 x5 x7 x8 x15 x16 x19 x20 x21 x22 h)
def e44_1 : Ent env 44 false 47:=.lp [e44_0] 14950 [0,5,7,8,15,16,19,20,21] [(.exit 2,[0,5,7,8,15,16,19,20,21,22])] F44_lrrllrrllrlrr
def F44_lrlrr {β : Type} (inv : Inv) (k : Nat) : Nat→Value→Value→Value→Value→Value→AH→(Value→Value→Value→Value→Value→Value→AH→Option β)→Option β
 | 0,_,_,_,_,_,_,_=>none
 | j + 1,x0,x5,x7,x15,x16,h,ke0 =>
  bnd (pBin prog .lss 3 (.tmp 16) (.tmp 15) x16 x15) fun x17 =>
  brV x17
  (bnd (pLen prog #[23] x0 h) fun x20 =>
  F44_lrrllrrllrlrr inv k k x0 x5 x7 x16 x15 x16 x0 x20 (.int .i64 0) h
  (fun y0 y5 y7 y8 y15 y16 y19 y20 y21 y22 h =>
  bnd (pBin prog .add 3 (.tmp 16) (.const (.int .i64 1)) y16 (.int .i64 1)) fun x45 =>
  F44_lrlrr inv k j y0 y5 y7 y15 x45 h ke0))
  (ke0 x0 x5 x7 x15 x16 x17 h)
def e44_2 : Ent env 44 false 47:=.lp [e44_0,e44_1] 58 [0,5,7,15,16] [(.exit 0,[0,5,7,15,16,17])] F44_lrlrr
/-- shadowbook/group.turned[shadowbook/api.Cell] -/
def F44 (inv : Inv) (k : Nat) (x0 x1 x2 : Value) (h : AH) : Option (Value × AH) :=
  bnd (pBox prog 39 x2 h) fun x5 =>
  bnd (pMakeSlice prog 23 x1 x1 x5.2) fun x13 =>
  bnd (pLen prog #[23] x13.1 x13.2) fun x15 =>
  F44_lrlrr inv k k x0 x5.1 x13.1 x15 (.int .i64 0) x13.2
  (fun y0 y5 y7 y15 y16 y17 h =>
  some (y7,h))
theorem F44_eq : eFun env k inv 44 #[x0,x1,x2] h = F44 inv k x0 x1 x2 h:=ks_fun (n:=47) [e44_0,e44_1,e44_2]
theorem F44_call : eInv env (k + 1) (.func 44) #[] #[x0,x1,x2] h = F44 (eInv env k) k x0 x1 x2 h:=kq_inv F44_eq
def F45_lrrllrlrrrr {β : Type} (inv : Inv) (k : Nat) (x0 x7 x8 x25 x26 x27 x28 : Value) (h : AH) (kn : (Value→Value→Value→Value→Value→Value→Value→Value→AH→Option β)) : Option β :=
  bnd (pIndexAddr prog 34 x25 x27) fun x30 =>
  bnd (pLoad prog 39 x30 h) fun x31 =>
  bnd (pAlloc prog 39 h) fun x10 =>
  bnd (kSt (pStore prog 39 x10.1 x31 x10.2)) fun u =>
  bnd (pFieldAddr prog 39 x10.1 0) fun x34 =>
  bnd (pLoad prog 3 x34 u.2) fun x35 =>
  bnd (pBin prog .eql 3 (.tmp 35) (.const (.int .i64 0)) x35 (.int .i64 0)) fun x36 =>
  bnd (pIndexAddr prog 92 x7 x27) fun x37 =>
  bnd (kSt (pStore prog 4 x37 x36 u.2)) fun u_1 =>
  bnd (pIndexAddr prog 92 x7 x27) fun x40 =>
  bnd (pLoad prog 4 x40 u_1.2) fun x41 =>
  bnd (pUn prog .not x41) fun x42 =>
  brV x42
  (bnd (pLoad prog 39 x10.1 u_1.2) fun x44 =>
  bnd (pBuildSlice prog 34 1 #[(0,x44)] u_1.2) fun x45 =>
  bnd (pAppend prog #[34,34] x8 x45.1 x45.2) fun x46 =>
  kn x0 x7 x46.1 unk x25 x26 x27 unk x46.2)
  (kn x0 x7 x8 x10.1 x25 x26 x27 x42 u_1.2)
def e45_0 : Ent env 45 false 88:=.jn [] 4006 [0,7,8,25,26,27,28] [(.normal,[0,7,8,10,25,26,27,42])] F45_lrrllrlrrrr
def F45_lrlrrrr {β : Type} (inv : Inv) (k : Nat) : Nat→Value→Value→Value→Value→Value→Value→AH→(Value→Value→Value→Value→Value→Value→Value→AH→Option β)→Option β
 | 0,_,_,_,_,_,_,_,_=>none
 | j + 1,x0,x7,x8,x25,x26,x27,h,ke0 =>
  bnd (pBin prog .lss 3 (.tmp 27) (.tmp 26) x27 x26) fun x28 =>
  brV x28
  (F45_lrrllrlrrrr inv k x0 x7 x8 x25 x26 x27 x28 h
  (fun y0 y7 y8 y10 y25 y26 y27 y42 h =>
  bnd (pBin prog .add 3 (.tmp 27) (.const (.int .i64 1)) y27 (.int .i64 1)) fun x47 =>
  F45_lrlrrrr inv k j y0 y7 y8 y25 y26 x47 h ke0))
  (ke0 x0 x7 x8 x25 x26 x27 x28 h)
def e45_1 : Ent env 45 false 88:=.lp [e45_0] 250 [0,7,8,25,26,27] [(.exit 0,[0,7,8,25,26,27,28])] F45_lrlrrrr
/-- shadowbook/segment.Put -/
def F45 (inv : Inv) (k : Nat) (x0 x1 : Value) (h : AH) : Option (Value × AH) :=
  bnd (inv (.func 68) #[] #[x0,x1] h) fun x18 =>
  bnd (pBin prog .neq 28 (.tmp 19) (.const (.int .i64 0)) x18.1 (.int .i64 0)) fun x20 =>
  brV x20
  (some (.tuple #[(.string { data:=#[] }),x18.1],x18.2))
  (bnd (pLen prog #[34] x1 x18.2) fun x23 =>
  bnd (pMakeSlice prog 92 x23 x23 x18.2) fun x24 =>
  bnd (pLen prog #[34] x1 x24.2) fun x26 =>
  F45_lrlrrrr inv k k x0 x24.1 (.slice none 0 0) x1 x26 (.int .i64 0) x24.2
  (fun y0 y7 y8 y25 y26 y27 y28 h =>
  bnd (inv (.func 69) #[] #[y7] h) fun x50 =>
  bnd (pExtract x50.1 0) fun x51 =>
  bnd (pExtract x50.1 1) fun x52 =>
  bnd (pBin prog .neq 28 (.tmp 53) (.const (.int .i64 0)) x52 (.int .i64 0)) fun x54 =>
  brV x54
  (some (.tuple #[(.string { data:=#[] }),x52],x50.2))
  (bnd (pConv prog 3 5 y0 x50.2) fun x57 =>
  bnd (pBuildSlice prog 93 1 #[(0,x57)] x50.2) fun x58 =>
  bnd (pAppend prog #[93,93] x58.1 x51 x58.2) fun x60 =>
  bnd (pLen prog #[34] y8 x60.2) fun x62 =>
  bnd (pBin prog .eql 3 (.tmp 62) (.const (.int .i64 0)) x62 (.int .i64 0)) fun x63 =>
  brV x63
  (bnd (pConv prog 93 9 x60.1 x60.2) fun x65 =>
  some (.tuple #[x65,(.int .i64 0)],x60.2))
  (bnd (inv (.func 70) #[] #[y0] x60.2) fun x67 =>
  bnd (inv (.method "shadowbook/segment.cells") #[] #[x67.1, y8] x67.2) fun x71 =>
  bnd (pExtract x71.1 0) fun x72 =>
  bnd (pExtract x71.1 1) fun x73 =>
  bnd (pBin prog .neq 28 (.tmp 74) (.const (.int .i64 0)) x73 (.int .i64 0)) fun x75 =>
  brV x75
  (some (.tuple #[(.string { data:=#[] }),x73],x71.2))
  (bnd (inv (.func 71) #[] #[y8] x71.2) fun x80 =>
  bnd (pMakeFunc (.method "shadowbook/segment.zone") #[x67.1] #[]) fun x81 =>
  bnd (pNilCheck prog x81) fun x82 =>
  bnd (inv (.method "shadowbook/segment.zone") #[] #[x67.1, x60.1, x80.1] x80.2) fun x84 =>
  bnd (pAppend prog #[93,93] x84.1 x72 x84.2) fun x86 =>
  bnd (pConv prog 93 9 x86.1 x86.2) fun x87 =>
  some (.tuple #[x87,(.int .i64 0)],x86.2))))))
theorem F45_eq : eFun env k inv 45 #[x0,x1] h = F45 inv k x0 x1 h:=ks_fun (n:=88) [e45_0,e45_1]
theorem F45_call : eInv env (k + 1) (.func 45) #[] #[x0,x1] h = F45 (eInv env k) k x0 x1 h:=kq_inv F45_eq
abbrev G46_1 {β : Type} (inv : Inv) (x0 : Value) (h : AH) (K : Value→AH→Option β) : Option β :=
  bnd (pLen prog #[9] x0 h) fun x7 =>
  bnd (pBin prog .lss 3 (.tmp 7) (.const (.int .i64 1)) x7 (.int .i64 1)) fun x8 =>
  bnd (gd (some x8) false h (some (x0,h))) fun x10 =>
  bnd (gd (some x8) false x10.2 (lt (pLen prog #[9] x10.1 x10.2) x10.2)) fun x11 =>
  bnd (gd (some x8) false x11.2 (lt (pBin prog .gtr 3 (.tmp 11) (.const (.int .i64 32)) x11.1 (.int .i64 32)) x11.2)) fun x12 =>
  bnd (pickV x8 (.bool true) x12.1) fun x13 =>
  K (x13) x12.2
abbrev G46_7 {β : Type} (inv : Inv) (x0 x3 x4 : Value) (h : AH) (K : Value→AH→Option β) : Option β :=
  bnd (pBin prog .geq 5 (.tmp 23) (.const (.int .u8 48)) x4 (.int .u8 48)) fun x24 =>
  bnd (gd (some x24) true h (some (x4,h))) fun x26 =>
  bnd (gd (some x24) true x26.2 (lt (pBin prog .leq 5 (.tmp 26) (.const (.int .u8 57)) x26.1 (.int .u8 57)) x26.2)) fun x27 =>
  bnd (pickV x24 x27.1 (.bool false)) fun x28 =>
  K (x28) x27.2
abbrev G46_8 {β : Type} (inv : Inv) (x0 x3 x4 x5 : Value) (h : AH) (K : Value→AH→Option β) : Option β :=
  bnd (pBin prog .geq 5 (.tmp 29) (.const (.int .u8 97)) x4 (.int .u8 97)) fun x30 =>
  bnd (gd (some x30) true h (some (x4,h))) fun x32 =>
  bnd (gd (some x30) true x32.2 (lt (pBin prog .leq 5 (.tmp 32) (.const (.int .u8 122)) x32.1 (.int .u8 122)) x32.2)) fun x33 =>
  bnd (pickV x30 x33.1 (.bool false)) fun x34 =>
  bnd (gd (some x34) false x33.2 (some (x4,x33.2))) fun x36 =>
  bnd (gd (some x34) false x36.2 (lt (pBin prog .geq 5 (.tmp 36) (.const (.int .u8 65)) x36.1 (.int .u8 65)) x36.2)) fun x37 =>
  bnd (gd (some x34) false x37.2 (some (x37.1,x37.2))) fun x38 =>
  bnd (gd (some x38.1) true x38.2 (some (x4,x38.2))) fun x39 =>
  bnd (gd (some x38.1) true x39.2 (lt (pBin prog .leq 5 (.tmp 39) (.const (.int .u8 90)) x39.1 (.int .u8 90)) x39.2)) fun x40 =>
  bnd (gd (some x34) false x40.2 (lt (pickV x38.1 x40.1 (.bool false)) x40.2)) fun x41 =>
  bnd (pickV x34 (.bool true) x41.1) fun x42 =>
  bnd (gd (some x42) false x41.2 (some (x4,x41.2))) fun x44 =>
  bnd (gd (some x42) false x44.2 (lt (pBin prog .eql 5 (.tmp 44) (.const (.int .u8 95)) x44.1 (.int .u8 95)) x44.2)) fun x45 =>
  bnd (pickV x42 (.bool true) x45.1) fun x46 =>
  bnd (gd (some x46) false x45.2 (some (x5,x45.2))) fun x48 =>
  bnd (gd (some x46) false x48.2 (some (x48.1,x48.2))) fun x49 =>
  bnd (gd (some x49.1) true x49.2 (some (x3,x49.2))) fun x50 =>
  bnd (gd (some x49.1) true x50.2 (lt (pBin prog .gtr 3 (.tmp 50) (.const (.int .i64 0)) x50.1 (.int .i64 0)) x50.2)) fun x51 =>
  bnd (gd (some x46) false x51.2 (lt (pickV x49.1 x51.1 (.bool false)) x51.2)) fun x52 =>
  bnd (pickV x46 (.bool true) x52.1) fun x53 =>
  bnd (pUn prog .not x53) fun x54 =>
  K (x54) x52.2
def F46_lrlrr {β : Type} (inv : Inv) (k : Nat) : Nat→Value→Value→AH→(Value→Value→Value→AH→Option β)→(Value→AH→Option β)→Option β
 | 0,_,_,_,_,_=>none
 | j + 1,x0,x3,h,ke0,kr =>
  bnd (pLen prog #[9] x0 h) fun x16 =>
  bnd (pBin prog .lss 3 (.tmp 14) (.tmp 16) x3 x16) fun x17 =>
  brV x17
  (bnd (pIndex prog 9 x0 x3) fun x22 =>
  G46_7 inv x0 x3 x22 h fun y5 h =>
  G46_8 inv x0 x3 x22 y5 h fun y54 h_1 =>
  brV y54
  (kr (.int .i64 170) h_1)
  (bnd (pBin prog .add 3 (.tmp 18) (.const (.int .i64 1)) x3 (.int .i64 1)) fun x19 =>
  F46_lrlrr inv k j x0 x19 h_1 ke0 kr))
  (ke0 x0 x3 x17 h)
def e46_0 : Ent env 46 false 55:=.lp [] 58 [0,3] [(.exit 0,[0,3,17]),(.ret,[2])] F46_lrlrr
/-- shadowbook/shadowbookref17.Name -/
def F46 (inv : Inv) (k : Nat) (x0 : Value) (h : AH) : Option (Value × AH) :=
  G46_1 inv x0 h fun y13 h =>
  brV y13
  (some ((.int .i64 170),h))
  (F46_lrlrr inv k k x0 (.int .i64 0) h
  (fun y0 y3 y17 h_2 =>
  some ((.int .i64 0),h_2))
  (fun y2 h_3 =>
  some (y2,h_3)))
theorem F46_eq : eFun env k inv 46 #[x0] h = F46 inv k x0 h:=ks_fun (n:=55) [e46_0]
theorem F46_call : eInv env (k + 1) (.func 46) #[] #[x0] h = F46 (eInv env k) k x0 h:=kq_inv F46_eq
def F47_lrlr {β : Type} (inv : Inv) (k : Nat) : Nat→Value→Value→AH→(Value→Value→Value→AH→Option β)→(Value→AH→Option β)→Option β
 | 0,_,_,_,_,_=>none
 | j + 1,x0,x3,h,ke0,kr =>
  bnd (pLen prog #[34] x0 h) fun x6 =>
  bnd (pBin prog .lss 3 (.tmp 4) (.tmp 6) x3 x6) fun x7 =>
  brV x7
  (bnd (pIndexAddr prog 34 x0 x3) fun x12 =>
  bnd (pFieldAddr prog 39 x12 2) fun x13 =>
  bnd (pLoad prog 9 x13 h) fun x14 =>
  bnd (pLen prog #[9] x14 h) fun x15 =>
  bnd (pBin prog .gtr 3 (.tmp 15) (.const (.int .i64 300)) x15 (.int .i64 300)) fun x16 =>
  brV x16
  (kr (.bool false) h)
  (bnd (pBin prog .add 3 (.tmp 8) (.const (.int .i64 1)) x3 (.int .i64 1)) fun x9 =>
  F47_lrlr inv k j x0 x9 h ke0 kr))
  (ke0 x0 x3 x7 h)
def e47_0 : Ent env 47 false 20:=.lp [] 26 [0,3] [(.exit 0,[0,3,7]),(.ret,[2])] F47_lrlr
/-- shadowbook/shadowbookkit.LightRow -/
def F47 (inv : Inv) (k : Nat) (x0 : Value) (h : AH) : Option (Value × AH) :=
  F47_lrlr inv k k x0 (.int .i64 0) h
  (fun y0 y3 y7 h =>
  bnd (pLen prog #[34] y0 h) fun x18 =>
  bnd (pBin prog .leq 3 (.tmp 18) (.const (.int .i64 20)) x18 (.int .i64 20)) fun x19 =>
  some (x19,h))
  (fun y2 h_1 =>
  some (y2,h_1))
theorem F47_eq : eFun env k inv 47 #[x0] h = F47 inv k x0 h:=ks_fun (n:=20) [e47_0]
theorem F47_call : eInv env (k + 1) (.func 47) #[] #[x0] h = F47 (eInv env k) k x0 h:=kq_inv F47_eq
/-- slices.ContainsFunc[[]string,string] -/
def F61 (inv : Inv) (k : Nat) (x0 x1 : Value) (h : AH) : Option (Value × AH) :=
  bnd (inv (.func 81) #[] #[x0,x1] h) fun x7 =>
  bnd (pBin prog .geq 3 (.tmp 7) (.const (.int .i64 0)) x7.1 (.int .i64 0)) fun x8 =>
  some (x8,x7.2)
theorem F61_eq : eFun env k inv 61 #[x0,x1] h = F61 inv k x0 x1 h:=ks_fun (n:=9) []
theorem F61_call : eInv env (k + 1) (.func 61) #[] #[x0,x1] h = F61 (eInv env k) k x0 x1 h:=kq_inv F61_eq
abbrev G64_1 {β : Type} (inv : Inv) (x0 : Value) (h : AH) (K : Value→AH→Option β) : Option β :=
  bnd (pLen prog #[9] x0 h) fun x6 =>
  bnd (pBin prog .lss 3 (.tmp 6) (.const (.int .i64 1)) x6 (.int .i64 1)) fun x7 =>
  bnd (gd (some x7) false h (some (x0,h))) fun x9 =>
  bnd (gd (some x7) false x9.2 (lt (pLen prog #[9] x9.1 x9.2) x9.2)) fun x10 =>
  bnd (gd (some x7) false x10.2 (lt (pBin prog .gtr 3 (.tmp 10) (.const (.int .i64 32)) x10.1 (.int .i64 32)) x10.2)) fun x11 =>
  bnd (pickV x7 (.bool true) x11.1) fun x12 =>
  K (x12) x11.2
abbrev G64_6 {β : Type} (inv : Inv) (x3 x4 x14 : Value) (h : AH) (K : Value→AH→Option β) : Option β :=
  bnd (pBin prog .geq 21 (.tmp 20) (.const (.int .i32 97)) x4 (.int .i32 97)) fun x21 =>
  bnd (gd (some x21) true h (some (x4,h))) fun x23 =>
  bnd (gd (some x21) true x23.2 (lt (pBin prog .leq 21 (.tmp 23) (.const (.int .i32 122)) x23.1 (.int .i32 122)) x23.2)) fun x24 =>
  bnd (pickV x21 x24.1 (.bool false)) fun x25 =>
  K (x25) x24.2
abbrev G64_7 {β : Type} (inv : Inv) (x3 x4 x14 : Value) (h : AH) (K : Value→AH→Option β) : Option β :=
  bnd (pBin prog .geq 21 (.tmp 26) (.const (.int .i32 65)) x4 (.int .i32 65)) fun x27 =>
  bnd (gd (some x27) true h (some (x4,h))) fun x29 =>
  bnd (gd (some x27) true x29.2 (lt (pBin prog .leq 21 (.tmp 29) (.const (.int .i32 90)) x29.1 (.int .i32 90)) x29.2)) fun x30 =>
  bnd (pickV x27 x30.1 (.bool false)) fun x31 =>
  K (x31) x30.2
def F64_rlllrlrrllrlrrlr {β : Type} (inv : Inv) (k : Nat) (x3 x4 x14 x19 : Value) (h : AH) (kn : (Value→Value→Value→Value→AH→Option β)) : Option β :=
  brV x19
  (kn x3 x4 x14 x19 h)
  (G64_7 inv x3 x4 x14 h fun y19 h =>
  brV y19
  (kn x3 x4 x14 y19 h)
  (bnd (pBin prog .eql 21 (.tmp 32) (.const (.int .i32 95)) x4 (.int .i32 95)) fun x33 =>
  kn x3 x4 x14 x33 h))
def e64_0 : Ent env 64 false 45:=.jn [] 111825 [3,4,14,19] [(.normal,[3,4,14,19])] F64_rlllrlrrllrlrrlr
abbrev G64_9 {β : Type} (inv : Inv) (x3 x4 x14 : Value) (h : AH) (K : Value→AH→Option β) : Option β :=
  bnd (pBin prog .gtr 3 (.tmp 35) (.const (.int .i64 0)) x3 (.int .i64 0)) fun x36 =>
  bnd (gd (some x36) true h (some (x4,h))) fun x38 =>
  bnd (gd (some x36) true x38.2 (lt (pBin prog .geq 21 (.tmp 38) (.const (.int .i32 48)) x38.1 (.int .i32 48)) x38.2)) fun x39 =>
  bnd (pickV x36 x39.1 (.bool false)) fun x40 =>
  bnd (gd (some x40) true x39.2 (some (x4,x39.2))) fun x42 =>
  bnd (gd (some x40) true x42.2 (lt (pBin prog .leq 21 (.tmp 42) (.const (.int .i32 57)) x42.1 (.int .i32 57)) x42.2)) fun x43 =>
  bnd (pickV x40 x43.1 (.bool false)) fun x44 =>
  K (x44) x43.2
def F64_lrlrrlr {β : Type} (inv : Inv) (k : Nat) : Nat→Value→Value→Value→Value→Value→AH→(Value→Value→Value→AH→Option β)→(Value→AH→Option β)→Option β
 | 0,_,_,_,_,_,_,_,_=>none
 | j + 1,x3,x4,x14,x19,x34,h,ke0,kr =>
  bnd (pNext x14 true h) fun x15 =>
  bnd (pExtract x15.1 0) fun x16 =>
  brV x16
  (bnd (pExtract x15.1 1) fun x17 =>
  bnd (pExtract x15.1 2) fun x18 =>
  G64_6 inv x17 x18 x14 x15.2 fun y19 h =>
  F64_rlllrlrrllrlrrlr inv k x17 x18 x14 y19 h
  (fun y3 y4 y14 y19_1 h_2 =>
  brV y19_1
  (F64_lrlrrlr inv k j y3 y4 y14 y19_1 unk h_2 ke0 kr)
  (G64_9 inv y3 y4 y14 h_2 fun y34 h_3 =>
  brV y34
  (F64_lrlrrlr inv k j unk unk y14 unk y34 h_3 ke0 kr)
  (kr (.int .i64 170) h_3))))
  (ke0 x14 x15.1 x16 x15.2)
def e64_1 : Ent env 64 false 45:=.lp [e64_0] 218 [3,4,14,19,34] [(.exit 0,[14,15,16]),(.ret,[2])] F64_lrlrrlr
/-- shadowbook/schema.Name -/
def F64 (inv : Inv) (k : Nat) (x0 : Value) (h : AH) : Option (Value × AH) :=
  G64_1 inv x0 h fun y12 h =>
  brV y12
  (some ((.int .i64 170),h))
  (bnd (pRange prog 9 x0 h) fun x14 =>
  F64_lrlrrlr inv k k unk unk x14.1 unk unk x14.2
  (fun y14 y15 y16 h_4 =>
  some ((.int .i64 0),h_4))
  (fun y2 h_5 =>
  some (y2,h_5)))
theorem F64_eq : eFun env k inv 64 #[x0] h = F64 inv k x0 h:=ks_fun (n:=45) [e64_0,e64_1]
theorem F64_call : eInv env (k + 1) (.func 64) #[] #[x0] h = F64 (eInv env k) k x0 h:=kq_inv F64_eq
/-- slices.ContainsFunc[[]shadowbook/api.Col,shadowbook/api.Col] -/
def F65 (inv : Inv) (k : Nat) (x0 x1 : Value) (h : AH) : Option (Value × AH) :=
  bnd (inv (.func 83) #[] #[x0,x1] h) fun x7 =>
  bnd (pBin prog .geq 3 (.tmp 7) (.const (.int .i64 0)) x7.1 (.int .i64 0)) fun x8 =>
  some (x8,x7.2)
theorem F65_eq : eFun env k inv 65 #[x0,x1] h = F65 inv k x0 x1 h:=ks_fun (n:=9) []
theorem F65_call : eInv env (k + 1) (.func 65) #[] #[x0,x1] h = F65 (eInv env k) k x0 x1 h:=kq_inv F65_eq
/-- shadowbook/schema.Check$1 -/
def F66 (inv : Inv) (k : Nat) (x0 x1 : Value) (h : AH) : Option (Value × AH) :=
  bnd (pBox prog 73 x0 h) fun x2 =>
  bnd (pFieldAddr prog 73 x2.1 0) fun x4 =>
  bnd (pLoad prog 9 x4 x2.2) fun x5 =>
  bnd (pFieldAddr prog 73 x1 0) fun x6 =>
  bnd (pLoad prog 9 x6 x2.2) fun x7 =>
  bnd (pBin prog .eql 9 (.tmp 5) (.tmp 7) x5 x7) fun x8 =>
  some (x8,x2.2)
theorem F66_eq : eFun env k inv 66 #[x0,x1] h = F66 inv k x0 x1 h:=ks_fun (n:=9) []
theorem F66_call : eInv env (k + 1) (.func 66) #[] #[x0,x1] h = F66 (eInv env k) k x0 x1 h:=kq_inv F66_eq
def F67_lrlrrr {β : Type} (inv : Inv) (k : Nat) : Nat→Value→Value→Value→Value→AH→(Value→Value→Value→Value→Value→AH→Option β)→(Value→AH→Option β)→Option β
 | 0,_,_,_,_,_,_,_=>none
 | j + 1,x1,x19,x20,x21,h,ke0,kr =>
  bnd (pBin prog .lss 3 (.tmp 21) (.tmp 20) x21 x20) fun x22 =>
  brV x22
  (bnd (pIndexAddr prog 22 x19 x21) fun x24 =>
  bnd (pLoad prog 73 x24 h) fun x25 =>
  bnd (pAlloc prog 73 h) fun x7 =>
  bnd (kSt (pStore prog 73 x7.1 x25 x7.2)) fun u =>
  bnd (pLoad prog 73 x7.1 u.2) fun x26 =>
  bnd (pIndexAddr prog 34 x1 x21) fun x29 =>
  bnd (pLoad prog 39 x29 u.2) fun x30 =>
  bnd (inv (.func 84) #[] #[x26,x30] u.2) fun x31 =>
  bnd (pBin prog .neq 28 (.tmp 32) (.const (.int .i64 0)) x31.1 (.int .i64 0)) fun x33 =>
  brV x33
  (kr x31.1 x31.2)
  (bnd (pBin prog .add 3 (.tmp 21) (.const (.int .i64 1)) x21 (.int .i64 1)) fun x35 =>
  F67_lrlrrr inv k j x1 x19 x20 x35 x31.2 ke0 kr))
  (ke0 x1 x19 x20 x21 x22 h)
def e67_0 : Ent env 67 false 36:=.lp [] 122 [1,19,20,21] [(.exit 0,[1,19,20,21,22]),(.ret,[4])] F67_lrlrrr
/-- shadowbook/schema.Row -/
def F67 (inv : Inv) (k : Nat) (x0 x1 : Value) (h : AH) : Option (Value × AH) :=
  bnd (inv (.func 42) #[] #[x0] h) fun x10 =>
  bnd (pBin prog .neq 28 (.tmp 11) (.const (.int .i64 0)) x10.1 (.int .i64 0)) fun x12 =>
  brV x12
  (some (x10.1,x10.2))
  (bnd (pLen prog #[34] x1 x10.2) fun x15 =>
  bnd (pLen prog #[22] x0 x10.2) fun x17 =>
  bnd (pBin prog .neq 3 (.tmp 15) (.tmp 17) x15 x17) fun x18 =>
  brV x18
  (some ((.int .i64 173),x10.2))
  (bnd (pLen prog #[22] x0 x10.2) fun x20 =>
  F67_lrlrrr inv k k x1 x0 x20 (.int .i64 0) x10.2
  (fun y1 y19 y20 y21 y22 h =>
  some ((.int .i64 0),h))
  (fun y4 h_1 =>
  some (y4,h_1))))
theorem F67_eq : eFun env k inv 67 #[x0,x1] h = F67 inv k x0 x1 h:=ks_fun (n:=36) [e67_0]
theorem F67_call : eInv env (k + 1) (.func 67) #[] #[x0,x1] h = F67 (eInv env k) k x0 x1 h:=kq_inv F67_eq
abbrev G68_11 {β : Type} (inv : Inv) (x0 x6 x14 x15 x16 : Value) (h : AH) (K : Value→AH→Option β) : Option β :=
  bnd (pFieldAddr prog 39 x6 0) fun x25 =>
  bnd (pLoad prog 3 x25 h) fun x26 =>
  bnd (pBin prog .neq 3 (.tmp 26) (.tmp 27) x26 x0) fun x28 =>
  bnd (gd (some x28) true h (lt (pFieldAddr prog 39 x6 0) h)) fun x30 =>
  bnd (gd (some x28) true x30.2 (lt (pLoad prog 3 x30.1 x30.2) x30.2)) fun x31 =>
  bnd (gd (some x28) true x31.2 (lt (pBin prog .neq 3 (.tmp 31) (.const (.int .i64 0)) x31.1 (.int .i64 0)) x31.2)) fun x32 =>
  bnd (pickV x28 x32.1 (.bool false)) fun x33 =>
  K (x33) x32.2
def F68_lrlrrr {β : Type} (inv : Inv) (k : Nat) : Nat→Value→Value→Value→Value→AH→(Value→Value→Value→Value→Value→AH→Option β)→(Value→AH→Option β)→Option β
 | 0,_,_,_,_,_,_,_=>none
 | j + 1,x0,x14,x15,x16,h,ke0,kr =>
  bnd (pBin prog .lss 3 (.tmp 16) (.tmp 15) x16 x15) fun x17 =>
  brV x17
  (bnd (pIndexAddr prog 34 x14 x16) fun x18 =>
  bnd (pLoad prog 39 x18 h) fun x19 =>
  bnd (pAlloc prog 39 h) fun x6 =>
  bnd (kSt (pStore prog 39 x6.1 x19 x6.2)) fun u =>
  bnd (pLoad prog 39 x6.1 u.2) fun x20 =>
  bnd (inv (.func 85) #[] #[x20] u.2) fun x21 =>
  bnd (pBin prog .neq 28 (.tmp 22) (.const (.int .i64 0)) x21.1 (.int .i64 0)) fun x23 =>
  brV x23
  (kr x21.1 x21.2)
  (G68_11 inv x0 x6.1 x14 x15 x16 x21.2 fun y33 h =>
  brV y33
  (kr (.int .i64 11) h)
  (bnd (pBin prog .add 3 (.tmp 16) (.const (.int .i64 1)) x16 (.int .i64 1)) fun x34 =>
  F68_lrlrrr inv k j x0 x14 x15 x34 h ke0 kr)))
  (ke0 x0 x14 x15 x16 x17 h)
def e68_0 : Ent env 68 false 35:=.lp [] 122 [0,14,15,16] [(.exit 0,[0,14,15,16,17]),(.ret,[4])] F68_lrlrrr
/-- shadowbook/segment.Check -/
def F68 (inv : Inv) (k : Nat) (x0 x1 : Value) (h : AH) : Option (Value × AH) :=
  bnd (inv (.func 70) #[] #[x0] h) fun x9 =>
  bnd (pBin prog .eql 97 (.tmp 9) (.const .nilIface) x9.1 .nilIface) fun x10 =>
  brV x10
  (some ((.int .i64 2),x9.2))
  (bnd (pLen prog #[34] x1 x9.2) fun x12 =>
  bnd (pBin prog .gtr 3 (.tmp 12) (.const (.int .i64 4096)) x12 (.int .i64 4096)) fun x13 =>
  brV x13
  (some ((.int .i64 3),x9.2))
  (bnd (pLen prog #[34] x1 x9.2) fun x15 =>
  F68_lrlrrr inv k k x0 x1 x15 (.int .i64 0) x9.2
  (fun y0 y14 y15 y16 y17 h =>
  some ((.int .i64 0),h))
  (fun y4 h_1 =>
  some (y4,h_1))))
theorem F68_eq : eFun env k inv 68 #[x0,x1] h = F68 inv k x0 x1 h:=ks_fun (n:=35) [e68_0]
theorem F68_call : eInv env (k + 1) (.func 68) #[] #[x0,x1] h = F68 (eInv env k) k x0 x1 h:=kq_inv F68_eq
/-- shadowbook/nulls.Put -/
def F69 (inv : Inv) (k : Nat) (x0 : Value) (h : AH) : Option (Value × AH) :=
  bnd (pLen prog #[92] x0 h) fun x9 =>
  bnd (pBin prog .gtr 3 (.tmp 9) (.const (.int .i64 4096)) x9 (.int .i64 4096)) fun x10 =>
  brV x10
  (some (.tuple #[(.slice none 0 0),(.int .i64 3)],h))
  (bnd (pLen prog #[92] x0 h) fun x13 =>
  bnd (pConv prog 3 121 x13 h) fun x14 =>
  bnd (inv (.func 86) #[] #[(.slice none 0 0),x14] h) fun x15 =>
  bnd (inv (.func 87) #[] #[x0] x15.2) fun x17 =>
  bnd (pBuildSlice prog 93 1 #[(0,x17.1)] x17.2) fun x18 =>
  bnd (pAppend prog #[93,93] x15.1 x18.1 x18.2) fun x19 =>
  bnd (inv (.func 87) #[] #[x0] x19.2) fun x21 =>
  bnd (pBin prog .neq 5 (.tmp 21) (.const (.int .u8 2)) x21.1 (.int .u8 2)) fun x22 =>
  brV x22
  (some (.tuple #[x19.1,(.int .i64 0)],x21.2))
  (bnd (inv (.func 89) #[] #[x0] x21.2) fun x26 =>
  bnd (inv (.func 88) #[] #[x26.1,(.int .i64 1)] x26.2) fun x27 =>
  bnd (pExtract x27.1 0) fun x28 =>
  bnd (pExtract x27.1 1) fun x29 =>
  bnd (pAppend prog #[93,93] x19.1 x28 x27.2) fun x32 =>
  some (.tuple #[x32.1,x29],x32.2)))
theorem F69_eq : eFun env k inv 69 #[x0] h = F69 inv k x0 h:=ks_fun (n:=34) []
theorem F69_call : eInv env (k + 1) (.func 69) #[] #[x0] h = F69 (eInv env k) k x0 h:=kq_inv F69_eq
/-- shadowbook/segment.of -/
def F70 (inv : Inv) (k : Nat) (x0 : Value) (h : AH) : Option (Value × AH) :=
  bnd (pBin prog .eql 3 (.tmp 3) (.const (.int .i64 1)) x0 (.int .i64 1)) fun x5 =>
  brV x5
  (bnd (inv (.func 90) #[] #[] h) fun x6 =>
  bnd (pMakeIface prog 132 x6.1) fun x7 =>
  some (x7,x6.2))
  (bnd (pBin prog .eql 3 (.tmp 3) (.const (.int .i64 2)) x0 (.int .i64 2)) fun x9 =>
  brV x9
  (bnd (inv (.func 91) #[] #[] h) fun x10 =>
  bnd (pMakeIface prog 140 x10.1) fun x11 =>
  some (x11,x10.2))
  (bnd (pBin prog .eql 3 (.tmp 3) (.const (.int .i64 3)) x0 (.int .i64 3)) fun x13 =>
  brV x13
  (bnd (inv (.func 92) #[] #[] h) fun x14 =>
  bnd (pMakeIface prog 148 x14.1) fun x15 =>
  some (x15,x14.2))
  (some (.nilIface,h))))
theorem F70_eq : eFun env k inv 70 #[x0] h = F70 inv k x0 h:=ks_fun (n:=16) []
theorem F70_call : eInv env (k + 1) (.func 70) #[] #[x0] h = F70 (eInv env k) k x0 h:=kq_inv F70_eq
def F71_lrlr {β : Type} (inv : Inv) (k : Nat) : Nat→Value→Value→Value→Value→AH→(Value→Value→Value→Value→Value→AH→Option β)→Option β
 | 0,_,_,_,_,_,_=>none
 | j + 1,x2,x5,x6,x7,h,ke0 =>
  bnd (pBin prog .lss 3 (.tmp 7) (.tmp 6) x7 x6) fun x8 =>
  brV x8
  (bnd (pIndexAddr prog 34 x5 x7) fun x9 =>
  bnd (pLoad prog 39 x9 h) fun x10 =>
  bnd (pAlloc prog 39 h) fun x4 =>
  bnd (kSt (pStore prog 39 x4.1 x10 x4.2)) fun u =>
  bnd (pLoad prog 53 x2 u.2) fun x11 =>
  bnd (pLoad prog 39 x4.1 u.2) fun x12 =>
  bnd (inv (.func 94) #[] #[x12] u.2) fun x13 =>
  bnd (inv (.func 93) #[] #[x11,x13.1] x13.2) fun x14 =>
  bnd (kSt (pStore prog 53 x2 x14.1 x14.2)) fun u_1 =>
  chkK ((!true || !true || (sameO (pLoad prog 53 x2 u.2) x11 && sameO (pLoad prog 53 x2 x13.2) x11)) && true) <|
  bnd (pBin prog .add 3 (.tmp 7) (.const (.int .i64 1)) x7 (.int .i64 1)) fun x15 =>
  F71_lrlr inv k j x2 x5 x6 x15 u_1.2 ke0)
  (ke0 x2 x5 x6 x7 x8 h)
def e71_0 : Ent env 71 false 17:=.lp [] 26 [2,5,6,7] [(.exit 0,[2,5,6,7,8])] F71_lrlr
/-- shadowbook/zone.Of -/
def F71 (inv : Inv) (k : Nat) (x0 : Value) (h : AH) : Option (Value × AH) :=
  bnd (pAlloc prog 53 h) fun x2 =>
  bnd (pLen prog #[34] x0 x2.2) fun x6 =>
  F71_lrlr inv k k x2.1 x0 x6 (.int .i64 0) x2.2
  (fun y2 y5 y6 y7 y8 h =>
  bnd (pLoad prog 53 y2 h) fun x16 =>
  bnd (kSt (pStore prog 53 y2 x16 h)) fun u =>
  bnd (pLoad prog 53 y2 u.2) fun q0 =>
  some (q0,u.2))
theorem F71_eq : eFun env k inv 71 #[x0] h = F71 inv k x0 h:=ks_fun (n:=17) [e71_0]
theorem F71_call : eInv env (k + 1) (.func 71) #[] #[x0] h = F71 (eInv env k) k x0 h:=kq_inv F71_eq
def F81_lrlr {β : Type} (inv : Inv) (k : Nat) : Nat→Value→Value→Value→Value→AH→(Value→Value→Value→Value→Value→AH→Option β)→(Value→AH→Option β)→Option β
 | 0,_,_,_,_,_,_,_=>none
 | j + 1,x0,x1,x7,x8,h,ke0,kr =>
  bnd (pBin prog .lss 3 (.tmp 8) (.tmp 7) x8 x7) fun x9 =>
  brV x9
  (bnd (pIndexAddr prog 27 x0 x8) fun x14 =>
  bnd (pLoad prog 9 x14 h) fun x15 =>
  bnd (callV inv x1 #[x15] h) fun x16 =>
  brV x16.1
  (kr x8 x16.2)
  (bnd (pBin prog .add 3 (.tmp 8) (.const (.int .i64 1)) x8 (.int .i64 1)) fun x18 =>
  F81_lrlr inv k j x0 x1 x7 x18 x16.2 ke0 kr))
  (ke0 x0 x1 x7 x8 x9 h)
def e81_0 : Ent env 81 false 19:=.lp [] 26 [0,1,7,8] [(.exit 0,[0,1,7,8,9]),(.ret,[4])] F81_lrlr
/-- slices.IndexFunc[[]string,string] -/
def F81 (inv : Inv) (k : Nat) (x0 x1 : Value) (h : AH) : Option (Value × AH) :=
  bnd (pLen prog #[27] x0 h) fun x7 =>
  F81_lrlr inv k k x0 x1 x7 (.int .i64 0) h
  (fun y0 y1 y7 y8 y9 h =>
  some ((.int .i64 (-1)),h))
  (fun y4 h_1 =>
  some (y4,h_1))
theorem F81_eq : eFun env k inv 81 #[x0,x1] h = F81 inv k x0 x1 h:=ks_fun (n:=19) [e81_0]
theorem F81_call : eInv env (k + 1) (.func 81) #[] #[x0,x1] h = F81 (eInv env k) k x0 x1 h:=kq_inv F81_eq
def F83_lrlr {β : Type} (inv : Inv) (k : Nat) : Nat→Value→Value→Value→Value→AH→(Value→Value→Value→Value→Value→AH→Option β)→(Value→AH→Option β)→Option β
 | 0,_,_,_,_,_,_,_=>none
 | j + 1,x0,x1,x7,x8,h,ke0,kr =>
  bnd (pBin prog .lss 3 (.tmp 8) (.tmp 7) x8 x7) fun x9 =>
  brV x9
  (bnd (pIndexAddr prog 22 x0 x8) fun x14 =>
  bnd (pLoad prog 73 x14 h) fun x15 =>
  bnd (callV inv x1 #[x15] h) fun x16 =>
  brV x16.1
  (kr x8 x16.2)
  (bnd (pBin prog .add 3 (.tmp 8) (.const (.int .i64 1)) x8 (.int .i64 1)) fun x18 =>
  F83_lrlr inv k j x0 x1 x7 x18 x16.2 ke0 kr))
  (ke0 x0 x1 x7 x8 x9 h)
def e83_0 : Ent env 83 false 19:=.lp [] 26 [0,1,7,8] [(.exit 0,[0,1,7,8,9]),(.ret,[4])] F83_lrlr
/-- slices.IndexFunc[[]shadowbook/api.Col,shadowbook/api.Col] -/
def F83 (inv : Inv) (k : Nat) (x0 x1 : Value) (h : AH) : Option (Value × AH) :=
  bnd (pLen prog #[22] x0 h) fun x7 =>
  F83_lrlr inv k k x0 x1 x7 (.int .i64 0) h
  (fun y0 y1 y7 y8 y9 h =>
  some ((.int .i64 (-1)),h))
  (fun y4 h_1 =>
  some (y4,h_1))
theorem F83_eq : eFun env k inv 83 #[x0,x1] h = F83 inv k x0 x1 h:=ks_fun (n:=19) [e83_0]
theorem F83_call : eInv env (k + 1) (.func 83) #[] #[x0,x1] h = F83 (eInv env k) k x0 x1 h:=kq_inv F83_eq
abbrev G84_4 {β : Type} (inv : Inv) (x2 x3 : Value) (h : AH) (K : Value→AH→Option β) : Option β :=
  bnd (pFieldAddr prog 39 x3 0) fun x11 =>
  bnd (pLoad prog 3 x11 h) fun x12 =>
  bnd (pFieldAddr prog 73 x2 1) fun x13 =>
  bnd (pLoad prog 3 x13 h) fun x14 =>
  bnd (pBin prog .eql 3 (.tmp 12) (.tmp 14) x12 x14) fun x15 =>
  bnd (gd (some x15) false h (lt (pFieldAddr prog 39 x3 0) h)) fun x17 =>
  bnd (gd (some x15) false x17.2 (lt (pLoad prog 3 x17.1 x17.2) x17.2)) fun x18 =>
  bnd (gd (some x15) false x18.2 (lt (pBin prog .eql 3 (.tmp 18) (.const (.int .i64 0)) x18.1 (.int .i64 0)) x18.2)) fun x19 =>
  bnd (gd (some x15) false x19.2 (some (x19.1,x19.2))) fun x20 =>
  bnd (gd (some x20.1) true x20.2 (lt (pFieldAddr prog 73 x2 2) x20.2)) fun x21 =>
  bnd (gd (some x20.1) true x21.2 (lt (pLoad prog 4 x21.1 x21.2) x21.2)) fun x22 =>
  bnd (gd (some x15) false x22.2 (lt (pickV x20.1 x22.1 (.bool false)) x22.2)) fun x23 =>
  bnd (pickV x15 (.bool true) x23.1) fun x24 =>
  K (x24) x23.2
/-- shadowbook/schema.Fits -/
def F84 (inv : Inv) (k : Nat) (x0 x1 : Value) (h : AH) : Option (Value × AH) :=
  bnd (pBox prog 73 x0 h) fun x2 =>
  bnd (pBox prog 39 x1 x2.2) fun x3 =>
  bnd (pLoad prog 39 x3.1 x3.2) fun x6 =>
  bnd (inv (.func 116) #[] #[x6] x3.2) fun x7 =>
  bnd (pBin prog .neq 28 (.tmp 8) (.const (.int .i64 0)) x7.1 (.int .i64 0)) fun x9 =>
  brV x9
  (some (x7.1,x7.2))
  (G84_4 inv x2.1 x3.1 x7.2 fun y24 h =>
  brV y24
  (some ((.int .i64 0),h))
  (some ((.int .i64 173),h)))
theorem F84_eq : eFun env k inv 84 #[x0,x1] h = F84 inv k x0 x1 h:=ks_fun (n:=25) []
theorem F84_call : eInv env (k + 1) (.func 84) #[] #[x0,x1] h = F84 (eInv env k) k x0 x1 h:=kq_inv F84_eq
def F85_rlrrr {β : Type} (inv : Inv) (k : Nat) (x1 x3 x12 : Value) (h : AH) (kn : (Value→Value→Value→Value→AH→Option β)) (kr : (Value→AH→Option β)) : Option β :=
  bnd (pBin prog .eql 3 (.tmp 12) (.const (.int .i64 0)) x12 (.int .i64 0)) fun x14 =>
  brV x14
  (kn x1 x3 x12 x14 h)
  (bnd (pBin prog .eql 3 (.tmp 12) (.const (.int .i64 1)) x12 (.int .i64 1)) fun x16 =>
  brV x16
  (bnd (pFieldAddr prog 39 x1 1) fun x17 =>
  bnd (pLoad prog 2 x17 h) fun x18 =>
  bnd (pFieldAddr prog 39 x3 1) fun x19 =>
  bnd (kSt (pStore prog 2 x19 x18 h)) fun u =>
  kn x1 x3 unk unk u.2)
  (bnd (pBin prog .eql 3 (.tmp 12) (.const (.int .i64 2)) x12 (.int .i64 2)) fun x21 =>
  brV x21
  (bnd (pFieldAddr prog 39 x1 1) fun x22 =>
  bnd (pLoad prog 2 x22 h) fun x23 =>
  bnd (pBin prog .and 2 (.tmp 23) (.const (.int .i64 1)) x23 (.int .i64 1)) fun x24 =>
  bnd (pFieldAddr prog 39 x3 1) fun x25 =>
  bnd (kSt (pStore prog 2 x25 x24 h)) fun u_1 =>
  kn x1 x3 unk unk u_1.2)
  (bnd (pBin prog .eql 3 (.tmp 12) (.const (.int .i64 3)) x12 (.int .i64 3)) fun x27 =>
  brV x27
  (bnd (pFieldAddr prog 39 x1 2) fun x28 =>
  bnd (pLoad prog 9 x28 h) fun x29 =>
  bnd (pFieldAddr prog 39 x3 2) fun x30 =>
  bnd (kSt (pStore prog 9 x30 x29 h)) fun u_2 =>
  kn x1 x3 unk unk u_2.2)
  (kr (.int .i64 2) h))))
def e85_0 : Ent env 85 false 34:=.jn [] 61 [1,3,12] [(.normal,[1,3,12,13]),(.ret,[2])] F85_rlrrr
/-- shadowbook/zone.Cell -/
def F85 (inv : Inv) (k : Nat) (x0 : Value) (h : AH) : Option (Value × AH) :=
  bnd (pBox prog 39 x0 h) fun x1 =>
  bnd (pFieldAddr prog 39 x1.1 2) fun x4 =>
  bnd (pLoad prog 9 x4 x1.2) fun x5 =>
  bnd (pLen prog #[9] x5 x1.2) fun x6 =>
  bnd (pBin prog .gtr 3 (.tmp 6) (.const (.int .i64 65536)) x6 (.int .i64 65536)) fun x7 =>
  brV x7
  (some ((.int .i64 3),x1.2))
  (bnd (pFieldAddr prog 39 x1.1 0) fun x8 =>
  bnd (pLoad prog 3 x8 x1.2) fun x9 =>
  bnd (pBuild prog 39 #[(0,x9)]) fun x10 =>
  bnd (pAlloc prog 39 x1.2) fun x3 =>
  bnd (kSt (pStore prog 39 x3.1 x10 x3.2)) fun u =>
  bnd (pFieldAddr prog 39 x1.1 0) fun x11 =>
  bnd (pLoad prog 3 x11 u.2) fun x12 =>
  F85_rlrrr inv k x1.1 x3.1 x12 u.2
  (fun y1 y3 y12 y13 h =>
  bnd (pLoad prog 39 y3 h) fun x31 =>
  bnd (pLoad prog 39 y1 h) fun x32 =>
  bnd (pBin prog .neq 39 (.tmp 31) (.tmp 32) x31 x32) fun x33 =>
  brV x33
  (some ((.int .i64 2),h))
  (some ((.int .i64 0),h)))
  (fun y2 h_3 =>
  some (y2,h_3)))
theorem F85_eq : eFun env k inv 85 #[x0] h = F85 inv k x0 h:=ks_fun (n:=34) [e85_0]
theorem F85_call : eInv env (k + 1) (.func 85) #[] #[x0] h = F85 (eInv env k) k x0 h:=kq_inv F85_eq
def F86_llr {β : Type} (inv : Inv) (k : Nat) : Nat→Value→Value→AH→(Value→Value→Value→AH→Option β)→Option β
 | 0,_,_,_,_=>none
 | j + 1,x0,x1,h,ke0 =>
  bnd (pBin prog .geq 121 (.tmp 5) (.const (.int .u64 128)) x1 (.int .u64 128)) fun x6 =>
  brV x6
  (bnd (pConv prog 121 5 x1 h) fun x11 =>
  bnd (pBin prog .or 5 (.tmp 11) (.const (.int .u8 128)) x11 (.int .u8 128)) fun x12 =>
  bnd (pBuildSlice prog 93 1 #[(0,x12)] h) fun x13 =>
  bnd (pAppend prog #[93,93] x0 x13.1 x13.2) fun x14 =>
  bnd (pBin prog .shr 121 (.tmp 7) (.const (.int .u64 7)) x1 (.int .u64 7)) fun x8 =>
  F86_llr inv k j x14.1 x8 x14.2 ke0)
  (ke0 x0 x1 x6 h)
def e86_0 : Ent env 86 false 20:=.lp [] 12 [0,1] [(.exit 0,[0,1,6])] F86_llr
/-- shadowbook/octet.PutVar -/
def F86 (inv : Inv) (k : Nat) (x0 x1 : Value) (h : AH) : Option (Value × AH) :=
  F86_llr inv k k x0 x1 h
  (fun y0 y1 y6 h =>
  bnd (pConv prog 121 5 y1 h) fun x17 =>
  bnd (pBuildSlice prog 93 1 #[(0,x17)] h) fun x18 =>
  bnd (pAppend prog #[93,93] y0 x18.1 x18.2) fun x19 =>
  some (x19.1,x19.2))
theorem F86_eq : eFun env k inv 86 #[x0,x1] h = F86 inv k x0 x1 h:=ks_fun (n:=20) [e86_0]
theorem F86_call : eInv env (k + 1) (.func 86) #[] #[x0,x1] h = F86 (eInv env k) k x0 x1 h:=kq_inv F86_eq
/-- (shadowbook/nulls.flags).form -/
def F87 (inv : Inv) (k : Nat) (x0 : Value) (h : AH) : Option (Value × AH) :=
  bnd (inv (.func 117) #[] #[x0] h) fun x4 =>
  bnd (pBin prog .eql 3 (.tmp 4) (.const (.int .i64 0)) x4.1 (.int .i64 0)) fun x6 =>
  brV x6
  (some ((.int .u8 0),x4.2))
  (bnd (pLen prog #[119] x0 x4.2) fun x9 =>
  bnd (pBin prog .eql 3 (.tmp 4) (.tmp 9) x4.1 x9) fun x10 =>
  brV x10
  (some ((.int .u8 1),x4.2))
  (some ((.int .u8 2),x4.2)))
theorem F87_eq : eFun env k inv 87 #[x0] h = F87 inv k x0 h:=ks_fun (n:=11) []
theorem F87_call : eInv env (k + 1) (.func 87) #[] #[x0] h = F87 (eInv env k) k x0 h:=kq_inv F87_eq
def F88_lrrllrrllrlrrrrrr {β : Type} (inv : Inv) (k : Nat) : Nat→Value→Value→Value→Value→Value→Value→Value→Value→Value→Value→Value→AH→(Value→Value→Value→Value→Value→Value→Value→Value→Value→Value→Value→Value→AH→Option β)→Option β
 | 0,_,_,_,_,_,_,_,_,_,_,_,_,_=>none
 | j + 1,x1,x6,x7,x8,x9,x11,x29,x30,x31,x35,x36,h,ke3 =>
  bnd (pBin prog .lss 3 (.tmp 36) (.tmp 35) x36 x35) fun x37 =>
  brV x37
  (bnd (pBin prog .and 121 (.tmp 39) (.const (.int .u64 1)) x11 (.int .u64 1)) fun x40 =>
  bnd (pConv prog 121 5 x40 h) fun x41 =>
  bnd (callV inv x9 #[x41] h) fun x42 =>
  bnd (pBin prog .shr 121 (.tmp 43) (.const (.int .u64 1)) x11 (.int .u64 1)) fun x44 =>
  bnd (pBin prog .add 3 (.tmp 36) (.const (.int .i64 1)) x36 (.int .i64 1)) fun x45 =>
  F88_lrrllrrllrlrrrrrr inv k j x1 x6 x7 x8 x9 x44 x29 x30 x31 x35 x45 x42.2 ke3)
  (ke3 x1 x6 x7 x8 x9 x11 x29 x30 x31 x35 x36 x37 h)
def e88_0 : Ent env 88 false 54:=.lp [] 260710 [1,6,7,8,9,11,29,30,31,35,36] [(.exit 3,[1,6,7,8,9,11,29,30,31,35,36,37])] F88_lrrllrrllrlrrrrrr
def F88_lrlrrrrrr {β : Type} (inv : Inv) (k : Nat) : Nat→Value→Value→Value→Value→Value→Value→Value→Value→AH→(Value→Value→Value→Value→Value→Value→Value→Value→Value→AH→Option β)→Option β
 | 0,_,_,_,_,_,_,_,_,_,_=>none
 | j + 1,x1,x6,x7,x8,x9,x29,x30,x31,h,ke1 =>
  bnd (pBin prog .lss 3 (.tmp 31) (.tmp 30) x31 x30) fun x32 =>
  brV x32
  (bnd (pIndexAddr prog 124 x29 x31) fun x33 =>
  bnd (pLoad prog 121 x33 h) fun x34 =>
  F88_lrrllrrllrlrrrrrr inv k k x1 x6 x7 x8 x9 x34 x29 x30 x31 x1 (.int .i64 0) h
  (fun y1 y6 y7 y8 y9 y11 y29 y30 y31 y35 y36 y37 h =>
  bnd (pBin prog .add 3 (.tmp 31) (.const (.int .i64 1)) y31 (.int .i64 1)) fun x46 =>
  F88_lrlrrrrrr inv k j y1 y6 y7 y8 y9 y29 y30 x46 h ke1))
  (ke1 x1 x6 x7 x8 x9 x29 x30 x31 x32 h)
def e88_1 : Ent env 88 false 54:=.lp [e88_0] 1018 [1,6,7,8,9,29,30,31] [(.exit 1,[1,6,7,8,9,29,30,31,32])] F88_lrlrrrrrr
def F88_rlrrrrrrr {β : Type} (inv : Inv) (k : Nat) (x6 x7 x48 : Value) (h : AH) (kn : (Value→Value→Value→AH→Option β)) : Option β :=
  brV x48
  (bnd (pLoad prog 93 x6 h) fun x49 =>
  bnd (pLoad prog 5 x7 h) fun x50 =>
  bnd (pBuildSlice prog 93 1 #[(0,x50)] h) fun x51 =>
  bnd (pAppend prog #[93,93] x49 x51.1 x51.2) fun x52 =>
  bnd (kSt (pStore prog 93 x6 x52.1 x52.2)) fun u =>
  kn x6 unk unk u.2)
  (kn x6 x7 x48 h)
def e88_2 : Ent env 88 false 54:=.jn [e88_0,e88_1] 1021 [6,7,48] [(.normal,[6,7,48])] F88_rlrrrrrrr
/-- shadowbook/packs.Put -/
def F88 (inv : Inv) (k : Nat) (x0 x1 : Value) (h : AH) : Option (Value × AH) :=
  bnd (pLen prog #[124] x0 h) fun x14 =>
  bnd (inv (.func 118) #[] #[x14,x1] h) fun x16 =>
  bnd (pUn prog .not x16.1) fun x17 =>
  brV x17
  (some (.tuple #[(.slice none 0 0),(.int .i64 2)],x16.2))
  (bnd (inv (.func 119) #[] #[x0] x16.2) fun x20 =>
  bnd (pBin prog .gtr 3 (.tmp 20) (.tmp 21) x20.1 x1) fun x22 =>
  brV x22
  (some (.tuple #[(.slice none 0 0),(.int .i64 3)],x20.2))
  (bnd (pLen prog #[124] x0 x20.2) fun x24 =>
  bnd (inv (.func 120) #[] #[x24,x1] x20.2) fun x26 =>
  bnd (pMakeSlice prog 93 (.int .i64 0) x26.1 x26.2) fun x27 =>
  bnd (pAlloc prog 93 x27.2) fun x6 =>
  bnd (kSt (pStore prog 93 x6.1 x27.1 x6.2)) fun u =>
  bnd (pAlloc prog 5 u.2) fun x7 =>
  bnd (pAlloc prog 3 x7.2) fun x8 =>
  bnd (kSt (pStore prog 3 x8.1 (.int .i64 0) x8.2)) fun u_1 =>
  bnd (pMakeFunc (.func 121) #[] #[x7.1,x8.1,x6.1]) fun x28 =>
  bnd (pLen prog #[124] x0 u_1.2) fun x30 =>
  F88_lrlrrrrrr inv k k x1 x6.1 x7.1 x8.1 x28 x0 x30 (.int .i64 0) u_1.2
  (fun y1 y6 y7 y8 y9 y29 y30 y31 y32 h =>
  bnd (pLoad prog 3 y8 h) fun x47 =>
  bnd (pBin prog .gtr 3 (.tmp 47) (.const (.int .i64 0)) x47 (.int .i64 0)) fun x48 =>
  F88_rlrrrrrrr inv k y6 y7 x48 h
  (fun y6_2 y7_3 y48 h_4 =>
  bnd (pLoad prog 93 y6_2 h_4) fun x53 =>
  some (.tuple #[x53,(.int .i64 0)],h_4)))))
theorem F88_eq : eFun env k inv 88 #[x0,x1] h = F88 inv k x0 x1 h:=ks_fun (n:=54) [e88_0,e88_1,e88_2]
theorem F88_call : eInv env (k + 1) (.func 88) #[] #[x0,x1] h = F88 (eInv env k) k x0 x1 h:=kq_inv F88_eq
def F89_lrrllrlrr {β : Type} (inv : Inv) (k : Nat) (x3 x9 x10 x11 x12 : Value) (h : AH) (kn : (Value→Value→Value→Value→Value→Value→AH→Option β)) : Option β :=
  bnd (pIndexAddr prog 119 x9 x11) fun x14 =>
  bnd (pLoad prog 4 x14 h) fun x15 =>
  brV x15
  (bnd (pIndexAddr prog 124 x3 x11) fun x19 =>
  bnd (kSt (pStore prog 121 x19 (.int .u64 1) h)) fun u =>
  kn x3 unk x9 x10 x11 unk u.2)
  (kn x3 x11 x9 x10 x11 x15 h)
def e89_0 : Ent env 89 false 22:=.jn [] 934 [3,9,10,11,12] [(.normal,[3,4,9,10,11,16])] F89_lrrllrlrr
def F89_lrlrr {β : Type} (inv : Inv) (k : Nat) : Nat→Value→Value→Value→Value→AH→(Value→Value→Value→Value→Value→AH→Option β)→Option β
 | 0,_,_,_,_,_,_=>none
 | j + 1,x3,x9,x10,x11,h,ke0 =>
  bnd (pBin prog .lss 3 (.tmp 11) (.tmp 10) x11 x10) fun x12 =>
  brV x12
  (F89_lrrllrlrr inv k x3 x9 x10 x11 x12 h
  (fun y3 y4 y9 y10 y11 y16 h =>
  bnd (pBin prog .add 3 (.tmp 11) (.const (.int .i64 1)) y11 (.int .i64 1)) fun x20 =>
  F89_lrlrr inv k j y3 y9 y10 x20 h ke0))
  (ke0 x3 x9 x10 x11 x12 h)
def e89_1 : Ent env 89 false 22:=.lp [e89_0] 58 [3,9,10,11] [(.exit 0,[3,9,10,11,12])] F89_lrlrr
/-- (shadowbook/nulls.flags).numbers -/
def F89 (inv : Inv) (k : Nat) (x0 : Value) (h : AH) : Option (Value × AH) :=
  bnd (pLen prog #[119] x0 h) fun x7 =>
  bnd (pMakeSlice prog 124 x7 x7 h) fun x8 =>
  bnd (pLen prog #[119] x0 x8.2) fun x10 =>
  F89_lrlrr inv k k x8.1 x0 x10 (.int .i64 0) x8.2
  (fun y3 y9 y10 y11 y12 h =>
  some (y3,h))
theorem F89_eq : eFun env k inv 89 #[x0] h = F89 inv k x0 h:=ks_fun (n:=22) [e89_0,e89_1]
theorem F89_call : eInv env (k + 1) (.func 89) #[] #[x0] h = F89 (eInv env k) k x0 h:=kq_inv F89_eq
/-- shadowbook/segment.numbers -/
def F90 (inv : Inv) (k : Nat) (h : AH) : Option (Value × AH) :=
  bnd (pAlloc prog 132 h) fun x0 =>
  bnd (pBuild prog 132 #[(0,(.func (.func 122) #[] #[])),(1,(.func (.func 123) #[] #[])),(2,(.func (.func 124) #[] #[])),(3,(.func (.func 126) #[] #[])),(4,(.func (.func 128) #[] #[])),(5,(.func (.func 129) #[] #[]))]) fun x1 =>
  bnd (kSt (pStore prog 132 x0.1 x1 x0.2)) fun u =>
  bnd (pLoad prog 132 x0.1 u.2) fun q0 =>
  some (q0,u.2)
theorem F90_eq : eFun env k inv 90 #[] h = F90 inv k  h:=ks_fun (n:=2) []
theorem F90_call : eInv env (k + 1) (.func 90) #[] #[] h = F90 (eInv env k) k  h:=kq_inv F90_eq
/-- shadowbook/segment.truths -/
def F91 (inv : Inv) (k : Nat) (h : AH) : Option (Value × AH) :=
  bnd (pAlloc prog 140 h) fun x0 =>
  bnd (pBuild prog 140 #[(0,(.func (.func 131) #[] #[])),(1,(.func (.func 132) #[] #[])),(2,(.func (.func 133) #[] #[])),(3,(.func (.func 134) #[] #[])),(4,(.func (.func 135) #[] #[])),(5,(.func (.func 136) #[] #[]))]) fun x1 =>
  bnd (kSt (pStore prog 140 x0.1 x1 x0.2)) fun u =>
  bnd (pLoad prog 140 x0.1 u.2) fun q0 =>
  some (q0,u.2)
theorem F91_eq : eFun env k inv 91 #[] h = F91 inv k  h:=ks_fun (n:=2) []
theorem F91_call : eInv env (k + 1) (.func 91) #[] #[] h = F91 (eInv env k) k  h:=kq_inv F91_eq
/-- shadowbook/segment.words -/
def F92 (inv : Inv) (k : Nat) (h : AH) : Option (Value × AH) :=
  bnd (pAlloc prog 148 h) fun x0 =>
  bnd (pBuild prog 148 #[(0,(.func (.func 138) #[] #[])),(1,(.func (.func 139) #[] #[])),(2,(.func (.func 140) #[] #[])),(3,(.func (.func 141) #[] #[])),(4,(.func (.func 143) #[] #[])),(5,(.func (.func 144) #[] #[]))]) fun x1 =>
  bnd (kSt (pStore prog 148 x0.1 x1 x0.2)) fun u =>
  bnd (pLoad prog 148 x0.1 u.2) fun q0 =>
  some (q0,u.2)
theorem F92_eq : eFun env k inv 92 #[] h = F92 inv k  h:=ks_fun (n:=2) []
theorem F92_call : eInv env (k + 1) (.func 92) #[] #[] h = F92 (eInv env k) k  h:=kq_inv F92_eq
abbrev G93_1 {β : Type} (inv : Inv) (x2 x3 x4 : Value) (h : AH) (K : Value→AH→Option β) : Option β :=
  bnd (pFieldAddr prog 53 x2 0) fun x6 =>
  bnd (pLoad prog 3 x6 h) fun x7 =>
  bnd (pFieldAddr prog 53 x3 0) fun x8 =>
  bnd (pLoad prog 3 x8 h) fun x9 =>
  bnd (pBin prog .add 3 (.tmp 7) (.tmp 9) x7 x9) fun x10 =>
  bnd (pFieldAddr prog 53 x2 1) fun x11 =>
  bnd (pLoad prog 3 x11 h) fun x12 =>
  bnd (pFieldAddr prog 53 x3 1) fun x13 =>
  bnd (pLoad prog 3 x13 h) fun x14 =>
  bnd (pBin prog .add 3 (.tmp 12) (.tmp 14) x12 x14) fun x15 =>
  bnd (pFieldAddr prog 53 x2 2) fun x16 =>
  bnd (pLoad prog 39 x16 h) fun x17 =>
  bnd (pFieldAddr prog 53 x2 3) fun x18 =>
  bnd (pLoad prog 39 x18 h) fun x19 =>
  bnd (pBuild prog 53 #[(0,x10),(1,x15),(2,x17),(3,x19)]) fun x20 =>
  bnd (pAlloc prog 53 h) fun x5 =>
  bnd (kSt (pStore prog 53 x5.1 x20 x5.2)) fun u =>
  K (x5.1) u.2
abbrev G93_3 {β : Type} (inv : Inv) (x3 x4 x5 : Value) (h : AH) (K : AH→Option β) : Option β :=
  bnd (pFieldAddr prog 53 x3 2) fun x27 =>
  bnd (pLoad prog 39 x27 h) fun x28 =>
  bnd (pFieldAddr prog 53 x3 3) fun x29 =>
  bnd (pLoad prog 39 x29 h) fun x30 =>
  bnd (pFieldAddr prog 53 x5 2) fun x31 =>
  bnd (kSt (pStore prog 39 x31 x28 h)) fun u =>
  bnd (pFieldAddr prog 53 x5 3) fun x32 =>
  bnd (kSt (pStore prog 39 x32 x30 u.2)) fun u_1 =>
  chkK ((!true || !true || (sameO (pLoad prog 39 x29 h) x30 && sameO (pLoad prog 39 x29 u.2) x30)) && true) <|
  K u_1.2
def F93_rllrrrllrr {β : Type} (inv : Inv) (k : Nat) (x3 x4 x5 x44 : Value) (h : AH) (kn : (Value→Value→Value→Value→AH→Option β)) : Option β :=
  brV x44
  (bnd (pFieldAddr prog 53 x3 2) fun x45 =>
  bnd (pLoad prog 39 x45 h) fun x46 =>
  bnd (pFieldAddr prog 53 x5 2) fun x47 =>
  bnd (kSt (pStore prog 39 x47 x46 h)) fun u =>
  kn x3 x4 x5 unk u.2)
  (kn x3 x4 x5 x44 h)
def e93_0 : Ent env 93 false 58:=.jn [] 1849 [3,4,5,44] [(.normal,[3,4,5,44])] F93_rllrrrllrr
def F93_lrr {β : Type} (inv : Inv) (k : Nat) (x2 x3 x4 x5 : Value) (h : AH) (kn : (Value→Value→Value→Value→Value→AH→Option β)) : Option β :=
  bnd (pFieldAddr prog 53 x2 0) fun x22 =>
  bnd (pLoad prog 3 x22 h) fun x23 =>
  bnd (pFieldAddr prog 53 x2 1) fun x24 =>
  bnd (pLoad prog 3 x24 h) fun x25 =>
  bnd (pBin prog .eql 3 (.tmp 23) (.tmp 25) x23 x25) fun x26 =>
  brV x26
  (G93_3 inv x3 x4 x5 h fun  h =>
  kn unk x4 x5 unk unk h)
  (bnd (pFieldAddr prog 53 x3 0) fun x34 =>
  bnd (pLoad prog 3 x34 h) fun x35 =>
  bnd (pFieldAddr prog 53 x3 1) fun x36 =>
  bnd (pLoad prog 3 x36 h) fun x37 =>
  bnd (pBin prog .neq 3 (.tmp 35) (.tmp 37) x35 x37) fun x38 =>
  brV x38
  (bnd (pFieldAddr prog 53 x3 2) fun x39 =>
  bnd (pLoad prog 39 x39 h) fun x40 =>
  bnd (pFieldAddr prog 53 x5 2) fun x41 =>
  bnd (pLoad prog 39 x41 h) fun x42 =>
  bnd (inv (.func 146) #[] #[x40,x42] h) fun x43 =>
  bnd (pBin prog .lss 3 (.tmp 43) (.const (.int .i64 0)) x43.1 (.int .i64 0)) fun x44 =>
  F93_rllrrrllrr inv k x3 x4 x5 x44 x43.2
  (fun y3 y4 y5 y44 h_2 =>
  bnd (pFieldAddr prog 53 y3 3) fun x48 =>
  bnd (pLoad prog 39 x48 h_2) fun x49 =>
  bnd (pFieldAddr prog 53 y5 3) fun x50 =>
  bnd (pLoad prog 39 x50 h_2) fun x51 =>
  bnd (inv (.func 146) #[] #[x49,x51] h_2) fun x52 =>
  bnd (pBin prog .gtr 3 (.tmp 52) (.const (.int .i64 0)) x52.1 (.int .i64 0)) fun x53 =>
  brV x53
  (bnd (pFieldAddr prog 53 y3 3) fun x54 =>
  bnd (pLoad prog 39 x54 x52.2) fun x55 =>
  bnd (pFieldAddr prog 53 y5 3) fun x56 =>
  bnd (kSt (pStore prog 39 x56 x55 x52.2)) fun u =>
  kn unk y4 y5 unk unk u.2)
  (kn y3 y4 y5 unk x53 x52.2)))
  (kn x3 x4 x5 x38 unk h))
def e93_1 : Ent env 93 false 58:=.jn [e93_0] 14 [2,3,4,5] [(.normal,[3,4,5,33,53])] F93_lrr
/-- shadowbook/zone.Join -/
def F93 (inv : Inv) (k : Nat) (x0 x1 : Value) (h : AH) : Option (Value × AH) :=
  bnd (pBox prog 53 x0 h) fun x2 =>
  bnd (pBox prog 53 x1 x2.2) fun x3 =>
  bnd (pAlloc prog 53 x3.2) fun x4 =>
  G93_1 inv x2.1 x3.1 x4.1 x4.2 fun y5 h =>
  F93_lrr inv k x2.1 x3.1 x4.1 y5 h
  (fun y3 y4 y5_3 y33 y53 h_4 =>
  bnd (pLoad prog 53 y5_3 h_4) fun x57 =>
  bnd (kSt (pStore prog 53 y4 x57 h_4)) fun u =>
  bnd (pLoad prog 53 y4 u.2) fun q0 =>
  some (q0,u.2))
theorem F93_eq : eFun env k inv 93 #[x0,x1] h = F93 inv k x0 x1 h:=ks_fun (n:=58) [e93_0,e93_1]
theorem F93_call : eInv env (k + 1) (.func 93) #[] #[x0,x1] h = F93 (eInv env k) k x0 x1 h:=kq_inv F93_eq
/-- shadowbook/zone.one -/
def F94 (inv : Inv) (k : Nat) (x0 : Value) (h : AH) : Option (Value × AH) :=
  bnd (pBox prog 39 x0 h) fun x1 =>
  bnd (pAlloc prog 53 x1.2) fun x2 =>
  bnd (pFieldAddr prog 39 x1.1 0) fun x3 =>
  bnd (pLoad prog 3 x3 x2.2) fun x4 =>
  bnd (pBin prog .eql 3 (.tmp 4) (.const (.int .i64 0)) x4 (.int .i64 0)) fun x5 =>
  brV x5
  (bnd (pBuild prog 53 #[(0,(.int .i64 1)),(1,(.int .i64 1))]) fun x6 =>
  bnd (kSt (pStore prog 53 x2.1 x6 x2.2)) fun u =>
  bnd (pLoad prog 53 x2.1 u.2) fun q0 =>
  some (q0,u.2))
  (bnd (pLoad prog 39 x1.1 x2.2) fun x7 =>
  bnd (pLoad prog 39 x1.1 x2.2) fun x8 =>
  bnd (pBuild prog 53 #[(0,(.int .i64 1)),(2,x7),(3,x8)]) fun x9 =>
  bnd (kSt (pStore prog 53 x2.1 x9 x2.2)) fun u_1 =>
  bnd (pLoad prog 53 x2.1 u_1.2) fun q0 =>
  some (q0,u_1.2))
theorem F94_eq : eFun env k inv 94 #[x0] h = F94 inv k x0 h:=ks_fun (n:=10) []
theorem F94_call : eInv env (k + 1) (.func 94) #[] #[x0] h = F94 (eInv env k) k x0 h:=kq_inv F94_eq
abbrev G116_8 {β : Type} (inv : Inv) (x1 : Value) (h : AH) (K : Value→AH→Option β) : Option β :=
  bnd (pFieldAddr prog 39 x1 2) fun x18 =>
  bnd (pLoad prog 9 x18 h) fun x19 =>
  bnd (pBin prog .eql 9 (.tmp 19) (.const (.string { data:=#[] })) x19 (.string { data:=#[] })) fun x20 =>
  bnd (gd (some x20) true h (lt (pFieldAddr prog 39 x1 1) h)) fun x22 =>
  bnd (gd (some x20) true x22.2 (lt (pLoad prog 2 x22.1 x22.2) x22.2)) fun x23 =>
  bnd (gd (some x20) true x23.2 (lt (pBin prog .andNot 2 (.tmp 23) (.const (.int .i64 1)) x23.1 (.int .i64 1)) x23.2)) fun x24 =>
  bnd (gd (some x20) true x24.2 (lt (pBin prog .eql 2 (.tmp 24) (.const (.int .i64 0)) x24.1 (.int .i64 0)) x24.2)) fun x25 =>
  bnd (pickV x20 x25.1 (.bool false)) fun x26 =>
  K (x26) x25.2
abbrev G116_10 {β : Type} (inv : Inv) (x1 : Value) (h : AH) (K : Value→AH→Option β) : Option β :=
  bnd (pFieldAddr prog 39 x1 1) fun x29 =>
  bnd (pLoad prog 2 x29 h) fun x30 =>
  bnd (pBin prog .eql 2 (.tmp 30) (.const (.int .i64 0)) x30 (.int .i64 0)) fun x31 =>
  bnd (gd (some x31) true h (lt (pFieldAddr prog 39 x1 2) h)) fun x33 =>
  bnd (gd (some x31) true x33.2 (lt (pLoad prog 9 x33.1 x33.2) x33.2)) fun x34 =>
  bnd (gd (some x31) true x34.2 (lt (pLen prog #[9] x34.1 x34.2) x34.2)) fun x35 =>
  bnd (gd (some x31) true x35.2 (lt (pBin prog .leq 3 (.tmp 35) (.const (.int .i64 256)) x35.1 (.int .i64 256)) x35.2)) fun x36 =>
  bnd (pickV x31 x36.1 (.bool false)) fun x37 =>
  K (x37) x36.2
def F116_rlrr {β : Type} (inv : Inv) (k : Nat) (x1 x3 x5 : Value) (h : AH) (kn : (Value→Value→Value→AH→Option β)) : Option β :=
  bnd (pBin prog .eql 3 (.tmp 5) (.const (.int .i64 0)) x5 (.int .i64 0)) fun x7 =>
  brV x7
  (bnd (pLoad prog 39 x1 h) fun x8 =>
  bnd (pBuild prog 39 #[]) fun x9 =>
  bnd (pBin prog .eql 39 (.tmp 8) (.tmp 9) x8 x9) fun x10 =>
  kn unk x10 unk h)
  (bnd (pBin prog .eql 3 (.tmp 5) (.const (.int .i64 1)) x5 (.int .i64 1)) fun x12 =>
  brV x12
  (bnd (pFieldAddr prog 39 x1 2) fun x13 =>
  bnd (pLoad prog 9 x13 h) fun x14 =>
  bnd (pBin prog .eql 9 (.tmp 14) (.const (.string { data:=#[] })) x14 (.string { data:=#[] })) fun x15 =>
  kn unk x15 unk h)
  (bnd (pBin prog .eql 3 (.tmp 5) (.const (.int .i64 2)) x5 (.int .i64 2)) fun x17 =>
  brV x17
  (G116_8 inv x1 h fun y3 h =>
  kn unk y3 unk h)
  (bnd (pBin prog .eql 3 (.tmp 5) (.const (.int .i64 3)) x5 (.int .i64 3)) fun x28 =>
  brV x28
  (G116_10 inv x1 h fun y3_1 h_2 =>
  kn unk y3_1 unk h_2)
  (kn x1 x3 x28 h))))
def e116_0 : Ent env 116 false 40:=.jn [] 29 [1,3,5] [(.normal,[1,3,27])] F116_rlrr
/-- shadowbook/value.Check -/
def F116 (inv : Inv) (k : Nat) (x0 : Value) (h : AH) : Option (Value × AH) :=
  bnd (pBox prog 39 x0 h) fun x1 =>
  bnd (pFieldAddr prog 39 x1.1 0) fun x4 =>
  bnd (pLoad prog 3 x4 x1.2) fun x5 =>
  F116_rlrr inv k x1.1 (.bool false) x5 x1.2
  (fun y1 y3 y27 h =>
  bnd (pUn prog .not y3) fun x39 =>
  brV x39
  (some ((.int .i64 160),h))
  (some ((.int .i64 0),h)))
theorem F116_eq : eFun env k inv 116 #[x0] h = F116 inv k x0 h:=ks_fun (n:=40) [e116_0]
theorem F116_call : eInv env (k + 1) (.func 116) #[] #[x0] h = F116 (eInv env k) k x0 h:=kq_inv F116_eq
def F117_lrrllrlr {β : Type} (inv : Inv) (k : Nat) (x2 x5 x6 x7 x8 : Value) (h : AH) (kn : (Value→Value→Value→Value→Value→AH→Option β)) : Option β :=
  bnd (pIndexAddr prog 119 x5 x7) fun x9 =>
  bnd (pLoad prog 4 x9 h) fun x10 =>
  brV x10
  (bnd (pBin prog .add 3 (.tmp 12) (.const (.int .i64 1)) x2 (.int .i64 1)) fun x13 =>
  kn x13 x5 x6 x7 unk h)
  (kn x2 x5 x6 x7 x10 h)
def e117_0 : Ent env 117 false 16:=.jn [] 422 [2,5,6,7,8] [(.normal,[2,5,6,7,11])] F117_lrrllrlr
def F117_lrlr {β : Type} (inv : Inv) (k : Nat) : Nat→Value→Value→Value→Value→AH→(Value→Value→Value→Value→Value→AH→Option β)→Option β
 | 0,_,_,_,_,_,_=>none
 | j + 1,x2,x5,x6,x7,h,ke0 =>
  bnd (pBin prog .lss 3 (.tmp 7) (.tmp 6) x7 x6) fun x8 =>
  brV x8
  (F117_lrrllrlr inv k x2 x5 x6 x7 x8 h
  (fun y2 y5 y6 y7 y11 h =>
  bnd (pBin prog .add 3 (.tmp 7) (.const (.int .i64 1)) y7 (.int .i64 1)) fun x14 =>
  F117_lrlr inv k j y2 y5 y6 x14 h ke0))
  (ke0 x2 x5 x6 x7 x8 h)
def e117_1 : Ent env 117 false 16:=.lp [e117_0] 26 [2,5,6,7] [(.exit 0,[2,5,6,7,8])] F117_lrlr
/-- (shadowbook/nulls.flags).count -/
def F117 (inv : Inv) (k : Nat) (x0 : Value) (h : AH) : Option (Value × AH) :=
  bnd (pLen prog #[119] x0 h) fun x6 =>
  F117_lrlr inv k k (.int .i64 0) x0 x6 (.int .i64 0) h
  (fun y2 y5 y6 y7 y8 h =>
  some (y2,h))
theorem F117_eq : eFun env k inv 117 #[x0] h = F117 inv k x0 h:=ks_fun (n:=16) [e117_0,e117_1]
theorem F117_call : eInv env (k + 1) (.func 117) #[] #[x0] h = F117 (eInv env k) k x0 h:=kq_inv F117_eq
abbrev G118_1 {β : Type} (inv : Inv) (x0 x1 : Value) (h : AH) (K : Value→AH→Option β) : Option β :=
  bnd (pBin prog .geq 3 (.tmp 5) (.const (.int .i64 0)) x0 (.int .i64 0)) fun x6 =>
  bnd (gd (some x6) true h (some (x0,h))) fun x8 =>
  bnd (gd (some x6) true x8.2 (lt (pBin prog .leq 3 (.tmp 8) (.const (.int .i64 65536)) x8.1 (.int .i64 65536)) x8.2)) fun x9 =>
  bnd (pickV x6 x9.1 (.bool false)) fun x10 =>
  bnd (gd (some x10) true x9.2 (some (x1,x9.2))) fun x12 =>
  bnd (gd (some x10) true x12.2 (lt (pBin prog .geq 3 (.tmp 12) (.const (.int .i64 0)) x12.1 (.int .i64 0)) x12.2)) fun x13 =>
  bnd (pickV x10 x13.1 (.bool false)) fun x14 =>
  bnd (gd (some x14) true x13.2 (some (x1,x13.2))) fun x16 =>
  bnd (gd (some x14) true x16.2 (lt (pBin prog .leq 3 (.tmp 16) (.const (.int .i64 64)) x16.1 (.int .i64 64)) x16.2)) fun x17 =>
  bnd (pickV x14 x17.1 (.bool false)) fun x18 =>
  K (x18) x17.2
/-- shadowbook/packs.may -/
def F118 (inv : Inv) (k : Nat) (x0 x1 : Value) (h : AH) : Option (Value × AH) :=
  G118_1 inv x0 x1 h fun y4 h =>
  some (y4,h)
theorem F118_eq : eFun env k inv 118 #[x0,x1] h = F118 inv k x0 x1 h:=ks_fun (n:=19) []
theorem F118_call : eInv env (k + 1) (.func 118) #[] #[x0,x1] h = F118 (eInv env k) k x0 x1 h:=kq_inv F118_eq
def F119_lrlrr {β : Type} (inv : Inv) (k : Nat) : Nat→Value→Value→Value→Value→AH→(Value→Value→Value→Value→Value→AH→Option β)→Option β
 | 0,_,_,_,_,_,_=>none
 | j + 1,x3,x6,x7,x8,h,ke0 =>
  bnd (pBin prog .lss 3 (.tmp 8) (.tmp 7) x8 x7) fun x9 =>
  brV x9
  (bnd (pIndexAddr prog 124 x6 x8) fun x10 =>
  bnd (pLoad prog 121 x10 h) fun x11 =>
  bnd (pBin prog .or 121 (.tmp 12) (.tmp 13) x3 x11) fun x14 =>
  bnd (pBin prog .add 3 (.tmp 8) (.const (.int .i64 1)) x8 (.int .i64 1)) fun x15 =>
  F119_lrlrr inv k j x14 x6 x7 x15 h ke0)
  (ke0 x3 x6 x7 x8 x9 h)
def e119_0 : Ent env 119 false 18:=.lp [] 58 [3,6,7,8] [(.exit 0,[3,6,7,8,9])] F119_lrlrr
/-- shadowbook/packs.Width -/
def F119 (inv : Inv) (k : Nat) (x0 : Value) (h : AH) : Option (Value × AH) :=
  bnd (pLen prog #[124] x0 h) fun x7 =>
  F119_lrlrr inv k k (.int .u64 0) x0 x7 (.int .i64 0) h
  (fun y3 y6 y7 y8 y9 h =>
  bnd (inv (.func 167) #[] #[y3] h) fun x17 =>
  some (x17.1,x17.2))
theorem F119_eq : eFun env k inv 119 #[x0] h = F119 inv k x0 h:=ks_fun (n:=18) [e119_0]
theorem F119_call : eInv env (k + 1) (.func 119) #[] #[x0] h = F119 (eInv env k) k x0 h:=kq_inv F119_eq
abbrev G120_3 {β : Type} (inv : Inv) (x0 x1 : Value) (h : AH) (K : Value→AH→Option β) : Option β :=
  bnd (pBin prog .mul 3 (.tmp 9) (.tmp 10) x0 x1) fun x11 =>
  bnd (pBin prog .add 3 (.tmp 11) (.const (.int .i64 8)) x11 (.int .i64 8)) fun x12 =>
  bnd (pBin prog .sub 3 (.tmp 12) (.const (.int .i64 1)) x12 (.int .i64 1)) fun x13 =>
  bnd (pBin prog .quo 3 (.tmp 13) (.const (.int .i64 8)) x13 (.int .i64 8)) fun x14 =>
  K (x14) h
/-- shadowbook/packs.Size -/
def F120 (inv : Inv) (k : Nat) (x0 x1 : Value) (h : AH) : Option (Value × AH) :=
  bnd (inv (.func 118) #[] #[x0,x1] h) fun x7 =>
  bnd (pUn prog .not x7.1) fun x8 =>
  brV x8
  (some ((.int .i64 0),x7.2))
  (G120_3 inv x0 x1 x7.2 fun y4 h =>
  some (y4,h))
theorem F120_eq : eFun env k inv 120 #[x0,x1] h = F120 inv k x0 x1 h:=ks_fun (n:=15) []
theorem F120_call : eInv env (k + 1) (.func 120) #[] #[x0,x1] h = F120 (eInv env k) k x0 x1 h:=kq_inv F120_eq
/-- shadowbook/packs.Put$1 -/
def F121 (inv : Inv) (k : Nat) (x0 x1 x2 x3 : Value) (h : AH) : Option (Value × AH) :=
  bnd (pLoad prog 5 x1 h) fun x5 =>
  bnd (pLoad prog 3 x2 h) fun x7 =>
  bnd (pBin prog .shl 5 (.tmp 6) (.tmp 7) x0 x7) fun x8 =>
  bnd (pBin prog .or 5 (.tmp 5) (.tmp 8) x5 x8) fun x9 =>
  bnd (kSt (pStore prog 5 x1 x9 h)) fun u =>
  bnd (pLoad prog 3 x2 u.2) fun x10 =>
  bnd (pBin prog .add 3 (.tmp 10) (.const (.int .i64 1)) x10 (.int .i64 1)) fun x11 =>
  bnd (kSt (pStore prog 3 x2 x11 u.2)) fun u_1 =>
  bnd (pLoad prog 3 x2 u_1.2) fun x12 =>
  bnd (pBin prog .eql 3 (.tmp 12) (.const (.int .i64 8)) x12 (.int .i64 8)) fun x13 =>
  brV x13
  (bnd (pLoad prog 93 x3 u_1.2) fun x14 =>
  bnd (pLoad prog 5 x1 u_1.2) fun x15 =>
  bnd (pBuildSlice prog 93 1 #[(0,x15)] u_1.2) fun x16 =>
  bnd (pAppend prog #[93,93] x14 x16.1 x16.2) fun x17 =>
  bnd (kSt (pStore prog 93 x3 x17.1 x17.2)) fun u_2 =>
  bnd (kSt (pStore prog 5 x1 (.int .u8 0) u_2.2)) fun u_4 =>
  bnd (kSt (pStore prog 3 x2 (.int .i64 0) u_4.2)) fun u_5 =>
  some (.tuple #[],u_5.2))
  (some (.tuple #[],u_1.2))
theorem F121_eq : eFun env k inv 121 #[x0,x1,x2,x3] h = F121 inv k x0 x1 x2 x3 h:=ks_fun (n:=18) []
theorem F121_call : eInv env (k + 1) (.func 121) #[] #[x0,x1,x2,x3] h = F121 (eInv env k) k x0 x1 x2 x3 h:=kq_inv F121_eq
/-- shadowbook/segment.numbers$1 -/
def F122 (inv : Inv) (k : Nat) (x0 : Value) (h : AH) : Option (Value × AH) :=
  bnd (pBox prog 39 x0 h) fun x1 =>
  bnd (pFieldAddr prog 39 x1.1 1) fun x3 =>
  bnd (pLoad prog 2 x3 x1.2) fun x4 =>
  some (x4,x1.2)
theorem F122_eq : eFun env k inv 122 #[x0] h = F122 inv k x0 h:=ks_fun (n:=5) []
theorem F122_call : eInv env (k + 1) (.func 122) #[] #[x0] h = F122 (eInv env k) k x0 h:=kq_inv F122_eq
/-- shadowbook/segment.numbers$3 -/
def F124 (inv : Inv) (k : Nat) (x0 x1 : Value) (h : AH) : Option (Value × AH) :=
  bnd (pConv prog 2 121 x1 h) fun x7 =>
  bnd (inv (.func 125) #[] #[x0,x7,(.int .i64 8)] h) fun x8 =>
  some (x8.1,x8.2)
theorem F124_eq : eFun env k inv 124 #[x0,x1] h = F124 inv k x0 x1 h:=ks_fun (n:=9) []
theorem F124_call : eInv env (k + 1) (.func 124) #[] #[x0,x1] h = F124 (eInv env k) k x0 x1 h:=kq_inv F124_eq
abbrev G125_1 {β : Type} (inv : Inv) (x0 x1 x2 : Value) (h : AH) (K : Value→AH→Option β) : Option β :=
  bnd (pBin prog .lss 3 (.tmp 8) (.const (.int .i64 1)) x2 (.int .i64 1)) fun x9 =>
  bnd (gd (some x9) false h (some (x2,h))) fun x11 =>
  bnd (gd (some x9) false x11.2 (lt (pBin prog .gtr 3 (.tmp 11) (.const (.int .i64 8)) x11.1 (.int .i64 8)) x11.2)) fun x12 =>
  bnd (pickV x9 (.bool true) x12.1) fun x13 =>
  K (x13) x12.2
def F125_lrlrr {β : Type} (inv : Inv) (k : Nat) : Nat→Value→Value→Value→Value→AH→(Value→Value→Value→Value→Value→AH→Option β)→Option β
 | 0,_,_,_,_,_,_=>none
 | j + 1,x0,x1,x15,x16,h,ke0 =>
  bnd (pBin prog .lss 3 (.tmp 16) (.tmp 15) x16 x15) fun x17 =>
  brV x17
  (bnd (pBin prog .mul 3 (.const (.int .i64 8)) (.tmp 21) (.int .i64 8) x16) fun x22 =>
  bnd (pBin prog .shr 121 (.tmp 20) (.tmp 22) x1 x22) fun x23 =>
  bnd (pConv prog 121 5 x23 h) fun x24 =>
  bnd (pBuildSlice prog 93 1 #[(0,x24)] h) fun x25 =>
  bnd (pAppend prog #[93,93] x0 x25.1 x25.2) fun x26 =>
  bnd (pBin prog .add 3 (.tmp 16) (.const (.int .i64 1)) x16 (.int .i64 1)) fun x27 =>
  F125_lrlrr inv k j x26.1 x1 x15 x27 x26.2 ke0)
  (ke0 x0 x1 x15 x16 x17 h)
def e125_0 : Ent env 125 false 29:=.lp [] 58 [0,1,15,16] [(.exit 0,[0,1,15,16,17])] F125_lrlrr
/-- shadowbook/octet.Put -/
def F125 (inv : Inv) (k : Nat) (x0 x1 x2 : Value) (h : AH) : Option (Value × AH) :=
  G125_1 inv x0 x1 x2 h fun y13 h =>
  brV y13
  (some (x0,h))
  (F125_lrlrr inv k k x0 x1 x2 (.int .i64 0) h
  (fun y0 y1 y15 y16 y17 h_1 =>
  some (y0,h_1)))
theorem F125_eq : eFun env k inv 125 #[x0,x1,x2] h = F125 inv k x0 x1 x2 h:=ks_fun (n:=29) [e125_0]
theorem F125_call : eInv env (k + 1) (.func 125) #[] #[x0,x1,x2] h = F125 (eInv env k) k x0 x1 x2 h:=kq_inv F125_eq
def F128_lrlrr {β : Type} (inv : Inv) (k : Nat) : Nat→Value→Value→Value→Value→Value→AH→(Value→Value→Value→Value→Value→Value→AH→Option β)→(Value→Value→AH→Option β)→Option β
 | 0,_,_,_,_,_,_,_,_=>none
 | j + 1,x0,x4,x9,x10,x11,h,ke0,kr =>
  bnd (pBin prog .lss 3 (.tmp 11) (.tmp 10) x11 x10) fun x12 =>
  brV x12
  (bnd (pIndexAddr prog 196 x9 x11) fun x13 =>
  bnd (pLoad prog 200 x13 h) fun x14 =>
  bnd (pAlloc prog 200 h) fun x6 =>
  bnd (kSt (pStore prog 200 x6.1 x14 x6.2)) fun u =>
  bnd (pFieldAddr prog 200 x6.1 1) fun x16 =>
  bnd (pLoad prog 129 x16 u.2) fun x17 =>
  bnd (callV inv x17 #[x0] u.2) fun x19 =>
  bnd (pExtract x19.1 0) fun x20 =>
  bnd (pExtract x19.1 1) fun x21 =>
  bnd (pBin prog .neq 28 (.tmp 22) (.const (.int .i64 0)) x21 (.int .i64 0)) fun x23 =>
  brV x23
  (kr (.slice none 0 0) x21 x19.2)
  (bnd (pBuildSlice prog 195 1 #[(0,x20)] x19.2) fun x27 =>
  bnd (pAppend prog #[195,195] x4 x27.1 x27.2) fun x28 =>
  bnd (pBin prog .add 3 (.tmp 11) (.const (.int .i64 1)) x11 (.int .i64 1)) fun x29 =>
  F128_lrlrr inv k j x0 x28.1 x9 x10 x29 x28.2 ke0 kr))
  (ke0 x0 x4 x9 x10 x11 x12 h)
def e128_0 : Ent env 128 false 32:=.lp [] 58 [0,4,9,10,11] [(.exit 0,[0,4,9,10,11,12]),(.ret,[2,3])] F128_lrlrr
/-- shadowbook/ints.Put -/
def F128 (inv : Inv) (k : Nat) (x0 : Value) (h : AH) : Option (Value × AH) :=
  bnd (inv (.func 169) #[] #[] h) fun x9 =>
  bnd (pLen prog #[196] x9.1 x9.2) fun x10 =>
  F128_lrlrr inv k k x0 (.slice none 0 0) x9.1 x10 (.int .i64 0) x9.2
  (fun y0 y4 y9 y10 y11 y12 h =>
  bnd (inv (.func 170) #[] #[y4,(.func (.func 171) #[] #[])] h) fun x31 =>
  some (.tuple #[x31.1,(.int .i64 0)],x31.2))
  (fun y2 y3 h_1 =>
  some (.tuple #[y2,y3],h_1))
theorem F128_eq : eFun env k inv 128 #[x0] h = F128 inv k x0 h:=ks_fun (n:=32) [e128_0]
theorem F128_call : eInv env (k + 1) (.func 128) #[] #[x0] h = F128 (eInv env k) k x0 h:=kq_inv F128_eq
/-- shadowbook/segment.truths$1 -/
def F131 (inv : Inv) (k : Nat) (x0 : Value) (h : AH) : Option (Value × AH) :=
  bnd (pBox prog 39 x0 h) fun x1 =>
  bnd (pFieldAddr prog 39 x1.1 1) fun x3 =>
  bnd (pLoad prog 2 x3 x1.2) fun x4 =>
  bnd (pConv prog 2 121 x4 x1.2) fun x5 =>
  some (x5,x1.2)
theorem F131_eq : eFun env k inv 131 #[x0] h = F131 inv k x0 h:=ks_fun (n:=6) []
theorem F131_call : eInv env (k + 1) (.func 131) #[] #[x0] h = F131 (eInv env k) k x0 h:=kq_inv F131_eq
/-- shadowbook/segment.truths$3 -/
def F133 (inv : Inv) (k : Nat) (x0 x1 : Value) (h : AH) : Option (Value × AH) :=
  bnd (pConv prog 121 5 x1 h) fun x7 =>
  bnd (pBuildSlice prog 93 1 #[(0,x7)] h) fun x8 =>
  bnd (pAppend prog #[93,93] x0 x8.1 x8.2) fun x9 =>
  some (x9.1,x9.2)
theorem F133_eq : eFun env k inv 133 #[x0,x1] h = F133 inv k x0 x1 h:=ks_fun (n:=10) []
theorem F133_call : eInv env (k + 1) (.func 133) #[] #[x0,x1] h = F133 (eInv env k) k x0 x1 h:=kq_inv F133_eq
/-- shadowbook/segment.truths$5 -/
def F135 (inv : Inv) (k : Nat) (x0 : Value) (h : AH) : Option (Value × AH) :=
  bnd (inv (.func 88) #[] #[x0,(.int .i64 1)] h) fun x5 =>
  bnd (pExtract x5.1 0) fun x6 =>
  bnd (pExtract x5.1 1) fun x7 =>
  some (.tuple #[x6,x7],x5.2)
theorem F135_eq : eFun env k inv 135 #[x0] h = F135 inv k x0 h:=ks_fun (n:=8) []
theorem F135_call : eInv env (k + 1) (.func 135) #[] #[x0] h = F135 (eInv env k) k x0 h:=kq_inv F135_eq
/-- shadowbook/segment.words$1 -/
def F138 (inv : Inv) (k : Nat) (x0 : Value) (h : AH) : Option (Value × AH) :=
  bnd (pBox prog 39 x0 h) fun x1 =>
  bnd (pFieldAddr prog 39 x1.1 2) fun x3 =>
  bnd (pLoad prog 9 x3 x1.2) fun x4 =>
  some (x4,x1.2)
theorem F138_eq : eFun env k inv 138 #[x0] h = F138 inv k x0 h:=ks_fun (n:=5) []
theorem F138_call : eInv env (k + 1) (.func 138) #[] #[x0] h = F138 (eInv env k) k x0 h:=kq_inv F138_eq
/-- shadowbook/segment.words$3 -/
def F140 (inv : Inv) (k : Nat) (x0 x1 : Value) (h : AH) : Option (Value × AH) :=
  bnd (pLen prog #[9] x1 h) fun x7 =>
  bnd (pConv prog 3 121 x7 h) fun x8 =>
  bnd (inv (.func 86) #[] #[x0,x8] h) fun x9 =>
  bnd (pAppend prog #[93,9] x9.1 x1 x9.2) fun x11 =>
  some (x11.1,x11.2)
theorem F140_eq : eFun env k inv 140 #[x0,x1] h = F140 inv k x0 x1 h:=ks_fun (n:=12) []
theorem F140_call : eInv env (k + 1) (.func 140) #[] #[x0,x1] h = F140 (eInv env k) k x0 x1 h:=kq_inv F140_eq
abbrev G143_5 {β : Type} (inv : Inv) (x4 x6 x7 : Value) (h : AH) (K : Value→AH→Option β) : Option β :=
  bnd (pBin prog .eql 28 (.tmp 21) (.const (.int .i64 0)) x7 (.int .i64 0)) fun x22 =>
  bnd (gd (some x22) true h (some (x6,h))) fun x24 =>
  bnd (gd (some x22) true x24.2 (lt (pLen prog #[93] x24.1 x24.2) x24.2)) fun x25 =>
  bnd (gd (some x22) true x25.2 (some (x4,x25.2))) fun x26 =>
  bnd (gd (some x22) true x26.2 (lt (pLen prog #[93] x26.1 x26.2) x26.2)) fun x27 =>
  bnd (gd (some x22) true x27.2 (lt (pBin prog .lss 3 (.tmp 25) (.tmp 27) x25.1 x27.1) x27.2)) fun x28 =>
  bnd (pickV x22 x28.1 (.bool false)) fun x29 =>
  K (x29) x28.2
/-- shadowbook/texts.Put -/
def F143 (inv : Inv) (k : Nat) (x0 : Value) (h : AH) : Option (Value × AH) :=
  bnd (inv (.func 178) #[] #[x0] h) fun x10 =>
  bnd (pExtract x10.1 0) fun x11 =>
  bnd (pExtract x10.1 1) fun x12 =>
  bnd (pBin prog .neq 28 (.tmp 13) (.const (.int .i64 0)) x12 (.int .i64 0)) fun x14 =>
  brV x14
  (some (.tuple #[(.slice none 0 0),x12],x10.2))
  (bnd (inv (.func 179) #[] #[x0] x10.2) fun x18 =>
  bnd (pExtract x18.1 0) fun x19 =>
  bnd (pExtract x18.1 1) fun x20 =>
  G143_5 inv x11 x19 x20 x18.2 fun y29 h =>
  brV y29
  (some (.tuple #[x19,(.int .i64 0)],h))
  (some (.tuple #[x11,(.int .i64 0)],h)))
theorem F143_eq : eFun env k inv 143 #[x0] h = F143 inv k x0 h:=ks_fun (n:=32) []
theorem F143_call : eInv env (k + 1) (.func 143) #[] #[x0] h = F143 (eInv env k) k x0 h:=kq_inv F143_eq
abbrev G146_1 {β : Type} (inv : Inv) (x2 x3 : Value) (h : AH) (K : Value→AH→Option β) : Option β :=
  bnd (pFieldAddr prog 39 x2 0) fun x5 =>
  bnd (pLoad prog 3 x5 h) fun x6 =>
  bnd (pFieldAddr prog 39 x3 0) fun x7 =>
  bnd (pLoad prog 3 x7 h) fun x8 =>
  bnd (inv (.func 172) #[] #[x6,x8] h) fun x9 =>
  bnd (pFieldAddr prog 39 x2 1) fun x10 =>
  bnd (pLoad prog 2 x10 x9.2) fun x11 =>
  bnd (pFieldAddr prog 39 x3 1) fun x12 =>
  bnd (pLoad prog 2 x12 x9.2) fun x13 =>
  bnd (inv (.func 183) #[] #[x11,x13] x9.2) fun x14 =>
  bnd (pFieldAddr prog 39 x2 2) fun x15 =>
  bnd (pLoad prog 9 x15 x14.2) fun x16 =>
  bnd (pFieldAddr prog 39 x3 2) fun x17 =>
  bnd (pLoad prog 9 x17 x14.2) fun x18 =>
  bnd (inv (.func 184) #[] #[x16,x18] x14.2) fun x19 =>
  bnd (pBuildSlice prog 24 3 #[(0,x9.1),(1,x14.1),(2,x19.1)] x19.2) fun x20 =>
  bnd (inv (.func 182) #[] #[x20.1] x20.2) fun x21 =>
  chkK ((!true || !true || (sameO (pLoad prog 2 x10 h) x11 && sameO (pLoad prog 2 x10 x9.2) x11)) && ((!true || !true || (sameO (pLoad prog 2 x12 h) x13 && sameO (pLoad prog 2 x12 x9.2) x13)) && ((!true || !true || (sameO (pLoad prog 9 x15 h) x16 && sameO (pLoad prog 9 x15 x9.2) x16)) && ((!true || !true || (sameO (pLoad prog 9 x15 x9.2) x16 && sameO (pLoad prog 9 x15 x14.2) x16)) && ((!true || !true || (sameO (pLoad prog 9 x17 h) x18 && sameO (pLoad prog 9 x17 x9.2) x18)) && ((!true || !true || (sameO (pLoad prog 9 x17 x9.2) x18 && sameO (pLoad prog 9 x17 x14.2) x18)) && true)))))) <|
  K (x21.1) x21.2
/-- shadowbook/zone.Compare -/
def F146 (inv : Inv) (k : Nat) (x0 x1 : Value) (h : AH) : Option (Value × AH) :=
  bnd (pBox prog 39 x0 h) fun x2 =>
  bnd (pBox prog 39 x1 x2.2) fun x3 =>
  G146_1 inv x2.1 x3.1 x3.2 fun y4 h =>
  some (y4,h)
theorem F146_eq : eFun env k inv 146 #[x0,x1] h = F146 inv k x0 x1 h:=ks_fun (n:=22) []
theorem F146_call : eInv env (k + 1) (.func 146) #[] #[x0,x1] h = F146 (eInv env k) k x0 x1 h:=kq_inv F146_eq
def F167_rlr {β : Type} (inv : Inv) (k : Nat) (x0 x2 x4 : Value) (h : AH) (kn : (Value→Value→Value→AH→Option β)) : Option β :=
  brV x4
  (bnd (pBin prog .shr 121 (.tmp 5) (.const (.int .u64 32)) x0 (.int .u64 32)) fun x6 =>
  kn x6 (.int .i64 32) unk h)
  (kn x0 x2 x4 h)
def e167_0 : Ent env 167 false 25:=.jn [] 13 [0,2,4] [(.normal,[0,2,4])] F167_rlr
def F167_rlrr {β : Type} (inv : Inv) (k : Nat) (x0 x2 x8 : Value) (h : AH) (kn : (Value→Value→Value→AH→Option β)) : Option β :=
  brV x8
  (bnd (pBin prog .shr 121 (.tmp 9) (.const (.int .u64 16)) x0 (.int .u64 16)) fun x10 =>
  bnd (pBin prog .add 3 (.tmp 11) (.const (.int .i64 16)) x2 (.int .i64 16)) fun x12 =>
  kn x10 x12 unk h)
  (kn x0 x2 x8 h)
def e167_1 : Ent env 167 false 25:=.jn [e167_0] 29 [0,2,8] [(.normal,[0,2,8])] F167_rlrr
def F167_rlrrr {β : Type} (inv : Inv) (k : Nat) (x0 x2 x14 : Value) (h : AH) (kn : (Value→Value→Value→AH→Option β)) : Option β :=
  brV x14
  (bnd (pBin prog .shr 121 (.tmp 15) (.const (.int .u64 8)) x0 (.int .u64 8)) fun x16 =>
  bnd (pBin prog .add 3 (.tmp 17) (.const (.int .i64 8)) x2 (.int .i64 8)) fun x18 =>
  kn x16 x18 unk h)
  (kn x0 x2 x14 h)
def e167_2 : Ent env 167 false 25:=.jn [e167_0,e167_1] 61 [0,2,14] [(.normal,[0,2,14])] F167_rlrrr
abbrev G167_10 {β : Type} (inv : Inv) (x0 x2 : Value) (h : AH) (K : Value→AH→Option β) : Option β :=
  bnd (pConv prog 121 5 x0 h) fun x21 =>
  bnd (pIndex prog 9 (.string { data:=#[0,1,2,2,3,3,3,3,4,4,4,4,4,4,4,4,5,5,5,5,5,5,5,5,5,5,5,5,5,5,5,5,6,6,6,6,6,6,6,6,6,6,6,6,6,6,6,6,6,6,6,6,6,6,6,6,6,6,6,6,6,6,6,6,7,7,7,7,7,7,7,7,7,7,7,7,7,7,7,7,7,7,7,7,7,7,7,7,7,7,7,7,7,7,7,7,7,7,7,7,7,7,7,7,7,7,7,7,7,7,7,7,7,7,7,7,7,7,7,7,7,7,7,7,7,7,7,7,8,8,8,8,8,8,8,8,8,8,8,8,8,8,8,8,8,8,8,8,8,8,8,8,8,8,8,8,8,8,8,8,8,8,8,8,8,8,8,8,8,8,8,8,8,8,8,8,8,8,8,8,8,8,8,8,8,8,8,8,8,8,8,8,8,8,8,8,8,8,8,8,8,8,8,8,8,8,8,8,8,8,8,8,8,8,8,8,8,8,8,8,8,8,8,8,8,8,8,8,8,8,8,8,8,8,8,8,8,8,8,8,8,8,8,8,8,8,8,8,8,8,8,8,8,8,8,8] }) x21) fun x22 =>
  bnd (pConv prog 5 3 x22 h) fun x23 =>
  bnd (pBin prog .add 3 (.tmp 19) (.tmp 23) x2 x23) fun x24 =>
  K (x24) h
/-- math/bits.Len64 -/
def F167 (inv : Inv) (k : Nat) (x0 : Value) (h : AH) : Option (Value × AH) :=
  bnd (pBin prog .geq 121 (.tmp 3) (.const (.int .u64 4294967296)) x0 (.int .u64 4294967296)) fun x4 =>
  F167_rlr inv k x0 (.int .i64 0) x4 h
  (fun y0 y2 y4 h =>
  bnd (pBin prog .geq 121 (.tmp 7) (.const (.int .u64 65536)) y0 (.int .u64 65536)) fun x8 =>
  F167_rlrr inv k y0 y2 x8 h
  (fun y0_1 y2_2 y8 h_3 =>
  bnd (pBin prog .geq 121 (.tmp 13) (.const (.int .u64 256)) y0_1 (.int .u64 256)) fun x14 =>
  F167_rlrrr inv k y0_1 y2_2 x14 h_3
  (fun y0_4 y2_5 y14 h_6 =>
  G167_10 inv y0_4 y2_5 h_6 fun y2_7 h_8 =>
  some (y2_7,h_8))))
theorem F167_eq : eFun env k inv 167 #[x0] h = F167 inv k x0 h:=ks_fun (n:=25) [e167_0,e167_1,e167_2]
theorem F167_call : eInv env (k + 1) (.func 167) #[] #[x0] h = F167 (eInv env k) k x0 h:=kq_inv F167_eq
abbrev G169_1 {β : Type} (inv : Inv) (h : AH) (K : Value→AH→Option β) : Option β :=
  bnd (pBuild prog 200 #[(0,(.int .u8 1)),(1,(.func (.func 192) #[] #[])),(2,(.func (.func 193) #[] #[]))]) fun x1 =>
  bnd (pBuild prog 200 #[(0,(.int .u8 2)),(1,(.func (.func 194) #[] #[])),(2,(.func (.func 195) #[] #[]))]) fun x2 =>
  bnd (pBuild prog 200 #[(0,(.int .u8 3)),(1,(.func (.func 196) #[] #[])),(2,(.func (.func 197) #[] #[]))]) fun x3 =>
  bnd (pBuildSlice prog 196 3 #[(0,x1),(1,x2),(2,x3)] h) fun x4 =>
  K (x4.1) x4.2
/-- shadowbook/ints.forms -/
def F169 (inv : Inv) (k : Nat) (h : AH) : Option (Value × AH) :=
  G169_1 inv  h fun y0 h =>
  some (y0,h)
theorem F169_eq : eFun env k inv 169 #[] h = F169 inv k  h:=ks_fun (n:=5) []
theorem F169_call : eInv env (k + 1) (.func 169) #[] #[] h = F169 (eInv env k) k  h:=kq_inv F169_eq
def F170_rlr {β : Type} (inv : Inv) (k : Nat) (x0 x1 x9 : Value) (h : AH) (kn : (Value→Value→Value→AH→Option β)) : Option β :=
  brV x9
  (bnd (pMakeIface prog 9 (.string { data:=#[115,108,105,99,101,115,46,77,105,110,70,117,110,99,58,32,101,109,112,116,121,32,108,105,115,116] })) fun x10 =>
  bnd ((none : Option (Value × AH))) fun u =>
  kn x0 x1 unk u.2)
  (kn x0 x1 x9 h)
def e170_0 : Ent env 170 false 33:=.jn [] 13 [0,1,9] [(.normal,[0,1,9])] F170_rlr
def F170_lrllrlrrr {β : Type} (inv : Inv) (k : Nat) (x0 x1 x5 x6 x17 : Value) (h : AH) (kn : (Value→Value→Value→Value→Value→AH→Option β)) : Option β :=
  bnd (pIndexAddr prog 195 x0 x6) fun x23 =>
  bnd (pLoad prog 93 x23 h) fun x24 =>
  bnd (callV inv x1 #[x24,x5] h) fun x26 =>
  bnd (pBin prog .lss 3 (.tmp 26) (.const (.int .i64 0)) x26.1 (.int .i64 0)) fun x27 =>
  brV x27
  (bnd (pIndexAddr prog 195 x0 x6) fun x30 =>
  bnd (pLoad prog 93 x30 x26.2) fun x31 =>
  kn x0 x1 x31 x6 unk x26.2)
  (kn x0 x1 x5 x6 x27 x26.2)
def e170_1 : Ent env 170 false 33:=.jn [e170_0] 978 [0,1,5,6,17] [(.normal,[0,1,5,6,27])] F170_lrllrlrrr
def F170_lrlrrr {β : Type} (inv : Inv) (k : Nat) : Nat→Value→Value→Value→Value→AH→(Value→Value→Value→Value→Value→AH→Option β)→Option β
 | 0,_,_,_,_,_,_=>none
 | j + 1,x0,x1,x5,x6,h,ke0 =>
  bnd (pLen prog #[195] x0 h) fun x16 =>
  bnd (pBin prog .lss 3 (.tmp 14) (.tmp 16) x6 x16) fun x17 =>
  brV x17
  (F170_lrllrlrrr inv k x0 x1 x5 x6 x17 h
  (fun y0 y1 y5 y6 y27 h =>
  bnd (pBin prog .add 3 (.tmp 18) (.const (.int .i64 1)) y6 (.int .i64 1)) fun x19 =>
  F170_lrlrrr inv k j y0 y1 y5 x19 h ke0))
  (ke0 x0 x1 x5 x6 x17 h)
def e170_2 : Ent env 170 false 33:=.lp [e170_0,e170_1] 122 [0,1,5,6] [(.exit 0,[0,1,5,6,17])] F170_lrlrrr
/-- slices.MinFunc[[][]byte,[]byte] -/
def F170 (inv : Inv) (k : Nat) (x0 x1 : Value) (h : AH) : Option (Value × AH) :=
  bnd (pLen prog #[195] x0 h) fun x8 =>
  bnd (pBin prog .lss 3 (.tmp 8) (.const (.int .i64 1)) x8 (.int .i64 1)) fun x9 =>
  F170_rlr inv k x0 x1 x9 h
  (fun y0 y1 y9 h =>
  bnd (pIndexAddr prog 195 y0 (.int .i64 0)) fun x12 =>
  bnd (pLoad prog 93 x12 h) fun x13 =>
  F170_lrlrrr inv k k y0 y1 x13 (.int .i64 1) h
  (fun y0_1 y1_2 y5 y6 y17 h_3 =>
  some (y5,h_3)))
theorem F170_eq : eFun env k inv 170 #[x0,x1] h = F170 inv k x0 x1 h:=ks_fun (n:=33) [e170_0,e170_1,e170_2]
theorem F170_call : eInv env (k + 1) (.func 170) #[] #[x0,x1] h = F170 (eInv env k) k x0 x1 h:=kq_inv F170_eq
/-- shadowbook/ints.Put$1 -/
def F171 (inv : Inv) (k : Nat) (x0 x1 : Value) (h : AH) : Option (Value × AH) :=
  bnd (pLen prog #[93] x0 h) fun x6 =>
  bnd (pLen prog #[93] x1 h) fun x8 =>
  bnd (inv (.func 172) #[] #[x6,x8] h) fun x9 =>
  some (x9.1,x9.2)
theorem F171_eq : eFun env k inv 171 #[x0,x1] h = F171 inv k x0 x1 h:=ks_fun (n:=10) []
theorem F171_call : eInv env (k + 1) (.func 171) #[] #[x0,x1] h = F171 (eInv env k) k x0 x1 h:=kq_inv F171_eq
/-- cmp.Compare[int] -/
def F172 (inv : Inv) (k : Nat) (x0 x1 : Value) (h : AH) : Option (Value × AH) :=
  bnd (inv (.func 198) #[] #[x0] h) fun x8 =>
  bnd (inv (.func 198) #[] #[x1] x8.2) fun x10 =>
  brV x8.1
  (brV x10.1
  (some ((.int .i64 0),x10.2))
  (some ((.int .i64 (-1)),x10.2)))
  (brV x10.1
  (some ((.int .i64 1),x10.2))
  (bnd (pBin prog .lss 3 (.tmp 14) (.tmp 15) x0 x1) fun x16 =>
  brV x16
  (some ((.int .i64 (-1)),x10.2))
  (bnd (pBin prog .gtr 3 (.tmp 17) (.tmp 18) x0 x1) fun x19 =>
  brV x19
  (some ((.int .i64 1),x10.2))
  (some ((.int .i64 0),x10.2)))))
theorem F172_eq : eFun env k inv 172 #[x0,x1] h = F172 inv k x0 x1 h:=ks_fun (n:=20) []
theorem F172_call : eInv env (k + 1) (.func 172) #[] #[x0,x1] h = F172 (eInv env k) k x0 x1 h:=kq_inv F172_eq
def F178_lrlrrr {β : Type} (inv : Inv) (k : Nat) : Nat→Value→Value→Value→Value→AH→(Value→Value→Value→Value→Value→AH→Option β)→Option β
 | 0,_,_,_,_,_,_=>none
 | j + 1,x5,x18,x19,x20,h,ke0 =>
  bnd (pBin prog .lss 3 (.tmp 20) (.tmp 19) x20 x19) fun x21 =>
  brV x21
  (bnd (pIndexAddr prog 27 x18 x20) fun x22 =>
  bnd (pLoad prog 9 x22 h) fun x23 =>
  bnd (inv (.func 204) #[] #[x5,x23] h) fun x26 =>
  bnd (pBin prog .add 3 (.tmp 20) (.const (.int .i64 1)) x20 (.int .i64 1)) fun x27 =>
  F178_lrlrrr inv k j x26.1 x18 x19 x27 x26.2 ke0)
  (ke0 x5 x18 x19 x20 x21 h)
def e178_0 : Ent env 178 false 29:=.lp [] 122 [5,18,19,20] [(.exit 0,[5,18,19,20,21])] F178_lrlrrr
/-- shadowbook/texts.Plain -/
def F178 (inv : Inv) (k : Nat) (x0 : Value) (h : AH) : Option (Value × AH) :=
  bnd (inv (.func 203) #[] #[x0] h) fun x9 =>
  bnd (pBin prog .neq 28 (.tmp 10) (.const (.int .i64 0)) x9.1 (.int .i64 0)) fun x11 =>
  brV x11
  (some (.tuple #[(.slice none 0 0),x9.1],x9.2))
  (bnd (pBuildSlice prog 93 1 #[(0,(.int .u8 1))] x9.2) fun x13 =>
  bnd (pLen prog #[27] x0 x13.2) fun x15 =>
  bnd (pConv prog 3 121 x15 x13.2) fun x16 =>
  bnd (inv (.func 86) #[] #[x13.1,x16] x13.2) fun x17 =>
  bnd (pLen prog #[27] x0 x17.2) fun x19 =>
  F178_lrlrrr inv k k x17.1 x0 x19 (.int .i64 0) x17.2
  (fun y5 y18 y19 y20 y21 h =>
  some (.tuple #[y5,(.int .i64 0)],h)))
theorem F178_eq : eFun env k inv 178 #[x0] h = F178 inv k x0 h:=ks_fun (n:=29) [e178_0]
theorem F178_call : eInv env (k + 1) (.func 178) #[] #[x0] h = F178 (eInv env k) k x0 h:=kq_inv F178_eq
def F179_lrlrrrr {β : Type} (inv : Inv) (k : Nat) : Nat→Value→Value→Value→Value→Value→Value→AH→(Value→Value→Value→Value→Value→Value→Value→AH→Option β)→Option β
 | 0,_,_,_,_,_,_,_,_=>none
 | j + 1,x0,x5,x6,x33,x34,x35,h,ke0 =>
  bnd (pBin prog .lss 3 (.tmp 35) (.tmp 34) x35 x34) fun x36 =>
  brV x36
  (bnd (pIndexAddr prog 27 x33 x35) fun x37 =>
  bnd (pLoad prog 9 x37 h) fun x38 =>
  bnd (inv (.func 204) #[] #[x6,x38] h) fun x41 =>
  bnd (pBin prog .add 3 (.tmp 35) (.const (.int .i64 1)) x35 (.int .i64 1)) fun x42 =>
  F179_lrlrrrr inv k j x0 x5 x41.1 x33 x34 x42 x41.2 ke0)
  (ke0 x0 x5 x6 x33 x34 x35 x36 h)
def e179_0 : Ent env 179 false 79:=.lp [] 250 [0,5,6,33,34,35] [(.exit 0,[0,5,6,33,34,35,36])] F179_lrlrrrr
def F179_lrlrrrrrr {β : Type} (inv : Inv) (k : Nat) : Nat→Value→Value→Value→Value→Value→Value→AH→(Value→Value→Value→Value→Value→Value→Value→AH→Option β)→Option β
 | 0,_,_,_,_,_,_,_,_=>none
 | j + 1,x5,x6,x9,x43,x44,x45,h,ke2 =>
  bnd (pBin prog .lss 3 (.tmp 45) (.tmp 44) x45 x44) fun x46 =>
  brV x46
  (bnd (pIndexAddr prog 27 x43 x45) fun x47 =>
  bnd (pLoad prog 9 x47 h) fun x48 =>
  bnd (inv (.func 206) #[] #[x5,x48] h) fun x52 =>
  bnd (pExtract x52.1 0) fun x53 =>
  bnd (pExtract x52.1 1) fun x54 =>
  bnd (pConv prog 3 121 x53 x52.2) fun x57 =>
  bnd (pBuildSlice prog 124 1 #[(0,x57)] x52.2) fun x58 =>
  bnd (pAppend prog #[124,124] x9 x58.1 x58.2) fun x59 =>
  bnd (pBin prog .add 3 (.tmp 45) (.const (.int .i64 1)) x45 (.int .i64 1)) fun x60 =>
  F179_lrlrrrrrr inv k j x5 x6 x59.1 x43 x44 x60 x59.2 ke2)
  (ke2 x5 x6 x9 x43 x44 x45 x46 h)
def e179_1 : Ent env 179 false 79:=.lp [e179_0] 1018 [5,6,9,43,44,45] [(.exit 2,[5,6,9,43,44,45,46])] F179_lrlrrrrrr
/-- shadowbook/texts.Dict -/
def F179 (inv : Inv) (k : Nat) (x0 : Value) (h : AH) : Option (Value × AH) :=
  bnd (inv (.func 203) #[] #[x0] h) fun x18 =>
  bnd (pBin prog .neq 28 (.tmp 19) (.const (.int .i64 0)) x18.1 (.int .i64 0)) fun x20 =>
  brV x20
  (some (.tuple #[(.slice none 0 0),x18.1],x18.2))
  (bnd (inv (.func 205) #[] #[x0] x18.2) fun x23 =>
  bnd (pBuildSlice prog 93 1 #[(0,(.int .u8 2))] x23.2) fun x24 =>
  bnd (pLen prog #[27] x0 x24.2) fun x26 =>
  bnd (pConv prog 3 121 x26 x24.2) fun x27 =>
  bnd (inv (.func 86) #[] #[x24.1,x27] x24.2) fun x28 =>
  bnd (pLen prog #[27] x23.1 x28.2) fun x30 =>
  bnd (pConv prog 3 121 x30 x28.2) fun x31 =>
  bnd (inv (.func 86) #[] #[x28.1,x31] x28.2) fun x32 =>
  bnd (pLen prog #[27] x23.1 x32.2) fun x34 =>
  F179_lrlrrrr inv k k x0 x23.1 x32.1 x23.1 x34 (.int .i64 0) x32.2
  (fun y0 y5 y6 y33 y34 y35 y36 h =>
  bnd (pLen prog #[27] y0 h) fun x44 =>
  F179_lrlrrrrrr inv k k y5 y6 (.slice none 0 0) y0 x44 (.int .i64 0) h
  (fun y5_1 y6_2 y9 y43 y44 y45 y46 h_3 =>
  bnd (inv (.func 119) #[] #[y9] h_3) fun x62 =>
  bnd (inv (.func 88) #[] #[y9,x62.1] x62.2) fun x66 =>
  bnd (pExtract x66.1 0) fun x67 =>
  bnd (pExtract x66.1 1) fun x68 =>
  bnd (pBin prog .neq 28 (.tmp 69) (.const (.int .i64 0)) x68 (.int .i64 0)) fun x70 =>
  brV x70
  (some (.tuple #[(.slice none 0 0),x68],x66.2))
  (bnd (pConv prog 3 5 x62.1 x66.2) fun x74 =>
  bnd (pBuildSlice prog 93 1 #[(0,x74)] x66.2) fun x75 =>
  bnd (pAppend prog #[93,93] y6_2 x75.1 x75.2) fun x76 =>
  bnd (pAppend prog #[93,93] x76.1 x67 x76.2) fun x78 =>
  some (.tuple #[x78.1,(.int .i64 0)],x78.2)))))
theorem F179_eq : eFun env k inv 179 #[x0] h = F179 inv k x0 h:=ks_fun (n:=79) [e179_0,e179_1]
theorem F179_call : eInv env (k + 1) (.func 179) #[] #[x0] h = F179 (eInv env k) k x0 h:=kq_inv F179_eq
def F182_lrlrr {β : Type} (inv : Inv) (k : Nat) : Nat→Value→Value→Value→Value→AH→(Value→Value→Value→Value→Value→AH→Option β)→(Value→AH→Option β)→Option β
 | 0,_,_,_,_,_,_,_=>none
 | j + 1,x3,x6,x7,x8,h,ke0,kr =>
  bnd (pBin prog .lss 3 (.tmp 8) (.tmp 7) x8 x7) fun x9 =>
  brV x9
  (bnd (pIndexAddr prog 24 x6 x8) fun x10 =>
  bnd (pLoad prog 3 x10 h) fun x11 =>
  bnd (pBin prog .neq 3 (.tmp 12) (.tmp 13) x11 x3) fun x14 =>
  brV x14
  (kr x11 h)
  (bnd (pBin prog .add 3 (.tmp 8) (.const (.int .i64 1)) x8 (.int .i64 1)) fun x16 =>
  F182_lrlrr inv k j x3 x6 x7 x16 h ke0 kr))
  (ke0 x3 x6 x7 x8 x9 h)
def e182_0 : Ent env 182 false 18:=.lp [] 58 [3,6,7,8] [(.exit 0,[3,6,7,8,9]),(.ret,[2])] F182_lrlrr
/-- cmp.Or[int] -/
def F182 (inv : Inv) (k : Nat) (x0 : Value) (h : AH) : Option (Value × AH) :=
  bnd (pLen prog #[24] x0 h) fun x7 =>
  F182_lrlrr inv k k (.int .i64 0) x0 x7 (.int .i64 0) h
  (fun y3 y6 y7 y8 y9 h =>
  some (y3,h))
  (fun y2 h_1 =>
  some (y2,h_1))
theorem F182_eq : eFun env k inv 182 #[x0] h = F182 inv k x0 h:=ks_fun (n:=18) [e182_0]
theorem F182_call : eInv env (k + 1) (.func 182) #[] #[x0] h = F182 (eInv env k) k x0 h:=kq_inv F182_eq
/-- cmp.Compare[int64] -/
def F183 (inv : Inv) (k : Nat) (x0 x1 : Value) (h : AH) : Option (Value × AH) :=
  bnd (inv (.func 207) #[] #[x0] h) fun x8 =>
  bnd (inv (.func 207) #[] #[x1] x8.2) fun x10 =>
  brV x8.1
  (brV x10.1
  (some ((.int .i64 0),x10.2))
  (some ((.int .i64 (-1)),x10.2)))
  (brV x10.1
  (some ((.int .i64 1),x10.2))
  (bnd (pBin prog .lss 2 (.tmp 14) (.tmp 15) x0 x1) fun x16 =>
  brV x16
  (some ((.int .i64 (-1)),x10.2))
  (bnd (pBin prog .gtr 2 (.tmp 17) (.tmp 18) x0 x1) fun x19 =>
  brV x19
  (some ((.int .i64 1),x10.2))
  (some ((.int .i64 0),x10.2)))))
theorem F183_eq : eFun env k inv 183 #[x0,x1] h = F183 inv k x0 x1 h:=ks_fun (n:=20) []
theorem F183_call : eInv env (k + 1) (.func 183) #[] #[x0,x1] h = F183 (eInv env k) k x0 x1 h:=kq_inv F183_eq
/-- strings.Compare -/
def F184 (inv : Inv) (k : Nat) (x0 x1 : Value) (h : AH) : Option (Value × AH) :=
  bnd (inv (.func 208) #[] #[x0,x1] h) fun x7 =>
  some (x7.1,x7.2)
theorem F184_eq : eFun env k inv 184 #[x0,x1] h = F184 inv k x0 x1 h:=ks_fun (n:=8) []
theorem F184_call : eInv env (k + 1) (.func 184) #[] #[x0,x1] h = F184 (eInv env k) k x0 x1 h:=kq_inv F184_eq
def F192_lrlrrr {β : Type} (inv : Inv) (k : Nat) : Nat→Value→Value→Value→Value→AH→(Value→Value→Value→Value→Value→AH→Option β)→Option β
 | 0,_,_,_,_,_,_=>none
 | j + 1,x4,x13,x14,x15,h,ke0 =>
  bnd (pBin prog .lss 3 (.tmp 15) (.tmp 14) x15 x14) fun x16 =>
  brV x16
  (bnd (pIndexAddr prog 163 x13 x15) fun x17 =>
  bnd (pLoad prog 2 x17 h) fun x18 =>
  bnd (pConv prog 2 121 x18 h) fun x21 =>
  bnd (inv (.func 125) #[] #[x4,x21,(.int .i64 8)] h) fun x22 =>
  bnd (pBin prog .add 3 (.tmp 15) (.const (.int .i64 1)) x15 (.int .i64 1)) fun x23 =>
  F192_lrlrrr inv k j x22.1 x13 x14 x23 x22.2 ke0)
  (ke0 x4 x13 x14 x15 x16 h)
def e192_0 : Ent env 192 false 25:=.lp [] 122 [4,13,14,15] [(.exit 0,[4,13,14,15,16])] F192_lrlrrr
/-- shadowbook/ints.Plain -/
def F192 (inv : Inv) (k : Nat) (x0 : Value) (h : AH) : Option (Value × AH) :=
  bnd (pLen prog #[163] x0 h) fun x8 =>
  bnd (pBin prog .gtr 3 (.tmp 8) (.const (.int .i64 4096)) x8 (.int .i64 4096)) fun x9 =>
  brV x9
  (some (.tuple #[(.slice none 0 0),(.int .i64 3)],h))
  (bnd (pLen prog #[163] x0 h) fun x11 =>
  bnd (inv (.func 212) #[] #[(.int .u8 1),x11] h) fun x12 =>
  bnd (pLen prog #[163] x0 x12.2) fun x14 =>
  F192_lrlrrr inv k k x12.1 x0 x14 (.int .i64 0) x12.2
  (fun y4 y13 y14 y15 y16 h =>
  some (.tuple #[y4,(.int .i64 0)],h)))
theorem F192_eq : eFun env k inv 192 #[x0] h = F192 inv k x0 h:=ks_fun (n:=25) [e192_0]
theorem F192_call : eInv env (k + 1) (.func 192) #[] #[x0] h = F192 (eInv env k) k x0 h:=kq_inv F192_eq
abbrev G194_8 {β : Type} (inv : Inv) (x0 x4 x5 x6 x14 x15 : Value) (h : AH) (K : Value→AH→Option β) : Option β :=
  bnd (pBin prog .add 3 (.tmp 18) (.const (.int .i64 1)) x6 (.int .i64 1)) fun x19 =>
  bnd (pLen prog #[163] x0 h) fun x21 =>
  bnd (pBin prog .lss 3 (.tmp 19) (.tmp 21) x19 x21) fun x22 =>
  bnd (gd3 (some x22) true h (some (x0,h))) fun x24 =>
  bnd (gd3 (some x22) true x24.2.1 (some (x6,x24.2.1))) fun x25 =>
  bnd (gd3 (some x22) true x25.2.1 (lt (pBin prog .add 3 (.tmp 25) (.const (.int .i64 1)) x25.1 (.int .i64 1)) x25.2.1)) fun x26 =>
  bnd (gd3 (some x22) true x26.2.1 (lt (pIndexAddr prog 163 x24.1 x26.1) x26.2.1)) fun x27 =>
  bnd (gd3 (some x22) true x27.2.1 (lt (pLoad prog 2 x27.1 x27.2.1) x27.2.1)) fun x28 =>
  bnd (gd3 (some x22) true x28.2.1 (some (x0,x28.2.1))) fun x29 =>
  bnd (gd3 (some x22) true x29.2.1 (some (x5,x29.2.1))) fun x30 =>
  bnd (gd3 (some x22) true x30.2.1 (lt (pIndexAddr prog 163 x29.1 x30.1) x30.2.1)) fun x31 =>
  bnd (gd3 (some x22) true x31.2.1 (lt (pLoad prog 2 x31.1 x31.2.1) x31.2.1)) fun x32 =>
  bnd (gd3 (some x22) true x32.2.1 (lt (pBin prog .eql 2 (.tmp 28) (.tmp 32) x28.1 x32.1) x32.2.1)) fun x33 =>
  bnd (pickV x22 x33.1 (.bool false)) fun x34 =>
  K (x34) x33.2.1
abbrev G194_9 {β : Type} (inv : Inv) (x0 x4 x5 x6 x14 x15 : Value) (h : AH) (K : Value→AH→Option β) : Option β :=
  bnd (pBin prog .add 3 (.tmp 36) (.const (.int .i64 1)) x6 (.int .i64 1)) fun x37 =>
  bnd (pBin prog .sub 3 (.tmp 37) (.tmp 38) x37 x5) fun x39 =>
  bnd (pConv prog 3 121 x39 h) fun x40 =>
  bnd (inv (.func 86) #[] #[x4,x40] h) fun x41 =>
  bnd (pIndexAddr prog 163 x0 x6) fun x44 =>
  bnd (pLoad prog 2 x44 x41.2) fun x45 =>
  bnd (pConv prog 2 121 x45 x41.2) fun x46 =>
  bnd (inv (.func 125) #[] #[x41.1,x46,(.int .i64 8)] x41.2) fun x47 =>
  chkK ((!true || !true || (sameO (pLoad prog 2 x44 h) x45 && sameO (pLoad prog 2 x44 x41.2) x45)) && ((!true || !true || (sameO (pConv prog 2 121 x45 h) x46 && sameO (pConv prog 2 121 x45 x41.2) x46)) && true)) <|
  K (x47.1) x47.2
def F194_lrrllrlrrrrlr {β : Type} (inv : Inv) (k : Nat) (x0 x4 x5 x14 x15 x16 : Value) (h : AH) (kn : (Value→Value→Value→Value→Value→Value→Value→AH→Option β)) : Option β :=
  G194_8 inv x0 x4 x5 x15 x14 x15 h fun y34 h =>
  brV y34
  (kn x0 x4 x5 x15 x14 x15 y34 h)
  (G194_9 inv x0 x4 x5 x15 x14 x15 h fun y4 h_1 =>
  bnd (pBin prog .add 3 (.tmp 48) (.const (.int .i64 1)) x15 (.int .i64 1)) fun x49 =>
  kn x0 y4 x49 unk x14 x15 unk h_1)
def e194_0 : Ent env 194 false 52:=.jn [] 14246 [0,4,5,14,15,16] [(.normal,[0,4,5,6,14,15,34])] F194_lrrllrlrrrrlr
def F194_lrlrrrrlr {β : Type} (inv : Inv) (k : Nat) : Nat→Value→Value→Value→Value→Value→AH→(Value→Value→Value→Value→Value→Value→AH→Option β)→Option β
 | 0,_,_,_,_,_,_,_=>none
 | j + 1,x0,x4,x5,x14,x15,h,ke0 =>
  bnd (pBin prog .lss 3 (.tmp 15) (.tmp 14) x15 x14) fun x16 =>
  brV x16
  (F194_lrrllrlrrrrlr inv k x0 x4 x5 x14 x15 x16 h
  (fun y0 y4 y5 y6 y14 y15 y34 h =>
  bnd (pBin prog .add 3 (.tmp 15) (.const (.int .i64 1)) y15 (.int .i64 1)) fun x50 =>
  F194_lrlrrrrlr inv k j y0 y4 y5 y14 x50 h ke0))
  (ke0 x0 x4 x5 x14 x15 x16 h)
def e194_1 : Ent env 194 false 52:=.lp [e194_0] 890 [0,4,5,14,15] [(.exit 0,[0,4,5,14,15,16])] F194_lrlrrrrlr
/-- shadowbook/ints.Runs -/
def F194 (inv : Inv) (k : Nat) (x0 : Value) (h : AH) : Option (Value × AH) :=
  bnd (pLen prog #[163] x0 h) fun x8 =>
  bnd (pBin prog .gtr 3 (.tmp 8) (.const (.int .i64 4096)) x8 (.int .i64 4096)) fun x9 =>
  brV x9
  (some (.tuple #[(.slice none 0 0),(.int .i64 3)],h))
  (bnd (pLen prog #[163] x0 h) fun x11 =>
  bnd (inv (.func 212) #[] #[(.int .u8 2),x11] h) fun x12 =>
  bnd (pLen prog #[163] x0 x12.2) fun x14 =>
  F194_lrlrrrrlr inv k k x0 x12.1 (.int .i64 0) x14 (.int .i64 0) x12.2
  (fun y0 y4 y5 y14 y15 y16 h =>
  some (.tuple #[y4,(.int .i64 0)],h)))
theorem F194_eq : eFun env k inv 194 #[x0] h = F194 inv k x0 h:=ks_fun (n:=52) [e194_0,e194_1]
theorem F194_call : eInv env (k + 1) (.func 194) #[] #[x0] h = F194 (eInv env k) k x0 h:=kq_inv F194_eq
def F196_rlrrr {β : Type} (inv : Inv) (k : Nat) (x0 x4 x17 : Value) (h : AH) (kn : (Value→Value→Value→AH→Option β)) : Option β :=
  brV x17
  (bnd (inv (.func 214) #[] #[x0] h) fun x19 =>
  kn x0 x19.1 unk x19.2)
  (kn x0 x4 x17 h)
def e196_0 : Ent env 196 false 59:=.jn [] 61 [0,4,17] [(.normal,[0,4,17])] F196_rlrrr
def F196_lrlrrrrr {β : Type} (inv : Inv) (k : Nat) : Nat→Value→Value→Value→Value→Value→Value→AH→(Value→Value→Value→Value→Value→Value→Value→AH→Option β)→Option β
 | 0,_,_,_,_,_,_,_,_=>none
 | j + 1,x0,x4,x5,x20,x21,x22,h,ke0 =>
  bnd (pBin prog .lss 3 (.tmp 22) (.tmp 21) x22 x21) fun x23 =>
  brV x23
  (bnd (pIndexAddr prog 163 x20 x22) fun x24 =>
  bnd (pLoad prog 2 x24 h) fun x25 =>
  bnd (pConv prog 2 121 x25 h) fun x28 =>
  bnd (pConv prog 2 121 x4 h) fun x30 =>
  bnd (pBin prog .sub 121 (.tmp 28) (.tmp 30) x28 x30) fun x31 =>
  bnd (pBuildSlice prog 124 1 #[(0,x31)] h) fun x32 =>
  bnd (pAppend prog #[124,124] x5 x32.1 x32.2) fun x33 =>
  bnd (pBin prog .add 3 (.tmp 22) (.const (.int .i64 1)) x22 (.int .i64 1)) fun x34 =>
  F196_lrlrrrrr inv k j x0 x4 x33.1 x20 x21 x34 x33.2 ke0)
  (ke0 x0 x4 x5 x20 x21 x22 x23 h)
def e196_1 : Ent env 196 false 59:=.lp [e196_0] 506 [0,4,5,20,21,22] [(.exit 0,[0,4,5,20,21,22,23])] F196_lrlrrrrr
/-- shadowbook/ints.Packed -/
def F196 (inv : Inv) (k : Nat) (x0 : Value) (h : AH) : Option (Value × AH) :=
  bnd (pLen prog #[163] x0 h) fun x13 =>
  bnd (pBin prog .gtr 3 (.tmp 13) (.const (.int .i64 4096)) x13 (.int .i64 4096)) fun x14 =>
  brV x14
  (some (.tuple #[(.slice none 0 0),(.int .i64 3)],h))
  (bnd (pLen prog #[163] x0 h) fun x16 =>
  bnd (pBin prog .gtr 3 (.tmp 16) (.const (.int .i64 0)) x16 (.int .i64 0)) fun x17 =>
  F196_rlrrr inv k x0 (.int .i64 0) x17 h
  (fun y0 y4 y17 h =>
  bnd (pLen prog #[163] y0 h) fun x21 =>
  F196_lrlrrrrr inv k k y0 y4 (.slice none 0 0) y0 x21 (.int .i64 0) h
  (fun y0_1 y4_2 y5 y20 y21 y22 y23 h_3 =>
  bnd (inv (.func 119) #[] #[y5] h_3) fun x36 =>
  bnd (inv (.func 88) #[] #[y5,x36.1] x36.2) fun x40 =>
  bnd (pExtract x40.1 0) fun x41 =>
  bnd (pExtract x40.1 1) fun x42 =>
  bnd (pBin prog .neq 28 (.tmp 43) (.const (.int .i64 0)) x42 (.int .i64 0)) fun x44 =>
  brV x44
  (some (.tuple #[(.slice none 0 0),x42],x40.2))
  (bnd (pLen prog #[163] y0_1 x40.2) fun x47 =>
  bnd (inv (.func 212) #[] #[(.int .u8 3),x47] x40.2) fun x48 =>
  bnd (pConv prog 2 121 y4_2 x48.2) fun x50 =>
  bnd (inv (.func 125) #[] #[x48.1,x50,(.int .i64 8)] x48.2) fun x51 =>
  bnd (pConv prog 3 5 x36.1 x51.2) fun x54 =>
  bnd (pBuildSlice prog 93 1 #[(0,x54)] x51.2) fun x55 =>
  bnd (pAppend prog #[93,93] x51.1 x55.1 x55.2) fun x56 =>
  bnd (pAppend prog #[93,93] x56.1 x41 x56.2) fun x58 =>
  some (.tuple #[x58.1,(.int .i64 0)],x58.2)))))
theorem F196_eq : eFun env k inv 196 #[x0] h = F196 inv k x0 h:=ks_fun (n:=59) [e196_0,e196_1]
theorem F196_call : eInv env (k + 1) (.func 196) #[] #[x0] h = F196 (eInv env k) k x0 h:=kq_inv F196_eq
/-- cmp.isNaN[int] -/
def F198 (inv : Inv) (k : Nat) (x0 : Value) (h : AH) : Option (Value × AH) :=
  bnd (pBin prog .neq 3 (.tmp 3) (.tmp 4) x0 x0) fun x5 =>
  some (x5,h)
theorem F198_eq : eFun env k inv 198 #[x0] h = F198 inv k x0 h:=ks_fun (n:=6) []
theorem F198_call : eInv env (k + 1) (.func 198) #[] #[x0] h = F198 (eInv env k) k x0 h:=kq_inv F198_eq
/-- shadowbook/texts.check -/
def F203 (inv : Inv) (k : Nat) (x0 : Value) (h : AH) : Option (Value × AH) :=
  bnd (pLen prog #[27] x0 h) fun x4 =>
  bnd (pBin prog .gtr 3 (.tmp 4) (.const (.int .i64 4096)) x4 (.int .i64 4096)) fun x5 =>
  bnd (gd (some x5) false h (some (x0,h))) fun x7 =>
  bnd (gd (some x5) false x7.2 (inv (.func 61) #[] #[x7.1,(.func (.func 216) #[] #[])] x7.2)) fun x8 =>
  bnd (pickV x5 (.bool true) x8.1) fun x9 =>
  brV x9
  (some ((.int .i64 3),x8.2))
  (some ((.int .i64 0),x8.2))
theorem F203_eq : eFun env k inv 203 #[x0] h = F203 inv k x0 h:=ks_fun (n:=10) []
theorem F203_call : eInv env (k + 1) (.func 203) #[] #[x0] h = F203 (eInv env k) k x0 h:=kq_inv F203_eq
/-- shadowbook/texts.text -/
def F204 (inv : Inv) (k : Nat) (x0 x1 : Value) (h : AH) : Option (Value × AH) :=
  bnd (pLen prog #[9] x1 h) fun x7 =>
  bnd (pConv prog 3 121 x7 h) fun x8 =>
  bnd (inv (.func 86) #[] #[x0,x8] h) fun x9 =>
  bnd (pAppend prog #[93,9] x9.1 x1 x9.2) fun x11 =>
  some (x11.1,x11.2)
theorem F204_eq : eFun env k inv 204 #[x0,x1] h = F204 inv k x0 x1 h:=ks_fun (n:=12) []
theorem F204_call : eInv env (k + 1) (.func 204) #[] #[x0,x1] h = F204 (eInv env k) k x0 x1 h:=kq_inv F204_eq
def F205_lrlrr {β : Type} (inv : Inv) (k : Nat) : Nat→Value→Value→Value→Value→AH→(Value→Value→Value→Value→Value→AH→Option β)→Option β
 | 0,_,_,_,_,_,_=>none
 | j + 1,x3,x7,x8,x9,h,ke0 =>
  bnd (pBin prog .lss 3 (.tmp 9) (.tmp 8) x9 x8) fun x10 =>
  brV x10
  (bnd (pIndexAddr prog 27 x7 x9) fun x11 =>
  bnd (pLoad prog 9 x11 h) fun x12 =>
  bnd (pBuild prog 239 #[]) fun x15 =>
  bnd (kSt (pUpdate prog 238 x3 x12 x15 h)) fun u =>
  bnd (pBin prog .add 3 (.tmp 9) (.const (.int .i64 1)) x9 (.int .i64 1)) fun x16 =>
  F205_lrlrr inv k j x3 x7 x8 x16 u.2 ke0)
  (ke0 x3 x7 x8 x9 x10 h)
def e205_0 : Ent env 205 false 20:=.lp [] 58 [3,7,8,9] [(.exit 0,[3,7,8,9,10])] F205_lrlrr
/-- shadowbook/texts.Words -/
def F205 (inv : Inv) (k : Nat) (x0 : Value) (h : AH) : Option (Value × AH) :=
  bnd (pMakeMap prog 238 none h) fun x6 =>
  bnd (pLen prog #[27] x0 x6.2) fun x8 =>
  F205_lrlrr inv k k x6.1 x0 x8 (.int .i64 0) x6.2
  (fun y3 y7 y8 y9 y10 h =>
  bnd (inv (.func 218) #[] #[y3] h) fun x18 =>
  bnd (inv (.func 217) #[] #[x18.1] x18.2) fun x19 =>
  some (x19.1,x19.2))
theorem F205_eq : eFun env k inv 205 #[x0] h = F205 inv k x0 h:=ks_fun (n:=20) [e205_0]
theorem F205_call : eInv env (k + 1) (.func 205) #[] #[x0] h = F205 (eInv env k) k x0 h:=kq_inv F205_eq
def F206_llrrr {β : Type} (inv : Inv) (k : Nat) : Nat→Value→Value→Value→Value→Value→AH→(Value→Value→Value→Value→Value→Value→AH→Option β)→Option β
 | 0,_,_,_,_,_,_,_=>none
 | j + 1,x0,x1,x6,x7,x8,h,ke0 =>
  bnd (pBin prog .lss 3 (.tmp 13) (.tmp 14) x7 x8) fun x15 =>
  brV x15
  (bnd (pBin prog .add 3 (.tmp 16) (.tmp 17) x7 x8) fun x18 =>
  bnd (pConv prog 3 101 x18 h) fun x19 =>
  bnd (pBin prog .shr 101 (.tmp 19) (.const (.int .u64 1)) x19 (.int .u64 1)) fun x20 =>
  bnd (pConv prog 101 3 x20 h) fun x21 =>
  bnd (pIndexAddr prog 27 x0 x21) fun x24 =>
  bnd (pLoad prog 9 x24 h) fun x25 =>
  bnd (inv (.func 219) #[] #[x25,x1] h) fun x27 =>
  brV x27.1
  (bnd (pBin prog .add 3 (.tmp 28) (.const (.int .i64 1)) x21 (.int .i64 1)) fun x29 =>
  F206_llrrr inv k j x0 x1 x6 x29 x8 x27.2 ke0)
  (F206_llrrr inv k j x0 x1 x6 x7 x21 x27.2 ke0))
  (ke0 x0 x1 x6 x7 x8 x15 h)
def e206_0 : Ent env 206 false 54:=.lp [] 60 [0,1,6,7,8] [(.exit 0,[0,1,6,7,8,15])] F206_llrrr
abbrev G206_8 {β : Type} (inv : Inv) (x0 x1 x6 x7 : Value) (h : AH) (K : Value→Value→AH→Option β) : Option β :=
  bnd (pBin prog .lss 3 (.tmp 32) (.tmp 33) x7 x6) fun x34 =>
  bnd (gd (some x34) true h (some (x0,h))) fun x36 =>
  bnd (gd (some x34) true x36.2 (some (x7,x36.2))) fun x37 =>
  bnd (gd (some x34) true x37.2 (lt (pIndexAddr prog 27 x36.1 x37.1) x37.2)) fun x38 =>
  bnd (gd (some x34) true x38.2 (lt (pLoad prog 9 x38.1 x38.2) x38.2)) fun x39 =>
  bnd (gd (some x34) true x39.2 (some (x1,x39.2))) fun x40 =>
  bnd (gd (some x34) true x40.2 (lt (pBin prog .eql 9 (.tmp 39) (.tmp 40) x39.1 x40.1) x40.2)) fun x41 =>
  bnd (gd (some x34) true x41.2 (some (x41.1,x41.2))) fun x42 =>
  bnd (gd (some x42.1) false x42.2 (some (x0,x42.2))) fun x43 =>
  bnd (gd (some x42.1) false x43.2 (some (x7,x43.2))) fun x44 =>
  bnd (gd (some x42.1) false x44.2 (lt (pIndexAddr prog 27 x43.1 x44.1) x44.2)) fun x45 =>
  bnd (gd (some x42.1) false x45.2 (lt (pLoad prog 9 x45.1 x45.2) x45.2)) fun x46 =>
  bnd (gd (some x42.1) false x46.2 (inv (.func 220) #[] #[x46.1] x46.2)) fun x47 =>
  bnd (gd (some x42.1) false x47.2 (some (x47.1,x47.2))) fun x48 =>
  bnd (gd (some x48.1) true x48.2 (some (x1,x48.2))) fun x49 =>
  bnd (gd (some x48.1) true x49.2 (inv (.func 220) #[] #[x49.1] x49.2)) fun x50 =>
  bnd (gd (some x42.1) false x50.2 (lt (pickV x48.1 x50.1 (.bool false)) x50.2)) fun x51 =>
  bnd (gd (some x34) true x51.2 (lt (pickV x42.1 (.bool true) x51.1) x51.2)) fun x52 =>
  bnd (pickV x34 x52.1 (.bool false)) fun x53 =>
  K (x7) (x53) x52.2
/-- slices.BinarySearch[[]string,string] -/
def F206 (inv : Inv) (k : Nat) (x0 x1 : Value) (h : AH) : Option (Value × AH) :=
  bnd (pLen prog #[27] x0 h) fun x11 =>
  F206_llrrr inv k k x0 x1 x11 (.int .i64 0) x11 h
  (fun y0 y1 y6 y7 y8 y15 h =>
  G206_8 inv y0 y1 y6 y7 h fun y4 y5 h_1 =>
  some (.tuple #[y4,y5],h_1))
theorem F206_eq : eFun env k inv 206 #[x0,x1] h = F206 inv k x0 x1 h:=ks_fun (n:=54) [e206_0]
theorem F206_call : eInv env (k + 1) (.func 206) #[] #[x0,x1] h = F206 (eInv env k) k x0 x1 h:=kq_inv F206_eq
/-- cmp.isNaN[int64] -/
def F207 (inv : Inv) (k : Nat) (x0 : Value) (h : AH) : Option (Value × AH) :=
  bnd (pBin prog .neq 2 (.tmp 3) (.tmp 4) x0 x0) fun x5 =>
  some (x5,h)
theorem F207_eq : eFun env k inv 207 #[x0] h = F207 inv k x0 h:=ks_fun (n:=6) []
theorem F207_call : eInv env (k + 1) (.func 207) #[] #[x0] h = F207 (eInv env k) k x0 h:=kq_inv F207_eq
/-- internal/bytealg.CompareString -/
def F208 (inv : Inv) (k : Nat) (x0 x1 : Value) (h : AH) : Option (Value × AH) :=
  bnd (inv (.func 221) #[] #[x0,x1] h) fun x7 =>
  some (x7.1,x7.2)
theorem F208_eq : eFun env k inv 208 #[x0,x1] h = F208 inv k x0 x1 h:=ks_fun (n:=8) []
theorem F208_call : eInv env (k + 1) (.func 208) #[] #[x0,x1] h = F208 (eInv env k) k x0 x1 h:=kq_inv F208_eq
/-- shadowbook/ints.head -/
def F212 (inv : Inv) (k : Nat) (x0 x1 : Value) (h : AH) : Option (Value × AH) :=
  bnd (pBuildSlice prog 93 1 #[(0,x0)] h) fun x6 =>
  bnd (pConv prog 3 121 x1 x6.2) fun x8 =>
  bnd (inv (.func 86) #[] #[x6.1,x8] x6.2) fun x9 =>
  some (x9.1,x9.2)
theorem F212_eq : eFun env k inv 212 #[x0,x1] h = F212 inv k x0 x1 h:=ks_fun (n:=10) []
theorem F212_call : eInv env (k + 1) (.func 212) #[] #[x0,x1] h = F212 (eInv env k) k x0 x1 h:=kq_inv F212_eq
def F214_rlr {β : Type} (inv : Inv) (k : Nat) (x0 x7 : Value) (h : AH) (kn : (Value→Value→AH→Option β)) : Option β :=
  brV x7
  (bnd (pMakeIface prog 9 (.string { data:=#[115,108,105,99,101,115,46,77,105,110,58,32,101,109,112,116,121,32,108,105,115,116] })) fun x8 =>
  bnd ((none : Option (Value × AH))) fun u =>
  kn x0 unk u.2)
  (kn x0 x7 h)
def e214_0 : Ent env 214 false 25:=.jn [] 13 [0,7] [(.normal,[0,7])] F214_rlr
def F214_lrlrrr {β : Type} (inv : Inv) (k : Nat) : Nat→Value→Value→Value→AH→(Value→Value→Value→Value→AH→Option β)→Option β
 | 0,_,_,_,_,_=>none
 | j + 1,x0,x3,x4,h,ke0 =>
  bnd (pLen prog #[163] x0 h) fun x14 =>
  bnd (pBin prog .lss 3 (.tmp 12) (.tmp 14) x4 x14) fun x15 =>
  brV x15
  (bnd (pIndexAddr prog 163 x0 x4) fun x21 =>
  bnd (pLoad prog 2 x21 h) fun x22 =>
  bnd (pMinMax prog false #[x3,x22]) fun x23 =>
  bnd (pBin prog .add 3 (.tmp 16) (.const (.int .i64 1)) x4 (.int .i64 1)) fun x17 =>
  F214_lrlrrr inv k j x0 x23 x17 h ke0)
  (ke0 x0 x3 x4 x15 h)
def e214_1 : Ent env 214 false 25:=.lp [e214_0] 122 [0,3,4] [(.exit 0,[0,3,4,15])] F214_lrlrrr
/-- slices.Min[[]int64,int64] -/
def F214 (inv : Inv) (k : Nat) (x0 : Value) (h : AH) : Option (Value × AH) :=
  bnd (pLen prog #[163] x0 h) fun x6 =>
  bnd (pBin prog .lss 3 (.tmp 6) (.const (.int .i64 1)) x6 (.int .i64 1)) fun x7 =>
  F214_rlr inv k x0 x7 h
  (fun y0 y7 h =>
  bnd (pIndexAddr prog 163 y0 (.int .i64 0)) fun x10 =>
  bnd (pLoad prog 2 x10 h) fun x11 =>
  F214_lrlrrr inv k k y0 x11 (.int .i64 1) h
  (fun y0_1 y3 y4 y15 h_2 =>
  some (y3,h_2)))
theorem F214_eq : eFun env k inv 214 #[x0] h = F214 inv k x0 h:=ks_fun (n:=25) [e214_0,e214_1]
theorem F214_call : eInv env (k + 1) (.func 214) #[] #[x0] h = F214 (eInv env k) k x0 h:=kq_inv F214_eq
/-- shadowbook/texts.check$1 -/
def F216 (inv : Inv) (k : Nat) (x0 : Value) (h : AH) : Option (Value × AH) :=
  bnd (pLen prog #[9] x0 h) fun x4 =>
  bnd (pBin prog .gtr 3 (.tmp 4) (.const (.int .i64 65536)) x4 (.int .i64 65536)) fun x5 =>
  some (x5,h)
theorem F216_eq : eFun env k inv 216 #[x0] h = F216 inv k x0 h:=ks_fun (n:=6) []
theorem F216_call : eInv env (k + 1) (.func 216) #[] #[x0] h = F216 (eInv env k) k x0 h:=kq_inv F216_eq
/-- maps.Keys[map[string]struct{},string,struct{}] -/
def F218 (inv : Inv) (k : Nat) (x0 : Value) (h : AH) : Option (Value × AH) :=
  bnd (pBox prog 238 x0 h) fun x1 =>
  bnd (pMakeFunc (.func 224) #[] #[x1.1]) fun x3 =>
  some (x3,x1.2)
theorem F218_eq : eFun env k inv 218 #[x0] h = F218 inv k x0 h:=ks_fun (n:=4) []
theorem F218_call : eInv env (k + 1) (.func 218) #[] #[x0] h = F218 (eInv env k) k x0 h:=kq_inv F218_eq
abbrev G219_1 {β : Type} (inv : Inv) (x0 x1 : Value) (h : AH) (K : Value→AH→Option β) : Option β :=
  bnd (inv (.func 225) #[] #[x0] h) fun x6 =>
  bnd (gd (some x6.1) true x6.2 (some (x1,x6.2))) fun x8 =>
  bnd (gd (some x6.1) true x8.2 (inv (.func 225) #[] #[x8.1] x8.2)) fun x9 =>
  bnd (gd (some x6.1) true x9.2 (lt (pUn prog .not x9.1) x9.2)) fun x10 =>
  bnd (pickV x6.1 x10.1 (.bool false)) fun x11 =>
  bnd (gd (some x11) false x10.2 (some (x0,x10.2))) fun x13 =>
  bnd (gd (some x11) false x13.2 (some (x1,x13.2))) fun x14 =>
  bnd (gd (some x11) false x14.2 (lt (pBin prog .lss 9 (.tmp 13) (.tmp 14) x13.1 x14.1) x14.2)) fun x15 =>
  bnd (pickV x11 (.bool true) x15.1) fun x16 =>
  K (x16) x15.2
/-- cmp.Less[string] -/
def F219 (inv : Inv) (k : Nat) (x0 x1 : Value) (h : AH) : Option (Value × AH) :=
  G219_1 inv x0 x1 h fun y4 h =>
  some (y4,h)
theorem F219_eq : eFun env k inv 219 #[x0,x1] h = F219 inv k x0 x1 h:=ks_fun (n:=17) []
theorem F219_call : eInv env (k + 1) (.func 219) #[] #[x0,x1] h = F219 (eInv env k) k x0 x1 h:=kq_inv F219_eq
/-- cmp.isNaN[string] -/
def F225 (inv : Inv) (k : Nat) (x0 : Value) (h : AH) : Option (Value × AH) :=
  bnd (pBin prog .neq 9 (.tmp 3) (.tmp 4) x0 x0) fun x5 =>
  some (x5,h)
theorem F225_eq : eFun env k inv 225 #[x0] h = F225 inv k x0 h:=ks_fun (n:=6) []
theorem F225_call : eInv env (k + 1) (.func 225) #[] #[x0] h = F225 (eInv env k) k x0 h:=kq_inv F225_eq
def F260_lrlrr {β : Type} (inv : Inv) (k : Nat) : Nat→Value→Value→Value→Value→Value→AH→(Value→Value→Value→Value→Value→Value→AH→Option β)→Option β
 | 0,_,_,_,_,_,_,_=>none
 | j + 1,x2,x6,x9,x10,x11,h,ke0 =>
  bnd (pBin prog .lss 3 (.tmp 11) (.tmp 10) x11 x10) fun x12 =>
  brV x12
  (bnd (pIndexAddr prog 34 x9 x11) fun x13 =>
  bnd (pLoad prog 39 x13 h) fun x14 =>
  bnd (pAlloc prog 39 h) fun x8 =>
  bnd (kSt (pStore prog 39 x8.1 x14 x8.2)) fun u =>
  bnd (pFieldAddr prog 132 x2 0) fun x16 =>
  bnd (pLoad prog 126 x16 u.2) fun x17 =>
  bnd (pLoad prog 39 x8.1 u.2) fun x18 =>
  bnd (callV inv x17 #[x18] u.2) fun x19 =>
  bnd (pBuildSlice prog 163 1 #[(0,x19.1)] x19.2) fun x20 =>
  bnd (pAppend prog #[163,163] x6 x20.1 x20.2) fun x21 =>
  bnd (pBin prog .add 3 (.tmp 11) (.const (.int .i64 1)) x11 (.int .i64 1)) fun x22 =>
  F260_lrlrr inv k j x2 x21.1 x9 x10 x22 x21.2 ke0)
  (ke0 x2 x6 x9 x10 x11 x12 h)
def e260_0 : Ent env 260 false 29:=.lp [] 58 [2,6,9,10,11] [(.exit 0,[2,6,9,10,11,12])] F260_lrlrr
/-- (shadowbook/segment.codec[int64]).cells -/
def F260 (inv : Inv) (k : Nat) (x0 x1 : Value) (h : AH) : Option (Value × AH) :=
  bnd (pBox prog 132 x0 h) fun x2 =>
  bnd (pLen prog #[34] x1 x2.2) fun x10 =>
  F260_lrlrr inv k k x2.1 (.slice none 0 0) x1 x10 (.int .i64 0) x2.2
  (fun y2 y6 y9 y10 y11 y12 h =>
  bnd (pFieldAddr prog 132 y2 4) fun x23 =>
  bnd (pLoad prog 129 x23 h) fun x24 =>
  bnd (callV inv x24 #[y6] h) fun x26 =>
  bnd (pExtract x26.1 0) fun x27 =>
  bnd (pExtract x26.1 1) fun x28 =>
  some (.tuple #[x27,x28],x26.2))
theorem F260_eq : eFun env k inv 260 #[x0,x1] h = F260 inv k x0 x1 h:=ks_fun (n:=29) [e260_0]
theorem F260_call : eInv env (k + 1) (.func 260) #[] #[x0,x1] h = F260 (eInv env k) k x0 x1 h:=kq_inv F260_eq
abbrev G262_1 {β : Type} (inv : Inv) (x1 x3 x5 : Value) (h : AH) (K : Value→AH→Option β) : Option β :=
  bnd (pFieldAddr prog 132 x3 2) fun x7 =>
  bnd (pLoad prog 127 x7 h) fun x8 =>
  bnd (pFieldAddr prog 132 x3 2) fun x9 =>
  bnd (pLoad prog 127 x9 h) fun x10 =>
  bnd (pFieldAddr prog 132 x3 0) fun x12 =>
  bnd (pLoad prog 126 x12 h) fun x13 =>
  bnd (pFieldAddr prog 53 x5 2) fun x14 =>
  bnd (pLoad prog 39 x14 h) fun x15 =>
  bnd (callV inv x13 #[x15] h) fun x16 =>
  bnd (callV inv x10 #[x1,x16.1] x16.2) fun x17 =>
  bnd (pFieldAddr prog 132 x3 0) fun x18 =>
  bnd (pLoad prog 126 x18 x17.2) fun x19 =>
  bnd (pFieldAddr prog 53 x5 3) fun x20 =>
  bnd (pLoad prog 39 x20 x17.2) fun x21 =>
  bnd (callV inv x19 #[x21] x17.2) fun x22 =>
  bnd (callV inv x8 #[x17.1,x22.1] x22.2) fun x23 =>
  chkK ((!true || !true || (sameO (pLoad prog 127 x7 h) x8 && sameO (pLoad prog 127 x7 x16.2) x8)) && ((!true || !true || (sameO (pLoad prog 127 x7 x16.2) x8 && sameO (pLoad prog 127 x7 x17.2) x8)) && ((!true || !true || (sameO (pLoad prog 127 x7 x17.2) x8 && sameO (pLoad prog 127 x7 x22.2) x8)) && ((!true || !true || (sameO (pLoad prog 127 x9 h) x10 && sameO (pLoad prog 127 x9 x16.2) x10)) && ((!true || !true || (sameO (pLoad prog 126 x18 h) x19 && sameO (pLoad prog 126 x18 x16.2) x19)) && ((!true || !true || (sameO (pLoad prog 126 x18 x16.2) x19 && sameO (pLoad prog 126 x18 x17.2) x19)) && ((!true || !true || (sameO (pLoad prog 39 x20 h) x21 && sameO (pLoad prog 39 x20 x16.2) x21)) && ((!true || !true || (sameO (pLoad prog 39 x20 x16.2) x21 && sameO (pLoad prog 39 x20 x17.2) x21)) && true)))))))) <|
  K (x23.1) x23.2
/-- (shadowbook/segment.codec[int64]).zone -/
def F262 (inv : Inv) (k : Nat) (x0 x1 x2 : Value) (h : AH) : Option (Value × AH) :=
  bnd (pBox prog 132 x0 h) fun x3 =>
  bnd (pBox prog 53 x2 x3.2) fun x5 =>
  G262_1 inv x1 x3.1 x5.1 x5.2 fun y6 h =>
  some (y6,h)
theorem F262_eq : eFun env k inv 262 #[x0,x1,x2] h = F262 inv k x0 x1 x2 h:=ks_fun (n:=24) []
theorem F262_call : eInv env (k + 1) (.func 262) #[] #[x0,x1,x2] h = F262 (eInv env k) k x0 x1 x2 h:=kq_inv F262_eq
def F264_lrlrr {β : Type} (inv : Inv) (k : Nat) : Nat→Value→Value→Value→Value→Value→AH→(Value→Value→Value→Value→Value→Value→AH→Option β)→Option β
 | 0,_,_,_,_,_,_,_=>none
 | j + 1,x2,x6,x9,x10,x11,h,ke0 =>
  bnd (pBin prog .lss 3 (.tmp 11) (.tmp 10) x11 x10) fun x12 =>
  brV x12
  (bnd (pIndexAddr prog 34 x9 x11) fun x13 =>
  bnd (pLoad prog 39 x13 h) fun x14 =>
  bnd (pAlloc prog 39 h) fun x8 =>
  bnd (kSt (pStore prog 39 x8.1 x14 x8.2)) fun u =>
  bnd (pFieldAddr prog 140 x2 0) fun x16 =>
  bnd (pLoad prog 134 x16 u.2) fun x17 =>
  bnd (pLoad prog 39 x8.1 u.2) fun x18 =>
  bnd (callV inv x17 #[x18] u.2) fun x19 =>
  bnd (pBuildSlice prog 124 1 #[(0,x19.1)] x19.2) fun x20 =>
  bnd (pAppend prog #[124,124] x6 x20.1 x20.2) fun x21 =>
  bnd (pBin prog .add 3 (.tmp 11) (.const (.int .i64 1)) x11 (.int .i64 1)) fun x22 =>
  F264_lrlrr inv k j x2 x21.1 x9 x10 x22 x21.2 ke0)
  (ke0 x2 x6 x9 x10 x11 x12 h)
def e264_0 : Ent env 264 false 29:=.lp [] 58 [2,6,9,10,11] [(.exit 0,[2,6,9,10,11,12])] F264_lrlrr
/-- (shadowbook/segment.codec[uint64]).cells -/
def F264 (inv : Inv) (k : Nat) (x0 x1 : Value) (h : AH) : Option (Value × AH) :=
  bnd (pBox prog 140 x0 h) fun x2 =>
  bnd (pLen prog #[34] x1 x2.2) fun x10 =>
  F264_lrlrr inv k k x2.1 (.slice none 0 0) x1 x10 (.int .i64 0) x2.2
  (fun y2 y6 y9 y10 y11 y12 h =>
  bnd (pFieldAddr prog 140 y2 4) fun x23 =>
  bnd (pLoad prog 137 x23 h) fun x24 =>
  bnd (callV inv x24 #[y6] h) fun x26 =>
  bnd (pExtract x26.1 0) fun x27 =>
  bnd (pExtract x26.1 1) fun x28 =>
  some (.tuple #[x27,x28],x26.2))
theorem F264_eq : eFun env k inv 264 #[x0,x1] h = F264 inv k x0 x1 h:=ks_fun (n:=29) [e264_0]
theorem F264_call : eInv env (k + 1) (.func 264) #[] #[x0,x1] h = F264 (eInv env k) k x0 x1 h:=kq_inv F264_eq
abbrev G266_1 {β : Type} (inv : Inv) (x1 x3 x5 : Value) (h : AH) (K : Value→AH→Option β) : Option β :=
  bnd (pFieldAddr prog 140 x3 2) fun x7 =>
  bnd (pLoad prog 120 x7 h) fun x8 =>
  bnd (pFieldAddr prog 140 x3 2) fun x9 =>
  bnd (pLoad prog 120 x9 h) fun x10 =>
  bnd (pFieldAddr prog 140 x3 0) fun x12 =>
  bnd (pLoad prog 134 x12 h) fun x13 =>
  bnd (pFieldAddr prog 53 x5 2) fun x14 =>
  bnd (pLoad prog 39 x14 h) fun x15 =>
  bnd (callV inv x13 #[x15] h) fun x16 =>
  bnd (callV inv x10 #[x1,x16.1] x16.2) fun x17 =>
  bnd (pFieldAddr prog 140 x3 0) fun x18 =>
  bnd (pLoad prog 134 x18 x17.2) fun x19 =>
  bnd (pFieldAddr prog 53 x5 3) fun x20 =>
  bnd (pLoad prog 39 x20 x17.2) fun x21 =>
  bnd (callV inv x19 #[x21] x17.2) fun x22 =>
  bnd (callV inv x8 #[x17.1,x22.1] x22.2) fun x23 =>
  chkK ((!true || !true || (sameO (pLoad prog 120 x7 h) x8 && sameO (pLoad prog 120 x7 x16.2) x8)) && ((!true || !true || (sameO (pLoad prog 120 x7 x16.2) x8 && sameO (pLoad prog 120 x7 x17.2) x8)) && ((!true || !true || (sameO (pLoad prog 120 x7 x17.2) x8 && sameO (pLoad prog 120 x7 x22.2) x8)) && ((!true || !true || (sameO (pLoad prog 120 x9 h) x10 && sameO (pLoad prog 120 x9 x16.2) x10)) && ((!true || !true || (sameO (pLoad prog 134 x18 h) x19 && sameO (pLoad prog 134 x18 x16.2) x19)) && ((!true || !true || (sameO (pLoad prog 134 x18 x16.2) x19 && sameO (pLoad prog 134 x18 x17.2) x19)) && ((!true || !true || (sameO (pLoad prog 39 x20 h) x21 && sameO (pLoad prog 39 x20 x16.2) x21)) && ((!true || !true || (sameO (pLoad prog 39 x20 x16.2) x21 && sameO (pLoad prog 39 x20 x17.2) x21)) && true)))))))) <|
  K (x23.1) x23.2
/-- (shadowbook/segment.codec[uint64]).zone -/
def F266 (inv : Inv) (k : Nat) (x0 x1 x2 : Value) (h : AH) : Option (Value × AH) :=
  bnd (pBox prog 140 x0 h) fun x3 =>
  bnd (pBox prog 53 x2 x3.2) fun x5 =>
  G266_1 inv x1 x3.1 x5.1 x5.2 fun y6 h =>
  some (y6,h)
theorem F266_eq : eFun env k inv 266 #[x0,x1,x2] h = F266 inv k x0 x1 x2 h:=ks_fun (n:=24) []
theorem F266_call : eInv env (k + 1) (.func 266) #[] #[x0,x1,x2] h = F266 (eInv env k) k x0 x1 x2 h:=kq_inv F266_eq
def F268_lrlrr {β : Type} (inv : Inv) (k : Nat) : Nat→Value→Value→Value→Value→Value→AH→(Value→Value→Value→Value→Value→Value→AH→Option β)→Option β
 | 0,_,_,_,_,_,_,_=>none
 | j + 1,x2,x6,x9,x10,x11,h,ke0 =>
  bnd (pBin prog .lss 3 (.tmp 11) (.tmp 10) x11 x10) fun x12 =>
  brV x12
  (bnd (pIndexAddr prog 34 x9 x11) fun x13 =>
  bnd (pLoad prog 39 x13 h) fun x14 =>
  bnd (pAlloc prog 39 h) fun x8 =>
  bnd (kSt (pStore prog 39 x8.1 x14 x8.2)) fun u =>
  bnd (pFieldAddr prog 148 x2 0) fun x16 =>
  bnd (pLoad prog 142 x16 u.2) fun x17 =>
  bnd (pLoad prog 39 x8.1 u.2) fun x18 =>
  bnd (callV inv x17 #[x18] u.2) fun x19 =>
  bnd (pBuildSlice prog 27 1 #[(0,x19.1)] x19.2) fun x20 =>
  bnd (pAppend prog #[27,27] x6 x20.1 x20.2) fun x21 =>
  bnd (pBin prog .add 3 (.tmp 11) (.const (.int .i64 1)) x11 (.int .i64 1)) fun x22 =>
  F268_lrlrr inv k j x2 x21.1 x9 x10 x22 x21.2 ke0)
  (ke0 x2 x6 x9 x10 x11 x12 h)
def e268_0 : Ent env 268 false 29:=.lp [] 58 [2,6,9,10,11] [(.exit 0,[2,6,9,10,11,12])] F268_lrlrr
/-- (shadowbook/segment.codec[string]).cells -/
def F268 (inv : Inv) (k : Nat) (x0 x1 : Value) (h : AH) : Option (Value × AH) :=
  bnd (pBox prog 148 x0 h) fun x2 =>
  bnd (pLen prog #[34] x1 x2.2) fun x10 =>
  F268_lrlrr inv k k x2.1 (.slice none 0 0) x1 x10 (.int .i64 0) x2.2
  (fun y2 y6 y9 y10 y11 y12 h =>
  bnd (pFieldAddr prog 148 y2 4) fun x23 =>
  bnd (pLoad prog 145 x23 h) fun x24 =>
  bnd (callV inv x24 #[y6] h) fun x26 =>
  bnd (pExtract x26.1 0) fun x27 =>
  bnd (pExtract x26.1 1) fun x28 =>
  some (.tuple #[x27,x28],x26.2))
theorem F268_eq : eFun env k inv 268 #[x0,x1] h = F268 inv k x0 x1 h:=ks_fun (n:=29) [e268_0]
theorem F268_call : eInv env (k + 1) (.func 268) #[] #[x0,x1] h = F268 (eInv env k) k x0 x1 h:=kq_inv F268_eq
abbrev G270_1 {β : Type} (inv : Inv) (x1 x3 x5 : Value) (h : AH) (K : Value→AH→Option β) : Option β :=
  bnd (pFieldAddr prog 148 x3 2) fun x7 =>
  bnd (pLoad prog 143 x7 h) fun x8 =>
  bnd (pFieldAddr prog 148 x3 2) fun x9 =>
  bnd (pLoad prog 143 x9 h) fun x10 =>
  bnd (pFieldAddr prog 148 x3 0) fun x12 =>
  bnd (pLoad prog 142 x12 h) fun x13 =>
  bnd (pFieldAddr prog 53 x5 2) fun x14 =>
  bnd (pLoad prog 39 x14 h) fun x15 =>
  bnd (callV inv x13 #[x15] h) fun x16 =>
  bnd (callV inv x10 #[x1,x16.1] x16.2) fun x17 =>
  bnd (pFieldAddr prog 148 x3 0) fun x18 =>
  bnd (pLoad prog 142 x18 x17.2) fun x19 =>
  bnd (pFieldAddr prog 53 x5 3) fun x20 =>
  bnd (pLoad prog 39 x20 x17.2) fun x21 =>
  bnd (callV inv x19 #[x21] x17.2) fun x22 =>
  bnd (callV inv x8 #[x17.1,x22.1] x22.2) fun x23 =>
  chkK ((!true || !true || (sameO (pLoad prog 143 x7 h) x8 && sameO (pLoad prog 143 x7 x16.2) x8)) && ((!true || !true || (sameO (pLoad prog 143 x7 x16.2) x8 && sameO (pLoad prog 143 x7 x17.2) x8)) && ((!true || !true || (sameO (pLoad prog 143 x7 x17.2) x8 && sameO (pLoad prog 143 x7 x22.2) x8)) && ((!true || !true || (sameO (pLoad prog 143 x9 h) x10 && sameO (pLoad prog 143 x9 x16.2) x10)) && ((!true || !true || (sameO (pLoad prog 142 x18 h) x19 && sameO (pLoad prog 142 x18 x16.2) x19)) && ((!true || !true || (sameO (pLoad prog 142 x18 x16.2) x19 && sameO (pLoad prog 142 x18 x17.2) x19)) && ((!true || !true || (sameO (pLoad prog 39 x20 h) x21 && sameO (pLoad prog 39 x20 x16.2) x21)) && ((!true || !true || (sameO (pLoad prog 39 x20 x16.2) x21 && sameO (pLoad prog 39 x20 x17.2) x21)) && true)))))))) <|
  K (x23.1) x23.2
/-- (shadowbook/segment.codec[string]).zone -/
def F270 (inv : Inv) (k : Nat) (x0 x1 x2 : Value) (h : AH) : Option (Value × AH) :=
  bnd (pBox prog 148 x0 h) fun x3 =>
  bnd (pBox prog 53 x2 x3.2) fun x5 =>
  G270_1 inv x1 x3.1 x5.1 x5.2 fun y6 h =>
  some (y6,h)
theorem F270_eq : eFun env k inv 270 #[x0,x1,x2] h = F270 inv k x0 x1 x2 h:=ks_fun (n:=24) []
theorem F270_call : eInv env (k + 1) (.func 270) #[] #[x0,x1,x2] h = F270 (eInv env k) k x0 x1 x2 h:=kq_inv F270_eq
end
end Go.Proofs.YtlbmlncdjkdoaaaGreat.Sh
