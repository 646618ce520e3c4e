/- Shallow functions, part 1. Printed by a program of the prover's own from the loaded program; Lean checks it. -/
import Derived.Test.YtghelamfaaakcaaGreatSz0
set_option linter.unusedVariables false
set_option linter.unusedSimpArgs false
set_option maxRecDepth 100000
namespace Go.Proofs.YtghelamfaaakcaaGreat.Sh
open Go Go.RowKit Go.Proofs.Ev
open Tryz (prog)
noncomputable section
variable {β : Type} {inv : Inv} {k : Nat} {h : AH} {K : XE→Act→AH→Option β} {x0 x1 x2 x3 x6 x7 x9 x22 z0 z1 : Value}
abbrev G8_3 {β : Type} (inv : Inv) (x0 x1 x2 : Value) (h : AH) (K : Value→AH→Option β) : Option β :=
  bnd (inv (.func 10) #[] #[x1] h) fun x23 =>
  bnd (pUn prog .not x23.1) fun x24 =>
  bnd (gd (some x24) false x23.2 (some (x2,x23.2))) fun x26 =>
  bnd (gd (some x24) false x26.2 (lt (pLen prog #[9] x26.1 x26.2) x26.2)) fun x27 =>
  bnd (gd (some x24) false x27.2 (lt (pBin prog .gtr 3 (.tmp 27) (.const (.int .i64 600)) x27.1 (.int .i64 600)) x27.2)) fun x28 =>
  bnd (pickV x24 (.bool true) x28.1) fun x29 =>
  K (x29) x28.2
abbrev G8_6 {β : Type} (inv : Inv) (x0 x1 x2 x7 x8 : Value) (h : AH) (K : Value→AH→Option β) : Option β :=
  bnd (pBin prog .eql 25 (.tmp 36) (.const (.int .i64 0)) x8 (.int .i64 0)) fun x37 =>
  bnd (inv (.func 11) #[] #[x0,x1] h) fun x40 =>
  bnd (pBin prog .eql 25 (.tmp 40) (.const (.int .i64 0)) x40.1 (.int .i64 0)) fun x41 =>
  bnd (pBin prog .neq 4 (.tmp 37) (.tmp 41) x37 x41) fun x42 =>
  K (x42) x40.2
abbrev G8_11 {β : Type} (inv : Inv) (x0 x1 x2 x9 x10 x11 x12 x13 x14 : Value) (h : AH) (K : Value→AH→Option β) : Option β :=
  bnd (pBin prog .neq 25 (.tmp 57) (.const (.int .i64 0)) x11 (.int .i64 0)) fun x58 =>
  bnd (gd3 (some x58) false h (some (x9,h))) fun x60 =>
  bnd (gd3 (some x58) false x60.2.1 (some (x0,x60.2.1))) fun x61 =>
  bnd (gd3 (some x58) false x61.2.1 (lt (pBin prog .neq 3 (.tmp 60) (.tmp 61) x60.1 x61.1) x61.2.1)) fun x62 =>
  bnd (pickV x58 (.bool true) x62.1) fun x63 =>
  bnd (gd3 (some x63) false x62.2.1 (some (x10,x62.2.1))) fun x65 =>
  bnd (gd3 (some x63) false x65.2.1 (some (x1,x65.2.1))) fun x66 =>
  bnd (gd3 (some x63) false x66.2.1 (inv (.func 22) #[] #[x65.1,x66.1] x66.2.1)) fun x67 =>
  bnd (gd3 (some x63) false x67.2.1 (lt (pUn prog .not x67.1) x67.2.1)) fun x68 =>
  bnd (pickV x63 (.bool true) x68.1) fun x69 =>
  bnd (gd3 (some x69) false x68.2.1 (some (x14,x68.2.1))) fun x71 =>
  bnd (gd3 (some x69) false x71.2.1 (lt (pBin prog .neq 25 (.tmp 71) (.const (.int .i64 0)) x71.1 (.int .i64 0)) x71.2.1)) fun x72 =>
  bnd (pickV x69 (.bool true) x72.1) fun x73 =>
  bnd (gd3 (some x73) false x72.2.1 (some (x12,x72.2.1))) fun x75 =>
  bnd (gd3 (some x73) false x75.2.1 (some (x0,x75.2.1))) fun x76 =>
  bnd (gd3 (some x73) false x76.2.1 (lt (pBin prog .neq 3 (.tmp 75) (.tmp 76) x75.1 x76.1) x76.2.1)) fun x77 =>
  bnd (pickV x73 (.bool true) x77.1) fun x78 =>
  bnd (gd3 (some x78) false x77.2.1 (lt (pLoad prog 38 x13 x77.2.1) x77.2.1)) fun x80 =>
  bnd (gd3 (some x78) false x80.2.1 (some (x1,x80.2.1))) fun x81 =>
  bnd (gd3 (some x78) false x81.2.1 (inv (.func 17) #[] #[x81.1] x81.2.1)) fun x82 =>
  bnd (gd3 (some x78) false x82.2.1 (lt (pBin prog .neq 38 (.tmp 80) (.tmp 82) x80.1 x82.1) x82.2.1)) fun x83 =>
  bnd (pickV x78 (.bool true) x83.1) fun x84 =>
  chkK ((!x80.2.2 || !x82.2.2 || (sameO (pLoad prog 38 x13 x81.2.1) x80.1 && sameO (pLoad prog 38 x13 x82.2.1) x80.1)) && true) <|
  K (x84) x83.2.1
def F8_rlrrrrr {β : Type} (inv : Inv) (k : Nat) (x0 x1 x2 x7 x44 : Value) (h : AH) (kn : (Value→Value→Value→Value→Value→Value→AH→Option β)) (kr : (Value→AH→Option β)) : Option β :=
  brV x44
  (bnd (inv (.func 21) #[] #[x7] h) fun x47 =>
  bnd (pExtract x47.1 0) fun x48 =>
  bnd (pExtract x47.1 1) fun x49 =>
  bnd (pExtract x47.1 2) fun x50 =>
  bnd (inv (.func 15) #[] #[x7] x47.2) fun x53 =>
  bnd (pExtract x53.1 0) fun x54 =>
  bnd (pExtract x53.1 1) fun x55 =>
  bnd (pExtract x53.1 2) fun x56 =>
  bnd (pAlloc prog 38 x53.2) fun x13 =>
  bnd (kSt (pStore prog 38 x13.1 x55 x13.2)) fun u =>
  G8_11 inv x0 x1 x2 x48 x49 x50 x54 x13.1 x56 u.2 fun y84 h =>
  brV y84
  (kr (.bool false) h)
  (kn unk unk x2 unk unk y84 h))
  (kn x0 x1 x2 x7 x44 unk h)
def e8_0 : Ent env 8 false 113:=.jn [] 253 [0,1,2,7,44] [(.normal,[0,1,2,7,44,84]),(.ret,[6])] F8_rlrrrrr
abbrev G8_15 {β : Type} (inv : Inv) (x16 x17 : Value) (h : AH) (K : Value→AH→Option β) : Option β :=
  bnd (pBin prog .eql 25 (.tmp 93) (.const (.int .i64 4)) x17 (.int .i64 4)) fun x94 =>
  bnd (gd (some x94) true h (some (x16,h))) fun x96 =>
  bnd (gd (some x94) true x96.2 (lt (pLen prog #[22] x96.1 x96.2) x96.2)) fun x97 =>
  bnd (gd (some x94) true x97.2 (lt (pBin prog .eql 3 (.tmp 97) (.const (.int .i64 0)) x97.1 (.int .i64 0)) x97.2)) fun x98 =>
  bnd (pickV x94 x98.1 (.bool false)) fun x99 =>
  K (x99) x98.2
abbrev G8_17 {β : Type} (inv : Inv) (x2 x18 x19 : Value) (h : AH) (K : Value→AH→Option β) : Option β :=
  bnd (pBin prog .eql 25 (.tmp 106) (.const (.int .i64 0)) x19 (.int .i64 0)) fun x107 =>
  bnd (gd (some x107) true h (some (x18,h))) fun x109 =>
  bnd (gd (some x107) true x109.2 (some (x2,x109.2))) fun x110 =>
  bnd (gd (some x107) true x110.2 (lt (pBin prog .eql 9 (.tmp 109) (.tmp 110) x109.1 x110.1) x110.2)) fun x111 =>
  bnd (pickV x107 x111.1 (.bool false)) fun x112 =>
  K (x112) x111.2
/-- shadowbook/shadowbooklaw10.SegmentBack -/
def F8 (inv : Inv) (k : Nat) (x0 x1 x2 : Value) (h : AH) : Option (Value × AH) :=
  bnd (inv (.func 9) #[] #[] h) fun x20 =>
  bnd (pUn prog .not x20.1) fun x21 =>
  brV x21
  (some ((.bool false),x20.2))
  (G8_3 inv x0 x1 x2 x20.2 fun y29 h =>
  brV y29
  (some ((.bool true),h))
  (bnd (inv (.func 13) #[] #[x0,x1] h) fun x33 =>
  bnd (pExtract x33.1 0) fun x34 =>
  bnd (pExtract x33.1 1) fun x35 =>
  G8_6 inv x0 x1 x2 x34 x35 x33.2 fun y42 h_1 =>
  brV y42
  (some ((.bool false),h_1))
  (bnd (pBin prog .eql 25 (.tmp 43) (.const (.int .i64 0)) x35 (.int .i64 0)) fun x44 =>
  F8_rlrrrrr inv k x0 x1 x2 x34 x44 h_1
  (fun y0 y1 y2 y7 y44 y84 h_2 =>
  bnd (inv (.func 21) #[] #[y2] h_2) fun x87 =>
  bnd (pExtract x87.1 0) fun x88 =>
  bnd (pExtract x87.1 1) fun x89 =>
  bnd (pExtract x87.1 2) fun x90 =>
  bnd (pBin prog .neq 25 (.tmp 91) (.const (.int .i64 0)) x90 (.int .i64 0)) fun x92 =>
  brV x92
  (G8_15 inv x89 x90 x87.2 fun y6 h_3 =>
  some (y6,h_3))
  (bnd (inv (.func 13) #[] #[x88,x89] x87.2) fun x103 =>
  bnd (pExtract x103.1 0) fun x104 =>
  bnd (pExtract x103.1 1) fun x105 =>
  G8_17 inv y2 x104 x105 x103.2 fun y6_4 h_5 =>
  some (y6_4,h_5)))
  (fun y6_6 h_7 =>
  some (y6_6,h_7)))))
theorem F8_eq : eFun env k inv 8 #[x0,x1,x2] h = F8 inv k x0 x1 x2 h:=ks_fun (n:=113) [e8_0]
theorem F8_call : eInv env (k + 1) (.func 8) #[] #[x0,x1,x2] h = F8 (eInv env k) k x0 x1 x2 h:=kq_inv F8_eq
/-- shadowbook/shadowbooklaw10.light -/
def F10 (inv : Inv) (k : Nat) (x0 : Value) (h : AH) : Option (Value × AH) :=
  bnd (inv (.func 27) #[] #[x0,(.int .i64 60),(.int .i64 600)] h) fun x4 =>
  some (x4.1,x4.2)
theorem F10_eq : eFun env k inv 10 #[x0] h = F10 inv k x0 h:=ks_fun (n:=5) []
theorem F10_call : eInv env (k + 1) (.func 10) #[] #[x0] h = F10 (eInv env k) k x0 h:=kq_inv F10_eq
abbrev G11_11 {β : Type} (inv : Inv) (x0 x6 x14 x15 x16 : Value) (h : AH) (K : Value→AH→Option β) : Option β :=
  bnd (pFieldAddr prog 31 x6 0) fun x25 =>
  bnd (pLoad prog 3 x25 h) fun x26 =>
  bnd (pBin prog .neq 3 (.tmp 26) (.tmp 27) x26 x0) fun x28 =>
  bnd (gd (some x28) true h (lt (pFieldAddr prog 31 x6 0) h)) fun x30 =>
  bnd (gd (some x28) true x30.2 (lt (pLoad prog 3 x30.1 x30.2) x30.2)) fun x31 =>
  bnd (gd (some x28) true x31.2 (lt (pBin prog .neq 3 (.tmp 31) (.const (.int .i64 0)) x31.1 (.int .i64 0)) x31.2)) fun x32 =>
  bnd (pickV x28 x32.1 (.bool false)) fun x33 =>
  K (x33) x32.2
def F11_lrlrrr {β : Type} (inv : Inv) (k : Nat) : Nat→Value→Value→Value→Value→AH→(Value→Value→Value→Value→Value→AH→Option β)→(Value→AH→Option β)→Option β
 | 0,_,_,_,_,_,_,_=>none
 | j + 1,x0,x14,x15,x16,h,ke0,kr =>
  bnd (pBin prog .lss 3 (.tmp 16) (.tmp 15) x16 x15) fun x17 =>
  brV x17
  (bnd (pIndexAddr prog 22 x14 x16) fun x18 =>
  bnd (pLoad prog 31 x18 h) fun x19 =>
  bnd (pAlloc prog 31 h) fun x6 =>
  bnd (kSt (pStore prog 31 x6.1 x19 x6.2)) fun u =>
  bnd (pLoad prog 31 x6.1 u.2) fun x20 =>
  bnd (inv (.func 29) #[] #[x20] u.2) fun x21 =>
  bnd (pBin prog .neq 25 (.tmp 22) (.const (.int .i64 0)) x21.1 (.int .i64 0)) fun x23 =>
  brV x23
  (kr x21.1 x21.2)
  (G11_11 inv x0 x6.1 x14 x15 x16 x21.2 fun y33 h =>
  brV y33
  (kr (.int .i64 11) h)
  (bnd (pBin prog .add 3 (.tmp 16) (.const (.int .i64 1)) x16 (.int .i64 1)) fun x34 =>
  F11_lrlrrr inv k j x0 x14 x15 x34 h ke0 kr)))
  (ke0 x0 x14 x15 x16 x17 h)
def e11_0 : Ent env 11 false 35:=.lp [] 122 [0,14,15,16] [(.exit 0,[0,14,15,16,17]),(.ret,[4])] F11_lrlrrr
/-- shadowbook/segment.Check -/
def F11 (inv : Inv) (k : Nat) (x0 x1 : Value) (h : AH) : Option (Value × AH) :=
  bnd (inv (.func 28) #[] #[x0] h) fun x9 =>
  bnd (pBin prog .eql 54 (.tmp 9) (.const .nilIface) x9.1 .nilIface) fun x10 =>
  brV x10
  (some ((.int .i64 2),x9.2))
  (bnd (pLen prog #[22] x1 x9.2) fun x12 =>
  bnd (pBin prog .gtr 3 (.tmp 12) (.const (.int .i64 4096)) x12 (.int .i64 4096)) fun x13 =>
  brV x13
  (some ((.int .i64 3),x9.2))
  (bnd (pLen prog #[22] x1 x9.2) fun x15 =>
  F11_lrlrrr inv k k x0 x1 x15 (.int .i64 0) x9.2
  (fun y0 y14 y15 y16 y17 h =>
  some ((.int .i64 0),h))
  (fun y4 h_1 =>
  some (y4,h_1))))
theorem F11_eq : eFun env k inv 11 #[x0,x1] h = F11 inv k x0 x1 h:=ks_fun (n:=35) [e11_0]
theorem F11_call : eInv env (k + 1) (.func 11) #[] #[x0,x1] h = F11 (eInv env k) k x0 x1 h:=kq_inv F11_eq
def F13_lrrllrlrrrr {β : Type} (inv : Inv) (k : Nat) (x0 x7 x8 x25 x26 x27 x28 : Value) (h : AH) (kn : (Value→Value→Value→Value→Value→Value→Value→Value→AH→Option β)) : Option β :=
  bnd (pIndexAddr prog 22 x25 x27) fun x30 =>
  bnd (pLoad prog 31 x30 h) fun x31 =>
  bnd (pAlloc prog 31 h) fun x10 =>
  bnd (kSt (pStore prog 31 x10.1 x31 x10.2)) fun u =>
  bnd (pFieldAddr prog 31 x10.1 0) fun x34 =>
  bnd (pLoad prog 3 x34 u.2) fun x35 =>
  bnd (pBin prog .eql 3 (.tmp 35) (.const (.int .i64 0)) x35 (.int .i64 0)) fun x36 =>
  bnd (pIndexAddr prog 32 x7 x27) fun x37 =>
  bnd (kSt (pStore prog 4 x37 x36 u.2)) fun u_1 =>
  bnd (pIndexAddr prog 32 x7 x27) fun x40 =>
  bnd (pLoad prog 4 x40 u_1.2) fun x41 =>
  bnd (pUn prog .not x41) fun x42 =>
  brV x42
  (bnd (pLoad prog 31 x10.1 u_1.2) fun x44 =>
  bnd (pBuildSlice prog 22 1 #[(0,x44)] u_1.2) fun x45 =>
  bnd (pAppend prog #[22,22] x8 x45.1 x45.2) fun x46 =>
  kn x0 x7 x46.1 unk x25 x26 x27 unk x46.2)
  (kn x0 x7 x8 x10.1 x25 x26 x27 x42 u_1.2)
def e13_0 : Ent env 13 false 88:=.jn [] 4006 [0,7,8,25,26,27,28] [(.normal,[0,7,8,10,25,26,27,42])] F13_lrrllrlrrrr
def F13_lrlrrrr {β : Type} (inv : Inv) (k : Nat) : Nat→Value→Value→Value→Value→Value→Value→AH→(Value→Value→Value→Value→Value→Value→Value→AH→Option β)→Option β
 | 0,_,_,_,_,_,_,_,_=>none
 | j + 1,x0,x7,x8,x25,x26,x27,h,ke0 =>
  bnd (pBin prog .lss 3 (.tmp 27) (.tmp 26) x27 x26) fun x28 =>
  brV x28
  (F13_lrrllrlrrrr inv k x0 x7 x8 x25 x26 x27 x28 h
  (fun y0 y7 y8 y10 y25 y26 y27 y42 h =>
  bnd (pBin prog .add 3 (.tmp 27) (.const (.int .i64 1)) y27 (.int .i64 1)) fun x47 =>
  F13_lrlrrrr inv k j y0 y7 y8 y25 y26 x47 h ke0))
  (ke0 x0 x7 x8 x25 x26 x27 x28 h)
def e13_1 : Ent env 13 false 88:=.lp [e13_0] 250 [0,7,8,25,26,27] [(.exit 0,[0,7,8,25,26,27,28])] F13_lrlrrrr
/-- shadowbook/segment.Put -/
def F13 (inv : Inv) (k : Nat) (x0 x1 : Value) (h : AH) : Option (Value × AH) :=
  bnd (inv (.func 11) #[] #[x0,x1] h) fun x18 =>
  bnd (pBin prog .neq 25 (.tmp 19) (.const (.int .i64 0)) x18.1 (.int .i64 0)) fun x20 =>
  brV x20
  (some (.tuple #[(.string { data:=#[] }),x18.1],x18.2))
  (bnd (pLen prog #[22] x1 x18.2) fun x23 =>
  bnd (pMakeSlice prog 32 x23 x23 x18.2) fun x24 =>
  bnd (pLen prog #[22] x1 x24.2) fun x26 =>
  F13_lrlrrrr inv k k x0 x24.1 (.slice none 0 0) x1 x26 (.int .i64 0) x24.2
  (fun y0 y7 y8 y25 y26 y27 y28 h =>
  bnd (inv (.func 30) #[] #[y7] h) fun x50 =>
  bnd (pExtract x50.1 0) fun x51 =>
  bnd (pExtract x50.1 1) fun x52 =>
  bnd (pBin prog .neq 25 (.tmp 53) (.const (.int .i64 0)) x52 (.int .i64 0)) fun x54 =>
  brV x54
  (some (.tuple #[(.string { data:=#[] }),x52],x50.2))
  (bnd (pConv prog 3 5 y0 x50.2) fun x57 =>
  bnd (pBuildSlice prog 33 1 #[(0,x57)] x50.2) fun x58 =>
  bnd (pAppend prog #[33,33] x58.1 x51 x58.2) fun x60 =>
  bnd (pLen prog #[22] y8 x60.2) fun x62 =>
  bnd (pBin prog .eql 3 (.tmp 62) (.const (.int .i64 0)) x62 (.int .i64 0)) fun x63 =>
  brV x63
  (bnd (pConv prog 33 9 x60.1 x60.2) fun x65 =>
  some (.tuple #[x65,(.int .i64 0)],x60.2))
  (bnd (inv (.func 28) #[] #[y0] x60.2) fun x67 =>
  bnd (inv (.method "shadowbook/segment.cells") #[] #[x67.1, y8] x67.2) fun x71 =>
  bnd (pExtract x71.1 0) fun x72 =>
  bnd (pExtract x71.1 1) fun x73 =>
  bnd (pBin prog .neq 25 (.tmp 74) (.const (.int .i64 0)) x73 (.int .i64 0)) fun x75 =>
  brV x75
  (some (.tuple #[(.string { data:=#[] }),x73],x71.2))
  (bnd (inv (.func 31) #[] #[y8] x71.2) fun x80 =>
  bnd (pMakeFunc (.method "shadowbook/segment.zone") #[x67.1] #[]) fun x81 =>
  bnd (pNilCheck prog x81) fun x82 =>
  bnd (inv (.method "shadowbook/segment.zone") #[] #[x67.1, x60.1, x80.1] x80.2) fun x84 =>
  bnd (pAppend prog #[33,33] x84.1 x72 x84.2) fun x86 =>
  bnd (pConv prog 33 9 x86.1 x86.2) fun x87 =>
  some (.tuple #[x87,(.int .i64 0)],x86.2))))))
theorem F13_eq : eFun env k inv 13 #[x0,x1] h = F13 inv k x0 x1 h:=ks_fun (n:=88) [e13_0,e13_1]
theorem F13_call : eInv env (k + 1) (.func 13) #[] #[x0,x1] h = F13 (eInv env k) k x0 x1 h:=kq_inv F13_eq
/-- shadowbook/segment.Zone -/
def F15 (inv : Inv) (k : Nat) (x0 : Value) (h : AH) : Option (Value × AH) :=
  bnd (pAlloc prog 38 h) fun x3 =>
  bnd (inv (.func 36) #[] #[x0] x3.2) fun x8 =>
  bnd (pExtract x8.1 0) fun x9 =>
  bnd (pExtract x8.1 1) fun x10 =>
  bnd (pAlloc prog 66 x8.2) fun x5 =>
  bnd (kSt (pStore prog 66 x5.1 x9 x5.2)) fun u =>
  bnd (pBin prog .neq 25 (.tmp 11) (.const (.int .i64 0)) x10 (.int .i64 0)) fun x12 =>
  brV x12
  (bnd (pBuild prog 38 #[]) fun x13 =>
  bnd (kSt (pStore prog 38 x3.1 x13 u.2)) fun u_1 =>
  bnd (pLoad prog 38 x3.1 u_1.2) fun q1 =>
  some (.tuple #[(.int .i64 0),q1,x10],u_1.2))
  (bnd (pFieldAddr prog 66 x5.1 0) fun x15 =>
  bnd (pLoad prog 3 x15 u.2) fun x16 =>
  bnd (pFieldAddr prog 66 x5.1 2) fun x17 =>
  bnd (pLoad prog 38 x17 u.2) fun x18 =>
  bnd (kSt (pStore prog 38 x3.1 x18 u.2)) fun u_2 =>
  bnd (pLoad prog 38 x3.1 u_2.2) fun q1 =>
  some (.tuple #[x16,q1,(.int .i64 0)],u_2.2))
theorem F15_eq : eFun env k inv 15 #[x0] h = F15 inv k x0 h:=ks_fun (n:=19) []
theorem F15_call : eInv env (k + 1) (.func 15) #[] #[x0] h = F15 (eInv env k) k x0 h:=kq_inv F15_eq
abbrev G17_8 {β : Type} (inv : Inv) (x0 x2 x3 x4 x5 : Value) (h : AH) (K : Value→AH→Option β) : Option β :=
  bnd (gd3 (some x4) false h (some (x0,h))) fun x27 =>
  bnd (gd3 (some x4) false x27.2.1 (some (x5,x27.2.1))) fun x28 =>
  bnd (gd3 (some x4) false x28.2.1 (lt (pIndexAddr prog 22 x27.1 x28.1) x28.2.1)) fun x29 =>
  bnd (gd3 (some x4) false x29.2.1 (lt (pLoad prog 31 x29.1 x29.2.1) x29.2.1)) fun x30 =>
  bnd (gd3 (some x4) false x30.2.1 (lt (pFieldAddr prog 38 x3 2) x30.2.1)) fun x31 =>
  bnd (gd3 (some x4) false x31.2.1 (lt (pLoad prog 31 x31.1 x31.2.1) x31.2.1)) fun x32 =>
  bnd (gd3 (some x4) false x32.2.1 (inv (.func 38) #[] #[x30.1,x32.1] x32.2.1)) fun x33 =>
  bnd (gd3 (some x4) false x33.2.1 (lt (pBin prog .lss 3 (.tmp 33) (.const (.int .i64 0)) x33.1 (.int .i64 0)) x33.2.1)) fun x34 =>
  bnd (pickV x4 (.bool true) x34.1) fun x35 =>
  K (x35) x34.2.1
def F17_rlrllrllrlrrr {β : Type} (inv : Inv) (k : Nat) (x0 x2 x3 x4 x5 x35 : Value) (h : AH) (kn : (Value→Value→Value→Value→Value→Value→AH→Option β)) : Option β :=
  brV x35
  (bnd (pIndexAddr prog 22 x0 x5) fun x38 =>
  bnd (pLoad prog 31 x38 h) fun x39 =>
  bnd (pFieldAddr prog 38 x3 2) fun x40 =>
  bnd (kSt (pStore prog 31 x40 x39 h)) fun u =>
  kn x0 x2 x3 x4 x5 unk u.2)
  (kn x0 x2 x3 x4 x5 x35 h)
def e17_0 : Ent env 17 false 58:=.jn [] 15653 [0,2,3,4,5,35] [(.normal,[0,2,3,4,5,35])] F17_rlrllrllrlrrr
abbrev G17_10 {β : Type} (inv : Inv) (x0 x2 x3 x4 x5 : Value) (h : AH) (K : Value→AH→Option β) : Option β :=
  bnd (gd3 (some x4) false h (some (x0,h))) fun x43 =>
  bnd (gd3 (some x4) false x43.2.1 (some (x5,x43.2.1))) fun x44 =>
  bnd (gd3 (some x4) false x44.2.1 (lt (pIndexAddr prog 22 x43.1 x44.1) x44.2.1)) fun x45 =>
  bnd (gd3 (some x4) false x45.2.1 (lt (pLoad prog 31 x45.1 x45.2.1) x45.2.1)) fun x46 =>
  bnd (gd3 (some x4) false x46.2.1 (lt (pFieldAddr prog 38 x3 3) x46.2.1)) fun x47 =>
  bnd (gd3 (some x4) false x47.2.1 (lt (pLoad prog 31 x47.1 x47.2.1) x47.2.1)) fun x48 =>
  bnd (gd3 (some x4) false x48.2.1 (inv (.func 38) #[] #[x46.1,x48.1] x48.2.1)) fun x49 =>
  bnd (gd3 (some x4) false x49.2.1 (lt (pBin prog .gtr 3 (.tmp 49) (.const (.int .i64 0)) x49.1 (.int .i64 0)) x49.2.1)) fun x50 =>
  bnd (pickV x4 (.bool true) x50.1) fun x51 =>
  K (x51) x50.2.1
def F17_rlrrllrllrlrrr {β : Type} (inv : Inv) (k : Nat) (x0 x2 x3 x5 x51 : Value) (h : AH) (kn : (Value→Value→Value→Value→Value→AH→Option β)) : Option β :=
  brV x51
  (bnd (pIndexAddr prog 22 x0 x5) fun x54 =>
  bnd (pLoad prog 31 x54 h) fun x55 =>
  bnd (pFieldAddr prog 38 x3 3) fun x56 =>
  bnd (kSt (pStore prog 31 x56 x55 h)) fun u =>
  kn x0 x2 x3 x5 unk u.2)
  (kn x0 x2 x3 x5 x51 h)
def e17_1 : Ent env 17 false 58:=.jn [e17_0] 31309 [0,2,3,5,51] [(.normal,[0,2,3,5,51])] F17_rlrrllrllrlrrr
def F17_lrllrlrrr {β : Type} (inv : Inv) (k : Nat) (x0 x2 x3 x4 x5 x12 : Value) (h : AH) (kn : (Value→Value→Value→Value→Value→AH→Option β)) : Option β :=
  bnd (pIndexAddr prog 22 x0 x5) fun x17 =>
  bnd (pFieldAddr prog 31 x17 0) fun x18 =>
  bnd (pLoad prog 3 x18 h) fun x19 =>
  bnd (pBin prog .eql 3 (.tmp 19) (.const (.int .i64 0)) x19 (.int .i64 0)) fun x20 =>
  brV x20
  (bnd (pFieldAddr prog 38 x3 1) fun x21 =>
  bnd (pLoad prog 3 x21 h) fun x22 =>
  bnd (pBin prog .add 3 (.tmp 22) (.const (.int .i64 1)) x22 (.int .i64 1)) fun x23 =>
  bnd (pFieldAddr prog 38 x3 1) fun x24 =>
  bnd (kSt (pStore prog 3 x24 x23 h)) fun u =>
  kn x0 x2 x3 x4 x5 u.2)
  (G17_8 inv x0 x2 x3 x4 x5 h fun y35 h =>
  F17_rlrllrllrlrrr inv k x0 x2 x3 x4 x5 y35 h
  (fun y0 y2 y3 y4 y5 y35_1 h_2 =>
  G17_10 inv y0 y2 y3 y4 y5 h_2 fun y51 h_3 =>
  F17_rlrrllrllrlrrr inv k y0 y2 y3 y5 y51 h_3
  (fun y0_4 y2_5 y3_6 y5_7 y51_8 h_9 =>
  kn y0_4 y2_5 y3_6 (.bool false) y5_7 h_9)))
def e17_2 : Ent env 17 false 58:=.jn [e17_0,e17_1] 978 [0,2,3,4,5,12] [(.normal,[0,2,3,4,5])] F17_lrllrlrrr
def F17_lrlrrr {β : Type} (inv : Inv) (k : Nat) : Nat→Value→Value→Value→Value→Value→AH→(Value→Value→Value→Value→Value→Value→AH→Option β)→Option β
 | 0,_,_,_,_,_,_,_=>none
 | j + 1,x0,x2,x3,x4,x5,h,ke0 =>
  bnd (pLen prog #[22] x0 h) fun x11 =>
  bnd (pBin prog .lss 3 (.tmp 9) (.tmp 11) x5 x11) fun x12 =>
  brV x12
  (F17_lrllrlrrr inv k x0 x2 x3 x4 x5 x12 h
  (fun y0 y2 y3 y4 y5 h =>
  bnd (pBin prog .add 3 (.tmp 13) (.const (.int .i64 1)) y5 (.int .i64 1)) fun x14 =>
  F17_lrlrrr inv k j y0 y2 y3 y4 x14 h ke0))
  (ke0 x0 x2 x3 x4 x5 x12 h)
def e17_3 : Ent env 17 false 58:=.lp [e17_0,e17_1,e17_2] 122 [0,2,3,4,5] [(.exit 0,[0,2,3,4,5,12])] F17_lrlrrr
/-- shadowbook/shadowbookref09.Of -/
def F17 (inv : Inv) (k : Nat) (x0 : Value) (h : AH) : Option (Value × AH) :=
  bnd (pAlloc prog 38 h) fun x2 =>
  bnd (pLen prog #[22] x0 x2.2) fun x7 =>
  bnd (pBuild prog 38 #[(0,x7)]) fun x8 =>
  bnd (pAlloc prog 38 x2.2) fun x3 =>
  bnd (kSt (pStore prog 38 x3.1 x8 x3.2)) fun u =>
  F17_lrlrrr inv k k x0 x2.1 x3.1 (.bool true) (.int .i64 0) u.2
  (fun y0 y2 y3 y4 y5 y12 h =>
  bnd (pLoad prog 38 y3 h) fun x57 =>
  bnd (kSt (pStore prog 38 y2 x57 h)) fun u_10 =>
  bnd (pLoad prog 38 y2 u_10.2) fun q0 =>
  some (q0,u_10.2))
theorem F17_eq : eFun env k inv 17 #[x0] h = F17 inv k x0 h:=ks_fun (n:=58) [e17_0,e17_1,e17_2,e17_3]
theorem F17_call : eInv env (k + 1) (.func 17) #[] #[x0] h = F17 (eInv env k) k x0 h:=kq_inv F17_eq
abbrev G21_7 {β : Type} (inv : Inv) (x0 x3 x5 x6 : Value) (h : AH) (K : Value→Value→AH→Option β) : Option β :=
  bnd (pFieldAddr prog 66 x5 0) fun x30 =>
  bnd (pLoad prog 3 x30 h) fun x31 =>
  bnd (inv (.func 28) #[] #[x31] h) fun x32 =>
  bnd (pFieldAddr prog 66 x5 3) fun x33 =>
  bnd (pLoad prog 33 x33 x32.2) fun x34 =>
  bnd (inv (.method "shadowbook/segment.back") #[] #[x32.1, x34, x6] x32.2) fun x36 =>
  bnd (pExtract x36.1 0) fun x37 =>
  bnd (pExtract x36.1 1) fun x38 =>
  chkK ((!true || !true || (sameO (pLoad prog 33 x33 h) x34 && sameO (pLoad prog 33 x33 x32.2) x34)) && true) <|
  K (x38) (x37) x36.2
def F21_rlrrrrr {β : Type} (inv : Inv) (k : Nat) (x0 x3 x5 x6 x7 x28 : Value) (h : AH) (kn : (Value→Value→Value→Value→Value→Value→Value→Value→AH→Option β)) (kr : (Value→Value→Value→AH→Option β)) : Option β :=
  brV x28
  (G21_7 inv x0 x3 x5 x6 h fun y4 y7 h =>
  bnd (pBin prog .neq 25 (.tmp 39) (.const (.int .i64 0)) y4 (.int .i64 0)) fun x40 =>
  brV x40
  (kr (.int .i64 0) (.slice none 0 0) y4 h)
  (kn x0 x3 y4 x5 x6 y7 unk x40 h))
  (kn x0 x3 unk x5 x6 x7 x28 unk h)
def e21_0 : Ent env 21 false 82:=.jn [] 253 [0,3,5,6,7,28] [(.normal,[0,3,4,5,6,7,28,40]),(.ret,[2,3,4])] F21_rlrrrrr
def F21_lrrllrlrrrrrr {β : Type} (inv : Inv) (k : Nat) (x0 x3 x5 x7 x45 x46 x47 x48 : Value) (h : AH) (kn : (Value→Value→Value→Value→Value→Value→Value→AH→Option β)) : Option β :=
  bnd (pIndexAddr prog 72 x45 x47) fun x49 =>
  bnd (pLoad prog 3 x49 h) fun x50 =>
  bnd (pBin prog .lss 3 (.tmp 51) (.const (.int .i64 0)) x50 (.int .i64 0)) fun x52 =>
  brV x52
  (bnd (pBuild prog 31 #[]) fun x54 =>
  bnd (pBuildSlice prog 22 1 #[(0,x54)] h) fun x55 =>
  bnd (pAppend prog #[22,22] x3 x55.1 x55.2) fun x56 =>
  kn x0 x56.1 x5 x7 x45 x46 x47 x56.2)
  (bnd (pIndexAddr prog 22 x7 x50) fun x60 =>
  bnd (pLoad prog 31 x60 h) fun x61 =>
  bnd (pBuildSlice prog 22 1 #[(0,x61)] h) fun x62 =>
  bnd (pAppend prog #[22,22] x3 x62.1 x62.2) fun x63 =>
  kn x0 x63.1 x5 x7 x45 x46 x47 x63.2)
def e21_1 : Ent env 21 false 82:=.jn [e21_0] 16294 [0,3,5,7,45,46,47,48] [(.normal,[0,3,5,7,45,46,47])] F21_lrrllrlrrrrrr
def F21_lrlrrrrrr {β : Type} (inv : Inv) (k : Nat) : Nat→Value→Value→Value→Value→Value→Value→Value→AH→(Value→Value→Value→Value→Value→Value→Value→Value→AH→Option β)→Option β
 | 0,_,_,_,_,_,_,_,_,_=>none
 | j + 1,x0,x3,x5,x7,x45,x46,x47,h,ke0 =>
  bnd (pBin prog .lss 3 (.tmp 47) (.tmp 46) x47 x46) fun x48 =>
  brV x48
  (F21_lrrllrlrrrrrr inv k x0 x3 x5 x7 x45 x46 x47 x48 h
  (fun y0 y3 y5 y7 y45 y46 y47 h =>
  bnd (pBin prog .add 3 (.tmp 47) (.const (.int .i64 1)) y47 (.int .i64 1)) fun x64 =>
  F21_lrlrrrrrr inv k j y0 y3 y5 y7 y45 y46 x64 h ke0))
  (ke0 x0 x3 x5 x7 x45 x46 x47 x48 h)
def e21_2 : Ent env 21 false 82:=.lp [e21_0,e21_1] 1018 [0,3,5,7,45,46,47] [(.exit 0,[0,3,5,7,45,46,47,48])] F21_lrlrrrrrr
abbrev G21_18 {β : Type} (inv : Inv) (x0 x3 x5 x10 x11 : Value) (h : AH) (K : Value→AH→Option β) : Option β :=
  bnd (pBin prog .neq 25 (.tmp 72) (.const (.int .i64 0)) x11 (.int .i64 0)) fun x73 =>
  bnd (gd (some x73) false h (some (x10,h))) fun x75 =>
  bnd (gd (some x73) false x75.2 (some (x0,x75.2))) fun x76 =>
  bnd (gd (some x73) false x76.2 (lt (pBin prog .neq 9 (.tmp 75) (.tmp 76) x75.1 x76.1) x76.2)) fun x77 =>
  bnd (pickV x73 (.bool true) x77.1) fun x78 =>
  K (x78) x77.2
/-- shadowbook/segment.Get -/
def F21 (inv : Inv) (k : Nat) (x0 : Value) (h : AH) : Option (Value × AH) :=
  bnd (inv (.func 36) #[] #[x0] h) fun x14 =>
  bnd (pExtract x14.1 0) fun x15 =>
  bnd (pExtract x14.1 1) fun x16 =>
  bnd (pAlloc prog 66 x14.2) fun x5 =>
  bnd (kSt (pStore prog 66 x5.1 x15 x5.2)) fun u =>
  bnd (pBin prog .neq 25 (.tmp 17) (.const (.int .i64 0)) x16 (.int .i64 0)) fun x18 =>
  brV x18
  (some (.tuple #[(.int .i64 0),(.slice none 0 0),x16],u.2))
  (bnd (pFieldAddr prog 66 x5.1 2) fun x20 =>
  bnd (pFieldAddr prog 38 x20 0) fun x21 =>
  bnd (pLoad prog 3 x21 u.2) fun x22 =>
  bnd (pFieldAddr prog 66 x5.1 2) fun x23 =>
  bnd (pFieldAddr prog 38 x23 1) fun x24 =>
  bnd (pLoad prog 3 x24 u.2) fun x25 =>
  bnd (pBin prog .sub 3 (.tmp 22) (.tmp 25) x22 x25) fun x26 =>
  bnd (pBin prog .gtr 3 (.tmp 27) (.const (.int .i64 0)) x26 (.int .i64 0)) fun x28 =>
  F21_rlrrrrr inv k x0 (.slice none 0 0) x5.1 x26 (.slice none 0 0) x28 u.2
  (fun y0 y3 y4 y5 y6 y7 y28 y40 h =>
  bnd (pFieldAddr prog 66 y5 1) fun x42 =>
  bnd (pLoad prog 32 x42 h) fun x43 =>
  bnd (inv (.func 39) #[] #[x43,y6] h) fun x45 =>
  bnd (pLen prog #[72] x45.1 x45.2) fun x46 =>
  F21_lrlrrrrrr inv k k y0 y3 y5 y7 x45.1 x46 (.int .i64 0) x45.2
  (fun y0_1 y3_2 y5_3 y7_4 y45 y46 y47 y48 h_5 =>
  bnd (pFieldAddr prog 66 y5_3 0) fun x66 =>
  bnd (pLoad prog 3 x66 h_5) fun x67 =>
  bnd (inv (.func 13) #[] #[x67,y3_2] h_5) fun x69 =>
  bnd (pExtract x69.1 0) fun x70 =>
  bnd (pExtract x69.1 1) fun x71 =>
  G21_18 inv y0_1 y3_2 y5_3 x70 x71 x69.2 fun y78 h_6 =>
  brV y78
  (some (.tuple #[(.int .i64 0),(.slice none 0 0),(.int .i64 4)],h_6))
  (bnd (pFieldAddr prog 66 y5_3 0) fun x79 =>
  bnd (pLoad prog 3 x79 h_6) fun x80 =>
  some (.tuple #[x80,y3_2,(.int .i64 0)],h_6))))
  (fun y2 y3_7 y4_8 h_9 =>
  some (.tuple #[y2,y3_7,y4_8],h_9)))
theorem F21_eq : eFun env k inv 21 #[x0] h = F21 inv k x0 h:=ks_fun (n:=82) [e21_0,e21_1,e21_2]
theorem F21_call : eInv env (k + 1) (.func 21) #[] #[x0] h = F21 (eInv env k) k x0 h:=kq_inv F21_eq
def F22_lrlrr {β : Type} (inv : Inv) (k : Nat) : Nat→Value→Value→Value→AH→(Value→Value→Value→Value→AH→Option β)→(Value→AH→Option β)→Option β
 | 0,_,_,_,_,_,_=>none
 | j + 1,x0,x1,x5,h,ke0,kr =>
  bnd (pLen prog #[22] x0 h) fun x13 =>
  bnd (pBin prog .lss 3 (.tmp 11) (.tmp 13) x5 x13) fun x14 =>
  brV x14
  (bnd (pIndexAddr prog 22 x0 x5) fun x19 =>
  bnd (pLoad prog 31 x19 h) fun x20 =>
  bnd (pIndexAddr prog 22 x1 x5) fun x23 =>
  bnd (pLoad prog 31 x23 h) fun x24 =>
  bnd (pBin prog .neq 31 (.tmp 20) (.tmp 24) x20 x24) fun x25 =>
  brV x25
  (kr (.bool false) h)
  (bnd (pBin prog .add 3 (.tmp 15) (.const (.int .i64 1)) x5 (.int .i64 1)) fun x16 =>
  F22_lrlrr inv k j x0 x1 x16 h ke0 kr))
  (ke0 x0 x1 x5 x14 h)
def e22_0 : Ent env 22 false 26:=.lp [] 58 [0,1,5] [(.exit 0,[0,1,5,14]),(.ret,[4])] F22_lrlrr
/-- shadowbook/shadowbookkit.Same[shadowbook/api.Cell] -/
def F22 (inv : Inv) (k : Nat) (x0 x1 : Value) (h : AH) : Option (Value × AH) :=
  bnd (pLen prog #[22] x0 h) fun x7 =>
  bnd (pLen prog #[22] x1 h) fun x9 =>
  bnd (pBin prog .neq 3 (.tmp 7) (.tmp 9) x7 x9) fun x10 =>
  brV x10
  (some ((.bool false),h))
  (F22_lrlrr inv k k x0 x1 (.int .i64 0) h
  (fun y0 y1 y5 y14 h =>
  some ((.bool true),h))
  (fun y4 h_1 =>
  some (y4,h_1)))
theorem F22_eq : eFun env k inv 22 #[x0,x1] h = F22 inv k x0 x1 h:=ks_fun (n:=26) [e22_0]
theorem F22_call : eInv env (k + 1) (.func 22) #[] #[x0,x1] h = F22 (eInv env k) k x0 x1 h:=kq_inv F22_eq
def F27_lrlrrr {β : Type} (inv : Inv) (k : Nat) : Nat→Value→Value→Value→Value→AH→(Value→Value→Value→Value→Value→AH→Option β)→(Value→AH→Option β)→Option β
 | 0,_,_,_,_,_,_,_=>none
 | j + 1,x0,x2,x7,x8,h,ke0,kr =>
  bnd (pLen prog #[22] x0 h) fun x15 =>
  bnd (pBin prog .lss 3 (.tmp 13) (.tmp 15) x8 x15) fun x16 =>
  brV x16
  (bnd (pIndexAddr prog 22 x0 x8) fun x22 =>
  bnd (pFieldAddr prog 31 x22 2) fun x23 =>
  bnd (pLoad prog 9 x23 h) fun x24 =>
  bnd (pLen prog #[9] x24 h) fun x25 =>
  bnd (pBin prog .add 3 (.tmp 19) (.tmp 25) x7 x25) fun x26 =>
  bnd (pBin prog .gtr 3 (.tmp 27) (.tmp 28) x26 x2) fun x29 =>
  brV x29
  (kr (.bool false) h)
  (bnd (pBin prog .add 3 (.tmp 17) (.const (.int .i64 1)) x8 (.int .i64 1)) fun x18 =>
  F27_lrlrrr inv k j x0 x2 x26 x18 h ke0 kr))
  (ke0 x0 x2 x7 x8 x16 h)
def e27_0 : Ent env 27 false 30:=.lp [] 122 [0,2,7,8] [(.exit 0,[0,2,7,8,16]),(.ret,[6])] F27_lrlrrr
/-- shadowbook/shadowbookkit.LightCells -/
def F27 (inv : Inv) (k : Nat) (x0 x1 x2 : Value) (h : AH) : Option (Value × AH) :=
  bnd (pLen prog #[22] x0 h) fun x10 =>
  bnd (pBin prog .gtr 3 (.tmp 10) (.tmp 11) x10 x1) fun x12 =>
  brV x12
  (some ((.bool false),h))
  (F27_lrlrrr inv k k x0 x2 (.int .i64 0) (.int .i64 0) h
  (fun y0 y2 y7 y8 y16 h =>
  some ((.bool true),h))
  (fun y6 h_1 =>
  some (y6,h_1)))
theorem F27_eq : eFun env k inv 27 #[x0,x1,x2] h = F27 inv k x0 x1 x2 h:=ks_fun (n:=30) [e27_0]
theorem F27_call : eInv env (k + 1) (.func 27) #[] #[x0,x1,x2] h = F27 (eInv env k) k x0 x1 x2 h:=kq_inv F27_eq
/-- shadowbook/segment.of -/
def F28 (inv : Inv) (k : Nat) (x0 : Value) (h : AH) : Option (Value × AH) :=
  bnd (pBin prog .eql 3 (.tmp 3) (.const (.int .i64 1)) x0 (.int .i64 1)) fun x5 =>
  brV x5
  (bnd (inv (.func 44) #[] #[] h) fun x6 =>
  bnd (pMakeIface prog 86 x6.1) fun x7 =>
  some (x7,x6.2))
  (bnd (pBin prog .eql 3 (.tmp 3) (.const (.int .i64 2)) x0 (.int .i64 2)) fun x9 =>
  brV x9
  (bnd (inv (.func 45) #[] #[] h) fun x10 =>
  bnd (pMakeIface prog 94 x10.1) fun x11 =>
  some (x11,x10.2))
  (bnd (pBin prog .eql 3 (.tmp 3) (.const (.int .i64 3)) x0 (.int .i64 3)) fun x13 =>
  brV x13
  (bnd (inv (.func 46) #[] #[] h) fun x14 =>
  bnd (pMakeIface prog 103 x14.1) fun x15 =>
  some (x15,x14.2))
  (some (.nilIface,h))))
theorem F28_eq : eFun env k inv 28 #[x0] h = F28 inv k x0 h:=ks_fun (n:=16) []
theorem F28_call : eInv env (k + 1) (.func 28) #[] #[x0] h = F28 (eInv env k) k x0 h:=kq_inv F28_eq
def F29_rlrrr {β : Type} (inv : Inv) (k : Nat) (x1 x3 x12 : Value) (h : AH) (kn : (Value→Value→Value→Value→AH→Option β)) (kr : (Value→AH→Option β)) : Option β :=
  bnd (pBin prog .eql 3 (.tmp 12) (.const (.int .i64 0)) x12 (.int .i64 0)) fun x14 =>
  brV x14
  (kn x1 x3 x12 x14 h)
  (bnd (pBin prog .eql 3 (.tmp 12) (.const (.int .i64 1)) x12 (.int .i64 1)) fun x16 =>
  brV x16
  (bnd (pFieldAddr prog 31 x1 1) fun x17 =>
  bnd (pLoad prog 2 x17 h) fun x18 =>
  bnd (pFieldAddr prog 31 x3 1) fun x19 =>
  bnd (kSt (pStore prog 2 x19 x18 h)) fun u =>
  kn x1 x3 unk unk u.2)
  (bnd (pBin prog .eql 3 (.tmp 12) (.const (.int .i64 2)) x12 (.int .i64 2)) fun x21 =>
  brV x21
  (bnd (pFieldAddr prog 31 x1 1) fun x22 =>
  bnd (pLoad prog 2 x22 h) fun x23 =>
  bnd (pBin prog .and 2 (.tmp 23) (.const (.int .i64 1)) x23 (.int .i64 1)) fun x24 =>
  bnd (pFieldAddr prog 31 x3 1) fun x25 =>
  bnd (kSt (pStore prog 2 x25 x24 h)) fun u_1 =>
  kn x1 x3 unk unk u_1.2)
  (bnd (pBin prog .eql 3 (.tmp 12) (.const (.int .i64 3)) x12 (.int .i64 3)) fun x27 =>
  brV x27
  (bnd (pFieldAddr prog 31 x1 2) fun x28 =>
  bnd (pLoad prog 9 x28 h) fun x29 =>
  bnd (pFieldAddr prog 31 x3 2) fun x30 =>
  bnd (kSt (pStore prog 9 x30 x29 h)) fun u_2 =>
  kn x1 x3 unk unk u_2.2)
  (kr (.int .i64 2) h))))
def e29_0 : Ent env 29 false 34:=.jn [] 61 [1,3,12] [(.normal,[1,3,12,13]),(.ret,[2])] F29_rlrrr
/-- shadowbook/zone.Cell -/
def F29 (inv : Inv) (k : Nat) (x0 : Value) (h : AH) : Option (Value × AH) :=
  bnd (pBox prog 31 x0 h) fun x1 =>
  bnd (pFieldAddr prog 31 x1.1 2) fun x4 =>
  bnd (pLoad prog 9 x4 x1.2) fun x5 =>
  bnd (pLen prog #[9] x5 x1.2) fun x6 =>
  bnd (pBin prog .gtr 3 (.tmp 6) (.const (.int .i64 65536)) x6 (.int .i64 65536)) fun x7 =>
  brV x7
  (some ((.int .i64 3),x1.2))
  (bnd (pFieldAddr prog 31 x1.1 0) fun x8 =>
  bnd (pLoad prog 3 x8 x1.2) fun x9 =>
  bnd (pBuild prog 31 #[(0,x9)]) fun x10 =>
  bnd (pAlloc prog 31 x1.2) fun x3 =>
  bnd (kSt (pStore prog 31 x3.1 x10 x3.2)) fun u =>
  bnd (pFieldAddr prog 31 x1.1 0) fun x11 =>
  bnd (pLoad prog 3 x11 u.2) fun x12 =>
  F29_rlrrr inv k x1.1 x3.1 x12 u.2
  (fun y1 y3 y12 y13 h =>
  bnd (pLoad prog 31 y3 h) fun x31 =>
  bnd (pLoad prog 31 y1 h) fun x32 =>
  bnd (pBin prog .neq 31 (.tmp 31) (.tmp 32) x31 x32) fun x33 =>
  brV x33
  (some ((.int .i64 2),h))
  (some ((.int .i64 0),h)))
  (fun y2 h_3 =>
  some (y2,h_3)))
theorem F29_eq : eFun env k inv 29 #[x0] h = F29 inv k x0 h:=ks_fun (n:=34) [e29_0]
theorem F29_call : eInv env (k + 1) (.func 29) #[] #[x0] h = F29 (eInv env k) k x0 h:=kq_inv F29_eq
/-- shadowbook/nulls.Put -/
def F30 (inv : Inv) (k : Nat) (x0 : Value) (h : AH) : Option (Value × AH) :=
  bnd (pLen prog #[32] x0 h) fun x9 =>
  bnd (pBin prog .gtr 3 (.tmp 9) (.const (.int .i64 4096)) x9 (.int .i64 4096)) fun x10 =>
  brV x10
  (some (.tuple #[(.slice none 0 0),(.int .i64 3)],h))
  (bnd (pLen prog #[32] x0 h) fun x13 =>
  bnd (pConv prog 3 60 x13 h) fun x14 =>
  bnd (inv (.func 47) #[] #[(.slice none 0 0),x14] h) fun x15 =>
  bnd (inv (.func 48) #[] #[x0] x15.2) fun x17 =>
  bnd (pBuildSlice prog 33 1 #[(0,x17.1)] x17.2) fun x18 =>
  bnd (pAppend prog #[33,33] x15.1 x18.1 x18.2) fun x19 =>
  bnd (inv (.func 48) #[] #[x0] x19.2) fun x21 =>
  bnd (pBin prog .neq 5 (.tmp 21) (.const (.int .u8 2)) x21.1 (.int .u8 2)) fun x22 =>
  brV x22
  (some (.tuple #[x19.1,(.int .i64 0)],x21.2))
  (bnd (inv (.func 50) #[] #[x0] x21.2) fun x26 =>
  bnd (inv (.func 49) #[] #[x26.1,(.int .i64 1)] x26.2) fun x27 =>
  bnd (pExtract x27.1 0) fun x28 =>
  bnd (pExtract x27.1 1) fun x29 =>
  bnd (pAppend prog #[33,33] x19.1 x28 x27.2) fun x32 =>
  some (.tuple #[x32.1,x29],x32.2)))
theorem F30_eq : eFun env k inv 30 #[x0] h = F30 inv k x0 h:=ks_fun (n:=34) []
theorem F30_call : eInv env (k + 1) (.func 30) #[] #[x0] h = F30 (eInv env k) k x0 h:=kq_inv F30_eq
def F31_lrlr {β : Type} (inv : Inv) (k : Nat) : Nat→Value→Value→Value→Value→AH→(Value→Value→Value→Value→Value→AH→Option β)→Option β
 | 0,_,_,_,_,_,_=>none
 | j + 1,x2,x5,x6,x7,h,ke0 =>
  bnd (pBin prog .lss 3 (.tmp 7) (.tmp 6) x7 x6) fun x8 =>
  brV x8
  (bnd (pIndexAddr prog 22 x5 x7) fun x9 =>
  bnd (pLoad prog 31 x9 h) fun x10 =>
  bnd (pAlloc prog 31 h) fun x4 =>
  bnd (kSt (pStore prog 31 x4.1 x10 x4.2)) fun u =>
  bnd (pLoad prog 38 x2 u.2) fun x11 =>
  bnd (pLoad prog 31 x4.1 u.2) fun x12 =>
  bnd (inv (.func 52) #[] #[x12] u.2) fun x13 =>
  bnd (inv (.func 51) #[] #[x11,x13.1] x13.2) fun x14 =>
  bnd (kSt (pStore prog 38 x2 x14.1 x14.2)) fun u_1 =>
  chkK ((!true || !true || (sameO (pLoad prog 38 x2 u.2) x11 && sameO (pLoad prog 38 x2 x13.2) x11)) && true) <|
  bnd (pBin prog .add 3 (.tmp 7) (.const (.int .i64 1)) x7 (.int .i64 1)) fun x15 =>
  F31_lrlr inv k j x2 x5 x6 x15 u_1.2 ke0)
  (ke0 x2 x5 x6 x7 x8 h)
def e31_0 : Ent env 31 false 17:=.lp [] 26 [2,5,6,7] [(.exit 0,[2,5,6,7,8])] F31_lrlr
/-- shadowbook/zone.Of -/
def F31 (inv : Inv) (k : Nat) (x0 : Value) (h : AH) : Option (Value × AH) :=
  bnd (pAlloc prog 38 h) fun x2 =>
  bnd (pLen prog #[22] x0 x2.2) fun x6 =>
  F31_lrlr inv k k x2.1 x0 x6 (.int .i64 0) x2.2
  (fun y2 y5 y6 y7 y8 h =>
  bnd (pLoad prog 38 y2 h) fun x16 =>
  bnd (kSt (pStore prog 38 y2 x16 h)) fun u =>
  bnd (pLoad prog 38 y2 u.2) fun q0 =>
  some (q0,u.2))
theorem F31_eq : eFun env k inv 31 #[x0] h = F31 inv k x0 h:=ks_fun (n:=17) [e31_0]
theorem F31_call : eInv env (k + 1) (.func 31) #[] #[x0] h = F31 (eInv env k) k x0 h:=kq_inv F31_eq
abbrev G36_14 {β : Type} (inv : Inv) (x2 x4 x7 : Value) (h : AH) (K : Value→AH→Option β) : Option β :=
  bnd (inv (.method "shadowbook/segment.ends") #[] #[x4, x7] h) fun x56 =>
  bnd (pExtract x56.1 0) fun x57 =>
  bnd (pExtract x56.1 1) fun x58 =>
  bnd (pExtract x56.1 2) fun x59 =>
  bnd (pFieldAddr prog 66 x2 2) fun x60 =>
  bnd (pFieldAddr prog 38 x60 2) fun x61 =>
  bnd (kSt (pStore prog 31 x61 x57 x56.2)) fun u =>
  bnd (pFieldAddr prog 66 x2 2) fun x62 =>
  bnd (pFieldAddr prog 38 x62 3) fun x63 =>
  bnd (kSt (pStore prog 31 x63 x58 u.2)) fun u_6 =>
  K (x59) u_6.2
abbrev G36_15 {β : Type} (inv : Inv) (x2 x3 x7 : Value) (h : AH) (K : Value→AH→Option β) : Option β :=
  bnd (pBin prog .neq 25 (.tmp 64) (.const (.int .i64 0)) x3 (.int .i64 0)) fun x65 =>
  bnd (gd (some x65) false h (lt (pFieldAddr prog 66 x2 2) h)) fun x67 =>
  bnd (gd (some x65) false x67.2 (lt (pLoad prog 38 x67.1 x67.2) x67.2)) fun x68 =>
  bnd (gd (some x65) false x68.2 (lt (pFieldAddr prog 66 x2 0) x68.2)) fun x69 =>
  bnd (gd (some x65) false x69.2 (lt (pLoad prog 3 x69.1 x69.2) x69.2)) fun x70 =>
  bnd (gd (some x65) false x70.2 (inv (.func 59) #[] #[x68.1,x70.1] x70.2)) fun x71 =>
  bnd (gd (some x65) false x71.2 (lt (pBin prog .neq 25 (.tmp 71) (.const (.int .i64 0)) x71.1 (.int .i64 0)) x71.2)) fun x72 =>
  bnd (pickV x65 (.bool true) x72.1) fun x73 =>
  K (x73) x72.2
def F36_rlrrrrrrrrrr {β : Type} (inv : Inv) (k : Nat) (x2 x4 x7 x52 : Value) (h : AH) (kn : (Value→Value→Value→Value→Value→AH→Option β)) (kr : (Value→Value→AH→Option β)) : Option β :=
  brV x52
  (G36_14 inv x2 x4 x7 h fun y3 h =>
  G36_15 inv x2 y3 x7 h fun y73 h_7 =>
  brV y73
  (bnd (pLoad prog 66 x2 h_7) fun x74 =>
  bnd (kSt (pStore prog 66 x2 x74 h_7)) fun u =>
  kr x2 (.int .i64 4) u.2)
  (kn x2 unk x7 unk y73 h_7))
  (kn x2 x4 x7 x52 unk h)
def e36_0 : Ent env 36 false 85:=.jn [] 8189 [2,4,7,52] [(.normal,[2,4,7,52,73]),(.ret,[2,3])] F36_rlrrrrrrrrrr
/-- shadowbook/segment.open -/
def F36 (inv : Inv) (k : Nat) (x0 : Value) (h : AH) : Option (Value × AH) :=
  bnd (pAlloc prog 66 h) fun x2 =>
  bnd (pBin prog .eql 9 (.tmp 8) (.const (.string { data:=#[] })) x0 (.string { data:=#[] })) fun x9 =>
  brV x9
  (bnd (pLoad prog 66 x2.1 x2.2) fun x10 =>
  bnd (kSt (pStore prog 66 x2.1 x10 x2.2)) fun u =>
  bnd (pLoad prog 66 x2.1 u.2) fun q0 =>
  some (.tuple #[q0,(.int .i64 4)],u.2))
  (bnd (pIndex prog 9 x0 (.int .i64 0)) fun x12 =>
  bnd (pConv prog 5 3 x12 x2.2) fun x13 =>
  bnd (pFieldAddr prog 66 x2.1 0) fun x14 =>
  bnd (kSt (pStore prog 3 x14 x13 x2.2)) fun u_1 =>
  bnd (pFieldAddr prog 66 x2.1 0) fun x15 =>
  bnd (pLoad prog 3 x15 u_1.2) fun x16 =>
  bnd (inv (.func 28) #[] #[x16] u_1.2) fun x17 =>
  bnd (pBin prog .eql 54 (.tmp 18) (.const .nilIface) x17.1 .nilIface) fun x19 =>
  brV x19
  (bnd (pLoad prog 66 x2.1 x17.2) fun x20 =>
  bnd (kSt (pStore prog 66 x2.1 x20 x17.2)) fun u_2 =>
  bnd (pLoad prog 66 x2.1 u_2.2) fun q0 =>
  some (.tuple #[q0,(.int .i64 4)],u_2.2))
  (bnd (pSlice prog 9 x0 (some (.int .i64 1)) none none x17.2) fun x23 =>
  bnd (pBytes prog 9 33 x23 x17.2) fun x24 =>
  bnd (inv (.func 56) #[] #[x24.1] x24.2) fun x25 =>
  bnd (pExtract x25.1 0) fun x26 =>
  bnd (pExtract x25.1 1) fun x27 =>
  bnd (pExtract x25.1 2) fun x28 =>
  bnd (pBin prog .neq 25 (.tmp 29) (.const (.int .i64 0)) x28 (.int .i64 0)) fun x30 =>
  brV x30
  (bnd (pLoad prog 66 x2.1 x25.2) fun x31 =>
  bnd (kSt (pStore prog 66 x2.1 x31 x25.2)) fun u_3 =>
  bnd (pLoad prog 66 x2.1 u_3.2) fun q0 =>
  some (.tuple #[q0,(.int .i64 4)],u_3.2))
  (bnd (pFieldAddr prog 66 x2.1 1) fun x33 =>
  bnd (kSt (pStore prog 32 x33 x26 x25.2)) fun u_4 =>
  bnd (pLen prog #[32] x26 u_4.2) fun x35 =>
  bnd (inv (.func 57) #[] #[x26] u_4.2) fun x37 =>
  bnd (pBuild prog 38 #[(0,x35),(1,x37.1)]) fun x38 =>
  bnd (pFieldAddr prog 66 x2.1 2) fun x39 =>
  bnd (kSt (pStore prog 38 x39 x38 x37.2)) fun u_5 =>
  bnd (pBin prog .add 3 (.const (.int .i64 1)) (.tmp 41) (.int .i64 1) x27) fun x42 =>
  bnd (pSlice prog 9 x0 (some x42) none none u_5.2) fun x43 =>
  bnd (pBytes prog 9 33 x43 u_5.2) fun x44 =>
  bnd (inv (.func 58) #[] #[x44.1] x44.2) fun x45 =>
  bnd (pFieldAddr prog 66 x2.1 2) fun x46 =>
  bnd (pFieldAddr prog 38 x46 0) fun x47 =>
  bnd (pLoad prog 3 x47 x45.2) fun x48 =>
  bnd (pFieldAddr prog 66 x2.1 2) fun x49 =>
  bnd (pFieldAddr prog 38 x49 1) fun x50 =>
  bnd (pLoad prog 3 x50 x45.2) fun x51 =>
  bnd (pBin prog .neq 3 (.tmp 48) (.tmp 51) x48 x51) fun x52 =>
  F36_rlrrrrrrrrrr inv k x2.1 x17.1 x45.1 x52 x45.2
  (fun y2 y4 y7 y52 y73 h =>
  bnd (inv (.func 61) #[] #[y7] h) fun x78 =>
  bnd (inv (.func 60) #[] #[y7,x78.1] x78.2) fun x79 =>
  bnd (pExtract x79.1 0) fun x80 =>
  bnd (pExtract x79.1 1) fun x81 =>
  bnd (pFieldAddr prog 66 y2 3) fun x82 =>
  bnd (kSt (pStore prog 33 x82 x80 x79.2)) fun u_8 =>
  bnd (pLoad prog 66 y2 u_8.2) fun x83 =>
  bnd (kSt (pStore prog 66 y2 x83 u_8.2)) fun u_9 =>
  bnd (pLoad prog 66 y2 u_9.2) fun q0 =>
  some (.tuple #[q0,x81],u_9.2))
  (fun y2_10 y3 h_11 =>
  bnd (pLoad prog 66 y2_10 h_11) fun q0 =>
  some (.tuple #[q0,y3],h_11)))))
theorem F36_eq : eFun env k inv 36 #[x0] h = F36 inv k x0 h:=ks_fun (n:=85) [e36_0]
theorem F36_call : eInv env (k + 1) (.func 36) #[] #[x0] h = F36 (eInv env k) k x0 h:=kq_inv F36_eq
/-- shadowbook/shadowbookref09.Compare -/
def F38 (inv : Inv) (k : Nat) (x0 x1 : Value) (h : AH) : Option (Value × AH) :=
  bnd (pBox prog 31 x0 h) fun x2 =>
  bnd (pBox prog 31 x1 x2.2) fun x3 =>
  bnd (pFieldAddr prog 31 x2.1 0) fun x6 =>
  bnd (pLoad prog 3 x6 x3.2) fun x7 =>
  bnd (pFieldAddr prog 31 x3.1 0) fun x8 =>
  bnd (pLoad prog 3 x8 x3.2) fun x9 =>
  bnd (pBin prog .neq 3 (.tmp 7) (.tmp 9) x7 x9) fun x10 =>
  brV x10
  (bnd (pFieldAddr prog 31 x2.1 0) fun x11 =>
  bnd (pLoad prog 3 x11 x3.2) fun x12 =>
  bnd (pFieldAddr prog 31 x3.1 0) fun x13 =>
  bnd (pLoad prog 3 x13 x3.2) fun x14 =>
  bnd (pBin prog .lss 3 (.tmp 12) (.tmp 14) x12 x14) fun x15 =>
  brV x15
  (some ((.int .i64 (-1)),x3.2))
  (some ((.int .i64 1),x3.2)))
  (bnd (pFieldAddr prog 31 x2.1 1) fun x17 =>
  bnd (pLoad prog 2 x17 x3.2) fun x18 =>
  bnd (pFieldAddr prog 31 x3.1 1) fun x19 =>
  bnd (pLoad prog 2 x19 x3.2) fun x20 =>
  bnd (pBin prog .neq 2 (.tmp 18) (.tmp 20) x18 x20) fun x21 =>
  brV x21
  (bnd (pFieldAddr prog 31 x2.1 1) fun x22 =>
  bnd (pLoad prog 2 x22 x3.2) fun x23 =>
  bnd (pFieldAddr prog 31 x3.1 1) fun x24 =>
  bnd (pLoad prog 2 x24 x3.2) fun x25 =>
  bnd (pBin prog .lss 2 (.tmp 23) (.tmp 25) x23 x25) fun x26 =>
  brV x26
  (some ((.int .i64 (-1)),x3.2))
  (some ((.int .i64 1),x3.2)))
  (bnd (pFieldAddr prog 31 x2.1 2) fun x28 =>
  bnd (pLoad prog 9 x28 x3.2) fun x29 =>
  bnd (pFieldAddr prog 31 x3.1 2) fun x30 =>
  bnd (pLoad prog 9 x30 x3.2) fun x31 =>
  bnd (pBin prog .neq 9 (.tmp 29) (.tmp 31) x29 x31) fun x32 =>
  brV x32
  (bnd (pFieldAddr prog 31 x2.1 2) fun x33 =>
  bnd (pLoad prog 9 x33 x3.2) fun x34 =>
  bnd (pFieldAddr prog 31 x3.1 2) fun x35 =>
  bnd (pLoad prog 9 x35 x3.2) fun x36 =>
  bnd (pBin prog .lss 9 (.tmp 34) (.tmp 36) x34 x36) fun x37 =>
  brV x37
  (some ((.int .i64 (-1)),x3.2))
  (some ((.int .i64 1),x3.2)))
  (some ((.int .i64 0),x3.2))))
theorem F38_eq : eFun env k inv 38 #[x0,x1] h = F38 inv k x0 x1 h:=ks_fun (n:=38) []
theorem F38_call : eInv env (k + 1) (.func 38) #[] #[x0,x1] h = F38 (eInv env k) k x0 x1 h:=kq_inv F38_eq
def F39_lrrllrlrrrr {β : Type} (inv : Inv) (k : Nat) (x5 x6 x16 x17 x18 x19 : Value) (h : AH) (kn : (Value→Value→Value→Value→Value→AH→Option β)) : Option β :=
  bnd (pIndexAddr prog 32 x16 x18) fun x20 =>
  bnd (pLoad prog 4 x20 h) fun x21 =>
  brV x21
  (bnd (pBuildSlice prog 72 1 #[(0,(.int .i64 (-1)))] h) fun x24 =>
  bnd (pAppend prog #[72,72] x5 x24.1 x24.2) fun x25 =>
  kn x25.1 x6 x16 x17 x18 x25.2)
  (bnd (pBuildSlice prog 72 1 #[(0,x6)] h) fun x28 =>
  bnd (pAppend prog #[72,72] x5 x28.1 x28.2) fun x29 =>
  bnd (pBin prog .add 3 (.tmp 30) (.const (.int .i64 1)) x6 (.int .i64 1)) fun x31 =>
  kn x29.1 x31 x16 x17 x18 x29.2)
def e39_0 : Ent env 39 false 34:=.jn [] 4006 [5,6,16,17,18,19] [(.normal,[5,6,16,17,18])] F39_lrrllrlrrrr
def F39_lrlrrrr {β : Type} (inv : Inv) (k : Nat) : Nat→Value→Value→Value→Value→Value→AH→(Value→Value→Value→Value→Value→Value→AH→Option β)→Option β
 | 0,_,_,_,_,_,_,_=>none
 | j + 1,x5,x6,x16,x17,x18,h,ke0 =>
  bnd (pBin prog .lss 3 (.tmp 18) (.tmp 17) x18 x17) fun x19 =>
  brV x19
  (F39_lrrllrlrrrr inv k x5 x6 x16 x17 x18 x19 h
  (fun y5 y6 y16 y17 y18 h =>
  bnd (pBin prog .add 3 (.tmp 18) (.const (.int .i64 1)) y18 (.int .i64 1)) fun x32 =>
  F39_lrlrrrr inv k j y5 y6 y16 y17 x32 h ke0))
  (ke0 x5 x6 x16 x17 x18 x19 h)
def e39_1 : Ent env 39 false 34:=.lp [e39_0] 250 [5,6,16,17,18] [(.exit 0,[5,6,16,17,18,19])] F39_lrlrrrr
/-- shadowbook/nulls.Spread -/
def F39 (inv : Inv) (k : Nat) (x0 x1 : Value) (h : AH) : Option (Value × AH) :=
  bnd (pLen prog #[32] x0 h) fun x10 =>
  bnd (inv (.func 57) #[] #[x0] h) fun x12 =>
  bnd (pBin prog .sub 3 (.tmp 10) (.tmp 12) x10 x12.1) fun x13 =>
  bnd (pBin prog .neq 3 (.tmp 13) (.tmp 14) x13 x1) fun x15 =>
  brV x15
  (some ((.slice none 0 0),x12.2))
  (bnd (pLen prog #[32] x0 x12.2) fun x17 =>
  F39_lrlrrrr inv k k (.slice none 0 0) (.int .i64 0) x0 x17 (.int .i64 0) x12.2
  (fun y5 y6 y16 y17 y18 y19 h =>
  some (y5,h)))
theorem F39_eq : eFun env k inv 39 #[x0,x1] h = F39 inv k x0 x1 h:=ks_fun (n:=34) [e39_0,e39_1]
theorem F39_call : eInv env (k + 1) (.func 39) #[] #[x0,x1] h = F39 (eInv env k) k x0 x1 h:=kq_inv F39_eq
/-- shadowbook/segment.numbers -/
def F44 (inv : Inv) (k : Nat) (h : AH) : Option (Value × AH) :=
  bnd (pAlloc prog 86 h) fun x0 =>
  bnd (pBuild prog 86 #[(0,(.func (.func 72) #[] #[])),(1,(.func (.func 73) #[] #[])),(2,(.func (.func 74) #[] #[])),(3,(.func (.func 76) #[] #[])),(4,(.func (.func 78) #[] #[])),(5,(.func (.func 79) #[] #[]))]) fun x1 =>
  bnd (kSt (pStore prog 86 x0.1 x1 x0.2)) fun u =>
  bnd (pLoad prog 86 x0.1 u.2) fun q0 =>
  some (q0,u.2)
theorem F44_eq : eFun env k inv 44 #[] h = F44 inv k  h:=ks_fun (n:=2) []
theorem F44_call : eInv env (k + 1) (.func 44) #[] #[] h = F44 (eInv env k) k  h:=kq_inv F44_eq
/-- shadowbook/segment.truths -/
def F45 (inv : Inv) (k : Nat) (h : AH) : Option (Value × AH) :=
  bnd (pAlloc prog 94 h) fun x0 =>
  bnd (pBuild prog 94 #[(0,(.func (.func 81) #[] #[])),(1,(.func (.func 82) #[] #[])),(2,(.func (.func 83) #[] #[])),(3,(.func (.func 84) #[] #[])),(4,(.func (.func 85) #[] #[])),(5,(.func (.func 86) #[] #[]))]) fun x1 =>
  bnd (kSt (pStore prog 94 x0.1 x1 x0.2)) fun u =>
  bnd (pLoad prog 94 x0.1 u.2) fun q0 =>
  some (q0,u.2)
theorem F45_eq : eFun env k inv 45 #[] h = F45 inv k  h:=ks_fun (n:=2) []
theorem F45_call : eInv env (k + 1) (.func 45) #[] #[] h = F45 (eInv env k) k  h:=kq_inv F45_eq
/-- shadowbook/segment.words -/
def F46 (inv : Inv) (k : Nat) (h : AH) : Option (Value × AH) :=
  bnd (pAlloc prog 103 h) fun x0 =>
  bnd (pBuild prog 103 #[(0,(.func (.func 88) #[] #[])),(1,(.func (.func 89) #[] #[])),(2,(.func (.func 90) #[] #[])),(3,(.func (.func 91) #[] #[])),(4,(.func (.func 93) #[] #[])),(5,(.func (.func 94) #[] #[]))]) fun x1 =>
  bnd (kSt (pStore prog 103 x0.1 x1 x0.2)) fun u =>
  bnd (pLoad prog 103 x0.1 u.2) fun q0 =>
  some (q0,u.2)
theorem F46_eq : eFun env k inv 46 #[] h = F46 inv k  h:=ks_fun (n:=2) []
theorem F46_call : eInv env (k + 1) (.func 46) #[] #[] h = F46 (eInv env k) k  h:=kq_inv F46_eq
def F47_llr {β : Type} (inv : Inv) (k : Nat) : Nat→Value→Value→AH→(Value→Value→Value→AH→Option β)→Option β
 | 0,_,_,_,_=>none
 | j + 1,x0,x1,h,ke0 =>
  bnd (pBin prog .geq 60 (.tmp 5) (.const (.int .u64 128)) x1 (.int .u64 128)) fun x6 =>
  brV x6
  (bnd (pConv prog 60 5 x1 h) fun x11 =>
  bnd (pBin prog .or 5 (.tmp 11) (.const (.int .u8 128)) x11 (.int .u8 128)) fun x12 =>
  bnd (pBuildSlice prog 33 1 #[(0,x12)] h) fun x13 =>
  bnd (pAppend prog #[33,33] x0 x13.1 x13.2) fun x14 =>
  bnd (pBin prog .shr 60 (.tmp 7) (.const (.int .u64 7)) x1 (.int .u64 7)) fun x8 =>
  F47_llr inv k j x14.1 x8 x14.2 ke0)
  (ke0 x0 x1 x6 h)
def e47_0 : Ent env 47 false 20:=.lp [] 12 [0,1] [(.exit 0,[0,1,6])] F47_llr
/-- shadowbook/octet.PutVar -/
def F47 (inv : Inv) (k : Nat) (x0 x1 : Value) (h : AH) : Option (Value × AH) :=
  F47_llr inv k k x0 x1 h
  (fun y0 y1 y6 h =>
  bnd (pConv prog 60 5 y1 h) fun x17 =>
  bnd (pBuildSlice prog 33 1 #[(0,x17)] h) fun x18 =>
  bnd (pAppend prog #[33,33] y0 x18.1 x18.2) fun x19 =>
  some (x19.1,x19.2))
theorem F47_eq : eFun env k inv 47 #[x0,x1] h = F47 inv k x0 x1 h:=ks_fun (n:=20) [e47_0]
theorem F47_call : eInv env (k + 1) (.func 47) #[] #[x0,x1] h = F47 (eInv env k) k x0 x1 h:=kq_inv F47_eq
/-- (shadowbook/nulls.flags).form -/
def F48 (inv : Inv) (k : Nat) (x0 : Value) (h : AH) : Option (Value × AH) :=
  bnd (inv (.func 96) #[] #[x0] h) fun x4 =>
  bnd (pBin prog .eql 3 (.tmp 4) (.const (.int .i64 0)) x4.1 (.int .i64 0)) fun x6 =>
  brV x6
  (some ((.int .u8 0),x4.2))
  (bnd (pLen prog #[105] x0 x4.2) fun x9 =>
  bnd (pBin prog .eql 3 (.tmp 4) (.tmp 9) x4.1 x9) fun x10 =>
  brV x10
  (some ((.int .u8 1),x4.2))
  (some ((.int .u8 2),x4.2)))
theorem F48_eq : eFun env k inv 48 #[x0] h = F48 inv k x0 h:=ks_fun (n:=11) []
theorem F48_call : eInv env (k + 1) (.func 48) #[] #[x0] h = F48 (eInv env k) k x0 h:=kq_inv F48_eq
def F49_lrrllrrllrlrrrrrr {β : Type} (inv : Inv) (k : Nat) : Nat→Value→Value→Value→Value→Value→Value→Value→Value→Value→Value→Value→AH→(Value→Value→Value→Value→Value→Value→Value→Value→Value→Value→Value→Value→AH→Option β)→Option β
 | 0,_,_,_,_,_,_,_,_,_,_,_,_,_=>none
 | j + 1,x1,x6,x7,x8,x9,x11,x29,x30,x31,x35,x36,h,ke3 =>
  bnd (pBin prog .lss 3 (.tmp 36) (.tmp 35) x36 x35) fun x37 =>
  brV x37
  (bnd (pBin prog .and 60 (.tmp 39) (.const (.int .u64 1)) x11 (.int .u64 1)) fun x40 =>
  bnd (pConv prog 60 5 x40 h) fun x41 =>
  bnd (callV inv x9 #[x41] h) fun x42 =>
  bnd (pBin prog .shr 60 (.tmp 43) (.const (.int .u64 1)) x11 (.int .u64 1)) fun x44 =>
  bnd (pBin prog .add 3 (.tmp 36) (.const (.int .i64 1)) x36 (.int .i64 1)) fun x45 =>
  F49_lrrllrrllrlrrrrrr inv k j x1 x6 x7 x8 x9 x44 x29 x30 x31 x35 x45 x42.2 ke3)
  (ke3 x1 x6 x7 x8 x9 x11 x29 x30 x31 x35 x36 x37 h)
def e49_0 : Ent env 49 false 54:=.lp [] 260710 [1,6,7,8,9,11,29,30,31,35,36] [(.exit 3,[1,6,7,8,9,11,29,30,31,35,36,37])] F49_lrrllrrllrlrrrrrr
def F49_lrlrrrrrr {β : Type} (inv : Inv) (k : Nat) : Nat→Value→Value→Value→Value→Value→Value→Value→Value→AH→(Value→Value→Value→Value→Value→Value→Value→Value→Value→AH→Option β)→Option β
 | 0,_,_,_,_,_,_,_,_,_,_=>none
 | j + 1,x1,x6,x7,x8,x9,x29,x30,x31,h,ke1 =>
  bnd (pBin prog .lss 3 (.tmp 31) (.tmp 30) x31 x30) fun x32 =>
  brV x32
  (bnd (pIndexAddr prog 63 x29 x31) fun x33 =>
  bnd (pLoad prog 60 x33 h) fun x34 =>
  F49_lrrllrrllrlrrrrrr inv k k x1 x6 x7 x8 x9 x34 x29 x30 x31 x1 (.int .i64 0) h
  (fun y1 y6 y7 y8 y9 y11 y29 y30 y31 y35 y36 y37 h =>
  bnd (pBin prog .add 3 (.tmp 31) (.const (.int .i64 1)) y31 (.int .i64 1)) fun x46 =>
  F49_lrlrrrrrr inv k j y1 y6 y7 y8 y9 y29 y30 x46 h ke1))
  (ke1 x1 x6 x7 x8 x9 x29 x30 x31 x32 h)
def e49_1 : Ent env 49 false 54:=.lp [e49_0] 1018 [1,6,7,8,9,29,30,31] [(.exit 1,[1,6,7,8,9,29,30,31,32])] F49_lrlrrrrrr
def F49_rlrrrrrrr {β : Type} (inv : Inv) (k : Nat) (x6 x7 x48 : Value) (h : AH) (kn : (Value→Value→Value→AH→Option β)) : Option β :=
  brV x48
  (bnd (pLoad prog 33 x6 h) fun x49 =>
  bnd (pLoad prog 5 x7 h) fun x50 =>
  bnd (pBuildSlice prog 33 1 #[(0,x50)] h) fun x51 =>
  bnd (pAppend prog #[33,33] x49 x51.1 x51.2) fun x52 =>
  bnd (kSt (pStore prog 33 x6 x52.1 x52.2)) fun u =>
  kn x6 unk unk u.2)
  (kn x6 x7 x48 h)
def e49_2 : Ent env 49 false 54:=.jn [e49_0,e49_1] 1021 [6,7,48] [(.normal,[6,7,48])] F49_rlrrrrrrr
/-- shadowbook/packs.Put -/
def F49 (inv : Inv) (k : Nat) (x0 x1 : Value) (h : AH) : Option (Value × AH) :=
  bnd (pLen prog #[63] x0 h) fun x14 =>
  bnd (inv (.func 97) #[] #[x14,x1] h) fun x16 =>
  bnd (pUn prog .not x16.1) fun x17 =>
  brV x17
  (some (.tuple #[(.slice none 0 0),(.int .i64 2)],x16.2))
  (bnd (inv (.func 98) #[] #[x0] x16.2) fun x20 =>
  bnd (pBin prog .gtr 3 (.tmp 20) (.tmp 21) x20.1 x1) fun x22 =>
  brV x22
  (some (.tuple #[(.slice none 0 0),(.int .i64 3)],x20.2))
  (bnd (pLen prog #[63] x0 x20.2) fun x24 =>
  bnd (inv (.func 99) #[] #[x24,x1] x20.2) fun x26 =>
  bnd (pMakeSlice prog 33 (.int .i64 0) x26.1 x26.2) fun x27 =>
  bnd (pAlloc prog 33 x27.2) fun x6 =>
  bnd (kSt (pStore prog 33 x6.1 x27.1 x6.2)) fun u =>
  bnd (pAlloc prog 5 u.2) fun x7 =>
  bnd (pAlloc prog 3 x7.2) fun x8 =>
  bnd (kSt (pStore prog 3 x8.1 (.int .i64 0) x8.2)) fun u_1 =>
  bnd (pMakeFunc (.func 100) #[] #[x7.1,x8.1,x6.1]) fun x28 =>
  bnd (pLen prog #[63] x0 u_1.2) fun x30 =>
  F49_lrlrrrrrr inv k k x1 x6.1 x7.1 x8.1 x28 x0 x30 (.int .i64 0) u_1.2
  (fun y1 y6 y7 y8 y9 y29 y30 y31 y32 h =>
  bnd (pLoad prog 3 y8 h) fun x47 =>
  bnd (pBin prog .gtr 3 (.tmp 47) (.const (.int .i64 0)) x47 (.int .i64 0)) fun x48 =>
  F49_rlrrrrrrr inv k y6 y7 x48 h
  (fun y6_2 y7_3 y48 h_4 =>
  bnd (pLoad prog 33 y6_2 h_4) fun x53 =>
  some (.tuple #[x53,(.int .i64 0)],h_4)))))
theorem F49_eq : eFun env k inv 49 #[x0,x1] h = F49 inv k x0 x1 h:=ks_fun (n:=54) [e49_0,e49_1,e49_2]
theorem F49_call : eInv env (k + 1) (.func 49) #[] #[x0,x1] h = F49 (eInv env k) k x0 x1 h:=kq_inv F49_eq
def F50_lrrllrlrr {β : Type} (inv : Inv) (k : Nat) (x3 x9 x10 x11 x12 : Value) (h : AH) (kn : (Value→Value→Value→Value→Value→Value→AH→Option β)) : Option β :=
  bnd (pIndexAddr prog 105 x9 x11) fun x14 =>
  bnd (pLoad prog 4 x14 h) fun x15 =>
  brV x15
  (bnd (pIndexAddr prog 63 x3 x11) fun x19 =>
  bnd (kSt (pStore prog 60 x19 (.int .u64 1) h)) fun u =>
  kn x3 unk x9 x10 x11 unk u.2)
  (kn x3 x11 x9 x10 x11 x15 h)
def e50_0 : Ent env 50 false 22:=.jn [] 934 [3,9,10,11,12] [(.normal,[3,4,9,10,11,16])] F50_lrrllrlrr
def F50_lrlrr {β : Type} (inv : Inv) (k : Nat) : Nat→Value→Value→Value→Value→AH→(Value→Value→Value→Value→Value→AH→Option β)→Option β
 | 0,_,_,_,_,_,_=>none
 | j + 1,x3,x9,x10,x11,h,ke0 =>
  bnd (pBin prog .lss 3 (.tmp 11) (.tmp 10) x11 x10) fun x12 =>
  brV x12
  (F50_lrrllrlrr inv k x3 x9 x10 x11 x12 h
  (fun y3 y4 y9 y10 y11 y16 h =>
  bnd (pBin prog .add 3 (.tmp 11) (.const (.int .i64 1)) y11 (.int .i64 1)) fun x20 =>
  F50_lrlrr inv k j y3 y9 y10 x20 h ke0))
  (ke0 x3 x9 x10 x11 x12 h)
def e50_1 : Ent env 50 false 22:=.lp [e50_0] 58 [3,9,10,11] [(.exit 0,[3,9,10,11,12])] F50_lrlrr
/-- (shadowbook/nulls.flags).numbers -/
def F50 (inv : Inv) (k : Nat) (x0 : Value) (h : AH) : Option (Value × AH) :=
  bnd (pLen prog #[105] x0 h) fun x7 =>
  bnd (pMakeSlice prog 63 x7 x7 h) fun x8 =>
  bnd (pLen prog #[105] x0 x8.2) fun x10 =>
  F50_lrlrr inv k k x8.1 x0 x10 (.int .i64 0) x8.2
  (fun y3 y9 y10 y11 y12 h =>
  some (y3,h))
theorem F50_eq : eFun env k inv 50 #[x0] h = F50 inv k x0 h:=ks_fun (n:=22) [e50_0,e50_1]
theorem F50_call : eInv env (k + 1) (.func 50) #[] #[x0] h = F50 (eInv env k) k x0 h:=kq_inv F50_eq
abbrev G51_1 {β : Type} (inv : Inv) (x2 x3 x4 : Value) (h : AH) (K : Value→AH→Option β) : Option β :=
  bnd (pFieldAddr prog 38 x2 0) fun x6 =>
  bnd (pLoad prog 3 x6 h) fun x7 =>
  bnd (pFieldAddr prog 38 x3 0) fun x8 =>
  bnd (pLoad prog 3 x8 h) fun x9 =>
  bnd (pBin prog .add 3 (.tmp 7) (.tmp 9) x7 x9) fun x10 =>
  bnd (pFieldAddr prog 38 x2 1) fun x11 =>
  bnd (pLoad prog 3 x11 h) fun x12 =>
  bnd (pFieldAddr prog 38 x3 1) fun x13 =>
  bnd (pLoad prog 3 x13 h) fun x14 =>
  bnd (pBin prog .add 3 (.tmp 12) (.tmp 14) x12 x14) fun x15 =>
  bnd (pFieldAddr prog 38 x2 2) fun x16 =>
  bnd (pLoad prog 31 x16 h) fun x17 =>
  bnd (pFieldAddr prog 38 x2 3) fun x18 =>
  bnd (pLoad prog 31 x18 h) fun x19 =>
  bnd (pBuild prog 38 #[(0,x10),(1,x15),(2,x17),(3,x19)]) fun x20 =>
  bnd (pAlloc prog 38 h) fun x5 =>
  bnd (kSt (pStore prog 38 x5.1 x20 x5.2)) fun u =>
  K (x5.1) u.2
abbrev G51_3 {β : Type} (inv : Inv) (x3 x4 x5 : Value) (h : AH) (K : AH→Option β) : Option β :=
  bnd (pFieldAddr prog 38 x3 2) fun x27 =>
  bnd (pLoad prog 31 x27 h) fun x28 =>
  bnd (pFieldAddr prog 38 x3 3) fun x29 =>
  bnd (pLoad prog 31 x29 h) fun x30 =>
  bnd (pFieldAddr prog 38 x5 2) fun x31 =>
  bnd (kSt (pStore prog 31 x31 x28 h)) fun u =>
  bnd (pFieldAddr prog 38 x5 3) fun x32 =>
  bnd (kSt (pStore prog 31 x32 x30 u.2)) fun u_1 =>
  chkK ((!true || !true || (sameO (pLoad prog 31 x29 h) x30 && sameO (pLoad prog 31 x29 u.2) x30)) && true) <|
  K u_1.2
def F51_rllrrrllrr {β : Type} (inv : Inv) (k : Nat) (x3 x4 x5 x44 : Value) (h : AH) (kn : (Value→Value→Value→Value→AH→Option β)) : Option β :=
  brV x44
  (bnd (pFieldAddr prog 38 x3 2) fun x45 =>
  bnd (pLoad prog 31 x45 h) fun x46 =>
  bnd (pFieldAddr prog 38 x5 2) fun x47 =>
  bnd (kSt (pStore prog 31 x47 x46 h)) fun u =>
  kn x3 x4 x5 unk u.2)
  (kn x3 x4 x5 x44 h)
def e51_0 : Ent env 51 false 58:=.jn [] 1849 [3,4,5,44] [(.normal,[3,4,5,44])] F51_rllrrrllrr
def F51_lrr {β : Type} (inv : Inv) (k : Nat) (x2 x3 x4 x5 : Value) (h : AH) (kn : (Value→Value→Value→Value→Value→AH→Option β)) : Option β :=
  bnd (pFieldAddr prog 38 x2 0) fun x22 =>
  bnd (pLoad prog 3 x22 h) fun x23 =>
  bnd (pFieldAddr prog 38 x2 1) fun x24 =>
  bnd (pLoad prog 3 x24 h) fun x25 =>
  bnd (pBin prog .eql 3 (.tmp 23) (.tmp 25) x23 x25) fun x26 =>
  brV x26
  (G51_3 inv x3 x4 x5 h fun  h =>
  kn unk x4 x5 unk unk h)
  (bnd (pFieldAddr prog 38 x3 0) fun x34 =>
  bnd (pLoad prog 3 x34 h) fun x35 =>
  bnd (pFieldAddr prog 38 x3 1) fun x36 =>
  bnd (pLoad prog 3 x36 h) fun x37 =>
  bnd (pBin prog .neq 3 (.tmp 35) (.tmp 37) x35 x37) fun x38 =>
  brV x38
  (bnd (pFieldAddr prog 38 x3 2) fun x39 =>
  bnd (pLoad prog 31 x39 h) fun x40 =>
  bnd (pFieldAddr prog 38 x5 2) fun x41 =>
  bnd (pLoad prog 31 x41 h) fun x42 =>
  bnd (inv (.func 101) #[] #[x40,x42] h) fun x43 =>
  bnd (pBin prog .lss 3 (.tmp 43) (.const (.int .i64 0)) x43.1 (.int .i64 0)) fun x44 =>
  F51_rllrrrllrr inv k x3 x4 x5 x44 x43.2
  (fun y3 y4 y5 y44 h_2 =>
  bnd (pFieldAddr prog 38 y3 3) fun x48 =>
  bnd (pLoad prog 31 x48 h_2) fun x49 =>
  bnd (pFieldAddr prog 38 y5 3) fun x50 =>
  bnd (pLoad prog 31 x50 h_2) fun x51 =>
  bnd (inv (.func 101) #[] #[x49,x51] h_2) fun x52 =>
  bnd (pBin prog .gtr 3 (.tmp 52) (.const (.int .i64 0)) x52.1 (.int .i64 0)) fun x53 =>
  brV x53
  (bnd (pFieldAddr prog 38 y3 3) fun x54 =>
  bnd (pLoad prog 31 x54 x52.2) fun x55 =>
  bnd (pFieldAddr prog 38 y5 3) fun x56 =>
  bnd (kSt (pStore prog 31 x56 x55 x52.2)) fun u =>
  kn unk y4 y5 unk unk u.2)
  (kn y3 y4 y5 unk x53 x52.2)))
  (kn x3 x4 x5 x38 unk h))
def e51_1 : Ent env 51 false 58:=.jn [e51_0] 14 [2,3,4,5] [(.normal,[3,4,5,33,53])] F51_lrr
/-- shadowbook/zone.Join -/
def F51 (inv : Inv) (k : Nat) (x0 x1 : Value) (h : AH) : Option (Value × AH) :=
  bnd (pBox prog 38 x0 h) fun x2 =>
  bnd (pBox prog 38 x1 x2.2) fun x3 =>
  bnd (pAlloc prog 38 x3.2) fun x4 =>
  G51_1 inv x2.1 x3.1 x4.1 x4.2 fun y5 h =>
  F51_lrr inv k x2.1 x3.1 x4.1 y5 h
  (fun y3 y4 y5_3 y33 y53 h_4 =>
  bnd (pLoad prog 38 y5_3 h_4) fun x57 =>
  bnd (kSt (pStore prog 38 y4 x57 h_4)) fun u =>
  bnd (pLoad prog 38 y4 u.2) fun q0 =>
  some (q0,u.2))
theorem F51_eq : eFun env k inv 51 #[x0,x1] h = F51 inv k x0 x1 h:=ks_fun (n:=58) [e51_0,e51_1]
theorem F51_call : eInv env (k + 1) (.func 51) #[] #[x0,x1] h = F51 (eInv env k) k x0 x1 h:=kq_inv F51_eq
/-- shadowbook/zone.one -/
def F52 (inv : Inv) (k : Nat) (x0 : Value) (h : AH) : Option (Value × AH) :=
  bnd (pBox prog 31 x0 h) fun x1 =>
  bnd (pAlloc prog 38 x1.2) fun x2 =>
  bnd (pFieldAddr prog 31 x1.1 0) fun x3 =>
  bnd (pLoad prog 3 x3 x2.2) fun x4 =>
  bnd (pBin prog .eql 3 (.tmp 4) (.const (.int .i64 0)) x4 (.int .i64 0)) fun x5 =>
  brV x5
  (bnd (pBuild prog 38 #[(0,(.int .i64 1)),(1,(.int .i64 1))]) fun x6 =>
  bnd (kSt (pStore prog 38 x2.1 x6 x2.2)) fun u =>
  bnd (pLoad prog 38 x2.1 u.2) fun q0 =>
  some (q0,u.2))
  (bnd (pLoad prog 31 x1.1 x2.2) fun x7 =>
  bnd (pLoad prog 31 x1.1 x2.2) fun x8 =>
  bnd (pBuild prog 38 #[(0,(.int .i64 1)),(2,x7),(3,x8)]) fun x9 =>
  bnd (kSt (pStore prog 38 x2.1 x9 x2.2)) fun u_1 =>
  bnd (pLoad prog 38 x2.1 u_1.2) fun q0 =>
  some (q0,u_1.2))
theorem F52_eq : eFun env k inv 52 #[x0] h = F52 inv k x0 h:=ks_fun (n:=10) []
theorem F52_call : eInv env (k + 1) (.func 52) #[] #[x0] h = F52 (eInv env k) k x0 h:=kq_inv F52_eq
abbrev G56_3 {β : Type} (inv : Inv) (x0 x4 x5 x6 : Value) (h : AH) (K : Value→AH→Option β) : Option β :=
  bnd (pBin prog .neq 25 (.tmp 21) (.const (.int .i64 0)) x4 (.int .i64 0)) fun x22 =>
  bnd (gd (some x22) false h (some (x6,h))) fun x24 =>
  bnd (gd (some x22) false x24.2 (lt (pBin prog .gtr 60 (.tmp 24) (.const (.int .u64 4096)) x24.1 (.int .u64 4096)) x24.2)) fun x25 =>
  bnd (pickV x22 (.bool true) x25.1) fun x26 =>
  K (x26) x25.2
abbrev G56_6 {β : Type} (inv : Inv) (x0 x4 x5 x6 x7 : Value) (h : AH) (K : Value→AH→Option β) : Option β :=
  bnd (pBin prog .neq 25 (.tmp 32) (.const (.int .i64 0)) x4 (.int .i64 0)) fun x33 =>
  bnd (gd (some x33) false h (some (x7,h))) fun x35 =>
  bnd (gd (some x33) false x35.2 (lt (pBin prog .gtr 60 (.tmp 35) (.const (.int .u64 2)) x35.1 (.int .u64 2)) x35.2)) fun x36 =>
  bnd (pickV x33 (.bool true) x36.1) fun x37 =>
  K (x37) x36.2
def F56_lrrrrrlrlrrrrrrr {β : Type} (inv : Inv) (k : Nat) : Nat→Value→Value→Value→Value→Value→Value→AH→(Value→Value→Value→Value→Value→Value→Value→AH→Option β)→Option β
 | 0,_,_,_,_,_,_,_,_=>none
 | j + 1,x0,x2,x5,x10,x66,x67,h,ke0 =>
  bnd (pBin prog .lss 3 (.tmp 67) (.tmp 66) x67 x66) fun x68 =>
  brV x68
  (bnd (pIndexAddr prog 63 x10 x67) fun x74 =>
  bnd (pLoad prog 60 x74 h) fun x75 =>
  bnd (pBin prog .eql 60 (.tmp 75) (.const (.int .u64 1)) x75 (.int .u64 1)) fun x76 =>
  bnd (pIndexAddr prog 32 x2 x67) fun x77 =>
  bnd (kSt (pStore prog 4 x77 x76 h)) fun u =>
  bnd (pBin prog .add 3 (.tmp 67) (.const (.int .i64 1)) x67 (.int .i64 1)) fun x78 =>
  F56_lrrrrrlrlrrrrrrr inv k j x0 x2 x5 x10 x66 x78 u.2 ke0)
  (ke0 x0 x2 x5 x10 x66 x67 x68 h)
def e56_0 : Ent env 56 false 101:=.lp [] 130750 [0,2,5,10,66,67] [(.exit 0,[0,2,5,10,66,67,68])] F56_lrrrrrlrlrrrrrrr
def F56_rlrrrrrrr {β : Type} (inv : Inv) (k : Nat) (x0 x2 x5 x6 x45 : Value) (h : AH) (kn : (Value→Value→Value→Value→Value→Value→Value→Value→Value→AH→Option β)) (kr : (Value→Value→Value→AH→Option β)) : Option β :=
  brV x45
  (bnd (pConv prog 60 3 x6 h) fun x49 =>
  bnd (inv (.func 99) #[] #[x49,(.int .i64 1)] h) fun x50 =>
  bnd (inv (.func 60) #[] #[x5,x50.1] x50.2) fun x51 =>
  bnd (pExtract x51.1 0) fun x52 =>
  bnd (pExtract x51.1 1) fun x53 =>
  bnd (pBin prog .neq 25 (.tmp 54) (.const (.int .i64 0)) x53 (.int .i64 0)) fun x55 =>
  brV x55
  (kr (.slice none 0 0) (.int .i64 0) (.int .i64 4) x51.2)
  (bnd (pConv prog 60 3 x6 x51.2) fun x59 =>
  bnd (inv (.func 87) #[] #[x52,x59,(.int .i64 1)] x51.2) fun x60 =>
  bnd (pExtract x60.1 0) fun x61 =>
  bnd (pExtract x60.1 1) fun x62 =>
  bnd (pBin prog .neq 25 (.tmp 63) (.const (.int .i64 0)) x62 (.int .i64 0)) fun x64 =>
  brV x64
  (kr (.slice none 0 0) (.int .i64 0) (.int .i64 4) x60.2)
  (bnd (pLen prog #[32] x2 x60.2) fun x66 =>
  F56_lrrrrrlrlrrrrrrr inv k k x0 x2 x5 x61 x66 (.int .i64 0) x60.2
  (fun y0 y2 y5 y10 y66 y67 y68 h =>
  kn y0 y2 y5 unk y10 unk y66 y67 y68 h))))
  (kn x0 x2 x5 x6 unk x45 unk unk unk h)
def e56_1 : Ent env 56 false 101:=.jn [e56_0] 1021 [0,2,5,6,45] [(.normal,[0,2,5,6,10,45,66,67,68]),(.ret,[2,3,4])] F56_rlrrrrrrr
abbrev G56_23 {β : Type} (inv : Inv) (x0 x2 x3 x12 x13 : Value) (h : AH) (K : Value→AH→Option β) : Option β :=
  bnd (pBin prog .neq 25 (.tmp 89) (.const (.int .i64 0)) x13 (.int .i64 0)) fun x90 =>
  bnd (gd (some x90) false h (some (x12,h))) fun x92 =>
  bnd (gd (some x90) false x92.2 (some (x0,x92.2))) fun x93 =>
  bnd (gd (some x90) false x93.2 (some (x3,x93.2))) fun x94 =>
  bnd (gd (some x90) false x94.2 (lt (pSlice prog 33 x93.1 none (some x94.1) none x94.2) x94.2)) fun x95 =>
  bnd (gd (some x90) false x95.2 (inv (.func 104) #[] #[x92.1,x95.1] x95.2)) fun x96 =>
  bnd (gd (some x90) false x96.2 (lt (pUn prog .not x96.1) x96.2)) fun x97 =>
  bnd (pickV x90 (.bool true) x97.1) fun x98 =>
  K (x98) x97.2
/-- shadowbook/nulls.Get -/
def F56 (inv : Inv) (k : Nat) (x0 : Value) (h : AH) : Option (Value × AH) :=
  bnd (inv (.func 58) #[] #[x0] h) fun x15 =>
  bnd (inv (.func 92) #[] #[x15.1] x15.2) fun x18 =>
  bnd (pExtract x18.1 0) fun x19 =>
  bnd (pExtract x18.1 1) fun x20 =>
  G56_3 inv x0 x20 x15.1 x19 x18.2 fun y26 h =>
  brV y26
  (some (.tuple #[(.slice none 0 0),(.int .i64 0),(.int .i64 4)],h))
  (bnd (inv (.func 77) #[] #[x15.1,(.int .i64 1)] h) fun x29 =>
  bnd (pExtract x29.1 0) fun x30 =>
  bnd (pExtract x29.1 1) fun x31 =>
  G56_6 inv x0 x31 x15.1 x19 x30 x29.2 fun y37 h_1 =>
  brV y37
  (some (.tuple #[(.slice none 0 0),(.int .i64 0),(.int .i64 4)],h_1))
  (bnd (pBin prog .eql 60 (.tmp 38) (.const (.int .u64 1)) x30 (.int .u64 1)) fun x39 =>
  bnd (pBuildSlice prog 32 1 #[(0,x39)] h_1) fun x40 =>
  bnd (pConv prog 60 3 x19 x40.2) fun x42 =>
  bnd (inv (.func 103) #[] #[x40.1,x42] x40.2) fun x43 =>
  bnd (pBin prog .eql 60 (.tmp 44) (.const (.int .u64 2)) x30 (.int .u64 2)) fun x45 =>
  F56_rlrrrrrrr inv k x0 x43.1 x15.1 x19 x45 x43.2
  (fun y0 y2 y5 y6 y10 y45 y66 y67 y68 h_2 =>
  bnd (pLen prog #[33] y0 h_2) fun x80 =>
  bnd (inv (.func 61) #[] #[y5] h_2) fun x82 =>
  bnd (pBin prog .sub 3 (.tmp 80) (.tmp 82) x80 x82.1) fun x83 =>
  bnd (inv (.func 30) #[] #[y2] x82.2) fun x86 =>
  bnd (pExtract x86.1 0) fun x87 =>
  bnd (pExtract x86.1 1) fun x88 =>
  G56_23 inv y0 y2 x83 x87 x88 x86.2 fun y98 h_3 =>
  brV y98
  (some (.tuple #[(.slice none 0 0),(.int .i64 0),(.int .i64 4)],h_3))
  (some (.tuple #[y2,x83,(.int .i64 0)],h_3)))
  (fun y2_4 y3 y4 h_5 =>
  some (.tuple #[y2_4,y3,y4],h_5))))
theorem F56_eq : eFun env k inv 56 #[x0] h = F56 inv k x0 h:=ks_fun (n:=101) [e56_0,e56_1]
theorem F56_call : eInv env (k + 1) (.func 56) #[] #[x0] h = F56 (eInv env k) k x0 h:=kq_inv F56_eq
/-- shadowbook/nulls.Count -/
def F57 (inv : Inv) (k : Nat) (x0 : Value) (h : AH) : Option (Value × AH) :=
  bnd (inv (.func 96) #[] #[x0] h) fun x4 =>
  some (x4.1,x4.2)
theorem F57_eq : eFun env k inv 57 #[x0] h = F57 inv k x0 h:=ks_fun (n:=5) []
theorem F57_call : eInv env (k + 1) (.func 57) #[] #[x0] h = F57 (eInv env k) k x0 h:=kq_inv F57_eq
/-- shadowbook/octet.New -/
def F58 (inv : Inv) (k : Nat) (x0 : Value) (h : AH) : Option (Value × AH) :=
  bnd (inv (.func 105) #[] #[x0] h) fun x4 =>
  bnd (pBuild prog 144 #[(0,x4.1)]) fun x5 =>
  bnd (pBox prog 144 x5 x4.2) fun x6 =>
  some (x6.1,x6.2)
theorem F58_eq : eFun env k inv 58 #[x0] h = F58 inv k x0 h:=ks_fun (n:=7) []
theorem F58_call : eInv env (k + 1) (.func 58) #[] #[x0] h = F58 (eInv env k) k x0 h:=kq_inv F58_eq
abbrev G59_1 {β : Type} (inv : Inv) (x1 x2 : Value) (h : AH) (K : Value→AH→Option β) : Option β :=
  bnd (pBin prog .lss 3 (.tmp 6) (.const (.int .i64 1)) x1 (.int .i64 1)) fun x7 =>
  bnd (gd (some x7) false h (some (x1,h))) fun x9 =>
  bnd (gd (some x7) false x9.2 (lt (pBin prog .gtr 3 (.tmp 9) (.const (.int .i64 3)) x9.1 (.int .i64 3)) x9.2)) fun x10 =>
  bnd (pickV x7 (.bool true) x10.1) fun x11 =>
  bnd (gd (some x11) false x10.2 (lt (pFieldAddr prog 38 x2 0) x10.2)) fun x13 =>
  bnd (gd (some x11) false x13.2 (lt (pLoad prog 3 x13.1 x13.2) x13.2)) fun x14 =>
  bnd (gd (some x11) false x14.2 (lt (pBin prog .lss 3 (.tmp 14) (.const (.int .i64 0)) x14.1 (.int .i64 0)) x14.2)) fun x15 =>
  bnd (pickV x11 (.bool true) x15.1) fun x16 =>
  bnd (gd (some x16) false x15.2 (lt (pFieldAddr prog 38 x2 1) x15.2)) fun x18 =>
  bnd (gd (some x16) false x18.2 (lt (pLoad prog 3 x18.1 x18.2) x18.2)) fun x19 =>
  bnd (gd (some x16) false x19.2 (lt (pBin prog .lss 3 (.tmp 19) (.const (.int .i64 0)) x19.1 (.int .i64 0)) x19.2)) fun x20 =>
  bnd (pickV x16 (.bool true) x20.1) fun x21 =>
  bnd (gd (some x21) false x20.2 (lt (pFieldAddr prog 38 x2 1) x20.2)) fun x23 =>
  bnd (gd (some x21) false x23.2 (lt (pLoad prog 3 x23.1 x23.2) x23.2)) fun x24 =>
  bnd (gd (some x21) false x24.2 (lt (pFieldAddr prog 38 x2 0) x24.2)) fun x25 =>
  bnd (gd (some x21) false x25.2 (lt (pLoad prog 3 x25.1 x25.2) x25.2)) fun x26 =>
  bnd (gd (some x21) false x26.2 (lt (pBin prog .gtr 3 (.tmp 24) (.tmp 26) x24.1 x26.1) x26.2)) fun x27 =>
  bnd (pickV x21 (.bool true) x27.1) fun x28 =>
  K (x28) x27.2
abbrev G59_3 {β : Type} (inv : Inv) (x1 x2 : Value) (h : AH) (K : Value→AH→Option β) : Option β :=
  bnd (pFieldAddr prog 38 x2 2) fun x29 =>
  bnd (pLoad prog 31 x29 h) fun x30 =>
  bnd (pBuild prog 31 #[]) fun x31 =>
  bnd (pBin prog .eql 31 (.tmp 30) (.tmp 31) x30 x31) fun x32 =>
  bnd (gd (some x32) true h (lt (pFieldAddr prog 38 x2 3) h)) fun x34 =>
  bnd (gd (some x32) true x34.2 (lt (pLoad prog 31 x34.1 x34.2) x34.2)) fun x35 =>
  bnd (gd (some x32) true x35.2 (lt (pBuild prog 31 #[]) x35.2)) fun x36 =>
  bnd (gd (some x32) true x36.2 (lt (pBin prog .eql 31 (.tmp 35) (.tmp 36) x35.1 x36.1) x36.2)) fun x37 =>
  bnd (pickV x32 x37.1 (.bool false)) fun x38 =>
  K (x38) x37.2
abbrev G59_6 {β : Type} (inv : Inv) (x1 x2 : Value) (h : AH) (K : Value→AH→Option β) : Option β :=
  bnd (pFieldAddr prog 38 x2 1) fun x47 =>
  bnd (pLoad prog 3 x47 h) fun x48 =>
  bnd (pFieldAddr prog 38 x2 0) fun x49 =>
  bnd (pLoad prog 3 x49 h) fun x50 =>
  bnd (pBin prog .eql 3 (.tmp 48) (.tmp 50) x48 x50) fun x51 =>
  bnd (gd (some x51) false h (lt (pFieldAddr prog 38 x2 2) h)) fun x53 =>
  bnd (gd (some x51) false x53.2 (lt (pFieldAddr prog 31 x53.1 0) x53.2)) fun x54 =>
  bnd (gd (some x51) false x54.2 (lt (pLoad prog 3 x54.1 x54.2) x54.2)) fun x55 =>
  bnd (gd (some x51) false x55.2 (some (x1,x55.2))) fun x56 =>
  bnd (gd (some x51) false x56.2 (lt (pBin prog .neq 3 (.tmp 55) (.tmp 56) x55.1 x56.1) x56.2)) fun x57 =>
  bnd (pickV x51 (.bool true) x57.1) fun x58 =>
  bnd (gd (some x58) false x57.2 (lt (pFieldAddr prog 38 x2 3) x57.2)) fun x60 =>
  bnd (gd (some x58) false x60.2 (lt (pFieldAddr prog 31 x60.1 0) x60.2)) fun x61 =>
  bnd (gd (some x58) false x61.2 (lt (pLoad prog 3 x61.1 x61.2) x61.2)) fun x62 =>
  bnd (gd (some x58) false x62.2 (some (x1,x62.2))) fun x63 =>
  bnd (gd (some x58) false x63.2 (lt (pBin prog .neq 3 (.tmp 62) (.tmp 63) x62.1 x63.1) x63.2)) fun x64 =>
  bnd (pickV x58 (.bool true) x64.1) fun x65 =>
  bnd (gd (some x65) false x64.2 (lt (pFieldAddr prog 38 x2 2) x64.2)) fun x67 =>
  bnd (gd (some x65) false x67.2 (lt (pLoad prog 31 x67.1 x67.2) x67.2)) fun x68 =>
  bnd (gd (some x65) false x68.2 (inv (.func 29) #[] #[x68.1] x68.2)) fun x69 =>
  bnd (gd (some x65) false x69.2 (lt (pBin prog .neq 25 (.tmp 69) (.const (.int .i64 0)) x69.1 (.int .i64 0)) x69.2)) fun x70 =>
  bnd (pickV x65 (.bool true) x70.1) fun x71 =>
  bnd (gd (some x71) false x70.2 (lt (pFieldAddr prog 38 x2 3) x70.2)) fun x73 =>
  bnd (gd (some x71) false x73.2 (lt (pLoad prog 31 x73.1 x73.2) x73.2)) fun x74 =>
  bnd (gd (some x71) false x74.2 (inv (.func 29) #[] #[x74.1] x74.2)) fun x75 =>
  bnd (gd (some x71) false x75.2 (lt (pBin prog .neq 25 (.tmp 75) (.const (.int .i64 0)) x75.1 (.int .i64 0)) x75.2)) fun x76 =>
  bnd (pickV x71 (.bool true) x76.1) fun x77 =>
  bnd (gd (some x77) false x76.2 (lt (pFieldAddr prog 38 x2 2) x76.2)) fun x79 =>
  bnd (gd (some x77) false x79.2 (lt (pLoad prog 31 x79.1 x79.2) x79.2)) fun x80 =>
  bnd (gd (some x77) false x80.2 (lt (pFieldAddr prog 38 x2 3) x80.2)) fun x81 =>
  bnd (gd (some x77) false x81.2 (lt (pLoad prog 31 x81.1 x81.2) x81.2)) fun x82 =>
  bnd (gd (some x77) false x82.2 (inv (.func 101) #[] #[x80.1,x82.1] x82.2)) fun x83 =>
  bnd (gd (some x77) false x83.2 (lt (pBin prog .gtr 3 (.tmp 83) (.const (.int .i64 0)) x83.1 (.int .i64 0)) x83.2)) fun x84 =>
  bnd (pickV x77 (.bool true) x84.1) fun x85 =>
  K (x85) x84.2
/-- shadowbook/zone.Check -/
def F59 (inv : Inv) (k : Nat) (x0 x1 : Value) (h : AH) : Option (Value × AH) :=
  bnd (pBox prog 38 x0 h) fun x2 =>
  G59_1 inv x1 x2.1 x2.2 fun y28 h =>
  brV y28
  (some ((.int .i64 2),h))
  (G59_3 inv x1 x2.1 h fun y5 h_1 =>
  bnd (pFieldAddr prog 38 x2.1 1) fun x39 =>
  bnd (pLoad prog 3 x39 h_1) fun x40 =>
  bnd (pFieldAddr prog 38 x2.1 0) fun x41 =>
  bnd (pLoad prog 3 x41 h_1) fun x42 =>
  bnd (pBin prog .eql 3 (.tmp 40) (.tmp 42) x40 x42) fun x43 =>
  bnd (gd (some x43) true h_1 (some (y5,h_1))) fun x45 =>
  bnd (pickV x43 x45.1 (.bool false)) fun x46 =>
  brV x46
  (some ((.int .i64 0),x45.2))
  (G59_6 inv x1 x2.1 x45.2 fun y85 h_2 =>
  brV y85
  (some ((.int .i64 2),h_2))
  (some ((.int .i64 0),h_2))))
theorem F59_eq : eFun env k inv 59 #[x0,x1] h = F59 inv k x0 x1 h:=ks_fun (n:=86) []
theorem F59_call : eInv env (k + 1) (.func 59) #[] #[x0,x1] h = F59 (eInv env k) k x0 x1 h:=kq_inv F59_eq
/-- (*shadowbook/octet.Reader).Bytes -/
def F60 (inv : Inv) (k : Nat) (x0 x1 : Value) (h : AH) : Option (Value × AH) :=
  bnd (pBin prog .eql 114 (.tmp 9) (.const (.pointer none)) x0 (.pointer none)) fun x10 =>
  brV x10
  (some (.tuple #[(.slice none 0 0),(.int .i64 1)],h))
  (bnd (pBin prog .lss 3 (.tmp 12) (.const (.int .i64 0)) x1 (.int .i64 0)) fun x13 =>
  brV x13
  (some (.tuple #[(.slice none 0 0),(.int .i64 2)],h))
  (bnd (inv (.func 106) #[] #[x0,x1] h) fun x17 =>
  bnd (pExtract x17.1 0) fun x18 =>
  bnd (pExtract x17.1 1) fun x19 =>
  bnd (inv (.func 105) #[] #[x18] x17.2) fun x21 =>
  some (.tuple #[x21.1,x19],x21.2)))
theorem F60_eq : eFun env k inv 60 #[x0,x1] h = F60 inv k x0 x1 h:=ks_fun (n:=23) []
theorem F60_call : eInv env (k + 1) (.func 60) #[] #[x0,x1] h = F60 (eInv env k) k x0 x1 h:=kq_inv F60_eq
/-- (*shadowbook/octet.Reader).Left -/
def F61 (inv : Inv) (k : Nat) (x0 : Value) (h : AH) : Option (Value × AH) :=
  bnd (pBin prog .eql 114 (.tmp 3) (.const (.pointer none)) x0 (.pointer none)) fun x4 =>
  brV x4
  (some ((.int .i64 0),h))
  (bnd (pNilCheck prog x0) fun x6 =>
  bnd (pFieldAddr prog 144 x6 0) fun x7 =>
  bnd (pLoad prog 33 x7 h) fun x8 =>
  bnd (pLen prog #[33] x8 h) fun x9 =>
  some (x9,h))
theorem F61_eq : eFun env k inv 61 #[x0] h = F61 inv k x0 h:=ks_fun (n:=10) []
theorem F61_call : eInv env (k + 1) (.func 61) #[] #[x0] h = F61 (eInv env k) k x0 h:=kq_inv F61_eq
/-- shadowbook/segment.numbers$1 -/
def F72 (inv : Inv) (k : Nat) (x0 : Value) (h : AH) : Option (Value × AH) :=
  bnd (pBox prog 31 x0 h) fun x1 =>
  bnd (pFieldAddr prog 31 x1.1 1) fun x3 =>
  bnd (pLoad prog 2 x3 x1.2) fun x4 =>
  some (x4,x1.2)
theorem F72_eq : eFun env k inv 72 #[x0] h = F72 inv k x0 h:=ks_fun (n:=5) []
theorem F72_call : eInv env (k + 1) (.func 72) #[] #[x0] h = F72 (eInv env k) k x0 h:=kq_inv F72_eq
/-- shadowbook/segment.numbers$2 -/
def F73 (inv : Inv) (k : Nat) (x0 : Value) (h : AH) : Option (Value × AH) :=
  bnd (pAlloc prog 31 h) fun x2 =>
  bnd (pBuild prog 31 #[(0,(.int .i64 1)),(1,x0)]) fun x4 =>
  bnd (kSt (pStore prog 31 x2.1 x4 x2.2)) fun u =>
  bnd (pLoad prog 31 x2.1 u.2) fun q0 =>
  some (q0,u.2)
theorem F73_eq : eFun env k inv 73 #[x0] h = F73 inv k x0 h:=ks_fun (n:=5) []
theorem F73_call : eInv env (k + 1) (.func 73) #[] #[x0] h = F73 (eInv env k) k x0 h:=kq_inv F73_eq
/-- shadowbook/segment.numbers$3 -/
def F74 (inv : Inv) (k : Nat) (x0 x1 : Value) (h : AH) : Option (Value × AH) :=
  bnd (pConv prog 2 60 x1 h) fun x7 =>
  bnd (inv (.func 75) #[] #[x0,x7,(.int .i64 8)] h) fun x8 =>
  some (x8.1,x8.2)
theorem F74_eq : eFun env k inv 74 #[x0,x1] h = F74 inv k x0 x1 h:=ks_fun (n:=9) []
theorem F74_call : eInv env (k + 1) (.func 74) #[] #[x0,x1] h = F74 (eInv env k) k x0 x1 h:=kq_inv F74_eq
abbrev G75_1 {β : Type} (inv : Inv) (x0 x1 x2 : Value) (h : AH) (K : Value→AH→Option β) : Option β :=
  bnd (pBin prog .lss 3 (.tmp 8) (.const (.int .i64 1)) x2 (.int .i64 1)) fun x9 =>
  bnd (gd (some x9) false h (some (x2,h))) fun x11 =>
  bnd (gd (some x9) false x11.2 (lt (pBin prog .gtr 3 (.tmp 11) (.const (.int .i64 8)) x11.1 (.int .i64 8)) x11.2)) fun x12 =>
  bnd (pickV x9 (.bool true) x12.1) fun x13 =>
  K (x13) x12.2
def F75_lrlrr {β : Type} (inv : Inv) (k : Nat) : Nat→Value→Value→Value→Value→AH→(Value→Value→Value→Value→Value→AH→Option β)→Option β
 | 0,_,_,_,_,_,_=>none
 | j + 1,x0,x1,x15,x16,h,ke0 =>
  bnd (pBin prog .lss 3 (.tmp 16) (.tmp 15) x16 x15) fun x17 =>
  brV x17
  (bnd (pBin prog .mul 3 (.const (.int .i64 8)) (.tmp 21) (.int .i64 8) x16) fun x22 =>
  bnd (pBin prog .shr 60 (.tmp 20) (.tmp 22) x1 x22) fun x23 =>
  bnd (pConv prog 60 5 x23 h) fun x24 =>
  bnd (pBuildSlice prog 33 1 #[(0,x24)] h) fun x25 =>
  bnd (pAppend prog #[33,33] x0 x25.1 x25.2) fun x26 =>
  bnd (pBin prog .add 3 (.tmp 16) (.const (.int .i64 1)) x16 (.int .i64 1)) fun x27 =>
  F75_lrlrr inv k j x26.1 x1 x15 x27 x26.2 ke0)
  (ke0 x0 x1 x15 x16 x17 h)
def e75_0 : Ent env 75 false 29:=.lp [] 58 [0,1,15,16] [(.exit 0,[0,1,15,16,17])] F75_lrlrr
/-- shadowbook/octet.Put -/
def F75 (inv : Inv) (k : Nat) (x0 x1 x2 : Value) (h : AH) : Option (Value × AH) :=
  G75_1 inv x0 x1 x2 h fun y13 h =>
  brV y13
  (some (x0,h))
  (F75_lrlrr inv k k x0 x1 x2 (.int .i64 0) h
  (fun y0 y1 y15 y16 y17 h_1 =>
  some (y0,h_1)))
theorem F75_eq : eFun env k inv 75 #[x0,x1,x2] h = F75 inv k x0 x1 x2 h:=ks_fun (n:=29) [e75_0]
theorem F75_call : eInv env (k + 1) (.func 75) #[] #[x0,x1,x2] h = F75 (eInv env k) k x0 x1 x2 h:=kq_inv F75_eq
/-- shadowbook/segment.numbers$4 -/
def F76 (inv : Inv) (k : Nat) (x0 : Value) (h : AH) : Option (Value × AH) :=
  bnd (inv (.func 77) #[] #[x0,(.int .i64 8)] h) fun x8 =>
  bnd (pExtract x8.1 0) fun x9 =>
  bnd (pExtract x8.1 1) fun x10 =>
  bnd (pConv prog 60 2 x9 x8.2) fun x12 =>
  some (.tuple #[x12,x10],x8.2)
theorem F76_eq : eFun env k inv 76 #[x0] h = F76 inv k x0 h:=ks_fun (n:=14) []
theorem F76_call : eInv env (k + 1) (.func 76) #[] #[x0] h = F76 (eInv env k) k x0 h:=kq_inv F76_eq
abbrev G77_3 {β : Type} (inv : Inv) (x0 x1 : Value) (h : AH) (K : Value→AH→Option β) : Option β :=
  bnd (pBin prog .lss 3 (.tmp 12) (.const (.int .i64 1)) x1 (.int .i64 1)) fun x13 =>
  bnd (gd (some x13) false h (some (x1,h))) fun x15 =>
  bnd (gd (some x13) false x15.2 (lt (pBin prog .gtr 3 (.tmp 15) (.const (.int .i64 8)) x15.1 (.int .i64 8)) x15.2)) fun x16 =>
  bnd (pickV x13 (.bool true) x16.1) fun x17 =>
  K (x17) x16.2
/-- (*shadowbook/octet.Reader).Number -/
def F77 (inv : Inv) (k : Nat) (x0 x1 : Value) (h : AH) : Option (Value × AH) :=
  bnd (pBin prog .eql 114 (.tmp 9) (.const (.pointer none)) x0 (.pointer none)) fun x10 =>
  brV x10
  (some (.tuple #[(.int .u64 0),(.int .i64 1)],h))
  (G77_3 inv x0 x1 h fun y11 h =>
  brV y11
  (some (.tuple #[(.int .u64 0),(.int .i64 2)],h))
  (bnd (inv (.func 106) #[] #[x0,x1] h) fun x21 =>
  bnd (pExtract x21.1 0) fun x22 =>
  bnd (pExtract x21.1 1) fun x23 =>
  bnd (inv (.func 120) #[] #[x22] x21.2) fun x25 =>
  some (.tuple #[x25.1,x23],x25.2)))
theorem F77_eq : eFun env k inv 77 #[x0,x1] h = F77 inv k x0 x1 h:=ks_fun (n:=27) []
theorem F77_call : eInv env (k + 1) (.func 77) #[] #[x0,x1] h = F77 (eInv env k) k x0 x1 h:=kq_inv F77_eq
def F78_lrlrr {β : Type} (inv : Inv) (k : Nat) : Nat→Value→Value→Value→Value→Value→AH→(Value→Value→Value→Value→Value→Value→AH→Option β)→(Value→Value→AH→Option β)→Option β
 | 0,_,_,_,_,_,_,_,_=>none
 | j + 1,x0,x4,x9,x10,x11,h,ke0,kr =>
  bnd (pBin prog .lss 3 (.tmp 11) (.tmp 10) x11 x10) fun x12 =>
  brV x12
  (bnd (pIndexAddr prog 154 x9 x11) fun x13 =>
  bnd (pLoad prog 158 x13 h) fun x14 =>
  bnd (pAlloc prog 158 h) fun x6 =>
  bnd (kSt (pStore prog 158 x6.1 x14 x6.2)) fun u =>
  bnd (pFieldAddr prog 158 x6.1 1) fun x16 =>
  bnd (pLoad prog 83 x16 u.2) fun x17 =>
  bnd (callV inv x17 #[x0] u.2) fun x19 =>
  bnd (pExtract x19.1 0) fun x20 =>
  bnd (pExtract x19.1 1) fun x21 =>
  bnd (pBin prog .neq 25 (.tmp 22) (.const (.int .i64 0)) x21 (.int .i64 0)) fun x23 =>
  brV x23
  (kr (.slice none 0 0) x21 x19.2)
  (bnd (pBuildSlice prog 153 1 #[(0,x20)] x19.2) fun x27 =>
  bnd (pAppend prog #[153,153] x4 x27.1 x27.2) fun x28 =>
  bnd (pBin prog .add 3 (.tmp 11) (.const (.int .i64 1)) x11 (.int .i64 1)) fun x29 =>
  F78_lrlrr inv k j x0 x28.1 x9 x10 x29 x28.2 ke0 kr))
  (ke0 x0 x4 x9 x10 x11 x12 h)
def e78_0 : Ent env 78 false 32:=.lp [] 58 [0,4,9,10,11] [(.exit 0,[0,4,9,10,11,12]),(.ret,[2,3])] F78_lrlrr
/-- shadowbook/ints.Put -/
def F78 (inv : Inv) (k : Nat) (x0 : Value) (h : AH) : Option (Value × AH) :=
  bnd (inv (.func 121) #[] #[] h) fun x9 =>
  bnd (pLen prog #[154] x9.1 x9.2) fun x10 =>
  F78_lrlrr inv k k x0 (.slice none 0 0) x9.1 x10 (.int .i64 0) x9.2
  (fun y0 y4 y9 y10 y11 y12 h =>
  bnd (inv (.func 122) #[] #[y4,(.func (.func 123) #[] #[])] h) fun x31 =>
  some (.tuple #[x31.1,(.int .i64 0)],x31.2))
  (fun y2 y3 h_1 =>
  some (.tuple #[y2,y3],h_1))
theorem F78_eq : eFun env k inv 78 #[x0] h = F78 inv k x0 h:=ks_fun (n:=32) [e78_0]
theorem F78_call : eInv env (k + 1) (.func 78) #[] #[x0] h = F78 (eInv env k) k x0 h:=kq_inv F78_eq
/-- shadowbook/segment.numbers$5 -/
def F79 (inv : Inv) (k : Nat) (x0 x1 : Value) (h : AH) : Option (Value × AH) :=
  bnd (inv (.func 80) #[] #[x0] h) fun x7 =>
  bnd (pExtract x7.1 0) fun x8 =>
  bnd (pExtract x7.1 1) fun x9 =>
  some (.tuple #[x8,x9],x7.2)
theorem F79_eq : eFun env k inv 79 #[x0,x1] h = F79 inv k x0 x1 h:=ks_fun (n:=10) []
theorem F79_call : eInv env (k + 1) (.func 79) #[] #[x0,x1] h = F79 (eInv env k) k x0 x1 h:=kq_inv F79_eq
abbrev G80_6 {β : Type} (inv : Inv) (x0 x4 x5 x6 x7 : Value) (h : AH) (K : Value→AH→Option β) : Option β :=
  bnd (pBin prog .neq 25 (.tmp 27) (.const (.int .i64 0)) x6 (.int .i64 0)) fun x28 =>
  bnd (gd (some x28) false h (some (x7,h))) fun x30 =>
  bnd (gd (some x28) false x30.2 (lt (pBin prog .gtr 60 (.tmp 30) (.const (.int .u64 4096)) x30.1 (.int .u64 4096)) x30.2)) fun x31 =>
  bnd (pickV x28 (.bool true) x31.1) fun x32 =>
  K (x32) x31.2
abbrev G80_16 {β : Type} (inv : Inv) (x0 x10 x11 x12 : Value) (h : AH) (K : Value→AH→Option β) : Option β :=
  bnd (pBin prog .neq 25 (.tmp 60) (.const (.int .i64 0)) x12 (.int .i64 0)) fun x61 =>
  bnd (gd (some x61) false h (some (x11,h))) fun x63 =>
  bnd (gd (some x61) false x63.2 (some (x0,x63.2))) fun x64 =>
  bnd (gd (some x61) false x64.2 (inv (.func 104) #[] #[x63.1,x64.1] x64.2)) fun x65 =>
  bnd (gd (some x61) false x65.2 (lt (pUn prog .not x65.1) x65.2)) fun x66 =>
  bnd (pickV x61 (.bool true) x66.1) fun x67 =>
  K (x67) x66.2
/-- shadowbook/ints.Get -/
def F80 (inv : Inv) (k : Nat) (x0 : Value) (h : AH) : Option (Value × AH) :=
  bnd (inv (.func 58) #[] #[x0] h) fun x14 =>
  bnd (inv (.func 77) #[] #[x14.1,(.int .i64 1)] x14.2) fun x17 =>
  bnd (pExtract x17.1 0) fun x18 =>
  bnd (pExtract x17.1 1) fun x19 =>
  bnd (pAlloc prog 60 x17.2) fun x5 =>
  bnd (kSt (pStore prog 60 x5.1 x18 x5.2)) fun u =>
  bnd (pBin prog .neq 25 (.tmp 20) (.const (.int .i64 0)) x19 (.int .i64 0)) fun x21 =>
  brV x21
  (some (.tuple #[(.slice none 0 0),(.int .i64 4)],u.2))
  (bnd (inv (.func 92) #[] #[x14.1] u.2) fun x24 =>
  bnd (pExtract x24.1 0) fun x25 =>
  bnd (pExtract x24.1 1) fun x26 =>
  G80_6 inv x0 x14.1 x5.1 x26 x25 x24.2 fun y32 h =>
  brV y32
  (some (.tuple #[(.slice none 0 0),(.int .i64 4)],h))
  (bnd (inv (.func 121) #[] #[] h) fun x33 =>
  bnd (pMakeFunc (.func 126) #[] #[x5.1]) fun x34 =>
  bnd (inv (.func 125) #[] #[x33.1,x34] x33.2) fun x35 =>
  bnd (pBin prog .lss 3 (.tmp 36) (.const (.int .i64 0)) x35.1 (.int .i64 0)) fun x37 =>
  brV x37
  (some (.tuple #[(.slice none 0 0),(.int .i64 4)],x35.2))
  (bnd (inv (.func 121) #[] #[] x35.2) fun x38 =>
  bnd (pIndexAddr prog 154 x38.1 x35.1) fun x40 =>
  bnd (pLoad prog 158 x40 x38.2) fun x41 =>
  bnd (pAlloc prog 158 x38.2) fun x9 =>
  bnd (kSt (pStore prog 158 x9.1 x41 x9.2)) fun u_1 =>
  bnd (pFieldAddr prog 158 x9.1 2) fun x43 =>
  bnd (pLoad prog 156 x43 u_1.2) fun x44 =>
  bnd (pConv prog 60 3 x25 u_1.2) fun x47 =>
  bnd (callV inv x44 #[x14.1,x47] u_1.2) fun x48 =>
  bnd (pExtract x48.1 0) fun x49 =>
  bnd (pExtract x48.1 1) fun x50 =>
  bnd (pBin prog .neq 25 (.tmp 51) (.const (.int .i64 0)) x50 (.int .i64 0)) fun x52 =>
  brV x52
  (some (.tuple #[(.slice none 0 0),(.int .i64 4)],x48.2))
  (bnd (pFieldAddr prog 158 x9.1 1) fun x54 =>
  bnd (pLoad prog 83 x54 x48.2) fun x55 =>
  bnd (callV inv x55 #[x49] x48.2) fun x57 =>
  bnd (pExtract x57.1 0) fun x58 =>
  bnd (pExtract x57.1 1) fun x59 =>
  G80_16 inv x0 x49 x58 x59 x57.2 fun y67 h_2 =>
  brV y67
  (some (.tuple #[(.slice none 0 0),(.int .i64 4)],h_2))
  (some (.tuple #[x49,(.int .i64 0)],h_2))))))
theorem F80_eq : eFun env k inv 80 #[x0] h = F80 inv k x0 h:=ks_fun (n:=69) []
theorem F80_call : eInv env (k + 1) (.func 80) #[] #[x0] h = F80 (eInv env k) k x0 h:=kq_inv F80_eq
/-- shadowbook/segment.truths$1 -/
def F81 (inv : Inv) (k : Nat) (x0 : Value) (h : AH) : Option (Value × AH) :=
  bnd (pBox prog 31 x0 h) fun x1 =>
  bnd (pFieldAddr prog 31 x1.1 1) fun x3 =>
  bnd (pLoad prog 2 x3 x1.2) fun x4 =>
  bnd (pConv prog 2 60 x4 x1.2) fun x5 =>
  some (x5,x1.2)
theorem F81_eq : eFun env k inv 81 #[x0] h = F81 inv k x0 h:=ks_fun (n:=6) []
theorem F81_call : eInv env (k + 1) (.func 81) #[] #[x0] h = F81 (eInv env k) k x0 h:=kq_inv F81_eq
/-- shadowbook/segment.truths$2 -/
def F82 (inv : Inv) (k : Nat) (x0 : Value) (h : AH) : Option (Value × AH) :=
  bnd (pAlloc prog 31 h) fun x2 =>
  bnd (pConv prog 60 2 x0 x2.2) fun x4 =>
  bnd (pBuild prog 31 #[(0,(.int .i64 2)),(1,x4)]) fun x5 =>
  bnd (kSt (pStore prog 31 x2.1 x5 x2.2)) fun u =>
  bnd (pLoad prog 31 x2.1 u.2) fun q0 =>
  some (q0,u.2)
theorem F82_eq : eFun env k inv 82 #[x0] h = F82 inv k x0 h:=ks_fun (n:=6) []
theorem F82_call : eInv env (k + 1) (.func 82) #[] #[x0] h = F82 (eInv env k) k x0 h:=kq_inv F82_eq
/-- shadowbook/segment.truths$3 -/
def F83 (inv : Inv) (k : Nat) (x0 x1 : Value) (h : AH) : Option (Value × AH) :=
  bnd (pConv prog 60 5 x1 h) fun x7 =>
  bnd (pBuildSlice prog 33 1 #[(0,x7)] h) fun x8 =>
  bnd (pAppend prog #[33,33] x0 x8.1 x8.2) fun x9 =>
  some (x9.1,x9.2)
theorem F83_eq : eFun env k inv 83 #[x0,x1] h = F83 inv k x0 x1 h:=ks_fun (n:=10) []
theorem F83_call : eInv env (k + 1) (.func 83) #[] #[x0,x1] h = F83 (eInv env k) k x0 x1 h:=kq_inv F83_eq
/-- shadowbook/segment.truths$4 -/
def F84 (inv : Inv) (k : Nat) (x0 : Value) (h : AH) : Option (Value × AH) :=
  bnd (inv (.func 77) #[] #[x0,(.int .i64 1)] h) fun x5 =>
  bnd (pExtract x5.1 0) fun x6 =>
  bnd (pExtract x5.1 1) fun x7 =>
  some (.tuple #[x6,x7],x5.2)
theorem F84_eq : eFun env k inv 84 #[x0] h = F84 inv k x0 h:=ks_fun (n:=8) []
theorem F84_call : eInv env (k + 1) (.func 84) #[] #[x0] h = F84 (eInv env k) k x0 h:=kq_inv F84_eq
/-- shadowbook/segment.truths$5 -/
def F85 (inv : Inv) (k : Nat) (x0 : Value) (h : AH) : Option (Value × AH) :=
  bnd (inv (.func 49) #[] #[x0,(.int .i64 1)] h) fun x5 =>
  bnd (pExtract x5.1 0) fun x6 =>
  bnd (pExtract x5.1 1) fun x7 =>
  some (.tuple #[x6,x7],x5.2)
theorem F85_eq : eFun env k inv 85 #[x0] h = F85 inv k x0 h:=ks_fun (n:=8) []
theorem F85_call : eInv env (k + 1) (.func 85) #[] #[x0] h = F85 (eInv env k) k x0 h:=kq_inv F85_eq
/-- shadowbook/segment.truths$6 -/
def F86 (inv : Inv) (k : Nat) (x0 x1 : Value) (h : AH) : Option (Value × AH) :=
  bnd (inv (.func 87) #[] #[x0,x1,(.int .i64 1)] h) fun x8 =>
  bnd (pExtract x8.1 0) fun x9 =>
  bnd (pExtract x8.1 1) fun x10 =>
  some (.tuple #[x9,x10],x8.2)
theorem F86_eq : eFun env k inv 86 #[x0,x1] h = F86 inv k x0 x1 h:=ks_fun (n:=11) []
theorem F86_call : eInv env (k + 1) (.func 86) #[] #[x0,x1] h = F86 (eInv env k) k x0 x1 h:=kq_inv F86_eq
def c87 : Code:=codeOf prog 87
def F87_rlrrr {β : Type} (inv : Inv) (k : Nat) (x6 x7 x9 x22 : Value) (h : AH) (kn : (Value→Value→Value→Value→AH→Option β)) : Option β :=
  kRange env 87 inv x22 (psOf (cp c87 122)) (cp c87 244) (cp c87 245) (act 30 [(6,x6),(7,x7),(9,x9),(22,x22)]) h fun e h=>sw e
  (kn x6 x7 x9 x22 h)
  none []
def e87_0 : Ent env 87 false 30:=.jn [] 61 [6,7,9,22] [(.normal,[6,7,9,22])] F87_rlrrr
/-- shadowbook/packs.Get -/
def F87 (inv : Inv) (k : Nat) (x0 x1 x2 : Value) (h : AH) : Option (Value × AH) :=
  bnd (inv (.func 127) #[] #[x0,x1,x2] h) fun x15 =>
  bnd (pBin prog .neq 25 (.tmp 16) (.const (.int .i64 0)) x15.1 (.int .i64 0)) fun x17 =>
  brV x17
  (some (.tuple #[(.slice none 0 0),x15.1],x15.2))
  (bnd (pAlloc prog 63 x15.2) fun x9 =>
  bnd (inv (.func 128) #[] #[x0,x1,x2] x9.2) fun x22 =>
  F87_rlrrr inv k (.slice none 0 0) (.int .i64 0) x9.1 x22.1 x22.2
  (fun y6 y7 y9 y22 h =>
  bnd (pLoad prog 63 y9 h) fun x29 =>
  some (.tuple #[x29,(.int .i64 0)],h)))
theorem F87_eq : eFun env k inv 87 #[x0,x1,x2] h = F87 inv k x0 x1 x2 h:=ks_fun (n:=30) [e87_0]
theorem F87_call : eInv env (k + 1) (.func 87) #[] #[x0,x1,x2] h = F87 (eInv env k) k x0 x1 x2 h:=kq_inv F87_eq
def R87_lrlrrr (inv : Inv) (k l : Nat) (x6 x7 x9 x22 z0 z1 : Value) (h : AH) : Option (Value × AH) :=
  rdBegin l h fun h =>
  bnd (pLoad prog 63 x9 h) fun x25 =>
  bnd (pBuildSlice prog 63 1 #[(0,z1)] h) fun x27 =>
  bnd (pAppend prog #[63,63] x25 x27.1 x27.2) fun x28 =>
  bnd (kSt (pStore prog 63 x9 x28.1 x28.2)) fun u =>
  rdEnd l .normal u.2
theorem R87_lrlrrr_eq {l : Nat} {pd : Option Code} (hl : h.get l = some (.loop .ready pd 87 (act 30 [(6,x6),(7,x7),(9,x9),(22,x22)]).tmps (psOf (cp c87 122)) (cp c87 244) (cp c87 245))) : eRound env k inv l #[z0,z1] h = R87_lrlrrr inv k l x6 x7 x9 x22 z0 z1 h:=ks_round (n:=30) [] 122 hl [(6,x6),(7,x7),(9,x9),(22,x22),(23,z0),(24,z1)]
/-- shadowbook/segment.words$1 -/
def F88 (inv : Inv) (k : Nat) (x0 : Value) (h : AH) : Option (Value × AH) :=
  bnd (pBox prog 31 x0 h) fun x1 =>
  bnd (pFieldAddr prog 31 x1.1 2) fun x3 =>
  bnd (pLoad prog 9 x3 x1.2) fun x4 =>
  some (x4,x1.2)
theorem F88_eq : eFun env k inv 88 #[x0] h = F88 inv k x0 h:=ks_fun (n:=5) []
theorem F88_call : eInv env (k + 1) (.func 88) #[] #[x0] h = F88 (eInv env k) k x0 h:=kq_inv F88_eq
/-- shadowbook/segment.words$2 -/
def F89 (inv : Inv) (k : Nat) (x0 : Value) (h : AH) : Option (Value × AH) :=
  bnd (pAlloc prog 31 h) fun x2 =>
  bnd (pBuild prog 31 #[(0,(.int .i64 3)),(2,x0)]) fun x4 =>
  bnd (kSt (pStore prog 31 x2.1 x4 x2.2)) fun u =>
  bnd (pLoad prog 31 x2.1 u.2) fun q0 =>
  some (q0,u.2)
theorem F89_eq : eFun env k inv 89 #[x0] h = F89 inv k x0 h:=ks_fun (n:=5) []
theorem F89_call : eInv env (k + 1) (.func 89) #[] #[x0] h = F89 (eInv env k) k x0 h:=kq_inv F89_eq
/-- shadowbook/segment.words$3 -/
def F90 (inv : Inv) (k : Nat) (x0 x1 : Value) (h : AH) : Option (Value × AH) :=
  bnd (pLen prog #[9] x1 h) fun x7 =>
  bnd (pConv prog 3 60 x7 h) fun x8 =>
  bnd (inv (.func 47) #[] #[x0,x8] h) fun x9 =>
  bnd (pAppend prog #[33,9] x9.1 x1 x9.2) fun x11 =>
  some (x11.1,x11.2)
theorem F90_eq : eFun env k inv 90 #[x0,x1] h = F90 inv k x0 x1 h:=ks_fun (n:=12) []
theorem F90_call : eInv env (k + 1) (.func 90) #[] #[x0,x1] h = F90 (eInv env k) k x0 x1 h:=kq_inv F90_eq
abbrev G91_2 {β : Type} (inv : Inv) (x0 x4 x5 : Value) (h : AH) (K : Value→AH→Option β) : Option β :=
  bnd (pBin prog .neq 25 (.tmp 12) (.const (.int .i64 0)) x5 (.int .i64 0)) fun x13 =>
  bnd (gd (some x13) false h (some (x4,h))) fun x15 =>
  bnd (gd (some x13) false x15.2 (lt (pBin prog .gtr 60 (.tmp 15) (.const (.int .u64 65536)) x15.1 (.int .u64 65536)) x15.2)) fun x16 =>
  bnd (pickV x13 (.bool true) x16.1) fun x17 =>
  K (x17) x16.2
/-- shadowbook/segment.words$4 -/
def F91 (inv : Inv) (k : Nat) (x0 : Value) (h : AH) : Option (Value × AH) :=
  bnd (inv (.func 92) #[] #[x0] h) fun x9 =>
  bnd (pExtract x9.1 0) fun x10 =>
  bnd (pExtract x9.1 1) fun x11 =>
  G91_2 inv x0 x10 x11 x9.2 fun y17 h =>
  brV y17
  (some (.tuple #[(.string { data:=#[] }),(.int .i64 4)],h))
  (bnd (pConv prog 60 3 x10 h) fun x21 =>
  bnd (inv (.func 60) #[] #[x0,x21] h) fun x22 =>
  bnd (pExtract x22.1 0) fun x23 =>
  bnd (pExtract x22.1 1) fun x24 =>
  bnd (pConv prog 33 9 x23 x22.2) fun x26 =>
  some (.tuple #[x26,x24],x22.2))
theorem F91_eq : eFun env k inv 91 #[x0] h = F91 inv k x0 h:=ks_fun (n:=28) []
theorem F91_call : eInv env (k + 1) (.func 91) #[] #[x0] h = F91 (eInv env k) k x0 h:=kq_inv F91_eq
abbrev G92_8 {β : Type} (inv : Inv) (x0 x2 x4 x5 x6 x12 x13 x14 : Value) (h : AH) (K : Value→AH→Option β) : Option β :=
  bnd (pBin prog .eql 3 (.tmp 24) (.const (.int .i64 9)) x4 (.int .i64 9)) fun x25 =>
  bnd (gd (some x25) true h (some (x6,h))) fun x27 =>
  bnd (gd (some x25) true x27.2 (lt (pBin prog .gtr 60 (.tmp 27) (.const (.int .u64 1)) x27.1 (.int .u64 1)) x27.2)) fun x28 =>
  bnd (pickV x25 x28.1 (.bool false)) fun x29 =>
  K (x29) x28.2
abbrev G92_11 {β : Type} (inv : Inv) (x0 x2 x4 x6 : Value) (h : AH) (K : Value→AH→Option β) : Option β :=
  bnd (pBin prog .eql 60 (.tmp 38) (.const (.int .u64 0)) x6 (.int .u64 0)) fun x39 =>
  bnd (gd (some x39) true h (some (x4,h))) fun x41 =>
  bnd (gd (some x39) true x41.2 (lt (pBin prog .gtr 3 (.tmp 41) (.const (.int .i64 0)) x41.1 (.int .i64 0)) x41.2)) fun x42 =>
  bnd (pickV x39 x42.1 (.bool false)) fun x43 =>
  K (x43) x42.2
abbrev G92_12 {β : Type} (inv : Inv) (x0 x2 x4 : Value) (h : AH) (K : AH→Option β) : Option β :=
  bnd (pNilCheck prog x0) fun x46 =>
  bnd (pFieldAddr prog 144 x46 0) fun x47 =>
  bnd (pLoad prog 33 x47 h) fun x48 =>
  bnd (pBin prog .add 3 (.tmp 49) (.const (.int .i64 1)) x4 (.int .i64 1)) fun x50 =>
  bnd (pSlice prog 33 x48 (some x50) none none h) fun x51 =>
  bnd (pNilCheck prog x0) fun x52 =>
  bnd (pFieldAddr prog 144 x52 0) fun x53 =>
  bnd (kSt (pStore prog 33 x53 x51 h)) fun u =>
  K u.2
def F92_lrlrr {β : Type} (inv : Inv) (k : Nat) : Nat→Value→Value→Value→Value→Value→AH→(Value→Value→Value→Value→Value→Value→Value→Value→Value→Value→Value→Value→AH→Option β)→(Value→Value→AH→Option β)→Option β
 | 0,_,_,_,_,_,_,_,_=>none
 | j + 1,x0,x2,x12,x13,x14,h,ke0,kr =>
  bnd (pBin prog .lss 3 (.tmp 14) (.tmp 13) x14 x13) fun x15 =>
  brV x15
  (bnd (pIndexAddr prog 33 x12 x14) fun x17 =>
  bnd (pLoad prog 5 x17 h) fun x18 =>
  bnd (pBin prog .eql 3 (.tmp 19) (.const (.int .i64 10)) x14 (.int .i64 10)) fun x20 =>
  brV x20
  (ke0 x0 x2 x14 x18 unk x12 x13 x14 unk x20 unk unk h)
  (bnd (pBin prog .andNot 5 (.tmp 21) (.const (.int .u8 128)) x18 (.int .u8 128)) fun x22 =>
  bnd (pConv prog 5 60 x22 h) fun x23 =>
  G92_8 inv x0 x2 x14 x18 x23 x12 x13 x14 h fun y29 h =>
  brV y29
  (ke0 x0 x2 x14 x18 x23 x12 x13 x14 unk unk y29 unk h)
  (bnd (pBin prog .mul 3 (.const (.int .i64 7)) (.tmp 32) (.int .i64 7) x14) fun x33 =>
  bnd (pBin prog .shl 60 (.tmp 31) (.tmp 33) x23 x33) fun x34 =>
  bnd (pBin prog .or 60 (.tmp 30) (.tmp 34) x2 x34) fun x35 =>
  bnd (pBin prog .geq 5 (.tmp 36) (.const (.int .u8 128)) x18 (.int .u8 128)) fun x37 =>
  brV x37
  (bnd (pBin prog .add 3 (.tmp 14) (.const (.int .i64 1)) x14 (.int .i64 1)) fun x55 =>
  F92_lrlrr inv k j x0 x35 x12 x13 x55 h ke0 kr)
  (G92_11 inv x0 x35 x14 x23 h fun y43 h_1 =>
  brV y43
  (ke0 x0 x35 x14 unk unk unk unk unk unk unk unk y43 h_1)
  (G92_12 inv x0 x35 x14 h_1 fun  h_2 =>
  kr x35 (.int .i64 0) h_2)))))
  (ke0 x0 x2 unk unk unk x12 x13 x14 x15 unk unk unk h)
def e92_0 : Ent env 92 false 58:=.lp [] 58 [0,2,12,13,14] [(.exit 0,[0,2,4,5,6,12,13,14,15,20,29,43]),(.ret,[2,3])] F92_lrlrr
def F92_rlrr {β : Type} (inv : Inv) (k : Nat) (x0 x2 x12 x13 x14 : Value) (h : AH) (kn : (Value→Value→Value→Value→Value→Value→Value→Value→Value→Value→Value→Value→AH→Option β)) (kr : (Value→Value→AH→Option β)) : Option β :=
  F92_lrlrr inv k k x0 x2 x12 x13 x14 h
  (fun y0 y2 y4 y5 y6 y12 y13 y14 y15 y20 y29 y43 h =>
  kn y0 y2 y4 y5 y6 y12 y13 y14 y15 y20 y29 y43 h)
  (fun y2_3 y3 h_4 =>
  kr y2_3 y3 h_4)
def e92_1 : Ent env 92 false 58:=.jn [e92_0] 29 [0,2,12,13,14] [(.normal,[0,2,4,5,6,12,13,14,15,20,29,43]),(.ret,[2,3])] F92_rlrr
/-- (*shadowbook/octet.Reader).Var -/
def F92 (inv : Inv) (k : Nat) (x0 : Value) (h : AH) : Option (Value × AH) :=
  bnd (pBin prog .eql 114 (.tmp 7) (.const (.pointer none)) x0 (.pointer none)) fun x8 =>
  brV x8
  (some (.tuple #[(.int .u64 0),(.int .i64 1)],h))
  (bnd (pNilCheck prog x0) fun x10 =>
  bnd (pFieldAddr prog 144 x10 0) fun x11 =>
  bnd (pLoad prog 33 x11 h) fun x12 =>
  bnd (pLen prog #[33] x12 h) fun x13 =>
  F92_rlrr inv k x0 (.int .u64 0) x12 x13 (.int .i64 0) h
  (fun y0 y2 y4 y5 y6 y12 y13 y14 y15 y20 y29 y43 h =>
  bnd (inv (.func 129) #[] #[y0] h) fun x57 =>
  brV x57.1
  (some (.tuple #[(.int .u64 0),(.int .i64 7)],x57.2))
  (some (.tuple #[(.int .u64 0),(.int .i64 4)],x57.2)))
  (fun y2_5 y3 h_6 =>
  some (.tuple #[y2_5,y3],h_6)))
theorem F92_eq : eFun env k inv 92 #[x0] h = F92 inv k x0 h:=ks_fun (n:=58) [e92_0,e92_1]
theorem F92_call : eInv env (k + 1) (.func 92) #[] #[x0] h = F92 (eInv env k) k x0 h:=kq_inv F92_eq
abbrev G93_5 {β : Type} (inv : Inv) (x4 x6 x7 : Value) (h : AH) (K : Value→AH→Option β) : Option β :=
  bnd (pBin prog .eql 25 (.tmp 21) (.const (.int .i64 0)) x7 (.int .i64 0)) fun x22 =>
  bnd (gd (some x22) true h (some (x6,h))) fun x24 =>
  bnd (gd (some x22) true x24.2 (lt (pLen prog #[33] x24.1 x24.2) x24.2)) fun x25 =>
  bnd (gd (some x22) true x25.2 (some (x4,x25.2))) fun x26 =>
  bnd (gd (some x22) true x26.2 (lt (pLen prog #[33] x26.1 x26.2) x26.2)) fun x27 =>
  bnd (gd (some x22) true x27.2 (lt (pBin prog .lss 3 (.tmp 25) (.tmp 27) x25.1 x27.1) x27.2)) fun x28 =>
  bnd (pickV x22 x28.1 (.bool false)) fun x29 =>
  K (x29) x28.2
/-- shadowbook/texts.Put -/
def F93 (inv : Inv) (k : Nat) (x0 : Value) (h : AH) : Option (Value × AH) :=
  bnd (inv (.func 130) #[] #[x0] h) fun x10 =>
  bnd (pExtract x10.1 0) fun x11 =>
  bnd (pExtract x10.1 1) fun x12 =>
  bnd (pBin prog .neq 25 (.tmp 13) (.const (.int .i64 0)) x12 (.int .i64 0)) fun x14 =>
  brV x14
  (some (.tuple #[(.slice none 0 0),x12],x10.2))
  (bnd (inv (.func 131) #[] #[x0] x10.2) fun x18 =>
  bnd (pExtract x18.1 0) fun x19 =>
  bnd (pExtract x18.1 1) fun x20 =>
  G93_5 inv x11 x19 x20 x18.2 fun y29 h =>
  brV y29
  (some (.tuple #[x19,(.int .i64 0)],h))
  (some (.tuple #[x11,(.int .i64 0)],h)))
theorem F93_eq : eFun env k inv 93 #[x0] h = F93 inv k x0 h:=ks_fun (n:=32) []
theorem F93_call : eInv env (k + 1) (.func 93) #[] #[x0] h = F93 (eInv env k) k x0 h:=kq_inv F93_eq
/-- shadowbook/segment.words$5 -/
def F94 (inv : Inv) (k : Nat) (x0 x1 : Value) (h : AH) : Option (Value × AH) :=
  bnd (inv (.func 95) #[] #[x0] h) fun x7 =>
  bnd (pExtract x7.1 0) fun x8 =>
  bnd (pExtract x7.1 1) fun x9 =>
  some (.tuple #[x8,x9],x7.2)
theorem F94_eq : eFun env k inv 94 #[x0,x1] h = F94 inv k x0 x1 h:=ks_fun (n:=10) []
theorem F94_call : eInv env (k + 1) (.func 94) #[] #[x0,x1] h = F94 (eInv env k) k x0 x1 h:=kq_inv F94_eq
abbrev G95_6 {β : Type} (inv : Inv) (x0 x2 x3 x4 x5 x6 : Value) (h : AH) (K : Value→AH→Option β) : Option β :=
  bnd (pBin prog .neq 25 (.tmp 23) (.const (.int .i64 0)) x3 (.int .i64 0)) fun x24 =>
  bnd (gd (some x24) false h (some (x6,h))) fun x26 =>
  bnd (gd (some x24) false x26.2 (lt (pBin prog .gtr 60 (.tmp 26) (.const (.int .u64 4096)) x26.1 (.int .u64 4096)) x26.2)) fun x27 =>
  bnd (pickV x24 (.bool true) x27.1) fun x28 =>
  K (x28) x27.2
def F95_rlrrrrrrrr {β : Type} (inv : Inv) (k : Nat) (x0 x2 x4 x6 x7 x8 x29 : Value) (h : AH) (kn : (Value→Value→Value→Value→Value→Value→Value→AH→Option β)) : Option β :=
  bnd (pBin prog .eql 60 (.tmp 29) (.const (.int .u64 1)) x29 (.int .u64 1)) fun x31 =>
  brV x31
  (bnd (inv (.func 132) #[] #[x4,x6] h) fun x35 =>
  bnd (pExtract x35.1 0) fun x36 =>
  bnd (pExtract x35.1 1) fun x37 =>
  bnd (inv (.func 130) #[] #[x36] x35.2) fun x40 =>
  bnd (pExtract x40.1 0) fun x41 =>
  bnd (pExtract x40.1 1) fun x42 =>
  kn x0 x36 unk unk x37 x41 unk x40.2)
  (bnd (pBin prog .eql 60 (.tmp 29) (.const (.int .u64 2)) x29 (.int .u64 2)) fun x44 =>
  brV x44
  (bnd (pConv prog 60 3 x6 h) fun x48 =>
  bnd (inv (.func 133) #[] #[x4,x48] h) fun x49 =>
  bnd (pExtract x49.1 0) fun x50 =>
  bnd (pExtract x49.1 1) fun x51 =>
  bnd (inv (.func 131) #[] #[x50] x49.2) fun x54 =>
  bnd (pExtract x54.1 0) fun x55 =>
  bnd (pExtract x54.1 1) fun x56 =>
  kn x0 x50 unk unk x51 x55 unk x54.2)
  (kn x0 x2 x4 x6 x7 x8 x44 h))
def e95_0 : Ent env 95 false 66:=.jn [] 2045 [0,2,4,6,7,8,29] [(.normal,[0,2,4,6,7,8,43])] F95_rlrrrrrrrr
/-- shadowbook/texts.Get -/
def F95 (inv : Inv) (k : Nat) (x0 : Value) (h : AH) : Option (Value × AH) :=
  bnd (inv (.func 58) #[] #[x0] h) fun x10 =>
  bnd (inv (.func 77) #[] #[x10.1,(.int .i64 1)] x10.2) fun x13 =>
  bnd (pExtract x13.1 0) fun x14 =>
  bnd (pExtract x13.1 1) fun x15 =>
  bnd (pBin prog .neq 25 (.tmp 16) (.const (.int .i64 0)) x15 (.int .i64 0)) fun x17 =>
  brV x17
  (some (.tuple #[(.slice none 0 0),(.int .i64 4)],x13.2))
  (bnd (inv (.func 92) #[] #[x10.1] x13.2) fun x20 =>
  bnd (pExtract x20.1 0) fun x21 =>
  bnd (pExtract x20.1 1) fun x22 =>
  G95_6 inv x0 (.slice none 0 0) x22 x10.1 x14 x21 x20.2 fun y28 h =>
  brV y28
  (some (.tuple #[(.slice none 0 0),(.int .i64 4)],h))
  (F95_rlrrrrrrrr inv k x0 (.slice none 0 0) x10.1 x21 (.bool false) (.slice none 0 0) x14 h
  (fun y0 y2 y4 y6 y7 y8 y43 h_1 =>
  bnd (pUn prog .not y7) fun x58 =>
  bnd (gd (some x58) false h_1 (some (y8,h_1))) fun x60 =>
  bnd (gd (some x58) false x60.2 (some (y0,x60.2))) fun x61 =>
  bnd (gd (some x58) false x61.2 (inv (.func 104) #[] #[x60.1,x61.1] x61.2)) fun x62 =>
  bnd (gd (some x58) false x62.2 (lt (pUn prog .not x62.1) x62.2)) fun x63 =>
  bnd (pickV x58 (.bool true) x63.1) fun x64 =>
  brV x64
  (some (.tuple #[(.slice none 0 0),(.int .i64 4)],x63.2))
  (some (.tuple #[y2,(.int .i64 0)],x63.2)))))
theorem F95_eq : eFun env k inv 95 #[x0] h = F95 inv k x0 h:=ks_fun (n:=66) [e95_0]
theorem F95_call : eInv env (k + 1) (.func 95) #[] #[x0] h = F95 (eInv env k) k x0 h:=kq_inv F95_eq
def F96_lrrllrlr {β : Type} (inv : Inv) (k : Nat) (x2 x5 x6 x7 x8 : Value) (h : AH) (kn : (Value→Value→Value→Value→Value→AH→Option β)) : Option β :=
  bnd (pIndexAddr prog 105 x5 x7) fun x9 =>
  bnd (pLoad prog 4 x9 h) fun x10 =>
  brV x10
  (bnd (pBin prog .add 3 (.tmp 12) (.const (.int .i64 1)) x2 (.int .i64 1)) fun x13 =>
  kn x13 x5 x6 x7 unk h)
  (kn x2 x5 x6 x7 x10 h)
def e96_0 : Ent env 96 false 16:=.jn [] 422 [2,5,6,7,8] [(.normal,[2,5,6,7,11])] F96_lrrllrlr
def F96_lrlr {β : Type} (inv : Inv) (k : Nat) : Nat→Value→Value→Value→Value→AH→(Value→Value→Value→Value→Value→AH→Option β)→Option β
 | 0,_,_,_,_,_,_=>none
 | j + 1,x2,x5,x6,x7,h,ke0 =>
  bnd (pBin prog .lss 3 (.tmp 7) (.tmp 6) x7 x6) fun x8 =>
  brV x8
  (F96_lrrllrlr inv k x2 x5 x6 x7 x8 h
  (fun y2 y5 y6 y7 y11 h =>
  bnd (pBin prog .add 3 (.tmp 7) (.const (.int .i64 1)) y7 (.int .i64 1)) fun x14 =>
  F96_lrlr inv k j y2 y5 y6 x14 h ke0))
  (ke0 x2 x5 x6 x7 x8 h)
def e96_1 : Ent env 96 false 16:=.lp [e96_0] 26 [2,5,6,7] [(.exit 0,[2,5,6,7,8])] F96_lrlr
/-- (shadowbook/nulls.flags).count -/
def F96 (inv : Inv) (k : Nat) (x0 : Value) (h : AH) : Option (Value × AH) :=
  bnd (pLen prog #[105] x0 h) fun x6 =>
  F96_lrlr inv k k (.int .i64 0) x0 x6 (.int .i64 0) h
  (fun y2 y5 y6 y7 y8 h =>
  some (y2,h))
theorem F96_eq : eFun env k inv 96 #[x0] h = F96 inv k x0 h:=ks_fun (n:=16) [e96_0,e96_1]
theorem F96_call : eInv env (k + 1) (.func 96) #[] #[x0] h = F96 (eInv env k) k x0 h:=kq_inv F96_eq
abbrev G97_1 {β : Type} (inv : Inv) (x0 x1 : Value) (h : AH) (K : Value→AH→Option β) : Option β :=
  bnd (pBin prog .geq 3 (.tmp 5) (.const (.int .i64 0)) x0 (.int .i64 0)) fun x6 =>
  bnd (gd (some x6) true h (some (x0,h))) fun x8 =>
  bnd (gd (some x6) true x8.2 (lt (pBin prog .leq 3 (.tmp 8) (.const (.int .i64 65536)) x8.1 (.int .i64 65536)) x8.2)) fun x9 =>
  bnd (pickV x6 x9.1 (.bool false)) fun x10 =>
  bnd (gd (some x10) true x9.2 (some (x1,x9.2))) fun x12 =>
  bnd (gd (some x10) true x12.2 (lt (pBin prog .geq 3 (.tmp 12) (.const (.int .i64 0)) x12.1 (.int .i64 0)) x12.2)) fun x13 =>
  bnd (pickV x10 x13.1 (.bool false)) fun x14 =>
  bnd (gd (some x14) true x13.2 (some (x1,x13.2))) fun x16 =>
  bnd (gd (some x14) true x16.2 (lt (pBin prog .leq 3 (.tmp 16) (.const (.int .i64 64)) x16.1 (.int .i64 64)) x16.2)) fun x17 =>
  bnd (pickV x14 x17.1 (.bool false)) fun x18 =>
  K (x18) x17.2
/-- shadowbook/packs.may -/
def F97 (inv : Inv) (k : Nat) (x0 x1 : Value) (h : AH) : Option (Value × AH) :=
  G97_1 inv x0 x1 h fun y4 h =>
  some (y4,h)
theorem F97_eq : eFun env k inv 97 #[x0,x1] h = F97 inv k x0 x1 h:=ks_fun (n:=19) []
theorem F97_call : eInv env (k + 1) (.func 97) #[] #[x0,x1] h = F97 (eInv env k) k x0 x1 h:=kq_inv F97_eq
def F98_lrlrr {β : Type} (inv : Inv) (k : Nat) : Nat→Value→Value→Value→Value→AH→(Value→Value→Value→Value→Value→AH→Option β)→Option β
 | 0,_,_,_,_,_,_=>none
 | j + 1,x3,x6,x7,x8,h,ke0 =>
  bnd (pBin prog .lss 3 (.tmp 8) (.tmp 7) x8 x7) fun x9 =>
  brV x9
  (bnd (pIndexAddr prog 63 x6 x8) fun x10 =>
  bnd (pLoad prog 60 x10 h) fun x11 =>
  bnd (pBin prog .or 60 (.tmp 12) (.tmp 13) x3 x11) fun x14 =>
  bnd (pBin prog .add 3 (.tmp 8) (.const (.int .i64 1)) x8 (.int .i64 1)) fun x15 =>
  F98_lrlrr inv k j x14 x6 x7 x15 h ke0)
  (ke0 x3 x6 x7 x8 x9 h)
def e98_0 : Ent env 98 false 18:=.lp [] 58 [3,6,7,8] [(.exit 0,[3,6,7,8,9])] F98_lrlrr
/-- shadowbook/packs.Width -/
def F98 (inv : Inv) (k : Nat) (x0 : Value) (h : AH) : Option (Value × AH) :=
  bnd (pLen prog #[63] x0 h) fun x7 =>
  F98_lrlrr inv k k (.int .u64 0) x0 x7 (.int .i64 0) h
  (fun y3 y6 y7 y8 y9 h =>
  bnd (inv (.func 134) #[] #[y3] h) fun x17 =>
  some (x17.1,x17.2))
theorem F98_eq : eFun env k inv 98 #[x0] h = F98 inv k x0 h:=ks_fun (n:=18) [e98_0]
theorem F98_call : eInv env (k + 1) (.func 98) #[] #[x0] h = F98 (eInv env k) k x0 h:=kq_inv F98_eq
abbrev G99_3 {β : Type} (inv : Inv) (x0 x1 : Value) (h : AH) (K : Value→AH→Option β) : Option β :=
  bnd (pBin prog .mul 3 (.tmp 9) (.tmp 10) x0 x1) fun x11 =>
  bnd (pBin prog .add 3 (.tmp 11) (.const (.int .i64 8)) x11 (.int .i64 8)) fun x12 =>
  bnd (pBin prog .sub 3 (.tmp 12) (.const (.int .i64 1)) x12 (.int .i64 1)) fun x13 =>
  bnd (pBin prog .quo 3 (.tmp 13) (.const (.int .i64 8)) x13 (.int .i64 8)) fun x14 =>
  K (x14) h
/-- shadowbook/packs.Size -/
def F99 (inv : Inv) (k : Nat) (x0 x1 : Value) (h : AH) : Option (Value × AH) :=
  bnd (inv (.func 97) #[] #[x0,x1] h) fun x7 =>
  bnd (pUn prog .not x7.1) fun x8 =>
  brV x8
  (some ((.int .i64 0),x7.2))
  (G99_3 inv x0 x1 x7.2 fun y4 h =>
  some (y4,h))
theorem F99_eq : eFun env k inv 99 #[x0,x1] h = F99 inv k x0 x1 h:=ks_fun (n:=15) []
theorem F99_call : eInv env (k + 1) (.func 99) #[] #[x0,x1] h = F99 (eInv env k) k x0 x1 h:=kq_inv F99_eq
/-- shadowbook/packs.Put$1 -/
def F100 (inv : Inv) (k : Nat) (x0 x1 x2 x3 : Value) (h : AH) : Option (Value × AH) :=
  bnd (pLoad prog 5 x1 h) fun x5 =>
  bnd (pLoad prog 3 x2 h) fun x7 =>
  bnd (pBin prog .shl 5 (.tmp 6) (.tmp 7) x0 x7) fun x8 =>
  bnd (pBin prog .or 5 (.tmp 5) (.tmp 8) x5 x8) fun x9 =>
  bnd (kSt (pStore prog 5 x1 x9 h)) fun u =>
  bnd (pLoad prog 3 x2 u.2) fun x10 =>
  bnd (pBin prog .add 3 (.tmp 10) (.const (.int .i64 1)) x10 (.int .i64 1)) fun x11 =>
  bnd (kSt (pStore prog 3 x2 x11 u.2)) fun u_1 =>
  bnd (pLoad prog 3 x2 u_1.2) fun x12 =>
  bnd (pBin prog .eql 3 (.tmp 12) (.const (.int .i64 8)) x12 (.int .i64 8)) fun x13 =>
  brV x13
  (bnd (pLoad prog 33 x3 u_1.2) fun x14 =>
  bnd (pLoad prog 5 x1 u_1.2) fun x15 =>
  bnd (pBuildSlice prog 33 1 #[(0,x15)] u_1.2) fun x16 =>
  bnd (pAppend prog #[33,33] x14 x16.1 x16.2) fun x17 =>
  bnd (kSt (pStore prog 33 x3 x17.1 x17.2)) fun u_2 =>
  bnd (kSt (pStore prog 5 x1 (.int .u8 0) u_2.2)) fun u_4 =>
  bnd (kSt (pStore prog 3 x2 (.int .i64 0) u_4.2)) fun u_5 =>
  some (.tuple #[],u_5.2))
  (some (.tuple #[],u_1.2))
theorem F100_eq : eFun env k inv 100 #[x0,x1,x2,x3] h = F100 inv k x0 x1 x2 x3 h:=ks_fun (n:=18) []
theorem F100_call : eInv env (k + 1) (.func 100) #[] #[x0,x1,x2,x3] h = F100 (eInv env k) k x0 x1 x2 x3 h:=kq_inv F100_eq
abbrev G101_1 {β : Type} (inv : Inv) (x2 x3 : Value) (h : AH) (K : Value→AH→Option β) : Option β :=
  bnd (pFieldAddr prog 31 x2 0) fun x5 =>
  bnd (pLoad prog 3 x5 h) fun x6 =>
  bnd (pFieldAddr prog 31 x3 0) fun x7 =>
  bnd (pLoad prog 3 x7 h) fun x8 =>
  bnd (inv (.func 124) #[] #[x6,x8] h) fun x9 =>
  bnd (pFieldAddr prog 31 x2 1) fun x10 =>
  bnd (pLoad prog 2 x10 x9.2) fun x11 =>
  bnd (pFieldAddr prog 31 x3 1) fun x12 =>
  bnd (pLoad prog 2 x12 x9.2) fun x13 =>
  bnd (inv (.func 136) #[] #[x11,x13] x9.2) fun x14 =>
  bnd (pFieldAddr prog 31 x2 2) fun x15 =>
  bnd (pLoad prog 9 x15 x14.2) fun x16 =>
  bnd (pFieldAddr prog 31 x3 2) fun x17 =>
  bnd (pLoad prog 9 x17 x14.2) fun x18 =>
  bnd (inv (.func 137) #[] #[x16,x18] x14.2) fun x19 =>
  bnd (pBuildSlice prog 72 3 #[(0,x9.1),(1,x14.1),(2,x19.1)] x19.2) fun x20 =>
  bnd (inv (.func 135) #[] #[x20.1] x20.2) fun x21 =>
  chkK ((!true || !true || (sameO (pLoad prog 2 x10 h) x11 && sameO (pLoad prog 2 x10 x9.2) x11)) && ((!true || !true || (sameO (pLoad prog 2 x12 h) x13 && sameO (pLoad prog 2 x12 x9.2) x13)) && ((!true || !true || (sameO (pLoad prog 9 x15 h) x16 && sameO (pLoad prog 9 x15 x9.2) x16)) && ((!true || !true || (sameO (pLoad prog 9 x15 x9.2) x16 && sameO (pLoad prog 9 x15 x14.2) x16)) && ((!true || !true || (sameO (pLoad prog 9 x17 h) x18 && sameO (pLoad prog 9 x17 x9.2) x18)) && ((!true || !true || (sameO (pLoad prog 9 x17 x9.2) x18 && sameO (pLoad prog 9 x17 x14.2) x18)) && true)))))) <|
  K (x21.1) x21.2
/-- shadowbook/zone.Compare -/
def F101 (inv : Inv) (k : Nat) (x0 x1 : Value) (h : AH) : Option (Value × AH) :=
  bnd (pBox prog 31 x0 h) fun x2 =>
  bnd (pBox prog 31 x1 x2.2) fun x3 =>
  G101_1 inv x2.1 x3.1 x3.2 fun y4 h =>
  some (y4,h)
theorem F101_eq : eFun env k inv 101 #[x0,x1] h = F101 inv k x0 x1 h:=ks_fun (n:=22) []
theorem F101_call : eInv env (k + 1) (.func 101) #[] #[x0,x1] h = F101 (eInv env k) k x0 x1 h:=kq_inv F101_eq
def F103_rlr {β : Type} (inv : Inv) (k : Nat) (x0 x1 x10 : Value) (h : AH) (kn : (Value→Value→Value→AH→Option β)) : Option β :=
  brV x10
  (bnd (pMakeIface prog 9 (.string { data:=#[99,97,110,110,111,116,32,98,101,32,110,101,103,97,116,105,118,101] })) fun x11 =>
  bnd ((none : Option (Value × AH))) fun u =>
  kn x0 x1 unk u.2)
  (kn x0 x1 x10 h)
def e103_0 : Ent env 103 false 48:=.jn [] 13 [0,1,10] [(.normal,[0,1,10])] F103_rlr
abbrev G103_4 {β : Type} (inv : Inv) (x0 x5 x6 : Value) (h : AH) (K : Value→AH→Option β) : Option β :=
  bnd (pBin prog .gtr 109 (.tmp 21) (.const (.int .u64 0)) x5 (.int .u64 0)) fun x22 =>
  bnd (gd (some x22) false h (some (x6,h))) fun x24 =>
  bnd (gd (some x22) false x24.2 (lt (pBin prog .gtr 109 (.tmp 24) (.const (.int .u64 9223372036854775807)) x24.1 (.int .u64 9223372036854775807)) x24.2)) fun x25 =>
  bnd (pickV x22 (.bool true) x25.1) fun x26 =>
  K (x26) x25.2
def F103_rlrrr {β : Type} (inv : Inv) (k : Nat) (x0 x6 x26 : Value) (h : AH) (kn : (Value→Value→Value→AH→Option β)) : Option β :=
  brV x26
  (bnd (pMakeIface prog 9 (.string { data:=#[116,104,101,32,114,101,115,117,108,116,32,111,102,32,40,108,101,110,40,120,41,32,42,32,99,111,117,110,116,41,32,111,118,101,114,102,108,111,119,115] })) fun x27 =>
  bnd ((none : Option (Value × AH))) fun u =>
  kn x0 x6 unk u.2)
  (kn x0 x6 x26 h)
def e103_1 : Ent env 103 false 48:=.jn [e103_0] 61 [0,6,26] [(.normal,[0,6,26])] F103_rlrrr
def F103_llrrrrrr {β : Type} (inv : Inv) (k : Nat) : Nat→Value→Value→AH→(Value→Value→Value→AH→Option β)→Option β
 | 0,_,_,_,_=>none
 | j + 1,x7,x8,h,ke0 =>
  bnd (pLen prog #[32] x7 h) fun x36 =>
  bnd (pBin prog .lss 3 (.tmp 34) (.tmp 36) x8 x36) fun x37 =>
  brV x37
  (bnd (pSlice prog 32 x7 (some x8) none none h) fun x41 =>
  bnd (pSlice prog 32 x7 none (some x8) none h) fun x44 =>
  bnd (pCopy prog #[32,32] x41 x44 h) fun x45 =>
  bnd (pBin prog .add 3 (.tmp 38) (.tmp 45) x8 x45.1) fun x46 =>
  F103_llrrrrrr inv k j x7 x46 x45.2 ke0)
  (ke0 x7 x8 x37 h)
def e103_2 : Ent env 103 false 48:=.lp [e103_0,e103_1] 508 [7,8] [(.exit 0,[7,8,37])] F103_llrrrrrr
/-- slices.Repeat[[]bool,bool] -/
def F103 (inv : Inv) (k : Nat) (x0 x1 : Value) (h : AH) : Option (Value × AH) :=
  bnd (pBin prog .lss 3 (.tmp 9) (.const (.int .i64 0)) x1 (.int .i64 0)) fun x10 =>
  F103_rlr inv k x0 x1 x10 h
  (fun y0 y1 y10 h =>
  bnd (pLen prog #[32] y0 h) fun x14 =>
  bnd (pConv prog 3 109 x14 h) fun x15 =>
  bnd (pConv prog 3 109 y1 h) fun x17 =>
  bnd (inv (.func 138) #[] #[x15,x17] h) fun x18 =>
  bnd (pExtract x18.1 0) fun x19 =>
  bnd (pExtract x18.1 1) fun x20 =>
  G103_4 inv y0 x19 x20 x18.2 fun y26 h_1 =>
  F103_rlrrr inv k y0 x20 y26 h_1
  (fun y0_2 y6 y26_3 h_4 =>
  bnd (pConv prog 109 3 y6 h_4) fun x29 =>
  bnd (pMakeSlice prog 32 x29 x29 h_4) fun x30 =>
  bnd (pCopy prog #[32,32] x30.1 y0_2 x30.2) fun x33 =>
  F103_llrrrrrr inv k k x30.1 x33.1 x33.2
  (fun y7 y8 y37 h_5 =>
  some (y7,h_5))))
theorem F103_eq : eFun env k inv 103 #[x0,x1] h = F103 inv k x0 x1 h:=ks_fun (n:=48) [e103_0,e103_1,e103_2]
theorem F103_call : eInv env (k + 1) (.func 103) #[] #[x0,x1] h = F103 (eInv env k) k x0 x1 h:=kq_inv F103_eq
/-- bytes.Equal -/
def F104 (inv : Inv) (k : Nat) (x0 x1 : Value) (h : AH) : Option (Value × AH) :=
  bnd (pConv prog 33 9 x0 h) fun x6 =>
  bnd (pConv prog 33 9 x1 h) fun x8 =>
  bnd (pBin prog .eql 9 (.tmp 6) (.tmp 8) x6 x8) fun x9 =>
  some (x9,h)
theorem F104_eq : eFun env k inv 104 #[x0,x1] h = F104 inv k x0 x1 h:=ks_fun (n:=10) []
theorem F104_call : eInv env (k + 1) (.func 104) #[] #[x0,x1] h = F104 (eInv env k) k x0 x1 h:=kq_inv F104_eq
/-- slices.Clone[[]byte,byte] -/
def F105 (inv : Inv) (k : Nat) (x0 : Value) (h : AH) : Option (Value × AH) :=
  bnd (pBin prog .eql 33 (.tmp 3) (.const (.slice none 0 0)) x0 (.slice none 0 0)) fun x4 =>
  brV x4
  (some ((.slice none 0 0),h))
  (bnd (pBuildSlice prog 33 0 #[] h) fun x5 =>
  bnd (pAppend prog #[33,33] x5.1 x0 x5.2) fun x7 =>
  some (x7.1,x7.2))
theorem F105_eq : eFun env k inv 105 #[x0] h = F105 inv k x0 h:=ks_fun (n:=8) []
theorem F105_call : eInv env (k + 1) (.func 105) #[] #[x0] h = F105 (eInv env k) k x0 h:=kq_inv F105_eq
/-- (*shadowbook/octet.Reader).take -/
def F106 (inv : Inv) (k : Nat) (x0 x1 : Value) (h : AH) : Option (Value × AH) :=
  bnd (pNilCheck prog x0) fun x8 =>
  bnd (pFieldAddr prog 144 x8 0) fun x9 =>
  bnd (pLoad prog 33 x9 h) fun x10 =>
  bnd (pLen prog #[33] x10 h) fun x11 =>
  bnd (pBin prog .lss 3 (.tmp 11) (.tmp 12) x11 x1) fun x13 =>
  brV x13
  (some (.tuple #[(.slice none 0 0),(.int .i64 7)],h))
  (bnd (pNilCheck prog x0) fun x15 =>
  bnd (pFieldAddr prog 144 x15 0) fun x16 =>
  bnd (pLoad prog 33 x16 h) fun x17 =>
  bnd (pSlice prog 33 x17 none (some x1) (some x1) h) fun x20 =>
  bnd (pNilCheck prog x0) fun x23 =>
  bnd (pFieldAddr prog 144 x23 0) fun x24 =>
  bnd (pLoad prog 33 x24 h) fun x25 =>
  bnd (pSlice prog 33 x25 (some x1) none none h) fun x27 =>
  bnd (pNilCheck prog x0) fun x28 =>
  bnd (pFieldAddr prog 144 x28 0) fun x29 =>
  bnd (kSt (pStore prog 33 x29 x27 h)) fun u =>
  some (.tuple #[x20,(.int .i64 0)],u.2))
theorem F106_eq : eFun env k inv 106 #[x0,x1] h = F106 inv k x0 x1 h:=ks_fun (n:=31) []
theorem F106_call : eInv env (k + 1) (.func 106) #[] #[x0,x1] h = F106 (eInv env k) k x0 x1 h:=kq_inv F106_eq
def c120 : Code:=codeOf prog 120
def F120_rlrr {β : Type} (inv : Inv) (k : Nat) (x2 x9 : Value) (h : AH) (kn : (Value→Value→AH→Option β)) : Option β :=
  kRange env 120 inv x9 (psOf (cp c120 58)) (cp c120 116) (cp c120 117) (act 18 [(2,x2),(9,x9)]) h fun e h=>sw e
  (kn x2 x9 h)
  none []
def e120_0 : Ent env 120 false 18:=.jn [] 29 [2,9] [(.normal,[2,9])] F120_rlrr
/-- shadowbook/octet.Of -/
def F120 (inv : Inv) (k : Nat) (x0 : Value) (h : AH) : Option (Value × AH) :=
  bnd (pAlloc prog 60 h) fun x2 =>
  bnd (pLen prog #[33] x0 x2.2) fun x6 =>
  bnd (pBin prog .gtr 3 (.tmp 6) (.const (.int .i64 8)) x6 (.int .i64 8)) fun x7 =>
  brV x7
  (bnd (kSt (pStore prog 60 x2.1 (.int .u64 0) x2.2)) fun u =>
  bnd (pLoad prog 60 x2.1 u.2) fun q0 =>
  some (q0,u.2))
  (bnd (inv (.func 143) #[] #[x0] x2.2) fun x9 =>
  F120_rlrr inv k x2.1 x9.1 x9.2
  (fun y2 y9 h =>
  bnd (pLoad prog 60 y2 h) fun x17 =>
  bnd (kSt (pStore prog 60 y2 x17 h)) fun u_1 =>
  bnd (pLoad prog 60 y2 u_1.2) fun q0 =>
  some (q0,u_1.2)))
theorem F120_eq : eFun env k inv 120 #[x0] h = F120 inv k x0 h:=ks_fun (n:=18) [e120_0]
theorem F120_call : eInv env (k + 1) (.func 120) #[] #[x0] h = F120 (eInv env k) k x0 h:=kq_inv F120_eq
def R120_lrlrr (inv : Inv) (k l : Nat) (x2 x9 z0 z1 : Value) (h : AH) : Option (Value × AH) :=
  rdBegin l h fun h =>
  bnd (pLoad prog 60 x2 h) fun x12 =>
  bnd (pBin prog .shl 60 (.tmp 12) (.const (.int .u64 8)) x12 (.int .u64 8)) fun x13 =>
  bnd (pConv prog 5 60 z1 h) fun x15 =>
  bnd (pBin prog .or 60 (.tmp 13) (.tmp 15) x13 x15) fun x16 =>
  bnd (kSt (pStore prog 60 x2 x16 h)) fun u =>
  rdEnd l .normal u.2
theorem R120_lrlrr_eq {l : Nat} {pd : Option Code} (hl : h.get l = some (.loop .ready pd 120 (act 18 [(2,x2),(9,x9)]).tmps (psOf (cp c120 58)) (cp c120 116) (cp c120 117))) : eRound env k inv l #[z0,z1] h = R120_lrlrr inv k l x2 x9 z0 z1 h:=ks_round (n:=18) [] 58 hl [(2,x2),(9,x9),(10,z0),(11,z1)]
abbrev G121_1 {β : Type} (inv : Inv) (h : AH) (K : Value→AH→Option β) : Option β :=
  bnd (pBuild prog 158 #[(0,(.int .u8 1)),(1,(.func (.func 144) #[] #[])),(2,(.func (.func 145) #[] #[]))]) fun x1 =>
  bnd (pBuild prog 158 #[(0,(.int .u8 2)),(1,(.func (.func 146) #[] #[])),(2,(.func (.func 147) #[] #[]))]) fun x2 =>
  bnd (pBuild prog 158 #[(0,(.int .u8 3)),(1,(.func (.func 148) #[] #[])),(2,(.func (.func 149) #[] #[]))]) fun x3 =>
  bnd (pBuildSlice prog 154 3 #[(0,x1),(1,x2),(2,x3)] h) fun x4 =>
  K (x4.1) x4.2
/-- shadowbook/ints.forms -/
def F121 (inv : Inv) (k : Nat) (h : AH) : Option (Value × AH) :=
  G121_1 inv  h fun y0 h =>
  some (y0,h)
theorem F121_eq : eFun env k inv 121 #[] h = F121 inv k  h:=ks_fun (n:=5) []
theorem F121_call : eInv env (k + 1) (.func 121) #[] #[] h = F121 (eInv env k) k  h:=kq_inv F121_eq
def F122_rlr {β : Type} (inv : Inv) (k : Nat) (x0 x1 x9 : Value) (h : AH) (kn : (Value→Value→Value→AH→Option β)) : Option β :=
  brV x9
  (bnd (pMakeIface prog 9 (.string { data:=#[115,108,105,99,101,115,46,77,105,110,70,117,110,99,58,32,101,109,112,116,121,32,108,105,115,116] })) fun x10 =>
  bnd ((none : Option (Value × AH))) fun u =>
  kn x0 x1 unk u.2)
  (kn x0 x1 x9 h)
def e122_0 : Ent env 122 false 33:=.jn [] 13 [0,1,9] [(.normal,[0,1,9])] F122_rlr
def F122_lrllrlrrr {β : Type} (inv : Inv) (k : Nat) (x0 x1 x5 x6 x17 : Value) (h : AH) (kn : (Value→Value→Value→Value→Value→AH→Option β)) : Option β :=
  bnd (pIndexAddr prog 153 x0 x6) fun x23 =>
  bnd (pLoad prog 33 x23 h) fun x24 =>
  bnd (callV inv x1 #[x24,x5] h) fun x26 =>
  bnd (pBin prog .lss 3 (.tmp 26) (.const (.int .i64 0)) x26.1 (.int .i64 0)) fun x27 =>
  brV x27
  (bnd (pIndexAddr prog 153 x0 x6) fun x30 =>
  bnd (pLoad prog 33 x30 x26.2) fun x31 =>
  kn x0 x1 x31 x6 unk x26.2)
  (kn x0 x1 x5 x6 x27 x26.2)
def e122_1 : Ent env 122 false 33:=.jn [e122_0] 978 [0,1,5,6,17] [(.normal,[0,1,5,6,27])] F122_lrllrlrrr
def F122_lrlrrr {β : Type} (inv : Inv) (k : Nat) : Nat→Value→Value→Value→Value→AH→(Value→Value→Value→Value→Value→AH→Option β)→Option β
 | 0,_,_,_,_,_,_=>none
 | j + 1,x0,x1,x5,x6,h,ke0 =>
  bnd (pLen prog #[153] x0 h) fun x16 =>
  bnd (pBin prog .lss 3 (.tmp 14) (.tmp 16) x6 x16) fun x17 =>
  brV x17
  (F122_lrllrlrrr inv k x0 x1 x5 x6 x17 h
  (fun y0 y1 y5 y6 y27 h =>
  bnd (pBin prog .add 3 (.tmp 18) (.const (.int .i64 1)) y6 (.int .i64 1)) fun x19 =>
  F122_lrlrrr inv k j y0 y1 y5 x19 h ke0))
  (ke0 x0 x1 x5 x6 x17 h)
def e122_2 : Ent env 122 false 33:=.lp [e122_0,e122_1] 122 [0,1,5,6] [(.exit 0,[0,1,5,6,17])] F122_lrlrrr
/-- slices.MinFunc[[][]byte,[]byte] -/
def F122 (inv : Inv) (k : Nat) (x0 x1 : Value) (h : AH) : Option (Value × AH) :=
  bnd (pLen prog #[153] x0 h) fun x8 =>
  bnd (pBin prog .lss 3 (.tmp 8) (.const (.int .i64 1)) x8 (.int .i64 1)) fun x9 =>
  F122_rlr inv k x0 x1 x9 h
  (fun y0 y1 y9 h =>
  bnd (pIndexAddr prog 153 y0 (.int .i64 0)) fun x12 =>
  bnd (pLoad prog 33 x12 h) fun x13 =>
  F122_lrlrrr inv k k y0 y1 x13 (.int .i64 1) h
  (fun y0_1 y1_2 y5 y6 y17 h_3 =>
  some (y5,h_3)))
theorem F122_eq : eFun env k inv 122 #[x0,x1] h = F122 inv k x0 x1 h:=ks_fun (n:=33) [e122_0,e122_1,e122_2]
theorem F122_call : eInv env (k + 1) (.func 122) #[] #[x0,x1] h = F122 (eInv env k) k x0 x1 h:=kq_inv F122_eq
/-- shadowbook/ints.Put$1 -/
def F123 (inv : Inv) (k : Nat) (x0 x1 : Value) (h : AH) : Option (Value × AH) :=
  bnd (pLen prog #[33] x0 h) fun x6 =>
  bnd (pLen prog #[33] x1 h) fun x8 =>
  bnd (inv (.func 124) #[] #[x6,x8] h) fun x9 =>
  some (x9.1,x9.2)
theorem F123_eq : eFun env k inv 123 #[x0,x1] h = F123 inv k x0 x1 h:=ks_fun (n:=10) []
theorem F123_call : eInv env (k + 1) (.func 123) #[] #[x0,x1] h = F123 (eInv env k) k x0 x1 h:=kq_inv F123_eq
/-- cmp.Compare[int] -/
def F124 (inv : Inv) (k : Nat) (x0 x1 : Value) (h : AH) : Option (Value × AH) :=
  bnd (inv (.func 150) #[] #[x0] h) fun x8 =>
  bnd (inv (.func 150) #[] #[x1] x8.2) fun x10 =>
  brV x8.1
  (brV x10.1
  (some ((.int .i64 0),x10.2))
  (some ((.int .i64 (-1)),x10.2)))
  (brV x10.1
  (some ((.int .i64 1),x10.2))
  (bnd (pBin prog .lss 3 (.tmp 14) (.tmp 15) x0 x1) fun x16 =>
  brV x16
  (some ((.int .i64 (-1)),x10.2))
  (bnd (pBin prog .gtr 3 (.tmp 17) (.tmp 18) x0 x1) fun x19 =>
  brV x19
  (some ((.int .i64 1),x10.2))
  (some ((.int .i64 0),x10.2)))))
theorem F124_eq : eFun env k inv 124 #[x0,x1] h = F124 inv k x0 x1 h:=ks_fun (n:=20) []
theorem F124_call : eInv env (k + 1) (.func 124) #[] #[x0,x1] h = F124 (eInv env k) k x0 x1 h:=kq_inv F124_eq
def F125_lrlr {β : Type} (inv : Inv) (k : Nat) : Nat→Value→Value→Value→Value→AH→(Value→Value→Value→Value→Value→AH→Option β)→(Value→AH→Option β)→Option β
 | 0,_,_,_,_,_,_,_=>none
 | j + 1,x0,x1,x7,x8,h,ke0,kr =>
  bnd (pBin prog .lss 3 (.tmp 8) (.tmp 7) x8 x7) fun x9 =>
  brV x9
  (bnd (pIndexAddr prog 154 x0 x8) fun x14 =>
  bnd (pLoad prog 158 x14 h) fun x15 =>
  bnd (callV inv x1 #[x15] h) fun x16 =>
  brV x16.1
  (kr x8 x16.2)
  (bnd (pBin prog .add 3 (.tmp 8) (.const (.int .i64 1)) x8 (.int .i64 1)) fun x18 =>
  F125_lrlr inv k j x0 x1 x7 x18 x16.2 ke0 kr))
  (ke0 x0 x1 x7 x8 x9 h)
def e125_0 : Ent env 125 false 19:=.lp [] 26 [0,1,7,8] [(.exit 0,[0,1,7,8,9]),(.ret,[4])] F125_lrlr
/-- slices.IndexFunc[[]shadowbook/ints.form,shadowbook/ints.form] -/
def F125 (inv : Inv) (k : Nat) (x0 x1 : Value) (h : AH) : Option (Value × AH) :=
  bnd (pLen prog #[154] x0 h) fun x7 =>
  F125_lrlr inv k k x0 x1 x7 (.int .i64 0) h
  (fun y0 y1 y7 y8 y9 h =>
  some ((.int .i64 (-1)),h))
  (fun y4 h_1 =>
  some (y4,h_1))
theorem F125_eq : eFun env k inv 125 #[x0,x1] h = F125 inv k x0 x1 h:=ks_fun (n:=19) [e125_0]
theorem F125_call : eInv env (k + 1) (.func 125) #[] #[x0,x1] h = F125 (eInv env k) k x0 x1 h:=kq_inv F125_eq
/-- shadowbook/ints.Get$1 -/
def F126 (inv : Inv) (k : Nat) (x0 x1 : Value) (h : AH) : Option (Value × AH) :=
  bnd (pBox prog 158 x0 h) fun x2 =>
  bnd (pFieldAddr prog 158 x2.1 0) fun x4 =>
  bnd (pLoad prog 5 x4 x2.2) fun x5 =>
  bnd (pConv prog 5 60 x5 x2.2) fun x6 =>
  bnd (pLoad prog 60 x1 x2.2) fun x7 =>
  bnd (pBin prog .eql 60 (.tmp 6) (.tmp 7) x6 x7) fun x8 =>
  some (x8,x2.2)
theorem F126_eq : eFun env k inv 126 #[x0,x1] h = F126 inv k x0 x1 h:=ks_fun (n:=9) []
theorem F126_call : eInv env (k + 1) (.func 126) #[] #[x0,x1] h = F126 (eInv env k) k x0 x1 h:=kq_inv F126_eq
abbrev G127_5 {β : Type} (inv : Inv) (x0 x1 x2 : Value) (h : AH) (K : Value→AH→Option β) : Option β :=
  bnd (pBin prog .mul 3 (.tmp 21) (.tmp 22) x1 x2) fun x23 =>
  bnd (pLen prog #[33] x0 h) fun x25 =>
  bnd (pBin prog .mul 3 (.const (.int .i64 8)) (.tmp 25) (.int .i64 8) x25) fun x26 =>
  bnd (pBin prog .mul 3 (.tmp 27) (.tmp 28) x1 x2) fun x29 =>
  bnd (pBin prog .sub 3 (.tmp 26) (.tmp 29) x26 x29) fun x30 =>
  bnd (inv (.func 151) #[] #[x0,x23,x30] h) fun x31 =>
  bnd (pBin prog .neq 60 (.tmp 31) (.const (.int .u64 0)) x31.1 (.int .u64 0)) fun x32 =>
  K (x32) x31.2
/-- shadowbook/packs.check -/
def F127 (inv : Inv) (k : Nat) (x0 x1 x2 : Value) (h : AH) : Option (Value × AH) :=
  bnd (inv (.func 97) #[] #[x1,x2] h) fun x10 =>
  bnd (pUn prog .not x10.1) fun x11 =>
  brV x11
  (some ((.int .i64 2),x10.2))
  (bnd (pLen prog #[33] x0 x10.2) fun x14 =>
  bnd (inv (.func 99) #[] #[x1,x2] x10.2) fun x17 =>
  bnd (pBin prog .neq 3 (.tmp 14) (.tmp 17) x14 x17.1) fun x18 =>
  brV x18
  (some ((.int .i64 4),x17.2))
  (G127_5 inv x0 x1 x2 x17.2 fun y19 h =>
  brV y19
  (some ((.int .i64 4),h))
  (some ((.int .i64 0),h))))
theorem F127_eq : eFun env k inv 127 #[x0,x1,x2] h = F127 inv k x0 x1 x2 h:=ks_fun (n:=33) []
theorem F127_call : eInv env (k + 1) (.func 127) #[] #[x0,x1,x2] h = F127 (eInv env k) k x0 x1 x2 h:=kq_inv F127_eq
/-- shadowbook/packs.Each -/
def F128 (inv : Inv) (k : Nat) (x0 x1 x2 : Value) (h : AH) : Option (Value × AH) :=
  bnd (pBox prog 33 x0 h) fun x3 =>
  bnd (pBox prog 3 x1 x3.2) fun x4 =>
  bnd (pBox prog 3 x2 x4.2) fun x5 =>
  bnd (pMakeFunc (.func 152) #[] #[x3.1,x4.1,x5.1]) fun x7 =>
  some (x7,x5.2)
theorem F128_eq : eFun env k inv 128 #[x0,x1,x2] h = F128 inv k x0 x1 x2 h:=ks_fun (n:=8) []
theorem F128_call : eInv env (k + 1) (.func 128) #[] #[x0,x1,x2] h = F128 (eInv env k) k x0 x1 x2 h:=kq_inv F128_eq
/-- (*shadowbook/octet.Reader).ends -/
def F129 (inv : Inv) (k : Nat) (x0 : Value) (h : AH) : Option (Value × AH) :=
  bnd (pNilCheck prog x0) fun x4 =>
  bnd (pFieldAddr prog 144 x4 0) fun x5 =>
  bnd (pLoad prog 33 x5 h) fun x6 =>
  bnd (pLen prog #[33] x6 h) fun x7 =>
  bnd (pBin prog .geq 3 (.tmp 7) (.const (.int .i64 10)) x7 (.int .i64 10)) fun x8 =>
  brV x8
  (some ((.bool false),h))
  (bnd (pNilCheck prog x0) fun x10 =>
  bnd (pFieldAddr prog 144 x10 0) fun x11 =>
  bnd (pLoad prog 33 x11 h) fun x12 =>
  bnd (inv (.func 153) #[] #[x12,(.func (.func 154) #[] #[])] h) fun x13 =>
  bnd (pUn prog .not x13.1) fun x14 =>
  some (x14,x13.2))
theorem F129_eq : eFun env k inv 129 #[x0] h = F129 inv k x0 h:=ks_fun (n:=15) []
theorem F129_call : eInv env (k + 1) (.func 129) #[] #[x0] h = F129 (eInv env k) k x0 h:=kq_inv F129_eq
def F130_lrlrrr {β : Type} (inv : Inv) (k : Nat) : Nat→Value→Value→Value→Value→AH→(Value→Value→Value→Value→Value→AH→Option β)→Option β
 | 0,_,_,_,_,_,_=>none
 | j + 1,x5,x18,x19,x20,h,ke0 =>
  bnd (pBin prog .lss 3 (.tmp 20) (.tmp 19) x20 x19) fun x21 =>
  brV x21
  (bnd (pIndexAddr prog 122 x18 x20) fun x22 =>
  bnd (pLoad prog 9 x22 h) fun x23 =>
  bnd (inv (.func 156) #[] #[x5,x23] h) fun x26 =>
  bnd (pBin prog .add 3 (.tmp 20) (.const (.int .i64 1)) x20 (.int .i64 1)) fun x27 =>
  F130_lrlrrr inv k j x26.1 x18 x19 x27 x26.2 ke0)
  (ke0 x5 x18 x19 x20 x21 h)
def e130_0 : Ent env 130 false 29:=.lp [] 122 [5,18,19,20] [(.exit 0,[5,18,19,20,21])] F130_lrlrrr
/-- shadowbook/texts.Plain -/
def F130 (inv : Inv) (k : Nat) (x0 : Value) (h : AH) : Option (Value × AH) :=
  bnd (inv (.func 155) #[] #[x0] h) fun x9 =>
  bnd (pBin prog .neq 25 (.tmp 10) (.const (.int .i64 0)) x9.1 (.int .i64 0)) fun x11 =>
  brV x11
  (some (.tuple #[(.slice none 0 0),x9.1],x9.2))
  (bnd (pBuildSlice prog 33 1 #[(0,(.int .u8 1))] x9.2) fun x13 =>
  bnd (pLen prog #[122] x0 x13.2) fun x15 =>
  bnd (pConv prog 3 60 x15 x13.2) fun x16 =>
  bnd (inv (.func 47) #[] #[x13.1,x16] x13.2) fun x17 =>
  bnd (pLen prog #[122] x0 x17.2) fun x19 =>
  F130_lrlrrr inv k k x17.1 x0 x19 (.int .i64 0) x17.2
  (fun y5 y18 y19 y20 y21 h =>
  some (.tuple #[y5,(.int .i64 0)],h)))
theorem F130_eq : eFun env k inv 130 #[x0] h = F130 inv k x0 h:=ks_fun (n:=29) [e130_0]
theorem F130_call : eInv env (k + 1) (.func 130) #[] #[x0] h = F130 (eInv env k) k x0 h:=kq_inv F130_eq
def F131_lrlrrrr {β : Type} (inv : Inv) (k : Nat) : Nat→Value→Value→Value→Value→Value→Value→AH→(Value→Value→Value→Value→Value→Value→Value→AH→Option β)→Option β
 | 0,_,_,_,_,_,_,_,_=>none
 | j + 1,x0,x5,x6,x33,x34,x35,h,ke0 =>
  bnd (pBin prog .lss 3 (.tmp 35) (.tmp 34) x35 x34) fun x36 =>
  brV x36
  (bnd (pIndexAddr prog 122 x33 x35) fun x37 =>
  bnd (pLoad prog 9 x37 h) fun x38 =>
  bnd (inv (.func 156) #[] #[x6,x38] h) fun x41 =>
  bnd (pBin prog .add 3 (.tmp 35) (.const (.int .i64 1)) x35 (.int .i64 1)) fun x42 =>
  F131_lrlrrrr inv k j x0 x5 x41.1 x33 x34 x42 x41.2 ke0)
  (ke0 x0 x5 x6 x33 x34 x35 x36 h)
def e131_0 : Ent env 131 false 79:=.lp [] 250 [0,5,6,33,34,35] [(.exit 0,[0,5,6,33,34,35,36])] F131_lrlrrrr
def F131_lrlrrrrrr {β : Type} (inv : Inv) (k : Nat) : Nat→Value→Value→Value→Value→Value→Value→AH→(Value→Value→Value→Value→Value→Value→Value→AH→Option β)→Option β
 | 0,_,_,_,_,_,_,_,_=>none
 | j + 1,x5,x6,x9,x43,x44,x45,h,ke2 =>
  bnd (pBin prog .lss 3 (.tmp 45) (.tmp 44) x45 x44) fun x46 =>
  brV x46
  (bnd (pIndexAddr prog 122 x43 x45) fun x47 =>
  bnd (pLoad prog 9 x47 h) fun x48 =>
  bnd (inv (.func 158) #[] #[x5,x48] h) fun x52 =>
  bnd (pExtract x52.1 0) fun x53 =>
  bnd (pExtract x52.1 1) fun x54 =>
  bnd (pConv prog 3 60 x53 x52.2) fun x57 =>
  bnd (pBuildSlice prog 63 1 #[(0,x57)] x52.2) fun x58 =>
  bnd (pAppend prog #[63,63] x9 x58.1 x58.2) fun x59 =>
  bnd (pBin prog .add 3 (.tmp 45) (.const (.int .i64 1)) x45 (.int .i64 1)) fun x60 =>
  F131_lrlrrrrrr inv k j x5 x6 x59.1 x43 x44 x60 x59.2 ke2)
  (ke2 x5 x6 x9 x43 x44 x45 x46 h)
def e131_1 : Ent env 131 false 79:=.lp [e131_0] 1018 [5,6,9,43,44,45] [(.exit 2,[5,6,9,43,44,45,46])] F131_lrlrrrrrr
/-- shadowbook/texts.Dict -/
def F131 (inv : Inv) (k : Nat) (x0 : Value) (h : AH) : Option (Value × AH) :=
  bnd (inv (.func 155) #[] #[x0] h) fun x18 =>
  bnd (pBin prog .neq 25 (.tmp 19) (.const (.int .i64 0)) x18.1 (.int .i64 0)) fun x20 =>
  brV x20
  (some (.tuple #[(.slice none 0 0),x18.1],x18.2))
  (bnd (inv (.func 157) #[] #[x0] x18.2) fun x23 =>
  bnd (pBuildSlice prog 33 1 #[(0,(.int .u8 2))] x23.2) fun x24 =>
  bnd (pLen prog #[122] x0 x24.2) fun x26 =>
  bnd (pConv prog 3 60 x26 x24.2) fun x27 =>
  bnd (inv (.func 47) #[] #[x24.1,x27] x24.2) fun x28 =>
  bnd (pLen prog #[122] x23.1 x28.2) fun x30 =>
  bnd (pConv prog 3 60 x30 x28.2) fun x31 =>
  bnd (inv (.func 47) #[] #[x28.1,x31] x28.2) fun x32 =>
  bnd (pLen prog #[122] x23.1 x32.2) fun x34 =>
  F131_lrlrrrr inv k k x0 x23.1 x32.1 x23.1 x34 (.int .i64 0) x32.2
  (fun y0 y5 y6 y33 y34 y35 y36 h =>
  bnd (pLen prog #[122] y0 h) fun x44 =>
  F131_lrlrrrrrr inv k k y5 y6 (.slice none 0 0) y0 x44 (.int .i64 0) h
  (fun y5_1 y6_2 y9 y43 y44 y45 y46 h_3 =>
  bnd (inv (.func 98) #[] #[y9] h_3) fun x62 =>
  bnd (inv (.func 49) #[] #[y9,x62.1] x62.2) fun x66 =>
  bnd (pExtract x66.1 0) fun x67 =>
  bnd (pExtract x66.1 1) fun x68 =>
  bnd (pBin prog .neq 25 (.tmp 69) (.const (.int .i64 0)) x68 (.int .i64 0)) fun x70 =>
  brV x70
  (some (.tuple #[(.slice none 0 0),x68],x66.2))
  (bnd (pConv prog 3 5 x62.1 x66.2) fun x74 =>
  bnd (pBuildSlice prog 33 1 #[(0,x74)] x66.2) fun x75 =>
  bnd (pAppend prog #[33,33] y6_2 x75.1 x75.2) fun x76 =>
  bnd (pAppend prog #[33,33] x76.1 x67 x76.2) fun x78 =>
  some (.tuple #[x78.1,(.int .i64 0)],x78.2)))))
theorem F131_eq : eFun env k inv 131 #[x0] h = F131 inv k x0 h:=ks_fun (n:=79) [e131_0,e131_1]
theorem F131_call : eInv env (k + 1) (.func 131) #[] #[x0] h = F131 (eInv env k) k x0 h:=kq_inv F131_eq
abbrev G132_5 {β : Type} (inv : Inv) (x0 x1 x4 x5 x6 x7 : Value) (h : AH) (K : Value→AH→Option β) : Option β :=
  bnd (pBin prog .neq 25 (.tmp 19) (.const (.int .i64 0)) x7 (.int .i64 0)) fun x20 =>
  bnd (gd (some x20) false h (some (x6,h))) fun x22 =>
  bnd (gd (some x20) false x22.2 (lt (pBin prog .gtr 60 (.tmp 22) (.const (.int .u64 65536)) x22.1 (.int .u64 65536)) x22.2)) fun x23 =>
  bnd (pickV x20 (.bool true) x23.1) fun x24 =>
  K (x24) x23.2
def F132_llrrlr {β : Type} (inv : Inv) (k : Nat) : Nat→Value→Value→Value→Value→AH→(Value→Value→Value→Value→Value→AH→Option β)→Option β
 | 0,_,_,_,_,_,_=>none
 | j + 1,x0,x1,x4,x5,h,ke0 =>
  bnd (pBin prog .gtr 60 (.tmp 9) (.const (.int .u64 0)) x1 (.int .u64 0)) fun x10 =>
  brV x10
  (bnd (inv (.func 92) #[] #[x0] h) fun x15 =>
  bnd (pExtract x15.1 0) fun x16 =>
  bnd (pExtract x15.1 1) fun x17 =>
  G132_5 inv x0 x1 x4 x5 x16 x17 x15.2 fun y18 h =>
  brV y18
  (ke0 unk unk x4 (.bool false) unk h)
  (bnd (pConv prog 60 3 x16 h) fun x28 =>
  bnd (inv (.func 60) #[] #[x0,x28] h) fun x29 =>
  bnd (pExtract x29.1 0) fun x30 =>
  bnd (pExtract x29.1 1) fun x31 =>
  bnd (pBin prog .neq 25 (.tmp 32) (.const (.int .i64 0)) x31 (.int .i64 0)) fun x33 =>
  brV x33
  (ke0 unk unk x4 (.bool false) unk x29.2)
  (bnd (pConv prog 33 9 x30 x29.2) fun x36 =>
  bnd (pBuildSlice prog 122 1 #[(0,x36)] x29.2) fun x37 =>
  bnd (pAppend prog #[122,122] x4 x37.1 x37.2) fun x38 =>
  bnd (pBin prog .sub 60 (.tmp 11) (.const (.int .u64 1)) x1 (.int .u64 1)) fun x12 =>
  F132_llrrlr inv k j x0 x12 x38.1 x5 x38.2 ke0)))
  (ke0 x0 x1 x4 x5 x10 h)
def e132_0 : Ent env 132 false 41:=.lp [] 108 [0,1,4,5] [(.exit 0,[0,1,4,5,10])] F132_llrrlr
def F132_lrrlr {β : Type} (inv : Inv) (k : Nat) (x0 x1 x4 x5 : Value) (h : AH) (kn : (Value→Value→Value→Value→Value→AH→Option β)) : Option β :=
  F132_llrrlr inv k k x0 x1 x4 x5 h
  (fun y0 y1 y4 y5 y10 h =>
  kn y0 y1 y4 y5 y10 h)
def e132_1 : Ent env 132 false 41:=.jn [e132_0] 54 [0,1,4,5] [(.normal,[0,1,4,5,10])] F132_lrrlr
/-- shadowbook/texts.read -/
def F132 (inv : Inv) (k : Nat) (x0 x1 : Value) (h : AH) : Option (Value × AH) :=
  F132_lrrlr inv k x0 x1 (.slice none 0 0) (.bool true) h
  (fun y0 y1 y4 y5 y10 h =>
  some (.tuple #[y4,y5],h))
theorem F132_eq : eFun env k inv 132 #[x0,x1] h = F132 inv k x0 x1 h:=ks_fun (n:=41) [e132_0,e132_1]
theorem F132_call : eInv env (k + 1) (.func 132) #[] #[x0,x1] h = F132 (eInv env k) k x0 x1 h:=kq_inv F132_eq
abbrev G133_2 {β : Type} (inv : Inv) (x0 x1 x4 x6 x7 : Value) (h : AH) (K : Value→AH→Option β) : Option β :=
  bnd (pBin prog .neq 25 (.tmp 21) (.const (.int .i64 0)) x7 (.int .i64 0)) fun x22 =>
  bnd (gd (some x22) false h (some (x6,h))) fun x24 =>
  bnd (gd (some x22) false x24.2 (some (x1,x24.2))) fun x25 =>
  bnd (gd (some x22) false x25.2 (lt (pConv prog 3 60 x25.1 x25.2) x25.2)) fun x26 =>
  bnd (gd (some x22) false x26.2 (lt (pBin prog .gtr 60 (.tmp 24) (.tmp 26) x24.1 x26.1) x26.2)) fun x27 =>
  bnd (pickV x22 (.bool true) x27.1) fun x28 =>
  K (x28) x27.2
def F133_lrlrrrrrrrrr {β : Type} (inv : Inv) (k : Nat) : Nat→Value→Value→Value→Value→Value→AH→(Value→Value→Value→Value→Value→Value→AH→Option β)→(Value→Value→AH→Option β)→Option β
 | 0,_,_,_,_,_,_,_,_=>none
 | j + 1,x4,x8,x63,x64,x65,h,ke0,kr =>
  bnd (pBin prog .lss 3 (.tmp 65) (.tmp 64) x65 x64) fun x66 =>
  brV x66
  (bnd (pIndexAddr prog 63 x63 x65) fun x67 =>
  bnd (pLoad prog 60 x67 h) fun x68 =>
  bnd (pLen prog #[122] x8 h) fun x71 =>
  bnd (pConv prog 3 60 x71 h) fun x72 =>
  bnd (pBin prog .geq 60 (.tmp 69) (.tmp 72) x68 x72) fun x73 =>
  brV x73
  (kr (.slice none 0 0) (.bool false) h)
  (bnd (pIndexAddr prog 122 x8 x68) fun x77 =>
  bnd (pLoad prog 9 x77 h) fun x78 =>
  bnd (pBuildSlice prog 122 1 #[(0,x78)] h) fun x79 =>
  bnd (pAppend prog #[122,122] x4 x79.1 x79.2) fun x80 =>
  bnd (pBin prog .add 3 (.tmp 65) (.const (.int .i64 1)) x65 (.int .i64 1)) fun x81 =>
  F133_lrlrrrrrrrrr inv k j x80.1 x8 x63 x64 x81 x80.2 ke0 kr))
  (ke0 x4 x8 x63 x64 x65 x66 h)
def e133_0 : Ent env 133 false 83:=.lp [] 8186 [4,8,63,64,65] [(.exit 0,[4,8,63,64,65,66]),(.ret,[4,5])] F133_lrlrrrrrrrrr
/-- shadowbook/texts.words -/
def F133 (inv : Inv) (k : Nat) (x0 x1 : Value) (h : AH) : Option (Value × AH) :=
  bnd (inv (.func 92) #[] #[x0] h) fun x18 =>
  bnd (pExtract x18.1 0) fun x19 =>
  bnd (pExtract x18.1 1) fun x20 =>
  G133_2 inv x0 x1 (.slice none 0 0) x19 x20 x18.2 fun y28 h =>
  brV y28
  (some (.tuple #[(.slice none 0 0),(.bool false)],h))
  (bnd (inv (.func 132) #[] #[x0,x19] h) fun x32 =>
  bnd (pExtract x32.1 0) fun x33 =>
  bnd (pExtract x32.1 1) fun x34 =>
  bnd (inv (.func 77) #[] #[x0,(.int .i64 1)] x32.2) fun x37 =>
  bnd (pExtract x37.1 0) fun x38 =>
  bnd (pExtract x37.1 1) fun x39 =>
  bnd (pUn prog .not x34) fun x41 =>
  bnd (gd (some x41) false x37.2 (some (x39,x37.2))) fun x43 =>
  bnd (gd (some x41) false x43.2 (lt (pBin prog .neq 25 (.tmp 43) (.const (.int .i64 0)) x43.1 (.int .i64 0)) x43.2)) fun x44 =>
  bnd (pickV x41 (.bool true) x44.1) fun x45 =>
  brV x45
  (some (.tuple #[(.slice none 0 0),(.bool false)],x44.2))
  (bnd (inv (.func 61) #[] #[x0] x44.2) fun x49 =>
  bnd (inv (.func 60) #[] #[x0,x49.1] x49.2) fun x50 =>
  bnd (pExtract x50.1 0) fun x51 =>
  bnd (pExtract x50.1 1) fun x52 =>
  bnd (pConv prog 60 3 x38 x50.2) fun x57 =>
  bnd (inv (.func 87) #[] #[x51,x1,x57] x50.2) fun x58 =>
  bnd (pExtract x58.1 0) fun x59 =>
  bnd (pExtract x58.1 1) fun x60 =>
  bnd (pBin prog .neq 25 (.tmp 61) (.const (.int .i64 0)) x60 (.int .i64 0)) fun x62 =>
  brV x62
  (some (.tuple #[(.slice none 0 0),(.bool false)],x58.2))
  (bnd (pLen prog #[63] x59 x58.2) fun x64 =>
  F133_lrlrrrrrrrrr inv k k (.slice none 0 0) x33 x59 x64 (.int .i64 0) x58.2
  (fun y4 y8 y63 y64 y65 y66 h_1 =>
  some (.tuple #[y4,(.bool true)],h_1))
  (fun y4_2 y5 h_3 =>
  some (.tuple #[y4_2,y5],h_3)))))
theorem F133_eq : eFun env k inv 133 #[x0,x1] h = F133 inv k x0 x1 h:=ks_fun (n:=83) [e133_0]
theorem F133_call : eInv env (k + 1) (.func 133) #[] #[x0,x1] h = F133 (eInv env k) k x0 x1 h:=kq_inv F133_eq
def F134_rlr {β : Type} (inv : Inv) (k : Nat) (x0 x2 x4 : Value) (h : AH) (kn : (Value→Value→Value→AH→Option β)) : Option β :=
  brV x4
  (bnd (pBin prog .shr 60 (.tmp 5) (.const (.int .u64 32)) x0 (.int .u64 32)) fun x6 =>
  kn x6 (.int .i64 32) unk h)
  (kn x0 x2 x4 h)
def e134_0 : Ent env 134 false 25:=.jn [] 13 [0,2,4] [(.normal,[0,2,4])] F134_rlr
def F134_rlrr {β : Type} (inv : Inv) (k : Nat) (x0 x2 x8 : Value) (h : AH) (kn : (Value→Value→Value→AH→Option β)) : Option β :=
  brV x8
  (bnd (pBin prog .shr 60 (.tmp 9) (.const (.int .u64 16)) x0 (.int .u64 16)) fun x10 =>
  bnd (pBin prog .add 3 (.tmp 11) (.const (.int .i64 16)) x2 (.int .i64 16)) fun x12 =>
  kn x10 x12 unk h)
  (kn x0 x2 x8 h)
def e134_1 : Ent env 134 false 25:=.jn [e134_0] 29 [0,2,8] [(.normal,[0,2,8])] F134_rlrr
def F134_rlrrr {β : Type} (inv : Inv) (k : Nat) (x0 x2 x14 : Value) (h : AH) (kn : (Value→Value→Value→AH→Option β)) : Option β :=
  brV x14
  (bnd (pBin prog .shr 60 (.tmp 15) (.const (.int .u64 8)) x0 (.int .u64 8)) fun x16 =>
  bnd (pBin prog .add 3 (.tmp 17) (.const (.int .i64 8)) x2 (.int .i64 8)) fun x18 =>
  kn x16 x18 unk h)
  (kn x0 x2 x14 h)
def e134_2 : Ent env 134 false 25:=.jn [e134_0,e134_1] 61 [0,2,14] [(.normal,[0,2,14])] F134_rlrrr
abbrev G134_10 {β : Type} (inv : Inv) (x0 x2 : Value) (h : AH) (K : Value→AH→Option β) : Option β :=
  bnd (pConv prog 60 5 x0 h) fun x21 =>
  bnd (pIndex prog 9 (.string { data:=#[0,1,2,2,3,3,3,3,4,4,4,4,4,4,4,4,5,5,5,5,5,5,5,5,5,5,5,5,5,5,5,5,6,6,6,6,6,6,6,6,6,6,6,6,6,6,6,6,6,6,6,6,6,6,6,6,6,6,6,6,6,6,6,6,7,7,7,7,7,7,7,7,7,7,7,7,7,7,7,7,7,7,7,7,7,7,7,7,7,7,7,7,7,7,7,7,7,7,7,7,7,7,7,7,7,7,7,7,7,7,7,7,7,7,7,7,7,7,7,7,7,7,7,7,7,7,7,7,8,8,8,8,8,8,8,8,8,8,8,8,8,8,8,8,8,8,8,8,8,8,8,8,8,8,8,8,8,8,8,8,8,8,8,8,8,8,8,8,8,8,8,8,8,8,8,8,8,8,8,8,8,8,8,8,8,8,8,8,8,8,8,8,8,8,8,8,8,8,8,8,8,8,8,8,8,8,8,8,8,8,8,8,8,8,8,8,8,8,8,8,8,8,8,8,8,8,8,8,8,8,8,8,8,8,8,8,8,8,8,8,8,8,8,8,8,8,8,8,8,8,8,8,8,8,8,8] }) x21) fun x22 =>
  bnd (pConv prog 5 3 x22 h) fun x23 =>
  bnd (pBin prog .add 3 (.tmp 19) (.tmp 23) x2 x23) fun x24 =>
  K (x24) h
/-- math/bits.Len64 -/
def F134 (inv : Inv) (k : Nat) (x0 : Value) (h : AH) : Option (Value × AH) :=
  bnd (pBin prog .geq 60 (.tmp 3) (.const (.int .u64 4294967296)) x0 (.int .u64 4294967296)) fun x4 =>
  F134_rlr inv k x0 (.int .i64 0) x4 h
  (fun y0 y2 y4 h =>
  bnd (pBin prog .geq 60 (.tmp 7) (.const (.int .u64 65536)) y0 (.int .u64 65536)) fun x8 =>
  F134_rlrr inv k y0 y2 x8 h
  (fun y0_1 y2_2 y8 h_3 =>
  bnd (pBin prog .geq 60 (.tmp 13) (.const (.int .u64 256)) y0_1 (.int .u64 256)) fun x14 =>
  F134_rlrrr inv k y0_1 y2_2 x14 h_3
  (fun y0_4 y2_5 y14 h_6 =>
  G134_10 inv y0_4 y2_5 h_6 fun y2_7 h_8 =>
  some (y2_7,h_8))))
theorem F134_eq : eFun env k inv 134 #[x0] h = F134 inv k x0 h:=ks_fun (n:=25) [e134_0,e134_1,e134_2]
theorem F134_call : eInv env (k + 1) (.func 134) #[] #[x0] h = F134 (eInv env k) k x0 h:=kq_inv F134_eq
def F135_lrlrr {β : Type} (inv : Inv) (k : Nat) : Nat→Value→Value→Value→Value→AH→(Value→Value→Value→Value→Value→AH→Option β)→(Value→AH→Option β)→Option β
 | 0,_,_,_,_,_,_,_=>none
 | j + 1,x3,x6,x7,x8,h,ke0,kr =>
  bnd (pBin prog .lss 3 (.tmp 8) (.tmp 7) x8 x7) fun x9 =>
  brV x9
  (bnd (pIndexAddr prog 72 x6 x8) fun x10 =>
  bnd (pLoad prog 3 x10 h) fun x11 =>
  bnd (pBin prog .neq 3 (.tmp 12) (.tmp 13) x11 x3) fun x14 =>
  brV x14
  (kr x11 h)
  (bnd (pBin prog .add 3 (.tmp 8) (.const (.int .i64 1)) x8 (.int .i64 1)) fun x16 =>
  F135_lrlrr inv k j x3 x6 x7 x16 h ke0 kr))
  (ke0 x3 x6 x7 x8 x9 h)
def e135_0 : Ent env 135 false 18:=.lp [] 58 [3,6,7,8] [(.exit 0,[3,6,7,8,9]),(.ret,[2])] F135_lrlrr
/-- cmp.Or[int] -/
def F135 (inv : Inv) (k : Nat) (x0 : Value) (h : AH) : Option (Value × AH) :=
  bnd (pLen prog #[72] x0 h) fun x7 =>
  F135_lrlrr inv k k (.int .i64 0) x0 x7 (.int .i64 0) h
  (fun y3 y6 y7 y8 y9 h =>
  some (y3,h))
  (fun y2 h_1 =>
  some (y2,h_1))
theorem F135_eq : eFun env k inv 135 #[x0] h = F135 inv k x0 h:=ks_fun (n:=18) [e135_0]
theorem F135_call : eInv env (k + 1) (.func 135) #[] #[x0] h = F135 (eInv env k) k x0 h:=kq_inv F135_eq
/-- cmp.Compare[int64] -/
def F136 (inv : Inv) (k : Nat) (x0 x1 : Value) (h : AH) : Option (Value × AH) :=
  bnd (inv (.func 159) #[] #[x0] h) fun x8 =>
  bnd (inv (.func 159) #[] #[x1] x8.2) fun x10 =>
  brV x8.1
  (brV x10.1
  (some ((.int .i64 0),x10.2))
  (some ((.int .i64 (-1)),x10.2)))
  (brV x10.1
  (some ((.int .i64 1),x10.2))
  (bnd (pBin prog .lss 2 (.tmp 14) (.tmp 15) x0 x1) fun x16 =>
  brV x16
  (some ((.int .i64 (-1)),x10.2))
  (bnd (pBin prog .gtr 2 (.tmp 17) (.tmp 18) x0 x1) fun x19 =>
  brV x19
  (some ((.int .i64 1),x10.2))
  (some ((.int .i64 0),x10.2)))))
theorem F136_eq : eFun env k inv 136 #[x0,x1] h = F136 inv k x0 x1 h:=ks_fun (n:=20) []
theorem F136_call : eInv env (k + 1) (.func 136) #[] #[x0,x1] h = F136 (eInv env k) k x0 x1 h:=kq_inv F136_eq
/-- strings.Compare -/
def F137 (inv : Inv) (k : Nat) (x0 x1 : Value) (h : AH) : Option (Value × AH) :=
  bnd (inv (.func 160) #[] #[x0,x1] h) fun x7 =>
  some (x7.1,x7.2)
theorem F137_eq : eFun env k inv 137 #[x0,x1] h = F137 inv k x0 x1 h:=ks_fun (n:=8) []
theorem F137_call : eInv env (k + 1) (.func 137) #[] #[x0,x1] h = F137 (eInv env k) k x0 x1 h:=kq_inv F137_eq
/-- math/bits.Mul -/
def F138 (inv : Inv) (k : Nat) (x0 x1 : Value) (h : AH) : Option (Value × AH) :=
  brV (.bool false)
  (bnd (pConv prog 109 188 x0 h) fun x12 =>
  bnd (pConv prog 109 188 x1 h) fun x14 =>
  bnd (inv (.func 161) #[] #[x12,x14] h) fun x15 =>
  bnd (pExtract x15.1 0) fun x16 =>
  bnd (pExtract x15.1 1) fun x17 =>
  bnd (pConv prog 188 109 x16 x15.2) fun x19 =>
  bnd (pConv prog 188 109 x17 x15.2) fun x21 =>
  some (.tuple #[x19,x21],x15.2))
  (bnd (inv (.func 162) #[] #[x0,x1] h) fun x25 =>
  bnd (pExtract x25.1 0) fun x26 =>
  bnd (pExtract x25.1 1) fun x27 =>
  some (.tuple #[x26,x27],x25.2))
theorem F138_eq : eFun env k inv 138 #[x0,x1] h = F138 inv k x0 x1 h:=ks_fun (n:=30) []
theorem F138_call : eInv env (k + 1) (.func 138) #[] #[x0,x1] h = F138 (eInv env k) k x0 x1 h:=kq_inv F138_eq
/-- slices.Backward[[]byte,byte] -/
def F143 (inv : Inv) (k : Nat) (x0 : Value) (h : AH) : Option (Value × AH) :=
  bnd (pBox prog 33 x0 h) fun x1 =>
  bnd (pMakeFunc (.func 163) #[] #[x1.1]) fun x3 =>
  some (x3,x1.2)
theorem F143_eq : eFun env k inv 143 #[x0] h = F143 inv k x0 h:=ks_fun (n:=4) []
theorem F143_call : eInv env (k + 1) (.func 143) #[] #[x0] h = F143 (eInv env k) k x0 h:=kq_inv F143_eq
def F144_lrlrrr {β : Type} (inv : Inv) (k : Nat) : Nat→Value→Value→Value→Value→AH→(Value→Value→Value→Value→Value→AH→Option β)→Option β
 | 0,_,_,_,_,_,_=>none
 | j + 1,x4,x13,x14,x15,h,ke0 =>
  bnd (pBin prog .lss 3 (.tmp 15) (.tmp 14) x15 x14) fun x16 =>
  brV x16
  (bnd (pIndexAddr prog 121 x13 x15) fun x17 =>
  bnd (pLoad prog 2 x17 h) fun x18 =>
  bnd (pConv prog 2 60 x18 h) fun x21 =>
  bnd (inv (.func 75) #[] #[x4,x21,(.int .i64 8)] h) fun x22 =>
  bnd (pBin prog .add 3 (.tmp 15) (.const (.int .i64 1)) x15 (.int .i64 1)) fun x23 =>
  F144_lrlrrr inv k j x22.1 x13 x14 x23 x22.2 ke0)
  (ke0 x4 x13 x14 x15 x16 h)
def e144_0 : Ent env 144 false 25:=.lp [] 122 [4,13,14,15] [(.exit 0,[4,13,14,15,16])] F144_lrlrrr
/-- shadowbook/ints.Plain -/
def F144 (inv : Inv) (k : Nat) (x0 : Value) (h : AH) : Option (Value × AH) :=
  bnd (pLen prog #[121] x0 h) fun x8 =>
  bnd (pBin prog .gtr 3 (.tmp 8) (.const (.int .i64 4096)) x8 (.int .i64 4096)) fun x9 =>
  brV x9
  (some (.tuple #[(.slice none 0 0),(.int .i64 3)],h))
  (bnd (pLen prog #[121] x0 h) fun x11 =>
  bnd (inv (.func 164) #[] #[(.int .u8 1),x11] h) fun x12 =>
  bnd (pLen prog #[121] x0 x12.2) fun x14 =>
  F144_lrlrrr inv k k x12.1 x0 x14 (.int .i64 0) x12.2
  (fun y4 y13 y14 y15 y16 h =>
  some (.tuple #[y4,(.int .i64 0)],h)))
theorem F144_eq : eFun env k inv 144 #[x0] h = F144 inv k x0 h:=ks_fun (n:=25) [e144_0]
theorem F144_call : eInv env (k + 1) (.func 144) #[] #[x0] h = F144 (eInv env k) k x0 h:=kq_inv F144_eq
def F145_lrlr {β : Type} (inv : Inv) (k : Nat) : Nat→Value→Value→Value→Value→AH→(Value→Value→Value→Value→Value→AH→Option β)→(Value→Value→AH→Option β)→Option β
 | 0,_,_,_,_,_,_,_=>none
 | j + 1,x0,x4,x8,x9,h,ke0,kr =>
  bnd (pBin prog .lss 3 (.tmp 9) (.tmp 8) x9 x8) fun x10 =>
  brV x10
  (bnd (inv (.func 77) #[] #[x0,(.int .i64 8)] h) fun x13 =>
  bnd (pExtract x13.1 0) fun x14 =>
  bnd (pExtract x13.1 1) fun x15 =>
  bnd (pBin prog .neq 25 (.tmp 16) (.const (.int .i64 0)) x15 (.int .i64 0)) fun x17 =>
  brV x17
  (kr (.slice none 0 0) x15 x13.2)
  (bnd (pConv prog 60 2 x14 x13.2) fun x21 =>
  bnd (pBuildSlice prog 121 1 #[(0,x21)] x13.2) fun x22 =>
  bnd (pAppend prog #[121,121] x4 x22.1 x22.2) fun x23 =>
  bnd (pBin prog .add 3 (.tmp 9) (.const (.int .i64 1)) x9 (.int .i64 1)) fun x24 =>
  F145_lrlr inv k j x0 x23.1 x8 x24 x23.2 ke0 kr))
  (ke0 x0 x4 x8 x9 x10 h)
def e145_0 : Ent env 145 false 26:=.lp [] 26 [0,4,8,9] [(.exit 0,[0,4,8,9,10]),(.ret,[4,5])] F145_lrlr
/-- shadowbook/ints.plain -/
def F145 (inv : Inv) (k : Nat) (x0 x1 : Value) (h : AH) : Option (Value × AH) :=
  F145_lrlr inv k k x0 (.slice none 0 0) x1 (.int .i64 0) h
  (fun y0 y4 y8 y9 y10 h =>
  some (.tuple #[y4,(.int .i64 0)],h))
  (fun y4_1 y5 h_2 =>
  some (.tuple #[y4_1,y5],h_2))
theorem F145_eq : eFun env k inv 145 #[x0,x1] h = F145 inv k x0 x1 h:=ks_fun (n:=26) [e145_0]
theorem F145_call : eInv env (k + 1) (.func 145) #[] #[x0,x1] h = F145 (eInv env k) k x0 x1 h:=kq_inv F145_eq
abbrev G146_8 {β : Type} (inv : Inv) (x0 x4 x5 x6 x14 x15 : Value) (h : AH) (K : Value→AH→Option β) : Option β :=
  bnd (pBin prog .add 3 (.tmp 18) (.const (.int .i64 1)) x6 (.int .i64 1)) fun x19 =>
  bnd (pLen prog #[121] x0 h) fun x21 =>
  bnd (pBin prog .lss 3 (.tmp 19) (.tmp 21) x19 x21) fun x22 =>
  bnd (gd3 (some x22) true h (some (x0,h))) fun x24 =>
  bnd (gd3 (some x22) true x24.2.1 (some (x6,x24.2.1))) fun x25 =>
  bnd (gd3 (some x22) true x25.2.1 (lt (pBin prog .add 3 (.tmp 25) (.const (.int .i64 1)) x25.1 (.int .i64 1)) x25.2.1)) fun x26 =>
  bnd (gd3 (some x22) true x26.2.1 (lt (pIndexAddr prog 121 x24.1 x26.1) x26.2.1)) fun x27 =>
  bnd (gd3 (some x22) true x27.2.1 (lt (pLoad prog 2 x27.1 x27.2.1) x27.2.1)) fun x28 =>
  bnd (gd3 (some x22) true x28.2.1 (some (x0,x28.2.1))) fun x29 =>
  bnd (gd3 (some x22) true x29.2.1 (some (x5,x29.2.1))) fun x30 =>
  bnd (gd3 (some x22) true x30.2.1 (lt (pIndexAddr prog 121 x29.1 x30.1) x30.2.1)) fun x31 =>
  bnd (gd3 (some x22) true x31.2.1 (lt (pLoad prog 2 x31.1 x31.2.1) x31.2.1)) fun x32 =>
  bnd (gd3 (some x22) true x32.2.1 (lt (pBin prog .eql 2 (.tmp 28) (.tmp 32) x28.1 x32.1) x32.2.1)) fun x33 =>
  bnd (pickV x22 x33.1 (.bool false)) fun x34 =>
  K (x34) x33.2.1
abbrev G146_9 {β : Type} (inv : Inv) (x0 x4 x5 x6 x14 x15 : Value) (h : AH) (K : Value→AH→Option β) : Option β :=
  bnd (pBin prog .add 3 (.tmp 36) (.const (.int .i64 1)) x6 (.int .i64 1)) fun x37 =>
  bnd (pBin prog .sub 3 (.tmp 37) (.tmp 38) x37 x5) fun x39 =>
  bnd (pConv prog 3 60 x39 h) fun x40 =>
  bnd (inv (.func 47) #[] #[x4,x40] h) fun x41 =>
  bnd (pIndexAddr prog 121 x0 x6) fun x44 =>
  bnd (pLoad prog 2 x44 x41.2) fun x45 =>
  bnd (pConv prog 2 60 x45 x41.2) fun x46 =>
  bnd (inv (.func 75) #[] #[x41.1,x46,(.int .i64 8)] x41.2) fun x47 =>
  chkK ((!true || !true || (sameO (pLoad prog 2 x44 h) x45 && sameO (pLoad prog 2 x44 x41.2) x45)) && ((!true || !true || (sameO (pConv prog 2 60 x45 h) x46 && sameO (pConv prog 2 60 x45 x41.2) x46)) && true)) <|
  K (x47.1) x47.2
def F146_lrrllrlrrrrlr {β : Type} (inv : Inv) (k : Nat) (x0 x4 x5 x14 x15 x16 : Value) (h : AH) (kn : (Value→Value→Value→Value→Value→Value→Value→AH→Option β)) : Option β :=
  G146_8 inv x0 x4 x5 x15 x14 x15 h fun y34 h =>
  brV y34
  (kn x0 x4 x5 x15 x14 x15 y34 h)
  (G146_9 inv x0 x4 x5 x15 x14 x15 h fun y4 h_1 =>
  bnd (pBin prog .add 3 (.tmp 48) (.const (.int .i64 1)) x15 (.int .i64 1)) fun x49 =>
  kn x0 y4 x49 unk x14 x15 unk h_1)
def e146_0 : Ent env 146 false 52:=.jn [] 14246 [0,4,5,14,15,16] [(.normal,[0,4,5,6,14,15,34])] F146_lrrllrlrrrrlr
def F146_lrlrrrrlr {β : Type} (inv : Inv) (k : Nat) : Nat→Value→Value→Value→Value→Value→AH→(Value→Value→Value→Value→Value→Value→AH→Option β)→Option β
 | 0,_,_,_,_,_,_,_=>none
 | j + 1,x0,x4,x5,x14,x15,h,ke0 =>
  bnd (pBin prog .lss 3 (.tmp 15) (.tmp 14) x15 x14) fun x16 =>
  brV x16
  (F146_lrrllrlrrrrlr inv k x0 x4 x5 x14 x15 x16 h
  (fun y0 y4 y5 y6 y14 y15 y34 h =>
  bnd (pBin prog .add 3 (.tmp 15) (.const (.int .i64 1)) y15 (.int .i64 1)) fun x50 =>
  F146_lrlrrrrlr inv k j y0 y4 y5 y14 x50 h ke0))
  (ke0 x0 x4 x5 x14 x15 x16 h)
def e146_1 : Ent env 146 false 52:=.lp [e146_0] 890 [0,4,5,14,15] [(.exit 0,[0,4,5,14,15,16])] F146_lrlrrrrlr
/-- shadowbook/ints.Runs -/
def F146 (inv : Inv) (k : Nat) (x0 : Value) (h : AH) : Option (Value × AH) :=
  bnd (pLen prog #[121] x0 h) fun x8 =>
  bnd (pBin prog .gtr 3 (.tmp 8) (.const (.int .i64 4096)) x8 (.int .i64 4096)) fun x9 =>
  brV x9
  (some (.tuple #[(.slice none 0 0),(.int .i64 3)],h))
  (bnd (pLen prog #[121] x0 h) fun x11 =>
  bnd (inv (.func 164) #[] #[(.int .u8 2),x11] h) fun x12 =>
  bnd (pLen prog #[121] x0 x12.2) fun x14 =>
  F146_lrlrrrrlr inv k k x0 x12.1 (.int .i64 0) x14 (.int .i64 0) x12.2
  (fun y0 y4 y5 y14 y15 y16 h =>
  some (.tuple #[y4,(.int .i64 0)],h)))
theorem F146_eq : eFun env k inv 146 #[x0] h = F146 inv k x0 h:=ks_fun (n:=52) [e146_0,e146_1]
theorem F146_call : eInv env (k + 1) (.func 146) #[] #[x0] h = F146 (eInv env k) k x0 h:=kq_inv F146_eq
abbrev G147_6 {β : Type} (inv : Inv) (x0 x1 x4 x6 x7 x8 : Value) (h : AH) (K : Value→AH→Option β) : Option β :=
  bnd (pBin prog .neq 25 (.tmp 26) (.const (.int .i64 0)) x7 (.int .i64 0)) fun x27 =>
  bnd (gd (some x27) false h (some (x6,h))) fun x29 =>
  bnd (gd (some x27) false x29.2 (lt (pBin prog .lss 60 (.tmp 29) (.const (.int .u64 1)) x29.1 (.int .u64 1)) x29.2)) fun x30 =>
  bnd (pickV x27 (.bool true) x30.1) fun x31 =>
  bnd (gd (some x31) false x30.2 (some (x6,x30.2))) fun x33 =>
  bnd (gd (some x31) false x33.2 (some (x1,x33.2))) fun x34 =>
  bnd (gd (some x31) false x34.2 (some (x4,x34.2))) fun x35 =>
  bnd (gd (some x31) false x35.2 (lt (pLen prog #[121] x35.1 x35.2) x35.2)) fun x36 =>
  bnd (gd (some x31) false x36.2 (lt (pBin prog .sub 3 (.tmp 34) (.tmp 36) x34.1 x36.1) x36.2)) fun x37 =>
  bnd (gd (some x31) false x37.2 (lt (pConv prog 3 60 x37.1 x37.2) x37.2)) fun x38 =>
  bnd (gd (some x31) false x38.2 (lt (pBin prog .gtr 60 (.tmp 33) (.tmp 38) x33.1 x38.1) x38.2)) fun x39 =>
  bnd (pickV x31 (.bool true) x39.1) fun x40 =>
  K (x40) x39.2
def F147_llr {β : Type} (inv : Inv) (k : Nat) : Nat→Value→Value→Value→AH→(Value→Value→Value→Value→AH→Option β)→(Value→Value→AH→Option β)→Option β
 | 0,_,_,_,_,_,_=>none
 | j + 1,x0,x1,x4,h,ke0,kr =>
  bnd (pLen prog #[121] x4 h) fun x10 =>
  bnd (pBin prog .lss 3 (.tmp 10) (.tmp 11) x10 x1) fun x12 =>
  brV x12
  (bnd (inv (.func 92) #[] #[x0] h) fun x15 =>
  bnd (pExtract x15.1 0) fun x16 =>
  bnd (pExtract x15.1 1) fun x17 =>
  bnd (pBin prog .neq 25 (.tmp 18) (.const (.int .i64 0)) x17 (.int .i64 0)) fun x19 =>
  brV x19
  (kr (.slice none 0 0) x17 x15.2)
  (bnd (inv (.func 77) #[] #[x0,(.int .i64 8)] x15.2) fun x23 =>
  bnd (pExtract x23.1 0) fun x24 =>
  bnd (pExtract x23.1 1) fun x25 =>
  G147_6 inv x0 x1 x4 x16 x25 x24 x23.2 fun y40 h =>
  brV y40
  (kr (.slice none 0 0) (.int .i64 4) h)
  (bnd (pConv prog 60 2 x24 h) fun x43 =>
  bnd (pBuildSlice prog 121 1 #[(0,x43)] h) fun x44 =>
  bnd (pConv prog 60 3 x16 x44.2) fun x46 =>
  bnd (inv (.func 165) #[] #[x44.1,x46] x44.2) fun x47 =>
  bnd (pAppend prog #[121,121] x4 x47.1 x47.2) fun x48 =>
  F147_llr inv k j x0 x1 x48.1 x48.2 ke0 kr)))
  (ke0 x0 x1 x4 x12 h)
def e147_0 : Ent env 147 false 50:=.lp [] 12 [0,1,4] [(.exit 0,[0,1,4,12]),(.ret,[4,5])] F147_llr
/-- shadowbook/ints.runs -/
def F147 (inv : Inv) (k : Nat) (x0 x1 : Value) (h : AH) : Option (Value × AH) :=
  F147_llr inv k k x0 x1 (.slice none 0 0) h
  (fun y0 y1 y4 y12 h =>
  some (.tuple #[y4,(.int .i64 0)],h))
  (fun y4_1 y5 h_2 =>
  some (.tuple #[y4_1,y5],h_2))
theorem F147_eq : eFun env k inv 147 #[x0,x1] h = F147 inv k x0 x1 h:=ks_fun (n:=50) [e147_0]
theorem F147_call : eInv env (k + 1) (.func 147) #[] #[x0,x1] h = F147 (eInv env k) k x0 x1 h:=kq_inv F147_eq
def F148_rlrrr {β : Type} (inv : Inv) (k : Nat) (x0 x4 x17 : Value) (h : AH) (kn : (Value→Value→Value→AH→Option β)) : Option β :=
  brV x17
  (bnd (inv (.func 166) #[] #[x0] h) fun x19 =>
  kn x0 x19.1 unk x19.2)
  (kn x0 x4 x17 h)
def e148_0 : Ent env 148 false 59:=.jn [] 61 [0,4,17] [(.normal,[0,4,17])] F148_rlrrr
def F148_lrlrrrrr {β : Type} (inv : Inv) (k : Nat) : Nat→Value→Value→Value→Value→Value→Value→AH→(Value→Value→Value→Value→Value→Value→Value→AH→Option β)→Option β
 | 0,_,_,_,_,_,_,_,_=>none
 | j + 1,x0,x4,x5,x20,x21,x22,h,ke0 =>
  bnd (pBin prog .lss 3 (.tmp 22) (.tmp 21) x22 x21) fun x23 =>
  brV x23
  (bnd (pIndexAddr prog 121 x20 x22) fun x24 =>
  bnd (pLoad prog 2 x24 h) fun x25 =>
  bnd (pConv prog 2 60 x25 h) fun x28 =>
  bnd (pConv prog 2 60 x4 h) fun x30 =>
  bnd (pBin prog .sub 60 (.tmp 28) (.tmp 30) x28 x30) fun x31 =>
  bnd (pBuildSlice prog 63 1 #[(0,x31)] h) fun x32 =>
  bnd (pAppend prog #[63,63] x5 x32.1 x32.2) fun x33 =>
  bnd (pBin prog .add 3 (.tmp 22) (.const (.int .i64 1)) x22 (.int .i64 1)) fun x34 =>
  F148_lrlrrrrr inv k j x0 x4 x33.1 x20 x21 x34 x33.2 ke0)
  (ke0 x0 x4 x5 x20 x21 x22 x23 h)
def e148_1 : Ent env 148 false 59:=.lp [e148_0] 506 [0,4,5,20,21,22] [(.exit 0,[0,4,5,20,21,22,23])] F148_lrlrrrrr
/-- shadowbook/ints.Packed -/
def F148 (inv : Inv) (k : Nat) (x0 : Value) (h : AH) : Option (Value × AH) :=
  bnd (pLen prog #[121] x0 h) fun x13 =>
  bnd (pBin prog .gtr 3 (.tmp 13) (.const (.int .i64 4096)) x13 (.int .i64 4096)) fun x14 =>
  brV x14
  (some (.tuple #[(.slice none 0 0),(.int .i64 3)],h))
  (bnd (pLen prog #[121] x0 h) fun x16 =>
  bnd (pBin prog .gtr 3 (.tmp 16) (.const (.int .i64 0)) x16 (.int .i64 0)) fun x17 =>
  F148_rlrrr inv k x0 (.int .i64 0) x17 h
  (fun y0 y4 y17 h =>
  bnd (pLen prog #[121] y0 h) fun x21 =>
  F148_lrlrrrrr inv k k y0 y4 (.slice none 0 0) y0 x21 (.int .i64 0) h
  (fun y0_1 y4_2 y5 y20 y21 y22 y23 h_3 =>
  bnd (inv (.func 98) #[] #[y5] h_3) fun x36 =>
  bnd (inv (.func 49) #[] #[y5,x36.1] x36.2) fun x40 =>
  bnd (pExtract x40.1 0) fun x41 =>
  bnd (pExtract x40.1 1) fun x42 =>
  bnd (pBin prog .neq 25 (.tmp 43) (.const (.int .i64 0)) x42 (.int .i64 0)) fun x44 =>
  brV x44
  (some (.tuple #[(.slice none 0 0),x42],x40.2))
  (bnd (pLen prog #[121] y0_1 x40.2) fun x47 =>
  bnd (inv (.func 164) #[] #[(.int .u8 3),x47] x40.2) fun x48 =>
  bnd (pConv prog 2 60 y4_2 x48.2) fun x50 =>
  bnd (inv (.func 75) #[] #[x48.1,x50,(.int .i64 8)] x48.2) fun x51 =>
  bnd (pConv prog 3 5 x36.1 x51.2) fun x54 =>
  bnd (pBuildSlice prog 33 1 #[(0,x54)] x51.2) fun x55 =>
  bnd (pAppend prog #[33,33] x51.1 x55.1 x55.2) fun x56 =>
  bnd (pAppend prog #[33,33] x56.1 x41 x56.2) fun x58 =>
  some (.tuple #[x58.1,(.int .i64 0)],x58.2)))))
theorem F148_eq : eFun env k inv 148 #[x0] h = F148 inv k x0 h:=ks_fun (n:=59) [e148_0,e148_1]
theorem F148_call : eInv env (k + 1) (.func 148) #[] #[x0] h = F148 (eInv env k) k x0 h:=kq_inv F148_eq
def F149_lrlrrrrrrrr {β : Type} (inv : Inv) (k : Nat) : Nat→Value→Value→Value→Value→Value→Value→AH→(Value→Value→Value→Value→Value→Value→Value→AH→Option β)→Option β
 | 0,_,_,_,_,_,_,_,_=>none
 | j + 1,x4,x5,x6,x46,x47,x48,h,ke0 =>
  bnd (pBin prog .lss 3 (.tmp 48) (.tmp 47) x48 x47) fun x49 =>
  brV x49
  (bnd (pIndexAddr prog 63 x46 x48) fun x50 =>
  bnd (pLoad prog 60 x50 h) fun x51 =>
  bnd (pBin prog .add 60 (.tmp 53) (.tmp 54) x6 x51) fun x55 =>
  bnd (pConv prog 60 2 x55 h) fun x56 =>
  bnd (pBuildSlice prog 121 1 #[(0,x56)] h) fun x57 =>
  bnd (pAppend prog #[121,121] x4 x57.1 x57.2) fun x58 =>
  bnd (pBin prog .add 3 (.tmp 48) (.const (.int .i64 1)) x48 (.int .i64 1)) fun x59 =>
  F149_lrlrrrrrrrr inv k j x58.1 x5 x6 x46 x47 x59 x58.2 ke0)
  (ke0 x4 x5 x6 x46 x47 x48 x49 h)
def e149_0 : Ent env 149 false 62:=.lp [] 4090 [4,5,6,46,47,48] [(.exit 0,[4,5,6,46,47,48,49])] F149_lrlrrrrrrrr
/-- shadowbook/ints.packed -/
def F149 (inv : Inv) (k : Nat) (x0 x1 : Value) (h : AH) : Option (Value × AH) :=
  bnd (inv (.func 77) #[] #[x0,(.int .i64 8)] h) fun x14 =>
  bnd (pExtract x14.1 0) fun x15 =>
  bnd (pExtract x14.1 1) fun x16 =>
  bnd (pBin prog .neq 25 (.tmp 17) (.const (.int .i64 0)) x16 (.int .i64 0)) fun x18 =>
  brV x18
  (some (.tuple #[(.slice none 0 0),x16],x14.2))
  (bnd (inv (.func 77) #[] #[x0,(.int .i64 1)] x14.2) fun x22 =>
  bnd (pExtract x22.1 0) fun x23 =>
  bnd (pExtract x22.1 1) fun x24 =>
  bnd (pBin prog .neq 25 (.tmp 25) (.const (.int .i64 0)) x24 (.int .i64 0)) fun x26 =>
  brV x26
  (some (.tuple #[(.slice none 0 0),x24],x22.2))
  (bnd (inv (.func 61) #[] #[x0] x22.2) fun x31 =>
  bnd (inv (.func 60) #[] #[x0,x31.1] x31.2) fun x32 =>
  bnd (pExtract x32.1 0) fun x33 =>
  bnd (pExtract x32.1 1) fun x34 =>
  bnd (pBin prog .neq 25 (.tmp 35) (.const (.int .i64 0)) x34 (.int .i64 0)) fun x36 =>
  brV x36
  (some (.tuple #[(.slice none 0 0),x34],x32.2))
  (bnd (pConv prog 60 3 x23 x32.2) fun x42 =>
  bnd (inv (.func 87) #[] #[x33,x1,x42] x32.2) fun x43 =>
  bnd (pExtract x43.1 0) fun x44 =>
  bnd (pExtract x43.1 1) fun x45 =>
  bnd (pLen prog #[63] x44 x43.2) fun x47 =>
  F149_lrlrrrrrrrr inv k k (.slice none 0 0) x45 x15 x44 x47 (.int .i64 0) x43.2
  (fun y4 y5 y6 y46 y47 y48 y49 h =>
  some (.tuple #[y4,y5],h)))))
theorem F149_eq : eFun env k inv 149 #[x0,x1] h = F149 inv k x0 x1 h:=ks_fun (n:=62) [e149_0]
theorem F149_call : eInv env (k + 1) (.func 149) #[] #[x0,x1] h = F149 (eInv env k) k x0 x1 h:=kq_inv F149_eq
/-- cmp.isNaN[int] -/
def F150 (inv : Inv) (k : Nat) (x0 : Value) (h : AH) : Option (Value × AH) :=
  bnd (pBin prog .neq 3 (.tmp 3) (.tmp 4) x0 x0) fun x5 =>
  some (x5,h)
theorem F150_eq : eFun env k inv 150 #[x0] h = F150 inv k x0 h:=ks_fun (n:=6) []
theorem F150_call : eInv env (k + 1) (.func 150) #[] #[x0] h = F150 (eInv env k) k x0 h:=kq_inv F150_eq
abbrev G151_5 {β : Type} (inv : Inv) (x0 x1 x6 x7 x8 x9 x10 : Value) (h : AH) (K : Value→AH→Option β) : Option β :=
  bnd (pBin prog .quo 3 (.tmp 18) (.const (.int .i64 8)) x8 (.int .i64 8)) fun x19 =>
  bnd (pIndexAddr prog 33 x0 x19) fun x20 =>
  bnd (pLoad prog 5 x20 h) fun x21 =>
  bnd (pBin prog .rem 3 (.tmp 22) (.const (.int .i64 8)) x8 (.int .i64 8)) fun x23 =>
  bnd (pBin prog .shr 5 (.tmp 21) (.tmp 23) x21 x23) fun x24 =>
  bnd (pBin prog .and 5 (.tmp 24) (.const (.int .u8 1)) x24 (.int .u8 1)) fun x25 =>
  bnd (pConv prog 5 60 x25 h) fun x26 =>
  bnd (pBin prog .shl 60 (.tmp 26) (.tmp 27) x26 x7) fun x28 =>
  bnd (pBin prog .or 60 (.tmp 16) (.tmp 28) x6 x28) fun x29 =>
  K (x29) h
def F151_lrlr {β : Type} (inv : Inv) (k : Nat) : Nat→Value→Value→Value→Value→Value→AH→(Value→Value→Value→Value→Value→Value→AH→Option β)→Option β
 | 0,_,_,_,_,_,_,_=>none
 | j + 1,x0,x1,x6,x9,x10,h,ke0 =>
  bnd (pBin prog .lss 3 (.tmp 10) (.tmp 9) x10 x9) fun x11 =>
  brV x11
  (bnd (pBin prog .add 3 (.tmp 13) (.tmp 14) x1 x10) fun x15 =>
  G151_5 inv x0 x1 x6 x10 x15 x9 x10 h fun y6 h =>
  bnd (pBin prog .add 3 (.tmp 10) (.const (.int .i64 1)) x10 (.int .i64 1)) fun x30 =>
  F151_lrlr inv k j x0 x1 y6 x9 x30 h ke0)
  (ke0 x0 x1 x6 x9 x10 x11 h)
def e151_0 : Ent env 151 false 32:=.lp [] 26 [0,1,6,9,10] [(.exit 0,[0,1,6,9,10,11])] F151_lrlr
/-- shadowbook/packs.at -/
def F151 (inv : Inv) (k : Nat) (x0 x1 x2 : Value) (h : AH) : Option (Value × AH) :=
  F151_lrlr inv k k x0 x1 (.int .u64 0) x2 (.int .i64 0) h
  (fun y0 y1 y6 y9 y10 y11 h =>
  some (y6,h))
theorem F151_eq : eFun env k inv 151 #[x0,x1,x2] h = F151 inv k x0 x1 x2 h:=ks_fun (n:=32) [e151_0]
theorem F151_call : eInv env (k + 1) (.func 151) #[] #[x0,x1,x2] h = F151 (eInv env k) k x0 x1 x2 h:=kq_inv F151_eq
def F152_lrr {β : Type} (inv : Inv) (k : Nat) : Nat→Value→Value→Value→Value→Value→AH→(Value→Value→Value→Value→Value→Value→AH→Option β)→(Value→Value→Value→Value→Value→Value→AH→Option β)→Option β
 | 0,_,_,_,_,_,_,_,_=>none
 | j + 1,x0,x1,x3,x11,x12,h,ke0,kr =>
  bnd (pBin prog .lss 3 (.tmp 12) (.tmp 11) x12 x11) fun x13 =>
  brV x13
  (bnd (pLoad prog 33 x1 h) fun x17 =>
  bnd (pLoad prog 3 x3 h) fun x19 =>
  bnd (pBin prog .mul 3 (.tmp 18) (.tmp 19) x12 x19) fun x20 =>
  bnd (pLoad prog 3 x3 h) fun x21 =>
  bnd (inv (.func 151) #[] #[x17,x20,x21] h) fun x22 =>
  bnd (callV inv x0 #[x12,x22.1] x22.2) fun x23 =>
  bnd (pUn prog .not x23.1) fun x24 =>
  brV x24
  (kr x0 x1 x3 x11 x12 x24 x23.2)
  (bnd (pBin prog .add 3 (.tmp 12) (.const (.int .i64 1)) x12 (.int .i64 1)) fun x25 =>
  F152_lrr inv k j x0 x1 x3 x11 x25 x23.2 ke0 kr))
  (ke0 x0 x1 x3 x11 x12 x13 h)
def e152_0 : Ent env 152 false 26:=.lp [] 14 [0,1,3,11,12] [(.exit 0,[0,1,3,11,12,13]),(.ret,[0,1,3,11,12,24])] F152_lrr
/-- shadowbook/packs.Each$1 -/
def F152 (inv : Inv) (k : Nat) (x0 x1 x2 x3 : Value) (h : AH) : Option (Value × AH) :=
  bnd (pLoad prog 33 x1 h) fun x6 =>
  bnd (pLoad prog 3 x2 h) fun x7 =>
  bnd (pLoad prog 3 x3 h) fun x8 =>
  bnd (inv (.func 127) #[] #[x6,x7,x8] h) fun x9 =>
  bnd (pBin prog .neq 25 (.tmp 9) (.const (.int .i64 0)) x9.1 (.int .i64 0)) fun x10 =>
  brV x10
  (some (.tuple #[],x9.2))
  (bnd (pLoad prog 3 x2 x9.2) fun x11 =>
  F152_lrr inv k k x0 x1 x3 x11 (.int .i64 0) x9.2
  (fun y0 y1 y3 y11 y12 y13 h =>
  some (.tuple #[],h))
  (fun y0_1 y1_2 y3_3 y11_4 y12_5 y24 h_6 =>
  some (.tuple #[],h_6)))
theorem F152_eq : eFun env k inv 152 #[x0,x1,x2,x3] h = F152 inv k x0 x1 x2 x3 h:=ks_fun (n:=26) [e152_0]
theorem F152_call : eInv env (k + 1) (.func 152) #[] #[x0,x1,x2,x3] h = F152 (eInv env k) k x0 x1 x2 x3 h:=kq_inv F152_eq
/-- slices.ContainsFunc[[]byte,byte] -/
def F153 (inv : Inv) (k : Nat) (x0 x1 : Value) (h : AH) : Option (Value × AH) :=
  bnd (inv (.func 167) #[] #[x0,x1] h) fun x7 =>
  bnd (pBin prog .geq 3 (.tmp 7) (.const (.int .i64 0)) x7.1 (.int .i64 0)) fun x8 =>
  some (x8,x7.2)
theorem F153_eq : eFun env k inv 153 #[x0,x1] h = F153 inv k x0 x1 h:=ks_fun (n:=9) []
theorem F153_call : eInv env (k + 1) (.func 153) #[] #[x0,x1] h = F153 (eInv env k) k x0 x1 h:=kq_inv F153_eq
/-- (*shadowbook/octet.Reader).ends$1 -/
def F154 (inv : Inv) (k : Nat) (x0 : Value) (h : AH) : Option (Value × AH) :=
  bnd (pBin prog .lss 5 (.tmp 3) (.const (.int .u8 128)) x0 (.int .u8 128)) fun x4 =>
  some (x4,h)
theorem F154_eq : eFun env k inv 154 #[x0] h = F154 inv k x0 h:=ks_fun (n:=5) []
theorem F154_call : eInv env (k + 1) (.func 154) #[] #[x0] h = F154 (eInv env k) k x0 h:=kq_inv F154_eq
/-- shadowbook/texts.check -/
def F155 (inv : Inv) (k : Nat) (x0 : Value) (h : AH) : Option (Value × AH) :=
  bnd (pLen prog #[122] x0 h) fun x4 =>
  bnd (pBin prog .gtr 3 (.tmp 4) (.const (.int .i64 4096)) x4 (.int .i64 4096)) fun x5 =>
  bnd (gd (some x5) false h (some (x0,h))) fun x7 =>
  bnd (gd (some x5) false x7.2 (inv (.func 168) #[] #[x7.1,(.func (.func 169) #[] #[])] x7.2)) fun x8 =>
  bnd (pickV x5 (.bool true) x8.1) fun x9 =>
  brV x9
  (some ((.int .i64 3),x8.2))
  (some ((.int .i64 0),x8.2))
theorem F155_eq : eFun env k inv 155 #[x0] h = F155 inv k x0 h:=ks_fun (n:=10) []
theorem F155_call : eInv env (k + 1) (.func 155) #[] #[x0] h = F155 (eInv env k) k x0 h:=kq_inv F155_eq
/-- shadowbook/texts.text -/
def F156 (inv : Inv) (k : Nat) (x0 x1 : Value) (h : AH) : Option (Value × AH) :=
  bnd (pLen prog #[9] x1 h) fun x7 =>
  bnd (pConv prog 3 60 x7 h) fun x8 =>
  bnd (inv (.func 47) #[] #[x0,x8] h) fun x9 =>
  bnd (pAppend prog #[33,9] x9.1 x1 x9.2) fun x11 =>
  some (x11.1,x11.2)
theorem F156_eq : eFun env k inv 156 #[x0,x1] h = F156 inv k x0 x1 h:=ks_fun (n:=12) []
theorem F156_call : eInv env (k + 1) (.func 156) #[] #[x0,x1] h = F156 (eInv env k) k x0 x1 h:=kq_inv F156_eq
def F157_lrlrr {β : Type} (inv : Inv) (k : Nat) : Nat→Value→Value→Value→Value→AH→(Value→Value→Value→Value→Value→AH→Option β)→Option β
 | 0,_,_,_,_,_,_=>none
 | j + 1,x3,x7,x8,x9,h,ke0 =>
  bnd (pBin prog .lss 3 (.tmp 9) (.tmp 8) x9 x8) fun x10 =>
  brV x10
  (bnd (pIndexAddr prog 122 x7 x9) fun x11 =>
  bnd (pLoad prog 9 x11 h) fun x12 =>
  bnd (pBuild prog 200 #[]) fun x15 =>
  bnd (kSt (pUpdate prog 199 x3 x12 x15 h)) fun u =>
  bnd (pBin prog .add 3 (.tmp 9) (.const (.int .i64 1)) x9 (.int .i64 1)) fun x16 =>
  F157_lrlrr inv k j x3 x7 x8 x16 u.2 ke0)
  (ke0 x3 x7 x8 x9 x10 h)
def e157_0 : Ent env 157 false 20:=.lp [] 58 [3,7,8,9] [(.exit 0,[3,7,8,9,10])] F157_lrlrr
/-- shadowbook/texts.Words -/
def F157 (inv : Inv) (k : Nat) (x0 : Value) (h : AH) : Option (Value × AH) :=
  bnd (pMakeMap prog 199 none h) fun x6 =>
  bnd (pLen prog #[122] x0 x6.2) fun x8 =>
  F157_lrlrr inv k k x6.1 x0 x8 (.int .i64 0) x6.2
  (fun y3 y7 y8 y9 y10 h =>
  bnd (inv (.func 171) #[] #[y3] h) fun x18 =>
  bnd (inv (.func 170) #[] #[x18.1] x18.2) fun x19 =>
  some (x19.1,x19.2))
theorem F157_eq : eFun env k inv 157 #[x0] h = F157 inv k x0 h:=ks_fun (n:=20) [e157_0]
theorem F157_call : eInv env (k + 1) (.func 157) #[] #[x0] h = F157 (eInv env k) k x0 h:=kq_inv F157_eq
def F158_llrrr {β : Type} (inv : Inv) (k : Nat) : Nat→Value→Value→Value→Value→Value→AH→(Value→Value→Value→Value→Value→Value→AH→Option β)→Option β
 | 0,_,_,_,_,_,_,_=>none
 | j + 1,x0,x1,x6,x7,x8,h,ke0 =>
  bnd (pBin prog .lss 3 (.tmp 13) (.tmp 14) x7 x8) fun x15 =>
  brV x15
  (bnd (pBin prog .add 3 (.tmp 16) (.tmp 17) x7 x8) fun x18 =>
  bnd (pConv prog 3 109 x18 h) fun x19 =>
  bnd (pBin prog .shr 109 (.tmp 19) (.const (.int .u64 1)) x19 (.int .u64 1)) fun x20 =>
  bnd (pConv prog 109 3 x20 h) fun x21 =>
  bnd (pIndexAddr prog 122 x0 x21) fun x24 =>
  bnd (pLoad prog 9 x24 h) fun x25 =>
  bnd (inv (.func 172) #[] #[x25,x1] h) fun x27 =>
  brV x27.1
  (bnd (pBin prog .add 3 (.tmp 28) (.const (.int .i64 1)) x21 (.int .i64 1)) fun x29 =>
  F158_llrrr inv k j x0 x1 x6 x29 x8 x27.2 ke0)
  (F158_llrrr inv k j x0 x1 x6 x7 x21 x27.2 ke0))
  (ke0 x0 x1 x6 x7 x8 x15 h)
def e158_0 : Ent env 158 false 54:=.lp [] 60 [0,1,6,7,8] [(.exit 0,[0,1,6,7,8,15])] F158_llrrr
abbrev G158_8 {β : Type} (inv : Inv) (x0 x1 x6 x7 : Value) (h : AH) (K : Value→Value→AH→Option β) : Option β :=
  bnd (pBin prog .lss 3 (.tmp 32) (.tmp 33) x7 x6) fun x34 =>
  bnd (gd (some x34) true h (some (x0,h))) fun x36 =>
  bnd (gd (some x34) true x36.2 (some (x7,x36.2))) fun x37 =>
  bnd (gd (some x34) true x37.2 (lt (pIndexAddr prog 122 x36.1 x37.1) x37.2)) fun x38 =>
  bnd (gd (some x34) true x38.2 (lt (pLoad prog 9 x38.1 x38.2) x38.2)) fun x39 =>
  bnd (gd (some x34) true x39.2 (some (x1,x39.2))) fun x40 =>
  bnd (gd (some x34) true x40.2 (lt (pBin prog .eql 9 (.tmp 39) (.tmp 40) x39.1 x40.1) x40.2)) fun x41 =>
  bnd (gd (some x34) true x41.2 (some (x41.1,x41.2))) fun x42 =>
  bnd (gd (some x42.1) false x42.2 (some (x0,x42.2))) fun x43 =>
  bnd (gd (some x42.1) false x43.2 (some (x7,x43.2))) fun x44 =>
  bnd (gd (some x42.1) false x44.2 (lt (pIndexAddr prog 122 x43.1 x44.1) x44.2)) fun x45 =>
  bnd (gd (some x42.1) false x45.2 (lt (pLoad prog 9 x45.1 x45.2) x45.2)) fun x46 =>
  bnd (gd (some x42.1) false x46.2 (inv (.func 173) #[] #[x46.1] x46.2)) fun x47 =>
  bnd (gd (some x42.1) false x47.2 (some (x47.1,x47.2))) fun x48 =>
  bnd (gd (some x48.1) true x48.2 (some (x1,x48.2))) fun x49 =>
  bnd (gd (some x48.1) true x49.2 (inv (.func 173) #[] #[x49.1] x49.2)) fun x50 =>
  bnd (gd (some x42.1) false x50.2 (lt (pickV x48.1 x50.1 (.bool false)) x50.2)) fun x51 =>
  bnd (gd (some x34) true x51.2 (lt (pickV x42.1 (.bool true) x51.1) x51.2)) fun x52 =>
  bnd (pickV x34 x52.1 (.bool false)) fun x53 =>
  K (x7) (x53) x52.2
/-- slices.BinarySearch[[]string,string] -/
def F158 (inv : Inv) (k : Nat) (x0 x1 : Value) (h : AH) : Option (Value × AH) :=
  bnd (pLen prog #[122] x0 h) fun x11 =>
  F158_llrrr inv k k x0 x1 x11 (.int .i64 0) x11 h
  (fun y0 y1 y6 y7 y8 y15 h =>
  G158_8 inv y0 y1 y6 y7 h fun y4 y5 h_1 =>
  some (.tuple #[y4,y5],h_1))
theorem F158_eq : eFun env k inv 158 #[x0,x1] h = F158 inv k x0 x1 h:=ks_fun (n:=54) [e158_0]
theorem F158_call : eInv env (k + 1) (.func 158) #[] #[x0,x1] h = F158 (eInv env k) k x0 x1 h:=kq_inv F158_eq
/-- cmp.isNaN[int64] -/
def F159 (inv : Inv) (k : Nat) (x0 : Value) (h : AH) : Option (Value × AH) :=
  bnd (pBin prog .neq 2 (.tmp 3) (.tmp 4) x0 x0) fun x5 =>
  some (x5,h)
theorem F159_eq : eFun env k inv 159 #[x0] h = F159 inv k x0 h:=ks_fun (n:=6) []
theorem F159_call : eInv env (k + 1) (.func 159) #[] #[x0] h = F159 (eInv env k) k x0 h:=kq_inv F159_eq
/-- internal/bytealg.CompareString -/
def F160 (inv : Inv) (k : Nat) (x0 x1 : Value) (h : AH) : Option (Value × AH) :=
  bnd (inv (.func 174) #[] #[x0,x1] h) fun x7 =>
  some (x7.1,x7.2)
theorem F160_eq : eFun env k inv 160 #[x0,x1] h = F160 inv k x0 x1 h:=ks_fun (n:=8) []
theorem F160_call : eInv env (k + 1) (.func 160) #[] #[x0,x1] h = F160 (eInv env k) k x0 x1 h:=kq_inv F160_eq
abbrev G162_10 {β : Type} (inv : Inv) (x0 x1 x7 x9 x12 x13 : Value) (h : AH) (K : Value→AH→Option β) : Option β :=
  bnd (pBin prog .mul 60 (.tmp 40) (.tmp 41) x7 x9) fun x42 =>
  bnd (pBin prog .add 60 (.tmp 42) (.tmp 43) x42 x13) fun x44 =>
  bnd (pBin prog .shr 60 (.tmp 45) (.const (.int .u64 32)) x12 (.int .u64 32)) fun x46 =>
  bnd (pBin prog .add 60 (.tmp 44) (.tmp 46) x44 x46) fun x47 =>
  K (x47) h
/-- math/bits.Mul64 -/
def F162 (inv : Inv) (k : Nat) (x0 x1 : Value) (h : AH) : Option (Value × AH) :=
  bnd (pBin prog .and 60 (.tmp 14) (.const (.int .u64 4294967295)) x0 (.int .u64 4294967295)) fun x15 =>
  bnd (pBin prog .shr 60 (.tmp 16) (.const (.int .u64 32)) x0 (.int .u64 32)) fun x17 =>
  bnd (pBin prog .and 60 (.tmp 18) (.const (.int .u64 4294967295)) x1 (.int .u64 4294967295)) fun x19 =>
  bnd (pBin prog .shr 60 (.tmp 20) (.const (.int .u64 32)) x1 (.int .u64 32)) fun x21 =>
  bnd (pBin prog .mul 60 (.tmp 22) (.tmp 23) x15 x19) fun x24 =>
  bnd (pBin prog .mul 60 (.tmp 25) (.tmp 26) x17 x19) fun x27 =>
  bnd (pBin prog .shr 60 (.tmp 28) (.const (.int .u64 32)) x24 (.int .u64 32)) fun x29 =>
  bnd (pBin prog .add 60 (.tmp 27) (.tmp 29) x27 x29) fun x30 =>
  bnd (pBin prog .and 60 (.tmp 31) (.const (.int .u64 4294967295)) x30 (.int .u64 4294967295)) fun x32 =>
  bnd (pBin prog .shr 60 (.tmp 33) (.const (.int .u64 32)) x30 (.int .u64 32)) fun x34 =>
  bnd (pBin prog .mul 60 (.tmp 36) (.tmp 37) x15 x21) fun x38 =>
  bnd (pBin prog .add 60 (.tmp 35) (.tmp 38) x32 x38) fun x39 =>
  G162_10 inv x0 x1 x17 x21 x39 x34 h fun y4 h =>
  bnd (pBin prog .mul 60 (.tmp 48) (.tmp 49) x0 x1) fun x50 =>
  some (.tuple #[y4,x50],h)
theorem F162_eq : eFun env k inv 162 #[x0,x1] h = F162 inv k x0 x1 h:=ks_fun (n:=51) []
theorem F162_call : eInv env (k + 1) (.func 162) #[] #[x0,x1] h = F162 (eInv env k) k x0 x1 h:=kq_inv F162_eq
def F163_lr {β : Type} (inv : Inv) (k : Nat) : Nat→Value→Value→Value→AH→(Value→Value→Value→Value→AH→Option β)→(Value→Value→Value→Value→AH→Option β)→Option β
 | 0,_,_,_,_,_,_=>none
 | j + 1,x0,x1,x3,h,ke0,kr =>
  bnd (pBin prog .geq 3 (.tmp 7) (.const (.int .i64 0)) x3 (.int .i64 0)) fun x8 =>
  brV x8
  (bnd (pLoad prog 33 x1 h) fun x13 =>
  bnd (pIndexAddr prog 33 x13 x3) fun x15 =>
  bnd (pLoad prog 5 x15 h) fun x16 =>
  bnd (callV inv x0 #[x3,x16] h) fun x17 =>
  bnd (pUn prog .not x17.1) fun x18 =>
  brV x18
  (kr x0 x1 x3 x18 x17.2)
  (bnd (pBin prog .sub 3 (.tmp 9) (.const (.int .i64 1)) x3 (.int .i64 1)) fun x10 =>
  F163_lr inv k j x0 x1 x10 x17.2 ke0 kr))
  (ke0 x0 x1 x3 x8 h)
def e163_0 : Ent env 163 false 19:=.lp [] 6 [0,1,3] [(.exit 0,[0,1,3,8]),(.ret,[0,1,3,18])] F163_lr
/-- slices.Backward[[]byte,byte]$1 -/
def F163 (inv : Inv) (k : Nat) (x0 x1 : Value) (h : AH) : Option (Value × AH) :=
  bnd (pLoad prog 33 x1 h) fun x4 =>
  bnd (pLen prog #[33] x4 h) fun x5 =>
  bnd (pBin prog .sub 3 (.tmp 5) (.const (.int .i64 1)) x5 (.int .i64 1)) fun x6 =>
  F163_lr inv k k x0 x1 x6 h
  (fun y0 y1 y3 y8 h =>
  some (.tuple #[],h))
  (fun y0_1 y1_2 y3_3 y18 h_4 =>
  some (.tuple #[],h_4))
theorem F163_eq : eFun env k inv 163 #[x0,x1] h = F163 inv k x0 x1 h:=ks_fun (n:=19) [e163_0]
theorem F163_call : eInv env (k + 1) (.func 163) #[] #[x0,x1] h = F163 (eInv env k) k x0 x1 h:=kq_inv F163_eq
/-- shadowbook/ints.head -/
def F164 (inv : Inv) (k : Nat) (x0 x1 : Value) (h : AH) : Option (Value × AH) :=
  bnd (pBuildSlice prog 33 1 #[(0,x0)] h) fun x6 =>
  bnd (pConv prog 3 60 x1 x6.2) fun x8 =>
  bnd (inv (.func 47) #[] #[x6.1,x8] x6.2) fun x9 =>
  some (x9.1,x9.2)
theorem F164_eq : eFun env k inv 164 #[x0,x1] h = F164 inv k x0 x1 h:=ks_fun (n:=10) []
theorem F164_call : eInv env (k + 1) (.func 164) #[] #[x0,x1] h = F164 (eInv env k) k x0 x1 h:=kq_inv F164_eq
def F165_rlr {β : Type} (inv : Inv) (k : Nat) (x0 x1 x10 : Value) (h : AH) (kn : (Value→Value→Value→AH→Option β)) : Option β :=
  brV x10
  (bnd (pMakeIface prog 9 (.string { data:=#[99,97,110,110,111,116,32,98,101,32,110,101,103,97,116,105,118,101] })) fun x11 =>
  bnd ((none : Option (Value × AH))) fun u =>
  kn x0 x1 unk u.2)
  (kn x0 x1 x10 h)
def e165_0 : Ent env 165 false 48:=.jn [] 13 [0,1,10] [(.normal,[0,1,10])] F165_rlr
abbrev G165_4 {β : Type} (inv : Inv) (x0 x5 x6 : Value) (h : AH) (K : Value→AH→Option β) : Option β :=
  bnd (pBin prog .gtr 109 (.tmp 21) (.const (.int .u64 0)) x5 (.int .u64 0)) fun x22 =>
  bnd (gd (some x22) false h (some (x6,h))) fun x24 =>
  bnd (gd (some x22) false x24.2 (lt (pBin prog .gtr 109 (.tmp 24) (.const (.int .u64 9223372036854775807)) x24.1 (.int .u64 9223372036854775807)) x24.2)) fun x25 =>
  bnd (pickV x22 (.bool true) x25.1) fun x26 =>
  K (x26) x25.2
def F165_rlrrr {β : Type} (inv : Inv) (k : Nat) (x0 x6 x26 : Value) (h : AH) (kn : (Value→Value→Value→AH→Option β)) : Option β :=
  brV x26
  (bnd (pMakeIface prog 9 (.string { data:=#[116,104,101,32,114,101,115,117,108,116,32,111,102,32,40,108,101,110,40,120,41,32,42,32,99,111,117,110,116,41,32,111,118,101,114,102,108,111,119,115] })) fun x27 =>
  bnd ((none : Option (Value × AH))) fun u =>
  kn x0 x6 unk u.2)
  (kn x0 x6 x26 h)
def e165_1 : Ent env 165 false 48:=.jn [e165_0] 61 [0,6,26] [(.normal,[0,6,26])] F165_rlrrr
def F165_llrrrrrr {β : Type} (inv : Inv) (k : Nat) : Nat→Value→Value→AH→(Value→Value→Value→AH→Option β)→Option β
 | 0,_,_,_,_=>none
 | j + 1,x7,x8,h,ke0 =>
  bnd (pLen prog #[121] x7 h) fun x36 =>
  bnd (pBin prog .lss 3 (.tmp 34) (.tmp 36) x8 x36) fun x37 =>
  brV x37
  (bnd (pSlice prog 121 x7 (some x8) none none h) fun x41 =>
  bnd (pSlice prog 121 x7 none (some x8) none h) fun x44 =>
  bnd (pCopy prog #[121,121] x41 x44 h) fun x45 =>
  bnd (pBin prog .add 3 (.tmp 38) (.tmp 45) x8 x45.1) fun x46 =>
  F165_llrrrrrr inv k j x7 x46 x45.2 ke0)
  (ke0 x7 x8 x37 h)
def e165_2 : Ent env 165 false 48:=.lp [e165_0,e165_1] 508 [7,8] [(.exit 0,[7,8,37])] F165_llrrrrrr
/-- slices.Repeat[[]int64,int64] -/
def F165 (inv : Inv) (k : Nat) (x0 x1 : Value) (h : AH) : Option (Value × AH) :=
  bnd (pBin prog .lss 3 (.tmp 9) (.const (.int .i64 0)) x1 (.int .i64 0)) fun x10 =>
  F165_rlr inv k x0 x1 x10 h
  (fun y0 y1 y10 h =>
  bnd (pLen prog #[121] y0 h) fun x14 =>
  bnd (pConv prog 3 109 x14 h) fun x15 =>
  bnd (pConv prog 3 109 y1 h) fun x17 =>
  bnd (inv (.func 138) #[] #[x15,x17] h) fun x18 =>
  bnd (pExtract x18.1 0) fun x19 =>
  bnd (pExtract x18.1 1) fun x20 =>
  G165_4 inv y0 x19 x20 x18.2 fun y26 h_1 =>
  F165_rlrrr inv k y0 x20 y26 h_1
  (fun y0_2 y6 y26_3 h_4 =>
  bnd (pConv prog 109 3 y6 h_4) fun x29 =>
  bnd (pMakeSlice prog 121 x29 x29 h_4) fun x30 =>
  bnd (pCopy prog #[121,121] x30.1 y0_2 x30.2) fun x33 =>
  F165_llrrrrrr inv k k x30.1 x33.1 x33.2
  (fun y7 y8 y37 h_5 =>
  some (y7,h_5))))
theorem F165_eq : eFun env k inv 165 #[x0,x1] h = F165 inv k x0 x1 h:=ks_fun (n:=48) [e165_0,e165_1,e165_2]
theorem F165_call : eInv env (k + 1) (.func 165) #[] #[x0,x1] h = F165 (eInv env k) k x0 x1 h:=kq_inv F165_eq
def F166_rlr {β : Type} (inv : Inv) (k : Nat) (x0 x7 : Value) (h : AH) (kn : (Value→Value→AH→Option β)) : Option β :=
  brV x7
  (bnd (pMakeIface prog 9 (.string { data:=#[115,108,105,99,101,115,46,77,105,110,58,32,101,109,112,116,121,32,108,105,115,116] })) fun x8 =>
  bnd ((none : Option (Value × AH))) fun u =>
  kn x0 unk u.2)
  (kn x0 x7 h)
def e166_0 : Ent env 166 false 25:=.jn [] 13 [0,7] [(.normal,[0,7])] F166_rlr
def F166_lrlrrr {β : Type} (inv : Inv) (k : Nat) : Nat→Value→Value→Value→AH→(Value→Value→Value→Value→AH→Option β)→Option β
 | 0,_,_,_,_,_=>none
 | j + 1,x0,x3,x4,h,ke0 =>
  bnd (pLen prog #[121] x0 h) fun x14 =>
  bnd (pBin prog .lss 3 (.tmp 12) (.tmp 14) x4 x14) fun x15 =>
  brV x15
  (bnd (pIndexAddr prog 121 x0 x4) fun x21 =>
  bnd (pLoad prog 2 x21 h) fun x22 =>
  bnd (pMinMax prog false #[x3,x22]) fun x23 =>
  bnd (pBin prog .add 3 (.tmp 16) (.const (.int .i64 1)) x4 (.int .i64 1)) fun x17 =>
  F166_lrlrrr inv k j x0 x23 x17 h ke0)
  (ke0 x0 x3 x4 x15 h)
def e166_1 : Ent env 166 false 25:=.lp [e166_0] 122 [0,3,4] [(.exit 0,[0,3,4,15])] F166_lrlrrr
/-- slices.Min[[]int64,int64] -/
def F166 (inv : Inv) (k : Nat) (x0 : Value) (h : AH) : Option (Value × AH) :=
  bnd (pLen prog #[121] x0 h) fun x6 =>
  bnd (pBin prog .lss 3 (.tmp 6) (.const (.int .i64 1)) x6 (.int .i64 1)) fun x7 =>
  F166_rlr inv k x0 x7 h
  (fun y0 y7 h =>
  bnd (pIndexAddr prog 121 y0 (.int .i64 0)) fun x10 =>
  bnd (pLoad prog 2 x10 h) fun x11 =>
  F166_lrlrrr inv k k y0 x11 (.int .i64 1) h
  (fun y0_1 y3 y4 y15 h_2 =>
  some (y3,h_2)))
theorem F166_eq : eFun env k inv 166 #[x0] h = F166 inv k x0 h:=ks_fun (n:=25) [e166_0,e166_1]
theorem F166_call : eInv env (k + 1) (.func 166) #[] #[x0] h = F166 (eInv env k) k x0 h:=kq_inv F166_eq
def F167_lrlr {β : Type} (inv : Inv) (k : Nat) : Nat→Value→Value→Value→Value→AH→(Value→Value→Value→Value→Value→AH→Option β)→(Value→AH→Option β)→Option β
 | 0,_,_,_,_,_,_,_=>none
 | j + 1,x0,x1,x7,x8,h,ke0,kr =>
  bnd (pBin prog .lss 3 (.tmp 8) (.tmp 7) x8 x7) fun x9 =>
  brV x9
  (bnd (pIndexAddr prog 33 x0 x8) fun x14 =>
  bnd (pLoad prog 5 x14 h) fun x15 =>
  bnd (callV inv x1 #[x15] h) fun x16 =>
  brV x16.1
  (kr x8 x16.2)
  (bnd (pBin prog .add 3 (.tmp 8) (.const (.int .i64 1)) x8 (.int .i64 1)) fun x18 =>
  F167_lrlr inv k j x0 x1 x7 x18 x16.2 ke0 kr))
  (ke0 x0 x1 x7 x8 x9 h)
def e167_0 : Ent env 167 false 19:=.lp [] 26 [0,1,7,8] [(.exit 0,[0,1,7,8,9]),(.ret,[4])] F167_lrlr
/-- slices.IndexFunc[[]byte,byte] -/
def F167 (inv : Inv) (k : Nat) (x0 x1 : Value) (h : AH) : Option (Value × AH) :=
  bnd (pLen prog #[33] x0 h) fun x7 =>
  F167_lrlr inv k k x0 x1 x7 (.int .i64 0) h
  (fun y0 y1 y7 y8 y9 h =>
  some ((.int .i64 (-1)),h))
  (fun y4 h_1 =>
  some (y4,h_1))
theorem F167_eq : eFun env k inv 167 #[x0,x1] h = F167 inv k x0 x1 h:=ks_fun (n:=19) [e167_0]
theorem F167_call : eInv env (k + 1) (.func 167) #[] #[x0,x1] h = F167 (eInv env k) k x0 x1 h:=kq_inv F167_eq
/-- slices.ContainsFunc[[]string,string] -/
def F168 (inv : Inv) (k : Nat) (x0 x1 : Value) (h : AH) : Option (Value × AH) :=
  bnd (inv (.func 175) #[] #[x0,x1] h) fun x7 =>
  bnd (pBin prog .geq 3 (.tmp 7) (.const (.int .i64 0)) x7.1 (.int .i64 0)) fun x8 =>
  some (x8,x7.2)
theorem F168_eq : eFun env k inv 168 #[x0,x1] h = F168 inv k x0 x1 h:=ks_fun (n:=9) []
theorem F168_call : eInv env (k + 1) (.func 168) #[] #[x0,x1] h = F168 (eInv env k) k x0 x1 h:=kq_inv F168_eq
/-- shadowbook/texts.check$1 -/
def F169 (inv : Inv) (k : Nat) (x0 : Value) (h : AH) : Option (Value × AH) :=
  bnd (pLen prog #[9] x0 h) fun x4 =>
  bnd (pBin prog .gtr 3 (.tmp 4) (.const (.int .i64 65536)) x4 (.int .i64 65536)) fun x5 =>
  some (x5,h)
theorem F169_eq : eFun env k inv 169 #[x0] h = F169 inv k x0 h:=ks_fun (n:=6) []
theorem F169_call : eInv env (k + 1) (.func 169) #[] #[x0] h = F169 (eInv env k) k x0 h:=kq_inv F169_eq
/-- maps.Keys[map[string]struct{},string,struct{}] -/
def F171 (inv : Inv) (k : Nat) (x0 : Value) (h : AH) : Option (Value × AH) :=
  bnd (pBox prog 199 x0 h) fun x1 =>
  bnd (pMakeFunc (.func 178) #[] #[x1.1]) fun x3 =>
  some (x3,x1.2)
theorem F171_eq : eFun env k inv 171 #[x0] h = F171 inv k x0 h:=ks_fun (n:=4) []
theorem F171_call : eInv env (k + 1) (.func 171) #[] #[x0] h = F171 (eInv env k) k x0 h:=kq_inv F171_eq
abbrev G172_1 {β : Type} (inv : Inv) (x0 x1 : Value) (h : AH) (K : Value→AH→Option β) : Option β :=
  bnd (inv (.func 179) #[] #[x0] h) fun x6 =>
  bnd (gd (some x6.1) true x6.2 (some (x1,x6.2))) fun x8 =>
  bnd (gd (some x6.1) true x8.2 (inv (.func 179) #[] #[x8.1] x8.2)) fun x9 =>
  bnd (gd (some x6.1) true x9.2 (lt (pUn prog .not x9.1) x9.2)) fun x10 =>
  bnd (pickV x6.1 x10.1 (.bool false)) fun x11 =>
  bnd (gd (some x11) false x10.2 (some (x0,x10.2))) fun x13 =>
  bnd (gd (some x11) false x13.2 (some (x1,x13.2))) fun x14 =>
  bnd (gd (some x11) false x14.2 (lt (pBin prog .lss 9 (.tmp 13) (.tmp 14) x13.1 x14.1) x14.2)) fun x15 =>
  bnd (pickV x11 (.bool true) x15.1) fun x16 =>
  K (x16) x15.2
/-- cmp.Less[string] -/
def F172 (inv : Inv) (k : Nat) (x0 x1 : Value) (h : AH) : Option (Value × AH) :=
  G172_1 inv x0 x1 h fun y4 h =>
  some (y4,h)
theorem F172_eq : eFun env k inv 172 #[x0,x1] h = F172 inv k x0 x1 h:=ks_fun (n:=17) []
theorem F172_call : eInv env (k + 1) (.func 172) #[] #[x0,x1] h = F172 (eInv env k) k x0 x1 h:=kq_inv F172_eq
def F175_lrlr {β : Type} (inv : Inv) (k : Nat) : Nat→Value→Value→Value→Value→AH→(Value→Value→Value→Value→Value→AH→Option β)→(Value→AH→Option β)→Option β
 | 0,_,_,_,_,_,_,_=>none
 | j + 1,x0,x1,x7,x8,h,ke0,kr =>
  bnd (pBin prog .lss 3 (.tmp 8) (.tmp 7) x8 x7) fun x9 =>
  brV x9
  (bnd (pIndexAddr prog 122 x0 x8) fun x14 =>
  bnd (pLoad prog 9 x14 h) fun x15 =>
  bnd (callV inv x1 #[x15] h) fun x16 =>
  brV x16.1
  (kr x8 x16.2)
  (bnd (pBin prog .add 3 (.tmp 8) (.const (.int .i64 1)) x8 (.int .i64 1)) fun x18 =>
  F175_lrlr inv k j x0 x1 x7 x18 x16.2 ke0 kr))
  (ke0 x0 x1 x7 x8 x9 h)
def e175_0 : Ent env 175 false 19:=.lp [] 26 [0,1,7,8] [(.exit 0,[0,1,7,8,9]),(.ret,[4])] F175_lrlr
/-- slices.IndexFunc[[]string,string] -/
def F175 (inv : Inv) (k : Nat) (x0 x1 : Value) (h : AH) : Option (Value × AH) :=
  bnd (pLen prog #[122] x0 h) fun x7 =>
  F175_lrlr inv k k x0 x1 x7 (.int .i64 0) h
  (fun y0 y1 y7 y8 y9 h =>
  some ((.int .i64 (-1)),h))
  (fun y4 h_1 =>
  some (y4,h_1))
theorem F175_eq : eFun env k inv 175 #[x0,x1] h = F175 inv k x0 x1 h:=ks_fun (n:=19) [e175_0]
theorem F175_call : eInv env (k + 1) (.func 175) #[] #[x0,x1] h = F175 (eInv env k) k x0 x1 h:=kq_inv F175_eq
/-- cmp.isNaN[string] -/
def F179 (inv : Inv) (k : Nat) (x0 : Value) (h : AH) : Option (Value × AH) :=
  bnd (pBin prog .neq 9 (.tmp 3) (.tmp 4) x0 x0) fun x5 =>
  some (x5,h)
theorem F179_eq : eFun env k inv 179 #[x0] h = F179 inv k x0 h:=ks_fun (n:=6) []
theorem F179_call : eInv env (k + 1) (.func 179) #[] #[x0] h = F179 (eInv env k) k x0 h:=kq_inv F179_eq
abbrev G213_2 {β : Type} (inv : Inv) (x2 x3 x6 x7 x8 : Value) (h : AH) (K : Value→AH→Option β) : Option β :=
  bnd (pBin prog .neq 25 (.tmp 19) (.const (.int .i64 0)) x7 (.int .i64 0)) fun x20 =>
  bnd (gd (some x20) false h (some (x8,h))) fun x22 =>
  bnd (gd (some x20) false x22.2 (lt (pLen prog #[121] x22.1 x22.2) x22.2)) fun x23 =>
  bnd (gd (some x20) false x23.2 (some (x2,x23.2))) fun x24 =>
  bnd (gd (some x20) false x24.2 (lt (pBin prog .neq 3 (.tmp 23) (.tmp 24) x23.1 x24.1) x24.2)) fun x25 =>
  bnd (pickV x20 (.bool true) x25.1) fun x26 =>
  K (x26) x25.2
def F213_lrlrrr {β : Type} (inv : Inv) (k : Nat) : Nat→Value→Value→Value→Value→Value→AH→(Value→Value→Value→Value→Value→Value→AH→Option β)→Option β
 | 0,_,_,_,_,_,_,_=>none
 | j + 1,x3,x6,x27,x28,x29,h,ke0 =>
  bnd (pBin prog .lss 3 (.tmp 29) (.tmp 28) x29 x28) fun x30 =>
  brV x30
  (bnd (pIndexAddr prog 121 x27 x29) fun x31 =>
  bnd (pLoad prog 2 x31 h) fun x32 =>
  bnd (pFieldAddr prog 86 x3 1) fun x34 =>
  bnd (pLoad prog 47 x34 h) fun x35 =>
  bnd (callV inv x35 #[x32] h) fun x37 =>
  bnd (pBuildSlice prog 22 1 #[(0,x37.1)] x37.2) fun x38 =>
  bnd (pAppend prog #[22,22] x6 x38.1 x38.2) fun x39 =>
  bnd (pBin prog .add 3 (.tmp 29) (.const (.int .i64 1)) x29 (.int .i64 1)) fun x40 =>
  F213_lrlrrr inv k j x3 x39.1 x27 x28 x40 x39.2 ke0)
  (ke0 x3 x6 x27 x28 x29 x30 h)
def e213_0 : Ent env 213 false 42:=.lp [] 122 [3,6,27,28,29] [(.exit 0,[3,6,27,28,29,30])] F213_lrlrrr
/-- (shadowbook/segment.codec[int64]).back -/
def F213 (inv : Inv) (k : Nat) (x0 x1 x2 : Value) (h : AH) : Option (Value × AH) :=
  bnd (pBox prog 86 x0 h) fun x3 =>
  bnd (pFieldAddr prog 86 x3.1 5) fun x12 =>
  bnd (pLoad prog 84 x12 x3.2) fun x13 =>
  bnd (callV inv x13 #[x1,x2] x3.2) fun x16 =>
  bnd (pExtract x16.1 0) fun x17 =>
  bnd (pExtract x16.1 1) fun x18 =>
  G213_2 inv x2 x3.1 (.slice none 0 0) x18 x17 x16.2 fun y26 h =>
  brV y26
  (some (.tuple #[(.slice none 0 0),(.int .i64 4)],h))
  (bnd (pLen prog #[121] x17 h) fun x28 =>
  F213_lrlrrr inv k k x3.1 (.slice none 0 0) x17 x28 (.int .i64 0) h
  (fun y3 y6 y27 y28 y29 y30 h_1 =>
  some (.tuple #[y6,(.int .i64 0)],h_1)))
theorem F213_eq : eFun env k inv 213 #[x0,x1,x2] h = F213 inv k x0 x1 x2 h:=ks_fun (n:=42) [e213_0]
theorem F213_call : eInv env (k + 1) (.func 213) #[] #[x0,x1,x2] h = F213 (eInv env k) k x0 x1 x2 h:=kq_inv F213_eq
def F214_lrlrr {β : Type} (inv : Inv) (k : Nat) : Nat→Value→Value→Value→Value→Value→AH→(Value→Value→Value→Value→Value→Value→AH→Option β)→Option β
 | 0,_,_,_,_,_,_,_=>none
 | j + 1,x2,x6,x9,x10,x11,h,ke0 =>
  bnd (pBin prog .lss 3 (.tmp 11) (.tmp 10) x11 x10) fun x12 =>
  brV x12
  (bnd (pIndexAddr prog 22 x9 x11) fun x13 =>
  bnd (pLoad prog 31 x13 h) fun x14 =>
  bnd (pAlloc prog 31 h) fun x8 =>
  bnd (kSt (pStore prog 31 x8.1 x14 x8.2)) fun u =>
  bnd (pFieldAddr prog 86 x2 0) fun x16 =>
  bnd (pLoad prog 80 x16 u.2) fun x17 =>
  bnd (pLoad prog 31 x8.1 u.2) fun x18 =>
  bnd (callV inv x17 #[x18] u.2) fun x19 =>
  bnd (pBuildSlice prog 121 1 #[(0,x19.1)] x19.2) fun x20 =>
  bnd (pAppend prog #[121,121] x6 x20.1 x20.2) fun x21 =>
  bnd (pBin prog .add 3 (.tmp 11) (.const (.int .i64 1)) x11 (.int .i64 1)) fun x22 =>
  F214_lrlrr inv k j x2 x21.1 x9 x10 x22 x21.2 ke0)
  (ke0 x2 x6 x9 x10 x11 x12 h)
def e214_0 : Ent env 214 false 29:=.lp [] 58 [2,6,9,10,11] [(.exit 0,[2,6,9,10,11,12])] F214_lrlrr
/-- (shadowbook/segment.codec[int64]).cells -/
def F214 (inv : Inv) (k : Nat) (x0 x1 : Value) (h : AH) : Option (Value × AH) :=
  bnd (pBox prog 86 x0 h) fun x2 =>
  bnd (pLen prog #[22] x1 x2.2) fun x10 =>
  F214_lrlrr inv k k x2.1 (.slice none 0 0) x1 x10 (.int .i64 0) x2.2
  (fun y2 y6 y9 y10 y11 y12 h =>
  bnd (pFieldAddr prog 86 y2 4) fun x23 =>
  bnd (pLoad prog 83 x23 h) fun x24 =>
  bnd (callV inv x24 #[y6] h) fun x26 =>
  bnd (pExtract x26.1 0) fun x27 =>
  bnd (pExtract x26.1 1) fun x28 =>
  some (.tuple #[x27,x28],x26.2))
theorem F214_eq : eFun env k inv 214 #[x0,x1] h = F214 inv k x0 x1 h:=ks_fun (n:=29) [e214_0]
theorem F214_call : eInv env (k + 1) (.func 214) #[] #[x0,x1] h = F214 (eInv env k) k x0 x1 h:=kq_inv F214_eq
abbrev G215_5 {β : Type} (inv : Inv) (x2 x4 x5 x6 x7 x8 : Value) (h : AH) (K : AH→Option β) : Option β :=
  bnd (pFieldAddr prog 86 x2 1) fun x28 =>
  bnd (pLoad prog 47 x28 h) fun x29 =>
  bnd (callV inv x29 #[x7] h) fun x31 =>
  bnd (pFieldAddr prog 86 x2 1) fun x32 =>
  bnd (pLoad prog 47 x32 x31.2) fun x33 =>
  bnd (callV inv x33 #[x8] x31.2) fun x35 =>
  bnd (kSt (pStore prog 31 x4 x31.1 x35.2)) fun u =>
  bnd (kSt (pStore prog 31 x5 x35.1 u.2)) fun u_3 =>
  chkK ((!true || !true || (sameO (pLoad prog 47 x32 h) x33 && sameO (pLoad prog 47 x32 x31.2) x33)) && true) <|
  K u_3.2
/-- (shadowbook/segment.codec[int64]).ends -/
def F215 (inv : Inv) (k : Nat) (x0 x1 : Value) (h : AH) : Option (Value × AH) :=
  bnd (pBox prog 86 x0 h) fun x2 =>
  bnd (pAlloc prog 31 x2.2) fun x4 =>
  bnd (pAlloc prog 31 x4.2) fun x5 =>
  bnd (pFieldAddr prog 86 x2.1 3) fun x10 =>
  bnd (pLoad prog 82 x10 x5.2) fun x11 =>
  bnd (callV inv x11 #[x1] x5.2) fun x13 =>
  bnd (pExtract x13.1 0) fun x14 =>
  bnd (pExtract x13.1 1) fun x15 =>
  bnd (pBin prog .neq 25 (.tmp 16) (.const (.int .i64 0)) x15 (.int .i64 0)) fun x17 =>
  brV x17
  (bnd (pLoad prog 31 x4.1 x13.2) fun x18 =>
  bnd (pLoad prog 31 x5.1 x13.2) fun x19 =>
  bnd (kSt (pStore prog 31 x4.1 x18 x13.2)) fun u =>
  bnd (kSt (pStore prog 31 x5.1 x19 u.2)) fun u_2 =>
  chkK ((!true || !true || (sameO (pLoad prog 31 x5.1 x13.2) x19 && sameO (pLoad prog 31 x5.1 u.2) x19)) && true) <|
  bnd (pLoad prog 31 x4.1 u_2.2) fun q0 =>
  bnd (pLoad prog 31 x5.1 u_2.2) fun q1 =>
  some (.tuple #[q0,q1,x15],u_2.2))
  (bnd (pFieldAddr prog 86 x2.1 3) fun x22 =>
  bnd (pLoad prog 82 x22 x13.2) fun x23 =>
  bnd (callV inv x23 #[x1] x13.2) fun x25 =>
  bnd (pExtract x25.1 0) fun x26 =>
  bnd (pExtract x25.1 1) fun x27 =>
  G215_5 inv x2.1 x4.1 x5.1 x27 x14 x26 x25.2 fun  h =>
  bnd (pLoad prog 31 x4.1 h) fun q0 =>
  bnd (pLoad prog 31 x5.1 h) fun q1 =>
  some (.tuple #[q0,q1,x27],h))
theorem F215_eq : eFun env k inv 215 #[x0,x1] h = F215 inv k x0 x1 h:=ks_fun (n:=37) []
theorem F215_call : eInv env (k + 1) (.func 215) #[] #[x0,x1] h = F215 (eInv env k) k x0 x1 h:=kq_inv F215_eq
abbrev G216_1 {β : Type} (inv : Inv) (x1 x3 x5 : Value) (h : AH) (K : Value→AH→Option β) : Option β :=
  bnd (pFieldAddr prog 86 x3 2) fun x7 =>
  bnd (pLoad prog 81 x7 h) fun x8 =>
  bnd (pFieldAddr prog 86 x3 2) fun x9 =>
  bnd (pLoad prog 81 x9 h) fun x10 =>
  bnd (pFieldAddr prog 86 x3 0) fun x12 =>
  bnd (pLoad prog 80 x12 h) fun x13 =>
  bnd (pFieldAddr prog 38 x5 2) fun x14 =>
  bnd (pLoad prog 31 x14 h) fun x15 =>
  bnd (callV inv x13 #[x15] h) fun x16 =>
  bnd (callV inv x10 #[x1,x16.1] x16.2) fun x17 =>
  bnd (pFieldAddr prog 86 x3 0) fun x18 =>
  bnd (pLoad prog 80 x18 x17.2) fun x19 =>
  bnd (pFieldAddr prog 38 x5 3) fun x20 =>
  bnd (pLoad prog 31 x20 x17.2) fun x21 =>
  bnd (callV inv x19 #[x21] x17.2) fun x22 =>
  bnd (callV inv x8 #[x17.1,x22.1] x22.2) fun x23 =>
  chkK ((!true || !true || (sameO (pLoad prog 81 x7 h) x8 && sameO (pLoad prog 81 x7 x16.2) x8)) && ((!true || !true || (sameO (pLoad prog 81 x7 x16.2) x8 && sameO (pLoad prog 81 x7 x17.2) x8)) && ((!true || !true || (sameO (pLoad prog 81 x7 x17.2) x8 && sameO (pLoad prog 81 x7 x22.2) x8)) && ((!true || !true || (sameO (pLoad prog 81 x9 h) x10 && sameO (pLoad prog 81 x9 x16.2) x10)) && ((!true || !true || (sameO (pLoad prog 80 x18 h) x19 && sameO (pLoad prog 80 x18 x16.2) x19)) && ((!true || !true || (sameO (pLoad prog 80 x18 x16.2) x19 && sameO (pLoad prog 80 x18 x17.2) x19)) && ((!true || !true || (sameO (pLoad prog 31 x20 h) x21 && sameO (pLoad prog 31 x20 x16.2) x21)) && ((!true || !true || (sameO (pLoad prog 31 x20 x16.2) x21 && sameO (pLoad prog 31 x20 x17.2) x21)) && true)))))))) <|
  K (x23.1) x23.2
/-- (shadowbook/segment.codec[int64]).zone -/
def F216 (inv : Inv) (k : Nat) (x0 x1 x2 : Value) (h : AH) : Option (Value × AH) :=
  bnd (pBox prog 86 x0 h) fun x3 =>
  bnd (pBox prog 38 x2 x3.2) fun x5 =>
  G216_1 inv x1 x3.1 x5.1 x5.2 fun y6 h =>
  some (y6,h)
theorem F216_eq : eFun env k inv 216 #[x0,x1,x2] h = F216 inv k x0 x1 x2 h:=ks_fun (n:=24) []
theorem F216_call : eInv env (k + 1) (.func 216) #[] #[x0,x1,x2] h = F216 (eInv env k) k x0 x1 x2 h:=kq_inv F216_eq
abbrev G217_2 {β : Type} (inv : Inv) (x2 x3 x6 x7 x8 : Value) (h : AH) (K : Value→AH→Option β) : Option β :=
  bnd (pBin prog .neq 25 (.tmp 19) (.const (.int .i64 0)) x7 (.int .i64 0)) fun x20 =>
  bnd (gd (some x20) false h (some (x8,h))) fun x22 =>
  bnd (gd (some x20) false x22.2 (lt (pLen prog #[63] x22.1 x22.2) x22.2)) fun x23 =>
  bnd (gd (some x20) false x23.2 (some (x2,x23.2))) fun x24 =>
  bnd (gd (some x20) false x24.2 (lt (pBin prog .neq 3 (.tmp 23) (.tmp 24) x23.1 x24.1) x24.2)) fun x25 =>
  bnd (pickV x20 (.bool true) x25.1) fun x26 =>
  K (x26) x25.2
def F217_lrlrrr {β : Type} (inv : Inv) (k : Nat) : Nat→Value→Value→Value→Value→Value→AH→(Value→Value→Value→Value→Value→Value→AH→Option β)→Option β
 | 0,_,_,_,_,_,_,_=>none
 | j + 1,x3,x6,x27,x28,x29,h,ke0 =>
  bnd (pBin prog .lss 3 (.tmp 29) (.tmp 28) x29 x28) fun x30 =>
  brV x30
  (bnd (pIndexAddr prog 63 x27 x29) fun x31 =>
  bnd (pLoad prog 60 x31 h) fun x32 =>
  bnd (pFieldAddr prog 94 x3 1) fun x34 =>
  bnd (pLoad prog 89 x34 h) fun x35 =>
  bnd (callV inv x35 #[x32] h) fun x37 =>
  bnd (pBuildSlice prog 22 1 #[(0,x37.1)] x37.2) fun x38 =>
  bnd (pAppend prog #[22,22] x6 x38.1 x38.2) fun x39 =>
  bnd (pBin prog .add 3 (.tmp 29) (.const (.int .i64 1)) x29 (.int .i64 1)) fun x40 =>
  F217_lrlrrr inv k j x3 x39.1 x27 x28 x40 x39.2 ke0)
  (ke0 x3 x6 x27 x28 x29 x30 h)
def e217_0 : Ent env 217 false 42:=.lp [] 122 [3,6,27,28,29] [(.exit 0,[3,6,27,28,29,30])] F217_lrlrrr
/-- (shadowbook/segment.codec[uint64]).back -/
def F217 (inv : Inv) (k : Nat) (x0 x1 x2 : Value) (h : AH) : Option (Value × AH) :=
  bnd (pBox prog 94 x0 h) fun x3 =>
  bnd (pFieldAddr prog 94 x3.1 5) fun x12 =>
  bnd (pLoad prog 92 x12 x3.2) fun x13 =>
  bnd (callV inv x13 #[x1,x2] x3.2) fun x16 =>
  bnd (pExtract x16.1 0) fun x17 =>
  bnd (pExtract x16.1 1) fun x18 =>
  G217_2 inv x2 x3.1 (.slice none 0 0) x18 x17 x16.2 fun y26 h =>
  brV y26
  (some (.tuple #[(.slice none 0 0),(.int .i64 4)],h))
  (bnd (pLen prog #[63] x17 h) fun x28 =>
  F217_lrlrrr inv k k x3.1 (.slice none 0 0) x17 x28 (.int .i64 0) h
  (fun y3 y6 y27 y28 y29 y30 h_1 =>
  some (.tuple #[y6,(.int .i64 0)],h_1)))
theorem F217_eq : eFun env k inv 217 #[x0,x1,x2] h = F217 inv k x0 x1 x2 h:=ks_fun (n:=42) [e217_0]
theorem F217_call : eInv env (k + 1) (.func 217) #[] #[x0,x1,x2] h = F217 (eInv env k) k x0 x1 x2 h:=kq_inv F217_eq
def F218_lrlrr {β : Type} (inv : Inv) (k : Nat) : Nat→Value→Value→Value→Value→Value→AH→(Value→Value→Value→Value→Value→Value→AH→Option β)→Option β
 | 0,_,_,_,_,_,_,_=>none
 | j + 1,x2,x6,x9,x10,x11,h,ke0 =>
  bnd (pBin prog .lss 3 (.tmp 11) (.tmp 10) x11 x10) fun x12 =>
  brV x12
  (bnd (pIndexAddr prog 22 x9 x11) fun x13 =>
  bnd (pLoad prog 31 x13 h) fun x14 =>
  bnd (pAlloc prog 31 h) fun x8 =>
  bnd (kSt (pStore prog 31 x8.1 x14 x8.2)) fun u =>
  bnd (pFieldAddr prog 94 x2 0) fun x16 =>
  bnd (pLoad prog 88 x16 u.2) fun x17 =>
  bnd (pLoad prog 31 x8.1 u.2) fun x18 =>
  bnd (callV inv x17 #[x18] u.2) fun x19 =>
  bnd (pBuildSlice prog 63 1 #[(0,x19.1)] x19.2) fun x20 =>
  bnd (pAppend prog #[63,63] x6 x20.1 x20.2) fun x21 =>
  bnd (pBin prog .add 3 (.tmp 11) (.const (.int .i64 1)) x11 (.int .i64 1)) fun x22 =>
  F218_lrlrr inv k j x2 x21.1 x9 x10 x22 x21.2 ke0)
  (ke0 x2 x6 x9 x10 x11 x12 h)
def e218_0 : Ent env 218 false 29:=.lp [] 58 [2,6,9,10,11] [(.exit 0,[2,6,9,10,11,12])] F218_lrlrr
/-- (shadowbook/segment.codec[uint64]).cells -/
def F218 (inv : Inv) (k : Nat) (x0 x1 : Value) (h : AH) : Option (Value × AH) :=
  bnd (pBox prog 94 x0 h) fun x2 =>
  bnd (pLen prog #[22] x1 x2.2) fun x10 =>
  F218_lrlrr inv k k x2.1 (.slice none 0 0) x1 x10 (.int .i64 0) x2.2
  (fun y2 y6 y9 y10 y11 y12 h =>
  bnd (pFieldAddr prog 94 y2 4) fun x23 =>
  bnd (pLoad prog 91 x23 h) fun x24 =>
  bnd (callV inv x24 #[y6] h) fun x26 =>
  bnd (pExtract x26.1 0) fun x27 =>
  bnd (pExtract x26.1 1) fun x28 =>
  some (.tuple #[x27,x28],x26.2))
theorem F218_eq : eFun env k inv 218 #[x0,x1] h = F218 inv k x0 x1 h:=ks_fun (n:=29) [e218_0]
theorem F218_call : eInv env (k + 1) (.func 218) #[] #[x0,x1] h = F218 (eInv env k) k x0 x1 h:=kq_inv F218_eq
abbrev G219_5 {β : Type} (inv : Inv) (x2 x4 x5 x6 x7 x8 : Value) (h : AH) (K : AH→Option β) : Option β :=
  bnd (pFieldAddr prog 94 x2 1) fun x28 =>
  bnd (pLoad prog 89 x28 h) fun x29 =>
  bnd (callV inv x29 #[x7] h) fun x31 =>
  bnd (pFieldAddr prog 94 x2 1) fun x32 =>
  bnd (pLoad prog 89 x32 x31.2) fun x33 =>
  bnd (callV inv x33 #[x8] x31.2) fun x35 =>
  bnd (kSt (pStore prog 31 x4 x31.1 x35.2)) fun u =>
  bnd (kSt (pStore prog 31 x5 x35.1 u.2)) fun u_3 =>
  chkK ((!true || !true || (sameO (pLoad prog 89 x32 h) x33 && sameO (pLoad prog 89 x32 x31.2) x33)) && true) <|
  K u_3.2
/-- (shadowbook/segment.codec[uint64]).ends -/
def F219 (inv : Inv) (k : Nat) (x0 x1 : Value) (h : AH) : Option (Value × AH) :=
  bnd (pBox prog 94 x0 h) fun x2 =>
  bnd (pAlloc prog 31 x2.2) fun x4 =>
  bnd (pAlloc prog 31 x4.2) fun x5 =>
  bnd (pFieldAddr prog 94 x2.1 3) fun x10 =>
  bnd (pLoad prog 90 x10 x5.2) fun x11 =>
  bnd (callV inv x11 #[x1] x5.2) fun x13 =>
  bnd (pExtract x13.1 0) fun x14 =>
  bnd (pExtract x13.1 1) fun x15 =>
  bnd (pBin prog .neq 25 (.tmp 16) (.const (.int .i64 0)) x15 (.int .i64 0)) fun x17 =>
  brV x17
  (bnd (pLoad prog 31 x4.1 x13.2) fun x18 =>
  bnd (pLoad prog 31 x5.1 x13.2) fun x19 =>
  bnd (kSt (pStore prog 31 x4.1 x18 x13.2)) fun u =>
  bnd (kSt (pStore prog 31 x5.1 x19 u.2)) fun u_2 =>
  chkK ((!true || !true || (sameO (pLoad prog 31 x5.1 x13.2) x19 && sameO (pLoad prog 31 x5.1 u.2) x19)) && true) <|
  bnd (pLoad prog 31 x4.1 u_2.2) fun q0 =>
  bnd (pLoad prog 31 x5.1 u_2.2) fun q1 =>
  some (.tuple #[q0,q1,x15],u_2.2))
  (bnd (pFieldAddr prog 94 x2.1 3) fun x22 =>
  bnd (pLoad prog 90 x22 x13.2) fun x23 =>
  bnd (callV inv x23 #[x1] x13.2) fun x25 =>
  bnd (pExtract x25.1 0) fun x26 =>
  bnd (pExtract x25.1 1) fun x27 =>
  G219_5 inv x2.1 x4.1 x5.1 x27 x14 x26 x25.2 fun  h =>
  bnd (pLoad prog 31 x4.1 h) fun q0 =>
  bnd (pLoad prog 31 x5.1 h) fun q1 =>
  some (.tuple #[q0,q1,x27],h))
theorem F219_eq : eFun env k inv 219 #[x0,x1] h = F219 inv k x0 x1 h:=ks_fun (n:=37) []
theorem F219_call : eInv env (k + 1) (.func 219) #[] #[x0,x1] h = F219 (eInv env k) k x0 x1 h:=kq_inv F219_eq
abbrev G220_1 {β : Type} (inv : Inv) (x1 x3 x5 : Value) (h : AH) (K : Value→AH→Option β) : Option β :=
  bnd (pFieldAddr prog 94 x3 2) fun x7 =>
  bnd (pLoad prog 59 x7 h) fun x8 =>
  bnd (pFieldAddr prog 94 x3 2) fun x9 =>
  bnd (pLoad prog 59 x9 h) fun x10 =>
  bnd (pFieldAddr prog 94 x3 0) fun x12 =>
  bnd (pLoad prog 88 x12 h) fun x13 =>
  bnd (pFieldAddr prog 38 x5 2) fun x14 =>
  bnd (pLoad prog 31 x14 h) fun x15 =>
  bnd (callV inv x13 #[x15] h) fun x16 =>
  bnd (callV inv x10 #[x1,x16.1] x16.2) fun x17 =>
  bnd (pFieldAddr prog 94 x3 0) fun x18 =>
  bnd (pLoad prog 88 x18 x17.2) fun x19 =>
  bnd (pFieldAddr prog 38 x5 3) fun x20 =>
  bnd (pLoad prog 31 x20 x17.2) fun x21 =>
  bnd (callV inv x19 #[x21] x17.2) fun x22 =>
  bnd (callV inv x8 #[x17.1,x22.1] x22.2) fun x23 =>
  chkK ((!true || !true || (sameO (pLoad prog 59 x7 h) x8 && sameO (pLoad prog 59 x7 x16.2) x8)) && ((!true || !true || (sameO (pLoad prog 59 x7 x16.2) x8 && sameO (pLoad prog 59 x7 x17.2) x8)) && ((!true || !true || (sameO (pLoad prog 59 x7 x17.2) x8 && sameO (pLoad prog 59 x7 x22.2) x8)) && ((!true || !true || (sameO (pLoad prog 59 x9 h) x10 && sameO (pLoad prog 59 x9 x16.2) x10)) && ((!true || !true || (sameO (pLoad prog 88 x18 h) x19 && sameO (pLoad prog 88 x18 x16.2) x19)) && ((!true || !true || (sameO (pLoad prog 88 x18 x16.2) x19 && sameO (pLoad prog 88 x18 x17.2) x19)) && ((!true || !true || (sameO (pLoad prog 31 x20 h) x21 && sameO (pLoad prog 31 x20 x16.2) x21)) && ((!true || !true || (sameO (pLoad prog 31 x20 x16.2) x21 && sameO (pLoad prog 31 x20 x17.2) x21)) && true)))))))) <|
  K (x23.1) x23.2
/-- (shadowbook/segment.codec[uint64]).zone -/
def F220 (inv : Inv) (k : Nat) (x0 x1 x2 : Value) (h : AH) : Option (Value × AH) :=
  bnd (pBox prog 94 x0 h) fun x3 =>
  bnd (pBox prog 38 x2 x3.2) fun x5 =>
  G220_1 inv x1 x3.1 x5.1 x5.2 fun y6 h =>
  some (y6,h)
theorem F220_eq : eFun env k inv 220 #[x0,x1,x2] h = F220 inv k x0 x1 x2 h:=ks_fun (n:=24) []
theorem F220_call : eInv env (k + 1) (.func 220) #[] #[x0,x1,x2] h = F220 (eInv env k) k x0 x1 x2 h:=kq_inv F220_eq
abbrev G221_2 {β : Type} (inv : Inv) (x2 x3 x6 x7 x8 : Value) (h : AH) (K : Value→AH→Option β) : Option β :=
  bnd (pBin prog .neq 25 (.tmp 19) (.const (.int .i64 0)) x7 (.int .i64 0)) fun x20 =>
  bnd (gd (some x20) false h (some (x8,h))) fun x22 =>
  bnd (gd (some x20) false x22.2 (lt (pLen prog #[122] x22.1 x22.2) x22.2)) fun x23 =>
  bnd (gd (some x20) false x23.2 (some (x2,x23.2))) fun x24 =>
  bnd (gd (some x20) false x24.2 (lt (pBin prog .neq 3 (.tmp 23) (.tmp 24) x23.1 x24.1) x24.2)) fun x25 =>
  bnd (pickV x20 (.bool true) x25.1) fun x26 =>
  K (x26) x25.2
def F221_lrlrrr {β : Type} (inv : Inv) (k : Nat) : Nat→Value→Value→Value→Value→Value→AH→(Value→Value→Value→Value→Value→Value→AH→Option β)→Option β
 | 0,_,_,_,_,_,_,_=>none
 | j + 1,x3,x6,x27,x28,x29,h,ke0 =>
  bnd (pBin prog .lss 3 (.tmp 29) (.tmp 28) x29 x28) fun x30 =>
  brV x30
  (bnd (pIndexAddr prog 122 x27 x29) fun x31 =>
  bnd (pLoad prog 9 x31 h) fun x32 =>
  bnd (pFieldAddr prog 103 x3 1) fun x34 =>
  bnd (pLoad prog 97 x34 h) fun x35 =>
  bnd (callV inv x35 #[x32] h) fun x37 =>
  bnd (pBuildSlice prog 22 1 #[(0,x37.1)] x37.2) fun x38 =>
  bnd (pAppend prog #[22,22] x6 x38.1 x38.2) fun x39 =>
  bnd (pBin prog .add 3 (.tmp 29) (.const (.int .i64 1)) x29 (.int .i64 1)) fun x40 =>
  F221_lrlrrr inv k j x3 x39.1 x27 x28 x40 x39.2 ke0)
  (ke0 x3 x6 x27 x28 x29 x30 h)
def e221_0 : Ent env 221 false 42:=.lp [] 122 [3,6,27,28,29] [(.exit 0,[3,6,27,28,29,30])] F221_lrlrrr
/-- (shadowbook/segment.codec[string]).back -/
def F221 (inv : Inv) (k : Nat) (x0 x1 x2 : Value) (h : AH) : Option (Value × AH) :=
  bnd (pBox prog 103 x0 h) fun x3 =>
  bnd (pFieldAddr prog 103 x3.1 5) fun x12 =>
  bnd (pLoad prog 101 x12 x3.2) fun x13 =>
  bnd (callV inv x13 #[x1,x2] x3.2) fun x16 =>
  bnd (pExtract x16.1 0) fun x17 =>
  bnd (pExtract x16.1 1) fun x18 =>
  G221_2 inv x2 x3.1 (.slice none 0 0) x18 x17 x16.2 fun y26 h =>
  brV y26
  (some (.tuple #[(.slice none 0 0),(.int .i64 4)],h))
  (bnd (pLen prog #[122] x17 h) fun x28 =>
  F221_lrlrrr inv k k x3.1 (.slice none 0 0) x17 x28 (.int .i64 0) h
  (fun y3 y6 y27 y28 y29 y30 h_1 =>
  some (.tuple #[y6,(.int .i64 0)],h_1)))
theorem F221_eq : eFun env k inv 221 #[x0,x1,x2] h = F221 inv k x0 x1 x2 h:=ks_fun (n:=42) [e221_0]
theorem F221_call : eInv env (k + 1) (.func 221) #[] #[x0,x1,x2] h = F221 (eInv env k) k x0 x1 x2 h:=kq_inv F221_eq
def F222_lrlrr {β : Type} (inv : Inv) (k : Nat) : Nat→Value→Value→Value→Value→Value→AH→(Value→Value→Value→Value→Value→Value→AH→Option β)→Option β
 | 0,_,_,_,_,_,_,_=>none
 | j + 1,x2,x6,x9,x10,x11,h,ke0 =>
  bnd (pBin prog .lss 3 (.tmp 11) (.tmp 10) x11 x10) fun x12 =>
  brV x12
  (bnd (pIndexAddr prog 22 x9 x11) fun x13 =>
  bnd (pLoad prog 31 x13 h) fun x14 =>
  bnd (pAlloc prog 31 h) fun x8 =>
  bnd (kSt (pStore prog 31 x8.1 x14 x8.2)) fun u =>
  bnd (pFieldAddr prog 103 x2 0) fun x16 =>
  bnd (pLoad prog 96 x16 u.2) fun x17 =>
  bnd (pLoad prog 31 x8.1 u.2) fun x18 =>
  bnd (callV inv x17 #[x18] u.2) fun x19 =>
  bnd (pBuildSlice prog 122 1 #[(0,x19.1)] x19.2) fun x20 =>
  bnd (pAppend prog #[122,122] x6 x20.1 x20.2) fun x21 =>
  bnd (pBin prog .add 3 (.tmp 11) (.const (.int .i64 1)) x11 (.int .i64 1)) fun x22 =>
  F222_lrlrr inv k j x2 x21.1 x9 x10 x22 x21.2 ke0)
  (ke0 x2 x6 x9 x10 x11 x12 h)
def e222_0 : Ent env 222 false 29:=.lp [] 58 [2,6,9,10,11] [(.exit 0,[2,6,9,10,11,12])] F222_lrlrr
/-- (shadowbook/segment.codec[string]).cells -/
def F222 (inv : Inv) (k : Nat) (x0 x1 : Value) (h : AH) : Option (Value × AH) :=
  bnd (pBox prog 103 x0 h) fun x2 =>
  bnd (pLen prog #[22] x1 x2.2) fun x10 =>
  F222_lrlrr inv k k x2.1 (.slice none 0 0) x1 x10 (.int .i64 0) x2.2
  (fun y2 y6 y9 y10 y11 y12 h =>
  bnd (pFieldAddr prog 103 y2 4) fun x23 =>
  bnd (pLoad prog 100 x23 h) fun x24 =>
  bnd (callV inv x24 #[y6] h) fun x26 =>
  bnd (pExtract x26.1 0) fun x27 =>
  bnd (pExtract x26.1 1) fun x28 =>
  some (.tuple #[x27,x28],x26.2))
theorem F222_eq : eFun env k inv 222 #[x0,x1] h = F222 inv k x0 x1 h:=ks_fun (n:=29) [e222_0]
theorem F222_call : eInv env (k + 1) (.func 222) #[] #[x0,x1] h = F222 (eInv env k) k x0 x1 h:=kq_inv F222_eq
abbrev G223_5 {β : Type} (inv : Inv) (x2 x4 x5 x6 x7 x8 : Value) (h : AH) (K : AH→Option β) : Option β :=
  bnd (pFieldAddr prog 103 x2 1) fun x28 =>
  bnd (pLoad prog 97 x28 h) fun x29 =>
  bnd (callV inv x29 #[x7] h) fun x31 =>
  bnd (pFieldAddr prog 103 x2 1) fun x32 =>
  bnd (pLoad prog 97 x32 x31.2) fun x33 =>
  bnd (callV inv x33 #[x8] x31.2) fun x35 =>
  bnd (kSt (pStore prog 31 x4 x31.1 x35.2)) fun u =>
  bnd (kSt (pStore prog 31 x5 x35.1 u.2)) fun u_3 =>
  chkK ((!true || !true || (sameO (pLoad prog 97 x32 h) x33 && sameO (pLoad prog 97 x32 x31.2) x33)) && true) <|
  K u_3.2
/-- (shadowbook/segment.codec[string]).ends -/
def F223 (inv : Inv) (k : Nat) (x0 x1 : Value) (h : AH) : Option (Value × AH) :=
  bnd (pBox prog 103 x0 h) fun x2 =>
  bnd (pAlloc prog 31 x2.2) fun x4 =>
  bnd (pAlloc prog 31 x4.2) fun x5 =>
  bnd (pFieldAddr prog 103 x2.1 3) fun x10 =>
  bnd (pLoad prog 99 x10 x5.2) fun x11 =>
  bnd (callV inv x11 #[x1] x5.2) fun x13 =>
  bnd (pExtract x13.1 0) fun x14 =>
  bnd (pExtract x13.1 1) fun x15 =>
  bnd (pBin prog .neq 25 (.tmp 16) (.const (.int .i64 0)) x15 (.int .i64 0)) fun x17 =>
  brV x17
  (bnd (pLoad prog 31 x4.1 x13.2) fun x18 =>
  bnd (pLoad prog 31 x5.1 x13.2) fun x19 =>
  bnd (kSt (pStore prog 31 x4.1 x18 x13.2)) fun u =>
  bnd (kSt (pStore prog 31 x5.1 x19 u.2)) fun u_2 =>
  chkK ((!true || !true || (sameO (pLoad prog 31 x5.1 x13.2) x19 && sameO (pLoad prog 31 x5.1 u.2) x19)) && true) <|
  bnd (pLoad prog 31 x4.1 u_2.2) fun q0 =>
  bnd (pLoad prog 31 x5.1 u_2.2) fun q1 =>
  some (.tuple #[q0,q1,x15],u_2.2))
  (bnd (pFieldAddr prog 103 x2.1 3) fun x22 =>
  bnd (pLoad prog 99 x22 x13.2) fun x23 =>
  bnd (callV inv x23 #[x1] x13.2) fun x25 =>
  bnd (pExtract x25.1 0) fun x26 =>
  bnd (pExtract x25.1 1) fun x27 =>
  G223_5 inv x2.1 x4.1 x5.1 x27 x14 x26 x25.2 fun  h =>
  bnd (pLoad prog 31 x4.1 h) fun q0 =>
  bnd (pLoad prog 31 x5.1 h) fun q1 =>
  some (.tuple #[q0,q1,x27],h))
theorem F223_eq : eFun env k inv 223 #[x0,x1] h = F223 inv k x0 x1 h:=ks_fun (n:=37) []
theorem F223_call : eInv env (k + 1) (.func 223) #[] #[x0,x1] h = F223 (eInv env k) k x0 x1 h:=kq_inv F223_eq
abbrev G224_1 {β : Type} (inv : Inv) (x1 x3 x5 : Value) (h : AH) (K : Value→AH→Option β) : Option β :=
  bnd (pFieldAddr prog 103 x3 2) fun x7 =>
  bnd (pLoad prog 98 x7 h) fun x8 =>
  bnd (pFieldAddr prog 103 x3 2) fun x9 =>
  bnd (pLoad prog 98 x9 h) fun x10 =>
  bnd (pFieldAddr prog 103 x3 0) fun x12 =>
  bnd (pLoad prog 96 x12 h) fun x13 =>
  bnd (pFieldAddr prog 38 x5 2) fun x14 =>
  bnd (pLoad prog 31 x14 h) fun x15 =>
  bnd (callV inv x13 #[x15] h) fun x16 =>
  bnd (callV inv x10 #[x1,x16.1] x16.2) fun x17 =>
  bnd (pFieldAddr prog 103 x3 0) fun x18 =>
  bnd (pLoad prog 96 x18 x17.2) fun x19 =>
  bnd (pFieldAddr prog 38 x5 3) fun x20 =>
  bnd (pLoad prog 31 x20 x17.2) fun x21 =>
  bnd (callV inv x19 #[x21] x17.2) fun x22 =>
  bnd (callV inv x8 #[x17.1,x22.1] x22.2) fun x23 =>
  chkK ((!true || !true || (sameO (pLoad prog 98 x7 h) x8 && sameO (pLoad prog 98 x7 x16.2) x8)) && ((!true || !true || (sameO (pLoad prog 98 x7 x16.2) x8 && sameO (pLoad prog 98 x7 x17.2) x8)) && ((!true || !true || (sameO (pLoad prog 98 x7 x17.2) x8 && sameO (pLoad prog 98 x7 x22.2) x8)) && ((!true || !true || (sameO (pLoad prog 98 x9 h) x10 && sameO (pLoad prog 98 x9 x16.2) x10)) && ((!true || !true || (sameO (pLoad prog 96 x18 h) x19 && sameO (pLoad prog 96 x18 x16.2) x19)) && ((!true || !true || (sameO (pLoad prog 96 x18 x16.2) x19 && sameO (pLoad prog 96 x18 x17.2) x19)) && ((!true || !true || (sameO (pLoad prog 31 x20 h) x21 && sameO (pLoad prog 31 x20 x16.2) x21)) && ((!true || !true || (sameO (pLoad prog 31 x20 x16.2) x21 && sameO (pLoad prog 31 x20 x17.2) x21)) && true)))))))) <|
  K (x23.1) x23.2
/-- (shadowbook/segment.codec[string]).zone -/
def F224 (inv : Inv) (k : Nat) (x0 x1 x2 : Value) (h : AH) : Option (Value × AH) :=
  bnd (pBox prog 103 x0 h) fun x3 =>
  bnd (pBox prog 38 x2 x3.2) fun x5 =>
  G224_1 inv x1 x3.1 x5.1 x5.2 fun y6 h =>
  some (y6,h)
theorem F224_eq : eFun env k inv 224 #[x0,x1,x2] h = F224 inv k x0 x1 x2 h:=ks_fun (n:=24) []
theorem F224_call : eInv env (k + 1) (.func 224) #[] #[x0,x1,x2] h = F224 (eInv env k) k x0 x1 x2 h:=kq_inv F224_eq
end
end Go.Proofs.YtghelamfaaakcaaGreat.Sh
