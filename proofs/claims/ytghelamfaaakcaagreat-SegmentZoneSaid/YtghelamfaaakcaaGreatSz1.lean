/- Shallow functions, part 1. Printed by a program of the prover's own from the loaded program; Lean checks it. -/
import Derived.Test.YtghelamfaaakcaaGreatSz0
set_option linter.unusedVariables false
set_option linter.unusedSimpArgs false
set_option maxRecDepth 100000
namespace Go.Proofs.YtghelamfaaakcaaGreat.Sh
open Go Go.RowKit Go.Proofs.Ev
variable {β : Type} {inv : Inv} {k : Nat} {h : AH} {K : XE→Act→AH→Option β} {x0 x1 x2 x3 x6 x7 x9 x22 z0 z1 : Value}
noncomputable abbrev G4_3 {β : Type} (inv : Inv) (x0 x1 x3 : Value) (h : AH) (K : Value→AH→Option β) : Option β :=
  bnd (inv (.func 10) #[] #[x1] h) fun x20 =>
  bnd (pUn Tryz.prog .not x20.1) fun x21 =>
  bnd (gd (some x21) false x20.2 (some (x3,x20.2))) fun x23 =>
  bnd (gd (some x21) false x23.2 (lt (pLen Tryz.prog #[9] x23.1 x23.2) x23.2)) fun x24 =>
  bnd (gd (some x21) false x24.2 (lt (pBin Tryz.prog .gtr 3 (.tmp 24) (.const (.int .i64 600)) x24.1 (.int .i64 600)) x24.2)) fun x25 =>
  bnd (pickV x21 (.bool true) x25.1) fun x26 =>
  K (x26) x25.2
noncomputable abbrev G4_6 {β : Type} (inv : Inv) (x0 x1 x3 x9 x10 x11 : Value) (h : AH) (K : Value→AH→Option β) : Option β :=
  bnd (pBin Tryz.prog .eql 25 (.tmp 33) (.const (.int .i64 0)) x11 (.int .i64 0)) fun x34 =>
  bnd (gd (some x34) true h (lt (pLoad Tryz.prog 38 x10 h) h)) fun x36 =>
  bnd (gd (some x34) true x36.2 (some (x9,x36.2))) fun x37 =>
  bnd (gd (some x34) true x37.2 (inv (.func 16) #[] #[x36.1,x37.1] x37.2)) fun x38 =>
  bnd (gd (some x34) true x38.2 (lt (pBin Tryz.prog .neq 25 (.tmp 38) (.const (.int .i64 0)) x38.1 (.int .i64 0)) x38.2)) fun x39 =>
  bnd (pickV x34 x39.1 (.bool false)) fun x40 =>
  bnd (gd (some x40) false x39.2 (some (x11,x39.2))) fun x42 =>
  bnd (gd (some x40) false x42.2 (lt (pBin Tryz.prog .neq 25 (.tmp 42) (.const (.int .i64 0)) x42.1 (.int .i64 0)) x42.2)) fun x43 =>
  bnd (gd (some x40) false x43.2 (some (x43.1,x43.2))) fun x44 =>
  bnd (gd (some x44.1) true x44.2 (some (x11,x44.2))) fun x45 =>
  bnd (gd (some x44.1) true x45.2 (lt (pBin Tryz.prog .neq 25 (.tmp 45) (.const (.int .i64 4)) x45.1 (.int .i64 4)) x45.2)) fun x46 =>
  bnd (gd (some x44.1) true x46.2 (some (x46.1,x46.2))) fun x47 =>
  bnd (gd (some x47.1) false x47.2 (lt (pLoad Tryz.prog 38 x10 x47.2) x47.2)) fun x48 =>
  bnd (gd (some x47.1) false x48.2 (lt (pBuild Tryz.prog 38 #[]) x48.2)) fun x49 =>
  bnd (gd (some x47.1) false x49.2 (lt (pBin Tryz.prog .neq 38 (.tmp 48) (.tmp 49) x48.1 x49.1) x49.2)) fun x50 =>
  bnd (gd (some x44.1) true x50.2 (lt (pickV x47.1 (.bool true) x50.1) x50.2)) fun x51 =>
  bnd (gd (some x40) false x51.2 (lt (pickV x44.1 x51.1 (.bool false)) x51.2)) fun x52 =>
  bnd (pickV x40 (.bool true) x52.1) fun x53 =>
  K (x53) x52.2
noncomputable abbrev G4_12 {β : Type} (inv : Inv) (x0 x1 x14 x15 x16 : Value) (h : AH) (K : Value→AH→Option β) : Option β :=
  bnd (pBin Tryz.prog .eql 25 (.tmp 70) (.const (.int .i64 0)) x16 (.int .i64 0)) fun x71 =>
  bnd (gd3 (some x71) true h (some (x14,h))) fun x73 =>
  bnd (gd3 (some x71) true x73.2.1 (some (x0,x73.2.1))) fun x74 =>
  bnd (gd3 (some x71) true x74.2.1 (lt (pBin Tryz.prog .eql 3 (.tmp 73) (.tmp 74) x73.1 x74.1) x74.2.1)) fun x75 =>
  bnd (pickV x71 x75.1 (.bool false)) fun x76 =>
  bnd (gd3 (some x76) true x75.2.1 (lt (pLoad Tryz.prog 38 x15 x75.2.1) x75.2.1)) fun x78 =>
  bnd (gd3 (some x76) true x78.2.1 (some (x1,x78.2.1))) fun x79 =>
  bnd (gd3 (some x76) true x79.2.1 (inv (.func 17) #[] #[x79.1] x79.2.1)) fun x80 =>
  bnd (gd3 (some x76) true x80.2.1 (lt (pBin Tryz.prog .eql 38 (.tmp 78) (.tmp 80) x78.1 x80.1) x80.2.1)) fun x81 =>
  bnd (pickV x76 x81.1 (.bool false)) fun x82 =>
  chkK ((!x78.2.2 || !x80.2.2 || (sameO (pLoad Tryz.prog 38 x15 x79.2.1) x78.1 && sameO (pLoad Tryz.prog 38 x15 x80.2.1) x78.1)) && true) <|
  K (x82) x81.2.1
/-- shadowbook/shadowbooklaw10.SegmentZone -/
noncomputable def F4 (inv : Inv) (k : Nat) (x0 x1 x2 x3 : Value) (h : AH) : Option (Value × AH) :=
  bnd (inv (.func 9) #[] #[] h) fun x17 =>
  bnd (pUn Tryz.prog .not x17.1) fun x18 =>
  brV x18
  (some ((.bool false),x17.2))
  (G4_3 inv x0 x1 x3 x17.2 fun y26 h =>
  brV y26
  (some ((.bool true),h))
  (bnd (inv (.func 15) #[] #[x3] h) fun x29 =>
  bnd (pExtract x29.1 0) fun x30 =>
  bnd (pExtract x29.1 1) fun x31 =>
  bnd (pExtract x29.1 2) fun x32 =>
  bnd (pAlloc Tryz.prog 38 x29.2) fun x10 =>
  bnd (kSt (pStore Tryz.prog 38 x10.1 x31 x10.2)) fun u =>
  G4_6 inv x0 x1 x3 x30 x10.1 x32 u.2 fun y53 h_1 =>
  brV y53
  (some ((.bool false),h_1))
  (bnd (inv (.func 13) #[] #[x0,x1] h_1) fun x57 =>
  bnd (pExtract x57.1 0) fun x58 =>
  bnd (pExtract x57.1 1) fun x59 =>
  bnd (pBin Tryz.prog .neq 25 (.tmp 60) (.const (.int .i64 0)) x59 (.int .i64 0)) fun x61 =>
  brV x61
  (some ((.bool true),x57.2))
  (bnd (pBin Tryz.prog .add 9 (.tmp 63) (.tmp 64) x58 x3) fun x65 =>
  bnd (inv (.func 15) #[] #[x65] x57.2) fun x66 =>
  bnd (pExtract x66.1 0) fun x67 =>
  bnd (pExtract x66.1 1) fun x68 =>
  bnd (pExtract x66.1 2) fun x69 =>
  bnd (pAlloc Tryz.prog 38 x66.2) fun x15 =>
  bnd (kSt (pStore Tryz.prog 38 x15.1 x68 x15.2)) fun u_2 =>
  G4_12 inv x0 x1 x67 x15.1 x69 u_2.2 fun y8 h_3 =>
  some (y8,h_3)))))
theorem F4_eq : eFun env k inv 4 #[x0,x1,x2,x3] h = F4 inv k x0 x1 x2 x3 h:=ks_fun (n:=83) []
theorem F4_call : eInv env (k + 1) (.func 4) #[] #[x0,x1,x2,x3] h = F4 (eInv env k) k x0 x1 x2 x3 h:=kq_inv F4_eq
/-- shadowbook/shadowbooklaw10.light -/
noncomputable def F10 (inv : Inv) (k : Nat) (x0 : Value) (h : AH) : Option (Value × AH) :=
  bnd (inv (.func 27) #[] #[x0,(.int .i64 60),(.int .i64 600)] h) fun x4 =>
  some (x4.1,x4.2)
theorem F10_eq : eFun env k inv 10 #[x0] h = F10 inv k x0 h:=ks_fun (n:=5) []
theorem F10_call : eInv env (k + 1) (.func 10) #[] #[x0] h = F10 (eInv env k) k x0 h:=kq_inv F10_eq
noncomputable abbrev G11_11 {β : Type} (inv : Inv) (x0 x6 x14 x15 x16 : Value) (h : AH) (K : Value→AH→Option β) : Option β :=
  bnd (pFieldAddr Tryz.prog 31 x6 0) fun x25 =>
  bnd (pLoad Tryz.prog 3 x25 h) fun x26 =>
  bnd (pBin Tryz.prog .neq 3 (.tmp 26) (.tmp 27) x26 x0) fun x28 =>
  bnd (gd (some x28) true h (lt (pFieldAddr Tryz.prog 31 x6 0) h)) fun x30 =>
  bnd (gd (some x28) true x30.2 (lt (pLoad Tryz.prog 3 x30.1 x30.2) x30.2)) fun x31 =>
  bnd (gd (some x28) true x31.2 (lt (pBin Tryz.prog .neq 3 (.tmp 31) (.const (.int .i64 0)) x31.1 (.int .i64 0)) x31.2)) fun x32 =>
  bnd (pickV x28 x32.1 (.bool false)) fun x33 =>
  K (x33) x32.2
noncomputable def F11_lrlrrr {β : Type} (inv : Inv) (k : Nat) : Nat→Value→Value→Value→Value→AH→(Value→Value→Value→Value→Value→AH→Option β)→(Value→AH→Option β)→Option β
 | 0,_,_,_,_,_,_,_=>none
 | j + 1,x0,x14,x15,x16,h,ke0,kr =>
  bnd (pBin Tryz.prog .lss 3 (.tmp 16) (.tmp 15) x16 x15) fun x17 =>
  brV x17
  (bnd (pIndexAddr Tryz.prog 22 x14 x16) fun x18 =>
  bnd (pLoad Tryz.prog 31 x18 h) fun x19 =>
  bnd (pAlloc Tryz.prog 31 h) fun x6 =>
  bnd (kSt (pStore Tryz.prog 31 x6.1 x19 x6.2)) fun u =>
  bnd (pLoad Tryz.prog 31 x6.1 u.2) fun x20 =>
  bnd (inv (.func 29) #[] #[x20] u.2) fun x21 =>
  bnd (pBin Tryz.prog .neq 25 (.tmp 22) (.const (.int .i64 0)) x21.1 (.int .i64 0)) fun x23 =>
  brV x23
  (kr x21.1 x21.2)
  (G11_11 inv x0 x6.1 x14 x15 x16 x21.2 fun y33 h =>
  brV y33
  (kr (.int .i64 11) h)
  (bnd (pBin Tryz.prog .add 3 (.tmp 16) (.const (.int .i64 1)) x16 (.int .i64 1)) fun x34 =>
  F11_lrlrrr inv k j x0 x14 x15 x34 h ke0 kr)))
  (ke0 x0 x14 x15 x16 x17 h)
noncomputable def e11_0 : Ent env 11 false 35:=.lp [] 122 [0,14,15,16] [(.exit 0,[0,14,15,16,17]),(.ret,[4])] F11_lrlrrr
/-- shadowbook/segment.Check -/
noncomputable def F11 (inv : Inv) (k : Nat) (x0 x1 : Value) (h : AH) : Option (Value × AH) :=
  bnd (inv (.func 28) #[] #[x0] h) fun x9 =>
  bnd (pBin Tryz.prog .eql 54 (.tmp 9) (.const .nilIface) x9.1 .nilIface) fun x10 =>
  brV x10
  (some ((.int .i64 2),x9.2))
  (bnd (pLen Tryz.prog #[22] x1 x9.2) fun x12 =>
  bnd (pBin Tryz.prog .gtr 3 (.tmp 12) (.const (.int .i64 4096)) x12 (.int .i64 4096)) fun x13 =>
  brV x13
  (some ((.int .i64 3),x9.2))
  (bnd (pLen Tryz.prog #[22] x1 x9.2) fun x15 =>
  F11_lrlrrr inv k k x0 x1 x15 (.int .i64 0) x9.2
  (fun y0 y14 y15 y16 y17 h =>
  some ((.int .i64 0),h))
  (fun y4 h_1 =>
  some (y4,h_1))))
theorem F11_eq : eFun env k inv 11 #[x0,x1] h = F11 inv k x0 x1 h:=ks_fun (n:=35) [e11_0]
theorem F11_call : eInv env (k + 1) (.func 11) #[] #[x0,x1] h = F11 (eInv env k) k x0 x1 h:=kq_inv F11_eq
noncomputable def F13_lrrllrlrrrr {β : Type} (inv : Inv) (k : Nat) (x0 x7 x8 x25 x26 x27 x28 : Value) (h : AH) (kn : (Value→Value→Value→Value→Value→Value→Value→Value→AH→Option β)) : Option β :=
  bnd (pIndexAddr Tryz.prog 22 x25 x27) fun x30 =>
  bnd (pLoad Tryz.prog 31 x30 h) fun x31 =>
  bnd (pAlloc Tryz.prog 31 h) fun x10 =>
  bnd (kSt (pStore Tryz.prog 31 x10.1 x31 x10.2)) fun u =>
  bnd (pFieldAddr Tryz.prog 31 x10.1 0) fun x34 =>
  bnd (pLoad Tryz.prog 3 x34 u.2) fun x35 =>
  bnd (pBin Tryz.prog .eql 3 (.tmp 35) (.const (.int .i64 0)) x35 (.int .i64 0)) fun x36 =>
  bnd (pIndexAddr Tryz.prog 32 x7 x27) fun x37 =>
  bnd (kSt (pStore Tryz.prog 4 x37 x36 u.2)) fun u_1 =>
  bnd (pIndexAddr Tryz.prog 32 x7 x27) fun x40 =>
  bnd (pLoad Tryz.prog 4 x40 u_1.2) fun x41 =>
  bnd (pUn Tryz.prog .not x41) fun x42 =>
  brV x42
  (bnd (pLoad Tryz.prog 31 x10.1 u_1.2) fun x44 =>
  bnd (pBuildSlice Tryz.prog 22 1 #[(0,x44)] u_1.2) fun x45 =>
  bnd (pAppend Tryz.prog #[22,22] x8 x45.1 x45.2) fun x46 =>
  kn x0 x7 x46.1 unk x25 x26 x27 unk x46.2)
  (kn x0 x7 x8 x10.1 x25 x26 x27 x42 u_1.2)
noncomputable def e13_0 : Ent env 13 false 88:=.jn [] 4006 [0,7,8,25,26,27,28] [(.normal,[0,7,8,10,25,26,27,42])] F13_lrrllrlrrrr
noncomputable def F13_lrlrrrr {β : Type} (inv : Inv) (k : Nat) : Nat→Value→Value→Value→Value→Value→Value→AH→(Value→Value→Value→Value→Value→Value→Value→AH→Option β)→Option β
 | 0,_,_,_,_,_,_,_,_=>none
 | j + 1,x0,x7,x8,x25,x26,x27,h,ke0 =>
  bnd (pBin Tryz.prog .lss 3 (.tmp 27) (.tmp 26) x27 x26) fun x28 =>
  brV x28
  (F13_lrrllrlrrrr inv k x0 x7 x8 x25 x26 x27 x28 h
  (fun y0 y7 y8 y10 y25 y26 y27 y42 h =>
  bnd (pBin Tryz.prog .add 3 (.tmp 27) (.const (.int .i64 1)) y27 (.int .i64 1)) fun x47 =>
  F13_lrlrrrr inv k j y0 y7 y8 y25 y26 x47 h ke0))
  (ke0 x0 x7 x8 x25 x26 x27 x28 h)
noncomputable def e13_1 : Ent env 13 false 88:=.lp [e13_0] 250 [0,7,8,25,26,27] [(.exit 0,[0,7,8,25,26,27,28])] F13_lrlrrrr
/-- shadowbook/segment.Put -/
noncomputable def F13 (inv : Inv) (k : Nat) (x0 x1 : Value) (h : AH) : Option (Value × AH) :=
  bnd (inv (.func 11) #[] #[x0,x1] h) fun x18 =>
  bnd (pBin Tryz.prog .neq 25 (.tmp 19) (.const (.int .i64 0)) x18.1 (.int .i64 0)) fun x20 =>
  brV x20
  (some (.tuple #[(.string { data:=#[] }),x18.1],x18.2))
  (bnd (pLen Tryz.prog #[22] x1 x18.2) fun x23 =>
  bnd (pMakeSlice Tryz.prog 32 x23 x23 x18.2) fun x24 =>
  bnd (pLen Tryz.prog #[22] x1 x24.2) fun x26 =>
  F13_lrlrrrr inv k k x0 x24.1 (.slice none 0 0) x1 x26 (.int .i64 0) x24.2
  (fun y0 y7 y8 y25 y26 y27 y28 h =>
  bnd (inv (.func 30) #[] #[y7] h) fun x50 =>
  bnd (pExtract x50.1 0) fun x51 =>
  bnd (pExtract x50.1 1) fun x52 =>
  bnd (pBin Tryz.prog .neq 25 (.tmp 53) (.const (.int .i64 0)) x52 (.int .i64 0)) fun x54 =>
  brV x54
  (some (.tuple #[(.string { data:=#[] }),x52],x50.2))
  (bnd (pConv Tryz.prog 3 5 y0 x50.2) fun x57 =>
  bnd (pBuildSlice Tryz.prog 33 1 #[(0,x57)] x50.2) fun x58 =>
  bnd (pAppend Tryz.prog #[33,33] x58.1 x51 x58.2) fun x60 =>
  bnd (pLen Tryz.prog #[22] y8 x60.2) fun x62 =>
  bnd (pBin Tryz.prog .eql 3 (.tmp 62) (.const (.int .i64 0)) x62 (.int .i64 0)) fun x63 =>
  brV x63
  (bnd (pConv Tryz.prog 33 9 x60.1 x60.2) fun x65 =>
  some (.tuple #[x65,(.int .i64 0)],x60.2))
  (bnd (inv (.func 28) #[] #[y0] x60.2) fun x67 =>
  bnd (inv (.method "shadowbook/segment.cells") #[] #[x67.1, y8] x67.2) fun x71 =>
  bnd (pExtract x71.1 0) fun x72 =>
  bnd (pExtract x71.1 1) fun x73 =>
  bnd (pBin Tryz.prog .neq 25 (.tmp 74) (.const (.int .i64 0)) x73 (.int .i64 0)) fun x75 =>
  brV x75
  (some (.tuple #[(.string { data:=#[] }),x73],x71.2))
  (bnd (inv (.func 31) #[] #[y8] x71.2) fun x80 =>
  bnd (pMakeFunc (.method "shadowbook/segment.zone") #[x67.1] #[]) fun x81 =>
  bnd (pNilCheck Tryz.prog x81) fun x82 =>
  bnd (inv (.method "shadowbook/segment.zone") #[] #[x67.1, x60.1, x80.1] x80.2) fun x84 =>
  bnd (pAppend Tryz.prog #[33,33] x84.1 x72 x84.2) fun x86 =>
  bnd (pConv Tryz.prog 33 9 x86.1 x86.2) fun x87 =>
  some (.tuple #[x87,(.int .i64 0)],x86.2))))))
theorem F13_eq : eFun env k inv 13 #[x0,x1] h = F13 inv k x0 x1 h:=ks_fun (n:=88) [e13_0,e13_1]
theorem F13_call : eInv env (k + 1) (.func 13) #[] #[x0,x1] h = F13 (eInv env k) k x0 x1 h:=kq_inv F13_eq
/-- shadowbook/segment.Zone -/
noncomputable def F15 (inv : Inv) (k : Nat) (x0 : Value) (h : AH) : Option (Value × AH) :=
  bnd (pAlloc Tryz.prog 38 h) fun x3 =>
  bnd (inv (.func 36) #[] #[x0] x3.2) fun x8 =>
  bnd (pExtract x8.1 0) fun x9 =>
  bnd (pExtract x8.1 1) fun x10 =>
  bnd (pAlloc Tryz.prog 66 x8.2) fun x5 =>
  bnd (kSt (pStore Tryz.prog 66 x5.1 x9 x5.2)) fun u =>
  bnd (pBin Tryz.prog .neq 25 (.tmp 11) (.const (.int .i64 0)) x10 (.int .i64 0)) fun x12 =>
  brV x12
  (bnd (pBuild Tryz.prog 38 #[]) fun x13 =>
  bnd (kSt (pStore Tryz.prog 38 x3.1 x13 u.2)) fun u_1 =>
  bnd (pLoad Tryz.prog 38 x3.1 u_1.2) fun q1 =>
  some (.tuple #[(.int .i64 0),q1,x10],u_1.2))
  (bnd (pFieldAddr Tryz.prog 66 x5.1 0) fun x15 =>
  bnd (pLoad Tryz.prog 3 x15 u.2) fun x16 =>
  bnd (pFieldAddr Tryz.prog 66 x5.1 2) fun x17 =>
  bnd (pLoad Tryz.prog 38 x17 u.2) fun x18 =>
  bnd (kSt (pStore Tryz.prog 38 x3.1 x18 u.2)) fun u_2 =>
  bnd (pLoad Tryz.prog 38 x3.1 u_2.2) fun q1 =>
  some (.tuple #[x16,q1,(.int .i64 0)],u_2.2))
theorem F15_eq : eFun env k inv 15 #[x0] h = F15 inv k x0 h:=ks_fun (n:=19) []
theorem F15_call : eInv env (k + 1) (.func 15) #[] #[x0] h = F15 (eInv env k) k x0 h:=kq_inv F15_eq
noncomputable abbrev G16_1 {β : Type} (inv : Inv) (x1 x2 : Value) (h : AH) (K : Value→AH→Option β) : Option β :=
  bnd (pBin Tryz.prog .lss 3 (.tmp 5) (.const (.int .i64 1)) x1 (.int .i64 1)) fun x6 =>
  bnd (gd (some x6) false h (some (x1,h))) fun x8 =>
  bnd (gd (some x6) false x8.2 (lt (pBin Tryz.prog .gtr 3 (.tmp 8) (.const (.int .i64 3)) x8.1 (.int .i64 3)) x8.2)) fun x9 =>
  bnd (pickV x6 (.bool true) x9.1) fun x10 =>
  bnd (gd (some x10) false x9.2 (lt (pFieldAddr Tryz.prog 38 x2 0) x9.2)) fun x12 =>
  bnd (gd (some x10) false x12.2 (lt (pLoad Tryz.prog 3 x12.1 x12.2) x12.2)) fun x13 =>
  bnd (gd (some x10) false x13.2 (lt (pBin Tryz.prog .lss 3 (.tmp 13) (.const (.int .i64 0)) x13.1 (.int .i64 0)) x13.2)) fun x14 =>
  bnd (pickV x10 (.bool true) x14.1) fun x15 =>
  bnd (gd (some x15) false x14.2 (lt (pFieldAddr Tryz.prog 38 x2 1) x14.2)) fun x17 =>
  bnd (gd (some x15) false x17.2 (lt (pLoad Tryz.prog 3 x17.1 x17.2) x17.2)) fun x18 =>
  bnd (gd (some x15) false x18.2 (lt (pBin Tryz.prog .lss 3 (.tmp 18) (.const (.int .i64 0)) x18.1 (.int .i64 0)) x18.2)) fun x19 =>
  bnd (pickV x15 (.bool true) x19.1) fun x20 =>
  bnd (gd (some x20) false x19.2 (lt (pFieldAddr Tryz.prog 38 x2 1) x19.2)) fun x22 =>
  bnd (gd (some x20) false x22.2 (lt (pLoad Tryz.prog 3 x22.1 x22.2) x22.2)) fun x23 =>
  bnd (gd (some x20) false x23.2 (lt (pFieldAddr Tryz.prog 38 x2 0) x23.2)) fun x24 =>
  bnd (gd (some x20) false x24.2 (lt (pLoad Tryz.prog 3 x24.1 x24.2) x24.2)) fun x25 =>
  bnd (gd (some x20) false x25.2 (lt (pBin Tryz.prog .gtr 3 (.tmp 23) (.tmp 25) x23.1 x25.1) x25.2)) fun x26 =>
  bnd (pickV x20 (.bool true) x26.1) fun x27 =>
  K (x27) x26.2
noncomputable abbrev G16_4 {β : Type} (inv : Inv) (x2 : Value) (h : AH) (K : Value→AH→Option β) : Option β :=
  bnd (pFieldAddr Tryz.prog 38 x2 2) fun x33 =>
  bnd (pLoad Tryz.prog 31 x33 h) fun x34 =>
  bnd (pBuild Tryz.prog 31 #[]) fun x35 =>
  bnd (pBin Tryz.prog .neq 31 (.tmp 34) (.tmp 35) x34 x35) fun x36 =>
  bnd (gd (some x36) false h (lt (pFieldAddr Tryz.prog 38 x2 3) h)) fun x38 =>
  bnd (gd (some x36) false x38.2 (lt (pLoad Tryz.prog 31 x38.1 x38.2) x38.2)) fun x39 =>
  bnd (gd (some x36) false x39.2 (lt (pBuild Tryz.prog 31 #[]) x39.2)) fun x40 =>
  bnd (gd (some x36) false x40.2 (lt (pBin Tryz.prog .neq 31 (.tmp 39) (.tmp 40) x39.1 x40.1) x40.2)) fun x41 =>
  bnd (pickV x36 (.bool true) x41.1) fun x42 =>
  K (x42) x41.2
noncomputable abbrev G16_7 {β : Type} (inv : Inv) (x1 x2 : Value) (h : AH) (K : Value→AH→Option β) : Option β :=
  bnd (pFieldAddr Tryz.prog 38 x2 2) fun x43 =>
  bnd (pFieldAddr Tryz.prog 31 x43 0) fun x44 =>
  bnd (pLoad Tryz.prog 3 x44 h) fun x45 =>
  bnd (pBin Tryz.prog .neq 3 (.tmp 45) (.tmp 46) x45 x1) fun x47 =>
  bnd (gd (some x47) false h (lt (pFieldAddr Tryz.prog 38 x2 3) h)) fun x49 =>
  bnd (gd (some x47) false x49.2 (lt (pFieldAddr Tryz.prog 31 x49.1 0) x49.2)) fun x50 =>
  bnd (gd (some x47) false x50.2 (lt (pLoad Tryz.prog 3 x50.1 x50.2) x50.2)) fun x51 =>
  bnd (gd (some x47) false x51.2 (some (x1,x51.2))) fun x52 =>
  bnd (gd (some x47) false x52.2 (lt (pBin Tryz.prog .neq 3 (.tmp 51) (.tmp 52) x51.1 x52.1) x52.2)) fun x53 =>
  bnd (pickV x47 (.bool true) x53.1) fun x54 =>
  bnd (gd (some x54) false x53.2 (lt (pFieldAddr Tryz.prog 38 x2 2) x53.2)) fun x56 =>
  bnd (gd (some x54) false x56.2 (lt (pLoad Tryz.prog 31 x56.1 x56.2) x56.2)) fun x57 =>
  bnd (gd (some x54) false x57.2 (inv (.func 37) #[] #[x57.1] x57.2)) fun x58 =>
  bnd (gd (some x54) false x58.2 (lt (pBin Tryz.prog .neq 25 (.tmp 58) (.const (.int .i64 0)) x58.1 (.int .i64 0)) x58.2)) fun x59 =>
  bnd (pickV x54 (.bool true) x59.1) fun x60 =>
  bnd (gd (some x60) false x59.2 (lt (pFieldAddr Tryz.prog 38 x2 3) x59.2)) fun x62 =>
  bnd (gd (some x60) false x62.2 (lt (pLoad Tryz.prog 31 x62.1 x62.2) x62.2)) fun x63 =>
  bnd (gd (some x60) false x63.2 (inv (.func 37) #[] #[x63.1] x63.2)) fun x64 =>
  bnd (gd (some x60) false x64.2 (lt (pBin Tryz.prog .neq 25 (.tmp 64) (.const (.int .i64 0)) x64.1 (.int .i64 0)) x64.2)) fun x65 =>
  bnd (pickV x60 (.bool true) x65.1) fun x66 =>
  bnd (gd (some x66) false x65.2 (lt (pFieldAddr Tryz.prog 38 x2 2) x65.2)) fun x68 =>
  bnd (gd (some x66) false x68.2 (lt (pLoad Tryz.prog 31 x68.1 x68.2) x68.2)) fun x69 =>
  bnd (gd (some x66) false x69.2 (lt (pFieldAddr Tryz.prog 38 x2 3) x69.2)) fun x70 =>
  bnd (gd (some x66) false x70.2 (lt (pLoad Tryz.prog 31 x70.1 x70.2) x70.2)) fun x71 =>
  bnd (gd (some x66) false x71.2 (inv (.func 38) #[] #[x69.1,x71.1] x71.2)) fun x72 =>
  bnd (gd (some x66) false x72.2 (lt (pBin Tryz.prog .gtr 3 (.tmp 72) (.const (.int .i64 0)) x72.1 (.int .i64 0)) x72.2)) fun x73 =>
  bnd (pickV x66 (.bool true) x73.1) fun x74 =>
  K (x74) x73.2
/-- shadowbook/shadowbookref09.Check -/
noncomputable def F16 (inv : Inv) (k : Nat) (x0 x1 : Value) (h : AH) : Option (Value × AH) :=
  bnd (pBox Tryz.prog 38 x0 h) fun x2 =>
  G16_1 inv x1 x2.1 x2.2 fun y27 h =>
  brV y27
  (some ((.int .i64 2),h))
  (bnd (pFieldAddr Tryz.prog 38 x2.1 1) fun x28 =>
  bnd (pLoad Tryz.prog 3 x28 h) fun x29 =>
  bnd (pFieldAddr Tryz.prog 38 x2.1 0) fun x30 =>
  bnd (pLoad Tryz.prog 3 x30 h) fun x31 =>
  bnd (pBin Tryz.prog .eql 3 (.tmp 29) (.tmp 31) x29 x31) fun x32 =>
  brV x32
  (G16_4 inv x2.1 h fun y42 h_1 =>
  brV y42
  (some ((.int .i64 2),h_1))
  (some ((.int .i64 0),h_1)))
  (G16_7 inv x1 x2.1 h fun y74 h_2 =>
  brV y74
  (some ((.int .i64 2),h_2))
  (some ((.int .i64 0),h_2))))
theorem F16_eq : eFun env k inv 16 #[x0,x1] h = F16 inv k x0 x1 h:=ks_fun (n:=75) []
theorem F16_call : eInv env (k + 1) (.func 16) #[] #[x0,x1] h = F16 (eInv env k) k x0 x1 h:=kq_inv F16_eq
noncomputable abbrev G17_8 {β : Type} (inv : Inv) (x0 x2 x3 x4 x5 : Value) (h : AH) (K : Value→AH→Option β) : Option β :=
  bnd (gd3 (some x4) false h (some (x0,h))) fun x27 =>
  bnd (gd3 (some x4) false x27.2.1 (some (x5,x27.2.1))) fun x28 =>
  bnd (gd3 (some x4) false x28.2.1 (lt (pIndexAddr Tryz.prog 22 x27.1 x28.1) x28.2.1)) fun x29 =>
  bnd (gd3 (some x4) false x29.2.1 (lt (pLoad Tryz.prog 31 x29.1 x29.2.1) x29.2.1)) fun x30 =>
  bnd (gd3 (some x4) false x30.2.1 (lt (pFieldAddr Tryz.prog 38 x3 2) x30.2.1)) fun x31 =>
  bnd (gd3 (some x4) false x31.2.1 (lt (pLoad Tryz.prog 31 x31.1 x31.2.1) x31.2.1)) fun x32 =>
  bnd (gd3 (some x4) false x32.2.1 (inv (.func 38) #[] #[x30.1,x32.1] x32.2.1)) fun x33 =>
  bnd (gd3 (some x4) false x33.2.1 (lt (pBin Tryz.prog .lss 3 (.tmp 33) (.const (.int .i64 0)) x33.1 (.int .i64 0)) x33.2.1)) fun x34 =>
  bnd (pickV x4 (.bool true) x34.1) fun x35 =>
  K (x35) x34.2.1
noncomputable def F17_rlrllrllrlrrr {β : Type} (inv : Inv) (k : Nat) (x0 x2 x3 x4 x5 x35 : Value) (h : AH) (kn : (Value→Value→Value→Value→Value→Value→AH→Option β)) : Option β :=
  brV x35
  (bnd (pIndexAddr Tryz.prog 22 x0 x5) fun x38 =>
  bnd (pLoad Tryz.prog 31 x38 h) fun x39 =>
  bnd (pFieldAddr Tryz.prog 38 x3 2) fun x40 =>
  bnd (kSt (pStore Tryz.prog 31 x40 x39 h)) fun u =>
  kn x0 x2 x3 x4 x5 unk u.2)
  (kn x0 x2 x3 x4 x5 x35 h)
noncomputable def e17_0 : Ent env 17 false 58:=.jn [] 15653 [0,2,3,4,5,35] [(.normal,[0,2,3,4,5,35])] F17_rlrllrllrlrrr
noncomputable abbrev G17_10 {β : Type} (inv : Inv) (x0 x2 x3 x4 x5 : Value) (h : AH) (K : Value→AH→Option β) : Option β :=
  bnd (gd3 (some x4) false h (some (x0,h))) fun x43 =>
  bnd (gd3 (some x4) false x43.2.1 (some (x5,x43.2.1))) fun x44 =>
  bnd (gd3 (some x4) false x44.2.1 (lt (pIndexAddr Tryz.prog 22 x43.1 x44.1) x44.2.1)) fun x45 =>
  bnd (gd3 (some x4) false x45.2.1 (lt (pLoad Tryz.prog 31 x45.1 x45.2.1) x45.2.1)) fun x46 =>
  bnd (gd3 (some x4) false x46.2.1 (lt (pFieldAddr Tryz.prog 38 x3 3) x46.2.1)) fun x47 =>
  bnd (gd3 (some x4) false x47.2.1 (lt (pLoad Tryz.prog 31 x47.1 x47.2.1) x47.2.1)) fun x48 =>
  bnd (gd3 (some x4) false x48.2.1 (inv (.func 38) #[] #[x46.1,x48.1] x48.2.1)) fun x49 =>
  bnd (gd3 (some x4) false x49.2.1 (lt (pBin Tryz.prog .gtr 3 (.tmp 49) (.const (.int .i64 0)) x49.1 (.int .i64 0)) x49.2.1)) fun x50 =>
  bnd (pickV x4 (.bool true) x50.1) fun x51 =>
  K (x51) x50.2.1
noncomputable def F17_rlrrllrllrlrrr {β : Type} (inv : Inv) (k : Nat) (x0 x2 x3 x5 x51 : Value) (h : AH) (kn : (Value→Value→Value→Value→Value→AH→Option β)) : Option β :=
  brV x51
  (bnd (pIndexAddr Tryz.prog 22 x0 x5) fun x54 =>
  bnd (pLoad Tryz.prog 31 x54 h) fun x55 =>
  bnd (pFieldAddr Tryz.prog 38 x3 3) fun x56 =>
  bnd (kSt (pStore Tryz.prog 31 x56 x55 h)) fun u =>
  kn x0 x2 x3 x5 unk u.2)
  (kn x0 x2 x3 x5 x51 h)
noncomputable def e17_1 : Ent env 17 false 58:=.jn [e17_0] 31309 [0,2,3,5,51] [(.normal,[0,2,3,5,51])] F17_rlrrllrllrlrrr
noncomputable def F17_lrllrlrrr {β : Type} (inv : Inv) (k : Nat) (x0 x2 x3 x4 x5 x12 : Value) (h : AH) (kn : (Value→Value→Value→Value→Value→AH→Option β)) : Option β :=
  bnd (pIndexAddr Tryz.prog 22 x0 x5) fun x17 =>
  bnd (pFieldAddr Tryz.prog 31 x17 0) fun x18 =>
  bnd (pLoad Tryz.prog 3 x18 h) fun x19 =>
  bnd (pBin Tryz.prog .eql 3 (.tmp 19) (.const (.int .i64 0)) x19 (.int .i64 0)) fun x20 =>
  brV x20
  (bnd (pFieldAddr Tryz.prog 38 x3 1) fun x21 =>
  bnd (pLoad Tryz.prog 3 x21 h) fun x22 =>
  bnd (pBin Tryz.prog .add 3 (.tmp 22) (.const (.int .i64 1)) x22 (.int .i64 1)) fun x23 =>
  bnd (pFieldAddr Tryz.prog 38 x3 1) fun x24 =>
  bnd (kSt (pStore Tryz.prog 3 x24 x23 h)) fun u =>
  kn x0 x2 x3 x4 x5 u.2)
  (G17_8 inv x0 x2 x3 x4 x5 h fun y35 h =>
  F17_rlrllrllrlrrr inv k x0 x2 x3 x4 x5 y35 h
  (fun y0 y2 y3 y4 y5 y35_1 h_2 =>
  G17_10 inv y0 y2 y3 y4 y5 h_2 fun y51 h_3 =>
  F17_rlrrllrllrlrrr inv k y0 y2 y3 y5 y51 h_3
  (fun y0_4 y2_5 y3_6 y5_7 y51_8 h_9 =>
  kn y0_4 y2_5 y3_6 (.bool false) y5_7 h_9)))
noncomputable def e17_2 : Ent env 17 false 58:=.jn [e17_0,e17_1] 978 [0,2,3,4,5,12] [(.normal,[0,2,3,4,5])] F17_lrllrlrrr
noncomputable def F17_lrlrrr {β : Type} (inv : Inv) (k : Nat) : Nat→Value→Value→Value→Value→Value→AH→(Value→Value→Value→Value→Value→Value→AH→Option β)→Option β
 | 0,_,_,_,_,_,_,_=>none
 | j + 1,x0,x2,x3,x4,x5,h,ke0 =>
  bnd (pLen Tryz.prog #[22] x0 h) fun x11 =>
  bnd (pBin Tryz.prog .lss 3 (.tmp 9) (.tmp 11) x5 x11) fun x12 =>
  brV x12
  (F17_lrllrlrrr inv k x0 x2 x3 x4 x5 x12 h
  (fun y0 y2 y3 y4 y5 h =>
  bnd (pBin Tryz.prog .add 3 (.tmp 13) (.const (.int .i64 1)) y5 (.int .i64 1)) fun x14 =>
  F17_lrlrrr inv k j y0 y2 y3 y4 x14 h ke0))
  (ke0 x0 x2 x3 x4 x5 x12 h)
noncomputable def e17_3 : Ent env 17 false 58:=.lp [e17_0,e17_1,e17_2] 122 [0,2,3,4,5] [(.exit 0,[0,2,3,4,5,12])] F17_lrlrrr
/-- shadowbook/shadowbookref09.Of -/
noncomputable def F17 (inv : Inv) (k : Nat) (x0 : Value) (h : AH) : Option (Value × AH) :=
  bnd (pAlloc Tryz.prog 38 h) fun x2 =>
  bnd (pLen Tryz.prog #[22] x0 x2.2) fun x7 =>
  bnd (pBuild Tryz.prog 38 #[(0,x7)]) fun x8 =>
  bnd (pAlloc Tryz.prog 38 x2.2) fun x3 =>
  bnd (kSt (pStore Tryz.prog 38 x3.1 x8 x3.2)) fun u =>
  F17_lrlrrr inv k k x0 x2.1 x3.1 (.bool true) (.int .i64 0) u.2
  (fun y0 y2 y3 y4 y5 y12 h =>
  bnd (pLoad Tryz.prog 38 y3 h) fun x57 =>
  bnd (kSt (pStore Tryz.prog 38 y2 x57 h)) fun u_10 =>
  bnd (pLoad Tryz.prog 38 y2 u_10.2) fun q0 =>
  some (q0,u_10.2))
theorem F17_eq : eFun env k inv 17 #[x0] h = F17 inv k x0 h:=ks_fun (n:=58) [e17_0,e17_1,e17_2,e17_3]
theorem F17_call : eInv env (k + 1) (.func 17) #[] #[x0] h = F17 (eInv env k) k x0 h:=kq_inv F17_eq
noncomputable def F27_lrlrrr {β : Type} (inv : Inv) (k : Nat) : Nat→Value→Value→Value→Value→AH→(Value→Value→Value→Value→Value→AH→Option β)→(Value→AH→Option β)→Option β
 | 0,_,_,_,_,_,_,_=>none
 | j + 1,x0,x2,x7,x8,h,ke0,kr =>
  bnd (pLen Tryz.prog #[22] x0 h) fun x15 =>
  bnd (pBin Tryz.prog .lss 3 (.tmp 13) (.tmp 15) x8 x15) fun x16 =>
  brV x16
  (bnd (pIndexAddr Tryz.prog 22 x0 x8) fun x22 =>
  bnd (pFieldAddr Tryz.prog 31 x22 2) fun x23 =>
  bnd (pLoad Tryz.prog 9 x23 h) fun x24 =>
  bnd (pLen Tryz.prog #[9] x24 h) fun x25 =>
  bnd (pBin Tryz.prog .add 3 (.tmp 19) (.tmp 25) x7 x25) fun x26 =>
  bnd (pBin Tryz.prog .gtr 3 (.tmp 27) (.tmp 28) x26 x2) fun x29 =>
  brV x29
  (kr (.bool false) h)
  (bnd (pBin Tryz.prog .add 3 (.tmp 17) (.const (.int .i64 1)) x8 (.int .i64 1)) fun x18 =>
  F27_lrlrrr inv k j x0 x2 x26 x18 h ke0 kr))
  (ke0 x0 x2 x7 x8 x16 h)
noncomputable def e27_0 : Ent env 27 false 30:=.lp [] 122 [0,2,7,8] [(.exit 0,[0,2,7,8,16]),(.ret,[6])] F27_lrlrrr
/-- shadowbook/shadowbookkit.LightCells -/
noncomputable def F27 (inv : Inv) (k : Nat) (x0 x1 x2 : Value) (h : AH) : Option (Value × AH) :=
  bnd (pLen Tryz.prog #[22] x0 h) fun x10 =>
  bnd (pBin Tryz.prog .gtr 3 (.tmp 10) (.tmp 11) x10 x1) fun x12 =>
  brV x12
  (some ((.bool false),h))
  (F27_lrlrrr inv k k x0 x2 (.int .i64 0) (.int .i64 0) h
  (fun y0 y2 y7 y8 y16 h =>
  some ((.bool true),h))
  (fun y6 h_1 =>
  some (y6,h_1)))
theorem F27_eq : eFun env k inv 27 #[x0,x1,x2] h = F27 inv k x0 x1 x2 h:=ks_fun (n:=30) [e27_0]
theorem F27_call : eInv env (k + 1) (.func 27) #[] #[x0,x1,x2] h = F27 (eInv env k) k x0 x1 x2 h:=kq_inv F27_eq
/-- shadowbook/segment.of -/
noncomputable def F28 (inv : Inv) (k : Nat) (x0 : Value) (h : AH) : Option (Value × AH) :=
  bnd (pBin Tryz.prog .eql 3 (.tmp 3) (.const (.int .i64 1)) x0 (.int .i64 1)) fun x5 =>
  brV x5
  (bnd (inv (.func 44) #[] #[] h) fun x6 =>
  bnd (pMakeIface Tryz.prog 86 x6.1) fun x7 =>
  some (x7,x6.2))
  (bnd (pBin Tryz.prog .eql 3 (.tmp 3) (.const (.int .i64 2)) x0 (.int .i64 2)) fun x9 =>
  brV x9
  (bnd (inv (.func 45) #[] #[] h) fun x10 =>
  bnd (pMakeIface Tryz.prog 94 x10.1) fun x11 =>
  some (x11,x10.2))
  (bnd (pBin Tryz.prog .eql 3 (.tmp 3) (.const (.int .i64 3)) x0 (.int .i64 3)) fun x13 =>
  brV x13
  (bnd (inv (.func 46) #[] #[] h) fun x14 =>
  bnd (pMakeIface Tryz.prog 103 x14.1) fun x15 =>
  some (x15,x14.2))
  (some (.nilIface,h))))
theorem F28_eq : eFun env k inv 28 #[x0] h = F28 inv k x0 h:=ks_fun (n:=16) []
theorem F28_call : eInv env (k + 1) (.func 28) #[] #[x0] h = F28 (eInv env k) k x0 h:=kq_inv F28_eq
noncomputable def F29_rlrrr {β : Type} (inv : Inv) (k : Nat) (x1 x3 x12 : Value) (h : AH) (kn : (Value→Value→Value→Value→AH→Option β)) (kr : (Value→AH→Option β)) : Option β :=
  bnd (pBin Tryz.prog .eql 3 (.tmp 12) (.const (.int .i64 0)) x12 (.int .i64 0)) fun x14 =>
  brV x14
  (kn x1 x3 x12 x14 h)
  (bnd (pBin Tryz.prog .eql 3 (.tmp 12) (.const (.int .i64 1)) x12 (.int .i64 1)) fun x16 =>
  brV x16
  (bnd (pFieldAddr Tryz.prog 31 x1 1) fun x17 =>
  bnd (pLoad Tryz.prog 2 x17 h) fun x18 =>
  bnd (pFieldAddr Tryz.prog 31 x3 1) fun x19 =>
  bnd (kSt (pStore Tryz.prog 2 x19 x18 h)) fun u =>
  kn x1 x3 unk unk u.2)
  (bnd (pBin Tryz.prog .eql 3 (.tmp 12) (.const (.int .i64 2)) x12 (.int .i64 2)) fun x21 =>
  brV x21
  (bnd (pFieldAddr Tryz.prog 31 x1 1) fun x22 =>
  bnd (pLoad Tryz.prog 2 x22 h) fun x23 =>
  bnd (pBin Tryz.prog .and 2 (.tmp 23) (.const (.int .i64 1)) x23 (.int .i64 1)) fun x24 =>
  bnd (pFieldAddr Tryz.prog 31 x3 1) fun x25 =>
  bnd (kSt (pStore Tryz.prog 2 x25 x24 h)) fun u_1 =>
  kn x1 x3 unk unk u_1.2)
  (bnd (pBin Tryz.prog .eql 3 (.tmp 12) (.const (.int .i64 3)) x12 (.int .i64 3)) fun x27 =>
  brV x27
  (bnd (pFieldAddr Tryz.prog 31 x1 2) fun x28 =>
  bnd (pLoad Tryz.prog 9 x28 h) fun x29 =>
  bnd (pFieldAddr Tryz.prog 31 x3 2) fun x30 =>
  bnd (kSt (pStore Tryz.prog 9 x30 x29 h)) fun u_2 =>
  kn x1 x3 unk unk u_2.2)
  (kr (.int .i64 2) h))))
noncomputable def e29_0 : Ent env 29 false 34:=.jn [] 61 [1,3,12] [(.normal,[1,3,12,13]),(.ret,[2])] F29_rlrrr
/-- shadowbook/zone.Cell -/
noncomputable def F29 (inv : Inv) (k : Nat) (x0 : Value) (h : AH) : Option (Value × AH) :=
  bnd (pBox Tryz.prog 31 x0 h) fun x1 =>
  bnd (pFieldAddr Tryz.prog 31 x1.1 2) fun x4 =>
  bnd (pLoad Tryz.prog 9 x4 x1.2) fun x5 =>
  bnd (pLen Tryz.prog #[9] x5 x1.2) fun x6 =>
  bnd (pBin Tryz.prog .gtr 3 (.tmp 6) (.const (.int .i64 65536)) x6 (.int .i64 65536)) fun x7 =>
  brV x7
  (some ((.int .i64 3),x1.2))
  (bnd (pFieldAddr Tryz.prog 31 x1.1 0) fun x8 =>
  bnd (pLoad Tryz.prog 3 x8 x1.2) fun x9 =>
  bnd (pBuild Tryz.prog 31 #[(0,x9)]) fun x10 =>
  bnd (pAlloc Tryz.prog 31 x1.2) fun x3 =>
  bnd (kSt (pStore Tryz.prog 31 x3.1 x10 x3.2)) fun u =>
  bnd (pFieldAddr Tryz.prog 31 x1.1 0) fun x11 =>
  bnd (pLoad Tryz.prog 3 x11 u.2) fun x12 =>
  F29_rlrrr inv k x1.1 x3.1 x12 u.2
  (fun y1 y3 y12 y13 h =>
  bnd (pLoad Tryz.prog 31 y3 h) fun x31 =>
  bnd (pLoad Tryz.prog 31 y1 h) fun x32 =>
  bnd (pBin Tryz.prog .neq 31 (.tmp 31) (.tmp 32) x31 x32) fun x33 =>
  brV x33
  (some ((.int .i64 2),h))
  (some ((.int .i64 0),h)))
  (fun y2 h_3 =>
  some (y2,h_3)))
theorem F29_eq : eFun env k inv 29 #[x0] h = F29 inv k x0 h:=ks_fun (n:=34) [e29_0]
theorem F29_call : eInv env (k + 1) (.func 29) #[] #[x0] h = F29 (eInv env k) k x0 h:=kq_inv F29_eq
/-- shadowbook/nulls.Put -/
noncomputable def F30 (inv : Inv) (k : Nat) (x0 : Value) (h : AH) : Option (Value × AH) :=
  bnd (pLen Tryz.prog #[32] x0 h) fun x9 =>
  bnd (pBin Tryz.prog .gtr 3 (.tmp 9) (.const (.int .i64 4096)) x9 (.int .i64 4096)) fun x10 =>
  brV x10
  (some (.tuple #[(.slice none 0 0),(.int .i64 3)],h))
  (bnd (pLen Tryz.prog #[32] x0 h) fun x13 =>
  bnd (pConv Tryz.prog 3 60 x13 h) fun x14 =>
  bnd (inv (.func 47) #[] #[(.slice none 0 0),x14] h) fun x15 =>
  bnd (inv (.func 48) #[] #[x0] x15.2) fun x17 =>
  bnd (pBuildSlice Tryz.prog 33 1 #[(0,x17.1)] x17.2) fun x18 =>
  bnd (pAppend Tryz.prog #[33,33] x15.1 x18.1 x18.2) fun x19 =>
  bnd (inv (.func 48) #[] #[x0] x19.2) fun x21 =>
  bnd (pBin Tryz.prog .neq 5 (.tmp 21) (.const (.int .u8 2)) x21.1 (.int .u8 2)) fun x22 =>
  brV x22
  (some (.tuple #[x19.1,(.int .i64 0)],x21.2))
  (bnd (inv (.func 50) #[] #[x0] x21.2) fun x26 =>
  bnd (inv (.func 49) #[] #[x26.1,(.int .i64 1)] x26.2) fun x27 =>
  bnd (pExtract x27.1 0) fun x28 =>
  bnd (pExtract x27.1 1) fun x29 =>
  bnd (pAppend Tryz.prog #[33,33] x19.1 x28 x27.2) fun x32 =>
  some (.tuple #[x32.1,x29],x32.2)))
theorem F30_eq : eFun env k inv 30 #[x0] h = F30 inv k x0 h:=ks_fun (n:=34) []
theorem F30_call : eInv env (k + 1) (.func 30) #[] #[x0] h = F30 (eInv env k) k x0 h:=kq_inv F30_eq
noncomputable def F31_lrlr {β : Type} (inv : Inv) (k : Nat) : Nat→Value→Value→Value→Value→AH→(Value→Value→Value→Value→Value→AH→Option β)→Option β
 | 0,_,_,_,_,_,_=>none
 | j + 1,x2,x5,x6,x7,h,ke0 =>
  bnd (pBin Tryz.prog .lss 3 (.tmp 7) (.tmp 6) x7 x6) fun x8 =>
  brV x8
  (bnd (pIndexAddr Tryz.prog 22 x5 x7) fun x9 =>
  bnd (pLoad Tryz.prog 31 x9 h) fun x10 =>
  bnd (pAlloc Tryz.prog 31 h) fun x4 =>
  bnd (kSt (pStore Tryz.prog 31 x4.1 x10 x4.2)) fun u =>
  bnd (pLoad Tryz.prog 38 x2 u.2) fun x11 =>
  bnd (pLoad Tryz.prog 31 x4.1 u.2) fun x12 =>
  bnd (inv (.func 52) #[] #[x12] u.2) fun x13 =>
  bnd (inv (.func 51) #[] #[x11,x13.1] x13.2) fun x14 =>
  bnd (kSt (pStore Tryz.prog 38 x2 x14.1 x14.2)) fun u_1 =>
  chkK ((!true || !true || (sameO (pLoad Tryz.prog 38 x2 u.2) x11 && sameO (pLoad Tryz.prog 38 x2 x13.2) x11)) && true) <|
  bnd (pBin Tryz.prog .add 3 (.tmp 7) (.const (.int .i64 1)) x7 (.int .i64 1)) fun x15 =>
  F31_lrlr inv k j x2 x5 x6 x15 u_1.2 ke0)
  (ke0 x2 x5 x6 x7 x8 h)
noncomputable def e31_0 : Ent env 31 false 17:=.lp [] 26 [2,5,6,7] [(.exit 0,[2,5,6,7,8])] F31_lrlr
/-- shadowbook/zone.Of -/
noncomputable def F31 (inv : Inv) (k : Nat) (x0 : Value) (h : AH) : Option (Value × AH) :=
  bnd (pAlloc Tryz.prog 38 h) fun x2 =>
  bnd (pLen Tryz.prog #[22] x0 x2.2) fun x6 =>
  F31_lrlr inv k k x2.1 x0 x6 (.int .i64 0) x2.2
  (fun y2 y5 y6 y7 y8 h =>
  bnd (pLoad Tryz.prog 38 y2 h) fun x16 =>
  bnd (kSt (pStore Tryz.prog 38 y2 x16 h)) fun u =>
  bnd (pLoad Tryz.prog 38 y2 u.2) fun q0 =>
  some (q0,u.2))
theorem F31_eq : eFun env k inv 31 #[x0] h = F31 inv k x0 h:=ks_fun (n:=17) [e31_0]
theorem F31_call : eInv env (k + 1) (.func 31) #[] #[x0] h = F31 (eInv env k) k x0 h:=kq_inv F31_eq
noncomputable abbrev G36_14 {β : Type} (inv : Inv) (x2 x4 x7 : Value) (h : AH) (K : Value→AH→Option β) : Option β :=
  bnd (inv (.method "shadowbook/segment.ends") #[] #[x4, x7] h) fun x56 =>
  bnd (pExtract x56.1 0) fun x57 =>
  bnd (pExtract x56.1 1) fun x58 =>
  bnd (pExtract x56.1 2) fun x59 =>
  bnd (pFieldAddr Tryz.prog 66 x2 2) fun x60 =>
  bnd (pFieldAddr Tryz.prog 38 x60 2) fun x61 =>
  bnd (kSt (pStore Tryz.prog 31 x61 x57 x56.2)) fun u =>
  bnd (pFieldAddr Tryz.prog 66 x2 2) fun x62 =>
  bnd (pFieldAddr Tryz.prog 38 x62 3) fun x63 =>
  bnd (kSt (pStore Tryz.prog 31 x63 x58 u.2)) fun u_6 =>
  K (x59) u_6.2
noncomputable abbrev G36_15 {β : Type} (inv : Inv) (x2 x3 x7 : Value) (h : AH) (K : Value→AH→Option β) : Option β :=
  bnd (pBin Tryz.prog .neq 25 (.tmp 64) (.const (.int .i64 0)) x3 (.int .i64 0)) fun x65 =>
  bnd (gd (some x65) false h (lt (pFieldAddr Tryz.prog 66 x2 2) h)) fun x67 =>
  bnd (gd (some x65) false x67.2 (lt (pLoad Tryz.prog 38 x67.1 x67.2) x67.2)) fun x68 =>
  bnd (gd (some x65) false x68.2 (lt (pFieldAddr Tryz.prog 66 x2 0) x68.2)) fun x69 =>
  bnd (gd (some x65) false x69.2 (lt (pLoad Tryz.prog 3 x69.1 x69.2) x69.2)) fun x70 =>
  bnd (gd (some x65) false x70.2 (inv (.func 59) #[] #[x68.1,x70.1] x70.2)) fun x71 =>
  bnd (gd (some x65) false x71.2 (lt (pBin Tryz.prog .neq 25 (.tmp 71) (.const (.int .i64 0)) x71.1 (.int .i64 0)) x71.2)) fun x72 =>
  bnd (pickV x65 (.bool true) x72.1) fun x73 =>
  K (x73) x72.2
noncomputable def F36_rlrrrrrrrrrr {β : Type} (inv : Inv) (k : Nat) (x2 x4 x7 x52 : Value) (h : AH) (kn : (Value→Value→Value→Value→Value→AH→Option β)) (kr : (Value→Value→AH→Option β)) : Option β :=
  brV x52
  (G36_14 inv x2 x4 x7 h fun y3 h =>
  G36_15 inv x2 y3 x7 h fun y73 h_7 =>
  brV y73
  (bnd (pLoad Tryz.prog 66 x2 h_7) fun x74 =>
  bnd (kSt (pStore Tryz.prog 66 x2 x74 h_7)) fun u =>
  kr x2 (.int .i64 4) u.2)
  (kn x2 unk x7 unk y73 h_7))
  (kn x2 x4 x7 x52 unk h)
noncomputable def e36_0 : Ent env 36 false 85:=.jn [] 8189 [2,4,7,52] [(.normal,[2,4,7,52,73]),(.ret,[2,3])] F36_rlrrrrrrrrrr
/-- shadowbook/segment.open -/
noncomputable def F36 (inv : Inv) (k : Nat) (x0 : Value) (h : AH) : Option (Value × AH) :=
  bnd (pAlloc Tryz.prog 66 h) fun x2 =>
  bnd (pBin Tryz.prog .eql 9 (.tmp 8) (.const (.string { data:=#[] })) x0 (.string { data:=#[] })) fun x9 =>
  brV x9
  (bnd (pLoad Tryz.prog 66 x2.1 x2.2) fun x10 =>
  bnd (kSt (pStore Tryz.prog 66 x2.1 x10 x2.2)) fun u =>
  bnd (pLoad Tryz.prog 66 x2.1 u.2) fun q0 =>
  some (.tuple #[q0,(.int .i64 4)],u.2))
  (bnd (pIndex Tryz.prog 9 x0 (.int .i64 0)) fun x12 =>
  bnd (pConv Tryz.prog 5 3 x12 x2.2) fun x13 =>
  bnd (pFieldAddr Tryz.prog 66 x2.1 0) fun x14 =>
  bnd (kSt (pStore Tryz.prog 3 x14 x13 x2.2)) fun u_1 =>
  bnd (pFieldAddr Tryz.prog 66 x2.1 0) fun x15 =>
  bnd (pLoad Tryz.prog 3 x15 u_1.2) fun x16 =>
  bnd (inv (.func 28) #[] #[x16] u_1.2) fun x17 =>
  bnd (pBin Tryz.prog .eql 54 (.tmp 18) (.const .nilIface) x17.1 .nilIface) fun x19 =>
  brV x19
  (bnd (pLoad Tryz.prog 66 x2.1 x17.2) fun x20 =>
  bnd (kSt (pStore Tryz.prog 66 x2.1 x20 x17.2)) fun u_2 =>
  bnd (pLoad Tryz.prog 66 x2.1 u_2.2) fun q0 =>
  some (.tuple #[q0,(.int .i64 4)],u_2.2))
  (bnd (pSlice Tryz.prog 9 x0 (some (.int .i64 1)) none none x17.2) fun x23 =>
  bnd (pBytes Tryz.prog 9 33 x23 x17.2) fun x24 =>
  bnd (inv (.func 56) #[] #[x24.1] x24.2) fun x25 =>
  bnd (pExtract x25.1 0) fun x26 =>
  bnd (pExtract x25.1 1) fun x27 =>
  bnd (pExtract x25.1 2) fun x28 =>
  bnd (pBin Tryz.prog .neq 25 (.tmp 29) (.const (.int .i64 0)) x28 (.int .i64 0)) fun x30 =>
  brV x30
  (bnd (pLoad Tryz.prog 66 x2.1 x25.2) fun x31 =>
  bnd (kSt (pStore Tryz.prog 66 x2.1 x31 x25.2)) fun u_3 =>
  bnd (pLoad Tryz.prog 66 x2.1 u_3.2) fun q0 =>
  some (.tuple #[q0,(.int .i64 4)],u_3.2))
  (bnd (pFieldAddr Tryz.prog 66 x2.1 1) fun x33 =>
  bnd (kSt (pStore Tryz.prog 32 x33 x26 x25.2)) fun u_4 =>
  bnd (pLen Tryz.prog #[32] x26 u_4.2) fun x35 =>
  bnd (inv (.func 57) #[] #[x26] u_4.2) fun x37 =>
  bnd (pBuild Tryz.prog 38 #[(0,x35),(1,x37.1)]) fun x38 =>
  bnd (pFieldAddr Tryz.prog 66 x2.1 2) fun x39 =>
  bnd (kSt (pStore Tryz.prog 38 x39 x38 x37.2)) fun u_5 =>
  bnd (pBin Tryz.prog .add 3 (.const (.int .i64 1)) (.tmp 41) (.int .i64 1) x27) fun x42 =>
  bnd (pSlice Tryz.prog 9 x0 (some x42) none none u_5.2) fun x43 =>
  bnd (pBytes Tryz.prog 9 33 x43 u_5.2) fun x44 =>
  bnd (inv (.func 58) #[] #[x44.1] x44.2) fun x45 =>
  bnd (pFieldAddr Tryz.prog 66 x2.1 2) fun x46 =>
  bnd (pFieldAddr Tryz.prog 38 x46 0) fun x47 =>
  bnd (pLoad Tryz.prog 3 x47 x45.2) fun x48 =>
  bnd (pFieldAddr Tryz.prog 66 x2.1 2) fun x49 =>
  bnd (pFieldAddr Tryz.prog 38 x49 1) fun x50 =>
  bnd (pLoad Tryz.prog 3 x50 x45.2) fun x51 =>
  bnd (pBin Tryz.prog .neq 3 (.tmp 48) (.tmp 51) x48 x51) fun x52 =>
  F36_rlrrrrrrrrrr inv k x2.1 x17.1 x45.1 x52 x45.2
  (fun y2 y4 y7 y52 y73 h =>
  bnd (inv (.func 61) #[] #[y7] h) fun x78 =>
  bnd (inv (.func 60) #[] #[y7,x78.1] x78.2) fun x79 =>
  bnd (pExtract x79.1 0) fun x80 =>
  bnd (pExtract x79.1 1) fun x81 =>
  bnd (pFieldAddr Tryz.prog 66 y2 3) fun x82 =>
  bnd (kSt (pStore Tryz.prog 33 x82 x80 x79.2)) fun u_8 =>
  bnd (pLoad Tryz.prog 66 y2 u_8.2) fun x83 =>
  bnd (kSt (pStore Tryz.prog 66 y2 x83 u_8.2)) fun u_9 =>
  bnd (pLoad Tryz.prog 66 y2 u_9.2) fun q0 =>
  some (.tuple #[q0,x81],u_9.2))
  (fun y2_10 y3 h_11 =>
  bnd (pLoad Tryz.prog 66 y2_10 h_11) fun q0 =>
  some (.tuple #[q0,y3],h_11)))))
theorem F36_eq : eFun env k inv 36 #[x0] h = F36 inv k x0 h:=ks_fun (n:=85) [e36_0]
theorem F36_call : eInv env (k + 1) (.func 36) #[] #[x0] h = F36 (eInv env k) k x0 h:=kq_inv F36_eq
noncomputable abbrev G37_6 {β : Type} (inv : Inv) (x1 : Value) (h : AH) (K : Value→AH→Option β) : Option β :=
  bnd (pFieldAddr Tryz.prog 31 x1 1) fun x12 =>
  bnd (pLoad Tryz.prog 2 x12 h) fun x13 =>
  bnd (pBin Tryz.prog .eql 2 (.tmp 13) (.const (.int .i64 0)) x13 (.int .i64 0)) fun x14 =>
  bnd (gd (some x14) true h (lt (pFieldAddr Tryz.prog 31 x1 2) h)) fun x16 =>
  bnd (gd (some x14) true x16.2 (lt (pLoad Tryz.prog 9 x16.1 x16.2) x16.2)) fun x17 =>
  bnd (gd (some x14) true x17.2 (lt (pBin Tryz.prog .eql 9 (.tmp 17) (.const (.string { data:=#[] })) x17.1 (.string { data:=#[] })) x17.2)) fun x18 =>
  bnd (pickV x14 x18.1 (.bool false)) fun x19 =>
  K (x19) x18.2
noncomputable abbrev G37_10 {β : Type} (inv : Inv) (x1 : Value) (h : AH) (K : Value→AH→Option β) : Option β :=
  bnd (pFieldAddr Tryz.prog 31 x1 1) fun x27 =>
  bnd (pLoad Tryz.prog 2 x27 h) fun x28 =>
  bnd (pBin Tryz.prog .eql 2 (.tmp 28) (.const (.int .i64 0)) x28 (.int .i64 0)) fun x29 =>
  bnd (gd (some x29) false h (lt (pFieldAddr Tryz.prog 31 x1 1) h)) fun x31 =>
  bnd (gd (some x29) false x31.2 (lt (pLoad Tryz.prog 2 x31.1 x31.2) x31.2)) fun x32 =>
  bnd (gd (some x29) false x32.2 (lt (pBin Tryz.prog .eql 2 (.tmp 32) (.const (.int .i64 1)) x32.1 (.int .i64 1)) x32.2)) fun x33 =>
  bnd (pickV x29 (.bool true) x33.1) fun x34 =>
  bnd (gd (some x34) true x33.2 (lt (pFieldAddr Tryz.prog 31 x1 2) x33.2)) fun x36 =>
  bnd (gd (some x34) true x36.2 (lt (pLoad Tryz.prog 9 x36.1 x36.2) x36.2)) fun x37 =>
  bnd (gd (some x34) true x37.2 (lt (pBin Tryz.prog .eql 9 (.tmp 37) (.const (.string { data:=#[] })) x37.1 (.string { data:=#[] })) x37.2)) fun x38 =>
  bnd (pickV x34 x38.1 (.bool false)) fun x39 =>
  K (x39) x38.2
noncomputable def F37_rlrrr {β : Type} (inv : Inv) (k : Nat) (x1 x3 x9 : Value) (h : AH) (kn : (Value→Value→Value→AH→Option β)) : Option β :=
  bnd (pBin Tryz.prog .eql 3 (.tmp 9) (.const (.int .i64 0)) x9 (.int .i64 0)) fun x11 =>
  brV x11
  (G37_6 inv x1 h fun y3 h =>
  kn unk y3 unk h)
  (bnd (pBin Tryz.prog .eql 3 (.tmp 9) (.const (.int .i64 1)) x9 (.int .i64 1)) fun x21 =>
  brV x21
  (bnd (pFieldAddr Tryz.prog 31 x1 2) fun x22 =>
  bnd (pLoad Tryz.prog 9 x22 h) fun x23 =>
  bnd (pBin Tryz.prog .eql 9 (.tmp 23) (.const (.string { data:=#[] })) x23 (.string { data:=#[] })) fun x24 =>
  kn unk x24 unk h)
  (bnd (pBin Tryz.prog .eql 3 (.tmp 9) (.const (.int .i64 2)) x9 (.int .i64 2)) fun x26 =>
  brV x26
  (G37_10 inv x1 h fun y3_1 h_2 =>
  kn unk y3_1 unk h_2)
  (bnd (pBin Tryz.prog .eql 3 (.tmp 9) (.const (.int .i64 3)) x9 (.int .i64 3)) fun x41 =>
  brV x41
  (bnd (pFieldAddr Tryz.prog 31 x1 1) fun x42 =>
  bnd (pLoad Tryz.prog 2 x42 h) fun x43 =>
  bnd (pBin Tryz.prog .eql 2 (.tmp 43) (.const (.int .i64 0)) x43 (.int .i64 0)) fun x44 =>
  kn unk x44 unk h)
  (kn x1 x3 x41 h))))
noncomputable def e37_0 : Ent env 37 false 47:=.jn [] 61 [1,3,9] [(.normal,[1,3,40])] F37_rlrrr
/-- shadowbook/shadowbookref09.Cell -/
noncomputable def F37 (inv : Inv) (k : Nat) (x0 : Value) (h : AH) : Option (Value × AH) :=
  bnd (pBox Tryz.prog 31 x0 h) fun x1 =>
  bnd (pFieldAddr Tryz.prog 31 x1.1 2) fun x4 =>
  bnd (pLoad Tryz.prog 9 x4 x1.2) fun x5 =>
  bnd (pLen Tryz.prog #[9] x5 x1.2) fun x6 =>
  bnd (pBin Tryz.prog .gtr 3 (.tmp 6) (.const (.int .i64 65536)) x6 (.int .i64 65536)) fun x7 =>
  brV x7
  (some ((.int .i64 3),x1.2))
  (bnd (pFieldAddr Tryz.prog 31 x1.1 0) fun x8 =>
  bnd (pLoad Tryz.prog 3 x8 x1.2) fun x9 =>
  F37_rlrrr inv k x1.1 (.bool false) x9 x1.2
  (fun y1 y3 y40 h =>
  bnd (pUn Tryz.prog .not y3) fun x46 =>
  brV x46
  (some ((.int .i64 2),h))
  (some ((.int .i64 0),h))))
theorem F37_eq : eFun env k inv 37 #[x0] h = F37 inv k x0 h:=ks_fun (n:=47) [e37_0]
theorem F37_call : eInv env (k + 1) (.func 37) #[] #[x0] h = F37 (eInv env k) k x0 h:=kq_inv F37_eq
/-- shadowbook/shadowbookref09.Compare -/
noncomputable def F38 (inv : Inv) (k : Nat) (x0 x1 : Value) (h : AH) : Option (Value × AH) :=
  bnd (pBox Tryz.prog 31 x0 h) fun x2 =>
  bnd (pBox Tryz.prog 31 x1 x2.2) fun x3 =>
  bnd (pFieldAddr Tryz.prog 31 x2.1 0) fun x6 =>
  bnd (pLoad Tryz.prog 3 x6 x3.2) fun x7 =>
  bnd (pFieldAddr Tryz.prog 31 x3.1 0) fun x8 =>
  bnd (pLoad Tryz.prog 3 x8 x3.2) fun x9 =>
  bnd (pBin Tryz.prog .neq 3 (.tmp 7) (.tmp 9) x7 x9) fun x10 =>
  brV x10
  (bnd (pFieldAddr Tryz.prog 31 x2.1 0) fun x11 =>
  bnd (pLoad Tryz.prog 3 x11 x3.2) fun x12 =>
  bnd (pFieldAddr Tryz.prog 31 x3.1 0) fun x13 =>
  bnd (pLoad Tryz.prog 3 x13 x3.2) fun x14 =>
  bnd (pBin Tryz.prog .lss 3 (.tmp 12) (.tmp 14) x12 x14) fun x15 =>
  brV x15
  (some ((.int .i64 (-1)),x3.2))
  (some ((.int .i64 1),x3.2)))
  (bnd (pFieldAddr Tryz.prog 31 x2.1 1) fun x17 =>
  bnd (pLoad Tryz.prog 2 x17 x3.2) fun x18 =>
  bnd (pFieldAddr Tryz.prog 31 x3.1 1) fun x19 =>
  bnd (pLoad Tryz.prog 2 x19 x3.2) fun x20 =>
  bnd (pBin Tryz.prog .neq 2 (.tmp 18) (.tmp 20) x18 x20) fun x21 =>
  brV x21
  (bnd (pFieldAddr Tryz.prog 31 x2.1 1) fun x22 =>
  bnd (pLoad Tryz.prog 2 x22 x3.2) fun x23 =>
  bnd (pFieldAddr Tryz.prog 31 x3.1 1) fun x24 =>
  bnd (pLoad Tryz.prog 2 x24 x3.2) fun x25 =>
  bnd (pBin Tryz.prog .lss 2 (.tmp 23) (.tmp 25) x23 x25) fun x26 =>
  brV x26
  (some ((.int .i64 (-1)),x3.2))
  (some ((.int .i64 1),x3.2)))
  (bnd (pFieldAddr Tryz.prog 31 x2.1 2) fun x28 =>
  bnd (pLoad Tryz.prog 9 x28 x3.2) fun x29 =>
  bnd (pFieldAddr Tryz.prog 31 x3.1 2) fun x30 =>
  bnd (pLoad Tryz.prog 9 x30 x3.2) fun x31 =>
  bnd (pBin Tryz.prog .neq 9 (.tmp 29) (.tmp 31) x29 x31) fun x32 =>
  brV x32
  (bnd (pFieldAddr Tryz.prog 31 x2.1 2) fun x33 =>
  bnd (pLoad Tryz.prog 9 x33 x3.2) fun x34 =>
  bnd (pFieldAddr Tryz.prog 31 x3.1 2) fun x35 =>
  bnd (pLoad Tryz.prog 9 x35 x3.2) fun x36 =>
  bnd (pBin Tryz.prog .lss 9 (.tmp 34) (.tmp 36) x34 x36) fun x37 =>
  brV x37
  (some ((.int .i64 (-1)),x3.2))
  (some ((.int .i64 1),x3.2)))
  (some ((.int .i64 0),x3.2))))
theorem F38_eq : eFun env k inv 38 #[x0,x1] h = F38 inv k x0 x1 h:=ks_fun (n:=38) []
theorem F38_call : eInv env (k + 1) (.func 38) #[] #[x0,x1] h = F38 (eInv env k) k x0 x1 h:=kq_inv F38_eq
/-- shadowbook/segment.numbers -/
noncomputable def F44 (inv : Inv) (k : Nat) (h : AH) : Option (Value × AH) :=
  bnd (pAlloc Tryz.prog 86 h) fun x0 =>
  bnd (pBuild Tryz.prog 86 #[(0,(.func (.func 72) #[] #[])),(1,(.func (.func 73) #[] #[])),(2,(.func (.func 74) #[] #[])),(3,(.func (.func 76) #[] #[])),(4,(.func (.func 78) #[] #[])),(5,(.func (.func 79) #[] #[]))]) fun x1 =>
  bnd (kSt (pStore Tryz.prog 86 x0.1 x1 x0.2)) fun u =>
  bnd (pLoad Tryz.prog 86 x0.1 u.2) fun q0 =>
  some (q0,u.2)
theorem F44_eq : eFun env k inv 44 #[] h = F44 inv k  h:=ks_fun (n:=2) []
theorem F44_call : eInv env (k + 1) (.func 44) #[] #[] h = F44 (eInv env k) k  h:=kq_inv F44_eq
/-- shadowbook/segment.truths -/
noncomputable def F45 (inv : Inv) (k : Nat) (h : AH) : Option (Value × AH) :=
  bnd (pAlloc Tryz.prog 94 h) fun x0 =>
  bnd (pBuild Tryz.prog 94 #[(0,(.func (.func 81) #[] #[])),(1,(.func (.func 82) #[] #[])),(2,(.func (.func 83) #[] #[])),(3,(.func (.func 84) #[] #[])),(4,(.func (.func 85) #[] #[])),(5,(.func (.func 86) #[] #[]))]) fun x1 =>
  bnd (kSt (pStore Tryz.prog 94 x0.1 x1 x0.2)) fun u =>
  bnd (pLoad Tryz.prog 94 x0.1 u.2) fun q0 =>
  some (q0,u.2)
theorem F45_eq : eFun env k inv 45 #[] h = F45 inv k  h:=ks_fun (n:=2) []
theorem F45_call : eInv env (k + 1) (.func 45) #[] #[] h = F45 (eInv env k) k  h:=kq_inv F45_eq
/-- shadowbook/segment.words -/
noncomputable def F46 (inv : Inv) (k : Nat) (h : AH) : Option (Value × AH) :=
  bnd (pAlloc Tryz.prog 103 h) fun x0 =>
  bnd (pBuild Tryz.prog 103 #[(0,(.func (.func 88) #[] #[])),(1,(.func (.func 89) #[] #[])),(2,(.func (.func 90) #[] #[])),(3,(.func (.func 91) #[] #[])),(4,(.func (.func 93) #[] #[])),(5,(.func (.func 94) #[] #[]))]) fun x1 =>
  bnd (kSt (pStore Tryz.prog 103 x0.1 x1 x0.2)) fun u =>
  bnd (pLoad Tryz.prog 103 x0.1 u.2) fun q0 =>
  some (q0,u.2)
theorem F46_eq : eFun env k inv 46 #[] h = F46 inv k  h:=ks_fun (n:=2) []
theorem F46_call : eInv env (k + 1) (.func 46) #[] #[] h = F46 (eInv env k) k  h:=kq_inv F46_eq
noncomputable def F47_llr {β : Type} (inv : Inv) (k : Nat) : Nat→Value→Value→AH→(Value→Value→Value→AH→Option β)→Option β
 | 0,_,_,_,_=>none
 | j + 1,x0,x1,h,ke0 =>
  bnd (pBin Tryz.prog .geq 60 (.tmp 5) (.const (.int .u64 128)) x1 (.int .u64 128)) fun x6 =>
  brV x6
  (bnd (pConv Tryz.prog 60 5 x1 h) fun x11 =>
  bnd (pBin Tryz.prog .or 5 (.tmp 11) (.const (.int .u8 128)) x11 (.int .u8 128)) fun x12 =>
  bnd (pBuildSlice Tryz.prog 33 1 #[(0,x12)] h) fun x13 =>
  bnd (pAppend Tryz.prog #[33,33] x0 x13.1 x13.2) fun x14 =>
  bnd (pBin Tryz.prog .shr 60 (.tmp 7) (.const (.int .u64 7)) x1 (.int .u64 7)) fun x8 =>
  F47_llr inv k j x14.1 x8 x14.2 ke0)
  (ke0 x0 x1 x6 h)
noncomputable def e47_0 : Ent env 47 false 20:=.lp [] 12 [0,1] [(.exit 0,[0,1,6])] F47_llr
/-- shadowbook/octet.PutVar -/
noncomputable def F47 (inv : Inv) (k : Nat) (x0 x1 : Value) (h : AH) : Option (Value × AH) :=
  F47_llr inv k k x0 x1 h
  (fun y0 y1 y6 h =>
  bnd (pConv Tryz.prog 60 5 y1 h) fun x17 =>
  bnd (pBuildSlice Tryz.prog 33 1 #[(0,x17)] h) fun x18 =>
  bnd (pAppend Tryz.prog #[33,33] y0 x18.1 x18.2) fun x19 =>
  some (x19.1,x19.2))
theorem F47_eq : eFun env k inv 47 #[x0,x1] h = F47 inv k x0 x1 h:=ks_fun (n:=20) [e47_0]
theorem F47_call : eInv env (k + 1) (.func 47) #[] #[x0,x1] h = F47 (eInv env k) k x0 x1 h:=kq_inv F47_eq
/-- (shadowbook/nulls.flags).form -/
noncomputable def F48 (inv : Inv) (k : Nat) (x0 : Value) (h : AH) : Option (Value × AH) :=
  bnd (inv (.func 96) #[] #[x0] h) fun x4 =>
  bnd (pBin Tryz.prog .eql 3 (.tmp 4) (.const (.int .i64 0)) x4.1 (.int .i64 0)) fun x6 =>
  brV x6
  (some ((.int .u8 0),x4.2))
  (bnd (pLen Tryz.prog #[105] x0 x4.2) fun x9 =>
  bnd (pBin Tryz.prog .eql 3 (.tmp 4) (.tmp 9) x4.1 x9) fun x10 =>
  brV x10
  (some ((.int .u8 1),x4.2))
  (some ((.int .u8 2),x4.2)))
theorem F48_eq : eFun env k inv 48 #[x0] h = F48 inv k x0 h:=ks_fun (n:=11) []
theorem F48_call : eInv env (k + 1) (.func 48) #[] #[x0] h = F48 (eInv env k) k x0 h:=kq_inv F48_eq
noncomputable def F49_lrrllrrllrlrrrrrr {β : Type} (inv : Inv) (k : Nat) : Nat→Value→Value→Value→Value→Value→Value→Value→Value→Value→Value→Value→AH→(Value→Value→Value→Value→Value→Value→Value→Value→Value→Value→Value→Value→AH→Option β)→Option β
 | 0,_,_,_,_,_,_,_,_,_,_,_,_,_=>none
 | j + 1,x1,x6,x7,x8,x9,x11,x29,x30,x31,x35,x36,h,ke3 =>
  bnd (pBin Tryz.prog .lss 3 (.tmp 36) (.tmp 35) x36 x35) fun x37 =>
  brV x37
  (bnd (pBin Tryz.prog .and 60 (.tmp 39) (.const (.int .u64 1)) x11 (.int .u64 1)) fun x40 =>
  bnd (pConv Tryz.prog 60 5 x40 h) fun x41 =>
  bnd (callV inv x9 #[x41] h) fun x42 =>
  bnd (pBin Tryz.prog .shr 60 (.tmp 43) (.const (.int .u64 1)) x11 (.int .u64 1)) fun x44 =>
  bnd (pBin Tryz.prog .add 3 (.tmp 36) (.const (.int .i64 1)) x36 (.int .i64 1)) fun x45 =>
  F49_lrrllrrllrlrrrrrr inv k j x1 x6 x7 x8 x9 x44 x29 x30 x31 x35 x45 x42.2 ke3)
  (ke3 x1 x6 x7 x8 x9 x11 x29 x30 x31 x35 x36 x37 h)
noncomputable def e49_0 : Ent env 49 false 54:=.lp [] 260710 [1,6,7,8,9,11,29,30,31,35,36] [(.exit 3,[1,6,7,8,9,11,29,30,31,35,36,37])] F49_lrrllrrllrlrrrrrr
noncomputable def F49_lrlrrrrrr {β : Type} (inv : Inv) (k : Nat) : Nat→Value→Value→Value→Value→Value→Value→Value→Value→AH→(Value→Value→Value→Value→Value→Value→Value→Value→Value→AH→Option β)→Option β
 | 0,_,_,_,_,_,_,_,_,_,_=>none
 | j + 1,x1,x6,x7,x8,x9,x29,x30,x31,h,ke1 =>
  bnd (pBin Tryz.prog .lss 3 (.tmp 31) (.tmp 30) x31 x30) fun x32 =>
  brV x32
  (bnd (pIndexAddr Tryz.prog 63 x29 x31) fun x33 =>
  bnd (pLoad Tryz.prog 60 x33 h) fun x34 =>
  F49_lrrllrrllrlrrrrrr inv k k x1 x6 x7 x8 x9 x34 x29 x30 x31 x1 (.int .i64 0) h
  (fun y1 y6 y7 y8 y9 y11 y29 y30 y31 y35 y36 y37 h =>
  bnd (pBin Tryz.prog .add 3 (.tmp 31) (.const (.int .i64 1)) y31 (.int .i64 1)) fun x46 =>
  F49_lrlrrrrrr inv k j y1 y6 y7 y8 y9 y29 y30 x46 h ke1))
  (ke1 x1 x6 x7 x8 x9 x29 x30 x31 x32 h)
noncomputable def e49_1 : Ent env 49 false 54:=.lp [e49_0] 1018 [1,6,7,8,9,29,30,31] [(.exit 1,[1,6,7,8,9,29,30,31,32])] F49_lrlrrrrrr
noncomputable def F49_rlrrrrrrr {β : Type} (inv : Inv) (k : Nat) (x6 x7 x48 : Value) (h : AH) (kn : (Value→Value→Value→AH→Option β)) : Option β :=
  brV x48
  (bnd (pLoad Tryz.prog 33 x6 h) fun x49 =>
  bnd (pLoad Tryz.prog 5 x7 h) fun x50 =>
  bnd (pBuildSlice Tryz.prog 33 1 #[(0,x50)] h) fun x51 =>
  bnd (pAppend Tryz.prog #[33,33] x49 x51.1 x51.2) fun x52 =>
  bnd (kSt (pStore Tryz.prog 33 x6 x52.1 x52.2)) fun u =>
  kn x6 unk unk u.2)
  (kn x6 x7 x48 h)
noncomputable def e49_2 : Ent env 49 false 54:=.jn [e49_0,e49_1] 1021 [6,7,48] [(.normal,[6,7,48])] F49_rlrrrrrrr
/-- shadowbook/packs.Put -/
noncomputable def F49 (inv : Inv) (k : Nat) (x0 x1 : Value) (h : AH) : Option (Value × AH) :=
  bnd (pLen Tryz.prog #[63] x0 h) fun x14 =>
  bnd (inv (.func 97) #[] #[x14,x1] h) fun x16 =>
  bnd (pUn Tryz.prog .not x16.1) fun x17 =>
  brV x17
  (some (.tuple #[(.slice none 0 0),(.int .i64 2)],x16.2))
  (bnd (inv (.func 98) #[] #[x0] x16.2) fun x20 =>
  bnd (pBin Tryz.prog .gtr 3 (.tmp 20) (.tmp 21) x20.1 x1) fun x22 =>
  brV x22
  (some (.tuple #[(.slice none 0 0),(.int .i64 3)],x20.2))
  (bnd (pLen Tryz.prog #[63] x0 x20.2) fun x24 =>
  bnd (inv (.func 99) #[] #[x24,x1] x20.2) fun x26 =>
  bnd (pMakeSlice Tryz.prog 33 (.int .i64 0) x26.1 x26.2) fun x27 =>
  bnd (pAlloc Tryz.prog 33 x27.2) fun x6 =>
  bnd (kSt (pStore Tryz.prog 33 x6.1 x27.1 x6.2)) fun u =>
  bnd (pAlloc Tryz.prog 5 u.2) fun x7 =>
  bnd (pAlloc Tryz.prog 3 x7.2) fun x8 =>
  bnd (kSt (pStore Tryz.prog 3 x8.1 (.int .i64 0) x8.2)) fun u_1 =>
  bnd (pMakeFunc (.func 100) #[] #[x7.1,x8.1,x6.1]) fun x28 =>
  bnd (pLen Tryz.prog #[63] x0 u_1.2) fun x30 =>
  F49_lrlrrrrrr inv k k x1 x6.1 x7.1 x8.1 x28 x0 x30 (.int .i64 0) u_1.2
  (fun y1 y6 y7 y8 y9 y29 y30 y31 y32 h =>
  bnd (pLoad Tryz.prog 3 y8 h) fun x47 =>
  bnd (pBin Tryz.prog .gtr 3 (.tmp 47) (.const (.int .i64 0)) x47 (.int .i64 0)) fun x48 =>
  F49_rlrrrrrrr inv k y6 y7 x48 h
  (fun y6_2 y7_3 y48 h_4 =>
  bnd (pLoad Tryz.prog 33 y6_2 h_4) fun x53 =>
  some (.tuple #[x53,(.int .i64 0)],h_4)))))
theorem F49_eq : eFun env k inv 49 #[x0,x1] h = F49 inv k x0 x1 h:=ks_fun (n:=54) [e49_0,e49_1,e49_2]
theorem F49_call : eInv env (k + 1) (.func 49) #[] #[x0,x1] h = F49 (eInv env k) k x0 x1 h:=kq_inv F49_eq
noncomputable def F50_lrrllrlrr {β : Type} (inv : Inv) (k : Nat) (x3 x9 x10 x11 x12 : Value) (h : AH) (kn : (Value→Value→Value→Value→Value→Value→AH→Option β)) : Option β :=
  bnd (pIndexAddr Tryz.prog 105 x9 x11) fun x14 =>
  bnd (pLoad Tryz.prog 4 x14 h) fun x15 =>
  brV x15
  (bnd (pIndexAddr Tryz.prog 63 x3 x11) fun x19 =>
  bnd (kSt (pStore Tryz.prog 60 x19 (.int .u64 1) h)) fun u =>
  kn x3 unk x9 x10 x11 unk u.2)
  (kn x3 x11 x9 x10 x11 x15 h)
noncomputable def e50_0 : Ent env 50 false 22:=.jn [] 934 [3,9,10,11,12] [(.normal,[3,4,9,10,11,16])] F50_lrrllrlrr
noncomputable def F50_lrlrr {β : Type} (inv : Inv) (k : Nat) : Nat→Value→Value→Value→Value→AH→(Value→Value→Value→Value→Value→AH→Option β)→Option β
 | 0,_,_,_,_,_,_=>none
 | j + 1,x3,x9,x10,x11,h,ke0 =>
  bnd (pBin Tryz.prog .lss 3 (.tmp 11) (.tmp 10) x11 x10) fun x12 =>
  brV x12
  (F50_lrrllrlrr inv k x3 x9 x10 x11 x12 h
  (fun y3 y4 y9 y10 y11 y16 h =>
  bnd (pBin Tryz.prog .add 3 (.tmp 11) (.const (.int .i64 1)) y11 (.int .i64 1)) fun x20 =>
  F50_lrlrr inv k j y3 y9 y10 x20 h ke0))
  (ke0 x3 x9 x10 x11 x12 h)
noncomputable def e50_1 : Ent env 50 false 22:=.lp [e50_0] 58 [3,9,10,11] [(.exit 0,[3,9,10,11,12])] F50_lrlrr
/-- (shadowbook/nulls.flags).numbers -/
noncomputable def F50 (inv : Inv) (k : Nat) (x0 : Value) (h : AH) : Option (Value × AH) :=
  bnd (pLen Tryz.prog #[105] x0 h) fun x7 =>
  bnd (pMakeSlice Tryz.prog 63 x7 x7 h) fun x8 =>
  bnd (pLen Tryz.prog #[105] x0 x8.2) fun x10 =>
  F50_lrlrr inv k k x8.1 x0 x10 (.int .i64 0) x8.2
  (fun y3 y9 y10 y11 y12 h =>
  some (y3,h))
theorem F50_eq : eFun env k inv 50 #[x0] h = F50 inv k x0 h:=ks_fun (n:=22) [e50_0,e50_1]
theorem F50_call : eInv env (k + 1) (.func 50) #[] #[x0] h = F50 (eInv env k) k x0 h:=kq_inv F50_eq
noncomputable abbrev G51_1 {β : Type} (inv : Inv) (x2 x3 x4 : Value) (h : AH) (K : Value→AH→Option β) : Option β :=
  bnd (pFieldAddr Tryz.prog 38 x2 0) fun x6 =>
  bnd (pLoad Tryz.prog 3 x6 h) fun x7 =>
  bnd (pFieldAddr Tryz.prog 38 x3 0) fun x8 =>
  bnd (pLoad Tryz.prog 3 x8 h) fun x9 =>
  bnd (pBin Tryz.prog .add 3 (.tmp 7) (.tmp 9) x7 x9) fun x10 =>
  bnd (pFieldAddr Tryz.prog 38 x2 1) fun x11 =>
  bnd (pLoad Tryz.prog 3 x11 h) fun x12 =>
  bnd (pFieldAddr Tryz.prog 38 x3 1) fun x13 =>
  bnd (pLoad Tryz.prog 3 x13 h) fun x14 =>
  bnd (pBin Tryz.prog .add 3 (.tmp 12) (.tmp 14) x12 x14) fun x15 =>
  bnd (pFieldAddr Tryz.prog 38 x2 2) fun x16 =>
  bnd (pLoad Tryz.prog 31 x16 h) fun x17 =>
  bnd (pFieldAddr Tryz.prog 38 x2 3) fun x18 =>
  bnd (pLoad Tryz.prog 31 x18 h) fun x19 =>
  bnd (pBuild Tryz.prog 38 #[(0,x10),(1,x15),(2,x17),(3,x19)]) fun x20 =>
  bnd (pAlloc Tryz.prog 38 h) fun x5 =>
  bnd (kSt (pStore Tryz.prog 38 x5.1 x20 x5.2)) fun u =>
  K (x5.1) u.2
noncomputable abbrev G51_3 {β : Type} (inv : Inv) (x3 x4 x5 : Value) (h : AH) (K : AH→Option β) : Option β :=
  bnd (pFieldAddr Tryz.prog 38 x3 2) fun x27 =>
  bnd (pLoad Tryz.prog 31 x27 h) fun x28 =>
  bnd (pFieldAddr Tryz.prog 38 x3 3) fun x29 =>
  bnd (pLoad Tryz.prog 31 x29 h) fun x30 =>
  bnd (pFieldAddr Tryz.prog 38 x5 2) fun x31 =>
  bnd (kSt (pStore Tryz.prog 31 x31 x28 h)) fun u =>
  bnd (pFieldAddr Tryz.prog 38 x5 3) fun x32 =>
  bnd (kSt (pStore Tryz.prog 31 x32 x30 u.2)) fun u_1 =>
  chkK ((!true || !true || (sameO (pLoad Tryz.prog 31 x29 h) x30 && sameO (pLoad Tryz.prog 31 x29 u.2) x30)) && true) <|
  K u_1.2
noncomputable def F51_rllrrrllrr {β : Type} (inv : Inv) (k : Nat) (x3 x4 x5 x44 : Value) (h : AH) (kn : (Value→Value→Value→Value→AH→Option β)) : Option β :=
  brV x44
  (bnd (pFieldAddr Tryz.prog 38 x3 2) fun x45 =>
  bnd (pLoad Tryz.prog 31 x45 h) fun x46 =>
  bnd (pFieldAddr Tryz.prog 38 x5 2) fun x47 =>
  bnd (kSt (pStore Tryz.prog 31 x47 x46 h)) fun u =>
  kn x3 x4 x5 unk u.2)
  (kn x3 x4 x5 x44 h)
noncomputable def e51_0 : Ent env 51 false 58:=.jn [] 1849 [3,4,5,44] [(.normal,[3,4,5,44])] F51_rllrrrllrr
noncomputable def F51_lrr {β : Type} (inv : Inv) (k : Nat) (x2 x3 x4 x5 : Value) (h : AH) (kn : (Value→Value→Value→Value→Value→AH→Option β)) : Option β :=
  bnd (pFieldAddr Tryz.prog 38 x2 0) fun x22 =>
  bnd (pLoad Tryz.prog 3 x22 h) fun x23 =>
  bnd (pFieldAddr Tryz.prog 38 x2 1) fun x24 =>
  bnd (pLoad Tryz.prog 3 x24 h) fun x25 =>
  bnd (pBin Tryz.prog .eql 3 (.tmp 23) (.tmp 25) x23 x25) fun x26 =>
  brV x26
  (G51_3 inv x3 x4 x5 h fun  h =>
  kn unk x4 x5 unk unk h)
  (bnd (pFieldAddr Tryz.prog 38 x3 0) fun x34 =>
  bnd (pLoad Tryz.prog 3 x34 h) fun x35 =>
  bnd (pFieldAddr Tryz.prog 38 x3 1) fun x36 =>
  bnd (pLoad Tryz.prog 3 x36 h) fun x37 =>
  bnd (pBin Tryz.prog .neq 3 (.tmp 35) (.tmp 37) x35 x37) fun x38 =>
  brV x38
  (bnd (pFieldAddr Tryz.prog 38 x3 2) fun x39 =>
  bnd (pLoad Tryz.prog 31 x39 h) fun x40 =>
  bnd (pFieldAddr Tryz.prog 38 x5 2) fun x41 =>
  bnd (pLoad Tryz.prog 31 x41 h) fun x42 =>
  bnd (inv (.func 101) #[] #[x40,x42] h) fun x43 =>
  bnd (pBin Tryz.prog .lss 3 (.tmp 43) (.const (.int .i64 0)) x43.1 (.int .i64 0)) fun x44 =>
  F51_rllrrrllrr inv k x3 x4 x5 x44 x43.2
  (fun y3 y4 y5 y44 h_2 =>
  bnd (pFieldAddr Tryz.prog 38 y3 3) fun x48 =>
  bnd (pLoad Tryz.prog 31 x48 h_2) fun x49 =>
  bnd (pFieldAddr Tryz.prog 38 y5 3) fun x50 =>
  bnd (pLoad Tryz.prog 31 x50 h_2) fun x51 =>
  bnd (inv (.func 101) #[] #[x49,x51] h_2) fun x52 =>
  bnd (pBin Tryz.prog .gtr 3 (.tmp 52) (.const (.int .i64 0)) x52.1 (.int .i64 0)) fun x53 =>
  brV x53
  (bnd (pFieldAddr Tryz.prog 38 y3 3) fun x54 =>
  bnd (pLoad Tryz.prog 31 x54 x52.2) fun x55 =>
  bnd (pFieldAddr Tryz.prog 38 y5 3) fun x56 =>
  bnd (kSt (pStore Tryz.prog 31 x56 x55 x52.2)) fun u =>
  kn unk y4 y5 unk unk u.2)
  (kn y3 y4 y5 unk x53 x52.2)))
  (kn x3 x4 x5 x38 unk h))
noncomputable def e51_1 : Ent env 51 false 58:=.jn [e51_0] 14 [2,3,4,5] [(.normal,[3,4,5,33,53])] F51_lrr
/-- shadowbook/zone.Join -/
noncomputable def F51 (inv : Inv) (k : Nat) (x0 x1 : Value) (h : AH) : Option (Value × AH) :=
  bnd (pBox Tryz.prog 38 x0 h) fun x2 =>
  bnd (pBox Tryz.prog 38 x1 x2.2) fun x3 =>
  bnd (pAlloc Tryz.prog 38 x3.2) fun x4 =>
  G51_1 inv x2.1 x3.1 x4.1 x4.2 fun y5 h =>
  F51_lrr inv k x2.1 x3.1 x4.1 y5 h
  (fun y3 y4 y5_3 y33 y53 h_4 =>
  bnd (pLoad Tryz.prog 38 y5_3 h_4) fun x57 =>
  bnd (kSt (pStore Tryz.prog 38 y4 x57 h_4)) fun u =>
  bnd (pLoad Tryz.prog 38 y4 u.2) fun q0 =>
  some (q0,u.2))
theorem F51_eq : eFun env k inv 51 #[x0,x1] h = F51 inv k x0 x1 h:=ks_fun (n:=58) [e51_0,e51_1]
theorem F51_call : eInv env (k + 1) (.func 51) #[] #[x0,x1] h = F51 (eInv env k) k x0 x1 h:=kq_inv F51_eq
/-- shadowbook/zone.one -/
noncomputable def F52 (inv : Inv) (k : Nat) (x0 : Value) (h : AH) : Option (Value × AH) :=
  bnd (pBox Tryz.prog 31 x0 h) fun x1 =>
  bnd (pAlloc Tryz.prog 38 x1.2) fun x2 =>
  bnd (pFieldAddr Tryz.prog 31 x1.1 0) fun x3 =>
  bnd (pLoad Tryz.prog 3 x3 x2.2) fun x4 =>
  bnd (pBin Tryz.prog .eql 3 (.tmp 4) (.const (.int .i64 0)) x4 (.int .i64 0)) fun x5 =>
  brV x5
  (bnd (pBuild Tryz.prog 38 #[(0,(.int .i64 1)),(1,(.int .i64 1))]) fun x6 =>
  bnd (kSt (pStore Tryz.prog 38 x2.1 x6 x2.2)) fun u =>
  bnd (pLoad Tryz.prog 38 x2.1 u.2) fun q0 =>
  some (q0,u.2))
  (bnd (pLoad Tryz.prog 31 x1.1 x2.2) fun x7 =>
  bnd (pLoad Tryz.prog 31 x1.1 x2.2) fun x8 =>
  bnd (pBuild Tryz.prog 38 #[(0,(.int .i64 1)),(2,x7),(3,x8)]) fun x9 =>
  bnd (kSt (pStore Tryz.prog 38 x2.1 x9 x2.2)) fun u_1 =>
  bnd (pLoad Tryz.prog 38 x2.1 u_1.2) fun q0 =>
  some (q0,u_1.2))
theorem F52_eq : eFun env k inv 52 #[x0] h = F52 inv k x0 h:=ks_fun (n:=10) []
theorem F52_call : eInv env (k + 1) (.func 52) #[] #[x0] h = F52 (eInv env k) k x0 h:=kq_inv F52_eq
noncomputable abbrev G56_3 {β : Type} (inv : Inv) (x0 x4 x5 x6 : Value) (h : AH) (K : Value→AH→Option β) : Option β :=
  bnd (pBin Tryz.prog .neq 25 (.tmp 21) (.const (.int .i64 0)) x4 (.int .i64 0)) fun x22 =>
  bnd (gd (some x22) false h (some (x6,h))) fun x24 =>
  bnd (gd (some x22) false x24.2 (lt (pBin Tryz.prog .gtr 60 (.tmp 24) (.const (.int .u64 4096)) x24.1 (.int .u64 4096)) x24.2)) fun x25 =>
  bnd (pickV x22 (.bool true) x25.1) fun x26 =>
  K (x26) x25.2
noncomputable abbrev G56_6 {β : Type} (inv : Inv) (x0 x4 x5 x6 x7 : Value) (h : AH) (K : Value→AH→Option β) : Option β :=
  bnd (pBin Tryz.prog .neq 25 (.tmp 32) (.const (.int .i64 0)) x4 (.int .i64 0)) fun x33 =>
  bnd (gd (some x33) false h (some (x7,h))) fun x35 =>
  bnd (gd (some x33) false x35.2 (lt (pBin Tryz.prog .gtr 60 (.tmp 35) (.const (.int .u64 2)) x35.1 (.int .u64 2)) x35.2)) fun x36 =>
  bnd (pickV x33 (.bool true) x36.1) fun x37 =>
  K (x37) x36.2
noncomputable def F56_lrrrrrlrlrrrrrrr {β : Type} (inv : Inv) (k : Nat) : Nat→Value→Value→Value→Value→Value→Value→AH→(Value→Value→Value→Value→Value→Value→Value→AH→Option β)→Option β
 | 0,_,_,_,_,_,_,_,_=>none
 | j + 1,x0,x2,x5,x10,x66,x67,h,ke0 =>
  bnd (pBin Tryz.prog .lss 3 (.tmp 67) (.tmp 66) x67 x66) fun x68 =>
  brV x68
  (bnd (pIndexAddr Tryz.prog 63 x10 x67) fun x74 =>
  bnd (pLoad Tryz.prog 60 x74 h) fun x75 =>
  bnd (pBin Tryz.prog .eql 60 (.tmp 75) (.const (.int .u64 1)) x75 (.int .u64 1)) fun x76 =>
  bnd (pIndexAddr Tryz.prog 32 x2 x67) fun x77 =>
  bnd (kSt (pStore Tryz.prog 4 x77 x76 h)) fun u =>
  bnd (pBin Tryz.prog .add 3 (.tmp 67) (.const (.int .i64 1)) x67 (.int .i64 1)) fun x78 =>
  F56_lrrrrrlrlrrrrrrr inv k j x0 x2 x5 x10 x66 x78 u.2 ke0)
  (ke0 x0 x2 x5 x10 x66 x67 x68 h)
noncomputable def e56_0 : Ent env 56 false 101:=.lp [] 130750 [0,2,5,10,66,67] [(.exit 0,[0,2,5,10,66,67,68])] F56_lrrrrrlrlrrrrrrr
noncomputable def F56_rlrrrrrrr {β : Type} (inv : Inv) (k : Nat) (x0 x2 x5 x6 x45 : Value) (h : AH) (kn : (Value→Value→Value→Value→Value→Value→Value→Value→Value→AH→Option β)) (kr : (Value→Value→Value→AH→Option β)) : Option β :=
  brV x45
  (bnd (pConv Tryz.prog 60 3 x6 h) fun x49 =>
  bnd (inv (.func 99) #[] #[x49,(.int .i64 1)] h) fun x50 =>
  bnd (inv (.func 60) #[] #[x5,x50.1] x50.2) fun x51 =>
  bnd (pExtract x51.1 0) fun x52 =>
  bnd (pExtract x51.1 1) fun x53 =>
  bnd (pBin Tryz.prog .neq 25 (.tmp 54) (.const (.int .i64 0)) x53 (.int .i64 0)) fun x55 =>
  brV x55
  (kr (.slice none 0 0) (.int .i64 0) (.int .i64 4) x51.2)
  (bnd (pConv Tryz.prog 60 3 x6 x51.2) fun x59 =>
  bnd (inv (.func 87) #[] #[x52,x59,(.int .i64 1)] x51.2) fun x60 =>
  bnd (pExtract x60.1 0) fun x61 =>
  bnd (pExtract x60.1 1) fun x62 =>
  bnd (pBin Tryz.prog .neq 25 (.tmp 63) (.const (.int .i64 0)) x62 (.int .i64 0)) fun x64 =>
  brV x64
  (kr (.slice none 0 0) (.int .i64 0) (.int .i64 4) x60.2)
  (bnd (pLen Tryz.prog #[32] x2 x60.2) fun x66 =>
  F56_lrrrrrlrlrrrrrrr inv k k x0 x2 x5 x61 x66 (.int .i64 0) x60.2
  (fun y0 y2 y5 y10 y66 y67 y68 h =>
  kn y0 y2 y5 unk y10 unk y66 y67 y68 h))))
  (kn x0 x2 x5 x6 unk x45 unk unk unk h)
noncomputable def e56_1 : Ent env 56 false 101:=.jn [e56_0] 1021 [0,2,5,6,45] [(.normal,[0,2,5,6,10,45,66,67,68]),(.ret,[2,3,4])] F56_rlrrrrrrr
noncomputable abbrev G56_23 {β : Type} (inv : Inv) (x0 x2 x3 x12 x13 : Value) (h : AH) (K : Value→AH→Option β) : Option β :=
  bnd (pBin Tryz.prog .neq 25 (.tmp 89) (.const (.int .i64 0)) x13 (.int .i64 0)) fun x90 =>
  bnd (gd (some x90) false h (some (x12,h))) fun x92 =>
  bnd (gd (some x90) false x92.2 (some (x0,x92.2))) fun x93 =>
  bnd (gd (some x90) false x93.2 (some (x3,x93.2))) fun x94 =>
  bnd (gd (some x90) false x94.2 (lt (pSlice Tryz.prog 33 x93.1 none (some x94.1) none x94.2) x94.2)) fun x95 =>
  bnd (gd (some x90) false x95.2 (inv (.func 104) #[] #[x92.1,x95.1] x95.2)) fun x96 =>
  bnd (gd (some x90) false x96.2 (lt (pUn Tryz.prog .not x96.1) x96.2)) fun x97 =>
  bnd (pickV x90 (.bool true) x97.1) fun x98 =>
  K (x98) x97.2
/-- shadowbook/nulls.Get -/
noncomputable def F56 (inv : Inv) (k : Nat) (x0 : Value) (h : AH) : Option (Value × AH) :=
  bnd (inv (.func 58) #[] #[x0] h) fun x15 =>
  bnd (inv (.func 92) #[] #[x15.1] x15.2) fun x18 =>
  bnd (pExtract x18.1 0) fun x19 =>
  bnd (pExtract x18.1 1) fun x20 =>
  G56_3 inv x0 x20 x15.1 x19 x18.2 fun y26 h =>
  brV y26
  (some (.tuple #[(.slice none 0 0),(.int .i64 0),(.int .i64 4)],h))
  (bnd (inv (.func 77) #[] #[x15.1,(.int .i64 1)] h) fun x29 =>
  bnd (pExtract x29.1 0) fun x30 =>
  bnd (pExtract x29.1 1) fun x31 =>
  G56_6 inv x0 x31 x15.1 x19 x30 x29.2 fun y37 h_1 =>
  brV y37
  (some (.tuple #[(.slice none 0 0),(.int .i64 0),(.int .i64 4)],h_1))
  (bnd (pBin Tryz.prog .eql 60 (.tmp 38) (.const (.int .u64 1)) x30 (.int .u64 1)) fun x39 =>
  bnd (pBuildSlice Tryz.prog 32 1 #[(0,x39)] h_1) fun x40 =>
  bnd (pConv Tryz.prog 60 3 x19 x40.2) fun x42 =>
  bnd (inv (.func 103) #[] #[x40.1,x42] x40.2) fun x43 =>
  bnd (pBin Tryz.prog .eql 60 (.tmp 44) (.const (.int .u64 2)) x30 (.int .u64 2)) fun x45 =>
  F56_rlrrrrrrr inv k x0 x43.1 x15.1 x19 x45 x43.2
  (fun y0 y2 y5 y6 y10 y45 y66 y67 y68 h_2 =>
  bnd (pLen Tryz.prog #[33] y0 h_2) fun x80 =>
  bnd (inv (.func 61) #[] #[y5] h_2) fun x82 =>
  bnd (pBin Tryz.prog .sub 3 (.tmp 80) (.tmp 82) x80 x82.1) fun x83 =>
  bnd (inv (.func 30) #[] #[y2] x82.2) fun x86 =>
  bnd (pExtract x86.1 0) fun x87 =>
  bnd (pExtract x86.1 1) fun x88 =>
  G56_23 inv y0 y2 x83 x87 x88 x86.2 fun y98 h_3 =>
  brV y98
  (some (.tuple #[(.slice none 0 0),(.int .i64 0),(.int .i64 4)],h_3))
  (some (.tuple #[y2,x83,(.int .i64 0)],h_3)))
  (fun y2_4 y3 y4 h_5 =>
  some (.tuple #[y2_4,y3,y4],h_5))))
theorem F56_eq : eFun env k inv 56 #[x0] h = F56 inv k x0 h:=ks_fun (n:=101) [e56_0,e56_1]
theorem F56_call : eInv env (k + 1) (.func 56) #[] #[x0] h = F56 (eInv env k) k x0 h:=kq_inv F56_eq
/-- shadowbook/nulls.Count -/
noncomputable def F57 (inv : Inv) (k : Nat) (x0 : Value) (h : AH) : Option (Value × AH) :=
  bnd (inv (.func 96) #[] #[x0] h) fun x4 =>
  some (x4.1,x4.2)
theorem F57_eq : eFun env k inv 57 #[x0] h = F57 inv k x0 h:=ks_fun (n:=5) []
theorem F57_call : eInv env (k + 1) (.func 57) #[] #[x0] h = F57 (eInv env k) k x0 h:=kq_inv F57_eq
/-- shadowbook/octet.New -/
noncomputable def F58 (inv : Inv) (k : Nat) (x0 : Value) (h : AH) : Option (Value × AH) :=
  bnd (inv (.func 105) #[] #[x0] h) fun x4 =>
  bnd (pBuild Tryz.prog 144 #[(0,x4.1)]) fun x5 =>
  bnd (pBox Tryz.prog 144 x5 x4.2) fun x6 =>
  some (x6.1,x6.2)
theorem F58_eq : eFun env k inv 58 #[x0] h = F58 inv k x0 h:=ks_fun (n:=7) []
theorem F58_call : eInv env (k + 1) (.func 58) #[] #[x0] h = F58 (eInv env k) k x0 h:=kq_inv F58_eq
noncomputable abbrev G59_1 {β : Type} (inv : Inv) (x1 x2 : Value) (h : AH) (K : Value→AH→Option β) : Option β :=
  bnd (pBin Tryz.prog .lss 3 (.tmp 6) (.const (.int .i64 1)) x1 (.int .i64 1)) fun x7 =>
  bnd (gd (some x7) false h (some (x1,h))) fun x9 =>
  bnd (gd (some x7) false x9.2 (lt (pBin Tryz.prog .gtr 3 (.tmp 9) (.const (.int .i64 3)) x9.1 (.int .i64 3)) x9.2)) fun x10 =>
  bnd (pickV x7 (.bool true) x10.1) fun x11 =>
  bnd (gd (some x11) false x10.2 (lt (pFieldAddr Tryz.prog 38 x2 0) x10.2)) fun x13 =>
  bnd (gd (some x11) false x13.2 (lt (pLoad Tryz.prog 3 x13.1 x13.2) x13.2)) fun x14 =>
  bnd (gd (some x11) false x14.2 (lt (pBin Tryz.prog .lss 3 (.tmp 14) (.const (.int .i64 0)) x14.1 (.int .i64 0)) x14.2)) fun x15 =>
  bnd (pickV x11 (.bool true) x15.1) fun x16 =>
  bnd (gd (some x16) false x15.2 (lt (pFieldAddr Tryz.prog 38 x2 1) x15.2)) fun x18 =>
  bnd (gd (some x16) false x18.2 (lt (pLoad Tryz.prog 3 x18.1 x18.2) x18.2)) fun x19 =>
  bnd (gd (some x16) false x19.2 (lt (pBin Tryz.prog .lss 3 (.tmp 19) (.const (.int .i64 0)) x19.1 (.int .i64 0)) x19.2)) fun x20 =>
  bnd (pickV x16 (.bool true) x20.1) fun x21 =>
  bnd (gd (some x21) false x20.2 (lt (pFieldAddr Tryz.prog 38 x2 1) x20.2)) fun x23 =>
  bnd (gd (some x21) false x23.2 (lt (pLoad Tryz.prog 3 x23.1 x23.2) x23.2)) fun x24 =>
  bnd (gd (some x21) false x24.2 (lt (pFieldAddr Tryz.prog 38 x2 0) x24.2)) fun x25 =>
  bnd (gd (some x21) false x25.2 (lt (pLoad Tryz.prog 3 x25.1 x25.2) x25.2)) fun x26 =>
  bnd (gd (some x21) false x26.2 (lt (pBin Tryz.prog .gtr 3 (.tmp 24) (.tmp 26) x24.1 x26.1) x26.2)) fun x27 =>
  bnd (pickV x21 (.bool true) x27.1) fun x28 =>
  K (x28) x27.2
noncomputable abbrev G59_3 {β : Type} (inv : Inv) (x1 x2 : Value) (h : AH) (K : Value→AH→Option β) : Option β :=
  bnd (pFieldAddr Tryz.prog 38 x2 2) fun x29 =>
  bnd (pLoad Tryz.prog 31 x29 h) fun x30 =>
  bnd (pBuild Tryz.prog 31 #[]) fun x31 =>
  bnd (pBin Tryz.prog .eql 31 (.tmp 30) (.tmp 31) x30 x31) fun x32 =>
  bnd (gd (some x32) true h (lt (pFieldAddr Tryz.prog 38 x2 3) h)) fun x34 =>
  bnd (gd (some x32) true x34.2 (lt (pLoad Tryz.prog 31 x34.1 x34.2) x34.2)) fun x35 =>
  bnd (gd (some x32) true x35.2 (lt (pBuild Tryz.prog 31 #[]) x35.2)) fun x36 =>
  bnd (gd (some x32) true x36.2 (lt (pBin Tryz.prog .eql 31 (.tmp 35) (.tmp 36) x35.1 x36.1) x36.2)) fun x37 =>
  bnd (pickV x32 x37.1 (.bool false)) fun x38 =>
  K (x38) x37.2
noncomputable abbrev G59_6 {β : Type} (inv : Inv) (x1 x2 : Value) (h : AH) (K : Value→AH→Option β) : Option β :=
  bnd (pFieldAddr Tryz.prog 38 x2 1) fun x47 =>
  bnd (pLoad Tryz.prog 3 x47 h) fun x48 =>
  bnd (pFieldAddr Tryz.prog 38 x2 0) fun x49 =>
  bnd (pLoad Tryz.prog 3 x49 h) fun x50 =>
  bnd (pBin Tryz.prog .eql 3 (.tmp 48) (.tmp 50) x48 x50) fun x51 =>
  bnd (gd (some x51) false h (lt (pFieldAddr Tryz.prog 38 x2 2) h)) fun x53 =>
  bnd (gd (some x51) false x53.2 (lt (pFieldAddr Tryz.prog 31 x53.1 0) x53.2)) fun x54 =>
  bnd (gd (some x51) false x54.2 (lt (pLoad Tryz.prog 3 x54.1 x54.2) x54.2)) fun x55 =>
  bnd (gd (some x51) false x55.2 (some (x1,x55.2))) fun x56 =>
  bnd (gd (some x51) false x56.2 (lt (pBin Tryz.prog .neq 3 (.tmp 55) (.tmp 56) x55.1 x56.1) x56.2)) fun x57 =>
  bnd (pickV x51 (.bool true) x57.1) fun x58 =>
  bnd (gd (some x58) false x57.2 (lt (pFieldAddr Tryz.prog 38 x2 3) x57.2)) fun x60 =>
  bnd (gd (some x58) false x60.2 (lt (pFieldAddr Tryz.prog 31 x60.1 0) x60.2)) fun x61 =>
  bnd (gd (some x58) false x61.2 (lt (pLoad Tryz.prog 3 x61.1 x61.2) x61.2)) fun x62 =>
  bnd (gd (some x58) false x62.2 (some (x1,x62.2))) fun x63 =>
  bnd (gd (some x58) false x63.2 (lt (pBin Tryz.prog .neq 3 (.tmp 62) (.tmp 63) x62.1 x63.1) x63.2)) fun x64 =>
  bnd (pickV x58 (.bool true) x64.1) fun x65 =>
  bnd (gd (some x65) false x64.2 (lt (pFieldAddr Tryz.prog 38 x2 2) x64.2)) fun x67 =>
  bnd (gd (some x65) false x67.2 (lt (pLoad Tryz.prog 31 x67.1 x67.2) x67.2)) fun x68 =>
  bnd (gd (some x65) false x68.2 (inv (.func 29) #[] #[x68.1] x68.2)) fun x69 =>
  bnd (gd (some x65) false x69.2 (lt (pBin Tryz.prog .neq 25 (.tmp 69) (.const (.int .i64 0)) x69.1 (.int .i64 0)) x69.2)) fun x70 =>
  bnd (pickV x65 (.bool true) x70.1) fun x71 =>
  bnd (gd (some x71) false x70.2 (lt (pFieldAddr Tryz.prog 38 x2 3) x70.2)) fun x73 =>
  bnd (gd (some x71) false x73.2 (lt (pLoad Tryz.prog 31 x73.1 x73.2) x73.2)) fun x74 =>
  bnd (gd (some x71) false x74.2 (inv (.func 29) #[] #[x74.1] x74.2)) fun x75 =>
  bnd (gd (some x71) false x75.2 (lt (pBin Tryz.prog .neq 25 (.tmp 75) (.const (.int .i64 0)) x75.1 (.int .i64 0)) x75.2)) fun x76 =>
  bnd (pickV x71 (.bool true) x76.1) fun x77 =>
  bnd (gd (some x77) false x76.2 (lt (pFieldAddr Tryz.prog 38 x2 2) x76.2)) fun x79 =>
  bnd (gd (some x77) false x79.2 (lt (pLoad Tryz.prog 31 x79.1 x79.2) x79.2)) fun x80 =>
  bnd (gd (some x77) false x80.2 (lt (pFieldAddr Tryz.prog 38 x2 3) x80.2)) fun x81 =>
  bnd (gd (some x77) false x81.2 (lt (pLoad Tryz.prog 31 x81.1 x81.2) x81.2)) fun x82 =>
  bnd (gd (some x77) false x82.2 (inv (.func 101) #[] #[x80.1,x82.1] x82.2)) fun x83 =>
  bnd (gd (some x77) false x83.2 (lt (pBin Tryz.prog .gtr 3 (.tmp 83) (.const (.int .i64 0)) x83.1 (.int .i64 0)) x83.2)) fun x84 =>
  bnd (pickV x77 (.bool true) x84.1) fun x85 =>
  K (x85) x84.2
/-- shadowbook/zone.Check -/
noncomputable def F59 (inv : Inv) (k : Nat) (x0 x1 : Value) (h : AH) : Option (Value × AH) :=
  bnd (pBox Tryz.prog 38 x0 h) fun x2 =>
  G59_1 inv x1 x2.1 x2.2 fun y28 h =>
  brV y28
  (some ((.int .i64 2),h))
  (G59_3 inv x1 x2.1 h fun y5 h_1 =>
  bnd (pFieldAddr Tryz.prog 38 x2.1 1) fun x39 =>
  bnd (pLoad Tryz.prog 3 x39 h_1) fun x40 =>
  bnd (pFieldAddr Tryz.prog 38 x2.1 0) fun x41 =>
  bnd (pLoad Tryz.prog 3 x41 h_1) fun x42 =>
  bnd (pBin Tryz.prog .eql 3 (.tmp 40) (.tmp 42) x40 x42) fun x43 =>
  bnd (gd (some x43) true h_1 (some (y5,h_1))) fun x45 =>
  bnd (pickV x43 x45.1 (.bool false)) fun x46 =>
  brV x46
  (some ((.int .i64 0),x45.2))
  (G59_6 inv x1 x2.1 x45.2 fun y85 h_2 =>
  brV y85
  (some ((.int .i64 2),h_2))
  (some ((.int .i64 0),h_2))))
theorem F59_eq : eFun env k inv 59 #[x0,x1] h = F59 inv k x0 x1 h:=ks_fun (n:=86) []
theorem F59_call : eInv env (k + 1) (.func 59) #[] #[x0,x1] h = F59 (eInv env k) k x0 x1 h:=kq_inv F59_eq
/-- (*shadowbook/octet.Reader).Bytes -/
noncomputable def F60 (inv : Inv) (k : Nat) (x0 x1 : Value) (h : AH) : Option (Value × AH) :=
  bnd (pBin Tryz.prog .eql 114 (.tmp 9) (.const (.pointer none)) x0 (.pointer none)) fun x10 =>
  brV x10
  (some (.tuple #[(.slice none 0 0),(.int .i64 1)],h))
  (bnd (pBin Tryz.prog .lss 3 (.tmp 12) (.const (.int .i64 0)) x1 (.int .i64 0)) fun x13 =>
  brV x13
  (some (.tuple #[(.slice none 0 0),(.int .i64 2)],h))
  (bnd (inv (.func 106) #[] #[x0,x1] h) fun x17 =>
  bnd (pExtract x17.1 0) fun x18 =>
  bnd (pExtract x17.1 1) fun x19 =>
  bnd (inv (.func 105) #[] #[x18] x17.2) fun x21 =>
  some (.tuple #[x21.1,x19],x21.2)))
theorem F60_eq : eFun env k inv 60 #[x0,x1] h = F60 inv k x0 x1 h:=ks_fun (n:=23) []
theorem F60_call : eInv env (k + 1) (.func 60) #[] #[x0,x1] h = F60 (eInv env k) k x0 x1 h:=kq_inv F60_eq
/-- (*shadowbook/octet.Reader).Left -/
noncomputable def F61 (inv : Inv) (k : Nat) (x0 : Value) (h : AH) : Option (Value × AH) :=
  bnd (pBin Tryz.prog .eql 114 (.tmp 3) (.const (.pointer none)) x0 (.pointer none)) fun x4 =>
  brV x4
  (some ((.int .i64 0),h))
  (bnd (pNilCheck Tryz.prog x0) fun x6 =>
  bnd (pFieldAddr Tryz.prog 144 x6 0) fun x7 =>
  bnd (pLoad Tryz.prog 33 x7 h) fun x8 =>
  bnd (pLen Tryz.prog #[33] x8 h) fun x9 =>
  some (x9,h))
theorem F61_eq : eFun env k inv 61 #[x0] h = F61 inv k x0 h:=ks_fun (n:=10) []
theorem F61_call : eInv env (k + 1) (.func 61) #[] #[x0] h = F61 (eInv env k) k x0 h:=kq_inv F61_eq
/-- shadowbook/segment.numbers$1 -/
noncomputable def F72 (inv : Inv) (k : Nat) (x0 : Value) (h : AH) : Option (Value × AH) :=
  bnd (pBox Tryz.prog 31 x0 h) fun x1 =>
  bnd (pFieldAddr Tryz.prog 31 x1.1 1) fun x3 =>
  bnd (pLoad Tryz.prog 2 x3 x1.2) fun x4 =>
  some (x4,x1.2)
theorem F72_eq : eFun env k inv 72 #[x0] h = F72 inv k x0 h:=ks_fun (n:=5) []
theorem F72_call : eInv env (k + 1) (.func 72) #[] #[x0] h = F72 (eInv env k) k x0 h:=kq_inv F72_eq
/-- shadowbook/segment.numbers$2 -/
noncomputable def F73 (inv : Inv) (k : Nat) (x0 : Value) (h : AH) : Option (Value × AH) :=
  bnd (pAlloc Tryz.prog 31 h) fun x2 =>
  bnd (pBuild Tryz.prog 31 #[(0,(.int .i64 1)),(1,x0)]) fun x4 =>
  bnd (kSt (pStore Tryz.prog 31 x2.1 x4 x2.2)) fun u =>
  bnd (pLoad Tryz.prog 31 x2.1 u.2) fun q0 =>
  some (q0,u.2)
theorem F73_eq : eFun env k inv 73 #[x0] h = F73 inv k x0 h:=ks_fun (n:=5) []
theorem F73_call : eInv env (k + 1) (.func 73) #[] #[x0] h = F73 (eInv env k) k x0 h:=kq_inv F73_eq
/-- shadowbook/segment.numbers$3 -/
noncomputable def F74 (inv : Inv) (k : Nat) (x0 x1 : Value) (h : AH) : Option (Value × AH) :=
  bnd (pConv Tryz.prog 2 60 x1 h) fun x7 =>
  bnd (inv (.func 75) #[] #[x0,x7,(.int .i64 8)] h) fun x8 =>
  some (x8.1,x8.2)
theorem F74_eq : eFun env k inv 74 #[x0,x1] h = F74 inv k x0 x1 h:=ks_fun (n:=9) []
theorem F74_call : eInv env (k + 1) (.func 74) #[] #[x0,x1] h = F74 (eInv env k) k x0 x1 h:=kq_inv F74_eq
noncomputable abbrev G75_1 {β : Type} (inv : Inv) (x0 x1 x2 : Value) (h : AH) (K : Value→AH→Option β) : Option β :=
  bnd (pBin Tryz.prog .lss 3 (.tmp 8) (.const (.int .i64 1)) x2 (.int .i64 1)) fun x9 =>
  bnd (gd (some x9) false h (some (x2,h))) fun x11 =>
  bnd (gd (some x9) false x11.2 (lt (pBin Tryz.prog .gtr 3 (.tmp 11) (.const (.int .i64 8)) x11.1 (.int .i64 8)) x11.2)) fun x12 =>
  bnd (pickV x9 (.bool true) x12.1) fun x13 =>
  K (x13) x12.2
noncomputable def F75_lrlrr {β : Type} (inv : Inv) (k : Nat) : Nat→Value→Value→Value→Value→AH→(Value→Value→Value→Value→Value→AH→Option β)→Option β
 | 0,_,_,_,_,_,_=>none
 | j + 1,x0,x1,x15,x16,h,ke0 =>
  bnd (pBin Tryz.prog .lss 3 (.tmp 16) (.tmp 15) x16 x15) fun x17 =>
  brV x17
  (bnd (pBin Tryz.prog .mul 3 (.const (.int .i64 8)) (.tmp 21) (.int .i64 8) x16) fun x22 =>
  bnd (pBin Tryz.prog .shr 60 (.tmp 20) (.tmp 22) x1 x22) fun x23 =>
  bnd (pConv Tryz.prog 60 5 x23 h) fun x24 =>
  bnd (pBuildSlice Tryz.prog 33 1 #[(0,x24)] h) fun x25 =>
  bnd (pAppend Tryz.prog #[33,33] x0 x25.1 x25.2) fun x26 =>
  bnd (pBin Tryz.prog .add 3 (.tmp 16) (.const (.int .i64 1)) x16 (.int .i64 1)) fun x27 =>
  F75_lrlrr inv k j x26.1 x1 x15 x27 x26.2 ke0)
  (ke0 x0 x1 x15 x16 x17 h)
noncomputable def e75_0 : Ent env 75 false 29:=.lp [] 58 [0,1,15,16] [(.exit 0,[0,1,15,16,17])] F75_lrlrr
/-- shadowbook/octet.Put -/
noncomputable def F75 (inv : Inv) (k : Nat) (x0 x1 x2 : Value) (h : AH) : Option (Value × AH) :=
  G75_1 inv x0 x1 x2 h fun y13 h =>
  brV y13
  (some (x0,h))
  (F75_lrlrr inv k k x0 x1 x2 (.int .i64 0) h
  (fun y0 y1 y15 y16 y17 h_1 =>
  some (y0,h_1)))
theorem F75_eq : eFun env k inv 75 #[x0,x1,x2] h = F75 inv k x0 x1 x2 h:=ks_fun (n:=29) [e75_0]
theorem F75_call : eInv env (k + 1) (.func 75) #[] #[x0,x1,x2] h = F75 (eInv env k) k x0 x1 x2 h:=kq_inv F75_eq
/-- shadowbook/segment.numbers$4 -/
noncomputable def F76 (inv : Inv) (k : Nat) (x0 : Value) (h : AH) : Option (Value × AH) :=
  bnd (inv (.func 77) #[] #[x0,(.int .i64 8)] h) fun x8 =>
  bnd (pExtract x8.1 0) fun x9 =>
  bnd (pExtract x8.1 1) fun x10 =>
  bnd (pConv Tryz.prog 60 2 x9 x8.2) fun x12 =>
  some (.tuple #[x12,x10],x8.2)
theorem F76_eq : eFun env k inv 76 #[x0] h = F76 inv k x0 h:=ks_fun (n:=14) []
theorem F76_call : eInv env (k + 1) (.func 76) #[] #[x0] h = F76 (eInv env k) k x0 h:=kq_inv F76_eq
noncomputable abbrev G77_3 {β : Type} (inv : Inv) (x0 x1 : Value) (h : AH) (K : Value→AH→Option β) : Option β :=
  bnd (pBin Tryz.prog .lss 3 (.tmp 12) (.const (.int .i64 1)) x1 (.int .i64 1)) fun x13 =>
  bnd (gd (some x13) false h (some (x1,h))) fun x15 =>
  bnd (gd (some x13) false x15.2 (lt (pBin Tryz.prog .gtr 3 (.tmp 15) (.const (.int .i64 8)) x15.1 (.int .i64 8)) x15.2)) fun x16 =>
  bnd (pickV x13 (.bool true) x16.1) fun x17 =>
  K (x17) x16.2
/-- (*shadowbook/octet.Reader).Number -/
noncomputable def F77 (inv : Inv) (k : Nat) (x0 x1 : Value) (h : AH) : Option (Value × AH) :=
  bnd (pBin Tryz.prog .eql 114 (.tmp 9) (.const (.pointer none)) x0 (.pointer none)) fun x10 =>
  brV x10
  (some (.tuple #[(.int .u64 0),(.int .i64 1)],h))
  (G77_3 inv x0 x1 h fun y11 h =>
  brV y11
  (some (.tuple #[(.int .u64 0),(.int .i64 2)],h))
  (bnd (inv (.func 106) #[] #[x0,x1] h) fun x21 =>
  bnd (pExtract x21.1 0) fun x22 =>
  bnd (pExtract x21.1 1) fun x23 =>
  bnd (inv (.func 120) #[] #[x22] x21.2) fun x25 =>
  some (.tuple #[x25.1,x23],x25.2)))
theorem F77_eq : eFun env k inv 77 #[x0,x1] h = F77 inv k x0 x1 h:=ks_fun (n:=27) []
theorem F77_call : eInv env (k + 1) (.func 77) #[] #[x0,x1] h = F77 (eInv env k) k x0 x1 h:=kq_inv F77_eq
noncomputable def F78_lrlrr {β : Type} (inv : Inv) (k : Nat) : Nat→Value→Value→Value→Value→Value→AH→(Value→Value→Value→Value→Value→Value→AH→Option β)→(Value→Value→AH→Option β)→Option β
 | 0,_,_,_,_,_,_,_,_=>none
 | j + 1,x0,x4,x9,x10,x11,h,ke0,kr =>
  bnd (pBin Tryz.prog .lss 3 (.tmp 11) (.tmp 10) x11 x10) fun x12 =>
  brV x12
  (bnd (pIndexAddr Tryz.prog 154 x9 x11) fun x13 =>
  bnd (pLoad Tryz.prog 158 x13 h) fun x14 =>
  bnd (pAlloc Tryz.prog 158 h) fun x6 =>
  bnd (kSt (pStore Tryz.prog 158 x6.1 x14 x6.2)) fun u =>
  bnd (pFieldAddr Tryz.prog 158 x6.1 1) fun x16 =>
  bnd (pLoad Tryz.prog 83 x16 u.2) fun x17 =>
  bnd (callV inv x17 #[x0] u.2) fun x19 =>
  bnd (pExtract x19.1 0) fun x20 =>
  bnd (pExtract x19.1 1) fun x21 =>
  bnd (pBin Tryz.prog .neq 25 (.tmp 22) (.const (.int .i64 0)) x21 (.int .i64 0)) fun x23 =>
  brV x23
  (kr (.slice none 0 0) x21 x19.2)
  (bnd (pBuildSlice Tryz.prog 153 1 #[(0,x20)] x19.2) fun x27 =>
  bnd (pAppend Tryz.prog #[153,153] x4 x27.1 x27.2) fun x28 =>
  bnd (pBin Tryz.prog .add 3 (.tmp 11) (.const (.int .i64 1)) x11 (.int .i64 1)) fun x29 =>
  F78_lrlrr inv k j x0 x28.1 x9 x10 x29 x28.2 ke0 kr))
  (ke0 x0 x4 x9 x10 x11 x12 h)
noncomputable def e78_0 : Ent env 78 false 32:=.lp [] 58 [0,4,9,10,11] [(.exit 0,[0,4,9,10,11,12]),(.ret,[2,3])] F78_lrlrr
/-- shadowbook/ints.Put -/
noncomputable def F78 (inv : Inv) (k : Nat) (x0 : Value) (h : AH) : Option (Value × AH) :=
  bnd (inv (.func 121) #[] #[] h) fun x9 =>
  bnd (pLen Tryz.prog #[154] x9.1 x9.2) fun x10 =>
  F78_lrlrr inv k k x0 (.slice none 0 0) x9.1 x10 (.int .i64 0) x9.2
  (fun y0 y4 y9 y10 y11 y12 h =>
  bnd (inv (.func 122) #[] #[y4,(.func (.func 123) #[] #[])] h) fun x31 =>
  some (.tuple #[x31.1,(.int .i64 0)],x31.2))
  (fun y2 y3 h_1 =>
  some (.tuple #[y2,y3],h_1))
theorem F78_eq : eFun env k inv 78 #[x0] h = F78 inv k x0 h:=ks_fun (n:=32) [e78_0]
theorem F78_call : eInv env (k + 1) (.func 78) #[] #[x0] h = F78 (eInv env k) k x0 h:=kq_inv F78_eq
/-- shadowbook/segment.truths$1 -/
noncomputable def F81 (inv : Inv) (k : Nat) (x0 : Value) (h : AH) : Option (Value × AH) :=
  bnd (pBox Tryz.prog 31 x0 h) fun x1 =>
  bnd (pFieldAddr Tryz.prog 31 x1.1 1) fun x3 =>
  bnd (pLoad Tryz.prog 2 x3 x1.2) fun x4 =>
  bnd (pConv Tryz.prog 2 60 x4 x1.2) fun x5 =>
  some (x5,x1.2)
theorem F81_eq : eFun env k inv 81 #[x0] h = F81 inv k x0 h:=ks_fun (n:=6) []
theorem F81_call : eInv env (k + 1) (.func 81) #[] #[x0] h = F81 (eInv env k) k x0 h:=kq_inv F81_eq
/-- shadowbook/segment.truths$2 -/
noncomputable def F82 (inv : Inv) (k : Nat) (x0 : Value) (h : AH) : Option (Value × AH) :=
  bnd (pAlloc Tryz.prog 31 h) fun x2 =>
  bnd (pConv Tryz.prog 60 2 x0 x2.2) fun x4 =>
  bnd (pBuild Tryz.prog 31 #[(0,(.int .i64 2)),(1,x4)]) fun x5 =>
  bnd (kSt (pStore Tryz.prog 31 x2.1 x5 x2.2)) fun u =>
  bnd (pLoad Tryz.prog 31 x2.1 u.2) fun q0 =>
  some (q0,u.2)
theorem F82_eq : eFun env k inv 82 #[x0] h = F82 inv k x0 h:=ks_fun (n:=6) []
theorem F82_call : eInv env (k + 1) (.func 82) #[] #[x0] h = F82 (eInv env k) k x0 h:=kq_inv F82_eq
/-- shadowbook/segment.truths$3 -/
noncomputable def F83 (inv : Inv) (k : Nat) (x0 x1 : Value) (h : AH) : Option (Value × AH) :=
  bnd (pConv Tryz.prog 60 5 x1 h) fun x7 =>
  bnd (pBuildSlice Tryz.prog 33 1 #[(0,x7)] h) fun x8 =>
  bnd (pAppend Tryz.prog #[33,33] x0 x8.1 x8.2) fun x9 =>
  some (x9.1,x9.2)
theorem F83_eq : eFun env k inv 83 #[x0,x1] h = F83 inv k x0 x1 h:=ks_fun (n:=10) []
theorem F83_call : eInv env (k + 1) (.func 83) #[] #[x0,x1] h = F83 (eInv env k) k x0 x1 h:=kq_inv F83_eq
/-- shadowbook/segment.truths$4 -/
noncomputable def F84 (inv : Inv) (k : Nat) (x0 : Value) (h : AH) : Option (Value × AH) :=
  bnd (inv (.func 77) #[] #[x0,(.int .i64 1)] h) fun x5 =>
  bnd (pExtract x5.1 0) fun x6 =>
  bnd (pExtract x5.1 1) fun x7 =>
  some (.tuple #[x6,x7],x5.2)
theorem F84_eq : eFun env k inv 84 #[x0] h = F84 inv k x0 h:=ks_fun (n:=8) []
theorem F84_call : eInv env (k + 1) (.func 84) #[] #[x0] h = F84 (eInv env k) k x0 h:=kq_inv F84_eq
/-- shadowbook/segment.truths$5 -/
noncomputable def F85 (inv : Inv) (k : Nat) (x0 : Value) (h : AH) : Option (Value × AH) :=
  bnd (inv (.func 49) #[] #[x0,(.int .i64 1)] h) fun x5 =>
  bnd (pExtract x5.1 0) fun x6 =>
  bnd (pExtract x5.1 1) fun x7 =>
  some (.tuple #[x6,x7],x5.2)
theorem F85_eq : eFun env k inv 85 #[x0] h = F85 inv k x0 h:=ks_fun (n:=8) []
theorem F85_call : eInv env (k + 1) (.func 85) #[] #[x0] h = F85 (eInv env k) k x0 h:=kq_inv F85_eq
noncomputable def c87 : Code:=codeOf Tryz.prog 87
noncomputable def F87_rlrrr {β : Type} (inv : Inv) (k : Nat) (x6 x7 x9 x22 : Value) (h : AH) (kn : (Value→Value→Value→Value→AH→Option β)) : Option β :=
  kRange env 87 inv x22 (psOf (cp c87 122)) (cp c87 244) (cp c87 245) (act 30 [(6,x6),(7,x7),(9,x9),(22,x22)]) h fun e h=>sw e
  (kn x6 x7 x9 x22 h)
  none []
noncomputable def e87_0 : Ent env 87 false 30:=.jn [] 61 [6,7,9,22] [(.normal,[6,7,9,22])] F87_rlrrr
/-- shadowbook/packs.Get -/
noncomputable def F87 (inv : Inv) (k : Nat) (x0 x1 x2 : Value) (h : AH) : Option (Value × AH) :=
  bnd (inv (.func 127) #[] #[x0,x1,x2] h) fun x15 =>
  bnd (pBin Tryz.prog .neq 25 (.tmp 16) (.const (.int .i64 0)) x15.1 (.int .i64 0)) fun x17 =>
  brV x17
  (some (.tuple #[(.slice none 0 0),x15.1],x15.2))
  (bnd (pAlloc Tryz.prog 63 x15.2) fun x9 =>
  bnd (inv (.func 128) #[] #[x0,x1,x2] x9.2) fun x22 =>
  F87_rlrrr inv k (.slice none 0 0) (.int .i64 0) x9.1 x22.1 x22.2
  (fun y6 y7 y9 y22 h =>
  bnd (pLoad Tryz.prog 63 y9 h) fun x29 =>
  some (.tuple #[x29,(.int .i64 0)],h)))
theorem F87_eq : eFun env k inv 87 #[x0,x1,x2] h = F87 inv k x0 x1 x2 h:=ks_fun (n:=30) [e87_0]
theorem F87_call : eInv env (k + 1) (.func 87) #[] #[x0,x1,x2] h = F87 (eInv env k) k x0 x1 x2 h:=kq_inv F87_eq
noncomputable def R87_lrlrrr (inv : Inv) (k l : Nat) (x6 x7 x9 x22 z0 z1 : Value) (h : AH) : Option (Value × AH) :=
  rdBegin l h fun h =>
  bnd (pLoad Tryz.prog 63 x9 h) fun x25 =>
  bnd (pBuildSlice Tryz.prog 63 1 #[(0,z1)] h) fun x27 =>
  bnd (pAppend Tryz.prog #[63,63] x25 x27.1 x27.2) fun x28 =>
  bnd (kSt (pStore Tryz.prog 63 x9 x28.1 x28.2)) fun u =>
  rdEnd l .normal u.2
theorem R87_lrlrrr_eq {l : Nat} {pd : Option Code} (hl : h.get l = some (.loop .ready pd 87 (act 30 [(6,x6),(7,x7),(9,x9),(22,x22)]).tmps (psOf (cp c87 122)) (cp c87 244) (cp c87 245))) : eRound env k inv l #[z0,z1] h = R87_lrlrrr inv k l x6 x7 x9 x22 z0 z1 h:=ks_round (n:=30) [] 122 hl [(6,x6),(7,x7),(9,x9),(22,x22),(23,z0),(24,z1)]
/-- shadowbook/segment.words$1 -/
noncomputable def F88 (inv : Inv) (k : Nat) (x0 : Value) (h : AH) : Option (Value × AH) :=
  bnd (pBox Tryz.prog 31 x0 h) fun x1 =>
  bnd (pFieldAddr Tryz.prog 31 x1.1 2) fun x3 =>
  bnd (pLoad Tryz.prog 9 x3 x1.2) fun x4 =>
  some (x4,x1.2)
theorem F88_eq : eFun env k inv 88 #[x0] h = F88 inv k x0 h:=ks_fun (n:=5) []
theorem F88_call : eInv env (k + 1) (.func 88) #[] #[x0] h = F88 (eInv env k) k x0 h:=kq_inv F88_eq
/-- shadowbook/segment.words$2 -/
noncomputable def F89 (inv : Inv) (k : Nat) (x0 : Value) (h : AH) : Option (Value × AH) :=
  bnd (pAlloc Tryz.prog 31 h) fun x2 =>
  bnd (pBuild Tryz.prog 31 #[(0,(.int .i64 3)),(2,x0)]) fun x4 =>
  bnd (kSt (pStore Tryz.prog 31 x2.1 x4 x2.2)) fun u =>
  bnd (pLoad Tryz.prog 31 x2.1 u.2) fun q0 =>
  some (q0,u.2)
theorem F89_eq : eFun env k inv 89 #[x0] h = F89 inv k x0 h:=ks_fun (n:=5) []
theorem F89_call : eInv env (k + 1) (.func 89) #[] #[x0] h = F89 (eInv env k) k x0 h:=kq_inv F89_eq
/-- shadowbook/segment.words$3 -/
noncomputable def F90 (inv : Inv) (k : Nat) (x0 x1 : Value) (h : AH) : Option (Value × AH) :=
  bnd (pLen Tryz.prog #[9] x1 h) fun x7 =>
  bnd (pConv Tryz.prog 3 60 x7 h) fun x8 =>
  bnd (inv (.func 47) #[] #[x0,x8] h) fun x9 =>
  bnd (pAppend Tryz.prog #[33,9] x9.1 x1 x9.2) fun x11 =>
  some (x11.1,x11.2)
theorem F90_eq : eFun env k inv 90 #[x0,x1] h = F90 inv k x0 x1 h:=ks_fun (n:=12) []
theorem F90_call : eInv env (k + 1) (.func 90) #[] #[x0,x1] h = F90 (eInv env k) k x0 x1 h:=kq_inv F90_eq
noncomputable abbrev G91_2 {β : Type} (inv : Inv) (x0 x4 x5 : Value) (h : AH) (K : Value→AH→Option β) : Option β :=
  bnd (pBin Tryz.prog .neq 25 (.tmp 12) (.const (.int .i64 0)) x5 (.int .i64 0)) fun x13 =>
  bnd (gd (some x13) false h (some (x4,h))) fun x15 =>
  bnd (gd (some x13) false x15.2 (lt (pBin Tryz.prog .gtr 60 (.tmp 15) (.const (.int .u64 65536)) x15.1 (.int .u64 65536)) x15.2)) fun x16 =>
  bnd (pickV x13 (.bool true) x16.1) fun x17 =>
  K (x17) x16.2
/-- shadowbook/segment.words$4 -/
noncomputable def F91 (inv : Inv) (k : Nat) (x0 : Value) (h : AH) : Option (Value × AH) :=
  bnd (inv (.func 92) #[] #[x0] h) fun x9 =>
  bnd (pExtract x9.1 0) fun x10 =>
  bnd (pExtract x9.1 1) fun x11 =>
  G91_2 inv x0 x10 x11 x9.2 fun y17 h =>
  brV y17
  (some (.tuple #[(.string { data:=#[] }),(.int .i64 4)],h))
  (bnd (pConv Tryz.prog 60 3 x10 h) fun x21 =>
  bnd (inv (.func 60) #[] #[x0,x21] h) fun x22 =>
  bnd (pExtract x22.1 0) fun x23 =>
  bnd (pExtract x22.1 1) fun x24 =>
  bnd (pConv Tryz.prog 33 9 x23 x22.2) fun x26 =>
  some (.tuple #[x26,x24],x22.2))
theorem F91_eq : eFun env k inv 91 #[x0] h = F91 inv k x0 h:=ks_fun (n:=28) []
theorem F91_call : eInv env (k + 1) (.func 91) #[] #[x0] h = F91 (eInv env k) k x0 h:=kq_inv F91_eq
noncomputable abbrev G92_8 {β : Type} (inv : Inv) (x0 x2 x4 x5 x6 x12 x13 x14 : Value) (h : AH) (K : Value→AH→Option β) : Option β :=
  bnd (pBin Tryz.prog .eql 3 (.tmp 24) (.const (.int .i64 9)) x4 (.int .i64 9)) fun x25 =>
  bnd (gd (some x25) true h (some (x6,h))) fun x27 =>
  bnd (gd (some x25) true x27.2 (lt (pBin Tryz.prog .gtr 60 (.tmp 27) (.const (.int .u64 1)) x27.1 (.int .u64 1)) x27.2)) fun x28 =>
  bnd (pickV x25 x28.1 (.bool false)) fun x29 =>
  K (x29) x28.2
noncomputable abbrev G92_11 {β : Type} (inv : Inv) (x0 x2 x4 x6 : Value) (h : AH) (K : Value→AH→Option β) : Option β :=
  bnd (pBin Tryz.prog .eql 60 (.tmp 38) (.const (.int .u64 0)) x6 (.int .u64 0)) fun x39 =>
  bnd (gd (some x39) true h (some (x4,h))) fun x41 =>
  bnd (gd (some x39) true x41.2 (lt (pBin Tryz.prog .gtr 3 (.tmp 41) (.const (.int .i64 0)) x41.1 (.int .i64 0)) x41.2)) fun x42 =>
  bnd (pickV x39 x42.1 (.bool false)) fun x43 =>
  K (x43) x42.2
noncomputable abbrev G92_12 {β : Type} (inv : Inv) (x0 x2 x4 : Value) (h : AH) (K : AH→Option β) : Option β :=
  bnd (pNilCheck Tryz.prog x0) fun x46 =>
  bnd (pFieldAddr Tryz.prog 144 x46 0) fun x47 =>
  bnd (pLoad Tryz.prog 33 x47 h) fun x48 =>
  bnd (pBin Tryz.prog .add 3 (.tmp 49) (.const (.int .i64 1)) x4 (.int .i64 1)) fun x50 =>
  bnd (pSlice Tryz.prog 33 x48 (some x50) none none h) fun x51 =>
  bnd (pNilCheck Tryz.prog x0) fun x52 =>
  bnd (pFieldAddr Tryz.prog 144 x52 0) fun x53 =>
  bnd (kSt (pStore Tryz.prog 33 x53 x51 h)) fun u =>
  K u.2
noncomputable def F92_lrlrr {β : Type} (inv : Inv) (k : Nat) : Nat→Value→Value→Value→Value→Value→AH→(Value→Value→Value→Value→Value→Value→Value→Value→Value→Value→Value→Value→AH→Option β)→(Value→Value→AH→Option β)→Option β
 | 0,_,_,_,_,_,_,_,_=>none
 | j + 1,x0,x2,x12,x13,x14,h,ke0,kr =>
  bnd (pBin Tryz.prog .lss 3 (.tmp 14) (.tmp 13) x14 x13) fun x15 =>
  brV x15
  (bnd (pIndexAddr Tryz.prog 33 x12 x14) fun x17 =>
  bnd (pLoad Tryz.prog 5 x17 h) fun x18 =>
  bnd (pBin Tryz.prog .eql 3 (.tmp 19) (.const (.int .i64 10)) x14 (.int .i64 10)) fun x20 =>
  brV x20
  (ke0 x0 x2 x14 x18 unk x12 x13 x14 unk x20 unk unk h)
  (bnd (pBin Tryz.prog .andNot 5 (.tmp 21) (.const (.int .u8 128)) x18 (.int .u8 128)) fun x22 =>
  bnd (pConv Tryz.prog 5 60 x22 h) fun x23 =>
  G92_8 inv x0 x2 x14 x18 x23 x12 x13 x14 h fun y29 h =>
  brV y29
  (ke0 x0 x2 x14 x18 x23 x12 x13 x14 unk unk y29 unk h)
  (bnd (pBin Tryz.prog .mul 3 (.const (.int .i64 7)) (.tmp 32) (.int .i64 7) x14) fun x33 =>
  bnd (pBin Tryz.prog .shl 60 (.tmp 31) (.tmp 33) x23 x33) fun x34 =>
  bnd (pBin Tryz.prog .or 60 (.tmp 30) (.tmp 34) x2 x34) fun x35 =>
  bnd (pBin Tryz.prog .geq 5 (.tmp 36) (.const (.int .u8 128)) x18 (.int .u8 128)) fun x37 =>
  brV x37
  (bnd (pBin Tryz.prog .add 3 (.tmp 14) (.const (.int .i64 1)) x14 (.int .i64 1)) fun x55 =>
  F92_lrlrr inv k j x0 x35 x12 x13 x55 h ke0 kr)
  (G92_11 inv x0 x35 x14 x23 h fun y43 h_1 =>
  brV y43
  (ke0 x0 x35 x14 unk unk unk unk unk unk unk unk y43 h_1)
  (G92_12 inv x0 x35 x14 h_1 fun  h_2 =>
  kr x35 (.int .i64 0) h_2)))))
  (ke0 x0 x2 unk unk unk x12 x13 x14 x15 unk unk unk h)
noncomputable def e92_0 : Ent env 92 false 58:=.lp [] 58 [0,2,12,13,14] [(.exit 0,[0,2,4,5,6,12,13,14,15,20,29,43]),(.ret,[2,3])] F92_lrlrr
noncomputable def F92_rlrr {β : Type} (inv : Inv) (k : Nat) (x0 x2 x12 x13 x14 : Value) (h : AH) (kn : (Value→Value→Value→Value→Value→Value→Value→Value→Value→Value→Value→Value→AH→Option β)) (kr : (Value→Value→AH→Option β)) : Option β :=
  F92_lrlrr inv k k x0 x2 x12 x13 x14 h
  (fun y0 y2 y4 y5 y6 y12 y13 y14 y15 y20 y29 y43 h =>
  kn y0 y2 y4 y5 y6 y12 y13 y14 y15 y20 y29 y43 h)
  (fun y2_3 y3 h_4 =>
  kr y2_3 y3 h_4)
noncomputable def e92_1 : Ent env 92 false 58:=.jn [e92_0] 29 [0,2,12,13,14] [(.normal,[0,2,4,5,6,12,13,14,15,20,29,43]),(.ret,[2,3])] F92_rlrr
/-- (*shadowbook/octet.Reader).Var -/
noncomputable def F92 (inv : Inv) (k : Nat) (x0 : Value) (h : AH) : Option (Value × AH) :=
  bnd (pBin Tryz.prog .eql 114 (.tmp 7) (.const (.pointer none)) x0 (.pointer none)) fun x8 =>
  brV x8
  (some (.tuple #[(.int .u64 0),(.int .i64 1)],h))
  (bnd (pNilCheck Tryz.prog x0) fun x10 =>
  bnd (pFieldAddr Tryz.prog 144 x10 0) fun x11 =>
  bnd (pLoad Tryz.prog 33 x11 h) fun x12 =>
  bnd (pLen Tryz.prog #[33] x12 h) fun x13 =>
  F92_rlrr inv k x0 (.int .u64 0) x12 x13 (.int .i64 0) h
  (fun y0 y2 y4 y5 y6 y12 y13 y14 y15 y20 y29 y43 h =>
  bnd (inv (.func 129) #[] #[y0] h) fun x57 =>
  brV x57.1
  (some (.tuple #[(.int .u64 0),(.int .i64 7)],x57.2))
  (some (.tuple #[(.int .u64 0),(.int .i64 4)],x57.2)))
  (fun y2_5 y3 h_6 =>
  some (.tuple #[y2_5,y3],h_6)))
theorem F92_eq : eFun env k inv 92 #[x0] h = F92 inv k x0 h:=ks_fun (n:=58) [e92_0,e92_1]
theorem F92_call : eInv env (k + 1) (.func 92) #[] #[x0] h = F92 (eInv env k) k x0 h:=kq_inv F92_eq
noncomputable abbrev G93_5 {β : Type} (inv : Inv) (x4 x6 x7 : Value) (h : AH) (K : Value→AH→Option β) : Option β :=
  bnd (pBin Tryz.prog .eql 25 (.tmp 21) (.const (.int .i64 0)) x7 (.int .i64 0)) fun x22 =>
  bnd (gd (some x22) true h (some (x6,h))) fun x24 =>
  bnd (gd (some x22) true x24.2 (lt (pLen Tryz.prog #[33] x24.1 x24.2) x24.2)) fun x25 =>
  bnd (gd (some x22) true x25.2 (some (x4,x25.2))) fun x26 =>
  bnd (gd (some x22) true x26.2 (lt (pLen Tryz.prog #[33] x26.1 x26.2) x26.2)) fun x27 =>
  bnd (gd (some x22) true x27.2 (lt (pBin Tryz.prog .lss 3 (.tmp 25) (.tmp 27) x25.1 x27.1) x27.2)) fun x28 =>
  bnd (pickV x22 x28.1 (.bool false)) fun x29 =>
  K (x29) x28.2
/-- shadowbook/texts.Put -/
noncomputable def F93 (inv : Inv) (k : Nat) (x0 : Value) (h : AH) : Option (Value × AH) :=
  bnd (inv (.func 130) #[] #[x0] h) fun x10 =>
  bnd (pExtract x10.1 0) fun x11 =>
  bnd (pExtract x10.1 1) fun x12 =>
  bnd (pBin Tryz.prog .neq 25 (.tmp 13) (.const (.int .i64 0)) x12 (.int .i64 0)) fun x14 =>
  brV x14
  (some (.tuple #[(.slice none 0 0),x12],x10.2))
  (bnd (inv (.func 131) #[] #[x0] x10.2) fun x18 =>
  bnd (pExtract x18.1 0) fun x19 =>
  bnd (pExtract x18.1 1) fun x20 =>
  G93_5 inv x11 x19 x20 x18.2 fun y29 h =>
  brV y29
  (some (.tuple #[x19,(.int .i64 0)],h))
  (some (.tuple #[x11,(.int .i64 0)],h)))
theorem F93_eq : eFun env k inv 93 #[x0] h = F93 inv k x0 h:=ks_fun (n:=32) []
theorem F93_call : eInv env (k + 1) (.func 93) #[] #[x0] h = F93 (eInv env k) k x0 h:=kq_inv F93_eq
noncomputable def F96_lrrllrlr {β : Type} (inv : Inv) (k : Nat) (x2 x5 x6 x7 x8 : Value) (h : AH) (kn : (Value→Value→Value→Value→Value→AH→Option β)) : Option β :=
  bnd (pIndexAddr Tryz.prog 105 x5 x7) fun x9 =>
  bnd (pLoad Tryz.prog 4 x9 h) fun x10 =>
  brV x10
  (bnd (pBin Tryz.prog .add 3 (.tmp 12) (.const (.int .i64 1)) x2 (.int .i64 1)) fun x13 =>
  kn x13 x5 x6 x7 unk h)
  (kn x2 x5 x6 x7 x10 h)
noncomputable def e96_0 : Ent env 96 false 16:=.jn [] 422 [2,5,6,7,8] [(.normal,[2,5,6,7,11])] F96_lrrllrlr
noncomputable def F96_lrlr {β : Type} (inv : Inv) (k : Nat) : Nat→Value→Value→Value→Value→AH→(Value→Value→Value→Value→Value→AH→Option β)→Option β
 | 0,_,_,_,_,_,_=>none
 | j + 1,x2,x5,x6,x7,h,ke0 =>
  bnd (pBin Tryz.prog .lss 3 (.tmp 7) (.tmp 6) x7 x6) fun x8 =>
  brV x8
  (F96_lrrllrlr inv k x2 x5 x6 x7 x8 h
  (fun y2 y5 y6 y7 y11 h =>
  bnd (pBin Tryz.prog .add 3 (.tmp 7) (.const (.int .i64 1)) y7 (.int .i64 1)) fun x14 =>
  F96_lrlr inv k j y2 y5 y6 x14 h ke0))
  (ke0 x2 x5 x6 x7 x8 h)
noncomputable def e96_1 : Ent env 96 false 16:=.lp [e96_0] 26 [2,5,6,7] [(.exit 0,[2,5,6,7,8])] F96_lrlr
/-- (shadowbook/nulls.flags).count -/
noncomputable def F96 (inv : Inv) (k : Nat) (x0 : Value) (h : AH) : Option (Value × AH) :=
  bnd (pLen Tryz.prog #[105] x0 h) fun x6 =>
  F96_lrlr inv k k (.int .i64 0) x0 x6 (.int .i64 0) h
  (fun y2 y5 y6 y7 y8 h =>
  some (y2,h))
theorem F96_eq : eFun env k inv 96 #[x0] h = F96 inv k x0 h:=ks_fun (n:=16) [e96_0,e96_1]
theorem F96_call : eInv env (k + 1) (.func 96) #[] #[x0] h = F96 (eInv env k) k x0 h:=kq_inv F96_eq
noncomputable abbrev G97_1 {β : Type} (inv : Inv) (x0 x1 : Value) (h : AH) (K : Value→AH→Option β) : Option β :=
  bnd (pBin Tryz.prog .geq 3 (.tmp 5) (.const (.int .i64 0)) x0 (.int .i64 0)) fun x6 =>
  bnd (gd (some x6) true h (some (x0,h))) fun x8 =>
  bnd (gd (some x6) true x8.2 (lt (pBin Tryz.prog .leq 3 (.tmp 8) (.const (.int .i64 65536)) x8.1 (.int .i64 65536)) x8.2)) fun x9 =>
  bnd (pickV x6 x9.1 (.bool false)) fun x10 =>
  bnd (gd (some x10) true x9.2 (some (x1,x9.2))) fun x12 =>
  bnd (gd (some x10) true x12.2 (lt (pBin Tryz.prog .geq 3 (.tmp 12) (.const (.int .i64 0)) x12.1 (.int .i64 0)) x12.2)) fun x13 =>
  bnd (pickV x10 x13.1 (.bool false)) fun x14 =>
  bnd (gd (some x14) true x13.2 (some (x1,x13.2))) fun x16 =>
  bnd (gd (some x14) true x16.2 (lt (pBin Tryz.prog .leq 3 (.tmp 16) (.const (.int .i64 64)) x16.1 (.int .i64 64)) x16.2)) fun x17 =>
  bnd (pickV x14 x17.1 (.bool false)) fun x18 =>
  K (x18) x17.2
/-- shadowbook/packs.may -/
noncomputable def F97 (inv : Inv) (k : Nat) (x0 x1 : Value) (h : AH) : Option (Value × AH) :=
  G97_1 inv x0 x1 h fun y4 h =>
  some (y4,h)
theorem F97_eq : eFun env k inv 97 #[x0,x1] h = F97 inv k x0 x1 h:=ks_fun (n:=19) []
theorem F97_call : eInv env (k + 1) (.func 97) #[] #[x0,x1] h = F97 (eInv env k) k x0 x1 h:=kq_inv F97_eq
noncomputable def F98_lrlrr {β : Type} (inv : Inv) (k : Nat) : Nat→Value→Value→Value→Value→AH→(Value→Value→Value→Value→Value→AH→Option β)→Option β
 | 0,_,_,_,_,_,_=>none
 | j + 1,x3,x6,x7,x8,h,ke0 =>
  bnd (pBin Tryz.prog .lss 3 (.tmp 8) (.tmp 7) x8 x7) fun x9 =>
  brV x9
  (bnd (pIndexAddr Tryz.prog 63 x6 x8) fun x10 =>
  bnd (pLoad Tryz.prog 60 x10 h) fun x11 =>
  bnd (pBin Tryz.prog .or 60 (.tmp 12) (.tmp 13) x3 x11) fun x14 =>
  bnd (pBin Tryz.prog .add 3 (.tmp 8) (.const (.int .i64 1)) x8 (.int .i64 1)) fun x15 =>
  F98_lrlrr inv k j x14 x6 x7 x15 h ke0)
  (ke0 x3 x6 x7 x8 x9 h)
noncomputable def e98_0 : Ent env 98 false 18:=.lp [] 58 [3,6,7,8] [(.exit 0,[3,6,7,8,9])] F98_lrlrr
/-- shadowbook/packs.Width -/
noncomputable def F98 (inv : Inv) (k : Nat) (x0 : Value) (h : AH) : Option (Value × AH) :=
  bnd (pLen Tryz.prog #[63] x0 h) fun x7 =>
  F98_lrlrr inv k k (.int .u64 0) x0 x7 (.int .i64 0) h
  (fun y3 y6 y7 y8 y9 h =>
  bnd (inv (.func 134) #[] #[y3] h) fun x17 =>
  some (x17.1,x17.2))
theorem F98_eq : eFun env k inv 98 #[x0] h = F98 inv k x0 h:=ks_fun (n:=18) [e98_0]
theorem F98_call : eInv env (k + 1) (.func 98) #[] #[x0] h = F98 (eInv env k) k x0 h:=kq_inv F98_eq
noncomputable abbrev G99_3 {β : Type} (inv : Inv) (x0 x1 : Value) (h : AH) (K : Value→AH→Option β) : Option β :=
  bnd (pBin Tryz.prog .mul 3 (.tmp 9) (.tmp 10) x0 x1) fun x11 =>
  bnd (pBin Tryz.prog .add 3 (.tmp 11) (.const (.int .i64 8)) x11 (.int .i64 8)) fun x12 =>
  bnd (pBin Tryz.prog .sub 3 (.tmp 12) (.const (.int .i64 1)) x12 (.int .i64 1)) fun x13 =>
  bnd (pBin Tryz.prog .quo 3 (.tmp 13) (.const (.int .i64 8)) x13 (.int .i64 8)) fun x14 =>
  K (x14) h
/-- shadowbook/packs.Size -/
noncomputable def F99 (inv : Inv) (k : Nat) (x0 x1 : Value) (h : AH) : Option (Value × AH) :=
  bnd (inv (.func 97) #[] #[x0,x1] h) fun x7 =>
  bnd (pUn Tryz.prog .not x7.1) fun x8 =>
  brV x8
  (some ((.int .i64 0),x7.2))
  (G99_3 inv x0 x1 x7.2 fun y4 h =>
  some (y4,h))
theorem F99_eq : eFun env k inv 99 #[x0,x1] h = F99 inv k x0 x1 h:=ks_fun (n:=15) []
theorem F99_call : eInv env (k + 1) (.func 99) #[] #[x0,x1] h = F99 (eInv env k) k x0 x1 h:=kq_inv F99_eq
/-- shadowbook/packs.Put$1 -/
noncomputable def F100 (inv : Inv) (k : Nat) (x0 x1 x2 x3 : Value) (h : AH) : Option (Value × AH) :=
  bnd (pLoad Tryz.prog 5 x1 h) fun x5 =>
  bnd (pLoad Tryz.prog 3 x2 h) fun x7 =>
  bnd (pBin Tryz.prog .shl 5 (.tmp 6) (.tmp 7) x0 x7) fun x8 =>
  bnd (pBin Tryz.prog .or 5 (.tmp 5) (.tmp 8) x5 x8) fun x9 =>
  bnd (kSt (pStore Tryz.prog 5 x1 x9 h)) fun u =>
  bnd (pLoad Tryz.prog 3 x2 u.2) fun x10 =>
  bnd (pBin Tryz.prog .add 3 (.tmp 10) (.const (.int .i64 1)) x10 (.int .i64 1)) fun x11 =>
  bnd (kSt (pStore Tryz.prog 3 x2 x11 u.2)) fun u_1 =>
  bnd (pLoad Tryz.prog 3 x2 u_1.2) fun x12 =>
  bnd (pBin Tryz.prog .eql 3 (.tmp 12) (.const (.int .i64 8)) x12 (.int .i64 8)) fun x13 =>
  brV x13
  (bnd (pLoad Tryz.prog 33 x3 u_1.2) fun x14 =>
  bnd (pLoad Tryz.prog 5 x1 u_1.2) fun x15 =>
  bnd (pBuildSlice Tryz.prog 33 1 #[(0,x15)] u_1.2) fun x16 =>
  bnd (pAppend Tryz.prog #[33,33] x14 x16.1 x16.2) fun x17 =>
  bnd (kSt (pStore Tryz.prog 33 x3 x17.1 x17.2)) fun u_2 =>
  bnd (kSt (pStore Tryz.prog 5 x1 (.int .u8 0) u_2.2)) fun u_4 =>
  bnd (kSt (pStore Tryz.prog 3 x2 (.int .i64 0) u_4.2)) fun u_5 =>
  some (.tuple #[],u_5.2))
  (some (.tuple #[],u_1.2))
theorem F100_eq : eFun env k inv 100 #[x0,x1,x2,x3] h = F100 inv k x0 x1 x2 x3 h:=ks_fun (n:=18) []
theorem F100_call : eInv env (k + 1) (.func 100) #[] #[x0,x1,x2,x3] h = F100 (eInv env k) k x0 x1 x2 x3 h:=kq_inv F100_eq
noncomputable abbrev G101_1 {β : Type} (inv : Inv) (x2 x3 : Value) (h : AH) (K : Value→AH→Option β) : Option β :=
  bnd (pFieldAddr Tryz.prog 31 x2 0) fun x5 =>
  bnd (pLoad Tryz.prog 3 x5 h) fun x6 =>
  bnd (pFieldAddr Tryz.prog 31 x3 0) fun x7 =>
  bnd (pLoad Tryz.prog 3 x7 h) fun x8 =>
  bnd (inv (.func 124) #[] #[x6,x8] h) fun x9 =>
  bnd (pFieldAddr Tryz.prog 31 x2 1) fun x10 =>
  bnd (pLoad Tryz.prog 2 x10 x9.2) fun x11 =>
  bnd (pFieldAddr Tryz.prog 31 x3 1) fun x12 =>
  bnd (pLoad Tryz.prog 2 x12 x9.2) fun x13 =>
  bnd (inv (.func 136) #[] #[x11,x13] x9.2) fun x14 =>
  bnd (pFieldAddr Tryz.prog 31 x2 2) fun x15 =>
  bnd (pLoad Tryz.prog 9 x15 x14.2) fun x16 =>
  bnd (pFieldAddr Tryz.prog 31 x3 2) fun x17 =>
  bnd (pLoad Tryz.prog 9 x17 x14.2) fun x18 =>
  bnd (inv (.func 137) #[] #[x16,x18] x14.2) fun x19 =>
  bnd (pBuildSlice Tryz.prog 72 3 #[(0,x9.1),(1,x14.1),(2,x19.1)] x19.2) fun x20 =>
  bnd (inv (.func 135) #[] #[x20.1] x20.2) fun x21 =>
  chkK ((!true || !true || (sameO (pLoad Tryz.prog 2 x10 h) x11 && sameO (pLoad Tryz.prog 2 x10 x9.2) x11)) && ((!true || !true || (sameO (pLoad Tryz.prog 2 x12 h) x13 && sameO (pLoad Tryz.prog 2 x12 x9.2) x13)) && ((!true || !true || (sameO (pLoad Tryz.prog 9 x15 h) x16 && sameO (pLoad Tryz.prog 9 x15 x9.2) x16)) && ((!true || !true || (sameO (pLoad Tryz.prog 9 x15 x9.2) x16 && sameO (pLoad Tryz.prog 9 x15 x14.2) x16)) && ((!true || !true || (sameO (pLoad Tryz.prog 9 x17 h) x18 && sameO (pLoad Tryz.prog 9 x17 x9.2) x18)) && ((!true || !true || (sameO (pLoad Tryz.prog 9 x17 x9.2) x18 && sameO (pLoad Tryz.prog 9 x17 x14.2) x18)) && true)))))) <|
  K (x21.1) x21.2
/-- shadowbook/zone.Compare -/
noncomputable def F101 (inv : Inv) (k : Nat) (x0 x1 : Value) (h : AH) : Option (Value × AH) :=
  bnd (pBox Tryz.prog 31 x0 h) fun x2 =>
  bnd (pBox Tryz.prog 31 x1 x2.2) fun x3 =>
  G101_1 inv x2.1 x3.1 x3.2 fun y4 h =>
  some (y4,h)
theorem F101_eq : eFun env k inv 101 #[x0,x1] h = F101 inv k x0 x1 h:=ks_fun (n:=22) []
theorem F101_call : eInv env (k + 1) (.func 101) #[] #[x0,x1] h = F101 (eInv env k) k x0 x1 h:=kq_inv F101_eq
noncomputable def F103_rlr {β : Type} (inv : Inv) (k : Nat) (x0 x1 x10 : Value) (h : AH) (kn : (Value→Value→Value→AH→Option β)) : Option β :=
  brV x10
  (bnd (pMakeIface Tryz.prog 9 (.string { data:=#[99,97,110,110,111,116,32,98,101,32,110,101,103,97,116,105,118,101] })) fun x11 =>
  bnd ((none : Option (Value × AH))) fun u =>
  kn x0 x1 unk u.2)
  (kn x0 x1 x10 h)
noncomputable def e103_0 : Ent env 103 false 48:=.jn [] 13 [0,1,10] [(.normal,[0,1,10])] F103_rlr
noncomputable abbrev G103_4 {β : Type} (inv : Inv) (x0 x5 x6 : Value) (h : AH) (K : Value→AH→Option β) : Option β :=
  bnd (pBin Tryz.prog .gtr 109 (.tmp 21) (.const (.int .u64 0)) x5 (.int .u64 0)) fun x22 =>
  bnd (gd (some x22) false h (some (x6,h))) fun x24 =>
  bnd (gd (some x22) false x24.2 (lt (pBin Tryz.prog .gtr 109 (.tmp 24) (.const (.int .u64 9223372036854775807)) x24.1 (.int .u64 9223372036854775807)) x24.2)) fun x25 =>
  bnd (pickV x22 (.bool true) x25.1) fun x26 =>
  K (x26) x25.2
noncomputable def F103_rlrrr {β : Type} (inv : Inv) (k : Nat) (x0 x6 x26 : Value) (h : AH) (kn : (Value→Value→Value→AH→Option β)) : Option β :=
  brV x26
  (bnd (pMakeIface Tryz.prog 9 (.string { data:=#[116,104,101,32,114,101,115,117,108,116,32,111,102,32,40,108,101,110,40,120,41,32,42,32,99,111,117,110,116,41,32,111,118,101,114,102,108,111,119,115] })) fun x27 =>
  bnd ((none : Option (Value × AH))) fun u =>
  kn x0 x6 unk u.2)
  (kn x0 x6 x26 h)
noncomputable def e103_1 : Ent env 103 false 48:=.jn [e103_0] 61 [0,6,26] [(.normal,[0,6,26])] F103_rlrrr
noncomputable def F103_llrrrrrr {β : Type} (inv : Inv) (k : Nat) : Nat→Value→Value→AH→(Value→Value→Value→AH→Option β)→Option β
 | 0,_,_,_,_=>none
 | j + 1,x7,x8,h,ke0 =>
  bnd (pLen Tryz.prog #[32] x7 h) fun x36 =>
  bnd (pBin Tryz.prog .lss 3 (.tmp 34) (.tmp 36) x8 x36) fun x37 =>
  brV x37
  (bnd (pSlice Tryz.prog 32 x7 (some x8) none none h) fun x41 =>
  bnd (pSlice Tryz.prog 32 x7 none (some x8) none h) fun x44 =>
  bnd (pCopy Tryz.prog #[32,32] x41 x44 h) fun x45 =>
  bnd (pBin Tryz.prog .add 3 (.tmp 38) (.tmp 45) x8 x45.1) fun x46 =>
  F103_llrrrrrr inv k j x7 x46 x45.2 ke0)
  (ke0 x7 x8 x37 h)
noncomputable def e103_2 : Ent env 103 false 48:=.lp [e103_0,e103_1] 508 [7,8] [(.exit 0,[7,8,37])] F103_llrrrrrr
/-- slices.Repeat[[]bool,bool] -/
noncomputable def F103 (inv : Inv) (k : Nat) (x0 x1 : Value) (h : AH) : Option (Value × AH) :=
  bnd (pBin Tryz.prog .lss 3 (.tmp 9) (.const (.int .i64 0)) x1 (.int .i64 0)) fun x10 =>
  F103_rlr inv k x0 x1 x10 h
  (fun y0 y1 y10 h =>
  bnd (pLen Tryz.prog #[32] y0 h) fun x14 =>
  bnd (pConv Tryz.prog 3 109 x14 h) fun x15 =>
  bnd (pConv Tryz.prog 3 109 y1 h) fun x17 =>
  bnd (inv (.func 138) #[] #[x15,x17] h) fun x18 =>
  bnd (pExtract x18.1 0) fun x19 =>
  bnd (pExtract x18.1 1) fun x20 =>
  G103_4 inv y0 x19 x20 x18.2 fun y26 h_1 =>
  F103_rlrrr inv k y0 x20 y26 h_1
  (fun y0_2 y6 y26_3 h_4 =>
  bnd (pConv Tryz.prog 109 3 y6 h_4) fun x29 =>
  bnd (pMakeSlice Tryz.prog 32 x29 x29 h_4) fun x30 =>
  bnd (pCopy Tryz.prog #[32,32] x30.1 y0_2 x30.2) fun x33 =>
  F103_llrrrrrr inv k k x30.1 x33.1 x33.2
  (fun y7 y8 y37 h_5 =>
  some (y7,h_5))))
theorem F103_eq : eFun env k inv 103 #[x0,x1] h = F103 inv k x0 x1 h:=ks_fun (n:=48) [e103_0,e103_1,e103_2]
theorem F103_call : eInv env (k + 1) (.func 103) #[] #[x0,x1] h = F103 (eInv env k) k x0 x1 h:=kq_inv F103_eq
/-- bytes.Equal -/
noncomputable def F104 (inv : Inv) (k : Nat) (x0 x1 : Value) (h : AH) : Option (Value × AH) :=
  bnd (pConv Tryz.prog 33 9 x0 h) fun x6 =>
  bnd (pConv Tryz.prog 33 9 x1 h) fun x8 =>
  bnd (pBin Tryz.prog .eql 9 (.tmp 6) (.tmp 8) x6 x8) fun x9 =>
  some (x9,h)
theorem F104_eq : eFun env k inv 104 #[x0,x1] h = F104 inv k x0 x1 h:=ks_fun (n:=10) []
theorem F104_call : eInv env (k + 1) (.func 104) #[] #[x0,x1] h = F104 (eInv env k) k x0 x1 h:=kq_inv F104_eq
/-- slices.Clone[[]byte,byte] -/
noncomputable def F105 (inv : Inv) (k : Nat) (x0 : Value) (h : AH) : Option (Value × AH) :=
  bnd (pBin Tryz.prog .eql 33 (.tmp 3) (.const (.slice none 0 0)) x0 (.slice none 0 0)) fun x4 =>
  brV x4
  (some ((.slice none 0 0),h))
  (bnd (pBuildSlice Tryz.prog 33 0 #[] h) fun x5 =>
  bnd (pAppend Tryz.prog #[33,33] x5.1 x0 x5.2) fun x7 =>
  some (x7.1,x7.2))
theorem F105_eq : eFun env k inv 105 #[x0] h = F105 inv k x0 h:=ks_fun (n:=8) []
theorem F105_call : eInv env (k + 1) (.func 105) #[] #[x0] h = F105 (eInv env k) k x0 h:=kq_inv F105_eq
/-- (*shadowbook/octet.Reader).take -/
noncomputable def F106 (inv : Inv) (k : Nat) (x0 x1 : Value) (h : AH) : Option (Value × AH) :=
  bnd (pNilCheck Tryz.prog x0) fun x8 =>
  bnd (pFieldAddr Tryz.prog 144 x8 0) fun x9 =>
  bnd (pLoad Tryz.prog 33 x9 h) fun x10 =>
  bnd (pLen Tryz.prog #[33] x10 h) fun x11 =>
  bnd (pBin Tryz.prog .lss 3 (.tmp 11) (.tmp 12) x11 x1) fun x13 =>
  brV x13
  (some (.tuple #[(.slice none 0 0),(.int .i64 7)],h))
  (bnd (pNilCheck Tryz.prog x0) fun x15 =>
  bnd (pFieldAddr Tryz.prog 144 x15 0) fun x16 =>
  bnd (pLoad Tryz.prog 33 x16 h) fun x17 =>
  bnd (pSlice Tryz.prog 33 x17 none (some x1) (some x1) h) fun x20 =>
  bnd (pNilCheck Tryz.prog x0) fun x23 =>
  bnd (pFieldAddr Tryz.prog 144 x23 0) fun x24 =>
  bnd (pLoad Tryz.prog 33 x24 h) fun x25 =>
  bnd (pSlice Tryz.prog 33 x25 (some x1) none none h) fun x27 =>
  bnd (pNilCheck Tryz.prog x0) fun x28 =>
  bnd (pFieldAddr Tryz.prog 144 x28 0) fun x29 =>
  bnd (kSt (pStore Tryz.prog 33 x29 x27 h)) fun u =>
  some (.tuple #[x20,(.int .i64 0)],u.2))
theorem F106_eq : eFun env k inv 106 #[x0,x1] h = F106 inv k x0 x1 h:=ks_fun (n:=31) []
theorem F106_call : eInv env (k + 1) (.func 106) #[] #[x0,x1] h = F106 (eInv env k) k x0 x1 h:=kq_inv F106_eq
noncomputable def c120 : Code:=codeOf Tryz.prog 120
noncomputable def F120_rlrr {β : Type} (inv : Inv) (k : Nat) (x2 x9 : Value) (h : AH) (kn : (Value→Value→AH→Option β)) : Option β :=
  kRange env 120 inv x9 (psOf (cp c120 58)) (cp c120 116) (cp c120 117) (act 18 [(2,x2),(9,x9)]) h fun e h=>sw e
  (kn x2 x9 h)
  none []
noncomputable def e120_0 : Ent env 120 false 18:=.jn [] 29 [2,9] [(.normal,[2,9])] F120_rlrr
/-- shadowbook/octet.Of -/
noncomputable def F120 (inv : Inv) (k : Nat) (x0 : Value) (h : AH) : Option (Value × AH) :=
  bnd (pAlloc Tryz.prog 60 h) fun x2 =>
  bnd (pLen Tryz.prog #[33] x0 x2.2) fun x6 =>
  bnd (pBin Tryz.prog .gtr 3 (.tmp 6) (.const (.int .i64 8)) x6 (.int .i64 8)) fun x7 =>
  brV x7
  (bnd (kSt (pStore Tryz.prog 60 x2.1 (.int .u64 0) x2.2)) fun u =>
  bnd (pLoad Tryz.prog 60 x2.1 u.2) fun q0 =>
  some (q0,u.2))
  (bnd (inv (.func 143) #[] #[x0] x2.2) fun x9 =>
  F120_rlrr inv k x2.1 x9.1 x9.2
  (fun y2 y9 h =>
  bnd (pLoad Tryz.prog 60 y2 h) fun x17 =>
  bnd (kSt (pStore Tryz.prog 60 y2 x17 h)) fun u_1 =>
  bnd (pLoad Tryz.prog 60 y2 u_1.2) fun q0 =>
  some (q0,u_1.2)))
theorem F120_eq : eFun env k inv 120 #[x0] h = F120 inv k x0 h:=ks_fun (n:=18) [e120_0]
theorem F120_call : eInv env (k + 1) (.func 120) #[] #[x0] h = F120 (eInv env k) k x0 h:=kq_inv F120_eq
noncomputable def R120_lrlrr (inv : Inv) (k l : Nat) (x2 x9 z0 z1 : Value) (h : AH) : Option (Value × AH) :=
  rdBegin l h fun h =>
  bnd (pLoad Tryz.prog 60 x2 h) fun x12 =>
  bnd (pBin Tryz.prog .shl 60 (.tmp 12) (.const (.int .u64 8)) x12 (.int .u64 8)) fun x13 =>
  bnd (pConv Tryz.prog 5 60 z1 h) fun x15 =>
  bnd (pBin Tryz.prog .or 60 (.tmp 13) (.tmp 15) x13 x15) fun x16 =>
  bnd (kSt (pStore Tryz.prog 60 x2 x16 h)) fun u =>
  rdEnd l .normal u.2
theorem R120_lrlrr_eq {l : Nat} {pd : Option Code} (hl : h.get l = some (.loop .ready pd 120 (act 18 [(2,x2),(9,x9)]).tmps (psOf (cp c120 58)) (cp c120 116) (cp c120 117))) : eRound env k inv l #[z0,z1] h = R120_lrlrr inv k l x2 x9 z0 z1 h:=ks_round (n:=18) [] 58 hl [(2,x2),(9,x9),(10,z0),(11,z1)]
noncomputable abbrev G121_1 {β : Type} (inv : Inv) (h : AH) (K : Value→AH→Option β) : Option β :=
  bnd (pBuild Tryz.prog 158 #[(0,(.int .u8 1)),(1,(.func (.func 144) #[] #[])),(2,(.func (.func 145) #[] #[]))]) fun x1 =>
  bnd (pBuild Tryz.prog 158 #[(0,(.int .u8 2)),(1,(.func (.func 146) #[] #[])),(2,(.func (.func 147) #[] #[]))]) fun x2 =>
  bnd (pBuild Tryz.prog 158 #[(0,(.int .u8 3)),(1,(.func (.func 148) #[] #[])),(2,(.func (.func 149) #[] #[]))]) fun x3 =>
  bnd (pBuildSlice Tryz.prog 154 3 #[(0,x1),(1,x2),(2,x3)] h) fun x4 =>
  K (x4.1) x4.2
/-- shadowbook/ints.forms -/
noncomputable def F121 (inv : Inv) (k : Nat) (h : AH) : Option (Value × AH) :=
  G121_1 inv  h fun y0 h =>
  some (y0,h)
theorem F121_eq : eFun env k inv 121 #[] h = F121 inv k  h:=ks_fun (n:=5) []
theorem F121_call : eInv env (k + 1) (.func 121) #[] #[] h = F121 (eInv env k) k  h:=kq_inv F121_eq
noncomputable def F122_rlr {β : Type} (inv : Inv) (k : Nat) (x0 x1 x9 : Value) (h : AH) (kn : (Value→Value→Value→AH→Option β)) : Option β :=
  brV x9
  (bnd (pMakeIface Tryz.prog 9 (.string { data:=#[115,108,105,99,101,115,46,77,105,110,70,117,110,99,58,32,101,109,112,116,121,32,108,105,115,116] })) fun x10 =>
  bnd ((none : Option (Value × AH))) fun u =>
  kn x0 x1 unk u.2)
  (kn x0 x1 x9 h)
noncomputable def e122_0 : Ent env 122 false 33:=.jn [] 13 [0,1,9] [(.normal,[0,1,9])] F122_rlr
noncomputable def F122_lrllrlrrr {β : Type} (inv : Inv) (k : Nat) (x0 x1 x5 x6 x17 : Value) (h : AH) (kn : (Value→Value→Value→Value→Value→AH→Option β)) : Option β :=
  bnd (pIndexAddr Tryz.prog 153 x0 x6) fun x23 =>
  bnd (pLoad Tryz.prog 33 x23 h) fun x24 =>
  bnd (callV inv x1 #[x24,x5] h) fun x26 =>
  bnd (pBin Tryz.prog .lss 3 (.tmp 26) (.const (.int .i64 0)) x26.1 (.int .i64 0)) fun x27 =>
  brV x27
  (bnd (pIndexAddr Tryz.prog 153 x0 x6) fun x30 =>
  bnd (pLoad Tryz.prog 33 x30 x26.2) fun x31 =>
  kn x0 x1 x31 x6 unk x26.2)
  (kn x0 x1 x5 x6 x27 x26.2)
noncomputable def e122_1 : Ent env 122 false 33:=.jn [e122_0] 978 [0,1,5,6,17] [(.normal,[0,1,5,6,27])] F122_lrllrlrrr
noncomputable def F122_lrlrrr {β : Type} (inv : Inv) (k : Nat) : Nat→Value→Value→Value→Value→AH→(Value→Value→Value→Value→Value→AH→Option β)→Option β
 | 0,_,_,_,_,_,_=>none
 | j + 1,x0,x1,x5,x6,h,ke0 =>
  bnd (pLen Tryz.prog #[153] x0 h) fun x16 =>
  bnd (pBin Tryz.prog .lss 3 (.tmp 14) (.tmp 16) x6 x16) fun x17 =>
  brV x17
  (F122_lrllrlrrr inv k x0 x1 x5 x6 x17 h
  (fun y0 y1 y5 y6 y27 h =>
  bnd (pBin Tryz.prog .add 3 (.tmp 18) (.const (.int .i64 1)) y6 (.int .i64 1)) fun x19 =>
  F122_lrlrrr inv k j y0 y1 y5 x19 h ke0))
  (ke0 x0 x1 x5 x6 x17 h)
noncomputable def e122_2 : Ent env 122 false 33:=.lp [e122_0,e122_1] 122 [0,1,5,6] [(.exit 0,[0,1,5,6,17])] F122_lrlrrr
/-- slices.MinFunc[[][]byte,[]byte] -/
noncomputable def F122 (inv : Inv) (k : Nat) (x0 x1 : Value) (h : AH) : Option (Value × AH) :=
  bnd (pLen Tryz.prog #[153] x0 h) fun x8 =>
  bnd (pBin Tryz.prog .lss 3 (.tmp 8) (.const (.int .i64 1)) x8 (.int .i64 1)) fun x9 =>
  F122_rlr inv k x0 x1 x9 h
  (fun y0 y1 y9 h =>
  bnd (pIndexAddr Tryz.prog 153 y0 (.int .i64 0)) fun x12 =>
  bnd (pLoad Tryz.prog 33 x12 h) fun x13 =>
  F122_lrlrrr inv k k y0 y1 x13 (.int .i64 1) h
  (fun y0_1 y1_2 y5 y6 y17 h_3 =>
  some (y5,h_3)))
theorem F122_eq : eFun env k inv 122 #[x0,x1] h = F122 inv k x0 x1 h:=ks_fun (n:=33) [e122_0,e122_1,e122_2]
theorem F122_call : eInv env (k + 1) (.func 122) #[] #[x0,x1] h = F122 (eInv env k) k x0 x1 h:=kq_inv F122_eq
/-- shadowbook/ints.Put$1 -/
noncomputable def F123 (inv : Inv) (k : Nat) (x0 x1 : Value) (h : AH) : Option (Value × AH) :=
  bnd (pLen Tryz.prog #[33] x0 h) fun x6 =>
  bnd (pLen Tryz.prog #[33] x1 h) fun x8 =>
  bnd (inv (.func 124) #[] #[x6,x8] h) fun x9 =>
  some (x9.1,x9.2)
theorem F123_eq : eFun env k inv 123 #[x0,x1] h = F123 inv k x0 x1 h:=ks_fun (n:=10) []
theorem F123_call : eInv env (k + 1) (.func 123) #[] #[x0,x1] h = F123 (eInv env k) k x0 x1 h:=kq_inv F123_eq
/-- cmp.Compare[int] -/
noncomputable def F124 (inv : Inv) (k : Nat) (x0 x1 : Value) (h : AH) : Option (Value × AH) :=
  bnd (inv (.func 150) #[] #[x0] h) fun x8 =>
  bnd (inv (.func 150) #[] #[x1] x8.2) fun x10 =>
  brV x8.1
  (brV x10.1
  (some ((.int .i64 0),x10.2))
  (some ((.int .i64 (-1)),x10.2)))
  (brV x10.1
  (some ((.int .i64 1),x10.2))
  (bnd (pBin Tryz.prog .lss 3 (.tmp 14) (.tmp 15) x0 x1) fun x16 =>
  brV x16
  (some ((.int .i64 (-1)),x10.2))
  (bnd (pBin Tryz.prog .gtr 3 (.tmp 17) (.tmp 18) x0 x1) fun x19 =>
  brV x19
  (some ((.int .i64 1),x10.2))
  (some ((.int .i64 0),x10.2)))))
theorem F124_eq : eFun env k inv 124 #[x0,x1] h = F124 inv k x0 x1 h:=ks_fun (n:=20) []
theorem F124_call : eInv env (k + 1) (.func 124) #[] #[x0,x1] h = F124 (eInv env k) k x0 x1 h:=kq_inv F124_eq
noncomputable abbrev G127_5 {β : Type} (inv : Inv) (x0 x1 x2 : Value) (h : AH) (K : Value→AH→Option β) : Option β :=
  bnd (pBin Tryz.prog .mul 3 (.tmp 21) (.tmp 22) x1 x2) fun x23 =>
  bnd (pLen Tryz.prog #[33] x0 h) fun x25 =>
  bnd (pBin Tryz.prog .mul 3 (.const (.int .i64 8)) (.tmp 25) (.int .i64 8) x25) fun x26 =>
  bnd (pBin Tryz.prog .mul 3 (.tmp 27) (.tmp 28) x1 x2) fun x29 =>
  bnd (pBin Tryz.prog .sub 3 (.tmp 26) (.tmp 29) x26 x29) fun x30 =>
  bnd (inv (.func 151) #[] #[x0,x23,x30] h) fun x31 =>
  bnd (pBin Tryz.prog .neq 60 (.tmp 31) (.const (.int .u64 0)) x31.1 (.int .u64 0)) fun x32 =>
  K (x32) x31.2
/-- shadowbook/packs.check -/
noncomputable def F127 (inv : Inv) (k : Nat) (x0 x1 x2 : Value) (h : AH) : Option (Value × AH) :=
  bnd (inv (.func 97) #[] #[x1,x2] h) fun x10 =>
  bnd (pUn Tryz.prog .not x10.1) fun x11 =>
  brV x11
  (some ((.int .i64 2),x10.2))
  (bnd (pLen Tryz.prog #[33] x0 x10.2) fun x14 =>
  bnd (inv (.func 99) #[] #[x1,x2] x10.2) fun x17 =>
  bnd (pBin Tryz.prog .neq 3 (.tmp 14) (.tmp 17) x14 x17.1) fun x18 =>
  brV x18
  (some ((.int .i64 4),x17.2))
  (G127_5 inv x0 x1 x2 x17.2 fun y19 h =>
  brV y19
  (some ((.int .i64 4),h))
  (some ((.int .i64 0),h))))
theorem F127_eq : eFun env k inv 127 #[x0,x1,x2] h = F127 inv k x0 x1 x2 h:=ks_fun (n:=33) []
theorem F127_call : eInv env (k + 1) (.func 127) #[] #[x0,x1,x2] h = F127 (eInv env k) k x0 x1 x2 h:=kq_inv F127_eq
/-- shadowbook/packs.Each -/
noncomputable def F128 (inv : Inv) (k : Nat) (x0 x1 x2 : Value) (h : AH) : Option (Value × AH) :=
  bnd (pBox Tryz.prog 33 x0 h) fun x3 =>
  bnd (pBox Tryz.prog 3 x1 x3.2) fun x4 =>
  bnd (pBox Tryz.prog 3 x2 x4.2) fun x5 =>
  bnd (pMakeFunc (.func 152) #[] #[x3.1,x4.1,x5.1]) fun x7 =>
  some (x7,x5.2)
theorem F128_eq : eFun env k inv 128 #[x0,x1,x2] h = F128 inv k x0 x1 x2 h:=ks_fun (n:=8) []
theorem F128_call : eInv env (k + 1) (.func 128) #[] #[x0,x1,x2] h = F128 (eInv env k) k x0 x1 x2 h:=kq_inv F128_eq
/-- (*shadowbook/octet.Reader).ends -/
noncomputable def F129 (inv : Inv) (k : Nat) (x0 : Value) (h : AH) : Option (Value × AH) :=
  bnd (pNilCheck Tryz.prog x0) fun x4 =>
  bnd (pFieldAddr Tryz.prog 144 x4 0) fun x5 =>
  bnd (pLoad Tryz.prog 33 x5 h) fun x6 =>
  bnd (pLen Tryz.prog #[33] x6 h) fun x7 =>
  bnd (pBin Tryz.prog .geq 3 (.tmp 7) (.const (.int .i64 10)) x7 (.int .i64 10)) fun x8 =>
  brV x8
  (some ((.bool false),h))
  (bnd (pNilCheck Tryz.prog x0) fun x10 =>
  bnd (pFieldAddr Tryz.prog 144 x10 0) fun x11 =>
  bnd (pLoad Tryz.prog 33 x11 h) fun x12 =>
  bnd (inv (.func 153) #[] #[x12,(.func (.func 154) #[] #[])] h) fun x13 =>
  bnd (pUn Tryz.prog .not x13.1) fun x14 =>
  some (x14,x13.2))
theorem F129_eq : eFun env k inv 129 #[x0] h = F129 inv k x0 h:=ks_fun (n:=15) []
theorem F129_call : eInv env (k + 1) (.func 129) #[] #[x0] h = F129 (eInv env k) k x0 h:=kq_inv F129_eq
noncomputable def F130_lrlrrr {β : Type} (inv : Inv) (k : Nat) : Nat→Value→Value→Value→Value→AH→(Value→Value→Value→Value→Value→AH→Option β)→Option β
 | 0,_,_,_,_,_,_=>none
 | j + 1,x5,x18,x19,x20,h,ke0 =>
  bnd (pBin Tryz.prog .lss 3 (.tmp 20) (.tmp 19) x20 x19) fun x21 =>
  brV x21
  (bnd (pIndexAddr Tryz.prog 122 x18 x20) fun x22 =>
  bnd (pLoad Tryz.prog 9 x22 h) fun x23 =>
  bnd (inv (.func 156) #[] #[x5,x23] h) fun x26 =>
  bnd (pBin Tryz.prog .add 3 (.tmp 20) (.const (.int .i64 1)) x20 (.int .i64 1)) fun x27 =>
  F130_lrlrrr inv k j x26.1 x18 x19 x27 x26.2 ke0)
  (ke0 x5 x18 x19 x20 x21 h)
noncomputable def e130_0 : Ent env 130 false 29:=.lp [] 122 [5,18,19,20] [(.exit 0,[5,18,19,20,21])] F130_lrlrrr
/-- shadowbook/texts.Plain -/
noncomputable def F130 (inv : Inv) (k : Nat) (x0 : Value) (h : AH) : Option (Value × AH) :=
  bnd (inv (.func 155) #[] #[x0] h) fun x9 =>
  bnd (pBin Tryz.prog .neq 25 (.tmp 10) (.const (.int .i64 0)) x9.1 (.int .i64 0)) fun x11 =>
  brV x11
  (some (.tuple #[(.slice none 0 0),x9.1],x9.2))
  (bnd (pBuildSlice Tryz.prog 33 1 #[(0,(.int .u8 1))] x9.2) fun x13 =>
  bnd (pLen Tryz.prog #[122] x0 x13.2) fun x15 =>
  bnd (pConv Tryz.prog 3 60 x15 x13.2) fun x16 =>
  bnd (inv (.func 47) #[] #[x13.1,x16] x13.2) fun x17 =>
  bnd (pLen Tryz.prog #[122] x0 x17.2) fun x19 =>
  F130_lrlrrr inv k k x17.1 x0 x19 (.int .i64 0) x17.2
  (fun y5 y18 y19 y20 y21 h =>
  some (.tuple #[y5,(.int .i64 0)],h)))
theorem F130_eq : eFun env k inv 130 #[x0] h = F130 inv k x0 h:=ks_fun (n:=29) [e130_0]
theorem F130_call : eInv env (k + 1) (.func 130) #[] #[x0] h = F130 (eInv env k) k x0 h:=kq_inv F130_eq
noncomputable def F131_lrlrrrr {β : Type} (inv : Inv) (k : Nat) : Nat→Value→Value→Value→Value→Value→Value→AH→(Value→Value→Value→Value→Value→Value→Value→AH→Option β)→Option β
 | 0,_,_,_,_,_,_,_,_=>none
 | j + 1,x0,x5,x6,x33,x34,x35,h,ke0 =>
  bnd (pBin Tryz.prog .lss 3 (.tmp 35) (.tmp 34) x35 x34) fun x36 =>
  brV x36
  (bnd (pIndexAddr Tryz.prog 122 x33 x35) fun x37 =>
  bnd (pLoad Tryz.prog 9 x37 h) fun x38 =>
  bnd (inv (.func 156) #[] #[x6,x38] h) fun x41 =>
  bnd (pBin Tryz.prog .add 3 (.tmp 35) (.const (.int .i64 1)) x35 (.int .i64 1)) fun x42 =>
  F131_lrlrrrr inv k j x0 x5 x41.1 x33 x34 x42 x41.2 ke0)
  (ke0 x0 x5 x6 x33 x34 x35 x36 h)
noncomputable def e131_0 : Ent env 131 false 79:=.lp [] 250 [0,5,6,33,34,35] [(.exit 0,[0,5,6,33,34,35,36])] F131_lrlrrrr
noncomputable def F131_lrlrrrrrr {β : Type} (inv : Inv) (k : Nat) : Nat→Value→Value→Value→Value→Value→Value→AH→(Value→Value→Value→Value→Value→Value→Value→AH→Option β)→Option β
 | 0,_,_,_,_,_,_,_,_=>none
 | j + 1,x5,x6,x9,x43,x44,x45,h,ke2 =>
  bnd (pBin Tryz.prog .lss 3 (.tmp 45) (.tmp 44) x45 x44) fun x46 =>
  brV x46
  (bnd (pIndexAddr Tryz.prog 122 x43 x45) fun x47 =>
  bnd (pLoad Tryz.prog 9 x47 h) fun x48 =>
  bnd (inv (.func 158) #[] #[x5,x48] h) fun x52 =>
  bnd (pExtract x52.1 0) fun x53 =>
  bnd (pExtract x52.1 1) fun x54 =>
  bnd (pConv Tryz.prog 3 60 x53 x52.2) fun x57 =>
  bnd (pBuildSlice Tryz.prog 63 1 #[(0,x57)] x52.2) fun x58 =>
  bnd (pAppend Tryz.prog #[63,63] x9 x58.1 x58.2) fun x59 =>
  bnd (pBin Tryz.prog .add 3 (.tmp 45) (.const (.int .i64 1)) x45 (.int .i64 1)) fun x60 =>
  F131_lrlrrrrrr inv k j x5 x6 x59.1 x43 x44 x60 x59.2 ke2)
  (ke2 x5 x6 x9 x43 x44 x45 x46 h)
noncomputable def e131_1 : Ent env 131 false 79:=.lp [e131_0] 1018 [5,6,9,43,44,45] [(.exit 2,[5,6,9,43,44,45,46])] F131_lrlrrrrrr
/-- shadowbook/texts.Dict -/
noncomputable def F131 (inv : Inv) (k : Nat) (x0 : Value) (h : AH) : Option (Value × AH) :=
  bnd (inv (.func 155) #[] #[x0] h) fun x18 =>
  bnd (pBin Tryz.prog .neq 25 (.tmp 19) (.const (.int .i64 0)) x18.1 (.int .i64 0)) fun x20 =>
  brV x20
  (some (.tuple #[(.slice none 0 0),x18.1],x18.2))
  (bnd (inv (.func 157) #[] #[x0] x18.2) fun x23 =>
  bnd (pBuildSlice Tryz.prog 33 1 #[(0,(.int .u8 2))] x23.2) fun x24 =>
  bnd (pLen Tryz.prog #[122] x0 x24.2) fun x26 =>
  bnd (pConv Tryz.prog 3 60 x26 x24.2) fun x27 =>
  bnd (inv (.func 47) #[] #[x24.1,x27] x24.2) fun x28 =>
  bnd (pLen Tryz.prog #[122] x23.1 x28.2) fun x30 =>
  bnd (pConv Tryz.prog 3 60 x30 x28.2) fun x31 =>
  bnd (inv (.func 47) #[] #[x28.1,x31] x28.2) fun x32 =>
  bnd (pLen Tryz.prog #[122] x23.1 x32.2) fun x34 =>
  F131_lrlrrrr inv k k x0 x23.1 x32.1 x23.1 x34 (.int .i64 0) x32.2
  (fun y0 y5 y6 y33 y34 y35 y36 h =>
  bnd (pLen Tryz.prog #[122] y0 h) fun x44 =>
  F131_lrlrrrrrr inv k k y5 y6 (.slice none 0 0) y0 x44 (.int .i64 0) h
  (fun y5_1 y6_2 y9 y43 y44 y45 y46 h_3 =>
  bnd (inv (.func 98) #[] #[y9] h_3) fun x62 =>
  bnd (inv (.func 49) #[] #[y9,x62.1] x62.2) fun x66 =>
  bnd (pExtract x66.1 0) fun x67 =>
  bnd (pExtract x66.1 1) fun x68 =>
  bnd (pBin Tryz.prog .neq 25 (.tmp 69) (.const (.int .i64 0)) x68 (.int .i64 0)) fun x70 =>
  brV x70
  (some (.tuple #[(.slice none 0 0),x68],x66.2))
  (bnd (pConv Tryz.prog 3 5 x62.1 x66.2) fun x74 =>
  bnd (pBuildSlice Tryz.prog 33 1 #[(0,x74)] x66.2) fun x75 =>
  bnd (pAppend Tryz.prog #[33,33] y6_2 x75.1 x75.2) fun x76 =>
  bnd (pAppend Tryz.prog #[33,33] x76.1 x67 x76.2) fun x78 =>
  some (.tuple #[x78.1,(.int .i64 0)],x78.2)))))
theorem F131_eq : eFun env k inv 131 #[x0] h = F131 inv k x0 h:=ks_fun (n:=79) [e131_0,e131_1]
theorem F131_call : eInv env (k + 1) (.func 131) #[] #[x0] h = F131 (eInv env k) k x0 h:=kq_inv F131_eq
noncomputable def F134_rlr {β : Type} (inv : Inv) (k : Nat) (x0 x2 x4 : Value) (h : AH) (kn : (Value→Value→Value→AH→Option β)) : Option β :=
  brV x4
  (bnd (pBin Tryz.prog .shr 60 (.tmp 5) (.const (.int .u64 32)) x0 (.int .u64 32)) fun x6 =>
  kn x6 (.int .i64 32) unk h)
  (kn x0 x2 x4 h)
noncomputable def e134_0 : Ent env 134 false 25:=.jn [] 13 [0,2,4] [(.normal,[0,2,4])] F134_rlr
noncomputable def F134_rlrr {β : Type} (inv : Inv) (k : Nat) (x0 x2 x8 : Value) (h : AH) (kn : (Value→Value→Value→AH→Option β)) : Option β :=
  brV x8
  (bnd (pBin Tryz.prog .shr 60 (.tmp 9) (.const (.int .u64 16)) x0 (.int .u64 16)) fun x10 =>
  bnd (pBin Tryz.prog .add 3 (.tmp 11) (.const (.int .i64 16)) x2 (.int .i64 16)) fun x12 =>
  kn x10 x12 unk h)
  (kn x0 x2 x8 h)
noncomputable def e134_1 : Ent env 134 false 25:=.jn [e134_0] 29 [0,2,8] [(.normal,[0,2,8])] F134_rlrr
noncomputable def F134_rlrrr {β : Type} (inv : Inv) (k : Nat) (x0 x2 x14 : Value) (h : AH) (kn : (Value→Value→Value→AH→Option β)) : Option β :=
  brV x14
  (bnd (pBin Tryz.prog .shr 60 (.tmp 15) (.const (.int .u64 8)) x0 (.int .u64 8)) fun x16 =>
  bnd (pBin Tryz.prog .add 3 (.tmp 17) (.const (.int .i64 8)) x2 (.int .i64 8)) fun x18 =>
  kn x16 x18 unk h)
  (kn x0 x2 x14 h)
noncomputable def e134_2 : Ent env 134 false 25:=.jn [e134_0,e134_1] 61 [0,2,14] [(.normal,[0,2,14])] F134_rlrrr
noncomputable abbrev G134_10 {β : Type} (inv : Inv) (x0 x2 : Value) (h : AH) (K : Value→AH→Option β) : Option β :=
  bnd (pConv Tryz.prog 60 5 x0 h) fun x21 =>
  bnd (pIndex Tryz.prog 9 (.string { data:=#[0,1,2,2,3,3,3,3,4,4,4,4,4,4,4,4,5,5,5,5,5,5,5,5,5,5,5,5,5,5,5,5,6,6,6,6,6,6,6,6,6,6,6,6,6,6,6,6,6,6,6,6,6,6,6,6,6,6,6,6,6,6,6,6,7,7,7,7,7,7,7,7,7,7,7,7,7,7,7,7,7,7,7,7,7,7,7,7,7,7,7,7,7,7,7,7,7,7,7,7,7,7,7,7,7,7,7,7,7,7,7,7,7,7,7,7,7,7,7,7,7,7,7,7,7,7,7,7,8,8,8,8,8,8,8,8,8,8,8,8,8,8,8,8,8,8,8,8,8,8,8,8,8,8,8,8,8,8,8,8,8,8,8,8,8,8,8,8,8,8,8,8,8,8,8,8,8,8,8,8,8,8,8,8,8,8,8,8,8,8,8,8,8,8,8,8,8,8,8,8,8,8,8,8,8,8,8,8,8,8,8,8,8,8,8,8,8,8,8,8,8,8,8,8,8,8,8,8,8,8,8,8,8,8,8,8,8,8,8,8,8,8,8,8,8,8,8,8,8,8,8,8,8,8,8,8] }) x21) fun x22 =>
  bnd (pConv Tryz.prog 5 3 x22 h) fun x23 =>
  bnd (pBin Tryz.prog .add 3 (.tmp 19) (.tmp 23) x2 x23) fun x24 =>
  K (x24) h
/-- math/bits.Len64 -/
noncomputable def F134 (inv : Inv) (k : Nat) (x0 : Value) (h : AH) : Option (Value × AH) :=
  bnd (pBin Tryz.prog .geq 60 (.tmp 3) (.const (.int .u64 4294967296)) x0 (.int .u64 4294967296)) fun x4 =>
  F134_rlr inv k x0 (.int .i64 0) x4 h
  (fun y0 y2 y4 h =>
  bnd (pBin Tryz.prog .geq 60 (.tmp 7) (.const (.int .u64 65536)) y0 (.int .u64 65536)) fun x8 =>
  F134_rlrr inv k y0 y2 x8 h
  (fun y0_1 y2_2 y8 h_3 =>
  bnd (pBin Tryz.prog .geq 60 (.tmp 13) (.const (.int .u64 256)) y0_1 (.int .u64 256)) fun x14 =>
  F134_rlrrr inv k y0_1 y2_2 x14 h_3
  (fun y0_4 y2_5 y14 h_6 =>
  G134_10 inv y0_4 y2_5 h_6 fun y2_7 h_8 =>
  some (y2_7,h_8))))
theorem F134_eq : eFun env k inv 134 #[x0] h = F134 inv k x0 h:=ks_fun (n:=25) [e134_0,e134_1,e134_2]
theorem F134_call : eInv env (k + 1) (.func 134) #[] #[x0] h = F134 (eInv env k) k x0 h:=kq_inv F134_eq
noncomputable def F135_lrlrr {β : Type} (inv : Inv) (k : Nat) : Nat→Value→Value→Value→Value→AH→(Value→Value→Value→Value→Value→AH→Option β)→(Value→AH→Option β)→Option β
 | 0,_,_,_,_,_,_,_=>none
 | j + 1,x3,x6,x7,x8,h,ke0,kr =>
  bnd (pBin Tryz.prog .lss 3 (.tmp 8) (.tmp 7) x8 x7) fun x9 =>
  brV x9
  (bnd (pIndexAddr Tryz.prog 72 x6 x8) fun x10 =>
  bnd (pLoad Tryz.prog 3 x10 h) fun x11 =>
  bnd (pBin Tryz.prog .neq 3 (.tmp 12) (.tmp 13) x11 x3) fun x14 =>
  brV x14
  (kr x11 h)
  (bnd (pBin Tryz.prog .add 3 (.tmp 8) (.const (.int .i64 1)) x8 (.int .i64 1)) fun x16 =>
  F135_lrlrr inv k j x3 x6 x7 x16 h ke0 kr))
  (ke0 x3 x6 x7 x8 x9 h)
noncomputable def e135_0 : Ent env 135 false 18:=.lp [] 58 [3,6,7,8] [(.exit 0,[3,6,7,8,9]),(.ret,[2])] F135_lrlrr
/-- cmp.Or[int] -/
noncomputable def F135 (inv : Inv) (k : Nat) (x0 : Value) (h : AH) : Option (Value × AH) :=
  bnd (pLen Tryz.prog #[72] x0 h) fun x7 =>
  F135_lrlrr inv k k (.int .i64 0) x0 x7 (.int .i64 0) h
  (fun y3 y6 y7 y8 y9 h =>
  some (y3,h))
  (fun y2 h_1 =>
  some (y2,h_1))
theorem F135_eq : eFun env k inv 135 #[x0] h = F135 inv k x0 h:=ks_fun (n:=18) [e135_0]
theorem F135_call : eInv env (k + 1) (.func 135) #[] #[x0] h = F135 (eInv env k) k x0 h:=kq_inv F135_eq
/-- cmp.Compare[int64] -/
noncomputable def F136 (inv : Inv) (k : Nat) (x0 x1 : Value) (h : AH) : Option (Value × AH) :=
  bnd (inv (.func 159) #[] #[x0] h) fun x8 =>
  bnd (inv (.func 159) #[] #[x1] x8.2) fun x10 =>
  brV x8.1
  (brV x10.1
  (some ((.int .i64 0),x10.2))
  (some ((.int .i64 (-1)),x10.2)))
  (brV x10.1
  (some ((.int .i64 1),x10.2))
  (bnd (pBin Tryz.prog .lss 2 (.tmp 14) (.tmp 15) x0 x1) fun x16 =>
  brV x16
  (some ((.int .i64 (-1)),x10.2))
  (bnd (pBin Tryz.prog .gtr 2 (.tmp 17) (.tmp 18) x0 x1) fun x19 =>
  brV x19
  (some ((.int .i64 1),x10.2))
  (some ((.int .i64 0),x10.2)))))
theorem F136_eq : eFun env k inv 136 #[x0,x1] h = F136 inv k x0 x1 h:=ks_fun (n:=20) []
theorem F136_call : eInv env (k + 1) (.func 136) #[] #[x0,x1] h = F136 (eInv env k) k x0 x1 h:=kq_inv F136_eq
/-- strings.Compare -/
noncomputable def F137 (inv : Inv) (k : Nat) (x0 x1 : Value) (h : AH) : Option (Value × AH) :=
  bnd (inv (.func 160) #[] #[x0,x1] h) fun x7 =>
  some (x7.1,x7.2)
theorem F137_eq : eFun env k inv 137 #[x0,x1] h = F137 inv k x0 x1 h:=ks_fun (n:=8) []
theorem F137_call : eInv env (k + 1) (.func 137) #[] #[x0,x1] h = F137 (eInv env k) k x0 x1 h:=kq_inv F137_eq
/-- math/bits.Mul -/
noncomputable def F138 (inv : Inv) (k : Nat) (x0 x1 : Value) (h : AH) : Option (Value × AH) :=
  brV (.bool false)
  (bnd (pConv Tryz.prog 109 188 x0 h) fun x12 =>
  bnd (pConv Tryz.prog 109 188 x1 h) fun x14 =>
  bnd (inv (.func 161) #[] #[x12,x14] h) fun x15 =>
  bnd (pExtract x15.1 0) fun x16 =>
  bnd (pExtract x15.1 1) fun x17 =>
  bnd (pConv Tryz.prog 188 109 x16 x15.2) fun x19 =>
  bnd (pConv Tryz.prog 188 109 x17 x15.2) fun x21 =>
  some (.tuple #[x19,x21],x15.2))
  (bnd (inv (.func 162) #[] #[x0,x1] h) fun x25 =>
  bnd (pExtract x25.1 0) fun x26 =>
  bnd (pExtract x25.1 1) fun x27 =>
  some (.tuple #[x26,x27],x25.2))
theorem F138_eq : eFun env k inv 138 #[x0,x1] h = F138 inv k x0 x1 h:=ks_fun (n:=30) []
theorem F138_call : eInv env (k + 1) (.func 138) #[] #[x0,x1] h = F138 (eInv env k) k x0 x1 h:=kq_inv F138_eq
/-- slices.Backward[[]byte,byte] -/
noncomputable def F143 (inv : Inv) (k : Nat) (x0 : Value) (h : AH) : Option (Value × AH) :=
  bnd (pBox Tryz.prog 33 x0 h) fun x1 =>
  bnd (pMakeFunc (.func 163) #[] #[x1.1]) fun x3 =>
  some (x3,x1.2)
theorem F143_eq : eFun env k inv 143 #[x0] h = F143 inv k x0 h:=ks_fun (n:=4) []
theorem F143_call : eInv env (k + 1) (.func 143) #[] #[x0] h = F143 (eInv env k) k x0 h:=kq_inv F143_eq
noncomputable def F144_lrlrrr {β : Type} (inv : Inv) (k : Nat) : Nat→Value→Value→Value→Value→AH→(Value→Value→Value→Value→Value→AH→Option β)→Option β
 | 0,_,_,_,_,_,_=>none
 | j + 1,x4,x13,x14,x15,h,ke0 =>
  bnd (pBin Tryz.prog .lss 3 (.tmp 15) (.tmp 14) x15 x14) fun x16 =>
  brV x16
  (bnd (pIndexAddr Tryz.prog 121 x13 x15) fun x17 =>
  bnd (pLoad Tryz.prog 2 x17 h) fun x18 =>
  bnd (pConv Tryz.prog 2 60 x18 h) fun x21 =>
  bnd (inv (.func 75) #[] #[x4,x21,(.int .i64 8)] h) fun x22 =>
  bnd (pBin Tryz.prog .add 3 (.tmp 15) (.const (.int .i64 1)) x15 (.int .i64 1)) fun x23 =>
  F144_lrlrrr inv k j x22.1 x13 x14 x23 x22.2 ke0)
  (ke0 x4 x13 x14 x15 x16 h)
noncomputable def e144_0 : Ent env 144 false 25:=.lp [] 122 [4,13,14,15] [(.exit 0,[4,13,14,15,16])] F144_lrlrrr
/-- shadowbook/ints.Plain -/
noncomputable def F144 (inv : Inv) (k : Nat) (x0 : Value) (h : AH) : Option (Value × AH) :=
  bnd (pLen Tryz.prog #[121] x0 h) fun x8 =>
  bnd (pBin Tryz.prog .gtr 3 (.tmp 8) (.const (.int .i64 4096)) x8 (.int .i64 4096)) fun x9 =>
  brV x9
  (some (.tuple #[(.slice none 0 0),(.int .i64 3)],h))
  (bnd (pLen Tryz.prog #[121] x0 h) fun x11 =>
  bnd (inv (.func 164) #[] #[(.int .u8 1),x11] h) fun x12 =>
  bnd (pLen Tryz.prog #[121] x0 x12.2) fun x14 =>
  F144_lrlrrr inv k k x12.1 x0 x14 (.int .i64 0) x12.2
  (fun y4 y13 y14 y15 y16 h =>
  some (.tuple #[y4,(.int .i64 0)],h)))
theorem F144_eq : eFun env k inv 144 #[x0] h = F144 inv k x0 h:=ks_fun (n:=25) [e144_0]
theorem F144_call : eInv env (k + 1) (.func 144) #[] #[x0] h = F144 (eInv env k) k x0 h:=kq_inv F144_eq
noncomputable abbrev G146_8 {β : Type} (inv : Inv) (x0 x4 x5 x6 x14 x15 : Value) (h : AH) (K : Value→AH→Option β) : Option β :=
  bnd (pBin Tryz.prog .add 3 (.tmp 18) (.const (.int .i64 1)) x6 (.int .i64 1)) fun x19 =>
  bnd (pLen Tryz.prog #[121] x0 h) fun x21 =>
  bnd (pBin Tryz.prog .lss 3 (.tmp 19) (.tmp 21) x19 x21) fun x22 =>
  bnd (gd3 (some x22) true h (some (x0,h))) fun x24 =>
  bnd (gd3 (some x22) true x24.2.1 (some (x6,x24.2.1))) fun x25 =>
  bnd (gd3 (some x22) true x25.2.1 (lt (pBin Tryz.prog .add 3 (.tmp 25) (.const (.int .i64 1)) x25.1 (.int .i64 1)) x25.2.1)) fun x26 =>
  bnd (gd3 (some x22) true x26.2.1 (lt (pIndexAddr Tryz.prog 121 x24.1 x26.1) x26.2.1)) fun x27 =>
  bnd (gd3 (some x22) true x27.2.1 (lt (pLoad Tryz.prog 2 x27.1 x27.2.1) x27.2.1)) fun x28 =>
  bnd (gd3 (some x22) true x28.2.1 (some (x0,x28.2.1))) fun x29 =>
  bnd (gd3 (some x22) true x29.2.1 (some (x5,x29.2.1))) fun x30 =>
  bnd (gd3 (some x22) true x30.2.1 (lt (pIndexAddr Tryz.prog 121 x29.1 x30.1) x30.2.1)) fun x31 =>
  bnd (gd3 (some x22) true x31.2.1 (lt (pLoad Tryz.prog 2 x31.1 x31.2.1) x31.2.1)) fun x32 =>
  bnd (gd3 (some x22) true x32.2.1 (lt (pBin Tryz.prog .eql 2 (.tmp 28) (.tmp 32) x28.1 x32.1) x32.2.1)) fun x33 =>
  bnd (pickV x22 x33.1 (.bool false)) fun x34 =>
  K (x34) x33.2.1
noncomputable abbrev G146_9 {β : Type} (inv : Inv) (x0 x4 x5 x6 x14 x15 : Value) (h : AH) (K : Value→AH→Option β) : Option β :=
  bnd (pBin Tryz.prog .add 3 (.tmp 36) (.const (.int .i64 1)) x6 (.int .i64 1)) fun x37 =>
  bnd (pBin Tryz.prog .sub 3 (.tmp 37) (.tmp 38) x37 x5) fun x39 =>
  bnd (pConv Tryz.prog 3 60 x39 h) fun x40 =>
  bnd (inv (.func 47) #[] #[x4,x40] h) fun x41 =>
  bnd (pIndexAddr Tryz.prog 121 x0 x6) fun x44 =>
  bnd (pLoad Tryz.prog 2 x44 x41.2) fun x45 =>
  bnd (pConv Tryz.prog 2 60 x45 x41.2) fun x46 =>
  bnd (inv (.func 75) #[] #[x41.1,x46,(.int .i64 8)] x41.2) fun x47 =>
  chkK ((!true || !true || (sameO (pLoad Tryz.prog 2 x44 h) x45 && sameO (pLoad Tryz.prog 2 x44 x41.2) x45)) && ((!true || !true || (sameO (pConv Tryz.prog 2 60 x45 h) x46 && sameO (pConv Tryz.prog 2 60 x45 x41.2) x46)) && true)) <|
  K (x47.1) x47.2
noncomputable def F146_lrrllrlrrrrlr {β : Type} (inv : Inv) (k : Nat) (x0 x4 x5 x14 x15 x16 : Value) (h : AH) (kn : (Value→Value→Value→Value→Value→Value→Value→AH→Option β)) : Option β :=
  G146_8 inv x0 x4 x5 x15 x14 x15 h fun y34 h =>
  brV y34
  (kn x0 x4 x5 x15 x14 x15 y34 h)
  (G146_9 inv x0 x4 x5 x15 x14 x15 h fun y4 h_1 =>
  bnd (pBin Tryz.prog .add 3 (.tmp 48) (.const (.int .i64 1)) x15 (.int .i64 1)) fun x49 =>
  kn x0 y4 x49 unk x14 x15 unk h_1)
noncomputable def e146_0 : Ent env 146 false 52:=.jn [] 14246 [0,4,5,14,15,16] [(.normal,[0,4,5,6,14,15,34])] F146_lrrllrlrrrrlr
noncomputable def F146_lrlrrrrlr {β : Type} (inv : Inv) (k : Nat) : Nat→Value→Value→Value→Value→Value→AH→(Value→Value→Value→Value→Value→Value→AH→Option β)→Option β
 | 0,_,_,_,_,_,_,_=>none
 | j + 1,x0,x4,x5,x14,x15,h,ke0 =>
  bnd (pBin Tryz.prog .lss 3 (.tmp 15) (.tmp 14) x15 x14) fun x16 =>
  brV x16
  (F146_lrrllrlrrrrlr inv k x0 x4 x5 x14 x15 x16 h
  (fun y0 y4 y5 y6 y14 y15 y34 h =>
  bnd (pBin Tryz.prog .add 3 (.tmp 15) (.const (.int .i64 1)) y15 (.int .i64 1)) fun x50 =>
  F146_lrlrrrrlr inv k j y0 y4 y5 y14 x50 h ke0))
  (ke0 x0 x4 x5 x14 x15 x16 h)
noncomputable def e146_1 : Ent env 146 false 52:=.lp [e146_0] 890 [0,4,5,14,15] [(.exit 0,[0,4,5,14,15,16])] F146_lrlrrrrlr
/-- shadowbook/ints.Runs -/
noncomputable def F146 (inv : Inv) (k : Nat) (x0 : Value) (h : AH) : Option (Value × AH) :=
  bnd (pLen Tryz.prog #[121] x0 h) fun x8 =>
  bnd (pBin Tryz.prog .gtr 3 (.tmp 8) (.const (.int .i64 4096)) x8 (.int .i64 4096)) fun x9 =>
  brV x9
  (some (.tuple #[(.slice none 0 0),(.int .i64 3)],h))
  (bnd (pLen Tryz.prog #[121] x0 h) fun x11 =>
  bnd (inv (.func 164) #[] #[(.int .u8 2),x11] h) fun x12 =>
  bnd (pLen Tryz.prog #[121] x0 x12.2) fun x14 =>
  F146_lrlrrrrlr inv k k x0 x12.1 (.int .i64 0) x14 (.int .i64 0) x12.2
  (fun y0 y4 y5 y14 y15 y16 h =>
  some (.tuple #[y4,(.int .i64 0)],h)))
theorem F146_eq : eFun env k inv 146 #[x0] h = F146 inv k x0 h:=ks_fun (n:=52) [e146_0,e146_1]
theorem F146_call : eInv env (k + 1) (.func 146) #[] #[x0] h = F146 (eInv env k) k x0 h:=kq_inv F146_eq
noncomputable def F148_rlrrr {β : Type} (inv : Inv) (k : Nat) (x0 x4 x17 : Value) (h : AH) (kn : (Value→Value→Value→AH→Option β)) : Option β :=
  brV x17
  (bnd (inv (.func 166) #[] #[x0] h) fun x19 =>
  kn x0 x19.1 unk x19.2)
  (kn x0 x4 x17 h)
noncomputable def e148_0 : Ent env 148 false 59:=.jn [] 61 [0,4,17] [(.normal,[0,4,17])] F148_rlrrr
noncomputable def F148_lrlrrrrr {β : Type} (inv : Inv) (k : Nat) : Nat→Value→Value→Value→Value→Value→Value→AH→(Value→Value→Value→Value→Value→Value→Value→AH→Option β)→Option β
 | 0,_,_,_,_,_,_,_,_=>none
 | j + 1,x0,x4,x5,x20,x21,x22,h,ke0 =>
  bnd (pBin Tryz.prog .lss 3 (.tmp 22) (.tmp 21) x22 x21) fun x23 =>
  brV x23
  (bnd (pIndexAddr Tryz.prog 121 x20 x22) fun x24 =>
  bnd (pLoad Tryz.prog 2 x24 h) fun x25 =>
  bnd (pConv Tryz.prog 2 60 x25 h) fun x28 =>
  bnd (pConv Tryz.prog 2 60 x4 h) fun x30 =>
  bnd (pBin Tryz.prog .sub 60 (.tmp 28) (.tmp 30) x28 x30) fun x31 =>
  bnd (pBuildSlice Tryz.prog 63 1 #[(0,x31)] h) fun x32 =>
  bnd (pAppend Tryz.prog #[63,63] x5 x32.1 x32.2) fun x33 =>
  bnd (pBin Tryz.prog .add 3 (.tmp 22) (.const (.int .i64 1)) x22 (.int .i64 1)) fun x34 =>
  F148_lrlrrrrr inv k j x0 x4 x33.1 x20 x21 x34 x33.2 ke0)
  (ke0 x0 x4 x5 x20 x21 x22 x23 h)
noncomputable def e148_1 : Ent env 148 false 59:=.lp [e148_0] 506 [0,4,5,20,21,22] [(.exit 0,[0,4,5,20,21,22,23])] F148_lrlrrrrr
/-- shadowbook/ints.Packed -/
noncomputable def F148 (inv : Inv) (k : Nat) (x0 : Value) (h : AH) : Option (Value × AH) :=
  bnd (pLen Tryz.prog #[121] x0 h) fun x13 =>
  bnd (pBin Tryz.prog .gtr 3 (.tmp 13) (.const (.int .i64 4096)) x13 (.int .i64 4096)) fun x14 =>
  brV x14
  (some (.tuple #[(.slice none 0 0),(.int .i64 3)],h))
  (bnd (pLen Tryz.prog #[121] x0 h) fun x16 =>
  bnd (pBin Tryz.prog .gtr 3 (.tmp 16) (.const (.int .i64 0)) x16 (.int .i64 0)) fun x17 =>
  F148_rlrrr inv k x0 (.int .i64 0) x17 h
  (fun y0 y4 y17 h =>
  bnd (pLen Tryz.prog #[121] y0 h) fun x21 =>
  F148_lrlrrrrr inv k k y0 y4 (.slice none 0 0) y0 x21 (.int .i64 0) h
  (fun y0_1 y4_2 y5 y20 y21 y22 y23 h_3 =>
  bnd (inv (.func 98) #[] #[y5] h_3) fun x36 =>
  bnd (inv (.func 49) #[] #[y5,x36.1] x36.2) fun x40 =>
  bnd (pExtract x40.1 0) fun x41 =>
  bnd (pExtract x40.1 1) fun x42 =>
  bnd (pBin Tryz.prog .neq 25 (.tmp 43) (.const (.int .i64 0)) x42 (.int .i64 0)) fun x44 =>
  brV x44
  (some (.tuple #[(.slice none 0 0),x42],x40.2))
  (bnd (pLen Tryz.prog #[121] y0_1 x40.2) fun x47 =>
  bnd (inv (.func 164) #[] #[(.int .u8 3),x47] x40.2) fun x48 =>
  bnd (pConv Tryz.prog 2 60 y4_2 x48.2) fun x50 =>
  bnd (inv (.func 75) #[] #[x48.1,x50,(.int .i64 8)] x48.2) fun x51 =>
  bnd (pConv Tryz.prog 3 5 x36.1 x51.2) fun x54 =>
  bnd (pBuildSlice Tryz.prog 33 1 #[(0,x54)] x51.2) fun x55 =>
  bnd (pAppend Tryz.prog #[33,33] x51.1 x55.1 x55.2) fun x56 =>
  bnd (pAppend Tryz.prog #[33,33] x56.1 x41 x56.2) fun x58 =>
  some (.tuple #[x58.1,(.int .i64 0)],x58.2)))))
theorem F148_eq : eFun env k inv 148 #[x0] h = F148 inv k x0 h:=ks_fun (n:=59) [e148_0,e148_1]
theorem F148_call : eInv env (k + 1) (.func 148) #[] #[x0] h = F148 (eInv env k) k x0 h:=kq_inv F148_eq
/-- cmp.isNaN[int] -/
noncomputable def F150 (inv : Inv) (k : Nat) (x0 : Value) (h : AH) : Option (Value × AH) :=
  bnd (pBin Tryz.prog .neq 3 (.tmp 3) (.tmp 4) x0 x0) fun x5 =>
  some (x5,h)
theorem F150_eq : eFun env k inv 150 #[x0] h = F150 inv k x0 h:=ks_fun (n:=6) []
theorem F150_call : eInv env (k + 1) (.func 150) #[] #[x0] h = F150 (eInv env k) k x0 h:=kq_inv F150_eq
noncomputable abbrev G151_5 {β : Type} (inv : Inv) (x0 x1 x6 x7 x8 x9 x10 : Value) (h : AH) (K : Value→AH→Option β) : Option β :=
  bnd (pBin Tryz.prog .quo 3 (.tmp 18) (.const (.int .i64 8)) x8 (.int .i64 8)) fun x19 =>
  bnd (pIndexAddr Tryz.prog 33 x0 x19) fun x20 =>
  bnd (pLoad Tryz.prog 5 x20 h) fun x21 =>
  bnd (pBin Tryz.prog .rem 3 (.tmp 22) (.const (.int .i64 8)) x8 (.int .i64 8)) fun x23 =>
  bnd (pBin Tryz.prog .shr 5 (.tmp 21) (.tmp 23) x21 x23) fun x24 =>
  bnd (pBin Tryz.prog .and 5 (.tmp 24) (.const (.int .u8 1)) x24 (.int .u8 1)) fun x25 =>
  bnd (pConv Tryz.prog 5 60 x25 h) fun x26 =>
  bnd (pBin Tryz.prog .shl 60 (.tmp 26) (.tmp 27) x26 x7) fun x28 =>
  bnd (pBin Tryz.prog .or 60 (.tmp 16) (.tmp 28) x6 x28) fun x29 =>
  K (x29) h
noncomputable def F151_lrlr {β : Type} (inv : Inv) (k : Nat) : Nat→Value→Value→Value→Value→Value→AH→(Value→Value→Value→Value→Value→Value→AH→Option β)→Option β
 | 0,_,_,_,_,_,_,_=>none
 | j + 1,x0,x1,x6,x9,x10,h,ke0 =>
  bnd (pBin Tryz.prog .lss 3 (.tmp 10) (.tmp 9) x10 x9) fun x11 =>
  brV x11
  (bnd (pBin Tryz.prog .add 3 (.tmp 13) (.tmp 14) x1 x10) fun x15 =>
  G151_5 inv x0 x1 x6 x10 x15 x9 x10 h fun y6 h =>
  bnd (pBin Tryz.prog .add 3 (.tmp 10) (.const (.int .i64 1)) x10 (.int .i64 1)) fun x30 =>
  F151_lrlr inv k j x0 x1 y6 x9 x30 h ke0)
  (ke0 x0 x1 x6 x9 x10 x11 h)
noncomputable def e151_0 : Ent env 151 false 32:=.lp [] 26 [0,1,6,9,10] [(.exit 0,[0,1,6,9,10,11])] F151_lrlr
/-- shadowbook/packs.at -/
noncomputable def F151 (inv : Inv) (k : Nat) (x0 x1 x2 : Value) (h : AH) : Option (Value × AH) :=
  F151_lrlr inv k k x0 x1 (.int .u64 0) x2 (.int .i64 0) h
  (fun y0 y1 y6 y9 y10 y11 h =>
  some (y6,h))
theorem F151_eq : eFun env k inv 151 #[x0,x1,x2] h = F151 inv k x0 x1 x2 h:=ks_fun (n:=32) [e151_0]
theorem F151_call : eInv env (k + 1) (.func 151) #[] #[x0,x1,x2] h = F151 (eInv env k) k x0 x1 x2 h:=kq_inv F151_eq
noncomputable def F152_lrr {β : Type} (inv : Inv) (k : Nat) : Nat→Value→Value→Value→Value→Value→AH→(Value→Value→Value→Value→Value→Value→AH→Option β)→(Value→Value→Value→Value→Value→Value→AH→Option β)→Option β
 | 0,_,_,_,_,_,_,_,_=>none
 | j + 1,x0,x1,x3,x11,x12,h,ke0,kr =>
  bnd (pBin Tryz.prog .lss 3 (.tmp 12) (.tmp 11) x12 x11) fun x13 =>
  brV x13
  (bnd (pLoad Tryz.prog 33 x1 h) fun x17 =>
  bnd (pLoad Tryz.prog 3 x3 h) fun x19 =>
  bnd (pBin Tryz.prog .mul 3 (.tmp 18) (.tmp 19) x12 x19) fun x20 =>
  bnd (pLoad Tryz.prog 3 x3 h) fun x21 =>
  bnd (inv (.func 151) #[] #[x17,x20,x21] h) fun x22 =>
  bnd (callV inv x0 #[x12,x22.1] x22.2) fun x23 =>
  bnd (pUn Tryz.prog .not x23.1) fun x24 =>
  brV x24
  (kr x0 x1 x3 x11 x12 x24 x23.2)
  (bnd (pBin Tryz.prog .add 3 (.tmp 12) (.const (.int .i64 1)) x12 (.int .i64 1)) fun x25 =>
  F152_lrr inv k j x0 x1 x3 x11 x25 x23.2 ke0 kr))
  (ke0 x0 x1 x3 x11 x12 x13 h)
noncomputable def e152_0 : Ent env 152 false 26:=.lp [] 14 [0,1,3,11,12] [(.exit 0,[0,1,3,11,12,13]),(.ret,[0,1,3,11,12,24])] F152_lrr
/-- shadowbook/packs.Each$1 -/
noncomputable def F152 (inv : Inv) (k : Nat) (x0 x1 x2 x3 : Value) (h : AH) : Option (Value × AH) :=
  bnd (pLoad Tryz.prog 33 x1 h) fun x6 =>
  bnd (pLoad Tryz.prog 3 x2 h) fun x7 =>
  bnd (pLoad Tryz.prog 3 x3 h) fun x8 =>
  bnd (inv (.func 127) #[] #[x6,x7,x8] h) fun x9 =>
  bnd (pBin Tryz.prog .neq 25 (.tmp 9) (.const (.int .i64 0)) x9.1 (.int .i64 0)) fun x10 =>
  brV x10
  (some (.tuple #[],x9.2))
  (bnd (pLoad Tryz.prog 3 x2 x9.2) fun x11 =>
  F152_lrr inv k k x0 x1 x3 x11 (.int .i64 0) x9.2
  (fun y0 y1 y3 y11 y12 y13 h =>
  some (.tuple #[],h))
  (fun y0_1 y1_2 y3_3 y11_4 y12_5 y24 h_6 =>
  some (.tuple #[],h_6)))
theorem F152_eq : eFun env k inv 152 #[x0,x1,x2,x3] h = F152 inv k x0 x1 x2 x3 h:=ks_fun (n:=26) [e152_0]
theorem F152_call : eInv env (k + 1) (.func 152) #[] #[x0,x1,x2,x3] h = F152 (eInv env k) k x0 x1 x2 x3 h:=kq_inv F152_eq
/-- slices.ContainsFunc[[]byte,byte] -/
noncomputable def F153 (inv : Inv) (k : Nat) (x0 x1 : Value) (h : AH) : Option (Value × AH) :=
  bnd (inv (.func 167) #[] #[x0,x1] h) fun x7 =>
  bnd (pBin Tryz.prog .geq 3 (.tmp 7) (.const (.int .i64 0)) x7.1 (.int .i64 0)) fun x8 =>
  some (x8,x7.2)
theorem F153_eq : eFun env k inv 153 #[x0,x1] h = F153 inv k x0 x1 h:=ks_fun (n:=9) []
theorem F153_call : eInv env (k + 1) (.func 153) #[] #[x0,x1] h = F153 (eInv env k) k x0 x1 h:=kq_inv F153_eq
/-- (*shadowbook/octet.Reader).ends$1 -/
noncomputable def F154 (inv : Inv) (k : Nat) (x0 : Value) (h : AH) : Option (Value × AH) :=
  bnd (pBin Tryz.prog .lss 5 (.tmp 3) (.const (.int .u8 128)) x0 (.int .u8 128)) fun x4 =>
  some (x4,h)
theorem F154_eq : eFun env k inv 154 #[x0] h = F154 inv k x0 h:=ks_fun (n:=5) []
theorem F154_call : eInv env (k + 1) (.func 154) #[] #[x0] h = F154 (eInv env k) k x0 h:=kq_inv F154_eq
/-- shadowbook/texts.check -/
noncomputable def F155 (inv : Inv) (k : Nat) (x0 : Value) (h : AH) : Option (Value × AH) :=
  bnd (pLen Tryz.prog #[122] x0 h) fun x4 =>
  bnd (pBin Tryz.prog .gtr 3 (.tmp 4) (.const (.int .i64 4096)) x4 (.int .i64 4096)) fun x5 =>
  bnd (gd (some x5) false h (some (x0,h))) fun x7 =>
  bnd (gd (some x5) false x7.2 (inv (.func 168) #[] #[x7.1,(.func (.func 169) #[] #[])] x7.2)) fun x8 =>
  bnd (pickV x5 (.bool true) x8.1) fun x9 =>
  brV x9
  (some ((.int .i64 3),x8.2))
  (some ((.int .i64 0),x8.2))
theorem F155_eq : eFun env k inv 155 #[x0] h = F155 inv k x0 h:=ks_fun (n:=10) []
theorem F155_call : eInv env (k + 1) (.func 155) #[] #[x0] h = F155 (eInv env k) k x0 h:=kq_inv F155_eq
/-- shadowbook/texts.text -/
noncomputable def F156 (inv : Inv) (k : Nat) (x0 x1 : Value) (h : AH) : Option (Value × AH) :=
  bnd (pLen Tryz.prog #[9] x1 h) fun x7 =>
  bnd (pConv Tryz.prog 3 60 x7 h) fun x8 =>
  bnd (inv (.func 47) #[] #[x0,x8] h) fun x9 =>
  bnd (pAppend Tryz.prog #[33,9] x9.1 x1 x9.2) fun x11 =>
  some (x11.1,x11.2)
theorem F156_eq : eFun env k inv 156 #[x0,x1] h = F156 inv k x0 x1 h:=ks_fun (n:=12) []
theorem F156_call : eInv env (k + 1) (.func 156) #[] #[x0,x1] h = F156 (eInv env k) k x0 x1 h:=kq_inv F156_eq
noncomputable def F157_lrlrr {β : Type} (inv : Inv) (k : Nat) : Nat→Value→Value→Value→Value→AH→(Value→Value→Value→Value→Value→AH→Option β)→Option β
 | 0,_,_,_,_,_,_=>none
 | j + 1,x3,x7,x8,x9,h,ke0 =>
  bnd (pBin Tryz.prog .lss 3 (.tmp 9) (.tmp 8) x9 x8) fun x10 =>
  brV x10
  (bnd (pIndexAddr Tryz.prog 122 x7 x9) fun x11 =>
  bnd (pLoad Tryz.prog 9 x11 h) fun x12 =>
  bnd (pBuild Tryz.prog 200 #[]) fun x15 =>
  bnd (kSt (pUpdate Tryz.prog 199 x3 x12 x15 h)) fun u =>
  bnd (pBin Tryz.prog .add 3 (.tmp 9) (.const (.int .i64 1)) x9 (.int .i64 1)) fun x16 =>
  F157_lrlrr inv k j x3 x7 x8 x16 u.2 ke0)
  (ke0 x3 x7 x8 x9 x10 h)
noncomputable def e157_0 : Ent env 157 false 20:=.lp [] 58 [3,7,8,9] [(.exit 0,[3,7,8,9,10])] F157_lrlrr
/-- shadowbook/texts.Words -/
noncomputable def F157 (inv : Inv) (k : Nat) (x0 : Value) (h : AH) : Option (Value × AH) :=
  bnd (pMakeMap Tryz.prog 199 none h) fun x6 =>
  bnd (pLen Tryz.prog #[122] x0 x6.2) fun x8 =>
  F157_lrlrr inv k k x6.1 x0 x8 (.int .i64 0) x6.2
  (fun y3 y7 y8 y9 y10 h =>
  bnd (inv (.func 171) #[] #[y3] h) fun x18 =>
  bnd (inv (.func 170) #[] #[x18.1] x18.2) fun x19 =>
  some (x19.1,x19.2))
theorem F157_eq : eFun env k inv 157 #[x0] h = F157 inv k x0 h:=ks_fun (n:=20) [e157_0]
theorem F157_call : eInv env (k + 1) (.func 157) #[] #[x0] h = F157 (eInv env k) k x0 h:=kq_inv F157_eq
noncomputable def F158_llrrr {β : Type} (inv : Inv) (k : Nat) : Nat→Value→Value→Value→Value→Value→AH→(Value→Value→Value→Value→Value→Value→AH→Option β)→Option β
 | 0,_,_,_,_,_,_,_=>none
 | j + 1,x0,x1,x6,x7,x8,h,ke0 =>
  bnd (pBin Tryz.prog .lss 3 (.tmp 13) (.tmp 14) x7 x8) fun x15 =>
  brV x15
  (bnd (pBin Tryz.prog .add 3 (.tmp 16) (.tmp 17) x7 x8) fun x18 =>
  bnd (pConv Tryz.prog 3 109 x18 h) fun x19 =>
  bnd (pBin Tryz.prog .shr 109 (.tmp 19) (.const (.int .u64 1)) x19 (.int .u64 1)) fun x20 =>
  bnd (pConv Tryz.prog 109 3 x20 h) fun x21 =>
  bnd (pIndexAddr Tryz.prog 122 x0 x21) fun x24 =>
  bnd (pLoad Tryz.prog 9 x24 h) fun x25 =>
  bnd (inv (.func 172) #[] #[x25,x1] h) fun x27 =>
  brV x27.1
  (bnd (pBin Tryz.prog .add 3 (.tmp 28) (.const (.int .i64 1)) x21 (.int .i64 1)) fun x29 =>
  F158_llrrr inv k j x0 x1 x6 x29 x8 x27.2 ke0)
  (F158_llrrr inv k j x0 x1 x6 x7 x21 x27.2 ke0))
  (ke0 x0 x1 x6 x7 x8 x15 h)
noncomputable def e158_0 : Ent env 158 false 54:=.lp [] 60 [0,1,6,7,8] [(.exit 0,[0,1,6,7,8,15])] F158_llrrr
noncomputable abbrev G158_8 {β : Type} (inv : Inv) (x0 x1 x6 x7 : Value) (h : AH) (K : Value→Value→AH→Option β) : Option β :=
  bnd (pBin Tryz.prog .lss 3 (.tmp 32) (.tmp 33) x7 x6) fun x34 =>
  bnd (gd (some x34) true h (some (x0,h))) fun x36 =>
  bnd (gd (some x34) true x36.2 (some (x7,x36.2))) fun x37 =>
  bnd (gd (some x34) true x37.2 (lt (pIndexAddr Tryz.prog 122 x36.1 x37.1) x37.2)) fun x38 =>
  bnd (gd (some x34) true x38.2 (lt (pLoad Tryz.prog 9 x38.1 x38.2) x38.2)) fun x39 =>
  bnd (gd (some x34) true x39.2 (some (x1,x39.2))) fun x40 =>
  bnd (gd (some x34) true x40.2 (lt (pBin Tryz.prog .eql 9 (.tmp 39) (.tmp 40) x39.1 x40.1) x40.2)) fun x41 =>
  bnd (gd (some x34) true x41.2 (some (x41.1,x41.2))) fun x42 =>
  bnd (gd (some x42.1) false x42.2 (some (x0,x42.2))) fun x43 =>
  bnd (gd (some x42.1) false x43.2 (some (x7,x43.2))) fun x44 =>
  bnd (gd (some x42.1) false x44.2 (lt (pIndexAddr Tryz.prog 122 x43.1 x44.1) x44.2)) fun x45 =>
  bnd (gd (some x42.1) false x45.2 (lt (pLoad Tryz.prog 9 x45.1 x45.2) x45.2)) fun x46 =>
  bnd (gd (some x42.1) false x46.2 (inv (.func 173) #[] #[x46.1] x46.2)) fun x47 =>
  bnd (gd (some x42.1) false x47.2 (some (x47.1,x47.2))) fun x48 =>
  bnd (gd (some x48.1) true x48.2 (some (x1,x48.2))) fun x49 =>
  bnd (gd (some x48.1) true x49.2 (inv (.func 173) #[] #[x49.1] x49.2)) fun x50 =>
  bnd (gd (some x42.1) false x50.2 (lt (pickV x48.1 x50.1 (.bool false)) x50.2)) fun x51 =>
  bnd (gd (some x34) true x51.2 (lt (pickV x42.1 (.bool true) x51.1) x51.2)) fun x52 =>
  bnd (pickV x34 x52.1 (.bool false)) fun x53 =>
  K (x7) (x53) x52.2
/-- slices.BinarySearch[[]string,string] -/
noncomputable def F158 (inv : Inv) (k : Nat) (x0 x1 : Value) (h : AH) : Option (Value × AH) :=
  bnd (pLen Tryz.prog #[122] x0 h) fun x11 =>
  F158_llrrr inv k k x0 x1 x11 (.int .i64 0) x11 h
  (fun y0 y1 y6 y7 y8 y15 h =>
  G158_8 inv y0 y1 y6 y7 h fun y4 y5 h_1 =>
  some (.tuple #[y4,y5],h_1))
theorem F158_eq : eFun env k inv 158 #[x0,x1] h = F158 inv k x0 x1 h:=ks_fun (n:=54) [e158_0]
theorem F158_call : eInv env (k + 1) (.func 158) #[] #[x0,x1] h = F158 (eInv env k) k x0 x1 h:=kq_inv F158_eq
/-- cmp.isNaN[int64] -/
noncomputable def F159 (inv : Inv) (k : Nat) (x0 : Value) (h : AH) : Option (Value × AH) :=
  bnd (pBin Tryz.prog .neq 2 (.tmp 3) (.tmp 4) x0 x0) fun x5 =>
  some (x5,h)
theorem F159_eq : eFun env k inv 159 #[x0] h = F159 inv k x0 h:=ks_fun (n:=6) []
theorem F159_call : eInv env (k + 1) (.func 159) #[] #[x0] h = F159 (eInv env k) k x0 h:=kq_inv F159_eq
/-- internal/bytealg.CompareString -/
noncomputable def F160 (inv : Inv) (k : Nat) (x0 x1 : Value) (h : AH) : Option (Value × AH) :=
  bnd (inv (.func 174) #[] #[x0,x1] h) fun x7 =>
  some (x7.1,x7.2)
theorem F160_eq : eFun env k inv 160 #[x0,x1] h = F160 inv k x0 x1 h:=ks_fun (n:=8) []
theorem F160_call : eInv env (k + 1) (.func 160) #[] #[x0,x1] h = F160 (eInv env k) k x0 x1 h:=kq_inv F160_eq
noncomputable abbrev G162_10 {β : Type} (inv : Inv) (x0 x1 x7 x9 x12 x13 : Value) (h : AH) (K : Value→AH→Option β) : Option β :=
  bnd (pBin Tryz.prog .mul 60 (.tmp 40) (.tmp 41) x7 x9) fun x42 =>
  bnd (pBin Tryz.prog .add 60 (.tmp 42) (.tmp 43) x42 x13) fun x44 =>
  bnd (pBin Tryz.prog .shr 60 (.tmp 45) (.const (.int .u64 32)) x12 (.int .u64 32)) fun x46 =>
  bnd (pBin Tryz.prog .add 60 (.tmp 44) (.tmp 46) x44 x46) fun x47 =>
  K (x47) h
/-- math/bits.Mul64 -/
noncomputable def F162 (inv : Inv) (k : Nat) (x0 x1 : Value) (h : AH) : Option (Value × AH) :=
  bnd (pBin Tryz.prog .and 60 (.tmp 14) (.const (.int .u64 4294967295)) x0 (.int .u64 4294967295)) fun x15 =>
  bnd (pBin Tryz.prog .shr 60 (.tmp 16) (.const (.int .u64 32)) x0 (.int .u64 32)) fun x17 =>
  bnd (pBin Tryz.prog .and 60 (.tmp 18) (.const (.int .u64 4294967295)) x1 (.int .u64 4294967295)) fun x19 =>
  bnd (pBin Tryz.prog .shr 60 (.tmp 20) (.const (.int .u64 32)) x1 (.int .u64 32)) fun x21 =>
  bnd (pBin Tryz.prog .mul 60 (.tmp 22) (.tmp 23) x15 x19) fun x24 =>
  bnd (pBin Tryz.prog .mul 60 (.tmp 25) (.tmp 26) x17 x19) fun x27 =>
  bnd (pBin Tryz.prog .shr 60 (.tmp 28) (.const (.int .u64 32)) x24 (.int .u64 32)) fun x29 =>
  bnd (pBin Tryz.prog .add 60 (.tmp 27) (.tmp 29) x27 x29) fun x30 =>
  bnd (pBin Tryz.prog .and 60 (.tmp 31) (.const (.int .u64 4294967295)) x30 (.int .u64 4294967295)) fun x32 =>
  bnd (pBin Tryz.prog .shr 60 (.tmp 33) (.const (.int .u64 32)) x30 (.int .u64 32)) fun x34 =>
  bnd (pBin Tryz.prog .mul 60 (.tmp 36) (.tmp 37) x15 x21) fun x38 =>
  bnd (pBin Tryz.prog .add 60 (.tmp 35) (.tmp 38) x32 x38) fun x39 =>
  G162_10 inv x0 x1 x17 x21 x39 x34 h fun y4 h =>
  bnd (pBin Tryz.prog .mul 60 (.tmp 48) (.tmp 49) x0 x1) fun x50 =>
  some (.tuple #[y4,x50],h)
theorem F162_eq : eFun env k inv 162 #[x0,x1] h = F162 inv k x0 x1 h:=ks_fun (n:=51) []
theorem F162_call : eInv env (k + 1) (.func 162) #[] #[x0,x1] h = F162 (eInv env k) k x0 x1 h:=kq_inv F162_eq
noncomputable def F163_lr {β : Type} (inv : Inv) (k : Nat) : Nat→Value→Value→Value→AH→(Value→Value→Value→Value→AH→Option β)→(Value→Value→Value→Value→AH→Option β)→Option β
 | 0,_,_,_,_,_,_=>none
 | j + 1,x0,x1,x3,h,ke0,kr =>
  bnd (pBin Tryz.prog .geq 3 (.tmp 7) (.const (.int .i64 0)) x3 (.int .i64 0)) fun x8 =>
  brV x8
  (bnd (pLoad Tryz.prog 33 x1 h) fun x13 =>
  bnd (pIndexAddr Tryz.prog 33 x13 x3) fun x15 =>
  bnd (pLoad Tryz.prog 5 x15 h) fun x16 =>
  bnd (callV inv x0 #[x3,x16] h) fun x17 =>
  bnd (pUn Tryz.prog .not x17.1) fun x18 =>
  brV x18
  (kr x0 x1 x3 x18 x17.2)
  (bnd (pBin Tryz.prog .sub 3 (.tmp 9) (.const (.int .i64 1)) x3 (.int .i64 1)) fun x10 =>
  F163_lr inv k j x0 x1 x10 x17.2 ke0 kr))
  (ke0 x0 x1 x3 x8 h)
noncomputable def e163_0 : Ent env 163 false 19:=.lp [] 6 [0,1,3] [(.exit 0,[0,1,3,8]),(.ret,[0,1,3,18])] F163_lr
/-- slices.Backward[[]byte,byte]$1 -/
noncomputable def F163 (inv : Inv) (k : Nat) (x0 x1 : Value) (h : AH) : Option (Value × AH) :=
  bnd (pLoad Tryz.prog 33 x1 h) fun x4 =>
  bnd (pLen Tryz.prog #[33] x4 h) fun x5 =>
  bnd (pBin Tryz.prog .sub 3 (.tmp 5) (.const (.int .i64 1)) x5 (.int .i64 1)) fun x6 =>
  F163_lr inv k k x0 x1 x6 h
  (fun y0 y1 y3 y8 h =>
  some (.tuple #[],h))
  (fun y0_1 y1_2 y3_3 y18 h_4 =>
  some (.tuple #[],h_4))
theorem F163_eq : eFun env k inv 163 #[x0,x1] h = F163 inv k x0 x1 h:=ks_fun (n:=19) [e163_0]
theorem F163_call : eInv env (k + 1) (.func 163) #[] #[x0,x1] h = F163 (eInv env k) k x0 x1 h:=kq_inv F163_eq
/-- shadowbook/ints.head -/
noncomputable def F164 (inv : Inv) (k : Nat) (x0 x1 : Value) (h : AH) : Option (Value × AH) :=
  bnd (pBuildSlice Tryz.prog 33 1 #[(0,x0)] h) fun x6 =>
  bnd (pConv Tryz.prog 3 60 x1 x6.2) fun x8 =>
  bnd (inv (.func 47) #[] #[x6.1,x8] x6.2) fun x9 =>
  some (x9.1,x9.2)
theorem F164_eq : eFun env k inv 164 #[x0,x1] h = F164 inv k x0 x1 h:=ks_fun (n:=10) []
theorem F164_call : eInv env (k + 1) (.func 164) #[] #[x0,x1] h = F164 (eInv env k) k x0 x1 h:=kq_inv F164_eq
noncomputable def F166_rlr {β : Type} (inv : Inv) (k : Nat) (x0 x7 : Value) (h : AH) (kn : (Value→Value→AH→Option β)) : Option β :=
  brV x7
  (bnd (pMakeIface Tryz.prog 9 (.string { data:=#[115,108,105,99,101,115,46,77,105,110,58,32,101,109,112,116,121,32,108,105,115,116] })) fun x8 =>
  bnd ((none : Option (Value × AH))) fun u =>
  kn x0 unk u.2)
  (kn x0 x7 h)
noncomputable def e166_0 : Ent env 166 false 25:=.jn [] 13 [0,7] [(.normal,[0,7])] F166_rlr
noncomputable def F166_lrlrrr {β : Type} (inv : Inv) (k : Nat) : Nat→Value→Value→Value→AH→(Value→Value→Value→Value→AH→Option β)→Option β
 | 0,_,_,_,_,_=>none
 | j + 1,x0,x3,x4,h,ke0 =>
  bnd (pLen Tryz.prog #[121] x0 h) fun x14 =>
  bnd (pBin Tryz.prog .lss 3 (.tmp 12) (.tmp 14) x4 x14) fun x15 =>
  brV x15
  (bnd (pIndexAddr Tryz.prog 121 x0 x4) fun x21 =>
  bnd (pLoad Tryz.prog 2 x21 h) fun x22 =>
  bnd (pMinMax Tryz.prog false #[x3,x22]) fun x23 =>
  bnd (pBin Tryz.prog .add 3 (.tmp 16) (.const (.int .i64 1)) x4 (.int .i64 1)) fun x17 =>
  F166_lrlrrr inv k j x0 x23 x17 h ke0)
  (ke0 x0 x3 x4 x15 h)
noncomputable def e166_1 : Ent env 166 false 25:=.lp [e166_0] 122 [0,3,4] [(.exit 0,[0,3,4,15])] F166_lrlrrr
/-- slices.Min[[]int64,int64] -/
noncomputable def F166 (inv : Inv) (k : Nat) (x0 : Value) (h : AH) : Option (Value × AH) :=
  bnd (pLen Tryz.prog #[121] x0 h) fun x6 =>
  bnd (pBin Tryz.prog .lss 3 (.tmp 6) (.const (.int .i64 1)) x6 (.int .i64 1)) fun x7 =>
  F166_rlr inv k x0 x7 h
  (fun y0 y7 h =>
  bnd (pIndexAddr Tryz.prog 121 y0 (.int .i64 0)) fun x10 =>
  bnd (pLoad Tryz.prog 2 x10 h) fun x11 =>
  F166_lrlrrr inv k k y0 x11 (.int .i64 1) h
  (fun y0_1 y3 y4 y15 h_2 =>
  some (y3,h_2)))
theorem F166_eq : eFun env k inv 166 #[x0] h = F166 inv k x0 h:=ks_fun (n:=25) [e166_0,e166_1]
theorem F166_call : eInv env (k + 1) (.func 166) #[] #[x0] h = F166 (eInv env k) k x0 h:=kq_inv F166_eq
noncomputable def F167_lrlr {β : Type} (inv : Inv) (k : Nat) : Nat→Value→Value→Value→Value→AH→(Value→Value→Value→Value→Value→AH→Option β)→(Value→AH→Option β)→Option β
 | 0,_,_,_,_,_,_,_=>none
 | j + 1,x0,x1,x7,x8,h,ke0,kr =>
  bnd (pBin Tryz.prog .lss 3 (.tmp 8) (.tmp 7) x8 x7) fun x9 =>
  brV x9
  (bnd (pIndexAddr Tryz.prog 33 x0 x8) fun x14 =>
  bnd (pLoad Tryz.prog 5 x14 h) fun x15 =>
  bnd (callV inv x1 #[x15] h) fun x16 =>
  brV x16.1
  (kr x8 x16.2)
  (bnd (pBin Tryz.prog .add 3 (.tmp 8) (.const (.int .i64 1)) x8 (.int .i64 1)) fun x18 =>
  F167_lrlr inv k j x0 x1 x7 x18 x16.2 ke0 kr))
  (ke0 x0 x1 x7 x8 x9 h)
noncomputable def e167_0 : Ent env 167 false 19:=.lp [] 26 [0,1,7,8] [(.exit 0,[0,1,7,8,9]),(.ret,[4])] F167_lrlr
/-- slices.IndexFunc[[]byte,byte] -/
noncomputable def F167 (inv : Inv) (k : Nat) (x0 x1 : Value) (h : AH) : Option (Value × AH) :=
  bnd (pLen Tryz.prog #[33] x0 h) fun x7 =>
  F167_lrlr inv k k x0 x1 x7 (.int .i64 0) h
  (fun y0 y1 y7 y8 y9 h =>
  some ((.int .i64 (-1)),h))
  (fun y4 h_1 =>
  some (y4,h_1))
theorem F167_eq : eFun env k inv 167 #[x0,x1] h = F167 inv k x0 x1 h:=ks_fun (n:=19) [e167_0]
theorem F167_call : eInv env (k + 1) (.func 167) #[] #[x0,x1] h = F167 (eInv env k) k x0 x1 h:=kq_inv F167_eq
/-- slices.ContainsFunc[[]string,string] -/
noncomputable def F168 (inv : Inv) (k : Nat) (x0 x1 : Value) (h : AH) : Option (Value × AH) :=
  bnd (inv (.func 175) #[] #[x0,x1] h) fun x7 =>
  bnd (pBin Tryz.prog .geq 3 (.tmp 7) (.const (.int .i64 0)) x7.1 (.int .i64 0)) fun x8 =>
  some (x8,x7.2)
theorem F168_eq : eFun env k inv 168 #[x0,x1] h = F168 inv k x0 x1 h:=ks_fun (n:=9) []
theorem F168_call : eInv env (k + 1) (.func 168) #[] #[x0,x1] h = F168 (eInv env k) k x0 x1 h:=kq_inv F168_eq
/-- shadowbook/texts.check$1 -/
noncomputable def F169 (inv : Inv) (k : Nat) (x0 : Value) (h : AH) : Option (Value × AH) :=
  bnd (pLen Tryz.prog #[9] x0 h) fun x4 =>
  bnd (pBin Tryz.prog .gtr 3 (.tmp 4) (.const (.int .i64 65536)) x4 (.int .i64 65536)) fun x5 =>
  some (x5,h)
theorem F169_eq : eFun env k inv 169 #[x0] h = F169 inv k x0 h:=ks_fun (n:=6) []
theorem F169_call : eInv env (k + 1) (.func 169) #[] #[x0] h = F169 (eInv env k) k x0 h:=kq_inv F169_eq
/-- maps.Keys[map[string]struct{},string,struct{}] -/
noncomputable def F171 (inv : Inv) (k : Nat) (x0 : Value) (h : AH) : Option (Value × AH) :=
  bnd (pBox Tryz.prog 199 x0 h) fun x1 =>
  bnd (pMakeFunc (.func 178) #[] #[x1.1]) fun x3 =>
  some (x3,x1.2)
theorem F171_eq : eFun env k inv 171 #[x0] h = F171 inv k x0 h:=ks_fun (n:=4) []
theorem F171_call : eInv env (k + 1) (.func 171) #[] #[x0] h = F171 (eInv env k) k x0 h:=kq_inv F171_eq
noncomputable abbrev G172_1 {β : Type} (inv : Inv) (x0 x1 : Value) (h : AH) (K : Value→AH→Option β) : Option β :=
  bnd (inv (.func 179) #[] #[x0] h) fun x6 =>
  bnd (gd (some x6.1) true x6.2 (some (x1,x6.2))) fun x8 =>
  bnd (gd (some x6.1) true x8.2 (inv (.func 179) #[] #[x8.1] x8.2)) fun x9 =>
  bnd (gd (some x6.1) true x9.2 (lt (pUn Tryz.prog .not x9.1) x9.2)) fun x10 =>
  bnd (pickV x6.1 x10.1 (.bool false)) fun x11 =>
  bnd (gd (some x11) false x10.2 (some (x0,x10.2))) fun x13 =>
  bnd (gd (some x11) false x13.2 (some (x1,x13.2))) fun x14 =>
  bnd (gd (some x11) false x14.2 (lt (pBin Tryz.prog .lss 9 (.tmp 13) (.tmp 14) x13.1 x14.1) x14.2)) fun x15 =>
  bnd (pickV x11 (.bool true) x15.1) fun x16 =>
  K (x16) x15.2
/-- cmp.Less[string] -/
noncomputable def F172 (inv : Inv) (k : Nat) (x0 x1 : Value) (h : AH) : Option (Value × AH) :=
  G172_1 inv x0 x1 h fun y4 h =>
  some (y4,h)
theorem F172_eq : eFun env k inv 172 #[x0,x1] h = F172 inv k x0 x1 h:=ks_fun (n:=17) []
theorem F172_call : eInv env (k + 1) (.func 172) #[] #[x0,x1] h = F172 (eInv env k) k x0 x1 h:=kq_inv F172_eq
noncomputable def F175_lrlr {β : Type} (inv : Inv) (k : Nat) : Nat→Value→Value→Value→Value→AH→(Value→Value→Value→Value→Value→AH→Option β)→(Value→AH→Option β)→Option β
 | 0,_,_,_,_,_,_,_=>none
 | j + 1,x0,x1,x7,x8,h,ke0,kr =>
  bnd (pBin Tryz.prog .lss 3 (.tmp 8) (.tmp 7) x8 x7) fun x9 =>
  brV x9
  (bnd (pIndexAddr Tryz.prog 122 x0 x8) fun x14 =>
  bnd (pLoad Tryz.prog 9 x14 h) fun x15 =>
  bnd (callV inv x1 #[x15] h) fun x16 =>
  brV x16.1
  (kr x8 x16.2)
  (bnd (pBin Tryz.prog .add 3 (.tmp 8) (.const (.int .i64 1)) x8 (.int .i64 1)) fun x18 =>
  F175_lrlr inv k j x0 x1 x7 x18 x16.2 ke0 kr))
  (ke0 x0 x1 x7 x8 x9 h)
noncomputable def e175_0 : Ent env 175 false 19:=.lp [] 26 [0,1,7,8] [(.exit 0,[0,1,7,8,9]),(.ret,[4])] F175_lrlr
/-- slices.IndexFunc[[]string,string] -/
noncomputable def F175 (inv : Inv) (k : Nat) (x0 x1 : Value) (h : AH) : Option (Value × AH) :=
  bnd (pLen Tryz.prog #[122] x0 h) fun x7 =>
  F175_lrlr inv k k x0 x1 x7 (.int .i64 0) h
  (fun y0 y1 y7 y8 y9 h =>
  some ((.int .i64 (-1)),h))
  (fun y4 h_1 =>
  some (y4,h_1))
theorem F175_eq : eFun env k inv 175 #[x0,x1] h = F175 inv k x0 x1 h:=ks_fun (n:=19) [e175_0]
theorem F175_call : eInv env (k + 1) (.func 175) #[] #[x0,x1] h = F175 (eInv env k) k x0 x1 h:=kq_inv F175_eq
/-- cmp.isNaN[string] -/
noncomputable def F179 (inv : Inv) (k : Nat) (x0 : Value) (h : AH) : Option (Value × AH) :=
  bnd (pBin Tryz.prog .neq 9 (.tmp 3) (.tmp 4) x0 x0) fun x5 =>
  some (x5,h)
theorem F179_eq : eFun env k inv 179 #[x0] h = F179 inv k x0 h:=ks_fun (n:=6) []
theorem F179_call : eInv env (k + 1) (.func 179) #[] #[x0] h = F179 (eInv env k) k x0 h:=kq_inv F179_eq
noncomputable def F214_lrlrr {β : Type} (inv : Inv) (k : Nat) : Nat→Value→Value→Value→Value→Value→AH→(Value→Value→Value→Value→Value→Value→AH→Option β)→Option β
 | 0,_,_,_,_,_,_,_=>none
 | j + 1,x2,x6,x9,x10,x11,h,ke0 =>
  bnd (pBin Tryz.prog .lss 3 (.tmp 11) (.tmp 10) x11 x10) fun x12 =>
  brV x12
  (bnd (pIndexAddr Tryz.prog 22 x9 x11) fun x13 =>
  bnd (pLoad Tryz.prog 31 x13 h) fun x14 =>
  bnd (pAlloc Tryz.prog 31 h) fun x8 =>
  bnd (kSt (pStore Tryz.prog 31 x8.1 x14 x8.2)) fun u =>
  bnd (pFieldAddr Tryz.prog 86 x2 0) fun x16 =>
  bnd (pLoad Tryz.prog 80 x16 u.2) fun x17 =>
  bnd (pLoad Tryz.prog 31 x8.1 u.2) fun x18 =>
  bnd (callV inv x17 #[x18] u.2) fun x19 =>
  bnd (pBuildSlice Tryz.prog 121 1 #[(0,x19.1)] x19.2) fun x20 =>
  bnd (pAppend Tryz.prog #[121,121] x6 x20.1 x20.2) fun x21 =>
  bnd (pBin Tryz.prog .add 3 (.tmp 11) (.const (.int .i64 1)) x11 (.int .i64 1)) fun x22 =>
  F214_lrlrr inv k j x2 x21.1 x9 x10 x22 x21.2 ke0)
  (ke0 x2 x6 x9 x10 x11 x12 h)
noncomputable def e214_0 : Ent env 214 false 29:=.lp [] 58 [2,6,9,10,11] [(.exit 0,[2,6,9,10,11,12])] F214_lrlrr
/-- (shadowbook/segment.codec[int64]).cells -/
noncomputable def F214 (inv : Inv) (k : Nat) (x0 x1 : Value) (h : AH) : Option (Value × AH) :=
  bnd (pBox Tryz.prog 86 x0 h) fun x2 =>
  bnd (pLen Tryz.prog #[22] x1 x2.2) fun x10 =>
  F214_lrlrr inv k k x2.1 (.slice none 0 0) x1 x10 (.int .i64 0) x2.2
  (fun y2 y6 y9 y10 y11 y12 h =>
  bnd (pFieldAddr Tryz.prog 86 y2 4) fun x23 =>
  bnd (pLoad Tryz.prog 83 x23 h) fun x24 =>
  bnd (callV inv x24 #[y6] h) fun x26 =>
  bnd (pExtract x26.1 0) fun x27 =>
  bnd (pExtract x26.1 1) fun x28 =>
  some (.tuple #[x27,x28],x26.2))
theorem F214_eq : eFun env k inv 214 #[x0,x1] h = F214 inv k x0 x1 h:=ks_fun (n:=29) [e214_0]
theorem F214_call : eInv env (k + 1) (.func 214) #[] #[x0,x1] h = F214 (eInv env k) k x0 x1 h:=kq_inv F214_eq
noncomputable abbrev G215_5 {β : Type} (inv : Inv) (x2 x4 x5 x6 x7 x8 : Value) (h : AH) (K : AH→Option β) : Option β :=
  bnd (pFieldAddr Tryz.prog 86 x2 1) fun x28 =>
  bnd (pLoad Tryz.prog 47 x28 h) fun x29 =>
  bnd (callV inv x29 #[x7] h) fun x31 =>
  bnd (pFieldAddr Tryz.prog 86 x2 1) fun x32 =>
  bnd (pLoad Tryz.prog 47 x32 x31.2) fun x33 =>
  bnd (callV inv x33 #[x8] x31.2) fun x35 =>
  bnd (kSt (pStore Tryz.prog 31 x4 x31.1 x35.2)) fun u =>
  bnd (kSt (pStore Tryz.prog 31 x5 x35.1 u.2)) fun u_3 =>
  chkK ((!true || !true || (sameO (pLoad Tryz.prog 47 x32 h) x33 && sameO (pLoad Tryz.prog 47 x32 x31.2) x33)) && true) <|
  K u_3.2
/-- (shadowbook/segment.codec[int64]).ends -/
noncomputable def F215 (inv : Inv) (k : Nat) (x0 x1 : Value) (h : AH) : Option (Value × AH) :=
  bnd (pBox Tryz.prog 86 x0 h) fun x2 =>
  bnd (pAlloc Tryz.prog 31 x2.2) fun x4 =>
  bnd (pAlloc Tryz.prog 31 x4.2) fun x5 =>
  bnd (pFieldAddr Tryz.prog 86 x2.1 3) fun x10 =>
  bnd (pLoad Tryz.prog 82 x10 x5.2) fun x11 =>
  bnd (callV inv x11 #[x1] x5.2) fun x13 =>
  bnd (pExtract x13.1 0) fun x14 =>
  bnd (pExtract x13.1 1) fun x15 =>
  bnd (pBin Tryz.prog .neq 25 (.tmp 16) (.const (.int .i64 0)) x15 (.int .i64 0)) fun x17 =>
  brV x17
  (bnd (pLoad Tryz.prog 31 x4.1 x13.2) fun x18 =>
  bnd (pLoad Tryz.prog 31 x5.1 x13.2) fun x19 =>
  bnd (kSt (pStore Tryz.prog 31 x4.1 x18 x13.2)) fun u =>
  bnd (kSt (pStore Tryz.prog 31 x5.1 x19 u.2)) fun u_2 =>
  chkK ((!true || !true || (sameO (pLoad Tryz.prog 31 x5.1 x13.2) x19 && sameO (pLoad Tryz.prog 31 x5.1 u.2) x19)) && true) <|
  bnd (pLoad Tryz.prog 31 x4.1 u_2.2) fun q0 =>
  bnd (pLoad Tryz.prog 31 x5.1 u_2.2) fun q1 =>
  some (.tuple #[q0,q1,x15],u_2.2))
  (bnd (pFieldAddr Tryz.prog 86 x2.1 3) fun x22 =>
  bnd (pLoad Tryz.prog 82 x22 x13.2) fun x23 =>
  bnd (callV inv x23 #[x1] x13.2) fun x25 =>
  bnd (pExtract x25.1 0) fun x26 =>
  bnd (pExtract x25.1 1) fun x27 =>
  G215_5 inv x2.1 x4.1 x5.1 x27 x14 x26 x25.2 fun  h =>
  bnd (pLoad Tryz.prog 31 x4.1 h) fun q0 =>
  bnd (pLoad Tryz.prog 31 x5.1 h) fun q1 =>
  some (.tuple #[q0,q1,x27],h))
theorem F215_eq : eFun env k inv 215 #[x0,x1] h = F215 inv k x0 x1 h:=ks_fun (n:=37) []
theorem F215_call : eInv env (k + 1) (.func 215) #[] #[x0,x1] h = F215 (eInv env k) k x0 x1 h:=kq_inv F215_eq
noncomputable abbrev G216_1 {β : Type} (inv : Inv) (x1 x3 x5 : Value) (h : AH) (K : Value→AH→Option β) : Option β :=
  bnd (pFieldAddr Tryz.prog 86 x3 2) fun x7 =>
  bnd (pLoad Tryz.prog 81 x7 h) fun x8 =>
  bnd (pFieldAddr Tryz.prog 86 x3 2) fun x9 =>
  bnd (pLoad Tryz.prog 81 x9 h) fun x10 =>
  bnd (pFieldAddr Tryz.prog 86 x3 0) fun x12 =>
  bnd (pLoad Tryz.prog 80 x12 h) fun x13 =>
  bnd (pFieldAddr Tryz.prog 38 x5 2) fun x14 =>
  bnd (pLoad Tryz.prog 31 x14 h) fun x15 =>
  bnd (callV inv x13 #[x15] h) fun x16 =>
  bnd (callV inv x10 #[x1,x16.1] x16.2) fun x17 =>
  bnd (pFieldAddr Tryz.prog 86 x3 0) fun x18 =>
  bnd (pLoad Tryz.prog 80 x18 x17.2) fun x19 =>
  bnd (pFieldAddr Tryz.prog 38 x5 3) fun x20 =>
  bnd (pLoad Tryz.prog 31 x20 x17.2) fun x21 =>
  bnd (callV inv x19 #[x21] x17.2) fun x22 =>
  bnd (callV inv x8 #[x17.1,x22.1] x22.2) fun x23 =>
  chkK ((!true || !true || (sameO (pLoad Tryz.prog 81 x7 h) x8 && sameO (pLoad Tryz.prog 81 x7 x16.2) x8)) && ((!true || !true || (sameO (pLoad Tryz.prog 81 x7 x16.2) x8 && sameO (pLoad Tryz.prog 81 x7 x17.2) x8)) && ((!true || !true || (sameO (pLoad Tryz.prog 81 x7 x17.2) x8 && sameO (pLoad Tryz.prog 81 x7 x22.2) x8)) && ((!true || !true || (sameO (pLoad Tryz.prog 81 x9 h) x10 && sameO (pLoad Tryz.prog 81 x9 x16.2) x10)) && ((!true || !true || (sameO (pLoad Tryz.prog 80 x18 h) x19 && sameO (pLoad Tryz.prog 80 x18 x16.2) x19)) && ((!true || !true || (sameO (pLoad Tryz.prog 80 x18 x16.2) x19 && sameO (pLoad Tryz.prog 80 x18 x17.2) x19)) && ((!true || !true || (sameO (pLoad Tryz.prog 31 x20 h) x21 && sameO (pLoad Tryz.prog 31 x20 x16.2) x21)) && ((!true || !true || (sameO (pLoad Tryz.prog 31 x20 x16.2) x21 && sameO (pLoad Tryz.prog 31 x20 x17.2) x21)) && true)))))))) <|
  K (x23.1) x23.2
/-- (shadowbook/segment.codec[int64]).zone -/
noncomputable def F216 (inv : Inv) (k : Nat) (x0 x1 x2 : Value) (h : AH) : Option (Value × AH) :=
  bnd (pBox Tryz.prog 86 x0 h) fun x3 =>
  bnd (pBox Tryz.prog 38 x2 x3.2) fun x5 =>
  G216_1 inv x1 x3.1 x5.1 x5.2 fun y6 h =>
  some (y6,h)
theorem F216_eq : eFun env k inv 216 #[x0,x1,x2] h = F216 inv k x0 x1 x2 h:=ks_fun (n:=24) []
theorem F216_call : eInv env (k + 1) (.func 216) #[] #[x0,x1,x2] h = F216 (eInv env k) k x0 x1 x2 h:=kq_inv F216_eq
noncomputable def F218_lrlrr {β : Type} (inv : Inv) (k : Nat) : Nat→Value→Value→Value→Value→Value→AH→(Value→Value→Value→Value→Value→Value→AH→Option β)→Option β
 | 0,_,_,_,_,_,_,_=>none
 | j + 1,x2,x6,x9,x10,x11,h,ke0 =>
  bnd (pBin Tryz.prog .lss 3 (.tmp 11) (.tmp 10) x11 x10) fun x12 =>
  brV x12
  (bnd (pIndexAddr Tryz.prog 22 x9 x11) fun x13 =>
  bnd (pLoad Tryz.prog 31 x13 h) fun x14 =>
  bnd (pAlloc Tryz.prog 31 h) fun x8 =>
  bnd (kSt (pStore Tryz.prog 31 x8.1 x14 x8.2)) fun u =>
  bnd (pFieldAddr Tryz.prog 94 x2 0) fun x16 =>
  bnd (pLoad Tryz.prog 88 x16 u.2) fun x17 =>
  bnd (pLoad Tryz.prog 31 x8.1 u.2) fun x18 =>
  bnd (callV inv x17 #[x18] u.2) fun x19 =>
  bnd (pBuildSlice Tryz.prog 63 1 #[(0,x19.1)] x19.2) fun x20 =>
  bnd (pAppend Tryz.prog #[63,63] x6 x20.1 x20.2) fun x21 =>
  bnd (pBin Tryz.prog .add 3 (.tmp 11) (.const (.int .i64 1)) x11 (.int .i64 1)) fun x22 =>
  F218_lrlrr inv k j x2 x21.1 x9 x10 x22 x21.2 ke0)
  (ke0 x2 x6 x9 x10 x11 x12 h)
noncomputable def e218_0 : Ent env 218 false 29:=.lp [] 58 [2,6,9,10,11] [(.exit 0,[2,6,9,10,11,12])] F218_lrlrr
/-- (shadowbook/segment.codec[uint64]).cells -/
noncomputable def F218 (inv : Inv) (k : Nat) (x0 x1 : Value) (h : AH) : Option (Value × AH) :=
  bnd (pBox Tryz.prog 94 x0 h) fun x2 =>
  bnd (pLen Tryz.prog #[22] x1 x2.2) fun x10 =>
  F218_lrlrr inv k k x2.1 (.slice none 0 0) x1 x10 (.int .i64 0) x2.2
  (fun y2 y6 y9 y10 y11 y12 h =>
  bnd (pFieldAddr Tryz.prog 94 y2 4) fun x23 =>
  bnd (pLoad Tryz.prog 91 x23 h) fun x24 =>
  bnd (callV inv x24 #[y6] h) fun x26 =>
  bnd (pExtract x26.1 0) fun x27 =>
  bnd (pExtract x26.1 1) fun x28 =>
  some (.tuple #[x27,x28],x26.2))
theorem F218_eq : eFun env k inv 218 #[x0,x1] h = F218 inv k x0 x1 h:=ks_fun (n:=29) [e218_0]
theorem F218_call : eInv env (k + 1) (.func 218) #[] #[x0,x1] h = F218 (eInv env k) k x0 x1 h:=kq_inv F218_eq
noncomputable abbrev G219_5 {β : Type} (inv : Inv) (x2 x4 x5 x6 x7 x8 : Value) (h : AH) (K : AH→Option β) : Option β :=
  bnd (pFieldAddr Tryz.prog 94 x2 1) fun x28 =>
  bnd (pLoad Tryz.prog 89 x28 h) fun x29 =>
  bnd (callV inv x29 #[x7] h) fun x31 =>
  bnd (pFieldAddr Tryz.prog 94 x2 1) fun x32 =>
  bnd (pLoad Tryz.prog 89 x32 x31.2) fun x33 =>
  bnd (callV inv x33 #[x8] x31.2) fun x35 =>
  bnd (kSt (pStore Tryz.prog 31 x4 x31.1 x35.2)) fun u =>
  bnd (kSt (pStore Tryz.prog 31 x5 x35.1 u.2)) fun u_3 =>
  chkK ((!true || !true || (sameO (pLoad Tryz.prog 89 x32 h) x33 && sameO (pLoad Tryz.prog 89 x32 x31.2) x33)) && true) <|
  K u_3.2
/-- (shadowbook/segment.codec[uint64]).ends -/
noncomputable def F219 (inv : Inv) (k : Nat) (x0 x1 : Value) (h : AH) : Option (Value × AH) :=
  bnd (pBox Tryz.prog 94 x0 h) fun x2 =>
  bnd (pAlloc Tryz.prog 31 x2.2) fun x4 =>
  bnd (pAlloc Tryz.prog 31 x4.2) fun x5 =>
  bnd (pFieldAddr Tryz.prog 94 x2.1 3) fun x10 =>
  bnd (pLoad Tryz.prog 90 x10 x5.2) fun x11 =>
  bnd (callV inv x11 #[x1] x5.2) fun x13 =>
  bnd (pExtract x13.1 0) fun x14 =>
  bnd (pExtract x13.1 1) fun x15 =>
  bnd (pBin Tryz.prog .neq 25 (.tmp 16) (.const (.int .i64 0)) x15 (.int .i64 0)) fun x17 =>
  brV x17
  (bnd (pLoad Tryz.prog 31 x4.1 x13.2) fun x18 =>
  bnd (pLoad Tryz.prog 31 x5.1 x13.2) fun x19 =>
  bnd (kSt (pStore Tryz.prog 31 x4.1 x18 x13.2)) fun u =>
  bnd (kSt (pStore Tryz.prog 31 x5.1 x19 u.2)) fun u_2 =>
  chkK ((!true || !true || (sameO (pLoad Tryz.prog 31 x5.1 x13.2) x19 && sameO (pLoad Tryz.prog 31 x5.1 u.2) x19)) && true) <|
  bnd (pLoad Tryz.prog 31 x4.1 u_2.2) fun q0 =>
  bnd (pLoad Tryz.prog 31 x5.1 u_2.2) fun q1 =>
  some (.tuple #[q0,q1,x15],u_2.2))
  (bnd (pFieldAddr Tryz.prog 94 x2.1 3) fun x22 =>
  bnd (pLoad Tryz.prog 90 x22 x13.2) fun x23 =>
  bnd (callV inv x23 #[x1] x13.2) fun x25 =>
  bnd (pExtract x25.1 0) fun x26 =>
  bnd (pExtract x25.1 1) fun x27 =>
  G219_5 inv x2.1 x4.1 x5.1 x27 x14 x26 x25.2 fun  h =>
  bnd (pLoad Tryz.prog 31 x4.1 h) fun q0 =>
  bnd (pLoad Tryz.prog 31 x5.1 h) fun q1 =>
  some (.tuple #[q0,q1,x27],h))
theorem F219_eq : eFun env k inv 219 #[x0,x1] h = F219 inv k x0 x1 h:=ks_fun (n:=37) []
theorem F219_call : eInv env (k + 1) (.func 219) #[] #[x0,x1] h = F219 (eInv env k) k x0 x1 h:=kq_inv F219_eq
noncomputable abbrev G220_1 {β : Type} (inv : Inv) (x1 x3 x5 : Value) (h : AH) (K : Value→AH→Option β) : Option β :=
  bnd (pFieldAddr Tryz.prog 94 x3 2) fun x7 =>
  bnd (pLoad Tryz.prog 59 x7 h) fun x8 =>
  bnd (pFieldAddr Tryz.prog 94 x3 2) fun x9 =>
  bnd (pLoad Tryz.prog 59 x9 h) fun x10 =>
  bnd (pFieldAddr Tryz.prog 94 x3 0) fun x12 =>
  bnd (pLoad Tryz.prog 88 x12 h) fun x13 =>
  bnd (pFieldAddr Tryz.prog 38 x5 2) fun x14 =>
  bnd (pLoad Tryz.prog 31 x14 h) fun x15 =>
  bnd (callV inv x13 #[x15] h) fun x16 =>
  bnd (callV inv x10 #[x1,x16.1] x16.2) fun x17 =>
  bnd (pFieldAddr Tryz.prog 94 x3 0) fun x18 =>
  bnd (pLoad Tryz.prog 88 x18 x17.2) fun x19 =>
  bnd (pFieldAddr Tryz.prog 38 x5 3) fun x20 =>
  bnd (pLoad Tryz.prog 31 x20 x17.2) fun x21 =>
  bnd (callV inv x19 #[x21] x17.2) fun x22 =>
  bnd (callV inv x8 #[x17.1,x22.1] x22.2) fun x23 =>
  chkK ((!true || !true || (sameO (pLoad Tryz.prog 59 x7 h) x8 && sameO (pLoad Tryz.prog 59 x7 x16.2) x8)) && ((!true || !true || (sameO (pLoad Tryz.prog 59 x7 x16.2) x8 && sameO (pLoad Tryz.prog 59 x7 x17.2) x8)) && ((!true || !true || (sameO (pLoad Tryz.prog 59 x7 x17.2) x8 && sameO (pLoad Tryz.prog 59 x7 x22.2) x8)) && ((!true || !true || (sameO (pLoad Tryz.prog 59 x9 h) x10 && sameO (pLoad Tryz.prog 59 x9 x16.2) x10)) && ((!true || !true || (sameO (pLoad Tryz.prog 88 x18 h) x19 && sameO (pLoad Tryz.prog 88 x18 x16.2) x19)) && ((!true || !true || (sameO (pLoad Tryz.prog 88 x18 x16.2) x19 && sameO (pLoad Tryz.prog 88 x18 x17.2) x19)) && ((!true || !true || (sameO (pLoad Tryz.prog 31 x20 h) x21 && sameO (pLoad Tryz.prog 31 x20 x16.2) x21)) && ((!true || !true || (sameO (pLoad Tryz.prog 31 x20 x16.2) x21 && sameO (pLoad Tryz.prog 31 x20 x17.2) x21)) && true)))))))) <|
  K (x23.1) x23.2
/-- (shadowbook/segment.codec[uint64]).zone -/
noncomputable def F220 (inv : Inv) (k : Nat) (x0 x1 x2 : Value) (h : AH) : Option (Value × AH) :=
  bnd (pBox Tryz.prog 94 x0 h) fun x3 =>
  bnd (pBox Tryz.prog 38 x2 x3.2) fun x5 =>
  G220_1 inv x1 x3.1 x5.1 x5.2 fun y6 h =>
  some (y6,h)
theorem F220_eq : eFun env k inv 220 #[x0,x1,x2] h = F220 inv k x0 x1 x2 h:=ks_fun (n:=24) []
theorem F220_call : eInv env (k + 1) (.func 220) #[] #[x0,x1,x2] h = F220 (eInv env k) k x0 x1 x2 h:=kq_inv F220_eq
noncomputable def F222_lrlrr {β : Type} (inv : Inv) (k : Nat) : Nat→Value→Value→Value→Value→Value→AH→(Value→Value→Value→Value→Value→Value→AH→Option β)→Option β
 | 0,_,_,_,_,_,_,_=>none
 | j + 1,x2,x6,x9,x10,x11,h,ke0 =>
  bnd (pBin Tryz.prog .lss 3 (.tmp 11) (.tmp 10) x11 x10) fun x12 =>
  brV x12
  (bnd (pIndexAddr Tryz.prog 22 x9 x11) fun x13 =>
  bnd (pLoad Tryz.prog 31 x13 h) fun x14 =>
  bnd (pAlloc Tryz.prog 31 h) fun x8 =>
  bnd (kSt (pStore Tryz.prog 31 x8.1 x14 x8.2)) fun u =>
  bnd (pFieldAddr Tryz.prog 103 x2 0) fun x16 =>
  bnd (pLoad Tryz.prog 96 x16 u.2) fun x17 =>
  bnd (pLoad Tryz.prog 31 x8.1 u.2) fun x18 =>
  bnd (callV inv x17 #[x18] u.2) fun x19 =>
  bnd (pBuildSlice Tryz.prog 122 1 #[(0,x19.1)] x19.2) fun x20 =>
  bnd (pAppend Tryz.prog #[122,122] x6 x20.1 x20.2) fun x21 =>
  bnd (pBin Tryz.prog .add 3 (.tmp 11) (.const (.int .i64 1)) x11 (.int .i64 1)) fun x22 =>
  F222_lrlrr inv k j x2 x21.1 x9 x10 x22 x21.2 ke0)
  (ke0 x2 x6 x9 x10 x11 x12 h)
noncomputable def e222_0 : Ent env 222 false 29:=.lp [] 58 [2,6,9,10,11] [(.exit 0,[2,6,9,10,11,12])] F222_lrlrr
/-- (shadowbook/segment.codec[string]).cells -/
noncomputable def F222 (inv : Inv) (k : Nat) (x0 x1 : Value) (h : AH) : Option (Value × AH) :=
  bnd (pBox Tryz.prog 103 x0 h) fun x2 =>
  bnd (pLen Tryz.prog #[22] x1 x2.2) fun x10 =>
  F222_lrlrr inv k k x2.1 (.slice none 0 0) x1 x10 (.int .i64 0) x2.2
  (fun y2 y6 y9 y10 y11 y12 h =>
  bnd (pFieldAddr Tryz.prog 103 y2 4) fun x23 =>
  bnd (pLoad Tryz.prog 100 x23 h) fun x24 =>
  bnd (callV inv x24 #[y6] h) fun x26 =>
  bnd (pExtract x26.1 0) fun x27 =>
  bnd (pExtract x26.1 1) fun x28 =>
  some (.tuple #[x27,x28],x26.2))
theorem F222_eq : eFun env k inv 222 #[x0,x1] h = F222 inv k x0 x1 h:=ks_fun (n:=29) [e222_0]
theorem F222_call : eInv env (k + 1) (.func 222) #[] #[x0,x1] h = F222 (eInv env k) k x0 x1 h:=kq_inv F222_eq
noncomputable abbrev G223_5 {β : Type} (inv : Inv) (x2 x4 x5 x6 x7 x8 : Value) (h : AH) (K : AH→Option β) : Option β :=
  bnd (pFieldAddr Tryz.prog 103 x2 1) fun x28 =>
  bnd (pLoad Tryz.prog 97 x28 h) fun x29 =>
  bnd (callV inv x29 #[x7] h) fun x31 =>
  bnd (pFieldAddr Tryz.prog 103 x2 1) fun x32 =>
  bnd (pLoad Tryz.prog 97 x32 x31.2) fun x33 =>
  bnd (callV inv x33 #[x8] x31.2) fun x35 =>
  bnd (kSt (pStore Tryz.prog 31 x4 x31.1 x35.2)) fun u =>
  bnd (kSt (pStore Tryz.prog 31 x5 x35.1 u.2)) fun u_3 =>
  chkK ((!true || !true || (sameO (pLoad Tryz.prog 97 x32 h) x33 && sameO (pLoad Tryz.prog 97 x32 x31.2) x33)) && true) <|
  K u_3.2
/-- (shadowbook/segment.codec[string]).ends -/
noncomputable def F223 (inv : Inv) (k : Nat) (x0 x1 : Value) (h : AH) : Option (Value × AH) :=
  bnd (pBox Tryz.prog 103 x0 h) fun x2 =>
  bnd (pAlloc Tryz.prog 31 x2.2) fun x4 =>
  bnd (pAlloc Tryz.prog 31 x4.2) fun x5 =>
  bnd (pFieldAddr Tryz.prog 103 x2.1 3) fun x10 =>
  bnd (pLoad Tryz.prog 99 x10 x5.2) fun x11 =>
  bnd (callV inv x11 #[x1] x5.2) fun x13 =>
  bnd (pExtract x13.1 0) fun x14 =>
  bnd (pExtract x13.1 1) fun x15 =>
  bnd (pBin Tryz.prog .neq 25 (.tmp 16) (.const (.int .i64 0)) x15 (.int .i64 0)) fun x17 =>
  brV x17
  (bnd (pLoad Tryz.prog 31 x4.1 x13.2) fun x18 =>
  bnd (pLoad Tryz.prog 31 x5.1 x13.2) fun x19 =>
  bnd (kSt (pStore Tryz.prog 31 x4.1 x18 x13.2)) fun u =>
  bnd (kSt (pStore Tryz.prog 31 x5.1 x19 u.2)) fun u_2 =>
  chkK ((!true || !true || (sameO (pLoad Tryz.prog 31 x5.1 x13.2) x19 && sameO (pLoad Tryz.prog 31 x5.1 u.2) x19)) && true) <|
  bnd (pLoad Tryz.prog 31 x4.1 u_2.2) fun q0 =>
  bnd (pLoad Tryz.prog 31 x5.1 u_2.2) fun q1 =>
  some (.tuple #[q0,q1,x15],u_2.2))
  (bnd (pFieldAddr Tryz.prog 103 x2.1 3) fun x22 =>
  bnd (pLoad Tryz.prog 99 x22 x13.2) fun x23 =>
  bnd (callV inv x23 #[x1] x13.2) fun x25 =>
  bnd (pExtract x25.1 0) fun x26 =>
  bnd (pExtract x25.1 1) fun x27 =>
  G223_5 inv x2.1 x4.1 x5.1 x27 x14 x26 x25.2 fun  h =>
  bnd (pLoad Tryz.prog 31 x4.1 h) fun q0 =>
  bnd (pLoad Tryz.prog 31 x5.1 h) fun q1 =>
  some (.tuple #[q0,q1,x27],h))
theorem F223_eq : eFun env k inv 223 #[x0,x1] h = F223 inv k x0 x1 h:=ks_fun (n:=37) []
theorem F223_call : eInv env (k + 1) (.func 223) #[] #[x0,x1] h = F223 (eInv env k) k x0 x1 h:=kq_inv F223_eq
noncomputable abbrev G224_1 {β : Type} (inv : Inv) (x1 x3 x5 : Value) (h : AH) (K : Value→AH→Option β) : Option β :=
  bnd (pFieldAddr Tryz.prog 103 x3 2) fun x7 =>
  bnd (pLoad Tryz.prog 98 x7 h) fun x8 =>
  bnd (pFieldAddr Tryz.prog 103 x3 2) fun x9 =>
  bnd (pLoad Tryz.prog 98 x9 h) fun x10 =>
  bnd (pFieldAddr Tryz.prog 103 x3 0) fun x12 =>
  bnd (pLoad Tryz.prog 96 x12 h) fun x13 =>
  bnd (pFieldAddr Tryz.prog 38 x5 2) fun x14 =>
  bnd (pLoad Tryz.prog 31 x14 h) fun x15 =>
  bnd (callV inv x13 #[x15] h) fun x16 =>
  bnd (callV inv x10 #[x1,x16.1] x16.2) fun x17 =>
  bnd (pFieldAddr Tryz.prog 103 x3 0) fun x18 =>
  bnd (pLoad Tryz.prog 96 x18 x17.2) fun x19 =>
  bnd (pFieldAddr Tryz.prog 38 x5 3) fun x20 =>
  bnd (pLoad Tryz.prog 31 x20 x17.2) fun x21 =>
  bnd (callV inv x19 #[x21] x17.2) fun x22 =>
  bnd (callV inv x8 #[x17.1,x22.1] x22.2) fun x23 =>
  chkK ((!true || !true || (sameO (pLoad Tryz.prog 98 x7 h) x8 && sameO (pLoad Tryz.prog 98 x7 x16.2) x8)) && ((!true || !true || (sameO (pLoad Tryz.prog 98 x7 x16.2) x8 && sameO (pLoad Tryz.prog 98 x7 x17.2) x8)) && ((!true || !true || (sameO (pLoad Tryz.prog 98 x7 x17.2) x8 && sameO (pLoad Tryz.prog 98 x7 x22.2) x8)) && ((!true || !true || (sameO (pLoad Tryz.prog 98 x9 h) x10 && sameO (pLoad Tryz.prog 98 x9 x16.2) x10)) && ((!true || !true || (sameO (pLoad Tryz.prog 96 x18 h) x19 && sameO (pLoad Tryz.prog 96 x18 x16.2) x19)) && ((!true || !true || (sameO (pLoad Tryz.prog 96 x18 x16.2) x19 && sameO (pLoad Tryz.prog 96 x18 x17.2) x19)) && ((!true || !true || (sameO (pLoad Tryz.prog 31 x20 h) x21 && sameO (pLoad Tryz.prog 31 x20 x16.2) x21)) && ((!true || !true || (sameO (pLoad Tryz.prog 31 x20 x16.2) x21 && sameO (pLoad Tryz.prog 31 x20 x17.2) x21)) && true)))))))) <|
  K (x23.1) x23.2
/-- (shadowbook/segment.codec[string]).zone -/
noncomputable def F224 (inv : Inv) (k : Nat) (x0 x1 x2 : Value) (h : AH) : Option (Value × AH) :=
  bnd (pBox Tryz.prog 103 x0 h) fun x3 =>
  bnd (pBox Tryz.prog 38 x2 x3.2) fun x5 =>
  G224_1 inv x1 x3.1 x5.1 x5.2 fun y6 h =>
  some (y6,h)
theorem F224_eq : eFun env k inv 224 #[x0,x1,x2] h = F224 inv k x0 x1 x2 h:=ks_fun (n:=24) []
theorem F224_call : eInv env (k + 1) (.func 224) #[] #[x0,x1,x2] h = F224 (eInv env k) k x0 x1 x2 h:=kq_inv F224_eq
end Go.Proofs.YtghelamfaaakcaaGreat.Sh
