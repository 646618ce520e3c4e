/- The document's comparison of cells; rows of rows, which of them are light. -/
import Derived.Test.YtgklcfnjahomjaaSzVf
set_option linter.unusedVariables false
set_option linter.unusedSimpArgs false
set_option maxRecDepth 100000
namespace Go.Proofs.Ytgklcfnjahomjaa.Sh
open Go Go.RowKit Go.Proofs.Ev Go.Lib
theorem bzVm : type_of% (And.intro @ld3 (And.intro @ld2 (And.intro @ld9 (And.intro @ld37 (And.intro @ld34 (And.intro @fa37_0 (And.intro @fa37_1 (And.intro @fa37_2 (@Nat.add_zero))))))))):=And.intro @ld3 (And.intro @ld2 (And.intro @ld9 (And.intro @ld37 (And.intro @ld34 (And.intro @fa37_0 (And.intro @fa37_1 (And.intro @fa37_2 (@Nat.add_zero))))))))
theorem bytesLess_cmp : ∀ a b : List UInt8,Op.bytesLess a b = decide (compareBytes a b < 0)
 | [],[]=>rfl
 | [],_ :: _=>rfl
 | _ :: _,[]=>rfl
 | a :: x,b :: y=>by
  unfold Op.bytesLess compareBytes
  by_cases h1 : a < b
  ·simp [h1]
  ·by_cases h2 : b < a
   ·have : (a == b) = false:=by
     rw [beq_eq_false_iff_ne]
     rintro rfl
     exact absurd h2 h1
    simp [h1,h2,this]
   ·have : (a == b) = true:=by
     rw [beq_iff_eq]
     rw [UInt8.lt_iff_toNat_lt] at h1 h2
     exact UInt8.toNat_inj.1 (by omega)
    simp [h1,h2,this,bytesLess_cmp x y]
theorem str_lss {x y : Operand} {a b : ByteArray} : pBin Try.prog .lss 9 x y (.string a) (.string b) = some (.bool (decide (compareBytes a.data.toList b.data.toList < 0))):=by
 have h1 : pBin Try.prog .lss 9 x y (.string a) (.string b) = some (.bool (Op.bytesLess a.toList b.toList)):=rfl
 rw [h1,ByteArray.toList_eq,ByteArray.toList_eq,bytesLess_cmp]
theorem str_gtr {x y : Operand} {a b : ByteArray} : pBin Try.prog .gtr 9 x y (.string a) (.string b) = some (.bool (decide (compareBytes a.data.toList b.data.toList > 0))):=by
 have h1 : pBin Try.prog .gtr 9 x y (.string a) (.string b) = some (.bool (!(Op.bytesLess a.toList b.toList || (a.toList == b.toList)))):=rfl
 rw [h1,ByteArray.toList_eq,ByteArray.toList_eq,bytesLess_cmp]
 congr 2
 have h2:=cb_zero a.data.toList b.data.toList
 rcases cb_range a.data.toList b.data.toList with q | q | q
 ·have : ¬ a.data.toList = b.data.toList:=fun h=>by rw [h2.2 h] at q; omega
  simp [q]
 ·have:=h2.1 q
  rw [this] at q ⊢
  simp [q]
 ·have : ¬ a.data.toList = b.data.toList:=fun h=>by rw [h2.2 h] at q; omega
  have e : (a.data.toList == b.data.toList) = false:=by simpa using this
  rw [e,q]
  rfl
theorem f35e {k : Nat} (a b : Bool) (h : AH) : eInv env (k + 1) (.func 35) #[] #[.bool a,.bool b] h = some (.int .i64 (if a then -1 else if b then 1 else 0),h):=by
 rw [F35_call]
 unfold F35
 cases a <;> cases b <;> rfl
theorem f14c {k : Nat} (a b : CellD) (h : AH) : Tl (eInv env (k + 2) (.func 14) #[] #[a.v,b.v] h) fun r=>r.1 = .int .i64 (a.cmp b) ∧ Grow h r.2:=by
 rw [F14_call]
 unfold F14
 refine Tl.box' (Stt.init h) rfl (by rw [sz37]; rfl) fun b1 h1 S1 _=>?_
 refine Tl.box' S1 rfl (by rw [sz37]; rfl) fun b2 h2 S2 _=>?_
 have a0 : h2.cell b1 0 = some (.int .i64 a.k):=S2.cell 1 rfl rfl
 have a1 : h2.cell b1 1 = some (.int .i64 a.i):=S2.cell 1 rfl rfl
 have a2 : h2.cell b1 2 = some (.string a.s):=S2.cell 1 rfl rfl
 have c0 : h2.cell b2 0 = some (.int .i64 b.k):=S2.cell 0 rfl rfl
 have c1 : h2.cell b2 1 = some (.int .i64 b.i):=S2.cell 0 rfl rfl
 have c2 : h2.cell b2 2 = some (.string b.s):=S2.cell 0 rfl rfl
 have hs : ∀ x y h,eInv env (k + 1) (.func 35) #[] #[.bool x,.bool y] h = some (.int .i64 (if x then -1 else if y then 1 else 0),h):=fun x y h=>f35e x y h
 unfold CellD.cmp cmpI orI
 by_cases k1 : a.k < b.k
 ·rw [if_pos k1,if_neg (by omega)]
  repeat (first | (with_reducible apply qzV; simp (disch:=omega) only [coreA,Int.reduceBEq,bzVm,a0,c0,hs] <;> with_reducible rfl) | (with_reducible first | apply qzT | apply qzF | apply qzG | apply qzH) | ((with_reducible first | apply qzB | apply qzC | apply qzD); simp (disch:=omega) only [coreA,Int.reduceBEq,bzVm,a0,c0,hs] <;> with_reducible rfl))
  exact ⟨_,rfl,rfl,S2.grow⟩
 ·by_cases k2 : b.k < a.k
  ·rw [if_neg k1,if_pos k2,if_neg (by omega)]
   repeat (first | (with_reducible apply qzV; simp (disch:=omega) only [coreA,Int.reduceBEq,bzVm,a0,c0,hs] <;> with_reducible rfl) | (with_reducible first | apply qzT | apply qzF | apply qzG | apply qzH) | ((with_reducible first | apply qzB | apply qzC | apply qzD); simp (disch:=omega) only [coreA,Int.reduceBEq,bzVm,a0,c0,hs] <;> with_reducible rfl))
   exact ⟨_,rfl,rfl,S2.grow⟩
  ·rw [if_neg k1,if_neg k2,if_pos rfl]
   by_cases i1 : a.i < b.i
   ·rw [if_pos i1,if_neg (by omega)]
    repeat (first | (with_reducible apply qzV; simp (disch:=omega) only [coreA,Int.reduceBEq,bzVm,a0,c0,a1,c1,hs] <;> with_reducible rfl) | (with_reducible first | apply qzT | apply qzF | apply qzG | apply qzH) | ((with_reducible first | apply qzB | apply qzC | apply qzD); simp (disch:=omega) only [coreA,Int.reduceBEq,bzVm,a0,c0,a1,c1,hs] <;> with_reducible rfl))
    exact ⟨_,rfl,rfl,S2.grow⟩
   ·by_cases i2 : b.i < a.i
    ·rw [if_neg i1,if_pos i2,if_neg (by omega)]
     repeat (first | (with_reducible apply qzV; simp (disch:=omega) only [coreA,Int.reduceBEq,bzVm,a0,c0,a1,c1,hs] <;> with_reducible rfl) | (with_reducible first | apply qzT | apply qzF | apply qzG | apply qzH) | ((with_reducible first | apply qzB | apply qzC | apply qzD); simp (disch:=omega) only [coreA,Int.reduceBEq,bzVm,a0,c0,a1,c1,hs] <;> with_reducible rfl))
     exact ⟨_,rfl,rfl,S2.grow⟩
    ·rw [if_neg i1,if_neg i2,if_pos rfl]
     unfold CellD.bytes
     rcases cb_range a.s.data.toList b.s.data.toList with q | q | q
     ·rw [q]
      repeat (first | (with_reducible apply qzV; simp (disch:=omega) only [coreA,Int.reduceBEq,bzVm,a0,c0,a1,c1,a2,c2,hs,str_lss,str_gtr,q] <;> with_reducible rfl) | (with_reducible first | apply qzT | apply qzF | apply qzG | apply qzH) | ((with_reducible first | apply qzB | apply qzC | apply qzD); simp (disch:=omega) only [coreA,Int.reduceBEq,bzVm,a0,c0,a1,c1,a2,c2,hs,str_lss,str_gtr,q] <;> with_reducible rfl))
      exact ⟨_,rfl,rfl,S2.grow⟩
     ·rw [q]
      repeat (first | (with_reducible apply qzV; simp (disch:=omega) only [coreA,Int.reduceBEq,bzVm,a0,c0,a1,c1,a2,c2,hs,str_lss,str_gtr,q] <;> with_reducible rfl) | (with_reducible first | apply qzT | apply qzF | apply qzG | apply qzH) | ((with_reducible first | apply qzB | apply qzC | apply qzD); simp (disch:=omega) only [coreA,Int.reduceBEq,bzVm,a0,c0,a1,c1,a2,c2,hs,str_lss,str_gtr,q] <;> with_reducible rfl))
      exact ⟨_,rfl,rfl,S2.grow⟩
     ·rw [q]
      repeat (first | (with_reducible apply qzV; simp (disch:=omega) only [coreA,Int.reduceBEq,bzVm,a0,c0,a1,c1,a2,c2,hs,str_lss,str_gtr,q] <;> with_reducible rfl) | (with_reducible first | apply qzT | apply qzF | apply qzG | apply qzH) | ((with_reducible first | apply qzB | apply qzC | apply qzD); simp (disch:=omega) only [coreA,Int.reduceBEq,bzVm,a0,c0,a1,c1,a2,c2,hs,str_lss,str_gtr,q] <;> with_reducible rfl))
      exact ⟨_,rfl,rfl,S2.grow⟩
/-- Rows of rows. -/
def Rows (h : AH) (v : Value) (l : List (List CellD)) : Prop:=∃ vs : List Value,SlZ Try.prog h v 1 (vs.map fun v=>[v]) ∧ All2 (Cells h) vs l
theorem Rows.grow {h h' : AH} {v : Value} {l : List (List CellD)} (S : Rows h v l) (g : Grow h h') : Rows h' v l:=by
 obtain ⟨vs,X,A⟩:=S
 exact ⟨vs,X.grow g,A.mono fun _ _ h=>h.grow g⟩
theorem Rows.len {h h' : AH} {v : Value} {l : List (List CellD)} (S : Rows h v l) : pLen Try.prog #[23] v h' = some (.int .i64 l.length):=by
 obtain ⟨vs,X,A⟩:=S
 have:=X.len u23 (h':=h')
 rwa [List.length_map,A.len] at this
theorem Rows.at_ {h : AH} {v : Value} {l : List (List CellD)} (S : Rows h v l) {i : Nat} {x : List CellD} (hi : l[i]? = some x) :
  ∃ b o w,pIndexAddr Try.prog 23 v (.int .i64 i) = some (.pointer (some ⟨b,o,none⟩)) ∧ h.cell b o = some w ∧ Cells h w x:=by
 obtain ⟨vs,X,A⟩:=S
 obtain ⟨w,hw,C⟩:=A.get hi
 obtain ⟨b,o,h1,h2⟩:=X.at_ (k:=.i64) (i:=i) (r:=[w]) (by simp [hw]) u23 sz34
 exact ⟨b,o,w,h1,by simpa using Ev.cell_of_row (j:=0) h2 (by omega),C⟩
def lightRs (l : List (List CellD)) (most : Int) : Bool:=l.all lightR && decide ((l.length : Int) ≤ most)
theorem f34_loop {β : Type} {k : Nat} {Q : β→Prop} {h : AH} {v m : Value} {l : List (List CellD)} (S : Rows h v l) (hl : l.length ≤ 9223372036854775807) (hls : ∀ r ∈ l,r.length ≤ 9223372036854775807 ∧ r.length < k) {ke0 : Value→Value→Value→Value→AH→Option β} {kr : Value→AH→Option β} (n : Nat) :
  ∀ {i j : Nat},i + n = l.length→n < j→((l.drop i).all lightR = true→∀ y1 y2,Tl (ke0 v m y1 y2 h) Q)→((l.drop i).all lightR = false→Tl (kr (.bool false) h) Q) →
   Tl (F34_lrlr (eInv env (k + 1)) (k + 1) j v m (.int .i64 i) h ke0 kr) Q:=by
 have hv : ∀ h',pLen Try.prog #[23] v h' = some (.int .i64 l.length):=fun h'=>S.len
 induction n with
 | zero =>
  intro i j hi hj hk hr
  obtain ⟨j,rfl⟩ : ∃ q,j = q + 1:=⟨j - 1,by omega⟩
  simp only [F34_lrlr]
  repeat (first | (with_reducible apply qzV; simp (disch:=omega) only [coreA,Int.reduceBEq,bzVm,hv] <;> with_reducible rfl) | (with_reducible first | apply qzT | apply qzF | apply qzG | apply qzH) | ((with_reducible first | apply qzB | apply qzC | apply qzD); simp (disch:=omega) only [coreA,Int.reduceBEq,bzVm,hv] <;> with_reducible rfl))
  exact hk (by rw [List.drop_eq_nil_of_le (by omega)]; rfl) _ _
 | succ n ih =>
  intro i j hi hj hk hr
  obtain ⟨j,rfl⟩ : ∃ q,j = q + 1:=⟨j - 1,by omega⟩
  obtain ⟨x,ex⟩ : ∃ x,l[i]? = some x:=⟨_,List.getElem?_eq_getElem (by omega)⟩
  obtain ⟨b,o,w,hp,hc,C⟩:=S.at_ ex
  obtain ⟨m1,m2⟩:=hls x (List.mem_of_getElem? ex)
  have hlr:=f56c (k:=k) C m1 m2
  have e : (i : Int) + 1 = ((i + 1 : Nat) : Int):=by omega
  rw [drop_at ex,List.all_cons] at hk hr
  simp only [F34_lrlr]
  cases q : lightR x with
  | true =>
   rw [q] at hlr
   rw [q,Bool.true_and] at hk hr
   repeat (first | (with_reducible apply qzV; simp (disch:=omega) only [coreA,Int.reduceBEq,bzVm,hv,hp,hc,hlr] <;> with_reducible rfl) | (with_reducible first | apply qzT | apply qzF | apply qzG | apply qzH) | ((with_reducible first | apply qzB | apply qzC | apply qzD); simp (disch:=omega) only [coreA,Int.reduceBEq,bzVm,hv,hp,hc,hlr] <;> with_reducible rfl))
   rw [e]
   exact ih (by omega) (by omega) hk hr
  | false =>
   rw [q] at hlr
   rw [q,Bool.false_and] at hr
   repeat (first | (with_reducible apply qzV; simp (disch:=omega) only [coreA,Int.reduceBEq,bzVm,hv,hp,hc,hlr] <;> with_reducible rfl) | (with_reducible first | apply qzT | apply qzF | apply qzG | apply qzH) | ((with_reducible first | apply qzB | apply qzC | apply qzD); simp (disch:=omega) only [coreA,Int.reduceBEq,bzVm,hv,hp,hc,hlr] <;> with_reducible rfl))
   exact hr rfl
theorem f34c {k : Nat} {h : AH} {v : Value} {l : List (List CellD)} (most : Int) (S : Rows h v l) (hl : l.length ≤ 9223372036854775807) (hls : ∀ r ∈ l,r.length ≤ 9223372036854775807 ∧ r.length < k) (hk : l.length < k + 1) : eInv env (k + 2) (.func 34) #[] #[v,.int .i64 most] h = some (.bool (lightRs l most),h):=by
 rw [F34_call]
 have T : Tl (F34 (eInv env (k + 1)) (k + 1) v (.int .i64 most) h) fun r=>r = (.bool (lightRs l most),h):=by
  unfold F34
  have hv : ∀ h',pLen Try.prog #[23] v h' = some (.int .i64 l.length):=fun h'=>S.len
  refine f34_loop S hl hls l.length (i:=0) (by omega) hk (fun q y1 y2=>?_) fun q=>⟨_,rfl,?_⟩
  ·rw [List.drop_zero] at q
   repeat (first | (with_reducible apply qzV; simp (disch:=omega) only [coreA,Int.reduceBEq,bzVm,hv] <;> with_reducible rfl) | (with_reducible first | apply qzT | apply qzF | apply qzG | apply qzH) | ((with_reducible first | apply qzB | apply qzC | apply qzD); simp (disch:=omega) only [coreA,Int.reduceBEq,bzVm,hv] <;> with_reducible rfl))
   refine ⟨_,rfl,?_⟩
   unfold lightRs
   rw [q,Bool.true_and]
  ·rw [List.drop_zero] at q
   unfold lightRs
   rw [q,Bool.false_and]
 obtain ⟨r,h1,h2⟩:=T
 rw [h1,h2]
end Go.Proofs.Ytgklcfnjahomjaa.Sh
