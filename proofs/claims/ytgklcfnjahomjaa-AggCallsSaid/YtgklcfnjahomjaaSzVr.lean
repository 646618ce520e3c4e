/- Rows of one's own: copies of rows. -/
import Derived.Test.YtgklcfnjahomjaaSzVm
set_option linter.unusedVariables false
set_option linter.unusedSimpArgs false
set_option maxRecDepth 100000
namespace Go.Proofs.Ev
open Go Go.RowKit
section
variable {P : Program} {n0 : Nat} {h0 h : AH} {L : List (Nat × AO)} {O O' : List OS}
theorem apart_iff {O : List OS} : (∀ (i j : Nat) (x y : OS) (b : Nat),O[i]? = some x→O[j]? = some y→blkOf x.1 = some b→blkOf y.1 = some b→i = j) ↔ O.Pairwise fun x y=>∀ b,blkOf x.1 = some b→¬ blkOf y.1 = some b:=by
 rw [List.pairwise_iff_getElem]
 constructor
 ·intro H i j hi hj hij b h1 h2
  have:=H i j _ _ b (List.getElem?_eq_getElem hi) (List.getElem?_eq_getElem hj) h1 h2
  omega
 ·intro H i j x y b hi hj h1 h2
  obtain ⟨l1,rfl⟩:=List.getElem?_eq_some_iff.1 hi
  obtain ⟨l2,rfl⟩:=List.getElem?_eq_some_iff.1 hj
  rcases Nat.lt_trichotomy i j with q | q | q
  ·exact (H i j l1 l2 q b h1 h2).elim
  ·exact q
  ·exact (H j i l2 l1 q b h2 h1).elim
/-- One's own slices in another order. -/
theorem Stt.permO (S : Stt P n0 h0 h L O) (hp : O.Perm O') : Stt P n0 h0 h L O' :=
 ⟨S.sta,fun o ho=>S.own o (hp.mem_iff.2 ho),apart_iff.2 ((hp.pairwise_iff fun q b h1 h2=>q b h2 h1).1 (apart_iff.1 S.apart))⟩
theorem Stt.subO (S : Stt P n0 h0 h L O) (hs : O'.Sublist O) : Stt P n0 h0 h L O' :=
 ⟨S.sta,fun o ho=>S.own o (hs.subset ho),apart_iff.2 ((apart_iff.1 S.apart).sublist hs)⟩
end
end Go.Proofs.Ev
namespace Go.Proofs.Ytgklcfnjahomjaa.Sh
open Go Go.RowKit Go.Proofs.Ev
theorem bzVr : type_of% (And.intro @ld3 (And.intro @ld34 (And.intro @ld37 (And.intro @ld23 (@Nat.add_zero))))):=And.intro @ld3 (And.intro @ld34 (And.intro @ld37 (And.intro @ld23 (@Nat.add_zero))))
/-- Rows with the slices that hold them. -/
abbrev RS:=List (Value × List CellD)
def outs (rs : RS) : List (List Value):=rs.map fun p=>[p.1]
def owns (rs : RS) : List OS:=rs.map fun p=>(p.1,3,p.2.map crow)
def rowsOf (rs : RS) : List (List CellD):=rs.map (·.2)
theorem outs_len (rs : RS) : (outs rs).length = rs.length:=List.length_map ..
theorem rowsOf_len (rs : RS) : (rowsOf rs).length = rs.length:=List.length_map ..
theorem all2_map {α γ : Type} {R : α→γ→Prop} : ∀ {l : List (α × γ)},(∀ p ∈ l,R p.1 p.2)→All2 R (l.map (·.1)) (l.map (·.2))
 | [],_=>trivial
 | p :: l,h=>⟨h p (List.mem_cons_self ..),all2_map fun q hq=>h q (List.mem_cons_of_mem _ hq)⟩
section
variable {n0 : Nat} {h0 h : AH} {L : List (Nat × AO)} {O : List OS} {v : Value} {rs : RS}
theorem ownRow (S : Stt Try.prog n0 h0 h L O) {w : Value} {r : List CellD} (hm : (w,3,r.map crow) ∈ O) : Cells h w r:=by
 obtain ⟨i,hi⟩:=List.mem_iff_getElem?.1 hm
 exact (S.slV i hi).z
theorem rows_out (S : Stt Try.prog n0 h0 h L (owns rs ++ O)) (hv : SlV Try.prog h v 1 (outs rs)) : Rows h v (rowsOf rs):=by
 refine ⟨rs.map (·.1),?_,all2_map fun p hp=>ownRow S (List.mem_append.2 (.inl (List.mem_map.2 ⟨p,hp,rfl⟩)))⟩
 rw [List.map_map]
 exact hv.z
theorem rowsOut (S : Stt Try.prog n0 h0 h L ((v,1,outs rs) :: (owns rs ++ O))) : Rows h v (rowsOf rs):=rows_out S.dropO (S.slV 0 rfl)
end
theorem nlC {x y : Operand} : pBin Try.prog .eql 34 x y (.slice none 0 0) (.slice none 0 0) = some (.bool true):=by kernel_rfl
theorem slC {x y : Operand} {a : Addr} {n c : Nat} : pBin Try.prog .eql 34 x y (.slice (some a) n c) (.slice none 0 0) = some (.bool false):=by kernel_rfl
theorem bsC0 (h : AH) : pBuildSlice Try.prog 34 0 #[] h = some (.slice (some ⟨h.n,0,none⟩) 0 0,h.alloc (.cells [] 37 true)):=by kernel_rfl
theorem appC : AppT Try.prog #[34,34] 37 3 32:=⟨by kernel_rfl,⟨37,by kernel_rfl⟩,by kernel_rfl,by omega,by kernel_rfl,⟨_,ze37,rfl,rfl⟩⟩
theorem one_crows : ∀ l : List CellD,(l.map crow).flatten.all oneCell = true
 | []=>rfl
 | a :: l=>by
  rw [List.map_cons,List.flatten_cons,List.all_append,one_crows l]
  rfl
theorem sttE {n0 : Nat} {h0 h : AH} {L : List (Nat × AO)} {O : List OS} (S : Stt Try.prog n0 h0 h L O) : Stt Try.prog n0 h0 (h.alloc (.cells [] 37 true)) L ((.slice (some ⟨h.n,0,none⟩) 0 0,3,[]) :: O):=by
 have X : OwnB Try.prog h.n (h.alloc (.cells [] 37 true)) (.slice (some ⟨h.n,0,none⟩) 0 0) 3 [] :=
  .inr ⟨h.n,Nat.le_refl _,⟨rfl,⟨⟨[],37,AH.get_alloc_new _ _,fun hq=>absurd rfl hq⟩,fun r hr=>by cases hr⟩,szOk_of (AH.get_alloc_new _ _) sz37⟩⟩
 exact S.gain (Grow.alloc h _) X
theorem f51c {k : Nat} {n0 : Nat} {h0 h : AH} {L : List (Nat × AO)} {O : List OS} {v : Value} {l : List CellD} (S : Stt Try.prog n0 h0 h L O) (B : Cells h v l) (hl : l.length ≤ 2 ^ 30) :
  Tl (eInv env (k + 1) (.func 51) #[] #[v] h) fun r=>Stt Try.prog n0 h0 r.2 L ((r.1,3,l.map crow) :: O):=by
 rw [F51_call]
 unfold F51
 by_cases q : v = .slice none 0 0
 ·subst q
  have e : l = []:=by
   obtain ⟨a,c,e,_⟩:=SlZ.form B
   cases l with
   | nil=>rfl
   | cons x l=>simp at e
  repeat (first | (with_reducible apply qzV; simp (disch:=omega) only [coreA,Int.reduceBEq,bzVr,nlC] <;> with_reducible rfl) | (with_reducible first | apply qzT | apply qzF | apply qzG | apply qzH) | ((with_reducible first | apply qzB | apply qzC | apply qzD); simp (disch:=omega) only [coreA,Int.reduceBEq,bzVr,nlC] <;> with_reducible rfl))
  rw [e]
  exact ⟨_,rfl,S.nil 3⟩
 ·have hv : ∃ a n c,v = .slice (some a) n c:=by
   rcases B with (⟨e,_⟩ | ⟨b,off,cap,own,e,_⟩) | ⟨_,a,e⟩
   ·exact absurd e q
   ·exact ⟨_,_,_,e⟩
   ·exact ⟨_,_,_,e⟩
  obtain ⟨a,n,c,rfl⟩:=hv
  obtain ⟨v',h',e1,e2⟩:=(sttE S).appendZ 0 rfl appC (SlZ.grow B (Grow.alloc h _)) (by simp; omega) (one_crows l)
  repeat (first | (with_reducible apply qzV; simp (disch:=omega) only [coreA,Int.reduceBEq,bzVr,slC,bsC0,e1] <;> with_reducible rfl) | (with_reducible first | apply qzT | apply qzF | apply qzG | apply qzH) | ((with_reducible first | apply qzB | apply qzC | apply qzD); simp (disch:=omega) only [coreA,Int.reduceBEq,bzVr,slC,bsC0,e1] <;> with_reducible rfl))
  exact ⟨_,rfl,e2⟩
end Go.Proofs.Ytgklcfnjahomjaa.Sh
