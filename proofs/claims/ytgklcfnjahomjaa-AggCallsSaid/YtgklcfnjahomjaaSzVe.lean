/- What 'pred.Join' comes to. -/
import Derived.Test.YtgklcfnjahomjaaSzVf
set_option linter.unusedVariables false
set_option linter.unusedSimpArgs false
set_option maxRecDepth 100000
namespace Go.Proofs.Ytgklcfnjahomjaa.Sh
open Go Go.RowKit Go.Proofs.Ev
theorem bzVe : type_of% (And.intro @ld3 (And.intro @ld24 (@Nat.add_zero))):=And.intro @ld3 (And.intro @ld24 (@Nat.add_zero))
theorem nlI {x y : Operand} : pBin Try.prog .eql 24 x y (.slice none 0 0) (.slice none 0 0) = some (.bool true):=by kernel_rfl
theorem slI {x y : Operand} {a : Addr} {n c : Nat} : pBin Try.prog .eql 24 x y (.slice (some a) n c) (.slice none 0 0) = some (.bool false):=by kernel_rfl
theorem bsI (h : AH) : pBuildSlice Try.prog 24 0 #[] h = some (.slice (some ⟨h.n,0,none⟩) 0 0,h.alloc (.cells [] 3 true)):=by kernel_rfl
theorem one_irows (l : List Int) : (irows l).flatten.all oneCell = true:=flat_one (fun x : Int=>.int .i64 x) (fun _=>rfl) l
theorem f37c {k : Nat} {n0 : Nat} {h0 h : AH} {L : List (Nat × AO)} {O : List OS} {v : Value} {l : List Int} (S : Stt Try.prog n0 h0 h L O) (B : IntsZ h v l) (hl : l.length ≤ 2 ^ 30) :
  Tl (eInv env (k + 1) (.func 37) #[] #[v] h) fun r=>Stt Try.prog n0 h0 r.2 L ((r.1,1,irows l) :: O):=by
 rw [F37_call]
 unfold F37
 have X : OwnB Try.prog h.n (h.alloc (.cells [] 3 true)) (.slice (some ⟨h.n,0,none⟩) 0 0) 1 [] :=
  .inr ⟨h.n,Nat.le_refl _,⟨rfl,⟨⟨[],3,AH.get_alloc_new _ _,fun hq=>absurd rfl hq⟩,fun r hr=>by cases hr⟩,szOk_of (AH.get_alloc_new _ _) sz3⟩⟩
 have S1:=S.gain (Grow.alloc h _) X
 rcases B with B | ⟨hn,a,rfl⟩
 ·by_cases q : v = .slice none 0 0
  ·subst q
   rcases B with ⟨_,e⟩ | ⟨b,off,cap,own,e,_⟩
   ·repeat (first | (with_reducible apply qzV; simp (disch:=omega) only [coreA,Int.reduceBEq,bzVe,nlI] <;> with_reducible rfl) | (with_reducible first | apply qzT | apply qzF | apply qzG | apply qzH) | ((with_reducible first | apply qzB | apply qzC | apply qzD); simp (disch:=omega) only [coreA,Int.reduceBEq,bzVe,nlI] <;> with_reducible rfl))
    rw [e]
    exact ⟨_,rfl,S.nil 1⟩
   ·cases e
  ·obtain ⟨v',h',e1,e2,e3,e4⟩:=S1.append 0 rfl app24 (SlV.grow B (Grow.alloc h _)) (by rw [irows_len]; simp; omega) (one_irows l)
   rcases B with ⟨e,_⟩ | ⟨b,off,cap,own,e,_⟩
   ·exact absurd e q
   ·subst e
    repeat (first | (with_reducible apply qzV; simp (disch:=omega) only [coreA,Int.reduceBEq,bzVe,slI,bsI,e1] <;> with_reducible rfl) | (with_reducible first | apply qzT | apply qzF | apply qzG | apply qzH) | ((with_reducible first | apply qzB | apply qzC | apply qzD); simp (disch:=omega) only [coreA,Int.reduceBEq,bzVe,slI,bsI,e1] <;> with_reducible rfl))
    exact ⟨_,rfl,e2⟩
 ·have e1 : pAppend Try.prog #[24,24] (.slice (some ⟨h.n,0,none⟩) 0 0) (.slice (some a) 0 0) (h.alloc (.cells [] 3 true)) = some (.slice (some ⟨h.n,0,none⟩) 0 0,h.alloc (.cells [] 3 true)):=by
   have T:=app24
   obtain ⟨z,hz,_,_⟩:=T.zero
   obtain ⟨e2,he'⟩:=T.other
   unfold pAppend
   rw [T.elem,he']
   simp only [isIntT_slice,Bool.false_eq_true,if_false,T.size,T.byt,lenE,hz]
   simp [cellsOf]
  repeat (first | (with_reducible apply qzV; simp (disch:=omega) only [coreA,Int.reduceBEq,bzVe,slI,bsI,e1] <;> with_reducible rfl) | (with_reducible first | apply qzT | apply qzF | apply qzG | apply qzH) | ((with_reducible first | apply qzB | apply qzC | apply qzD); simp (disch:=omega) only [coreA,Int.reduceBEq,bzVe,slI,bsI,e1] <;> with_reducible rfl))
  rw [hn]
  exact ⟨_,rfl,S1⟩
/-- A row whose parts lie in blocks that are known. -/
def NodeF (Fz : List (Nat × AO)) (r : List Value) (nd : NodeD) : Prop:=∃ pv,r = nrow nd pv ∧ ∀ h',Mem h' Fz→IntsZ h' pv nd.parts
theorem NodeF.more {F Fz : List (Nat × AO)} {r : List Value} {nd : NodeD} (h : NodeF Fz r nd) : NodeF (F ++ Fz) r nd:=by
 obtain ⟨pv,e,hp⟩:=h
 exact ⟨pv,e,fun h' hm=>hp h' (Mem.app.1 hm).2⟩
end Go.Proofs.Ytgklcfnjahomjaa.Sh
