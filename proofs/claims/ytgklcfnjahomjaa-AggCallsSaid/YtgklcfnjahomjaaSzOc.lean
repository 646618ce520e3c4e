/- What the functions of the octet's package come to, in the state of their caller. -/
import Derived.Test.YtgklcfnjahomjaaSzF
import Derived.Test.YtgklcfnjahomjaaSzT
import Derived.Test.YtgklcfnjahomjaaOctM
import Derived.Test.YtgklcfnjahomjaaEvC
set_option linter.unusedVariables false
set_option linter.unusedSimpArgs false
set_option maxRecDepth 100000
namespace Go.Proofs.Ytgklcfnjahomjaa.Sh
open Go Go.RowKit Go.Proofs.Ev
def u8v (x : Nat) : Value:=.int .u8 (x : Int)
def ptr (b : Nat) : Value:=.pointer (some ⟨b,0,none⟩)
def Bytes (h : AH) (v : Value) (l : List Nat) : Prop:=Sl1 Try.prog h v u8v l
def u8rows (l : List Nat) : List (List Value):=l.map fun x=>[u8v x]
theorem u8rows_len (l : List Nat) : (u8rows l).length = l.length:=List.length_map ..
theorem u8rows_flat (l : List Nat) : (u8rows l).flatten = l.map u8v:=by
 induction l with
 | nil=>rfl
 | cons x l ih=>simp only [u8rows,List.map_cons,List.flatten_cons] at ih ⊢; rw [ih]; rfl
theorem Bytes.grow {h h' : AH} {v : Value} {l : List Nat} (S : Bytes h v l) (g : Grow h h') : Bytes h' v l:=Sl1.grow S g
theorem Bytes.len {h h' : AH} {v : Value} {l : List Nat} (S : Bytes h v l) : pLen Try.prog #[107] v h' = some (.int .i64 l.length):=Sl1.len S u107
theorem Bytes.at_ {h : AH} {v : Value} {l : List Nat} (S : Bytes h v l) {i x : Nat} (hi : l[i]? = some x) :
  ∃ b o,pIndexAddr Try.prog 107 v (.int .i64 i) = some (.pointer (some ⟨b,o,none⟩)) ∧ ∀ h',Grow h h'→h'.cell b o = some (.int .u8 (x : Int)):=Sl1.at_ S hi u107 sz5
theorem Bytes.v {h : AH} {v : Value} {l : List Nat} (S : Bytes h v l) : v.cells.toList = [v] ∧ v.cells.size = 1 ∧ oneCell v = true ∧ kn v = true:=slV_cells S
theorem nilC {b o : Nat} : pNilCheck Try.prog (.pointer (some ⟨b,o,none⟩)) = some (.pointer (some ⟨b,o,none⟩)):=rfl
/-! ### Numbers of any length, put -/
/-- What a reader (the block at place i) has left, by its slice. -/
def RV (L : List (Nat × AO)) (i : Nat) (rv : Value) (rest : List Nat) : Prop :=
 rv = .slice none 0 0 ∧ rest = [] ∨ ∃ (j bb o : Nat) (cs : List Value) (e : TypeId),j ≠ i ∧ L[j]? = some (bb,.cells cs e true) ∧ szT Try.prog e = some 1 ∧ rv = .slice (some ⟨bb,o,none⟩) rest.length rest.length ∧
  (rest ≠ []→o + rest.length ≤ cs.length ∧ (cs.drop o).take rest.length = rest.map u8v)
theorem RV.set {L : List (Nat × AO)} {i : Nat} {rv : Value} {rest : List Nat} (R : RV L i rv rest) (p : Nat × AO) : RV (L.set i p) i rv rest:=by
 rcases R with R | ⟨j,bb,o,cs,e,h1,h2,h3⟩
 ·exact .inl R
 ·exact .inr ⟨j,bb,o,cs,e,h1,by rw [List.getElem?_set_ne (Ne.symm h1)]; exact h2,h3⟩
theorem RV.cons {L : List (Nat × AO)} {i : Nat} {rv : Value} {rest : List Nat} (R : RV L i rv rest) (p : Nat × AO) : RV (p :: L) (i + 1) rv rest:=by
 rcases R with R | ⟨j,bb,o,cs,e,h1,h2,h3⟩
 ·exact .inl R
 ·exact .inr ⟨j + 1,bb,o,cs,e,by omega,by simpa using h2,h3⟩
theorem u8v_wide (l : List Nat) : ∀ r ∈ l.map (fun x=>[u8v x]),r.length = 1:=fun r hr=>by
 obtain ⟨x,_,rfl⟩:=List.mem_map.1 hr
 rfl
theorem flat_u8 (l : List Nat) : (l.map fun x=>[u8v x]).flatten = l.map u8v:=u8rows_flat l
section
variable {n0 : Nat} {h0 h : AH} {L : List (Nat × AO)} {O : List OS} {i br : Nat} {rv : Value} {rest : List Nat}
theorem RV.lie {bb o : Nat} {cs : List Value} {e : TypeId} (hg : h.get bb = some (.cells cs e true)) (hc : rest ≠ []→o + rest.length ≤ cs.length ∧ (cs.drop o).take rest.length = rest.map u8v) : Lie Try.prog h bb o 1 true (rest.map fun x=>[u8v x]):=by
 refine ⟨⟨cs,e,hg,fun hne=>?_⟩,u8v_wide rest⟩
 have:=hc (by rintro rfl; simp at hne)
 simp only [List.length_map,Nat.mul_one,flat_u8]
 exact this
theorem RV.bytes (R : RV L i rv rest) (S : Stt Try.prog n0 h0 h L O) : Bytes h rv rest:=by
 rcases R with ⟨rfl,rfl⟩ | ⟨j,bb,o,cs,e,h1,h2,h3,rfl,h5⟩
 ·exact .inl ⟨rfl,rfl⟩
 ·exact .inr ⟨bb,o,rest.length,true,by simp,by simp,RV.lie (S.sta.mem.at_ h2) h5⟩
theorem RV.drop (R : RV L i rv rest) (S : Stt Try.prog n0 h0 h L O) {n : Nat} (hn : n ≤ rest.length) : ∃ rv',pSlice Try.prog 107 rv (some (.int .i64 n)) none none h = some rv' ∧ RV L i rv' (rest.drop n) ∧ oneCell rv' = true ∧ rv'.cells.toList = [rv'] ∧ rv'.cells.size = 1:=by
 have hm : ∀ d : Int,intOr d (some (.int .i64 (n : Int))) = some (n : Int):=fun d=>rfl
 have hm2 : ∀ d : Int,intOr d none = some d:=fun d=>rfl
 rcases R with ⟨rfl,rfl⟩ | ⟨j,bb,o,cs,e,h1,h2,h3,rfl,h5⟩
 ·have : n = 0:=by simpa using hn
  subst this
  refine ⟨.slice none 0 0,?_,.inl ⟨rfl,rfl⟩,rfl,rfl,rfl⟩
  unfold pSlice
  simp only [el107,Option.bind_some,sz5,hm,hm2]
  simp
 ·refine ⟨.slice (some ⟨bb,o + n * 1,none⟩) (rest.length - n) (rest.length - n),?_,.inr ⟨j,bb,o + n * 1,cs,e,h1,h2,h3,by simp,fun hne=>?_⟩,rfl,rfl,rfl⟩
  ·have hz : szOk Try.prog (some ⟨bb,o,none⟩) 1 h = true:=by
    unfold szOk
    simp only [S.sta.mem.at_ h2,h3]
    simp
   unfold pSlice
   simp only [el107,Option.bind_some,sz5,hm,hm2]
   rw [if_pos ⟨by omega,by omega,by omega,by omega,.inl rfl,.inr (.inr hz)⟩]
   simp only [Option.map_some,Int.toNat_natCast,Option.some.injEq,Value.slice.injEq,true_and]
   omega
  ·have hne' : rest ≠ []:=by rintro rfl; simp at hne
   obtain ⟨q1,q2⟩:=h5 hne'
   refine ⟨by simp; omega,?_⟩
   rw [List.map_drop,← q2,List.drop_take,List.drop_drop]
   simp
theorem RV.take (R : RV L i rv rest) {n : Nat} (hn : n ≤ rest.length) : ∃ out,pSlice Try.prog 107 rv none (some (.int .i64 n)) (some (.int .i64 n)) h = some out ∧
  ∀ {h' : AH} {L' : List (Nat × AO)} {O' : List OS},Stt Try.prog n0 h0 h' L' O'→(∀ j,j ≠ i→L'[j]? = L[j]?)→Bytes h' out (rest.take n):=by
 have hm : ∀ d : Int,intOr d (some (.int .i64 (n : Int))) = some (n : Int):=fun d=>rfl
 have hm2 : ∀ d : Int,intOr d none = some d:=fun d=>rfl
 rcases R with ⟨rfl,rfl⟩ | ⟨j,bb,o,cs,e,h1,h2,h3,rfl,h5⟩
 ·have : n = 0:=by simpa using hn
  subst this
  refine ⟨.slice none 0 0,?_,fun _ _=>.inl ⟨rfl,rfl⟩⟩
  unfold pSlice
  simp only [el107,Option.bind_some,sz5,hm,hm2]
  simp
 ·refine ⟨.slice (some ⟨bb,o,none⟩) n n,?_,fun S' hk=>.inr ⟨bb,o,n,true,by simp; omega,by simp; omega,?_⟩⟩
  ·unfold pSlice
   simp only [el107,Option.bind_some,sz5,hm,hm2]
   rw [if_pos ⟨by omega,by omega,by omega,by omega,by simp,by simp⟩]
   simp
  ·refine RV.lie (S'.sta.mem.at_ ((hk j h1).trans h2)) fun hq=>?_
   have hne' : rest ≠ []:=by rintro rfl; simp at hq
   obtain ⟨q1,q2⟩:=h5 hne'
   refine ⟨by simp; omega,?_⟩
   rw [List.map_take,← q2,List.take_take]
   simp
end
end Go.Proofs.Ytgklcfnjahomjaa.Sh
