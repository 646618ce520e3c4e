/- What lies ahead of the law, put together. -/
import Derived.Test.YtlbmlncdjkdoaaaGreatSzM2
import Derived.Test.YtlbmlncdjkdoaaaGreatSzF
import Derived.Test.YtlbmlncdjkdoaaaGreatSzT
import Derived.Test.YtlbmlncdjkdoaaaGreatOrdC
import Derived.Test.YtlbmlncdjkdoaaaGreatEvC
import Derived.Test.YtlbmlncdjkdoaaaGreatSzM1
import Derived.Test.YtlbmlncdjkdoaaaGreatWordM
/- What 'Put' of the ints' package comes to. -/
set_option linter.unusedVariables false
set_option linter.unusedSimpArgs false
set_option maxRecDepth 100000
namespace Go.Proofs.YtlbmlncdjkdoaaaGreat.Sh
open Go Go.RowKit Go.Proofs.Ev
open Tryz (prog)
def bzIc:=PLift.up (ai @ld3 (ai @ld2 (ai @ld4 (ai @ld5 (ai @ld121 (ai @ld93 (ai @ld163 (ai @ld124 (ai @ld195 (ai @ld200 (ai @ld129 (ai @fa200_0 (ai @fa200_1 (ai @fa200_2 (ai (fun a h=>conv_int (a:=a) (h:=h) u3 u121) (ai (fun a h=>conv_int (a:=a) (h:=h) u2 u121) (ai (fun a h=>conv_int (a:=a) (h:=h) u121 u5) (ai (fun a h=>conv_int (a:=a) (h:=h) u121 u2) (ai (fun a h=>conv_int (a:=a) (h:=h) u3 u5) (ai @ex2_0 (@ex2_1)))))))))))))))))))))
def fnV (f : Nat) : Value:=.func (.func f) #[] #[]
def formR (k f g : Nat) : List Value:=[.int .u8 (k : Int),fnV f,fnV g]
def formsC : List Value:=formR 1 192 193 ++ formR 2 194 195 ++ formR 3 196 197
def Fb (b : Nat) : Nat × AO:=(b,.cells formsC 200 true)
theorem bd1 : pBuild prog 200 #[(0,(.int .u8 1)),(1,(.func (.func 192) #[] #[])),(2,(.func (.func 193) #[] #[]))] = some (.agg (formR 1 192 193).toArray):=by kernel_rfl
theorem bd2 : pBuild prog 200 #[(0,(.int .u8 2)),(1,(.func (.func 194) #[] #[])),(2,(.func (.func 195) #[] #[]))] = some (.agg (formR 2 194 195).toArray):=by kernel_rfl
theorem bd3 : pBuild prog 200 #[(0,(.int .u8 3)),(1,(.func (.func 196) #[] #[])),(2,(.func (.func 197) #[] #[]))] = some (.agg (formR 3 196 197).toArray):=by kernel_rfl
theorem bsF (h : AH) : pBuildSlice prog 196 3 #[(0,.agg (formR 1 192 193).toArray),(1,.agg (formR 2 194 195).toArray),(2,.agg (formR 3 196 197).toArray)] h = some (.slice (some ⟨h.n,0,none⟩) 3 3,h.alloc (.cells formsC 200 true)):=by kernel_rfl
section
variable {n0 : Nat} {h0 h : AH} {L : List (Nat × AO)} {O : List OS}
theorem f169c {k : Nat} (S : Stt prog n0 h0 h L O) : Tl (eInv env (k + 1) (.func 169) #[] #[] h) fun r=>∃ b,r.1 = .slice (some ⟨b,0,none⟩) 3 3 ∧ Stt prog n0 h0 r.2 (Fb b :: L) O:=by
 rw [F169_call]
 unfold F169
 with_reducible repeat (first | (apply qzV; simp (disch:=omega) only [zA,bzIc.1,bd1,bd2,bd3,bsF] <;> rfl) | apply qzT | apply qzF | (apply qzB; simp (disch:=omega) only [zA,bzIc.1,bd1,bd2,bd3,bsF] <;> rfl))
 exact ⟨_,rfl,_,rfl,S.alloc _⟩
theorem f128_step {β : Type} {k : Nat} {Q : β→Prop} {v : Value} {l : List Int} {fb kd F g : Nat} {B : List Nat} {av : Value} {brs : List (List Value)} {i m j : Nat} (A : Ints h0 v l) (hi : i < 3) (hF : (formsC.drop (i * 3)).take 3 = formR kd F g) (hm : O[m]? = some (av,1,brs)) (hbr : brs.length ≤ 10)
  (S : Stt prog h0.n h0 h (Fb fb :: L) O)
  (C : ∀ h',Ints h' v l→Tl (eInv env k (.func F) #[] #[v] h') fun r=>∃ o,r.1 = .tuple #[o,.int .i64 0] ∧ Grow h' r.2 ∧ OwnB prog h'.n r.2 o 1 (u8rows B))
  {ke0 : Value→Value→Value→Value→Value→Value→AH→Option β} {kr : Value→Value→AH→Option β}
  (hk : ∀ h' o av',Stt prog h0.n h0 h' (Fb fb :: L) ((o,1,u8rows B) :: O.set m (av',1,brs ++ [[o]]))→Tl (F128_lrlrr (eInv env k) k j v av' (.slice (some ⟨fb,0,none⟩) 3 3) (.int .i64 3) (.int .i64 ((i + 1 : Nat) : Int)) h' ke0 kr) Q) :
  Tl (F128_lrlrr (eInv env k) k (j + 1) v av (.slice (some ⟨fb,0,none⟩) 3 3) (.int .i64 3) (.int .i64 (i : Int)) h ke0 kr) Q:=by
 have hp : pIndexAddr prog 196 (.slice (some ⟨fb,0,none⟩) 3 3) (.int .i64 (i : Int)) = some (.pointer (some ⟨fb,i * 3,none⟩)):=(indexAddr_slice u196 sz200 (by omega) (by omega)).trans (by simp)
 have hfl : formsC.length = 9:=rfl
 have hr : h.row fb (i * 3) 3 = some (formR kd F g):=by
  have hg : h.get fb = some (.cells formsC 200 true):=S.sta.mem.at_ (i:=0) rfl
  rw [row_of hg,if_pos (by rw [hfl]; omega),hF]
 have e : (i : Int) + 1 = ((i + 1 : Nat) : Int):=by omega
 simp only [F128_lrlrr]
 with_reducible repeat (first | (apply qzV; simp (disch:=omega) only [zA,bzIc.1,hp,hr] <;> rfl) | apply qzT | apply qzF | (apply qzB; simp (disch:=omega) only [zA,bzIc.1,hp,hr] <;> rfl))
 refine Tl.alloc' S ze200 rfl fun b6 h1 S1 g1=>?_
 refine Tl.store' S1 0 rfl sz200 rfl rfl (of_decide_eq_true rfl) fun h2 S2 _=>?_
 have S2 : Stt prog h0.n h0 h2 ((b6,.cells (formR kd F g) 200 true) :: Fb fb :: L) O:=S2
 have c1:=S2.cell 0 (o:=1) (v:=fnV F) rfl rfl
 with_reducible repeat (first | (apply qzV; simp (disch:=omega) only [zA,bzIc.1,c1] <;> rfl) | apply qzT | apply qzF | (apply qzB; simp (disch:=omega) only [zA,bzIc.1,c1] <;> rfl))
 have S3:=S2.drop
 have ec : callV (eInv env k) (fnV F) #[v] h2 = eInv env k (.func F) #[] #[v] h2:=by
  have : callV (eInv env k) (fnV F) #[v] h2 = eInv env k (.func F) #[] (#[] ++ #[v]) h2:=rfl
  rw [this]; simp
 rw [ec]
 refine Tl.bind (C h2 (Sl1.grow A S3.grow)) ?_
 rintro ⟨r,h3⟩ ⟨o,er,g3,X⟩
 simp only at er g3 X
 subst er
 have S4:=S3.gain g3 X
 obtain ⟨a,c,eo,_⟩:=(X.slV).form
 with_reducible repeat (first | (apply qzV; simp (disch:=omega) only [zA,bzIc.1] <;> rfl) | apply qzT | apply qzF | (apply qzB; simp (disch:=omega) only [zA,bzIc.1] <;> rfl))
 have bso : pBuildSlice prog 195 1 #[(0,o)] h3 = some (.slice (some ⟨h3.n,0,none⟩) 1 1,h3.alloc (.cells [o] 93 true)):=by
  rw [eo]; exact bs195 _ _ _ _
 refine Tl.push S4 (m + 1) (by simpa using hm) app195 bso rfl (by rw [eo]; rfl) (by omega) fun av' h5 S5=>?_
 with_reducible repeat (first | (apply qzV; simp (disch:=omega) only [zA,bzIc.1] <;> rfl) | apply qzT | apply qzF | (apply qzB; simp (disch:=omega) only [zA,bzIc.1] <;> rfl))
 rw [e]
 exact hk h5 o av' (by simpa using S5)
def putI (l : List Int) : List Nat :=
 let m:=if (runsB l).length < (plainB l).length then runsB l else plainB l
 if (packB l).length < m.length then packB l else m
theorem f128s {k : Nat} {h : AH} {v : Value} {l : List Int} (A : Ints h v l) (hl : l.length ≤ 4096) (hk : l.length < k) :
  Tl (eInv env (k + 501) (.func 128) #[] #[v] h) fun r=>∃ o,r.1 = .tuple #[o,.int .i64 0] ∧ Stt prog h.n h r.2 [] [(o,1,u8rows (putI l))]:=by
 rw [F128_call]
 unfold F128
 refine Tl.bind (f169c (k:=k + 499) (Stt.init h)) ?_
 rintro ⟨r,h1⟩ ⟨fb,er,S1⟩
 simp only at er S1
 subst er
 have hv : ∀ h' : AH,pLen prog #[196] (.slice (some ⟨fb,0,none⟩) 3 3) h' = some (.int .i64 3):=fun h'=>len_slice u196
 with_reducible repeat (first | (apply qzV; simp (disch:=omega) only [zA,bzIc.1,hv] <;> rfl) | apply qzT | apply qzF | (apply qzB; simp (disch:=omega) only [zA,bzIc.1,hv] <;> rfl))
 have S1:=S1.nil 1
 refine f128_step (i:=0) (m:=0) (brs:=[]) (L:=[]) (j:=k + 499) A (by omega) (kd:=1) (F:=192) (g:=193) rfl rfl (by simp) S1 (fun h' A'=>by
  have:=f192c (k:=k + 470) A' hl (by omega)
  exact this) fun h2 pv a1 S2=>?_
 refine f128_step (i:=1) (m:=1) (brs:=[] ++ [[pv]]) (L:=[]) (j:=k + 498) A (by omega) (kd:=2) (F:=194) (g:=195) rfl rfl (by simp) S2 (fun h' A'=>by
  have:=f194c (k:=k + 470) A' hl (by omega)
  exact this) fun h3 rv a2 S3=>?_
 refine f128_step (i:=2) (m:=2) (brs:=[] ++ [[pv]] ++ [[rv]]) (L:=[]) (j:=k + 497) A (by omega) (kd:=3) (F:=196) (g:=197) rfl rfl (by simp) S3 (fun h' A'=>by
  have:=f196c (k:=k) A' hl (by omega)
  exact this) fun h4 tv a3 S4=>?_
 have S4 : Stt prog h.n h h4 [Fb fb] [(tv,1,u8rows (packB l)),(rv,1,u8rows (runsB l)),(pv,1,u8rows (plainB l)),(a3,1,[[pv],[rv],[tv]])]:=S4
 have A3 : Sl1 prog h4 a3 (fun x : Value × List Nat=>x.1) ((pv,plainB l) :: [(rv,runsB l),(tv,packB l)]):=S4.slV 3 rfl
 have hB : ∀ x ∈ (pv,plainB l) :: [(rv,runsB l),(tv,packB l)],Bytes h4 x.1 x.2:=fun x hx=>by
  simp only [List.mem_cons,List.not_mem_nil,or_false] at hx
  rcases hx with rfl | rfl | rfl
  ·exact S4.sl1 (f:=u8v) 2 rfl
  ·exact S4.sl1 (f:=u8v) 1 rfl
  ·exact S4.sl1 (f:=u8v) 0 rfl
 have mb:=f170c (k:=k + 496) A3 hB (by simp) (by simp)
 obtain ⟨j,hj⟩ : ∃ j,k + 497 = j + 1:=⟨k + 496,rfl⟩
 rw [hj]
 simp only [F128_lrlrr]
 with_reducible repeat (first | (apply qzV; simp (disch:=omega) only [zA,bzIc.1,mb] <;> rfl) | apply qzT | apply qzF | (apply qzB; simp (disch:=omega) only [zA,bzIc.1,mb] <;> rfl))
 refine ⟨_,rfl,_,rfl,?_⟩
 have K0 : Stt prog h.n h h4 [] [(tv,1,u8rows (packB l))]:=(S4.keepO (.cons_cons _ (List.nil_sublist _))).drop
 have K1 : Stt prog h.n h h4 [] [(rv,1,u8rows (runsB l))]:=(S4.keepO (.cons _ (.cons_cons _ (List.nil_sublist _)))).drop
 have K2 : Stt prog h.n h h4 [] [(pv,1,u8rows (plainB l))]:=(S4.keepO (.cons _ (.cons _ (.cons_cons _ (List.nil_sublist _))))).drop
 unfold putI
 simp only [List.foldl_cons,List.foldl_nil,shorter]
 by_cases q1 : (runsB l).length < (plainB l).length
 ·simp only [if_pos q1]
  by_cases q2 : (packB l).length < (runsB l).length
  ·simp only [if_pos q2]; exact K0
  ·simp only [if_neg q2]; exact K1
 ·simp only [if_neg q1]
  by_cases q2 : (packB l).length < (plainB l).length
  ·simp only [if_pos q2]; exact K0
  ·simp only [if_neg q2]; exact K2
end
end Go.Proofs.YtlbmlncdjkdoaaaGreat.Sh
/- Texts in slices: light ones, own ones, held against each other. -/
set_option linter.unusedVariables false
set_option linter.unusedSimpArgs false
set_option maxRecDepth 100000
namespace Go.Proofs.YtlbmlncdjkdoaaaGreat.Sh
open Go Go.RowKit Go.Proofs.Ev
open Tryz (prog)
def Strs (h : AH) (v : Value) (l : List ByteArray) : Prop:=Sl1 prog h v Value.string l
def srows (l : List ByteArray) : List (List Value):=l.map fun x=>[Value.string x]
theorem srows_len (l : List ByteArray) : (srows l).length = l.length:=List.length_map ..
theorem srows_app (l m : List ByteArray) : srows (l ++ m) = srows l ++ srows m:=List.map_append
theorem srows_flat (l : List ByteArray) : (srows l).flatten = l.map Value.string:=by
 induction l with
 | nil=>rfl
 | cons x l ih=>simp only [srows,List.map_cons,List.flatten_cons] at ih ⊢; rw [ih]; rfl
theorem srows_wide (l : List ByteArray) : ∀ r ∈ srows l,r.length = 1:=fun r hr=>by
 obtain ⟨x,_,rfl⟩:=List.mem_map.1 hr
 rfl
theorem Strs.grow {h h' : AH} {v : Value} {l : List ByteArray} (S : Strs h v l) (g : Grow h h') : Strs h' v l:=Sl1.grow S g
theorem Strs.len {h h' : AH} {v : Value} {l : List ByteArray} (S : Strs h v l) : pLen prog #[27] v h' = some (.int .i64 l.length):=Sl1.len S u27
theorem Strs.at_ {h : AH} {v : Value} {l : List ByteArray} (S : Strs h v l) {k : IntKind} {i : Nat} {x : ByteArray} (hi : l[i]? = some x) :
  ∃ b o,pIndexAddr prog 27 v (.int k i) = some (.pointer (some ⟨b,o,none⟩)) ∧ ∀ h',Grow h h'→h'.cell b o = some (.string x):=Sl1.at_ S hi u27 sz9
theorem Stt.strs {n0 : Nat} {h0 h : AH} {L : List (Nat × AO)} {O : List OS} (S : Stt prog n0 h0 h L O) (i : Nat) {v : Value} {l : List ByteArray} (hi : O[i]? = some (v,1,srows l)) : Strs h v l:=S.slV i hi
theorem len_s (s : ByteArray) (h : AH) : pLen prog #[9] (.string s) h = some (.int .i64 s.size):=len_string u9
theorem eq_s {x y : Operand} {a b : ByteArray} : pBin prog .eql 9 x y (.string a) (.string b) = some (.bool (decide (a = b))):=bin_eql_string
theorem ne_s {x y : Operand} {a b : ByteArray} : pBin prog .neq 9 x y (.string a) (.string b) = some (.bool (!decide (a = b))):=bin_neq_string
/-- What all texts' bytes together are. -/
def total (l : List ByteArray) : Nat:=(l.map (·.size)).sum
end Go.Proofs.YtlbmlncdjkdoaaaGreat.Sh
/- Texts plain: told one by one; whether they may be. -/
set_option linter.unusedVariables false
set_option linter.unusedSimpArgs false
set_option maxRecDepth 100000
namespace Go.Proofs.YtlbmlncdjkdoaaaGreat.Sh
open Go Go.RowKit Go.Proofs.Ev
open Tryz (prog)
def bzXc:=PLift.up (ai @ld3 (ai @ld9 (ai @ld27 (ai @ld93 (ai (fun a h=>conv_int (a:=a) (h:=h) u3 u121) (ai @Nat.add_zero (ai @ex2_0 (@ex2_1))))))))
/-! ### May texts be? -/
def longS (s : ByteArray) : Bool:=decide ((s.size : Int) > 65536)
theorem f216c {k : Nat} (s : ByteArray) (h : AH) : callV (eInv env (k + 1)) (.func (.func 216) #[] #[]) #[.string s] h = some (.bool (longS s),h):=by
 rw [callV_fn1,F216_call]
 unfold F216
 simp only [len_s,bin_gtr,bnd_some,longS]
theorem f81_loop {β : Type} {inv : Inv} {k : Nat} {Q : β→Prop} {h : AH} {v fv : Value} {l : List ByteArray} {p : ByteArray→Bool} (A : Strs h v l) (hl : l.length ≤ 2 ^ 40) (hp : ∀ x,callV inv fv #[.string x] h = some (.bool (p x),h)) {ke0 : Value→Value→Value→Value→Value→AH→Option β} {kr : Value→AH→Option β} (n : Nat) :
  ∀ {i j : Nat},i + n = l.length→n < j→((l.drop i).any p = false→∀ y1 y2,Tl (ke0 v fv (.int .i64 l.length) y1 y2 h) Q)→((l.drop i).any p = true→∀ z : Nat,Tl (kr (.int .i64 z) h) Q) →
   Tl (F81_lrlr inv k j v fv (.int .i64 l.length) (.int .i64 i) h ke0 kr) Q:=by
 induction n with
 | zero =>
  intro i j hi hj hk hr
  obtain ⟨j,rfl⟩ : ∃ q,j = q + 1:=⟨j - 1,by omega⟩
  simp only [F81_lrlr]
  with_reducible repeat (first | (apply qzV; simp (disch:=omega) only [zA,bzXc.1] <;> rfl) | apply qzT | apply qzF | (apply qzB; simp (disch:=omega) only [zA,bzXc.1] <;> rfl))
  rw [List.drop_eq_nil_of_le (by omega)] at hk
  exact hk rfl _ _
 | succ n ih =>
  intro i j hi hj hk hr
  obtain ⟨j,rfl⟩ : ∃ q,j = q + 1:=⟨j - 1,by omega⟩
  obtain ⟨x,ex⟩ : ∃ x,l[i]? = some x:=⟨_,List.getElem?_eq_getElem (by omega)⟩
  obtain ⟨b,o,hpp,hc⟩:=A.at_ (k:=.i64) ex
  have hc:=hc h (Grow.refl _)
  have hd : l.drop i = x :: l.drop (i + 1):=by rw [List.drop_eq_getElem?_toList_append,ex]; rfl
  rw [hd,List.any_cons] at hk hr
  have e : (i : Int) + 1 = ((i + 1 : Nat) : Int):=by omega
  have e1:=hp x
  simp only [F81_lrlr]
  cases q : p x
  ·rw [q] at e1
   with_reducible repeat (first | (apply qzV; simp (disch:=omega) only [zA,bzXc.1,hpp,hc,e1] <;> rfl) | apply qzT | apply qzF | (apply qzB; simp (disch:=omega) only [zA,bzXc.1,hpp,hc,e1] <;> rfl))
   rw [e]
   exact ih (by omega) (by omega) (fun h=>hk (by rw [q,h]; rfl)) (fun h=>hr (by rw [h]; simp))
  ·rw [q] at e1
   with_reducible repeat (first | (apply qzV; simp (disch:=omega) only [zA,bzXc.1,hpp,hc,e1] <;> rfl) | apply qzT | apply qzF | (apply qzB; simp (disch:=omega) only [zA,bzXc.1,hpp,hc,e1] <;> rfl))
   exact hr (by rw [q]; rfl) i
theorem f61c {k : Nat} {h : AH} {v fv : Value} {l : List ByteArray} {p : ByteArray→Bool} (A : Strs h v l) (hl : l.length ≤ 2 ^ 40) (hp : ∀ x,callV (eInv env (k + 1)) fv #[.string x] h = some (.bool (p x),h)) (hk : l.length < k + 1) :
  eInv env (k + 3) (.func 61) #[] #[v,fv] h = some (.bool (l.any p),h):=by
 have T : Tl (F81 (eInv env (k + 1)) (k + 1) v fv h) fun r=>∃ z : Int,r = (.int .i64 z,h) ∧ decide (z ≥ 0) = l.any p:=by
  unfold F81
  have ll : ∀ h',pLen prog #[27] v h' = some (.int .i64 l.length):=fun h'=>A.len
  with_reducible repeat (first | (apply qzV; simp (disch:=omega) only [zA,bzXc.1,ll] <;> rfl) | apply qzT | apply qzF | (apply qzB; simp (disch:=omega) only [zA,bzXc.1,ll] <;> rfl))
  refine f81_loop A hl hp l.length (i:=0) (by omega) (by omega) (fun hq y1 y2=>⟨_,rfl,-1,rfl,?_⟩) (fun hq z=>⟨_,rfl,z,rfl,?_⟩)
  ·rw [List.drop_zero] at hq
   rw [hq]; rfl
  ·rw [List.drop_zero] at hq
   rw [hq]; simp
 obtain ⟨r,h1,z,h2,h3⟩:=T
 rw [F61_call]
 unfold F61
 rw [F81_call,h1,h2]
 simp only [bnd_some,bin_geq,h3]
def mayT (l : List ByteArray) : Bool:=decide (l.length ≤ 4096) && !(l.any longS)
def checkT (l : List ByteArray) : Int:=if mayT l then 0 else 3
theorem f203c {k : Nat} {h : AH} {v : Value} {l : List ByteArray} (A : Strs h v l) (hl : l.length ≤ 9223372036854775807) (hk : 4096 < k + 1) : eInv env (k + 4) (.func 203) #[] #[v] h = some (.int .i64 (checkT l),h):=by
 have T : Tl (F203 (eInv env (k + 3)) (k + 3) v h) fun r=>r = (.int .i64 (checkT l),h):=by
  unfold F203
  have ll : ∀ h',pLen prog #[27] v h' = some (.int .i64 l.length):=fun h'=>A.len
  by_cases q : l.length ≤ 4096
  ·have hc:=f61c (k:=k) (p:=longS) A (by omega) (fun x=>f216c x h) (by omega)
   unfold checkT mayT
   cases q2 : l.any longS
   ·rw [q2] at hc
    with_reducible repeat (first | (apply qzV; simp (disch:=omega) only [zA,bzXc.1,ll,hc] <;> rfl) | apply qzT | apply qzF | apply qzG | ((first | apply qzB | apply qzC); simp (disch:=omega) only [zA,bzXc.1,ll,hc] <;> rfl))
    exact ⟨_,rfl,by simp [q]⟩
   ·rw [q2] at hc
    with_reducible repeat (first | (apply qzV; simp (disch:=omega) only [zA,bzXc.1,ll,hc] <;> rfl) | apply qzT | apply qzF | apply qzG | ((first | apply qzB | apply qzC); simp (disch:=omega) only [zA,bzXc.1,ll,hc] <;> rfl))
    exact ⟨_,rfl,by simp⟩
  ·with_reducible repeat (first | (apply qzV; simp (disch:=omega) only [zA,bzXc.1,ll] <;> rfl) | apply qzT | apply qzF | apply qzG | ((first | apply qzB | apply qzC); simp (disch:=omega) only [zA,bzXc.1,ll] <;> rfl))
   exact ⟨_,rfl,by unfold checkT mayT; simp [q]⟩
 obtain ⟨r,h1,h2⟩:=T
 rw [F203_call,h1,h2]
/-! ### Told one by one -/
theorem appStr : AppG prog #[93,9] 5 1 1:=⟨by kernel_rfl,⟨_,u9,rfl⟩,by kernel_rfl,by omega,by kernel_rfl,⟨_,ze5,rfl,rfl⟩⟩
def textP (s : ByteArray) : List Nat:=pvarN s.size ++ bytesN s
theorem textP_len (s : ByteArray) (hs : s.size ≤ 2 ^ 29) : (textP s).length ≤ s.size + 10:=by
 unfold textP
 rw [List.length_append,bytesN_len]
 have:=pvarN_le10 (n:=s.size) (by omega)
 omega
section
variable {β : Type} {Q : β→Prop} {n0 : Nat} {h0 h : AH} {L : List (Nat × AO)} {O : List OS}
theorem f204c {k : Nat} {v : Value} {l : List Nat} {s : ByteArray} (hs : s.size ≤ 2 ^ 29) (hl : l.length ≤ 2 ^ 29) (S : Stt prog n0 h0 h L ((v,1,u8rows l) :: O)) :
  Tl (eInv env (k + 21) (.func 204) #[] #[v,.string s] h) fun r=>Stt prog n0 h0 r.2 L ((r.1,1,u8rows (l ++ textP s)) :: O):=by
 rw [F204_call]
 unfold F204
 with_reducible repeat (first | (apply qzV; simp (disch:=omega) only [zA,bzXc.1,len_s] <;> rfl) | apply qzT | apply qzF | (apply qzB; simp (disch:=omega) only [zA,bzXc.1,len_s] <;> rfl))
 refine Tl.bind (f86c (k:=k) s.size (by omega) hl S) ?_
 rintro ⟨v',h'⟩ S'
 simp only at S'
 have h10:=pvarN_le10 (n:=s.size) (by omega)
 refine Tl.appendS S' 0 rfl appStr (by rw [u8rows_len,List.length_append]; omega) fun v'' h'' S''=>?_
 with_reducible repeat (first | (apply qzV; simp (disch:=omega) only [zA,bzXc.1] <;> rfl) | apply qzT | apply qzF | (apply qzB; simp (disch:=omega) only [zA,bzXc.1] <;> rfl))
 refine ⟨_,rfl,?_⟩
 have e : u8rows (l ++ textP s) = u8rows (l ++ pvarN s.size) ++ (bytesN s).map fun x : Nat=>[Value.int .u8 (x : Int)]:=by
  unfold textP
  rw [← List.append_assoc]
  exact List.map_append
 rw [e]
 exact S''
theorem f178_loop {k : Nat} {v : Value} {l : List ByteArray} (A : Strs h0 v l) (hl : l.length ≤ 4096) (hs : ∀ x ∈ l,x.size ≤ 65536) {ke0 : Value→Value→Value→Value→Value→AH→Option β} (n : Nat) :
  ∀ {i j : Nat} {h : AH} {ov : Value} {out : List Nat},i + n = l.length→n < j→out.length ≤ 20 + i * 65546→Stt prog h0.n h0 h L ((ov,1,u8rows out) :: O) →
   (∀ h' y y1 y2,Stt prog h0.n h0 h' L ((y,1,u8rows (out ++ (l.drop i).flatMap textP)) :: O)→Tl (ke0 y v (.int .i64 l.length) y1 y2 h') Q) →
   Tl (F178_lrlrrr (eInv env (k + 21)) (k + 21) j ov v (.int .i64 l.length) (.int .i64 i) h ke0) Q:=by
 induction n with
 | zero =>
  intro i j h ov out hi hj ho S hk
  obtain ⟨j,rfl⟩ : ∃ q,j = q + 1:=⟨j - 1,by omega⟩
  simp only [F178_lrlrrr]
  with_reducible repeat (first | (apply qzV; simp (disch:=omega) only [zA,bzXc.1] <;> rfl) | apply qzT | apply qzF | (apply qzB; simp (disch:=omega) only [zA,bzXc.1] <;> rfl))
  rw [List.drop_eq_nil_of_le (by omega)] at hk
  refine hk _ _ _ _ ?_
  simpa using S
 | succ n ih =>
  intro i j h ov out hi hj ho S hk
  obtain ⟨j,rfl⟩ : ∃ q,j = q + 1:=⟨j - 1,by omega⟩
  obtain ⟨x,ex⟩ : ∃ x,l[i]? = some x:=⟨_,List.getElem?_eq_getElem (by omega)⟩
  obtain ⟨b,o,hp,hc⟩:=(A.grow S.grow).at_ (k:=.i64) ex
  have hc:=hc h (Grow.refl _)
  have hx:=hs x (List.mem_of_getElem? ex)
  have hd : l.drop i = x :: l.drop (i + 1):=by rw [List.drop_eq_getElem?_toList_append,ex]; rfl
  have e : (i : Int) + 1 = ((i + 1 : Nat) : Int):=by omega
  simp only [F178_lrlrrr]
  with_reducible repeat (first | (apply qzV; simp (disch:=omega) only [zA,bzXc.1,hp,hc] <;> rfl) | apply qzT | apply qzF | (apply qzB; simp (disch:=omega) only [zA,bzXc.1,hp,hc] <;> rfl))
  have him : i * 65546 ≤ 4096 * 65546:=Nat.mul_le_mul_right _ (by omega)
  refine Tl.bind (f204c (k:=k) (s:=x) (by omega) (by omega) S) ?_
  rintro ⟨v',h'⟩ S'
  simp only at S'
  have ht:=textP_len x (by omega)
  with_reducible repeat (first | (apply qzV; simp (disch:=omega) only [zA,bzXc.1] <;> rfl) | apply qzT | apply qzF | (apply qzB; simp (disch:=omega) only [zA,bzXc.1] <;> rfl))
  rw [e]
  refine ih (out:=out ++ textP x) (by omega) (by omega) (by rw [List.length_append]; omega) S' fun h' y y1 y2 S''=>hk h' y y1 y2 ?_
  rw [hd,List.flatMap_cons,← List.append_assoc]
  exact S''
def plainT (l : List ByteArray) : List Nat:=1 :: (pvarN l.length ++ l.flatMap textP)
def plainG (l : List ByteArray) : List Nat:=if mayT l then plainT l else []
theorem mayT_spec {l : List ByteArray} : mayT l = true ↔ l.length ≤ 4096 ∧ ∀ x ∈ l,x.size ≤ 65536:=by
 unfold mayT
 rw [Bool.and_eq_true,decide_eq_true_eq,Bool.not_eq_true',List.any_eq_false]
 refine and_congr_right fun _=>forall_congr' fun x=>forall_congr' fun _=>?_
 unfold longS
 simp
 omega
theorem f178c {k : Nat} {v : Value} {l : List ByteArray} (A : Strs h v l) (hl : l.length ≤ 9223372036854775807) (hk : 4096 < k + 18) :
  Tl (eInv env (k + 22) (.func 178) #[] #[v] h) fun r=>∃ v',r.1 = .tuple #[v',.int .i64 (checkT l)] ∧ Stt prog h.n h r.2 [] [(v',1,u8rows (plainG l))]:=by
 rw [F178_call]
 unfold F178
 have hc:=f203c (k:=k + 17) A hl (by omega)
 have ll : ∀ h',pLen prog #[27] v h' = some (.int .i64 l.length):=fun h'=>A.len
 unfold checkT plainG at *
 cases q : mayT l
 ·rw [q] at hc
  simp only [Bool.false_eq_true,if_false] at hc ⊢
  with_reducible repeat (first | (apply qzV; simp (disch:=omega) only [zA,bzXc.1,hc] <;> rfl) | apply qzT | apply qzF | (apply qzB; simp (disch:=omega) only [zA,bzXc.1,hc] <;> rfl))
  exact ⟨_,rfl,_,rfl,(Stt.init h).nil 1⟩
 ·rw [q] at hc
  simp only [if_true] at hc ⊢
  obtain ⟨q1,q2⟩:=mayT_spec.1 q
  with_reducible repeat (first | (apply qzV; simp (disch:=omega) only [zA,bzXc.1,hc,bs93,ll] <;> rfl) | apply qzT | apply qzF | (apply qzB; simp (disch:=omega) only [zA,bzXc.1,hc,bs93,ll] <;> rfl))
  have S0 : Stt prog h.n h (h.alloc (.cells (u8rows [1]).flatten 5 true)) [(h.n,.cells (u8rows [1]).flatten 5 true)] []:=(Stt.init h).alloc _
  have S1:=S0.absorb (n:=1) (u8v_wide [1]) sz5
  refine Tl.bind (f86c (k:=k + 1) l.length (by omega) (by simp) S1) ?_
  rintro ⟨v2,h2⟩ S2
  simp only at S2
  have h10:=pvarN_le10 (n:=l.length) (by omega)
  with_reducible repeat (first | (apply qzV; simp (disch:=omega) only [zA,bzXc.1,ll] <;> rfl) | apply qzT | apply qzF | (apply qzB; simp (disch:=omega) only [zA,bzXc.1,ll] <;> rfl))
  refine f178_loop (k:=k) A q1 q2 l.length (i:=0) (out:=[1] ++ pvarN l.length) (by omega) (by omega) (by simp; omega) S2 fun h' y y1 y2 S'=>?_
  refine ⟨_,rfl,_,rfl,?_⟩
  unfold plainT
  rw [List.drop_zero] at S'
  simpa using S'
end
end Go.Proofs.YtlbmlncdjkdoaaaGreat.Sh
/- Codecs: how a cell becomes a value, and a value bytes; 'zone'. -/
set_option linter.unusedVariables false
set_option linter.unusedSimpArgs false
set_option maxRecDepth 100000
namespace Go.Proofs.YtlbmlncdjkdoaaaGreat.Sh
open Go Go.RowKit Go.Proofs.Ev Go.Lib
open Tryz (prog)
def bzS2:=PLift.up (ai @ld3 (ai @ld2 (ai @ld9 (ai @ld121 (ai @ld39 (ai @ld53 (ai @ld126 (ai @ld134 (ai @ld142 (ai @ld127 (ai @ld120 (ai @ld143 (ai @ld129 (ai @ld137 (ai @ld145 (ai @fa132_0 (ai @fa132_2 (ai @fa132_4 (ai @fa140_0 (ai @fa140_2 (ai @fa140_4 (ai @fa148_0 (ai @fa148_2 (ai @fa148_4 (ai @fa39_0 (ai @fa39_1 (ai @fa39_2 (ai @fa53_0 (ai @fa53_1 (ai @fa53_2 (ai @fa53_3 (ai (fun a h=>conv_int (a:=a) (h:=h) u2 u121) (ai (fun a h=>conv_int (a:=a) (h:=h) u121 u2) (ai (fun a h=>conv_int (a:=a) (h:=h) u121 u5) (ai (fun a h=>conv_int (a:=a) (h:=h) u3 u121) (ai @aggC (ai @wrapU (ai @ex2_0 (ai @ex2_1 (@Nat.add_zero))))))))))))))))))))))))))))))))))))))))
theorem sameF {f : Nat} : sameV (.func (.func f) #[] #[]) (.func (.func f) #[] #[]) = true:=by simp [sameV,sameList,same0,beqB]
theorem conv_u8 {x : Nat} {h : AH} : pConv prog 121 5 (.int .u64 (x : Int)) h = some (.int .u8 ((x % 256 : Nat) : Int)):=by
 rw [conv_int u121 u5,wrap_u8]; congr 2
section
variable {n0 : Nat} {h0 h : AH} {L : List (Nat × AO)} {O : List OS}
theorem isN : (szT prog 132).isSome = true:=by rw [sz132]; rfl
def oneN (c : CellD) : List Nat:=le (toU c.i) 0 8
theorem f122c {k : Nat} (c : CellD) (h : AH) : Tl (eInv env (k + 1) (.func 122) #[] #[c.v] h) fun r=>r.1 = .int .i64 c.i ∧ Grow h r.2:=by
 rw [F122_call]
 unfold F122
 refine Tl.box' (Stt.init h) rfl isC fun b1 h1 S1 _=>?_
 have S1 : Stt prog h.n h h1 [Cr b1 c] []:=S1
 obtain ⟨_,_,ic,sc⟩:=c_at S1 0 rfl
 with_reducible repeat (first | (apply qzV; simp (disch:=omega) only [zA,bzS2.1,ic,sc] <;> rfl) | apply qzT | apply qzF | (apply qzB; simp (disch:=omega) only [zA,bzS2.1,ic,sc] <;> rfl))
 exact ⟨_,rfl,rfl,S1.grow⟩
theorem isT : (szT prog 140).isSome = true:=by rw [sz140]; rfl
def oneT (c : CellD) : List Nat:=[toU c.i % 256]
theorem f131c {k : Nat} (c : CellD) (h : AH) : Tl (eInv env (k + 1) (.func 131) #[] #[c.v] h) fun r=>r.1 = .int .u64 (toU c.i : Int) ∧ Grow h r.2:=by
 rw [F131_call]
 unfold F131
 refine Tl.box' (Stt.init h) rfl isC fun b1 h1 S1 _=>?_
 have S1 : Stt prog h.n h h1 [Cr b1 c] []:=S1
 obtain ⟨_,_,ic,sc⟩:=c_at S1 0 rfl
 with_reducible repeat (first | (apply qzV; simp (disch:=omega) only [zA,bzS2.1,ic,sc] <;> rfl) | apply qzT | apply qzF | (apply qzB; simp (disch:=omega) only [zA,bzS2.1,ic,sc] <;> rfl))
 exact ⟨_,rfl,rfl,S1.grow⟩
theorem isW : (szT prog 148).isSome = true:=by rw [sz148]; rfl
def oneW (c : CellD) : List Nat:=pvarN c.s.size ++ bytesN c.s
theorem f138c {k : Nat} (c : CellD) (h : AH) : Tl (eInv env (k + 1) (.func 138) #[] #[c.v] h) fun r=>r.1 = .string c.s ∧ Grow h r.2:=by
 rw [F138_call]
 unfold F138
 refine Tl.box' (Stt.init h) rfl isC fun b1 h1 S1 _=>?_
 have S1 : Stt prog h.n h h1 [Cr b1 c] []:=S1
 obtain ⟨_,_,ic,sc⟩:=c_at S1 0 rfl
 with_reducible repeat (first | (apply qzV; simp (disch:=omega) only [zA,bzS2.1,ic,sc] <;> rfl) | apply qzT | apply qzF | (apply qzB; simp (disch:=omega) only [zA,bzS2.1,ic,sc] <;> rfl))
 exact ⟨_,rfl,rfl,S1.grow⟩
theorem f124c {k : Nat} {v : Value} {l : List Nat} (c : CellD) (hl : l.length ≤ 2 ^ 28) (S : Stt prog n0 h0 h L ((v,1,u8rows l) :: O)) :
  Tl (eInv env (k + 21) (.func 124) #[] #[v,.int .i64 c.i] h) fun r=>Stt prog n0 h0 r.2 L ((r.1,1,u8rows (l ++ oneN c)) :: O):=by
 rw [F124_call]
 unfold F124 oneN
 with_reducible repeat (first | (apply qzV; simp (disch:=omega) only [zA,bzS2.1] <;> rfl) | apply qzT | apply qzF | (apply qzB; simp (disch:=omega) only [zA,bzS2.1] <;> rfl))
 refine Tl.bind (f125c (k:=k) (toU c.i) (by omega) S) ?_
 rintro ⟨r,h1⟩ S1
 exact ⟨_,rfl,S1⟩
theorem f133c {k : Nat} {v : Value} {l : List Nat} (c : CellD) (hl : l.length ≤ 2 ^ 28) (S : Stt prog n0 h0 h L ((v,1,u8rows l) :: O)) :
  Tl (eInv env (k + 21) (.func 133) #[] #[v,.int .u64 (toU c.i : Int)] h) fun r=>Stt prog n0 h0 r.2 L ((r.1,1,u8rows (l ++ oneT c)) :: O):=by
 rw [F133_call]
 unfold F133 oneT
 with_reducible repeat (first | (apply qzV; simp (disch:=omega) only [zA,bzS2.1,conv_u8] <;> rfl) | apply qzT | apply qzF | (apply qzB; simp (disch:=omega) only [zA,bzS2.1,conv_u8] <;> rfl))
 refine Tl.push S 0 rfl app93 (bs93 _ _) rfl rfl (by rw [u8rows_len]; omega) fun v' h' S'=>?_
 refine ⟨_,rfl,?_⟩
 simpa [u8rows,u8v,wrap_u8] using S'
theorem f140c {k : Nat} {v : Value} {l : List Nat} (c : CellD) (hc : c.s.size ≤ 2 ^ 28) (hl : l.length ≤ 2 ^ 28) (S : Stt prog n0 h0 h L ((v,1,u8rows l) :: O)) :
  Tl (eInv env (k + 21) (.func 140) #[] #[v,.string c.s] h) fun r=>Stt prog n0 h0 r.2 L ((r.1,1,u8rows (l ++ oneW c)) :: O):=by
 rw [F140_call]
 unfold F140 oneW
 have hs : ∀ h' : AH,pLen prog #[9] (.string c.s) h' = some (.int .i64 c.s.size):=fun h'=>len_string u9
 have ew : toU (c.s.size : Int) = c.s.size:=by unfold toU; omega
 have hp:=pvarN_le10 (n:=c.s.size) (by omega)
 with_reducible repeat (first | (apply qzV; simp (disch:=omega) only [zA,bzS2.1,hs,ew] <;> rfl) | apply qzT | apply qzF | (apply qzB; simp (disch:=omega) only [zA,bzS2.1,hs,ew] <;> rfl))
 refine Tl.bind (f86c (k:=k) c.s.size (by omega) (by omega) S) ?_
 rintro ⟨v1,h1⟩ S1
 refine Tl.appendS S1 0 rfl appStr (by rw [u8rows_len,List.length_append]; omega) fun v2 h2 S2=>?_
 refine ⟨_,rfl,?_⟩
 have e : u8rows (l ++ pvarN c.s.size) ++ ((bytesN c.s).map fun x : Nat=>[Value.int .u8 (x : Int)]) = u8rows (l ++ (pvarN c.s.size ++ bytesN c.s)):=by simp [u8rows,u8v]
 rw [← e]
 exact S2
theorem lenN (c : CellD) : (oneN c).length ≤ 2 ^ 21:=by
 unfold oneN
 rw [le_len]; decide
/-- 'zone'. -/
theorem zoneN_c {k : Nat} {v : Value} {l : List Nat} (z : ZoneD) (hl : l.length ≤ 2 ^ 26) (S : Stt prog n0 h0 h L ((v,1,u8rows l) :: O)) :
  Tl (eInv env (k + 31) (.method "shadowbook/segment.zone") #[] #[.iface 132 (.agg codNL.toArray), v, zv z] h) fun r => Stt prog n0 h0 r.2 L ((r.1, 1, u8rows (l ++ (oneN z.mn ++ oneN z.mx))) :: O) := by
 rw [show eInv env (k + 31) (.method "shadowbook/segment.zone") #[] #[.iface 132 (.agg codNL.toArray), v, zv z] h = F262 (eInv env (k + 30)) (k + 30) (.agg codNL.toArray) v (zv z) h from
  (by kernel_rfl : _ = eFun env (k + 30) (eInv env (k + 30)) 262 #[.agg codNL.toArray,v,zv z] h).trans F262_eq]
 unfold F262
 have q1:=lenN z.mn
 refine Tl.box' S rfl isN fun b3 h1 S1 _=>?_
 refine Tl.box' S1 rfl isZ fun b5 h2 S2 _=>?_
 have S2 : Stt prog n0 h0 h2 (Zr b5 z :: (b3,.cells codNL 132 true) :: L) ((v,1,u8rows l) :: O):=S2
 have F0 : ∀ {h' : AH} {O' : List OS},Stt prog n0 h0 h' (Zr b5 z :: (b3,.cells codNL 132 true) :: L) O'→h'.cell b3 0 = some (.func (.func 122) #[] #[]) ∧ h'.cell b3 2 = some (.func (.func 124) #[] #[]) ∧ h'.row b5 2 3 = some (crow z.mn) ∧ h'.row b5 5 3 = some (crow z.mx):=fun T=>⟨T.cell 1 rfl rfl,T.cell 1 rfl rfl,(z_at T 0 rfl).mn,(z_at T 0 rfl).mx⟩
 obtain ⟨a0,a1,a2,a3⟩:=F0 S2
 with_reducible repeat (first | (apply qzV; simp (disch:=omega) only [zA,bzS2.1,a0,a1,a2,a3] <;> rfl) | apply qzT | apply qzF | (apply qzB; simp (disch:=omega) only [zA,bzS2.1,a0,a1,a2,a3] <;> rfl))
 rw [callV_fn1]
 with_reducible refine Tl.call' S2 (f122c (k:=k + 29) z.mn h2) fun h3 S3 _=>?_
 obtain ⟨c0,c1,c2,c3⟩:=F0 S3
 rw [callV_fn2]
 refine Tl.bind (f124c (k:=k + 9) z.mn (by omega) S3) ?_
 rintro ⟨v4,h4⟩ S4
 obtain ⟨d0,d1,d2,d3⟩:=F0 S4
 with_reducible repeat (first | (apply qzV; simp (disch:=omega) only [zA,bzS2.1,d0,d1,d2,d3] <;> rfl) | apply qzT | apply qzF | (apply qzB; simp (disch:=omega) only [zA,bzS2.1,d0,d1,d2,d3] <;> rfl))
 rw [callV_fn1]
 with_reducible refine Tl.call' S4 (f122c (k:=k + 29) z.mx h4) fun h5 S5 _=>?_
 obtain ⟨e0,e1,e2,e3⟩:=F0 S5
 rw [callV_fn2]
 refine Tl.bind (f124c (k:=k + 9) z.mx (by rw [List.length_append]; omega) S5) ?_
 rintro ⟨v6,h6⟩ S6
 with_reducible refine Tl.chk ?_ ?_
 ·simp only [ld39,ld126,ld127,Nat.zero_add,a0,a1,a2,a3,c0,c1,c2,c3,d0,d1,d2,d3,e0,e1,e2,e3,Option.map_some,aggC,sameO_some,sameC,sameF,Bool.and_self,Bool.not_true,Bool.or_true,Bool.true_and,Bool.false_or]
 refine ⟨_,rfl,?_⟩
 rw [← List.append_assoc]
 exact S6.drop.drop
theorem lenT (c : CellD) : (oneT c).length ≤ 2 ^ 21:=by
 unfold oneT
 simp
/-- 'zone'. -/
theorem zoneT_c {k : Nat} {v : Value} {l : List Nat} (z : ZoneD) (hl : l.length ≤ 2 ^ 26) (S : Stt prog n0 h0 h L ((v,1,u8rows l) :: O)) :
  Tl (eInv env (k + 31) (.method "shadowbook/segment.zone") #[] #[.iface 140 (.agg codTL.toArray), v, zv z] h) fun r => Stt prog n0 h0 r.2 L ((r.1, 1, u8rows (l ++ (oneT z.mn ++ oneT z.mx))) :: O) := by
 rw [show eInv env (k + 31) (.method "shadowbook/segment.zone") #[] #[.iface 140 (.agg codTL.toArray), v, zv z] h = F266 (eInv env (k + 30)) (k + 30) (.agg codTL.toArray) v (zv z) h from
  (by kernel_rfl : _ = eFun env (k + 30) (eInv env (k + 30)) 266 #[.agg codTL.toArray,v,zv z] h).trans F266_eq]
 unfold F266
 have q1:=lenT z.mn
 refine Tl.box' S rfl isT fun b3 h1 S1 _=>?_
 refine Tl.box' S1 rfl isZ fun b5 h2 S2 _=>?_
 have S2 : Stt prog n0 h0 h2 (Zr b5 z :: (b3,.cells codTL 140 true) :: L) ((v,1,u8rows l) :: O):=S2
 have F0 : ∀ {h' : AH} {O' : List OS},Stt prog n0 h0 h' (Zr b5 z :: (b3,.cells codTL 140 true) :: L) O'→h'.cell b3 0 = some (.func (.func 131) #[] #[]) ∧ h'.cell b3 2 = some (.func (.func 133) #[] #[]) ∧ h'.row b5 2 3 = some (crow z.mn) ∧ h'.row b5 5 3 = some (crow z.mx):=fun T=>⟨T.cell 1 rfl rfl,T.cell 1 rfl rfl,(z_at T 0 rfl).mn,(z_at T 0 rfl).mx⟩
 obtain ⟨a0,a1,a2,a3⟩:=F0 S2
 with_reducible repeat (first | (apply qzV; simp (disch:=omega) only [zA,bzS2.1,a0,a1,a2,a3] <;> rfl) | apply qzT | apply qzF | (apply qzB; simp (disch:=omega) only [zA,bzS2.1,a0,a1,a2,a3] <;> rfl))
 rw [callV_fn1]
 with_reducible refine Tl.call' S2 (f131c (k:=k + 29) z.mn h2) fun h3 S3 _=>?_
 obtain ⟨c0,c1,c2,c3⟩:=F0 S3
 rw [callV_fn2]
 refine Tl.bind (f133c (k:=k + 9) z.mn (by omega) S3) ?_
 rintro ⟨v4,h4⟩ S4
 obtain ⟨d0,d1,d2,d3⟩:=F0 S4
 with_reducible repeat (first | (apply qzV; simp (disch:=omega) only [zA,bzS2.1,d0,d1,d2,d3] <;> rfl) | apply qzT | apply qzF | (apply qzB; simp (disch:=omega) only [zA,bzS2.1,d0,d1,d2,d3] <;> rfl))
 rw [callV_fn1]
 with_reducible refine Tl.call' S4 (f131c (k:=k + 29) z.mx h4) fun h5 S5 _=>?_
 obtain ⟨e0,e1,e2,e3⟩:=F0 S5
 rw [callV_fn2]
 refine Tl.bind (f133c (k:=k + 9) z.mx (by rw [List.length_append]; omega) S5) ?_
 rintro ⟨v6,h6⟩ S6
 with_reducible refine Tl.chk ?_ ?_
 ·simp only [ld39,ld134,ld120,Nat.zero_add,a0,a1,a2,a3,c0,c1,c2,c3,d0,d1,d2,d3,e0,e1,e2,e3,Option.map_some,aggC,sameO_some,sameC,sameF,Bool.and_self,Bool.not_true,Bool.or_true,Bool.true_and,Bool.false_or]
 refine ⟨_,rfl,?_⟩
 rw [← List.append_assoc]
 exact S6.drop.drop
theorem lenW (c : CellD) (hc : c.s.size ≤ 2 ^ 20) : (oneW c).length ≤ 2 ^ 21:=by
 unfold oneW
 have:=pvarN_le10 (n:=c.s.size) (by omega)
 rw [List.length_append,bytesN_len]; omega
/-- 'zone'. -/
theorem zoneW_c {k : Nat} {v : Value} {l : List Nat} (z : ZoneD) (hc : z.mn.s.size ≤ 2 ^ 20) (hd : z.mx.s.size ≤ 2 ^ 20) (hl : l.length ≤ 2 ^ 26) (S : Stt prog n0 h0 h L ((v,1,u8rows l) :: O)) :
  Tl (eInv env (k + 31) (.method "shadowbook/segment.zone") #[] #[.iface 148 (.agg codWL.toArray), v, zv z] h) fun r => Stt prog n0 h0 r.2 L ((r.1, 1, u8rows (l ++ (oneW z.mn ++ oneW z.mx))) :: O) := by
 rw [show eInv env (k + 31) (.method "shadowbook/segment.zone") #[] #[.iface 148 (.agg codWL.toArray), v, zv z] h = F270 (eInv env (k + 30)) (k + 30) (.agg codWL.toArray) v (zv z) h from
  (by kernel_rfl : _ = eFun env (k + 30) (eInv env (k + 30)) 270 #[.agg codWL.toArray,v,zv z] h).trans F270_eq]
 unfold F270
 have q1:=lenW z.mn hc
 refine Tl.box' S rfl isW fun b3 h1 S1 _=>?_
 refine Tl.box' S1 rfl isZ fun b5 h2 S2 _=>?_
 have S2 : Stt prog n0 h0 h2 (Zr b5 z :: (b3,.cells codWL 148 true) :: L) ((v,1,u8rows l) :: O):=S2
 have F0 : ∀ {h' : AH} {O' : List OS},Stt prog n0 h0 h' (Zr b5 z :: (b3,.cells codWL 148 true) :: L) O'→h'.cell b3 0 = some (.func (.func 138) #[] #[]) ∧ h'.cell b3 2 = some (.func (.func 140) #[] #[]) ∧ h'.row b5 2 3 = some (crow z.mn) ∧ h'.row b5 5 3 = some (crow z.mx):=fun T=>⟨T.cell 1 rfl rfl,T.cell 1 rfl rfl,(z_at T 0 rfl).mn,(z_at T 0 rfl).mx⟩
 obtain ⟨a0,a1,a2,a3⟩:=F0 S2
 with_reducible repeat (first | (apply qzV; simp (disch:=omega) only [zA,bzS2.1,a0,a1,a2,a3] <;> rfl) | apply qzT | apply qzF | (apply qzB; simp (disch:=omega) only [zA,bzS2.1,a0,a1,a2,a3] <;> rfl))
 rw [callV_fn1]
 with_reducible refine Tl.call' S2 (f138c (k:=k + 29) z.mn h2) fun h3 S3 _=>?_
 obtain ⟨c0,c1,c2,c3⟩:=F0 S3
 rw [callV_fn2]
 refine Tl.bind (f140c (k:=k + 9) z.mn (by omega) (by omega) S3) ?_
 rintro ⟨v4,h4⟩ S4
 obtain ⟨d0,d1,d2,d3⟩:=F0 S4
 with_reducible repeat (first | (apply qzV; simp (disch:=omega) only [zA,bzS2.1,d0,d1,d2,d3] <;> rfl) | apply qzT | apply qzF | (apply qzB; simp (disch:=omega) only [zA,bzS2.1,d0,d1,d2,d3] <;> rfl))
 rw [callV_fn1]
 with_reducible refine Tl.call' S4 (f138c (k:=k + 29) z.mx h4) fun h5 S5 _=>?_
 obtain ⟨e0,e1,e2,e3⟩:=F0 S5
 rw [callV_fn2]
 refine Tl.bind (f140c (k:=k + 9) z.mx (by omega) (by rw [List.length_append]; omega) S5) ?_
 rintro ⟨v6,h6⟩ S6
 with_reducible refine Tl.chk ?_ ?_
 ·simp only [ld39,ld142,ld143,Nat.zero_add,a0,a1,a2,a3,c0,c1,c2,c3,d0,d1,d2,d3,e0,e1,e2,e3,Option.map_some,aggC,sameO_some,sameC,sameF,Bool.and_self,Bool.not_true,Bool.or_true,Bool.true_and,Bool.false_or]
 refine ⟨_,rfl,?_⟩
 rw [← List.append_assoc]
 exact S6.drop.drop
end
end Go.Proofs.YtlbmlncdjkdoaaaGreat.Sh
/- Bytes as texts, held against each other; the first so many. -/
set_option linter.unusedVariables false
set_option linter.unusedSimpArgs false
set_option maxRecDepth 100000
namespace Go.Proofs.YtlbmlncdjkdoaaaGreat.Sh
open Go Go.RowKit Go.Proofs.Ev
open Tryz (prog)
theorem bytesOf_u8 (l : List Nat) : bytesOf (l.map u8v) = some (l.map UInt8.ofNat):=by
 induction l with
 | nil=>rfl
 | cons x l ih=>simp only [List.map_cons,u8v] at ih ⊢; unfold bytesOf; rw [ih]; simp
def strB (l : List Nat) : ByteArray:=⟨(l.map UInt8.ofNat).toArray⟩
theorem strB_inj {l m : List Nat} (hl : ∀ x ∈ l,x < 256) (hm : ∀ x ∈ m,x < 256) (h : strB l = strB m) : l = m:=by
 have h1 : l.map UInt8.ofNat = m.map UInt8.ofNat:=by
  have:=congrArg (fun b=>b.data.toList) h
  simpa [strB] using this
 have key : ∀ l : List Nat,(∀ x ∈ l,x < 256)→(l.map UInt8.ofNat).map UInt8.toNat = l:=fun l hl=>by
  rw [List.map_map]
  conv=>rhs; rw [← List.map_id l]
  refine List.map_congr_left fun x hx=>?_
  simp [hl x hx,Nat.mod_eq_of_lt]
 rw [← key l hl,← key m hm,h1]
theorem convB {h : AH} {v : Value} {l : List Nat} (S : Bytes h v l) : pConv prog 93 9 v h = some (.string (strB l)):=by
 rcases S with ⟨rfl,q⟩ | ⟨b,off,cap,own,rfl,h2,L⟩
 ·have : l = []:=by simpa using q
  subst this
  unfold pConv
  have : plain (.slice none 0 0) = true:=rfl
  simp only [this,if_true,u9,el93,Option.bind_some,u5]
  rfl
 ·unfold pConv
  have : plain (.slice (some ⟨b,off,none⟩) (l.map fun x=>[u8v x]).length cap) = false:=rfl
  simp only [this,Bool.false_eq_true,if_false,u9,el93,u5,List.length_map]
  by_cases hl : l = []
  ·subst hl
   have p0 : plain (.slice (some ⟨b,off,none⟩) ([] : List Nat).length cap) = false:=rfl
   simp only [p0,Bool.false_eq_true,if_false,List.length_nil,if_true]
   rfl
  ·have hne : l.length ≠ 0:=by simpa using hl
   rw [if_neg hne]
   have:=L.flat (by simpa using hl)
   rw [List.length_map,Nat.mul_one,flat_u8] at this
   rw [this]
   simp only [bytesOf_u8,Option.map_some]
   rfl
end Go.Proofs.YtlbmlncdjkdoaaaGreat.Sh
/- Codecs: how values are read; 'ends'. -/
set_option linter.unusedVariables false
set_option linter.unusedSimpArgs false
set_option maxRecDepth 100000
namespace Go.Proofs.YtlbmlncdjkdoaaaGreat.Sh
open Go Go.RowKit Go.Proofs.Ev Go.Lib
def endG {α : Type} (rd : List Nat→Option (α × List Nat)) (mk : α→CellD) (r : List Nat) : Option (CellD × CellD × List Nat):=match rd r with
 | none=>none
 | some (a,r1)=>match rd r1 with
  | none=>none
  | some (b,r2)=>some (mk a,mk b,r2)
def mkN (z : Int) : CellD:=⟨1,z,.empty⟩
def mkT (n : Nat) : CellD:=⟨2,IntKind.i64.wrap (n : Int),.empty⟩
def mkW (s : ByteArray) : CellD:=⟨3,0,s⟩
def rdN (r : List Nat) : Option (Int × List Nat):=if r.length < 8 then none else some (IntKind.i64.wrap (ofB (r.take 8) : Int),r.drop 8)
def rdT (r : List Nat) : Option (Nat × List Nat):=if r.length < 1 then none else some (ofB (r.take 1),r.drop 1)
def rdW (r : List Nat) : Option (ByteArray × List Nat):=match dec 0 0 r with
 | none=>none
 | some (n,r1)=>if n > 65536 then none else if r1.length < n then none else some (strB (r1.take n),r1.drop n)
section
variable {n0 : Nat} {h0 h : AH} {L : List (Nat × AO)} {O : List OS} {i br : Nat} {rv : Value} {rest : List Nat}
def endN (r : List Nat) : Option (CellD × CellD × List Nat):=endG rdN mkN r
def endT (r : List Nat) : Option (CellD × CellD × List Nat):=endG rdT mkT r
def endW (r : List Nat) : Option (CellD × CellD × List Nat):=endG rdW mkW r
end
end Go.Proofs.YtlbmlncdjkdoaaaGreat.Sh
/- Words of texts. -/
set_option linter.unusedVariables false
set_option linter.unusedSimpArgs false
set_option maxRecDepth 100000
namespace Go.Proofs.YtlbmlncdjkdoaaaGreat.Sh
open Go Go.RowKit Go.Proofs.Ev
open Tryz (prog)
def bzXb:=PLift.up (ai @ld3 (ai @ld9 (ai @ld27 (@Nat.add_zero))))
theorem mapTS : mapT prog 238 = some (9,239):=by kernel_rfl
theorem bd_unit : pBuild prog 239 #[] = some (.agg #[]):=by kernel_rfl
section
variable {β : Type} {Q : β→Prop} {n0 : Nat} {h0 h : AH} {L : List (Nat × AO)} {O : List OS}
theorem Tl.insS {m : Nat} {ks : List ByteArray} {x : ByteArray} {K : Value × AH→Option β} (S : Stt prog n0 h0 h ((m,.map (entsS (.agg #[]) 0 ks) ks.length) :: L) O)
  (hk : ∀ h',Stt prog n0 h0 h' ((m,.map (entsS (.agg #[]) 0 (insT ks x)) (insT ks x).length) :: L) O→Tl (K (unk,h')) Q) : Tl (bnd (kSt (pUpdate prog 238 (.map (some m)) (.string x) (.agg #[]) h)) K) Q:=by
 unfold Ev.insT at hk
 by_cases q : x ∈ ks
 ·rw [if_pos q] at hk
  obtain ⟨j,_,h2,h3⟩:=findS_yes (z:=.agg #[]) x ks 0 0 q
  have e : pUpdate prog 238 (.map (some m)) (.string x) (.agg #[]) h = some (h.set m (.map (entsS (.agg #[]) 0 ks) ks.length)):=by
   have hkn : kn (.agg #[]) = true:=rfl
   unfold pUpdate
   simp only [mapTS,u9,S.sta.mem.at_ (i:=0) rfl,keyOk,hkn,Bool.and_self,if_true,h2]
   rw [Nat.sub_zero] at h3
   rw [h3]
  rw [e]
  exact hk _ (S.set 0 rfl _)
 ·rw [if_neg q] at hk
  refine Tl.upd S 0 rfl mapTS u9 rfl rfl (findS_no x ks 0 0 q) fun h' S'=>hk h' ?_
  have e:=entsS_snoc (z:=.agg #[]) x ks 0
  rw [Nat.zero_add] at e
  rw [e,List.length_append]
  exact S'
theorem f205_loop {inv : Inv} {k : Nat} {m : Nat} {v : Value} {l : List ByteArray} (A : Strs h0 v l) (hl : l.length ≤ 2 ^ 40) {ke0 : Value→Value→Value→Value→Value→AH→Option β} (n : Nat) :
  ∀ {i j : Nat} {ks : List ByteArray} {h : AH},i + n = l.length→n < j→Stt prog h0.n h0 h ((m,.map (entsS (.agg #[]) 0 ks) ks.length) :: L) O →
   (∀ y1 y2 y3 y4 h',Stt prog h0.n h0 h' ((m,.map (entsS (.agg #[]) 0 ((l.drop i).foldl insT ks)) ((l.drop i).foldl insT ks).length) :: L) O→Tl (ke0 (.map (some m)) y1 y2 y3 y4 h') Q) →
   Tl (F205_lrlrr inv k j (.map (some m)) v (.int .i64 l.length) (.int .i64 i) h ke0) Q:=by
 induction n with
 | zero =>
  intro i j ks h hi hj S hk
  obtain ⟨j,rfl⟩ : ∃ q,j = q + 1:=⟨j - 1,by omega⟩
  simp only [F205_lrlrr]
  with_reducible repeat (first | (apply qzV; simp (disch:=omega) only [zA,bzXb.1] <;> rfl) | apply qzT | apply qzF | (apply qzB; simp (disch:=omega) only [zA,bzXb.1] <;> rfl))
  rw [List.drop_eq_nil_of_le (by omega)] at hk
  exact hk _ _ _ _ _ S
 | succ n ih =>
  intro i j ks h hi hj S hk
  obtain ⟨j,rfl⟩ : ∃ q,j = q + 1:=⟨j - 1,by omega⟩
  obtain ⟨x,ex⟩ : ∃ x,l[i]? = some x:=⟨_,List.getElem?_eq_getElem (by omega)⟩
  obtain ⟨b,o,hp,hc⟩:=A.at_ (k:=.i64) ex
  have hc:=hc h S.grow
  have e : (i : Int) + 1 = ((i + 1 : Nat) : Int):=by omega
  have hd : l.drop i = x :: l.drop (i + 1):=by rw [List.drop_eq_getElem?_toList_append,ex]; rfl
  rw [hd,List.foldl_cons] at hk
  simp only [F205_lrlrr]
  with_reducible repeat (first | (apply qzV; simp (disch:=omega) only [zA,bzXb.1,hp,hc,bd_unit] <;> rfl) | apply qzT | apply qzF | (apply qzB; simp (disch:=omega) only [zA,bzXb.1,hp,hc,bd_unit] <;> rfl))
  refine Tl.insS S fun h' S'=>?_
  with_reducible repeat (first | (apply qzV; simp (disch:=omega) only [zA,bzXb.1] <;> rfl) | apply qzT | apply qzF | (apply qzB; simp (disch:=omega) only [zA,bzXb.1] <;> rfl))
  rw [e]
  exact ih (by omega) (by omega) S' hk
/-- Texts, each once, rising: in memory of their own. -/
theorem f205c {k : Nat} {v : Value} {l : List ByteArray} (S : Stt prog n0 h0 h L O) (A : Strs h v l) (hs : ∀ x ∈ l,x.size ≤ maxLen) (hl : l.length ≤ 2 ^ 40) (hk : l.length < k + 2) :
  Tl (eInv env (k + 3) (.func 205) #[] #[v] h) fun r=>Stt prog n0 h0 r.2 L ((r.1,1,srows (wordsB l)) :: O):=by
 rw [F205_call]
 unfold F205
 have hv : ∀ h',pLen prog #[27] v h' = some (.int .i64 l.length):=fun h'=>A.len
 refine Tl.mkmap (Stt.init h : Stt prog h.n h h [] []) mapTS fun m h1 S1 g1=>?_
 with_reducible repeat (first | (apply qzV; simp (disch:=omega) only [zA,bzXb.1,hv] <;> rfl) | apply qzT | apply qzF | (apply qzB; simp (disch:=omega) only [zA,bzXb.1,hv] <;> rfl))
 refine f205_loop (h0:=h) A hl l.length (i:=0) (ks:=[]) (by omega) (by omega) S1 fun y1 y2 y3 y4 h2 S2=>?_
 rw [List.drop_zero] at S2
 refine Tl.bind (R:=fun r=>∃ b,r.1 = .func (.func 224) #[] #[.pointer (some ⟨b,0,none⟩)] ∧ Stt prog h.n h r.2 ((b,.cells [.map (some m)] 238 true) :: (m,.map (entsS (.agg #[]) 0 (l.foldl insT [])) (l.foldl insT []).length) :: []) []) ?_ ?_
 ·rw [F218_call]
  unfold F218
  refine Tl.box' S2 rfl (by kernel_rfl) fun b h3 S3 _=>?_
  with_reducible repeat (first | (apply qzV; simp (disch:=omega) only [zA,bzXb.1,pMakeFunc,kn] <;> rfl) | apply qzT | apply qzF | (apply qzB; simp (disch:=omega) only [zA,bzXb.1,pMakeFunc,kn] <;> rfl))
  exact ⟨_,rfl,b,rfl,S3⟩
 rintro ⟨fv,h3⟩ ⟨b,rfl,S3⟩
 simp only at S3
 have hb : h3.get b = some (.cells [.map (some m)] 238 true):=S3.sta.mem.at_ (i:=0) rfl
 have hm : h3.get m = some (.map (entsS (.agg #[]) 0 (l.foldl insT [])) (l.foldl insT []).length):=S3.sta.mem.at_ (i:=1) rfl
 have hnd:=insTs_nodup l [] (by simp)
 have hlen:=insTs_len l []
 have hsz : ∀ s ∈ l.foldl insT [],s.size ≤ maxLen:=fun s q=>hs s (by have:=(insTs_mem (y:=s) l []).1 q; simpa using this)
 have hfine:=entsS_fine (z:=.agg #[]) hnd hsz (by simp at hlen; omega)
 have ek : keysO [224] 9 #[.func (.func 224) #[] #[.pointer (some ⟨b,0,none⟩)]] h3 = if (l.foldl insT []).isEmpty then some (.slice none 0 0,h3) else some (.slice (some ⟨h3.n,0,none⟩) (l.foldl insT []).length (l.foldl insT []).length,h3.alloc (.cells ((sortedT (l.foldl insT [])).map encStr) 9 true)):=by
  unfold keysO
  simp only [hb,hm,entsS_texts,Option.bind_some,hfine]
  exact if_pos (by decide)
 have ec : eInv env (k + 2) (.func 217) #[] #[.func (.func 224) #[] #[.pointer (some ⟨b,0,none⟩)]] h3 = _:=keys_call.trans ek
 have Sg : Stt prog n0 h0 h3 L O:=S.call S3.grow
 by_cases q : (l.foldl insT []) = []
 ·have e1 : (l.foldl insT []).isEmpty = true:=by rw [q]; rfl
  rw [e1,if_pos rfl] at ec
  with_reducible repeat (first | (apply qzV; simp (disch:=omega) only [zA,bzXb.1,ec] <;> rfl) | apply qzT | apply qzF | (apply qzB; simp (disch:=omega) only [zA,bzXb.1,ec] <;> rfl))
  have e2 : wordsB l = []:=by unfold wordsB; rw [q]; rfl
  refine ⟨_,rfl,?_⟩
  rw [e2]
  exact Sg.nil 1
 ·have e1 : (l.foldl insT []).isEmpty = false:=by simpa using q
  rw [e1,if_neg (by simp)] at ec
  with_reducible repeat (first | (apply qzV; simp (disch:=omega) only [zA,bzXb.1,ec] <;> rfl) | apply qzT | apply qzF | (apply qzB; simp (disch:=omega) only [zA,bzXb.1,ec] <;> rfl))
  refine ⟨_,rfl,?_⟩
  have el : (l.foldl insT []).length = (srows (wordsB l)).length:=by rw [srows_len,(wordsB_perm l).length_eq]
  have ew : (sortedT (l.foldl insT [])).map encStr = (srows (wordsB l)).flatten:=by
   rw [srows_flat]
   unfold wordsB
   rw [List.map_map]
   rfl
  have Sa:=Sg.alloc (.cells ((srows (wordsB l)).flatten) 9 true)
  rw [ew,el]
  exact Sa.absorb (srows_wide _) sz9
end
end Go.Proofs.YtlbmlncdjkdoaaaGreat.Sh
/- Texts by their words' numbers. -/
set_option linter.unusedVariables false
set_option linter.unusedSimpArgs false
set_option maxRecDepth 100000
namespace Go.Proofs.YtlbmlncdjkdoaaaGreat.Sh
open Go Go.RowKit Go.Proofs.Ev
open Tryz (prog)
def bzXd:=PLift.up (ai @ld3 (ai @ld9 (ai @ld27 (ai @ld93 (ai @ld121 (ai (fun a h=>conv_int (a:=a) (h:=h) u3 u121) (ai (fun a h=>conv_int (a:=a) (h:=h) u3 u5) (ai (fun a h=>conv_int (a:=a) (h:=h) u3 u101) (ai (fun a h=>conv_int (a:=a) (h:=h) u101 u3) (ai @Nat.add_zero (ai @ex2_0 (@ex2_1))))))))))))
/-! ### A word's number -/
theorem str_lt {x y : Operand} {a b : ByteArray} : pBin prog .lss 9 x y (.string a) (.string b) = some (.bool (decide (ltB a b))):=by
 have h1 : pBin prog .lss 9 x y (.string a) (.string b) = some (.bool (Op.bytesLess a.toList b.toList)):=rfl
 rw [h1,ByteArray.toList_eq,ByteArray.toList_eq,bytesLess_eq]
 rfl
theorem f225c {k : Nat} (s : ByteArray) (h : AH) : eInv env (k + 1) (.func 225) #[] #[.string s] h = some (.bool false,h):=by
 rw [F225_call]
 unfold F225
 rw [ne_s]
 simp
theorem f219c {k : Nat} (a b : ByteArray) (h : AH) : eInv env (k + 2) (.func 219) #[] #[.string a,.string b] h = some (.bool (decide (ltB a b)),h):=by
 have T : Tl (F219 (eInv env (k + 1)) (k + 1) (.string a) (.string b) h) fun r=>r = (.bool (decide (ltB a b)),h):=by
  unfold F219
  simp only [G219_1]
  have h1:=f225c (k:=k) a h
  have h2 : ∀ x y,pBin prog .lss 9 x y (.string a) (.string b) = some (.bool (decide (ltB a b))):=fun _ _=>str_lt
  with_reducible repeat (first | (apply qzV; simp (disch:=omega) only [zA,bzXd.1,h1,h2] <;> rfl) | apply qzT | apply qzF | apply qzG | ((first | apply qzB | apply qzC); simp (disch:=omega) only [zA,bzXd.1,h1,h2] <;> rfl))
  exact ⟨_,rfl,rfl⟩
 obtain ⟨r,h1,h2⟩:=T
 rw [F219_call,h1,h2]
theorem f206_loop {β : Type} {k : Nat} {Q : β→Prop} {h : AH} {wv x6 : Value} {w : List ByteArray} {s : ByteArray} {p : Nat} (W : Strs h wv w) (hw : w.length ≤ 2 ^ 40) (hr : w.Pairwise ltB) (hp : w[p]? = some s) {ke0 : Value→Value→Value→Value→Value→Value→AH→Option β} (hk : ∀ y1 y2,Tl (ke0 wv (.string s) x6 (.int .i64 p) y1 y2 h) Q) (n : Nat) :
  ∀ {lo hi j : Nat},hi ≤ lo + n→n < j→lo ≤ p→p ≤ hi→hi ≤ w.length→Tl (F206_llrrr (eInv env (k + 2)) (k + 2) j wv (.string s) x6 (.int .i64 lo) (.int .i64 hi) h ke0) Q:=by
 induction n with
 | zero =>
  intro lo hi j hn hj h1 h2 h3
  obtain ⟨j,rfl⟩ : ∃ q,j = q + 1:=⟨j - 1,by omega⟩
  obtain rfl : lo = p:=by omega
  simp only [F206_llrrr]
  with_reducible repeat (first | (apply qzV; simp (disch:=omega) only [zA,bzXd.1] <;> rfl) | apply qzT | apply qzF | apply qzG | ((first | apply qzB | apply qzC); simp (disch:=omega) only [zA,bzXd.1] <;> rfl))
  exact hk _ _
 | succ n ih =>
  intro lo hi j hn hj h1 h2 h3
  obtain ⟨j,rfl⟩ : ∃ q,j = q + 1:=⟨j - 1,by omega⟩
  by_cases q : lo < hi
  ·obtain ⟨m,hm⟩ : ∃ m,m = (lo + hi) / 2:=⟨_,rfl⟩
   have hmlt : m < w.length:=by omega
   obtain ⟨x,ex⟩ : ∃ x,w[m]? = some x:=⟨_,List.getElem?_eq_getElem hmlt⟩
   obtain ⟨b,o,hpp,hc⟩:=W.at_ (k:=.i64) ex
   have hc:=hc h (Grow.refl _)
   have sh : ∀ t a b,pBin prog Go.BinOp.shr t a b (.int .u64 ((lo : Int) + (hi : Int))) (.int .u64 1) = some (.int .u64 (m : Int)):=fun t a b=>by
    rw [shr_nn (by decide)]
    have h2 : min (1 : Int).toNat IntKind.u64.bits = 1:=by decide
    rw [h2,Int.fdiv_eq_ediv_of_nonneg _ (by decide)]
    have : (2 : Int) ^ 1 = 2:=by decide
    rw [this]
    congr 2
    omega
   have hl:=f219c (k:=k) x s h
   have e : (m : Int) + 1 = ((m + 1 : Nat) : Int):=by omega
   have hps:=(List.getElem?_eq_some_iff.1 hp)
   have hms:=(List.getElem?_eq_some_iff.1 ex)
   obtain ⟨lp,es⟩:=hps
   obtain ⟨lm,exx⟩:=hms
   simp only [F206_llrrr]
   by_cases q2 : m < p
   ·have hlt : ltB x s:=by rw [← es,← exx]; exact List.pairwise_iff_getElem.1 hr _ _ lm lp q2
    rw [decide_eq_true hlt] at hl
    with_reducible repeat (first | (apply qzV; simp (disch:=omega) only [zA,bzXd.1,sh,hpp,hc,hl] <;> rfl) | apply qzT | apply qzF | apply qzG | ((first | apply qzB | apply qzC); simp (disch:=omega) only [zA,bzXd.1,sh,hpp,hc,hl] <;> rfl))
    rw [e]
    exact ih (by omega) (by omega) (by omega) h2 h3
   ·have hnlt : ¬ ltB x s:=by
     by_cases q3 : m = p
     ·subst q3
      rw [hp] at ex
      cases ex
      exact ltB_irrefl _
     ·have : ltB s x:=by rw [← es,← exx]; exact List.pairwise_iff_getElem.1 hr _ _ lp lm (by omega)
      exact fun h=>ltB_irrefl _ (ltB_trans h this)
    rw [decide_eq_false hnlt] at hl
    with_reducible repeat (first | (apply qzV; simp (disch:=omega) only [zA,bzXd.1,sh,hpp,hc,hl] <;> rfl) | apply qzT | apply qzF | apply qzG | ((first | apply qzB | apply qzC); simp (disch:=omega) only [zA,bzXd.1,sh,hpp,hc,hl] <;> rfl))
    exact ih (by omega) (by omega) h1 (by omega) (by omega)
  ·obtain rfl : lo = p:=by omega
   simp only [F206_llrrr]
   with_reducible repeat (first | (apply qzV; simp (disch:=omega) only [zA,bzXd.1] <;> rfl) | apply qzT | apply qzF | apply qzG | ((first | apply qzB | apply qzC); simp (disch:=omega) only [zA,bzXd.1] <;> rfl))
   exact hk _ _
theorem f206c {k : Nat} {h : AH} {wv : Value} {w : List ByteArray} {s : ByteArray} {p : Nat} (W : Strs h wv w) (hw : w.length ≤ 2 ^ 40) (hr : w.Pairwise ltB) (hp : w[p]? = some s) (hk : w.length < k + 2) :
  eInv env (k + 3) (.func 206) #[] #[wv,.string s] h = some (.tuple #[.int .i64 p,.bool true],h):=by
 have hlt:=(List.getElem?_eq_some_iff.1 hp).1
 have T : Tl (F206 (eInv env (k + 2)) (k + 2) wv (.string s) h) fun r=>r = (.tuple #[.int .i64 p,.bool true],h):=by
  unfold F206
  have hv : ∀ h',pLen prog #[27] wv h' = some (.int .i64 w.length):=fun h'=>W.len
  with_reducible repeat (first | (apply qzV; simp (disch:=omega) only [zA,bzXd.1,hv] <;> rfl) | apply qzT | apply qzF | apply qzG | ((first | apply qzB | apply qzC); simp (disch:=omega) only [zA,bzXd.1,hv] <;> rfl))
  refine f206_loop (k:=k) W hw hr hp (fun y1 y2=>?_) w.length (lo:=0) (by omega) (by omega) (by omega) (by omega) (by omega)
  obtain ⟨b,o,hpp,hc⟩:=W.at_ (k:=.i64) hp
  have hc:=hc h (Grow.refl _)
  have hq : ∀ ox oy,pBin prog .eql 9 ox oy (.string s) (.string s) = some (.bool true):=fun ox oy=>by rw [eq_s]; simp
  simp only [G206_8]
  with_reducible repeat (first | (apply qzV; simp (disch:=omega) only [zA,bzXd.1,hpp,hc,hq] <;> rfl) | apply qzT | apply qzF | apply qzG | ((first | apply qzB | apply qzC); simp (disch:=omega) only [zA,bzXd.1,hpp,hc,hq] <;> rfl))
  exact ⟨_,rfl,rfl⟩
 obtain ⟨r,h1,h2⟩:=T
 rw [F206_call,h1,h2]
/-! ### 'Dict' -/
def posS (w : List ByteArray) (s : ByteArray) : Nat:=w.findIdx fun x=>decide (x = s)
theorem posS_at {w : List ByteArray} {s : ByteArray} (h : s ∈ w) : w[posS w s]? = some s:=by
 have h1 : w.findIdx (fun x=>decide (x = s)) < w.length:=List.findIdx_lt_length_of_exists ⟨s,h,by simp⟩
 have h2:=List.findIdx_getElem (p:=fun x=>decide (x = s)) (w:=h1)
 simp only [decide_eq_true_eq] at h2
 unfold posS
 rw [List.getElem?_eq_getElem h1,h2]
theorem posS_lt {w : List ByteArray} {s : ByteArray} (h : s ∈ w) : posS w s < w.length:=(List.getElem?_eq_some_iff.1 (posS_at h)).1
def atW (l : List ByteArray) : List Nat:=l.map (posS (wordsB l))
def widW (l : List ByteArray) : Nat:=Pk.widthN (atW l)
def dictT (l : List ByteArray) : List Nat:=[2] ++ pvarN l.length ++ pvarN (wordsB l).length ++ (wordsB l).flatMap textP ++ [widW l] ++ putN (widW l) (atW l)
def dictG (l : List ByteArray) : List Nat:=if mayT l then dictT l else []
theorem atW_lt {l : List ByteArray} : ∀ x ∈ atW l,x < l.length:=fun x hx=>by
 obtain ⟨s,hs,rfl⟩:=List.mem_map.1 hx
 have:=posS_lt (wordsB_mem.2 hs)
 have:=wordsB_len l
 omega
section
variable {β : Type} {Q : β→Prop} {n0 : Nat} {h0 h : AH} {L : List (Nat × AO)} {O : List OS}
theorem f179_l1 {k : Nat} {wv x0 x5 : Value} {w : List ByteArray} (hl : w.length ≤ 4096) (hs : ∀ x ∈ w,x.size ≤ 65536) {ke0 : Value→Value→Value→Value→Value→Value→Value→AH→Option β} (n : Nat) :
  ∀ {i j : Nat} {h : AH} {ov : Value} {out : List Nat},i + n = w.length→n < j→out.length ≤ 40 + i * 65546→Stt prog n0 h0 h L ((ov,1,u8rows out) :: (wv,1,srows w) :: O) →
   (∀ h' y y1 y2,Stt prog n0 h0 h' L ((y,1,u8rows (out ++ (w.drop i).flatMap textP)) :: (wv,1,srows w) :: O)→(out ++ (w.drop i).flatMap textP).length ≤ 40 + w.length * 65546→Tl (ke0 x0 x5 y wv (.int .i64 w.length) y1 y2 h') Q) →
   Tl (F179_lrlrrrr (eInv env (k + 21)) (k + 21) j x0 x5 ov wv (.int .i64 w.length) (.int .i64 i) h ke0) Q:=by
 induction n with
 | zero =>
  intro i j h ov out hi hj ho S hk
  obtain ⟨j,rfl⟩ : ∃ q,j = q + 1:=⟨j - 1,by omega⟩
  simp only [F179_lrlrrrr]
  with_reducible repeat (first | (apply qzV; simp (disch:=omega) only [zA,bzXd.1] <;> rfl) | apply qzT | apply qzF | (apply qzB; simp (disch:=omega) only [zA,bzXd.1] <;> rfl))
  obtain rfl : i = w.length:=by omega
  rw [List.drop_eq_nil_of_le (Nat.le_refl _)] at hk
  simp only [List.flatMap_nil,List.append_nil] at hk
  exact hk _ _ _ _ S ho
 | succ n ih =>
  intro i j h ov out hi hj ho S hk
  obtain ⟨j,rfl⟩ : ∃ q,j = q + 1:=⟨j - 1,by omega⟩
  obtain ⟨x,ex⟩ : ∃ x,w[i]? = some x:=⟨_,List.getElem?_eq_getElem (by omega)⟩
  obtain ⟨b,o,hp,hc⟩:=(Stt.strs S 1 rfl).at_ (k:=.i64) ex
  have hc:=hc h (Grow.refl _)
  have hx:=hs x (List.mem_of_getElem? ex)
  have hd : w.drop i = x :: w.drop (i + 1):=by rw [List.drop_eq_getElem?_toList_append,ex]; rfl
  have e : (i : Int) + 1 = ((i + 1 : Nat) : Int):=by omega
  simp only [F179_lrlrrrr]
  with_reducible repeat (first | (apply qzV; simp (disch:=omega) only [zA,bzXd.1,hp,hc] <;> rfl) | apply qzT | apply qzF | (apply qzB; simp (disch:=omega) only [zA,bzXd.1,hp,hc] <;> rfl))
  have him : i * 65546 ≤ 4096 * 65546:=Nat.mul_le_mul_right _ (by omega)
  refine Tl.bind (f204c (k:=k) (s:=x) (by omega) (by omega) S) ?_
  rintro ⟨v',h'⟩ S'
  simp only at S'
  have ht:=textP_len x (by omega)
  with_reducible repeat (first | (apply qzV; simp (disch:=omega) only [zA,bzXd.1] <;> rfl) | apply qzT | apply qzF | (apply qzB; simp (disch:=omega) only [zA,bzXd.1] <;> rfl))
  rw [e]
  rw [hd,List.flatMap_cons,← List.append_assoc] at hk
  exact ih (out:=out ++ textP x) (by omega) (by omega) (by rw [List.length_append,Nat.succ_mul]; omega) S' hk
theorem f179_l2 {k : Nat} {v wv x6 : Value} {l w : List ByteArray} {O : List OS} {out : List (List Value)} (A : Strs h0 v l) (hl : l.length ≤ 4096) (hw : w.length ≤ 4096) (hr : w.Pairwise ltB) (hm : ∀ x ∈ l,x ∈ w) (hk' : w.length < k + 2) {ke0 : Value→Value→Value→Value→Value→Value→Value→AH→Option β} (n : Nat) :
  ∀ {i j : Nat} {h : AH} {ov : Value} {done : List Nat},i + n = l.length→n < j→done.length = i→Stt prog h0.n h0 h L ((ov,1,u64rows done) :: (x6,1,out) :: (wv,1,srows w) :: O) →
   (∀ h' y y1 y2,Stt prog h0.n h0 h' L ((y,1,u64rows (done ++ (l.drop i).map (posS w))) :: (x6,1,out) :: (wv,1,srows w) :: O)→Tl (ke0 wv x6 y v (.int .i64 l.length) y1 y2 h') Q) →
   Tl (F179_lrlrrrrrr (eInv env (k + 3)) (k + 3) j wv x6 ov v (.int .i64 l.length) (.int .i64 i) h ke0) Q:=by
 induction n with
 | zero =>
  intro i j h ov done hi hj hd S hk
  obtain ⟨j,rfl⟩ : ∃ q,j = q + 1:=⟨j - 1,by omega⟩
  simp only [F179_lrlrrrrrr]
  with_reducible repeat (first | (apply qzV; simp (disch:=omega) only [zA,bzXd.1] <;> rfl) | apply qzT | apply qzF | (apply qzB; simp (disch:=omega) only [zA,bzXd.1] <;> rfl))
  rw [List.drop_eq_nil_of_le (by omega)] at hk
  exact hk _ _ _ _ (by simpa using S)
 | succ n ih =>
  intro i j h ov done hi hj hd S hk
  obtain ⟨j,rfl⟩ : ∃ q,j = q + 1:=⟨j - 1,by omega⟩
  obtain ⟨x,ex⟩ : ∃ x,l[i]? = some x:=⟨_,List.getElem?_eq_getElem (by omega)⟩
  obtain ⟨b,o,hp,hc⟩:=A.at_ (k:=.i64) ex
  have hc:=hc h S.grow
  have hx:=hm x (List.mem_of_getElem? ex)
  have hbs:=f206c (k:=k) (Stt.strs S 2 rfl) (by omega) hr (posS_at hx) hk'
  have hlt:=posS_lt hx
  have hdr : l.drop i = x :: l.drop (i + 1):=by rw [List.drop_eq_getElem?_toList_append,ex]; rfl
  have e : (i : Int) + 1 = ((i + 1 : Nat) : Int):=by omega
  simp only [F179_lrlrrrrrr]
  with_reducible repeat (first | (apply qzV; simp (disch:=omega) only [zA,bzXd.1,hp,hc,hbs] <;> rfl) | apply qzT | apply qzF | (apply qzB; simp (disch:=omega) only [zA,bzXd.1,hp,hc,hbs] <;> rfl))
  refine Tl.push S 0 rfl app124 (bs124 _ _) rfl rfl (by rw [u64rows_len]; omega) fun v' h' S'=>?_
  with_reducible repeat (first | (apply qzV; simp (disch:=omega) only [zA,bzXd.1] <;> rfl) | apply qzT | apply qzF | (apply qzB; simp (disch:=omega) only [zA,bzXd.1] <;> rfl))
  rw [e]
  rw [hdr,List.map_cons] at hk
  refine ih (done:=done ++ [posS w x]) (by omega) (by omega) (by simp [hd]) (by simpa [u64rows,u64v] using S') fun h' y y1 y2 S''=>hk h' y y1 y2 ?_
  simpa using S''
theorem f179c {k : Nat} {h : AH} {v : Value} {l : List ByteArray} (A : Strs h v l) (hl : l.length ≤ 9223372036854775807) (hk : 4096 < k) :
  Tl (eInv env (k + 400) (.func 179) #[] #[v] h) fun r=>∃ v',r.1 = .tuple #[v',.int .i64 (checkT l)] ∧ Stt prog h.n h r.2 [] [(v',1,u8rows (dictG l))]:=by
 rw [F179_call]
 unfold F179
 have hc:=f203c (k:=k + 395) A hl (by omega)
 have ll : ∀ h',pLen prog #[27] v h' = some (.int .i64 l.length):=fun h'=>A.len
 unfold checkT dictG at *
 cases q : mayT l
 ·rw [q] at hc
  simp only [Bool.false_eq_true,if_false] at hc ⊢
  with_reducible repeat (first | (apply qzV; simp (disch:=omega) only [zA,bzXd.1,hc] <;> rfl) | apply qzT | apply qzF | (apply qzB; simp (disch:=omega) only [zA,bzXd.1,hc] <;> rfl))
  exact ⟨_,rfl,_,rfl,(Stt.init h).nil 1⟩
 rw [q] at hc
 simp only [if_true] at hc ⊢
 obtain ⟨q1,q2⟩:=mayT_spec.1 q
 have hwl:=wordsB_len l
 have hsm : ∀ x ∈ l,x.size ≤ maxLen:=fun x hx=>by have:=q2 x hx; unfold maxLen; omega
 have ha:=atW_lt (l:=l)
 have hal : (atW l).length = l.length:=List.length_map ..
 have ha64 : ∀ x ∈ atW l,x < 18446744073709551616:=fun x hx=>by have:=ha x hx; omega
 have hW:=Pk.width64 ha64
 have hE:=Pk.putE_of (l:=atW l) (W:=widW l) (by omega) (by unfold widW; exact hW) (Nat.le_refl _)
 with_reducible repeat (first | (apply qzV; simp (disch:=omega) only [zA,bzXd.1,hc] <;> rfl) | apply qzT | apply qzF | (apply qzB; simp (disch:=omega) only [zA,bzXd.1,hc] <;> rfl))
 refine Tl.bind (f205c (k:=k + 396) (Stt.init h) A hsm (by omega) (by omega)) ?_
 rintro ⟨wv,h1⟩ S1
 simp only at S1
 with_reducible repeat (first | (apply qzV; simp (disch:=omega) only [zA,bzXd.1,bs93,ll] <;> rfl) | apply qzT | apply qzF | (apply qzB; simp (disch:=omega) only [zA,bzXd.1,bs93,ll] <;> rfl))
 have S1a:=(show Stt prog h.n h (h1.alloc (.cells (u8rows [2]).flatten 5 true)) [(h1.n,.cells (u8rows [2]).flatten 5 true)] [(wv,1,srows (wordsB l))] from S1.alloc _).absorb (n:=1) (u8v_wide [2]) sz5
 refine Tl.bind (f86c (k:=k + 379) l.length (by omega) (by simp) S1a) ?_
 rintro ⟨o1,h2⟩ S2
 simp only at S2
 have lw : ∀ h',pLen prog #[27] wv h' = some (.int .i64 (wordsB l).length):=fun h'=>(Stt.strs S2 1 rfl).len
 have p1:=pvarN_le10 (n:=l.length) (by omega)
 have p2:=pvarN_le10 (n:=(wordsB l).length) (by omega)
 with_reducible repeat (first | (apply qzV; simp (disch:=omega) only [zA,bzXd.1,lw] <;> rfl) | apply qzT | apply qzF | (apply qzB; simp (disch:=omega) only [zA,bzXd.1,lw] <;> rfl))
 refine Tl.bind (f86c (k:=k + 379) (wordsB l).length (by omega) (by simp; omega) S2) ?_
 rintro ⟨o2,h3⟩ S3
 simp only at S3
 with_reducible repeat (first | (apply qzV; simp (disch:=omega) only [zA,bzXd.1,lw] <;> rfl) | apply qzT | apply qzF | (apply qzB; simp (disch:=omega) only [zA,bzXd.1,lw] <;> rfl))
 refine f179_l1 (k:=k + 378) (by omega) (fun x hx=>q2 x (wordsB_mem.1 hx)) (wordsB l).length (i:=0) (by omega) (by omega) (by simp; omega) S3 fun h4 o3 y1 y2 S4 hlen=>?_
 rw [List.drop_zero] at S4 hlen
 with_reducible repeat (first | (apply qzV; simp (disch:=omega) only [zA,bzXd.1,ll] <;> rfl) | apply qzT | apply qzF | (apply qzB; simp (disch:=omega) only [zA,bzXd.1,ll] <;> rfl))
 refine f179_l2 (k:=k + 396) (O:=[]) (A.grow (Grow.refl _)) q1 (by omega) (wordsB_rise l) (fun x hx=>wordsB_mem.2 hx) (by omega) l.length (i:=0) (done:=[]) (by omega) (by omega) rfl (S4.nil 1) fun h5 av y3 y4 S5=>?_
 rw [List.drop_zero,List.nil_append] at S5
 have Aw : Words h5 av (atW l):=S5.sl1 (f:=u64v) 0 rfl
 have wid : eInv env (k + 399) (.func 119) #[] #[av] h5 = some (.int .i64 (widW l),h5):=Pk.f15c (k:=k + 397) Aw.pk (by omega) ha64 (by omega)
 with_reducible repeat (first | (apply qzV; simp (disch:=omega) only [zA,bzXd.1,wid] <;> rfl) | apply qzT | apply qzF | (apply qzB; simp (disch:=omega) only [zA,bzXd.1,wid] <;> rfl))
 refine Tl.bind (f88c (k:=k + 98) Aw (by omega) (by omega) ha64 (widW l)) ?_
 rintro ⟨r,h6⟩ ⟨pv,er,g6,X6⟩
 simp only at er g6 X6
 subst er
 rw [hE]
 have eL : Pk.putL (atW l) (widW l) = putN (widW l) (atW l):=by
  unfold Pk.putL
  rw [if_pos hE]
  rfl
 rw [eL] at X6
 have S6:=S5.gain g6 X6
 have hW2 : widW l ≤ 64:=hW
 have hpn : (putN (widW l) (atW l)).length ≤ 100000:=by
  have:=(putN_spec (widW l) (atW l)).2.1
  rw [this,hal]
  have : l.length * widW l ≤ 4096 * 64:=Nat.mul_le_mul q1 hW2
  omega
 have hwm : (wordsB l).length * 65546 ≤ 4096 * 65546:=Nat.mul_le_mul_right _ (by omega)
 with_reducible repeat (first | (apply qzV; simp (disch:=omega) only [zA,bzXd.1] <;> rfl) | apply qzT | apply qzF | (apply qzB; simp (disch:=omega) only [zA,bzXd.1] <;> rfl))
 have S6:=S6.keepO (O':=[(pv,1,u8rows (putN (widW l) (atW l))),(o3,1,u8rows ([2] ++ pvarN l.length ++ pvarN (wordsB l).length ++ (wordsB l).flatMap textP))]) (by
  refine .cons_cons _ (.cons _ (.cons_cons _ (.cons _ .slnil)))) 
 refine Tl.push S6 1 rfl app93 (bs93 _ _) rfl rfl (by rw [u8rows_len]; omega) fun o4 h7 S7=>?_
 with_reducible repeat (first | (apply qzV; simp (disch:=omega) only [zA,bzXd.1] <;> rfl) | apply qzT | apply qzF | (apply qzB; simp (disch:=omega) only [zA,bzXd.1] <;> rfl))
 have S7 : Stt prog h.n h h7 [] [(pv,1,u8rows (putN (widW l) (atW l))),(o4,1,u8rows ([2] ++ pvarN l.length ++ pvarN (wordsB l).length ++ (wordsB l).flatMap textP ++ [widW l]))]:=by
  have e : u8rows ([2] ++ pvarN l.length ++ pvarN (wordsB l).length ++ (wordsB l).flatMap textP ++ [widW l]) = u8rows ([2] ++ pvarN l.length ++ pvarN (wordsB l).length ++ (wordsB l).flatMap textP) ++ [[.int .u8 (widW l : Int)]]:=by
   unfold u8rows
   rw [List.map_append]
   rfl
  rw [e]; exact S7
 refine Tl.append' S7 1 rfl app93 (S7.slV 0 rfl) (one_u8rows _) (by rw [u8rows_len,u8rows_len]; simp at hlen ⊢; omega) fun o5 h8 S8=>?_
 with_reducible repeat (first | (apply qzV; simp (disch:=omega) only [zA,bzXd.1] <;> rfl) | apply qzT | apply qzF | (apply qzB; simp (disch:=omega) only [zA,bzXd.1] <;> rfl))
 refine ⟨_,rfl,_,rfl,?_⟩
 have e : u8rows (dictT l) = u8rows ([2] ++ pvarN l.length ++ pvarN (wordsB l).length ++ (wordsB l).flatMap textP ++ [widW l]) ++ u8rows (putN (widW l) (atW l)):=by
  unfold dictT u8rows
  rw [List.map_append]
 rw [e]
 exact S8.keepO (.cons _ (.cons_cons _ .slnil))
end
end Go.Proofs.YtlbmlncdjkdoaaaGreat.Sh
/- Texts that are read: 'read', 'words'. -/
set_option linter.unusedVariables false
set_option linter.unusedSimpArgs false
set_option maxRecDepth 100000
namespace Go.Proofs.YtlbmlncdjkdoaaaGreat.Sh
open Go Go.RowKit Go.Proofs.Ev
def readT : Nat→List Nat→Option (List ByteArray × List Nat)
 | 0,r=>some ([],r)
 | n + 1,r=>match dec 0 0 r with
  | none=>none
  | some (s,r1)=>if s > 65536 ∨ r1.length < s then none else (readT n (r1.drop s)).map fun p=>(strB (r1.take s) :: p.1,p.2)
def lookT (w : List ByteArray) : List Nat→Option (List ByteArray)
 | []=>some []
 | i :: l=>match w[i]? with
  | none=>none
  | some s=>(lookT w l).map (s :: ·)
def wordsT (n : Nat) (r : List Nat) : Option (List ByteArray):=match dec 0 0 r with
 | none=>none
 | some (k,r1)=>if k > n then none else match readT k r1 with
  | none=>none
  | some (w,r2)=>match r2 with
   | []=>none
   | wd :: r3=>if Pk.checkE r3 (n : Int) (wd : Int) ≠ 0 then none else lookT w (Pk.getN r3 (n : Int) (wd : Int))
section
variable {n0 : Nat} {h0 h : AH} {L : List (Nat × AO)} {O : List OS} {i br : Nat} {rv : Value} {rest : List Nat}
end
end Go.Proofs.YtlbmlncdjkdoaaaGreat.Sh
/- Texts that are got: 'Get'. -/
set_option linter.unusedVariables false
set_option linter.unusedSimpArgs false
set_option maxRecDepth 100000
namespace Go.Proofs.YtlbmlncdjkdoaaaGreat.Sh
open Go Go.RowKit Go.Proofs.Ev
open Tryz (prog)
def bzXf:=PLift.up (ai @ld3 (ai @ld4 (ai @ld9 (ai @ld27 (ai @ld93 (ai @ld121 (ai @ld124 (ai (fun a h=>conv_int (a:=a) (h:=h) u3 u121) (ai (fun a h=>conv_int (a:=a) (h:=h) u121 u3) (ai (fun ox oy a b=>bin_eql_bool (ox:=ox) (oy:=oy) (a:=a) (b:=b) u4) (ai @Nat.add_zero (ai @ex2_0 (@ex2_1)))))))))))))
/-- What a form's texts are. -/
def formT (form n : Nat) (r1 : List Nat) : Option (List ByteArray):=if form = 1 then (readT n r1).map (·.1) else if form = 2 then wordsT n r1 else none
def putF (form : Nat) (l : List ByteArray) : List Nat:=if form = 1 then plainG l else dictG l
def getT (b : List Nat) : Option (List ByteArray):=match b with
 | []=>none
 | form :: r=>match dec 0 0 r with
  | none=>none
  | some (n,r1)=>if n > 4096 then none else match formT form n r1 with
   | none=>none
   | some l=>if putF form l = b then some l else none
theorem plainG_256 (l : List ByteArray) : ∀ x ∈ plainG l,x < 256:=fun x hx=>by
 unfold plainG at hx
 split at hx
 ·unfold plainT at hx
  rcases List.mem_cons.1 hx with rfl | hx
  ·omega
  ·rcases List.mem_append.1 hx with hx | hx
   ·exact pvarN_256 _ x hx
   ·obtain ⟨s,_,hs⟩:=List.mem_flatMap.1 hx
    unfold textP at hs
    rcases List.mem_append.1 hs with hs | hs
    ·exact pvarN_256 _ x hs
    ·exact bytesN_lt s x hs
 ·cases hx
theorem dictG_256 (l : List ByteArray) : ∀ x ∈ dictG l,x < 256:=fun x hx=>by
 unfold dictG at hx
 split at hx
 ·rename_i hm
  have hlen:=(mayT_spec.1 hm).1
  unfold dictT at hx
  simp only [List.mem_append,List.mem_singleton] at hx
  rcases hx with ((((hx | hx) | hx) | hx) | hx) | hx
  ·omega
  ·exact pvarN_256 _ x hx
  ·exact pvarN_256 _ x hx
  ·obtain ⟨s,_,hs⟩:=List.mem_flatMap.1 hx
   unfold textP at hs
   rcases List.mem_append.1 hs with hs | hs
   ·exact pvarN_256 _ x hs
   ·exact bytesN_lt s x hs
  ·have:=Pk.width64 (l:=atW l) fun y hy=>by have:=atW_lt y hy; omega
   unfold widW at hx
   omega
  ·exact (putN_spec _ _).2.2 x hx
 ·cases hx
section
variable {n0 : Nat} {h0 h : AH} {L : List (Nat × AO)} {O : List OS}
/-! ### 'Put' -/
def putT (l : List ByteArray) : List Nat:=if mayT l then (if (dictT l).length < (plainT l).length then dictT l else plainT l) else []
theorem plainT_le {l : List ByteArray} (h : mayT l = true) : (plainT l).length ≤ 2 ^ 30:=by
 obtain ⟨h1,h2⟩:=mayT_spec.1 h
 have key : ∀ l : List ByteArray,(∀ x ∈ l,x.size ≤ 65536)→(l.flatMap textP).length ≤ l.length * 65546:=by
  intro l
  induction l with
  | nil=>intro _; simp
  | cons x l ih =>
   intro h
   have a:=ih fun y hy=>h y (List.mem_cons_of_mem _ hy)
   have b:=textP_len x (by have:=h x (List.mem_cons_self ..); omega)
   have c:=h x (List.mem_cons_self ..)
   rw [List.flatMap_cons,List.length_append,List.length_cons,Nat.succ_mul]
   omega
 have:=key l h2
 have hm : l.length * 65546 ≤ 4096 * 65546:=Nat.mul_le_mul_right _ h1
 have hp:=pvarN_le10 (n:=l.length) (by omega)
 unfold plainT
 rw [List.length_cons,List.length_append]
 omega
theorem f143c {k : Nat} {h : AH} {v : Value} {l : List ByteArray} (A : Strs h v l) (hl : l.length ≤ 9223372036854775807) (hk : 4096 < k) :
  Tl (eInv env (k + 401) (.func 143) #[] #[v] h) fun r=>∃ v',r.1 = .tuple #[v',.int .i64 (checkT l)] ∧ Stt prog h.n h r.2 [] [(v',1,u8rows (putT l))]:=by
 rw [F143_call]
 unfold F143
 refine Tl.bind (f178c (k:=k + 378) A hl (by omega)) ?_
 rintro ⟨rr,h1⟩ ⟨pv,er,S1⟩
 simp only at er S1
 subst er
 unfold checkT plainG putT at *
 cases q : mayT l
 ·rw [q] at S1
  simp only [Bool.false_eq_true,if_false] at S1 ⊢
  with_reducible repeat (first | (apply qzV; simp (disch:=omega) only [zA,bzXf.1] <;> rfl) | apply qzT | apply qzF | apply qzG | ((first | apply qzB | apply qzC); simp (disch:=omega) only [zA,bzXf.1] <;> rfl))
  exact ⟨_,rfl,_,rfl,S1.dropO.nil 1⟩
 rw [q] at S1
 simp only [if_true] at S1 ⊢
 with_reducible repeat (first | (apply qzV; simp (disch:=omega) only [zA,bzXf.1] <;> rfl) | apply qzT | apply qzF | apply qzG | ((first | apply qzB | apply qzC); simp (disch:=omega) only [zA,bzXf.1] <;> rfl))
 refine Tl.bind (f179c (k:=k) (A.grow S1.grow) hl hk) ?_
 rintro ⟨rr,h2⟩ ⟨dv,er,S2⟩
 simp only at er S2
 subst er
 have S2:=S1.join S2
 unfold checkT dictG at *
 rw [q] at S2 ⊢
 simp only [if_true] at S2 ⊢
 have lp : ∀ h',pLen prog #[93] pv h' = some (.int .i64 (plainT l).length):=fun h'=>Bytes.len (S2.sl1 (f:=u8v) 1 rfl)
 have ld : ∀ h',pLen prog #[93] dv h' = some (.int .i64 (dictT l).length):=fun h'=>Bytes.len (S2.sl1 (f:=u8v) 0 rfl)
 simp only [G143_5]
 by_cases q2 : (dictT l).length < (plainT l).length
 ·rw [if_pos q2]
  with_reducible repeat (first | (apply qzV; simp (disch:=omega) only [zA,bzXf.1,lp,ld] <;> rfl) | apply qzT | apply qzF | apply qzG | ((first | apply qzB | apply qzC); simp (disch:=omega) only [zA,bzXf.1,lp,ld] <;> rfl))
  exact ⟨_,rfl,_,rfl,S2.keepO (.cons_cons _ (.cons _ .slnil))⟩
 ·rw [if_neg q2]
  with_reducible repeat (first | (apply qzV; simp (disch:=omega) only [zA,bzXf.1,lp,ld] <;> rfl) | apply qzT | apply qzF | apply qzG | ((first | apply qzB | apply qzC); simp (disch:=omega) only [zA,bzXf.1,lp,ld] <;> rfl))
  exact ⟨_,rfl,_,rfl,S2.keepO (.cons _ (.cons_cons _ .slnil))⟩
end
end Go.Proofs.YtlbmlncdjkdoaaaGreat.Sh
/- Codecs: 'cells'. -/
set_option linter.unusedVariables false
set_option linter.unusedSimpArgs false
set_option maxRecDepth 100000
namespace Go.Proofs.YtlbmlncdjkdoaaaGreat.Sh
open Go Go.RowKit Go.Proofs.Ev Go.Lib
open Tryz (prog)
def bzS3:=PLift.up (ai @ld3 (ai @ld2 (ai @ld9 (ai @ld121 (ai @ld39 (ai @ld53 (ai @ld126 (ai @ld134 (ai @ld142 (ai @ld127 (ai @ld120 (ai @ld143 (ai @ld129 (ai @ld137 (ai @ld145 (ai @fa132_0 (ai @fa132_2 (ai @fa132_4 (ai @fa140_0 (ai @fa140_2 (ai @fa140_4 (ai @fa148_0 (ai @fa148_2 (ai @fa148_4 (ai @fa39_0 (ai @fa39_1 (ai @fa39_2 (ai @fa53_0 (ai @fa53_1 (ai @fa53_2 (ai @fa53_3 (ai (fun a h=>conv_int (a:=a) (h:=h) u2 u121) (ai (fun a h=>conv_int (a:=a) (h:=h) u121 u2) (ai (fun a h=>conv_int (a:=a) (h:=h) u121 u5) (ai (fun a h=>conv_int (a:=a) (h:=h) u3 u121) (ai @aggC (ai @wrapU (ai @ex2_0 (ai @ex2_1 (@Nat.add_zero))))))))))))))))))))))))))))))))))))))))
section
variable {n0 : Nat} {h0 h : AH} {L : List (Nat × AO)} {O : List OS}
theorem f135c {k : Nat} {h : AH} {v : Value} {l : List Nat} (A : Words h v l) (hl : l.length ≤ 65536) (hlk : l.length < k + 299) (hx : ∀ x ∈ l,x < 18446744073709551616) :
  Tl (eInv env (k + 302) (.func 135) #[] #[v] h) fun r=>∃ o,r.1 = .tuple #[o,.int .i64 (Pk.putE l 1)] ∧ Grow h r.2 ∧ OwnB prog h.n r.2 o 1 (u8rows (Pk.putL l 1)):=by
 rw [F135_call]
 unfold F135
 refine Tl.bind (f88c (k:=k) A hl hlk hx 1) ?_
 rintro ⟨r,h1⟩ ⟨o,er,g,X⟩
 simp only at er g X
 subst er
 with_reducible repeat (first | (apply qzV; simp (disch:=omega) only [zA,bzS3.1] <;> rfl) | apply qzT | apply qzF | (apply qzB; simp (disch:=omega) only [zA,bzS3.1] <;> rfl))
 exact ⟨_,rfl,o,rfl,g,X⟩
def valsN (l : List CellD) : List Int:=l.map fun c=>c.i
theorem cellsN_loop {β : Type} {k : Nat} {Q : β→Prop} {h0 : AH} {b2 : Nat} {v : Value} {l : List CellD} (A : Cells h0 v l) (hl : l.length ≤ 4096) {ke0 : Value→Value→Value→Value→Value→Value→AH→Option β} (n : Nat) :
  ∀ {i j : Nat} {h : AH} {av : Value},i + n = l.length→n < j→Stt prog h0.n h0 h [(b2,.cells codNL 132 true)] [(av,1,i6rows (valsN (l.take i)))] →
   (∀ h' av' y11 y12,Stt prog h0.n h0 h' [(b2,.cells codNL 132 true)] [(av',1,i6rows (valsN l))]→Tl (ke0 (ptr b2) av' v (.int .i64 l.length) y11 y12 h') Q) →
   Tl (F260_lrlrr (eInv env (k + 1)) (k + 1) j (ptr b2) av v (.int .i64 l.length) (.int .i64 i) h ke0) Q:=by
 induction n with
 | zero =>
  intro i j h av hi hj T hk
  obtain ⟨j,rfl⟩ : ∃ q,j = q + 1:=⟨j - 1,by omega⟩
  simp only [F260_lrlrr]
  with_reducible repeat (first | (apply qzV; simp (disch:=omega) only [zA,bzS3.1] <;> rfl) | apply qzT | apply qzF | (apply qzB; simp (disch:=omega) only [zA,bzS3.1] <;> rfl))
  rw [List.take_of_length_le (by omega)] at T
  exact hk _ _ _ _ T
 | succ n ih =>
  intro i j h av hi hj T hk
  obtain ⟨j,rfl⟩ : ∃ q,j = q + 1:=⟨j - 1,by omega⟩
  obtain ⟨c,hc⟩ : ∃ c,l[i]? = some c:=⟨_,List.getElem?_eq_getElem (by omega)⟩
  obtain ⟨b,o,hx,hr⟩:=(A.grow T.grow).at_ hc
  have e : (i : Int) + 1 = ((i + 1 : Nat) : Int):=by omega
  have hti : l.take (i + 1) = l.take i ++ [c]:=by rw [List.take_add_one,hc]; rfl
  simp only [F260_lrlrr]
  unfold ptr
  with_reducible repeat (first | (apply qzV; simp (disch:=omega) only [zA,bzS3.1,hx,hr] <;> rfl) | apply qzT | apply qzF | (apply qzB; simp (disch:=omega) only [zA,bzS3.1,hx,hr] <;> rfl))
  refine Tl.alloc' T ze39 rfl fun b4 h1 T1 _=>?_
  refine Tl.store' T1 0 rfl sz39 rfl rfl (of_decide_eq_true rfl) fun h2 T2 _=>?_
  have T2 : Stt prog h0.n h0 h2 [Cr b4 c,(b2,.cells codNL 132 true)] [(av,1,i6rows (valsN (l.take i)))]:=T2
  obtain ⟨r4,_⟩:=c_at T2 0 rfl
  have q0:=T2.cell (o:=0) (v:=.func (.func 122) #[] #[]) 1 rfl rfl
  with_reducible repeat (first | (apply qzV; simp (disch:=omega) only [zA,bzS3.1,r4,q0] <;> rfl) | apply qzT | apply qzF | (apply qzB; simp (disch:=omega) only [zA,bzS3.1,r4,q0] <;> rfl))
  rw [callV_fn1]
  with_reducible refine Tl.call' T2 (f122c (k:=k) c h2) fun h3 T3 _=>?_
  refine Tl.push T3 0 rfl app163 (bs163 _ _) rfl rfl (by simp [i6rows,valsN]; omega) fun av' h5 T5=>?_
  with_reducible repeat (first | (apply qzV; simp (disch:=omega) only [zA,bzS3.1] <;> rfl) | apply qzT | apply qzF | (apply qzB; simp (disch:=omega) only [zA,bzS3.1] <;> rfl))
  rw [e]
  refine ih (by omega) (by omega) ?_ hk
  have e2 : i6rows (valsN (l.take i)) ++ [[i6v (c.i)]] = i6rows (valsN (l.take (i + 1))):=by rw [hti]; simp [i6rows,valsN]
  rw [← e2]
  exact T5.drop
/-- 'cells'. -/
theorem cellsN_c {k : Nat} {h : AH} {v : Value} {l : List CellD} (A : Cells h v l) (hl : l.length ≤ 4096) (hk : 4096 < k) :
  Tl (eInv env (k + 602) (.method "shadowbook/segment.cells") #[] #[.iface 132 (.agg codNL.toArray), v] h) fun r => ∃ o, r.1 = .tuple #[o, .int .i64 (0)] ∧ Stt prog h.n h r.2 [] [(o, 1, u8rows (putI (valsN l)))] := by
 rw [show eInv env (k + 602) (.method "shadowbook/segment.cells") #[] #[.iface 132 (.agg codNL.toArray), v] h = F260 (eInv env (k + 601)) (k + 601) (.agg codNL.toArray) v h from
  (by kernel_rfl : _ = eFun env (k + 601) (eInv env (k + 601)) 260 #[.agg codNL.toArray,v] h).trans F260_eq]
 unfold F260
 refine Tl.box' (Stt.init h) rfl isN fun b2 h1 S1 _=>?_
 have S1 : Stt prog h.n h h1 [(b2,.cells codNL 132 true)] []:=S1
 have hv : ∀ h' : AH,pLen prog #[34] v h' = some (.int .i64 l.length):=fun h'=>A.len
 with_reducible repeat (first | (apply qzV; simp (disch:=omega) only [zA,bzS3.1,hv] <;> rfl) | apply qzT | apply qzF | (apply qzB; simp (disch:=omega) only [zA,bzS3.1,hv] <;> rfl))
 refine cellsN_loop (k:=k + 600) (i:=0) A hl l.length (by omega) (by omega) (S1.nil 1) fun h2 av y11 y12 S2=>?_
 have q4:=S2.cell (o:=4) (v:=.func (.func 128) #[] #[]) 0 rfl rfl
 unfold ptr
 with_reducible repeat (first | (apply qzV; simp (disch:=omega) only [zA,bzS3.1,q4] <;> rfl) | apply qzT | apply qzF | (apply qzB; simp (disch:=omega) only [zA,bzS3.1,q4] <;> rfl))
 rw [callV_fn1]
 have B : Ints h2 av (valsN l):=S2.sl1 (f:=i6v) 0 rfl
 refine Tl.bind (f128s (k:=k + 100) B (by simp [valsN]; omega) (by simp [valsN]; omega)) ?_
 rintro ⟨r,h3⟩ ⟨o,er,X⟩
 simp only at er X
 subst er
 with_reducible repeat (first | (apply qzV; simp (disch:=omega) only [zA,bzS3.1] <;> rfl) | apply qzT | apply qzF | (apply qzB; simp (disch:=omega) only [zA,bzS3.1] <;> rfl))
 exact ⟨_,rfl,o,rfl,((S2.drop.join X).keepO (.cons_cons _ (List.nil_sublist _)))⟩
def valsT (l : List CellD) : List Nat:=l.map fun c=>toU c.i
theorem cellsT_loop {β : Type} {k : Nat} {Q : β→Prop} {h0 : AH} {b2 : Nat} {v : Value} {l : List CellD} (A : Cells h0 v l) (hl : l.length ≤ 4096) {ke0 : Value→Value→Value→Value→Value→Value→AH→Option β} (n : Nat) :
  ∀ {i j : Nat} {h : AH} {av : Value},i + n = l.length→n < j→Stt prog h0.n h0 h [(b2,.cells codTL 140 true)] [(av,1,u64rows (valsT (l.take i)))] →
   (∀ h' av' y11 y12,Stt prog h0.n h0 h' [(b2,.cells codTL 140 true)] [(av',1,u64rows (valsT l))]→Tl (ke0 (ptr b2) av' v (.int .i64 l.length) y11 y12 h') Q) →
   Tl (F264_lrlrr (eInv env (k + 1)) (k + 1) j (ptr b2) av v (.int .i64 l.length) (.int .i64 i) h ke0) Q:=by
 induction n with
 | zero =>
  intro i j h av hi hj T hk
  obtain ⟨j,rfl⟩ : ∃ q,j = q + 1:=⟨j - 1,by omega⟩
  simp only [F264_lrlrr]
  with_reducible repeat (first | (apply qzV; simp (disch:=omega) only [zA,bzS3.1] <;> rfl) | apply qzT | apply qzF | (apply qzB; simp (disch:=omega) only [zA,bzS3.1] <;> rfl))
  rw [List.take_of_length_le (by omega)] at T
  exact hk _ _ _ _ T
 | succ n ih =>
  intro i j h av hi hj T hk
  obtain ⟨j,rfl⟩ : ∃ q,j = q + 1:=⟨j - 1,by omega⟩
  obtain ⟨c,hc⟩ : ∃ c,l[i]? = some c:=⟨_,List.getElem?_eq_getElem (by omega)⟩
  obtain ⟨b,o,hx,hr⟩:=(A.grow T.grow).at_ hc
  have e : (i : Int) + 1 = ((i + 1 : Nat) : Int):=by omega
  have hti : l.take (i + 1) = l.take i ++ [c]:=by rw [List.take_add_one,hc]; rfl
  simp only [F264_lrlrr]
  unfold ptr
  with_reducible repeat (first | (apply qzV; simp (disch:=omega) only [zA,bzS3.1,hx,hr] <;> rfl) | apply qzT | apply qzF | (apply qzB; simp (disch:=omega) only [zA,bzS3.1,hx,hr] <;> rfl))
  refine Tl.alloc' T ze39 rfl fun b4 h1 T1 _=>?_
  refine Tl.store' T1 0 rfl sz39 rfl rfl (of_decide_eq_true rfl) fun h2 T2 _=>?_
  have T2 : Stt prog h0.n h0 h2 [Cr b4 c,(b2,.cells codTL 140 true)] [(av,1,u64rows (valsT (l.take i)))]:=T2
  obtain ⟨r4,_⟩:=c_at T2 0 rfl
  have q0:=T2.cell (o:=0) (v:=.func (.func 131) #[] #[]) 1 rfl rfl
  with_reducible repeat (first | (apply qzV; simp (disch:=omega) only [zA,bzS3.1,r4,q0] <;> rfl) | apply qzT | apply qzF | (apply qzB; simp (disch:=omega) only [zA,bzS3.1,r4,q0] <;> rfl))
  rw [callV_fn1]
  with_reducible refine Tl.call' T2 (f131c (k:=k) c h2) fun h3 T3 _=>?_
  refine Tl.push T3 0 rfl app124 (bs124 _ _) rfl rfl (by simp [u64rows,valsT]; omega) fun av' h5 T5=>?_
  with_reducible repeat (first | (apply qzV; simp (disch:=omega) only [zA,bzS3.1] <;> rfl) | apply qzT | apply qzF | (apply qzB; simp (disch:=omega) only [zA,bzS3.1] <;> rfl))
  rw [e]
  refine ih (by omega) (by omega) ?_ hk
  have e2 : u64rows (valsT (l.take i)) ++ [[u64v (toU c.i)]] = u64rows (valsT (l.take (i + 1))):=by rw [hti]; simp [u64rows,valsT]
  rw [← e2]
  exact T5.drop
/-- 'cells'. -/
theorem cellsT_c {k : Nat} {h : AH} {v : Value} {l : List CellD} (A : Cells h v l) (hl : l.length ≤ 4096) (hk : 4096 < k) :
  Tl (eInv env (k + 602) (.method "shadowbook/segment.cells") #[] #[.iface 140 (.agg codTL.toArray), v] h) fun r => ∃ o, r.1 = .tuple #[o, .int .i64 (Pk.putE (valsT l) 1)] ∧ Stt prog h.n h r.2 [] [(o, 1, u8rows (Pk.putL (valsT l) 1))] := by
 rw [show eInv env (k + 602) (.method "shadowbook/segment.cells") #[] #[.iface 140 (.agg codTL.toArray), v] h = F264 (eInv env (k + 601)) (k + 601) (.agg codTL.toArray) v h from
  (by kernel_rfl : _ = eFun env (k + 601) (eInv env (k + 601)) 264 #[.agg codTL.toArray,v] h).trans F264_eq]
 unfold F264
 refine Tl.box' (Stt.init h) rfl isT fun b2 h1 S1 _=>?_
 have S1 : Stt prog h.n h h1 [(b2,.cells codTL 140 true)] []:=S1
 have hv : ∀ h' : AH,pLen prog #[34] v h' = some (.int .i64 l.length):=fun h'=>A.len
 with_reducible repeat (first | (apply qzV; simp (disch:=omega) only [zA,bzS3.1,hv] <;> rfl) | apply qzT | apply qzF | (apply qzB; simp (disch:=omega) only [zA,bzS3.1,hv] <;> rfl))
 refine cellsT_loop (k:=k + 600) (i:=0) A hl l.length (by omega) (by omega) (S1.nil 1) fun h2 av y11 y12 S2=>?_
 have q4:=S2.cell (o:=4) (v:=.func (.func 135) #[] #[]) 0 rfl rfl
 unfold ptr
 with_reducible repeat (first | (apply qzV; simp (disch:=omega) only [zA,bzS3.1,q4] <;> rfl) | apply qzT | apply qzF | (apply qzB; simp (disch:=omega) only [zA,bzS3.1,q4] <;> rfl))
 rw [callV_fn1]
 have B : Words h2 av (valsT l):=S2.sl1 (f:=u64v) 0 rfl
 refine Tl.bind (f135c (k:=k + 299) B (by simp [valsT]; omega) (by simp [valsT]; omega) (fun q hq=>?_)) ?_
 ·obtain ⟨c,_,rfl⟩:=List.mem_map.1 hq
  exact toU_lt _
 rintro ⟨r,h3⟩ ⟨o,er,g,X⟩
 simp only at er g X
 subst er
 with_reducible repeat (first | (apply qzV; simp (disch:=omega) only [zA,bzS3.1] <;> rfl) | apply qzT | apply qzF | (apply qzB; simp (disch:=omega) only [zA,bzS3.1] <;> rfl))
 exact ⟨_,rfl,o,rfl,((S2.drop.gain g X).keepO (.cons_cons _ (List.nil_sublist _)))⟩
def valsW (l : List CellD) : List ByteArray:=l.map fun c=>c.s
theorem cellsW_loop {β : Type} {k : Nat} {Q : β→Prop} {h0 : AH} {b2 : Nat} {v : Value} {l : List CellD} (A : Cells h0 v l) (hl : l.length ≤ 4096) {ke0 : Value→Value→Value→Value→Value→Value→AH→Option β} (n : Nat) :
  ∀ {i j : Nat} {h : AH} {av : Value},i + n = l.length→n < j→Stt prog h0.n h0 h [(b2,.cells codWL 148 true)] [(av,1,srows (valsW (l.take i)))] →
   (∀ h' av' y11 y12,Stt prog h0.n h0 h' [(b2,.cells codWL 148 true)] [(av',1,srows (valsW l))]→Tl (ke0 (ptr b2) av' v (.int .i64 l.length) y11 y12 h') Q) →
   Tl (F268_lrlrr (eInv env (k + 1)) (k + 1) j (ptr b2) av v (.int .i64 l.length) (.int .i64 i) h ke0) Q:=by
 induction n with
 | zero =>
  intro i j h av hi hj T hk
  obtain ⟨j,rfl⟩ : ∃ q,j = q + 1:=⟨j - 1,by omega⟩
  simp only [F268_lrlrr]
  with_reducible repeat (first | (apply qzV; simp (disch:=omega) only [zA,bzS3.1] <;> rfl) | apply qzT | apply qzF | (apply qzB; simp (disch:=omega) only [zA,bzS3.1] <;> rfl))
  rw [List.take_of_length_le (by omega)] at T
  exact hk _ _ _ _ T
 | succ n ih =>
  intro i j h av hi hj T hk
  obtain ⟨j,rfl⟩ : ∃ q,j = q + 1:=⟨j - 1,by omega⟩
  obtain ⟨c,hc⟩ : ∃ c,l[i]? = some c:=⟨_,List.getElem?_eq_getElem (by omega)⟩
  obtain ⟨b,o,hx,hr⟩:=(A.grow T.grow).at_ hc
  have e : (i : Int) + 1 = ((i + 1 : Nat) : Int):=by omega
  have hti : l.take (i + 1) = l.take i ++ [c]:=by rw [List.take_add_one,hc]; rfl
  simp only [F268_lrlrr]
  unfold ptr
  with_reducible repeat (first | (apply qzV; simp (disch:=omega) only [zA,bzS3.1,hx,hr] <;> rfl) | apply qzT | apply qzF | (apply qzB; simp (disch:=omega) only [zA,bzS3.1,hx,hr] <;> rfl))
  refine Tl.alloc' T ze39 rfl fun b4 h1 T1 _=>?_
  refine Tl.store' T1 0 rfl sz39 rfl rfl (of_decide_eq_true rfl) fun h2 T2 _=>?_
  have T2 : Stt prog h0.n h0 h2 [Cr b4 c,(b2,.cells codWL 148 true)] [(av,1,srows (valsW (l.take i)))]:=T2
  obtain ⟨r4,_⟩:=c_at T2 0 rfl
  have q0:=T2.cell (o:=0) (v:=.func (.func 138) #[] #[]) 1 rfl rfl
  with_reducible repeat (first | (apply qzV; simp (disch:=omega) only [zA,bzS3.1,r4,q0] <;> rfl) | apply qzT | apply qzF | (apply qzB; simp (disch:=omega) only [zA,bzS3.1,r4,q0] <;> rfl))
  rw [callV_fn1]
  with_reducible refine Tl.call' T2 (f138c (k:=k) c h2) fun h3 T3 _=>?_
  refine Tl.push T3 0 rfl app27 (bs27 _ _) rfl rfl (by simp [srows,valsW]; omega) fun av' h5 T5=>?_
  with_reducible repeat (first | (apply qzV; simp (disch:=omega) only [zA,bzS3.1] <;> rfl) | apply qzT | apply qzF | (apply qzB; simp (disch:=omega) only [zA,bzS3.1] <;> rfl))
  rw [e]
  refine ih (by omega) (by omega) ?_ hk
  have e2 : srows (valsW (l.take i)) ++ [[Value.string (c.s)]] = srows (valsW (l.take (i + 1))):=by rw [hti]; simp [srows,valsW]
  rw [← e2]
  exact T5.drop
/-- 'cells'. -/
theorem cellsW_c {k : Nat} {h : AH} {v : Value} {l : List CellD} (A : Cells h v l) (hl : l.length ≤ 4096) (hk : 4096 < k) :
  Tl (eInv env (k + 602) (.method "shadowbook/segment.cells") #[] #[.iface 148 (.agg codWL.toArray), v] h) fun r => ∃ o, r.1 = .tuple #[o, .int .i64 (checkT (valsW l))] ∧ Stt prog h.n h r.2 [] [(o, 1, u8rows (putT (valsW l)))] := by
 rw [show eInv env (k + 602) (.method "shadowbook/segment.cells") #[] #[.iface 148 (.agg codWL.toArray), v] h = F268 (eInv env (k + 601)) (k + 601) (.agg codWL.toArray) v h from
  (by kernel_rfl : _ = eFun env (k + 601) (eInv env (k + 601)) 268 #[.agg codWL.toArray,v] h).trans F268_eq]
 unfold F268
 refine Tl.box' (Stt.init h) rfl isW fun b2 h1 S1 _=>?_
 have S1 : Stt prog h.n h h1 [(b2,.cells codWL 148 true)] []:=S1
 have hv : ∀ h' : AH,pLen prog #[34] v h' = some (.int .i64 l.length):=fun h'=>A.len
 with_reducible repeat (first | (apply qzV; simp (disch:=omega) only [zA,bzS3.1,hv] <;> rfl) | apply qzT | apply qzF | (apply qzB; simp (disch:=omega) only [zA,bzS3.1,hv] <;> rfl))
 refine cellsW_loop (k:=k + 600) (i:=0) A hl l.length (by omega) (by omega) (S1.nil 1) fun h2 av y11 y12 S2=>?_
 have q4:=S2.cell (o:=4) (v:=.func (.func 143) #[] #[]) 0 rfl rfl
 unfold ptr
 with_reducible repeat (first | (apply qzV; simp (disch:=omega) only [zA,bzS3.1,q4] <;> rfl) | apply qzT | apply qzF | (apply qzB; simp (disch:=omega) only [zA,bzS3.1,q4] <;> rfl))
 rw [callV_fn1]
 have B : Strs h2 av (valsW l):=S2.sl1 (f:=Value.string) 0 rfl
 refine Tl.bind (f143c (k:=k + 200) B (by simp [valsW]; omega) (by omega)) ?_
 rintro ⟨r,h3⟩ ⟨o,er,X⟩
 simp only at er X
 subst er
 with_reducible repeat (first | (apply qzV; simp (disch:=omega) only [zA,bzS3.1] <;> rfl) | apply qzT | apply qzF | (apply qzB; simp (disch:=omega) only [zA,bzS3.1] <;> rfl))
 exact ⟨_,rfl,o,rfl,((S2.drop.join X).keepO (.cons_cons _ (List.nil_sublist _)))⟩
end
end Go.Proofs.YtlbmlncdjkdoaaaGreat.Sh
/- Which cells of a kind may be: 'segment.Check'; 'LightCells'. -/
set_option linter.unusedVariables false
set_option linter.unusedSimpArgs false
set_option maxRecDepth 100000
namespace Go.Proofs.YtlbmlncdjkdoaaaGreat.Sh
open Go Go.RowKit Go.Proofs.Ev Go.Lib
open Tryz (prog)
def bzS4:=PLift.up (ai @ld3 (ai @ld2 (ai @ld9 (ai @ld39 (ai @fa39_0 (ai @fa39_1 (ai @fa39_2 (ai @aggC (@Nat.add_zero)))))))))
theorem codNone {a : Nat} : pBin prog .eql 97 (.tmp a) (.const .nilIface) .nilIface .nilIface = some (.bool true):=by kernel_rfl
theorem cod1 {a : Nat} : pBin prog .eql 97 (.tmp a) (.const .nilIface) (codV 1) .nilIface = some (.bool false):=by kernel_rfl
theorem cod2 {a : Nat} : pBin prog .eql 97 (.tmp a) (.const .nilIface) (codV 2) .nilIface = some (.bool false):=by kernel_rfl
theorem cod3 {a : Nat} : pBin prog .eql 97 (.tmp a) (.const .nilIface) (codV 3) .nilIface = some (.bool false):=by kernel_rfl
theorem codSome {kind : Int} (hk : 1 ≤ kind ∧ kind ≤ 3) {a : Nat} : pBin prog .eql 97 (.tmp a) (.const .nilIface) (codV kind) .nilIface = some (.bool false):=by
 have h : kind = 1 ∨ kind = 2 ∨ kind = 3:=by omega
 rcases h with rfl | rfl | rfl
 ·exact cod1
 ·exact cod2
 ·exact cod3
theorem codV_none {kind : Int} (hk : ¬ (1 ≤ kind ∧ kind ≤ 3)) : codV kind = .nilIface:=by
 unfold codV
 rw [if_neg (by omega),if_neg (by omega),if_neg (by omega)]
def chkE (kind : Int) : List CellD→Int
 | []=>0
 | c :: l=>if cellE c ≠ 0 then cellE c else if c.k ≠ kind ∧ c.k ≠ 0 then 11 else chkE kind l
def segE (kind : Int) (l : List CellD) : Int:=if 1 ≤ kind ∧ kind ≤ 3 then (if l.length > 4096 then 3 else chkE kind l) else 2
theorem f68_loop {β : Type} {k : Nat} {Q : β→Prop} {h0 : AH} {v : Value} {l : List CellD} {kind : Int} (A : Cells h0 v l) (hl : l.length ≤ 4096) {ke0 : Value→Value→Value→Value→Value→AH→Option β} {kr : Value→AH→Option β} (n : Nat) :
  ∀ {i j : Nat} {h : AH},i + n = l.length→n < j→Stt prog h0.n h0 h [] [] →
   (∀ h' y1 y2 y3 y4,Grow h0 h'→chkE kind (l.drop i) = 0→Tl (ke0 (.int .i64 kind) y1 y2 y3 y4 h') Q)→(∀ h',Grow h0 h'→chkE kind (l.drop i) ≠ 0→Tl (kr (.int .i64 (chkE kind (l.drop i))) h') Q) →
   Tl (F68_lrlrrr (eInv env (k + 1)) (k + 1) j (.int .i64 kind) v (.int .i64 l.length) (.int .i64 i) h ke0 kr) Q:=by
 induction n with
 | zero =>
  intro i j h hi hj T hk hr
  obtain ⟨j,rfl⟩ : ∃ q,j = q + 1:=⟨j - 1,by omega⟩
  simp only [F68_lrlrrr]
  with_reducible repeat (first | (apply qzV; simp (disch:=omega) only [zA,bzS4.1] <;> rfl) | apply qzT | apply qzF | apply qzG | ((first | apply qzB | apply qzC); simp (disch:=omega) only [zA,bzS4.1] <;> rfl))
  exact hk _ _ _ _ _ T.grow (by rw [List.drop_eq_nil_of_le (by omega)]; rfl)
 | succ n ih =>
  intro i j h hi hj T hk hr
  obtain ⟨j,rfl⟩ : ∃ q,j = q + 1:=⟨j - 1,by omega⟩
  obtain ⟨c,hc⟩ : ∃ c,l[i]? = some c:=⟨_,List.getElem?_eq_getElem (by omega)⟩
  obtain ⟨b,o,hx,hrow⟩:=(A.grow T.grow).at_ hc
  have e : (i : Int) + 1 = ((i + 1 : Nat) : Int):=by omega
  rw [drop_at hc,chkE] at hk hr
  simp only [F68_lrlrrr]
  with_reducible repeat (first | (apply qzV; simp (disch:=omega) only [zA,bzS4.1,hx,hrow] <;> rfl) | apply qzT | apply qzF | apply qzG | ((first | apply qzB | apply qzC); simp (disch:=omega) only [zA,bzS4.1,hx,hrow] <;> rfl))
  refine Tl.alloc' T ze39 rfl fun b4 h1 T1 _=>?_
  refine Tl.store' T1 0 rfl sz39 rfl rfl (of_decide_eq_true rfl) fun h2 T2 _=>?_
  have T2 : Stt prog h0.n h0 h2 [Cr b4 c] []:=T2
  obtain ⟨r4,_⟩:=c_at T2 0 rfl
  with_reducible repeat (first | (apply qzV; simp (disch:=omega) only [zA,bzS4.1,r4] <;> rfl) | apply qzT | apply qzF | apply qzG | ((first | apply qzB | apply qzC); simp (disch:=omega) only [zA,bzS4.1,r4] <;> rfl))
  with_reducible refine Tl.call' T2 (f85c (k:=k) c h2) fun h3 T3 _=>?_
  obtain ⟨_,k4,_⟩:=c_at T3 0 rfl
  by_cases e1 : cellE c = 0
  ·rw [if_neg (by simpa using e1)] at hk hr
   by_cases e2 : c.k = kind
   ·rw [if_neg (fun q=>q.1 e2)] at hk hr
    with_reducible repeat (first | (apply qzV; simp (disch:=omega) only [zA,bzS4.1,k4] <;> rfl) | apply qzT | apply qzF | apply qzG | ((first | apply qzB | apply qzC); simp (disch:=omega) only [zA,bzS4.1,k4] <;> rfl))
    rw [e]
    exact ih (by omega) (by omega) T3.drop hk hr
   ·by_cases e3 : c.k = 0
    ·rw [if_neg (fun q=>q.2 e3)] at hk hr
     with_reducible repeat (first | (apply qzV; simp (disch:=omega) only [zA,bzS4.1,k4] <;> rfl) | apply qzT | apply qzF | apply qzG | ((first | apply qzB | apply qzC); simp (disch:=omega) only [zA,bzS4.1,k4] <;> rfl))
     rw [e]
     exact ih (by omega) (by omega) T3.drop hk hr
    ·rw [if_pos ⟨e2,e3⟩] at hr
     with_reducible repeat (first | (apply qzV; simp (disch:=omega) only [zA,bzS4.1,k4] <;> rfl) | apply qzT | apply qzF | apply qzG | ((first | apply qzB | apply qzC); simp (disch:=omega) only [zA,bzS4.1,k4] <;> rfl))
     exact hr _ T3.grow (by decide)
  ·rw [if_pos e1] at hr
   with_reducible repeat (first | (apply qzV; simp (disch:=omega) only [zA,bzS4.1] <;> rfl) | apply qzT | apply qzF | apply qzG | ((first | apply qzB | apply qzC); simp (disch:=omega) only [zA,bzS4.1] <;> rfl))
   exact hr _ T3.grow e1
theorem f68c {k : Nat} {h : AH} {v : Value} {l : List CellD} (kind : Int) (A : Cells h v l) (hl : l.length ≤ 9223372036854775807) (hk : 4096 < k) :
  Tl (eInv env (k + 3) (.func 68) #[] #[.int .i64 kind,v] h) fun r=>r.1 = .int .i64 (segE kind l) ∧ Grow h r.2:=by
 rw [F68_call]
 unfold F68 segE
 have hv : ∀ h' : AH,pLen prog #[34] v h' = some (.int .i64 l.length):=fun h'=>A.len
 with_reducible refine Tl.call' (Stt.init (P:=prog) h) (f70c (k:=k) kind h) fun h1 S1 _=>?_
 by_cases p : 1 ≤ kind ∧ kind ≤ 3
 ·rw [if_pos p]
  have cs:=fun a=>codSome p (a:=a)
  by_cases q : l.length > 4096
  ·rw [if_pos q]
   with_reducible repeat (first | (apply qzV; simp (disch:=omega) only [zA,bzS4.1,cs,hv] <;> rfl) | apply qzT | apply qzF | apply qzG | ((first | apply qzB | apply qzC); simp (disch:=omega) only [zA,bzS4.1,cs,hv] <;> rfl))
   exact ⟨_,rfl,rfl,S1.grow⟩
  ·rw [if_neg q]
   with_reducible repeat (first | (apply qzV; simp (disch:=omega) only [zA,bzS4.1,cs,hv] <;> rfl) | apply qzT | apply qzF | apply qzG | ((first | apply qzB | apply qzC); simp (disch:=omega) only [zA,bzS4.1,cs,hv] <;> rfl))
   refine f68_loop (k:=k + 1) (i:=0) A (by omega) l.length (by omega) (by omega) S1 (fun h2 y1 y2 y3 y4 g z=>⟨_,rfl,?_,g⟩) fun h2 g z=>⟨_,rfl,rfl,g⟩
   rw [List.drop_zero] at z
   rw [z]
 ·rw [if_neg p,codV_none p]
  with_reducible repeat (first | (apply qzV; simp (disch:=omega) only [zA,bzS4.1,codNone] <;> rfl) | apply qzT | apply qzF | apply qzG | ((first | apply qzB | apply qzC); simp (disch:=omega) only [zA,bzS4.1,codNone] <;> rfl))
  exact ⟨_,rfl,rfl,S1.grow⟩
end Go.Proofs.YtlbmlncdjkdoaaaGreat.Sh
