/- What lies ahead of the law, put together. -/
import Derived.Test.YtghelamfaaakcaaGreatSzM5
import Derived.Test.YtghelamfaaakcaaGreatSzM4
import Derived.Test.YtghelamfaaakcaaGreatSzM2
import Derived.Test.YtghelamfaaakcaaGreatEvC
import Derived.Test.YtghelamfaaakcaaGreatSzM3
import Derived.Test.YtghelamfaaakcaaGreatSzT2
import Derived.Test.YtghelamfaaakcaaGreatSzF
import Derived.Test.YtghelamfaaakcaaGreatSzT
import Derived.Test.YtghelamfaaakcaaGreatBits
import Derived.Test.YtghelamfaaakcaaGreatSzM1
/- What 'Get' of the ints' package comes to. -/
set_option linter.unusedVariables false
set_option linter.unusedSimpArgs false
set_option maxRecDepth 100000
namespace Go.Proofs.YtghelamfaaakcaaGreat.Sh
open Go Go.RowKit Go.Proofs.Ev
open Tryz (prog)
theorem mfGet (b : Nat) : pMakeFunc (Go.Fn.func 126) #[] #[.pointer (some ⟨b,0,none⟩)] = some (.func (.func 126) #[] #[.pointer (some ⟨b,0,none⟩)]):=rfl
def bzIe:=PLift.up (ai @ld3 (ai @ld2 (ai @ld4 (ai @ld5 (ai @ld60 (ai @ld33 (ai @ld121 (ai @ld63 (ai @ld158 (ai @ld83 (ai @ld156 (ai @fa158_0 (ai @fa158_1 (ai @fa158_2 (ai (fun a h=>conv_int (a:=a) (h:=h) u5 u60) (ai (fun a h=>conv_int (a:=a) (h:=h) u60 u3) (ai @mfGet (ai @ex2_0 (@ex2_1)))))))))))))))))))
def formB (kd : Nat) (l : List Int) : List Nat:=if kd = 1 then plainB l else if kd = 2 then runsB l else packB l
def getI (b : List Nat) : Option (List Int):=match b with
 | []=>none
 | kind :: r0=>match dec 0 0 r0 with
  | none=>none
  | some (n,r1)=>if n > 4096 then none else if kind = 1 ∨ kind = 2 ∨ kind = 3 then (match kindG kind n r1 with
   | none=>none
   | some l=>if formB kind l = kind :: r0 then some l else none) else none
theorem RV.ins {L : List (Nat × AO)} {a p : Nat × AO} {rv : Value} {rest : List Nat} (R : RV (a :: L) 0 rv rest) : RV (a :: p :: L) 0 rv rest:=by
 rcases R with R | ⟨j,bb,o,cs,e,h1,h2,h3⟩
 ·exact .inl R
 ·obtain ⟨j,rfl⟩ : ∃ q,j = q + 1:=⟨j - 1,by omega⟩
  exact .inr ⟨j + 2,bb,o,cs,e,by omega,by simpa using h2,h3⟩
section
variable {n0 : Nat} {h0 h : AH} {L : List (Nat × AO)} {O : List OS}
def Kb (b5 kind : Nat) : Nat × AO:=(b5,.cells [.int .u64 (kind : Int)] 60 true)
theorem f126c {k i b5 kind kd f g : Nat} (S : Stt prog n0 h0 h L O) (hi : L[i]? = some (Kb b5 kind)) (hk : kd < 256) :
  Tl (callV (eInv env (k + 1)) (.func (.func 126) #[] #[.pointer (some ⟨b5,0,none⟩)]) #[.agg (formR kd f g).toArray] h) fun r=>r.1 = .bool ((kd : Int) == (kind : Int)) ∧ Stt prog n0 h0 r.2 L O:=by
 have e : callV (eInv env (k + 1)) (.func (.func 126) #[] #[.pointer (some ⟨b5,0,none⟩)]) #[.agg (formR kd f g).toArray] h = eInv env (k + 1) (.func 126) #[.pointer (some ⟨b5,0,none⟩)] (#[] ++ #[.agg (formR kd f g).toArray]) h:=rfl
 rw [e,show ((#[] : Array Value) ++ #[.agg (formR kd f g).toArray]) = #[.agg (formR kd f g).toArray] by simp,inv_cap (E:=env) (f:=126) (by kernel_rfl),show ((#[.agg (formR kd f g).toArray] : Array Value) ++ #[.pointer (some ⟨b5,0,none⟩)]) = #[.agg (formR kd f g).toArray,.pointer (some ⟨b5,0,none⟩)] by simp,F126_eq]
 unfold F126
 refine Tl.box' S rfl (by rw [sz158]; rfl) fun bx h1 S1 g1=>?_
 have S1 : Stt prog n0 h0 h1 ((bx,.cells (formR kd f g) 158 true) :: L) O:=S1
 have c0:=S1.cell 0 (o:=0) (v:=.int .u8 (kd : Int)) rfl rfl
 have c1:=S1.cell (i + 1) (o:=0) (v:=.int .u64 (kind : Int)) (by rw [List.getElem?_cons_succ]; exact hi) rfl
 with_reducible repeat (first | (apply qzV; simp (disch:=omega) only [zA,bzIe.1,c0,c1] <;> rfl) | apply qzT | apply qzF | (apply qzB; simp (disch:=omega) only [zA,bzIe.1,c0,c1] <;> rfl))
 exact ⟨_,rfl,rfl,S1.drop⟩
theorem f125_step {β : Type} {k : Nat} {Q : β→Prop} {b5 fb kind i kd F g j m : Nat} (hi : i < 3) (hF : (formsC.drop (i * 3)).take 3 = formR kd F g) (hkd : kd < 256) (S : Stt prog n0 h0 h (Fb fb :: L) O) (h5 : L[m]? = some (Kb b5 kind))
  {ke0 : Value→Value→Value→Value→Value→AH→Option β} {kr : Value→AH→Option β}
  (hyes : kd = kind→∀ h',Stt prog n0 h0 h' (Fb fb :: L) O→Tl (kr (.int .i64 (i : Int)) h') Q)
  (hno : kd ≠ kind→∀ h',Stt prog n0 h0 h' (Fb fb :: L) O→Tl (F125_lrlr (eInv env (k + 1)) (k + 1) j (.slice (some ⟨fb,0,none⟩) 3 3) (.func (.func 126) #[] #[.pointer (some ⟨b5,0,none⟩)]) (.int .i64 3) (.int .i64 ((i + 1 : Nat) : Int)) h' ke0 kr) Q) :
  Tl (F125_lrlr (eInv env (k + 1)) (k + 1) (j + 1) (.slice (some ⟨fb,0,none⟩) 3 3) (.func (.func 126) #[] #[.pointer (some ⟨b5,0,none⟩)]) (.int .i64 3) (.int .i64 (i : Int)) h ke0 kr) Q:=by
 have hp : pIndexAddr prog 154 (.slice (some ⟨fb,0,none⟩) 3 3) (.int .i64 (i : Int)) = some (.pointer (some ⟨fb,i * 3,none⟩)):=(indexAddr_slice u154 sz158 (by omega) (by omega)).trans (by simp)
 have hfl : formsC.length = 9:=rfl
 have hr : h.row fb (i * 3) 3 = some (formR kd F g):=by
  have hg : h.get fb = some (.cells formsC 158 true):=S.sta.mem.at_ (i:=0) rfl
  rw [row_of hg,if_pos (by rw [hfl]; omega),hF]
 have e : (i : Int) + 1 = ((i + 1 : Nat) : Int):=by omega
 simp only [F125_lrlr]
 with_reducible repeat (first | (apply qzV; simp (disch:=omega) only [zA,bzIe.1,hp,hr] <;> rfl) | apply qzT | apply qzF | (apply qzB; simp (disch:=omega) only [zA,bzIe.1,hp,hr] <;> rfl))
 refine Tl.bind (f126c (k:=k) (f:=F) (g:=g) S (i:=m + 1) (by simpa using h5) hkd) ?_
 rintro ⟨r,h1⟩ ⟨er,S1⟩
 simp only at er S1
 subst er
 by_cases q : kd = kind
 ·have eb : ((kd : Int) == (kind : Int)) = true:=by subst q; simp
  rw [eb]
  with_reducible repeat (first | (apply qzV; simp (disch:=omega) only [zA,bzIe.1] <;> rfl) | apply qzT | apply qzF | (apply qzB; simp (disch:=omega) only [zA,bzIe.1] <;> rfl))
  exact hyes q h1 S1
 ·have eb : ((kd : Int) == (kind : Int)) = false:=by simp; omega
  rw [eb]
  with_reducible repeat (first | (apply qzV; simp (disch:=omega) only [zA,bzIe.1] <;> rfl) | apply qzT | apply qzF | (apply qzB; simp (disch:=omega) only [zA,bzIe.1] <;> rfl))
  rw [e]
  exact hno q h1 S1
def idxK (kind : Nat) : Int:=if kind = 1 then 0 else if kind = 2 then 1 else if kind = 3 then 2 else -1
theorem f125c {k b5 fb kind m : Nat} (S : Stt prog n0 h0 h (Fb fb :: L) O) (h5 : L[m]? = some (Kb b5 kind)) :
  Tl (eInv env (k + 10) (.func 125) #[] #[.slice (some ⟨fb,0,none⟩) 3 3,.func (.func 126) #[] #[.pointer (some ⟨b5,0,none⟩)]] h) fun r=>r.1 = .int .i64 (idxK kind) ∧ Stt prog n0 h0 r.2 (Fb fb :: L) O:=by
 rw [F125_call]
 unfold F125
 have hv : ∀ h' : AH,pLen prog #[154] (.slice (some ⟨fb,0,none⟩) 3 3) h' = some (.int .i64 3):=fun h'=>len_slice u154
 with_reducible repeat (first | (apply qzV; simp (disch:=omega) only [zA,bzIe.1,hv] <;> rfl) | apply qzT | apply qzF | (apply qzB; simp (disch:=omega) only [zA,bzIe.1,hv] <;> rfl))
 unfold idxK
 refine f125_step (k:=k + 8) (i:=0) (j:=k + 8) (by omega) (kd:=1) (F:=144) (g:=145) rfl (by omega) S h5 (fun q h' S'=>?_) (fun q1 h' S'=>?_)
 ·subst q
  exact ⟨_,rfl,rfl,S'⟩
 refine f125_step (k:=k + 8) (i:=1) (j:=k + 7) (by omega) (kd:=2) (F:=146) (g:=147) rfl (by omega) S' h5 (fun q h' S'=>?_) (fun q2 h' S'=>?_)
 ·subst q
  exact ⟨_,rfl,rfl,S'⟩
 refine f125_step (k:=k + 8) (i:=2) (j:=k + 6) (by omega) (kd:=3) (F:=148) (g:=149) rfl (by omega) S' h5 (fun q h' S'=>?_) (fun q3 h' S'=>?_)
 ·subst q
  exact ⟨_,rfl,rfl,S'⟩
 simp only [F125_lrlr]
 with_reducible repeat (first | (apply qzV; simp (disch:=omega) only [zA,bzIe.1] <;> rfl) | apply qzT | apply qzF | (apply qzB; simp (disch:=omega) only [zA,bzIe.1] <;> rfl))
 rw [if_neg (Ne.symm q1),if_neg (Ne.symm q2),if_neg (Ne.symm q3)]
 exact ⟨_,rfl,rfl,S'⟩
end
theorem headB_256 {f : Nat} (hf : f < 256) (n : Nat) : ∀ x ∈ headB f n,x < 256:=fun x hx=>by
 rcases List.mem_cons.1 hx with rfl | hx
 ·exact hf
 ·exact pvarN_256 _ x hx
theorem formB_256 (kd : Nat) (l : List Int) : ∀ x ∈ formB kd l,x < 256:=fun x hx=>by
 unfold formB at hx
 split at hx
 ·rcases List.mem_append.1 hx with hx | hx
  ·exact headB_256 (by omega) _ x hx
  ·obtain ⟨z,_,hz⟩:=List.mem_flatMap.1 hx
   exact le_lt _ _ _ x hz
 ·split at hx
  ·rcases List.mem_append.1 hx with hx | hx
   ·exact headB_256 (by omega) _ x hx
   ·obtain ⟨z,_,hz⟩:=List.mem_flatMap.1 hx
    rcases List.mem_append.1 hz with hz | hz
    ·exact pvarN_256 _ x hz
    ·exact le_lt _ _ _ x hz
  ·unfold packB at hx
   rcases List.mem_append.1 hx with hx | hx
   ·rcases List.mem_append.1 hx with hx | hx
    ·exact headB_256 (by omega) _ x hx
    ·exact le_lt _ _ _ x hx
   ·rcases List.mem_cons.1 hx with rfl | hx
    ·have:=widI_le l; omega
    ·exact (putN_spec _ _).2.2 x hx
/-- A form's functions. -/
structure Fns (kd i F g : Nat) : Prop where
 lt : i < 3
 row : (formsC.drop (i * 3)).take 3 = formR kd F g
 idx : idxK kd = (i : Int)
 put : ∀ {k : Nat} {h : AH} {v : Value} {l : List Int},Ints h v l→l.length ≤ 4096→Tl (eInv env (k + 6000) (.func F) #[] #[v] h) fun r=>∃ o,r.1 = .tuple #[o,.int .i64 0] ∧ Grow h r.2 ∧ OwnB prog h.n r.2 o 1 (u8rows (formB kd l))
 get : ∀ {k : Nat} {n0 : Nat} {h0 h : AH} {L : List (Nat × AO)} {O : List OS} {br n : Nat} {rv : Value} {rest : List Nat},Stt prog n0 h0 h (Rb br rv :: L) O→RV (Rb br rv :: L) 0 rv rest→n ≤ 4096 →
  rest.length ≤ 5000→(∀ x ∈ rest,x < 256)→Tl (eInv env (k + 6000) (.func g) #[] #[ptr br,.int .i64 n] h) (ReadQ n0 h0 br L O (kindG kd n rest))
theorem fns1 : Fns 1 0 144 145:=⟨by omega,rfl,rfl,by intro k h v l A hl; exact f144c (k:=k + 5970) A hl (by omega),by intro k n0 h0 h L O br n rv rest S R hn hl hb; exact f145c (k:=k) S R hn hl hb⟩
theorem fns2 : Fns 2 1 146 147:=⟨by omega,rfl,rfl,by intro k h v l A hl; exact f146c (k:=k + 5970) A hl (by omega),by intro k n0 h0 h L O br n rv rest S R hn hl hb; exact f147c (k:=k) S R hn hl hb⟩
theorem fns3 : Fns 3 2 148 149:=⟨by omega,rfl,rfl,by intro k h v l A hl; exact f148c (k:=k + 5500) A hl (by omega),by intro k n0 h0 h L O br n rv rest S R hn hl hb; exact f149c (k:=k) S R hn hl hb⟩
theorem fns {kd : Nat} (h : kd = 1 ∨ kd = 2 ∨ kd = 3) : ∃ i F g,Fns kd i F g:=by
 rcases h with rfl | rfl | rfl
 ·exact ⟨_,_,_,fns1⟩
 ·exact ⟨_,_,_,fns2⟩
 ·exact ⟨_,_,_,fns3⟩
theorem f80c {k : Nat} {h : AH} {v : Value} {b : List Nat} (B : Bytes h v b) (hb : ∀ x ∈ b,x < 256) (hl : b.length ≤ 5000) :
  Tl (eInv env (k + 7000) (.func 80) #[] #[v] h) fun r=>(∃ l o,getI b = some l ∧ l.length ≤ 4096 ∧ r.1 = .tuple #[o,.int .i64 0] ∧ Grow h r.2 ∧ OwnB prog h.n r.2 o 1 (i6rows l)) ∨
   (getI b = none ∧ r.1 = .tuple #[.slice none 0 0,.int .i64 4] ∧ Grow h r.2):=by
 rw [F80_call]
 unfold F80
 refine Tl.bind (f58c (k:=k + 6997) (Stt.init h) B (by omega)) ?_
 rintro ⟨x14,h1⟩ ⟨br,rv,L',e1,S1,R1,g1⟩
 simp only at e1 S1 g1
 subst e1
 rw [List.nil_append] at S1 R1
 have eo : ((1 : Nat) : Int) = 1:=rfl
 cases b with
 | nil =>
  have T:=f77n (k:=k + 6976) S1 rfl R1 (n:=1) (by omega) (by omega) (by simp)
  rw [eo] at T
  refine Tl.bind T ?_
  rintro ⟨r,h2⟩ ⟨er,g2⟩
  simp only at er g2
  subst er
  with_reducible repeat (first | (apply qzV; simp (disch:=omega) only [zA,bzIe.1] <;> rfl) | apply qzT | apply qzF | apply qzG | ((first | apply qzB | apply qzC); simp (disch:=omega) only [zA,bzIe.1] <;> rfl))
  refine Tl.alloc' (S1.call g2) ze60 rfl fun b5 h3 S3 _=>?_
  refine Tl.store' S3 0 rfl sz60 rfl rfl (of_decide_eq_true rfl) fun h4 S4 _=>?_
  with_reducible repeat (first | (apply qzV; simp (disch:=omega) only [zA,bzIe.1] <;> rfl) | apply qzT | apply qzF | apply qzG | ((first | apply qzB | apply qzC); simp (disch:=omega) only [zA,bzIe.1] <;> rfl))
  exact ⟨_,rfl,.inr ⟨rfl,rfl,S4.grow⟩⟩
 | cons kind r0 =>
  have T:=f77c (k:=k + 6976) S1 rfl R1 (n:=1) (by omega) (by omega) (by simp) (by omega) hb
  rw [eo] at T
  refine Tl.bind T ?_
  rintro ⟨r,h2⟩ ⟨rv2,er,S2,R2⟩
  simp only at er S2
  subst er
  have S2 : Stt prog h.n h h2 (Rb br rv2 :: L') []:=S2
  have R2 : RV (Rb br rv2 :: L') 0 rv2 r0:=R2
  have ef : ofB ((kind :: r0).take 1) = kind:=by simp [ofB]
  rw [ef]
  have hk256:=hb kind (by simp)
  have hb0 : ∀ x ∈ r0,x < 256:=fun x hx=>hb x (by simp [hx])
  have hl0 : r0.length < 5000:=by rw [List.length_cons] at hl; omega
  with_reducible repeat (first | (apply qzV; simp (disch:=omega) only [zA,bzIe.1] <;> rfl) | apply qzT | apply qzF | apply qzG | ((first | apply qzB | apply qzC); simp (disch:=omega) only [zA,bzIe.1] <;> rfl))
  refine Tl.alloc' S2 ze60 rfl fun b5 h3 S3 _=>?_
  have S3 : Stt prog h.n h h3 (Rb br rv2 :: (b5,.cells [.int .u64 0] 60 true) :: L') []:=S3.perm (List.Perm.swap _ _ _)
  refine Tl.store' S3 1 rfl sz60 rfl rfl (of_decide_eq_true rfl) fun h4 S4 _=>?_
  have S4 : Stt prog h.n h h4 (Rb br rv2 :: Kb b5 kind :: L') []:=S4
  have R4 : RV (Rb br rv2 :: Kb b5 kind :: L') 0 rv2 r0:=R2.ins
  with_reducible repeat (first | (apply qzV; simp (disch:=omega) only [zA,bzIe.1] <;> rfl) | apply qzT | apply qzF | apply qzG | ((first | apply qzB | apply qzC); simp (disch:=omega) only [zA,bzIe.1] <;> rfl))
  refine Tl.bind (f92c (k:=k + 6993) S4 rfl R4 (by omega) hb0 (by omega)) ?_
  rintro ⟨r,h5⟩ hr
  unfold getI
  simp only
  rcases hr with ⟨n,r1,rv5,hd,er,S5,R5⟩ | ⟨hd,e,he,er⟩
  ·simp only at er S5
   subst er
   have S5 : Stt prog h.n h h5 (Rb br rv5 :: Kb b5 kind :: L') []:=S5
   have R5 : RV (Rb br rv5 :: Kb b5 kind :: L') 0 rv5 r1:=R5
   obtain ⟨dl1,dl2⟩:=dec_len r0 hd
   simp only [hd]
   by_cases qn : n > 4096
   ·rw [if_pos qn]
    with_reducible repeat (first | (apply qzV; simp (disch:=omega) only [zA,bzIe.1] <;> rfl) | apply qzT | apply qzF | apply qzG | ((first | apply qzB | apply qzC); simp (disch:=omega) only [zA,bzIe.1] <;> rfl))
    exact ⟨_,rfl,.inr ⟨rfl,rfl,S5.grow⟩⟩
   ·rw [if_neg qn]
    with_reducible repeat (first | (apply qzV; simp (disch:=omega) only [zA,bzIe.1] <;> rfl) | apply qzT | apply qzF | apply qzG | ((first | apply qzB | apply qzC); simp (disch:=omega) only [zA,bzIe.1] <;> rfl))
    refine Tl.bind (f121c (k:=k + 6998) S5) ?_
    rintro ⟨r,h6⟩ ⟨fb,er,S6⟩
    simp only at er S6
    subst er
    with_reducible repeat (first | (apply qzV; simp (disch:=omega) only [zA,bzIe.1] <;> rfl) | apply qzT | apply qzF | apply qzG | ((first | apply qzB | apply qzC); simp (disch:=omega) only [zA,bzIe.1] <;> rfl))
    refine Tl.bind (f125c (k:=k + 6989) S6 (m:=1) rfl) ?_
    rintro ⟨r,h7⟩ ⟨er,S7⟩
    simp only at er S7
    subst er
    by_cases qk : kind = 1 ∨ kind = 2 ∨ kind = 3
    ·rw [if_pos qk]
     obtain ⟨i,F,g,N⟩:=fns qk
     have hi3:=N.lt
     rw [N.idx]
     with_reducible repeat (first | (apply qzV; simp (disch:=omega) only [zA,bzIe.1] <;> rfl) | apply qzT | apply qzF | apply qzG | ((first | apply qzB | apply qzC); simp (disch:=omega) only [zA,bzIe.1] <;> rfl))
     refine Tl.bind (f121c (k:=k + 6998) S7.drop) ?_
     rintro ⟨r,h8⟩ ⟨fb2,er,S8⟩
     simp only at er S8
     subst er
     have hp : pIndexAddr prog 154 (.slice (some ⟨fb2,0,none⟩) 3 3) (.int .i64 (i : Int)) = some (.pointer (some ⟨fb2,i * 3,none⟩)):=(indexAddr_slice u154 sz158 (by omega) (by omega)).trans (by simp)
     have hfl : formsC.length = 9:=rfl
     have hrow : h8.row fb2 (i * 3) 3 = some (formR kind F g):=by
      have hg : h8.get fb2 = some (.cells formsC 158 true):=S8.sta.mem.at_ (i:=0) rfl
      rw [row_of hg,if_pos (by rw [hfl]; omega),N.row]
     with_reducible repeat (first | (apply qzV; simp (disch:=omega) only [zA,bzIe.1,hp,hrow] <;> rfl) | apply qzT | apply qzF | apply qzG | ((first | apply qzB | apply qzC); simp (disch:=omega) only [zA,bzIe.1,hp,hrow] <;> rfl))
     refine Tl.alloc' S8.drop ze158 rfl fun b9 h9 S9 g9=>?_
     refine Tl.store' S9 0 rfl sz158 rfl rfl (of_decide_eq_true rfl) fun h10 S10 _=>?_
     have S10 : Stt prog h.n h h10 ((b9,.cells (formR kind F g) 158 true) :: Rb br rv5 :: Kb b5 kind :: L') []:=S10
     have S11 : Stt prog h.n h h10 (Rb br rv5 :: (b9,.cells (formR kind F g) 158 true) :: Kb b5 kind :: L') []:=S10.perm (List.Perm.swap _ _ _)
     have R11 : RV (Rb br rv5 :: (b9,.cells (formR kind F g) 158 true) :: Kb b5 kind :: L') 0 rv5 r1:=R5.ins
     have c2:=S10.cell 0 (o:=2) (v:=fnV g) rfl rfl
     with_reducible repeat (first | (apply qzV; simp (disch:=omega) only [zA,bzIe.1,c2] <;> rfl) | apply qzT | apply qzF | apply qzG | ((first | apply qzB | apply qzC); simp (disch:=omega) only [zA,bzIe.1,c2] <;> rfl))
     have ec : callV (eInv env (k + 6999)) (fnV g) #[ptr br,.int .i64 n] h10 = eInv env (k + 6999) (.func g) #[] #[ptr br,.int .i64 n] h10:=by
      have : callV (eInv env (k + 6999)) (fnV g) #[ptr br,.int .i64 n] h10 = eInv env (k + 6999) (.func g) #[] (#[] ++ #[ptr br,.int .i64 n]) h10:=rfl
      rw [this]; simp
     rw [ec]
     refine Tl.bind (N.get (k:=k + 999) S11 R11 (n:=n) (by omega) (by omega) (fun x hx=>hb0 x (dl2 x hx))) ?_
     rintro ⟨r,h12⟩ (⟨l,rv12,o,O',hg,er,S12⟩ | ⟨hg,o,e,he,er,S12⟩)
     ·simp only at er S12
      subst er
      have hln:=kindG_len hg
      rw [hg]
      simp only
      have c3:=S12.cell 1 (o:=1) (v:=fnV F) rfl rfl
      with_reducible repeat (first | (apply qzV; simp (disch:=omega) only [zA,bzIe.1,c3] <;> rfl) | apply qzT | apply qzF | apply qzG | ((first | apply qzB | apply qzC); simp (disch:=omega) only [zA,bzIe.1,c3] <;> rfl))
      have ec : callV (eInv env (k + 6999)) (fnV F) #[o] h12 = eInv env (k + 6999) (.func F) #[] #[o] h12:=by
       have : callV (eInv env (k + 6999)) (fnV F) #[o] h12 = eInv env (k + 6999) (.func F) #[] (#[] ++ #[o]) h12:=rfl
       rw [this]; simp
      rw [ec]
      refine Tl.bind (N.put (k:=k + 999) (S12.sl1 (f:=i6v) 0 rfl) (by omega)) ?_
      rintro ⟨r,h13⟩ ⟨av,er,g13,X⟩
      simp only at er g13 X
      subst er
      have S13:=S12.gain g13 X
      have eq:=f104c (k:=k + 6998) (S13.sl1 (f:=u8v) 0 rfl) (B.grow S13.grow) (formB_256 kind l) hb
      by_cases q : formB kind l = kind :: r0
      ·rw [if_pos q]
       rw [decide_eq_true q] at eq
       with_reducible repeat (first | (apply qzV; simp (disch:=omega) only [zA,bzIe.1,eq] <;> rfl) | apply qzT | apply qzF | apply qzG | ((first | apply qzB | apply qzC); simp (disch:=omega) only [zA,bzIe.1,eq] <;> rfl))
       exact ⟨_,rfl,.inl ⟨l,o,rfl,by omega,rfl,S13.grow,S13.ret 1 rfl⟩⟩
      ·rw [if_neg q]
       rw [decide_eq_false q] at eq
       with_reducible repeat (first | (apply qzV; simp (disch:=omega) only [zA,bzIe.1,eq] <;> rfl) | apply qzT | apply qzF | apply qzG | ((first | apply qzB | apply qzC); simp (disch:=omega) only [zA,bzIe.1,eq] <;> rfl))
       exact ⟨_,rfl,.inr ⟨rfl,rfl,S13.grow⟩⟩
     ·simp only at er S12
      subst er
      rw [hg]
      with_reducible repeat (first | (apply qzV; simp (disch:=omega) only [zA,bzIe.1] <;> rfl) | apply qzT | apply qzF | apply qzG | ((first | apply qzB | apply qzC); simp (disch:=omega) only [zA,bzIe.1] <;> rfl))
      exact ⟨_,rfl,.inr ⟨rfl,rfl,S12.grow⟩⟩
    ·rw [if_neg qk]
     have hidx : idxK kind = -1:=by
      unfold idxK
      rw [if_neg (by omega),if_neg (by omega),if_neg (by omega)]
     rw [hidx]
     with_reducible repeat (first | (apply qzV; simp (disch:=omega) only [zA,bzIe.1] <;> rfl) | apply qzT | apply qzF | apply qzG | ((first | apply qzB | apply qzC); simp (disch:=omega) only [zA,bzIe.1] <;> rfl))
     exact ⟨_,rfl,.inr ⟨rfl,rfl,S7.grow⟩⟩
  ·cases er
   simp only [hd]
   with_reducible repeat (first | (apply qzV; simp (disch:=omega) only [zA,bzIe.1] <;> rfl) | apply qzT | apply qzF | apply qzG | ((first | apply qzB | apply qzC); simp (disch:=omega) only [zA,bzIe.1] <;> rfl))
   exact ⟨_,rfl,.inr ⟨trivial,rfl,S4.grow⟩⟩
end Go.Proofs.YtghelamfaaakcaaGreat.Sh
/- Codecs: how values are got; 'back'. -/
set_option linter.unusedVariables false
set_option linter.unusedSimpArgs false
set_option maxRecDepth 100000
namespace Go.Proofs.YtghelamfaaakcaaGreat.Sh
open Go Go.RowKit Go.Proofs.Ev Go.Lib
open Tryz (prog)
def bzS18:=PLift.up (ai @ld3 (ai @ld2 (ai @ld9 (ai @ld60 (ai @ld31 (ai @ld47 (ai @ld89 (ai @ld97 (ai @ld84 (ai @ld92 (ai @ld101 (ai @fa86_1 (ai @fa86_5 (ai @fa94_1 (ai @fa94_5 (ai @fa103_1 (ai @fa103_5 (ai @fa31_0 (ai @fa31_1 (ai @fa31_2 (ai (fun a h=>conv_int (a:=a) (h:=h) u60 u2) (ai (fun a h=>conv_int (a:=a) (h:=h) u60 u3) (ai @aggC (ai @ex2_0 (ai @ex2_1 (ai @ex3_0 (ai @ex3_1 (ai @ex3_2 (@Nat.add_zero)))))))))))))))))))))))))))))
theorem dropAllS {n0 : Nat} {h0 h : AH} {O : List OS} : ∀ {L : List (Nat × AO)},Stt prog n0 h0 h L O→Stt prog n0 h0 h [] O
 | [],S=>S
 | _ :: _,S=>dropAllS S.drop
section
variable {n0 : Nat} {h0 h : AH} {L : List (Nat × AO)} {O : List OS}
def gtN (b : List Nat) (n : Nat) : Option (List Int):=getI b
def bkN (b : List Nat) (n : Nat) : Option (List CellD):=match gtN b n with
 | none=>none
 | some vs=>if vs.length = n then some (vs.map mkN) else none
theorem f79c {k : Nat} {h : AH} {v : Value} {b : List Nat} (B : Bytes h v b) (hb : ∀ x ∈ b,x < 256) (hl : b.length ≤ 5000) (n : Nat) (hn : n ≤ 4096) (hk : 6000 < k) :
  Tl (eInv env (k + 7001) (.func 79) #[] #[v,.int .i64 n] h) fun r=>(∃ vs o,gtN b n = some vs ∧ vs.length ≤ 65536 ∧ r.1 = .tuple #[o,.int .i64 0] ∧ Stt prog h.n h r.2 [] [(o,1,i6rows vs)]) ∨
   (gtN b n = none ∧ ∃ o e,e ≠ 0 ∧ r.1 = .tuple #[o,.int .i64 e] ∧ Grow h r.2):=by
 rw [F79_call]
 unfold F79 gtN
 refine Tl.bind (f80c (k:=k) B hb hl) ?_
 rintro ⟨r,h1⟩ (⟨l,o,e,hl4,er,g,X⟩ | ⟨e,er,g⟩)
 ·simp only at er g X
  subst er
  with_reducible repeat (first | (apply qzV; simp (disch:=omega) only [zA,bzS18.1] <;> rfl) | apply qzT | apply qzF | (apply qzB; simp (disch:=omega) only [zA,bzS18.1] <;> rfl))
  exact ⟨_,rfl,.inl ⟨l,o,e,by omega,rfl,(Stt.init h).gain g X⟩⟩
 ·simp only at er g
  subst er
  with_reducible repeat (first | (apply qzV; simp (disch:=omega) only [zA,bzS18.1] <;> rfl) | apply qzT | apply qzF | (apply qzB; simp (disch:=omega) only [zA,bzS18.1] <;> rfl))
  exact ⟨_,rfl,.inr ⟨e,_,4,by decide,rfl,g⟩⟩
theorem backN_loop {β : Type} {k : Nat} {Q : β→Prop} {h0 : AH} {b3 : Nat} {lv : Value} {vs : List Int} (hl : vs.length ≤ 65536) {ke0 : Value→Value→Value→Value→Value→Value→AH→Option β} (n : Nat) :
  ∀ {i j : Nat} {h : AH} {ov : Value},i + n = vs.length→n < j→Stt prog h0.n h0 h [(b3,.cells codNL 86 true)] [(ov,3,crows ((vs.take i).map mkN)),(lv,1,i6rows vs)] →
   (∀ h' ov' y1 y2,Stt prog h0.n h0 h' [(b3,.cells codNL 86 true)] [(ov',3,crows (vs.map mkN)),(lv,1,i6rows vs)]→Tl (ke0 (ptr b3) ov' lv (.int .i64 vs.length) y1 y2 h') Q) →
   Tl (F213_lrlrrr (eInv env (k + 1)) (k + 1) j (ptr b3) ov lv (.int .i64 vs.length) (.int .i64 i) h ke0) Q:=by
 induction n with
 | zero =>
  intro i j h ov hi hj T hk
  obtain ⟨j,rfl⟩ : ∃ q,j = q + 1:=⟨j - 1,by omega⟩
  simp only [F213_lrlrrr]
  with_reducible repeat (first | (apply qzV; simp (disch:=omega) only [zA,bzS18.1] <;> rfl) | apply qzT | apply qzF | apply qzG | ((first | apply qzB | apply qzC); simp (disch:=omega) only [zA,bzS18.1] <;> rfl))
  rw [List.take_of_length_le (by omega)] at T
  exact hk _ _ _ _ T
 | succ n ih =>
  intro i j h ov hi hj T hk
  obtain ⟨j,rfl⟩ : ∃ q,j = q + 1:=⟨j - 1,by omega⟩
  obtain ⟨z,hz⟩ : ∃ z,vs[i]? = some z:=⟨_,List.getElem?_eq_getElem (by omega)⟩
  obtain ⟨b,o,hp,hc⟩:=Sl1.at_ (T.sl1 (f:=i6v) 1 rfl) (t:=121) (k:=.i64) hz u121 sz2
  have hc:=hc h (Grow.refl _)
  unfold i6v at hc
  have e : (i : Int) + 1 = ((i + 1 : Nat) : Int):=by omega
  have hti : vs.take (i + 1) = vs.take i ++ [z]:=by rw [List.take_add_one,hz]; rfl
  have c1:=T.cell (o:=1) (v:=.func (.func 73) #[] #[]) 0 rfl rfl
  simp only [F213_lrlrrr]
  unfold ptr
  with_reducible repeat (first | (apply qzV; simp (disch:=omega) only [zA,bzS18.1,hp,hc,c1] <;> rfl) | apply qzT | apply qzF | apply qzG | ((first | apply qzB | apply qzC); simp (disch:=omega) only [zA,bzS18.1,hp,hc,c1] <;> rfl))
  rw [callV_fn1]
  with_reducible refine Tl.call' T (f73c (k:=k) z h) fun h2 T2 _=>?_
  refine Tl.push T2 0 rfl appCs (bsCs _ _) rfl rfl (by rw [crows_len]; simp; omega) fun ov' h5 T5=>?_
  with_reducible repeat (first | (apply qzV; simp (disch:=omega) only [zA,bzS18.1] <;> rfl) | apply qzT | apply qzF | apply qzG | ((first | apply qzB | apply qzC); simp (disch:=omega) only [zA,bzS18.1] <;> rfl))
  rw [e]
  refine ih (by omega) (by omega) ?_ hk
  have e2 : crows ((vs.take i).map mkN) ++ [crow (mkN z)] = crows ((vs.take (i + 1)).map mkN):=by rw [hti]; simp [crows]
  rw [← e2]
  exact T5
/-- 'back'. -/
theorem backN_c {k : Nat} {h : AH} {v : Value} {b : List Nat} (B : Bytes h v b) (hb : ∀ x ∈ b,x < 256) (hl : b.length ≤ 5000) (n : Nat) (hn : n ≤ 4096) (hk : 6000 < k) :
  Tl (eInv env (k + 7002) (.method "shadowbook/segment.back") #[] #[.iface 86 (.agg codNL.toArray), v, .int .i64 n] h) fun r => (∃ cs o, bkN b n = some cs ∧ r.1 = .tuple #[o, .int .i64 0] ∧ Stt prog h.n h r.2 [] [(o, 3, crows cs)]) ∨
   (bkN b n = none ∧ r.1 = .tuple #[.slice none 0 0,.int .i64 4] ∧ Grow h r.2):=by
 rw [show eInv env (k + 7002) (.method "shadowbook/segment.back") #[] #[.iface 86 (.agg codNL.toArray), v, .int .i64 n] h = F213 (eInv env (k + 7001)) (k + 7001) (.agg codNL.toArray) v (.int .i64 n) h from
  (by kernel_rfl : _ = eFun env (k + 7001) (eInv env (k + 7001)) 213 #[.agg codNL.toArray,v,.int .i64 n] h).trans F213_eq]
 unfold F213
 refine Tl.box' (Stt.init h) rfl isN fun b3 h1 S1 _=>?_
 have S1 : Stt prog h.n h h1 [(b3,.cells codNL 86 true)] []:=S1
 have c5:=S1.cell (o:=5) (v:=.func (.func 79) #[] #[]) 0 rfl rfl
 with_reducible repeat (first | (apply qzV; simp (disch:=omega) only [zA,bzS18.1,c5] <;> rfl) | apply qzT | apply qzF | apply qzG | ((first | apply qzB | apply qzC); simp (disch:=omega) only [zA,bzS18.1,c5] <;> rfl))
 rw [callV_fn2]
 refine Tl.bind (f79c (k:=k) (Bytes.grow B S1.grow) hb hl n hn (by omega)) ?_
 rintro ⟨r,h2⟩ (⟨vs,o,hg,hv,er,X⟩ | ⟨hg,o,e,he,er,g⟩)
 ·simp only at er X
  subst er
  have S2:=S1.join X
  have S2 : Stt prog h.n h h2 [(b3,.cells codNL 86 true)] [(o,1,i6rows vs)]:=S2
  have lv : ∀ h' : AH,pLen prog #[121] o h' = some (.int .i64 vs.length):=fun h'=>Sl1.len (S2.sl1 (f:=i6v) 0 rfl) u121
  by_cases q : vs.length = n
  ·with_reducible repeat (first | (apply qzV; simp (disch:=omega) only [zA,bzS18.1,lv] <;> rfl) | apply qzT | apply qzF | apply qzG | ((first | apply qzB | apply qzC); simp (disch:=omega) only [zA,bzS18.1,lv] <;> rfl))
   refine backN_loop (k:=k + 7000) (i:=0) hv vs.length (by omega) (by omega) (S2.nil 3) fun h3 ov y1 y2 S3=>?_
   exact ⟨_,rfl,.inl ⟨_,ov,by unfold bkN; rw [hg]; simp only; rw [if_pos q],rfl,S3.drop.keepO (.cons_cons _ (List.nil_sublist _))⟩⟩
  ·with_reducible repeat (first | (apply qzV; simp (disch:=omega) only [zA,bzS18.1,lv] <;> rfl) | apply qzT | apply qzF | apply qzG | ((first | apply qzB | apply qzC); simp (disch:=omega) only [zA,bzS18.1,lv] <;> rfl))
   exact ⟨_,rfl,.inr ⟨by unfold bkN; rw [hg]; simp only; rw [if_neg q],rfl,S2.grow⟩⟩
 ·simp only at er g
  subst er
  with_reducible repeat (first | (apply qzV; simp (disch:=omega) only [zA,bzS18.1] <;> rfl) | apply qzT | apply qzF | apply qzG | ((first | apply qzB | apply qzC); simp (disch:=omega) only [zA,bzS18.1] <;> rfl))
  exact ⟨_,rfl,.inr ⟨by unfold bkN; rw [hg],rfl,S1.grow.trans g⟩⟩
def gtT (b : List Nat) (n : Nat) : Option (List Nat):=if Pk.checkE b (n : Int) 1 = 0 then some (Pk.getN b (n : Int) 1) else none
def bkT (b : List Nat) (n : Nat) : Option (List CellD):=match gtT b n with
 | none=>none
 | some vs=>if vs.length = n then some (vs.map mkT) else none
theorem f86c {k : Nat} {h : AH} {v : Value} {b : List Nat} (B : Bytes h v b) (hb : ∀ x ∈ b,x < 256) (hl : b.length ≤ 5000) (n : Nat) (hn : n ≤ 4096) (hk : 6000 < k) :
  Tl (eInv env (k + 7001) (.func 86) #[] #[v,.int .i64 n] h) fun r=>(∃ vs o,gtT b n = some vs ∧ vs.length ≤ 65536 ∧ r.1 = .tuple #[o,.int .i64 0] ∧ Stt prog h.n h r.2 [] [(o,1,u64rows vs)]) ∨
   (gtT b n = none ∧ ∃ o e,e ≠ 0 ∧ r.1 = .tuple #[o,.int .i64 e] ∧ Grow h r.2):=by
 rw [F86_call]
 unfold F86 gtT
 refine Tl.bind (f87c (k:=k + 6910) B hb (by omega) (n : Int) 1 (fun _=>by omega)) ?_
 rintro ⟨r,h1⟩ ⟨o,er,g,X⟩
 simp only at er g X
 subst er
 by_cases q : Pk.checkE b (n : Int) 1 = 0
 ·rw [if_pos q,q]
  with_reducible repeat (first | (apply qzV; simp (disch:=omega) only [zA,bzS18.1] <;> rfl) | apply qzT | apply qzF | (apply qzB; simp (disch:=omega) only [zA,bzS18.1] <;> rfl))
  refine ⟨_,rfl,.inl ⟨_,o,rfl,?_,rfl,(Stt.init h).gain g X⟩⟩
  obtain ⟨N,W,e1,e2,hN,hW,hlen,_⟩:=Pk.back hb q
  omega
 ·rw [if_neg q]
  with_reducible repeat (first | (apply qzV; simp (disch:=omega) only [zA,bzS18.1] <;> rfl) | apply qzT | apply qzF | (apply qzB; simp (disch:=omega) only [zA,bzS18.1] <;> rfl))
  exact ⟨_,rfl,.inr ⟨rfl,o,_,q,rfl,g⟩⟩
theorem backT_loop {β : Type} {k : Nat} {Q : β→Prop} {h0 : AH} {b3 : Nat} {lv : Value} {vs : List Nat} (hl : vs.length ≤ 65536) {ke0 : Value→Value→Value→Value→Value→Value→AH→Option β} (n : Nat) :
  ∀ {i j : Nat} {h : AH} {ov : Value},i + n = vs.length→n < j→Stt prog h0.n h0 h [(b3,.cells codTL 94 true)] [(ov,3,crows ((vs.take i).map mkT)),(lv,1,u64rows vs)] →
   (∀ h' ov' y1 y2,Stt prog h0.n h0 h' [(b3,.cells codTL 94 true)] [(ov',3,crows (vs.map mkT)),(lv,1,u64rows vs)]→Tl (ke0 (ptr b3) ov' lv (.int .i64 vs.length) y1 y2 h') Q) →
   Tl (F217_lrlrrr (eInv env (k + 1)) (k + 1) j (ptr b3) ov lv (.int .i64 vs.length) (.int .i64 i) h ke0) Q:=by
 induction n with
 | zero =>
  intro i j h ov hi hj T hk
  obtain ⟨j,rfl⟩ : ∃ q,j = q + 1:=⟨j - 1,by omega⟩
  simp only [F217_lrlrrr]
  with_reducible repeat (first | (apply qzV; simp (disch:=omega) only [zA,bzS18.1] <;> rfl) | apply qzT | apply qzF | apply qzG | ((first | apply qzB | apply qzC); simp (disch:=omega) only [zA,bzS18.1] <;> rfl))
  rw [List.take_of_length_le (by omega)] at T
  exact hk _ _ _ _ T
 | succ n ih =>
  intro i j h ov hi hj T hk
  obtain ⟨j,rfl⟩ : ∃ q,j = q + 1:=⟨j - 1,by omega⟩
  obtain ⟨z,hz⟩ : ∃ z,vs[i]? = some z:=⟨_,List.getElem?_eq_getElem (by omega)⟩
  obtain ⟨b,o,hp,hc⟩:=Sl1.at_ (T.sl1 (f:=u64v) 1 rfl) (t:=63) (k:=.i64) hz u63 sz60
  have hc:=hc h (Grow.refl _)
  unfold u64v at hc
  have e : (i : Int) + 1 = ((i + 1 : Nat) : Int):=by omega
  have hti : vs.take (i + 1) = vs.take i ++ [z]:=by rw [List.take_add_one,hz]; rfl
  have c1:=T.cell (o:=1) (v:=.func (.func 82) #[] #[]) 0 rfl rfl
  simp only [F217_lrlrrr]
  unfold ptr
  with_reducible repeat (first | (apply qzV; simp (disch:=omega) only [zA,bzS18.1,hp,hc,c1] <;> rfl) | apply qzT | apply qzF | apply qzG | ((first | apply qzB | apply qzC); simp (disch:=omega) only [zA,bzS18.1,hp,hc,c1] <;> rfl))
  rw [callV_fn1]
  with_reducible refine Tl.call' T (f82c (k:=k) z h) fun h2 T2 _=>?_
  refine Tl.push T2 0 rfl appCs (bsCs _ _) rfl rfl (by rw [crows_len]; simp; omega) fun ov' h5 T5=>?_
  with_reducible repeat (first | (apply qzV; simp (disch:=omega) only [zA,bzS18.1] <;> rfl) | apply qzT | apply qzF | apply qzG | ((first | apply qzB | apply qzC); simp (disch:=omega) only [zA,bzS18.1] <;> rfl))
  rw [e]
  refine ih (by omega) (by omega) ?_ hk
  have e2 : crows ((vs.take i).map mkT) ++ [crow (mkT z)] = crows ((vs.take (i + 1)).map mkT):=by rw [hti]; simp [crows]
  rw [← e2]
  exact T5
/-- 'back'. -/
theorem backT_c {k : Nat} {h : AH} {v : Value} {b : List Nat} (B : Bytes h v b) (hb : ∀ x ∈ b,x < 256) (hl : b.length ≤ 5000) (n : Nat) (hn : n ≤ 4096) (hk : 6000 < k) :
  Tl (eInv env (k + 7002) (.method "shadowbook/segment.back") #[] #[.iface 94 (.agg codTL.toArray), v, .int .i64 n] h) fun r => (∃ cs o, bkT b n = some cs ∧ r.1 = .tuple #[o, .int .i64 0] ∧ Stt prog h.n h r.2 [] [(o, 3, crows cs)]) ∨
   (bkT b n = none ∧ r.1 = .tuple #[.slice none 0 0,.int .i64 4] ∧ Grow h r.2):=by
 rw [show eInv env (k + 7002) (.method "shadowbook/segment.back") #[] #[.iface 94 (.agg codTL.toArray), v, .int .i64 n] h = F217 (eInv env (k + 7001)) (k + 7001) (.agg codTL.toArray) v (.int .i64 n) h from
  (by kernel_rfl : _ = eFun env (k + 7001) (eInv env (k + 7001)) 217 #[.agg codTL.toArray,v,.int .i64 n] h).trans F217_eq]
 unfold F217
 refine Tl.box' (Stt.init h) rfl isT fun b3 h1 S1 _=>?_
 have S1 : Stt prog h.n h h1 [(b3,.cells codTL 94 true)] []:=S1
 have c5:=S1.cell (o:=5) (v:=.func (.func 86) #[] #[]) 0 rfl rfl
 with_reducible repeat (first | (apply qzV; simp (disch:=omega) only [zA,bzS18.1,c5] <;> rfl) | apply qzT | apply qzF | apply qzG | ((first | apply qzB | apply qzC); simp (disch:=omega) only [zA,bzS18.1,c5] <;> rfl))
 rw [callV_fn2]
 refine Tl.bind (f86c (k:=k) (Bytes.grow B S1.grow) hb hl n hn (by omega)) ?_
 rintro ⟨r,h2⟩ (⟨vs,o,hg,hv,er,X⟩ | ⟨hg,o,e,he,er,g⟩)
 ·simp only at er X
  subst er
  have S2:=S1.join X
  have S2 : Stt prog h.n h h2 [(b3,.cells codTL 94 true)] [(o,1,u64rows vs)]:=S2
  have lv : ∀ h' : AH,pLen prog #[63] o h' = some (.int .i64 vs.length):=fun h'=>Sl1.len (S2.sl1 (f:=u64v) 0 rfl) u63
  by_cases q : vs.length = n
  ·with_reducible repeat (first | (apply qzV; simp (disch:=omega) only [zA,bzS18.1,lv] <;> rfl) | apply qzT | apply qzF | apply qzG | ((first | apply qzB | apply qzC); simp (disch:=omega) only [zA,bzS18.1,lv] <;> rfl))
   refine backT_loop (k:=k + 7000) (i:=0) hv vs.length (by omega) (by omega) (S2.nil 3) fun h3 ov y1 y2 S3=>?_
   exact ⟨_,rfl,.inl ⟨_,ov,by unfold bkT; rw [hg]; simp only; rw [if_pos q],rfl,S3.drop.keepO (.cons_cons _ (List.nil_sublist _))⟩⟩
  ·with_reducible repeat (first | (apply qzV; simp (disch:=omega) only [zA,bzS18.1,lv] <;> rfl) | apply qzT | apply qzF | apply qzG | ((first | apply qzB | apply qzC); simp (disch:=omega) only [zA,bzS18.1,lv] <;> rfl))
   exact ⟨_,rfl,.inr ⟨by unfold bkT; rw [hg]; simp only; rw [if_neg q],rfl,S2.grow⟩⟩
 ·simp only at er g
  subst er
  with_reducible repeat (first | (apply qzV; simp (disch:=omega) only [zA,bzS18.1] <;> rfl) | apply qzT | apply qzF | apply qzG | ((first | apply qzB | apply qzC); simp (disch:=omega) only [zA,bzS18.1] <;> rfl))
  exact ⟨_,rfl,.inr ⟨by unfold bkT; rw [hg],rfl,S1.grow.trans g⟩⟩
def gtW (b : List Nat) (n : Nat) : Option (List ByteArray):=getT b
def bkW (b : List Nat) (n : Nat) : Option (List CellD):=match gtW b n with
 | none=>none
 | some vs=>if vs.length = n then some (vs.map mkW) else none
theorem f94c {k : Nat} {h : AH} {v : Value} {b : List Nat} (B : Bytes h v b) (hb : ∀ x ∈ b,x < 256) (hl : b.length ≤ 5000) (n : Nat) (hn : n ≤ 4096) (hk : 6000 < k) :
  Tl (eInv env (k + 7001) (.func 94) #[] #[v,.int .i64 n] h) fun r=>(∃ vs o,gtW b n = some vs ∧ vs.length ≤ 65536 ∧ r.1 = .tuple #[o,.int .i64 0] ∧ Stt prog h.n h r.2 [] [(o,1,srows vs)]) ∨
   (gtW b n = none ∧ ∃ o e,e ≠ 0 ∧ r.1 = .tuple #[o,.int .i64 e] ∧ Grow h r.2):=by
 rw [F94_call]
 unfold F94 gtW
 refine Tl.bind (f95c (k:=k + 6100) B hb (by omega) (by omega) (by omega)) ?_
 rintro ⟨r,h1⟩ (⟨l,o,e,er,hl4,L',X⟩ | ⟨e,er,g⟩)
 ·simp only at er X
  subst er
  with_reducible repeat (first | (apply qzV; simp (disch:=omega) only [zA,bzS18.1] <;> rfl) | apply qzT | apply qzF | (apply qzB; simp (disch:=omega) only [zA,bzS18.1] <;> rfl))
  exact ⟨_,rfl,.inl ⟨l,o,e,by omega,rfl,dropAllS X⟩⟩
 ·simp only at er g
  subst er
  with_reducible repeat (first | (apply qzV; simp (disch:=omega) only [zA,bzS18.1] <;> rfl) | apply qzT | apply qzF | (apply qzB; simp (disch:=omega) only [zA,bzS18.1] <;> rfl))
  exact ⟨_,rfl,.inr ⟨e,_,4,by decide,rfl,g⟩⟩
theorem backW_loop {β : Type} {k : Nat} {Q : β→Prop} {h0 : AH} {b3 : Nat} {lv : Value} {vs : List ByteArray} (hl : vs.length ≤ 65536) {ke0 : Value→Value→Value→Value→Value→Value→AH→Option β} (n : Nat) :
  ∀ {i j : Nat} {h : AH} {ov : Value},i + n = vs.length→n < j→Stt prog h0.n h0 h [(b3,.cells codWL 103 true)] [(ov,3,crows ((vs.take i).map mkW)),(lv,1,srows vs)] →
   (∀ h' ov' y1 y2,Stt prog h0.n h0 h' [(b3,.cells codWL 103 true)] [(ov',3,crows (vs.map mkW)),(lv,1,srows vs)]→Tl (ke0 (ptr b3) ov' lv (.int .i64 vs.length) y1 y2 h') Q) →
   Tl (F221_lrlrrr (eInv env (k + 1)) (k + 1) j (ptr b3) ov lv (.int .i64 vs.length) (.int .i64 i) h ke0) Q:=by
 induction n with
 | zero =>
  intro i j h ov hi hj T hk
  obtain ⟨j,rfl⟩ : ∃ q,j = q + 1:=⟨j - 1,by omega⟩
  simp only [F221_lrlrrr]
  with_reducible repeat (first | (apply qzV; simp (disch:=omega) only [zA,bzS18.1] <;> rfl) | apply qzT | apply qzF | apply qzG | ((first | apply qzB | apply qzC); simp (disch:=omega) only [zA,bzS18.1] <;> rfl))
  rw [List.take_of_length_le (by omega)] at T
  exact hk _ _ _ _ T
 | succ n ih =>
  intro i j h ov hi hj T hk
  obtain ⟨j,rfl⟩ : ∃ q,j = q + 1:=⟨j - 1,by omega⟩
  obtain ⟨z,hz⟩ : ∃ z,vs[i]? = some z:=⟨_,List.getElem?_eq_getElem (by omega)⟩
  obtain ⟨b,o,hp,hc⟩:=Sl1.at_ (T.sl1 (f:=Value.string) 1 rfl) (t:=122) (k:=.i64) hz u122 sz9
  have hc:=hc h (Grow.refl _)
  have e : (i : Int) + 1 = ((i + 1 : Nat) : Int):=by omega
  have hti : vs.take (i + 1) = vs.take i ++ [z]:=by rw [List.take_add_one,hz]; rfl
  have c1:=T.cell (o:=1) (v:=.func (.func 89) #[] #[]) 0 rfl rfl
  simp only [F221_lrlrrr]
  unfold ptr
  with_reducible repeat (first | (apply qzV; simp (disch:=omega) only [zA,bzS18.1,hp,hc,c1] <;> rfl) | apply qzT | apply qzF | apply qzG | ((first | apply qzB | apply qzC); simp (disch:=omega) only [zA,bzS18.1,hp,hc,c1] <;> rfl))
  rw [callV_fn1]
  with_reducible refine Tl.call' T (f89c (k:=k) z h) fun h2 T2 _=>?_
  refine Tl.push T2 0 rfl appCs (bsCs _ _) rfl rfl (by rw [crows_len]; simp; omega) fun ov' h5 T5=>?_
  with_reducible repeat (first | (apply qzV; simp (disch:=omega) only [zA,bzS18.1] <;> rfl) | apply qzT | apply qzF | apply qzG | ((first | apply qzB | apply qzC); simp (disch:=omega) only [zA,bzS18.1] <;> rfl))
  rw [e]
  refine ih (by omega) (by omega) ?_ hk
  have e2 : crows ((vs.take i).map mkW) ++ [crow (mkW z)] = crows ((vs.take (i + 1)).map mkW):=by rw [hti]; simp [crows]
  rw [← e2]
  exact T5
/-- 'back'. -/
theorem backW_c {k : Nat} {h : AH} {v : Value} {b : List Nat} (B : Bytes h v b) (hb : ∀ x ∈ b,x < 256) (hl : b.length ≤ 5000) (n : Nat) (hn : n ≤ 4096) (hk : 6000 < k) :
  Tl (eInv env (k + 7002) (.method "shadowbook/segment.back") #[] #[.iface 103 (.agg codWL.toArray), v, .int .i64 n] h) fun r => (∃ cs o, bkW b n = some cs ∧ r.1 = .tuple #[o, .int .i64 0] ∧ Stt prog h.n h r.2 [] [(o, 3, crows cs)]) ∨
   (bkW b n = none ∧ r.1 = .tuple #[.slice none 0 0,.int .i64 4] ∧ Grow h r.2):=by
 rw [show eInv env (k + 7002) (.method "shadowbook/segment.back") #[] #[.iface 103 (.agg codWL.toArray), v, .int .i64 n] h = F221 (eInv env (k + 7001)) (k + 7001) (.agg codWL.toArray) v (.int .i64 n) h from
  (by kernel_rfl : _ = eFun env (k + 7001) (eInv env (k + 7001)) 221 #[.agg codWL.toArray,v,.int .i64 n] h).trans F221_eq]
 unfold F221
 refine Tl.box' (Stt.init h) rfl isW fun b3 h1 S1 _=>?_
 have S1 : Stt prog h.n h h1 [(b3,.cells codWL 103 true)] []:=S1
 have c5:=S1.cell (o:=5) (v:=.func (.func 94) #[] #[]) 0 rfl rfl
 with_reducible repeat (first | (apply qzV; simp (disch:=omega) only [zA,bzS18.1,c5] <;> rfl) | apply qzT | apply qzF | apply qzG | ((first | apply qzB | apply qzC); simp (disch:=omega) only [zA,bzS18.1,c5] <;> rfl))
 rw [callV_fn2]
 refine Tl.bind (f94c (k:=k) (Bytes.grow B S1.grow) hb hl n hn (by omega)) ?_
 rintro ⟨r,h2⟩ (⟨vs,o,hg,hv,er,X⟩ | ⟨hg,o,e,he,er,g⟩)
 ·simp only at er X
  subst er
  have S2:=S1.join X
  have S2 : Stt prog h.n h h2 [(b3,.cells codWL 103 true)] [(o,1,srows vs)]:=S2
  have lv : ∀ h' : AH,pLen prog #[122] o h' = some (.int .i64 vs.length):=fun h'=>Sl1.len (S2.sl1 (f:=Value.string) 0 rfl) u122
  by_cases q : vs.length = n
  ·with_reducible repeat (first | (apply qzV; simp (disch:=omega) only [zA,bzS18.1,lv] <;> rfl) | apply qzT | apply qzF | apply qzG | ((first | apply qzB | apply qzC); simp (disch:=omega) only [zA,bzS18.1,lv] <;> rfl))
   refine backW_loop (k:=k + 7000) (i:=0) hv vs.length (by omega) (by omega) (S2.nil 3) fun h3 ov y1 y2 S3=>?_
   exact ⟨_,rfl,.inl ⟨_,ov,by unfold bkW; rw [hg]; simp only; rw [if_pos q],rfl,S3.drop.keepO (.cons_cons _ (List.nil_sublist _))⟩⟩
  ·with_reducible repeat (first | (apply qzV; simp (disch:=omega) only [zA,bzS18.1,lv] <;> rfl) | apply qzT | apply qzF | apply qzG | ((first | apply qzB | apply qzC); simp (disch:=omega) only [zA,bzS18.1,lv] <;> rfl))
   exact ⟨_,rfl,.inr ⟨by unfold bkW; rw [hg]; simp only; rw [if_neg q],rfl,S2.grow⟩⟩
 ·simp only at er g
  subst er
  with_reducible repeat (first | (apply qzV; simp (disch:=omega) only [zA,bzS18.1] <;> rfl) | apply qzT | apply qzF | apply qzG | ((first | apply qzB | apply qzC); simp (disch:=omega) only [zA,bzS18.1] <;> rfl))
  exact ⟨_,rfl,.inr ⟨by unfold bkW; rw [hg],rfl,S1.grow.trans g⟩⟩
end
end Go.Proofs.YtghelamfaaakcaaGreat.Sh
/- What 'segment.Put' comes to: the whole. -/
set_option linter.unusedVariables false
set_option linter.unusedSimpArgs false
set_option maxRecDepth 100000
namespace Go.Proofs.YtghelamfaaakcaaGreat.Sh
open Go Go.RowKit Go.Proofs.Ev Go.Lib
open Tryz (prog)
def bzS6:=PLift.up (ai @ld3 (ai @ld2 (ai @ld9 (ai @ld4 (ai @ld31 (ai @fa31_0 (ai @fa31_1 (ai @fa31_2 (ai (fun a h=>conv_int (a:=a) (h:=h) u3 u5) (ai @aggC (ai @ex2_0 (ai @ex2_1 (@Nat.add_zero)))))))))))))
/-! ### What is put -/
def oneB (kind : Int) (c : CellD) : List Nat:=if kind = 1 then oneN c else if kind = 2 then oneT c else oneW c
def cellsE (kind : Int) (l : List CellD) : Int:=if kind = 1 then 0 else if kind = 2 then Pk.putE (valsT l) 1 else checkT (valsW l)
def cellsB (kind : Int) (l : List CellD) : List Nat:=if kind = 1 then putI (valsN l) else if kind = 2 then Pk.putL (valsT l) 1 else putT (valsW l)
def tailB (kind : Int) (l : List CellD) : List Nat:=if l = [] then [] else (oneB kind (ofZ l).mn ++ oneB kind (ofZ l).mx) ++ cellsB kind l
def segB (kind : Int) (l : List CellD) : List Nat:=[kind.toNat] ++ putV (flg l) ++ tailB kind (vals l)
def goodC (kind : Int) (c : CellD) : Prop:=c.k = kind ∧ cellE c = 0
theorem and1_01 (i : Int) : and1 i = 0 ∨ and1 i = 1:=by
 unfold and1
 have h : (BitVec.ofInt 64 i &&& BitVec.ofInt 64 1).toNat ≤ 1:=by
  rw [BitVec.toNat_and]
  have : (BitVec.ofInt 64 1).toNat = 1:=by decide
  rw [this,Nat.and_one_is_mod]
  omega
 generalize (BitVec.ofInt 64 i &&& BitVec.ofInt 64 1).toNat = n at h
 have : n = 0 ∨ n = 1:=by omega
 rcases this with rfl | rfl
 ·exact .inl (by decide)
 ·exact .inr (by decide)
theorem cellE_size {c : CellD} (h : cellE c = 0) : c.s.size ≤ 65536:=by
 unfold cellE at h
 split at h
 ·cases h
 ·omega
theorem cellE_bare {c : CellD} (h : cellE c = 0) : bare c = c:=by
 unfold cellE at h
 split at h
 ·cases h
 ·split at h
  ·split at h
   ·assumption
   ·cases h
  ·cases h
theorem good_bool {c : CellD} (h : goodC 2 c) : c.i = 0 ∨ c.i = 1:=by
 have hb:=cellE_bare h.2
 unfold bare at hb
 rw [if_neg (by rw [h.1]; decide),if_neg (by rw [h.1]; decide),if_pos h.1] at hb
 have : and1 c.i = c.i:=congrArg CellD.i hb
 have h2:=and1_01 c.i
 rw [this] at h2
 exact h2
theorem chkE_all {kind : Int} : ∀ {l : List CellD},chkE kind l = 0 ↔ ∀ c ∈ l,cellE c = 0 ∧ (c.k = kind ∨ c.k = 0)
 | []=>by simp [chkE]
 | c :: l=>by
  have ih:=chkE_all (kind:=kind) (l:=l)
  unfold chkE
  by_cases h1 : cellE c = 0
  ·rw [if_neg (by simpa using h1)]
   by_cases h2 : c.k ≠ kind ∧ c.k ≠ 0
   ·rw [if_pos h2]
    simp only [List.mem_cons,forall_eq_or_imp]
    constructor
    ·intro q; cases q
    ·rintro ⟨⟨_,q | q⟩,_⟩
     ·exact absurd q h2.1
     ·exact absurd q h2.2
   ·rw [if_neg h2,ih]
    simp only [List.mem_cons,forall_eq_or_imp]
    have : c.k = kind ∨ c.k = 0:=by
     by_cases q : c.k = kind
     ·exact .inl q
     ·exact .inr (Classical.not_not.1 fun q2=>h2 ⟨q,q2⟩)
    exact ⟨fun q=>⟨⟨h1,this⟩,q⟩,fun q=>q.2⟩
  ·rw [if_pos h1]
   simp only [List.mem_cons,forall_eq_or_imp]
   exact ⟨fun q=>absurd q h1,fun q=>absurd q.1.1 h1⟩
theorem segE_zero {kind : Int} {l : List CellD} : segE kind l = 0 ↔ (1 ≤ kind ∧ kind ≤ 3) ∧ l.length ≤ 4096 ∧ ∀ c ∈ l,cellE c = 0 ∧ (c.k = kind ∨ c.k = 0):=by
 unfold segE
 by_cases p : 1 ≤ kind ∧ kind ≤ 3
 ·rw [if_pos p]
  by_cases q : l.length > 4096
  ·rw [if_pos q]
   constructor
   ·intro h; cases h
   ·intro h; omega
  ·rw [if_neg q,chkE_all]
   exact ⟨fun h=>⟨p,by omega,h⟩,fun h=>h.2.2⟩
 ·rw [if_neg p]
  constructor
  ·intro h; cases h
  ·intro h; exact absurd h.1 p
theorem good_vals {kind : Int} {l : List CellD} (h : ∀ c ∈ l,cellE c = 0 ∧ (c.k = kind ∨ c.k = 0)) : ∀ c ∈ vals l,goodC kind c:=fun c hc=>by
 have hm : c ∈ l ∧ c.k ≠ 0:=by simpa [vals] using hc
 obtain ⟨h1,h2⟩:=h c hm.1
 exact ⟨h2.resolve_right hm.2,h1⟩
theorem cellsE_zero {kind : Int} (hk : 1 ≤ kind ∧ kind ≤ 3) {l : List CellD} (hl : l.length ≤ 4096) (h : ∀ c ∈ l,goodC kind c) : cellsE kind l = 0:=by
 unfold cellsE
 by_cases p1 : kind = 1
 ·rw [if_pos p1]
 rw [if_neg p1]
 by_cases p2 : kind = 2
 ·rw [if_pos p2]
  refine Pk.putE_of (W:=1) (by simp [valsT]; omega) (by omega) ((Pk.width_le _ _).2 fun x hx=>?_)
  obtain ⟨c,hc,rfl⟩:=List.mem_map.1 hx
  have:=good_bool (p2 ▸ h c hc)
  unfold toU
  omega
 rw [if_neg p2]
 unfold checkT
 rw [if_pos]
 rw [mayT_spec]
 refine ⟨by simp [valsW]; omega,fun x hx=>?_⟩
 obtain ⟨c,hc,rfl⟩:=List.mem_map.1 hx
 exact cellE_size (h c hc).2
theorem putI_le {l : List Int} (hl : l.length ≤ 4096) : (putI l).length ≤ 11 + 8 * l.length:=by
 have h1 : (plainB l).length ≤ 11 + 8 * l.length:=by
  unfold plainB headB
  have:=pvarN_le10 (n:=l.length) (by omega)
  simp only [List.length_append,List.length_cons,flat8_len]
  omega
 unfold putI
 simp only
 split <;> split <;> omega
theorem cellsB_len {kind : Int} (hk : 1 ≤ kind ∧ kind ≤ 3) {l : List CellD} (hl : l.length ≤ 4096) : (cellsB kind l).length ≤ 2 ^ 31:=by
 unfold cellsB
 split
 ·have e : (valsN l).length = l.length:=List.length_map ..
  have:=putI_le (l:=valsN l) (by omega)
  omega
 ·split
  ·unfold Pk.putL
   split
   ·have:=(putN_spec (1 : Int).toNat (valsT l)).2.1
    have e : (valsT l).length = l.length:=List.length_map ..
    rw [this,e]
    have : (1 : Int).toNat = 1:=rfl
    rw [this]
    omega
   ·simp
  ·unfold putT
   split
   ·rename_i h
    have:=plainT_le h
    split <;> omega
   ·simp
theorem mn_mem {l : List CellD} (hl : l.length ≤ 4096) (hv : ∀ c ∈ l,c.k ≠ 0) (h : l ≠ []) : (ofZ l).mn ∈ l ∧ (ofZ l).mx ∈ l:=by
 have e : vals l = l:=by unfold vals; rw [List.filter_eq_self]; intro c hc; simpa using hv c hc
 rw [ofZ_rep l (by omega),e]
 exact ⟨(mnL_spec h).1,(mxL_spec h).1⟩
/-! ### The walk -/
section
variable {n0 : Nat} {h0 h : AH} {L : List (Nat × AO)} {O : List OS}
theorem segcells_c {k : Nat} {h : AH} {v : Value} {kind : Int} (hk : 1 ≤ kind ∧ kind ≤ 3) {l : List CellD} (A : Cells h v l) (hl : l.length ≤ 4096) (hk2 : 4096 < k) :
  Tl (eInv env (k + 602) (.method "shadowbook/segment.cells") #[] #[codV kind, v] h) fun r => ∃ o, r.1 = .tuple #[o, .int .i64 (cellsE kind l)] ∧ Stt prog h.n h r.2 [] [(o, 1, u8rows (cellsB kind l))] := by
 have h : kind = 1 ∨ kind = 2 ∨ kind = 3:=by omega
 rcases h with rfl | rfl | rfl
 ·exact cellsN_c A hl hk2
 ·exact cellsT_c A hl hk2
 ·exact cellsW_c A hl hk2
theorem segzone_c {k : Nat} {v : Value} {l : List Nat} {kind : Int} (hk : 1 ≤ kind ∧ kind ≤ 3) (z : ZoneD) (hc : z.mn.s.size ≤ 2 ^ 20) (hd : z.mx.s.size ≤ 2 ^ 20) (hl : l.length ≤ 2 ^ 26) (S : Stt prog n0 h0 h L ((v,1,u8rows l) :: O)) :
  Tl (eInv env (k + 31) (.method "shadowbook/segment.zone") #[] #[codV kind, v, zv z] h) fun r => Stt prog n0 h0 r.2 L ((r.1, 1, u8rows (l ++ (oneB kind z.mn ++ oneB kind z.mx))) :: O) := by
 have h : kind = 1 ∨ kind = 2 ∨ kind = 3:=by omega
 rcases h with rfl | rfl | rfl
 ·exact zoneN_c z hl S
 ·exact zoneT_c z hl S
 ·exact zoneW_c z hc hd hl S
/-- One's own slices in another order. -/
theorem permO {P : Program} {n0 : Nat} {h0 h : AH} {L : List (Nat × AO)} {O O' : List OS} (S : Stt P n0 h0 h L O) (hs : O.Perm O') : Stt P n0 h0 h L O':=by
 have hp : O.Pairwise fun x y=>∀ b,blkOf x.1 = some b→¬ blkOf y.1 = some b:=by
  rw [List.pairwise_iff_getElem]
  intro i j hi hj hij b h1 h2
  have:=S.apart i j _ _ b (List.getElem?_eq_getElem hi) (List.getElem?_eq_getElem hj) h1 h2
  omega
 have hp2:=List.pairwise_iff_getElem.1 ((hs.pairwise_iff (fun {x y} h b h1 h2=>h b h2 h1)).1 hp)
 refine ⟨S.sta,fun o ho=>S.own o (hs.mem_iff.2 ho),fun i j x y b hi hj h1 h2=>?_⟩
 obtain ⟨l1,rfl⟩:=List.getElem?_eq_some_iff.1 hi
 obtain ⟨l2,rfl⟩:=List.getElem?_eq_some_iff.1 hj
 rcases Nat.lt_trichotomy i j with q | q | q
 ·exact (hp2 i j l1 l2 q b h1 h2).elim
 ·exact q
 ·exact (hp2 j i l2 l1 q b h2 h1).elim
def mkZ (kind : Int) : Value := .func (.method "shadowbook/segment.zone") #[codV kind] #[]
theorem mkz1 : pMakeFunc (.method "shadowbook/segment.zone") #[codV 1] #[] = some (mkZ 1) := by kernel_rfl
theorem mkz2 : pMakeFunc (.method "shadowbook/segment.zone") #[codV 2] #[] = some (mkZ 2) := by kernel_rfl
theorem mkz3 : pMakeFunc (.method "shadowbook/segment.zone") #[codV 3] #[] = some (mkZ 3) := by kernel_rfl
theorem ncz1 : pNilCheck prog (mkZ 1) = some (mkZ 1):=by kernel_rfl
theorem ncz2 : pNilCheck prog (mkZ 2) = some (mkZ 2):=by kernel_rfl
theorem ncz3 : pNilCheck prog (mkZ 3) = some (mkZ 3):=by kernel_rfl
theorem mkz {kind : Int} (hk : 1 ≤ kind ∧ kind ≤ 3) : pMakeFunc (.method "shadowbook/segment.zone") #[codV kind] #[] = some (mkZ kind) ∧ pNilCheck prog (mkZ kind) = some (mkZ kind) := by
 have h : kind = 1 ∨ kind = 2 ∨ kind = 3:=by omega
 rcases h with rfl | rfl | rfl
 ·exact ⟨mkz1,ncz1⟩
 ·exact ⟨mkz2,ncz2⟩
 ·exact ⟨mkz3,ncz3⟩
end
theorem f13c {k : Nat} {h : AH} {v : Value} {l : List CellD} (kind : Int) (A : Cells h v l) (hl : l.length ≤ 9223372036854775807) (hk : 4200 < k) :
  Tl (eInv env (k + 701) (.func 13) #[] #[.int .i64 kind,v] h) fun r=>r.1 = .tuple #[.string (strB (if segE kind l = 0 then segB kind l else [])),.int .i64 (segE kind l)] ∧ Grow h r.2:=by
 rw [F13_call]
 unfold F13
 have hv : ∀ h' : AH,pLen prog #[22] v h' = some (.int .i64 l.length):=fun h'=>A.len
 with_reducible refine Tl.call' (Stt.init (P:=prog) h) (f11c (k:=k + 697) kind A hl (by omega)) fun h1 S1 _=>?_
 by_cases e0 : ¬ segE kind l = 0
 ·rw [if_neg e0]
  with_reducible repeat (first | (apply qzV; simp (disch:=omega) only [zA,bzS6.1] <;> rfl) | apply qzT | apply qzF | (apply qzB; simp (disch:=omega) only [zA,bzS6.1] <;> rfl))
  exact ⟨_,rfl,rfl,S1.grow⟩
 have e0 : segE kind l = 0:=Classical.not_not.1 e0
 rw [if_pos e0]
 obtain ⟨hkd,hl4,hall⟩:=segE_zero.1 e0
 rw [e0]
 with_reducible repeat (first | (apply qzV; simp (disch:=omega) only [zA,bzS6.1,hv] <;> rfl) | apply qzT | apply qzF | (apply qzB; simp (disch:=omega) only [zA,bzS6.1,hv] <;> rfl))
 refine Tl.make' (S1.nil 3) app32 ze4 (by omega) (by omega) fun nv h2 S2 g2=>?_
 have S2 : Stt prog h.n h h2 [] [(nv,1,brows (flx l 0)),(.slice none 0 0,3,crows (vals (l.take 0)))]:=by
  have e : brows (flx l 0) = List.replicate l.length [.bool false]:=by simp [flx,flg,brows,bv]
  rw [e]
  exact S2
 with_reducible repeat (first | (apply qzV; simp (disch:=omega) only [zA,bzS6.1,hv] <;> rfl) | apply qzT | apply qzF | (apply qzB; simp (disch:=omega) only [zA,bzS6.1,hv] <;> rfl))
 refine f13_loop (i:=0) A hl4 l.length (by omega) (by omega) S2 fun h3 nv sv y1 y2 S3=>?_
 have hfl : (flg l).length = l.length:=List.length_map ..
 have hvl:=vals_le l
 refine Tl.bind (f30c (k:=k + 200) (S3.sl1 (f:=bv) 0 rfl) (by omega) (by omega)) ?_
 rintro ⟨r,h4⟩ ⟨ov,er,g4,X⟩
 simp only at er g4 X
 subst er
 have S4:=S3.gain g4 X
 have ek : IntKind.u8.wrap kind = ((kind.toNat : Nat) : Int):=by rw [wrap_u8]; omega
 have hpl:=putV_len (l:=flg l) (by omega)
 with_reducible repeat (first | (apply qzV; simp (disch:=omega) only [zA,bzS6.1,ek,bs33] <;> rfl) | apply qzT | apply qzF | (apply qzB; simp (disch:=omega) only [zA,bzS6.1,ek,bs33] <;> rfl))
 have S5:=Stt.absorb (n:=1) (rows:=[[.int .u8 ((kind.toNat : Nat) : Int)]]) (S4.alloc (.cells [.int .u8 ((kind.toNat : Nat) : Int)] 5 true)) (by simp) sz5
 refine Tl.append' S5 0 rfl app33 (S5.slV 1 rfl) (one_u8rows _) (by rw [u8rows_len]; simp; omega) fun xv h6 S6=>?_
 have S6 : Stt prog h.n h h6 [] [(xv,1,u8rows ([kind.toNat] ++ putV (flg l))),(ov,1,u8rows (putV (flg l))),(nv,1,brows (flg l)),(sv,3,crows (vals l))]:=by
  have e : [[Value.int .u8 ((kind.toNat : Nat) : Int)]] ++ u8rows (putV (flg l)) = u8rows ([kind.toNat] ++ putV (flg l)):=by simp [u8rows,u8v]
  rw [← e]; exact S6
 have A6 : Cells h6 sv (vals l):=(S6.slV 3 rfl).z
 have hv6 : ∀ h' : AH,pLen prog #[22] sv h' = some (.int .i64 (vals l).length):=fun h'=>A6.len
 by_cases q : vals l = []
 ·have eb : segB kind l = [kind.toNat] ++ putV (flg l):=by unfold segB tailB; rw [if_pos q]; simp
  have cb:=convB (S6.sl1 (f:=u8v) (l:=[kind.toNat] ++ putV (flg l)) 0 rfl)
  rw [q] at hv6
  with_reducible repeat (first | (apply qzV; simp (disch:=omega) only [zA,bzS6.1,hv6,cb,List.length_nil] <;> rfl) | apply qzT | apply qzF | (apply qzB; simp (disch:=omega) only [zA,bzS6.1,hv6,cb,List.length_nil] <;> rfl))
  exact ⟨_,rfl,by rw [eb],S6.grow⟩
 have qn : (vals l).length ≠ 0:=fun z=>q (List.length_eq_zero_iff.1 z)
 with_reducible repeat (first | (apply qzV; simp (disch:=omega) only [zA,bzS6.1,hv6] <;> rfl) | apply qzT | apply qzF | (apply qzB; simp (disch:=omega) only [zA,bzS6.1,hv6] <;> rfl))
 with_reducible refine Tl.call' S6 (f28c (k:=k + 698) kind h6) fun h7 S7 g7=>?_
 have hgood:=good_vals hall
 refine Tl.bind (segcells_c (k:=k + 98) hkd (A6.grow g7) (by omega) (by omega)) ?_
 rintro ⟨r,h8⟩ ⟨cv,er,X8⟩
 simp only at er X8
 subst er
 have S8:=S7.join X8
 have g8:=X8.grow
 have ec : cellsE kind (vals l) = 0:=cellsE_zero hkd (by omega) hgood
 rw [ec]
 with_reducible repeat (first | (apply qzV; simp (disch:=omega) only [zA,bzS6.1] <;> rfl) | apply qzT | apply qzF | (apply qzB; simp (disch:=omega) only [zA,bzS6.1] <;> rfl))
 with_reducible refine Tl.call' S8 (f31c (k:=k + 687) (Cells.grow (A6.grow g7) g8) (by omega) (by omega)) fun h9 S9 g9=>?_
 obtain ⟨mf,nc⟩:=mkz hkd
 with_reducible repeat (first | (apply qzV; simp (disch:=omega) only [zA,bzS6.1,mf,nc] <;> rfl) | apply qzT | apply qzF | (apply qzB; simp (disch:=omega) only [zA,bzS6.1,mf,nc] <;> rfl))
 have hk0 : ∀ c ∈ vals l,c.k ≠ 0:=fun c hc=>by
  have : c ∈ l ∧ c.k ≠ 0:=by simpa [vals] using hc
  exact this.2
 obtain ⟨m1,m2⟩:=mn_mem (l:=vals l) (by omega) hk0 q
 have s1:=cellE_size (hgood _ m1).2
 have s2:=cellE_size (hgood _ m2).2
 refine Tl.bind (segzone_c (k:=k + 669) hkd (ofZ (vals l)) (by omega) (by omega) (by simp; omega) (permO S9 (.swap ..))) ?_
 rintro ⟨zvv,h10⟩ S10
 have hcl:=cellsB_len hkd (l:=vals l) (by omega)
 have hone : ∀ c : CellD,c.s.size ≤ 65536→(oneB kind c).length ≤ 2 ^ 21:=fun c hc=>by
  unfold oneB
  split
  ·exact lenN c
  ·split
   ·exact lenT c
   ·exact lenW c (by omega)
 have o1:=hone _ s1
 have o2:=hone _ s2
 refine Tl.append' S10 0 rfl app33 (S10.slV 1 rfl) (one_u8rows _) (by rw [u8rows_len,u8rows_len]; simp only [List.length_append,List.length_cons,List.length_nil]; omega) fun wv h11 S11=>?_
 have eb : u8rows ([kind.toNat] ++ putV (flg l) ++ (oneB kind (ofZ (vals l)).mn ++ oneB kind (ofZ (vals l)).mx)) ++ u8rows (cellsB kind (vals l)) = u8rows (segB kind l):=by
  unfold segB tailB
  rw [if_neg q]
  simp [u8rows]
 rw [eb] at S11
 have cb:=convB (S11.sl1 (f:=u8v) (l:=segB kind l) 0 rfl)
 with_reducible repeat (first | (apply qzV; simp (disch:=omega) only [zA,bzS6.1,cb] <;> rfl) | apply qzT | apply qzF | (apply qzB; simp (disch:=omega) only [zA,bzS6.1,cb] <;> rfl))
 exact ⟨_,rfl,rfl,S11.grow⟩
end Go.Proofs.YtghelamfaaakcaaGreat.Sh
/- The document's answer for packs: bits, Width, Size, Put, Get. -/
set_option linter.unusedVariables false
set_option linter.unusedSimpArgs false
set_option maxRecDepth 100000
namespace Go.Proofs.YtghelamfaaakcaaGreat.Sh.Pk
open Go Go.RowKit Go.Proofs.Ev Go.Proofs.YtghelamfaaakcaaGreat.Sh
open Tryz (prog)
/-- The state within 'Put': the bytes so far. -/
structure RP (h0 h : AH) (out : Value) (b S : Nat) (bs : List Nat) : Prop where
 sta : Sta h0.n h0 h []
 row : SlX prog h out 1 b ((ints bs).map brow)
 hb : h0.n ≤ b
 len : bs.length = S
 small : ∀ x ∈ bs,x < 256
/-- A bit of the bytes, as the code reads it. -/
structure BitAt (h : AH) (v : Value) (bs : List Nat) (p : Nat) : Prop where
 wq : IntKind.i64.wrap (((p : Nat) : Int).tdiv 8) = ((p / 8 : Nat) : Int)
 wr : ((p : Nat) : Int).tmod 8 = ((p % 8 : Nat) : Int)
 wc : IntKind.u64.wrap ((p % 8 : Nat) : Int) = ((p % 8 : Nat) : Int)
 at_ : ∃ (b o x : Nat),pIndexAddr prog 33 v (.int .i64 ((p / 8 : Nat) : Int)) = some (.pointer (some ⟨b,o,none⟩)) ∧ h.cell b o = some (.int .u8 (x : Int)) ∧ (∀ (y z : Operand),pBin prog .shr 5 y z (.int .u8 (x : Int)) (.int .u64 ((p % 8 : Nat) : Int)) = some (.int .u8 ((x / 2 ^ (p % 8) : Nat) : Int))) ∧
  ((x / 2 ^ (p % 8) : Nat) : Int).tmod 2 = ((byN bs / 2 ^ p % 2 : Nat) : Int)
end Go.Proofs.YtghelamfaaakcaaGreat.Sh.Pk
/- The document's answer for the octet's package. -/
set_option linter.unusedVariables false
set_option linter.unusedSimpArgs false
set_option maxRecDepth 100000
namespace Go.Proofs.YtghelamfaaakcaaGreat.Sh
open Go Go.RowKit Go.Proofs.Ev
/-! ### Put, of any length and of eight bytes -/
section
variable {n0 : Nat} {h0 h : AH} {L : List (Nat × AO)} {O : List OS} {i br : Nat} {rv : Value} {rest : List Nat}
end
end Go.Proofs.YtghelamfaaakcaaGreat.Sh
/- The document's answer for flags: 'Count', 'Put'. -/
set_option linter.unusedVariables false
set_option linter.unusedSimpArgs false
set_option maxRecDepth 100000
namespace Go.Proofs.YtghelamfaaakcaaGreat.Sh
open Go Go.RowKit Go.Proofs.Ev
end Go.Proofs.YtghelamfaaakcaaGreat.Sh
/- A place that is picked: 'Pick'. -/
set_option linter.unusedVariables false
set_option linter.unusedSimpArgs false
set_option maxRecDepth 100000
namespace Go.Proofs.YtghelamfaaakcaaGreat.Sh
open Go Go.RowKit Go.Proofs.Ev
end Go.Proofs.YtghelamfaaakcaaGreat.Sh
/- 'SegmentNulls': what is put, without the program; texts cut. -/
set_option linter.unusedVariables false
set_option linter.unusedSimpArgs false
set_option maxRecDepth 100000
namespace Go.Proofs.YtghelamfaaakcaaGreat.Sh
open Go Go.RowKit Go.Proofs.Ev Go.Lib
open Tryz (prog)
/-! ### Texts cut -/
theorem strB_size (l : List Nat) : (strB l).size = l.length:=by
 show (l.map UInt8.ofNat).toArray.size = l.length
 simp
theorem strB_cut (l : List Nat) (a b : Nat) : (strB l).extract a b = strB ((l.take b).drop a):=by
 apply ByteArray.ext
 unfold strB
 rw [ByteArray.data_extract]
 apply Array.ext'
 simp [List.map_drop,List.map_take,List.drop_take]
theorem cut_lo {l : List Nat} {a : Nat} (ha : a ≤ l.length) (h : AH) : pSlice prog 9 (.string (strB l)) (some (.int .i64 (a : Int))) none none h = some (.string (strB (l.drop a))):=by
 unfold pSlice
 have h1 : intOr 0 (some (.int .i64 (a : Int))) = some (a : Int):=rfl
 have h2 : intOr ((strB l).size : Int) none = some ((strB l).size : Int):=rfl
 simp only [u9,h1,h2]
 rw [strB_size,if_pos ⟨by omega,by omega,by omega⟩,strB_cut]
 simp
/-! ### Columns of nulls -/
/-! ### Nulls between cells -/
def more (V : List CellD) : List CellD:=V.flatMap fun c=>[c,c0]
def wd (n : Nat) : List Bool:=(List.replicate n [false,true]).flatten
theorem vals_self {V : List CellD} (h : ∀ c ∈ V,c.k ≠ 0) : vals V = V:=by
 unfold vals
 rw [List.filter_eq_self]
 intro c hc
 simpa using h c hc
theorem vals_ne {l : List CellD} : ∀ c ∈ vals l,c.k ≠ 0:=fun c hc=>by
 have : c ∈ l ∧ c.k ≠ 0:=by simpa [vals] using hc
 exact this.2
end Go.Proofs.YtghelamfaaakcaaGreat.Sh
/- What 'Get' of the nulls' package comes to: what it calls. -/
set_option linter.unusedVariables false
set_option linter.unusedSimpArgs false
set_option maxRecDepth 100000
namespace Go.Proofs.YtghelamfaaakcaaGreat.Sh
open Go Go.RowKit Go.Proofs.Ev
open Tryz (prog)
def bzNc:=PLift.up (ai @ld3 (ai @ld4 (ai @ld5 (ai @ld32 (ai @ld72 (ai @ld33 (ai @ld60 (ai @ld63 (ai (fun a h=>conv_int (a:=a) (h:=h) u3 u60) (ai (fun a h=>conv_int (a:=a) (h:=h) u60 u3) (ai (fun a h=>conv_int (a:=a) (h:=h) u3 u109) (ai (fun a h=>conv_int (a:=a) (h:=h) u109 u3) (ai (fun ox oy a b=>bin_eql_bool (ox:=ox) (oy:=oy) (a:=a) (b:=b) u4) (ai (fun ox oy a b=>bin_neq_bool (ox:=ox) (oy:=oy) (a:=a) (b:=b) u4) (ai @ex2_0 (@ex2_1))))))))))))))))
def fillBo (x : Bool) (p m : Nat) : List Value:=(List.replicate p x ++ List.replicate (m - p) false).map bv
theorem fillBo_len (x : Bool) (p m : Nat) (hp : p ≤ m) : (fillBo x p m).length = m:=by simp [fillBo]; omega
theorem fillBo_splice (x : Bool) (p q m : Nat) (h : p + q ≤ m) : splice (fillBo x p m) p ((List.replicate q x).map bv) = fillBo x (p + q) m:=by
 unfold splice fillBo
 rw [List.map_append,List.take_left' (by simp),List.length_map,List.length_replicate,← List.drop_drop,List.drop_left' (by simp),← List.map_drop,List.drop_replicate,← List.map_append,← List.map_append,List.replicate_append_replicate]
 congr 3
 omega
theorem sl22 {h : AH} {b n m lo : Nat} {cs : List Value} (hg : h.get b = some (.cells cs 4 true)) (hlo : lo ≤ n) : pSlice prog 32 (.slice (some ⟨b,0,none⟩) n n) (some (.int .i64 lo)) none none h = some (.slice (some ⟨b,lo,none⟩) (n - lo) (n - lo)) ∧
  pSlice prog 32 (.slice (some ⟨b,0,none⟩) n n) none (some (.int .i64 lo)) none h = some (.slice (some ⟨b,0,none⟩) lo n):=by
 have hm : ∀ d : Int,intOr d (some (.int .i64 (lo : Int))) = some (lo : Int):=fun d=>rfl
 have hm2 : ∀ d : Int,intOr d none = some d:=fun d=>rfl
 have hz : szOk prog (some ⟨b,0,none⟩) 1 h = true:=szOk_of hg sz4
 unfold pSlice
 simp only [el32,Option.bind_some,sz4,hm,hm2]
 rw [if_pos ⟨by omega,by omega,by omega,by omega,by simp,by simp [hz]⟩,if_pos ⟨by omega,by omega,by omega,by omega,by simp,by simp⟩]
 constructor
 ·simp only [Option.map_some,Int.toNat_natCast,Option.some.injEq,Value.slice.injEq,Addr.mk.injEq,true_and,and_true]
  omega
 ·simp
theorem f103_loop {β : Type} {k : Nat} {Q : β→Prop} {n0 : Nat} {h0 : AH} {L : List (Nat × AO)} {O : List OS} {x : Bool} {m b : Nat} (hm : m ≤ 100000) {ke0 : Value→Value→Value→AH→Option β} (n : Nat) :
  ∀ {j p : Nat} {h : AH},p + n = m→n < j→(1 ≤ p ∨ m = 0)→Stt prog n0 h0 h ((b,.cells (fillBo x p m) 4 true) :: L) O →
   (∀ h' y y',Stt prog n0 h0 h' ((b,.cells (fillBo x m m) 4 true) :: L) O→Tl (ke0 (.slice (some ⟨b,0,none⟩) m m) y y' h') Q) →
   Tl (F103_llrrrrrr (eInv env k) k j (.slice (some ⟨b,0,none⟩) m m) (.int .i64 p) h ke0) Q:=by
 induction n using Nat.strongRecOn with
 | _ n ih =>
  intro j p h hp hj h1 S hk
  obtain ⟨j,rfl⟩ : ∃ q,j = q + 1:=⟨j - 1,by omega⟩
  have hlen : ∀ h',pLen prog #[32] (.slice (some ⟨b,0,none⟩) m m) h' = some (.int .i64 m):=fun h'=>len_slice u32
  simp only [F103_llrrrrrr]
  by_cases hn : n = 0
  ·with_reducible repeat (first | (apply qzV; simp (disch:=omega) only [zA,bzNc.1,hlen] <;> rfl) | apply qzT | apply qzF | apply qzG | ((first | apply qzB | apply qzC); simp (disch:=omega) only [zA,bzNc.1,hlen] <;> rfl))
   have : p = m:=by omega
   subst this
   exact hk _ _ _ S
  ·have hg:=S.sta.mem.at_ (i:=0) rfl
   simp only at hg
   obtain ⟨s1,s2⟩:=sl22 (n:=m) (m:=m) (lo:=p) hg (by omega)
   with_reducible repeat (first | (apply qzV; simp (disch:=omega) only [zA,bzNc.1,hlen,s1,s2] <;> rfl) | apply qzT | apply qzF | apply qzG | ((first | apply qzB | apply qzC); simp (disch:=omega) only [zA,bzNc.1,hlen,s1,s2] <;> rfl))
   have hq : min p (m - p) ≤ m - p:=Nat.min_le_right ..
   have hq2 : min p (m - p) ≤ p:=Nat.min_le_left ..
   have hc : cellsOf prog 1 (min p (m - p)) (.slice (some ⟨b,0,none⟩) p m) h = some ((List.replicate (min p (m - p)) x).map bv):=by
    unfold cellsOf
    simp only [Nat.mul_one]
    rw [if_neg (by omega),if_pos hq2]
    unfold AH.row
    rw [hg]
    simp only
    rw [if_pos (by rw [fillBo_len _ _ _ (by omega)]; omega),List.drop_zero]
    unfold fillBo
    rw [← List.map_take,List.take_append_of_le_length (by simp; omega),List.take_replicate,Nat.min_eq_left hq2]
   refine Tl.copy' S 0 rfl el32 sz4 rfl hc (by simp [bv,oneCell]) (by rw [fillBo_len _ _ _ (by omega)]; simp; omega) fun h' S'=>?_
   rw [fillBo_splice x p _ m (by omega)] at S'
   have e : (p : Int) + ((min p (m - p) : Nat) : Int) = ((p + min p (m - p) : Nat) : Int):=by omega
   with_reducible repeat (first | (apply qzV; simp (disch:=omega) only [zA,bzNc.1] <;> rfl) | apply qzT | apply qzF | apply qzG | ((first | apply qzB | apply qzC); simp (disch:=omega) only [zA,bzNc.1] <;> rfl))
   rw [e]
   exact ih (n - min p (m - p)) (by omega) (by omega) (by omega) (by omega) S' hk
theorem f103c {k : Nat} {h : AH} {v : Value} {x : Bool} {n : Nat} (S : Bools h v [x]) (hn : n ≤ 100000) (hk : n < k) :
  Tl (eInv env (k + 3) (.func 103) #[] #[v,.int .i64 (n : Int)] h) fun r=>OwnB prog h.n r.2 r.1 1 (brows (List.replicate n x)) ∧ Grow h r.2:=by
 rw [F103_call]
 unfold F103
 have hlen : ∀ h',pLen prog #[32] v h' = some (.int .i64 1):=fun h'=>Sl1.len S u32
 have ml:=f138c (k:=k) n (by omega) h
 with_reducible repeat (first | (apply qzV; simp (disch:=omega) only [zA,bzNc.1] <;> rfl) | apply qzT | apply qzF | apply qzG | ((first | apply qzB | apply qzC); simp (disch:=omega) only [zA,bzNc.1] <;> rfl))
 unfold F103_rlr
 with_reducible repeat (first | (apply qzV; simp (disch:=omega) only [zA,bzNc.1,hlen,ml] <;> rfl) | apply qzT | apply qzF | apply qzG | ((first | apply qzB | apply qzC); simp (disch:=omega) only [zA,bzNc.1,hlen,ml] <;> rfl))
 unfold F103_rlrrr
 with_reducible repeat (first | (apply qzV; simp (disch:=omega) only [zA,bzNc.1] <;> rfl) | apply qzT | apply qzF | apply qzG | ((first | apply qzB | apply qzC); simp (disch:=omega) only [zA,bzNc.1] <;> rfl))
 refine Tl.makeK (Stt.init h) app32 ze4 (by omega) (by omega) fun b h1 S1 g1=>?_
 have S1 : Stt prog h.n h h1 [(b,.cells (fillBo x 0 n) 4 true)] []:=by
  have e : (List.replicate n (Value.bool false).cells.toList).flatten = fillBo x 0 n:=by
   unfold fillBo
   simp only [List.replicate_zero,List.nil_append,Nat.sub_zero,List.map_replicate,bv]
   have : (Value.bool false).cells.toList = [Value.bool false]:=rfl
   rw [this]
   clear hn hk ml S1
   induction n with
   | zero=>rfl
   | succ n ih=>rw [List.replicate_succ,List.flatten_cons,ih,List.replicate_succ]; rfl
  rw [← e]; exact S1
 have B1:=S.grow g1
 have hc : cellsOf prog 1 (min 1 n) v h1 = some ((List.replicate (min 1 n) x).map bv):=by
  by_cases hn0 : n = 0
  ·subst hn0
   rcases B1 with ⟨q,q2⟩ | ⟨b',o,c,own,q,_,_⟩
   ·simp at q2
   ·subst q; rfl
  ·have : min 1 n = 1:=by omega
   rw [this]
   exact SlV.cellsOf B1 (by omega)
 have hl1 : lenE v = some 1:=lenE_of B1
 refine Tl.copy' S1 0 rfl el32 sz4 hl1 hc (by simp [bv,oneCell]) (by rw [fillBo_len _ _ _ (by omega)]; simp; omega) fun h2 S2=>?_
 rw [fillBo_splice x 0 _ n (by omega),Nat.zero_add] at S2
 refine f103_loop (p:=min 1 n) (by omega) (n - min 1 n) (by omega) (by omega) (by omega) S2 fun h3 y y' S3=>?_
 have S3 : Stt prog h.n h h3 ((b,.cells (brows (List.replicate n x)).flatten 4 true) :: []) []:=by
  have e : (brows (List.replicate n x)).flatten = fillBo x n n:=by
   unfold fillBo brows
   rw [Nat.sub_self,List.replicate_zero,List.append_nil]
   generalize List.replicate n x = l
   induction l with
   | nil=>rfl
   | cons a l ih=>rw [List.map_cons,List.flatten_cons,ih]; rfl
  rw [e]; exact S3
 have S4:=S3.absorb (n:=1) (fun r hr=>by obtain ⟨z,_,rfl⟩:=List.mem_map.1 hr; rfl) sz4
 rw [brows_len,List.length_replicate] at S4
 exact ⟨_,rfl,S4.ret 0 rfl,S4.grow⟩
end Go.Proofs.YtghelamfaaakcaaGreat.Sh
/- What 'Get' of the nulls' package comes to. -/
set_option linter.unusedVariables false
set_option linter.unusedSimpArgs false
set_option maxRecDepth 100000
namespace Go.Proofs.YtghelamfaaakcaaGreat.Sh
open Go Go.RowKit Go.Proofs.Ev
end Go.Proofs.YtghelamfaaakcaaGreat.Sh
/- What 'Get' of the nulls' package comes to: the whole. -/
set_option linter.unusedVariables false
set_option linter.unusedSimpArgs false
set_option maxRecDepth 100000
namespace Go.Proofs.YtghelamfaaakcaaGreat.Sh
open Go Go.RowKit Go.Proofs.Ev
open Tryz (prog)
def bzNe:=PLift.up (ai @ld3 (ai @ld4 (ai @ld5 (ai @ld32 (ai @ld72 (ai @ld33 (ai @ld60 (ai @ld63 (ai (fun a h=>conv_int (a:=a) (h:=h) u3 u60) (ai (fun a h=>conv_int (a:=a) (h:=h) u60 u3) (ai (fun a h=>conv_int (a:=a) (h:=h) u3 u109) (ai (fun a h=>conv_int (a:=a) (h:=h) u109 u3) (ai (fun ox oy a b=>bin_eql_bool (ox:=ox) (oy:=oy) (a:=a) (b:=b) u4) (ai (fun ox oy a b=>bin_neq_bool (ox:=ox) (oy:=oy) (a:=a) (b:=b) u4) (ai @ex2_0 (ai @ex2_1 (ai @ex3_0 (ai @ex3_1 (@ex3_2)))))))))))))))))))
def szV (n : Nat) : Nat:=Pk.sizeN n 1
/-- Flags of a form, and what is left. -/
def mid (n form : Nat) (r2 : List Nat) : Option (List Bool × List Nat) :=
 if form = 2 then (if r2.length < szV n then none else if Pk.checkE (r2.take (szV n)) (n : Int) 1 ≠ 0 then none else some ((Pk.getN (r2.take (szV n)) (n : Int) 1).map (· == 1),r2.drop (szV n)))
 else some (List.replicate n (form == 1),r2)
def getV (b : List Nat) : Option (List Bool × Nat):=match dec 0 0 b with
 | none=>none
 | some (n,r1)=>if n > 4096 then none else match r1 with
  | []=>none
  | form :: r2=>if form > 2 then none else match mid n form r2 with
   | none=>none
   | some (l,rest)=>if putV l = b.take (b.length - rest.length) then some (l,b.length - rest.length) else none
theorem f56_loop {β : Type} {k : Nat} {Q : β→Prop} {n0 : Nat} {h0 : AH} {L : List (Nat × AO)} {x0 x5 lv gv : Value} {g : List Nat} {P1 : OS} {m : Nat} (hm : m ≤ 4096) (hg : g.length = m)
  {ke0 : Value→Value→Value→Value→Value→Value→Value→AH→Option β} (n : Nat) :
  ∀ {i j : Nat} {h : AH} {done : List Bool},i + n = m→n < j→done.length = m→done.take i = (g.take i).map (· == 1)→Stt prog n0 h0 h L [(gv,1,u64rows g),P1,(lv,1,brows done)] →
   (∀ h' y y',Stt prog n0 h0 h' L [(gv,1,u64rows g),P1,(lv,1,brows (g.map (· == 1)))]→Tl (ke0 x0 lv x5 gv (.int .i64 m) y y' h') Q) →
   Tl (F56_lrrrrrlrlrrrrrrr (eInv env k) k j x0 lv x5 gv (.int .i64 m) (.int .i64 i) h ke0) Q:=by
 induction n with
 | zero =>
  intro i j h done hi hj hd ht S hk
  obtain ⟨j,rfl⟩ : ∃ q,j = q + 1:=⟨j - 1,by omega⟩
  simp only [F56_lrrrrrlrlrrrrrrr]
  with_reducible repeat (first | (apply qzV; simp (disch:=omega) only [zA,bzNe.1] <;> rfl) | apply qzT | apply qzF | apply qzG | ((first | apply qzB | apply qzC); simp (disch:=omega) only [zA,bzNe.1] <;> rfl))
  rw [List.take_of_length_le (by omega),List.take_of_length_le (by omega)] at ht
  subst ht
  exact hk _ _ _ S
 | succ n ih =>
  intro i j h done hi hj hd ht S hk
  obtain ⟨j,rfl⟩ : ∃ q,j = q + 1:=⟨j - 1,by omega⟩
  obtain ⟨x,hx⟩ : ∃ x,g[i]? = some x:=⟨_,List.getElem?_eq_getElem (by omega)⟩
  obtain ⟨b,o,hp,hc1⟩:=Sl1.at_ (S.sl1 (f:=u64v) 0 rfl) (t:=63) (k:=.i64) hx u63 sz60
  have hc1:=hc1 h (Grow.refl _)
  obtain ⟨bm,em,hmm⟩:=S.idx (t:=32) 2 rfl (kd:=.i64) (j:=i) (by rw [brows_len]; omega) u32 sz4
  have e : (i : Int) + 1 = ((i + 1 : Nat) : Int):=by omega
  have eb : ((x : Int) == 1) = (x == 1):=by
   by_cases q : x = 1
   ·subst q; rfl
   ·have h1 : (x == 1) = false:=by simpa using q
    have h2 : ((x : Int) == 1) = false:=by simp; omega
    rw [h1,h2]
  simp only [F56_lrrrrrlrlrrrrrrr]
  with_reducible repeat (first | (apply qzV; simp (disch:=omega) only [zA,bzNe.1,hp,hc1,u64v,hmm,eb] <;> rfl) | apply qzT | apply qzF | apply qzG | ((first | apply qzB | apply qzC); simp (disch:=omega) only [zA,bzNe.1,hp,hc1,u64v,hmm,eb] <;> rfl))
  refine Tl.setAt S 2 rfl em (by rw [brows_len]; omega) rfl sz4 rfl fun h' S'=>?_
  with_reducible repeat (first | (apply qzV; simp (disch:=omega) only [zA,bzNe.1] <;> rfl) | apply qzT | apply qzF | apply qzG | ((first | apply qzB | apply qzC); simp (disch:=omega) only [zA,bzNe.1] <;> rfl))
  rw [e]
  refine ih (done:=done.set i (x == 1)) (by omega) (by omega) (by simp [hd]) ?_ (by simpa [brows,bv,List.map_set,Value.cells] using S') hk
  have hti : g.take (i + 1) = g.take i ++ [x]:=by rw [List.take_add_one,hx]; rfl
  rw [hti,List.map_append,← ht]
  refine List.ext_getElem? fun q=>?_
  rw [List.getElem?_take,List.getElem?_set]
  by_cases q1 : q < i
  ·rw [if_pos (by omega),if_neg (by omega),List.getElem?_append_left (by simp; omega),List.getElem?_take,if_pos q1]
  ·by_cases q2 : q = i
   ·subst q2
    rw [if_pos (by omega),if_pos rfl,if_pos (by omega),List.getElem?_append_right (by simp; omega)]
    simp [show min q done.length = q by omega]
   ·rw [if_neg (by omega),List.getElem?_eq_none (by simp; omega)]
theorem f56_mid {β : Type} {k : Nat} {Q : β→Prop} {h0 h : AH} {L : List (Nat × AO)} {br : Nat} {rv lv x0 : Value} {r2 : List Nat} {n form : Nat} (S : Stt prog h0.n h0 h (Rb br rv :: L) [(lv,1,brows (List.replicate n (form == 1)))])
  (R : RV (Rb br rv :: L) 0 rv r2) (hn : n ≤ 4096) (hform : form ≤ 2) (hl : r2.length ≤ 2 ^ 30) (hb : ∀ x ∈ r2,x < 256) (hk : 5000 < k)
  {kn : Value→Value→Value→Value→Value→Value→Value→Value→Value→AH→Option β} {kr : Value→Value→Value→AH→Option β}
  (hkn : ∀ l rest' rv' h' O' (i : Nat) y6 y10 y45 y66 y67 y68,Stt prog h0.n h0 h' (Rb br rv' :: L) O'→O'[i]? = some (lv,1,brows l)→RV (Rb br rv' :: L) 0 rv' rest'→mid n form r2 = some (l,rest')→l.length = n→Tl (kn x0 lv (ptr br) y6 y10 y45 y66 y67 y68 h') Q)
  (hkr : mid n form r2 = none→∀ h',Grow h0 h'→Tl (kr (.slice none 0 0) (.int .i64 0) (.int .i64 4) h') Q) :
  Tl (F56_rlrrrrrrr (eInv env (k + 100)) (k + 100) x0 lv (ptr br) (.int .u64 (n : Int)) (.bool ((form : Int) == 2)) h kn kr) Q:=by
 unfold F56_rlrrrrrrr
 unfold mid at hkn hkr
 by_cases q2 : form = 2
 ·simp only [if_pos q2] at hkn hkr
  have hsz : Pk.sizeE (n : Int) 1 = (szV n : Int):=by
   unfold Pk.sizeE
   have hmb : Pk.mayB (n : Int) 1 = true:=Pk.mayB_mk (N:=n) (W:=1) (by omega) (by omega)
   rw [if_pos hmb]
   rfl
  have hszl : szV n ≤ 520:=by unfold szV Pk.sizeN; omega
  have sz:=f99c (k:=k + 98) (n : Int) 1 h
  rw [hsz] at sz
  with_reducible repeat (first | (apply qzV; simp (disch:=omega) only [zA,bzNe.1,sz] <;> rfl) | apply qzT | apply qzF | apply qzG | ((first | apply qzB | apply qzC); simp (disch:=omega) only [zA,bzNe.1,sz] <;> rfl))
  by_cases q3 : r2.length < szV n
  ·rw [if_pos q3] at hkr
   refine Tl.bind (f60n (k:=k + 97) S rfl R (n:=(szV n : Int)) (.inl (by omega))) ?_
   rintro ⟨r,h1⟩ ⟨e,he,er⟩
   cases er
   with_reducible repeat (first | (apply qzV; simp (disch:=omega) only [zA,bzNe.1] <;> rfl) | apply qzT | apply qzF | apply qzG | ((first | apply qzB | apply qzC); simp (disch:=omega) only [zA,bzNe.1] <;> rfl))
   exact hkr rfl _ S.grow
  ·simp only [if_neg q3] at hkn hkr
   refine Tl.bind (f60c (k:=k + 97) S rfl R (n:=szV n) (by omega) hl) ?_
   rintro ⟨r,h1⟩ ⟨pv,rv',er,S1,R1⟩
   simp only at er S1
   subst er
   have S1 : Stt prog h0.n h0 h1 (Rb br rv' :: L) [(pv,1,u8rows (r2.take (szV n))),(lv,1,brows (List.replicate n (form == 1)))]:=S1
   have R1 : RV (Rb br rv' :: L) 0 rv' (r2.drop (szV n)):=R1
   with_reducible repeat (first | (apply qzV; simp (disch:=omega) only [zA,bzNe.1] <;> rfl) | apply qzT | apply qzF | apply qzG | ((first | apply qzB | apply qzC); simp (disch:=omega) only [zA,bzNe.1] <;> rfl))
   refine Tl.bind (f87c (k:=k + 10) (S1.sl1 (f:=u8v) 0 rfl) (fun x hx=>hb x (List.mem_of_mem_take hx)) (by simp; omega) (n : Int) 1 (fun _=>by simp; omega)) ?_
   rintro ⟨r,h2⟩ ⟨gv,er,g2,X⟩
   simp only at er g2 X
   subst er
   by_cases q4 : Pk.checkE (r2.take (szV n)) (n : Int) 1 = 0
   ·simp only [if_neg (show ¬ Pk.checkE (r2.take (szV n)) (n : Int) 1 ≠ 0 from fun h=>h q4)] at hkn
    have S2:=S1.gain g2 X
    have hgl : (Pk.getN (r2.take (szV n)) (n : Int) 1).length = n:=by
     unfold Pk.getN
     rw [if_pos q4]
     simp [digs]
    have hlen : ∀ h',pLen prog #[32] lv h' = some (.int .i64 n):=fun h'=>by
     have:=SlV.len (S2.slV 2 rfl) u32 (h':=h')
     rw [brows_len,List.length_replicate] at this
     exact this
    rw [q4]
    with_reducible repeat (first | (apply qzV; simp (disch:=omega) only [zA,bzNe.1,hlen] <;> rfl) | apply qzT | apply qzF | apply qzG | ((first | apply qzB | apply qzC); simp (disch:=omega) only [zA,bzNe.1,hlen] <;> rfl))
    refine f56_loop hn hgl n (i:=0) (by omega) (by omega) (by simp) (by simp) S2 fun h3 y y' S3=>?_
    exact hkn _ _ rv' h3 _ 2 _ _ _ _ _ _ S3 rfl R1 rfl (by rw [List.length_map,hgl])
   ·rw [if_pos q4] at hkr
    with_reducible repeat (first | (apply qzV; simp (disch:=omega) only [zA,bzNe.1] <;> rfl) | apply qzT | apply qzF | apply qzG | ((first | apply qzB | apply qzC); simp (disch:=omega) only [zA,bzNe.1] <;> rfl))
    exact hkr rfl _ (S1.grow.trans g2)
 ·simp only [if_neg q2] at hkn
  with_reducible repeat (first | (apply qzV; simp (disch:=omega) only [zA,bzNe.1] <;> rfl) | apply qzT | apply qzF | apply qzG | ((first | apply qzB | apply qzC); simp (disch:=omega) only [zA,bzNe.1] <;> rfl))
  exact hkn _ _ rv h _ 0 _ _ _ _ _ _ S rfl R rfl (by simp)
theorem dec_lenV : ∀ (b : List Nat) {i acc v : Nat} {rest : List Nat},dec i acc b = some (v,rest)→rest.length < b.length ∧ ∀ x ∈ rest,x ∈ b:=by
 intro b
 induction b with
 | nil=>intro i acc v rest h; simp [dec] at h
 | cons c b ih =>
  intro i acc v rest h
  unfold dec at h
  split at h
  ·cases h
  ·split at h
   ·cases h
   ·split at h
    ·obtain ⟨h1,h2⟩:=ih h
     exact ⟨by simp; omega,fun x hx=>by simp [h2 x hx]⟩
    ·split at h
     ·cases h
     ·cases h
      exact ⟨by simp,fun x hx=>by simp [hx]⟩
theorem mid_len {n form : Nat} {r2 rest : List Nat} {l : List Bool} (h : mid n form r2 = some (l,rest)) : rest.length ≤ r2.length:=by
 unfold mid at h
 split at h
 ·split at h
  ·cases h
  ·split at h
   ·cases h
   ·cases h; simp
 ·cases h; simp
theorem f56c {k : Nat} {h : AH} {v : Value} {b : List Nat} (B : Bytes h v b) (hb : ∀ x ∈ b,x < 256) (hl : b.length ≤ 2 ^ 20) (hk : 6000 + b.length < k) :
  Tl (eInv env (k + 1000) (.func 56) #[] #[v] h) fun r=>(∃ l n lv,getV b = some (l,n) ∧ l.length ≤ 4096 ∧ r.1 = .tuple #[lv,.int .i64 n,.int .i64 0] ∧ Grow h r.2 ∧ OwnB prog h.n r.2 lv 1 (brows l)) ∨
   (getV b = none ∧ r.1 = .tuple #[.slice none 0 0,.int .i64 0,.int .i64 4] ∧ Grow h r.2):=by
 rw [F56_call]
 unfold F56
 refine Tl.bind (f58c (k:=k + 997) (Stt.init h) B (by omega)) ?_
 rintro ⟨x15,h1⟩ ⟨br,rv,L',e1,S1,R1,g1⟩
 simp only at e1 S1 g1
 subst e1
 rw [List.nil_append] at S1 R1
 refine Tl.bind (f92c (k:=k + 993) S1 rfl R1 (by omega) hb (by omega)) ?_
 rintro ⟨r,h2⟩ hr
 unfold getV
 rcases hr with ⟨n,r1,rv2,hd,er,S2,R2⟩ | ⟨hd,e,he,er⟩
 ·simp only at er S2
  subst er
  have S2 : Stt prog h.n h h2 (Rb br rv2 :: L') []:=S2
  have R2 : RV (Rb br rv2 :: L') 0 rv2 r1:=R2
  obtain ⟨dl1,dl2⟩:=dec_lenV b hd
  rw [hd]
  simp only
  by_cases qn : n > 4096
  ·rw [if_pos qn]
   have : (n : Int) > 4096:=by omega
   with_reducible repeat (first | (apply qzV; simp (disch:=omega) only [zA,bzNe.1] <;> rfl) | apply qzT | apply qzF | apply qzG | ((first | apply qzB | apply qzC); simp (disch:=omega) only [zA,bzNe.1] <;> rfl))
   exact ⟨_,rfl,.inr ⟨rfl,rfl,S2.grow⟩⟩
  ·rw [if_neg qn]
   with_reducible repeat (first | (apply qzV; simp (disch:=omega) only [zA,bzNe.1] <;> rfl) | apply qzT | apply qzF | apply qzG | ((first | apply qzB | apply qzC); simp (disch:=omega) only [zA,bzNe.1] <;> rfl))
   cases r1 with
   | nil =>
    refine Tl.bind (f77n (k:=k + 976) S2 rfl R2 (n:=1) (by omega) (by omega) (by simp)) ?_
    rintro ⟨r,h3⟩ ⟨er,g3⟩
    simp only at er g3
    subst er
    with_reducible repeat (first | (apply qzV; simp (disch:=omega) only [zA,bzNe.1] <;> rfl) | apply qzT | apply qzF | apply qzG | ((first | apply qzB | apply qzC); simp (disch:=omega) only [zA,bzNe.1] <;> rfl))
    exact ⟨_,rfl,.inr ⟨rfl,rfl,S2.grow.trans g3⟩⟩
   | cons form r2 =>
    refine Tl.bind (f77c (k:=k + 976) S2 rfl R2 (n:=1) (by omega) (by omega) (by simp) (by simp at dl1; simp; omega) (fun x hx=>hb x (dl2 x hx))) ?_
    rintro ⟨r,h3⟩ ⟨rv3,er,S3,R3⟩
    simp only at er S3
    subst er
    have S3 : Stt prog h.n h h3 (Rb br rv3 :: L') []:=S3
    have R3 : RV (Rb br rv3 :: L') 0 rv3 r2:=R3
    have ef : ofB ((form :: r2).take 1) = form:=by simp [ofB]
    rw [ef]
    have hf256:=hb form (dl2 form (by simp))
    have dl3 : r2.length + 1 < b.length:=by simpa using dl1
    simp only
    by_cases qf : form > 2
    ·rw [if_pos qf]
     with_reducible repeat (first | (apply qzV; simp (disch:=omega) only [zA,bzNe.1] <;> rfl) | apply qzT | apply qzF | apply qzG | ((first | apply qzB | apply qzC); simp (disch:=omega) only [zA,bzNe.1] <;> rfl))
     exact ⟨_,rfl,.inr ⟨rfl,rfl,S3.grow⟩⟩
    ·rw [if_neg qf]
     have eb : ((form : Int) == 1) = (form == 1):=by
      by_cases q : form = 1
      ·subst q; rfl
      ·have h1 : (form == 1) = false:=by simpa using q
       have h2 : ((form : Int) == 1) = false:=by simp; omega
       rw [h1,h2]
     with_reducible repeat (first | (apply qzV; simp (disch:=omega) only [zA,bzNe.1,eb,bs32] <;> rfl) | apply qzT | apply qzF | apply qzG | ((first | apply qzB | apply qzC); simp (disch:=omega) only [zA,bzNe.1,eb,bs32] <;> rfl))
     have S4:=S3.alloc (.cells [.bool (form == 1)] 4 true)
     refine Tl.callO S4.drop (f103c (k:=k + 996) (x:=form == 1) (n:=n) (S4.lit 0 rfl rfl) (by omega) (by omega)) fun lv h5 S5 g5=>?_
     with_reducible repeat (first | (apply qzV; simp (disch:=omega) only [zA,bzNe.1] <;> rfl) | apply qzT | apply qzF | apply qzG | ((first | apply qzB | apply qzC); simp (disch:=omega) only [zA,bzNe.1] <;> rfl))
     refine f56_mid (k:=k + 899) S5 R3 (by omega) (by omega) (by omega) (fun x hx=>hb x (dl2 x (by simp [hx]))) (by omega) ?_ ?_
     ·intro l rest rv6 h6 O' i y6 y10 y45 y66 y67 y68 S6 hO R6 hm hln
      have hml:=mid_len hm
      rw [hm]
      simp only
      have hv : ∀ h',pLen prog #[33] v h' = some (.int .i64 b.length):=fun h'=>B.len
      have left:=f61c (k:=k + 998) S6 rfl R6
      have es : (b.length : Int) - (rest.length : Int) = ((b.length - rest.length : Nat) : Int):=by omega
      with_reducible repeat (first | (apply qzV; simp (disch:=omega) only [zA,bzNe.1,hv,left] <;> rfl) | apply qzT | apply qzF | apply qzG | ((first | apply qzB | apply qzC); simp (disch:=omega) only [zA,bzNe.1,hv,left] <;> rfl))
      refine Tl.bind (f30c (k:=k + 499) (S6.sl1 (f:=bv) i hO) (by omega) (by omega)) ?_
      rintro ⟨r,h7⟩ ⟨av,er,g7,X⟩
      simp only at er g7 X
      subst er
      have S7:=S6.gain g7 X
      obtain ⟨tv,ht,Bt⟩:=Bytes.takeS (B.grow S7.grow) (n:=b.length - rest.length) (by omega)
      rw [← es] at ht
      have hpl : ∀ x ∈ putV l,x < 256:=fun x hx=>by
       unfold putV at hx
       rcases List.mem_append.1 hx with hx | hx
       ·exact pvarN_256 _ x hx
       ·rcases List.mem_cons.1 hx with rfl | hx
        ·have:=formN_le l; omega
        ·split at hx
         ·exact (putN_spec 1 _).2.2 x hx
         ·cases hx
      have eq:=f104c (k:=k + 998) (S7.sl1 (f:=u8v) 0 rfl) Bt hpl (fun x hx=>hb x (List.mem_of_mem_take hx))
      by_cases q : putV l = b.take (b.length - rest.length)
      ·rw [if_pos q]
       rw [decide_eq_true q] at eq
       with_reducible repeat (first | (apply qzV; simp (disch:=omega) only [zA,bzNe.1,ht,eq] <;> rfl) | apply qzT | apply qzF | apply qzG | ((first | apply qzB | apply qzC); simp (disch:=omega) only [zA,bzNe.1,ht,eq] <;> rfl))
       rw [es]
       refine ⟨_,rfl,.inl ⟨l,_,lv,rfl,by omega,rfl,S7.grow,S7.ret (i + 1) (by simpa using hO)⟩⟩
      ·rw [if_neg q]
       rw [decide_eq_false q] at eq
       with_reducible repeat (first | (apply qzV; simp (disch:=omega) only [zA,bzNe.1,ht,eq] <;> rfl) | apply qzT | apply qzF | apply qzG | ((first | apply qzB | apply qzC); simp (disch:=omega) only [zA,bzNe.1,ht,eq] <;> rfl))
       exact ⟨_,rfl,.inr ⟨rfl,rfl,S7.grow⟩⟩
     ·intro hm h6 g6
      rw [hm]
      exact ⟨_,rfl,.inr ⟨rfl,rfl,g6⟩⟩
 ·cases er
  rw [hd]
  with_reducible repeat (first | (apply qzV; simp (disch:=omega) only [zA,bzNe.1] <;> rfl) | apply qzT | apply qzF | apply qzG | ((first | apply qzB | apply qzC); simp (disch:=omega) only [zA,bzNe.1] <;> rfl))
  exact ⟨_,rfl,.inr ⟨rfl,rfl,S1.grow⟩⟩
end Go.Proofs.YtghelamfaaakcaaGreat.Sh
/- What 'zone.Check' comes to, where there are values; what is right of a zone of good cells. -/
set_option linter.unusedVariables false
set_option linter.unusedSimpArgs false
set_option maxRecDepth 100000
namespace Go.Proofs.YtghelamfaaakcaaGreat.Sh
open Go Go.RowKit Go.Proofs.Ev Go.Lib
open Tryz (prog)
def bzZe:=PLift.up (ai @ld3 (ai @ld2 (ai @ld9 (ai @ld31 (ai @ld38 (ai @fa31_0 (ai @fa31_1 (ai @fa31_2 (ai @fa38_0 (ai @fa38_1 (ai @fa38_2 (ai @fa38_3 (ai (fun ox oy a b=>bin_eql_bool (ox:=ox) (oy:=oy) (a:=a) (b:=b) u4) (ai @aggC (ai @aggZ (@Nat.add_zero))))))))))))))))
def zoneE (z : ZoneD) (kind : Int) : Int:=if z.mn.k = kind ∧ z.mx.k = kind ∧ cellE z.mn = 0 ∧ cellE z.mx = 0 ∧ z.mn.cmp z.mx ≤ 0 then 0 else 2
theorem zoneE_zero {z : ZoneD} {kind : Int} : zoneE z kind = 0 ↔ z.mn.k = kind ∧ z.mx.k = kind ∧ cellE z.mn = 0 ∧ cellE z.mx = 0 ∧ z.mn.cmp z.mx ≤ 0:=by
 unfold zoneE
 split
 ·simp [*]
 ·rename_i h
  constructor
  ·intro q; cases q
  ·intro q; exact absurd q h
theorem bdCe : pBuild prog 31 #[] = some c0.v:=by kernel_rfl
/-- 'Check', where a zone has values. -/
theorem f59c {k : Nat} (z : ZoneD) (kind : Int) (h : AH) (h1 : 1 ≤ kind) (h3 : kind ≤ 3) (p0 : 0 ≤ z.nul) (p1 : z.nul < z.cnt) :
  Tl (eInv env (k + 13) (.func 59) #[] #[zv z,.int .i64 kind] h) fun r=>r.1 = .int .i64 (zoneE z kind) ∧ Grow h r.2:=by
 rw [F59_call]
 unfold F59
 refine Tl.box' (Stt.init h) rfl isZ fun b2 h1 S1 _=>?_
 have S1 : Stt prog h.n h h1 [Zr b2 z] []:=S1
 obtain ⟨_,z2,z3,z4,z5,z6,z7⟩:=z_at S1 0 rfl
 obtain ⟨d4,e4⟩ : ∃ d,∀ x y,pBin prog .eql 31 x y z.mn.v c0.v = some (.bool d):=⟨_,fun x y=>eqlC z.mn c0⟩
 obtain ⟨d5,e5⟩ : ∃ d,∀ x y,pBin prog .eql 31 x y z.mx.v c0.v = some (.bool d):=⟨_,fun x y=>eqlC z.mx c0⟩
 unfold zoneE
 cases d4 <;> cases d5
 all_goals
  by_cases r5 : z.mn.k = kind
  ·by_cases r6 : z.mx.k = kind
   ·with_reducible repeat (first | (apply qzV; simp (disch:=omega) only [zA,bzZe.1,z2,z3,z4,z5,bdCe,e4,e5,z6,z7] <;> rfl) | apply qzT | apply qzF | apply qzG | ((first | apply qzB | apply qzC); simp (disch:=omega) only [zA,bzZe.1,z2,z3,z4,z5,bdCe,e4,e5,z6,z7] <;> rfl))
    with_reducible refine Tl.call' S1 (f29c (k:=k + 11) z.mn h1) fun h2 S2 _=>?_
    obtain ⟨_,_,_,y4,y5,_⟩:=z_at S2 0 rfl
    by_cases r7 : cellE z.mn = 0
    ·with_reducible repeat (first | (apply qzV; simp (disch:=omega) only [zA,bzZe.1,y4,y5] <;> rfl) | apply qzT | apply qzF | apply qzG | ((first | apply qzB | apply qzC); simp (disch:=omega) only [zA,bzZe.1,y4,y5] <;> rfl))
     with_reducible refine Tl.call' S2 (f29c (k:=k + 11) z.mx h2) fun h3 S3 _=>?_
     obtain ⟨_,_,_,x4,x5,_⟩:=z_at S3 0 rfl
     by_cases r8 : cellE z.mx = 0
     ·with_reducible repeat (first | (apply qzV; simp (disch:=omega) only [zA,bzZe.1,x4,x5] <;> rfl) | apply qzT | apply qzF | apply qzG | ((first | apply qzB | apply qzC); simp (disch:=omega) only [zA,bzZe.1,x4,x5] <;> rfl))
      with_reducible refine Tl.call' S3 (f101c (k:=k + 3) z.mn z.mx h3) fun h4 S4 _=>?_
      by_cases r9 : z.mn.cmp z.mx ≤ 0
      ·rw [if_pos ⟨r5,r6,r7,r8,r9⟩]
       with_reducible repeat (first | (apply qzV; simp (disch:=omega) only [zA,bzZe.1] <;> rfl) | apply qzT | apply qzF | apply qzG | ((first | apply qzB | apply qzC); simp (disch:=omega) only [zA,bzZe.1] <;> rfl))
       exact ⟨_,rfl,rfl,S4.grow⟩
      ·rw [if_neg (fun q=>r9 q.2.2.2.2)]
       with_reducible repeat (first | (apply qzV; simp (disch:=omega) only [zA,bzZe.1] <;> rfl) | apply qzT | apply qzF | apply qzG | ((first | apply qzB | apply qzC); simp (disch:=omega) only [zA,bzZe.1] <;> rfl))
       exact ⟨_,rfl,rfl,S4.grow⟩
     ·rw [if_neg (fun q=>r8 q.2.2.2.1)]
      with_reducible repeat (first | (apply qzV; simp (disch:=omega) only [zA,bzZe.1] <;> rfl) | apply qzT | apply qzF | apply qzG | ((first | apply qzB | apply qzC); simp (disch:=omega) only [zA,bzZe.1] <;> rfl))
      exact ⟨_,rfl,rfl,S3.grow⟩
    ·rw [if_neg (fun q=>r7 q.2.2.1)]
     with_reducible repeat (first | (apply qzV; simp (disch:=omega) only [zA,bzZe.1] <;> rfl) | apply qzT | apply qzF | apply qzG | ((first | apply qzB | apply qzC); simp (disch:=omega) only [zA,bzZe.1] <;> rfl))
     exact ⟨_,rfl,rfl,S2.grow⟩
   ·rw [if_neg (fun q=>r6 q.2.1)]
    with_reducible repeat (first | (apply qzV; simp (disch:=omega) only [zA,bzZe.1,z2,z3,z4,z5,bdCe,e4,e5,z6,z7] <;> rfl) | apply qzT | apply qzF | apply qzG | ((first | apply qzB | apply qzC); simp (disch:=omega) only [zA,bzZe.1,z2,z3,z4,z5,bdCe,e4,e5,z6,z7] <;> rfl))
    exact ⟨_,rfl,rfl,S1.grow⟩
  ·rw [if_neg (fun q=>r5 q.1)]
   with_reducible repeat (first | (apply qzV; simp (disch:=omega) only [zA,bzZe.1,z2,z3,z4,z5,bdCe,e4,e5,z6,z7] <;> rfl) | apply qzT | apply qzF | apply qzG | ((first | apply qzB | apply qzC); simp (disch:=omega) only [zA,bzZe.1,z2,z3,z4,z5,bdCe,e4,e5,z6,z7] <;> rfl))
   exact ⟨_,rfl,rfl,S1.grow⟩
end Go.Proofs.YtghelamfaaakcaaGreat.Sh
/- What stands ahead of a segment's cells: 'open'. -/
set_option linter.unusedVariables false
set_option linter.unusedSimpArgs false
set_option maxRecDepth 100000
namespace Go.Proofs.YtghelamfaaakcaaGreat.Sh
open Go Go.RowKit Go.Proofs.Ev Go.Lib
open Tryz (prog)
def bzS11:=PLift.up (ai @ld3 (ai @ld2 (ai @ld9 (ai @ld4 (ai @ld31 (ai @ld38 (ai @ld66 (ai @ld33 (ai @ld32 (ai @fa31_0 (ai @fa31_1 (ai @fa31_2 (ai @fa38_0 (ai @fa38_1 (ai @fa38_2 (ai @fa38_3 (ai @fa66_0 (ai @fa66_1 (ai @fa66_2 (ai @fa66_3 (ai (fun a h=>conv_int (a:=a) (h:=h) u5 u3) (ai @aggC (ai @aggZ (ai @ex2_0 (ai @ex2_1 (ai @ex3_0 (ai @ex3_1 (ai @ex3_2 (@Nat.add_zero)))))))))))))))))))))))))))))
/-! ### What is read, without the program -/
def endB (kind : Int) (r : List Nat) : Option (CellD × CellD × List Nat):=if kind = 1 then endN r else if kind = 2 then endT r else endW r
def openB : List Nat→Option (Int × List Bool × ZoneD × List Nat)
 | []=>none
 | kb :: r=>if ¬ (1 ≤ (kb : Int) ∧ (kb : Int) ≤ 3) then none else match getV r with
  | none=>none
  | some (l,n)=>if l.length = cnt l then some ((kb : Int),l,⟨l.length,cnt l,c0,c0⟩,r.drop n) else match endB (kb : Int) (r.drop n) with
   | none=>none
   | some (a,b,r2)=>if zoneE ⟨l.length,cnt l,a,b⟩ (kb : Int) = 0 then some ((kb : Int),l,⟨l.length,cnt l,a,b⟩,r2) else none
theorem getV_len {b : List Nat} {l : List Bool} {n : Nat} (h : getV b = some (l,n)) : n ≤ b.length:=by
 unfold getV at h
 split at h
 ·cases h
 ·split at h
  ·cases h
  ·split at h
   ·cases h
   ·split at h
    ·cases h
    ·split at h
     ·cases h
     ·split at h
      ·simp only [Option.some.injEq,Prod.mk.injEq] at h
       omega
      ·cases h
/-! ### The walk -/
def opL (kind : Int) (nv : Value) (z : ZoneD) (rv : Value) : List Value:=.int .i64 kind :: nv :: (zl z ++ [rv])
def Op (b : Nat) (kind : Int) (nv : Value) (z : ZoneD) (rv : Value) : Nat × AO:=(b,.cells (opL kind nv z rv) 66 true)
section
variable {n0 : Nat} {h0 h : AH} {L : List (Nat × AO)} {O : List OS}
structure Oat (h : AH) (b : Nat) (kind : Int) (nv : Value) (z : ZoneD) (rv : Value) : Prop where
 all : h.row b 0 11 = some (opL kind nv z rv)
 kind : h.cell b 0 = some (.int .i64 kind)
 zone : h.row b 2 8 = some (zl z)
 cnt : h.cell b 2 = some (.int .i64 z.cnt)
 nul : h.cell b 3 = some (.int .i64 z.nul)
theorem o_at {b : Nat} {kind : Int} {nv rv : Value} {z : ZoneD} (S : Stt prog n0 h0 h L O) (i : Nat) (hi : L[i]? = some (Op b kind nv z rv)) : Oat h b kind nv z rv:=by
 have:=S.sta.mem.at_ hi
 exact ⟨(row_of this).trans rfl,(cell_of this).trans rfl,(row_of this).trans rfl,(cell_of this).trans rfl,(cell_of this).trans rfl⟩
theorem strB_bytes {r : List Nat} (hb : ∀ x ∈ r,x < 256) : ((strB r).data.toList.map fun b : UInt8=>(Value.int .u8 b.toNat)) = (u8rows r).flatten:=by
 rw [u8rows_flat]
 unfold strB
 rw [List.map_map]
 refine List.map_congr_left fun x hx=>?_
 have:=hb x hx
 simp [u8v,Nat.mod_eq_of_lt this]
theorem Tl.toBytes {β : Type} {Q : β→Prop} {r : List Nat} {K : Value × AH→Option β} (S : Stt prog n0 h0 h L O) (hb : ∀ x ∈ r,x < 256) (hk : ∀ v h',Stt prog n0 h0 h' L ((v,1,u8rows r) :: O)→Grow h h'→Tl (K (v,h')) Q) :
  Tl (Ev.bnd (pBytes prog 9 33 (.string (strB r)) h) K) Q:=by
 have e : pBytes prog 9 33 (.string (strB r)) h = some (.slice (some ⟨h.n,0,none⟩) (strB r).size (strB r).size,h.alloc (.cells ((strB r).data.toList.map fun b=>.int .u8 b.toNat) 5 true)):=by
  unfold pBytes
  simp only [el33,u9,u5,sz5]
 rw [e,strB_bytes hb,strB_size]
 have S1:=Stt.absorb (n:=1) (rows:=u8rows r) (S.alloc (.cells (u8rows r).flatten 5 true)) (fun q hq=>by obtain ⟨x,_,rfl⟩:=List.mem_map.1 hq; rfl) sz5
 rw [u8rows_len] at S1
 exact hk _ _ S1 (Grow.alloc _ _)
theorem idx0 {a : Nat} {r : List Nat} (ha : a < 256) : pIndex prog 9 (.string (strB (a :: r))) (.int .i64 0) = some (.int .u8 (a : Int)):=by
 unfold pIndex
 simp only [u9]
 rw [if_pos (by omega)]
 have : (strB (a :: r))[(0 : Int).toNat]? = some (UInt8.ofNat a):=rfl
 rw [this]
 simp [Nat.mod_eq_of_lt ha]
theorem bdZd (p q : Int) : pBuild prog 38 #[(0,.int .i64 p),(1,.int .i64 q)] = some (zv ⟨p,q,c0,c0⟩):=by kernel_rfl
theorem segends_c {k i br : Nat} {rv : Value} {rest : List Nat} {kind : Int} (hkd : 1 ≤ kind ∧ kind ≤ 3) (S : Stt prog n0 h0 h L O) (hi : L[i]? = some (Rb br rv)) (R : RV L i rv rest) (hl : rest.length ≤ 2 ^ 30) (hb : ∀ x ∈ rest,x < 256) (hk : rest.length < k) :
  Tl (eInv env (k + 31) (.method "shadowbook/segment.ends") #[] #[codV kind, ptr br] h) fun r => ∃ (a b : CellD) (e : Int) (rv' : Value), r.1 = .tuple #[a.v, b.v, .int .i64 e] ∧ Stt prog n0 h0 r.2 (L.set i (Rb br rv')) O ∧
   ((∃ rest',endB kind rest = some (a,b,rest') ∧ e = 0 ∧ RV (L.set i (Rb br rv')) i rv' rest') ∨ (endB kind rest = none ∧ e ≠ 0)):=by
 have h : kind = 1 ∨ kind = 2 ∨ kind = 3:=by omega
 rcases h with rfl | rfl | rfl
 ·exact endsN_c S hi R hl hb
 ·exact endsT_c S hi R hl hb
 ·exact endsW_c S hi R hl hb hk
/-- What 'open' answers. -/
def OpenQ (h : AH) (bs : List Nat) (r : Value × AH) : Prop :=
 (∃ kind l z rest nv rv,openB bs = some (kind,l,z,rest) ∧ r.1 = .tuple #[.agg (opL kind nv z rv).toArray,.int .i64 0] ∧ Stt prog h.n h r.2 [] [(rv,1,u8rows rest),(nv,1,brows l)]) ∨
 (openB bs = none ∧ ∃ kind z a m c,r.1 = .tuple #[.agg (opL kind (.slice a m c) z (.slice none 0 0)).toArray,.int .i64 4] ∧ Grow h r.2)
/-- An opened one that may not be is told. -/
theorem open_bad {h0 h : AH} {L : List (Nat × AO)} {O : List OS} {bs : List Nat} {b : Nat} {kind : Int} {z : ZoneD} {a : Option Addr} {m c : Nat} (S : Stt prog h0.n h0 h (Op b kind (.slice a m c) z (.slice none 0 0) :: L) O) (hn : openB bs = none) :
  Tl (Ev.bnd (pLoad prog 66 (.pointer (some ⟨b,0,none⟩)) h) fun x=>Ev.bnd (kSt (pStore prog 66 (.pointer (some ⟨b,0,none⟩)) x h)) fun u=>Ev.bnd (pLoad prog 66 (.pointer (some ⟨b,0,none⟩)) u.2) fun q=>some (Value.tuple #[q,.int .i64 4],u.2)) fun r=>OpenQ h0 bs r:=by
 have r:=(o_at S 0 rfl).all
 with_reducible repeat (first | (apply qzV; simp (disch:=omega) only [zA,bzS11.1,r] <;> rfl) | apply qzT | apply qzF | apply qzG | apply qzH | ((first | apply qzB | apply qzC | apply qzD); simp (disch:=omega) only [zA,bzS11.1,r] <;> rfl))
 refine Tl.store' S 0 rfl sz66 rfl rfl (of_decide_eq_true rfl) fun h2 S2 _=>?_
 have S2 : Stt prog h0.n h0 h2 (Op b kind (.slice a m c) z (.slice none 0 0) :: L) O:=S2
 have r2:=(o_at S2 0 rfl).all
 with_reducible repeat (first | (apply qzV; simp (disch:=omega) only [zA,bzS11.1,r2] <;> rfl) | apply qzT | apply qzF | apply qzG | apply qzH | ((first | apply qzB | apply qzC | apply qzD); simp (disch:=omega) only [zA,bzS11.1,r2] <;> rfl))
 exact ⟨_,rfl,.inr ⟨hn,kind,z,a,m,c,rfl,S2.grow⟩⟩
end
end Go.Proofs.YtghelamfaaakcaaGreat.Sh
