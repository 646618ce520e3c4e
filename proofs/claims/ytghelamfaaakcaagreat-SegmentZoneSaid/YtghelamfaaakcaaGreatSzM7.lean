/- What lies ahead of the law, put together. -/
import Derived.Test.YtghelamfaaakcaaGreatSzM6
import Derived.Test.YtghelamfaaakcaaGreatSzM1
import Derived.Test.YtghelamfaaakcaaGreatSzM5
/- What 'Get' of the nulls' package comes to: the whole. -/
set_option linter.unusedVariables false
set_option linter.unusedSimpArgs false
set_option maxRecDepth 100000
namespace Go.Proofs.YtghelamfaaakcaaGreat.Sh
open Go Go.RowKit Go.Proofs.Ev
theorem bzNe : type_of% (And.intro @ld3 (And.intro @ld4 (And.intro @ld5 (And.intro @ld32 (And.intro @ld72 (And.intro @ld33 (And.intro @ld60 (And.intro @ld63 (And.intro (fun a h=>conv_int (a:=a) (h:=h) u3 u60) (And.intro (fun a h=>conv_int (a:=a) (h:=h) u60 u3) (And.intro (fun a h=>conv_int (a:=a) (h:=h) u3 u109) (And.intro (fun a h=>conv_int (a:=a) (h:=h) u109 u3) (And.intro (fun ox oy a b=>bin_eql_bool (ox:=ox) (oy:=oy) (a:=a) (b:=b) u4) (And.intro (fun ox oy a b=>bin_neq_bool (ox:=ox) (oy:=oy) (a:=a) (b:=b) u4) (And.intro @ex2_0 (And.intro @ex2_1 (And.intro @ex3_0 (And.intro @ex3_1 (@ex3_2))))))))))))))))))):=And.intro @ld3 (And.intro @ld4 (And.intro @ld5 (And.intro @ld32 (And.intro @ld72 (And.intro @ld33 (And.intro @ld60 (And.intro @ld63 (And.intro (fun a h=>conv_int (a:=a) (h:=h) u3 u60) (And.intro (fun a h=>conv_int (a:=a) (h:=h) u60 u3) (And.intro (fun a h=>conv_int (a:=a) (h:=h) u3 u109) (And.intro (fun a h=>conv_int (a:=a) (h:=h) u109 u3) (And.intro (fun ox oy a b=>bin_eql_bool (ox:=ox) (oy:=oy) (a:=a) (b:=b) u4) (And.intro (fun ox oy a b=>bin_neq_bool (ox:=ox) (oy:=oy) (a:=a) (b:=b) u4) (And.intro @ex2_0 (And.intro @ex2_1 (And.intro @ex3_0 (And.intro @ex3_1 (@ex3_2))))))))))))))))))
def szV (n : Nat) : Nat:=Pk.sizeN n 1
/-- Flags of a form, and what is left. -/
def mid (n form : Nat) (r2 : List Nat) : Option (List Bool × List Nat) :=
 if form = 2 then (if r2.length < szV n then none else if Pk.checkE (r2.take (szV n)) (n : Int) 1 ≠ 0 then none else some ((Pk.getN (r2.take (szV n)) (n : Int) 1).map (· == 1),r2.drop (szV n)))
 else some (List.replicate n (form == 1),r2)
def getV (b : List Nat) : Option (List Bool × Nat):=match dec 0 0 b with
 | none=>none
 | some (n,r1)=>if n > 4096 then none else match r1 with
  | []=>none
  | form :: r2=>if form > 2 then none else match mid n form r2 with
   | none=>none
   | some (l,rest)=>if putV l = b.take (b.length - rest.length) then some (l,b.length - rest.length) else none
theorem f56_loop {β : Type} {k : Nat} {Q : β→Prop} {n0 : Nat} {h0 : AH} {L : List (Nat × AO)} {x0 x5 lv gv : Value} {g : List Nat} {P1 : OS} {m : Nat} (hm : m ≤ 4096) (hg : g.length = m)
  {ke0 : Value→Value→Value→Value→Value→Value→Value→AH→Option β} (n : Nat) :
  ∀ {i j : Nat} {h : AH} {done : List Bool},i + n = m→n < j→done.length = m→done.take i = (g.take i).map (· == 1)→Stt Tryz.prog n0 h0 h L [(gv,1,u64rows g),P1,(lv,1,brows done)] →
   (∀ h' y y',Stt Tryz.prog n0 h0 h' L [(gv,1,u64rows g),P1,(lv,1,brows (g.map (· == 1)))]→Tl (ke0 x0 lv x5 gv (.int .i64 m) y y' h') Q) →
   Tl (F56_lrrrrrlrlrrrrrrr (eInv env k) k j x0 lv x5 gv (.int .i64 m) (.int .i64 i) h ke0) Q:=by
 induction n with
 | zero =>
  intro i j h done hi hj hd ht S hk
  obtain ⟨j,rfl⟩ : ∃ q,j = q + 1:=⟨j - 1,by omega⟩
  simp only [F56_lrrrrrlrlrrrrrrr]
  repeat (first | (with_reducible apply qzV; simp (disch:=omega) only [coreA,Int.reduceBEq,bzNe] <;> with_reducible rfl) | (with_reducible first | apply qzT | apply qzF | apply qzG | apply qzH) | ((with_reducible first | apply qzB | apply qzC | apply qzD); simp (disch:=omega) only [coreA,Int.reduceBEq,bzNe] <;> with_reducible rfl))
  rw [List.take_of_length_le (by omega),List.take_of_length_le (by omega)] at ht
  subst ht
  exact hk _ _ _ S
 | succ n ih =>
  intro i j h done hi hj hd ht S hk
  obtain ⟨j,rfl⟩ : ∃ q,j = q + 1:=⟨j - 1,by omega⟩
  obtain ⟨x,hx⟩ : ∃ x,g[i]? = some x:=⟨_,List.getElem?_eq_getElem (by omega)⟩
  obtain ⟨b,o,hp,hc1⟩:=Sl1.at_ (S.sl1 (f:=u64v) 0 rfl) (t:=63) (k:=.i64) hx u63 sz60
  have hc1:=hc1 h (Grow.refl _)
  obtain ⟨bm,em,hmm⟩:=S.idx (t:=32) 2 rfl (kd:=.i64) (j:=i) (by rw [brows_len]; omega) u32 sz4
  have e : (i : Int) + 1 = ((i + 1 : Nat) : Int):=by omega
  have eb : ((x : Int) == 1) = (x == 1):=by
   by_cases q : x = 1
   ·subst q; rfl
   ·have h1 : (x == 1) = false:=by simpa using q
    have h2 : ((x : Int) == 1) = false:=by simp; omega
    rw [h1,h2]
  simp only [F56_lrrrrrlrlrrrrrrr]
  repeat (first | (with_reducible apply qzV; simp (disch:=omega) only [coreA,Int.reduceBEq,bzNe,hp,hc1,u64v,hmm,eb] <;> with_reducible rfl) | (with_reducible first | apply qzT | apply qzF | apply qzG | apply qzH) | ((with_reducible first | apply qzB | apply qzC | apply qzD); simp (disch:=omega) only [coreA,Int.reduceBEq,bzNe,hp,hc1,u64v,hmm,eb] <;> with_reducible rfl))
  refine Tl.setAt S 2 rfl em (by rw [brows_len]; omega) rfl sz4 rfl fun h' S'=>?_
  repeat (first | (with_reducible apply qzV; simp (disch:=omega) only [coreA,Int.reduceBEq,bzNe] <;> with_reducible rfl) | (with_reducible first | apply qzT | apply qzF | apply qzG | apply qzH) | ((with_reducible first | apply qzB | apply qzC | apply qzD); simp (disch:=omega) only [coreA,Int.reduceBEq,bzNe] <;> with_reducible rfl))
  rw [e]
  refine ih (done:=done.set i (x == 1)) (by omega) (by omega) (by simp [hd]) ?_ (by simpa [brows,bv,List.map_set,Value.cells] using S') hk
  have hti : g.take (i + 1) = g.take i ++ [x]:=by rw [List.take_add_one,hx]; rfl
  rw [hti,List.map_append,← ht]
  refine List.ext_getElem? fun q=>?_
  rw [List.getElem?_take,List.getElem?_set]
  by_cases q1 : q < i
  ·rw [if_pos (by omega),if_neg (by omega),List.getElem?_append_left (by simp; omega),List.getElem?_take,if_pos q1]
  ·by_cases q2 : q = i
   ·subst q2
    rw [if_pos (by omega),if_pos rfl,if_pos (by omega),List.getElem?_append_right (by simp; omega)]
    simp [show min q done.length = q by omega]
   ·rw [if_neg (by omega),List.getElem?_eq_none (by simp; omega)]
theorem f56_mid {β : Type} {k : Nat} {Q : β→Prop} {h0 h : AH} {L : List (Nat × AO)} {br : Nat} {rv lv x0 : Value} {r2 : List Nat} {n form : Nat} (S : Stt Tryz.prog h0.n h0 h (Rb br rv :: L) [(lv,1,brows (List.replicate n (form == 1)))])
  (R : RV (Rb br rv :: L) 0 rv r2) (hn : n ≤ 4096) (hform : form ≤ 2) (hl : r2.length ≤ 2 ^ 30) (hb : ∀ x ∈ r2,x < 256) (hk : 5000 < k)
  {kn : Value→Value→Value→Value→Value→Value→Value→Value→Value→AH→Option β} {kr : Value→Value→Value→AH→Option β}
  (hkn : ∀ l rest' rv' h' O' (i : Nat) y6 y10 y45 y66 y67 y68,Stt Tryz.prog h0.n h0 h' (Rb br rv' :: L) O'→O'[i]? = some (lv,1,brows l)→RV (Rb br rv' :: L) 0 rv' rest'→mid n form r2 = some (l,rest')→l.length = n→Tl (kn x0 lv (ptr br) y6 y10 y45 y66 y67 y68 h') Q)
  (hkr : mid n form r2 = none→∀ h',Grow h0 h'→Tl (kr (.slice none 0 0) (.int .i64 0) (.int .i64 4) h') Q) :
  Tl (F56_rlrrrrrrr (eInv env (k + 100)) (k + 100) x0 lv (ptr br) (.int .u64 (n : Int)) (.bool ((form : Int) == 2)) h kn kr) Q:=by
 unfold F56_rlrrrrrrr
 unfold mid at hkn hkr
 by_cases q2 : form = 2
 ·simp only [if_pos q2] at hkn hkr
  have hsz : Pk.sizeE (n : Int) 1 = (szV n : Int):=by
   unfold Pk.sizeE
   have hmb : Pk.mayB (n : Int) 1 = true:=Pk.mayB_mk (N:=n) (W:=1) (by omega) (by omega)
   rw [if_pos hmb]
   rfl
  have hszl : szV n ≤ 520:=by unfold szV Pk.sizeN; omega
  have sz:=f99c (k:=k + 98) (n : Int) 1 h
  rw [hsz] at sz
  repeat (first | (with_reducible apply qzV; simp (disch:=omega) only [coreA,Int.reduceBEq,bzNe,sz] <;> with_reducible rfl) | (with_reducible first | apply qzT | apply qzF | apply qzG | apply qzH) | ((with_reducible first | apply qzB | apply qzC | apply qzD); simp (disch:=omega) only [coreA,Int.reduceBEq,bzNe,sz] <;> with_reducible rfl))
  by_cases q3 : r2.length < szV n
  ·rw [if_pos q3] at hkr
   refine Tl.bind (f60n (k:=k + 97) S rfl R (n:=(szV n : Int)) (.inl (by omega))) ?_
   rintro ⟨r,h1⟩ ⟨e,he,er⟩
   cases er
   repeat (first | (with_reducible apply qzV; simp (disch:=omega) only [coreA,Int.reduceBEq,bzNe] <;> with_reducible rfl) | (with_reducible first | apply qzT | apply qzF | apply qzG | apply qzH) | ((with_reducible first | apply qzB | apply qzC | apply qzD); simp (disch:=omega) only [coreA,Int.reduceBEq,bzNe] <;> with_reducible rfl))
   exact hkr rfl _ S.grow
  ·simp only [if_neg q3] at hkn hkr
   refine Tl.bind (f60c (k:=k + 97) S rfl R (n:=szV n) (by omega) hl) ?_
   rintro ⟨r,h1⟩ ⟨pv,rv',er,S1,R1⟩
   simp only at er S1
   subst er
   have S1 : Stt Tryz.prog h0.n h0 h1 (Rb br rv' :: L) [(pv,1,u8rows (r2.take (szV n))),(lv,1,brows (List.replicate n (form == 1)))]:=S1
   have R1 : RV (Rb br rv' :: L) 0 rv' (r2.drop (szV n)):=R1
   repeat (first | (with_reducible apply qzV; simp (disch:=omega) only [coreA,Int.reduceBEq,bzNe] <;> with_reducible rfl) | (with_reducible first | apply qzT | apply qzF | apply qzG | apply qzH) | ((with_reducible first | apply qzB | apply qzC | apply qzD); simp (disch:=omega) only [coreA,Int.reduceBEq,bzNe] <;> with_reducible rfl))
   refine Tl.bind (f87c (k:=k + 10) (S1.sl1 (f:=u8v) 0 rfl) (fun x hx=>hb x (List.mem_of_mem_take hx)) (by simp; omega) (n : Int) 1 (fun _=>by simp; omega)) ?_
   rintro ⟨r,h2⟩ ⟨gv,er,g2,X⟩
   simp only at er g2 X
   subst er
   by_cases q4 : Pk.checkE (r2.take (szV n)) (n : Int) 1 = 0
   ·simp only [if_neg (show ¬ Pk.checkE (r2.take (szV n)) (n : Int) 1 ≠ 0 from fun h=>h q4)] at hkn
    have S2:=S1.gain g2 X
    have hgl : (Pk.getN (r2.take (szV n)) (n : Int) 1).length = n:=by
     unfold Pk.getN
     rw [if_pos q4]
     simp [digs]
    have hlen : ∀ h',pLen Tryz.prog #[32] lv h' = some (.int .i64 n):=fun h'=>by
     have:=SlV.len (S2.slV 2 rfl) u32 (h':=h')
     rw [brows_len,List.length_replicate] at this
     exact this
    rw [q4]
    repeat (first | (with_reducible apply qzV; simp (disch:=omega) only [coreA,Int.reduceBEq,bzNe,hlen] <;> with_reducible rfl) | (with_reducible first | apply qzT | apply qzF | apply qzG | apply qzH) | ((with_reducible first | apply qzB | apply qzC | apply qzD); simp (disch:=omega) only [coreA,Int.reduceBEq,bzNe,hlen] <;> with_reducible rfl))
    refine f56_loop hn hgl n (i:=0) (by omega) (by omega) (by simp) (by simp) S2 fun h3 y y' S3=>?_
    exact hkn _ _ rv' h3 _ 2 _ _ _ _ _ _ S3 rfl R1 rfl (by rw [List.length_map,hgl])
   ·rw [if_pos q4] at hkr
    repeat (first | (with_reducible apply qzV; simp (disch:=omega) only [coreA,Int.reduceBEq,bzNe] <;> with_reducible rfl) | (with_reducible first | apply qzT | apply qzF | apply qzG | apply qzH) | ((with_reducible first | apply qzB | apply qzC | apply qzD); simp (disch:=omega) only [coreA,Int.reduceBEq,bzNe] <;> with_reducible rfl))
    exact hkr rfl _ (S1.grow.trans g2)
 ·simp only [if_neg q2] at hkn
  repeat (first | (with_reducible apply qzV; simp (disch:=omega) only [coreA,Int.reduceBEq,bzNe] <;> with_reducible rfl) | (with_reducible first | apply qzT | apply qzF | apply qzG | apply qzH) | ((with_reducible first | apply qzB | apply qzC | apply qzD); simp (disch:=omega) only [coreA,Int.reduceBEq,bzNe] <;> with_reducible rfl))
  exact hkn _ _ rv h _ 0 _ _ _ _ _ _ S rfl R rfl (by simp)
theorem dec_lenV : ∀ (b : List Nat) {i acc v : Nat} {rest : List Nat},dec i acc b = some (v,rest)→rest.length < b.length ∧ ∀ x ∈ rest,x ∈ b:=by
 intro b
 induction b with
 | nil=>intro i acc v rest h; simp [dec] at h
 | cons c b ih =>
  intro i acc v rest h
  unfold dec at h
  split at h
  ·cases h
  ·split at h
   ·cases h
   ·split at h
    ·obtain ⟨h1,h2⟩:=ih h
     exact ⟨by simp; omega,fun x hx=>by simp [h2 x hx]⟩
    ·split at h
     ·cases h
     ·cases h
      exact ⟨by simp,fun x hx=>by simp [hx]⟩
theorem mid_len {n form : Nat} {r2 rest : List Nat} {l : List Bool} (h : mid n form r2 = some (l,rest)) : rest.length ≤ r2.length:=by
 unfold mid at h
 split at h
 ·split at h
  ·cases h
  ·split at h
   ·cases h
   ·cases h; simp
 ·cases h; simp
theorem f56c {k : Nat} {h : AH} {v : Value} {b : List Nat} (B : Bytes h v b) (hb : ∀ x ∈ b,x < 256) (hl : b.length ≤ 2 ^ 20) (hk : 6000 + b.length < k) :
  Tl (eInv env (k + 1000) (.func 56) #[] #[v] h) fun r=>(∃ l n lv,getV b = some (l,n) ∧ l.length ≤ 4096 ∧ r.1 = .tuple #[lv,.int .i64 n,.int .i64 0] ∧ Grow h r.2 ∧ OwnB Tryz.prog h.n r.2 lv 1 (brows l)) ∨
   (getV b = none ∧ r.1 = .tuple #[.slice none 0 0,.int .i64 0,.int .i64 4] ∧ Grow h r.2):=by
 rw [F56_call]
 unfold F56
 refine Tl.bind (f58c (k:=k + 997) (Stt.init h) B (by omega)) ?_
 rintro ⟨x15,h1⟩ ⟨br,rv,L',e1,S1,R1,g1⟩
 simp only at e1 S1 g1
 subst e1
 rw [List.nil_append] at S1 R1
 refine Tl.bind (f92c (k:=k + 993) S1 rfl R1 (by omega) hb (by omega)) ?_
 rintro ⟨r,h2⟩ hr
 unfold getV
 rcases hr with ⟨n,r1,rv2,hd,er,S2,R2⟩ | ⟨hd,e,he,er⟩
 ·simp only at er S2
  subst er
  have S2 : Stt Tryz.prog h.n h h2 (Rb br rv2 :: L') []:=S2
  have R2 : RV (Rb br rv2 :: L') 0 rv2 r1:=R2
  obtain ⟨dl1,dl2⟩:=dec_lenV b hd
  rw [hd]
  simp only
  by_cases qn : n > 4096
  ·rw [if_pos qn]
   have : (n : Int) > 4096:=by omega
   repeat (first | (with_reducible apply qzV; simp (disch:=omega) only [coreA,Int.reduceBEq,bzNe] <;> with_reducible rfl) | (with_reducible first | apply qzT | apply qzF | apply qzG | apply qzH) | ((with_reducible first | apply qzB | apply qzC | apply qzD); simp (disch:=omega) only [coreA,Int.reduceBEq,bzNe] <;> with_reducible rfl))
   exact ⟨_,rfl,.inr ⟨rfl,rfl,S2.grow⟩⟩
  ·rw [if_neg qn]
   repeat (first | (with_reducible apply qzV; simp (disch:=omega) only [coreA,Int.reduceBEq,bzNe] <;> with_reducible rfl) | (with_reducible first | apply qzT | apply qzF | apply qzG | apply qzH) | ((with_reducible first | apply qzB | apply qzC | apply qzD); simp (disch:=omega) only [coreA,Int.reduceBEq,bzNe] <;> with_reducible rfl))
   cases r1 with
   | nil =>
    refine Tl.bind (f77n (k:=k + 976) S2 rfl R2 (n:=1) (by omega) (by omega) (by simp)) ?_
    rintro ⟨r,h3⟩ ⟨er,g3⟩
    simp only at er g3
    subst er
    repeat (first | (with_reducible apply qzV; simp (disch:=omega) only [coreA,Int.reduceBEq,bzNe] <;> with_reducible rfl) | (with_reducible first | apply qzT | apply qzF | apply qzG | apply qzH) | ((with_reducible first | apply qzB | apply qzC | apply qzD); simp (disch:=omega) only [coreA,Int.reduceBEq,bzNe] <;> with_reducible rfl))
    exact ⟨_,rfl,.inr ⟨rfl,rfl,S2.grow.trans g3⟩⟩
   | cons form r2 =>
    refine Tl.bind (f77c (k:=k + 976) S2 rfl R2 (n:=1) (by omega) (by omega) (by simp) (by simp at dl1; simp; omega) (fun x hx=>hb x (dl2 x hx))) ?_
    rintro ⟨r,h3⟩ ⟨rv3,er,S3,R3⟩
    simp only at er S3
    subst er
    have S3 : Stt Tryz.prog h.n h h3 (Rb br rv3 :: L') []:=S3
    have R3 : RV (Rb br rv3 :: L') 0 rv3 r2:=R3
    have ef : ofB ((form :: r2).take 1) = form:=by simp [ofB]
    rw [ef]
    have hf256:=hb form (dl2 form (by simp))
    have dl3 : r2.length + 1 < b.length:=by simpa using dl1
    simp only
    by_cases qf : form > 2
    ·rw [if_pos qf]
     repeat (first | (with_reducible apply qzV; simp (disch:=omega) only [coreA,Int.reduceBEq,bzNe] <;> with_reducible rfl) | (with_reducible first | apply qzT | apply qzF | apply qzG | apply qzH) | ((with_reducible first | apply qzB | apply qzC | apply qzD); simp (disch:=omega) only [coreA,Int.reduceBEq,bzNe] <;> with_reducible rfl))
     exact ⟨_,rfl,.inr ⟨rfl,rfl,S3.grow⟩⟩
    ·rw [if_neg qf]
     have eb : ((form : Int) == 1) = (form == 1):=by
      by_cases q : form = 1
      ·subst q; rfl
      ·have h1 : (form == 1) = false:=by simpa using q
       have h2 : ((form : Int) == 1) = false:=by simp; omega
       rw [h1,h2]
     repeat (first | (with_reducible apply qzV; simp (disch:=omega) only [coreA,Int.reduceBEq,bzNe,eb,bs32] <;> with_reducible rfl) | (with_reducible first | apply qzT | apply qzF | apply qzG | apply qzH) | ((with_reducible first | apply qzB | apply qzC | apply qzD); simp (disch:=omega) only [coreA,Int.reduceBEq,bzNe,eb,bs32] <;> with_reducible rfl))
     have S4:=S3.alloc (.cells [.bool (form == 1)] 4 true)
     refine Tl.callO S4.drop (f103c (k:=k + 996) (x:=form == 1) (n:=n) (S4.lit 0 rfl rfl) (by omega) (by omega)) fun lv h5 S5 g5=>?_
     repeat (first | (with_reducible apply qzV; simp (disch:=omega) only [coreA,Int.reduceBEq,bzNe] <;> with_reducible rfl) | (with_reducible first | apply qzT | apply qzF | apply qzG | apply qzH) | ((with_reducible first | apply qzB | apply qzC | apply qzD); simp (disch:=omega) only [coreA,Int.reduceBEq,bzNe] <;> with_reducible rfl))
     refine f56_mid (k:=k + 899) S5 R3 (by omega) (by omega) (by omega) (fun x hx=>hb x (dl2 x (by simp [hx]))) (by omega) ?_ ?_
     ·intro l rest rv6 h6 O' i y6 y10 y45 y66 y67 y68 S6 hO R6 hm hln
      have hml:=mid_len hm
      rw [hm]
      simp only
      have hv : ∀ h',pLen Tryz.prog #[33] v h' = some (.int .i64 b.length):=fun h'=>B.len
      have left:=f61c (k:=k + 998) S6 rfl R6
      have es : (b.length : Int) - (rest.length : Int) = ((b.length - rest.length : Nat) : Int):=by omega
      repeat (first | (with_reducible apply qzV; simp (disch:=omega) only [coreA,Int.reduceBEq,bzNe,hv,left] <;> with_reducible rfl) | (with_reducible first | apply qzT | apply qzF | apply qzG | apply qzH) | ((with_reducible first | apply qzB | apply qzC | apply qzD); simp (disch:=omega) only [coreA,Int.reduceBEq,bzNe,hv,left] <;> with_reducible rfl))
      refine Tl.bind (f30c (k:=k + 499) (S6.sl1 (f:=bv) i hO) (by omega) (by omega)) ?_
      rintro ⟨r,h7⟩ ⟨av,er,g7,X⟩
      simp only at er g7 X
      subst er
      have S7:=S6.gain g7 X
      obtain ⟨tv,ht,Bt⟩:=Bytes.takeS (B.grow S7.grow) (n:=b.length - rest.length) (by omega)
      rw [← es] at ht
      have hpl : ∀ x ∈ putV l,x < 256:=fun x hx=>by
       unfold putV at hx
       rcases List.mem_append.1 hx with hx | hx
       ·exact pvarN_256 _ x hx
       ·rcases List.mem_cons.1 hx with rfl | hx
        ·have:=formN_le l; omega
        ·split at hx
         ·exact (putN_spec 1 _).2.2 x hx
         ·cases hx
      have eq:=f104c (k:=k + 998) (S7.sl1 (f:=u8v) 0 rfl) Bt hpl (fun x hx=>hb x (List.mem_of_mem_take hx))
      by_cases q : putV l = b.take (b.length - rest.length)
      ·rw [if_pos q]
       rw [decide_eq_true q] at eq
       repeat (first | (with_reducible apply qzV; simp (disch:=omega) only [coreA,Int.reduceBEq,bzNe,ht,eq] <;> with_reducible rfl) | (with_reducible first | apply qzT | apply qzF | apply qzG | apply qzH) | ((with_reducible first | apply qzB | apply qzC | apply qzD); simp (disch:=omega) only [coreA,Int.reduceBEq,bzNe,ht,eq] <;> with_reducible rfl))
       rw [es]
       refine ⟨_,rfl,.inl ⟨l,_,lv,rfl,by omega,rfl,S7.grow,S7.ret (i + 1) (by simpa using hO)⟩⟩
      ·rw [if_neg q]
       rw [decide_eq_false q] at eq
       repeat (first | (with_reducible apply qzV; simp (disch:=omega) only [coreA,Int.reduceBEq,bzNe,ht,eq] <;> with_reducible rfl) | (with_reducible first | apply qzT | apply qzF | apply qzG | apply qzH) | ((with_reducible first | apply qzB | apply qzC | apply qzD); simp (disch:=omega) only [coreA,Int.reduceBEq,bzNe,ht,eq] <;> with_reducible rfl))
       exact ⟨_,rfl,.inr ⟨rfl,rfl,S7.grow⟩⟩
     ·intro hm h6 g6
      rw [hm]
      exact ⟨_,rfl,.inr ⟨rfl,rfl,g6⟩⟩
 ·cases er
  rw [hd]
  repeat (first | (with_reducible apply qzV; simp (disch:=omega) only [coreA,Int.reduceBEq,bzNe] <;> with_reducible rfl) | (with_reducible first | apply qzT | apply qzF | apply qzG | apply qzH) | ((with_reducible first | apply qzB | apply qzC | apply qzD); simp (disch:=omega) only [coreA,Int.reduceBEq,bzNe] <;> with_reducible rfl))
  exact ⟨_,rfl,.inr ⟨rfl,rfl,S1.grow⟩⟩
end Go.Proofs.YtghelamfaaakcaaGreat.Sh
/- What 'zone.Check' comes to, where there are values; what is right of a zone of good cells. -/
set_option linter.unusedVariables false
set_option linter.unusedSimpArgs false
set_option maxRecDepth 100000
namespace Go.Proofs.YtghelamfaaakcaaGreat.Sh
open Go Go.RowKit Go.Proofs.Ev Go.Lib
theorem bzZe : type_of% (And.intro @ld3 (And.intro @ld2 (And.intro @ld9 (And.intro @ld31 (And.intro @ld38 (And.intro @fa31_0 (And.intro @fa31_1 (And.intro @fa31_2 (And.intro @fa38_0 (And.intro @fa38_1 (And.intro @fa38_2 (And.intro @fa38_3 (And.intro (fun ox oy a b=>bin_eql_bool (ox:=ox) (oy:=oy) (a:=a) (b:=b) u4) (And.intro @aggC (And.intro @aggZ (@Nat.add_zero)))))))))))))))):=And.intro @ld3 (And.intro @ld2 (And.intro @ld9 (And.intro @ld31 (And.intro @ld38 (And.intro @fa31_0 (And.intro @fa31_1 (And.intro @fa31_2 (And.intro @fa38_0 (And.intro @fa38_1 (And.intro @fa38_2 (And.intro @fa38_3 (And.intro (fun ox oy a b=>bin_eql_bool (ox:=ox) (oy:=oy) (a:=a) (b:=b) u4) (And.intro @aggC (And.intro @aggZ (@Nat.add_zero)))))))))))))))
def zoneE (z : ZoneD) (kind : Int) : Int:=if z.mn.k = kind ∧ z.mx.k = kind ∧ cellE z.mn = 0 ∧ cellE z.mx = 0 ∧ z.mn.cmp z.mx ≤ 0 then 0 else 2
theorem zoneE_zero {z : ZoneD} {kind : Int} : zoneE z kind = 0 ↔ z.mn.k = kind ∧ z.mx.k = kind ∧ cellE z.mn = 0 ∧ cellE z.mx = 0 ∧ z.mn.cmp z.mx ≤ 0:=by
 unfold zoneE
 split
 ·simp [*]
 ·rename_i h
  constructor
  ·intro q; cases q
  ·intro q; exact absurd q h
theorem bdCe : pBuild Tryz.prog 31 #[] = some c0.v:=by kernel_rfl
/-- 'Check', where a zone has values. -/
theorem f59c {k : Nat} (z : ZoneD) (kind : Int) (h : AH) (h1 : 1 ≤ kind) (h3 : kind ≤ 3) (p0 : 0 ≤ z.nul) (p1 : z.nul < z.cnt) :
  Tl (eInv env (k + 13) (.func 59) #[] #[zv z,.int .i64 kind] h) fun r=>r.1 = .int .i64 (zoneE z kind) ∧ Grow h r.2:=by
 rw [F59_call]
 unfold F59
 refine Tl.box' (Stt.init h) rfl isZ fun b2 h1 S1 _=>?_
 have S1 : Stt Tryz.prog h.n h h1 [Zr b2 z] []:=S1
 obtain ⟨_,z2,z3,z4,z5,z6,z7⟩:=z_at S1 0 rfl
 obtain ⟨d4,e4⟩ : ∃ d,∀ x y,pBin Tryz.prog .eql 31 x y z.mn.v c0.v = some (.bool d):=⟨_,fun x y=>eqlC z.mn c0⟩
 obtain ⟨d5,e5⟩ : ∃ d,∀ x y,pBin Tryz.prog .eql 31 x y z.mx.v c0.v = some (.bool d):=⟨_,fun x y=>eqlC z.mx c0⟩
 unfold zoneE
 cases d4 <;> cases d5
 all_goals
  by_cases r5 : z.mn.k = kind
  ·by_cases r6 : z.mx.k = kind
   ·repeat (first | (with_reducible apply qzV; simp (disch:=omega) only [coreA,Int.reduceBEq,bzZe,z2,z3,z4,z5,bdCe,e4,e5,z6,z7] <;> with_reducible rfl) | (with_reducible first | apply qzT | apply qzF | apply qzG | apply qzH) | ((with_reducible first | apply qzB | apply qzC | apply qzD); simp (disch:=omega) only [coreA,Int.reduceBEq,bzZe,z2,z3,z4,z5,bdCe,e4,e5,z6,z7] <;> with_reducible rfl))
    with_reducible refine Tl.call' S1 (f29c (k:=k + 11) z.mn h1) fun h2 S2 _=>?_
    obtain ⟨_,_,_,y4,y5,_⟩:=z_at S2 0 rfl
    by_cases r7 : cellE z.mn = 0
    ·repeat (first | (with_reducible apply qzV; simp (disch:=omega) only [coreA,Int.reduceBEq,bzZe,y4,y5] <;> with_reducible rfl) | (with_reducible first | apply qzT | apply qzF | apply qzG | apply qzH) | ((with_reducible first | apply qzB | apply qzC | apply qzD); simp (disch:=omega) only [coreA,Int.reduceBEq,bzZe,y4,y5] <;> with_reducible rfl))
     with_reducible refine Tl.call' S2 (f29c (k:=k + 11) z.mx h2) fun h3 S3 _=>?_
     obtain ⟨_,_,_,x4,x5,_⟩:=z_at S3 0 rfl
     by_cases r8 : cellE z.mx = 0
     ·repeat (first | (with_reducible apply qzV; simp (disch:=omega) only [coreA,Int.reduceBEq,bzZe,x4,x5] <;> with_reducible rfl) | (with_reducible first | apply qzT | apply qzF | apply qzG | apply qzH) | ((with_reducible first | apply qzB | apply qzC | apply qzD); simp (disch:=omega) only [coreA,Int.reduceBEq,bzZe,x4,x5] <;> with_reducible rfl))
      with_reducible refine Tl.call' S3 (f101c (k:=k + 3) z.mn z.mx h3) fun h4 S4 _=>?_
      by_cases r9 : z.mn.cmp z.mx ≤ 0
      ·rw [if_pos ⟨r5,r6,r7,r8,r9⟩]
       repeat (first | (with_reducible apply qzV; simp (disch:=omega) only [coreA,Int.reduceBEq,bzZe] <;> with_reducible rfl) | (with_reducible first | apply qzT | apply qzF | apply qzG | apply qzH) | ((with_reducible first | apply qzB | apply qzC | apply qzD); simp (disch:=omega) only [coreA,Int.reduceBEq,bzZe] <;> with_reducible rfl))
       exact ⟨_,rfl,rfl,S4.grow⟩
      ·rw [if_neg (fun q=>r9 q.2.2.2.2)]
       repeat (first | (with_reducible apply qzV; simp (disch:=omega) only [coreA,Int.reduceBEq,bzZe] <;> with_reducible rfl) | (with_reducible first | apply qzT | apply qzF | apply qzG | apply qzH) | ((with_reducible first | apply qzB | apply qzC | apply qzD); simp (disch:=omega) only [coreA,Int.reduceBEq,bzZe] <;> with_reducible rfl))
       exact ⟨_,rfl,rfl,S4.grow⟩
     ·rw [if_neg (fun q=>r8 q.2.2.2.1)]
      repeat (first | (with_reducible apply qzV; simp (disch:=omega) only [coreA,Int.reduceBEq,bzZe] <;> with_reducible rfl) | (with_reducible first | apply qzT | apply qzF | apply qzG | apply qzH) | ((with_reducible first | apply qzB | apply qzC | apply qzD); simp (disch:=omega) only [coreA,Int.reduceBEq,bzZe] <;> with_reducible rfl))
      exact ⟨_,rfl,rfl,S3.grow⟩
    ·rw [if_neg (fun q=>r7 q.2.2.1)]
     repeat (first | (with_reducible apply qzV; simp (disch:=omega) only [coreA,Int.reduceBEq,bzZe] <;> with_reducible rfl) | (with_reducible first | apply qzT | apply qzF | apply qzG | apply qzH) | ((with_reducible first | apply qzB | apply qzC | apply qzD); simp (disch:=omega) only [coreA,Int.reduceBEq,bzZe] <;> with_reducible rfl))
     exact ⟨_,rfl,rfl,S2.grow⟩
   ·rw [if_neg (fun q=>r6 q.2.1)]
    repeat (first | (with_reducible apply qzV; simp (disch:=omega) only [coreA,Int.reduceBEq,bzZe,z2,z3,z4,z5,bdCe,e4,e5,z6,z7] <;> with_reducible rfl) | (with_reducible first | apply qzT | apply qzF | apply qzG | apply qzH) | ((with_reducible first | apply qzB | apply qzC | apply qzD); simp (disch:=omega) only [coreA,Int.reduceBEq,bzZe,z2,z3,z4,z5,bdCe,e4,e5,z6,z7] <;> with_reducible rfl))
    exact ⟨_,rfl,rfl,S1.grow⟩
  ·rw [if_neg (fun q=>r5 q.1)]
   repeat (first | (with_reducible apply qzV; simp (disch:=omega) only [coreA,Int.reduceBEq,bzZe,z2,z3,z4,z5,bdCe,e4,e5,z6,z7] <;> with_reducible rfl) | (with_reducible first | apply qzT | apply qzF | apply qzG | apply qzH) | ((with_reducible first | apply qzB | apply qzC | apply qzD); simp (disch:=omega) only [coreA,Int.reduceBEq,bzZe,z2,z3,z4,z5,bdCe,e4,e5,z6,z7] <;> with_reducible rfl))
   exact ⟨_,rfl,rfl,S1.grow⟩
end Go.Proofs.YtghelamfaaakcaaGreat.Sh
/- What stands ahead of a segment's cells: 'open'. -/
set_option linter.unusedVariables false
set_option linter.unusedSimpArgs false
set_option maxRecDepth 100000
namespace Go.Proofs.YtghelamfaaakcaaGreat.Sh
open Go Go.RowKit Go.Proofs.Ev Go.Lib
theorem bzS11 : type_of% (And.intro @ld3 (And.intro @ld2 (And.intro @ld9 (And.intro @ld4 (And.intro @ld31 (And.intro @ld38 (And.intro @ld66 (And.intro @ld33 (And.intro @ld32 (And.intro @fa31_0 (And.intro @fa31_1 (And.intro @fa31_2 (And.intro @fa38_0 (And.intro @fa38_1 (And.intro @fa38_2 (And.intro @fa38_3 (And.intro @fa66_0 (And.intro @fa66_1 (And.intro @fa66_2 (And.intro @fa66_3 (And.intro (fun a h=>conv_int (a:=a) (h:=h) u5 u3) (And.intro @aggC (And.intro @aggZ (And.intro @ex2_0 (And.intro @ex2_1 (And.intro @ex3_0 (And.intro @ex3_1 (And.intro @ex3_2 (@Nat.add_zero))))))))))))))))))))))))))))):=And.intro @ld3 (And.intro @ld2 (And.intro @ld9 (And.intro @ld4 (And.intro @ld31 (And.intro @ld38 (And.intro @ld66 (And.intro @ld33 (And.intro @ld32 (And.intro @fa31_0 (And.intro @fa31_1 (And.intro @fa31_2 (And.intro @fa38_0 (And.intro @fa38_1 (And.intro @fa38_2 (And.intro @fa38_3 (And.intro @fa66_0 (And.intro @fa66_1 (And.intro @fa66_2 (And.intro @fa66_3 (And.intro (fun a h=>conv_int (a:=a) (h:=h) u5 u3) (And.intro @aggC (And.intro @aggZ (And.intro @ex2_0 (And.intro @ex2_1 (And.intro @ex3_0 (And.intro @ex3_1 (And.intro @ex3_2 (@Nat.add_zero))))))))))))))))))))))))))))
/-! ### What is read, without the program -/
def endB (kind : Int) (r : List Nat) : Option (CellD × CellD × List Nat):=if kind = 1 then endN r else if kind = 2 then endT r else endW r
def openB : List Nat→Option (Int × List Bool × ZoneD × List Nat)
 | []=>none
 | kb :: r=>if ¬ (1 ≤ (kb : Int) ∧ (kb : Int) ≤ 3) then none else match getV r with
  | none=>none
  | some (l,n)=>if l.length = cnt l then some ((kb : Int),l,⟨l.length,cnt l,c0,c0⟩,r.drop n) else match endB (kb : Int) (r.drop n) with
   | none=>none
   | some (a,b,r2)=>if zoneE ⟨l.length,cnt l,a,b⟩ (kb : Int) = 0 then some ((kb : Int),l,⟨l.length,cnt l,a,b⟩,r2) else none
theorem getV_len {b : List Nat} {l : List Bool} {n : Nat} (h : getV b = some (l,n)) : n ≤ b.length:=by
 unfold getV at h
 split at h
 ·cases h
 ·split at h
  ·cases h
  ·split at h
   ·cases h
   ·split at h
    ·cases h
    ·split at h
     ·cases h
     ·split at h
      ·simp only [Option.some.injEq,Prod.mk.injEq] at h
       omega
      ·cases h
/-! ### The walk -/
def opL (kind : Int) (nv : Value) (z : ZoneD) (rv : Value) : List Value:=.int .i64 kind :: nv :: (zl z ++ [rv])
def Op (b : Nat) (kind : Int) (nv : Value) (z : ZoneD) (rv : Value) : Nat × AO:=(b,.cells (opL kind nv z rv) 66 true)
section
variable {n0 : Nat} {h0 h : AH} {L : List (Nat × AO)} {O : List OS}
structure Oat (h : AH) (b : Nat) (kind : Int) (nv : Value) (z : ZoneD) (rv : Value) : Prop where
 all : h.row b 0 11 = some (opL kind nv z rv)
 kind : h.cell b 0 = some (.int .i64 kind)
 zone : h.row b 2 8 = some (zl z)
 cnt : h.cell b 2 = some (.int .i64 z.cnt)
 nul : h.cell b 3 = some (.int .i64 z.nul)
theorem o_at {b : Nat} {kind : Int} {nv rv : Value} {z : ZoneD} (S : Stt Tryz.prog n0 h0 h L O) (i : Nat) (hi : L[i]? = some (Op b kind nv z rv)) : Oat h b kind nv z rv:=by
 have:=S.sta.mem.at_ hi
 exact ⟨(row_of this).trans rfl,(cell_of this).trans rfl,(row_of this).trans rfl,(cell_of this).trans rfl,(cell_of this).trans rfl⟩
theorem strB_bytes {r : List Nat} (hb : ∀ x ∈ r,x < 256) : ((strB r).data.toList.map fun b : UInt8=>(Value.int .u8 b.toNat)) = (u8rows r).flatten:=by
 rw [u8rows_flat]
 unfold strB
 rw [List.map_map]
 refine List.map_congr_left fun x hx=>?_
 have:=hb x hx
 simp [u8v,Nat.mod_eq_of_lt this]
theorem Tl.toBytes {β : Type} {Q : β→Prop} {r : List Nat} {K : Value × AH→Option β} (S : Stt Tryz.prog n0 h0 h L O) (hb : ∀ x ∈ r,x < 256) (hk : ∀ v h',Stt Tryz.prog n0 h0 h' L ((v,1,u8rows r) :: O)→Grow h h'→Tl (K (v,h')) Q) :
  Tl (Ev.bnd (pBytes Tryz.prog 9 33 (.string (strB r)) h) K) Q:=by
 have e : pBytes Tryz.prog 9 33 (.string (strB r)) h = some (.slice (some ⟨h.n,0,none⟩) (strB r).size (strB r).size,h.alloc (.cells ((strB r).data.toList.map fun b=>.int .u8 b.toNat) 5 true)):=by
  unfold pBytes
  simp only [el33,u9,u5,sz5]
 rw [e,strB_bytes hb,strB_size]
 have S1:=Stt.absorb (n:=1) (rows:=u8rows r) (S.alloc (.cells (u8rows r).flatten 5 true)) (fun q hq=>by obtain ⟨x,_,rfl⟩:=List.mem_map.1 hq; rfl) sz5
 rw [u8rows_len] at S1
 exact hk _ _ S1 (Grow.alloc _ _)
theorem idx0 {a : Nat} {r : List Nat} (ha : a < 256) : pIndex Tryz.prog 9 (.string (strB (a :: r))) (.int .i64 0) = some (.int .u8 (a : Int)):=by
 unfold pIndex
 simp only [u9]
 rw [if_pos (by omega)]
 have : (strB (a :: r))[(0 : Int).toNat]? = some (UInt8.ofNat a):=rfl
 rw [this]
 simp [Nat.mod_eq_of_lt ha]
theorem bdZd (p q : Int) : pBuild Tryz.prog 38 #[(0,.int .i64 p),(1,.int .i64 q)] = some (zv ⟨p,q,c0,c0⟩):=by kernel_rfl
theorem segends_c {k i br : Nat} {rv : Value} {rest : List Nat} {kind : Int} (hkd : 1 ≤ kind ∧ kind ≤ 3) (S : Stt Tryz.prog n0 h0 h L O) (hi : L[i]? = some (Rb br rv)) (R : RV L i rv rest) (hl : rest.length ≤ 2 ^ 30) (hb : ∀ x ∈ rest,x < 256) (hk : rest.length < k) :
  Tl (eInv env (k + 31) (.method "shadowbook/segment.ends") #[] #[codV kind, ptr br] h) fun r => ∃ (a b : CellD) (e : Int) (rv' : Value), r.1 = .tuple #[a.v, b.v, .int .i64 e] ∧ Stt Tryz.prog n0 h0 r.2 (L.set i (Rb br rv')) O ∧
   ((∃ rest',endB kind rest = some (a,b,rest') ∧ e = 0 ∧ RV (L.set i (Rb br rv')) i rv' rest') ∨ (endB kind rest = none ∧ e ≠ 0)):=by
 have h : kind = 1 ∨ kind = 2 ∨ kind = 3:=by omega
 rcases h with rfl | rfl | rfl
 ·exact endsN_c S hi R hl hb
 ·exact endsT_c S hi R hl hb
 ·exact endsW_c S hi R hl hb hk
/-- What 'open' answers. -/
def OpenQ (h : AH) (bs : List Nat) (r : Value × AH) : Prop :=
 (∃ kind l z rest nv rv,openB bs = some (kind,l,z,rest) ∧ r.1 = .tuple #[.agg (opL kind nv z rv).toArray,.int .i64 0] ∧ Stt Tryz.prog h.n h r.2 [] [(rv,1,u8rows rest),(nv,1,brows l)]) ∨
 (openB bs = none ∧ ∃ kind z a m c,r.1 = .tuple #[.agg (opL kind (.slice a m c) z (.slice none 0 0)).toArray,.int .i64 4] ∧ Grow h r.2)
/-- An opened one that may not be is told. -/
theorem open_bad {h0 h : AH} {L : List (Nat × AO)} {O : List OS} {bs : List Nat} {b : Nat} {kind : Int} {z : ZoneD} {a : Option Addr} {m c : Nat} (S : Stt Tryz.prog h0.n h0 h (Op b kind (.slice a m c) z (.slice none 0 0) :: L) O) (hn : openB bs = none) :
  Tl (Ev.bnd (pLoad Tryz.prog 66 (.pointer (some ⟨b,0,none⟩)) h) fun x=>Ev.bnd (kSt (pStore Tryz.prog 66 (.pointer (some ⟨b,0,none⟩)) x h)) fun u=>Ev.bnd (pLoad Tryz.prog 66 (.pointer (some ⟨b,0,none⟩)) u.2) fun q=>some (Value.tuple #[q,.int .i64 4],u.2)) fun r=>OpenQ h0 bs r:=by
 have r:=(o_at S 0 rfl).all
 repeat (first | (with_reducible apply qzV; simp (disch:=omega) only [coreA,Int.reduceBEq,bzS11,r] <;> with_reducible rfl) | (with_reducible first | apply qzT | apply qzF | apply qzG | apply qzH) | ((with_reducible first | apply qzB | apply qzC | apply qzD); simp (disch:=omega) only [coreA,Int.reduceBEq,bzS11,r] <;> with_reducible rfl))
 refine Tl.store' S 0 rfl sz66 rfl rfl (of_decide_eq_true rfl) fun h2 S2 _=>?_
 have S2 : Stt Tryz.prog h0.n h0 h2 (Op b kind (.slice a m c) z (.slice none 0 0) :: L) O:=S2
 have r2:=(o_at S2 0 rfl).all
 repeat (first | (with_reducible apply qzV; simp (disch:=omega) only [coreA,Int.reduceBEq,bzS11,r2] <;> with_reducible rfl) | (with_reducible first | apply qzT | apply qzF | apply qzG | apply qzH) | ((with_reducible first | apply qzB | apply qzC | apply qzD); simp (disch:=omega) only [coreA,Int.reduceBEq,bzS11,r2] <;> with_reducible rfl))
 exact ⟨_,rfl,.inr ⟨hn,kind,z,a,m,c,rfl,S2.grow⟩⟩
end
end Go.Proofs.YtghelamfaaakcaaGreat.Sh
/- What stands ahead of a segment's cells: 'open', the whole. -/
set_option linter.unusedVariables false
set_option linter.unusedSimpArgs false
set_option maxRecDepth 100000
namespace Go.Proofs.YtghelamfaaakcaaGreat.Sh
open Go Go.RowKit Go.Proofs.Ev Go.Lib
theorem bzS12 : type_of% (And.intro @ld3 (And.intro @ld2 (And.intro @ld9 (And.intro @ld4 (And.intro @ld31 (And.intro @ld38 (And.intro @ld66 (And.intro @ld33 (And.intro @ld32 (And.intro @fa31_0 (And.intro @fa31_1 (And.intro @fa31_2 (And.intro @fa38_0 (And.intro @fa38_1 (And.intro @fa38_2 (And.intro @fa38_3 (And.intro @fa66_0 (And.intro @fa66_1 (And.intro @fa66_2 (And.intro @fa66_3 (And.intro (fun a h=>conv_int (a:=a) (h:=h) u5 u3) (And.intro @aggC (And.intro @aggZ (And.intro @ex2_0 (And.intro @ex2_1 (And.intro @ex3_0 (And.intro @ex3_1 (And.intro @ex3_2 (@Nat.add_zero))))))))))))))))))))))))))))):=And.intro @ld3 (And.intro @ld2 (And.intro @ld9 (And.intro @ld4 (And.intro @ld31 (And.intro @ld38 (And.intro @ld66 (And.intro @ld33 (And.intro @ld32 (And.intro @fa31_0 (And.intro @fa31_1 (And.intro @fa31_2 (And.intro @fa38_0 (And.intro @fa38_1 (And.intro @fa38_2 (And.intro @fa38_3 (And.intro @fa66_0 (And.intro @fa66_1 (And.intro @fa66_2 (And.intro @fa66_3 (And.intro (fun a h=>conv_int (a:=a) (h:=h) u5 u3) (And.intro @aggC (And.intro @aggZ (And.intro @ex2_0 (And.intro @ex2_1 (And.intro @ex3_0 (And.intro @ex3_1 (And.intro @ex3_2 (@Nat.add_zero))))))))))))))))))))))))))))
theorem endB_len {kind : Int} {r r2 : List Nat} {a b : CellD} (h : endB kind r = some (a,b,r2)) : r2.length ≤ r.length:=by
 have key : ∀ {α : Type} (rd : List Nat→Option (α × List Nat)) (mk : α→CellD),(∀ r r1 x,rd r = some (x,r1)→r1.length ≤ r.length)→endG rd mk r = some (a,b,r2)→r2.length ≤ r.length:=by
  intro α rd mk hr h
  unfold endG at h
  cases e1 : rd r with
  | none=>rw [e1] at h; cases h
  | some x =>
   obtain ⟨x,r1⟩:=x
   rw [e1] at h
   simp only at h
   cases e2 : rd r1 with
   | none=>rw [e2] at h; cases h
   | some y =>
    obtain ⟨y,r3⟩:=y
    rw [e2] at h
    simp only [Option.some.injEq,Prod.mk.injEq] at h
    obtain ⟨_,_,rfl⟩:=h
    have:=hr _ _ _ e1
    have:=hr _ _ _ e2
    omega
 unfold endB at h
 split at h
 ·unfold endN at h
  exact key rdN mkN (fun _ _ _ q=>(rdN_sub q).1) h
 ·split at h
  ·unfold endT at h
   exact key rdT mkT (fun _ _ _ q=>(rdT_sub q).1) h
  ·unfold endW at h
   exact key rdW mkW (fun _ _ _ q=>(rdW_sub q).1) h
section
variable {n0 : Nat} {h0 h : AH} {L : List (Nat × AO)} {O : List OS}
theorem RV.swap1 {x x' y : Nat × AO} {b : Nat} {cs : List Value} {e : TypeId} {rv : Value} {rest : List Nat} (R : RV (x :: (b,.cells cs e true) :: L) 0 rv rest) (hs : szT Tryz.prog e ≠ some 1) : RV (x' :: y :: L) 0 rv rest:=by
 rcases R with R | ⟨j,bb,o,cs',e',h1,h2,h3,h4⟩
 ·exact .inl R
 ·rcases j with _ | _ | j
  ·exact absurd rfl h1
  ·simp only [List.getElem?_cons_zero,List.getElem?_cons_succ,Option.some.injEq,Prod.mk.injEq,AO.cells.injEq] at h2
   obtain ⟨_,_,rfl,_⟩:=h2
   exact absurd h3 hs
  ·exact .inr ⟨j + 2,bb,o,cs',e',by omega,by simpa using h2,h3,h4⟩
theorem dropAll : ∀ {L : List (Nat × AO)},Stt Tryz.prog n0 h0 h L O→Stt Tryz.prog n0 h0 h [] O
 | [],S=>S
 | _ :: _,S=>dropAll S.drop
/-- The rest. -/
theorem open_fin {k : Nat} {bs : List Nat} {b br : Nat} {kind : Int} {z : ZoneD} {l : List Bool} {rest : List Nat} {rv nv x y : Value} {r1 r2 : List (List Value)} (S : Stt Tryz.prog h0.n h0 h (Rb br rv :: Op b kind nv z (.slice none 0 0) :: L) [(x,1,r1),(nv,1,brows l),(y,1,r2)])
  (R : RV (Rb br rv :: Op b kind nv z (.slice none 0 0) :: L) 0 rv rest) (hl : rest.length ≤ 2 ^ 30) (ho : openB bs = some (kind,l,z,rest)) :
  Tl (Ev.bnd (eInv env (k + 10) (.func 61) #[] #[ptr br] h) fun x78=>Ev.bnd (eInv env (k + 10) (.func 60) #[] #[ptr br,x78.1] x78.2) fun x79=>Ev.bnd (pExtract x79.1 0) fun x80=>Ev.bnd (pExtract x79.1 1) fun x81 =>
   Ev.bnd (pFieldAddr Tryz.prog 66 (.pointer (some ⟨b,0,none⟩)) 3) fun x82=>Ev.bnd (kSt (pStore Tryz.prog 33 x82 x80 x79.2)) fun u_8=>Ev.bnd (pLoad Tryz.prog 66 (.pointer (some ⟨b,0,none⟩)) u_8.2) fun x83 =>
   Ev.bnd (kSt (pStore Tryz.prog 66 (.pointer (some ⟨b,0,none⟩)) x83 u_8.2)) fun u_9=>Ev.bnd (pLoad Tryz.prog 66 (.pointer (some ⟨b,0,none⟩)) u_9.2) fun q0=>some (Value.tuple #[q0,x81],u_9.2)) fun r=>OpenQ h0 bs r:=by
 have e1:=f61c (k:=k + 9) S (i:=0) rfl R
 repeat (first | (with_reducible apply qzV; simp (disch:=omega) only [coreA,Int.reduceBEq,bzS12,e1] <;> with_reducible rfl) | (with_reducible first | apply qzT | apply qzF | apply qzG | apply qzH) | ((with_reducible first | apply qzB | apply qzC | apply qzD); simp (disch:=omega) only [coreA,Int.reduceBEq,bzS12,e1] <;> with_reducible rfl))
 refine Tl.bind (f60c (k:=k + 7) S (i:=0) rfl R (n:=rest.length) (Nat.le_refl _) hl) ?_
 rintro ⟨r,h1⟩ ⟨v',rv',er,S1,R1⟩
 simp only at er S1
 subst er
 rw [List.take_length] at S1
 have S1 : Stt Tryz.prog h0.n h0 h1 (Rb br rv' :: Op b kind nv z (.slice none 0 0) :: L) [(v',1,u8rows rest),(x,1,r1),(nv,1,brows l),(y,1,r2)]:=S1
 obtain ⟨a,c,eo,_⟩:=(S1.slV 0 rfl).form
 subst eo
 obtain ⟨a2,c2,eo2,_⟩:=(S1.slV 2 rfl).form
 subst eo2
 repeat (first | (with_reducible apply qzV; simp (disch:=omega) only [coreA,Int.reduceBEq,bzS12] <;> with_reducible rfl) | (with_reducible first | apply qzT | apply qzF | apply qzG | apply qzH) | ((with_reducible first | apply qzB | apply qzC | apply qzD); simp (disch:=omega) only [coreA,Int.reduceBEq,bzS12] <;> with_reducible rfl))
 refine Tl.store' S1 1 rfl sz33 rfl rfl (of_decide_eq_true rfl) fun h2 S2 _=>?_
 have S2 : Stt Tryz.prog h0.n h0 h2 (Rb br rv' :: Op b kind (.slice a2 (brows l).length c2) z (.slice a (u8rows rest).length c) :: L) [(.slice a (u8rows rest).length c,1,u8rows rest),(x,1,r1),(.slice a2 (brows l).length c2,1,brows l),(y,1,r2)]:=S2
 have q2:=(o_at S2 1 rfl).all
 repeat (first | (with_reducible apply qzV; simp (disch:=omega) only [coreA,Int.reduceBEq,bzS12,q2] <;> with_reducible rfl) | (with_reducible first | apply qzT | apply qzF | apply qzG | apply qzH) | ((with_reducible first | apply qzB | apply qzC | apply qzD); simp (disch:=omega) only [coreA,Int.reduceBEq,bzS12,q2] <;> with_reducible rfl))
 refine Tl.store' S2 1 rfl sz66 rfl rfl (of_decide_eq_true rfl) fun h3 S3 _=>?_
 have S3 : Stt Tryz.prog h0.n h0 h3 (Rb br rv' :: Op b kind (.slice a2 (brows l).length c2) z (.slice a (u8rows rest).length c) :: L) [(.slice a (u8rows rest).length c,1,u8rows rest),(x,1,r1),(.slice a2 (brows l).length c2,1,brows l),(y,1,r2)]:=S3
 have q3:=(o_at S3 1 rfl).all
 repeat (first | (with_reducible apply qzV; simp (disch:=omega) only [coreA,Int.reduceBEq,bzS12,q3] <;> with_reducible rfl) | (with_reducible first | apply qzT | apply qzF | apply qzG | apply qzH) | ((with_reducible first | apply qzB | apply qzC | apply qzD); simp (disch:=omega) only [coreA,Int.reduceBEq,bzS12,q3] <;> with_reducible rfl))
 exact ⟨_,rfl,.inl ⟨kind,l,z,rest,_,_,ho,rfl,(dropAll S3).keepO (.cons_cons _ (.cons _ (.cons_cons _ (List.nil_sublist _))))⟩⟩
end
theorem f36c {k : Nat} {h : AH} {bs : List Nat} (hb : ∀ x ∈ bs,x < 256) (hl : bs.length ≤ 2 ^ 19) (hk : 7000 + bs.length < k) :
  Tl (eInv env (k + 2000) (.func 36) #[] #[.string (strB bs)] h) fun r=>OpenQ h bs r:=by
 rw [F36_call]
 unfold F36
 refine Tl.alloc' (Stt.init h) ze66 rfl fun b h1 S1 _=>?_
 have S1 : Stt Tryz.prog h.n h h1 [Op b 0 (.slice none 0 0) z0 (.slice none 0 0)] []:=S1
 have es : ∀ x y,pBin Tryz.prog .eql 9 x y (.string (strB bs)) (.string { data:=#[] }) = some (.bool (decide (bs.length = 0))):=fun x y=>by rw [str0,strB_size]
 cases bs with
 | nil =>
  have e0 : decide (([] : List Nat).length = 0) = true:=rfl
  repeat (first | (with_reducible apply qzV; simp (disch:=omega) only [coreA,Int.reduceBEq,bzS12,es,e0] <;> with_reducible rfl) | (with_reducible first | apply qzT | apply qzF | apply qzG | apply qzH) | ((with_reducible first | apply qzB | apply qzC | apply qzD); simp (disch:=omega) only [coreA,Int.reduceBEq,bzS12,es,e0] <;> with_reducible rfl))
  exact open_bad S1 rfl
 | cons a r =>
  have ha : a < 256:=hb a (List.mem_cons_self ..)
  have hbr : ∀ x ∈ r,x < 256:=fun x hx=>hb x (List.mem_cons_of_mem _ hx)
  rw [List.length_cons] at hl hk
  have e0 : decide ((a :: r).length = 0) = false:=by simp
  have i0:=idx0 (r:=r) ha
  repeat (first | (with_reducible apply qzV; simp (disch:=omega) only [coreA,Int.reduceBEq,bzS12,es,e0,i0] <;> with_reducible rfl) | (with_reducible first | apply qzT | apply qzF | apply qzG | apply qzH) | ((with_reducible first | apply qzB | apply qzC | apply qzD); simp (disch:=omega) only [coreA,Int.reduceBEq,bzS12,es,e0,i0] <;> with_reducible rfl))
  refine Tl.store' S1 0 rfl sz3 rfl rfl (of_decide_eq_true rfl) fun h2 S2 _=>?_
  have S2 : Stt Tryz.prog h.n h h2 [Op b (a : Int) (.slice none 0 0) z0 (.slice none 0 0)] []:=S2
  have k2:=(o_at S2 0 rfl).kind
  repeat (first | (with_reducible apply qzV; simp (disch:=omega) only [coreA,Int.reduceBEq,bzS12,k2] <;> with_reducible rfl) | (with_reducible first | apply qzT | apply qzF | apply qzG | apply qzH) | ((with_reducible first | apply qzB | apply qzC | apply qzD); simp (disch:=omega) only [coreA,Int.reduceBEq,bzS12,k2] <;> with_reducible rfl))
  with_reducible refine Tl.call' S2 (f28c (k:=k + 1997) (a : Int) h2) fun h3 S3 _=>?_
  by_cases p : ¬ (1 ≤ (a : Int) ∧ (a : Int) ≤ 3)
  ·rw [codV_none p]
   repeat (first | (with_reducible apply qzV; simp (disch:=omega) only [coreA,Int.reduceBEq,bzS12,codNone] <;> with_reducible rfl) | (with_reducible first | apply qzT | apply qzF | apply qzG | apply qzH) | ((with_reducible first | apply qzB | apply qzC | apply qzD); simp (disch:=omega) only [coreA,Int.reduceBEq,bzS12,codNone] <;> with_reducible rfl))
   exact open_bad S3 (by simp only [openB]; rw [if_pos p])
  have p2 : 1 ≤ (a : Int) ∧ (a : Int) ≤ 3:=Classical.not_not.1 p
  have cs:=fun x=>codSome p2 (a:=x)
  have c1 : pSlice Tryz.prog 9 (.string (strB (a :: r))) (some (.int .i64 1)) none none h3 = some (.string (strB r)):=cut_lo (l:=a :: r) (a:=1) (by simp) h3
  repeat (first | (with_reducible apply qzV; simp (disch:=omega) only [coreA,Int.reduceBEq,bzS12,cs,c1] <;> with_reducible rfl) | (with_reducible first | apply qzT | apply qzF | apply qzG | apply qzH) | ((with_reducible first | apply qzB | apply qzC | apply qzD); simp (disch:=omega) only [coreA,Int.reduceBEq,bzS12,cs,c1] <;> with_reducible rfl))
  refine Tl.toBytes S3 hbr fun bv1 h4 S4 g4=>?_
  refine Tl.bind (f56c (k:=k + 999) (S4.sl1 (f:=u8v) 0 rfl) hbr (by omega) (by omega)) ?_
  rintro ⟨r5,h5⟩ (⟨l,n,lv,hg,hl4,er,g5,X⟩ | ⟨hg,er,g5⟩)
  ·simp only at er g5 X
   subst er
   have S5:=S4.gain g5 X
   obtain ⟨la,lc,eo,_⟩:=(X.slV).form
   subst eo
   repeat (first | (with_reducible apply qzV; simp (disch:=omega) only [coreA,Int.reduceBEq,bzS12] <;> with_reducible rfl) | (with_reducible first | apply qzT | apply qzF | apply qzG | apply qzH) | ((with_reducible first | apply qzB | apply qzC | apply qzD); simp (disch:=omega) only [coreA,Int.reduceBEq,bzS12] <;> with_reducible rfl))
   refine Tl.store' S5 0 rfl sz32 rfl rfl (of_decide_eq_true rfl) fun h6 S6 _=>?_
   have S6 : Stt Tryz.prog h.n h h6 [Op b (a : Int) (.slice la (brows l).length lc) z0 (.slice none 0 0)] [(.slice la (brows l).length lc,1,brows l),(bv1,1,u8rows r)]:=S6
   have B6 : Bools h6 (.slice la (brows l).length lc) l:=S6.sl1 (f:=bv) 0 rfl
   have ll : ∀ h',pLen Tryz.prog #[32] (.slice la (brows l).length lc) h' = some (.int .i64 l.length):=fun h'=>Sl1.len B6 u32
   have cc:=f57c (k:=k + 1997) B6 (by omega) (by omega)
   repeat (first | (with_reducible apply qzV; simp (disch:=omega) only [coreA,Int.reduceBEq,bzS12,ll,cc,bdZd] <;> with_reducible rfl) | (with_reducible first | apply qzT | apply qzF | apply qzG | apply qzH) | ((with_reducible first | apply qzB | apply qzC | apply qzD); simp (disch:=omega) only [coreA,Int.reduceBEq,bzS12,ll,cc,bdZd] <;> with_reducible rfl))
   refine Tl.store' S6 0 rfl sz38 rfl rfl (of_decide_eq_true rfl) fun h7 S7 _=>?_
   have S7 : Stt Tryz.prog h.n h h7 [Op b (a : Int) (.slice la (brows l).length lc) ⟨l.length,cnt l,c0,c0⟩ (.slice none 0 0)] [(.slice la (brows l).length lc,1,brows l),(bv1,1,u8rows r)]:=S7
   have hn:=getV_len hg
   have c2 : pSlice Tryz.prog 9 (.string (strB (a :: r))) (some (.int .i64 (1 + (n : Int)))) none none h7 = some (.string (strB (r.drop n))):=by
    have:=cut_lo (l:=a :: r) (a:=1 + n) (by simp; omega) h7
    rw [show ((1 + n : Nat) : Int) = 1 + (n : Int) by omega,show (a :: r).drop (1 + n) = r.drop n by rw [Nat.add_comm,List.drop_succ_cons]] at this
    exact this
   repeat (first | (with_reducible apply qzV; simp (disch:=omega) only [coreA,Int.reduceBEq,bzS12,c2] <;> with_reducible rfl) | (with_reducible first | apply qzT | apply qzF | apply qzG | apply qzH) | ((with_reducible first | apply qzB | apply qzC | apply qzD); simp (disch:=omega) only [coreA,Int.reduceBEq,bzS12,c2] <;> with_reducible rfl))
   have hbd : ∀ x ∈ r.drop n,x < 256:=fun x hx=>hbr x (List.mem_of_mem_drop hx)
   have hld : (r.drop n).length ≤ r.length:=by rw [List.length_drop]; omega
   refine Tl.toBytes S7 hbd fun bv2 h8 S8 g8=>?_
   refine Tl.bind (f58c (k:=k + 1997) S8 (S8.sl1 (f:=u8v) 0 rfl) (by omega)) ?_
   rintro ⟨x9,h9⟩ ⟨br,rv,L',er,S9,R9,g9⟩
   simp only at er S9 g9
   subst er
   have S9 : Stt Tryz.prog h.n h h9 (Rb br rv :: Op b (a : Int) (.slice la (brows l).length lc) ⟨l.length,cnt l,c0,c0⟩ (.slice none 0 0) :: L') [(bv2,1,u8rows (r.drop n)),(.slice la (brows l).length lc,1,brows l),(bv1,1,u8rows r)]:=S9
   have R9 : RV (Rb br rv :: Op b (a : Int) (.slice la (brows l).length lc) ⟨l.length,cnt l,c0,c0⟩ (.slice none 0 0) :: L') 0 rv (r.drop n):=R9
   obtain ⟨_,_,_,ct,nl⟩:=o_at S9 1 rfl
   have hcl:=cnt_le l
   repeat (first | (with_reducible apply qzV; simp (disch:=omega) only [coreA,Int.reduceBEq,bzS12,ct,nl] <;> with_reducible rfl) | (with_reducible first | apply qzT | apply qzF | apply qzG | apply qzH) | ((with_reducible first | apply qzB | apply qzC | apply qzD); simp (disch:=omega) only [coreA,Int.reduceBEq,bzS12,ct,nl] <;> with_reducible rfl))
   unfold F36_rlrrrrrrrrrr
   by_cases q : l.length = cnt l
   ·repeat (first | (with_reducible apply qzV; simp (disch:=omega) only [coreA,Int.reduceBEq,bzS12] <;> with_reducible rfl) | (with_reducible first | apply qzT | apply qzF | apply qzG | apply qzH) | ((with_reducible first | apply qzB | apply qzC | apply qzD); simp (disch:=omega) only [coreA,Int.reduceBEq,bzS12] <;> with_reducible rfl))
    exact open_fin (k:=k + 1989) S9 R9 (by omega) (by simp only [openB]; rw [if_neg p,hg]; simp only; rw [if_pos q])
   ·repeat (first | (with_reducible apply qzV; simp (disch:=omega) only [coreA,Int.reduceBEq,bzS12] <;> with_reducible rfl) | (with_reducible first | apply qzT | apply qzF | apply qzG | apply qzH) | ((with_reducible first | apply qzB | apply qzC | apply qzD); simp (disch:=omega) only [coreA,Int.reduceBEq,bzS12] <;> with_reducible rfl))
    refine Tl.bind (segends_c (k:=k + 1968) p2 S9 (i:=0) rfl R9 (by omega) hbd (by omega)) ?_
    rintro ⟨x10,h10⟩ ⟨c,d,e,rv2,er,S10,hq⟩
    simp only at er S10
    subst er
    have S10 : Stt Tryz.prog h.n h h10 (Rb br rv2 :: Op b (a : Int) (.slice la (brows l).length lc) ⟨l.length,cnt l,c0,c0⟩ (.slice none 0 0) :: L') [(bv2,1,u8rows (r.drop n)),(.slice la (brows l).length lc,1,brows l),(bv1,1,u8rows r)]:=S10
    repeat (first | (with_reducible apply qzV; simp (disch:=omega) only [coreA,Int.reduceBEq,bzS12] <;> with_reducible rfl) | (with_reducible first | apply qzT | apply qzF | apply qzG | apply qzH) | ((with_reducible first | apply qzB | apply qzC | apply qzD); simp (disch:=omega) only [coreA,Int.reduceBEq,bzS12] <;> with_reducible rfl))
    refine Tl.store' S10 1 rfl sz31 rfl rfl (of_decide_eq_true rfl) fun h11 S11 _=>?_
    have S11 : Stt Tryz.prog h.n h h11 (Rb br rv2 :: Op b (a : Int) (.slice la (brows l).length lc) ⟨l.length,cnt l,c,c0⟩ (.slice none 0 0) :: L') [(bv2,1,u8rows (r.drop n)),(.slice la (brows l).length lc,1,brows l),(bv1,1,u8rows r)]:=S11
    repeat (first | (with_reducible apply qzV; simp (disch:=omega) only [coreA,Int.reduceBEq,bzS12] <;> with_reducible rfl) | (with_reducible first | apply qzT | apply qzF | apply qzG | apply qzH) | ((with_reducible first | apply qzB | apply qzC | apply qzD); simp (disch:=omega) only [coreA,Int.reduceBEq,bzS12] <;> with_reducible rfl))
    refine Tl.store' S11 1 rfl sz31 rfl rfl (of_decide_eq_true rfl) fun h12 S12 _=>?_
    have S12 : Stt Tryz.prog h.n h h12 (Rb br rv2 :: Op b (a : Int) (.slice la (brows l).length lc) ⟨l.length,cnt l,c,d⟩ (.slice none 0 0) :: L') [(bv2,1,u8rows (r.drop n)),(.slice la (brows l).length lc,1,brows l),(bv1,1,u8rows r)]:=S12
    obtain ⟨_,kd,zn,_,_⟩:=o_at S12 1 rfl
    rcases hq with ⟨r2,he,e0',R10⟩ | ⟨he,e0'⟩
    ·subst e0'
     repeat (first | (with_reducible apply qzV; simp (disch:=omega) only [coreA,Int.reduceBEq,bzS12,kd,zn] <;> with_reducible rfl) | (with_reducible first | apply qzT | apply qzF | apply qzG | apply qzH) | ((with_reducible first | apply qzB | apply qzC | apply qzD); simp (disch:=omega) only [coreA,Int.reduceBEq,bzS12,kd,zn] <;> with_reducible rfl))
     with_reducible refine Tl.call' S12 (f59c (k:=k + 1986) ⟨l.length,cnt l,c,d⟩ (a : Int) h12 p2.1 p2.2 (by simp only; omega) (by simp only; omega)) fun h13 S13 _=>?_
     by_cases qz : zoneE ⟨l.length,cnt l,c,d⟩ (a : Int) = 0
     ·repeat (first | (with_reducible apply qzV; simp (disch:=omega) only [coreA,Int.reduceBEq,bzS12] <;> with_reducible rfl) | (with_reducible first | apply qzT | apply qzF | apply qzG | apply qzH) | ((with_reducible first | apply qzB | apply qzC | apply qzD); simp (disch:=omega) only [coreA,Int.reduceBEq,bzS12] <;> with_reducible rfl))
      refine open_fin (k:=k + 1989) S13 (R10.swap1 (by rw [sz66]; decide)) ?_ ?_
      ·have h1 : r2.length ≤ (r.drop n).length:=endB_len he
       omega
      ·simp only [openB]
       rw [if_neg p,hg]
       simp only
       rw [if_neg q,he]
       simp only
       rw [if_pos qz]
     ·repeat (first | (with_reducible apply qzV; simp (disch:=omega) only [coreA,Int.reduceBEq,bzS12] <;> with_reducible rfl) | (with_reducible first | apply qzT | apply qzF | apply qzG | apply qzH) | ((with_reducible first | apply qzB | apply qzC | apply qzD); simp (disch:=omega) only [coreA,Int.reduceBEq,bzS12] <;> with_reducible rfl))
      refine open_bad S13.drop ?_
      simp only [openB]
      rw [if_neg p,hg]
      simp only
      rw [if_neg q,he]
      simp only
      rw [if_neg qz]
    ·repeat (first | (with_reducible apply qzV; simp (disch:=omega) only [coreA,Int.reduceBEq,bzS12] <;> with_reducible rfl) | (with_reducible first | apply qzT | apply qzF | apply qzG | apply qzH) | ((with_reducible first | apply qzB | apply qzC | apply qzD); simp (disch:=omega) only [coreA,Int.reduceBEq,bzS12] <;> with_reducible rfl))
     refine open_bad S12.drop ?_
     simp only [openB]
     rw [if_neg p,hg]
     simp only
     rw [if_neg q,he]
  ·simp only at er g5
   subst er
   have S5:=S4.call g5
   repeat (first | (with_reducible apply qzV; simp (disch:=omega) only [coreA,Int.reduceBEq,bzS12] <;> with_reducible rfl) | (with_reducible first | apply qzT | apply qzF | apply qzG | apply qzH) | ((with_reducible first | apply qzB | apply qzC | apply qzD); simp (disch:=omega) only [coreA,Int.reduceBEq,bzS12] <;> with_reducible rfl))
   exact open_bad S5 (by simp only [openB]; rw [if_neg p,hg])
end Go.Proofs.YtghelamfaaakcaaGreat.Sh
/- Flags that are put are got. No program's step in sight. -/
set_option linter.unusedVariables false
set_option linter.unusedSimpArgs false
set_option maxRecDepth 100000
namespace Go.Proofs.YtghelamfaaakcaaGreat.Sh
open Go Go.RowKit Go.Proofs.Ev
theorem cnt_zero {l : List Bool} (h : cnt l = 0) : l = List.replicate l.length false:=by
 refine List.eq_replicate_iff.2 ⟨rfl,fun b hb=>?_⟩
 have:=List.count_eq_zero.1 h
 cases b
 ·rfl
 ·exact absurd hb this
theorem cnt_all {l : List Bool} (h : cnt l = l.length) : l = List.replicate l.length true:=by
 refine List.eq_replicate_iff.2 ⟨rfl,fun b hb=>?_⟩
 exact (List.count_eq_length.1 h b hb).symm
theorem mid_put (l : List Bool) (b : List Nat) (hl : l.length ≤ 4096) : mid l.length (formN l) ((if formN l = 2 then putN 1 (l.map b2n) else []) ++ b) = some (l,b):=by
 unfold mid
 by_cases q : formN l = 2
 ·simp only [if_pos q]
  have hs : szV l.length = (putN 1 (l.map b2n)).length:=by
   have:=(putN_spec 1 (l.map b2n)).2.1
   rw [List.length_map] at this
   unfold szV Pk.sizeN
   omega
  obtain ⟨t1,t2⟩:=Pk.there (l:=l.map b2n) (W:=1) (by simp; omega) (by omega) (b2n_width l)
  rw [List.length_map] at t1 t2
  have e1 : ((1 : Nat) : Int) = 1:=rfl
  rw [e1] at t1 t2
  rw [if_neg (by simp; omega),hs,List.take_left' rfl,if_neg (fun h=>h t1),t2,List.drop_left' rfl,List.map_map]
  congr 2
  conv=>rhs; rw [← List.map_id l]
  refine List.map_congr_left fun x _=>?_
  cases x <;> rfl
 ·simp only [if_neg q,List.nil_append]
  unfold formN at q ⊢
  by_cases c0 : cnt l = 0
  ·rw [if_pos c0]
   congr 2
   exact (cnt_zero c0).symm
  ·rw [if_neg c0] at q ⊢
   by_cases c1 : cnt l = l.length
   ·rw [if_pos c1]
    congr 2
    exact (cnt_all c1).symm
   ·rw [if_neg c1] at q
    exact absurd rfl q
theorem get_put (l : List Bool) (b : List Nat) (hl : l.length ≤ 4096) : getV (putV l ++ b) = some (l,(putV l).length):=by
 have hd : dec 0 0 (putV l ++ b) = some (l.length,formN l :: ((if formN l = 2 then putN 1 (l.map b2n) else []) ++ b)):=by
  have:=dec_pvar ((formN l :: (if formN l = 2 then putN 1 (l.map b2n) else [])) ++ b) l.length (i:=0) (acc:=0) (.inl rfl) (by simp; omega)
  unfold putV
  rw [List.append_assoc,this]
  simp
 unfold getV
 rw [hd]
 simp only
 have hf:=formN_le l
 rw [if_neg (by omega),if_neg (by omega),mid_put l b hl]
 simp only [List.length_append]
 have e : (putV l).length + b.length - b.length = (putV l).length:=by omega
 rw [e,List.take_left' rfl,if_pos rfl]
end Go.Proofs.YtghelamfaaakcaaGreat.Sh
/- Segments that are put are read: zones. What 'Zone' comes to. -/
set_option linter.unusedVariables false
set_option linter.unusedSimpArgs false
set_option maxRecDepth 100000
namespace Go.Proofs.YtghelamfaaakcaaGreat.Sh
open Go Go.RowKit Go.Proofs.Ev Go.Lib
theorem bzS13 : type_of% (And.intro @ld3 (And.intro @ld2 (And.intro @ld9 (And.intro @ld4 (And.intro @ld31 (And.intro @ld38 (And.intro @ld66 (And.intro @fa38_0 (And.intro @fa38_1 (And.intro @fa38_2 (And.intro @fa38_3 (And.intro @fa66_0 (And.intro @fa66_1 (And.intro @fa66_2 (And.intro @fa66_3 (And.intro @aggC (And.intro @aggZ (And.intro @ex2_0 (And.intro @ex2_1 (And.intro @ex3_0 (And.intro @ex3_1 (And.intro @ex3_2 (@Nat.add_zero))))))))))))))))))))))):=And.intro @ld3 (And.intro @ld2 (And.intro @ld9 (And.intro @ld4 (And.intro @ld31 (And.intro @ld38 (And.intro @ld66 (And.intro @fa38_0 (And.intro @fa38_1 (And.intro @fa38_2 (And.intro @fa38_3 (And.intro @fa66_0 (And.intro @fa66_1 (And.intro @fa66_2 (And.intro @fa66_3 (And.intro @aggC (And.intro @aggZ (And.intro @ex2_0 (And.intro @ex2_1 (And.intro @ex3_0 (And.intro @ex3_1 (And.intro @ex3_2 (@Nat.add_zero))))))))))))))))))))))
def i64in (z : Int) : Prop:=-9223372036854775808 ≤ z ∧ z ≤ 9223372036854775807
/-! ### A value that is put is read -/
theorem rdN_put {c : CellD} (hi : i64in c.i) (r : List Nat) : rdN (oneN c ++ r) = some (c.i,r):=by
 unfold rdN oneN
 have hl:=le_len (toU c.i) 8 0
 rw [if_neg (by rw [List.length_append,hl]; omega),List.take_left' hl,List.drop_left' hl,ofB_le]
 have h256 : (256 : Nat) ^ 8 = 18446744073709551616:=by decide
 have hlt:=toU_lt c.i
 simp only [Nat.mul_zero,Nat.pow_zero,Nat.div_one,h256,Nat.mod_eq_of_lt hlt]
 unfold i64in at hi
 rw [wrap_i64']
 unfold toU
 congr 2
 split <;> omega
theorem rdT_put {c : CellD} (r : List Nat) : rdT (oneT c ++ r) = some (toU c.i % 256,r):=by
 unfold rdT oneT
 rw [if_neg (by simp)]
 simp [ofB]
theorem rdW_put {c : CellD} (hs : c.s.size ≤ 65536) (r : List Nat) : rdW (oneW c ++ r) = some (c.s,r):=by
 unfold rdW oneW
 rw [List.append_assoc,dec_pvar _ c.s.size (i:=0) (acc:=0) (.inl rfl) (by simp; omega)]
 simp only [Nat.zero_add,Nat.mul_zero,Nat.pow_zero,Nat.mul_one]
 rw [if_neg (by omega),if_neg (by rw [List.length_append,bytesN_len]; omega),List.take_left' (bytesN_len _),List.drop_left' (bytesN_len _)]
 have e : strB (bytesN c.s) = c.s:=by
  unfold strB bytesN
  rw [List.map_map]
  have e : (UInt8.ofNat ∘ UInt8.toNat) = id:=funext fun x=>by simp
  rw [e,List.map_id]
 rw [e]
theorem mkN_good {c : CellD} (h : goodC 1 c) : mkN c.i = c:=by
 have hb:=cellE_bare h.2
 unfold bare at hb
 rw [if_neg (by rw [h.1]; decide),if_pos h.1,h.1] at hb
 exact hb
theorem mkT_good {c : CellD} (h : goodC 2 c) : mkT (toU c.i % 256) = c:=by
 have h01:=good_bool h
 have hb:=cellE_bare h.2
 unfold bare at hb
 rw [if_neg (by rw [h.1]; decide),if_neg (by rw [h.1]; decide),if_pos h.1,h.1] at hb
 have hs : (.empty : ByteArray) = c.s:=congrArg CellD.s hb
 unfold mkT
 have e : IntKind.i64.wrap ((toU c.i % 256 : Nat) : Int) = c.i:=by rcases h01 with e | e <;> rw [e] <;> decide
 rw [e]
 have hbs : c.bytes = ByteArray.empty.data.toList:=by unfold CellD.bytes; rw [← hs]
 exact CellD.ext' h.1.symm rfl hbs.symm
theorem mkW_good {c : CellD} (h : goodC 3 c) : mkW c.s = c:=by
 have hb:=cellE_bare h.2
 unfold bare at hb
 rw [if_neg (by rw [h.1]; decide),if_neg (by rw [h.1]; decide),if_neg (by rw [h.1]; decide),h.1] at hb
 exact hb
theorem endB_put {kind : Int} (hk : 1 ≤ kind ∧ kind ≤ 3) {a b : CellD} (ha : goodC kind a) (hb : goodC kind b) (ia : i64in a.i) (ib : i64in b.i) (r : List Nat) : endB kind (oneB kind a ++ oneB kind b ++ r) = some (a,b,r):=by
 have h : kind = 1 ∨ kind = 2 ∨ kind = 3:=by omega
 rw [List.append_assoc]
 rcases h with rfl | rfl | rfl
 ·show endG rdN mkN (oneN a ++ (oneN b ++ r)) = _
  unfold endG
  simp only [rdN_put ia,rdN_put ib,mkN_good ha,mkN_good hb]
 ·show endG rdT mkT (oneT a ++ (oneT b ++ r)) = _
  unfold endG
  simp only [rdT_put,mkT_good ha,mkT_good hb]
 ·show endG rdW mkW (oneW a ++ (oneW b ++ r)) = _
  unfold endG
  simp only [rdW_put (cellE_size ha.2),rdW_put (cellE_size hb.2),mkW_good ha,mkW_good hb]
theorem cnt_flg (l : List CellD) : cnt (flg l) + (vals l).length = l.length:=by
 unfold cnt flg vals
 induction l with
 | nil=>rfl
 | cons c l ih =>
  rw [List.map_cons,List.count_cons,List.filter_cons,List.length_cons]
  by_cases q : c.k = 0
  ·simp [q]; omega
  ·simp [q]; omega
def restB (kind : Int) (l : List CellD) : List Nat:=if l = [] then [] else cellsB kind l
theorem open_put {kind : Int} {l : List CellD} (h : segE kind l = 0) (hi : ∀ c ∈ l,i64in c.i) (b : List Nat) : openB (segB kind l ++ b) = some (kind,flg l,ofZ l,restB kind (vals l) ++ b):=by
 obtain ⟨hk,hl,hall⟩:=segE_zero.1 h
 have hg:=good_vals hall
 have hkn : ((kind.toNat : Nat) : Int) = kind:=by omega
 have hfl : (flg l).length = l.length:=List.length_map ..
 have hc:=cnt_flg l
 have e : segB kind l ++ b = kind.toNat :: (putV (flg l) ++ (tailB kind (vals l) ++ b)):=by unfold segB; simp
 rw [e,openB,hkn,if_neg (fun q=>q hk),get_put _ _ (by omega)]
 simp only [List.drop_left]
 have ez:=ofZ_rep l (by omega)
 by_cases q : vals l = []
 ·have hz : ofZ l = ⟨(flg l).length,cnt (flg l),c0,c0⟩:=by
   rw [ez,q]
   rw [q] at hc
   simp only [List.length_nil,Nat.add_zero] at hc
   unfold repZ
   rw [hfl,hc]
   simp [mnL,mxL]
  rw [q] at hc
  simp only [List.length_nil,Nat.add_zero] at hc
  rw [if_pos (by omega),hz]
  unfold restB tailB
  rw [if_pos q,if_pos q]
 ·have hvl : 0 < (vals l).length:=List.length_pos_iff.2 q
  rw [if_neg (by omega)]
  obtain ⟨m1,m2⟩:=mn_mem (l:=vals l) (by omega) vals_ne q
  have evv : vals (vals l) = vals l:=vals_self vals_ne
  have ezv:=ofZ_rep (vals l) (by omega)
  rw [evv] at ezv
  have emn : (ofZ (vals l)).mn = (ofZ l).mn:=by rw [ez,ezv]; rfl
  have emx : (ofZ (vals l)).mx = (ofZ l).mx:=by rw [ez,ezv]; rfl
  have hmem : ∀ c ∈ vals l,c ∈ l:=fun c hc=>(List.mem_filter.1 hc).1
  have et : tailB kind (vals l) ++ b = oneB kind (ofZ l).mn ++ oneB kind (ofZ l).mx ++ (cellsB kind (vals l) ++ b):=by
   unfold tailB
   rw [if_neg q,emn,emx]
   simp
  rw [emn] at m1
  rw [emx] at m2
  rw [et,endB_put hk (hg _ m1) (hg _ m2) (hi _ (hmem _ m1)) (hi _ (hmem _ m2))]
  have hz : ofZ l = ⟨(flg l).length,cnt (flg l),(ofZ l).mn,(ofZ l).mx⟩:=by
   rw [ez]
   unfold repZ
   rw [hfl]
   congr 1
   omega
  have hle : (ofZ l).mn.cmp (ofZ l).mx ≤ 0:=by
   rw [ez]
   exact (mnL_spec q).2 _ (mxL_spec q).1
  simp only
  rw [← hz,if_pos (zoneE_zero.2 ⟨(hg _ m1).1,(hg _ m2).1,(hg _ m1).2,(hg _ m2).2,hle⟩)]
  unfold restB
  rw [if_neg q]
/-! ### 'Zone' -/
theorem f15c {k : Nat} {h : AH} {bs : List Nat} (hb : ∀ x ∈ bs,x < 256) (hl : bs.length ≤ 2 ^ 19) (hk : 7000 + bs.length < k) :
  Tl (eInv env (k + 2001) (.func 15) #[] #[.string (strB bs)] h) fun r=>((∃ kind l z rest,openB bs = some (kind,l,z,rest) ∧ r.1 = .tuple #[.int .i64 kind,zv z,.int .i64 0]) ∨ (openB bs = none ∧ r.1 = .tuple #[.int .i64 0,zv z0,.int .i64 4])) ∧ Grow h r.2:=by
 rw [F15_call]
 unfold F15
 refine Tl.alloc' (Stt.init h) ze38 rfl fun b3 h1 S1 _=>?_
 have S1 : Stt Tryz.prog h.n h h1 [Zr b3 z0] []:=S1
 refine Tl.bind (f36c (k:=k) hb hl hk) ?_
 have bz0 : pBuild Tryz.prog 38 #[] = some (zv z0):=by kernel_rfl
 rintro ⟨r,h2⟩ (⟨kind,l,z,rest,nv,rv,ho,er,S2⟩ | ⟨ho,kind,z,a,m,c,er,g2⟩)
 ·simp only at er S2
  subst er
  obtain ⟨a,c,eo,_⟩:=(S2.slV 0 rfl).form
  subst eo
  obtain ⟨a2,c2,eo2,_⟩:=(S2.slV 1 rfl).form
  subst eo2
  have S3:=S1.call S2.grow
  repeat (first | (with_reducible apply qzV; simp (disch:=omega) only [coreA,Int.reduceBEq,bzS13] <;> with_reducible rfl) | (with_reducible first | apply qzT | apply qzF | apply qzG | apply qzH) | ((with_reducible first | apply qzB | apply qzC | apply qzD); simp (disch:=omega) only [coreA,Int.reduceBEq,bzS13] <;> with_reducible rfl))
  refine Tl.alloc' S3 ze66 rfl fun b5 h4 S4 _=>?_
  refine Tl.store' S4 0 rfl sz66 rfl rfl (of_decide_eq_true rfl) fun h5 S5 _=>?_
  have S5 : Stt Tryz.prog h.n h h5 [Op b5 kind (.slice a2 (brows l).length c2) z (.slice a (u8rows rest).length c),Zr b3 z0] []:=S5
  obtain ⟨_,k5,z5,_,_⟩:=o_at S5 0 rfl
  repeat (first | (with_reducible apply qzV; simp (disch:=omega) only [coreA,Int.reduceBEq,bzS13,k5,z5] <;> with_reducible rfl) | (with_reducible first | apply qzT | apply qzF | apply qzG | apply qzH) | ((with_reducible first | apply qzB | apply qzC | apply qzD); simp (disch:=omega) only [coreA,Int.reduceBEq,bzS13,k5,z5] <;> with_reducible rfl))
  refine Tl.store' S5 1 rfl sz38 rfl rfl (of_decide_eq_true rfl) fun h6 S6 _=>?_
  have S6 : Stt Tryz.prog h.n h h6 [Op b5 kind (.slice a2 (brows l).length c2) z (.slice a (u8rows rest).length c),Zr b3 z] []:=S6
  have r6:=(z_at S6 1 rfl).all
  repeat (first | (with_reducible apply qzV; simp (disch:=omega) only [coreA,Int.reduceBEq,bzS13,r6] <;> with_reducible rfl) | (with_reducible first | apply qzT | apply qzF | apply qzG | apply qzH) | ((with_reducible first | apply qzB | apply qzC | apply qzD); simp (disch:=omega) only [coreA,Int.reduceBEq,bzS13,r6] <;> with_reducible rfl))
  exact ⟨_,rfl,.inl ⟨kind,l,z,rest,ho,rfl⟩,S6.grow⟩
 ·simp only at er g2
  subst er
  have S3:=S1.call g2
  repeat (first | (with_reducible apply qzV; simp (disch:=omega) only [coreA,Int.reduceBEq,bzS13] <;> with_reducible rfl) | (with_reducible first | apply qzT | apply qzF | apply qzG | apply qzH) | ((with_reducible first | apply qzB | apply qzC | apply qzD); simp (disch:=omega) only [coreA,Int.reduceBEq,bzS13] <;> with_reducible rfl))
  refine Tl.alloc' S3 ze66 rfl fun b5 h4 S4 _=>?_
  refine Tl.store' S4 0 rfl sz66 rfl rfl (of_decide_eq_true rfl) fun h5 S5 _=>?_
  have S5 : Stt Tryz.prog h.n h h5 [Op b5 kind (.slice a m c) z (.slice none 0 0),Zr b3 z0] []:=S5
  repeat (first | (with_reducible apply qzV; simp (disch:=omega) only [coreA,Int.reduceBEq,bzS13,bz0] <;> with_reducible rfl) | (with_reducible first | apply qzT | apply qzF | apply qzG | apply qzH) | ((with_reducible first | apply qzB | apply qzC | apply qzD); simp (disch:=omega) only [coreA,Int.reduceBEq,bzS13,bz0] <;> with_reducible rfl))
  refine Tl.store' S5 1 rfl sz38 rfl rfl (of_decide_eq_true rfl) fun h6 S6 _=>?_
  have S6 : Stt Tryz.prog h.n h h6 [Op b5 kind (.slice a m c) z (.slice none 0 0),Zr b3 z0] []:=S6
  have r6:=(z_at S6 1 rfl).all
  repeat (first | (with_reducible apply qzV; simp (disch:=omega) only [coreA,Int.reduceBEq,bzS13,r6] <;> with_reducible rfl) | (with_reducible first | apply qzT | apply qzF | apply qzG | apply qzH) | ((with_reducible first | apply qzB | apply qzC | apply qzD); simp (disch:=omega) only [coreA,Int.reduceBEq,bzS13,r6] <;> with_reducible rfl))
  exact ⟨_,rfl,.inr ⟨ho,rfl⟩,S6.grow⟩
end Go.Proofs.YtghelamfaaakcaaGreat.Sh
/- 'SegmentNulls' comes to true. -/
set_option linter.unusedVariables false
set_option linter.unusedSimpArgs false
set_option maxRecDepth 100000
namespace Go.Proofs.YtghelamfaaakcaaGreat.Sh
open Go Go.RowKit Go.Proofs.Ev Go.Lib
end Go.Proofs.YtghelamfaaakcaaGreat.Sh
/- Light cells, with their texts' bytes; how many bytes a segment has; a copy of cells. -/
set_option linter.unusedVariables false
set_option linter.unusedSimpArgs false
set_option maxRecDepth 100000
namespace Go.Proofs.YtghelamfaaakcaaGreat.Sh
open Go Go.RowKit Go.Proofs.Ev Go.Lib
theorem bzS14 : type_of% (And.intro @ld3 (And.intro @ld2 (And.intro @ld9 (And.intro @ld31 (And.intro @fa31_0 (And.intro @fa31_1 (And.intro @fa31_2 (And.intro @aggC (@Nat.add_zero))))))))):=And.intro @ld3 (And.intro @ld2 (And.intro @ld9 (And.intro @ld31 (And.intro @fa31_0 (And.intro @fa31_1 (And.intro @fa31_2 (And.intro @aggC (@Nat.add_zero))))))))
def tot (l : List CellD) : Nat:=(l.map fun c=>c.s.size).sum
theorem tot_cons (c : CellD) (l : List CellD) : tot (c :: l) = c.s.size + tot l:=by unfold tot; rw [List.map_cons,List.sum_cons]
theorem tot_filter (p : CellD→Bool) (l : List CellD) : tot (l.filter p) ≤ tot l:=by
 induction l with
 | nil=>exact Nat.le_refl _
 | cons c l ih =>
  rw [List.filter_cons,tot_cons]
  split
  ·rw [tot_cons]; omega
  ·omega
theorem f27_loopT {β : Type} {inv : Inv} {k : Nat} {Q : β→Prop} {h : AH} {v : Value} {l : List CellD} (S : Cells h v l) (hl : l.length ≤ 60) {ke0 : Value→Value→Value→Value→Value→AH→Option β} {kr : Value→AH→Option β}
  (hr : Tl (kr (.bool false) h) Q) (n : Nat) :
  ∀ {i j a : Nat} {s : Int},i + n = l.length→n < j→((∀ c ∈ l,c.s.size ≤ 65536)→s = (a : Int) ∧ a ≤ 600)→(((∀ c ∈ l,c.s.size ≤ 65536)→a + tot (l.drop i) ≤ 600)→∀ y7 y8 y16,Tl (ke0 v (.int .i64 600) y7 y8 y16 h) Q) →
   Tl (F27_lrlrrr inv k j v (.int .i64 600) (.int .i64 s) (.int .i64 i) h ke0 kr) Q:=by
 have hlen : ∀ h',pLen Tryz.prog #[22] v h' = some (.int .i64 l.length):=fun h'=>S.len
 induction n with
 | zero =>
  intro i j a s hi hj hs hk
  obtain ⟨j,rfl⟩ : ∃ q,j = q + 1:=⟨j - 1,by omega⟩
  simp only [F27_lrlrrr]
  repeat (first | (with_reducible apply qzV; simp (disch:=omega) only [coreA,Int.reduceBEq,bzS14,hlen] <;> with_reducible rfl) | (with_reducible first | apply qzT | apply qzF | apply qzG | apply qzH) | ((with_reducible first | apply qzB | apply qzC | apply qzD); simp (disch:=omega) only [coreA,Int.reduceBEq,bzS14,hlen] <;> with_reducible rfl))
  exact hk (fun q=>by rw [List.drop_eq_nil_of_le (by omega)]; exact (hs q).2) _ _ _
 | succ n ih =>
  intro i j a s hi hj hs hk
  obtain ⟨j,rfl⟩ : ∃ q,j = q + 1:=⟨j - 1,by omega⟩
  obtain ⟨c,hc⟩ : ∃ c,l[i]? = some c:=⟨_,List.getElem?_eq_getElem (by omega)⟩
  obtain ⟨b,o,hx,hrow⟩:=S.at_ hc
  have h2 : h.cell b (o + 2) = some (.string c.s):=Ev.cell_of_row (j:=2) hrow (by omega)
  have hsz : ∀ h' : AH,pLen Tryz.prog #[9] (.string c.s) h' = some (.int .i64 c.s.size):=fun h'=>len_string u9
  have e : (i : Int) + 1 = ((i + 1 : Nat) : Int):=by omega
  rw [drop_at hc,tot_cons] at hk
  simp only [F27_lrlrrr]
  by_cases q : IntKind.i64.wrap (s + ((c.s.size : Nat) : Int)) > 600
  ·repeat (first | (with_reducible apply qzV; simp (disch:=omega) only [coreA,Int.reduceBEq,bzS14,hlen,hx,h2,hsz] <;> with_reducible rfl) | (with_reducible first | apply qzT | apply qzF | apply qzG | apply qzH) | ((with_reducible first | apply qzB | apply qzC | apply qzD); simp (disch:=omega) only [coreA,Int.reduceBEq,bzS14,hlen,hx,h2,hsz] <;> with_reducible rfl))
   exact hr
  ·repeat (first | (with_reducible apply qzV; simp (disch:=omega) only [coreA,Int.reduceBEq,bzS14,hlen,hx,h2,hsz] <;> with_reducible rfl) | (with_reducible first | apply qzT | apply qzF | apply qzG | apply qzH) | ((with_reducible first | apply qzB | apply qzC | apply qzD); simp (disch:=omega) only [coreA,Int.reduceBEq,bzS14,hlen,hx,h2,hsz] <;> with_reducible rfl))
   rw [e]
   refine ih (a:=a + c.s.size) (by omega) (by omega) (fun hq=>?_) (fun hq=>hk fun h3=>by have:=hq h3; omega)
   obtain ⟨rfl,h4⟩:=hs hq
   have h5:=hq c (List.mem_of_getElem? hc)
   have h6 : IntKind.i64.wrap ((a : Int) + ((c.s.size : Nat) : Int)) = (a : Int) + (c.s.size : Int):=wr_i64 (by omega)
   rw [h6] at q ⊢
   exact ⟨by omega,by omega⟩
theorem f10t {k : Nat} {h : AH} {v : Value} {l : List CellD} (S : Cells h v l) (hl : l.length ≤ 9223372036854775807) (hk : 61 < k) : ∃ b,eInv env (k + 2) (.func 10) #[] #[v] h = some (.bool b,h) ∧ (b = true→l.length ≤ 60 ∧ ((∀ c ∈ l,c.s.size ≤ 65536)→tot l ≤ 600)):=by
 have T : Tl (F27 (eInv env k) k v (.int .i64 60) (.int .i64 600) h) fun r=>∃ b,r = (.bool b,h) ∧ (b = true→l.length ≤ 60 ∧ ((∀ c ∈ l,c.s.size ≤ 65536)→tot l ≤ 600)):=by
  unfold F27
  have hlen : ∀ h',pLen Tryz.prog #[22] v h' = some (.int .i64 l.length):=fun h'=>S.len
  by_cases q : l.length > 60
  ·repeat (first | (with_reducible apply qzV; simp (disch:=omega) only [coreA,Int.reduceBEq,bzS14,hlen] <;> with_reducible rfl) | (with_reducible first | apply qzT | apply qzF | apply qzG | apply qzH) | ((with_reducible first | apply qzB | apply qzC | apply qzD); simp (disch:=omega) only [coreA,Int.reduceBEq,bzS14,hlen] <;> with_reducible rfl))
   exact ⟨_,rfl,false,rfl,fun h=>by cases h⟩
  ·repeat (first | (with_reducible apply qzV; simp (disch:=omega) only [coreA,Int.reduceBEq,bzS14,hlen] <;> with_reducible rfl) | (with_reducible first | apply qzT | apply qzF | apply qzG | apply qzH) | ((with_reducible first | apply qzB | apply qzC | apply qzD); simp (disch:=omega) only [coreA,Int.reduceBEq,bzS14,hlen] <;> with_reducible rfl))
   refine f27_loopT S (by omega) ⟨_,rfl,false,rfl,fun h=>by cases h⟩ l.length (i:=0) (a:=0) (by omega) (by omega) (fun _=>⟨rfl,by omega⟩) fun hq y7 y8 y16=>⟨_,rfl,true,rfl,fun _=>⟨by omega,fun h3=>?_⟩⟩
   have:=hq h3
   rw [List.drop_zero] at this
   omega
 obtain ⟨r,h1,b,h2,h3⟩:=T
 refine ⟨b,?_,h3⟩
 have T2 : Tl (F10 (eInv env (k + 1)) (k + 1) v h) fun r=>r = (.bool b,h):=by
  unfold F10
  have e : eInv env (k + 1) (.func 27) #[] #[v,.int .i64 60,.int .i64 600] h = some (.bool b,h):=by rw [F27_call,h1,h2]
  repeat (first | (with_reducible apply qzV; simp (disch:=omega) only [coreA,Int.reduceBEq,bzS14,e] <;> with_reducible rfl) | (with_reducible first | apply qzT | apply qzF | apply qzG | apply qzH) | ((with_reducible first | apply qzB | apply qzC | apply qzD); simp (disch:=omega) only [coreA,Int.reduceBEq,bzS14,e] <;> with_reducible rfl))
  exact ⟨_,rfl,rfl⟩
 obtain ⟨r2,g1,g2⟩:=T2
 rw [F10_call,g1,g2]
/-! ### A segment's bytes -/
theorem putI_256 (l : List Int) : ∀ x ∈ putI l,x < 256:=by
 have hh : ∀ {f : Nat},f < 256→∀ n,∀ x ∈ headB f n,x < 256:=fun {f} hf n x hx=>by
  unfold headB at hx
  rcases List.mem_cons.1 hx with rfl | hx
  ·exact hf
  ·exact pvarN_256 _ x hx
 have h1 : ∀ x ∈ plainB l,x < 256:=fun x hx=>by
  unfold plainB at hx
  rcases List.mem_append.1 hx with hx | hx
  ·exact hh (by omega) _ x hx
  ·obtain ⟨z,_,hz⟩:=List.mem_flatMap.1 hx
   exact le_lt _ _ _ x hz
 have h2 : ∀ x ∈ runsB l,x < 256:=fun x hx=>by
  unfold runsB at hx
  rcases List.mem_append.1 hx with hx | hx
  ·exact hh (by omega) _ x hx
  ·obtain ⟨z,_,hz⟩:=List.mem_flatMap.1 hx
   unfold runB at hz
   rcases List.mem_append.1 hz with hz | hz
   ·exact pvarN_256 _ x hz
   ·exact le_lt _ _ _ x hz
 have h3 : ∀ x ∈ packB l,x < 256:=fun x hx=>by
  unfold packB at hx
  rcases List.mem_append.1 hx with hx | hx
  ·rcases List.mem_append.1 hx with hx | hx
   ·exact hh (by omega) _ x hx
   ·exact le_lt _ _ _ x hx
  ·rcases List.mem_cons.1 hx with rfl | hx
   ·have:=Pk.width64 (l:=moreI l) (moreI_lt l)
    unfold widI
    omega
   ·exact (putN_spec _ _).2.2 x hx
 intro x hx
 unfold putI at hx
 simp only at hx
 split at hx <;> split at hx
 ·exact h3 x hx
 ·exact h2 x hx
 ·exact h3 x hx
 ·exact h1 x hx
theorem putT_256 (l : List ByteArray) : ∀ x ∈ putT l,x < 256:=fun x hx=>by
 unfold putT at hx
 split at hx
 ·rename_i hm
  split at hx
  ·exact dictG_256 l x (by unfold dictG; rw [if_pos hm]; exact hx)
  ·exact plainG_256 l x (by unfold plainG; rw [if_pos hm]; exact hx)
 ·cases hx
theorem putV_256 (l : List Bool) : ∀ x ∈ putV l,x < 256:=fun x hx=>by
 unfold putV at hx
 have:=formN_le l
 rcases List.mem_append.1 hx with hx | hx
 ·exact pvarN_256 _ x hx
 ·rcases List.mem_cons.1 hx with rfl | hx
  ·omega
  ·split at hx
   ·exact (putN_spec _ _).2.2 x hx
   ·cases hx
theorem oneB_256 (kind : Int) (c : CellD) : ∀ x ∈ oneB kind c,x < 256:=fun x hx=>by
 unfold oneB at hx
 split at hx
 ·exact le_lt _ _ _ x hx
 ·split at hx
  ·unfold oneT at hx
   rw [List.mem_singleton] at hx
   omega
  ·unfold oneW at hx
   rcases List.mem_append.1 hx with hx | hx
   ·exact pvarN_256 _ x hx
   ·exact bytesN_lt _ x hx
theorem cellsB_256 (kind : Int) (l : List CellD) : ∀ x ∈ cellsB kind l,x < 256:=fun x hx=>by
 unfold cellsB at hx
 split at hx
 ·exact putI_256 _ x hx
 ·split at hx
  ·unfold Pk.putL at hx
   split at hx
   ·exact (putN_spec _ _).2.2 x hx
   ·cases hx
  ·exact putT_256 _ x hx
theorem segB_256 {kind : Int} (hk : 1 ≤ kind ∧ kind ≤ 3) (l : List CellD) : ∀ x ∈ segB kind l,x < 256:=fun x hx=>by
 unfold segB tailB at hx
 rcases List.mem_append.1 hx with hx | hx
 ·rcases List.mem_append.1 hx with hx | hx
  ·rw [List.mem_singleton] at hx
   omega
  ·exact putV_256 _ x hx
 ·split at hx
  ·cases hx
  ·rcases List.mem_append.1 hx with hx | hx
   ·rcases List.mem_append.1 hx with hx | hx
    ·exact oneB_256 _ _ x hx
    ·exact oneB_256 _ _ x hx
   ·exact cellsB_256 _ _ x hx
theorem plainT_tot : ∀ (l : List CellD),(∀ c ∈ l,c.s.size ≤ 65536)→((valsW l).flatMap textP).length ≤ 10 * l.length + tot l
 | [],_=>by simp [valsW,tot]
 | c :: l,h=>by
  have ih:=plainT_tot l fun x hx=>h x (List.mem_cons_of_mem _ hx)
  have hc:=h c (List.mem_cons_self ..)
  unfold valsW at ih ⊢
  rw [List.map_cons,List.flatMap_cons,List.length_append,tot_cons,List.length_cons]
  have:=pvarN_le10 (n:=c.s.size) (by omega)
  unfold textP at ih ⊢
  rw [List.length_append,bytesN_len]
  omega
theorem tot_mem {c : CellD} : ∀ {l : List CellD},c ∈ l→c.s.size ≤ tot l
 | d :: l,h=>by
  rw [tot_cons]
  rcases List.mem_cons.1 h with rfl | h
  ·omega
  ·have:=tot_mem h; omega
theorem segB_len {kind : Int} {l : List CellD} (h : segE kind l = 0) (hl : l.length ≤ 200) (ht : tot l ≤ 2000) : (segB kind l).length ≤ 15000:=by
 obtain ⟨hk,_,hall⟩:=segE_zero.1 h
 have hg:=good_vals hall
 have hvl:=vals_le l
 have hp:=putV_len (l:=flg l) (by have : (flg l).length = l.length:=List.length_map ..; omega)
 have hone : ∀ c : CellD,c.s.size ≤ 2000→(oneB kind c).length ≤ 2010:=fun c hc=>by
  unfold oneB
  split
  ·unfold oneN; rw [le_len]; omega
  ·split
   ·simp [oneT]
   ·unfold oneW
    have:=pvarN_le10 (n:=c.s.size) (by omega)
    rw [List.length_append,bytesN_len]
    omega
 unfold segB tailB
 rw [List.length_append,List.length_append,List.length_singleton]
 split
 ·simp only [List.length_nil]; omega
 ·rename_i q
  obtain ⟨m1,m2⟩:=mn_mem (l:=vals l) (by omega) vals_ne q
  have hsz : ∀ c ∈ vals l,c.s.size ≤ 2000:=fun c hc=>by
   have:=tot_mem (List.mem_filter.1 hc).1
   omega
  have o1:=hone _ (hsz _ m1)
  have o2:=hone _ (hsz _ m2)
  rw [List.length_append,List.length_append]
  have hc : (cellsB kind (vals l)).length ≤ 10000:=by
   unfold cellsB
   split
   ·have e : (valsN (vals l)).length = (vals l).length:=List.length_map ..
    have:=putI_le (l:=valsN (vals l)) (by omega)
    omega
   ·split
    ·unfold Pk.putL
     split
     ·have:=(putN_spec (1 : Int).toNat (valsT (vals l))).2.1
      have e : (valsT (vals l)).length = (vals l).length:=List.length_map ..
      have e1 : (1 : Int).toNat = 1:=rfl
      rw [this,e,e1]
      omega
     ·simp
    ·unfold putT
     split
     ·have h1:=plainT_tot (vals l) fun c hc=>cellE_size (hg c hc).2
      have h2 : tot (vals l) ≤ tot l:=tot_filter _ l
      have e : (valsW (vals l)).length = (vals l).length:=List.length_map ..
      have h3:=pvarN_le10 (n:=(valsW (vals l)).length) (by omega)
      have h4 : (plainT (valsW (vals l))).length ≤ 11 + (10 * (vals l).length + tot (vals l)):=by
       unfold plainT
       rw [List.length_cons,List.length_append]
       omega
      split <;> omega
     ·simp
  omega
/-! ### A copy -/
end Go.Proofs.YtghelamfaaakcaaGreat.Sh
/- The document's comparison of cells; rows of rows, which of them are light. -/
set_option linter.unusedVariables false
set_option linter.unusedSimpArgs false
set_option maxRecDepth 100000
namespace Go.Proofs.YtghelamfaaakcaaGreat.Sh
open Go Go.RowKit Go.Proofs.Ev Go.Lib
theorem bytesLess_cmp : ∀ a b : List UInt8,Op.bytesLess a b = decide (compareBytes a b < 0)
 | [],[]=>rfl
 | [],_ :: _=>rfl
 | _ :: _,[]=>rfl
 | a :: x,b :: y=>by
  unfold Op.bytesLess compareBytes
  by_cases h1 : a < b
  ·simp [h1]
  ·by_cases h2 : b < a
   ·have : (a == b) = false:=by
     rw [beq_eq_false_iff_ne]
     rintro rfl
     exact absurd h2 h1
    simp [h1,h2,this]
   ·have : (a == b) = true:=by
     rw [beq_iff_eq]
     rw [UInt8.lt_iff_toNat_lt] at h1 h2
     exact UInt8.toNat_inj.1 (by omega)
    simp [h1,h2,this,bytesLess_cmp x y]
theorem str_lss {x y : Operand} {a b : ByteArray} : pBin Tryz.prog .lss 9 x y (.string a) (.string b) = some (.bool (decide (compareBytes a.data.toList b.data.toList < 0))):=by
 have h1 : pBin Tryz.prog .lss 9 x y (.string a) (.string b) = some (.bool (Op.bytesLess a.toList b.toList)):=rfl
 rw [h1,ByteArray.toList_eq,ByteArray.toList_eq,bytesLess_cmp]
/-- Rows of rows. -/
def Rows (h : AH) (v : Value) (l : List (List CellD)) : Prop:=∃ vs : List Value,SlZ Tryz.prog h v 1 (vs.map fun v=>[v]) ∧ All2 (Cells h) vs l
theorem Rows.grow {h h' : AH} {v : Value} {l : List (List CellD)} (S : Rows h v l) (g : Grow h h') : Rows h' v l:=by
 obtain ⟨vs,X,A⟩:=S
 exact ⟨vs,X.grow g,A.mono fun _ _ h=>h.grow g⟩
end Go.Proofs.YtghelamfaaakcaaGreat.Sh
/- The document's zones: 'Compare', 'Join'. -/
set_option linter.unusedVariables false
set_option linter.unusedSimpArgs false
set_option maxRecDepth 100000
namespace Go.Proofs.YtghelamfaaakcaaGreat.Sh
open Go Go.RowKit Go.Proofs.Ev Go.Lib
theorem bzZf : type_of% (And.intro @ld3 (And.intro @ld2 (And.intro @ld9 (And.intro @ld31 (And.intro @ld38 (And.intro @fa31_0 (And.intro @fa31_1 (And.intro @fa31_2 (And.intro @fa38_0 (And.intro @fa38_1 (And.intro @fa38_2 (And.intro @fa38_3 (And.intro @aggC (And.intro @aggZ (@Nat.add_zero))))))))))))))):=And.intro @ld3 (And.intro @ld2 (And.intro @ld9 (And.intro @ld31 (And.intro @ld38 (And.intro @fa31_0 (And.intro @fa31_1 (And.intro @fa31_2 (And.intro @fa38_0 (And.intro @fa38_1 (And.intro @fa38_2 (And.intro @fa38_3 (And.intro @aggC (And.intro @aggZ (@Nat.add_zero))))))))))))))
theorem f38c {k : Nat} (a b : CellD) (h : AH) : Tl (eInv env (k + 1) (.func 38) #[] #[a.v,b.v] h) fun r=>r.1 = .int .i64 (a.cmp b) ∧ Grow h r.2:=by
 rw [F38_call]
 unfold F38
 refine Tl.box' (Stt.init h) rfl isC fun b1 h1 S1 _=>?_
 refine Tl.box' S1 rfl isC fun b2 h2 S2 _=>?_
 have S2 : Stt Tryz.prog h.n h h2 [Cr b2 b,Cr b1 a] []:=S2
 obtain ⟨_,a0,a1,a2⟩:=c_at S2 1 rfl
 obtain ⟨_,c0,c1,c2⟩:=c_at S2 0 rfl
 unfold CellD.cmp cmpI orI
 by_cases k1 : a.k < b.k
 ·rw [if_pos k1,if_neg (by omega)]
  repeat (first | (with_reducible apply qzV; simp (disch:=omega) only [coreA,Int.reduceBEq,bzZf,a0,c0] <;> with_reducible rfl) | (with_reducible first | apply qzT | apply qzF | apply qzG | apply qzH) | ((with_reducible first | apply qzB | apply qzC | apply qzD); simp (disch:=omega) only [coreA,Int.reduceBEq,bzZf,a0,c0] <;> with_reducible rfl))
  exact ⟨_,rfl,rfl,S2.grow⟩
 ·by_cases k2 : b.k < a.k
  ·rw [if_neg k1,if_pos k2,if_neg (by omega)]
   repeat (first | (with_reducible apply qzV; simp (disch:=omega) only [coreA,Int.reduceBEq,bzZf,a0,c0] <;> with_reducible rfl) | (with_reducible first | apply qzT | apply qzF | apply qzG | apply qzH) | ((with_reducible first | apply qzB | apply qzC | apply qzD); simp (disch:=omega) only [coreA,Int.reduceBEq,bzZf,a0,c0] <;> with_reducible rfl))
   exact ⟨_,rfl,rfl,S2.grow⟩
  ·rw [if_neg k1,if_neg k2,if_pos rfl]
   by_cases i1 : a.i < b.i
   ·rw [if_pos i1,if_neg (by omega)]
    repeat (first | (with_reducible apply qzV; simp (disch:=omega) only [coreA,Int.reduceBEq,bzZf,a0,c0,a1,c1] <;> with_reducible rfl) | (with_reducible first | apply qzT | apply qzF | apply qzG | apply qzH) | ((with_reducible first | apply qzB | apply qzC | apply qzD); simp (disch:=omega) only [coreA,Int.reduceBEq,bzZf,a0,c0,a1,c1] <;> with_reducible rfl))
    exact ⟨_,rfl,rfl,S2.grow⟩
   ·by_cases i2 : b.i < a.i
    ·rw [if_neg i1,if_pos i2,if_neg (by omega)]
     repeat (first | (with_reducible apply qzV; simp (disch:=omega) only [coreA,Int.reduceBEq,bzZf,a0,c0,a1,c1] <;> with_reducible rfl) | (with_reducible first | apply qzT | apply qzF | apply qzG | apply qzH) | ((with_reducible first | apply qzB | apply qzC | apply qzD); simp (disch:=omega) only [coreA,Int.reduceBEq,bzZf,a0,c0,a1,c1] <;> with_reducible rfl))
     exact ⟨_,rfl,rfl,S2.grow⟩
    ·rw [if_neg i1,if_neg i2,if_pos rfl]
     have hz:=cb_zero a.s.data.toList b.s.data.toList
     have hne : ∀ x y,pBin Tryz.prog .neq 9 x y (.string a.s) (.string b.s) = some (.bool (!decide (compareBytes a.s.data.toList b.s.data.toList = 0))):=fun x y=>by
      rw [bin_neq_string]
      congr 3
      refine decide_eq_decide.2 ⟨fun q=>hz.2 (by rw [q]),fun q=>?_⟩
      have:=hz.1 q
      exact ByteArray.ext (Array.ext' this)
     unfold CellD.bytes
     rcases cb_range a.s.data.toList b.s.data.toList with q | q | q
     ·have hn : ∀ x y,pBin Tryz.prog .neq 9 x y (.string a.s) (.string b.s) = some (.bool true):=fun x y=>by rw [hne,q]; rfl
      have hs : ∀ x y,pBin Tryz.prog .lss 9 x y (.string a.s) (.string b.s) = some (.bool true):=fun x y=>by rw [str_lss,q]; rfl
      rw [q]
      repeat (first | (with_reducible apply qzV; simp (disch:=omega) only [coreA,Int.reduceBEq,bzZf,a0,c0,a1,c1,a2,c2,hn,hs] <;> with_reducible rfl) | (with_reducible first | apply qzT | apply qzF | apply qzG | apply qzH) | ((with_reducible first | apply qzB | apply qzC | apply qzD); simp (disch:=omega) only [coreA,Int.reduceBEq,bzZf,a0,c0,a1,c1,a2,c2,hn,hs] <;> with_reducible rfl))
      exact ⟨_,rfl,rfl,S2.grow⟩
     ·have hn : ∀ x y,pBin Tryz.prog .neq 9 x y (.string a.s) (.string b.s) = some (.bool false):=fun x y=>by rw [hne,q]; rfl
      have hs : ∀ x y,pBin Tryz.prog .lss 9 x y (.string a.s) (.string b.s) = some (.bool false):=fun x y=>by rw [str_lss,q]; rfl
      rw [q]
      repeat (first | (with_reducible apply qzV; simp (disch:=omega) only [coreA,Int.reduceBEq,bzZf,a0,c0,a1,c1,a2,c2,hn,hs] <;> with_reducible rfl) | (with_reducible first | apply qzT | apply qzF | apply qzG | apply qzH) | ((with_reducible first | apply qzB | apply qzC | apply qzD); simp (disch:=omega) only [coreA,Int.reduceBEq,bzZf,a0,c0,a1,c1,a2,c2,hn,hs] <;> with_reducible rfl))
      exact ⟨_,rfl,rfl,S2.grow⟩
     ·have hn : ∀ x y,pBin Tryz.prog .neq 9 x y (.string a.s) (.string b.s) = some (.bool true):=fun x y=>by rw [hne,q]; rfl
      have hs : ∀ x y,pBin Tryz.prog .lss 9 x y (.string a.s) (.string b.s) = some (.bool false):=fun x y=>by rw [str_lss,q]; rfl
      rw [q]
      repeat (first | (with_reducible apply qzV; simp (disch:=omega) only [coreA,Int.reduceBEq,bzZf,a0,c0,a1,c1,a2,c2,hn,hs] <;> with_reducible rfl) | (with_reducible first | apply qzT | apply qzF | apply qzG | apply qzH) | ((with_reducible first | apply qzB | apply qzC | apply qzD); simp (disch:=omega) only [coreA,Int.reduceBEq,bzZf,a0,c0,a1,c1,a2,c2,hn,hs] <;> with_reducible rfl))
      exact ⟨_,rfl,rfl,S2.grow⟩
end Go.Proofs.YtghelamfaaakcaaGreat.Sh
/- 'SegmentOrder' comes to true. -/
set_option linter.unusedVariables false
set_option linter.unusedSimpArgs false
set_option maxRecDepth 100000
namespace Go.Proofs.YtghelamfaaakcaaGreat.Sh
open Go Go.RowKit Go.Proofs.Ev Go.Lib
/-! ### Zones held against each other -/
theorem stZ : Tryz.prog.underlying 38 = some (.struct (Tryz.prog.fieldsOf 38)):=by kernel_rfl
theorem egZ : Tryz.prog.eqGuardType Tryz.prog.depth 38 = false:=by kernel_rfl
theorem shZ : Tryz.prog.stoodInHeld 38 = false:=by kernel_rfl
theorem fsZ : (Tryz.prog.fieldsOf 38).toList = [{ name := "Count", type := 3, offset := 0, embedded := false, tag := "", pkgPath := "", byteOffset := 0 }, { name := "Nulls", type := 3, offset := 1, embedded := false, tag := "", pkgPath := "", byteOffset := 8 }, { name := "Min", type := 31, offset := 2, embedded := false, tag := "", pkgPath := "", byteOffset := 16 }, { name := "Max", type := 31, offset := 5, embedded := false, tag := "", pkgPath := "", byteOffset := 48 }] := by kernel_rfl
theorem ptZ_0 (z : ZoneD) : prun Tryz.prog (part 3 (zl z).toArray 0) = some (.int .i64 z.cnt):=by kernel_rfl
theorem ptZ_1 (z : ZoneD) : prun Tryz.prog (part 3 (zl z).toArray 1) = some (.int .i64 z.nul):=by kernel_rfl
theorem ptZ_2 (z : ZoneD) : prun Tryz.prog (part 31 (zl z).toArray 2) = some z.mn.v:=by kernel_rfl
theorem ptZ_3 (z : ZoneD) : prun Tryz.prog (part 31 (zl z).toArray 5) = some z.mx.v:=by kernel_rfl
theorem zone_ext {a b : ZoneD} : a = b ↔ a.cnt = b.cnt ∧ a.nul = b.nul ∧ a.mn = b.mn ∧ a.mx = b.mx:=by
 constructor
 ·rintro rfl; exact ⟨rfl,rfl,rfl,rfl⟩
 ·rintro ⟨h1,h2,h3,h4⟩
  cases a; cases b
  simp only at h1 h2 h3 h4
  subst h1; subst h2; subst h3; subst h4
  rfl
theorem eqZ (d : Nat) (a b : ZoneD) : prun Tryz.prog (Op.equalIn (d + 3) 38 (zv a) (zv b)) = some (decide (a = b)):=by
 unfold zv
 rw [prun_equal_struct stZ shZ,fsZ]
 simp only [prunFields,ne_eq,String.reduceEq,not_false_eq_true,if_true,ptZ_0,ptZ_1,ptZ_2,ptZ_3,Option.bind_some,prun_equal_int u3,eqC]
 rw [show (decide (a = b)) = decide (a.cnt = b.cnt ∧ a.nul = b.nul ∧ a.mn = b.mn ∧ a.mx = b.mx) from decide_eq_decide.2 zone_ext]
 by_cases h1 : a.cnt = b.cnt
 ·by_cases h2 : a.nul = b.nul
  ·by_cases h3 : a.mn = b.mn
   ·by_cases h4 : a.mx = b.mx
    ·simp [h1,h2,h3,h4]
    ·simp [h1,h2,h3,h4]
   ·simp [h1,h2,h3]
  ·have : (a.nul == b.nul) = false:=by simpa using h2
   simp [h1,h2,this]
 ·have : (a.cnt == b.cnt) = false:=by simpa using h1
  simp [h1,this]
theorem eqlZ (a b : ZoneD) {x y : Operand} : pBin Tryz.prog .eql 38 x y (zv a) (zv b) = some (.bool (decide (a = b))):=bin_eql_agg rfl rfl egZ (eqZ 9997 a b)
theorem neqZ (a b : ZoneD) {x y : Operand} : pBin Tryz.prog .neq 38 x y (zv a) (zv b) = some (.bool (!decide (a = b))):=bin_neq_agg rfl rfl egZ (eqZ 9997 a b)
/-! ### The plain law -/
end Go.Proofs.YtghelamfaaakcaaGreat.Sh
