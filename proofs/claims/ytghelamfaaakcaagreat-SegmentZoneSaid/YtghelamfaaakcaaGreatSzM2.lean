/- What lies ahead of the law, put together. -/
import Derived.Test.YtghelamfaaakcaaGreatSzM1
/- What the functions of the octet's package come to: 'New', 'Bytes', 'Of', 'Number', 'Var'. -/
set_option linter.unusedVariables false
set_option linter.unusedSimpArgs false
set_option maxRecDepth 100000
namespace Go.Proofs.YtghelamfaaakcaaGreat.Sh
open Go Go.RowKit Go.Proofs.Ev
theorem bzOd : type_of% (And.intro @ld3 (And.intro @ld5 (And.intro @ld60 (And.intro @ld33 (And.intro @ld144 (And.intro @fa144_0 (And.intro (fun a h=>conv_int (a:=a) (h:=h) u5 u60) (And.intro (fun a h=>conv_int (a:=a) (h:=h) u60 u5) (And.intro @nilR (And.intro @ptrR (And.intro @slB (And.intro @nslB (And.intro @nilC (And.intro @ex2_0 (@ex2_1))))))))))))))):=And.intro @ld3 (And.intro @ld5 (And.intro @ld60 (And.intro @ld33 (And.intro @ld144 (And.intro @fa144_0 (And.intro (fun a h=>conv_int (a:=a) (h:=h) u5 u60) (And.intro (fun a h=>conv_int (a:=a) (h:=h) u60 u5) (And.intro @nilR (And.intro @ptrR (And.intro @slB (And.intro @nslB (And.intro @nilC (And.intro @ex2_0 (@ex2_1))))))))))))))
section
variable {n0 : Nat} {h0 h : AH} {L : List (Nat × AO)} {O : List OS} {i br : Nat} {rv : Value} {rest : List Nat}
theorem bdR (v : Value) (hv : kn v = true) (h1 : oneCell v = true) : pBuild Tryz.prog 144 #[(0,v)] = some (.agg #[v]):=by
 cases v <;> first | (cases h1; done) | (cases hv; done) | kernel_rfl
theorem f58c {k : Nat} {v : Value} {l : List Nat} (S : Stt Tryz.prog n0 h0 h L O) (B : Bytes h v l) (hl : l.length ≤ 2 ^ 30) :
  Tl (eInv env (k + 2) (.func 58) #[] #[v] h) fun r=>∃ br rv L',r.1 = ptr br ∧ Stt Tryz.prog n0 h0 r.2 (Rb br rv :: (L ++ L')) O ∧ RV (Rb br rv :: (L ++ L')) 0 rv l ∧ Grow h r.2:=by
 rw [F58_call]
 unfold F58
 refine Tl.bind (f105c (k:=k) S B hl) ?_
 rintro ⟨v',h1⟩ ⟨S1,g1⟩
 simp only at S1 g1
 have V:=slV_cells (S1.slV 0 rfl)
 have bd:=bdR v' V.2.2.2 V.2.2.1
 repeat (first | (with_reducible apply qzV; simp (disch:=omega) only [coreA,Int.reduceBEq,bzOd,bd] <;> with_reducible rfl) | (with_reducible first | apply qzT | apply qzF | apply qzG | apply qzH) | ((with_reducible first | apply qzB | apply qzC | apply qzD); simp (disch:=omega) only [coreA,Int.reduceBEq,bzOd,bd] <;> with_reducible rfl))
 rcases S1.expose with ⟨rfl,q,S2⟩ | ⟨b,cs,e,rfl,hc,hz,S2⟩
 ·have : l = []:=by simpa [u8rows] using q
  subst this
  refine Tl.box' S2 rfl (by rw [sz144]; rfl) fun br h2 S3 g3=>?_
  have S3 : Stt Tryz.prog n0 h0 h2 (Rb br (.slice none 0 0) :: L) O:=S3
  exact ⟨_,rfl,br,.slice none 0 0,[],rfl,by simpa using S3,.inl ⟨rfl,rfl⟩,g1.trans g3⟩
 ·refine Tl.box' S2 rfl (by rw [sz144]; rfl) fun br h2 S3 g3=>?_
  have S3 : Stt Tryz.prog n0 h0 h2 (Rb br (.slice (some ⟨b,0,none⟩) (u8rows l).length (u8rows l).length) :: (b,.cells cs e true) :: L) O:=S3
  rw [u8rows_len] at S3
  refine ⟨_,rfl,br,_,[(b,.cells cs e true)],rfl,S3.perm ?_,.inr ⟨L.length + 1,b,0,cs,e,by omega,?_,hz,rfl,fun hne=>?_⟩,g1.trans g3⟩
  ·refine List.Perm.cons _ ?_
   exact (List.perm_append_singleton _ _).symm
  ·simp
  ·have:=hc (by simpa [u8rows] using hne)
   rw [u8rows_len,u8rows_flat] at this
   simpa using this
theorem f60c {k : Nat} (S : Stt Tryz.prog n0 h0 h L O) (hi : L[i]? = some (Rb br rv)) (R : RV L i rv rest) {n : Nat} (hn : n ≤ rest.length) (hl : rest.length ≤ 2 ^ 30) :
  Tl (eInv env (k + 3) (.func 60) #[] #[ptr br,.int .i64 n] h) fun r=>∃ v' rv',r.1 = .tuple #[v',.int .i64 0] ∧ Stt Tryz.prog n0 h0 r.2 (L.set i (Rb br rv')) ((v',1,u8rows (rest.take n)) :: O) ∧ RV (L.set i (Rb br rv')) i rv' (rest.drop n):=by
 rw [F60_call]
 unfold F60
 have T:=f106c (k:=k + 1) S hi R hn (by omega)
 unfold ptr at T ⊢
 repeat (first | (with_reducible apply qzV; simp (disch:=omega) only [coreA,Int.reduceBEq,bzOd] <;> with_reducible rfl) | (with_reducible first | apply qzT | apply qzF | apply qzG | apply qzH) | ((with_reducible first | apply qzB | apply qzC | apply qzD); simp (disch:=omega) only [coreA,Int.reduceBEq,bzOd] <;> with_reducible rfl))
 refine Tl.bind T ?_
 rintro ⟨x,h1⟩ ⟨out,rv',e1,S1,R1,B1⟩
 simp only at e1 S1 B1
 subst e1
 repeat (first | (with_reducible apply qzV; simp (disch:=omega) only [coreA,Int.reduceBEq,bzOd] <;> with_reducible rfl) | (with_reducible first | apply qzT | apply qzF | apply qzG | apply qzH) | ((with_reducible first | apply qzB | apply qzC | apply qzD); simp (disch:=omega) only [coreA,Int.reduceBEq,bzOd] <;> with_reducible rfl))
 refine Tl.bind (f105c (k:=k + 1) S1 B1 (by simp; omega)) ?_
 rintro ⟨v',h2⟩ ⟨S2,g2⟩
 simp only at S2
 repeat (first | (with_reducible apply qzV; simp (disch:=omega) only [coreA,Int.reduceBEq,bzOd] <;> with_reducible rfl) | (with_reducible first | apply qzT | apply qzF | apply qzG | apply qzH) | ((with_reducible first | apply qzB | apply qzC | apply qzD); simp (disch:=omega) only [coreA,Int.reduceBEq,bzOd] <;> with_reducible rfl))
 exact ⟨_,rfl,v',rv',rfl,S2,R1⟩
theorem f60n {k : Nat} (S : Stt Tryz.prog n0 h0 h L O) (hi : L[i]? = some (Rb br rv)) (R : RV L i rv rest) {n : Int} (hn : (rest.length : Int) < n ∨ n < 0) :
  Tl (eInv env (k + 3) (.func 60) #[] #[ptr br,.int .i64 n] h) fun r=>∃ e,e ≠ 0 ∧ r = (.tuple #[.slice none 0 0,.int .i64 e],h):=by
 rw [F60_call]
 unfold F60
 by_cases q : n < 0
 ·unfold ptr
  repeat (first | (with_reducible apply qzV; simp (disch:=omega) only [coreA,Int.reduceBEq,bzOd] <;> with_reducible rfl) | (with_reducible first | apply qzT | apply qzF | apply qzG | apply qzH) | ((with_reducible first | apply qzB | apply qzC | apply qzD); simp (disch:=omega) only [coreA,Int.reduceBEq,bzOd] <;> with_reducible rfl))
  exact ⟨_,rfl,2,by decide,rfl⟩
 ·have T:=f106n (k:=k + 1) S hi R (n:=n) (by omega)
  have C:=f105c (k:=k + 1) (v:=.slice none 0 0) (l:=[]) S (.inl ⟨rfl,rfl⟩) (by simp)
  have e2 : eInv env (k + 2) (.func 105) #[] #[.slice none 0 0] h = some (.slice none 0 0,h):=by
   rw [F105_call]
   have T : Tl (F105 (eInv env (k + 1)) (k + 1) (.slice none 0 0) h) fun r=>r = (.slice none 0 0,h):=by
    unfold F105
    repeat (first | (with_reducible apply qzV; simp (disch:=omega) only [coreA,Int.reduceBEq,bzOd] <;> with_reducible rfl) | (with_reducible first | apply qzT | apply qzF | apply qzG | apply qzH) | ((with_reducible first | apply qzB | apply qzC | apply qzD); simp (disch:=omega) only [coreA,Int.reduceBEq,bzOd] <;> with_reducible rfl))
    exact ⟨_,rfl,rfl⟩
   obtain ⟨r,h1,h2⟩:=T
   rw [h1,h2]
  unfold ptr at T ⊢
  repeat (first | (with_reducible apply qzV; simp (disch:=omega) only [coreA,Int.reduceBEq,bzOd,T,e2] <;> with_reducible rfl) | (with_reducible first | apply qzT | apply qzF | apply qzG | apply qzH) | ((with_reducible first | apply qzB | apply qzC | apply qzD); simp (disch:=omega) only [coreA,Int.reduceBEq,bzOd,T,e2] <;> with_reducible rfl))
  exact ⟨_,rfl,7,by decide,rfl⟩
/-! ### 'Of' -/
noncomputable def lpOf (st : LoopState) (b2 : Nat) (x9 : Value) : AO:=.loop st none 120 (act 18 [(2,ptr b2),(9,x9)]).tmps (psOf (cp c120 118)) (cp c120 236) (cp c120 237)
noncomputable def LOf (bl b1 b2 : Nat) (x9 v : Value) (acc : Nat) : List (Nat × AO):=[(bl,lpOf .ready b2 x9),(b1,.cells [v] 33 true),(b2,.cells [.int .u64 (acc : Int)] 60 true)]
theorem shlOf (acc : Nat) (ha : acc < 72057594037927936) : ∀ t a b,pBin Tryz.prog Go.BinOp.shl t a b (.int .u64 (acc : Int)) (.int .u64 8) = some (.int .u64 ((acc * 256 : Nat) : Int)):=fun t a b=>by
 rw [shl_nn (by decide)]
 have e : IntKind.u64.wrap ((acc : Int) * 2 ^ (min (8 : Int).toNat IntKind.u64.bits)) = ((acc * 256 : Nat) : Int):=by
  have h2 : min (8 : Int).toNat IntKind.u64.bits = 8:=by decide
  rw [h2,wrap_u64]
  have : (2 : Int) ^ 8 = 256:=by decide
  rw [this]; omega
 rw [e]
theorem or64' (a b : Nat) (ha : a < 18446744073709551616) (hb : b < 18446744073709551616) : ∀ t x y,pBin Tryz.prog Go.BinOp.or t x y (.int .u64 (a : Int)) (.int .u64 (b : Int)) = some (.int .u64 ((a ||| b : Nat) : Int)):=fun t x y=>by
 rw [bin_or]
 exact congrArg some (congrArg _ (or_nat a b ha hb))
theorem rOf {k : Nat} {n0 : Nat} {h0 h : AH} {bl b1 b2 : Nat} {x9 v z0 : Value} {acc x : Nat} (S : Stt Tryz.prog n0 h0 h (LOf bl b1 b2 x9 v acc) []) (ha : acc < 72057594037927936) (hx : x < 256) :
  Tl (callV (eInv env (k + 1)) (.func (.yield bl) #[] #[]) #[z0,.int .u8 (x : Int)] h) fun r=>r.1 = .bool true ∧ Stt Tryz.prog n0 h0 r.2 (LOf bl b1 b2 x9 v (acc * 256 + x)) []:=by
 have hl:=S.sta.mem.at_ (i:=0) rfl
 have e : callV (eInv env (k + 1)) (.func (.yield bl) #[] #[]) #[z0,.int .u8 (x : Int)] h = eInv env (k + 1) (.yield bl) #[] (#[] ++ #[z0,.int .u8 (x : Int)]) h:=rfl
 rw [e,show ((#[] : Array Value) ++ #[z0,.int .u8 (x : Int)]) = #[z0,.int .u8 (x : Int)] by simp,inv_yield,R120_lrlrr_eq hl]
 unfold R120_lrlrr
 refine Tl.rdBegin' S 0 rfl fun h1 S1=>?_
 have c2:=S1.cell 2 (o:=0) rfl rfl
 have o1:=or64' (acc * 256) x (by omega) (by omega)
 have o2 : acc * 256 ||| x = acc * 256 + x:=by
  have:=or_disj x acc 8 (by omega)
  rw [Nat.or_comm]
  have h2 : (2 : Nat) ^ 8 = 256:=by decide
  rw [h2] at this
  rw [this,Nat.add_comm]
 rw [o2] at o1
 unfold ptr
 repeat (first | (with_reducible apply qzV; simp (disch:=omega) only [coreA,Int.reduceBEq,bzOd,c2,shlOf acc ha,o1] <;> with_reducible rfl) | (with_reducible first | apply qzT | apply qzF | apply qzG | apply qzH) | ((with_reducible first | apply qzB | apply qzC | apply qzD); simp (disch:=omega) only [coreA,Int.reduceBEq,bzOd,c2,shlOf acc ha,o1] <;> with_reducible rfl))
 refine Tl.store' S1 2 rfl sz60 rfl rfl (of_decide_eq_true rfl) fun h2 S2 _=>?_
 obtain ⟨h3,q1,q2⟩:=S2.rdEnd (x:=.normal) 0 rfl
 exact ⟨_,q1,rfl,q2⟩
theorem f163_loop {β : Type} {k : Nat} {Q : β→Prop} {h0 : AH} {bl b1 b2 : Nat} {x9 v : Value} {l : List Nat} (A : Bytes h0 v l) (hl : l.length ≤ 8) (hb : ∀ x ∈ l,x < 256) {ke0 kr : Value→Value→Value→Value→AH→Option β} (m : Nat) :
  ∀ {j : Nat} {h : AH},m ≤ l.length→m < j→Stt Tryz.prog h0.n h0 h (LOf bl b1 b2 x9 v (ofB (l.drop m))) [] →
   (∀ y3 y h',Stt Tryz.prog h0.n h0 h' (LOf bl b1 b2 x9 v (ofB l)) []→Tl (ke0 (.func (.yield bl) #[] #[]) (ptr b1) y3 y h') Q) →
   Tl (F163_lr (eInv env (k + 1)) (k + 1) j (.func (.yield bl) #[] #[]) (ptr b1) (.int .i64 ((m : Int) - 1)) h ke0 kr) Q:=by
 induction m with
 | zero =>
  intro j h hm hj S hk
  obtain ⟨j,rfl⟩ : ∃ q,j = q + 1:=⟨j - 1,by omega⟩
  simp only [F163_lr]
  repeat (first | (with_reducible apply qzV; simp (disch:=omega) only [coreA,Int.reduceBEq,bzOd] <;> with_reducible rfl) | (with_reducible first | apply qzT | apply qzF | apply qzG | apply qzH) | ((with_reducible first | apply qzB | apply qzC | apply qzD); simp (disch:=omega) only [coreA,Int.reduceBEq,bzOd] <;> with_reducible rfl))
  exact hk _ _ _ S
 | succ m ih =>
  intro j h hm hj S hk
  obtain ⟨j,rfl⟩ : ∃ q,j = q + 1:=⟨j - 1,by omega⟩
  have hlt : m < l.length:=by omega
  obtain ⟨c,hc⟩ : ∃ c,l[m]? = some c:=⟨_,List.getElem?_eq_getElem hlt⟩
  obtain ⟨b,o,hx,h2⟩:=(A.grow S.grow).at_ hc
  have h2:=h2 h (Grow.refl _)
  have c1:=S.cell 1 (o:=0) rfl rfl
  have em : (((m + 1 : Nat) : Int) - 1) = (m : Int):=by omega
  have hdl : ∀ x ∈ l.drop (m + 1),x < 256:=fun x hx=>hb x (List.mem_of_mem_drop hx)
  have hacc:=ofB_lt (l.drop (m + 1)) hdl
  have hacc2 : ofB (l.drop (m + 1)) < 72057594037927936:=by
   have : 256 ^ (l.drop (m + 1)).length ≤ 256 ^ 7:=Nat.pow_le_pow_right (by decide) (by simp; omega)
   have h7 : (256 : Nat) ^ 7 = 72057594037927936:=by decide
   omega
  simp only [F163_lr]
  rw [em]
  unfold ptr
  repeat (first | (with_reducible apply qzV; simp (disch:=omega) only [coreA,Int.reduceBEq,bzOd,c1,hx,h2] <;> with_reducible rfl) | (with_reducible first | apply qzT | apply qzF | apply qzG | apply qzH) | ((with_reducible first | apply qzB | apply qzC | apply qzD); simp (disch:=omega) only [coreA,Int.reduceBEq,bzOd,c1,hx,h2] <;> with_reducible rfl))
  refine Tl.bind (rOf (k:=k) S hacc2 (hb c (List.mem_of_getElem? hc))) ?_
  rintro ⟨r,h3⟩ ⟨e3,S3⟩
  simp only at e3 S3
  subst e3
  repeat (first | (with_reducible apply qzV; simp (disch:=omega) only [coreA,Int.reduceBEq,bzOd] <;> with_reducible rfl) | (with_reducible first | apply qzT | apply qzF | apply qzG | apply qzH) | ((with_reducible first | apply qzB | apply qzC | apply qzD); simp (disch:=omega) only [coreA,Int.reduceBEq,bzOd] <;> with_reducible rfl))
  refine ih (by omega) (by omega) ?_ hk
  have hd : l.drop m = c :: l.drop (m + 1):=by
   rw [List.drop_eq_getElem_cons hlt]
   rw [List.getElem?_eq_getElem hlt] at hc
   cases hc; rfl
  rw [hd]
  exact S3
theorem mfBack (b : Nat) : pMakeFunc (Go.Fn.func 163) #[] #[.pointer (some ⟨b,0,none⟩)] = some (.func (.func 163) #[] #[.pointer (some ⟨b,0,none⟩)]):=rfl
theorem f120c {k : Nat} {h : AH} {v : Value} {l : List Nat} (A : Bytes h v l) (hl : l.length ≤ 8) (hb : ∀ x ∈ l,x < 256) :
  Tl (eInv env (k + 21) (.func 120) #[] #[v] h) fun r=>r.1 = .int .u64 (ofB l : Int) ∧ Grow h r.2:=by
 rw [F120_call]
 unfold F120
 have hv : ∀ h',pLen Tryz.prog #[33] v h' = some (.int .i64 l.length):=fun h'=>A.len
 refine Tl.alloc' (Stt.init h) ze60 rfl fun b2 h1 S1 _=>?_
 repeat (first | (with_reducible apply qzV; simp (disch:=omega) only [coreA,Int.reduceBEq,bzOd,hv] <;> with_reducible rfl) | (with_reducible first | apply qzT | apply qzF | apply qzG | apply qzH) | ((with_reducible first | apply qzB | apply qzC | apply qzD); simp (disch:=omega) only [coreA,Int.reduceBEq,bzOd,hv] <;> with_reducible rfl))
 have B : Tl (eInv env (k + 20) (.func 143) #[] #[v] h1) fun r=>∃ b1,r.1 = .func (.func 163) #[] #[.pointer (some ⟨b1,0,none⟩)] ∧ Stt Tryz.prog h.n h r.2 [(b1,.cells [v] 33 true),(b2,.cells [.int .u64 0] 60 true)] []:=by
  rw [F143_call]
  unfold F143
  refine Tl.box' S1 A.v.2.2.2 (by rw [sz33]; rfl) fun b1 h2 S2 _=>?_
  rw [A.v.1] at S2
  repeat (first | (with_reducible apply qzV; simp (disch:=omega) only [coreA,Int.reduceBEq,bzOd,mfBack] <;> with_reducible rfl) | (with_reducible first | apply qzT | apply qzF | apply qzG | apply qzH) | ((with_reducible first | apply qzB | apply qzC | apply qzD); simp (disch:=omega) only [coreA,Int.reduceBEq,bzOd,mfBack] <;> with_reducible rfl))
  exact ⟨_,rfl,b1,rfl,S2⟩
 refine Tl.bind B ?_
 rintro ⟨x9,h2⟩ ⟨b1,e9,S2⟩
 simp only at e9 S2
 subst e9
 repeat (first | (with_reducible apply qzV; simp (disch:=omega) only [coreA,Int.reduceBEq,bzOd] <;> with_reducible rfl) | (with_reducible first | apply qzT | apply qzF | apply qzG | apply qzH) | ((with_reducible first | apply qzB | apply qzC | apply qzD); simp (disch:=omega) only [coreA,Int.reduceBEq,bzOd] <;> with_reducible rfl))
 unfold F120_rlrr
 refine Tl.range' S2 (fun L' O'=>L' = [(b1,.cells [v] 33 true),(b2,.cells [.int .u64 (ofB l : Int)] 60 true)] ∧ O' = []) (by kernel_rfl) ?_ ?_
 ·intro h3 bl T
  have T : Stt Tryz.prog h.n h h3 (LOf bl b1 b2 (.func (.func 163) #[] #[.pointer (some ⟨b1,0,none⟩)]) v 0) []:=T
  have c1:=T.cell 1 (o:=0) rfl rfl
  rw [show ((#[] : Array Value) ++ #[.func (.yield bl) #[] #[]]) = #[.func (.yield bl) #[] #[]] by simp,inv_cap (E:=env) (f:=163) (by kernel_rfl),show ((#[.func (.yield bl) #[] #[]] : Array Value) ++ #[.pointer (some ⟨b1,0,none⟩)]) = #[.func (.yield bl) #[] #[],.pointer (some ⟨b1,0,none⟩)] by simp,F163_eq]
  unfold F163
  repeat (first | (with_reducible apply qzV; simp (disch:=omega) only [coreA,Int.reduceBEq,bzOd,c1,hv] <;> with_reducible rfl) | (with_reducible first | apply qzT | apply qzF | apply qzG | apply qzH) | ((with_reducible first | apply qzB | apply qzC | apply qzD); simp (disch:=omega) only [coreA,Int.reduceBEq,bzOd,c1,hv] <;> with_reducible rfl))
  refine f163_loop (k:=k + 18) A hl hb l.length (Nat.le_refl _) (by omega) (by rw [List.drop_length]; exact T) fun y3 y h4 S4=>?_
  exact ⟨_,rfl,_,_,_,_,_,_,_,_,by simp,S4,rfl,rfl⟩
 ·rintro h3 L' O' S4 ⟨rfl,rfl⟩
  have c2:=S4.cell 1 (o:=0) rfl rfl
  show Tl (Ev.bnd _ _) _
  repeat (first | (with_reducible apply qzV; simp (disch:=omega) only [coreA,Int.reduceBEq,bzOd,c2] <;> with_reducible rfl) | (with_reducible first | apply qzT | apply qzF | apply qzG | apply qzH) | ((with_reducible first | apply qzB | apply qzC | apply qzD); simp (disch:=omega) only [coreA,Int.reduceBEq,bzOd,c2] <;> with_reducible rfl))
  refine Tl.store' S4 1 rfl sz60 rfl rfl (of_decide_eq_true rfl) fun h5 S5 _=>?_
  have c3:=S5.cell 1 (o:=0) rfl rfl
  repeat (first | (with_reducible apply qzV; simp (disch:=omega) only [coreA,Int.reduceBEq,bzOd,c3] <;> with_reducible rfl) | (with_reducible first | apply qzT | apply qzF | apply qzG | apply qzH) | ((with_reducible first | apply qzB | apply qzC | apply qzD); simp (disch:=omega) only [coreA,Int.reduceBEq,bzOd,c3] <;> with_reducible rfl))
  exact ⟨_,rfl,rfl,S5.grow⟩
theorem f77c {k : Nat} (S : Stt Tryz.prog n0 h0 h L O) (hi : L[i]? = some (Rb br rv)) (R : RV L i rv rest) {n : Nat} (h1 : 1 ≤ n) (h8 : n ≤ 8) (hn : n ≤ rest.length) (hl : rest.length ≤ 2 ^ 30) (hb : ∀ x ∈ rest,x < 256) :
  Tl (eInv env (k + 23) (.func 77) #[] #[ptr br,.int .i64 n] h) fun r=>∃ rv',r.1 = .tuple #[.int .u64 (ofB (rest.take n) : Int),.int .i64 0] ∧ Stt Tryz.prog n0 h0 r.2 (L.set i (Rb br rv')) O ∧ RV (L.set i (Rb br rv')) i rv' (rest.drop n):=by
 rw [F77_call]
 unfold F77
 have T:=f106c (k:=k + 21) S hi R hn (by omega)
 unfold ptr at T ⊢
 repeat (first | (with_reducible apply qzV; simp (disch:=omega) only [coreA,Int.reduceBEq,bzOd] <;> with_reducible rfl) | (with_reducible first | apply qzT | apply qzF | apply qzG | apply qzH) | ((with_reducible first | apply qzB | apply qzC | apply qzD); simp (disch:=omega) only [coreA,Int.reduceBEq,bzOd] <;> with_reducible rfl))
 refine Tl.bind T ?_
 rintro ⟨x,h2⟩ ⟨out,rv',e1,S1,R1,B1⟩
 simp only at e1 S1 B1
 subst e1
 repeat (first | (with_reducible apply qzV; simp (disch:=omega) only [coreA,Int.reduceBEq,bzOd] <;> with_reducible rfl) | (with_reducible first | apply qzT | apply qzF | apply qzG | apply qzH) | ((with_reducible first | apply qzB | apply qzC | apply qzD); simp (disch:=omega) only [coreA,Int.reduceBEq,bzOd] <;> with_reducible rfl))
 refine Tl.call' S1 (f120c (k:=k + 1) B1 (by simp; omega) fun x hx=>hb x (List.mem_of_mem_take hx)) fun h3 S3 _=>?_
 repeat (first | (with_reducible apply qzV; simp (disch:=omega) only [coreA,Int.reduceBEq,bzOd] <;> with_reducible rfl) | (with_reducible first | apply qzT | apply qzF | apply qzG | apply qzH) | ((with_reducible first | apply qzB | apply qzC | apply qzD); simp (disch:=omega) only [coreA,Int.reduceBEq,bzOd] <;> with_reducible rfl))
 exact ⟨_,rfl,rv',rfl,S3,R1⟩
theorem f77n {k : Nat} (S : Stt Tryz.prog n0 h0 h L O) (hi : L[i]? = some (Rb br rv)) (R : RV L i rv rest) {n : Nat} (h1 : 1 ≤ n) (h8 : n ≤ 8) (hn : rest.length < n) :
  Tl (eInv env (k + 23) (.func 77) #[] #[ptr br,.int .i64 n] h) fun r=>r.1 = .tuple #[.int .u64 0,.int .i64 7] ∧ Grow h r.2:=by
 rw [F77_call]
 unfold F77
 have T:=f106n (k:=k + 21) S hi R (n:=n) (by omega)
 unfold ptr at T ⊢
 repeat (first | (with_reducible apply qzV; simp (disch:=omega) only [coreA,Int.reduceBEq,bzOd,T] <;> with_reducible rfl) | (with_reducible first | apply qzT | apply qzF | apply qzG | apply qzH) | ((with_reducible first | apply qzB | apply qzC | apply qzD); simp (disch:=omega) only [coreA,Int.reduceBEq,bzOd,T] <;> with_reducible rfl))
 refine Tl.call' (P:=Tryz.prog) (Stt.init h) (f120c (k:=k + 1) (v:=.slice none 0 0) (l:=[]) (.inl ⟨rfl,rfl⟩) (by simp) (by simp)) fun h3 S3 g=>?_
 repeat (first | (with_reducible apply qzV; simp (disch:=omega) only [coreA,Int.reduceBEq,bzOd] <;> with_reducible rfl) | (with_reducible first | apply qzT | apply qzF | apply qzG | apply qzH) | ((with_reducible first | apply qzB | apply qzC | apply qzD); simp (disch:=omega) only [coreA,Int.reduceBEq,bzOd] <;> with_reducible rfl))
 exact ⟨_,rfl,rfl,g⟩
/-! ### 'Var' -/
theorem f154c {k : Nat} (c : Nat) (h : AH) : callV (eInv env (k + 1)) (.func (.func 154) #[] #[]) #[.int .u8 (c : Int)] h = some (.bool (decide ((c : Int) < 128)),h):=by
 have e : callV (eInv env (k + 1)) (.func (.func 154) #[] #[]) #[.int .u8 (c : Int)] h = eInv env (k + 1) (.func 154) #[] (#[] ++ #[.int .u8 (c : Int)]) h:=rfl
 rw [e,show ((#[] : Array Value) ++ #[.int .u8 (c : Int)]) = #[.int .u8 (c : Int)] by simp,F154_call]
 unfold F154
 simp only [bin_lss,bnd_some]
theorem f167_loop {β : Type} {k : Nat} {Q : β→Prop} {h : AH} {v : Value} {l : List Nat} (A : Bytes h v l) (hl : l.length ≤ 2 ^ 40) {ke0 : Value→Value→Value→Value→Value→AH→Option β} {kr : Value→AH→Option β}
  (hk : ∀ y8 y,Tl (ke0 v (.func (.func 154) #[] #[]) (.int .i64 l.length) y8 y h) Q) (hr : ∀ z,Tl (kr (.int .i64 z) h) Q) (n : Nat) :
  ∀ {i j : Nat},i + n = l.length→n < j→Tl (F167_lrlr (eInv env (k + 1)) (k + 1) j v (.func (.func 154) #[] #[]) (.int .i64 l.length) (.int .i64 i) h ke0 kr) Q:=by
 induction n with
 | zero =>
  intro i j hi hj
  obtain ⟨j,rfl⟩ : ∃ q,j = q + 1:=⟨j - 1,by omega⟩
  simp only [F167_lrlr]
  repeat (first | (with_reducible apply qzV; simp (disch:=omega) only [coreA,Int.reduceBEq,bzOd] <;> with_reducible rfl) | (with_reducible first | apply qzT | apply qzF | apply qzG | apply qzH) | ((with_reducible first | apply qzB | apply qzC | apply qzD); simp (disch:=omega) only [coreA,Int.reduceBEq,bzOd] <;> with_reducible rfl))
  exact hk _ _
 | succ n ih =>
  intro i j hi hj
  obtain ⟨j,rfl⟩ : ∃ q,j = q + 1:=⟨j - 1,by omega⟩
  obtain ⟨c,hc⟩ : ∃ c,l[i]? = some c:=⟨_,List.getElem?_eq_getElem (by omega)⟩
  obtain ⟨b,o,hx,h2⟩:=A.at_ hc
  have h2:=h2 h (Grow.refl _)
  have e1:=f154c (k:=k) c h
  have e : (i : Int) + 1 = ((i + 1 : Nat) : Int):=by omega
  simp only [F167_lrlr]
  by_cases q : (c : Int) < 128
  ·repeat (first | (with_reducible apply qzV; simp (disch:=omega) only [coreA,Int.reduceBEq,bzOd,hx,h2,e1] <;> with_reducible rfl) | (with_reducible first | apply qzT | apply qzF | apply qzG | apply qzH) | ((with_reducible first | apply qzB | apply qzC | apply qzD); simp (disch:=omega) only [coreA,Int.reduceBEq,bzOd,hx,h2,e1] <;> with_reducible rfl))
   exact hr _
  ·repeat (first | (with_reducible apply qzV; simp (disch:=omega) only [coreA,Int.reduceBEq,bzOd,hx,h2,e1] <;> with_reducible rfl) | (with_reducible first | apply qzT | apply qzF | apply qzG | apply qzH) | ((with_reducible first | apply qzB | apply qzC | apply qzD); simp (disch:=omega) only [coreA,Int.reduceBEq,bzOd,hx,h2,e1] <;> with_reducible rfl))
   rw [e]
   exact ih (by omega) (by omega)
theorem f153c {k : Nat} {h : AH} {v : Value} {l : List Nat} (A : Bytes h v l) (hl : l.length ≤ 2 ^ 40) (hk : l.length < k + 1) : ∃ b,eInv env (k + 3) (.func 153) #[] #[v,.func (.func 154) #[] #[]] h = some (.bool b,h):=by
 have T : Tl (F167 (eInv env (k + 1)) (k + 1) v (.func (.func 154) #[] #[]) h) fun r=>∃ z : Int,r = (.int .i64 z,h):=by
  unfold F167
  have ll : ∀ h',pLen Tryz.prog #[33] v h' = some (.int .i64 l.length):=fun h'=>A.len
  repeat (first | (with_reducible apply qzV; simp (disch:=omega) only [coreA,Int.reduceBEq,bzOd,ll] <;> with_reducible rfl) | (with_reducible first | apply qzT | apply qzF | apply qzG | apply qzH) | ((with_reducible first | apply qzB | apply qzC | apply qzD); simp (disch:=omega) only [coreA,Int.reduceBEq,bzOd,ll] <;> with_reducible rfl))
  exact f167_loop A hl (fun y8 y=>⟨_,rfl,-1,rfl⟩) (fun z=>⟨_,rfl,z,rfl⟩) l.length (i:=0) (by omega) (by omega)
 obtain ⟨r,h1,z,h2⟩:=T
 refine ⟨decide (z ≥ 0),?_⟩
 rw [F153_call]
 unfold F153
 rw [F167_call,h1,h2]
 simp only [bnd_some,bin_geq]
theorem f129c {k : Nat} (S : Stt Tryz.prog n0 h0 h L O) (hi : L[i]? = some (Rb br rv)) (R : RV L i rv rest) (hl : rest.length ≤ 2 ^ 40) (hk : rest.length < k + 1) : ∃ b,eInv env (k + 4) (.func 129) #[] #[ptr br] h = some (.bool b,h):=by
 have T : Tl (F129 (eInv env (k + 3)) (k + 3) (ptr br) h) fun r=>∃ b : Bool,r = (.bool b,h):=by
  unfold F129 ptr
  have c0:=S.cell i (o:=0) hi rfl
  have B:=R.bytes S
  have ll : ∀ h',pLen Tryz.prog #[33] rv h' = some (.int .i64 rest.length):=fun h'=>B.len
  obtain ⟨b,hb⟩:=f153c (k:=k) B hl hk
  by_cases q : (rest.length : Int) ≥ 10
  ·repeat (first | (with_reducible apply qzV; simp (disch:=omega) only [coreA,Int.reduceBEq,bzOd,c0,ll] <;> with_reducible rfl) | (with_reducible first | apply qzT | apply qzF | apply qzG | apply qzH) | ((with_reducible first | apply qzB | apply qzC | apply qzD); simp (disch:=omega) only [coreA,Int.reduceBEq,bzOd,c0,ll] <;> with_reducible rfl))
   exact ⟨_,rfl,false,rfl⟩
  ·repeat (first | (with_reducible apply qzV; simp (disch:=omega) only [coreA,Int.reduceBEq,bzOd,c0,ll,hb] <;> with_reducible rfl) | (with_reducible first | apply qzT | apply qzF | apply qzG | apply qzH) | ((with_reducible first | apply qzB | apply qzC | apply qzD); simp (disch:=omega) only [coreA,Int.reduceBEq,bzOd,c0,ll,hb] <;> with_reducible rfl))
   exact ⟨_,rfl,_,rfl⟩
 obtain ⟨r,h1,b,h2⟩:=T
 exact ⟨b,by rw [F129_call,h1,h2]⟩
theorem f92_loop {β : Type} {k : Nat} {Q : β→Prop} (S : Stt Tryz.prog n0 h0 h L O) (hi : L[i]? = some (Rb br rv)) (R : RV L i rv rest) (hl : rest.length ≤ 2 ^ 40) (hb : ∀ x ∈ rest,x < 256)
  {ke0 : Value→Value→Value→Value→Value→Value→Value→Value→Value→Value→Value→Value→AH→Option β} {kr : Value→Value→AH→Option β} (n : Nat) :
  ∀ {q j acc : Nat},q + n = rest.length→n < j→q ≤ 10→acc < 2 ^ (7 * q) →
   (∀ v rest' rv' h',dec q acc (rest.drop q) = some (v,rest')→Stt Tryz.prog n0 h0 h' (L.set i (Rb br rv')) O→RV (L.set i (Rb br rv')) i rv' rest'→Tl (kr (.int .u64 (v : Int)) (.int .i64 0) h') Q) →
   (dec q acc (rest.drop q) = none→∀ y2 y4 y5 y6 y12 y13 y14 y15 y20 y29 y43,Tl (ke0 (ptr br) y2 y4 y5 y6 y12 y13 y14 y15 y20 y29 y43 h) Q) →
   Tl (F92_lrlrr (eInv env k) k j (ptr br) (.int .u64 (acc : Int)) rv (.int .i64 rest.length) (.int .i64 q) h ke0 kr) Q:=by
 have A:=R.bytes S
 induction n with
 | zero =>
  intro q j acc hq hj h10 ha hs hn
  obtain ⟨j,rfl⟩ : ∃ z,j = z + 1:=⟨j - 1,by omega⟩
  simp only [F92_lrlrr]
  repeat (first | (with_reducible apply qzV; simp (disch:=omega) only [coreA,Int.reduceBEq,bzOd] <;> with_reducible rfl) | (with_reducible first | apply qzT | apply qzF | apply qzG | apply qzH) | ((with_reducible first | apply qzB | apply qzC | apply qzD); simp (disch:=omega) only [coreA,Int.reduceBEq,bzOd] <;> with_reducible rfl))
  refine hn ?_ _ _ _ _ _ _ _ _ _ _ _
  rw [List.drop_eq_nil_of_le (by omega)]
  rfl
 | succ n ih =>
  intro q j acc hq hj h10 ha hs hn
  obtain ⟨j,rfl⟩ : ∃ z,j = z + 1:=⟨j - 1,by omega⟩
  have hlt : q < rest.length:=by omega
  obtain ⟨c,hc⟩ : ∃ c,rest[q]? = some c:=⟨_,List.getElem?_eq_getElem hlt⟩
  have hc256:=hb c (List.mem_of_getElem? hc)
  have hd : rest.drop q = c :: rest.drop (q + 1):=by
   rw [List.drop_eq_getElem_cons hlt]
   rw [List.getElem?_eq_getElem hlt] at hc
   cases hc; rfl
  rw [hd] at hs hn
  obtain ⟨b',o',hx,h2⟩:=A.at_ hc
  have h2:=h2 h (Grow.refl _)
  have e : (q : Int) + 1 = ((q + 1 : Nat) : Int):=by omega
  have an:=fun (x y : Operand)=>andn8 (P:=Tryz.prog) (t:=5) (x:=x) (y:=y) c hc256
  simp only [F92_lrlrr]
  by_cases i10 : q = 10
  ·repeat (first | (with_reducible apply qzV; simp (disch:=omega) only [coreA,Int.reduceBEq,bzOd,hx,h2] <;> with_reducible rfl) | (with_reducible first | apply qzT | apply qzF | apply qzG | apply qzH) | ((with_reducible first | apply qzB | apply qzC | apply qzD); simp (disch:=omega) only [coreA,Int.reduceBEq,bzOd,hx,h2] <;> with_reducible rfl))
   exact hn (by rw [dec,if_pos i10]) _ _ _ _ _ _ _ _ _ _ _
  by_cases bad : q = 9 ∧ c % 128 > 1
  ·repeat (first | (with_reducible apply qzV; simp (disch:=omega) only [coreA,Int.reduceBEq,bzOd,hx,h2,an] <;> with_reducible rfl) | (with_reducible first | apply qzT | apply qzF | apply qzG | apply qzH) | ((with_reducible first | apply qzB | apply qzC | apply qzD); simp (disch:=omega) only [coreA,Int.reduceBEq,bzOd,hx,h2,an] <;> with_reducible rfl))
   exact hn (by rw [dec,if_neg i10,if_pos bad]) _ _ _ _ _ _ _ _ _ _ _
  have hp7:=pow7 (i:=q) (by omega)
  have hsum : c % 128 * 2 ^ (7 * q) < 18446744073709551616:=by
   by_cases i9 : q = 9
   ·have : c % 128 ≤ 1:=by omega
    have : c % 128 * 2 ^ (7 * q) ≤ 1 * 2 ^ (7 * q):=Nat.mul_le_mul_right _ this
    omega
   ·have h8 : 2 ^ (7 * q) ≤ 2 ^ 56:=Nat.pow_le_pow_right (by decide) (by omega)
    have h56 : (2 : Nat) ^ 56 = 72057594037927936:=by decide
    have : c % 128 * 2 ^ (7 * q) ≤ 127 * 2 ^ (7 * q):=Nat.mul_le_mul_right _ (by omega)
    omega
  have sh : ∀ t x y,pBin Tryz.prog Go.BinOp.shl t x y (.int .u64 ((c % 128 : Nat) : Int)) (.int .i64 (7 * (q : Int))) = some (.int .u64 ((c % 128 * 2 ^ (7 * q) : Nat) : Int)):=fun t x y=>by
   rw [shl_nn (by omega)]
   have e1 : min ((7 * (q : Int))).toNat IntKind.u64.bits = 7 * q:=by
    have : IntKind.u64.bits = 64:=rfl
    rw [this]; omega
   have e2 : ((c % 128 : Nat) : Int) * 2 ^ (7 * q) = ((c % 128 * 2 ^ (7 * q) : Nat) : Int):=by simp
   rw [e1,e2,wrap_u64,Int.emod_eq_of_lt (by omega) (by omega)]
  have o1:=or64' acc (c % 128 * 2 ^ (7 * q)) (by omega) hsum
  rw [or_disj acc (c % 128) (7 * q) ha] at o1
  have hgo : q = 9→c % 128 ≤ 1:=fun h1=>Decidable.byContradiction fun h2=>bad ⟨h1,by omega⟩
  by_cases more : c ≥ 128
  ·have hdec : dec q acc (c :: rest.drop (q + 1)) = dec (q + 1) (acc + c % 128 * 2 ^ (7 * q)) (rest.drop (q + 1)):=by
    rw [dec,if_neg i10,if_neg bad,if_pos more]
   rw [hdec] at hs hn
   have hacc : acc + c % 128 * 2 ^ (7 * q) < 2 ^ (7 * (q + 1)):=by
    have : 2 ^ (7 * (q + 1)) = 128 * 2 ^ (7 * q):=by rw [Nat.mul_succ,Nat.pow_add,Nat.mul_comm]
    have : c % 128 * 2 ^ (7 * q) ≤ 127 * 2 ^ (7 * q):=Nat.mul_le_mul_right _ (by omega)
    omega
   have go:=ih (q:=q + 1) (j:=j) (acc:=acc + c % 128 * 2 ^ (7 * q)) (by omega) (by omega) (by omega) hacc hs hn
   by_cases i9 : q = 9
   ·have:=hgo i9
    repeat (first | (with_reducible apply qzV; simp (disch:=omega) only [coreA,Int.reduceBEq,bzOd,hx,h2,an,sh,o1] <;> with_reducible rfl) | (with_reducible first | apply qzT | apply qzF | apply qzG | apply qzH) | ((with_reducible first | apply qzB | apply qzC | apply qzD); simp (disch:=omega) only [coreA,Int.reduceBEq,bzOd,hx,h2,an,sh,o1] <;> with_reducible rfl))
    rw [e]
    exact go
   ·repeat (first | (with_reducible apply qzV; simp (disch:=omega) only [coreA,Int.reduceBEq,bzOd,hx,h2,an,sh,o1] <;> with_reducible rfl) | (with_reducible first | apply qzT | apply qzF | apply qzG | apply qzH) | ((with_reducible first | apply qzB | apply qzC | apply qzD); simp (disch:=omega) only [coreA,Int.reduceBEq,bzOd,hx,h2,an,sh,o1] <;> with_reducible rfl))
    rw [e]
    exact go
  ·have c0:=S.cell i (o:=0) hi rfl
   obtain ⟨rv',d1,d2,d3,d4,d5⟩:=R.drop S (n:=q + 1) (by omega)
   rw [← e] at d1
   by_cases zero : c % 128 = 0 ∧ q > 0
   ·have fin:=hn (by rw [dec,if_neg i10,if_neg bad,if_neg more,if_pos zero])
    by_cases i9 : q = 9
    ·have:=hgo i9
     repeat (first | (with_reducible apply qzV; simp (disch:=omega) only [coreA,Int.reduceBEq,bzOd,hx,h2,an,sh,o1] <;> with_reducible rfl) | (with_reducible first | apply qzT | apply qzF | apply qzG | apply qzH) | ((with_reducible first | apply qzB | apply qzC | apply qzD); simp (disch:=omega) only [coreA,Int.reduceBEq,bzOd,hx,h2,an,sh,o1] <;> with_reducible rfl))
     exact fin _ _ _ _ _ _ _ _ _ _ _
    ·repeat (first | (with_reducible apply qzV; simp (disch:=omega) only [coreA,Int.reduceBEq,bzOd,hx,h2,an,sh,o1] <;> with_reducible rfl) | (with_reducible first | apply qzT | apply qzF | apply qzG | apply qzH) | ((with_reducible first | apply qzB | apply qzC | apply qzD); simp (disch:=omega) only [coreA,Int.reduceBEq,bzOd,hx,h2,an,sh,o1] <;> with_reducible rfl))
     exact fin _ _ _ _ _ _ _ _ _ _ _
   ·have fin:=fun rv' h'=>hs (acc + c % 128 * 2 ^ (7 * q)) (rest.drop (q + 1)) rv' h' (by rw [dec,if_neg i10,if_neg bad,if_neg more,if_neg zero])
    unfold ptr
    by_cases i9 : q = 9
    ·have:=hgo i9
     have z0 : ¬ c % 128 = 0:=fun z0=>zero ⟨z0,by omega⟩
     repeat (first | (with_reducible apply qzV; simp (disch:=omega) only [coreA,Int.reduceBEq,bzOd,hx,h2,an,sh,o1,c0,d1] <;> with_reducible rfl) | (with_reducible first | apply qzT | apply qzF | apply qzG | apply qzH) | ((with_reducible first | apply qzB | apply qzC | apply qzD); simp (disch:=omega) only [coreA,Int.reduceBEq,bzOd,hx,h2,an,sh,o1,c0,d1] <;> with_reducible rfl))
     refine Tl.store' S i hi sz33 d5 (by rw [d4]; simp [d3]) (of_decide_eq_true rfl) fun h' S' _=>?_
     rw [d4] at S'
     repeat (first | (with_reducible apply qzV; simp (disch:=omega) only [coreA,Int.reduceBEq,bzOd] <;> with_reducible rfl) | (with_reducible first | apply qzT | apply qzF | apply qzG | apply qzH) | ((with_reducible first | apply qzB | apply qzC | apply qzD); simp (disch:=omega) only [coreA,Int.reduceBEq,bzOd] <;> with_reducible rfl))
     exact fin rv' h' S' (d2.set _)
    ·by_cases z0 : c % 128 = 0
     ·have q0 : q = 0:=by omega
      repeat (first | (with_reducible apply qzV; simp (disch:=omega) only [coreA,Int.reduceBEq,bzOd,hx,h2,an,sh,o1,c0,d1] <;> with_reducible rfl) | (with_reducible first | apply qzT | apply qzF | apply qzG | apply qzH) | ((with_reducible first | apply qzB | apply qzC | apply qzD); simp (disch:=omega) only [coreA,Int.reduceBEq,bzOd,hx,h2,an,sh,o1,c0,d1] <;> with_reducible rfl))
      refine Tl.store' S i hi sz33 d5 (by rw [d4]; simp [d3]) (of_decide_eq_true rfl) fun h' S' _=>?_
      rw [d4] at S'
      repeat (first | (with_reducible apply qzV; simp (disch:=omega) only [coreA,Int.reduceBEq,bzOd] <;> with_reducible rfl) | (with_reducible first | apply qzT | apply qzF | apply qzG | apply qzH) | ((with_reducible first | apply qzB | apply qzC | apply qzD); simp (disch:=omega) only [coreA,Int.reduceBEq,bzOd] <;> with_reducible rfl))
      exact fin rv' h' S' (d2.set _)
     ·repeat (first | (with_reducible apply qzV; simp (disch:=omega) only [coreA,Int.reduceBEq,bzOd,hx,h2,an,sh,o1,c0,d1] <;> with_reducible rfl) | (with_reducible first | apply qzT | apply qzF | apply qzG | apply qzH) | ((with_reducible first | apply qzB | apply qzC | apply qzD); simp (disch:=omega) only [coreA,Int.reduceBEq,bzOd,hx,h2,an,sh,o1,c0,d1] <;> with_reducible rfl))
      refine Tl.store' S i hi sz33 d5 (by rw [d4]; simp [d3]) (of_decide_eq_true rfl) fun h' S' _=>?_
      rw [d4] at S'
      repeat (first | (with_reducible apply qzV; simp (disch:=omega) only [coreA,Int.reduceBEq,bzOd] <;> with_reducible rfl) | (with_reducible first | apply qzT | apply qzF | apply qzG | apply qzH) | ((with_reducible first | apply qzB | apply qzC | apply qzD); simp (disch:=omega) only [coreA,Int.reduceBEq,bzOd] <;> with_reducible rfl))
      exact fin rv' h' S' (d2.set _)
theorem f92c {k : Nat} (S : Stt Tryz.prog n0 h0 h L O) (hi : L[i]? = some (Rb br rv)) (R : RV L i rv rest) (hl : rest.length ≤ 2 ^ 40) (hb : ∀ x ∈ rest,x < 256) (hk : rest.length < k) :
  Tl (eInv env (k + 6) (.func 92) #[] #[ptr br] h) fun r =>
   (∃ v rest' rv',dec 0 0 rest = some (v,rest') ∧ r.1 = .tuple #[.int .u64 (v : Int),.int .i64 0] ∧ Stt Tryz.prog n0 h0 r.2 (L.set i (Rb br rv')) O ∧ RV (L.set i (Rb br rv')) i rv' rest') ∨
   (dec 0 0 rest = none ∧ ∃ e,e ≠ 0 ∧ r = (.tuple #[.int .u64 0,.int .i64 e],h)):=by
 rw [F92_call]
 unfold F92
 have c0:=S.cell i (o:=0) hi rfl
 have ll : ∀ h',pLen Tryz.prog #[33] rv h' = some (.int .i64 rest.length):=fun h'=>(R.bytes S).len
 obtain ⟨eb,he⟩:=f129c (k:=k + 1) S hi R hl (by omega)
 unfold ptr at he ⊢
 repeat (first | (with_reducible apply qzV; simp (disch:=omega) only [coreA,Int.reduceBEq,bzOd,c0,ll] <;> with_reducible rfl) | (with_reducible first | apply qzT | apply qzF | apply qzG | apply qzH) | ((with_reducible first | apply qzB | apply qzC | apply qzD); simp (disch:=omega) only [coreA,Int.reduceBEq,bzOd,c0,ll] <;> with_reducible rfl))
 unfold F92_rlrr
 refine f92_loop S hi R hl hb rest.length (q:=0) (acc:=0) (by omega) (by omega) (by omega) (by simp) ?_ ?_
 ·intro v rest' rv' h' hd S' R'
  rw [List.drop_zero] at hd
  exact ⟨_,rfl,.inl ⟨v,rest',rv',hd,rfl,S',R'⟩⟩
 ·intro hd y2 y4 y5 y6 y12 y13 y14 y15 y20 y29 y43
  rw [List.drop_zero] at hd
  unfold ptr
  cases eb
  ·repeat (first | (with_reducible apply qzV; simp (disch:=omega) only [coreA,Int.reduceBEq,bzOd,he] <;> with_reducible rfl) | (with_reducible first | apply qzT | apply qzF | apply qzG | apply qzH) | ((with_reducible first | apply qzB | apply qzC | apply qzD); simp (disch:=omega) only [coreA,Int.reduceBEq,bzOd,he] <;> with_reducible rfl))
   exact ⟨_,rfl,.inr ⟨hd,4,by decide,rfl⟩⟩
  ·repeat (first | (with_reducible apply qzV; simp (disch:=omega) only [coreA,Int.reduceBEq,bzOd,he] <;> with_reducible rfl) | (with_reducible first | apply qzT | apply qzF | apply qzG | apply qzH) | ((with_reducible first | apply qzB | apply qzC | apply qzD); simp (disch:=omega) only [coreA,Int.reduceBEq,bzOd,he] <;> with_reducible rfl))
   exact ⟨_,rfl,.inr ⟨hd,7,by decide,rfl⟩⟩
end
end Go.Proofs.YtghelamfaaakcaaGreat.Sh
