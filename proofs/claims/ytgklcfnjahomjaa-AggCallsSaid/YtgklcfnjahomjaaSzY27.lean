/- Sums by groups are what the document says: the law's function gives true. -/
import Derived.Test.YtgklcfnjahomjaaSzY26
import Derived.Test.YtgklcfnjahomjaaSzVv
set_option linter.unusedVariables false
set_option linter.unusedSimpArgs false
set_option maxRecDepth 100000
namespace Go.Proofs.Ytgklcfnjahomjaa.Sh
open Go Go.RowKit Go.Proofs.Ev
theorem bzY27 : type_of% (And.intro @ld3 (And.intro @ld2 (And.intro @ld9 (And.intro @ld37 (And.intro @ld28 (And.intro @ld42 (And.intro @ld34 (And.intro @ld22 (And.intro @ld24 (And.intro @ld23 (And.intro @ld29 (And.intro @fa37_0 (And.intro @fa37_1 (And.intro @fa37_2 (And.intro @fa28_0 (And.intro @fa28_1 (And.intro @fa42_0 (And.intro @fa42_1 (And.intro @fa42_2 (And.intro @nilC (And.intro @ex2_0 (And.intro @ex2_1 (@Nat.add_zero))))))))))))))))))))))):=And.intro @ld3 (And.intro @ld2 (And.intro @ld9 (And.intro @ld37 (And.intro @ld28 (And.intro @ld42 (And.intro @ld34 (And.intro @ld22 (And.intro @ld24 (And.intro @ld23 (And.intro @ld29 (And.intro @fa37_0 (And.intro @fa37_1 (And.intro @fa37_2 (And.intro @fa28_0 (And.intro @fa28_1 (And.intro @fa42_0 (And.intro @fa42_1 (And.intro @fa42_2 (And.intro @nilC (And.intro @ex2_0 (And.intro @ex2_1 (@Nat.add_zero))))))))))))))))))))))
theorem filter_snoc {cols : List ColD} {rows : List (List CellD)} {i : Nat} {x : List CellD} (ex : rows[i]? = some x) : (rows.take (i + 1)).filter (rowOk cols) = (rows.take i).filter (rowOk cols) ++ if rowOk cols x = true then [x] else []:=by
 rw [List.take_add_one,ex,List.filter_append]
 congr 1
 cases q : rowOk cols x <;> simp [q]
section
variable {h0 : AH} {β : Type} {Q : β→Prop}
theorem f5_loop {k : Nat} {cv rv bv av : Value} {cols : List ColD} {rows : List (List CellD)} {by_ : List Int} {aggs : List AggD} (C : Cols h0 cv cols) (R : Rows h0 rv rows) (hcl : cols.length ≤ 1000) (hl : rows.length ≤ 100) (hls : ∀ r ∈ rows,r.length ≤ 1000 ∧ ∀ x ∈ r,cellR x)
  (ok : aggsOk cols by_ aggs = true) {ke0 : Value→Value→Value→Value→Value→Value→Value→Value→AH→Option β} {kr : Value→AH→Option β} (n : Nat) :
  ∀ {i j : Nat} {h : AH} {A : AccM} {iv : Value} {ms : RS},i + n = rows.length→n < j→A.n = ms.length→rowsOf ms = (rows.take i).filter (rowOk cols)→(∀ p ∈ ms,Cells h0 p.1 p.2)→A.Fit cols by_ aggs (accG aggs by_ (rowsOf ms))→GFit cols ms.length (accG aggs by_ (rowsOf ms)) →
   Stt Try.prog h0.n h0 h A.B [(iv,1,outs ms)] →
   (∀ h' (A : AccM) iv ms y1 y2,rowsOf ms = rows.filter (rowOk cols)→(∀ p ∈ ms,Cells h0 p.1 p.2)→A.Fit cols by_ aggs (accG aggs by_ (rowsOf ms))→GFit cols ms.length (accG aggs by_ (rowsOf ms))→Stt Try.prog h0.n h0 h' A.B [(iv,1,outs ms)] →
    Tl (ke0 cv rv bv av (.pointer (some ⟨A.p,0,none⟩)) iv y1 y2 h') Q) →
   Tl (F5_lrlrrrrrrrrr (eInv env (k + 1605)) (k + 1605) j cv rv bv av (.pointer (some ⟨A.p,0,none⟩)) iv (.int .i64 i) h ke0 kr) Q:=by
 have hv : ∀ h',pLen Try.prog #[23] rv h' = some (.int .i64 rows.length):=fun h'=>R.len
 induction n with
 | zero =>
  intro i j h A iv ms hi hj hn hms hcs hA hg S hk
  obtain ⟨j,rfl⟩ : ∃ q,j = q + 1:=⟨j - 1,by omega⟩
  simp only [F5_lrlrrrrrrrrr]
  repeat (first | (with_reducible apply qzV; simp (disch:=omega) only [coreA,Int.reduceBEq,bzY27,hv] <;> with_reducible rfl) | (with_reducible first | apply qzT | apply qzF | apply qzG | apply qzH) | ((with_reducible first | apply qzB | apply qzC | apply qzD); simp (disch:=omega) only [coreA,Int.reduceBEq,bzY27,hv] <;> with_reducible rfl))
  rw [List.take_of_length_le (by omega)] at hms
  exact hk _ A _ ms _ _ hms hcs hA hg S
 | succ n ih =>
  intro i j h A iv ms hi hj hn hms hcs hA hg S hk
  obtain ⟨j,rfl⟩ : ∃ q,j = q + 1:=⟨j - 1,by omega⟩
  have e : (i : Int) + 1 = ((i + 1 : Nat) : Int):=by omega
  obtain ⟨x,ex⟩ : ∃ x,rows[i]? = some x:=⟨_,List.getElem?_eq_getElem (by omega)⟩
  obtain ⟨x1,x2⟩:=hls x (List.mem_of_getElem? ex)
  obtain ⟨b,o,w,hp,hc0,C0⟩:=R.at_ ex
  have hc:=S.grow.cell hc0
  obtain ⟨wa,wc,ew,_⟩:=C0.form
  have hfs:=filter_snoc (cols:=cols) ex
  have hml : ms.length ≤ 100:=by
   have h1:=congrArg List.length hms
   rw [rowsOf_len] at h1
   have h2:=List.length_filter_le (rowOk cols) (rows.take i)
   rw [List.length_take] at h2
   omega
  simp only [F5_lrlrrrrrrrrr]
  repeat (first | (with_reducible apply qzV; simp (disch:=omega) only [coreA,Int.reduceBEq,bzY27,hv,hp,hc] <;> with_reducible rfl) | (with_reducible first | apply qzT | apply qzF | apply qzG | apply qzH) | ((with_reducible first | apply qzB | apply qzC | apply qzD); simp (disch:=omega) only [coreA,Int.reduceBEq,bzY27,hv,hp,hc] <;> with_reducible rfl))
  refine Tl.bind (acc_add (k:=k) (L:=[]) (by rw [List.append_nil]; exact S) hA hg ok C0 x2 x1 (by omega)) ?_
  rintro ⟨r,h1⟩ hres
  have rest : ∀ {h1 : AH} {A1 : AccM} {ms1 : RS} {iv1 y104 : Value},A1.p = A.p→A1.n = ms1.length→ms1.length ≤ 101→rowsOf ms1 = (rows.take (i + 1)).filter (rowOk cols)→(∀ p ∈ ms1,Cells h0 p.1 p.2)→A1.Fit cols by_ aggs (accG aggs by_ (rowsOf ms1))→GFit cols ms1.length (accG aggs by_ (rowsOf ms1)) →
    Stt Try.prog h0.n h0 h1 A1.B [(iv1,1,outs ms1)] →
    Tl (bnd (eInv env (k + 1605) (.func 23) #[] #[.pointer (some ⟨A.p,0,none⟩)] h1) fun x113=>bnd (pLen Try.prog #[23] iv1 x113.2) fun x115=>bnd (pBin Try.prog .neq 3 (.tmp 113) (.tmp 115) x113.1 x115) fun x116=>brV x116 (kr (.bool false) x113.2)
     (bnd (pBin Try.prog .add 3 (.tmp 87) (.const (.int .i64 1)) (.int .i64 i) (.int .i64 1)) fun x88=>F5_lrlrrrrrrrrr (eInv env (k + 1605)) (k + 1605) j cv rv bv av (.pointer (some ⟨A.p,0,none⟩)) iv1 x88 x113.2 ke0 kr)) Q:=fun {h1 A1 ms1 iv1 y104} hp1 hn1 hl1 hms1 hcs1 hA1 hg1 S1=>by
   rw [← hp1]
   refine Tl.call' S1 (f23c (k:=k + 1604) (L:=[]) (by rw [List.append_nil]; exact S1)) fun h2 S2 g2=>?_
   have hlen : ∀ h',pLen Try.prog #[23] iv1 h' = some (.int .i64 ms1.length):=fun h'=>by
    have:=(S2.slV 0 rfl).len (h':=h') u23
    rw [this,outs_len]
   have ne : ((A1.n : Int) != (ms1.length : Int)) = false:=bne_f (by omega)
   repeat (first | (with_reducible apply qzV; simp (disch:=omega) only [coreA,Int.reduceBEq,bzY27,hlen,ne] <;> with_reducible rfl) | (with_reducible first | apply qzT | apply qzF | apply qzG | apply qzH) | ((with_reducible first | apply qzB | apply qzC | apply qzD); simp (disch:=omega) only [coreA,Int.reduceBEq,bzY27,hlen,ne] <;> with_reducible rfl))
   rw [e]
   exact ih (by omega) (by omega) hn1 hms1 hcs1 hA1 hg1 S2 hk
  have mid : ∀ {h1 : AH} {L1 : List (Nat × AO)} {O1 : List OS} {K : Value × AH→Option β},Stt Try.prog h0.n h0 h1 L1 O1→(∀ h2,Stt Try.prog h0.n h0 h2 L1 O1→Tl (K (.int .i64 (rowE cols x),h2)) Q)→Tl (bnd (eInv env (k + 1605) (.func 22) #[] #[cv,w] h1) K) Q:=fun {h1 L1 O1 K} S1 hK=>by
   refine Tl.bind (f22x (k:=k + 1305) (C.grow S1.grow) (C0.grow S1.grow) (by omega) (by omega)) ?_
   rintro ⟨r,h2⟩ ⟨er,g2⟩
   simp only at er g2
   subst er
   exact hK _ (S1.call g2)
  rcases hres with ⟨h1',er,S1⟩ | ⟨h1',er,A',hA',hp',hn',S1⟩
  ·simp only at er S1
   subst er
   rw [List.append_nil] at S1
   have hc1:=S1.grow.cell hc0
   rw [h1',if_neg (by simp),List.append_nil] at hfs
   have hne : ¬ rowE cols x = 0:=fun q=>by rw [(rowE_zero cols x).1 q] at h1'; cases h1'
   have q1 : (rowE cols x != rowE cols x) = false:=bne_f rfl
   have q2 : (rowE cols x == 0) = false:=beq_f hne
   repeat (first | (with_reducible apply qzV; simp (disch:=omega) only [coreA,Int.reduceBEq,bzY27,hp,hc1] <;> with_reducible rfl) | (with_reducible first | apply qzT | apply qzF | apply qzG | apply qzH) | ((with_reducible first | apply qzB | apply qzC | apply qzD); simp (disch:=omega) only [coreA,Int.reduceBEq,bzY27,hp,hc1] <;> with_reducible rfl))
   refine mid S1 fun h2 S2=>?_
   repeat (first | (with_reducible apply qzV; simp (disch:=omega) only [coreA,Int.reduceBEq,bzY27,q1,q2] <;> with_reducible rfl) | (with_reducible first | apply qzT | apply qzF | apply qzG | apply qzH) | ((with_reducible first | apply qzB | apply qzC | apply qzD); simp (disch:=omega) only [coreA,Int.reduceBEq,bzY27,q1,q2] <;> with_reducible rfl))
   simp only [F5_rlrrllrllrlrrrrrrrrr]
   refine Tl.brF ?_
   exact rest (y104:=.bool false) rfl hn (by omega) (by rw [hfs]; exact hms) hcs hA hg S2
  ·simp only at er S1
   subst er
   rw [List.append_nil] at S1
   have hc1:=S1.grow.cell hc0
   rw [if_pos h1'] at hfs
   have hz:=(rowE_zero cols x).2 h1'
   repeat (first | (with_reducible apply qzV; simp (disch:=omega) only [coreA,Int.reduceBEq,bzY27,hp,hc1] <;> with_reducible rfl) | (with_reducible first | apply qzT | apply qzF | apply qzG | apply qzH) | ((with_reducible first | apply qzB | apply qzC | apply qzD); simp (disch:=omega) only [coreA,Int.reduceBEq,bzY27,hp,hc1] <;> with_reducible rfl))
   refine mid S1 fun h2 S2=>?_
   rw [hz]
   have hc2:=S2.grow.cell hc0
   repeat (first | (with_reducible apply qzV; simp (disch:=omega) only [coreA,Int.reduceBEq,bzY27] <;> with_reducible rfl) | (with_reducible first | apply qzT | apply qzF | apply qzG | apply qzH) | ((with_reducible first | apply qzB | apply qzC | apply qzD); simp (disch:=omega) only [coreA,Int.reduceBEq,bzY27] <;> with_reducible rfl))
   simp only [F5_rlrrllrllrlrrrrrrrrr]
   repeat (first | (with_reducible apply qzV; simp (disch:=omega) only [coreA,Int.reduceBEq,bzY27,hp,hc2] <;> with_reducible rfl) | (with_reducible first | apply qzT | apply qzF | apply qzG | apply qzH) | ((with_reducible first | apply qzB | apply qzC | apply qzD); simp (disch:=omega) only [coreA,Int.reduceBEq,bzY27,hp,hc2] <;> with_reducible rfl))
   refine Tl.push S2 0 rfl app23 (r:=[w]) (by rw [ew]; exact bs23 _ _ _ _) rfl (by rw [ew]; rfl) (by rw [outs_len]; omega) fun v' h3 S3=>?_
   have er2 : rowsOf (ms ++ [(w,x)]) = rowsOf ms ++ [x]:=by unfold rowsOf; simp
   have eg : accG aggs by_ (rowsOf ms ++ [x]) = addG aggs (pickL x by_) x (accG aggs by_ (rowsOf ms)):=by unfold accG; rw [List.foldl_append]; rfl
   refine rest (y104:=.bool true) (ms1:=ms ++ [(w,x)]) hp' (by rw [hn',List.length_append,hn]; rfl) (by simp; omega) ?_ ?_ ?_ ?_ ?_
   ·rw [er2,hfs,hms]
   ·intro p hpm
    rcases List.mem_append.1 hpm with hpm | hpm
    ·exact hcs p hpm
    ·rw [List.mem_singleton] at hpm; subst hpm; exact C0
   ·rw [er2,eg]; exact hA'
   ·rw [er2,eg,List.length_append]; exact hg.add ok h1'
   ·have eo : outs (ms ++ [(w,x)]) = outs ms ++ [[w]]:=by unfold outs; simp
    rw [eo]; exact S3
end
theorem f5 {k : Nat} {h : AH} {cv rv bv av : Value} {cols : List ColD} {rows : List (List CellD)} {by_ : List Int} {aggs : List AggD} (C : Cols h cv cols) (R : Rows h rv rows) (B : IntsZ h bv by_) (G : Aggs h av aggs)
  (hcl : cols.length ≤ 9223372036854775807 ∧ cols.length < k) (hrl : rows.length ≤ 9223372036854775807 ∧ rows.length < k) (hr : ∀ r ∈ rows,r.length ≤ 9223372036854775807 ∧ r.length < k) (hbl : by_.length ≤ 9223372036854775807) (hal : aggs.length ≤ 9223372036854775807) (hcell : ∀ r ∈ rows,∀ x ∈ r,cellR x) :
  Tl (F5 (eInv env (k + 110000)) (k + 110000) cv rv bv av h) fun r=>r.1 = .bool true:=by
 unfold F5
 have done : ∀ h' : AH,Tl (some (Value.bool true,h')) fun r=>r.1 = Value.bool true:=fun h'=>⟨_,rfl,rfl⟩
 have hlv:=lives_call (k:=k + 109999) (h:=h)
 have p1:=f11e (k:=k + 109996) C R B G ⟨by omega,by omega⟩ ⟨hrl.1,by omega⟩ (fun r hx=>⟨(hr r hx).1,by have:=(hr r hx).2; omega⟩) hbl hal
 cases q1 : lightA cols rows by_ aggs with
 | false =>
  rw [q1] at p1
  repeat (first | (with_reducible apply qzV; simp (disch:=omega) only [coreA,Int.reduceBEq,bzY27,hlv,p1] <;> with_reducible rfl) | (with_reducible first | apply qzT | apply qzF | apply qzG | apply qzH) | ((with_reducible first | apply qzB | apply qzC | apply qzD); simp (disch:=omega) only [coreA,Int.reduceBEq,bzY27,hlv,p1] <;> with_reducible rfl))
  exact done _
 | true =>
 rw [q1] at p1
 obtain ⟨l1,l2,l3,l4,l5⟩:=lightA_all q1
 have hls : ∀ r ∈ rows,r.length ≤ 1000 ∧ ∀ x ∈ r,cellR x:=fun r hx=>⟨by have:=l3 r hx; omega,hcell r hx⟩
 repeat (first | (with_reducible apply qzV; simp (disch:=omega) only [coreA,Int.reduceBEq,bzY27,hlv,p1] <;> with_reducible rfl) | (with_reducible first | apply qzT | apply qzF | apply qzG | apply qzH) | ((with_reducible first | apply qzB | apply qzC | apply qzD); simp (disch:=omega) only [coreA,Int.reduceBEq,bzY27,hlv,p1] <;> with_reducible rfl))
 refine Tl.bind (f12r (k:=k + 108394) C R B G (by omega) l4 l5 (by omega) hls) ?_
 rintro ⟨r1,h1⟩ ⟨v1,er1,R1,g1⟩
 simp only at er1 R1 g1
 subst er1
 repeat (first | (with_reducible apply qzV; simp (disch:=omega) only [coreA,Int.reduceBEq,bzY27] <;> with_reducible rfl) | (with_reducible first | apply qzT | apply qzF | apply qzG | apply qzH) | ((with_reducible first | apply qzB | apply qzC | apply qzD); simp (disch:=omega) only [coreA,Int.reduceBEq,bzY27] <;> with_reducible rfl))
 refine Tl.bind (f17r (k:=k + 108988) (C.grow g1) (R.grow g1) (B.grow g1) (G.grow g1) (by omega) l4 l5 (by omega) fun r hx=>(hls r hx).1) ?_
 rintro ⟨r2,h2⟩ ⟨v2,er2,R2,g2⟩
 simp only at er2 R2 g2
 subst er2
 have g12:=g1.trans g2
 repeat (first | (with_reducible apply qzV; simp (disch:=omega) only [coreA,Int.reduceBEq,bzY27] <;> with_reducible rfl) | (with_reducible first | apply qzT | apply qzF | apply qzG | apply qzH) | ((with_reducible first | apply qzB | apply qzC | apply qzD); simp (disch:=omega) only [coreA,Int.reduceBEq,bzY27] <;> with_reducible rfl))
 have C2:=C.grow g12
 have RR:=R.grow g12
 have B2:=B.grow g12
 have G2:=G.grow g12
 have Ra:=R1.grow g2
 refine Tl.bind (f18c (k:=k + 108395) (Stt.init h2) C2 B2 G2 (by omega) (by omega) (by omega)) ?_
 rintro ⟨r3,h3⟩ res3
 obtain ⟨rf1,rf2⟩:=resL_fit (cols:=cols) (by_:=by_) (aggs:=aggs) l4 l5 rows
 have two : ∀ {h3 : AH} {L : List (Nat × AO)} {O : List OS} {xp : Value} {nb : Bool} {K : Value→AH→Option (Value × AH)} {Q : Value × AH→Prop},Stt Try.prog h2.n h2 h3 L O→Rows h3 v1 (resL cols by_ aggs rows)→Rows h3 v2 (resL cols by_ aggs rows) →
   (∀ x y,pBin Try.prog .eql 44 x y xp (.pointer none) = some (.bool nb))→(aggsE cols by_ aggs != 0) = nb→(∀ h4,Stt Try.prog h2.n h2 h4 L O→Tl (K (.bool false) h4) Q) →
   Tl (G5_8 (eInv env (k + 110000)) cv rv bv av v1 (.int .i64 (ofE cols by_ aggs rows)) v2 (.int .i64 (ofE cols by_ aggs rows)) xp (.int .i64 (aggsE cols by_ aggs)) h3 K) Q:=fun {h3 L O xp nb K Q} S3 Ra Rb hnil hnb hK=>by
  have hs:=f16e (k:=k + 109999) Ra Rb (by omega) (by omega) (fun r hx=>⟨by have:=rf2 r hx; omega,by have:=rf2 r hx; omega⟩) (fun r hx=>by have:=rf2 r hx; omega) (by omega)
  rw [decide_eq_true rfl] at hs
  have e1 : (ofE cols by_ aggs rows != ofE cols by_ aggs rows) = false:=bne_f rfl
  have e2 : (aggsE cols by_ aggs != aggsE cols by_ aggs) = false:=bne_f rfl
  have nbb : ∀ x y,pBin Try.prog .neq 4 x y (.bool nb) (.bool nb) = some (.bool false):=fun x y=>by cases nb <;> kernel_rfl
  simp only [G5_8]
  repeat (first | (with_reducible apply qzV; simp (disch:=omega) only [coreA,Int.reduceBEq,bzY27,hs,e1] <;> with_reducible rfl) | (with_reducible first | apply qzT | apply qzF | apply qzG | apply qzH) | ((with_reducible first | apply qzB | apply qzC | apply qzD); simp (disch:=omega) only [coreA,Int.reduceBEq,bzY27,hs,e1] <;> with_reducible rfl))
  refine Tl.bind (f19x (k:=k + 109700) (C2.grow S3.grow) (B2.grow S3.grow) (G2.grow S3.grow) (by omega) (by omega) (by omega)) ?_
  rintro ⟨r,h4⟩ ⟨er,g4⟩
  simp only at er g4
  subst er
  have S4:=S3.call g4
  repeat (first | (with_reducible apply qzV; simp (disch:=omega) only [coreA,Int.reduceBEq,bzY27,e2] <;> with_reducible rfl) | (with_reducible first | apply qzT | apply qzF | apply qzG | apply qzH) | ((with_reducible first | apply qzB | apply qzC | apply qzD); simp (disch:=omega) only [coreA,Int.reduceBEq,bzY27,e2] <;> with_reducible rfl))
  refine Tl.bind (f20x (k:=k + 109700) (C2.grow S4.grow) (B2.grow S4.grow) (G2.grow S4.grow) (by omega) (by omega) (by omega)) ?_
  rintro ⟨r,h5⟩ ⟨er,g5⟩
  simp only at er g5
  subst er
  have S5:=S4.call g5
  repeat (first | (with_reducible apply qzV; simp (disch:=omega) only [coreA,Int.reduceBEq,bzY27,e2,hnil,hnb,nbb] <;> with_reducible rfl) | (with_reducible first | apply qzT | apply qzF | apply qzG | apply qzH) | ((with_reducible first | apply qzB | apply qzC | apply qzD); simp (disch:=omega) only [coreA,Int.reduceBEq,bzY27,e2,hnil,hnb,nbb] <;> with_reducible rfl))
  exact hK _ S5
 rcases res3 with ⟨ok,er3,S3⟩ | ⟨ok,A,hA,hn,er3,S3⟩
 ·simp only at er3 S3
  subst er3
  have hne : aggsE cols by_ aggs ≠ 0:=fun q=>by rw [(aggsE_zero cols by_ aggs).1 q] at ok; cases ok
  have nn : ∀ x y,pBin Try.prog .eql 44 x y (.pointer none) (.pointer none) = some (.bool true):=fun x y=>by kernel_rfl
  repeat (first | (with_reducible apply qzV; simp (disch:=omega) only [coreA,Int.reduceBEq,bzY27] <;> with_reducible rfl) | (with_reducible first | apply qzT | apply qzF | apply qzG | apply qzH) | ((with_reducible first | apply qzB | apply qzC | apply qzD); simp (disch:=omega) only [coreA,Int.reduceBEq,bzY27] <;> with_reducible rfl))
  refine two S3 (Ra.grow S3.grow) (R2.grow S3.grow) nn (bne_t hne) fun h4 S4=>?_
  repeat (first | (with_reducible apply qzV; simp (disch:=omega) only [coreA,Int.reduceBEq,bzY27,nn] <;> with_reducible rfl) | (with_reducible first | apply qzT | apply qzF | apply qzG | apply qzH) | ((with_reducible first | apply qzB | apply qzC | apply qzD); simp (disch:=omega) only [coreA,Int.reduceBEq,bzY27,nn] <;> with_reducible rfl))
  exact done _
 ·simp only at er3 S3
  subst er3
  rw [List.append_nil] at S3
  have hz : aggsE cols by_ aggs = 0:=(aggsE_zero cols by_ aggs).2 ok
  have nl:=accNil A.p
  repeat (first | (with_reducible apply qzV; simp (disch:=omega) only [coreA,Int.reduceBEq,bzY27] <;> with_reducible rfl) | (with_reducible first | apply qzT | apply qzF | apply qzG | apply qzH) | ((with_reducible first | apply qzB | apply qzC | apply qzD); simp (disch:=omega) only [coreA,Int.reduceBEq,bzY27] <;> with_reducible rfl))
  have e0 : (Value.int .i64 0) = .int .i64 (aggsE cols by_ aggs):=by rw [hz]
  rw [e0]
  refine two S3 (Ra.grow S3.grow) (R2.grow S3.grow) nl (bne_f hz) fun h4 S4=>?_
  rw [← e0]
  repeat (first | (with_reducible apply qzV; simp (disch:=omega) only [coreA,Int.reduceBEq,bzY27,nl] <;> with_reducible rfl) | (with_reducible first | apply qzT | apply qzF | apply qzG | apply qzH) | ((with_reducible first | apply qzB | apply qzC | apply qzD); simp (disch:=omega) only [coreA,Int.reduceBEq,bzY27,nl] <;> with_reducible rfl))
  obtain ⟨al,bl,cl,hmay⟩:=aggsOk_may ok
  refine f5_loop (k:=k + 108395) C2 RR (by omega) (by omega) hls ok rows.length (i:=0) (A:=A) (ms:=[]) (by omega) (by omega) hn rfl (fun p hp=>by cases hp) hA (newG_fit ok) (S4.nil 1) fun h5 A5 iv ms y1 y2 hms hcs hA5 hg5 S5=>?_
  have hml : ms.length ≤ 100:=by
   have h1:=congrArg List.length hms
   rw [rowsOf_len] at h1
   have h2:=List.length_filter_le (rowOk cols) rows
   omega
  refine Tl.bind (acc_rows (k:=k + 108996) (L:=[]) (by rw [List.append_nil]; exact S5) hA5 hg5 (by omega)) ?_
  rintro ⟨va,h6⟩ ⟨rs,qs,q1',q2',q3',S6⟩
  simp only at S6
  have hfit : ∀ r ∈ rowsOf ms,rowOk cols r = true ∧ ∀ x ∈ r,cellR x:=fun r hr'=>by
   rw [hms] at hr'
   obtain ⟨m1,m2⟩:=List.mem_filter.1 hr'
   exact ⟨m2,(hls r m1).2⟩
  have hte:=told_eq ok hfit (by rw [rowsOf_len]; omega) q1' q2'
  have RA : Rows h6 va (toldL by_ aggs (rowsOf ms)):=by
   rw [← hte,← q3']
   exact rowsOut S6
  have RI : Rows h6 iv (rowsOf ms):=by
   refine ⟨ms.map (·.1),?_,all2_map fun p hp=>(hcs p hp).grow S6.grow⟩
   rw [List.map_map]
   have S7:=S6.permO (O':=(iv,1,outs ms) :: (va,1,outs rs) :: owns rs) (perm_of fun f g z0 hc hap=>by simp only [z0,hc,hap]; omega)
   exact (S7.slV 0 rfl).z
  have g6:=S6.grow
  refine Tl.bind (f25c (k:=k + 108989) RI (B2.grow g6) (G2.grow g6) l4 (by rw [rowsOf_len]; omega) (by omega) (aggs_in ok fun r hr'=>(hfit r hr').1)) ?_
  rintro ⟨vb,h7⟩ ⟨os,hos,S7⟩
  simp only at S7
  have RB : Rows h7 vb (toldL by_ aggs (rowsOf ms)):=by
   rw [← hos]
   exact rowsOut (O:=[]) (by rw [List.append_nil]; exact S7)
  obtain ⟨tf1,tf2⟩:=toldL_fit l4 l5 (rowsOf ms) (by_:=by_) (aggs:=aggs)
  rw [rowsOf_len] at tf1
  have hs:=f16e (k:=k + 109999) (RA.grow S7.grow) RB (by omega) (by omega) (fun r hx=>⟨by have:=tf2 r hx; omega,by have:=tf2 r hx; omega⟩) (fun r hx=>by have:=tf2 r hx; omega) (by omega)
  rw [decide_eq_true rfl] at hs
  repeat (first | (with_reducible apply qzV; simp (disch:=omega) only [coreA,Int.reduceBEq,bzY27,hs] <;> with_reducible rfl) | (with_reducible first | apply qzT | apply qzF | apply qzG | apply qzH) | ((with_reducible first | apply qzB | apply qzC | apply qzD); simp (disch:=omega) only [coreA,Int.reduceBEq,bzY27,hs] <;> with_reducible rfl))
  exact done _
end Go.Proofs.Ytgklcfnjahomjaa.Sh
