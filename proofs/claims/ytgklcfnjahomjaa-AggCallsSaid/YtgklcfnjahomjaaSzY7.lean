/- What aggregates tell of all rows (the code's 'Rows', 'Len'). -/
import Derived.Test.YtgklcfnjahomjaaSzY6
set_option linter.unusedVariables false
set_option linter.unusedSimpArgs false
set_option maxRecDepth 100000
namespace Go.Proofs.Ytgklcfnjahomjaa.Sh
open Go Go.RowKit Go.Proofs.Ev
theorem bzY7 : type_of% (And.intro @ld3 (And.intro @ld2 (And.intro @ld9 (And.intro @ld37 (And.intro @ld28 (And.intro @ld34 (And.intro @ld22 (And.intro @ld24 (And.intro @ld77 (And.intro @ld81 (And.intro @ld29 (And.intro @ld67 (And.intro @ld70 (And.intro @fa37_0 (And.intro @fa37_1 (And.intro @fa37_2 (And.intro @fa28_0 (And.intro @fa28_1 (And.intro @fa79_0 (And.intro @fa79_1 (And.intro @fa69_0 (And.intro @fa69_1 (And.intro @fa69_2 (And.intro @fa69_3 (And.intro @fa69_4 (And.intro @nilC (And.intro @ex2_0 (And.intro @ex2_1 (@Nat.add_zero))))))))))))))))))))))))))))):=And.intro @ld3 (And.intro @ld2 (And.intro @ld9 (And.intro @ld37 (And.intro @ld28 (And.intro @ld34 (And.intro @ld22 (And.intro @ld24 (And.intro @ld77 (And.intro @ld81 (And.intro @ld29 (And.intro @ld67 (And.intro @ld70 (And.intro @fa37_0 (And.intro @fa37_1 (And.intro @fa37_2 (And.intro @fa28_0 (And.intro @fa28_1 (And.intro @fa79_0 (And.intro @fa79_1 (And.intro @fa69_0 (And.intro @fa69_1 (And.intro @fa69_2 (And.intro @fa69_3 (And.intro @fa69_4 (And.intro @nilC (And.intro @ex2_0 (And.intro @ex2_1 (@Nat.add_zero))))))))))))))))))))))))))))
/-! ### The keys in order -/
theorem lift_perm {α γ : Type} (f : α→γ) : ∀ (m : List α) {l : List γ},l.Perm (m.map f)→∃ m' : List α,m'.Perm m ∧ m'.map f = l
 | [],l,h=>⟨[],.refl _,by simpa using h.symm⟩
 | a :: m,l,h=>by
  have hm : f a ∈ l:=h.mem_iff.2 (by simp)
  obtain ⟨s,t,rfl⟩:=List.append_of_mem hm
  have h2 : (s ++ t).Perm (m.map f):=(List.perm_cons (f a)).1 (List.perm_middle.symm.trans h)
  obtain ⟨m',h3,h4⟩:=lift_perm f m h2
  obtain ⟨m1,m2,rfl,e1,e2⟩:=List.map_eq_append_iff.1 h4
  exact ⟨m1 ++ a :: m2,List.perm_middle.trans (h3.cons a),by simp [e1,e2]⟩
theorem ents_texts : ∀ (gs : List Grp) (o : Nat),textsOf (ents o gs) = some (gs.map fun x=>keyS x.row)
 | [],_=>rfl
 | x :: gs,o=>by simp [ents,textsOf,ents_texts gs (o + 1)]
theorem ents_born : ∀ (gs : List Grp) (o : Nat),(ents o gs).map (·.born) = List.range' o gs.length
 | [],_=>rfl
 | x :: gs,o=>by simp [ents,ents_born gs (o + 1),List.range'_succ]
theorem ents_len (gs : List Grp) (o : Nat) : (ents o gs).length = gs.length:=by
 have:=congrArg List.length (ents_born gs o)
 simpa using this
theorem ents_fine {gs : List Grp} (hd : (gs.map fun x=>keyS x.row).Nodup) (hs : ∀ x ∈ gs,(keyS x.row).size ≤ maxLen) (hl : gs.length ≤ 1099511627776) : mapFine (ents 0 gs) gs.length (gs.map fun x=>keyS x.row) = true:=by
 unfold mapFine
 rw [Bool.and_eq_true,Bool.and_eq_true,Bool.and_eq_true,Bool.and_eq_true]
 refine ⟨?_,?_,?_,?_,?_⟩
 ·rw [List.all_eq_true]
  intro e he
  have : e.born ∈ (ents 0 gs).map (·.born):=List.mem_map.2 ⟨e,he,rfl⟩
  rw [ents_born,List.mem_range'] at this
  obtain ⟨i,hi,e'⟩:=this
  simp; omega
 ·rw [ents_born]; simp [List.nodup_range']
 ·simpa using hd
 ·rw [List.all_eq_true]
  intro s h
  obtain ⟨x,hx,rfl⟩:=List.mem_map.1 h
  simpa using hs x hx
 ·rw [ents_len]; simpa using hl
/-- Groups by their keys' bytes. -/
def keyB (x : Grp) : List UInt8:=bytesB (keyS x.row)
theorem enc_key (x : Grp) : encStr (keyB x) = .string (keyS x.row):=by
 unfold keyB bytesB encStr
 rfl
theorem sorted_grps (gs : List Grp) : ∃ hs : List Grp,hs.Perm gs ∧ hs.map keyB = sortedT (gs.map fun x=>keyS x.row):=by
 have h:=sortedT_perm (gs.map fun x=>keyS x.row)
 rw [List.map_map] at h
 exact lift_perm keyB gs h
def gkey (x : Grp) : Value:=.string (keyS x.row)
/-- The keys in order, in memory of their own. -/
theorem sorted_call {k : Nat} {n0 : Nat} {h0 h : AH} {L : List (Nat × AO)} {O : List OS} {gs : List Grp} {m : Nat} (S : Stt Try.prog n0 h0 h L O) (hm : (m,mapO gs) ∈ L) (hd : (gs.map fun x=>keyS x.row).Nodup)
  (hs : ∀ x ∈ gs,(keyS x.row).size ≤ maxLen) (hl : gs.length ≤ 1099511627776) {β' : Type} {K : Value × AH→Option β'} {Q : β'→Prop}
  (hk : ∀ v h' F qs,qs.Perm gs→qs.map keyB = sortedT (gs.map fun x=>keyS x.row)→Stt Try.prog n0 h0 h' (F ++ L) O→(∀ h'',Mem h'' F→Sl1 Try.prog h'' v gkey qs)→Tl (K (v,h')) Q) :
  Tl (bnd (eInv env (k + 2) (.func 50) #[] #[.map (some m)] h) fun x=>bnd (eInv env (k + 2) (.func 49) #[] #[x.1] x.2) K) Q:=by
 refine Tl.bind (R:=fun r=>∃ b,r.1 = .func (.func 69) #[] #[.pointer (some ⟨b,0,none⟩)] ∧ Stt Try.prog n0 h0 r.2 ((b,.cells [.map (some m)] 67 true) :: L) O) ?_ ?_
 ·rw [F50_call]
  unfold F50
  refine Tl.box' S rfl (by rw [sz67]; rfl) fun b h3 S3 _=>?_
  repeat (first | (with_reducible apply qzV; simp (disch:=omega) only [coreA,Int.reduceBEq,bzY7,pMakeFunc,kn] <;> with_reducible rfl) | (with_reducible first | apply qzT | apply qzF | apply qzG | apply qzH) | ((with_reducible first | apply qzB | apply qzC | apply qzD); simp (disch:=omega) only [coreA,Int.reduceBEq,bzY7,pMakeFunc,kn] <;> with_reducible rfl))
  exact ⟨_,rfl,b,rfl,S3⟩
 rintro ⟨fv,h3⟩ ⟨b,rfl,S3⟩
 simp only at S3
 have hb : h3.get b = some (.cells [.map (some m)] 67 true):=getL S3 (by simp)
 have hm3 : h3.get m = some (mapO gs):=getL S3 (by simp [hm])
 have hfine:=ents_fine hd hs hl
 have ek : keysO [69] 9 #[.func (.func 69) #[] #[.pointer (some ⟨b,0,none⟩)]] h3 = if (gs.map fun x=>keyS x.row).isEmpty then some (.slice none 0 0,h3) else some (.slice (some ⟨h3.n,0,none⟩) (gs.map fun x=>keyS x.row).length (gs.map fun x=>keyS x.row).length,h3.alloc (.cells ((sortedT (gs.map fun x=>keyS x.row)).map encStr) 9 true)):=by
  unfold keysO
  simp only [hb,hm3,mapO,ents_texts,Option.bind_some,hfine]
  exact if_pos (by decide)
 have ec : eInv env (k + 2) (.func 49) #[] #[.func (.func 69) #[] #[.pointer (some ⟨b,0,none⟩)]] h3 = _:=keys_call.trans ek
 obtain ⟨qs,q1,q2⟩:=sorted_grps gs
 have S4:=S3.drop
 by_cases q : gs = []
 ·have e1 : (gs.map fun x=>keyS x.row).isEmpty = true:=by rw [q]; rfl
  rw [e1,if_pos rfl] at ec
  repeat (first | (with_reducible apply qzV; simp (disch:=omega) only [coreA,Int.reduceBEq,bzY7,ec] <;> with_reducible rfl) | (with_reducible first | apply qzT | apply qzF | apply qzG | apply qzH) | ((with_reducible first | apply qzB | apply qzC | apply qzD); simp (disch:=omega) only [coreA,Int.reduceBEq,bzY7,ec] <;> with_reducible rfl))
  have e2 : qs = []:=by rw [q] at q1; exact q1.eq_nil
  exact hk _ _ [] qs q1 q2 S4 fun h'' _=>by rw [e2]; exact .inl ⟨rfl,rfl⟩
 ·have e1 : (gs.map fun x=>keyS x.row).isEmpty = false:=by simpa using q
  rw [e1,if_neg (by simp)] at ec
  repeat (first | (with_reducible apply qzV; simp (disch:=omega) only [coreA,Int.reduceBEq,bzY7,ec] <;> with_reducible rfl) | (with_reducible first | apply qzT | apply qzF | apply qzG | apply qzH) | ((with_reducible first | apply qzB | apply qzC | apply qzD); simp (disch:=omega) only [coreA,Int.reduceBEq,bzY7,ec] <;> with_reducible rfl))
  have el : (gs.map fun x=>keyS x.row).length = (qs.map fun x=>[gkey x]).length:=by rw [List.length_map,List.length_map,q1.length_eq]
  have ew : (sortedT (gs.map fun x=>keyS x.row)).map encStr = (qs.map fun x=>[gkey x]).flatten:=by
   rw [← q2,List.map_map]
   have : ∀ l : List Grp,l.map (encStr ∘ keyB) = (l.map fun x=>[gkey x]).flatten:=fun l=>by
    induction l with
    | nil=>rfl
    | cons a l ih=>simp only [List.map_cons,List.flatten_cons,ih,Function.comp_apply,enc_key]; rfl
   exact this qs
  have Sa:=S4.alloc (.cells ((qs.map fun x=>[gkey x]).flatten) 9 true)
  have Sb:=Sa.absorb (n:=1) (fun r hr=>by obtain ⟨x,_,rfl⟩:=List.mem_map.1 hr; rfl) sz9
  obtain ⟨F,S5,hF⟩:=Sb.freeze
  rw [ew,el]
  exact hk _ _ F qs q1 q2 S5 hF
/-! ### Rows -/
def rowT (x : GD) : List CellD:=x.1 ++ x.2.map telTold
section
variable {n0 : Nat} {h0 : AH} {β : Type} {Q : β→Prop}
theorem f24_in {k : Nat} {L : List (Nat × AO)} {O : List OS} {x : Grp} (hx : x.Ok) (hs : ∀ p ∈ x.B,p ∈ L) (hl : x.ts.length ≤ 1000) (hl2 : x.row.length ≤ 1000) {y0 y1 y2 y3 y4 : Value} {ke2 : Value→Value→Value→Value→Value→Value→Value→Value→Value→Value→AH→Option β} (n : Nat) :
  ∀ {i j : Nat} {h : AH} {xv : Value},i + n = x.ts.length→n < j→Stt Try.prog n0 h0 h L ((xv,3,(x.row ++ (x.ts.take i).map fun p=>telTold p.2).map crow) :: O) →
   (∀ h' xv z1 z2 z3 z4,Stt Try.prog n0 h0 h' L ((xv,3,(rowT x.D).map crow) :: O)→Tl (ke2 y0 y1 xv y2 y3 y4 z1 z2 z3 z4 h') Q) →
   Tl (F24_lrlrrrllrrllrlrrr (eInv env (k + 2)) (k + 2) j y0 y1 xv y2 y3 y4 x.av (.int .i64 x.ts.length) (.int .i64 i) h ke2) Q:=by
 induction n with
 | zero =>
  intro i j h xv hi hj S hk
  obtain ⟨j,rfl⟩ : ∃ q,j = q + 1:=⟨j - 1,by omega⟩
  simp only [F24_lrlrrrllrrllrlrrr]
  repeat (first | (with_reducible apply qzV; simp (disch:=omega) only [coreA,Int.reduceBEq,bzY7] <;> with_reducible rfl) | (with_reducible first | apply qzT | apply qzF | apply qzG | apply qzH) | ((with_reducible first | apply qzB | apply qzC | apply qzD); simp (disch:=omega) only [coreA,Int.reduceBEq,bzY7] <;> with_reducible rfl))
  refine hk _ _ _ _ _ _ ?_
  have : rowT x.D = x.row ++ (x.ts.take i).map fun p=>telTold p.2:=by
   rw [List.take_of_length_le (by omega)]
   unfold rowT Grp.D
   rw [List.map_map]; rfl
  rw [this]; exact S
 | succ n ih =>
  intro i j h xv hi hj S hk
  obtain ⟨j,rfl⟩ : ∃ q,j = q + 1:=⟨j - 1,by omega⟩
  obtain ⟨p,ep⟩ : ∃ z,x.ts[i]? = some z:=⟨_,List.getElem?_eq_getElem (by omega)⟩
  have hSl : Sl1 Try.prog h x.av (fun p : Nat × Tel=>telV p.2 p.1) x.ts:=(hx h (memF S fun q hq=>hs q (by simp [Grp.B,hq]))).2
  obtain ⟨b,o,hp,hc0⟩:=hSl.at_ (k:=.i64) ep u77 sz81
  have hc:=hc0 h (Grow.refl h)
  have e : (i : Int) + 1 = ((i + 1 : Nat) : Int):=by omega
  have hg : h.get p.1 = some (telO p.2):=getL S (hs _ (by
   unfold Grp.B tsB
   exact List.mem_cons_of_mem _ (List.mem_append.2 (.inl (List.mem_map.2 ⟨p,List.mem_of_getElem? ep,rfl⟩)))))
  simp only [F24_lrlrrrllrrllrlrrr]
  repeat (first | (with_reducible apply qzV; simp (disch:=omega) only [coreA,Int.reduceBEq,bzY7,hp,hc] <;> with_reducible rfl) | (with_reducible first | apply qzT | apply qzF | apply qzG | apply qzH) | ((with_reducible first | apply qzB | apply qzC | apply qzD); simp (disch:=omega) only [coreA,Int.reduceBEq,bzY7,hp,hc] <;> with_reducible rfl))
  refine Tl.call' S (tel_told (k:=k) hg) fun h1 S1 g1=>?_
  refine Tl.push S1 0 rfl appC (bsC1 _ _) rfl rfl (by simp; omega) fun v' h2 S2=>?_
  repeat (first | (with_reducible apply qzV; simp (disch:=omega) only [coreA,Int.reduceBEq,bzY7] <;> with_reducible rfl) | (with_reducible first | apply qzT | apply qzF | apply qzG | apply qzH) | ((with_reducible first | apply qzB | apply qzC | apply qzD); simp (disch:=omega) only [coreA,Int.reduceBEq,bzY7] <;> with_reducible rfl))
  rw [e]
  refine ih (by omega) (by omega) ?_ hk
  have : (x.row ++ (x.ts.take (i + 1)).map fun p=>telTold p.2).map crow = (x.row ++ (x.ts.take i).map fun p=>telTold p.2).map crow ++ [crow (telTold p.2)]:=by
   rw [List.take_add_one,ep]
   simp
  rw [this]
  exact S2
theorem f24_out {k : Nat} {A : AccM} {L : List (Nat × AO)} {O : List OS} {kv : Value} {qs : List Grp} {F : List (Nat × AO)} (hA : A.Ok) (hq : qs.Perm A.gs) (hd : (A.gs.map fun x=>keyS x.row).Nodup) (hts : ∀ x ∈ A.gs,x.ts.length ≤ 1000 ∧ x.row.length ≤ 1000)
  (hF : ∀ h,Mem h F→Sl1 Try.prog h kv gkey qs) (hl : qs.length ≤ 2 ^ 30) {ke0 : Value→Value→Value→Value→Value→Value→AH→Option β} (hk1 : 1000 < k) (n : Nat) :
  ∀ {i j : Nat} {h : AH} {xv : Value} {rs : RS},i + n = qs.length→n < j→rowsOf rs = (qs.take i).map (fun x=>rowT x.D)→Stt Try.prog n0 h0 h (F ++ (A.B ++ L)) ((xv,1,outs rs) :: (owns rs ++ O)) →
   (∀ h' xv rs z1 z2 z3 z4,rowsOf rs = qs.map (fun x=>rowT x.D)→Stt Try.prog n0 h0 h' (F ++ (A.B ++ L)) ((xv,1,outs rs) :: (owns rs ++ O))→Tl (ke0 z1 xv kv z2 z3 z4 h') Q) →
   Tl (F24_lrlrrr (eInv env (k + 2)) (k + 2) j (.pointer (some ⟨A.p,0,none⟩)) xv kv (.int .i64 qs.length) (.int .i64 i) h ke0) Q:=by
 induction n with
 | zero =>
  intro i j h xv rs hi hj hr S hk
  obtain ⟨j,rfl⟩ : ∃ q,j = q + 1:=⟨j - 1,by omega⟩
  simp only [F24_lrlrrr]
  repeat (first | (with_reducible apply qzV; simp (disch:=omega) only [coreA,Int.reduceBEq,bzY7] <;> with_reducible rfl) | (with_reducible first | apply qzT | apply qzF | apply qzG | apply qzH) | ((with_reducible first | apply qzB | apply qzC | apply qzD); simp (disch:=omega) only [coreA,Int.reduceBEq,bzY7] <;> with_reducible rfl))
  exact hk _ _ rs _ _ _ _ (by rw [hr,List.take_of_length_le (by omega)]) S
 | succ n ih =>
  intro i j h xv rs hi hj hr S hk
  obtain ⟨j,rfl⟩ : ∃ q,j = q + 1:=⟨j - 1,by omega⟩
  obtain ⟨x,ex⟩ : ∃ z,qs[i]? = some z:=⟨_,List.getElem?_eq_getElem (by omega)⟩
  have hxm : x ∈ A.gs:=hq.mem_iff.1 (List.mem_of_getElem? ex)
  have hx:=hA.grps x hxm
  obtain ⟨b,o,hp,hc0⟩:=(hF h (memF S fun p hp=>List.mem_append.2 (.inl hp))).at_ (k:=.i64) ex u84 sz9
  have hc:=hc0 h (Grow.refl h)
  have hc : h.cell b o = some (.string (keyS x.row)):=hc
  have e : (i : Int) + 1 = ((i + 1 : Nat) : Int):=by omega
  have hsub : ∀ p ∈ x.B,p ∈ F ++ (A.B ++ L):=fun p hp=>by
   refine List.mem_append.2 (.inr (List.mem_append.2 (.inl ?_)))
   unfold AccM.B
   refine List.mem_cons_of_mem _ (List.mem_cons_of_mem _ (List.mem_append.2 (.inr (List.mem_flatMap.2 ⟨x,hxm,hp⟩))))
  have c3 : h.cell A.p 3 = some (.map (some A.m)):=by rw [cell_of (getL S (b:=A.p) (o:=accO A.cv A.bv A.av A.m A.n) (by simp [AccM.B]))]; rfl
  have hm : h.get A.m = some (mapO A.gs):=getL S (by simp [AccM.B])
  obtain ⟨pre,post,hgs⟩:=List.append_of_mem hxm
  have hpre : ∀ y ∈ pre,¬ keyS y.row = keyS x.row:=by
   intro y hy e
   rw [hgs,List.map_append,List.map_cons] at hd
   have:=(List.nodup_append.1 hd).2.2 (keyS y.row) (List.mem_map.2 ⟨y,hy,rfl⟩) (keyS x.row) (List.mem_cons_self ..)
   exact this e
  obtain ⟨jj,hj2⟩:=findG_at (keyS x.row) x post rfl pre 0 0 hpre
  rw [← hgs] at hj2
  have hlk:=lookup_at (P:=Try.prog) (t:=67) (ok:=false) hm mapG u9 (k:=.string (keyS x.row)) rfl hj2
  simp only [Bool.false_eq_true,if_false] at hlk
  have cg0 : h.cell x.g 0 = some x.rv:=by rw [cell_of (getL S (hsub (x.g,grpO x.rv x.av) (by simp [Grp.B])))]; rfl
  simp only [F24_lrlrrr]
  repeat (first | (with_reducible apply qzV; simp (disch:=omega) only [coreA,Int.reduceBEq,bzY7,hp,hc,c3,hlk,cg0] <;> with_reducible rfl) | (with_reducible first | apply qzT | apply qzF | apply qzG | apply qzH) | ((with_reducible first | apply qzB | apply qzC | apply qzD); simp (disch:=omega) only [coreA,Int.reduceBEq,bzY7,hp,hc,c3,hlk,cg0] <;> with_reducible rfl))
  have hxF : Mem h x.F:=memF S fun p hp=>hsub p (by simp [Grp.B,hp])
  refine Tl.bind (f51c (k:=k + 1) S (hx h hxF).1 (by have:=(hts x hxm).2; omega)) fun r S1=>?_
  obtain ⟨w,h1⟩:=r
  simp only at S1
  have cg1 : h1.cell x.g 1 = some x.av:=by rw [cell_of (getL S1 (hsub (x.g,grpO x.rv x.av) (by simp [Grp.B])))]; rfl
  have hsl : ∀ h',pLen Try.prog #[77] x.av h' = some (.int .i64 x.ts.length):=fun h'=>by
   have:=(hx h hxF).2.len (h':=h') u77
   rw [this]; simp [tsV]
  repeat (first | (with_reducible apply qzV; simp (disch:=omega) only [coreA,Int.reduceBEq,bzY7,cg1,hsl] <;> with_reducible rfl) | (with_reducible first | apply qzT | apply qzF | apply qzG | apply qzH) | ((with_reducible first | apply qzB | apply qzC | apply qzD); simp (disch:=omega) only [coreA,Int.reduceBEq,bzY7,cg1,hsl] <;> with_reducible rfl))
  refine f24_in (k:=k) hx hsub (hts x hxm).1 (hts x hxm).2 x.ts.length (i:=0) (by omega) (by have:=(hts x hxm).1; omega) (by simpa using S1) fun h2 xv2 z1 z2 z3 z4 S2=>?_
  obtain ⟨a,c,ew,_⟩:=(S2.slV 0 rfl).form
  have hlen : rs.length = i:=by
   have:=congrArg List.length hr
   rw [rowsOf_len,List.length_map,List.length_take] at this
   omega
  show Tl (bnd (pBuildSlice Try.prog 23 1 #[(0,xv2)] h2) _) Q
  refine Tl.push S2 1 rfl app23 (r:=[xv2]) (by rw [ew]; exact bs23 _ _ _ _) rfl (by rw [ew]; rfl) (by rw [outs_len]; omega) fun v' h' S3=>?_
  have S4:=S3.permO (O':=(v',1,outs (rs ++ [(xv2,rowT x.D)])) :: (owns (rs ++ [(xv2,rowT x.D)]) ++ O)) (by
   unfold outs owns
   rw [List.map_append,List.map_append]
   refine perm_of fun f g z0 hc hap=>?_
   simp only [z0,hc,hap,List.set_cons_succ,List.set_cons_zero,List.map_cons,List.map_nil]; omega)
  repeat (first | (with_reducible apply qzV; simp (disch:=omega) only [coreA,Int.reduceBEq,bzY7] <;> with_reducible rfl) | (with_reducible first | apply qzT | apply qzF | apply qzG | apply qzH) | ((with_reducible first | apply qzB | apply qzC | apply qzD); simp (disch:=omega) only [coreA,Int.reduceBEq,bzY7] <;> with_reducible rfl))
  rw [e]
  exact ih (by omega) (by omega) (by
   unfold rowsOf at hr ⊢
   rw [List.map_append,hr,List.take_add_one,ex,List.map_append]; rfl) S4 hk
/-- What is told of all rows. -/
theorem f24c {k : Nat} {A : AccM} {h : AH} {L : List (Nat × AO)} {O : List OS} (S : Stt Try.prog n0 h0 h (A.B ++ L) O) (hA : A.Ok) (hd : (A.gs.map fun x=>keyS x.row).Nodup) (hs : ∀ x ∈ A.gs,(keyS x.row).size ≤ maxLen)
  (hts : ∀ x ∈ A.gs,x.ts.length ≤ 1000 ∧ x.row.length ≤ 1000) (hl : A.gs.length ≤ 1000) :
  Tl (eInv env (k + 1004) (.func 24) #[] #[.pointer (some ⟨A.p,0,none⟩)] h) fun r=>∃ (rs : RS) (qs : List Grp),qs.Perm A.gs ∧ qs.map keyB = sortedT (A.gs.map fun x=>keyS x.row) ∧ rowsOf rs = qs.map (fun x=>rowT x.D) ∧
   Stt Try.prog n0 h0 r.2 (A.B ++ L) ((r.1,1,outs rs) :: (owns rs ++ O)):=by
 rw [F24_call]
 unfold F24
 have nl:=accNil A.p
 have c3 : h.cell A.p 3 = some (.map (some A.m)):=by rw [cell_of (getL S (b:=A.p) (o:=accO A.cv A.bv A.av A.m A.n) (by simp [AccM.B]))]; rfl
 repeat (first | (with_reducible apply qzV; simp (disch:=omega) only [coreA,Int.reduceBEq,bzY7,nl,c3] <;> with_reducible rfl) | (with_reducible first | apply qzT | apply qzF | apply qzG | apply qzH) | ((with_reducible first | apply qzB | apply qzC | apply qzD); simp (disch:=omega) only [coreA,Int.reduceBEq,bzY7,nl,c3] <;> with_reducible rfl))
 refine sorted_call (k:=k + 1001) S (by simp [AccM.B]) hd hs (by omega) fun v h1 F qs q1 q2 S1 hF=>?_
 have hlq:=q1.length_eq
 have hsl : ∀ h',pLen Try.prog #[84] v h' = some (.int .i64 qs.length):=fun h'=>by
  have:=(hF h1 (memF S1 fun p hp=>List.mem_append.2 (.inl hp))).len (h':=h') u84
  exact this
 repeat (first | (with_reducible apply qzV; simp (disch:=omega) only [coreA,Int.reduceBEq,bzY7,hsl] <;> with_reducible rfl) | (with_reducible first | apply qzT | apply qzF | apply qzG | apply qzH) | ((with_reducible first | apply qzB | apply qzC | apply qzD); simp (disch:=omega) only [coreA,Int.reduceBEq,bzY7,hsl] <;> with_reducible rfl))
 refine f24_out (k:=k + 1001) hA q1 hd hts hF (by omega) (by omega) qs.length (i:=0) (rs:=[]) (by omega) (by omega) (by simp [rowsOf]) (S1.nil 1) fun h2 xv rs z1 z2 z3 z4 hr S2=>?_
 exact ⟨_,rfl,rs,qs,q1,q2,hr,dropL F S2⟩
theorem f23c {k : Nat} {A : AccM} {h : AH} {L : List (Nat × AO)} {O : List OS} (S : Stt Try.prog n0 h0 h (A.B ++ L) O) : Tl (eInv env (k + 1) (.func 23) #[] #[.pointer (some ⟨A.p,0,none⟩)] h) fun r=>r.1 = .int .i64 (A.n : Int) ∧ Grow h r.2:=by
 rw [F23_call]
 unfold F23
 have nl:=accNil A.p
 have c4 : h.cell A.p 4 = some (.int .i64 (A.n : Int)):=by rw [cell_of (getL S (b:=A.p) (o:=accO A.cv A.bv A.av A.m A.n) (by simp [AccM.B]))]; rfl
 repeat (first | (with_reducible apply qzV; simp (disch:=omega) only [coreA,Int.reduceBEq,bzY7,nl,c4] <;> with_reducible rfl) | (with_reducible first | apply qzT | apply qzF | apply qzG | apply qzH) | ((with_reducible first | apply qzB | apply qzC | apply qzD); simp (disch:=omega) only [coreA,Int.reduceBEq,bzY7,nl,c4] <;> with_reducible rfl))
 exact ⟨_,rfl,rfl,Grow.refl h⟩
end
end Go.Proofs.Ytgklcfnjahomjaa.Sh
