/- A row is told to aggregates (the code's 'Add'). -/
import Derived.Test.YtgklcfnjahomjaaSzY5
set_option linter.unusedVariables false
set_option linter.unusedSimpArgs false
set_option maxRecDepth 100000
namespace Go.Proofs.Ytgklcfnjahomjaa.Sh
open Go Go.RowKit Go.Proofs.Ev
theorem bzY6 : type_of% (And.intro @ld3 (And.intro @ld2 (And.intro @ld9 (And.intro @ld37 (And.intro @ld28 (And.intro @ld34 (And.intro @ld22 (And.intro @ld24 (And.intro @ld77 (And.intro @ld81 (And.intro @ld29 (And.intro @ld67 (And.intro @fa37_0 (And.intro @fa37_1 (And.intro @fa37_2 (And.intro @fa28_0 (And.intro @fa28_1 (And.intro @fa79_0 (And.intro @fa79_1 (And.intro @fa69_0 (And.intro @fa69_1 (And.intro @fa69_2 (And.intro @fa69_3 (And.intro @fa69_4 (And.intro @nilC (And.intro @ex2_0 (And.intro @ex2_1 (@Nat.add_zero)))))))))))))))))))))))))))):=And.intro @ld3 (And.intro @ld2 (And.intro @ld9 (And.intro @ld37 (And.intro @ld28 (And.intro @ld34 (And.intro @ld22 (And.intro @ld24 (And.intro @ld77 (And.intro @ld81 (And.intro @ld29 (And.intro @ld67 (And.intro @fa37_0 (And.intro @fa37_1 (And.intro @fa37_2 (And.intro @fa28_0 (And.intro @fa28_1 (And.intro @fa79_0 (And.intro @fa79_1 (And.intro @fa69_0 (And.intro @fa69_1 (And.intro @fa69_2 (And.intro @fa69_3 (And.intro @fa69_4 (And.intro @nilC (And.intro @ex2_0 (And.intro @ex2_1 (@Nat.add_zero)))))))))))))))))))))))))))
theorem accNil (p : Nat) : ∀ x y,pBin Try.prog .eql 44 x y (.pointer (some ⟨p,0,none⟩)) (.pointer none) = some (.bool false):=fun x y=>by kernel_rfl
theorem telIn_add {n : Nat} {t : Tel} (h : telIn n t) (row : List CellD) : telIn n (telAdd row t):=by cases t <;> exact h
/-- What is told, part by part. -/
def midT (row : List CellD) (ts : List (Nat × Tel)) (i : Nat) : List (Nat × Tel):=(ts.take i).map (fun p=>(p.1,telAdd row p.2)) ++ ts.drop i
theorem midT_0 (row : List CellD) (ts : List (Nat × Tel)) : midT row ts 0 = ts:=by simp [midT]
theorem midT_all (row : List CellD) (ts : List (Nat × Tel)) {i : Nat} (h : ts.length ≤ i) : midT row ts i = ts.map (fun p=>(p.1,telAdd row p.2)):=by
 unfold midT
 rw [List.take_of_length_le h,List.drop_eq_nil_of_le h,List.append_nil]
theorem f21_loop {β : Type} {k : Nat} {Q : β→Prop} {h0 : AH} {rv xv : Value} {row : List CellD} {ts : List (Nat × Tel)} {F LL : List (Nat × AO)} {O : List OS} (R : Cells h0 rv row) (hl : row.length ≤ 1000) (htl : ts.length ≤ 1000) (ht : ∀ p ∈ ts,telIn row.length p.2)
  (hF : ∀ h,Mem h F→SlV Try.prog h xv 1 (tsV ts)) (hs : ∀ p ∈ F,p ∈ LL) {ke0 : Value→Value→Value→Value→Value→AH→Option β} (n : Nat) :
  ∀ {i j : Nat} {h : AH},i + n = ts.length→n < j→Stt Try.prog h0.n h0 h (tsB (midT row ts i) ++ LL) O →
   (∀ h' y0 y1 y2 y3 y4,Stt Try.prog h0.n h0 h' (tsB (ts.map fun p=>(p.1,telAdd row p.2)) ++ LL) O→Tl (ke0 y0 y1 y2 y3 y4 h') Q) →
   Tl (F21_lrlrrrr (eInv env (k + 20)) (k + 20) j rv xv (.int .i64 ts.length) (.int .i64 i) h ke0) Q:=by
 induction n with
 | zero =>
  intro i j h hi hj S hk
  obtain ⟨j,rfl⟩ : ∃ q,j = q + 1:=⟨j - 1,by omega⟩
  simp only [F21_lrlrrrr]
  repeat (first | (with_reducible apply qzV; simp (disch:=omega) only [coreA,Int.reduceBEq,bzY6] <;> with_reducible rfl) | (with_reducible first | apply qzT | apply qzF | apply qzG | apply qzH) | ((with_reducible first | apply qzB | apply qzC | apply qzD); simp (disch:=omega) only [coreA,Int.reduceBEq,bzY6] <;> with_reducible rfl))
  exact hk _ _ _ _ _ _ (by rw [midT_all row ts (by omega)] at S; exact S)
 | succ n ih =>
  intro i j h hi hj S hk
  obtain ⟨j,rfl⟩ : ∃ q,j = q + 1:=⟨j - 1,by omega⟩
  obtain ⟨p,ep⟩ : ∃ x,ts[i]? = some x:=⟨_,List.getElem?_eq_getElem (by omega)⟩
  have hSl : Sl1 Try.prog h xv (fun p : Nat × Tel=>telV p.2 p.1) ts:=hF h (memF S fun q hq=>List.mem_append.2 (.inr (hs q hq)))
  obtain ⟨b,o,hp,hc0⟩:=hSl.at_ (k:=.i64) ep u77 sz81
  have hc:=hc0 h (Grow.refl h)
  have e : (i : Int) + 1 = ((i + 1 : Nat) : Int):=by omega
  have d1 : ts.drop i = p :: ts.drop (i + 1):=drop_at ep
  have d2 : (ts.take (i + 1)).map (fun p=>(p.1,telAdd row p.2)) = (ts.take i).map (fun p=>(p.1,telAdd row p.2)) ++ [(p.1,telAdd row p.2)]:=by
   rw [List.take_add_one,ep,List.map_append]; rfl
  have S1:=S.perm (L':=(p.1,telO p.2) :: (tsB ((ts.take i).map fun p=>(p.1,telAdd row p.2)) ++ (tsB (ts.drop (i + 1)) ++ LL))) (perm_of fun f g z0 hc hap=>by
   unfold midT tsB
   rw [d1]
   simp only [List.map_append,List.map_cons,z0,hc,hap]; omega)
  simp only [F21_lrlrrrr]
  repeat (first | (with_reducible apply qzV; simp (disch:=omega) only [coreA,Int.reduceBEq,bzY6,hp,hc] <;> with_reducible rfl) | (with_reducible first | apply qzT | apply qzF | apply qzG | apply qzH) | ((with_reducible first | apply qzB | apply qzC | apply qzD); simp (disch:=omega) only [coreA,Int.reduceBEq,bzY6,hp,hc] <;> with_reducible rfl))
  refine Tl.bind (tel_add (k:=k) S1 (R.grow S1.grow) (ht p (List.mem_of_getElem? ep)) hl) ?_
  rintro ⟨r,h2⟩ S2
  repeat (first | (with_reducible apply qzV; simp (disch:=omega) only [coreA,Int.reduceBEq,bzY6] <;> with_reducible rfl) | (with_reducible first | apply qzT | apply qzF | apply qzG | apply qzH) | ((with_reducible first | apply qzB | apply qzC | apply qzD); simp (disch:=omega) only [coreA,Int.reduceBEq,bzY6] <;> with_reducible rfl))
  rw [e]
  refine ih (i:=i + 1) (j:=j) (by omega) (by omega) (S2.perm (perm_of fun f g z0 hc hap=>?_)) hk
  unfold midT tsB
  rw [d2]
  simp only [List.map_append,List.map_cons,List.map_nil,z0,hc,hap]; omega
theorem fitsL_at : ∀ {cs : List ColD} {row : List CellD},fitsL cs row = true→∀ {i : Nat} {c : ColD} {x : CellD},cs[i]? = some c→row[i]? = some x→fitC c x = true
 | [],_,_,i,c,x,hc,_=>by simp at hc
 | c :: cs,[],_,i,c',x,_,hx=>by simp at hx
 | c :: cs,v :: vs,h,i,c',x,hc,hx=>by
  simp only [fitsL,Bool.and_eq_true] at h
  cases i with
  | zero =>
   simp only [List.getElem?_cons_zero,Option.some.injEq] at hc hx
   subst hc hx
   exact h.1
  | succ i=>exact fitsL_at h.2 (i:=i) (by simpa using hc) (by simpa using hx)
theorem rowOk_len {cols : List ColD} {row : List CellD} (h : rowOk cols row = true) : row.length = cols.length:=by
 unfold rowOk at h
 simp only [Bool.and_eq_true,decide_eq_true_eq] at h
 exact h.2.1
theorem rowOk_at {cols : List ColD} {row : List CellD} (h : rowOk cols row = true) {i : Nat} {c : ColD} {x : CellD} (hc : cols[i]? = some c) (hx : row[i]? = some x) : fitC c x = true:=by
 unfold rowOk at h
 simp only [Bool.and_eq_true,decide_eq_true_eq] at h
 exact fitsL_at h.2.2 hc hx
theorem rowOk_cell {cols : List ColD} {row : List CellD} (h : rowOk cols row = true) {x : CellD} (hx : x ∈ row) : cellOk x = true:=by
 obtain ⟨i,hi⟩:=List.mem_iff_getElem?.1 hx
 have hlt:=(List.getElem?_eq_some_iff.1 hi).1
 have hl:=rowOk_len h
 have:=rowOk_at h (List.getElem?_eq_getElem (l:=cols) (i:=i) (by omega)) hi
 unfold fitC at this
 simp only [Bool.and_eq_true] at this
 exact this.1
theorem cellZ_R : cellR cellZ:=by unfold cellR cellZ; decide
/-- Groups whose aggregates are within a row. -/
def GIn (n : Nat) (gs : List GD) : Prop:=∀ x ∈ gs,x.2.length ≤ 500 ∧ ∀ t ∈ x.2,telIn n t
theorem GIn.add {n : Nat} {aggs : List AggD} (hl : aggs.length ≤ 500) (ha : ∀ a ∈ aggs,telIn n (telNew a)) (key row : List CellD) : ∀ {gs : List GD},GIn n gs→GIn n (addG aggs key row gs)
 | [],_=>fun x hx=>by
  simp only [addG,List.mem_singleton] at hx
  subst hx
  refine ⟨by simpa using hl,fun t ht=>?_⟩
  simp only [List.map_map,List.mem_map,Function.comp_apply] at ht
  obtain ⟨a,ha',rfl⟩:=ht
  exact telIn_add (ha a ha') row
 | y :: gs,h=>fun x hx=>by
  simp only [addG] at hx
  split at hx
  ·rcases List.mem_cons.1 hx with rfl | hx
   ·refine ⟨by simpa using (h y (List.mem_cons_self ..)).1,fun t ht=>?_⟩
    simp only [List.mem_map] at ht
    obtain ⟨u,hu,rfl⟩:=ht
    exact telIn_add ((h y (List.mem_cons_self ..)).2 u hu) row
   ·exact h x (List.mem_cons_of_mem _ hx)
  ·rcases List.mem_cons.1 hx with rfl | hx
   ·exact h x (List.mem_cons_self ..)
   ·exact GIn.add hl ha key row (fun z hz=>h z (List.mem_cons_of_mem _ hz)) x hx
/-- A row is told. -/
theorem f21c {k : Nat} {A : AccM} {h0 h : AH} {L : List (Nat × AO)} {O : List OS} {rv : Value} {row : List CellD} (S : Stt Try.prog h0.n h0 h (A.B ++ L) O) (hA : A.Ok) (R : Cells h0 rv row) (hr : ∀ x ∈ row,cellR x) (hrl : row.length ≤ 1000) (hcl : A.cols.length ≤ 1000)
  (ha : ∀ a ∈ A.aggs,a.k = 1 ∨ 0 ≤ a.c) (hal : A.aggs.length ≤ 500) (hbl : A.by_.length ≤ 500) (hn : A.n ≤ 1000000)
  (hin : GIn A.cols.length (A.gs.map Grp.D)) (hin2 : ∀ a ∈ A.aggs,telIn A.cols.length (telNew a)) :
  Tl (eInv env (k + 1605) (.func 21) #[] #[.pointer (some ⟨A.p,0,none⟩),rv] h) fun r =>
   (rowOk A.cols row = false ∧ r.1 = .int .i64 (rowE A.cols row) ∧ Stt Try.prog h0.n h0 r.2 (A.B ++ L) O) ∨
   (rowOk A.cols row = true ∧ r.1 = .int .i64 0 ∧ ∃ gs,{ A with n:=A.n + 1,gs:=gs }.Ok ∧ Stt Try.prog h0.n h0 r.2 ({ A with n:=A.n + 1,gs:=gs }.B ++ L) O ∧ gs.map Grp.D = addG A.aggs (pickL row A.by_) row (A.gs.map Grp.D)):=by
 rw [F21_call]
 unfold F21
 have hF : ∀ {h' L' O'},Stt Try.prog h0.n h0 h' L' O'→(∀ p ∈ A.F,p ∈ L')→Cols h' A.cv A.cols ∧ IntsZ h' A.bv A.by_ ∧ Aggs h' A.av A.aggs:=fun S' hm=>hA.parts _ (memF S' hm)
 have c0 : h.cell A.p 0 = some A.cv:=by rw [cell_of (getL S (b:=A.p) (o:=accO A.cv A.bv A.av A.m A.n) (by simp [AccM.B]))]; rfl
 have nl:=accNil A.p
 repeat (first | (with_reducible apply qzV; simp (disch:=omega) only [coreA,Int.reduceBEq,bzY6,nl,c0] <;> with_reducible rfl) | (with_reducible first | apply qzT | apply qzF | apply qzG | apply qzH) | ((with_reducible first | apply qzB | apply qzC | apply qzD); simp (disch:=omega) only [coreA,Int.reduceBEq,bzY6,nl,c0] <;> with_reducible rfl))
 refine Tl.bind (f46x (k:=k + 1304) (hF S fun p hp=>by simp [AccM.B,hp]).1 (R.grow S.grow) (by omega) (by omega) hr) ?_
 have ez:=rowE_zero A.cols row
 rintro ⟨r,h1⟩ ⟨er,g1⟩
 simp only at er g1
 subst er
 have S1:=S.call g1
 cases ok : rowOk A.cols row with
 | false =>
  have q : ¬ rowE A.cols row = 0:=fun q=>by rw [ez.1 q] at ok; cases ok
  have qq : (rowE A.cols row != 0) = true:=bne_t q
  repeat (first | (with_reducible apply qzV; simp (disch:=omega) only [coreA,Int.reduceBEq,bzY6,qq] <;> with_reducible rfl) | (with_reducible first | apply qzT | apply qzF | apply qzG | apply qzH) | ((with_reducible first | apply qzB | apply qzC | apply qzD); simp (disch:=omega) only [coreA,Int.reduceBEq,bzY6,qq] <;> with_reducible rfl))
  exact ⟨_,rfl,.inl ⟨rfl,rfl,S1⟩⟩
 | true =>
  have q : rowE A.cols row = 0:=ez.2 ok
  have qq : (rowE A.cols row != 0) = false:=bne_f q
  have hlen : row.length = A.cols.length:=by
   unfold rowOk at ok
   simp only [Bool.and_eq_true,decide_eq_true_eq] at ok
   exact ok.2.1
  have c4 : h1.cell A.p 4 = some (.int .i64 (A.n : Int)):=by rw [cell_of (getL S1 (b:=A.p) (o:=accO A.cv A.bv A.av A.m A.n) (by simp [AccM.B]))]; rfl
  repeat (first | (with_reducible apply qzV; simp (disch:=omega) only [coreA,Int.reduceBEq,bzY6,qq,c4] <;> with_reducible rfl) | (with_reducible first | apply qzT | apply qzF | apply qzG | apply qzH) | ((with_reducible first | apply qzB | apply qzC | apply qzD); simp (disch:=omega) only [coreA,Int.reduceBEq,bzY6,qq,c4] <;> with_reducible rfl))
  have S1 : Stt Try.prog h0.n h0 h1 ((A.p,.cells [A.cv,A.bv,A.av,.map (some A.m),.int .i64 (A.n : Int)] 69 true) :: ((A.m,mapO A.gs) :: (A.F ++ A.gs.flatMap Grp.B) ++ L)) O:=S1
  refine Tl.store' S1 0 rfl sz3 rfl rfl (by simp) fun h2 S2 _=>?_
  have en : (A.n : Int) + 1 = ((A.n + 1 : Nat) : Int):=by omega
  have S2 : Stt Try.prog h0.n h0 h2 ({ A with n:=A.n + 1 }.B ++ L) O:=by
   rw [en] at S2
   exact S2
  have c1 : h2.cell A.p 1 = some A.bv:=by rw [cell_of (getL S2 (b:=A.p) (o:=accO A.cv A.bv A.av A.m (A.n + 1)) (by simp [AccM.B]))]; rfl
  repeat (first | (with_reducible apply qzV; simp (disch:=omega) only [coreA,Int.reduceBEq,bzY6,c1] <;> with_reducible rfl) | (with_reducible first | apply qzT | apply qzF | apply qzG | apply qzH) | ((with_reducible first | apply qzB | apply qzC | apply qzD); simp (disch:=omega) only [coreA,Int.reduceBEq,bzY6,c1] <;> with_reducible rfl))
  refine Tl.bind (f47c (k:=k + 1603) (R.grow S2.grow) (hF S2 fun p hp=>by simp [AccM.B,hp]).2.1 (by omega) (by omega)) ?_
  rintro ⟨kv,h3⟩ S3'
  simp only at S3'
  obtain ⟨F,S3,hFr⟩:=(S2.join S3').freeze
  have S3 : Stt Try.prog h0.n h0 h3 ({ A with n:=A.n + 1 }.B ++ (F ++ L)) O:=S3.perm (perm_of fun f g z0 hc hap=>by simp only [z0,hc,hap,List.nil_append]; omega)
  have hkey : ∀ c ∈ pickL row A.by_,cellOk c = true ∧ cellR c:=by
   intro c hc
   unfold pickL at hc
   obtain ⟨z,hz,rfl⟩:=List.mem_map.1 hc
   unfold atC
   split
   ·cases ex : row[z.toNat]? with
    | none=>exact ⟨rfl,cellZ_R⟩
    | some x=>exact ⟨rowOk_cell ok (List.mem_of_getElem? ex),hr x (List.mem_of_getElem? ex)⟩
   ·exact ⟨rfl,cellZ_R⟩
  have hA1 : ({ A with n:=A.n + 1 } : AccM).Ok:=⟨hA.parts,hA.grps⟩
  refine Tl.bind (f39c (k:=k + 1000) (A:={ A with n:=A.n + 1 }) S3 hA1 ha (by simp only; omega) (fun h' m=>(hFr h' m).z) hkey (by unfold pickL; simp; omega) (by simp only; omega)) ?_
  rintro ⟨r,h4⟩ ⟨pre,x,post,er,hok,S4,hadd,hnew,-⟩
  simp only at er S4 hadd hnew
  subst er
  have hx:=hok x (by simp)
  have c5 : h4.cell x.g 1 = some x.av:=by rw [cell_of (getL S4 (b:=x.g) (o:=grpO x.rv x.av) (by simp [AccM.B,Grp.B]))]; rfl
  have hsl : ∀ h',pLen Try.prog #[77] x.av h' = some (.int .i64 x.ts.length):=fun h'=>by
   have:=(hx h4 (memF S4 fun p hp=>by simp [AccM.B,Grp.B,hp])).2.len (h':=h') u77
   rw [this]; simp [tsV]
  have htl : x.ts.length ≤ 1000:=by
   rcases hnew with h | h
   ·have:=(hin x.D (List.mem_map.2 ⟨x,h,rfl⟩)).1
    unfold Grp.D at this
    simp at this
    omega
   ·have:=congrArg List.length (congrArg Prod.snd h)
    unfold Grp.D at this
    simp at this
    omega
  repeat (first | (with_reducible apply qzV; simp (disch:=omega) only [coreA,Int.reduceBEq,bzY6,c5,hsl] <;> with_reducible rfl) | (with_reducible first | apply qzT | apply qzF | apply qzG | apply qzH) | ((with_reducible first | apply qzB | apply qzC | apply qzD); simp (disch:=omega) only [coreA,Int.reduceBEq,bzY6,c5,hsl] <;> with_reducible rfl))
  have htin : ∀ p ∈ x.ts,telIn row.length p.2:=by
   intro p hp
   rw [hlen]
   rcases hnew with h | h
   ·exact (hin x.D (List.mem_map.2 ⟨x,h,rfl⟩)).2 p.2 (by unfold Grp.D; exact List.mem_map.2 ⟨p,hp,rfl⟩)
   ·have : p.2 ∈ A.aggs.map telNew:=by
     have e1 : x.ts.map (·.2) = A.aggs.map telNew:=congrArg Prod.snd h
     rw [← e1]; exact List.mem_map.2 ⟨p,hp,rfl⟩
    obtain ⟨a,ha',e1⟩:=List.mem_map.1 this
    rw [← e1]; exact hin2 a ha'
  have hp4:=S4.perm (L':=tsB (midT row x.ts 0) ++ (x.F ++ (x.g,grpO x.rv x.av) :: ((A.p,accO A.cv A.bv A.av A.m (A.n + 1)) :: (A.m,mapO (pre ++ x :: post)) :: (A.F ++ (pre.flatMap Grp.B ++ post.flatMap Grp.B)) ++ L))) (perm_of fun f g z0 hc hap=>by
   rw [midT_0]
   unfold AccM.B
   simp only [z0,hc,hap,List.flatMap_append,List.flatMap_cons,Grp.B]; omega)
  refine f21_loop (k:=k + 1584) R hrl htl htin (fun h' m=>(hx h' m).2) (fun p hp=>List.mem_append.2 (.inl hp)) x.ts.length (i:=0) (by omega) (by omega) hp4 fun h5 y0 y1 y2 y3 y4 S5=>?_
  refine ⟨_,rfl,.inr ⟨rfl,rfl,pre ++ x.add row :: post,⟨hA.parts,fun y hy=>?_⟩,S5.perm (perm_of fun f g z0 hc hap=>?_),(hadd row).symm⟩⟩
  ·rcases List.mem_append.1 hy with hy | hy
   ·exact hok y (by simp [hy])
   ·rcases List.mem_cons.1 hy with rfl | hy
    ·exact hx.add row
    ·exact hok y (by simp [hy])
  ·have em : mapO (pre ++ x.add row :: post) = mapO (pre ++ x :: post):=by
    unfold mapO
    rw [ents_mid 0 pre post (x:=x.add row) (y:=x) ⟨rfl,rfl⟩]
    simp
   unfold AccM.B
   simp only [z0,hc,hap,List.flatMap_append,List.flatMap_cons,Grp.B,em]
   simp only [Grp.add]
   omega
end Go.Proofs.Ytgklcfnjahomjaa.Sh
