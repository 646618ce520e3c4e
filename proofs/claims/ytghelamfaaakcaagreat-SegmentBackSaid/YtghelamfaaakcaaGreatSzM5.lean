/- What lies ahead of the law, put together. -/
import Derived.Test.YtghelamfaaakcaaGreatSzM3
import Derived.Test.YtghelamfaaakcaaGreatSzM4
import Derived.Test.YtghelamfaaakcaaGreatSzM2
import Derived.Test.YtghelamfaaakcaaGreatSzM1
import Derived.Test.YtghelamfaaakcaaGreatSzF
import Derived.Test.YtghelamfaaakcaaGreatSzT
/- Codecs: 'cells'. -/
set_option linter.unusedVariables false
set_option linter.unusedSimpArgs false
set_option maxRecDepth 100000
namespace Go.Proofs.YtghelamfaaakcaaGreat.Sh
open Go Go.RowKit Go.Proofs.Ev Go.Lib
open Tryz (prog)
def bzS3:=PLift.up (ai @ld3 (ai @ld2 (ai @ld9 (ai @ld60 (ai @ld31 (ai @ld38 (ai @ld80 (ai @ld88 (ai @ld96 (ai @ld81 (ai @ld59 (ai @ld98 (ai @ld83 (ai @ld91 (ai @ld100 (ai @fa86_0 (ai @fa86_2 (ai @fa86_4 (ai @fa94_0 (ai @fa94_2 (ai @fa94_4 (ai @fa103_0 (ai @fa103_2 (ai @fa103_4 (ai @fa31_0 (ai @fa31_1 (ai @fa31_2 (ai @fa38_0 (ai @fa38_1 (ai @fa38_2 (ai @fa38_3 (ai (fun a h=>conv_int (a:=a) (h:=h) u2 u60) (ai (fun a h=>conv_int (a:=a) (h:=h) u60 u2) (ai (fun a h=>conv_int (a:=a) (h:=h) u60 u5) (ai (fun a h=>conv_int (a:=a) (h:=h) u3 u60) (ai @aggC (ai @wrapU (ai @ex2_0 (ai @ex2_1 (@Nat.add_zero))))))))))))))))))))))))))))))))))))))))
section
variable {n0 : Nat} {h0 h : AH} {L : List (Nat × AO)} {O : List OS}
theorem f85c {k : Nat} {h : AH} {v : Value} {l : List Nat} (A : Words h v l) (hl : l.length ≤ 65536) (hlk : l.length < k + 299) (hx : ∀ x ∈ l,x < 18446744073709551616) :
  Tl (eInv env (k + 302) (.func 85) #[] #[v] h) fun r=>∃ o,r.1 = .tuple #[o,.int .i64 (Pk.putE l 1)] ∧ Grow h r.2 ∧ OwnB prog h.n r.2 o 1 (u8rows (Pk.putL l 1)):=by
 rw [F85_call]
 unfold F85
 refine Tl.bind (f49c (k:=k) A hl hlk hx 1) ?_
 rintro ⟨r,h1⟩ ⟨o,er,g,X⟩
 simp only at er g X
 subst er
 with_reducible repeat (first | (apply qzV; simp (disch:=omega) only [zA,bzS3.1] <;> rfl) | apply qzT | apply qzF | (apply qzB; simp (disch:=omega) only [zA,bzS3.1] <;> rfl))
 exact ⟨_,rfl,o,rfl,g,X⟩
def valsN (l : List CellD) : List Int:=l.map fun c=>c.i
theorem cellsN_loop {β : Type} {k : Nat} {Q : β→Prop} {h0 : AH} {b2 : Nat} {v : Value} {l : List CellD} (A : Cells h0 v l) (hl : l.length ≤ 4096) {ke0 : Value→Value→Value→Value→Value→Value→AH→Option β} (n : Nat) :
  ∀ {i j : Nat} {h : AH} {av : Value},i + n = l.length→n < j→Stt prog h0.n h0 h [(b2,.cells codNL 86 true)] [(av,1,i6rows (valsN (l.take i)))] →
   (∀ h' av' y11 y12,Stt prog h0.n h0 h' [(b2,.cells codNL 86 true)] [(av',1,i6rows (valsN l))]→Tl (ke0 (ptr b2) av' v (.int .i64 l.length) y11 y12 h') Q) →
   Tl (F214_lrlrr (eInv env (k + 1)) (k + 1) j (ptr b2) av v (.int .i64 l.length) (.int .i64 i) h ke0) Q:=by
 induction n with
 | zero =>
  intro i j h av hi hj T hk
  obtain ⟨j,rfl⟩ : ∃ q,j = q + 1:=⟨j - 1,by omega⟩
  simp only [F214_lrlrr]
  with_reducible repeat (first | (apply qzV; simp (disch:=omega) only [zA,bzS3.1] <;> rfl) | apply qzT | apply qzF | (apply qzB; simp (disch:=omega) only [zA,bzS3.1] <;> rfl))
  rw [List.take_of_length_le (by omega)] at T
  exact hk _ _ _ _ T
 | succ n ih =>
  intro i j h av hi hj T hk
  obtain ⟨j,rfl⟩ : ∃ q,j = q + 1:=⟨j - 1,by omega⟩
  obtain ⟨c,hc⟩ : ∃ c,l[i]? = some c:=⟨_,List.getElem?_eq_getElem (by omega)⟩
  obtain ⟨b,o,hx,hr⟩:=(A.grow T.grow).at_ hc
  have e : (i : Int) + 1 = ((i + 1 : Nat) : Int):=by omega
  have hti : l.take (i + 1) = l.take i ++ [c]:=by rw [List.take_add_one,hc]; rfl
  simp only [F214_lrlrr]
  unfold ptr
  with_reducible repeat (first | (apply qzV; simp (disch:=omega) only [zA,bzS3.1,hx,hr] <;> rfl) | apply qzT | apply qzF | (apply qzB; simp (disch:=omega) only [zA,bzS3.1,hx,hr] <;> rfl))
  refine Tl.alloc' T ze31 rfl fun b4 h1 T1 _=>?_
  refine Tl.store' T1 0 rfl sz31 rfl rfl (of_decide_eq_true rfl) fun h2 T2 _=>?_
  have T2 : Stt prog h0.n h0 h2 [Cr b4 c,(b2,.cells codNL 86 true)] [(av,1,i6rows (valsN (l.take i)))]:=T2
  obtain ⟨r4,_⟩:=c_at T2 0 rfl
  have q0:=T2.cell (o:=0) (v:=.func (.func 72) #[] #[]) 1 rfl rfl
  with_reducible repeat (first | (apply qzV; simp (disch:=omega) only [zA,bzS3.1,r4,q0] <;> rfl) | apply qzT | apply qzF | (apply qzB; simp (disch:=omega) only [zA,bzS3.1,r4,q0] <;> rfl))
  rw [callV_fn1]
  with_reducible refine Tl.call' T2 (f72c (k:=k) c h2) fun h3 T3 _=>?_
  refine Tl.push T3 0 rfl app121 (bs121 _ _) rfl rfl (by simp [i6rows,valsN]; omega) fun av' h5 T5=>?_
  with_reducible repeat (first | (apply qzV; simp (disch:=omega) only [zA,bzS3.1] <;> rfl) | apply qzT | apply qzF | (apply qzB; simp (disch:=omega) only [zA,bzS3.1] <;> rfl))
  rw [e]
  refine ih (by omega) (by omega) ?_ hk
  have e2 : i6rows (valsN (l.take i)) ++ [[i6v (c.i)]] = i6rows (valsN (l.take (i + 1))):=by rw [hti]; simp [i6rows,valsN]
  rw [← e2]
  exact T5.drop
/-- 'cells'. -/
theorem cellsN_c {k : Nat} {h : AH} {v : Value} {l : List CellD} (A : Cells h v l) (hl : l.length ≤ 4096) (hk : 4096 < k) :
  Tl (eInv env (k + 602) (.method "shadowbook/segment.cells") #[] #[.iface 86 (.agg codNL.toArray), v] h) fun r => ∃ o, r.1 = .tuple #[o, .int .i64 (0)] ∧ Stt prog h.n h r.2 [] [(o, 1, u8rows (putI (valsN l)))] := by
 rw [show eInv env (k + 602) (.method "shadowbook/segment.cells") #[] #[.iface 86 (.agg codNL.toArray), v] h = F214 (eInv env (k + 601)) (k + 601) (.agg codNL.toArray) v h from
  (by kernel_rfl : _ = eFun env (k + 601) (eInv env (k + 601)) 214 #[.agg codNL.toArray,v] h).trans F214_eq]
 unfold F214
 refine Tl.box' (Stt.init h) rfl isN fun b2 h1 S1 _=>?_
 have S1 : Stt prog h.n h h1 [(b2,.cells codNL 86 true)] []:=S1
 have hv : ∀ h' : AH,pLen prog #[22] v h' = some (.int .i64 l.length):=fun h'=>A.len
 with_reducible repeat (first | (apply qzV; simp (disch:=omega) only [zA,bzS3.1,hv] <;> rfl) | apply qzT | apply qzF | (apply qzB; simp (disch:=omega) only [zA,bzS3.1,hv] <;> rfl))
 refine cellsN_loop (k:=k + 600) (i:=0) A hl l.length (by omega) (by omega) (S1.nil 1) fun h2 av y11 y12 S2=>?_
 have q4:=S2.cell (o:=4) (v:=.func (.func 78) #[] #[]) 0 rfl rfl
 unfold ptr
 with_reducible repeat (first | (apply qzV; simp (disch:=omega) only [zA,bzS3.1,q4] <;> rfl) | apply qzT | apply qzF | (apply qzB; simp (disch:=omega) only [zA,bzS3.1,q4] <;> rfl))
 rw [callV_fn1]
 have B : Ints h2 av (valsN l):=S2.sl1 (f:=i6v) 0 rfl
 refine Tl.bind (f78s (k:=k + 100) B (by simp [valsN]; omega) (by simp [valsN]; omega)) ?_
 rintro ⟨r,h3⟩ ⟨o,er,X⟩
 simp only at er X
 subst er
 with_reducible repeat (first | (apply qzV; simp (disch:=omega) only [zA,bzS3.1] <;> rfl) | apply qzT | apply qzF | (apply qzB; simp (disch:=omega) only [zA,bzS3.1] <;> rfl))
 exact ⟨_,rfl,o,rfl,((S2.drop.join X).keepO (.cons_cons _ (List.nil_sublist _)))⟩
def valsT (l : List CellD) : List Nat:=l.map fun c=>toU c.i
theorem cellsT_loop {β : Type} {k : Nat} {Q : β→Prop} {h0 : AH} {b2 : Nat} {v : Value} {l : List CellD} (A : Cells h0 v l) (hl : l.length ≤ 4096) {ke0 : Value→Value→Value→Value→Value→Value→AH→Option β} (n : Nat) :
  ∀ {i j : Nat} {h : AH} {av : Value},i + n = l.length→n < j→Stt prog h0.n h0 h [(b2,.cells codTL 94 true)] [(av,1,u64rows (valsT (l.take i)))] →
   (∀ h' av' y11 y12,Stt prog h0.n h0 h' [(b2,.cells codTL 94 true)] [(av',1,u64rows (valsT l))]→Tl (ke0 (ptr b2) av' v (.int .i64 l.length) y11 y12 h') Q) →
   Tl (F218_lrlrr (eInv env (k + 1)) (k + 1) j (ptr b2) av v (.int .i64 l.length) (.int .i64 i) h ke0) Q:=by
 induction n with
 | zero =>
  intro i j h av hi hj T hk
  obtain ⟨j,rfl⟩ : ∃ q,j = q + 1:=⟨j - 1,by omega⟩
  simp only [F218_lrlrr]
  with_reducible repeat (first | (apply qzV; simp (disch:=omega) only [zA,bzS3.1] <;> rfl) | apply qzT | apply qzF | (apply qzB; simp (disch:=omega) only [zA,bzS3.1] <;> rfl))
  rw [List.take_of_length_le (by omega)] at T
  exact hk _ _ _ _ T
 | succ n ih =>
  intro i j h av hi hj T hk
  obtain ⟨j,rfl⟩ : ∃ q,j = q + 1:=⟨j - 1,by omega⟩
  obtain ⟨c,hc⟩ : ∃ c,l[i]? = some c:=⟨_,List.getElem?_eq_getElem (by omega)⟩
  obtain ⟨b,o,hx,hr⟩:=(A.grow T.grow).at_ hc
  have e : (i : Int) + 1 = ((i + 1 : Nat) : Int):=by omega
  have hti : l.take (i + 1) = l.take i ++ [c]:=by rw [List.take_add_one,hc]; rfl
  simp only [F218_lrlrr]
  unfold ptr
  with_reducible repeat (first | (apply qzV; simp (disch:=omega) only [zA,bzS3.1,hx,hr] <;> rfl) | apply qzT | apply qzF | (apply qzB; simp (disch:=omega) only [zA,bzS3.1,hx,hr] <;> rfl))
  refine Tl.alloc' T ze31 rfl fun b4 h1 T1 _=>?_
  refine Tl.store' T1 0 rfl sz31 rfl rfl (of_decide_eq_true rfl) fun h2 T2 _=>?_
  have T2 : Stt prog h0.n h0 h2 [Cr b4 c,(b2,.cells codTL 94 true)] [(av,1,u64rows (valsT (l.take i)))]:=T2
  obtain ⟨r4,_⟩:=c_at T2 0 rfl
  have q0:=T2.cell (o:=0) (v:=.func (.func 81) #[] #[]) 1 rfl rfl
  with_reducible repeat (first | (apply qzV; simp (disch:=omega) only [zA,bzS3.1,r4,q0] <;> rfl) | apply qzT | apply qzF | (apply qzB; simp (disch:=omega) only [zA,bzS3.1,r4,q0] <;> rfl))
  rw [callV_fn1]
  with_reducible refine Tl.call' T2 (f81c (k:=k) c h2) fun h3 T3 _=>?_
  refine Tl.push T3 0 rfl app63 (bs63 _ _) rfl rfl (by simp [u64rows,valsT]; omega) fun av' h5 T5=>?_
  with_reducible repeat (first | (apply qzV; simp (disch:=omega) only [zA,bzS3.1] <;> rfl) | apply qzT | apply qzF | (apply qzB; simp (disch:=omega) only [zA,bzS3.1] <;> rfl))
  rw [e]
  refine ih (by omega) (by omega) ?_ hk
  have e2 : u64rows (valsT (l.take i)) ++ [[u64v (toU c.i)]] = u64rows (valsT (l.take (i + 1))):=by rw [hti]; simp [u64rows,valsT]
  rw [← e2]
  exact T5.drop
/-- 'cells'. -/
theorem cellsT_c {k : Nat} {h : AH} {v : Value} {l : List CellD} (A : Cells h v l) (hl : l.length ≤ 4096) (hk : 4096 < k) :
  Tl (eInv env (k + 602) (.method "shadowbook/segment.cells") #[] #[.iface 94 (.agg codTL.toArray), v] h) fun r => ∃ o, r.1 = .tuple #[o, .int .i64 (Pk.putE (valsT l) 1)] ∧ Stt prog h.n h r.2 [] [(o, 1, u8rows (Pk.putL (valsT l) 1))] := by
 rw [show eInv env (k + 602) (.method "shadowbook/segment.cells") #[] #[.iface 94 (.agg codTL.toArray), v] h = F218 (eInv env (k + 601)) (k + 601) (.agg codTL.toArray) v h from
  (by kernel_rfl : _ = eFun env (k + 601) (eInv env (k + 601)) 218 #[.agg codTL.toArray,v] h).trans F218_eq]
 unfold F218
 refine Tl.box' (Stt.init h) rfl isT fun b2 h1 S1 _=>?_
 have S1 : Stt prog h.n h h1 [(b2,.cells codTL 94 true)] []:=S1
 have hv : ∀ h' : AH,pLen prog #[22] v h' = some (.int .i64 l.length):=fun h'=>A.len
 with_reducible repeat (first | (apply qzV; simp (disch:=omega) only [zA,bzS3.1,hv] <;> rfl) | apply qzT | apply qzF | (apply qzB; simp (disch:=omega) only [zA,bzS3.1,hv] <;> rfl))
 refine cellsT_loop (k:=k + 600) (i:=0) A hl l.length (by omega) (by omega) (S1.nil 1) fun h2 av y11 y12 S2=>?_
 have q4:=S2.cell (o:=4) (v:=.func (.func 85) #[] #[]) 0 rfl rfl
 unfold ptr
 with_reducible repeat (first | (apply qzV; simp (disch:=omega) only [zA,bzS3.1,q4] <;> rfl) | apply qzT | apply qzF | (apply qzB; simp (disch:=omega) only [zA,bzS3.1,q4] <;> rfl))
 rw [callV_fn1]
 have B : Words h2 av (valsT l):=S2.sl1 (f:=u64v) 0 rfl
 refine Tl.bind (f85c (k:=k + 299) B (by simp [valsT]; omega) (by simp [valsT]; omega) (fun q hq=>?_)) ?_
 ·obtain ⟨c,_,rfl⟩:=List.mem_map.1 hq
  exact toU_lt _
 rintro ⟨r,h3⟩ ⟨o,er,g,X⟩
 simp only at er g X
 subst er
 with_reducible repeat (first | (apply qzV; simp (disch:=omega) only [zA,bzS3.1] <;> rfl) | apply qzT | apply qzF | (apply qzB; simp (disch:=omega) only [zA,bzS3.1] <;> rfl))
 exact ⟨_,rfl,o,rfl,((S2.drop.gain g X).keepO (.cons_cons _ (List.nil_sublist _)))⟩
def valsW (l : List CellD) : List ByteArray:=l.map fun c=>c.s
theorem cellsW_loop {β : Type} {k : Nat} {Q : β→Prop} {h0 : AH} {b2 : Nat} {v : Value} {l : List CellD} (A : Cells h0 v l) (hl : l.length ≤ 4096) {ke0 : Value→Value→Value→Value→Value→Value→AH→Option β} (n : Nat) :
  ∀ {i j : Nat} {h : AH} {av : Value},i + n = l.length→n < j→Stt prog h0.n h0 h [(b2,.cells codWL 103 true)] [(av,1,srows (valsW (l.take i)))] →
   (∀ h' av' y11 y12,Stt prog h0.n h0 h' [(b2,.cells codWL 103 true)] [(av',1,srows (valsW l))]→Tl (ke0 (ptr b2) av' v (.int .i64 l.length) y11 y12 h') Q) →
   Tl (F222_lrlrr (eInv env (k + 1)) (k + 1) j (ptr b2) av v (.int .i64 l.length) (.int .i64 i) h ke0) Q:=by
 induction n with
 | zero =>
  intro i j h av hi hj T hk
  obtain ⟨j,rfl⟩ : ∃ q,j = q + 1:=⟨j - 1,by omega⟩
  simp only [F222_lrlrr]
  with_reducible repeat (first | (apply qzV; simp (disch:=omega) only [zA,bzS3.1] <;> rfl) | apply qzT | apply qzF | (apply qzB; simp (disch:=omega) only [zA,bzS3.1] <;> rfl))
  rw [List.take_of_length_le (by omega)] at T
  exact hk _ _ _ _ T
 | succ n ih =>
  intro i j h av hi hj T hk
  obtain ⟨j,rfl⟩ : ∃ q,j = q + 1:=⟨j - 1,by omega⟩
  obtain ⟨c,hc⟩ : ∃ c,l[i]? = some c:=⟨_,List.getElem?_eq_getElem (by omega)⟩
  obtain ⟨b,o,hx,hr⟩:=(A.grow T.grow).at_ hc
  have e : (i : Int) + 1 = ((i + 1 : Nat) : Int):=by omega
  have hti : l.take (i + 1) = l.take i ++ [c]:=by rw [List.take_add_one,hc]; rfl
  simp only [F222_lrlrr]
  unfold ptr
  with_reducible repeat (first | (apply qzV; simp (disch:=omega) only [zA,bzS3.1,hx,hr] <;> rfl) | apply qzT | apply qzF | (apply qzB; simp (disch:=omega) only [zA,bzS3.1,hx,hr] <;> rfl))
  refine Tl.alloc' T ze31 rfl fun b4 h1 T1 _=>?_
  refine Tl.store' T1 0 rfl sz31 rfl rfl (of_decide_eq_true rfl) fun h2 T2 _=>?_
  have T2 : Stt prog h0.n h0 h2 [Cr b4 c,(b2,.cells codWL 103 true)] [(av,1,srows (valsW (l.take i)))]:=T2
  obtain ⟨r4,_⟩:=c_at T2 0 rfl
  have q0:=T2.cell (o:=0) (v:=.func (.func 88) #[] #[]) 1 rfl rfl
  with_reducible repeat (first | (apply qzV; simp (disch:=omega) only [zA,bzS3.1,r4,q0] <;> rfl) | apply qzT | apply qzF | (apply qzB; simp (disch:=omega) only [zA,bzS3.1,r4,q0] <;> rfl))
  rw [callV_fn1]
  with_reducible refine Tl.call' T2 (f88c (k:=k) c h2) fun h3 T3 _=>?_
  refine Tl.push T3 0 rfl app122 (bs122 _ _) rfl rfl (by simp [srows,valsW]; omega) fun av' h5 T5=>?_
  with_reducible repeat (first | (apply qzV; simp (disch:=omega) only [zA,bzS3.1] <;> rfl) | apply qzT | apply qzF | (apply qzB; simp (disch:=omega) only [zA,bzS3.1] <;> rfl))
  rw [e]
  refine ih (by omega) (by omega) ?_ hk
  have e2 : srows (valsW (l.take i)) ++ [[Value.string (c.s)]] = srows (valsW (l.take (i + 1))):=by rw [hti]; simp [srows,valsW]
  rw [← e2]
  exact T5.drop
/-- 'cells'. -/
theorem cellsW_c {k : Nat} {h : AH} {v : Value} {l : List CellD} (A : Cells h v l) (hl : l.length ≤ 4096) (hk : 4096 < k) :
  Tl (eInv env (k + 602) (.method "shadowbook/segment.cells") #[] #[.iface 103 (.agg codWL.toArray), v] h) fun r => ∃ o, r.1 = .tuple #[o, .int .i64 (checkT (valsW l))] ∧ Stt prog h.n h r.2 [] [(o, 1, u8rows (putT (valsW l)))] := by
 rw [show eInv env (k + 602) (.method "shadowbook/segment.cells") #[] #[.iface 103 (.agg codWL.toArray), v] h = F222 (eInv env (k + 601)) (k + 601) (.agg codWL.toArray) v h from
  (by kernel_rfl : _ = eFun env (k + 601) (eInv env (k + 601)) 222 #[.agg codWL.toArray,v] h).trans F222_eq]
 unfold F222
 refine Tl.box' (Stt.init h) rfl isW fun b2 h1 S1 _=>?_
 have S1 : Stt prog h.n h h1 [(b2,.cells codWL 103 true)] []:=S1
 have hv : ∀ h' : AH,pLen prog #[22] v h' = some (.int .i64 l.length):=fun h'=>A.len
 with_reducible repeat (first | (apply qzV; simp (disch:=omega) only [zA,bzS3.1,hv] <;> rfl) | apply qzT | apply qzF | (apply qzB; simp (disch:=omega) only [zA,bzS3.1,hv] <;> rfl))
 refine cellsW_loop (k:=k + 600) (i:=0) A hl l.length (by omega) (by omega) (S1.nil 1) fun h2 av y11 y12 S2=>?_
 have q4:=S2.cell (o:=4) (v:=.func (.func 93) #[] #[]) 0 rfl rfl
 unfold ptr
 with_reducible repeat (first | (apply qzV; simp (disch:=omega) only [zA,bzS3.1,q4] <;> rfl) | apply qzT | apply qzF | (apply qzB; simp (disch:=omega) only [zA,bzS3.1,q4] <;> rfl))
 rw [callV_fn1]
 have B : Strs h2 av (valsW l):=S2.sl1 (f:=Value.string) 0 rfl
 refine Tl.bind (f93c (k:=k + 200) B (by simp [valsW]; omega) (by omega)) ?_
 rintro ⟨r,h3⟩ ⟨o,er,X⟩
 simp only at er X
 subst er
 with_reducible repeat (first | (apply qzV; simp (disch:=omega) only [zA,bzS3.1] <;> rfl) | apply qzT | apply qzF | (apply qzB; simp (disch:=omega) only [zA,bzS3.1] <;> rfl))
 exact ⟨_,rfl,o,rfl,((S2.drop.join X).keepO (.cons_cons _ (List.nil_sublist _)))⟩
end
end Go.Proofs.YtghelamfaaakcaaGreat.Sh
/- Which cells of a kind may be: 'segment.Check'; 'LightCells'. -/
set_option linter.unusedVariables false
set_option linter.unusedSimpArgs false
set_option maxRecDepth 100000
namespace Go.Proofs.YtghelamfaaakcaaGreat.Sh
open Go Go.RowKit Go.Proofs.Ev Go.Lib
open Tryz (prog)
def bzS4:=PLift.up (ai @ld3 (ai @ld2 (ai @ld9 (ai @ld31 (ai @fa31_0 (ai @fa31_1 (ai @fa31_2 (ai @aggC (@Nat.add_zero)))))))))
theorem codNone {a : Nat} : pBin prog .eql 54 (.tmp a) (.const .nilIface) .nilIface .nilIface = some (.bool true):=by kernel_rfl
theorem cod1 {a : Nat} : pBin prog .eql 54 (.tmp a) (.const .nilIface) (codV 1) .nilIface = some (.bool false):=by kernel_rfl
theorem cod2 {a : Nat} : pBin prog .eql 54 (.tmp a) (.const .nilIface) (codV 2) .nilIface = some (.bool false):=by kernel_rfl
theorem cod3 {a : Nat} : pBin prog .eql 54 (.tmp a) (.const .nilIface) (codV 3) .nilIface = some (.bool false):=by kernel_rfl
theorem codSome {kind : Int} (hk : 1 ≤ kind ∧ kind ≤ 3) {a : Nat} : pBin prog .eql 54 (.tmp a) (.const .nilIface) (codV kind) .nilIface = some (.bool false):=by
 have h : kind = 1 ∨ kind = 2 ∨ kind = 3:=by omega
 rcases h with rfl | rfl | rfl
 ·exact cod1
 ·exact cod2
 ·exact cod3
theorem codV_none {kind : Int} (hk : ¬ (1 ≤ kind ∧ kind ≤ 3)) : codV kind = .nilIface:=by
 unfold codV
 rw [if_neg (by omega),if_neg (by omega),if_neg (by omega)]
def chkE (kind : Int) : List CellD→Int
 | []=>0
 | c :: l=>if cellE c ≠ 0 then cellE c else if c.k ≠ kind ∧ c.k ≠ 0 then 11 else chkE kind l
def segE (kind : Int) (l : List CellD) : Int:=if 1 ≤ kind ∧ kind ≤ 3 then (if l.length > 4096 then 3 else chkE kind l) else 2
theorem f11_loop {β : Type} {k : Nat} {Q : β→Prop} {h0 : AH} {v : Value} {l : List CellD} {kind : Int} (A : Cells h0 v l) (hl : l.length ≤ 4096) {ke0 : Value→Value→Value→Value→Value→AH→Option β} {kr : Value→AH→Option β} (n : Nat) :
  ∀ {i j : Nat} {h : AH},i + n = l.length→n < j→Stt prog h0.n h0 h [] [] →
   (∀ h' y1 y2 y3 y4,Grow h0 h'→chkE kind (l.drop i) = 0→Tl (ke0 (.int .i64 kind) y1 y2 y3 y4 h') Q)→(∀ h',Grow h0 h'→chkE kind (l.drop i) ≠ 0→Tl (kr (.int .i64 (chkE kind (l.drop i))) h') Q) →
   Tl (F11_lrlrrr (eInv env (k + 1)) (k + 1) j (.int .i64 kind) v (.int .i64 l.length) (.int .i64 i) h ke0 kr) Q:=by
 induction n with
 | zero =>
  intro i j h hi hj T hk hr
  obtain ⟨j,rfl⟩ : ∃ q,j = q + 1:=⟨j - 1,by omega⟩
  simp only [F11_lrlrrr]
  with_reducible repeat (first | (apply qzV; simp (disch:=omega) only [zA,bzS4.1] <;> rfl) | apply qzT | apply qzF | apply qzG | ((first | apply qzB | apply qzC); simp (disch:=omega) only [zA,bzS4.1] <;> rfl))
  exact hk _ _ _ _ _ T.grow (by rw [List.drop_eq_nil_of_le (by omega)]; rfl)
 | succ n ih =>
  intro i j h hi hj T hk hr
  obtain ⟨j,rfl⟩ : ∃ q,j = q + 1:=⟨j - 1,by omega⟩
  obtain ⟨c,hc⟩ : ∃ c,l[i]? = some c:=⟨_,List.getElem?_eq_getElem (by omega)⟩
  obtain ⟨b,o,hx,hrow⟩:=(A.grow T.grow).at_ hc
  have e : (i : Int) + 1 = ((i + 1 : Nat) : Int):=by omega
  rw [drop_at hc,chkE] at hk hr
  simp only [F11_lrlrrr]
  with_reducible repeat (first | (apply qzV; simp (disch:=omega) only [zA,bzS4.1,hx,hrow] <;> rfl) | apply qzT | apply qzF | apply qzG | ((first | apply qzB | apply qzC); simp (disch:=omega) only [zA,bzS4.1,hx,hrow] <;> rfl))
  refine Tl.alloc' T ze31 rfl fun b4 h1 T1 _=>?_
  refine Tl.store' T1 0 rfl sz31 rfl rfl (of_decide_eq_true rfl) fun h2 T2 _=>?_
  have T2 : Stt prog h0.n h0 h2 [Cr b4 c] []:=T2
  obtain ⟨r4,_⟩:=c_at T2 0 rfl
  with_reducible repeat (first | (apply qzV; simp (disch:=omega) only [zA,bzS4.1,r4] <;> rfl) | apply qzT | apply qzF | apply qzG | ((first | apply qzB | apply qzC); simp (disch:=omega) only [zA,bzS4.1,r4] <;> rfl))
  with_reducible refine Tl.call' T2 (f29c (k:=k) c h2) fun h3 T3 _=>?_
  obtain ⟨_,k4,_⟩:=c_at T3 0 rfl
  by_cases e1 : cellE c = 0
  ·rw [if_neg (by simpa using e1)] at hk hr
   by_cases e2 : c.k = kind
   ·rw [if_neg (fun q=>q.1 e2)] at hk hr
    with_reducible repeat (first | (apply qzV; simp (disch:=omega) only [zA,bzS4.1,k4] <;> rfl) | apply qzT | apply qzF | apply qzG | ((first | apply qzB | apply qzC); simp (disch:=omega) only [zA,bzS4.1,k4] <;> rfl))
    rw [e]
    exact ih (by omega) (by omega) T3.drop hk hr
   ·by_cases e3 : c.k = 0
    ·rw [if_neg (fun q=>q.2 e3)] at hk hr
     with_reducible repeat (first | (apply qzV; simp (disch:=omega) only [zA,bzS4.1,k4] <;> rfl) | apply qzT | apply qzF | apply qzG | ((first | apply qzB | apply qzC); simp (disch:=omega) only [zA,bzS4.1,k4] <;> rfl))
     rw [e]
     exact ih (by omega) (by omega) T3.drop hk hr
    ·rw [if_pos ⟨e2,e3⟩] at hr
     with_reducible repeat (first | (apply qzV; simp (disch:=omega) only [zA,bzS4.1,k4] <;> rfl) | apply qzT | apply qzF | apply qzG | ((first | apply qzB | apply qzC); simp (disch:=omega) only [zA,bzS4.1,k4] <;> rfl))
     exact hr _ T3.grow (by decide)
  ·rw [if_pos e1] at hr
   with_reducible repeat (first | (apply qzV; simp (disch:=omega) only [zA,bzS4.1] <;> rfl) | apply qzT | apply qzF | apply qzG | ((first | apply qzB | apply qzC); simp (disch:=omega) only [zA,bzS4.1] <;> rfl))
   exact hr _ T3.grow e1
theorem f11c {k : Nat} {h : AH} {v : Value} {l : List CellD} (kind : Int) (A : Cells h v l) (hl : l.length ≤ 9223372036854775807) (hk : 4096 < k) :
  Tl (eInv env (k + 3) (.func 11) #[] #[.int .i64 kind,v] h) fun r=>r.1 = .int .i64 (segE kind l) ∧ Grow h r.2:=by
 rw [F11_call]
 unfold F11 segE
 have hv : ∀ h' : AH,pLen prog #[22] v h' = some (.int .i64 l.length):=fun h'=>A.len
 with_reducible refine Tl.call' (Stt.init (P:=prog) h) (f28c (k:=k) kind h) fun h1 S1 _=>?_
 by_cases p : 1 ≤ kind ∧ kind ≤ 3
 ·rw [if_pos p]
  have cs:=fun a=>codSome p (a:=a)
  by_cases q : l.length > 4096
  ·rw [if_pos q]
   with_reducible repeat (first | (apply qzV; simp (disch:=omega) only [zA,bzS4.1,cs,hv] <;> rfl) | apply qzT | apply qzF | apply qzG | ((first | apply qzB | apply qzC); simp (disch:=omega) only [zA,bzS4.1,cs,hv] <;> rfl))
   exact ⟨_,rfl,rfl,S1.grow⟩
  ·rw [if_neg q]
   with_reducible repeat (first | (apply qzV; simp (disch:=omega) only [zA,bzS4.1,cs,hv] <;> rfl) | apply qzT | apply qzF | apply qzG | ((first | apply qzB | apply qzC); simp (disch:=omega) only [zA,bzS4.1,cs,hv] <;> rfl))
   refine f11_loop (k:=k + 1) (i:=0) A (by omega) l.length (by omega) (by omega) S1 (fun h2 y1 y2 y3 y4 g z=>⟨_,rfl,?_,g⟩) fun h2 g z=>⟨_,rfl,rfl,g⟩
   rw [List.drop_zero] at z
   rw [z]
 ·rw [if_neg p,codV_none p]
  with_reducible repeat (first | (apply qzV; simp (disch:=omega) only [zA,bzS4.1,codNone] <;> rfl) | apply qzT | apply qzF | apply qzG | ((first | apply qzB | apply qzC); simp (disch:=omega) only [zA,bzS4.1,codNone] <;> rfl))
  exact ⟨_,rfl,rfl,S1.grow⟩
end Go.Proofs.YtghelamfaaakcaaGreat.Sh
/- What the functions of the nulls' package come to: 'count', 'Spread', 'Same'. -/
set_option linter.unusedVariables false
set_option linter.unusedSimpArgs false
set_option maxRecDepth 100000
namespace Go.Proofs.YtghelamfaaakcaaGreat.Sh
open Go Go.RowKit Go.Proofs.Ev
open Tryz (prog)
def bzNa:=PLift.up (ai @ld3 (ai @ld4 (ai @ld5 (ai @ld32 (ai @ld72 (ai @ld33 (ai (fun ox oy a b=>bin_eql_bool (ox:=ox) (oy:=oy) (a:=a) (b:=b) u4) ((fun ox oy a b=>bin_neq_bool (ox:=ox) (oy:=oy) (a:=a) (b:=b) u4)))))))))
def bv (b : Bool) : Value:=.bool b
def iv (z : Int) : Value:=.int .i64 z
def Bools (h : AH) (v : Value) (l : List Bool) : Prop:=Sl1 prog h v bv l
def cnt (l : List Bool) : Nat:=l.count true
theorem cnt_le (l : List Bool) : cnt l ≤ l.length:=List.count_le_length
theorem drop_cons {α : Type} {l : List α} {i : Nat} {x : α} (h : l[i]? = some x) : l.drop i = x :: l.drop (i + 1):=by
 have hlt : i < l.length:=(List.getElem?_eq_some_iff.1 h).1
 rw [List.drop_eq_getElem_cons hlt]
 rw [List.getElem?_eq_getElem hlt] at h
 cases h; rfl
theorem f96_loop {β : Type} {k : Nat} {Q : β→Prop} {h : AH} {v : Value} {l : List Bool} (S : Bools h v l) (hl : l.length ≤ 2 ^ 40) {ke0 : Value→Value→Value→Value→Value→AH→Option β} (n : Nat) :
  ∀ {i j c : Nat},i + n = l.length→n < j→c ≤ i→c + cnt (l.drop i) = cnt l →
   (∀ y y',Tl (ke0 (.int .i64 (cnt l)) v (.int .i64 l.length) y y' h) Q) →
   Tl (F96_lrlr (eInv env k) k j (.int .i64 c) v (.int .i64 l.length) (.int .i64 i) h ke0) Q:=by
 induction n with
 | zero =>
  intro i j c hi hj hc hs hk
  obtain ⟨j,rfl⟩ : ∃ q,j = q + 1:=⟨j - 1,by omega⟩
  simp only [F96_lrlr]
  with_reducible repeat (first | (apply qzV; simp (disch:=omega) only [zA,bzNa.1] <;> rfl) | apply qzT | apply qzF | (apply qzB; simp (disch:=omega) only [zA,bzNa.1] <;> rfl))
  rw [List.drop_eq_nil_of_le (by omega)] at hs
  have : c = cnt l:=by simpa [cnt] using hs
  rw [this]
  exact hk _ _
 | succ n ih =>
  intro i j c hi hj hc hs hk
  obtain ⟨j,rfl⟩ : ∃ q,j = q + 1:=⟨j - 1,by omega⟩
  have hlt : i < l.length:=by omega
  obtain ⟨x,hx⟩ : ∃ x,l[i]? = some x:=⟨_,List.getElem?_eq_getElem hlt⟩
  obtain ⟨b,o,hp,hc1⟩:=Sl1.at_ S (t:=105) (k:=.i64) hx (by kernel_rfl) sz4
  have hc1:=hc1 h (Grow.refl _)
  rw [drop_cons hx] at hs
  simp only [F96_lrlr]
  unfold F96_lrrllrlr
  with_reducible repeat (first | (apply qzV; simp (disch:=omega) only [zA,bzNa.1,hp,hc1,bv] <;> rfl) | apply qzT | apply qzF | (apply qzB; simp (disch:=omega) only [zA,bzNa.1,hp,hc1,bv] <;> rfl))
  have e : (i : Int) + 1 = ((i + 1 : Nat) : Int):=by omega
  cases x
  ·with_reducible repeat (first | (apply qzV; simp (disch:=omega) only [zA,bzNa.1] <;> rfl) | apply qzT | apply qzF | (apply qzB; simp (disch:=omega) only [zA,bzNa.1] <;> rfl))
   rw [e]
   exact ih (by omega) (by omega) (by omega) (by simpa [cnt] using hs) hk
  ·have e2 : (c : Int) + 1 = ((c + 1 : Nat) : Int):=by omega
   with_reducible repeat (first | (apply qzV; simp (disch:=omega) only [zA,bzNa.1] <;> rfl) | apply qzT | apply qzF | (apply qzB; simp (disch:=omega) only [zA,bzNa.1] <;> rfl))
   rw [e,e2]
   exact ih (by omega) (by omega) (by omega) (by simp [cnt] at hs ⊢; omega) hk
theorem f96c {k : Nat} {h : AH} {v : Value} {l : List Bool} (S : Bools h v l) (hl : l.length ≤ 2 ^ 40) (hk : l.length < k) : eInv env (k + 1) (.func 96) #[] #[v] h = some (.int .i64 (cnt l),h):=by
 have T : Tl (F96 (eInv env k) k v h) fun r=>r = (.int .i64 (cnt l),h):=by
  unfold F96
  have hlen : ∀ h',pLen prog #[105] v h' = some (.int .i64 l.length):=fun h'=>Sl1.len S (e:=4) (by kernel_rfl)
  with_reducible repeat (first | (apply qzV; simp (disch:=omega) only [zA,bzNa.1,hlen] <;> rfl) | apply qzT | apply qzF | (apply qzB; simp (disch:=omega) only [zA,bzNa.1,hlen] <;> rfl))
  exact f96_loop S hl l.length (i:=0) (c:=0) (by omega) (by omega) (by omega) (by simp) fun y y'=>⟨_,rfl,rfl⟩
 obtain ⟨r,h1,h2⟩:=T
 rw [F96_call,h1,h2]
theorem f57c {k : Nat} {h : AH} {v : Value} {l : List Bool} (S : Bools h v l) (hl : l.length ≤ 2 ^ 40) (hk : l.length < k) : eInv env (k + 2) (.func 57) #[] #[v] h = some (.int .i64 (cnt l),h):=by
 rw [F57_call]
 unfold F57
 rw [f96c S hl hk]
 rfl
/-- Which value each flag has. -/
def spreadL : Int→List Bool→List Int
 | _,[]=>[]
 | n,true :: l=>-1 :: spreadL n l
 | n,false :: l=>n :: spreadL (n + 1) l
theorem spreadL_len : ∀ (l : List Bool) (n : Int),(spreadL n l).length = l.length
 | [],_=>rfl
 | true :: l,n=>by simp [spreadL,spreadL_len l]
 | false :: l,n=>by simp [spreadL,spreadL_len l]
def ivrows (l : List Int) : List (List Value):=l.map fun z=>[iv z]
def brows (l : List Bool) : List (List Value):=l.map fun z=>[bv z]
theorem ivrows_len (l : List Int) : (ivrows l).length = l.length:=List.length_map ..
theorem brows_len (l : List Bool) : (brows l).length = l.length:=List.length_map ..
theorem f39_loop {β : Type} {k : Nat} {Q : β→Prop} {h0 : AH} {v : Value} {l : List Bool} (S : Bools h0 v l) (hl : l.length ≤ 2 ^ 30) {ke0 : Value→Value→Value→Value→Value→Value→AH→Option β} (n : Nat) :
  ∀ {i j c : Nat} {h : AH} {ov : Value} {done : List Int},i + n = l.length→n < j→c ≤ i→done.length = i→Stt prog h0.n h0 h [] [(ov,1,ivrows done)] →
   (∀ h' ov' y y' y'',Stt prog h0.n h0 h' [] [(ov',1,ivrows (done ++ spreadL c (l.drop i)))]→Tl (ke0 ov' y v y' y'' (.bool false) h') Q) →
   Tl (F39_lrlrrrr (eInv env k) k j ov (.int .i64 c) v (.int .i64 l.length) (.int .i64 i) h ke0) Q:=by
 induction n with
 | zero =>
  intro i j c h ov done hi hj hc hd T hk
  obtain ⟨j,rfl⟩ : ∃ q,j = q + 1:=⟨j - 1,by omega⟩
  simp only [F39_lrlrrrr]
  with_reducible repeat (first | (apply qzV; simp (disch:=omega) only [zA,bzNa.1] <;> rfl) | apply qzT | apply qzF | (apply qzB; simp (disch:=omega) only [zA,bzNa.1] <;> rfl))
  refine hk _ _ _ _ _ ?_
  rw [List.drop_eq_nil_of_le (by omega)]
  simpa [spreadL] using T
 | succ n ih =>
  intro i j c h ov done hi hj hc hd T hk
  obtain ⟨j,rfl⟩ : ∃ q,j = q + 1:=⟨j - 1,by omega⟩
  have hlt : i < l.length:=by omega
  obtain ⟨x,hx⟩ : ∃ x,l[i]? = some x:=⟨_,List.getElem?_eq_getElem hlt⟩
  obtain ⟨b,o,hp,hc1⟩:=Sl1.at_ S (t:=32) (k:=.i64) hx u32 sz4
  have hc1:=hc1 h T.grow
  simp only [F39_lrlrrrr]
  unfold F39_lrrllrlrrrr
  with_reducible repeat (first | (apply qzV; simp (disch:=omega) only [zA,bzNa.1,hp,hc1,bv] <;> rfl) | apply qzT | apply qzF | (apply qzB; simp (disch:=omega) only [zA,bzNa.1,hp,hc1,bv] <;> rfl))
  have e : (i : Int) + 1 = ((i + 1 : Nat) : Int):=by omega
  cases x
  ·with_reducible repeat (first | (apply qzV; simp (disch:=omega) only [zA,bzNa.1] <;> rfl) | apply qzT | apply qzF | (apply qzB; simp (disch:=omega) only [zA,bzNa.1] <;> rfl))
   refine Tl.push T 0 rfl app72 (bs72 _ _) rfl rfl (by rw [ivrows_len]; omega) fun ov' h' T'=>?_
   have e2 : (c : Int) + 1 = ((c + 1 : Nat) : Int):=by omega
   with_reducible repeat (first | (apply qzV; simp (disch:=omega) only [zA,bzNa.1] <;> rfl) | apply qzT | apply qzF | (apply qzB; simp (disch:=omega) only [zA,bzNa.1] <;> rfl))
   rw [e,e2]
   refine ih (done:=done ++ [(c : Int)]) (by omega) (by omega) (by omega) (by simp [hd]) (by simpa [ivrows,iv] using T') fun h'' ov'' y y' y'' T''=>?_
   refine hk _ _ _ _ _ ?_
   rw [drop_cons hx]
   simpa [spreadL] using T''
  ·with_reducible repeat (first | (apply qzV; simp (disch:=omega) only [zA,bzNa.1] <;> rfl) | apply qzT | apply qzF | (apply qzB; simp (disch:=omega) only [zA,bzNa.1] <;> rfl))
   refine Tl.push T 0 rfl app72 (bs72 _ _) rfl rfl (by rw [ivrows_len]; omega) fun ov' h' T'=>?_
   with_reducible repeat (first | (apply qzV; simp (disch:=omega) only [zA,bzNa.1] <;> rfl) | apply qzT | apply qzF | (apply qzB; simp (disch:=omega) only [zA,bzNa.1] <;> rfl))
   rw [e]
   refine ih (done:=done ++ [-1]) (by omega) (by omega) (by omega) (by simp [hd]) (by simpa [ivrows,iv] using T') fun h'' ov'' y y' y'' T''=>?_
   refine hk _ _ _ _ _ ?_
   rw [drop_cons hx]
   simpa [spreadL] using T''
def spreadV (l : List Bool) (values : Int) : List Int:=if (l.length : Int) - cnt l = values then spreadL 0 l else []
theorem f39c {k : Nat} {h : AH} {v : Value} {l : List Bool} (S : Bools h v l) (hl : l.length ≤ 2 ^ 30) (hk : l.length < k) (values : Int) :
  Tl (eInv env (k + 3) (.func 39) #[] #[v,.int .i64 values] h) fun r=>OwnB prog h.n r.2 r.1 1 (ivrows (spreadV l values)) ∧ Grow h r.2:=by
 rw [F39_call]
 unfold F39
 have hlen : ∀ h',pLen prog #[32] v h' = some (.int .i64 l.length):=fun h'=>Sl1.len S u32
 have hc:=f57c (k:=k) S (by omega) hk
 have:=cnt_le l
 unfold spreadV
 by_cases e : (l.length : Int) - cnt l = values
 ·rw [if_pos e]
  with_reducible repeat (first | (apply qzV; simp (disch:=omega) only [zA,bzNa.1,hlen,hc] <;> rfl) | apply qzT | apply qzF | (apply qzB; simp (disch:=omega) only [zA,bzNa.1,hlen,hc] <;> rfl))
  refine f39_loop S hl l.length (i:=0) (c:=0) (done:=[]) (by omega) (by omega) (by omega) rfl ((Stt.init h).nil 1) fun h' ov' y y' y'' T=>?_
  exact ⟨_,rfl,by simpa using T.ret 0 rfl,T.grow⟩
 ·rw [if_neg e]
  with_reducible repeat (first | (apply qzV; simp (disch:=omega) only [zA,bzNa.1,hlen,hc] <;> rfl) | apply qzT | apply qzF | (apply qzB; simp (disch:=omega) only [zA,bzNa.1,hlen,hc] <;> rfl))
  exact ⟨_,rfl,.inl ⟨rfl,rfl⟩,Grow.refl _⟩
end Go.Proofs.YtghelamfaaakcaaGreat.Sh
/- What 'Put' of the nulls' package comes to. -/
set_option linter.unusedVariables false
set_option linter.unusedSimpArgs false
set_option maxRecDepth 100000
namespace Go.Proofs.YtghelamfaaakcaaGreat.Sh
open Go Go.RowKit Go.Proofs.Ev
open Tryz (prog)
def bzNb:=PLift.up (ai @ld3 (ai @ld4 (ai @ld5 (ai @ld32 (ai @ld72 (ai @ld33 (ai @ld60 (ai @ld63 (ai (fun a h=>conv_int (a:=a) (h:=h) u3 u60) (ai (fun a h=>conv_int (a:=a) (h:=h) u60 u3) (ai (fun ox oy a b=>bin_eql_bool (ox:=ox) (oy:=oy) (a:=a) (b:=b) u4) (ai (fun ox oy a b=>bin_neq_bool (ox:=ox) (oy:=oy) (a:=a) (b:=b) u4) (ai @ex2_0 (@ex2_1))))))))))))))
def formN (l : List Bool) : Nat:=if cnt l = 0 then 0 else if cnt l = l.length then 1 else 2
def b2n (b : Bool) : Nat:=if b then 1 else 0
def putV (l : List Bool) : List Nat:=pvarN l.length ++ (formN l :: if formN l = 2 then putN 1 (l.map b2n) else [])
theorem f48c {k : Nat} {h : AH} {v : Value} {l : List Bool} (S : Bools h v l) (hl : l.length ≤ 2 ^ 40) (hk : l.length < k) : eInv env (k + 2) (.func 48) #[] #[v] h = some (.int .u8 (formN l : Int),h):=by
 have T : Tl (F48 (eInv env (k + 1)) (k + 1) v h) fun r=>r = (.int .u8 (formN l : Int),h):=by
  unfold F48 formN
  have hlen : ∀ h',pLen prog #[105] v h' = some (.int .i64 l.length):=fun h'=>Sl1.len S u105
  have hc:=f96c S hl hk
  by_cases e1 : cnt l = 0
  ·rw [if_pos e1]
   with_reducible repeat (first | (apply qzV; simp (disch:=omega) only [zA,bzNb.1,hc] <;> rfl) | apply qzT | apply qzF | (apply qzB; simp (disch:=omega) only [zA,bzNb.1,hc] <;> rfl))
   exact ⟨_,rfl,rfl⟩
  ·rw [if_neg e1]
   by_cases e2 : cnt l = l.length
   ·rw [if_pos e2]
    with_reducible repeat (first | (apply qzV; simp (disch:=omega) only [zA,bzNb.1,hc,hlen] <;> rfl) | apply qzT | apply qzF | (apply qzB; simp (disch:=omega) only [zA,bzNb.1,hc,hlen] <;> rfl))
    exact ⟨_,rfl,rfl⟩
   ·rw [if_neg e2]
    with_reducible repeat (first | (apply qzV; simp (disch:=omega) only [zA,bzNb.1,hc,hlen] <;> rfl) | apply qzT | apply qzF | (apply qzB; simp (disch:=omega) only [zA,bzNb.1,hc,hlen] <;> rfl))
    exact ⟨_,rfl,rfl⟩
 obtain ⟨r,h1,h2⟩:=T
 rw [F48_call,h1,h2]
theorem f50_loop {β : Type} {k : Nat} {Q : β→Prop} {h0 : AH} {v ov : Value} {l : List Bool} (S : Bools h0 v l) (hl : l.length ≤ 2 ^ 30) {ke0 : Value→Value→Value→Value→Value→AH→Option β} (n : Nat) :
  ∀ {i j : Nat} {h : AH} {done : List Nat},i + n = l.length→n < j→done.length = l.length→done = (l.take i).map b2n ++ List.replicate n 0→Stt prog h0.n h0 h [] [(ov,1,u64rows done)] →
   (∀ h' y y',Stt prog h0.n h0 h' [] [(ov,1,u64rows (l.map b2n))]→Tl (ke0 ov v (.int .i64 l.length) y y' h') Q) →
   Tl (F50_lrlrr (eInv env k) k j ov v (.int .i64 l.length) (.int .i64 i) h ke0) Q:=by
 induction n with
 | zero =>
  intro i j h done hi hj hd he T hk
  obtain ⟨j,rfl⟩ : ∃ q,j = q + 1:=⟨j - 1,by omega⟩
  simp only [F50_lrlrr]
  with_reducible repeat (first | (apply qzV; simp (disch:=omega) only [zA,bzNb.1] <;> rfl) | apply qzT | apply qzF | (apply qzB; simp (disch:=omega) only [zA,bzNb.1] <;> rfl))
  rw [List.take_of_length_le (by omega)] at he
  have : done = l.map b2n:=by simpa using he
  subst this
  exact hk _ _ _ T
 | succ n ih =>
  intro i j h done hi hj hd he T hk
  obtain ⟨j,rfl⟩ : ∃ q,j = q + 1:=⟨j - 1,by omega⟩
  obtain ⟨x,hx⟩ : ∃ x,l[i]? = some x:=⟨_,List.getElem?_eq_getElem (by omega)⟩
  obtain ⟨b,o,hp,hc1⟩:=Sl1.at_ (S.grow T.grow) (t:=105) (k:=.i64) hx u105 sz4
  have hc1:=hc1 h (Grow.refl _)
  obtain ⟨bm,em,hm⟩:=T.idx (t:=63) 0 rfl (kd:=.i64) (j:=i) (by rw [u64rows_len]; omega) u63 sz60
  have e : (i : Int) + 1 = ((i + 1 : Nat) : Int):=by omega
  have hti : l.take (i + 1) = l.take i ++ [x]:=by rw [List.take_add_one,hx]; rfl
  have hlt : ((l.take i).map b2n).length = i:=by simp; omega
  simp only [F50_lrlrr]
  unfold F50_lrrllrlrr
  cases x
  ·with_reducible repeat (first | (apply qzV; simp (disch:=omega) only [zA,bzNb.1,hp,hc1,bv] <;> rfl) | apply qzT | apply qzF | (apply qzB; simp (disch:=omega) only [zA,bzNb.1,hp,hc1,bv] <;> rfl))
   rw [e]
   refine ih (done:=done) (by omega) (by omega) hd ?_ T hk
   rw [hti,he,List.map_append,List.replicate_succ]
   simp [b2n]
  ·with_reducible repeat (first | (apply qzV; simp (disch:=omega) only [zA,bzNb.1,hp,hc1,bv,hm] <;> rfl) | apply qzT | apply qzF | (apply qzB; simp (disch:=omega) only [zA,bzNb.1,hp,hc1,bv,hm] <;> rfl))
   refine Tl.setAt T 0 rfl em (by rw [u64rows_len]; omega) rfl sz60 rfl fun h' T'=>?_
   with_reducible repeat (first | (apply qzV; simp (disch:=omega) only [zA,bzNb.1] <;> rfl) | apply qzT | apply qzF | (apply qzB; simp (disch:=omega) only [zA,bzNb.1] <;> rfl))
   rw [e]
   refine ih (done:=done.set i 1) (by omega) (by omega) (by simp [hd]) ?_ (by simpa [u64rows,u64v,List.map_set,Value.cells] using T') hk
   rw [hti,he,List.map_append,List.replicate_succ,List.set_append_right _ _ (by omega),hlt,Nat.sub_self]
   simp [b2n]
theorem f50c {k : Nat} {h : AH} {v : Value} {l : List Bool} (S : Bools h v l) (hl : l.length ≤ 2 ^ 30) (hk : l.length < k) :
  Tl (eInv env (k + 1) (.func 50) #[] #[v] h) fun r=>OwnB prog h.n r.2 r.1 1 (u64rows (l.map b2n)) ∧ Grow h r.2:=by
 rw [F50_call]
 unfold F50
 have hlen : ∀ h',pLen prog #[105] v h' = some (.int .i64 l.length):=fun h'=>Sl1.len S u105
 with_reducible repeat (first | (apply qzV; simp (disch:=omega) only [zA,bzNb.1,hlen] <;> rfl) | apply qzT | apply qzF | (apply qzB; simp (disch:=omega) only [zA,bzNb.1,hlen] <;> rfl))
 refine Tl.make' (Stt.init h) app63 ze60 (by omega) (by omega) fun ov h1 S1 g1=>?_
 have S1 : Stt prog h.n h h1 [] [(ov,1,u64rows (List.replicate l.length 0))]:=by
  have e : u64rows (List.replicate l.length 0) = List.replicate l.length [.int .u64 0]:=by simp [u64rows,u64v]
  rw [e]; exact S1
 with_reducible repeat (first | (apply qzV; simp (disch:=omega) only [zA,bzNb.1,hlen] <;> rfl) | apply qzT | apply qzF | (apply qzB; simp (disch:=omega) only [zA,bzNb.1,hlen] <;> rfl))
 refine f50_loop S hl l.length (i:=0) (by omega) (by omega) (by simp) (by simp) S1 fun h' y y' T=>?_
 exact ⟨_,rfl,T.ret 0 rfl,T.grow⟩
theorem formN_le (l : List Bool) : formN l ≤ 2:=by unfold formN; split <;> (try split) <;> omega
theorem putV_len {l : List Bool} (hl : l.length ≤ 4096) : (putV l).length ≤ 600:=by
 have h1:=pvarN_le10 (n:=l.length) (by omega)
 have h2 : (putN 1 (l.map b2n)).length ≤ 520:=by
  have:=(putN_spec 1 (l.map b2n)).2.1
  rw [List.length_map] at this
  omega
 unfold putV
 split <;> simp <;> omega
theorem b2n_width (l : List Bool) : Pk.widthN (l.map b2n) ≤ 1:=by
 rw [Pk.width_le]
 intro x hx
 obtain ⟨b,_,rfl⟩:=List.mem_map.1 hx
 cases b <;> simp [b2n]
/-- 'Put'. -/
theorem f30c {k : Nat} {h : AH} {v : Value} {l : List Bool} (S : Bools h v l) (hl : l.length ≤ 4096) (hk : l.length < k) :
  Tl (eInv env (k + 500) (.func 30) #[] #[v] h) fun r=>∃ o,r.1 = .tuple #[o,.int .i64 0] ∧ Grow h r.2 ∧ OwnB prog h.n r.2 o 1 (u8rows (putV l)):=by
 rw [F30_call]
 unfold F30
 have hlen : ∀ h',pLen prog #[32] v h' = some (.int .i64 l.length):=fun h'=>Sl1.len S u32
 with_reducible repeat (first | (apply qzV; simp (disch:=omega) only [zA,bzNb.1,hlen] <;> rfl) | apply qzT | apply qzF | (apply qzB; simp (disch:=omega) only [zA,bzNb.1,hlen] <;> rfl))
 refine Tl.bind (f47c (k:=k + 479) (l:=[]) l.length (by omega) (by simp) ((Stt.init h).nil 1 : Stt prog h.n h h [] ((_,1,u8rows []) :: []))) ?_
 rintro ⟨ov,h1⟩ S1
 simp only [List.nil_append] at S1
 have hf:=f48c (k:=k + 497) (S.grow S1.grow) (by omega) (by omega)
 have h10:=pvarN_le10 (n:=l.length) (by omega)
 have hfl:=formN_le l
 with_reducible repeat (first | (apply qzV; simp (disch:=omega) only [zA,bzNb.1,hf] <;> rfl) | apply qzT | apply qzF | (apply qzB; simp (disch:=omega) only [zA,bzNb.1,hf] <;> rfl))
 refine Tl.push S1 0 rfl app33 (bs33 _ _) rfl rfl (by rw [u8rows_len]; omega) fun ov2 h2 S2=>?_
 have hf2:=f48c (k:=k + 497) (S.grow S2.grow) (by omega) (by omega)
 have e2 : u8rows (pvarN l.length) ++ [[.int .u8 (formN l : Int)]] = u8rows (pvarN l.length ++ [formN l]):=by simp [u8rows,u8v]
 have S2 : Stt prog h.n h h2 [] [(ov2,1,u8rows (pvarN l.length ++ [formN l]))]:=by rw [← e2]; exact S2
 by_cases q : formN l = 2
 ·with_reducible repeat (first | (apply qzV; simp (disch:=omega) only [zA,bzNb.1,hf2] <;> rfl) | apply qzT | apply qzF | (apply qzB; simp (disch:=omega) only [zA,bzNb.1,hf2] <;> rfl))
  refine Tl.callO S2 (f50c (k:=k + 498) (S.grow S2.grow) (by omega) (by omega)) fun wv h3 S3 g3=>?_
  refine Tl.bind (f49c (k:=k + 198) (S3.sl1 0 rfl) (by simp; omega) (by simp; omega) (fun x hx=>?_) 1) ?_
  ·obtain ⟨b,_,rfl⟩:=List.mem_map.1 hx
   cases b <;> simp [b2n]
  rintro ⟨r,h4⟩ ⟨pv,er,g4,X⟩
  simp only at er g4 X
  subst er
  have pe : Pk.putE (l.map b2n) 1 = 0:=Pk.putE_of (W:=1) (by simp; omega) (by omega) (b2n_width l)
  have pl : Pk.putL (l.map b2n) 1 = putN 1 (l.map b2n):=by unfold Pk.putL; rw [if_pos pe]; rfl
  rw [pl] at X
  have S4:=S3.gain g4 X
  with_reducible repeat (first | (apply qzV; simp (disch:=omega) only [zA,bzNb.1,pe] <;> rfl) | apply qzT | apply qzF | (apply qzB; simp (disch:=omega) only [zA,bzNb.1,pe] <;> rfl))
  have hpl : (putN 1 (l.map b2n)).length ≤ 520:=by
   have:=(putN_spec 1 (l.map b2n)).2.1
   rw [List.length_map] at this
   omega
  refine Tl.append' S4 2 rfl app33 (S4.slV 0 rfl) (one_u8rows _) (by rw [u8rows_len,u8rows_len]; simp; omega) fun ov3 h5 S5=>?_
  with_reducible repeat (first | (apply qzV; simp (disch:=omega) only [zA,bzNb.1] <;> rfl) | apply qzT | apply qzF | (apply qzB; simp (disch:=omega) only [zA,bzNb.1] <;> rfl))
  refine ⟨_,rfl,ov3,rfl,S5.grow,?_⟩
  have:=S5.ret 2 rfl
  have e3 : u8rows (pvarN l.length ++ [formN l]) ++ u8rows (putN 1 (l.map b2n)) = u8rows (putV l):=by
   unfold putV
   rw [if_pos q]
   simp [u8rows]
  rw [e3] at this
  exact this
 ·with_reducible repeat (first | (apply qzV; simp (disch:=omega) only [zA,bzNb.1,hf2] <;> rfl) | apply qzT | apply qzF | (apply qzB; simp (disch:=omega) only [zA,bzNb.1,hf2] <;> rfl))
  refine ⟨_,rfl,ov2,rfl,S2.grow,?_⟩
  have:=S2.ret 0 rfl
  have e3 : pvarN l.length ++ [formN l] = putV l:=by
   unfold putV
   rw [if_neg q]
  rw [e3] at this
  exact this
end Go.Proofs.YtghelamfaaakcaaGreat.Sh
/- What 'segment.Put' comes to. -/
set_option linter.unusedVariables false
set_option linter.unusedSimpArgs false
set_option maxRecDepth 100000
namespace Go.Proofs.YtghelamfaaakcaaGreat.Sh
open Go Go.RowKit Go.Proofs.Ev Go.Lib
open Tryz (prog)
def bzS5:=PLift.up (ai @ld3 (ai @ld2 (ai @ld9 (ai @ld4 (ai @ld31 (ai @fa31_0 (ai @fa31_1 (ai @fa31_2 (ai (fun a h=>conv_int (a:=a) (h:=h) u3 u5) (ai @aggC (ai @ex2_0 (ai @ex2_1 (@Nat.add_zero)))))))))))))
theorem appCs : AppT prog #[22,22] 31 3 32:=⟨by kernel_rfl,⟨31,by kernel_rfl⟩,by kernel_rfl,by omega,by kernel_rfl,⟨_,ze31,rfl,rfl⟩⟩
theorem bsCs (c : CellD) (h : AH) : pBuildSlice prog 22 1 #[(0,c.v)] h = some (.slice (some ⟨h.n,0,none⟩) 1 1,h.alloc (.cells (crow c) 31 true)):=by kernel_rfl
def flg (l : List CellD) : List Bool:=l.map fun c=>decide (c.k = 0)
def crows (l : List CellD) : List (List Value):=l.map crow
theorem crows_len (l : List CellD) : (crows l).length = l.length:=List.length_map ..
def flx (l : List CellD) (i : Nat) : List Bool:=flg (l.take i) ++ List.replicate (l.length - i) false
theorem flx_len {l : List CellD} {i : Nat} (h : i ≤ l.length) : (flx l i).length = l.length:=by simp [flx,flg]; omega
theorem flx_set {l : List CellD} {i : Nat} {c : CellD} (hc : l[i]? = some c) : (flx l i).set i (decide (c.k = 0)) = flx l (i + 1):=by
 have hlt:=(List.getElem?_eq_some_iff.1 hc).1
 have hti : l.take (i + 1) = l.take i ++ [c]:=by rw [List.take_add_one,hc]; rfl
 have hr : l.length - i = (l.length - (i + 1)) + 1:=by omega
 have hl : (flg (l.take i)).length = i:=by simp [flg]; omega
 unfold flx
 rw [hti,hr,List.replicate_succ,List.set_append_right _ _ (by omega),hl,Nat.sub_self]
 simp [flg]
theorem vals_step {l : List CellD} {i : Nat} {c : CellD} (hc : l[i]? = some c) : vals (l.take (i + 1)) = if c.k = 0 then vals (l.take i) else vals (l.take i) ++ [c]:=by
 have hti : l.take (i + 1) = l.take i ++ [c]:=by rw [List.take_add_one,hc]; rfl
 rw [hti]
 unfold vals
 rw [List.filter_append]
 by_cases h : c.k = 0 <;> simp [h]
theorem f13_loop {β : Type} {k : Nat} {Q : β→Prop} {h0 : AH} {v kv : Value} {l : List CellD} (A : Cells h0 v l) (hl : l.length ≤ 4096) {ke0 : Value→Value→Value→Value→Value→Value→Value→AH→Option β} (n : Nat) :
  ∀ {i j : Nat} {h : AH} {nv sv : Value},i + n = l.length→n < j→Stt prog h0.n h0 h [] [(nv,1,brows (flx l i)),(sv,3,crows (vals (l.take i)))] →
   (∀ h' nv' sv' y1 y2,Stt prog h0.n h0 h' [] [(nv',1,brows (flg l)),(sv',3,crows (vals l))]→Tl (ke0 kv nv' sv' v (.int .i64 l.length) y1 y2 h') Q) →
   Tl (F13_lrlrrrr (eInv env k) k j kv nv sv v (.int .i64 l.length) (.int .i64 i) h ke0) Q:=by
 induction n with
 | zero =>
  intro i j h nv sv hi hj T hk
  obtain ⟨j,rfl⟩ : ∃ q,j = q + 1:=⟨j - 1,by omega⟩
  simp only [F13_lrlrrrr]
  with_reducible repeat (first | (apply qzV; simp (disch:=omega) only [zA,bzS5.1] <;> rfl) | apply qzT | apply qzF | (apply qzB; simp (disch:=omega) only [zA,bzS5.1] <;> rfl))
  have e1 : flx l i = flg l:=by unfold flx; rw [List.take_of_length_le (by omega),show l.length - i = 0 by omega]; simp
  rw [e1,List.take_of_length_le (by omega)] at T
  exact hk _ _ _ _ _ T
 | succ n ih =>
  intro i j h nv sv hi hj T hk
  obtain ⟨j,rfl⟩ : ∃ q,j = q + 1:=⟨j - 1,by omega⟩
  obtain ⟨c,hc⟩ : ∃ c,l[i]? = some c:=⟨_,List.getElem?_eq_getElem (by omega)⟩
  obtain ⟨b,o,hx,hr⟩:=(A.grow T.grow).at_ hc
  have e : (i : Int) + 1 = ((i + 1 : Nat) : Int):=by omega
  have hfl:=flx_len (l:=l) (i:=i) (by omega)
  obtain ⟨bm,em,hm⟩:=T.idx (t:=32) 0 rfl (kd:=.i64) (j:=i) (by rw [brows_len]; omega) u32 sz4
  have hvs:=vals_step hc
  have hvl : (vals (l.take i)).length ≤ 4096:=by have:=vals_le (l.take i); rw [List.length_take] at this; omega
  simp only [F13_lrlrrrr]
  unfold F13_lrrllrlrrrr
  with_reducible repeat (first | (apply qzV; simp (disch:=omega) only [zA,bzS5.1,hx,hr] <;> rfl) | apply qzT | apply qzF | (apply qzB; simp (disch:=omega) only [zA,bzS5.1,hx,hr] <;> rfl))
  refine Tl.alloc' T ze31 rfl fun b4 h1 T1 _=>?_
  refine Tl.store' T1 0 rfl sz31 rfl rfl (of_decide_eq_true rfl) fun h2 T2 _=>?_
  have T2 : Stt prog h0.n h0 h2 [Cr b4 c] [(nv,1,brows (flx l i)),(sv,3,crows (vals (l.take i)))]:=T2
  obtain ⟨_,k4,_⟩:=c_at T2 0 rfl
  have dc : (c.k == 0) = decide (c.k = 0):=by by_cases q : c.k = 0 <;> simp [q]
  with_reducible repeat (first | (apply qzV; simp (disch:=omega) only [zA,bzS5.1,k4,hm,dc] <;> rfl) | apply qzT | apply qzF | (apply qzB; simp (disch:=omega) only [zA,bzS5.1,k4,hm,dc] <;> rfl))
  refine Tl.setAt T2 0 rfl em (by rw [brows_len]; omega) rfl sz4 rfl fun h3 T3=>?_
  have e3 : (brows (flx l i)).set i (Value.bool (decide (c.k = 0))).cells.toList = brows (flx l (i + 1)):=by rw [← flx_set hc]; simp [brows,bv,List.map_set,Value.cells]
  have T3 : Stt prog h0.n h0 h3 [Cr b4 c] [(nv,1,brows (flx l (i + 1))),(sv,3,crows (vals (l.take i)))]:=by rw [← e3]; exact T3
  have gi : (flx l (i + 1))[i]? = some (decide (c.k = 0)):=by rw [← flx_set hc,List.getElem?_set_self (by omega)]
  obtain ⟨b5,o5,hp5,hc5⟩:=Sl1.at_ (T3.sl1 (f:=bv) 0 rfl) (t:=32) (k:=.i64) gi u32 sz4
  have hc5:=hc5 h3 (Grow.refl _)
  obtain ⟨r4,_⟩:=c_at T3 0 rfl
  by_cases q : c.k = 0
  ·rw [if_pos q] at hvs
   have qd:=decide_eq_true q
   rw [qd] at hc5
   unfold bv at hc5
   with_reducible repeat (first | (apply qzV; simp (disch:=omega) only [zA,bzS5.1,hp5,hc5] <;> rfl) | apply qzT | apply qzF | (apply qzB; simp (disch:=omega) only [zA,bzS5.1,hp5,hc5] <;> rfl))
   rw [e]
   refine ih (by omega) (by omega) ?_ hk
   rw [hvs]
   exact T3.drop
  ·rw [if_neg q] at hvs
   have qd:=decide_eq_false q
   rw [qd] at hc5
   unfold bv at hc5
   with_reducible repeat (first | (apply qzV; simp (disch:=omega) only [zA,bzS5.1,hp5,hc5,r4] <;> rfl) | apply qzT | apply qzF | (apply qzB; simp (disch:=omega) only [zA,bzS5.1,hp5,hc5,r4] <;> rfl))
   refine Tl.push T3 1 rfl appCs (bsCs _ _) rfl rfl (by rw [crows_len]; omega) fun sv' h5 T5=>?_
   with_reducible repeat (first | (apply qzV; simp (disch:=omega) only [zA,bzS5.1] <;> rfl) | apply qzT | apply qzF | (apply qzB; simp (disch:=omega) only [zA,bzS5.1] <;> rfl))
   rw [e]
   refine ih (by omega) (by omega) ?_ hk
   rw [hvs]
   have e5 : crows (vals (l.take i)) ++ [crow c] = crows (vals (l.take i) ++ [c]):=by simp [crows]
   rw [← e5]
   exact T5.drop
end Go.Proofs.YtghelamfaaakcaaGreat.Sh
/- 'slices.Repeat' of one number. -/
set_option linter.unusedVariables false
set_option linter.unusedSimpArgs false
set_option maxRecDepth 100000
namespace Go.Proofs.YtghelamfaaakcaaGreat.Sh
open Go Go.RowKit Go.Proofs.Ev
open Tryz (prog)
def bzIr:=PLift.up (ai @ld3 (ai @ld2 (ai @ld60 (ai @ld121 (ai (fun a h=>conv_int (a:=a) (h:=h) u3 u60) (ai (fun a h=>conv_int (a:=a) (h:=h) u60 u3) (ai (fun a h=>conv_int (a:=a) (h:=h) u3 u109) (ai (fun a h=>conv_int (a:=a) (h:=h) u109 u3) (ai @ex2_0 (@ex2_1))))))))))
theorem andm (a : Nat) (ha : a < 4294967296) : ∀ t x y,pBin prog Go.BinOp.and t x y (.int .u64 (a : Int)) (.int .u64 4294967295) = some (.int .u64 (a : Int)):=fun t x y=>by
 rw [bin_and]
 have e : IntKind.u64.wrap (BitVec.ofInt 64 (a : Int) &&& BitVec.ofInt 64 4294967295).toNat = (a : Int):=by
  rw [BitVec.toNat_and,ofInt_toNat _ (by omega) (by omega),ofInt_toNat _ (by omega) (by omega)]
  have : a &&& 4294967295 = a:=by
   have:=Nat.and_two_pow_sub_one_eq_mod a 32
   have h2 : (2 : Nat) ^ 32 - 1 = 4294967295:=by decide
   have h3 : (2 : Nat) ^ 32 = 4294967296:=by decide
   rw [h2,h3] at this
   omega
  have h4 : (4294967295 : Int).toNat = 4294967295:=rfl
  rw [Int.toNat_natCast,h4,this,wrap_u64]
  omega
 exact congrArg some (congrArg _ e)
theorem shr32 (a : Nat) (ha : a < 4294967296) : ∀ t x y,pBin prog Go.BinOp.shr t x y (.int .u64 (a : Int)) (.int .u64 32) = some (.int .u64 0):=fun t x y=>by
 rw [shr_nn (by decide)]
 have e : (a : Int).fdiv (2 ^ (min (32 : Int).toNat IntKind.u64.bits)) = 0:=by
  have h2 : min (32 : Int).toNat IntKind.u64.bits = 32:=by decide
  rw [h2,Int.fdiv_eq_ediv_of_nonneg _ (by decide)]
  have : (2 : Int) ^ 32 = 4294967296:=by decide
  rw [this]; omega
 rw [e]
theorem f162c {k : Nat} (n : Nat) (hn : n ≤ 100000) (h : AH) : eInv env (k + 1) (.func 162) #[] #[.int .u64 1,.int .u64 (n : Int)] h = some (.tuple #[.int .u64 0,.int .u64 (n : Int)],h):=by
 have T : Tl (F162 (eInv env k) k (.int .u64 1) (.int .u64 (n : Int)) h) fun r=>r = (.tuple #[.int .u64 0,.int .u64 (n : Int)],h):=by
  unfold F162
  have a1:=andm 1 (by omega)
  have s1:=shr32 1 (by omega)
  have a0:=andm 0 (by omega)
  have s0:=shr32 0 (by omega)
  have an:=andm n (by omega)
  have sn:=shr32 n (by omega)
  have e1 : ((1 : Nat) : Int) = 1:=rfl
  have e0 : ((0 : Nat) : Int) = 0:=rfl
  rw [e1] at a1 s1
  rw [e0] at a0 s0
  with_reducible repeat (first | (apply qzV; simp (disch:=omega) only [zA,bzIr.1,a1,s1,an,sn,a0,s0,Int.one_mul,Int.zero_mul,Int.mul_zero,Int.zero_add,Int.add_zero] <;> rfl) | apply qzT | apply qzF | (apply qzB; simp (disch:=omega) only [zA,bzIr.1,a1,s1,an,sn,a0,s0,Int.one_mul,Int.zero_mul,Int.mul_zero,Int.zero_add,Int.add_zero] <;> rfl))
  exact ⟨_,rfl,rfl⟩
 obtain ⟨r,h1,h2⟩:=T
 rw [F162_call,h1,h2]
theorem f138c {k : Nat} (n : Nat) (hn : n ≤ 100000) (h : AH) : eInv env (k + 2) (.func 138) #[] #[.int .u64 1,.int .u64 (n : Int)] h = some (.tuple #[.int .u64 0,.int .u64 (n : Int)],h):=by
 have T : Tl (F138 (eInv env (k + 1)) (k + 1) (.int .u64 1) (.int .u64 (n : Int)) h) fun r=>r = (.tuple #[.int .u64 0,.int .u64 (n : Int)],h):=by
  unfold F138
  have a1:=f162c (k:=k) n hn h
  with_reducible repeat (first | (apply qzV; simp (disch:=omega) only [zA,bzIr.1,a1] <;> rfl) | apply qzT | apply qzF | (apply qzB; simp (disch:=omega) only [zA,bzIr.1,a1] <;> rfl))
  exact ⟨_,rfl,rfl⟩
 obtain ⟨r,h1,h2⟩:=T
 rw [F138_call,h1,h2]
/-! ### 'slices.Repeat' of one number -/
def fillC (x : Int) (p m : Nat) : List Value:=(List.replicate p x ++ List.replicate (m - p) 0).map i6v
theorem fillC_len (x : Int) (p m : Nat) (hp : p ≤ m) : (fillC x p m).length = m:=by simp [fillC]; omega
theorem fillC_splice (x : Int) (p q m : Nat) (h : p + q ≤ m) : splice (fillC x p m) p ((List.replicate q x).map i6v) = fillC x (p + q) m:=by
 unfold splice fillC
 rw [List.map_append,List.take_left' (by simp),List.length_map,List.length_replicate,← List.drop_drop,List.drop_left' (by simp),← List.map_drop,List.drop_replicate,← List.map_append,← List.map_append,List.replicate_append_replicate]
 congr 3
 omega
theorem slI {h : AH} {b n m lo : Nat} {cs : List Value} (hg : h.get b = some (.cells cs 2 true)) (hlo : lo ≤ n) : pSlice prog 121 (.slice (some ⟨b,0,none⟩) n n) (some (.int .i64 lo)) none none h = some (.slice (some ⟨b,lo,none⟩) (n - lo) (n - lo)) ∧
  pSlice prog 121 (.slice (some ⟨b,0,none⟩) n n) none (some (.int .i64 lo)) none h = some (.slice (some ⟨b,0,none⟩) lo n):=by
 have hm : ∀ d : Int,intOr d (some (.int .i64 (lo : Int))) = some (lo : Int):=fun d=>rfl
 have hm2 : ∀ d : Int,intOr d none = some d:=fun d=>rfl
 have hz : szOk prog (some ⟨b,0,none⟩) 1 h = true:=szOk_of hg sz2
 unfold pSlice
 simp only [el121,Option.bind_some,sz2,hm,hm2]
 rw [if_pos ⟨by omega,by omega,by omega,by omega,by simp,by simp [hz]⟩,if_pos ⟨by omega,by omega,by omega,by omega,by simp,by simp⟩]
 constructor
 ·simp only [Option.map_some,Int.toNat_natCast,Option.some.injEq,Value.slice.injEq,Addr.mk.injEq,true_and,and_true]
  omega
 ·simp
theorem f165_loop {β : Type} {k : Nat} {Q : β→Prop} {n0 : Nat} {h0 : AH} {L : List (Nat × AO)} {O : List OS} {x : Int} {m b : Nat} (hm : m ≤ 100000) {ke0 : Value→Value→Value→AH→Option β} (n : Nat) :
  ∀ {j p : Nat} {h : AH},p + n = m→n < j→(1 ≤ p ∨ m = 0)→Stt prog n0 h0 h ((b,.cells (fillC x p m) 2 true) :: L) O →
   (∀ h' y y',Stt prog n0 h0 h' ((b,.cells (fillC x m m) 2 true) :: L) O→Tl (ke0 (.slice (some ⟨b,0,none⟩) m m) y y' h') Q) →
   Tl (F165_llrrrrrr (eInv env k) k j (.slice (some ⟨b,0,none⟩) m m) (.int .i64 p) h ke0) Q:=by
 induction n using Nat.strongRecOn with
 | _ n ih =>
  intro j p h hp hj h1 S hk
  obtain ⟨j,rfl⟩ : ∃ q,j = q + 1:=⟨j - 1,by omega⟩
  have hlen : ∀ h',pLen prog #[121] (.slice (some ⟨b,0,none⟩) m m) h' = some (.int .i64 m):=fun h'=>len_slice u121
  simp only [F165_llrrrrrr]
  by_cases hn : n = 0
  ·with_reducible repeat (first | (apply qzV; simp (disch:=omega) only [zA,bzIr.1,hlen] <;> rfl) | apply qzT | apply qzF | apply qzG | ((first | apply qzB | apply qzC); simp (disch:=omega) only [zA,bzIr.1,hlen] <;> rfl))
   have : p = m:=by omega
   subst this
   exact hk _ _ _ S
  ·have hg:=S.sta.mem.at_ (i:=0) rfl
   simp only at hg
   obtain ⟨s1,s2⟩:=slI (n:=m) (m:=m) (lo:=p) hg (by omega)
   with_reducible repeat (first | (apply qzV; simp (disch:=omega) only [zA,bzIr.1,hlen,s1,s2] <;> rfl) | apply qzT | apply qzF | apply qzG | ((first | apply qzB | apply qzC); simp (disch:=omega) only [zA,bzIr.1,hlen,s1,s2] <;> rfl))
   have hq : min p (m - p) ≤ m - p:=Nat.min_le_right ..
   have hq2 : min p (m - p) ≤ p:=Nat.min_le_left ..
   have hc : cellsOf prog 1 (min p (m - p)) (.slice (some ⟨b,0,none⟩) p m) h = some ((List.replicate (min p (m - p)) x).map i6v):=by
    unfold cellsOf
    simp only [Nat.mul_one]
    rw [if_neg (by omega),if_pos hq2]
    unfold AH.row
    rw [hg]
    simp only
    rw [if_pos (by rw [fillC_len _ _ _ (by omega)]; omega),List.drop_zero]
    unfold fillC
    rw [← List.map_take,List.take_append_of_le_length (by simp; omega),List.take_replicate,Nat.min_eq_left hq2]
   refine Tl.copy' S 0 rfl el121 sz2 rfl hc (by simp [i6v,oneCell]) (by rw [fillC_len _ _ _ (by omega)]; simp; omega) fun h' S'=>?_
   rw [fillC_splice x p _ m (by omega)] at S'
   have e : (p : Int) + ((min p (m - p) : Nat) : Int) = ((p + min p (m - p) : Nat) : Int):=by omega
   with_reducible repeat (first | (apply qzV; simp (disch:=omega) only [zA,bzIr.1] <;> rfl) | apply qzT | apply qzF | apply qzG | ((first | apply qzB | apply qzC); simp (disch:=omega) only [zA,bzIr.1] <;> rfl))
   rw [e]
   exact ih (n - min p (m - p)) (by omega) (by omega) (by omega) (by omega) S' hk
theorem f165c {k : Nat} {h : AH} {v : Value} {x : Int} {n : Nat} (S : Ints h v [x]) (hn : n ≤ 100000) (hk : n < k) :
  Tl (eInv env (k + 3) (.func 165) #[] #[v,.int .i64 (n : Int)] h) fun r=>OwnB prog h.n r.2 r.1 1 (i6rows (List.replicate n x)) ∧ Grow h r.2:=by
 rw [F165_call]
 unfold F165
 have hlen : ∀ h',pLen prog #[121] v h' = some (.int .i64 1):=fun h'=>Sl1.len S u121
 have ml:=f138c (k:=k) n (by omega) h
 with_reducible repeat (first | (apply qzV; simp (disch:=omega) only [zA,bzIr.1] <;> rfl) | apply qzT | apply qzF | apply qzG | ((first | apply qzB | apply qzC); simp (disch:=omega) only [zA,bzIr.1] <;> rfl))
 unfold F165_rlr
 with_reducible repeat (first | (apply qzV; simp (disch:=omega) only [zA,bzIr.1,hlen,ml] <;> rfl) | apply qzT | apply qzF | apply qzG | ((first | apply qzB | apply qzC); simp (disch:=omega) only [zA,bzIr.1,hlen,ml] <;> rfl))
 unfold F165_rlrrr
 with_reducible repeat (first | (apply qzV; simp (disch:=omega) only [zA,bzIr.1] <;> rfl) | apply qzT | apply qzF | apply qzG | ((first | apply qzB | apply qzC); simp (disch:=omega) only [zA,bzIr.1] <;> rfl))
 refine Tl.makeK (Stt.init h) app121 ze2 (by omega) (by omega) fun b h1 S1 g1=>?_
 have S1 : Stt prog h.n h h1 [(b,.cells (fillC x 0 n) 2 true)] []:=by
  have e : (List.replicate n (Value.int .i64 0).cells.toList).flatten = fillC x 0 n:=by
   unfold fillC
   simp only [List.replicate_zero,List.nil_append,Nat.sub_zero,List.map_replicate,i6v]
   have : (Value.int .i64 0).cells.toList = [Value.int .i64 0]:=rfl
   rw [this]
   clear hn hk ml S1
   induction n with
   | zero=>rfl
   | succ n ih=>rw [List.replicate_succ,List.flatten_cons,ih,List.replicate_succ]; rfl
  rw [← e]; exact S1
 have B1:=S.grow g1
 have hc : cellsOf prog 1 (min 1 n) v h1 = some ((List.replicate (min 1 n) x).map i6v):=by
  by_cases hn0 : n = 0
  ·subst hn0
   rcases B1 with ⟨q,q2⟩ | ⟨b',o,c,own,q,_,_⟩
   ·simp at q2
   ·subst q; rfl
  ·have : min 1 n = 1:=by omega
   rw [this]
   exact SlV.cellsOf B1 (by omega)
 have hl1 : lenE v = some 1:=lenE_of B1
 refine Tl.copy' S1 0 rfl el121 sz2 hl1 hc (by simp [i6v,oneCell]) (by rw [fillC_len _ _ _ (by omega)]; simp; omega) fun h2 S2=>?_
 rw [fillC_splice x 0 _ n (by omega),Nat.zero_add] at S2
 refine f165_loop (p:=min 1 n) (by omega) (n - min 1 n) (by omega) (by omega) (by omega) S2 fun h3 y y' S3=>?_
 have S3 : Stt prog h.n h h3 ((b,.cells (i6rows (List.replicate n x)).flatten 2 true) :: []) []:=by
  have e : (i6rows (List.replicate n x)).flatten = fillC x n n:=by
   unfold fillC i6rows
   rw [Nat.sub_self,List.replicate_zero,List.append_nil]
   generalize List.replicate n x = l
   induction l with
   | nil=>rfl
   | cons a l ih=>rw [List.map_cons,List.flatten_cons,ih]; rfl
  rw [e]; exact S3
 have S4:=S3.absorb (n:=1) (fun r hr=>by obtain ⟨z,_,rfl⟩:=List.mem_map.1 hr; rfl) sz2
 rw [i6rows_len,List.length_replicate] at S4
 exact ⟨_,rfl,S4.ret 0 rfl,S4.grow⟩
end Go.Proofs.YtghelamfaaakcaaGreat.Sh
/- Readers of numbers: 'plain', 'runs', 'packed'. -/
set_option linter.unusedVariables false
set_option linter.unusedSimpArgs false
set_option maxRecDepth 100000
namespace Go.Proofs.YtghelamfaaakcaaGreat.Sh
open Go Go.RowKit Go.Proofs.Ev
open Tryz (prog)
/-- A number without a sign as one with. -/
def toI (x : Nat) : Int:=if x ≥ 9223372036854775808 then (x : Int) - 18446744073709551616 else x
theorem wrapI {x : Nat} (hx : x < 18446744073709551616) : IntKind.i64.wrap (x : Int) = toI x:=by
 rw [wrap_i64']
 unfold toI
 split <;> split <;> omega
theorem toI_toU {z : Int} (h : i64ok z) : toI (toU z) = z:=by
 unfold i64ok at h
 unfold toI toU
 split <;> omega
def bzId:=PLift.up (ai @ld3 (ai @ld2 (ai @ld4 (ai @ld5 (ai @ld60 (ai @ld33 (ai @ld121 (ai @ld63 (ai (fun a h=>conv_int (a:=a) (h:=h) u3 u60) (ai (fun a h=>conv_int (a:=a) (h:=h) u2 u60) (ai (fun a h=>conv_int (a:=a) (h:=h) u60 u5) (ai (fun a h=>conv_int (a:=a) (h:=h) u60 u2) (ai (fun a h=>conv_int (a:=a) (h:=h) u60 u3) (ai (fun a h=>conv_int (a:=a) (h:=h) u3 u5) (ai @ex2_0 (@ex2_1))))))))))))))))
theorem ofB8 {r : List Nat} (hb : ∀ x ∈ r,x < 256) : ofB (r.take 8) < 18446744073709551616:=by
 have h1:=ofB_lt (r.take 8) fun x hx=>hb x (List.mem_of_mem_take hx)
 have h2 : 256 ^ (r.take 8).length ≤ 256 ^ 8:=Nat.pow_le_pow_right (by decide) (by simp; omega)
 have h3 : (256 : Nat) ^ 8 = 18446744073709551616:=by decide
 omega
def plainGI : Nat→List Nat→Option (List Int)
 | 0,_=>some []
 | n + 1,r=>if r.length < 8 then none else (plainGI n (r.drop 8)).map (toI (ofB (r.take 8)) :: ·)
def runsG : Nat→Nat→List Nat→Option (List Int)
 | 0,n,_=>if n = 0 then some [] else none
 | f + 1,n,r=>if n = 0 then some [] else match dec 0 0 r with
  | none=>none
  | some (k,r1)=>if r1.length < 8 ∨ k < 1 ∨ k > n then none else (runsG f (n - k) (r1.drop 8)).map (List.replicate k (toI (ofB (r1.take 8))) ++ ·)
def packG (n : Nat) (r : List Nat) : Option (List Int):=if r.length < 9 then none else
 if Pk.checkE (r.drop 9) n (ofB ((r.drop 8).take 1) : Nat) ≠ 0 then none else some ((Pk.getN (r.drop 9) n (ofB ((r.drop 8).take 1) : Nat)).map fun v=>toI ((ofB (r.take 8) + v) % 18446744073709551616))
def kindG (kd n : Nat) (r : List Nat) : Option (List Int):=if kd = 1 then plainGI n r else if kd = 2 then runsG n n r else packG n r
theorem plainGI_len : ∀ (n : Nat) {r : List Nat} {l : List Int},plainGI n r = some l→l.length = n:=by
 intro n
 induction n with
 | zero=>intro r l h; cases h; rfl
 | succ n ih =>
  intro r l h
  unfold plainGI at h
  split at h
  ·cases h
  ·obtain ⟨m,h1,rfl⟩:=Option.map_eq_some_iff.1 h
   simp [ih h1]
theorem runsG_len : ∀ (f n : Nat) {r : List Nat} {l : List Int},runsG f n r = some l→l.length = n:=by
 intro f
 induction f with
 | zero =>
  intro n r l h
  unfold runsG at h
  split at h
  ·cases h; simp [*]
  ·cases h
 | succ f ih =>
  intro n r l h
  unfold runsG at h
  split at h
  ·cases h; simp [*]
  ·split at h
   ·cases h
   ·split at h
    ·cases h
    ·obtain ⟨m,h1,rfl⟩:=Option.map_eq_some_iff.1 h
     simp [ih _ h1]; omega
theorem packG_len {n : Nat} {r : List Nat} {l : List Int} (h : packG n r = some l) : l.length = n:=by
 unfold packG at h
 split at h
 ·cases h
 ·split at h
  ·cases h
  ·rename_i q
   have q : Pk.checkE (r.drop 9) n (ofB ((r.drop 8).take 1) : Nat) = 0:=Decidable.byContradiction q
   cases h
   rw [List.length_map]
   unfold Pk.getN
   rw [if_pos q,digs_len]; simp
theorem kindG_len {kd n : Nat} {r : List Nat} {l : List Int} (h : kindG kd n r = some l) : l.length = n:=by
 unfold kindG at h
 split at h
 ·exact plainGI_len _ h
 ·split at h
  ·exact runsG_len _ _ h
  ·exact packG_len h
theorem dec_len : ∀ (b : List Nat) {i acc v : Nat} {rest : List Nat},dec i acc b = some (v,rest)→rest.length < b.length ∧ ∀ x ∈ rest,x ∈ b:=by
 intro b
 induction b with
 | nil=>intro i acc v rest h; simp [dec] at h
 | cons c b ih =>
  intro i acc v rest h
  unfold dec at h
  split at h
  ·cases h
  ·split at h
   ·cases h
   ·split at h
    ·obtain ⟨h1,h2⟩:=ih h
     exact ⟨by simp; omega,fun x hx=>by simp [h2 x hx]⟩
    ·split at h
     ·cases h
     ·cases h
      exact ⟨by simp,fun x hx=>by simp [hx]⟩
/-- What a reader of numbers comes to. -/
def ReadQ (n0 : Nat) (h0 : AH) (br : Nat) (L : List (Nat × AO)) (O : List OS) (res : Option (List Int)) (r : Value × AH) : Prop :=
 (∃ l rv o O',res = some l ∧ r.1 = .tuple #[o,.int .i64 0] ∧ Stt prog n0 h0 r.2 (Rb br rv :: L) ((o,1,i6rows l) :: O')) ∨
 (res = none ∧ ∃ o e,e ≠ 0 ∧ r.1 = .tuple #[o,.int .i64 e] ∧ Stt prog n0 h0 r.2 L O)
theorem f145_loop {β : Type} {k : Nat} {Q : β→Prop} {n0 : Nat} {h0 : AH} {L : List (Nat × AO)} {O : List OS} {br m : Nat} (hm : m ≤ 100000)
  {ke0 : Value→Value→Value→Value→Value→AH→Option β} {kr : Value→Value→AH→Option β} (n : Nat) :
  ∀ {i j : Nat} {h : AH} {rv ov : Value} {rest : List Nat} {done : List Int},i + n = m→n < j→done.length = i→rest.length ≤ 2 ^ 30→(∀ x ∈ rest,x < 256) →
   Stt prog n0 h0 h (Rb br rv :: L) ((ov,1,i6rows done) :: O)→RV (Rb br rv :: L) 0 rv rest →
   (∀ l,plainGI n rest = some l→∀ h' rv' ov' y y',Stt prog n0 h0 h' (Rb br rv' :: L) ((ov',1,i6rows (done ++ l)) :: O)→Tl (ke0 (ptr br) ov' (.int .i64 m) y y' h') Q) →
   (plainGI n rest = none→∀ h' e,e ≠ 0→Stt prog n0 h0 h' L O→Tl (kr (.slice none 0 0) (.int .i64 e) h') Q) →
   Tl (F145_lrlr (eInv env (k + 23)) (k + 23) j (ptr br) ov (.int .i64 m) (.int .i64 i) h ke0 kr) Q:=by
 induction n with
 | zero =>
  intro i j h rv ov rest done hi hj hd hl hb S R hk hr
  obtain ⟨j,rfl⟩ : ∃ q,j = q + 1:=⟨j - 1,by omega⟩
  simp only [F145_lrlr]
  with_reducible repeat (first | (apply qzV; simp (disch:=omega) only [zA,bzId.1] <;> rfl) | apply qzT | apply qzF | (apply qzB; simp (disch:=omega) only [zA,bzId.1] <;> rfl))
  exact hk [] rfl _ rv _ _ _ (by simpa using S)
 | succ n ih =>
  intro i j h rv ov rest done hi hj hd hl hb S R hk hr
  obtain ⟨j,rfl⟩ : ∃ q,j = q + 1:=⟨j - 1,by omega⟩
  have e : (i : Int) + 1 = ((i + 1 : Nat) : Int):=by omega
  have e8 : ((8 : Nat) : Int) = 8:=rfl
  simp only [F145_lrlr]
  unfold plainGI at hk hr
  by_cases q : rest.length < 8
  ·rw [if_pos q] at hr
   have T:=f77n (k:=k) S rfl R (n:=8) (by omega) (by omega) q
   rw [e8] at T
   with_reducible repeat (first | (apply qzV; simp (disch:=omega) only [zA,bzId.1] <;> rfl) | apply qzT | apply qzF | (apply qzB; simp (disch:=omega) only [zA,bzId.1] <;> rfl))
   refine Tl.bind T ?_
   rintro ⟨r,h1⟩ ⟨er,g1⟩
   simp only at er g1
   subst er
   with_reducible repeat (first | (apply qzV; simp (disch:=omega) only [zA,bzId.1] <;> rfl) | apply qzT | apply qzF | (apply qzB; simp (disch:=omega) only [zA,bzId.1] <;> rfl))
   exact hr rfl _ 7 (by decide) (S.call g1).dropO.drop
  ·simp only [if_neg q] at hk hr
   have T:=f77c (k:=k) S rfl R (n:=8) (by omega) (by omega) (by omega) hl hb
   rw [e8] at T
   have o8:=wrapI (ofB8 hb)
   with_reducible repeat (first | (apply qzV; simp (disch:=omega) only [zA,bzId.1] <;> rfl) | apply qzT | apply qzF | (apply qzB; simp (disch:=omega) only [zA,bzId.1] <;> rfl))
   refine Tl.bind T ?_
   rintro ⟨r,h1⟩ ⟨rv',er,S1,R1⟩
   simp only at er S1
   subst er
   have S1 : Stt prog n0 h0 h1 (Rb br rv' :: L) ((ov,1,i6rows done) :: O):=S1
   have R1 : RV (Rb br rv' :: L) 0 rv' (rest.drop 8):=R1
   with_reducible repeat (first | (apply qzV; simp (disch:=omega) only [zA,bzId.1,o8] <;> rfl) | apply qzT | apply qzF | (apply qzB; simp (disch:=omega) only [zA,bzId.1,o8] <;> rfl))
   refine Tl.push S1 0 rfl app121 (bs121 _ _) rfl rfl (by rw [i6rows_len]; omega) fun ov' h2 S2=>?_
   with_reducible repeat (first | (apply qzV; simp (disch:=omega) only [zA,bzId.1] <;> rfl) | apply qzT | apply qzF | (apply qzB; simp (disch:=omega) only [zA,bzId.1] <;> rfl))
   rw [e]
   refine ih (done:=done ++ [toI (ofB (rest.take 8))]) (by omega) (by omega) (by simp [hd]) (by simp; omega) (fun x hx=>hb x (List.mem_of_mem_drop hx)) (by simpa [i6rows,i6v] using S2) R1 (fun l hl' h' rv2 ov2 y y' S3=>?_) (fun hn=>hr (by rw [hn]; rfl))
   exact hk _ (by rw [hl']; rfl) h' rv2 ov2 y y' (by simpa using S3)
theorem f145c {k : Nat} {n0 : Nat} {h0 h : AH} {L : List (Nat × AO)} {O : List OS} {br n : Nat} {rv : Value} {rest : List Nat} (S : Stt prog n0 h0 h (Rb br rv :: L) O) (R : RV (Rb br rv :: L) 0 rv rest) (hn : n ≤ 4096)
  (hl : rest.length ≤ 5000) (hb : ∀ x ∈ rest,x < 256) : Tl (eInv env (k + 6000) (.func 145) #[] #[ptr br,.int .i64 n] h) (ReadQ n0 h0 br L O (plainGI n rest)):=by
 rw [F145_call]
 unfold F145
 refine f145_loop (k:=k + 5976) (m:=n) (by omega) n (i:=0) (done:=[]) (by omega) (by omega) rfl (by omega) hb (S.nil 1) R (fun l hl' h' rv' ov' y y' S'=>?_) (fun hn' h' e he S'=>?_)
 ·exact ⟨_,rfl,.inl ⟨l,rv',ov',O,hl',rfl,by simpa using S'⟩⟩
 ·exact ⟨_,rfl,.inr ⟨hn',_,e,he,rfl,S'⟩⟩
theorem f147_loop {β : Type} {k : Nat} {Q : β→Prop} {n0 : Nat} {h0 : AH} {L : List (Nat × AO)} {O : List OS} {br m : Nat} (hm : m ≤ 4096)
  {ke0 : Value→Value→Value→Value→AH→Option β} {kr : Value→Value→AH→Option β} (f : Nat) :
  ∀ {n j : Nat} {h : AH} {rv ov : Value} {rest : List Nat} {done : List Int},n ≤ f→f < j→done.length + n = m→rest.length ≤ 5000→(∀ x ∈ rest,x < 256) →
   Stt prog n0 h0 h (Rb br rv :: L) ((ov,1,i6rows done) :: O)→RV (Rb br rv :: L) 0 rv rest →
   (∀ l,runsG f n rest = some l→∀ h' rv' ov' y,Stt prog n0 h0 h' (Rb br rv' :: L) ((ov',1,i6rows (done ++ l)) :: O)→Tl (ke0 (ptr br) (.int .i64 m) ov' y h') Q) →
   (runsG f n rest = none→∀ h' e,e ≠ 0→Stt prog n0 h0 h' L O→Tl (kr (.slice none 0 0) (.int .i64 e) h') Q) →
   Tl (F147_llr (eInv env (k + 5999)) (k + 5999) j (ptr br) (.int .i64 m) ov h ke0 kr) Q:=by
 induction f with
 | zero =>
  intro n j h rv ov rest done hf hj hd hl hb S R hk hr
  obtain ⟨j,rfl⟩ : ∃ q,j = q + 1:=⟨j - 1,by omega⟩
  have hn : n = 0:=by omega
  subst hn
  have hlen : ∀ h',pLen prog #[121] ov h' = some (.int .i64 done.length):=fun h'=>Sl1.len (S.sl1 (f:=i6v) 0 rfl) u121
  simp only [F147_llr]
  with_reducible repeat (first | (apply qzV; simp (disch:=omega) only [zA,bzId.1,hlen] <;> rfl) | apply qzT | apply qzF | apply qzG | ((first | apply qzB | apply qzC); simp (disch:=omega) only [zA,bzId.1,hlen] <;> rfl))
  exact hk [] rfl _ rv _ _ (by simpa using S)
 | succ f ih =>
  intro n j h rv ov rest done hf hj hd hl hb S R hk hr
  obtain ⟨j,rfl⟩ : ∃ q,j = q + 1:=⟨j - 1,by omega⟩
  have hlen : ∀ h',pLen prog #[121] ov h' = some (.int .i64 done.length):=fun h'=>Sl1.len (S.sl1 (f:=i6v) 0 rfl) u121
  simp only [F147_llr]
  unfold runsG at hk hr
  by_cases q0 : n = 0
  ·simp only [if_pos q0] at hk hr
   with_reducible repeat (first | (apply qzV; simp (disch:=omega) only [zA,bzId.1,hlen] <;> rfl) | apply qzT | apply qzF | apply qzG | ((first | apply qzB | apply qzC); simp (disch:=omega) only [zA,bzId.1,hlen] <;> rfl))
   exact hk [] rfl _ rv _ _ (by simpa using S)
  ·simp only [if_neg q0] at hk hr
   with_reducible repeat (first | (apply qzV; simp (disch:=omega) only [zA,bzId.1,hlen] <;> rfl) | apply qzT | apply qzF | apply qzG | ((first | apply qzB | apply qzC); simp (disch:=omega) only [zA,bzId.1,hlen] <;> rfl))
   refine Tl.bind (f92c (k:=k + 5993) S rfl R (by omega) hb (by omega)) ?_
   rintro ⟨r,h1⟩ hr1
   rcases hr1 with ⟨kk,r1,rv1,hdec,er,S1,R1⟩ | ⟨hdec,e,he,er⟩
   ·simp only at er S1
    subst er
    have S1 : Stt prog n0 h0 h1 (Rb br rv1 :: L) ((ov,1,i6rows done) :: O):=S1
    have R1 : RV (Rb br rv1 :: L) 0 rv1 r1:=R1
    obtain ⟨dl1,dl2⟩:=dec_len rest hdec
    have hb1 : ∀ x ∈ r1,x < 256:=fun x hx=>hb x (dl2 x hx)
    simp only [hdec] at hk hr
    have e8 : ((8 : Nat) : Int) = 8:=rfl
    with_reducible repeat (first | (apply qzV; simp (disch:=omega) only [zA,bzId.1] <;> rfl) | apply qzT | apply qzF | apply qzG | ((first | apply qzB | apply qzC); simp (disch:=omega) only [zA,bzId.1] <;> rfl))
    by_cases q1 : r1.length < 8
    ·rw [if_pos (.inl q1)] at hr
     have T:=f77n (k:=k + 5976) S1 rfl R1 (n:=8) (by omega) (by omega) q1
     rw [e8] at T
     refine Tl.bind T ?_
     rintro ⟨r,h2⟩ ⟨er,g2⟩
     simp only at er g2
     subst er
     with_reducible repeat (first | (apply qzV; simp (disch:=omega) only [zA,bzId.1] <;> rfl) | apply qzT | apply qzF | apply qzG | ((first | apply qzB | apply qzC); simp (disch:=omega) only [zA,bzId.1] <;> rfl))
     exact hr rfl _ 4 (by decide) (S1.call g2).dropO.drop
    ·have T:=f77c (k:=k + 5976) S1 rfl R1 (n:=8) (by omega) (by omega) (by omega) (by omega) hb1
     rw [e8] at T
     have o8:=wrapI (ofB8 hb1)
     refine Tl.bind T ?_
     rintro ⟨r,h2⟩ ⟨rv2,er,S2,R2⟩
     simp only at er S2
     subst er
     have S2 : Stt prog n0 h0 h2 (Rb br rv2 :: L) ((ov,1,i6rows done) :: O):=S2
     have R2 : RV (Rb br rv2 :: L) 0 rv2 (r1.drop 8):=R2
     by_cases q2 : kk < 1
     ·rw [if_pos (.inr (.inl q2))] at hr
      with_reducible repeat (first | (apply qzV; simp (disch:=omega) only [zA,bzId.1,hlen] <;> rfl) | apply qzT | apply qzF | apply qzG | ((first | apply qzB | apply qzC); simp (disch:=omega) only [zA,bzId.1,hlen] <;> rfl))
      exact hr rfl _ 4 (by decide) S2.dropO.drop
     ·by_cases q3 : kk > n
      ·rw [if_pos (.inr (.inr q3))] at hr
       with_reducible repeat (first | (apply qzV; simp (disch:=omega) only [zA,bzId.1,hlen] <;> rfl) | apply qzT | apply qzF | apply qzG | ((first | apply qzB | apply qzC); simp (disch:=omega) only [zA,bzId.1,hlen] <;> rfl))
       exact hr rfl _ 4 (by decide) S2.dropO.drop
      ·have qq : ¬ (r1.length < 8 ∨ kk < 1 ∨ kk > n):=by omega
       simp only [if_neg qq] at hk hr
       with_reducible repeat (first | (apply qzV; simp (disch:=omega) only [zA,bzId.1,hlen,o8,bs121] <;> rfl) | apply qzT | apply qzF | apply qzG | ((first | apply qzB | apply qzC); simp (disch:=omega) only [zA,bzId.1,hlen,o8,bs121] <;> rfl))
       have S3:=S2.alloc (.cells [.int .i64 (toI (ofB (r1.take 8)))] 2 true)
       refine Tl.callO S3.drop (f165c (k:=k + 5996) (x:=toI (ofB (r1.take 8))) (n:=kk) (S3.lit 0 rfl rfl) (by omega) (by omega)) fun pv h4 S4 g4=>?_
       refine Tl.append' S4 1 rfl app121 (S4.slV 0 rfl) (one_i6rows _) (by rw [i6rows_len,i6rows_len,List.length_replicate]; omega) fun ov2 h5 S5=>?_
       have S5 : Stt prog n0 h0 h5 (Rb br rv2 :: L) ((ov2,1,i6rows (done ++ List.replicate kk (toI (ofB (r1.take 8))))) :: O):=by
        have:=S5.dropO
        simpa [i6rows] using this
       with_reducible repeat (first | (apply qzV; simp (disch:=omega) only [zA,bzId.1] <;> rfl) | apply qzT | apply qzF | apply qzG | ((first | apply qzB | apply qzC); simp (disch:=omega) only [zA,bzId.1] <;> rfl))
       refine ih (n:=n - kk) (done:=done ++ List.replicate kk (toI (ofB (r1.take 8)))) (by omega) (by omega) (by simp; omega) (by simp; omega) (fun x hx=>hb1 x (List.mem_of_mem_drop hx)) S5 R2 (fun l hl' h' rv3 ov3 y S6=>?_) (fun hn=>hr (by rw [hn]; rfl))
       exact hk _ (by rw [hl']; rfl) h' rv3 ov3 y (by simpa using S6)
   ·cases er
    simp only [hdec] at hr
    with_reducible repeat (first | (apply qzV; simp (disch:=omega) only [zA,bzId.1] <;> rfl) | apply qzT | apply qzF | apply qzG | ((first | apply qzB | apply qzC); simp (disch:=omega) only [zA,bzId.1] <;> rfl))
    exact hr trivial _ e he S.dropO.drop
theorem f147c {k : Nat} {n0 : Nat} {h0 h : AH} {L : List (Nat × AO)} {O : List OS} {br n : Nat} {rv : Value} {rest : List Nat} (S : Stt prog n0 h0 h (Rb br rv :: L) O) (R : RV (Rb br rv :: L) 0 rv rest) (hn : n ≤ 4096)
  (hl : rest.length ≤ 5000) (hb : ∀ x ∈ rest,x < 256) : Tl (eInv env (k + 6000) (.func 147) #[] #[ptr br,.int .i64 n] h) (ReadQ n0 h0 br L O (runsG n n rest)):=by
 rw [F147_call]
 unfold F147
 refine f147_loop (k:=k) (m:=n) hn n (done:=[]) (Nat.le_refl _) (by omega) (by simp) hl hb (S.nil 1) R (fun l hl' h' rv' ov' y S'=>?_) (fun hn' h' e he S'=>?_)
 ·exact ⟨_,rfl,.inl ⟨l,rv',ov',O,hl',rfl,by simpa using S'⟩⟩
 ·exact ⟨_,rfl,.inr ⟨hn',_,e,he,rfl,S'⟩⟩
theorem f149_loop {β : Type} {k : Nat} {Q : β→Prop} {n0 : Nat} {h0 : AH} {L : List (Nat × AO)} {O : List OS} {gv x5 : Value} {g : List Nat} {least : Nat} (hg : g.length ≤ 65536) (hgl : ∀ x ∈ g,x < 18446744073709551616) (hle : least < 18446744073709551616)
  {ke0 : Value→Value→Value→Value→Value→Value→Value→AH→Option β} (n : Nat) :
  ∀ {i j : Nat} {h : AH} {ov : Value} {done : List Int},i + n = g.length→n < j→done.length = i →
   Stt prog n0 h0 h L ((ov,1,i6rows done) :: (gv,1,u64rows g) :: O) →
   (∀ h' ov' y y',Stt prog n0 h0 h' L ((ov',1,i6rows (done ++ (g.drop i).map fun v=>toI ((least + v) % 18446744073709551616))) :: (gv,1,u64rows g) :: O)→Tl (ke0 ov' x5 (.int .u64 least) gv (.int .i64 g.length) y y' h') Q) →
   Tl (F149_lrlrrrrrrrr (eInv env k) k j ov x5 (.int .u64 least) gv (.int .i64 g.length) (.int .i64 i) h ke0) Q:=by
 induction n with
 | zero =>
  intro i j h ov done hi hj hd S hk
  obtain ⟨j,rfl⟩ : ∃ q,j = q + 1:=⟨j - 1,by omega⟩
  simp only [F149_lrlrrrrrrrr]
  with_reducible repeat (first | (apply qzV; simp (disch:=omega) only [zA,bzId.1] <;> rfl) | apply qzT | apply qzF | (apply qzB; simp (disch:=omega) only [zA,bzId.1] <;> rfl))
  refine hk _ _ _ _ ?_
  rw [List.drop_eq_nil_of_le (by omega)]
  simpa using S
 | succ n ih =>
  intro i j h ov done hi hj hd S hk
  obtain ⟨j,rfl⟩ : ∃ q,j = q + 1:=⟨j - 1,by omega⟩
  obtain ⟨x,hx⟩ : ∃ x,g[i]? = some x:=⟨_,List.getElem?_eq_getElem (by omega)⟩
  obtain ⟨b,o,hp,hc1⟩:=Sl1.at_ (S.sl1 (f:=u64v) 1 rfl) (t:=63) (k:=.i64) hx u63 sz60
  have hc1:=hc1 h (Grow.refl _)
  have e : (i : Int) + 1 = ((i + 1 : Nat) : Int):=by omega
  have hx64:=hgl x (List.mem_of_getElem? hx)
  have ew : IntKind.u64.wrap ((least : Int) + (x : Int)) = (((least + x) % 18446744073709551616 : Nat) : Int):=by rw [wrap_u64]; omega
  have o8:=wrapI (x:=(least + x) % 18446744073709551616) (Nat.mod_lt _ (by decide))
  simp only [F149_lrlrrrrrrrr]
  with_reducible repeat (first | (apply qzV; simp (disch:=omega) only [zA,bzId.1,hp,hc1,u64v,ew,o8] <;> rfl) | apply qzT | apply qzF | (apply qzB; simp (disch:=omega) only [zA,bzId.1,hp,hc1,u64v,ew,o8] <;> rfl))
  refine Tl.push S 0 rfl app121 (bs121 _ _) rfl rfl (by rw [i6rows_len]; omega) fun ov' h2 S2=>?_
  with_reducible repeat (first | (apply qzV; simp (disch:=omega) only [zA,bzId.1] <;> rfl) | apply qzT | apply qzF | (apply qzB; simp (disch:=omega) only [zA,bzId.1] <;> rfl))
  rw [e]
  refine ih (done:=done ++ [toI ((least + x) % 18446744073709551616)]) (by omega) (by omega) (by simp [hd]) (by simpa [i6rows,i6v] using S2) fun h3 ov3 y y' S3=>hk h3 ov3 y y' ?_
  rw [dropc hx]
  simpa using S3
theorem f149c {k : Nat} {n0 : Nat} {h0 h : AH} {L : List (Nat × AO)} {O : List OS} {br n : Nat} {rv : Value} {rest : List Nat} (S : Stt prog n0 h0 h (Rb br rv :: L) O) (R : RV (Rb br rv :: L) 0 rv rest) (hn : n ≤ 4096)
  (hl : rest.length ≤ 5000) (hb : ∀ x ∈ rest,x < 256) : Tl (eInv env (k + 6000) (.func 149) #[] #[ptr br,.int .i64 n] h) (ReadQ n0 h0 br L O (packG n rest)):=by
 rw [F149_call]
 unfold F149
 unfold packG
 have e8 : ((8 : Nat) : Int) = 8:=rfl
 have e1 : ((1 : Nat) : Int) = 1:=rfl
 by_cases q1 : rest.length < 8
 ·rw [if_pos (by omega)]
  have T:=f77n (k:=k + 5976) S rfl R (n:=8) (by omega) (by omega) q1
  rw [e8] at T
  refine Tl.bind T ?_
  rintro ⟨r,h1⟩ ⟨er,g1⟩
  simp only at er g1
  subst er
  with_reducible repeat (first | (apply qzV; simp (disch:=omega) only [zA,bzId.1] <;> rfl) | apply qzT | apply qzF | (apply qzB; simp (disch:=omega) only [zA,bzId.1] <;> rfl))
  exact ⟨_,rfl,.inr ⟨rfl,_,7,by decide,rfl,(S.call g1).drop⟩⟩
 ·have T:=f77c (k:=k + 5976) S rfl R (n:=8) (by omega) (by omega) (by omega) (by omega) hb
  rw [e8] at T
  refine Tl.bind T ?_
  rintro ⟨r,h1⟩ ⟨rv1,er,S1,R1⟩
  simp only at er S1
  subst er
  have S1 : Stt prog n0 h0 h1 (Rb br rv1 :: L) O:=S1
  have R1 : RV (Rb br rv1 :: L) 0 rv1 (rest.drop 8):=R1
  have hb1 : ∀ x ∈ rest.drop 8,x < 256:=fun x hx=>hb x (List.mem_of_mem_drop hx)
  with_reducible repeat (first | (apply qzV; simp (disch:=omega) only [zA,bzId.1] <;> rfl) | apply qzT | apply qzF | (apply qzB; simp (disch:=omega) only [zA,bzId.1] <;> rfl))
  by_cases q2 : (rest.drop 8).length < 1
  ·rw [if_pos (by simp at q2; omega)]
   have T:=f77n (k:=k + 5976) S1 rfl R1 (n:=1) (by omega) (by omega) q2
   rw [e1] at T
   refine Tl.bind T ?_
   rintro ⟨r,h2⟩ ⟨er,g2⟩
   simp only at er g2
   subst er
   with_reducible repeat (first | (apply qzV; simp (disch:=omega) only [zA,bzId.1] <;> rfl) | apply qzT | apply qzF | (apply qzB; simp (disch:=omega) only [zA,bzId.1] <;> rfl))
   exact ⟨_,rfl,.inr ⟨rfl,_,7,by decide,rfl,(S1.call g2).drop⟩⟩
  ·rw [if_neg (by simp at q2; omega)]
   have T:=f77c (k:=k + 5976) S1 rfl R1 (n:=1) (by omega) (by omega) (by omega) (by simp; omega) hb1
   rw [e1] at T
   refine Tl.bind T ?_
   rintro ⟨r,h2⟩ ⟨rv2,er,S2,R2⟩
   simp only at er S2
   subst er
   have S2 : Stt prog n0 h0 h2 (Rb br rv2 :: L) O:=S2
   have R2 : RV (Rb br rv2 :: L) 0 rv2 (rest.drop 9):=by
    have : (rest.drop 8).drop 1 = rest.drop 9:=by rw [List.drop_drop]
    rw [← this]; exact R2
   have hb2 : ∀ x ∈ rest.drop 9,x < 256:=fun x hx=>hb x (List.mem_of_mem_drop hx)
   have left:=f61c (k:=k + 5998) S2 rfl R2
   with_reducible repeat (first | (apply qzV; simp (disch:=omega) only [zA,bzId.1,left] <;> rfl) | apply qzT | apply qzF | (apply qzB; simp (disch:=omega) only [zA,bzId.1,left] <;> rfl))
   refine Tl.bind (f60c (k:=k + 5996) S2 rfl R2 (n:=(rest.drop 9).length) (Nat.le_refl _) (by simp; omega)) ?_
   rintro ⟨r,h3⟩ ⟨bv,rv3,er,S3,R3⟩
   simp only at er S3
   subst er
   rw [List.take_length] at S3
   have S3 : Stt prog n0 h0 h3 (Rb br rv3 :: L) ((bv,1,u8rows (rest.drop 9)) :: O):=S3
   have hw : ofB ((rest.drop 8).take 1) < 256:=by
    have h1:=ofB_lt ((rest.drop 8).take 1) fun x hx=>hb1 x (List.mem_of_mem_take hx)
    have : ((rest.drop 8).take 1).length = 1:=by simp; simp at q2; omega
    rw [this] at h1
    simpa using h1
   with_reducible repeat (first | (apply qzV; simp (disch:=omega) only [zA,bzId.1] <;> rfl) | apply qzT | apply qzF | (apply qzB; simp (disch:=omega) only [zA,bzId.1] <;> rfl))
   refine Tl.bind (f87c (k:=k + 5909) (S3.sl1 (f:=u8v) 0 rfl) hb2 (by simp; omega) (n : Int) (ofB ((rest.drop 8).take 1) : Nat) (fun _=>by simp; omega)) ?_
   rintro ⟨r,h4⟩ ⟨gv,er,g4,X⟩
   simp only at er g4 X
   subst er
   have S4:=(S3.gain g4 X).nil 1
   have hgl : (Pk.getN (rest.drop 9) (n : Int) (ofB ((rest.drop 8).take 1) : Nat)).length ≤ 4096:=by
    unfold Pk.getN
    split
    ·rw [digs_len]; simp; omega
    ·simp
   have hlen : ∀ h',pLen prog #[63] gv h' = some (.int .i64 (Pk.getN (rest.drop 9) (n : Int) (ofB ((rest.drop 8).take 1) : Nat)).length):=fun h'=>Sl1.len (S4.sl1 (f:=u64v) 1 rfl) u63
   with_reducible repeat (first | (apply qzV; simp (disch:=omega) only [zA,bzId.1,hlen] <;> rfl) | apply qzT | apply qzF | (apply qzB; simp (disch:=omega) only [zA,bzId.1,hlen] <;> rfl))
   refine f149_loop (by omega) Pk.getN_lt (ofB8 hb) _ (i:=0) (done:=[]) (Nat.zero_add _) (by omega) rfl S4 fun h5 ov y y' S5=>?_
   rw [List.drop_zero,List.nil_append] at S5
   by_cases q : Pk.checkE (rest.drop 9) (n : Int) (ofB ((rest.drop 8).take 1) : Nat) = 0
   ·rw [if_neg (fun h=>h q)]
    exact ⟨_,rfl,.inl ⟨_,rv3,ov,_,rfl,by rw [q],S5⟩⟩
   ·rw [if_pos q]
    exact ⟨_,rfl,.inr ⟨rfl,_,_,q,rfl,S5.dropO.dropO.dropO.drop⟩⟩
end Go.Proofs.YtghelamfaaakcaaGreat.Sh
