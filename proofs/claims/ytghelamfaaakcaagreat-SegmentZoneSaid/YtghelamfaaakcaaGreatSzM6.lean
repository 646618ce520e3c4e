/- What lies ahead of the law, put together. -/
import Derived.Test.YtghelamfaaakcaaGreatSzM4
import Derived.Test.YtghelamfaaakcaaGreatSzM5
import Derived.Test.YtghelamfaaakcaaGreatSzM3
import Derived.Test.YtghelamfaaakcaaGreatSzM1
import Derived.Test.YtghelamfaaakcaaGreatSzF
import Derived.Test.YtghelamfaaakcaaGreatSzT
import Derived.Test.YtghelamfaaakcaaGreatEvC
import Derived.Test.YtghelamfaaakcaaGreatSzT2
import Derived.Test.YtghelamfaaakcaaGreatBits
/- Codecs: 'cells'. -/
set_option linter.unusedVariables false
set_option linter.unusedSimpArgs false
set_option maxRecDepth 100000
namespace Go.Proofs.YtghelamfaaakcaaGreat.Sh
open Go Go.RowKit Go.Proofs.Ev Go.Lib
theorem bzS3 : type_of% (And.intro @ld3 (And.intro @ld2 (And.intro @ld9 (And.intro @ld60 (And.intro @ld31 (And.intro @ld38 (And.intro @ld80 (And.intro @ld88 (And.intro @ld96 (And.intro @ld81 (And.intro @ld59 (And.intro @ld98 (And.intro @ld83 (And.intro @ld91 (And.intro @ld100 (And.intro @fa86_0 (And.intro @fa86_2 (And.intro @fa86_4 (And.intro @fa94_0 (And.intro @fa94_2 (And.intro @fa94_4 (And.intro @fa103_0 (And.intro @fa103_2 (And.intro @fa103_4 (And.intro @fa31_0 (And.intro @fa31_1 (And.intro @fa31_2 (And.intro @fa38_0 (And.intro @fa38_1 (And.intro @fa38_2 (And.intro @fa38_3 (And.intro (fun a h=>conv_int (a:=a) (h:=h) u2 u60) (And.intro (fun a h=>conv_int (a:=a) (h:=h) u60 u2) (And.intro (fun a h=>conv_int (a:=a) (h:=h) u60 u5) (And.intro (fun a h=>conv_int (a:=a) (h:=h) u3 u60) (And.intro @aggC (And.intro @wrapU (And.intro @ex2_0 (And.intro @ex2_1 (@Nat.add_zero)))))))))))))))))))))))))))))))))))))))):=And.intro @ld3 (And.intro @ld2 (And.intro @ld9 (And.intro @ld60 (And.intro @ld31 (And.intro @ld38 (And.intro @ld80 (And.intro @ld88 (And.intro @ld96 (And.intro @ld81 (And.intro @ld59 (And.intro @ld98 (And.intro @ld83 (And.intro @ld91 (And.intro @ld100 (And.intro @fa86_0 (And.intro @fa86_2 (And.intro @fa86_4 (And.intro @fa94_0 (And.intro @fa94_2 (And.intro @fa94_4 (And.intro @fa103_0 (And.intro @fa103_2 (And.intro @fa103_4 (And.intro @fa31_0 (And.intro @fa31_1 (And.intro @fa31_2 (And.intro @fa38_0 (And.intro @fa38_1 (And.intro @fa38_2 (And.intro @fa38_3 (And.intro (fun a h=>conv_int (a:=a) (h:=h) u2 u60) (And.intro (fun a h=>conv_int (a:=a) (h:=h) u60 u2) (And.intro (fun a h=>conv_int (a:=a) (h:=h) u60 u5) (And.intro (fun a h=>conv_int (a:=a) (h:=h) u3 u60) (And.intro @aggC (And.intro @wrapU (And.intro @ex2_0 (And.intro @ex2_1 (@Nat.add_zero)))))))))))))))))))))))))))))))))))))))
section
variable {n0 : Nat} {h0 h : AH} {L : List (Nat × AO)} {O : List OS}
theorem f85c {k : Nat} {h : AH} {v : Value} {l : List Nat} (A : Words h v l) (hl : l.length ≤ 65536) (hlk : l.length < k + 299) (hx : ∀ x ∈ l,x < 18446744073709551616) :
  Tl (eInv env (k + 302) (.func 85) #[] #[v] h) fun r=>∃ o,r.1 = .tuple #[o,.int .i64 (Pk.putE l 1)] ∧ Grow h r.2 ∧ OwnB Tryz.prog h.n r.2 o 1 (u8rows (Pk.putL l 1)):=by
 rw [F85_call]
 unfold F85
 refine Tl.bind (f49c (k:=k) A hl hlk hx 1) ?_
 rintro ⟨r,h1⟩ ⟨o,er,g,X⟩
 simp only at er g X
 subst er
 repeat (first | (with_reducible apply qzV; simp (disch:=omega) only [coreA,Int.reduceBEq,bzS3] <;> with_reducible rfl) | (with_reducible first | apply qzT | apply qzF | apply qzG | apply qzH) | ((with_reducible first | apply qzB | apply qzC | apply qzD); simp (disch:=omega) only [coreA,Int.reduceBEq,bzS3] <;> with_reducible rfl))
 exact ⟨_,rfl,o,rfl,g,X⟩
def valsN (l : List CellD) : List Int:=l.map fun c=>c.i
theorem cellsN_loop {β : Type} {k : Nat} {Q : β→Prop} {h0 : AH} {b2 : Nat} {v : Value} {l : List CellD} (A : Cells h0 v l) (hl : l.length ≤ 4096) {ke0 : Value→Value→Value→Value→Value→Value→AH→Option β} (n : Nat) :
  ∀ {i j : Nat} {h : AH} {av : Value},i + n = l.length→n < j→Stt Tryz.prog h0.n h0 h [(b2,.cells codNL 86 true)] [(av,1,i6rows (valsN (l.take i)))] →
   (∀ h' av' y11 y12,Stt Tryz.prog h0.n h0 h' [(b2,.cells codNL 86 true)] [(av',1,i6rows (valsN l))]→Tl (ke0 (ptr b2) av' v (.int .i64 l.length) y11 y12 h') Q) →
   Tl (F214_lrlrr (eInv env (k + 1)) (k + 1) j (ptr b2) av v (.int .i64 l.length) (.int .i64 i) h ke0) Q:=by
 induction n with
 | zero =>
  intro i j h av hi hj T hk
  obtain ⟨j,rfl⟩ : ∃ q,j = q + 1:=⟨j - 1,by omega⟩
  simp only [F214_lrlrr]
  repeat (first | (with_reducible apply qzV; simp (disch:=omega) only [coreA,Int.reduceBEq,bzS3] <;> with_reducible rfl) | (with_reducible first | apply qzT | apply qzF | apply qzG | apply qzH) | ((with_reducible first | apply qzB | apply qzC | apply qzD); simp (disch:=omega) only [coreA,Int.reduceBEq,bzS3] <;> with_reducible rfl))
  rw [List.take_of_length_le (by omega)] at T
  exact hk _ _ _ _ T
 | succ n ih =>
  intro i j h av hi hj T hk
  obtain ⟨j,rfl⟩ : ∃ q,j = q + 1:=⟨j - 1,by omega⟩
  obtain ⟨c,hc⟩ : ∃ c,l[i]? = some c:=⟨_,List.getElem?_eq_getElem (by omega)⟩
  obtain ⟨b,o,hx,hr⟩:=(A.grow T.grow).at_ hc
  have e : (i : Int) + 1 = ((i + 1 : Nat) : Int):=by omega
  have hti : l.take (i + 1) = l.take i ++ [c]:=by rw [List.take_add_one,hc]; rfl
  simp only [F214_lrlrr]
  unfold ptr
  repeat (first | (with_reducible apply qzV; simp (disch:=omega) only [coreA,Int.reduceBEq,bzS3,hx,hr] <;> with_reducible rfl) | (with_reducible first | apply qzT | apply qzF | apply qzG | apply qzH) | ((with_reducible first | apply qzB | apply qzC | apply qzD); simp (disch:=omega) only [coreA,Int.reduceBEq,bzS3,hx,hr] <;> with_reducible rfl))
  refine Tl.alloc' T ze31 rfl fun b4 h1 T1 _=>?_
  refine Tl.store' T1 0 rfl sz31 rfl rfl (of_decide_eq_true rfl) fun h2 T2 _=>?_
  have T2 : Stt Tryz.prog h0.n h0 h2 [Cr b4 c,(b2,.cells codNL 86 true)] [(av,1,i6rows (valsN (l.take i)))]:=T2
  obtain ⟨r4,_⟩:=c_at T2 0 rfl
  have q0:=T2.cell (o:=0) (v:=.func (.func 72) #[] #[]) 1 rfl rfl
  repeat (first | (with_reducible apply qzV; simp (disch:=omega) only [coreA,Int.reduceBEq,bzS3,r4,q0] <;> with_reducible rfl) | (with_reducible first | apply qzT | apply qzF | apply qzG | apply qzH) | ((with_reducible first | apply qzB | apply qzC | apply qzD); simp (disch:=omega) only [coreA,Int.reduceBEq,bzS3,r4,q0] <;> with_reducible rfl))
  rw [callV_fn1]
  with_reducible refine Tl.call' T2 (f72c (k:=k) c h2) fun h3 T3 _=>?_
  refine Tl.push T3 0 rfl app121 (bs121 _ _) rfl rfl (by simp [i6rows,valsN]; omega) fun av' h5 T5=>?_
  repeat (first | (with_reducible apply qzV; simp (disch:=omega) only [coreA,Int.reduceBEq,bzS3] <;> with_reducible rfl) | (with_reducible first | apply qzT | apply qzF | apply qzG | apply qzH) | ((with_reducible first | apply qzB | apply qzC | apply qzD); simp (disch:=omega) only [coreA,Int.reduceBEq,bzS3] <;> with_reducible rfl))
  rw [e]
  refine ih (by omega) (by omega) ?_ hk
  have e2 : i6rows (valsN (l.take i)) ++ [[i6v (c.i)]] = i6rows (valsN (l.take (i + 1))):=by rw [hti]; simp [i6rows,valsN]
  rw [← e2]
  exact T5.drop
/-- 'cells'. -/
theorem cellsN_c {k : Nat} {h : AH} {v : Value} {l : List CellD} (A : Cells h v l) (hl : l.length ≤ 4096) (hk : 4096 < k) :
  Tl (eInv env (k + 602) (.method "shadowbook/segment.cells") #[] #[.iface 86 (.agg codNL.toArray), v] h) fun r => ∃ o, r.1 = .tuple #[o, .int .i64 (0)] ∧ Stt Tryz.prog h.n h r.2 [] [(o, 1, u8rows (putI (valsN l)))] := by
 rw [show eInv env (k + 602) (.method "shadowbook/segment.cells") #[] #[.iface 86 (.agg codNL.toArray), v] h = F214 (eInv env (k + 601)) (k + 601) (.agg codNL.toArray) v h from
  (by kernel_rfl : _ = eFun env (k + 601) (eInv env (k + 601)) 214 #[.agg codNL.toArray,v] h).trans F214_eq]
 unfold F214
 refine Tl.box' (Stt.init h) rfl isN fun b2 h1 S1 _=>?_
 have S1 : Stt Tryz.prog h.n h h1 [(b2,.cells codNL 86 true)] []:=S1
 have hv : ∀ h' : AH,pLen Tryz.prog #[22] v h' = some (.int .i64 l.length):=fun h'=>A.len
 repeat (first | (with_reducible apply qzV; simp (disch:=omega) only [coreA,Int.reduceBEq,bzS3,hv] <;> with_reducible rfl) | (with_reducible first | apply qzT | apply qzF | apply qzG | apply qzH) | ((with_reducible first | apply qzB | apply qzC | apply qzD); simp (disch:=omega) only [coreA,Int.reduceBEq,bzS3,hv] <;> with_reducible rfl))
 refine cellsN_loop (k:=k + 600) (i:=0) A hl l.length (by omega) (by omega) (S1.nil 1) fun h2 av y11 y12 S2=>?_
 have q4:=S2.cell (o:=4) (v:=.func (.func 78) #[] #[]) 0 rfl rfl
 unfold ptr
 repeat (first | (with_reducible apply qzV; simp (disch:=omega) only [coreA,Int.reduceBEq,bzS3,q4] <;> with_reducible rfl) | (with_reducible first | apply qzT | apply qzF | apply qzG | apply qzH) | ((with_reducible first | apply qzB | apply qzC | apply qzD); simp (disch:=omega) only [coreA,Int.reduceBEq,bzS3,q4] <;> with_reducible rfl))
 rw [callV_fn1]
 have B : Ints h2 av (valsN l):=S2.sl1 (f:=i6v) 0 rfl
 refine Tl.bind (f78s (k:=k + 100) B (by simp [valsN]; omega) (by simp [valsN]; omega)) ?_
 rintro ⟨r,h3⟩ ⟨o,er,X⟩
 simp only at er X
 subst er
 repeat (first | (with_reducible apply qzV; simp (disch:=omega) only [coreA,Int.reduceBEq,bzS3] <;> with_reducible rfl) | (with_reducible first | apply qzT | apply qzF | apply qzG | apply qzH) | ((with_reducible first | apply qzB | apply qzC | apply qzD); simp (disch:=omega) only [coreA,Int.reduceBEq,bzS3] <;> with_reducible rfl))
 exact ⟨_,rfl,o,rfl,((S2.drop.join X).keepO (.cons_cons _ (List.nil_sublist _)))⟩
def valsT (l : List CellD) : List Nat:=l.map fun c=>toU c.i
theorem cellsT_loop {β : Type} {k : Nat} {Q : β→Prop} {h0 : AH} {b2 : Nat} {v : Value} {l : List CellD} (A : Cells h0 v l) (hl : l.length ≤ 4096) {ke0 : Value→Value→Value→Value→Value→Value→AH→Option β} (n : Nat) :
  ∀ {i j : Nat} {h : AH} {av : Value},i + n = l.length→n < j→Stt Tryz.prog h0.n h0 h [(b2,.cells codTL 94 true)] [(av,1,u64rows (valsT (l.take i)))] →
   (∀ h' av' y11 y12,Stt Tryz.prog h0.n h0 h' [(b2,.cells codTL 94 true)] [(av',1,u64rows (valsT l))]→Tl (ke0 (ptr b2) av' v (.int .i64 l.length) y11 y12 h') Q) →
   Tl (F218_lrlrr (eInv env (k + 1)) (k + 1) j (ptr b2) av v (.int .i64 l.length) (.int .i64 i) h ke0) Q:=by
 induction n with
 | zero =>
  intro i j h av hi hj T hk
  obtain ⟨j,rfl⟩ : ∃ q,j = q + 1:=⟨j - 1,by omega⟩
  simp only [F218_lrlrr]
  repeat (first | (with_reducible apply qzV; simp (disch:=omega) only [coreA,Int.reduceBEq,bzS3] <;> with_reducible rfl) | (with_reducible first | apply qzT | apply qzF | apply qzG | apply qzH) | ((with_reducible first | apply qzB | apply qzC | apply qzD); simp (disch:=omega) only [coreA,Int.reduceBEq,bzS3] <;> with_reducible rfl))
  rw [List.take_of_length_le (by omega)] at T
  exact hk _ _ _ _ T
 | succ n ih =>
  intro i j h av hi hj T hk
  obtain ⟨j,rfl⟩ : ∃ q,j = q + 1:=⟨j - 1,by omega⟩
  obtain ⟨c,hc⟩ : ∃ c,l[i]? = some c:=⟨_,List.getElem?_eq_getElem (by omega)⟩
  obtain ⟨b,o,hx,hr⟩:=(A.grow T.grow).at_ hc
  have e : (i : Int) + 1 = ((i + 1 : Nat) : Int):=by omega
  have hti : l.take (i + 1) = l.take i ++ [c]:=by rw [List.take_add_one,hc]; rfl
  simp only [F218_lrlrr]
  unfold ptr
  repeat (first | (with_reducible apply qzV; simp (disch:=omega) only [coreA,Int.reduceBEq,bzS3,hx,hr] <;> with_reducible rfl) | (with_reducible first | apply qzT | apply qzF | apply qzG | apply qzH) | ((with_reducible first | apply qzB | apply qzC | apply qzD); simp (disch:=omega) only [coreA,Int.reduceBEq,bzS3,hx,hr] <;> with_reducible rfl))
  refine Tl.alloc' T ze31 rfl fun b4 h1 T1 _=>?_
  refine Tl.store' T1 0 rfl sz31 rfl rfl (of_decide_eq_true rfl) fun h2 T2 _=>?_
  have T2 : Stt Tryz.prog h0.n h0 h2 [Cr b4 c,(b2,.cells codTL 94 true)] [(av,1,u64rows (valsT (l.take i)))]:=T2
  obtain ⟨r4,_⟩:=c_at T2 0 rfl
  have q0:=T2.cell (o:=0) (v:=.func (.func 81) #[] #[]) 1 rfl rfl
  repeat (first | (with_reducible apply qzV; simp (disch:=omega) only [coreA,Int.reduceBEq,bzS3,r4,q0] <;> with_reducible rfl) | (with_reducible first | apply qzT | apply qzF | apply qzG | apply qzH) | ((with_reducible first | apply qzB | apply qzC | apply qzD); simp (disch:=omega) only [coreA,Int.reduceBEq,bzS3,r4,q0] <;> with_reducible rfl))
  rw [callV_fn1]
  with_reducible refine Tl.call' T2 (f81c (k:=k) c h2) fun h3 T3 _=>?_
  refine Tl.push T3 0 rfl app63 (bs63 _ _) rfl rfl (by simp [u64rows,valsT]; omega) fun av' h5 T5=>?_
  repeat (first | (with_reducible apply qzV; simp (disch:=omega) only [coreA,Int.reduceBEq,bzS3] <;> with_reducible rfl) | (with_reducible first | apply qzT | apply qzF | apply qzG | apply qzH) | ((with_reducible first | apply qzB | apply qzC | apply qzD); simp (disch:=omega) only [coreA,Int.reduceBEq,bzS3] <;> with_reducible rfl))
  rw [e]
  refine ih (by omega) (by omega) ?_ hk
  have e2 : u64rows (valsT (l.take i)) ++ [[u64v (toU c.i)]] = u64rows (valsT (l.take (i + 1))):=by rw [hti]; simp [u64rows,valsT]
  rw [← e2]
  exact T5.drop
/-- 'cells'. -/
theorem cellsT_c {k : Nat} {h : AH} {v : Value} {l : List CellD} (A : Cells h v l) (hl : l.length ≤ 4096) (hk : 4096 < k) :
  Tl (eInv env (k + 602) (.method "shadowbook/segment.cells") #[] #[.iface 94 (.agg codTL.toArray), v] h) fun r => ∃ o, r.1 = .tuple #[o, .int .i64 (Pk.putE (valsT l) 1)] ∧ Stt Tryz.prog h.n h r.2 [] [(o, 1, u8rows (Pk.putL (valsT l) 1))] := by
 rw [show eInv env (k + 602) (.method "shadowbook/segment.cells") #[] #[.iface 94 (.agg codTL.toArray), v] h = F218 (eInv env (k + 601)) (k + 601) (.agg codTL.toArray) v h from
  (by kernel_rfl : _ = eFun env (k + 601) (eInv env (k + 601)) 218 #[.agg codTL.toArray,v] h).trans F218_eq]
 unfold F218
 refine Tl.box' (Stt.init h) rfl isT fun b2 h1 S1 _=>?_
 have S1 : Stt Tryz.prog h.n h h1 [(b2,.cells codTL 94 true)] []:=S1
 have hv : ∀ h' : AH,pLen Tryz.prog #[22] v h' = some (.int .i64 l.length):=fun h'=>A.len
 repeat (first | (with_reducible apply qzV; simp (disch:=omega) only [coreA,Int.reduceBEq,bzS3,hv] <;> with_reducible rfl) | (with_reducible first | apply qzT | apply qzF | apply qzG | apply qzH) | ((with_reducible first | apply qzB | apply qzC | apply qzD); simp (disch:=omega) only [coreA,Int.reduceBEq,bzS3,hv] <;> with_reducible rfl))
 refine cellsT_loop (k:=k + 600) (i:=0) A hl l.length (by omega) (by omega) (S1.nil 1) fun h2 av y11 y12 S2=>?_
 have q4:=S2.cell (o:=4) (v:=.func (.func 85) #[] #[]) 0 rfl rfl
 unfold ptr
 repeat (first | (with_reducible apply qzV; simp (disch:=omega) only [coreA,Int.reduceBEq,bzS3,q4] <;> with_reducible rfl) | (with_reducible first | apply qzT | apply qzF | apply qzG | apply qzH) | ((with_reducible first | apply qzB | apply qzC | apply qzD); simp (disch:=omega) only [coreA,Int.reduceBEq,bzS3,q4] <;> with_reducible rfl))
 rw [callV_fn1]
 have B : Words h2 av (valsT l):=S2.sl1 (f:=u64v) 0 rfl
 refine Tl.bind (f85c (k:=k + 299) B (by simp [valsT]; omega) (by simp [valsT]; omega) (fun q hq=>?_)) ?_
 ·obtain ⟨c,_,rfl⟩:=List.mem_map.1 hq
  exact toU_lt _
 rintro ⟨r,h3⟩ ⟨o,er,g,X⟩
 simp only at er g X
 subst er
 repeat (first | (with_reducible apply qzV; simp (disch:=omega) only [coreA,Int.reduceBEq,bzS3] <;> with_reducible rfl) | (with_reducible first | apply qzT | apply qzF | apply qzG | apply qzH) | ((with_reducible first | apply qzB | apply qzC | apply qzD); simp (disch:=omega) only [coreA,Int.reduceBEq,bzS3] <;> with_reducible rfl))
 exact ⟨_,rfl,o,rfl,((S2.drop.gain g X).keepO (.cons_cons _ (List.nil_sublist _)))⟩
def valsW (l : List CellD) : List ByteArray:=l.map fun c=>c.s
theorem cellsW_loop {β : Type} {k : Nat} {Q : β→Prop} {h0 : AH} {b2 : Nat} {v : Value} {l : List CellD} (A : Cells h0 v l) (hl : l.length ≤ 4096) {ke0 : Value→Value→Value→Value→Value→Value→AH→Option β} (n : Nat) :
  ∀ {i j : Nat} {h : AH} {av : Value},i + n = l.length→n < j→Stt Tryz.prog h0.n h0 h [(b2,.cells codWL 103 true)] [(av,1,srows (valsW (l.take i)))] →
   (∀ h' av' y11 y12,Stt Tryz.prog h0.n h0 h' [(b2,.cells codWL 103 true)] [(av',1,srows (valsW l))]→Tl (ke0 (ptr b2) av' v (.int .i64 l.length) y11 y12 h') Q) →
   Tl (F222_lrlrr (eInv env (k + 1)) (k + 1) j (ptr b2) av v (.int .i64 l.length) (.int .i64 i) h ke0) Q:=by
 induction n with
 | zero =>
  intro i j h av hi hj T hk
  obtain ⟨j,rfl⟩ : ∃ q,j = q + 1:=⟨j - 1,by omega⟩
  simp only [F222_lrlrr]
  repeat (first | (with_reducible apply qzV; simp (disch:=omega) only [coreA,Int.reduceBEq,bzS3] <;> with_reducible rfl) | (with_reducible first | apply qzT | apply qzF | apply qzG | apply qzH) | ((with_reducible first | apply qzB | apply qzC | apply qzD); simp (disch:=omega) only [coreA,Int.reduceBEq,bzS3] <;> with_reducible rfl))
  rw [List.take_of_length_le (by omega)] at T
  exact hk _ _ _ _ T
 | succ n ih =>
  intro i j h av hi hj T hk
  obtain ⟨j,rfl⟩ : ∃ q,j = q + 1:=⟨j - 1,by omega⟩
  obtain ⟨c,hc⟩ : ∃ c,l[i]? = some c:=⟨_,List.getElem?_eq_getElem (by omega)⟩
  obtain ⟨b,o,hx,hr⟩:=(A.grow T.grow).at_ hc
  have e : (i : Int) + 1 = ((i + 1 : Nat) : Int):=by omega
  have hti : l.take (i + 1) = l.take i ++ [c]:=by rw [List.take_add_one,hc]; rfl
  simp only [F222_lrlrr]
  unfold ptr
  repeat (first | (with_reducible apply qzV; simp (disch:=omega) only [coreA,Int.reduceBEq,bzS3,hx,hr] <;> with_reducible rfl) | (with_reducible first | apply qzT | apply qzF | apply qzG | apply qzH) | ((with_reducible first | apply qzB | apply qzC | apply qzD); simp (disch:=omega) only [coreA,Int.reduceBEq,bzS3,hx,hr] <;> with_reducible rfl))
  refine Tl.alloc' T ze31 rfl fun b4 h1 T1 _=>?_
  refine Tl.store' T1 0 rfl sz31 rfl rfl (of_decide_eq_true rfl) fun h2 T2 _=>?_
  have T2 : Stt Tryz.prog h0.n h0 h2 [Cr b4 c,(b2,.cells codWL 103 true)] [(av,1,srows (valsW (l.take i)))]:=T2
  obtain ⟨r4,_⟩:=c_at T2 0 rfl
  have q0:=T2.cell (o:=0) (v:=.func (.func 88) #[] #[]) 1 rfl rfl
  repeat (first | (with_reducible apply qzV; simp (disch:=omega) only [coreA,Int.reduceBEq,bzS3,r4,q0] <;> with_reducible rfl) | (with_reducible first | apply qzT | apply qzF | apply qzG | apply qzH) | ((with_reducible first | apply qzB | apply qzC | apply qzD); simp (disch:=omega) only [coreA,Int.reduceBEq,bzS3,r4,q0] <;> with_reducible rfl))
  rw [callV_fn1]
  with_reducible refine Tl.call' T2 (f88c (k:=k) c h2) fun h3 T3 _=>?_
  refine Tl.push T3 0 rfl app122 (bs122 _ _) rfl rfl (by simp [srows,valsW]; omega) fun av' h5 T5=>?_
  repeat (first | (with_reducible apply qzV; simp (disch:=omega) only [coreA,Int.reduceBEq,bzS3] <;> with_reducible rfl) | (with_reducible first | apply qzT | apply qzF | apply qzG | apply qzH) | ((with_reducible first | apply qzB | apply qzC | apply qzD); simp (disch:=omega) only [coreA,Int.reduceBEq,bzS3] <;> with_reducible rfl))
  rw [e]
  refine ih (by omega) (by omega) ?_ hk
  have e2 : srows (valsW (l.take i)) ++ [[Value.string (c.s)]] = srows (valsW (l.take (i + 1))):=by rw [hti]; simp [srows,valsW]
  rw [← e2]
  exact T5.drop
/-- 'cells'. -/
theorem cellsW_c {k : Nat} {h : AH} {v : Value} {l : List CellD} (A : Cells h v l) (hl : l.length ≤ 4096) (hk : 4096 < k) :
  Tl (eInv env (k + 602) (.method "shadowbook/segment.cells") #[] #[.iface 103 (.agg codWL.toArray), v] h) fun r => ∃ o, r.1 = .tuple #[o, .int .i64 (checkT (valsW l))] ∧ Stt Tryz.prog h.n h r.2 [] [(o, 1, u8rows (putT (valsW l)))] := by
 rw [show eInv env (k + 602) (.method "shadowbook/segment.cells") #[] #[.iface 103 (.agg codWL.toArray), v] h = F222 (eInv env (k + 601)) (k + 601) (.agg codWL.toArray) v h from
  (by kernel_rfl : _ = eFun env (k + 601) (eInv env (k + 601)) 222 #[.agg codWL.toArray,v] h).trans F222_eq]
 unfold F222
 refine Tl.box' (Stt.init h) rfl isW fun b2 h1 S1 _=>?_
 have S1 : Stt Tryz.prog h.n h h1 [(b2,.cells codWL 103 true)] []:=S1
 have hv : ∀ h' : AH,pLen Tryz.prog #[22] v h' = some (.int .i64 l.length):=fun h'=>A.len
 repeat (first | (with_reducible apply qzV; simp (disch:=omega) only [coreA,Int.reduceBEq,bzS3,hv] <;> with_reducible rfl) | (with_reducible first | apply qzT | apply qzF | apply qzG | apply qzH) | ((with_reducible first | apply qzB | apply qzC | apply qzD); simp (disch:=omega) only [coreA,Int.reduceBEq,bzS3,hv] <;> with_reducible rfl))
 refine cellsW_loop (k:=k + 600) (i:=0) A hl l.length (by omega) (by omega) (S1.nil 1) fun h2 av y11 y12 S2=>?_
 have q4:=S2.cell (o:=4) (v:=.func (.func 93) #[] #[]) 0 rfl rfl
 unfold ptr
 repeat (first | (with_reducible apply qzV; simp (disch:=omega) only [coreA,Int.reduceBEq,bzS3,q4] <;> with_reducible rfl) | (with_reducible first | apply qzT | apply qzF | apply qzG | apply qzH) | ((with_reducible first | apply qzB | apply qzC | apply qzD); simp (disch:=omega) only [coreA,Int.reduceBEq,bzS3,q4] <;> with_reducible rfl))
 rw [callV_fn1]
 have B : Strs h2 av (valsW l):=S2.sl1 (f:=Value.string) 0 rfl
 refine Tl.bind (f93c (k:=k + 200) B (by simp [valsW]; omega) (by omega)) ?_
 rintro ⟨r,h3⟩ ⟨o,er,X⟩
 simp only at er X
 subst er
 repeat (first | (with_reducible apply qzV; simp (disch:=omega) only [coreA,Int.reduceBEq,bzS3] <;> with_reducible rfl) | (with_reducible first | apply qzT | apply qzF | apply qzG | apply qzH) | ((with_reducible first | apply qzB | apply qzC | apply qzD); simp (disch:=omega) only [coreA,Int.reduceBEq,bzS3] <;> with_reducible rfl))
 exact ⟨_,rfl,o,rfl,((S2.drop.join X).keepO (.cons_cons _ (List.nil_sublist _)))⟩
end
end Go.Proofs.YtghelamfaaakcaaGreat.Sh
/- Which cells of a kind may be: 'segment.Check'; 'LightCells'. -/
set_option linter.unusedVariables false
set_option linter.unusedSimpArgs false
set_option maxRecDepth 100000
namespace Go.Proofs.YtghelamfaaakcaaGreat.Sh
open Go Go.RowKit Go.Proofs.Ev Go.Lib
theorem bzS4 : type_of% (And.intro @ld3 (And.intro @ld2 (And.intro @ld9 (And.intro @ld31 (And.intro @fa31_0 (And.intro @fa31_1 (And.intro @fa31_2 (And.intro @aggC (@Nat.add_zero))))))))):=And.intro @ld3 (And.intro @ld2 (And.intro @ld9 (And.intro @ld31 (And.intro @fa31_0 (And.intro @fa31_1 (And.intro @fa31_2 (And.intro @aggC (@Nat.add_zero))))))))
theorem codNone {a : Nat} : pBin Tryz.prog .eql 54 (.tmp a) (.const .nilIface) .nilIface .nilIface = some (.bool true):=by kernel_rfl
theorem cod1 {a : Nat} : pBin Tryz.prog .eql 54 (.tmp a) (.const .nilIface) (codV 1) .nilIface = some (.bool false):=by kernel_rfl
theorem cod2 {a : Nat} : pBin Tryz.prog .eql 54 (.tmp a) (.const .nilIface) (codV 2) .nilIface = some (.bool false):=by kernel_rfl
theorem cod3 {a : Nat} : pBin Tryz.prog .eql 54 (.tmp a) (.const .nilIface) (codV 3) .nilIface = some (.bool false):=by kernel_rfl
theorem codSome {kind : Int} (hk : 1 ≤ kind ∧ kind ≤ 3) {a : Nat} : pBin Tryz.prog .eql 54 (.tmp a) (.const .nilIface) (codV kind) .nilIface = some (.bool false):=by
 have h : kind = 1 ∨ kind = 2 ∨ kind = 3:=by omega
 rcases h with rfl | rfl | rfl
 ·exact cod1
 ·exact cod2
 ·exact cod3
theorem codV_none {kind : Int} (hk : ¬ (1 ≤ kind ∧ kind ≤ 3)) : codV kind = .nilIface:=by
 unfold codV
 rw [if_neg (by omega),if_neg (by omega),if_neg (by omega)]
def chkE (kind : Int) : List CellD→Int
 | []=>0
 | c :: l=>if cellE c ≠ 0 then cellE c else if c.k ≠ kind ∧ c.k ≠ 0 then 11 else chkE kind l
def segE (kind : Int) (l : List CellD) : Int:=if 1 ≤ kind ∧ kind ≤ 3 then (if l.length > 4096 then 3 else chkE kind l) else 2
theorem f11_loop {β : Type} {k : Nat} {Q : β→Prop} {h0 : AH} {v : Value} {l : List CellD} {kind : Int} (A : Cells h0 v l) (hl : l.length ≤ 4096) {ke0 : Value→Value→Value→Value→Value→AH→Option β} {kr : Value→AH→Option β} (n : Nat) :
  ∀ {i j : Nat} {h : AH},i + n = l.length→n < j→Stt Tryz.prog h0.n h0 h [] [] →
   (∀ h' y1 y2 y3 y4,Grow h0 h'→chkE kind (l.drop i) = 0→Tl (ke0 (.int .i64 kind) y1 y2 y3 y4 h') Q)→(∀ h',Grow h0 h'→chkE kind (l.drop i) ≠ 0→Tl (kr (.int .i64 (chkE kind (l.drop i))) h') Q) →
   Tl (F11_lrlrrr (eInv env (k + 1)) (k + 1) j (.int .i64 kind) v (.int .i64 l.length) (.int .i64 i) h ke0 kr) Q:=by
 induction n with
 | zero =>
  intro i j h hi hj T hk hr
  obtain ⟨j,rfl⟩ : ∃ q,j = q + 1:=⟨j - 1,by omega⟩
  simp only [F11_lrlrrr]
  repeat (first | (with_reducible apply qzV; simp (disch:=omega) only [coreA,Int.reduceBEq,bzS4] <;> with_reducible rfl) | (with_reducible first | apply qzT | apply qzF | apply qzG | apply qzH) | ((with_reducible first | apply qzB | apply qzC | apply qzD); simp (disch:=omega) only [coreA,Int.reduceBEq,bzS4] <;> with_reducible rfl))
  exact hk _ _ _ _ _ T.grow (by rw [List.drop_eq_nil_of_le (by omega)]; rfl)
 | succ n ih =>
  intro i j h hi hj T hk hr
  obtain ⟨j,rfl⟩ : ∃ q,j = q + 1:=⟨j - 1,by omega⟩
  obtain ⟨c,hc⟩ : ∃ c,l[i]? = some c:=⟨_,List.getElem?_eq_getElem (by omega)⟩
  obtain ⟨b,o,hx,hrow⟩:=(A.grow T.grow).at_ hc
  have e : (i : Int) + 1 = ((i + 1 : Nat) : Int):=by omega
  rw [drop_at hc,chkE] at hk hr
  simp only [F11_lrlrrr]
  repeat (first | (with_reducible apply qzV; simp (disch:=omega) only [coreA,Int.reduceBEq,bzS4,hx,hrow] <;> with_reducible rfl) | (with_reducible first | apply qzT | apply qzF | apply qzG | apply qzH) | ((with_reducible first | apply qzB | apply qzC | apply qzD); simp (disch:=omega) only [coreA,Int.reduceBEq,bzS4,hx,hrow] <;> with_reducible rfl))
  refine Tl.alloc' T ze31 rfl fun b4 h1 T1 _=>?_
  refine Tl.store' T1 0 rfl sz31 rfl rfl (of_decide_eq_true rfl) fun h2 T2 _=>?_
  have T2 : Stt Tryz.prog h0.n h0 h2 [Cr b4 c] []:=T2
  obtain ⟨r4,_⟩:=c_at T2 0 rfl
  repeat (first | (with_reducible apply qzV; simp (disch:=omega) only [coreA,Int.reduceBEq,bzS4,r4] <;> with_reducible rfl) | (with_reducible first | apply qzT | apply qzF | apply qzG | apply qzH) | ((with_reducible first | apply qzB | apply qzC | apply qzD); simp (disch:=omega) only [coreA,Int.reduceBEq,bzS4,r4] <;> with_reducible rfl))
  with_reducible refine Tl.call' T2 (f29c (k:=k) c h2) fun h3 T3 _=>?_
  obtain ⟨_,k4,_⟩:=c_at T3 0 rfl
  by_cases e1 : cellE c = 0
  ·rw [if_neg (by simpa using e1)] at hk hr
   by_cases e2 : c.k = kind
   ·rw [if_neg (fun q=>q.1 e2)] at hk hr
    repeat (first | (with_reducible apply qzV; simp (disch:=omega) only [coreA,Int.reduceBEq,bzS4,k4] <;> with_reducible rfl) | (with_reducible first | apply qzT | apply qzF | apply qzG | apply qzH) | ((with_reducible first | apply qzB | apply qzC | apply qzD); simp (disch:=omega) only [coreA,Int.reduceBEq,bzS4,k4] <;> with_reducible rfl))
    rw [e]
    exact ih (by omega) (by omega) T3.drop hk hr
   ·by_cases e3 : c.k = 0
    ·rw [if_neg (fun q=>q.2 e3)] at hk hr
     repeat (first | (with_reducible apply qzV; simp (disch:=omega) only [coreA,Int.reduceBEq,bzS4,k4] <;> with_reducible rfl) | (with_reducible first | apply qzT | apply qzF | apply qzG | apply qzH) | ((with_reducible first | apply qzB | apply qzC | apply qzD); simp (disch:=omega) only [coreA,Int.reduceBEq,bzS4,k4] <;> with_reducible rfl))
     rw [e]
     exact ih (by omega) (by omega) T3.drop hk hr
    ·rw [if_pos ⟨e2,e3⟩] at hr
     repeat (first | (with_reducible apply qzV; simp (disch:=omega) only [coreA,Int.reduceBEq,bzS4,k4] <;> with_reducible rfl) | (with_reducible first | apply qzT | apply qzF | apply qzG | apply qzH) | ((with_reducible first | apply qzB | apply qzC | apply qzD); simp (disch:=omega) only [coreA,Int.reduceBEq,bzS4,k4] <;> with_reducible rfl))
     exact hr _ T3.grow (by decide)
  ·rw [if_pos e1] at hr
   repeat (first | (with_reducible apply qzV; simp (disch:=omega) only [coreA,Int.reduceBEq,bzS4] <;> with_reducible rfl) | (with_reducible first | apply qzT | apply qzF | apply qzG | apply qzH) | ((with_reducible first | apply qzB | apply qzC | apply qzD); simp (disch:=omega) only [coreA,Int.reduceBEq,bzS4] <;> with_reducible rfl))
   exact hr _ T3.grow e1
theorem f11c {k : Nat} {h : AH} {v : Value} {l : List CellD} (kind : Int) (A : Cells h v l) (hl : l.length ≤ 9223372036854775807) (hk : 4096 < k) :
  Tl (eInv env (k + 3) (.func 11) #[] #[.int .i64 kind,v] h) fun r=>r.1 = .int .i64 (segE kind l) ∧ Grow h r.2:=by
 rw [F11_call]
 unfold F11 segE
 have hv : ∀ h' : AH,pLen Tryz.prog #[22] v h' = some (.int .i64 l.length):=fun h'=>A.len
 with_reducible refine Tl.call' (Stt.init (P:=Tryz.prog) h) (f28c (k:=k) kind h) fun h1 S1 _=>?_
 by_cases p : 1 ≤ kind ∧ kind ≤ 3
 ·rw [if_pos p]
  have cs:=fun a=>codSome p (a:=a)
  by_cases q : l.length > 4096
  ·rw [if_pos q]
   repeat (first | (with_reducible apply qzV; simp (disch:=omega) only [coreA,Int.reduceBEq,bzS4,cs,hv] <;> with_reducible rfl) | (with_reducible first | apply qzT | apply qzF | apply qzG | apply qzH) | ((with_reducible first | apply qzB | apply qzC | apply qzD); simp (disch:=omega) only [coreA,Int.reduceBEq,bzS4,cs,hv] <;> with_reducible rfl))
   exact ⟨_,rfl,rfl,S1.grow⟩
  ·rw [if_neg q]
   repeat (first | (with_reducible apply qzV; simp (disch:=omega) only [coreA,Int.reduceBEq,bzS4,cs,hv] <;> with_reducible rfl) | (with_reducible first | apply qzT | apply qzF | apply qzG | apply qzH) | ((with_reducible first | apply qzB | apply qzC | apply qzD); simp (disch:=omega) only [coreA,Int.reduceBEq,bzS4,cs,hv] <;> with_reducible rfl))
   refine f11_loop (k:=k + 1) (i:=0) A (by omega) l.length (by omega) (by omega) S1 (fun h2 y1 y2 y3 y4 g z=>⟨_,rfl,?_,g⟩) fun h2 g z=>⟨_,rfl,rfl,g⟩
   rw [List.drop_zero] at z
   rw [z]
 ·rw [if_neg p,codV_none p]
  repeat (first | (with_reducible apply qzV; simp (disch:=omega) only [coreA,Int.reduceBEq,bzS4,codNone] <;> with_reducible rfl) | (with_reducible first | apply qzT | apply qzF | apply qzG | apply qzH) | ((with_reducible first | apply qzB | apply qzC | apply qzD); simp (disch:=omega) only [coreA,Int.reduceBEq,bzS4,codNone] <;> with_reducible rfl))
  exact ⟨_,rfl,rfl,S1.grow⟩
end Go.Proofs.YtghelamfaaakcaaGreat.Sh
/- What the functions of the nulls' package come to: 'count', 'Spread', 'Same'. -/
set_option linter.unusedVariables false
set_option linter.unusedSimpArgs false
set_option maxRecDepth 100000
namespace Go.Proofs.YtghelamfaaakcaaGreat.Sh
open Go Go.RowKit Go.Proofs.Ev
theorem bzNa : type_of% (And.intro @ld3 (And.intro @ld4 (And.intro @ld5 (And.intro @ld32 (And.intro @ld72 (And.intro @ld33 (And.intro (fun ox oy a b=>bin_eql_bool (ox:=ox) (oy:=oy) (a:=a) (b:=b) u4) ((fun ox oy a b=>bin_neq_bool (ox:=ox) (oy:=oy) (a:=a) (b:=b) u4))))))))):=And.intro @ld3 (And.intro @ld4 (And.intro @ld5 (And.intro @ld32 (And.intro @ld72 (And.intro @ld33 (And.intro (fun ox oy a b=>bin_eql_bool (ox:=ox) (oy:=oy) (a:=a) (b:=b) u4) ((fun ox oy a b=>bin_neq_bool (ox:=ox) (oy:=oy) (a:=a) (b:=b) u4))))))))
def bv (b : Bool) : Value:=.bool b
def Bools (h : AH) (v : Value) (l : List Bool) : Prop:=Sl1 Tryz.prog h v bv l
def cnt (l : List Bool) : Nat:=l.count true
theorem cnt_le (l : List Bool) : cnt l ≤ l.length:=List.count_le_length
theorem drop_cons {α : Type} {l : List α} {i : Nat} {x : α} (h : l[i]? = some x) : l.drop i = x :: l.drop (i + 1):=by
 have hlt : i < l.length:=(List.getElem?_eq_some_iff.1 h).1
 rw [List.drop_eq_getElem_cons hlt]
 rw [List.getElem?_eq_getElem hlt] at h
 cases h; rfl
theorem f96_loop {β : Type} {k : Nat} {Q : β→Prop} {h : AH} {v : Value} {l : List Bool} (S : Bools h v l) (hl : l.length ≤ 2 ^ 40) {ke0 : Value→Value→Value→Value→Value→AH→Option β} (n : Nat) :
  ∀ {i j c : Nat},i + n = l.length→n < j→c ≤ i→c + cnt (l.drop i) = cnt l →
   (∀ y y',Tl (ke0 (.int .i64 (cnt l)) v (.int .i64 l.length) y y' h) Q) →
   Tl (F96_lrlr (eInv env k) k j (.int .i64 c) v (.int .i64 l.length) (.int .i64 i) h ke0) Q:=by
 induction n with
 | zero =>
  intro i j c hi hj hc hs hk
  obtain ⟨j,rfl⟩ : ∃ q,j = q + 1:=⟨j - 1,by omega⟩
  simp only [F96_lrlr]
  repeat (first | (with_reducible apply qzV; simp (disch:=omega) only [coreA,Int.reduceBEq,bzNa] <;> with_reducible rfl) | (with_reducible first | apply qzT | apply qzF | apply qzG | apply qzH) | ((with_reducible first | apply qzB | apply qzC | apply qzD); simp (disch:=omega) only [coreA,Int.reduceBEq,bzNa] <;> with_reducible rfl))
  rw [List.drop_eq_nil_of_le (by omega)] at hs
  have : c = cnt l:=by simpa [cnt] using hs
  rw [this]
  exact hk _ _
 | succ n ih =>
  intro i j c hi hj hc hs hk
  obtain ⟨j,rfl⟩ : ∃ q,j = q + 1:=⟨j - 1,by omega⟩
  have hlt : i < l.length:=by omega
  obtain ⟨x,hx⟩ : ∃ x,l[i]? = some x:=⟨_,List.getElem?_eq_getElem hlt⟩
  obtain ⟨b,o,hp,hc1⟩:=Sl1.at_ S (t:=105) (k:=.i64) hx (by kernel_rfl) sz4
  have hc1:=hc1 h (Grow.refl _)
  rw [drop_cons hx] at hs
  simp only [F96_lrlr]
  unfold F96_lrrllrlr
  repeat (first | (with_reducible apply qzV; simp (disch:=omega) only [coreA,Int.reduceBEq,bzNa,hp,hc1,bv] <;> with_reducible rfl) | (with_reducible first | apply qzT | apply qzF | apply qzG | apply qzH) | ((with_reducible first | apply qzB | apply qzC | apply qzD); simp (disch:=omega) only [coreA,Int.reduceBEq,bzNa,hp,hc1,bv] <;> with_reducible rfl))
  have e : (i : Int) + 1 = ((i + 1 : Nat) : Int):=by omega
  cases x
  ·repeat (first | (with_reducible apply qzV; simp (disch:=omega) only [coreA,Int.reduceBEq,bzNa] <;> with_reducible rfl) | (with_reducible first | apply qzT | apply qzF | apply qzG | apply qzH) | ((with_reducible first | apply qzB | apply qzC | apply qzD); simp (disch:=omega) only [coreA,Int.reduceBEq,bzNa] <;> with_reducible rfl))
   rw [e]
   exact ih (by omega) (by omega) (by omega) (by simpa [cnt] using hs) hk
  ·have e2 : (c : Int) + 1 = ((c + 1 : Nat) : Int):=by omega
   repeat (first | (with_reducible apply qzV; simp (disch:=omega) only [coreA,Int.reduceBEq,bzNa] <;> with_reducible rfl) | (with_reducible first | apply qzT | apply qzF | apply qzG | apply qzH) | ((with_reducible first | apply qzB | apply qzC | apply qzD); simp (disch:=omega) only [coreA,Int.reduceBEq,bzNa] <;> with_reducible rfl))
   rw [e,e2]
   exact ih (by omega) (by omega) (by omega) (by simp [cnt] at hs ⊢; omega) hk
theorem f96c {k : Nat} {h : AH} {v : Value} {l : List Bool} (S : Bools h v l) (hl : l.length ≤ 2 ^ 40) (hk : l.length < k) : eInv env (k + 1) (.func 96) #[] #[v] h = some (.int .i64 (cnt l),h):=by
 have T : Tl (F96 (eInv env k) k v h) fun r=>r = (.int .i64 (cnt l),h):=by
  unfold F96
  have hlen : ∀ h',pLen Tryz.prog #[105] v h' = some (.int .i64 l.length):=fun h'=>Sl1.len S (e:=4) (by kernel_rfl)
  repeat (first | (with_reducible apply qzV; simp (disch:=omega) only [coreA,Int.reduceBEq,bzNa,hlen] <;> with_reducible rfl) | (with_reducible first | apply qzT | apply qzF | apply qzG | apply qzH) | ((with_reducible first | apply qzB | apply qzC | apply qzD); simp (disch:=omega) only [coreA,Int.reduceBEq,bzNa,hlen] <;> with_reducible rfl))
  exact f96_loop S hl l.length (i:=0) (c:=0) (by omega) (by omega) (by omega) (by simp) fun y y'=>⟨_,rfl,rfl⟩
 obtain ⟨r,h1,h2⟩:=T
 rw [F96_call,h1,h2]
theorem f57c {k : Nat} {h : AH} {v : Value} {l : List Bool} (S : Bools h v l) (hl : l.length ≤ 2 ^ 40) (hk : l.length < k) : eInv env (k + 2) (.func 57) #[] #[v] h = some (.int .i64 (cnt l),h):=by
 rw [F57_call]
 unfold F57
 rw [f96c S hl hk]
 rfl
def brows (l : List Bool) : List (List Value):=l.map fun z=>[bv z]
theorem brows_len (l : List Bool) : (brows l).length = l.length:=List.length_map ..
end Go.Proofs.YtghelamfaaakcaaGreat.Sh
/- What 'Put' of the nulls' package comes to. -/
set_option linter.unusedVariables false
set_option linter.unusedSimpArgs false
set_option maxRecDepth 100000
namespace Go.Proofs.YtghelamfaaakcaaGreat.Sh
open Go Go.RowKit Go.Proofs.Ev
theorem bzNb : type_of% (And.intro @ld3 (And.intro @ld4 (And.intro @ld5 (And.intro @ld32 (And.intro @ld72 (And.intro @ld33 (And.intro @ld60 (And.intro @ld63 (And.intro (fun a h=>conv_int (a:=a) (h:=h) u3 u60) (And.intro (fun a h=>conv_int (a:=a) (h:=h) u60 u3) (And.intro (fun ox oy a b=>bin_eql_bool (ox:=ox) (oy:=oy) (a:=a) (b:=b) u4) (And.intro (fun ox oy a b=>bin_neq_bool (ox:=ox) (oy:=oy) (a:=a) (b:=b) u4) (And.intro @ex2_0 (@ex2_1)))))))))))))):=And.intro @ld3 (And.intro @ld4 (And.intro @ld5 (And.intro @ld32 (And.intro @ld72 (And.intro @ld33 (And.intro @ld60 (And.intro @ld63 (And.intro (fun a h=>conv_int (a:=a) (h:=h) u3 u60) (And.intro (fun a h=>conv_int (a:=a) (h:=h) u60 u3) (And.intro (fun ox oy a b=>bin_eql_bool (ox:=ox) (oy:=oy) (a:=a) (b:=b) u4) (And.intro (fun ox oy a b=>bin_neq_bool (ox:=ox) (oy:=oy) (a:=a) (b:=b) u4) (And.intro @ex2_0 (@ex2_1)))))))))))))
def formN (l : List Bool) : Nat:=if cnt l = 0 then 0 else if cnt l = l.length then 1 else 2
def b2n (b : Bool) : Nat:=if b then 1 else 0
def putV (l : List Bool) : List Nat:=pvarN l.length ++ (formN l :: if formN l = 2 then putN 1 (l.map b2n) else [])
theorem f48c {k : Nat} {h : AH} {v : Value} {l : List Bool} (S : Bools h v l) (hl : l.length ≤ 2 ^ 40) (hk : l.length < k) : eInv env (k + 2) (.func 48) #[] #[v] h = some (.int .u8 (formN l : Int),h):=by
 have T : Tl (F48 (eInv env (k + 1)) (k + 1) v h) fun r=>r = (.int .u8 (formN l : Int),h):=by
  unfold F48 formN
  have hlen : ∀ h',pLen Tryz.prog #[105] v h' = some (.int .i64 l.length):=fun h'=>Sl1.len S u105
  have hc:=f96c S hl hk
  by_cases e1 : cnt l = 0
  ·rw [if_pos e1]
   repeat (first | (with_reducible apply qzV; simp (disch:=omega) only [coreA,Int.reduceBEq,bzNb,hc] <;> with_reducible rfl) | (with_reducible first | apply qzT | apply qzF | apply qzG | apply qzH) | ((with_reducible first | apply qzB | apply qzC | apply qzD); simp (disch:=omega) only [coreA,Int.reduceBEq,bzNb,hc] <;> with_reducible rfl))
   exact ⟨_,rfl,rfl⟩
  ·rw [if_neg e1]
   by_cases e2 : cnt l = l.length
   ·rw [if_pos e2]
    repeat (first | (with_reducible apply qzV; simp (disch:=omega) only [coreA,Int.reduceBEq,bzNb,hc,hlen] <;> with_reducible rfl) | (with_reducible first | apply qzT | apply qzF | apply qzG | apply qzH) | ((with_reducible first | apply qzB | apply qzC | apply qzD); simp (disch:=omega) only [coreA,Int.reduceBEq,bzNb,hc,hlen] <;> with_reducible rfl))
    exact ⟨_,rfl,rfl⟩
   ·rw [if_neg e2]
    repeat (first | (with_reducible apply qzV; simp (disch:=omega) only [coreA,Int.reduceBEq,bzNb,hc,hlen] <;> with_reducible rfl) | (with_reducible first | apply qzT | apply qzF | apply qzG | apply qzH) | ((with_reducible first | apply qzB | apply qzC | apply qzD); simp (disch:=omega) only [coreA,Int.reduceBEq,bzNb,hc,hlen] <;> with_reducible rfl))
    exact ⟨_,rfl,rfl⟩
 obtain ⟨r,h1,h2⟩:=T
 rw [F48_call,h1,h2]
theorem f50_loop {β : Type} {k : Nat} {Q : β→Prop} {h0 : AH} {v ov : Value} {l : List Bool} (S : Bools h0 v l) (hl : l.length ≤ 2 ^ 30) {ke0 : Value→Value→Value→Value→Value→AH→Option β} (n : Nat) :
  ∀ {i j : Nat} {h : AH} {done : List Nat},i + n = l.length→n < j→done.length = l.length→done = (l.take i).map b2n ++ List.replicate n 0→Stt Tryz.prog h0.n h0 h [] [(ov,1,u64rows done)] →
   (∀ h' y y',Stt Tryz.prog h0.n h0 h' [] [(ov,1,u64rows (l.map b2n))]→Tl (ke0 ov v (.int .i64 l.length) y y' h') Q) →
   Tl (F50_lrlrr (eInv env k) k j ov v (.int .i64 l.length) (.int .i64 i) h ke0) Q:=by
 induction n with
 | zero =>
  intro i j h done hi hj hd he T hk
  obtain ⟨j,rfl⟩ : ∃ q,j = q + 1:=⟨j - 1,by omega⟩
  simp only [F50_lrlrr]
  repeat (first | (with_reducible apply qzV; simp (disch:=omega) only [coreA,Int.reduceBEq,bzNb] <;> with_reducible rfl) | (with_reducible first | apply qzT | apply qzF | apply qzG | apply qzH) | ((with_reducible first | apply qzB | apply qzC | apply qzD); simp (disch:=omega) only [coreA,Int.reduceBEq,bzNb] <;> with_reducible rfl))
  rw [List.take_of_length_le (by omega)] at he
  have : done = l.map b2n:=by simpa using he
  subst this
  exact hk _ _ _ T
 | succ n ih =>
  intro i j h done hi hj hd he T hk
  obtain ⟨j,rfl⟩ : ∃ q,j = q + 1:=⟨j - 1,by omega⟩
  obtain ⟨x,hx⟩ : ∃ x,l[i]? = some x:=⟨_,List.getElem?_eq_getElem (by omega)⟩
  obtain ⟨b,o,hp,hc1⟩:=Sl1.at_ (S.grow T.grow) (t:=105) (k:=.i64) hx u105 sz4
  have hc1:=hc1 h (Grow.refl _)
  obtain ⟨bm,em,hm⟩:=T.idx (t:=63) 0 rfl (kd:=.i64) (j:=i) (by rw [u64rows_len]; omega) u63 sz60
  have e : (i : Int) + 1 = ((i + 1 : Nat) : Int):=by omega
  have hti : l.take (i + 1) = l.take i ++ [x]:=by rw [List.take_add_one,hx]; rfl
  have hlt : ((l.take i).map b2n).length = i:=by simp; omega
  simp only [F50_lrlrr]
  unfold F50_lrrllrlrr
  cases x
  ·repeat (first | (with_reducible apply qzV; simp (disch:=omega) only [coreA,Int.reduceBEq,bzNb,hp,hc1,bv] <;> with_reducible rfl) | (with_reducible first | apply qzT | apply qzF | apply qzG | apply qzH) | ((with_reducible first | apply qzB | apply qzC | apply qzD); simp (disch:=omega) only [coreA,Int.reduceBEq,bzNb,hp,hc1,bv] <;> with_reducible rfl))
   rw [e]
   refine ih (done:=done) (by omega) (by omega) hd ?_ T hk
   rw [hti,he,List.map_append,List.replicate_succ]
   simp [b2n]
  ·repeat (first | (with_reducible apply qzV; simp (disch:=omega) only [coreA,Int.reduceBEq,bzNb,hp,hc1,bv,hm] <;> with_reducible rfl) | (with_reducible first | apply qzT | apply qzF | apply qzG | apply qzH) | ((with_reducible first | apply qzB | apply qzC | apply qzD); simp (disch:=omega) only [coreA,Int.reduceBEq,bzNb,hp,hc1,bv,hm] <;> with_reducible rfl))
   refine Tl.setAt T 0 rfl em (by rw [u64rows_len]; omega) rfl sz60 rfl fun h' T'=>?_
   repeat (first | (with_reducible apply qzV; simp (disch:=omega) only [coreA,Int.reduceBEq,bzNb] <;> with_reducible rfl) | (with_reducible first | apply qzT | apply qzF | apply qzG | apply qzH) | ((with_reducible first | apply qzB | apply qzC | apply qzD); simp (disch:=omega) only [coreA,Int.reduceBEq,bzNb] <;> with_reducible rfl))
   rw [e]
   refine ih (done:=done.set i 1) (by omega) (by omega) (by simp [hd]) ?_ (by simpa [u64rows,u64v,List.map_set,Value.cells] using T') hk
   rw [hti,he,List.map_append,List.replicate_succ,List.set_append_right _ _ (by omega),hlt,Nat.sub_self]
   simp [b2n]
theorem f50c {k : Nat} {h : AH} {v : Value} {l : List Bool} (S : Bools h v l) (hl : l.length ≤ 2 ^ 30) (hk : l.length < k) :
  Tl (eInv env (k + 1) (.func 50) #[] #[v] h) fun r=>OwnB Tryz.prog h.n r.2 r.1 1 (u64rows (l.map b2n)) ∧ Grow h r.2:=by
 rw [F50_call]
 unfold F50
 have hlen : ∀ h',pLen Tryz.prog #[105] v h' = some (.int .i64 l.length):=fun h'=>Sl1.len S u105
 repeat (first | (with_reducible apply qzV; simp (disch:=omega) only [coreA,Int.reduceBEq,bzNb,hlen] <;> with_reducible rfl) | (with_reducible first | apply qzT | apply qzF | apply qzG | apply qzH) | ((with_reducible first | apply qzB | apply qzC | apply qzD); simp (disch:=omega) only [coreA,Int.reduceBEq,bzNb,hlen] <;> with_reducible rfl))
 refine Tl.make' (Stt.init h) app63 ze60 (by omega) (by omega) fun ov h1 S1 g1=>?_
 have S1 : Stt Tryz.prog h.n h h1 [] [(ov,1,u64rows (List.replicate l.length 0))]:=by
  have e : u64rows (List.replicate l.length 0) = List.replicate l.length [.int .u64 0]:=by simp [u64rows,u64v]
  rw [e]; exact S1
 repeat (first | (with_reducible apply qzV; simp (disch:=omega) only [coreA,Int.reduceBEq,bzNb,hlen] <;> with_reducible rfl) | (with_reducible first | apply qzT | apply qzF | apply qzG | apply qzH) | ((with_reducible first | apply qzB | apply qzC | apply qzD); simp (disch:=omega) only [coreA,Int.reduceBEq,bzNb,hlen] <;> with_reducible rfl))
 refine f50_loop S hl l.length (i:=0) (by omega) (by omega) (by simp) (by simp) S1 fun h' y y' T=>?_
 exact ⟨_,rfl,T.ret 0 rfl,T.grow⟩
theorem formN_le (l : List Bool) : formN l ≤ 2:=by unfold formN; split <;> (try split) <;> omega
theorem putV_len {l : List Bool} (hl : l.length ≤ 4096) : (putV l).length ≤ 600:=by
 have h1:=pvarN_le10 (n:=l.length) (by omega)
 have h2 : (putN 1 (l.map b2n)).length ≤ 520:=by
  have:=(putN_spec 1 (l.map b2n)).2.1
  rw [List.length_map] at this
  omega
 unfold putV
 split <;> simp <;> omega
theorem b2n_width (l : List Bool) : Pk.widthN (l.map b2n) ≤ 1:=by
 rw [Pk.width_le]
 intro x hx
 obtain ⟨b,_,rfl⟩:=List.mem_map.1 hx
 cases b <;> simp [b2n]
/-- 'Put'. -/
theorem f30c {k : Nat} {h : AH} {v : Value} {l : List Bool} (S : Bools h v l) (hl : l.length ≤ 4096) (hk : l.length < k) :
  Tl (eInv env (k + 500) (.func 30) #[] #[v] h) fun r=>∃ o,r.1 = .tuple #[o,.int .i64 0] ∧ Grow h r.2 ∧ OwnB Tryz.prog h.n r.2 o 1 (u8rows (putV l)):=by
 rw [F30_call]
 unfold F30
 have hlen : ∀ h',pLen Tryz.prog #[32] v h' = some (.int .i64 l.length):=fun h'=>Sl1.len S u32
 repeat (first | (with_reducible apply qzV; simp (disch:=omega) only [coreA,Int.reduceBEq,bzNb,hlen] <;> with_reducible rfl) | (with_reducible first | apply qzT | apply qzF | apply qzG | apply qzH) | ((with_reducible first | apply qzB | apply qzC | apply qzD); simp (disch:=omega) only [coreA,Int.reduceBEq,bzNb,hlen] <;> with_reducible rfl))
 refine Tl.bind (f47c (k:=k + 479) (l:=[]) l.length (by omega) (by simp) ((Stt.init h).nil 1 : Stt Tryz.prog h.n h h [] ((_,1,u8rows []) :: []))) ?_
 rintro ⟨ov,h1⟩ S1
 simp only [List.nil_append] at S1
 have hf:=f48c (k:=k + 497) (S.grow S1.grow) (by omega) (by omega)
 have h10:=pvarN_le10 (n:=l.length) (by omega)
 have hfl:=formN_le l
 repeat (first | (with_reducible apply qzV; simp (disch:=omega) only [coreA,Int.reduceBEq,bzNb,hf] <;> with_reducible rfl) | (with_reducible first | apply qzT | apply qzF | apply qzG | apply qzH) | ((with_reducible first | apply qzB | apply qzC | apply qzD); simp (disch:=omega) only [coreA,Int.reduceBEq,bzNb,hf] <;> with_reducible rfl))
 refine Tl.push S1 0 rfl app33 (bs33 _ _) rfl rfl (by rw [u8rows_len]; omega) fun ov2 h2 S2=>?_
 have hf2:=f48c (k:=k + 497) (S.grow S2.grow) (by omega) (by omega)
 have e2 : u8rows (pvarN l.length) ++ [[.int .u8 (formN l : Int)]] = u8rows (pvarN l.length ++ [formN l]):=by simp [u8rows,u8v]
 have S2 : Stt Tryz.prog h.n h h2 [] [(ov2,1,u8rows (pvarN l.length ++ [formN l]))]:=by rw [← e2]; exact S2
 by_cases q : formN l = 2
 ·repeat (first | (with_reducible apply qzV; simp (disch:=omega) only [coreA,Int.reduceBEq,bzNb,hf2] <;> with_reducible rfl) | (with_reducible first | apply qzT | apply qzF | apply qzG | apply qzH) | ((with_reducible first | apply qzB | apply qzC | apply qzD); simp (disch:=omega) only [coreA,Int.reduceBEq,bzNb,hf2] <;> with_reducible rfl))
  refine Tl.callO S2 (f50c (k:=k + 498) (S.grow S2.grow) (by omega) (by omega)) fun wv h3 S3 g3=>?_
  refine Tl.bind (f49c (k:=k + 198) (S3.sl1 0 rfl) (by simp; omega) (by simp; omega) (fun x hx=>?_) 1) ?_
  ·obtain ⟨b,_,rfl⟩:=List.mem_map.1 hx
   cases b <;> simp [b2n]
  rintro ⟨r,h4⟩ ⟨pv,er,g4,X⟩
  simp only at er g4 X
  subst er
  have pe : Pk.putE (l.map b2n) 1 = 0:=Pk.putE_of (W:=1) (by simp; omega) (by omega) (b2n_width l)
  have pl : Pk.putL (l.map b2n) 1 = putN 1 (l.map b2n):=by unfold Pk.putL; rw [if_pos pe]; rfl
  rw [pl] at X
  have S4:=S3.gain g4 X
  repeat (first | (with_reducible apply qzV; simp (disch:=omega) only [coreA,Int.reduceBEq,bzNb,pe] <;> with_reducible rfl) | (with_reducible first | apply qzT | apply qzF | apply qzG | apply qzH) | ((with_reducible first | apply qzB | apply qzC | apply qzD); simp (disch:=omega) only [coreA,Int.reduceBEq,bzNb,pe] <;> with_reducible rfl))
  have hpl : (putN 1 (l.map b2n)).length ≤ 520:=by
   have:=(putN_spec 1 (l.map b2n)).2.1
   rw [List.length_map] at this
   omega
  refine Tl.append' S4 2 rfl app33 (S4.slV 0 rfl) (one_u8rows _) (by rw [u8rows_len,u8rows_len]; simp; omega) fun ov3 h5 S5=>?_
  repeat (first | (with_reducible apply qzV; simp (disch:=omega) only [coreA,Int.reduceBEq,bzNb] <;> with_reducible rfl) | (with_reducible first | apply qzT | apply qzF | apply qzG | apply qzH) | ((with_reducible first | apply qzB | apply qzC | apply qzD); simp (disch:=omega) only [coreA,Int.reduceBEq,bzNb] <;> with_reducible rfl))
  refine ⟨_,rfl,ov3,rfl,S5.grow,?_⟩
  have:=S5.ret 2 rfl
  have e3 : u8rows (pvarN l.length ++ [formN l]) ++ u8rows (putN 1 (l.map b2n)) = u8rows (putV l):=by
   unfold putV
   rw [if_pos q]
   simp [u8rows]
  rw [e3] at this
  exact this
 ·repeat (first | (with_reducible apply qzV; simp (disch:=omega) only [coreA,Int.reduceBEq,bzNb,hf2] <;> with_reducible rfl) | (with_reducible first | apply qzT | apply qzF | apply qzG | apply qzH) | ((with_reducible first | apply qzB | apply qzC | apply qzD); simp (disch:=omega) only [coreA,Int.reduceBEq,bzNb,hf2] <;> with_reducible rfl))
  refine ⟨_,rfl,ov2,rfl,S2.grow,?_⟩
  have:=S2.ret 0 rfl
  have e3 : pvarN l.length ++ [formN l] = putV l:=by
   unfold putV
   rw [if_neg q]
  rw [e3] at this
  exact this
end Go.Proofs.YtghelamfaaakcaaGreat.Sh
/- What 'segment.Put' comes to. -/
set_option linter.unusedVariables false
set_option linter.unusedSimpArgs false
set_option maxRecDepth 100000
namespace Go.Proofs.YtghelamfaaakcaaGreat.Sh
open Go Go.RowKit Go.Proofs.Ev Go.Lib
theorem bzS5 : type_of% (And.intro @ld3 (And.intro @ld2 (And.intro @ld9 (And.intro @ld4 (And.intro @ld31 (And.intro @fa31_0 (And.intro @fa31_1 (And.intro @fa31_2 (And.intro (fun a h=>conv_int (a:=a) (h:=h) u3 u5) (And.intro @aggC (And.intro @ex2_0 (And.intro @ex2_1 (@Nat.add_zero))))))))))))):=And.intro @ld3 (And.intro @ld2 (And.intro @ld9 (And.intro @ld4 (And.intro @ld31 (And.intro @fa31_0 (And.intro @fa31_1 (And.intro @fa31_2 (And.intro (fun a h=>conv_int (a:=a) (h:=h) u3 u5) (And.intro @aggC (And.intro @ex2_0 (And.intro @ex2_1 (@Nat.add_zero))))))))))))
theorem appCs : AppT Tryz.prog #[22,22] 31 3 32:=⟨by kernel_rfl,⟨31,by kernel_rfl⟩,by kernel_rfl,by omega,by kernel_rfl,⟨_,ze31,rfl,rfl⟩⟩
theorem bsCs (c : CellD) (h : AH) : pBuildSlice Tryz.prog 22 1 #[(0,c.v)] h = some (.slice (some ⟨h.n,0,none⟩) 1 1,h.alloc (.cells (crow c) 31 true)):=by kernel_rfl
def flg (l : List CellD) : List Bool:=l.map fun c=>decide (c.k = 0)
def crows (l : List CellD) : List (List Value):=l.map crow
theorem crows_len (l : List CellD) : (crows l).length = l.length:=List.length_map ..
def flx (l : List CellD) (i : Nat) : List Bool:=flg (l.take i) ++ List.replicate (l.length - i) false
theorem flx_len {l : List CellD} {i : Nat} (h : i ≤ l.length) : (flx l i).length = l.length:=by simp [flx,flg]; omega
theorem flx_set {l : List CellD} {i : Nat} {c : CellD} (hc : l[i]? = some c) : (flx l i).set i (decide (c.k = 0)) = flx l (i + 1):=by
 have hlt:=(List.getElem?_eq_some_iff.1 hc).1
 have hti : l.take (i + 1) = l.take i ++ [c]:=by rw [List.take_add_one,hc]; rfl
 have hr : l.length - i = (l.length - (i + 1)) + 1:=by omega
 have hl : (flg (l.take i)).length = i:=by simp [flg]; omega
 unfold flx
 rw [hti,hr,List.replicate_succ,List.set_append_right _ _ (by omega),hl,Nat.sub_self]
 simp [flg]
theorem vals_step {l : List CellD} {i : Nat} {c : CellD} (hc : l[i]? = some c) : vals (l.take (i + 1)) = if c.k = 0 then vals (l.take i) else vals (l.take i) ++ [c]:=by
 have hti : l.take (i + 1) = l.take i ++ [c]:=by rw [List.take_add_one,hc]; rfl
 rw [hti]
 unfold vals
 rw [List.filter_append]
 by_cases h : c.k = 0 <;> simp [h]
theorem f13_loop {β : Type} {k : Nat} {Q : β→Prop} {h0 : AH} {v kv : Value} {l : List CellD} (A : Cells h0 v l) (hl : l.length ≤ 4096) {ke0 : Value→Value→Value→Value→Value→Value→Value→AH→Option β} (n : Nat) :
  ∀ {i j : Nat} {h : AH} {nv sv : Value},i + n = l.length→n < j→Stt Tryz.prog h0.n h0 h [] [(nv,1,brows (flx l i)),(sv,3,crows (vals (l.take i)))] →
   (∀ h' nv' sv' y1 y2,Stt Tryz.prog h0.n h0 h' [] [(nv',1,brows (flg l)),(sv',3,crows (vals l))]→Tl (ke0 kv nv' sv' v (.int .i64 l.length) y1 y2 h') Q) →
   Tl (F13_lrlrrrr (eInv env k) k j kv nv sv v (.int .i64 l.length) (.int .i64 i) h ke0) Q:=by
 induction n with
 | zero =>
  intro i j h nv sv hi hj T hk
  obtain ⟨j,rfl⟩ : ∃ q,j = q + 1:=⟨j - 1,by omega⟩
  simp only [F13_lrlrrrr]
  repeat (first | (with_reducible apply qzV; simp (disch:=omega) only [coreA,Int.reduceBEq,bzS5] <;> with_reducible rfl) | (with_reducible first | apply qzT | apply qzF | apply qzG | apply qzH) | ((with_reducible first | apply qzB | apply qzC | apply qzD); simp (disch:=omega) only [coreA,Int.reduceBEq,bzS5] <;> with_reducible rfl))
  have e1 : flx l i = flg l:=by unfold flx; rw [List.take_of_length_le (by omega),show l.length - i = 0 by omega]; simp
  rw [e1,List.take_of_length_le (by omega)] at T
  exact hk _ _ _ _ _ T
 | succ n ih =>
  intro i j h nv sv hi hj T hk
  obtain ⟨j,rfl⟩ : ∃ q,j = q + 1:=⟨j - 1,by omega⟩
  obtain ⟨c,hc⟩ : ∃ c,l[i]? = some c:=⟨_,List.getElem?_eq_getElem (by omega)⟩
  obtain ⟨b,o,hx,hr⟩:=(A.grow T.grow).at_ hc
  have e : (i : Int) + 1 = ((i + 1 : Nat) : Int):=by omega
  have hfl:=flx_len (l:=l) (i:=i) (by omega)
  obtain ⟨bm,em,hm⟩:=T.idx (t:=32) 0 rfl (kd:=.i64) (j:=i) (by rw [brows_len]; omega) u32 sz4
  have hvs:=vals_step hc
  have hvl : (vals (l.take i)).length ≤ 4096:=by have:=vals_le (l.take i); rw [List.length_take] at this; omega
  simp only [F13_lrlrrrr]
  unfold F13_lrrllrlrrrr
  repeat (first | (with_reducible apply qzV; simp (disch:=omega) only [coreA,Int.reduceBEq,bzS5,hx,hr] <;> with_reducible rfl) | (with_reducible first | apply qzT | apply qzF | apply qzG | apply qzH) | ((with_reducible first | apply qzB | apply qzC | apply qzD); simp (disch:=omega) only [coreA,Int.reduceBEq,bzS5,hx,hr] <;> with_reducible rfl))
  refine Tl.alloc' T ze31 rfl fun b4 h1 T1 _=>?_
  refine Tl.store' T1 0 rfl sz31 rfl rfl (of_decide_eq_true rfl) fun h2 T2 _=>?_
  have T2 : Stt Tryz.prog h0.n h0 h2 [Cr b4 c] [(nv,1,brows (flx l i)),(sv,3,crows (vals (l.take i)))]:=T2
  obtain ⟨_,k4,_⟩:=c_at T2 0 rfl
  have dc : (c.k == 0) = decide (c.k = 0):=by by_cases q : c.k = 0 <;> simp [q]
  repeat (first | (with_reducible apply qzV; simp (disch:=omega) only [coreA,Int.reduceBEq,bzS5,k4,hm,dc] <;> with_reducible rfl) | (with_reducible first | apply qzT | apply qzF | apply qzG | apply qzH) | ((with_reducible first | apply qzB | apply qzC | apply qzD); simp (disch:=omega) only [coreA,Int.reduceBEq,bzS5,k4,hm,dc] <;> with_reducible rfl))
  refine Tl.setAt T2 0 rfl em (by rw [brows_len]; omega) rfl sz4 rfl fun h3 T3=>?_
  have e3 : (brows (flx l i)).set i (Value.bool (decide (c.k = 0))).cells.toList = brows (flx l (i + 1)):=by rw [← flx_set hc]; simp [brows,bv,List.map_set,Value.cells]
  have T3 : Stt Tryz.prog h0.n h0 h3 [Cr b4 c] [(nv,1,brows (flx l (i + 1))),(sv,3,crows (vals (l.take i)))]:=by rw [← e3]; exact T3
  have gi : (flx l (i + 1))[i]? = some (decide (c.k = 0)):=by rw [← flx_set hc,List.getElem?_set_self (by omega)]
  obtain ⟨b5,o5,hp5,hc5⟩:=Sl1.at_ (T3.sl1 (f:=bv) 0 rfl) (t:=32) (k:=.i64) gi u32 sz4
  have hc5:=hc5 h3 (Grow.refl _)
  obtain ⟨r4,_⟩:=c_at T3 0 rfl
  by_cases q : c.k = 0
  ·rw [if_pos q] at hvs
   have qd:=decide_eq_true q
   rw [qd] at hc5
   unfold bv at hc5
   repeat (first | (with_reducible apply qzV; simp (disch:=omega) only [coreA,Int.reduceBEq,bzS5,hp5,hc5] <;> with_reducible rfl) | (with_reducible first | apply qzT | apply qzF | apply qzG | apply qzH) | ((with_reducible first | apply qzB | apply qzC | apply qzD); simp (disch:=omega) only [coreA,Int.reduceBEq,bzS5,hp5,hc5] <;> with_reducible rfl))
   rw [e]
   refine ih (by omega) (by omega) ?_ hk
   rw [hvs]
   exact T3.drop
  ·rw [if_neg q] at hvs
   have qd:=decide_eq_false q
   rw [qd] at hc5
   unfold bv at hc5
   repeat (first | (with_reducible apply qzV; simp (disch:=omega) only [coreA,Int.reduceBEq,bzS5,hp5,hc5,r4] <;> with_reducible rfl) | (with_reducible first | apply qzT | apply qzF | apply qzG | apply qzH) | ((with_reducible first | apply qzB | apply qzC | apply qzD); simp (disch:=omega) only [coreA,Int.reduceBEq,bzS5,hp5,hc5,r4] <;> with_reducible rfl))
   refine Tl.push T3 1 rfl appCs (bsCs _ _) rfl rfl (by rw [crows_len]; omega) fun sv' h5 T5=>?_
   repeat (first | (with_reducible apply qzV; simp (disch:=omega) only [coreA,Int.reduceBEq,bzS5] <;> with_reducible rfl) | (with_reducible first | apply qzT | apply qzF | apply qzG | apply qzH) | ((with_reducible first | apply qzB | apply qzC | apply qzD); simp (disch:=omega) only [coreA,Int.reduceBEq,bzS5] <;> with_reducible rfl))
   rw [e]
   refine ih (by omega) (by omega) ?_ hk
   rw [hvs]
   have e5 : crows (vals (l.take i)) ++ [crow c] = crows (vals (l.take i) ++ [c]):=by simp [crows]
   rw [← e5]
   exact T5.drop
end Go.Proofs.YtghelamfaaakcaaGreat.Sh
/- What 'segment.Put' comes to: the whole. -/
set_option linter.unusedVariables false
set_option linter.unusedSimpArgs false
set_option maxRecDepth 100000
namespace Go.Proofs.YtghelamfaaakcaaGreat.Sh
open Go Go.RowKit Go.Proofs.Ev Go.Lib
theorem bzS6 : type_of% (And.intro @ld3 (And.intro @ld2 (And.intro @ld9 (And.intro @ld4 (And.intro @ld31 (And.intro @fa31_0 (And.intro @fa31_1 (And.intro @fa31_2 (And.intro (fun a h=>conv_int (a:=a) (h:=h) u3 u5) (And.intro @aggC (And.intro @ex2_0 (And.intro @ex2_1 (@Nat.add_zero))))))))))))):=And.intro @ld3 (And.intro @ld2 (And.intro @ld9 (And.intro @ld4 (And.intro @ld31 (And.intro @fa31_0 (And.intro @fa31_1 (And.intro @fa31_2 (And.intro (fun a h=>conv_int (a:=a) (h:=h) u3 u5) (And.intro @aggC (And.intro @ex2_0 (And.intro @ex2_1 (@Nat.add_zero))))))))))))
/-! ### What is put -/
def oneB (kind : Int) (c : CellD) : List Nat:=if kind = 1 then oneN c else if kind = 2 then oneT c else oneW c
def cellsE (kind : Int) (l : List CellD) : Int:=if kind = 1 then 0 else if kind = 2 then Pk.putE (valsT l) 1 else checkT (valsW l)
def cellsB (kind : Int) (l : List CellD) : List Nat:=if kind = 1 then putI (valsN l) else if kind = 2 then Pk.putL (valsT l) 1 else putT (valsW l)
def tailB (kind : Int) (l : List CellD) : List Nat:=if l = [] then [] else (oneB kind (ofZ l).mn ++ oneB kind (ofZ l).mx) ++ cellsB kind l
def segB (kind : Int) (l : List CellD) : List Nat:=[kind.toNat] ++ putV (flg l) ++ tailB kind (vals l)
def goodC (kind : Int) (c : CellD) : Prop:=c.k = kind ∧ cellE c = 0
theorem and1_01 (i : Int) : and1 i = 0 ∨ and1 i = 1:=by
 unfold and1
 have h : (BitVec.ofInt 64 i &&& BitVec.ofInt 64 1).toNat ≤ 1:=by
  rw [BitVec.toNat_and]
  have : (BitVec.ofInt 64 1).toNat = 1:=by decide
  rw [this,Nat.and_one_is_mod]
  omega
 generalize (BitVec.ofInt 64 i &&& BitVec.ofInt 64 1).toNat = n at h
 have : n = 0 ∨ n = 1:=by omega
 rcases this with rfl | rfl
 ·exact .inl (by decide)
 ·exact .inr (by decide)
theorem cellE_size {c : CellD} (h : cellE c = 0) : c.s.size ≤ 65536:=by
 unfold cellE at h
 split at h
 ·cases h
 ·omega
theorem cellE_bare {c : CellD} (h : cellE c = 0) : bare c = c:=by
 unfold cellE at h
 split at h
 ·cases h
 ·split at h
  ·split at h
   ·assumption
   ·cases h
  ·cases h
theorem good_bool {c : CellD} (h : goodC 2 c) : c.i = 0 ∨ c.i = 1:=by
 have hb:=cellE_bare h.2
 unfold bare at hb
 rw [if_neg (by rw [h.1]; decide),if_neg (by rw [h.1]; decide),if_pos h.1] at hb
 have : and1 c.i = c.i:=congrArg CellD.i hb
 have h2:=and1_01 c.i
 rw [this] at h2
 exact h2
theorem chkE_all {kind : Int} : ∀ {l : List CellD},chkE kind l = 0 ↔ ∀ c ∈ l,cellE c = 0 ∧ (c.k = kind ∨ c.k = 0)
 | []=>by simp [chkE]
 | c :: l=>by
  have ih:=chkE_all (kind:=kind) (l:=l)
  unfold chkE
  by_cases h1 : cellE c = 0
  ·rw [if_neg (by simpa using h1)]
   by_cases h2 : c.k ≠ kind ∧ c.k ≠ 0
   ·rw [if_pos h2]
    simp only [List.mem_cons,forall_eq_or_imp]
    constructor
    ·intro q; cases q
    ·rintro ⟨⟨_,q | q⟩,_⟩
     ·exact absurd q h2.1
     ·exact absurd q h2.2
   ·rw [if_neg h2,ih]
    simp only [List.mem_cons,forall_eq_or_imp]
    have : c.k = kind ∨ c.k = 0:=by
     by_cases q : c.k = kind
     ·exact .inl q
     ·exact .inr (Classical.not_not.1 fun q2=>h2 ⟨q,q2⟩)
    exact ⟨fun q=>⟨⟨h1,this⟩,q⟩,fun q=>q.2⟩
  ·rw [if_pos h1]
   simp only [List.mem_cons,forall_eq_or_imp]
   exact ⟨fun q=>absurd q h1,fun q=>absurd q.1.1 h1⟩
theorem segE_zero {kind : Int} {l : List CellD} : segE kind l = 0 ↔ (1 ≤ kind ∧ kind ≤ 3) ∧ l.length ≤ 4096 ∧ ∀ c ∈ l,cellE c = 0 ∧ (c.k = kind ∨ c.k = 0):=by
 unfold segE
 by_cases p : 1 ≤ kind ∧ kind ≤ 3
 ·rw [if_pos p]
  by_cases q : l.length > 4096
  ·rw [if_pos q]
   constructor
   ·intro h; cases h
   ·intro h; omega
  ·rw [if_neg q,chkE_all]
   exact ⟨fun h=>⟨p,by omega,h⟩,fun h=>h.2.2⟩
 ·rw [if_neg p]
  constructor
  ·intro h; cases h
  ·intro h; exact absurd h.1 p
theorem good_vals {kind : Int} {l : List CellD} (h : ∀ c ∈ l,cellE c = 0 ∧ (c.k = kind ∨ c.k = 0)) : ∀ c ∈ vals l,goodC kind c:=fun c hc=>by
 have hm : c ∈ l ∧ c.k ≠ 0:=by simpa [vals] using hc
 obtain ⟨h1,h2⟩:=h c hm.1
 exact ⟨h2.resolve_right hm.2,h1⟩
theorem cellsE_zero {kind : Int} (hk : 1 ≤ kind ∧ kind ≤ 3) {l : List CellD} (hl : l.length ≤ 4096) (h : ∀ c ∈ l,goodC kind c) : cellsE kind l = 0:=by
 unfold cellsE
 by_cases p1 : kind = 1
 ·rw [if_pos p1]
 rw [if_neg p1]
 by_cases p2 : kind = 2
 ·rw [if_pos p2]
  refine Pk.putE_of (W:=1) (by simp [valsT]; omega) (by omega) ((Pk.width_le _ _).2 fun x hx=>?_)
  obtain ⟨c,hc,rfl⟩:=List.mem_map.1 hx
  have:=good_bool (p2 ▸ h c hc)
  unfold toU
  omega
 rw [if_neg p2]
 unfold checkT
 rw [if_pos]
 rw [mayT_spec]
 refine ⟨by simp [valsW]; omega,fun x hx=>?_⟩
 obtain ⟨c,hc,rfl⟩:=List.mem_map.1 hx
 exact cellE_size (h c hc).2
theorem putI_le {l : List Int} (hl : l.length ≤ 4096) : (putI l).length ≤ 11 + 8 * l.length:=by
 have h1 : (plainB l).length ≤ 11 + 8 * l.length:=by
  unfold plainB headB
  have:=pvarN_le10 (n:=l.length) (by omega)
  simp only [List.length_append,List.length_cons,flat8_len]
  omega
 unfold putI
 simp only
 split <;> split <;> omega
theorem cellsB_len {kind : Int} (hk : 1 ≤ kind ∧ kind ≤ 3) {l : List CellD} (hl : l.length ≤ 4096) : (cellsB kind l).length ≤ 2 ^ 31:=by
 unfold cellsB
 split
 ·have e : (valsN l).length = l.length:=List.length_map ..
  have:=putI_le (l:=valsN l) (by omega)
  omega
 ·split
  ·unfold Pk.putL
   split
   ·have:=(putN_spec (1 : Int).toNat (valsT l)).2.1
    have e : (valsT l).length = l.length:=List.length_map ..
    rw [this,e]
    have : (1 : Int).toNat = 1:=rfl
    rw [this]
    omega
   ·simp
  ·unfold putT
   split
   ·rename_i h
    have:=plainT_le h
    split <;> omega
   ·simp
theorem mn_mem {l : List CellD} (hl : l.length ≤ 4096) (hv : ∀ c ∈ l,c.k ≠ 0) (h : l ≠ []) : (ofZ l).mn ∈ l ∧ (ofZ l).mx ∈ l:=by
 have e : vals l = l:=by unfold vals; rw [List.filter_eq_self]; intro c hc; simpa using hv c hc
 rw [ofZ_rep l (by omega),e]
 exact ⟨(mnL_spec h).1,(mxL_spec h).1⟩
/-! ### The walk -/
section
variable {n0 : Nat} {h0 h : AH} {L : List (Nat × AO)} {O : List OS}
theorem segcells_c {k : Nat} {h : AH} {v : Value} {kind : Int} (hk : 1 ≤ kind ∧ kind ≤ 3) {l : List CellD} (A : Cells h v l) (hl : l.length ≤ 4096) (hk2 : 4096 < k) :
  Tl (eInv env (k + 602) (.method "shadowbook/segment.cells") #[] #[codV kind, v] h) fun r => ∃ o, r.1 = .tuple #[o, .int .i64 (cellsE kind l)] ∧ Stt Tryz.prog h.n h r.2 [] [(o, 1, u8rows (cellsB kind l))] := by
 have h : kind = 1 ∨ kind = 2 ∨ kind = 3:=by omega
 rcases h with rfl | rfl | rfl
 ·exact cellsN_c A hl hk2
 ·exact cellsT_c A hl hk2
 ·exact cellsW_c A hl hk2
theorem segzone_c {k : Nat} {v : Value} {l : List Nat} {kind : Int} (hk : 1 ≤ kind ∧ kind ≤ 3) (z : ZoneD) (hc : z.mn.s.size ≤ 2 ^ 20) (hd : z.mx.s.size ≤ 2 ^ 20) (hl : l.length ≤ 2 ^ 26) (S : Stt Tryz.prog n0 h0 h L ((v,1,u8rows l) :: O)) :
  Tl (eInv env (k + 31) (.method "shadowbook/segment.zone") #[] #[codV kind, v, zv z] h) fun r => Stt Tryz.prog n0 h0 r.2 L ((r.1, 1, u8rows (l ++ (oneB kind z.mn ++ oneB kind z.mx))) :: O) := by
 have h : kind = 1 ∨ kind = 2 ∨ kind = 3:=by omega
 rcases h with rfl | rfl | rfl
 ·exact zoneN_c z hl S
 ·exact zoneT_c z hl S
 ·exact zoneW_c z hc hd hl S
/-- One's own slices in another order. -/
theorem permO {P : Program} {n0 : Nat} {h0 h : AH} {L : List (Nat × AO)} {O O' : List OS} (S : Stt P n0 h0 h L O) (hs : O.Perm O') : Stt P n0 h0 h L O':=by
 have hp : O.Pairwise fun x y=>∀ b,blkOf x.1 = some b→¬ blkOf y.1 = some b:=by
  rw [List.pairwise_iff_getElem]
  intro i j hi hj hij b h1 h2
  have:=S.apart i j _ _ b (List.getElem?_eq_getElem hi) (List.getElem?_eq_getElem hj) h1 h2
  omega
 have hp2:=List.pairwise_iff_getElem.1 ((hs.pairwise_iff (fun {x y} h b h1 h2=>h b h2 h1)).1 hp)
 refine ⟨S.sta,fun o ho=>S.own o (hs.mem_iff.2 ho),fun i j x y b hi hj h1 h2=>?_⟩
 obtain ⟨l1,rfl⟩:=List.getElem?_eq_some_iff.1 hi
 obtain ⟨l2,rfl⟩:=List.getElem?_eq_some_iff.1 hj
 rcases Nat.lt_trichotomy i j with q | q | q
 ·exact (hp2 i j l1 l2 q b h1 h2).elim
 ·exact q
 ·exact (hp2 j i l2 l1 q b h2 h1).elim
def mkZ (kind : Int) : Value := .func (.method "shadowbook/segment.zone") #[codV kind] #[]
theorem mkz1 : pMakeFunc (.method "shadowbook/segment.zone") #[codV 1] #[] = some (mkZ 1) := by kernel_rfl
theorem mkz2 : pMakeFunc (.method "shadowbook/segment.zone") #[codV 2] #[] = some (mkZ 2) := by kernel_rfl
theorem mkz3 : pMakeFunc (.method "shadowbook/segment.zone") #[codV 3] #[] = some (mkZ 3) := by kernel_rfl
theorem ncz1 : pNilCheck Tryz.prog (mkZ 1) = some (mkZ 1):=by kernel_rfl
theorem ncz2 : pNilCheck Tryz.prog (mkZ 2) = some (mkZ 2):=by kernel_rfl
theorem ncz3 : pNilCheck Tryz.prog (mkZ 3) = some (mkZ 3):=by kernel_rfl
theorem mkz {kind : Int} (hk : 1 ≤ kind ∧ kind ≤ 3) : pMakeFunc (.method "shadowbook/segment.zone") #[codV kind] #[] = some (mkZ kind) ∧ pNilCheck Tryz.prog (mkZ kind) = some (mkZ kind) := by
 have h : kind = 1 ∨ kind = 2 ∨ kind = 3:=by omega
 rcases h with rfl | rfl | rfl
 ·exact ⟨mkz1,ncz1⟩
 ·exact ⟨mkz2,ncz2⟩
 ·exact ⟨mkz3,ncz3⟩
end
theorem f13c {k : Nat} {h : AH} {v : Value} {l : List CellD} (kind : Int) (A : Cells h v l) (hl : l.length ≤ 9223372036854775807) (hk : 4200 < k) :
  Tl (eInv env (k + 701) (.func 13) #[] #[.int .i64 kind,v] h) fun r=>r.1 = .tuple #[.string (strB (if segE kind l = 0 then segB kind l else [])),.int .i64 (segE kind l)] ∧ Grow h r.2:=by
 rw [F13_call]
 unfold F13
 have hv : ∀ h' : AH,pLen Tryz.prog #[22] v h' = some (.int .i64 l.length):=fun h'=>A.len
 with_reducible refine Tl.call' (Stt.init (P:=Tryz.prog) h) (f11c (k:=k + 697) kind A hl (by omega)) fun h1 S1 _=>?_
 by_cases e0 : ¬ segE kind l = 0
 ·rw [if_neg e0]
  repeat (first | (with_reducible apply qzV; simp (disch:=omega) only [coreA,Int.reduceBEq,bzS6] <;> with_reducible rfl) | (with_reducible first | apply qzT | apply qzF | apply qzG | apply qzH) | ((with_reducible first | apply qzB | apply qzC | apply qzD); simp (disch:=omega) only [coreA,Int.reduceBEq,bzS6] <;> with_reducible rfl))
  exact ⟨_,rfl,rfl,S1.grow⟩
 have e0 : segE kind l = 0:=Classical.not_not.1 e0
 rw [if_pos e0]
 obtain ⟨hkd,hl4,hall⟩:=segE_zero.1 e0
 rw [e0]
 repeat (first | (with_reducible apply qzV; simp (disch:=omega) only [coreA,Int.reduceBEq,bzS6,hv] <;> with_reducible rfl) | (with_reducible first | apply qzT | apply qzF | apply qzG | apply qzH) | ((with_reducible first | apply qzB | apply qzC | apply qzD); simp (disch:=omega) only [coreA,Int.reduceBEq,bzS6,hv] <;> with_reducible rfl))
 refine Tl.make' (S1.nil 3) app32 ze4 (by omega) (by omega) fun nv h2 S2 g2=>?_
 have S2 : Stt Tryz.prog h.n h h2 [] [(nv,1,brows (flx l 0)),(.slice none 0 0,3,crows (vals (l.take 0)))]:=by
  have e : brows (flx l 0) = List.replicate l.length [.bool false]:=by simp [flx,flg,brows,bv]
  rw [e]
  exact S2
 repeat (first | (with_reducible apply qzV; simp (disch:=omega) only [coreA,Int.reduceBEq,bzS6,hv] <;> with_reducible rfl) | (with_reducible first | apply qzT | apply qzF | apply qzG | apply qzH) | ((with_reducible first | apply qzB | apply qzC | apply qzD); simp (disch:=omega) only [coreA,Int.reduceBEq,bzS6,hv] <;> with_reducible rfl))
 refine f13_loop (i:=0) A hl4 l.length (by omega) (by omega) S2 fun h3 nv sv y1 y2 S3=>?_
 have hfl : (flg l).length = l.length:=List.length_map ..
 have hvl:=vals_le l
 refine Tl.bind (f30c (k:=k + 200) (S3.sl1 (f:=bv) 0 rfl) (by omega) (by omega)) ?_
 rintro ⟨r,h4⟩ ⟨ov,er,g4,X⟩
 simp only at er g4 X
 subst er
 have S4:=S3.gain g4 X
 have ek : IntKind.u8.wrap kind = ((kind.toNat : Nat) : Int):=by rw [wrap_u8]; omega
 have hpl:=putV_len (l:=flg l) (by omega)
 repeat (first | (with_reducible apply qzV; simp (disch:=omega) only [coreA,Int.reduceBEq,bzS6,ek,bs33] <;> with_reducible rfl) | (with_reducible first | apply qzT | apply qzF | apply qzG | apply qzH) | ((with_reducible first | apply qzB | apply qzC | apply qzD); simp (disch:=omega) only [coreA,Int.reduceBEq,bzS6,ek,bs33] <;> with_reducible rfl))
 have S5:=Stt.absorb (n:=1) (rows:=[[.int .u8 ((kind.toNat : Nat) : Int)]]) (S4.alloc (.cells [.int .u8 ((kind.toNat : Nat) : Int)] 5 true)) (by simp) sz5
 refine Tl.append' S5 0 rfl app33 (S5.slV 1 rfl) (one_u8rows _) (by rw [u8rows_len]; simp; omega) fun xv h6 S6=>?_
 have S6 : Stt Tryz.prog h.n h h6 [] [(xv,1,u8rows ([kind.toNat] ++ putV (flg l))),(ov,1,u8rows (putV (flg l))),(nv,1,brows (flg l)),(sv,3,crows (vals l))]:=by
  have e : [[Value.int .u8 ((kind.toNat : Nat) : Int)]] ++ u8rows (putV (flg l)) = u8rows ([kind.toNat] ++ putV (flg l)):=by simp [u8rows,u8v]
  rw [← e]; exact S6
 have A6 : Cells h6 sv (vals l):=(S6.slV 3 rfl).z
 have hv6 : ∀ h' : AH,pLen Tryz.prog #[22] sv h' = some (.int .i64 (vals l).length):=fun h'=>A6.len
 by_cases q : vals l = []
 ·have eb : segB kind l = [kind.toNat] ++ putV (flg l):=by unfold segB tailB; rw [if_pos q]; simp
  have cb:=convB (S6.sl1 (f:=u8v) (l:=[kind.toNat] ++ putV (flg l)) 0 rfl)
  rw [q] at hv6
  repeat (first | (with_reducible apply qzV; simp (disch:=omega) only [coreA,Int.reduceBEq,bzS6,hv6,cb,List.length_nil] <;> with_reducible rfl) | (with_reducible first | apply qzT | apply qzF | apply qzG | apply qzH) | ((with_reducible first | apply qzB | apply qzC | apply qzD); simp (disch:=omega) only [coreA,Int.reduceBEq,bzS6,hv6,cb,List.length_nil] <;> with_reducible rfl))
  exact ⟨_,rfl,by rw [eb],S6.grow⟩
 have qn : (vals l).length ≠ 0:=fun z=>q (List.length_eq_zero_iff.1 z)
 repeat (first | (with_reducible apply qzV; simp (disch:=omega) only [coreA,Int.reduceBEq,bzS6,hv6] <;> with_reducible rfl) | (with_reducible first | apply qzT | apply qzF | apply qzG | apply qzH) | ((with_reducible first | apply qzB | apply qzC | apply qzD); simp (disch:=omega) only [coreA,Int.reduceBEq,bzS6,hv6] <;> with_reducible rfl))
 with_reducible refine Tl.call' S6 (f28c (k:=k + 698) kind h6) fun h7 S7 g7=>?_
 have hgood:=good_vals hall
 refine Tl.bind (segcells_c (k:=k + 98) hkd (A6.grow g7) (by omega) (by omega)) ?_
 rintro ⟨r,h8⟩ ⟨cv,er,X8⟩
 simp only at er X8
 subst er
 have S8:=S7.join X8
 have g8:=X8.grow
 have ec : cellsE kind (vals l) = 0:=cellsE_zero hkd (by omega) hgood
 rw [ec]
 repeat (first | (with_reducible apply qzV; simp (disch:=omega) only [coreA,Int.reduceBEq,bzS6] <;> with_reducible rfl) | (with_reducible first | apply qzT | apply qzF | apply qzG | apply qzH) | ((with_reducible first | apply qzB | apply qzC | apply qzD); simp (disch:=omega) only [coreA,Int.reduceBEq,bzS6] <;> with_reducible rfl))
 with_reducible refine Tl.call' S8 (f31c (k:=k + 687) (Cells.grow (A6.grow g7) g8) (by omega) (by omega)) fun h9 S9 g9=>?_
 obtain ⟨mf,nc⟩:=mkz hkd
 repeat (first | (with_reducible apply qzV; simp (disch:=omega) only [coreA,Int.reduceBEq,bzS6,mf,nc] <;> with_reducible rfl) | (with_reducible first | apply qzT | apply qzF | apply qzG | apply qzH) | ((with_reducible first | apply qzB | apply qzC | apply qzD); simp (disch:=omega) only [coreA,Int.reduceBEq,bzS6,mf,nc] <;> with_reducible rfl))
 have hk0 : ∀ c ∈ vals l,c.k ≠ 0:=fun c hc=>by
  have : c ∈ l ∧ c.k ≠ 0:=by simpa [vals] using hc
  exact this.2
 obtain ⟨m1,m2⟩:=mn_mem (l:=vals l) (by omega) hk0 q
 have s1:=cellE_size (hgood _ m1).2
 have s2:=cellE_size (hgood _ m2).2
 refine Tl.bind (segzone_c (k:=k + 669) hkd (ofZ (vals l)) (by omega) (by omega) (by simp; omega) (permO S9 (.swap ..))) ?_
 rintro ⟨zvv,h10⟩ S10
 have hcl:=cellsB_len hkd (l:=vals l) (by omega)
 have hone : ∀ c : CellD,c.s.size ≤ 65536→(oneB kind c).length ≤ 2 ^ 21:=fun c hc=>by
  unfold oneB
  split
  ·exact lenN c
  ·split
   ·exact lenT c
   ·exact lenW c (by omega)
 have o1:=hone _ s1
 have o2:=hone _ s2
 refine Tl.append' S10 0 rfl app33 (S10.slV 1 rfl) (one_u8rows _) (by rw [u8rows_len,u8rows_len]; simp only [List.length_append,List.length_cons,List.length_nil]; omega) fun wv h11 S11=>?_
 have eb : u8rows ([kind.toNat] ++ putV (flg l) ++ (oneB kind (ofZ (vals l)).mn ++ oneB kind (ofZ (vals l)).mx)) ++ u8rows (cellsB kind (vals l)) = u8rows (segB kind l):=by
  unfold segB tailB
  rw [if_neg q]
  simp [u8rows]
 rw [eb] at S11
 have cb:=convB (S11.sl1 (f:=u8v) (l:=segB kind l) 0 rfl)
 repeat (first | (with_reducible apply qzV; simp (disch:=omega) only [coreA,Int.reduceBEq,bzS6,cb] <;> with_reducible rfl) | (with_reducible first | apply qzT | apply qzF | apply qzG | apply qzH) | ((with_reducible first | apply qzB | apply qzC | apply qzD); simp (disch:=omega) only [coreA,Int.reduceBEq,bzS6,cb] <;> with_reducible rfl))
 exact ⟨_,rfl,rfl,S11.grow⟩
end Go.Proofs.YtghelamfaaakcaaGreat.Sh
/- The document's answer for packs: bits, Width, Size, Put, Get. -/
set_option linter.unusedVariables false
set_option linter.unusedSimpArgs false
set_option maxRecDepth 100000
namespace Go.Proofs.YtghelamfaaakcaaGreat.Sh.Pk
open Go Go.RowKit Go.Proofs.Ev Go.Proofs.YtghelamfaaakcaaGreat.Sh
/-- The state within 'Put': the bytes so far. -/
structure RP (h0 h : AH) (out : Value) (b S : Nat) (bs : List Nat) : Prop where
 sta : Sta h0.n h0 h []
 row : SlX Tryz.prog h out 1 b ((ints bs).map brow)
 hb : h0.n ≤ b
 len : bs.length = S
 small : ∀ x ∈ bs,x < 256
/-- A bit of the bytes, as the code reads it. -/
structure BitAt (h : AH) (v : Value) (bs : List Nat) (p : Nat) : Prop where
 wq : IntKind.i64.wrap (((p : Nat) : Int).tdiv 8) = ((p / 8 : Nat) : Int)
 wr : ((p : Nat) : Int).tmod 8 = ((p % 8 : Nat) : Int)
 wc : IntKind.u64.wrap ((p % 8 : Nat) : Int) = ((p % 8 : Nat) : Int)
 at_ : ∃ (b o x : Nat),pIndexAddr Tryz.prog 33 v (.int .i64 ((p / 8 : Nat) : Int)) = some (.pointer (some ⟨b,o,none⟩)) ∧ h.cell b o = some (.int .u8 (x : Int)) ∧ (∀ (y z : Operand),pBin Tryz.prog .shr 5 y z (.int .u8 (x : Int)) (.int .u64 ((p % 8 : Nat) : Int)) = some (.int .u8 ((x / 2 ^ (p % 8) : Nat) : Int))) ∧
  ((x / 2 ^ (p % 8) : Nat) : Int).tmod 2 = ((byN bs / 2 ^ p % 2 : Nat) : Int)
end Go.Proofs.YtghelamfaaakcaaGreat.Sh.Pk
/- The document's answer for the octet's package. -/
set_option linter.unusedVariables false
set_option linter.unusedSimpArgs false
set_option maxRecDepth 100000
namespace Go.Proofs.YtghelamfaaakcaaGreat.Sh
open Go Go.RowKit Go.Proofs.Ev
/-! ### Put, of any length and of eight bytes -/
section
variable {n0 : Nat} {h0 h : AH} {L : List (Nat × AO)} {O : List OS} {i br : Nat} {rv : Value} {rest : List Nat}
end
end Go.Proofs.YtghelamfaaakcaaGreat.Sh
/- The document's answer for flags: 'Count', 'Put'. -/
set_option linter.unusedVariables false
set_option linter.unusedSimpArgs false
set_option maxRecDepth 100000
namespace Go.Proofs.YtghelamfaaakcaaGreat.Sh
open Go Go.RowKit Go.Proofs.Ev
end Go.Proofs.YtghelamfaaakcaaGreat.Sh
/- A place that is picked: 'Pick'. -/
set_option linter.unusedVariables false
set_option linter.unusedSimpArgs false
set_option maxRecDepth 100000
namespace Go.Proofs.YtghelamfaaakcaaGreat.Sh
open Go Go.RowKit Go.Proofs.Ev
end Go.Proofs.YtghelamfaaakcaaGreat.Sh
/- 'SegmentNulls': what is put, without the program; texts cut. -/
set_option linter.unusedVariables false
set_option linter.unusedSimpArgs false
set_option maxRecDepth 100000
namespace Go.Proofs.YtghelamfaaakcaaGreat.Sh
open Go Go.RowKit Go.Proofs.Ev Go.Lib
/-! ### Texts cut -/
theorem strB_size (l : List Nat) : (strB l).size = l.length:=by
 show (l.map UInt8.ofNat).toArray.size = l.length
 simp
theorem strB_cut (l : List Nat) (a b : Nat) : (strB l).extract a b = strB ((l.take b).drop a):=by
 apply ByteArray.ext
 unfold strB
 rw [ByteArray.data_extract]
 apply Array.ext'
 simp [List.map_drop,List.map_take,List.drop_take]
theorem cut_lo {l : List Nat} {a : Nat} (ha : a ≤ l.length) (h : AH) : pSlice Tryz.prog 9 (.string (strB l)) (some (.int .i64 (a : Int))) none none h = some (.string (strB (l.drop a))):=by
 unfold pSlice
 have h1 : intOr 0 (some (.int .i64 (a : Int))) = some (a : Int):=rfl
 have h2 : intOr ((strB l).size : Int) none = some ((strB l).size : Int):=rfl
 simp only [u9,h1,h2]
 rw [strB_size,if_pos ⟨by omega,by omega,by omega⟩,strB_cut]
 simp
/-! ### Columns of nulls -/
/-! ### Nulls between cells -/
def more (V : List CellD) : List CellD:=V.flatMap fun c=>[c,c0]
def wd (n : Nat) : List Bool:=(List.replicate n [false,true]).flatten
theorem vals_self {V : List CellD} (h : ∀ c ∈ V,c.k ≠ 0) : vals V = V:=by
 unfold vals
 rw [List.filter_eq_self]
 intro c hc
 simpa using h c hc
theorem vals_ne {l : List CellD} : ∀ c ∈ vals l,c.k ≠ 0:=fun c hc=>by
 have : c ∈ l ∧ c.k ≠ 0:=by simpa [vals] using hc
 exact this.2
end Go.Proofs.YtghelamfaaakcaaGreat.Sh
/- What 'Get' of the nulls' package comes to: what it calls. -/
set_option linter.unusedVariables false
set_option linter.unusedSimpArgs false
set_option maxRecDepth 100000
namespace Go.Proofs.YtghelamfaaakcaaGreat.Sh
open Go Go.RowKit Go.Proofs.Ev
theorem bzNc : type_of% (And.intro @ld3 (And.intro @ld4 (And.intro @ld5 (And.intro @ld32 (And.intro @ld72 (And.intro @ld33 (And.intro @ld60 (And.intro @ld63 (And.intro (fun a h=>conv_int (a:=a) (h:=h) u3 u60) (And.intro (fun a h=>conv_int (a:=a) (h:=h) u60 u3) (And.intro (fun a h=>conv_int (a:=a) (h:=h) u3 u109) (And.intro (fun a h=>conv_int (a:=a) (h:=h) u109 u3) (And.intro (fun ox oy a b=>bin_eql_bool (ox:=ox) (oy:=oy) (a:=a) (b:=b) u4) (And.intro (fun ox oy a b=>bin_neq_bool (ox:=ox) (oy:=oy) (a:=a) (b:=b) u4) (And.intro @ex2_0 (@ex2_1)))))))))))))))):=And.intro @ld3 (And.intro @ld4 (And.intro @ld5 (And.intro @ld32 (And.intro @ld72 (And.intro @ld33 (And.intro @ld60 (And.intro @ld63 (And.intro (fun a h=>conv_int (a:=a) (h:=h) u3 u60) (And.intro (fun a h=>conv_int (a:=a) (h:=h) u60 u3) (And.intro (fun a h=>conv_int (a:=a) (h:=h) u3 u109) (And.intro (fun a h=>conv_int (a:=a) (h:=h) u109 u3) (And.intro (fun ox oy a b=>bin_eql_bool (ox:=ox) (oy:=oy) (a:=a) (b:=b) u4) (And.intro (fun ox oy a b=>bin_neq_bool (ox:=ox) (oy:=oy) (a:=a) (b:=b) u4) (And.intro @ex2_0 (@ex2_1)))))))))))))))
theorem andm (a : Nat) (ha : a < 4294967296) : ∀ t x y,pBin Tryz.prog Go.BinOp.and t x y (.int .u64 (a : Int)) (.int .u64 4294967295) = some (.int .u64 (a : Int)):=fun t x y=>by
 rw [bin_and]
 have e : IntKind.u64.wrap (BitVec.ofInt 64 (a : Int) &&& BitVec.ofInt 64 4294967295).toNat = (a : Int):=by
  rw [BitVec.toNat_and,ofInt_toNat _ (by omega) (by omega),ofInt_toNat _ (by omega) (by omega)]
  have : a &&& 4294967295 = a:=by
   have:=Nat.and_two_pow_sub_one_eq_mod a 32
   have h2 : (2 : Nat) ^ 32 - 1 = 4294967295:=by decide
   have h3 : (2 : Nat) ^ 32 = 4294967296:=by decide
   rw [h2,h3] at this
   omega
  have h4 : (4294967295 : Int).toNat = 4294967295:=rfl
  rw [Int.toNat_natCast,h4,this,wrap_u64]
  omega
 exact congrArg some (congrArg _ e)
theorem shr32 (a : Nat) (ha : a < 4294967296) : ∀ t x y,pBin Tryz.prog Go.BinOp.shr t x y (.int .u64 (a : Int)) (.int .u64 32) = some (.int .u64 0):=fun t x y=>by
 rw [shr_nn (by decide)]
 have e : (a : Int).fdiv (2 ^ (min (32 : Int).toNat IntKind.u64.bits)) = 0:=by
  have h2 : min (32 : Int).toNat IntKind.u64.bits = 32:=by decide
  rw [h2,Int.fdiv_eq_ediv_of_nonneg _ (by decide)]
  have : (2 : Int) ^ 32 = 4294967296:=by decide
  rw [this]; omega
 rw [e]
theorem f162c {k : Nat} (n : Nat) (hn : n ≤ 100000) (h : AH) : eInv env (k + 1) (.func 162) #[] #[.int .u64 1,.int .u64 (n : Int)] h = some (.tuple #[.int .u64 0,.int .u64 (n : Int)],h):=by
 have T : Tl (F162 (eInv env k) k (.int .u64 1) (.int .u64 (n : Int)) h) fun r=>r = (.tuple #[.int .u64 0,.int .u64 (n : Int)],h):=by
  unfold F162
  have a1:=andm 1 (by omega)
  have s1:=shr32 1 (by omega)
  have a0:=andm 0 (by omega)
  have s0:=shr32 0 (by omega)
  have an:=andm n (by omega)
  have sn:=shr32 n (by omega)
  have e1 : ((1 : Nat) : Int) = 1:=rfl
  have e0 : ((0 : Nat) : Int) = 0:=rfl
  rw [e1] at a1 s1
  rw [e0] at a0 s0
  repeat (first | (with_reducible apply qzV; simp (disch:=omega) only [coreA,Int.reduceBEq,bzNc,a1,s1,an,sn,a0,s0,Int.one_mul,Int.zero_mul,Int.mul_zero,Int.zero_add,Int.add_zero] <;> with_reducible rfl) | (with_reducible first | apply qzT | apply qzF | apply qzG | apply qzH) | ((with_reducible first | apply qzB | apply qzC | apply qzD); simp (disch:=omega) only [coreA,Int.reduceBEq,bzNc,a1,s1,an,sn,a0,s0,Int.one_mul,Int.zero_mul,Int.mul_zero,Int.zero_add,Int.add_zero] <;> with_reducible rfl))
  exact ⟨_,rfl,rfl⟩
 obtain ⟨r,h1,h2⟩:=T
 rw [F162_call,h1,h2]
theorem f138c {k : Nat} (n : Nat) (hn : n ≤ 100000) (h : AH) : eInv env (k + 2) (.func 138) #[] #[.int .u64 1,.int .u64 (n : Int)] h = some (.tuple #[.int .u64 0,.int .u64 (n : Int)],h):=by
 have T : Tl (F138 (eInv env (k + 1)) (k + 1) (.int .u64 1) (.int .u64 (n : Int)) h) fun r=>r = (.tuple #[.int .u64 0,.int .u64 (n : Int)],h):=by
  unfold F138
  have a1:=f162c (k:=k) n hn h
  repeat (first | (with_reducible apply qzV; simp (disch:=omega) only [coreA,Int.reduceBEq,bzNc,a1] <;> with_reducible rfl) | (with_reducible first | apply qzT | apply qzF | apply qzG | apply qzH) | ((with_reducible first | apply qzB | apply qzC | apply qzD); simp (disch:=omega) only [coreA,Int.reduceBEq,bzNc,a1] <;> with_reducible rfl))
  exact ⟨_,rfl,rfl⟩
 obtain ⟨r,h1,h2⟩:=T
 rw [F138_call,h1,h2]
/-! ### 'slices.Repeat' of one truth -/
def fillC (x : Bool) (p m : Nat) : List Value:=(List.replicate p x ++ List.replicate (m - p) false).map bv
theorem fillC_len (x : Bool) (p m : Nat) (hp : p ≤ m) : (fillC x p m).length = m:=by simp [fillC]; omega
theorem fillC_splice (x : Bool) (p q m : Nat) (h : p + q ≤ m) : splice (fillC x p m) p ((List.replicate q x).map bv) = fillC x (p + q) m:=by
 unfold splice fillC
 rw [List.map_append,List.take_left' (by simp),List.length_map,List.length_replicate,← List.drop_drop,List.drop_left' (by simp),← List.map_drop,List.drop_replicate,← List.map_append,← List.map_append,List.replicate_append_replicate]
 congr 3
 omega
theorem sl22 {h : AH} {b n m lo : Nat} {cs : List Value} (hg : h.get b = some (.cells cs 4 true)) (hlo : lo ≤ n) : pSlice Tryz.prog 32 (.slice (some ⟨b,0,none⟩) n n) (some (.int .i64 lo)) none none h = some (.slice (some ⟨b,lo,none⟩) (n - lo) (n - lo)) ∧
  pSlice Tryz.prog 32 (.slice (some ⟨b,0,none⟩) n n) none (some (.int .i64 lo)) none h = some (.slice (some ⟨b,0,none⟩) lo n):=by
 have hm : ∀ d : Int,intOr d (some (.int .i64 (lo : Int))) = some (lo : Int):=fun d=>rfl
 have hm2 : ∀ d : Int,intOr d none = some d:=fun d=>rfl
 have hz : szOk Tryz.prog (some ⟨b,0,none⟩) 1 h = true:=szOk_of hg sz4
 unfold pSlice
 simp only [el32,Option.bind_some,sz4,hm,hm2]
 rw [if_pos ⟨by omega,by omega,by omega,by omega,by simp,by simp [hz]⟩,if_pos ⟨by omega,by omega,by omega,by omega,by simp,by simp⟩]
 constructor
 ·simp only [Option.map_some,Int.toNat_natCast,Option.some.injEq,Value.slice.injEq,Addr.mk.injEq,true_and,and_true]
  omega
 ·simp
theorem f103_loop {β : Type} {k : Nat} {Q : β→Prop} {n0 : Nat} {h0 : AH} {L : List (Nat × AO)} {O : List OS} {x : Bool} {m b : Nat} (hm : m ≤ 100000) {ke0 : Value→Value→Value→AH→Option β} (n : Nat) :
  ∀ {j p : Nat} {h : AH},p + n = m→n < j→(1 ≤ p ∨ m = 0)→Stt Tryz.prog n0 h0 h ((b,.cells (fillC x p m) 4 true) :: L) O →
   (∀ h' y y',Stt Tryz.prog n0 h0 h' ((b,.cells (fillC x m m) 4 true) :: L) O→Tl (ke0 (.slice (some ⟨b,0,none⟩) m m) y y' h') Q) →
   Tl (F103_llrrrrrr (eInv env k) k j (.slice (some ⟨b,0,none⟩) m m) (.int .i64 p) h ke0) Q:=by
 induction n using Nat.strongRecOn with
 | _ n ih =>
  intro j p h hp hj h1 S hk
  obtain ⟨j,rfl⟩ : ∃ q,j = q + 1:=⟨j - 1,by omega⟩
  have hlen : ∀ h',pLen Tryz.prog #[32] (.slice (some ⟨b,0,none⟩) m m) h' = some (.int .i64 m):=fun h'=>len_slice u32
  simp only [F103_llrrrrrr]
  by_cases hn : n = 0
  ·repeat (first | (with_reducible apply qzV; simp (disch:=omega) only [coreA,Int.reduceBEq,bzNc,hlen] <;> with_reducible rfl) | (with_reducible first | apply qzT | apply qzF | apply qzG | apply qzH) | ((with_reducible first | apply qzB | apply qzC | apply qzD); simp (disch:=omega) only [coreA,Int.reduceBEq,bzNc,hlen] <;> with_reducible rfl))
   have : p = m:=by omega
   subst this
   exact hk _ _ _ S
  ·have hg:=S.sta.mem.at_ (i:=0) rfl
   simp only at hg
   obtain ⟨s1,s2⟩:=sl22 (n:=m) (m:=m) (lo:=p) hg (by omega)
   repeat (first | (with_reducible apply qzV; simp (disch:=omega) only [coreA,Int.reduceBEq,bzNc,hlen,s1,s2] <;> with_reducible rfl) | (with_reducible first | apply qzT | apply qzF | apply qzG | apply qzH) | ((with_reducible first | apply qzB | apply qzC | apply qzD); simp (disch:=omega) only [coreA,Int.reduceBEq,bzNc,hlen,s1,s2] <;> with_reducible rfl))
   have hq : min p (m - p) ≤ m - p:=Nat.min_le_right ..
   have hq2 : min p (m - p) ≤ p:=Nat.min_le_left ..
   have hc : cellsOf Tryz.prog 1 (min p (m - p)) (.slice (some ⟨b,0,none⟩) p m) h = some ((List.replicate (min p (m - p)) x).map bv):=by
    unfold cellsOf
    simp only [Nat.mul_one]
    rw [if_neg (by omega),if_pos hq2]
    unfold AH.row
    rw [hg]
    simp only
    rw [if_pos (by rw [fillC_len _ _ _ (by omega)]; omega),List.drop_zero]
    unfold fillC
    rw [← List.map_take,List.take_append_of_le_length (by simp; omega),List.take_replicate,Nat.min_eq_left hq2]
   refine Tl.copy' S 0 rfl el32 sz4 rfl hc (by simp [bv,oneCell]) (by rw [fillC_len _ _ _ (by omega)]; simp; omega) fun h' S'=>?_
   rw [fillC_splice x p _ m (by omega)] at S'
   have e : (p : Int) + ((min p (m - p) : Nat) : Int) = ((p + min p (m - p) : Nat) : Int):=by omega
   repeat (first | (with_reducible apply qzV; simp (disch:=omega) only [coreA,Int.reduceBEq,bzNc] <;> with_reducible rfl) | (with_reducible first | apply qzT | apply qzF | apply qzG | apply qzH) | ((with_reducible first | apply qzB | apply qzC | apply qzD); simp (disch:=omega) only [coreA,Int.reduceBEq,bzNc] <;> with_reducible rfl))
   rw [e]
   exact ih (n - min p (m - p)) (by omega) (by omega) (by omega) (by omega) S' hk
theorem f103c {k : Nat} {h : AH} {v : Value} {x : Bool} {n : Nat} (S : Bools h v [x]) (hn : n ≤ 100000) (hk : n < k) :
  Tl (eInv env (k + 3) (.func 103) #[] #[v,.int .i64 (n : Int)] h) fun r=>OwnB Tryz.prog h.n r.2 r.1 1 (brows (List.replicate n x)) ∧ Grow h r.2:=by
 rw [F103_call]
 unfold F103
 have hlen : ∀ h',pLen Tryz.prog #[32] v h' = some (.int .i64 1):=fun h'=>Sl1.len S u32
 have ml:=f138c (k:=k) n (by omega) h
 repeat (first | (with_reducible apply qzV; simp (disch:=omega) only [coreA,Int.reduceBEq,bzNc] <;> with_reducible rfl) | (with_reducible first | apply qzT | apply qzF | apply qzG | apply qzH) | ((with_reducible first | apply qzB | apply qzC | apply qzD); simp (disch:=omega) only [coreA,Int.reduceBEq,bzNc] <;> with_reducible rfl))
 unfold F103_rlr
 repeat (first | (with_reducible apply qzV; simp (disch:=omega) only [coreA,Int.reduceBEq,bzNc,hlen,ml] <;> with_reducible rfl) | (with_reducible first | apply qzT | apply qzF | apply qzG | apply qzH) | ((with_reducible first | apply qzB | apply qzC | apply qzD); simp (disch:=omega) only [coreA,Int.reduceBEq,bzNc,hlen,ml] <;> with_reducible rfl))
 unfold F103_rlrrr
 repeat (first | (with_reducible apply qzV; simp (disch:=omega) only [coreA,Int.reduceBEq,bzNc] <;> with_reducible rfl) | (with_reducible first | apply qzT | apply qzF | apply qzG | apply qzH) | ((with_reducible first | apply qzB | apply qzC | apply qzD); simp (disch:=omega) only [coreA,Int.reduceBEq,bzNc] <;> with_reducible rfl))
 refine Tl.makeK (Stt.init h) app32 ze4 (by omega) (by omega) fun b h1 S1 g1=>?_
 have S1 : Stt Tryz.prog h.n h h1 [(b,.cells (fillC x 0 n) 4 true)] []:=by
  have e : (List.replicate n (Value.bool false).cells.toList).flatten = fillC x 0 n:=by
   unfold fillC
   simp only [List.replicate_zero,List.nil_append,Nat.sub_zero,List.map_replicate,bv]
   have : (Value.bool false).cells.toList = [Value.bool false]:=rfl
   rw [this]
   clear hn hk ml S1
   induction n with
   | zero=>rfl
   | succ n ih=>rw [List.replicate_succ,List.flatten_cons,ih,List.replicate_succ]; rfl
  rw [← e]; exact S1
 have B1:=S.grow g1
 have hc : cellsOf Tryz.prog 1 (min 1 n) v h1 = some ((List.replicate (min 1 n) x).map bv):=by
  by_cases hn0 : n = 0
  ·subst hn0
   rcases B1 with ⟨q,q2⟩ | ⟨b',o,c,own,q,_,_⟩
   ·simp at q2
   ·subst q; rfl
  ·have : min 1 n = 1:=by omega
   rw [this]
   exact SlV.cellsOf B1 (by omega)
 have hl1 : lenE v = some 1:=lenE_of B1
 refine Tl.copy' S1 0 rfl el32 sz4 hl1 hc (by simp [bv,oneCell]) (by rw [fillC_len _ _ _ (by omega)]; simp; omega) fun h2 S2=>?_
 rw [fillC_splice x 0 _ n (by omega),Nat.zero_add] at S2
 refine f103_loop (p:=min 1 n) (by omega) (n - min 1 n) (by omega) (by omega) (by omega) S2 fun h3 y y' S3=>?_
 have S3 : Stt Tryz.prog h.n h h3 ((b,.cells (brows (List.replicate n x)).flatten 4 true) :: []) []:=by
  have e : (brows (List.replicate n x)).flatten = fillC x n n:=by
   unfold fillC brows
   rw [Nat.sub_self,List.replicate_zero,List.append_nil]
   generalize List.replicate n x = l
   induction l with
   | nil=>rfl
   | cons a l ih=>rw [List.map_cons,List.flatten_cons,ih]; rfl
  rw [e]; exact S3
 have S4:=S3.absorb (n:=1) (fun r hr=>by obtain ⟨z,_,rfl⟩:=List.mem_map.1 hr; rfl) sz4
 rw [brows_len,List.length_replicate] at S4
 exact ⟨_,rfl,S4.ret 0 rfl,S4.grow⟩
end Go.Proofs.YtghelamfaaakcaaGreat.Sh
/- What 'Get' of the nulls' package comes to. -/
set_option linter.unusedVariables false
set_option linter.unusedSimpArgs false
set_option maxRecDepth 100000
namespace Go.Proofs.YtghelamfaaakcaaGreat.Sh
open Go Go.RowKit Go.Proofs.Ev
end Go.Proofs.YtghelamfaaakcaaGreat.Sh
