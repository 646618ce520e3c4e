/- What is told of rows, as the document tells it ('ref20.Told'): all rows. -/
import Derived.Test.YtgklcfnjahomjaaSzY23
import Derived.Test.YtgklcfnjahomjaaSzY14
set_option linter.unusedVariables false
set_option linter.unusedSimpArgs false
set_option maxRecDepth 100000
namespace Go.Proofs.Ytgklcfnjahomjaa.Sh
open Go Go.RowKit Go.Proofs.Ev
theorem bzY24 : type_of% (And.intro @ld3 (And.intro @ld2 (And.intro @ld9 (And.intro @ld37 (And.intro @ld28 (And.intro @ld42 (And.intro @ld34 (And.intro @ld22 (And.intro @ld24 (And.intro @ld23 (And.intro @ld29 (And.intro @fa37_0 (And.intro @fa37_1 (And.intro @fa37_2 (And.intro @fa28_0 (And.intro @fa28_1 (And.intro @fa42_0 (And.intro @fa42_1 (And.intro @fa42_2 (And.intro @nilC (And.intro @ex2_0 (And.intro @ex2_1 (@Nat.add_zero))))))))))))))))))))))):=And.intro @ld3 (And.intro @ld2 (And.intro @ld9 (And.intro @ld37 (And.intro @ld28 (And.intro @ld42 (And.intro @ld34 (And.intro @ld22 (And.intro @ld24 (And.intro @ld23 (And.intro @ld29 (And.intro @fa37_0 (And.intro @fa37_1 (And.intro @fa37_2 (And.intro @fa28_0 (And.intro @fa28_1 (And.intro @fa42_0 (And.intro @fa42_1 (And.intro @fa42_2 (And.intro @nilC (And.intro @ex2_0 (And.intro @ex2_1 (@Nat.add_zero))))))))))))))))))))))
def rowK (by_ : List Int) (aggs : List AggD) (rows : List (List CellD)) (key : List CellD) : List CellD:=key ++ aggs.map (oneC (rowsAt by_ rows key))
def toldL (by_ : List Int) (aggs : List AggD) (rows : List (List CellD)) : List (List CellD):=(keysL by_ rows).map (rowK by_ aggs rows)
section
variable {β : Type} {Q : β→Prop} {h0 : AH}
theorem f25_21 {k : Nat} {h : AH} {O : List OS} {rv bv av kv a11 a13 : Value} {rows keys : List (List CellD)} {by_ : List Int} {i p : Nat} {key r : List CellD} (S : Stt Try.prog h0.n h0 h [] O) (R : Rows h0 rv rows) (K : Rows h0 kv keys) (B : IntsZ h0 bv by_)
  (hkey : keys[i]? = some key) (hr : rows[p]? = some r) (hb : by_.length ≤ 20) (hkl : key.length ≤ 1000) {C : Value→AH→Option β}
  (hk : ∀ h',Stt Try.prog h0.n h0 h' [] O→Tl (C (.bool (rcmp (pickL r by_) key == 0)) h') Q) :
  Tl (G25_21 (eInv env (k + 1010)) rv bv av kv a11 (.int .i64 i) a13 (.int .i64 p) h C) Q:=by
 obtain ⟨b,o,w,hp,hc0,Cw0⟩:=R.at_ hr
 have hc:=S.grow.cell hc0
 obtain ⟨b2,o2,w2,hp2,hc20,Cw20⟩:=K.at_ hkey
 have hc2:=S.grow.cell hc20
 have hsw:=SlZ.same Cw20
 have hpl : (pickL r by_).length = by_.length:=by unfold pickL; simp
 simp only [G25_21]
 repeat (first | (with_reducible apply qzV; simp (disch:=omega) only [coreA,Int.reduceBEq,bzY24,hp,hc] <;> with_reducible rfl) | (with_reducible first | apply qzT | apply qzF | apply qzG | apply qzH) | ((with_reducible first | apply qzB | apply qzC | apply qzD); simp (disch:=omega) only [coreA,Int.reduceBEq,bzY24,hp,hc] <;> with_reducible rfl))
 refine Tl.bind (f15c (k:=k + 1009) (Cw0.grow S.grow) (B.grow S.grow) (by omega) (by omega)) ?_
 rintro ⟨pv,h1⟩ S1'
 simp only at S1'
 have S1 : Stt Try.prog h0.n h0 h1 [] ((pv,3,(pickL r by_).map crow) :: O):=S.join S1'
 have hc21:=S1.grow.cell hc20
 have Cp : Cells h1 pv (pickL r by_):=(S1.slV 0 rfl).z
 repeat (first | (with_reducible apply qzV; simp (disch:=omega) only [coreA,Int.reduceBEq,bzY24,hp2,hc21] <;> with_reducible rfl) | (with_reducible first | apply qzT | apply qzF | apply qzG | apply qzH) | ((with_reducible first | apply qzB | apply qzC | apply qzD); simp (disch:=omega) only [coreA,Int.reduceBEq,bzY24,hp2,hc21] <;> with_reducible rfl))
 refine Tl.call' S1 (f13c (k:=k + 1007) Cp (Cw20.grow S1.grow) (by omega) (by omega) (by omega)) fun h2 S2 g2=>?_
 repeat (first | (with_reducible apply qzV; simp (disch:=omega) only [coreA,Int.reduceBEq,bzY24] <;> with_reducible rfl) | (with_reducible first | apply qzT | apply qzF | apply qzG | apply qzH) | ((with_reducible first | apply qzB | apply qzC | apply qzD); simp (disch:=omega) only [coreA,Int.reduceBEq,bzY24] <;> with_reducible rfl))
 simp only [ld34,hc2,hc21,sameO_some,hsw,Bool.and_self,Bool.not_true,Bool.false_or,chkK_t]
 exact hk _ S2.dropO
theorem f25_mine {k : Nat} {rv bv av kv a11 : Value} {rows keys : List (List CellD)} {by_ : List Int} {i : Nat} {key : List CellD} {O : List OS} (R : Rows h0 rv rows) (K : Rows h0 kv keys) (B : IntsZ h0 bv by_)
  (hkey : keys[i]? = some key) (hb : by_.length ≤ 20) (hkl : key.length ≤ 1000) (hl : rows.length ≤ 100) {ke6 : Value→Value→Value→Value→Value→Value→Value→Value→Value→AH→Option β} (n : Nat) :
  ∀ {p j : Nat} {h : AH} {mv : Value} {ms : RS},p + n = rows.length→n < j→rowsOf ms = rowsAt by_ (rows.take p) key→(∀ q ∈ ms,Cells h0 q.1 q.2)→Stt Try.prog h0.n h0 h [] ((mv,1,outs ms) :: O) →
   (∀ h' mv ms y1 y2,rowsOf ms = rowsAt by_ rows key→(∀ q ∈ ms,Cells h0 q.1 q.2)→Stt Try.prog h0.n h0 h' [] ((mv,1,outs ms) :: O)→Tl (ke6 rv bv av kv a11 (.int .i64 i) mv y1 y2 h') Q) →
   Tl (F25_lrlrllrllrlrrrrr (eInv env (k + 1010)) (k + 1010) j rv bv av kv a11 (.int .i64 i) mv (.int .i64 p) h ke6) Q:=by
 have hv : ∀ h',pLen Try.prog #[23] rv h' = some (.int .i64 rows.length):=fun h'=>R.len
 induction n with
 | zero =>
  intro p j h mv ms hp hj hms hcs S hk
  obtain ⟨j,rfl⟩ : ∃ q,j = q + 1:=⟨j - 1,by omega⟩
  simp only [F25_lrlrllrllrlrrrrr]
  repeat (first | (with_reducible apply qzV; simp (disch:=omega) only [coreA,Int.reduceBEq,bzY24,hv] <;> with_reducible rfl) | (with_reducible first | apply qzT | apply qzF | apply qzG | apply qzH) | ((with_reducible first | apply qzB | apply qzC | apply qzD); simp (disch:=omega) only [coreA,Int.reduceBEq,bzY24,hv] <;> with_reducible rfl))
  rw [List.take_of_length_le (by omega)] at hms
  exact hk _ _ ms _ _ hms hcs S
 | succ n ih =>
  intro p j h mv ms hp hj hms hcs S hk
  obtain ⟨j,rfl⟩ : ∃ q,j = q + 1:=⟨j - 1,by omega⟩
  have e : (p : Int) + 1 = ((p + 1 : Nat) : Int):=by omega
  obtain ⟨r,er⟩ : ∃ x,rows[p]? = some x:=⟨_,List.getElem?_eq_getElem (by omega)⟩
  have htk : rowsAt by_ (rows.take (p + 1)) key = rowsAt by_ (rows.take p) key ++ if pickL r by_ = key then [r] else []:=by
   rw [List.take_add_one,er]
   exact rowsAt_snoc _ _ _ _
  have hml : ms.length ≤ 100:=by
   have h1:=congrArg List.length hms
   rw [rowsOf_len] at h1
   have h2:=List.length_filter_le (fun r=>decide (pickL r by_ = key)) (rows.take p)
   rw [List.length_take] at h2
   unfold rowsAt at h1
   omega
  simp only [F25_lrlrllrllrlrrrrr]
  repeat (first | (with_reducible apply qzV; simp (disch:=omega) only [coreA,Int.reduceBEq,bzY24,hv] <;> with_reducible rfl) | (with_reducible first | apply qzT | apply qzF | apply qzG | apply qzH) | ((with_reducible first | apply qzB | apply qzC | apply qzD); simp (disch:=omega) only [coreA,Int.reduceBEq,bzY24,hv] <;> with_reducible rfl))
  simp only [F25_lrllrlrllrllrlrrrrr]
  refine f25_21 (k:=k) S R K B hkey er hb hkl fun h1 S1=>?_
  by_cases q : rcmp (pickL r by_) key = 0
  ·have qq : (rcmp (pickL r by_) key == 0) = true:=beq_t q
   rw [if_pos (rcmp_zero.1 q)] at htk
   obtain ⟨b,o,w,hpr,hcr0,Cw0⟩:=R.at_ er
   have hcr:=S1.grow.cell hcr0
   obtain ⟨wa,wc,ew,_⟩:=Cw0.form
   repeat (first | (with_reducible apply qzV; simp (disch:=omega) only [coreA,Int.reduceBEq,bzY24,qq,hpr,hcr] <;> with_reducible rfl) | (with_reducible first | apply qzT | apply qzF | apply qzG | apply qzH) | ((with_reducible first | apply qzB | apply qzC | apply qzD); simp (disch:=omega) only [coreA,Int.reduceBEq,bzY24,qq,hpr,hcr] <;> with_reducible rfl))
   refine Tl.push S1 0 rfl app23 (r:=[w]) (by rw [ew]; exact bs23 _ _ _ _) rfl (by rw [ew]; rfl) (by rw [outs_len]; omega) fun v' h2 S2=>?_
   repeat (first | (with_reducible apply qzV; simp (disch:=omega) only [coreA,Int.reduceBEq,bzY24] <;> with_reducible rfl) | (with_reducible first | apply qzT | apply qzF | apply qzG | apply qzH) | ((with_reducible first | apply qzB | apply qzC | apply qzD); simp (disch:=omega) only [coreA,Int.reduceBEq,bzY24] <;> with_reducible rfl))
   rw [e]
   refine ih (ms:=ms ++ [(w,r)]) (by omega) (by omega) ?_ ?_ ?_ hk
   ·rw [htk,← hms]; unfold rowsOf; simp
   ·intro x hx
    rcases List.mem_append.1 hx with hx | hx
    ·exact hcs x hx
    ·rw [List.mem_singleton] at hx; subst hx; exact Cw0
   ·have eo : outs (ms ++ [(w,r)]) = outs ms ++ [[w]]:=by unfold outs; simp
    rw [eo]; exact S2
  ·have qq : (rcmp (pickL r by_) key == 0) = false:=beq_f q
   rw [if_neg (fun h=>q (rcmp_zero.2 h)),List.append_nil] at htk
   repeat (first | (with_reducible apply qzV; simp (disch:=omega) only [coreA,Int.reduceBEq,bzY24,qq] <;> with_reducible rfl) | (with_reducible first | apply qzT | apply qzF | apply qzG | apply qzH) | ((with_reducible first | apply qzB | apply qzC | apply qzD); simp (disch:=omega) only [coreA,Int.reduceBEq,bzY24,qq] <;> with_reducible rfl))
   rw [e]
   exact ih (by omega) (by omega) (by rw [htk]; exact hms) hcs S1 hk
theorem f25_ones {k : Nat} {rv bv av kv a11 a12 mv : Value} {aggs : List AggD} {ms : RS} {mine : List (List CellD)} {key : List CellD} {O : List OS} (G : Aggs h0 av aggs) (hms : rowsOf ms = mine) (hcs : ∀ q ∈ ms,Cells h0 q.1 q.2)
  (hc : ∀ a ∈ aggs,a.k = 1 ∨ ∀ r ∈ mine,0 ≤ a.c ∧ a.c < r.length) (hml : mine.length ≤ 100) (hal : aggs.length ≤ 100) (hkl : key.length ≤ 1000) {ke8 : Value→Value→Value→Value→Value→Value→Value→Value→Value→Value→AH→Option β} (n : Nat) :
  ∀ {q j : Nat} {h : AH} {xv : Value},q + n = aggs.length→n < j→Stt Try.prog h0.n h0 h [] ((xv,3,(key ++ (aggs.take q).map (oneC mine)).map crow) :: (mv,1,outs ms) :: O) →
   (∀ h' xv y1 y2,Stt Try.prog h0.n h0 h' [] ((xv,3,(key ++ aggs.map (oneC mine)).map crow) :: (mv,1,outs ms) :: O)→Tl (ke8 rv bv av kv a11 a12 mv xv y1 y2 h') Q) →
   Tl (F25_lrlrrrllrllrlrrrrr (eInv env (k + 1010)) (k + 1010) j rv bv av kv a11 a12 mv xv (.int .i64 q) h ke8) Q:=by
 have ha : ∀ h',pLen Try.prog #[29] av h' = some (.int .i64 aggs.length):=fun h'=>G.len
 induction n with
 | zero =>
  intro q j h xv hq hj S hk
  obtain ⟨j,rfl⟩ : ∃ z,j = z + 1:=⟨j - 1,by omega⟩
  simp only [F25_lrlrrrllrllrlrrrrr]
  repeat (first | (with_reducible apply qzV; simp (disch:=omega) only [coreA,Int.reduceBEq,bzY24,ha] <;> with_reducible rfl) | (with_reducible first | apply qzT | apply qzF | apply qzG | apply qzH) | ((with_reducible first | apply qzB | apply qzC | apply qzD); simp (disch:=omega) only [coreA,Int.reduceBEq,bzY24,ha] <;> with_reducible rfl))
  rw [List.take_of_length_le (by omega)] at S
  exact hk _ _ _ _ S
 | succ n ih =>
  intro q j h xv hq hj S hk
  obtain ⟨j,rfl⟩ : ∃ z,j = z + 1:=⟨j - 1,by omega⟩
  have e : (q : Int) + 1 = ((q + 1 : Nat) : Int):=by omega
  obtain ⟨a,ea⟩ : ∃ x,aggs[q]? = some x:=⟨_,List.getElem?_eq_getElem (by omega)⟩
  obtain ⟨b,o,hp,hrow⟩:=(G.grow S.grow).at_ ea
  have RM : Rows h mv mine:=by
   rw [← hms]
   refine ⟨ms.map (·.1),?_,all2_map fun p hp=>(hcs p hp).grow S.grow⟩
   rw [List.map_map]
   exact (S.slV 1 rfl).z
  simp only [F25_lrlrrrllrllrlrrrrr]
  repeat (first | (with_reducible apply qzV; simp (disch:=omega) only [coreA,Int.reduceBEq,bzY24,ha,hp,hrow] <;> with_reducible rfl) | (with_reducible first | apply qzT | apply qzF | apply qzG | apply qzH) | ((with_reducible first | apply qzB | apply qzC | apply qzD); simp (disch:=omega) only [coreA,Int.reduceBEq,bzY24,ha,hp,hrow] <;> with_reducible rfl))
  refine Tl.call' S (f52c (k:=k + 1007) RM (hc a (List.mem_of_getElem? ea)) (by omega) (by omega)) fun h1 S1 g1=>?_
  refine Tl.push S1 0 rfl appC (bsC1 _ _) rfl rfl (by simp; omega) fun v' h2 S2=>?_
  repeat (first | (with_reducible apply qzV; simp (disch:=omega) only [coreA,Int.reduceBEq,bzY24] <;> with_reducible rfl) | (with_reducible first | apply qzT | apply qzF | apply qzG | apply qzH) | ((with_reducible first | apply qzB | apply qzC | apply qzD); simp (disch:=omega) only [coreA,Int.reduceBEq,bzY24] <;> with_reducible rfl))
  rw [e]
  refine ih (by omega) (by omega) ?_ hk
  have : (key ++ (aggs.take (q + 1)).map (oneC mine)).map crow = (key ++ (aggs.take q).map (oneC mine)).map crow ++ [crow (oneC mine a)]:=by
   rw [List.take_add_one,ea]
   simp
  rw [this]
  exact S2
theorem f25_out {k : Nat} {rv bv av kv : Value} {rows keys : List (List CellD)} {by_ : List Int} {aggs : List AggD} (R : Rows h0 rv rows) (K : Rows h0 kv keys) (B : IntsZ h0 bv by_) (G : Aggs h0 av aggs)
  (hb : by_.length ≤ 20) (hkl : ∀ x ∈ keys,x.length ≤ 1000) (hl : rows.length ≤ 100) (hal : aggs.length ≤ 100) (hks : keys.length ≤ 1000) (hc : ∀ a ∈ aggs,a.k = 1 ∨ ∀ r ∈ rows,0 ≤ a.c ∧ a.c < r.length) {ke4 : Value→Value→Value→Value→Value→Value→Value→AH→Option β} (n : Nat) :
  ∀ {i j : Nat} {h : AH} {xv : Value} {os : RS},i + n = keys.length→n < j→rowsOf os = (keys.take i).map (rowK by_ aggs rows)→Stt Try.prog h0.n h0 h [] ((xv,1,outs os) :: owns os) →
   (∀ h' xv os y0 y1 y2 y3 y4 y5,rowsOf os = keys.map (rowK by_ aggs rows)→Stt Try.prog h0.n h0 h' [] ((xv,1,outs os) :: owns os)→Tl (ke4 y0 y1 y2 y3 xv y4 y5 h') Q) →
   Tl (F25_lrlrrrrr (eInv env (k + 1010)) (k + 1010) j rv bv av kv xv (.int .i64 i) h ke4) Q:=by
 have hv : ∀ h',pLen Try.prog #[23] kv h' = some (.int .i64 keys.length):=fun h'=>K.len
 induction n with
 | zero =>
  intro i j h xv os hi hj hos S hk
  obtain ⟨j,rfl⟩ : ∃ q,j = q + 1:=⟨j - 1,by omega⟩
  simp only [F25_lrlrrrrr]
  repeat (first | (with_reducible apply qzV; simp (disch:=omega) only [coreA,Int.reduceBEq,bzY24,hv] <;> with_reducible rfl) | (with_reducible first | apply qzT | apply qzF | apply qzG | apply qzH) | ((with_reducible first | apply qzB | apply qzC | apply qzD); simp (disch:=omega) only [coreA,Int.reduceBEq,bzY24,hv] <;> with_reducible rfl))
  rw [List.take_of_length_le (by omega)] at hos
  exact hk _ _ os _ _ _ _ _ _ hos S
 | succ n ih =>
  intro i j h xv os hi hj hos S hk
  obtain ⟨j,rfl⟩ : ∃ q,j = q + 1:=⟨j - 1,by omega⟩
  have e : (i : Int) + 1 = ((i + 1 : Nat) : Int):=by omega
  obtain ⟨key,ek⟩ : ∃ x,keys[i]? = some x:=⟨_,List.getElem?_eq_getElem (by omega)⟩
  have hk1:=hkl key (List.mem_of_getElem? ek)
  obtain ⟨b,o,w,hp,hc0,Cw0⟩:=K.at_ ek
  have hosl : os.length = i:=by
   have:=congrArg List.length hos
   rw [rowsOf_len,List.length_map,List.length_take] at this
   omega
  simp only [F25_lrlrrrrr]
  repeat (first | (with_reducible apply qzV; simp (disch:=omega) only [coreA,Int.reduceBEq,bzY24,hv] <;> with_reducible rfl) | (with_reducible first | apply qzT | apply qzF | apply qzG | apply qzH) | ((with_reducible first | apply qzB | apply qzC | apply qzD); simp (disch:=omega) only [coreA,Int.reduceBEq,bzY24,hv] <;> with_reducible rfl))
  refine f25_mine (k:=k) R K B ek hb hk1 hl rows.length (p:=0) (ms:=[]) (by omega) (by omega) rfl (fun q hq=>by cases hq) (S.nil 1) fun h1 mv ms y1 y2 hms hcs S1=>?_
  have hml : (rowsAt by_ rows key).length ≤ 100:=by
   have h2:=List.length_filter_le (fun r=>decide (pickL r by_ = key)) rows
   unfold rowsAt
   omega
  rw [bsC0,bnd_some]
  have S2:=sttE S1
  have hc2:=S2.grow.cell hc0
  repeat (first | (with_reducible apply qzV; simp (disch:=omega) only [coreA,Int.reduceBEq,bzY24,hp,hc2] <;> with_reducible rfl) | (with_reducible first | apply qzT | apply qzF | apply qzG | apply qzH) | ((with_reducible first | apply qzB | apply qzC | apply qzD); simp (disch:=omega) only [coreA,Int.reduceBEq,bzY24,hp,hc2] <;> with_reducible rfl))
  obtain ⟨v3,h3,e3,S3⟩:=S2.appendZ 0 rfl appC (SlZ.grow Cw0 S2.grow) (by simp; omega) (one_crows key)
  repeat (first | (with_reducible apply qzV; simp (disch:=omega) only [coreA,Int.reduceBEq,bzY24,e3] <;> with_reducible rfl) | (with_reducible first | apply qzT | apply qzF | apply qzG | apply qzH) | ((with_reducible first | apply qzB | apply qzC | apply qzD); simp (disch:=omega) only [coreA,Int.reduceBEq,bzY24,e3] <;> with_reducible rfl))
  refine f25_ones (k:=k) (q:=0) G hms hcs (fun a ha=>(hc a ha).imp id fun h r hr=>h r (by unfold rowsAt at hr; exact (List.mem_filter.1 hr).1)) hml hal hk1 aggs.length (by omega) (by omega) (by simpa using S3) fun h4 rv4 z1 z2 S4=>?_
  obtain ⟨ra,rc,er,_⟩:=(S4.slV 0 rfl).form
  show Tl (bnd (pBuildSlice Try.prog 23 1 #[(0,rv4)] h4) _) Q
  refine Tl.push S4 2 rfl app23 (r:=[rv4]) (by rw [er]; exact bs23 _ _ _ _) rfl (by rw [er]; rfl) (by rw [outs_len]; omega) fun v5 h5 S5=>?_
  repeat (first | (with_reducible apply qzV; simp (disch:=omega) only [coreA,Int.reduceBEq,bzY24] <;> with_reducible rfl) | (with_reducible first | apply qzT | apply qzF | apply qzG | apply qzH) | ((with_reducible first | apply qzB | apply qzC | apply qzD); simp (disch:=omega) only [coreA,Int.reduceBEq,bzY24] <;> with_reducible rfl))
  rw [e]
  refine ih (os:=os ++ [(rv4,rowK by_ aggs rows key)]) (by omega) (by omega) ?_ ?_ hk
  ·unfold rowsOf at hos ⊢
   rw [List.map_append,hos,List.take_add_one,ek,List.map_append]
   rfl
  ·have S6:=S5.permO (O':=(mv,1,outs ms) :: (v5,1,outs (os ++ [(rv4,rowK by_ aggs rows key)])) :: owns (os ++ [(rv4,rowK by_ aggs rows key)])) (perm_of fun f g z0 hc hap=>by
    simp only [outs,owns,rowK,List.map_append,List.map_cons,List.map_nil,List.set_cons_succ,List.set_cons_zero,z0,hc,hap]
    omega)
   exact S6.dropO
end
theorem f25c {k : Nat} {h : AH} {rv bv av : Value} {rows : List (List CellD)} {by_ : List Int} {aggs : List AggD} (R : Rows h rv rows) (B : IntsZ h bv by_) (G : Aggs h av aggs)
  (hb : by_.length ≤ 20) (hl : rows.length ≤ 100) (hal : aggs.length ≤ 100) (hc : ∀ a ∈ aggs,a.k = 1 ∨ ∀ r ∈ rows,0 ≤ a.c ∧ a.c < r.length) :
  Tl (eInv env (k + 1011) (.func 25) #[] #[rv,bv,av] h) fun r=>∃ os,rowsOf os = toldL by_ aggs rows ∧ Stt Try.prog h.n h r.2 [] ((r.1,1,outs os) :: owns os):=by
 rw [F25_call]
 unfold F25
 have hbv : ∀ h',pLen Try.prog #[24] bv h' = some (.int .i64 by_.length):=fun h'=>B.len
 have rest : ∀ {h1 : AH} {kv : Value} {ks : RS},rowsOf ks = (if by_ = [] then [[]] else [])→Stt Try.prog h.n h h1 [] ((kv,1,outs ks) :: owns ks) →
   Tl (F25_lrlrrr (eInv env (k + 1010)) (k + 1010) (k + 1010) rv bv av kv (.int .i64 0) h1 fun y0_4 y1_5 y2_6 y7_7 y8 y25 h_8=>F25_lrlrrrrr (eInv env (k + 1010)) (k + 1010) (k + 1010) y0_4 y1_5 y2_6 y7_7 (.slice none 0 0) (.int .i64 0) h_8 fun y0_17 y1_18 y2_19 y7_20 y11 y12 y77 h_21=>some (y11,h_21))
    fun r=>∃ os,rowsOf os = toldL by_ aggs rows ∧ Stt Try.prog h.n h r.2 [] ((r.1,1,outs os) :: owns os):=fun {h1 kv ks} hks S1=>by
  refine f25_keys (k:=k) (init:=if by_ = [] then [[]] else []) R B hb hl rows.length (i:=0) (by omega) (by omega) (by rw [hks]; rfl) (by rw [hks]; split <;> exact ⟨by simp,by simp⟩) S1 fun h2 kv2 ks2 y1 y2 hks2 hf S2=>?_
  have K : Rows h2 kv2 (rowsOf ks2):=rowsOut (O:=[]) (by rw [List.append_nil]; exact S2)
  have g2:=S2.grow
  have hlen:=hf.len
  refine f25_out (h0:=h2) (k:=k) (R.grow g2) K (B.grow g2) (G.grow g2) hb (fun x hx=>by have:=hf.row x hx; omega) hl hal (by omega) hc (rowsOf ks2).length (i:=0) (os:=[]) (by omega) (by omega) rfl ((Stt.init h2).nil 1) fun h3 xv os y0 y1 y2 y3 y4 y5 hos S3=>?_
  refine ⟨_,rfl,os,?_,?_⟩
  ·rw [hos,hks2]; rfl
  ·have S4:=S2.join S3
   refine (S4.permO (O':=((kv2,1,outs ks2) :: owns ks2) ++ ((xv,1,outs os) :: owns os)) List.perm_append_comm).subO ?_
   exact List.sublist_append_right _ _
 by_cases q : by_.length = 0
 ·have eb : by_ = []:=List.eq_nil_of_length_eq_zero q
  have qq : ((by_.length : Int) == 0) = true:=beq_t (by omega)
  repeat (first | (with_reducible apply qzV; simp (disch:=omega) only [coreA,Int.reduceBEq,bzY24,hbv,qq] <;> with_reducible rfl) | (with_reducible first | apply qzT | apply qzF | apply qzG | apply qzH) | ((with_reducible first | apply qzB | apply qzC | apply qzD); simp (disch:=omega) only [coreA,Int.reduceBEq,bzY24,hbv,qq] <;> with_reducible rfl))
  simp only [F25_rlrr]
  refine Tl.brT ?_
  rw [bsC0,bnd_some,bs23,bnd_some]
  have S1:=(sttE (Stt.init h)).alloc (.cells [.slice (some ⟨h.n,0,none⟩) 0 0] 34 true)
  have S2:=S1.absorb (rows:=[[.slice (some ⟨h.n,0,none⟩) 0 0]]) (n:=1) (fun r hr=>by rw [List.mem_singleton] at hr; subst hr; rfl) sz34
  exact rest (ks:=[(.slice (some ⟨h.n,0,none⟩) 0 0,[])]) (by rw [if_pos eb]; rfl) S2
 ·have eb : ¬ by_ = []:=fun e=>q (by rw [e]; rfl)
  have qq : ((by_.length : Int) == 0) = false:=beq_f (by omega)
  repeat (first | (with_reducible apply qzV; simp (disch:=omega) only [coreA,Int.reduceBEq,bzY24,hbv,qq] <;> with_reducible rfl) | (with_reducible first | apply qzT | apply qzF | apply qzG | apply qzH) | ((with_reducible first | apply qzB | apply qzC | apply qzD); simp (disch:=omega) only [coreA,Int.reduceBEq,bzY24,hbv,qq] <;> with_reducible rfl))
  simp only [F25_rlrr]
  refine Tl.brF ?_
  exact rest (ks:=[]) (by rw [if_neg eb]; rfl) ((Stt.init h).nil 1)
end Go.Proofs.Ytgklcfnjahomjaa.Sh
