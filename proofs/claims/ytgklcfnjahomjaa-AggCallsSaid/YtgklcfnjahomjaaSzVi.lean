/- Rows that fit, as the document tells; the schema's own check of columns. -/
import Derived.Test.YtgklcfnjahomjaaSzVh
set_option linter.unusedVariables false
set_option linter.unusedSimpArgs false
set_option maxRecDepth 100000
namespace Go.Proofs.Ytgklcfnjahomjaa.Sh
open Go Go.RowKit Go.Proofs.Ev
theorem bzVi : type_of% (And.intro @ld3 (And.intro @ld2 (And.intro @ld4 (And.intro @ld9 (And.intro @ld37 (And.intro @ld42 (And.intro @fa37_0 (And.intro @fa37_1 (And.intro @fa37_2 (And.intro @fa42_0 (And.intro @fa42_1 (And.intro @fa42_2 (@Nat.add_zero))))))))))))):=And.intro @ld3 (And.intro @ld2 (And.intro @ld4 (And.intro @ld9 (And.intro @ld37 (And.intro @ld42 (And.intro @fa37_0 (And.intro @fa37_1 (And.intro @fa37_2 (And.intro @fa42_0 (And.intro @fa42_1 (And.intro @fa42_2 (@Nat.add_zero))))))))))))
def colv (c : ColD) : Value:=.agg #[.string c.name,.int .i64 c.kind,.bool c.null]
def fitC (c : ColD) (v : CellD) : Bool:=cellOk v && (decide (v.k = c.kind) || (decide (v.k = 0) && c.null))
def fitE (c : ColD) (v : CellD) : Int:=if cellOk v = true then (if v.k = c.kind ∨ (v.k = 0 ∧ c.null = true) then 0 else 173) else 160
theorem fitE_zero (c : ColD) (v : CellD) : fitE c v = 0 ↔ fitC c v = true:=by
 unfold fitE fitC
 cases q0 : cellOk v with
 | false=>simp
 | true =>
  by_cases q : v.k = c.kind ∨ (v.k = 0 ∧ c.null = true)
  ·rw [if_pos rfl,if_pos q]
   simpa using q
  ·rw [if_pos rfl,if_neg q]
   simpa using q
theorem f48x {k : Nat} (c : ColD) (v : CellD) (h : AH) : Tl (eInv env (k + 10) (.func 48) #[] #[colv c,v.v] h) fun r=>r.1 = .int .i64 (fitE c v) ∧ Grow h r.2:=by
 rw [F48_call]
 unfold F48
 refine Tl.box' (Stt.init h) rfl (by rw [sz42]; rfl) fun b1 h1 S1 _=>?_
 refine Tl.box' S1 rfl (by rw [sz37]; rfl) fun b2 h2 S2 _=>?_
 have r3 : h2.row b2 0 3 = some (crow v):=S2.row 0 rfl rfl
 repeat (first | (with_reducible apply qzV; simp (disch:=omega) only [coreA,Int.reduceBEq,bzVi,r3] <;> with_reducible rfl) | (with_reducible first | apply qzT | apply qzF | apply qzG | apply qzH) | ((with_reducible first | apply qzB | apply qzC | apply qzD); simp (disch:=omega) only [coreA,Int.reduceBEq,bzVi,r3] <;> with_reducible rfl))
 refine Tl.call' S2 (f66c (k:=k + 8) v h2) fun h3 S3 _=>?_
 have c0 : h3.cell b2 0 = some (.int .i64 v.k):=S3.cell 0 rfl rfl
 have d1 : h3.cell b1 1 = some (.int .i64 c.kind):=S3.cell 1 rfl rfl
 have d2 : h3.cell b1 2 = some (.bool c.null):=S3.cell 1 rfl rfl
 unfold fitE
 cases q0 : cellOk v with
 | false =>
  simp only [Bool.false_eq_true,if_false]
  repeat (first | (with_reducible apply qzV; simp (disch:=omega) only [coreA,Int.reduceBEq,bzVi] <;> with_reducible rfl) | (with_reducible first | apply qzT | apply qzF | apply qzG | apply qzH) | ((with_reducible first | apply qzB | apply qzC | apply qzD); simp (disch:=omega) only [coreA,Int.reduceBEq,bzVi] <;> with_reducible rfl))
  exact ⟨_,rfl,rfl,S3.grow⟩
 | true =>
  simp only [if_true]
  by_cases q1 : v.k = c.kind
  ·repeat (first | (with_reducible apply qzV; simp (disch:=omega) only [coreA,Int.reduceBEq,bzVi,c0,d1,d2] <;> with_reducible rfl) | (with_reducible first | apply qzT | apply qzF | apply qzG | apply qzH) | ((with_reducible first | apply qzB | apply qzC | apply qzD); simp (disch:=omega) only [coreA,Int.reduceBEq,bzVi,c0,d1,d2] <;> with_reducible rfl))
   exact ⟨_,rfl,by rw [if_pos (.inl q1)],S3.grow⟩
  ·by_cases q2 : v.k = 0
   ·cases q3 : c.null with
    | false =>
     rw [q3] at d2
     repeat (first | (with_reducible apply qzV; simp (disch:=omega) only [coreA,Int.reduceBEq,bzVi,c0,d1,d2] <;> with_reducible rfl) | (with_reducible first | apply qzT | apply qzF | apply qzG | apply qzH) | ((with_reducible first | apply qzB | apply qzC | apply qzD); simp (disch:=omega) only [coreA,Int.reduceBEq,bzVi,c0,d1,d2] <;> with_reducible rfl))
     exact ⟨_,rfl,by rw [if_neg (fun h=>h.elim q1 (fun h=>by cases h.2))],S3.grow⟩
    | true =>
     rw [q3] at d2
     repeat (first | (with_reducible apply qzV; simp (disch:=omega) only [coreA,Int.reduceBEq,bzVi,c0,d1,d2] <;> with_reducible rfl) | (with_reducible first | apply qzT | apply qzF | apply qzG | apply qzH) | ((with_reducible first | apply qzB | apply qzC | apply qzD); simp (disch:=omega) only [coreA,Int.reduceBEq,bzVi,c0,d1,d2] <;> with_reducible rfl))
     exact ⟨_,rfl,by rw [if_pos (.inr ⟨q2,rfl⟩)],S3.grow⟩
   ·repeat (first | (with_reducible apply qzV; simp (disch:=omega) only [coreA,Int.reduceBEq,bzVi,c0,d1,d2] <;> with_reducible rfl) | (with_reducible first | apply qzT | apply qzF | apply qzG | apply qzH) | ((with_reducible first | apply qzB | apply qzC | apply qzD); simp (disch:=omega) only [coreA,Int.reduceBEq,bzVi,c0,d1,d2] <;> with_reducible rfl))
    exact ⟨_,rfl,by rw [if_neg (fun h=>h.elim q1 (fun h=>q2 h.1))],S3.grow⟩
def fitsL : List ColD→List CellD→Bool
 | [],[]=>true
 | c :: cs,v :: vs=>fitC c v && fitsL cs vs
 | _,_=>false
def rowOk (cols : List ColD) (row : List CellD) : Bool:=colsOk cols && (decide (row.length = cols.length) && fitsL cols row)
def fitsE : List ColD→List CellD→Int
 | c :: cs,v :: vs=>if fitE c v = 0 then fitsE cs vs else fitE c v
 | _,_=>0
theorem fitsE_zero : ∀ {cs : List ColD} {vs : List CellD},vs.length = cs.length→(fitsE cs vs = 0 ↔ fitsL cs vs = true)
 | [],[],_=>by simp [fitsE,fitsL]
 | [],_ :: _,h=>by simp at h
 | _ :: _,[],h=>by simp at h
 | c :: cs,v :: vs,h=>by
  have ih:=fitsE_zero (cs:=cs) (vs:=vs) (by simpa using h)
  have hz:=fitE_zero c v
  unfold fitsE fitsL
  by_cases q : fitE c v = 0
  ·rw [if_pos q,ih,hz.1 q,Bool.true_and]
  ·rw [if_neg q]
   have : fitC c v = false:=by
    cases hf : fitC c v with
    | false=>rfl
    | true=>exact absurd (hz.2 hf) q
   rw [this,Bool.false_and]
   simp [q]
def rowE (cols : List ColD) (row : List CellD) : Int:=if colsE cols = 0 then (if row.length = cols.length then fitsE cols row else 173) else colsE cols
theorem rowE_zero (cols : List ColD) (row : List CellD) : rowE cols row = 0 ↔ rowOk cols row = true:=by
 have hz:=colsE_zero cols
 unfold rowE rowOk
 by_cases q : colsE cols = 0
 ·rw [if_pos q,hz.1 q,Bool.true_and]
  by_cases q2 : row.length = cols.length
  ·rw [if_pos q2,decide_eq_true q2,Bool.true_and,fitsE_zero q2]
  ·rw [if_neg q2,decide_eq_false q2,Bool.false_and]; simp
 ·rw [if_neg q]
  have : colsOk cols = false:=by
   cases hf : colsOk cols with
   | false=>rfl
   | true=>exact absurd (hz.2 hf) q
  rw [this,Bool.false_and]
  simp [q]
theorem f22_loop {β : Type} {k : Nat} {Q : β→Prop} {h0 : AH} {cv rv : Value} {cols : List ColD} {row : List CellD} (C : Cols h0 cv cols) (R : Cells h0 rv row) (hlen : row.length = cols.length) (hl : cols.length ≤ 16) {ke0 : Value→Value→Value→Value→AH→Option β} {kr : Value→AH→Option β} (n : Nat) :
  ∀ {i j : Nat} {h : AH},i + n = row.length→n < j→Grow h0 h→(fitsE (cols.drop i) (row.drop i) = 0→∀ y1 y2 y3 y4 h',Grow h0 h'→Tl (ke0 y1 y2 y3 y4 h') Q)→(fitsE (cols.drop i) (row.drop i) ≠ 0→∀ h',Grow h0 h'→Tl (kr (.int .i64 (fitsE (cols.drop i) (row.drop i))) h') Q) →
   Tl (F22_lrlrrrr (eInv env (k + 20)) (k + 20) j cv rv (.int .i64 i) h ke0 kr) Q:=by
 have hv : ∀ h',pLen Try.prog #[34] rv h' = some (.int .i64 row.length):=fun h'=>R.len
 induction n with
 | zero =>
  intro i j h hi hj g hk hr
  obtain ⟨j,rfl⟩ : ∃ q,j = q + 1:=⟨j - 1,by omega⟩
  simp only [F22_lrlrrrr]
  repeat (first | (with_reducible apply qzV; simp (disch:=omega) only [coreA,Int.reduceBEq,bzVi,hv] <;> with_reducible rfl) | (with_reducible first | apply qzT | apply qzF | apply qzG | apply qzH) | ((with_reducible first | apply qzB | apply qzC | apply qzD); simp (disch:=omega) only [coreA,Int.reduceBEq,bzVi,hv] <;> with_reducible rfl))
  exact hk (by rw [List.drop_eq_nil_of_le (by omega),List.drop_eq_nil_of_le (by omega)]; rfl) _ _ _ _ _ g
 | succ n ih =>
  intro i j h hi hj g hk hr
  obtain ⟨j,rfl⟩ : ∃ q,j = q + 1:=⟨j - 1,by omega⟩
  obtain ⟨x,ex⟩ : ∃ x,row[i]? = some x:=⟨_,List.getElem?_eq_getElem (by omega)⟩
  obtain ⟨c,ec⟩ : ∃ x,cols[i]? = some x:=⟨_,List.getElem?_eq_getElem (by omega)⟩
  obtain ⟨b,o,hp,hrow⟩:=R.at_ ex
  obtain ⟨b2,o2,hp2,hrow2⟩:=C.at_ ec
  have hrow':=g.row hrow
  have hrow2':=g.row hrow2
  have e : (i : Int) + 1 = ((i + 1 : Nat) : Int):=by omega
  rw [drop_at ex,drop_at ec,fitsE] at hk hr
  simp only [F22_lrlrrrr]
  repeat (first | (with_reducible apply qzV; simp (disch:=omega) only [coreA,Int.reduceBEq,bzVi,hv,hp,hrow',hp2,hrow2'] <;> with_reducible rfl) | (with_reducible first | apply qzT | apply qzF | apply qzG | apply qzH) | ((with_reducible first | apply qzB | apply qzC | apply qzD); simp (disch:=omega) only [coreA,Int.reduceBEq,bzVi,hv,hp,hrow',hp2,hrow2'] <;> with_reducible rfl))
  refine Tl.bind (f48x (k:=k + 10) c x h) ?_
  rintro ⟨r,h1⟩ ⟨er,g1⟩
  simp only at er g1
  subst er
  by_cases q : fitE c x = 0
  ·rw [if_pos q] at hk hr
   repeat (first | (with_reducible apply qzV; simp (disch:=omega) only [coreA,Int.reduceBEq,bzVi,q] <;> with_reducible rfl) | (with_reducible first | apply qzT | apply qzF | apply qzG | apply qzH) | ((with_reducible first | apply qzB | apply qzC | apply qzD); simp (disch:=omega) only [coreA,Int.reduceBEq,bzVi,q] <;> with_reducible rfl))
   rw [e]
   exact ih (by omega) (by omega) (g.trans g1) hk hr
  ·rw [if_neg q] at hr
   repeat (first | (with_reducible apply qzV; simp (disch:=omega) only [coreA,Int.reduceBEq,bzVi] <;> with_reducible rfl) | (with_reducible first | apply qzT | apply qzF | apply qzG | apply qzH) | ((with_reducible first | apply qzB | apply qzC | apply qzD); simp (disch:=omega) only [coreA,Int.reduceBEq,bzVi] <;> with_reducible rfl))
   exact hr q _ (g.trans g1)
theorem f22x {k : Nat} {h : AH} {cv rv : Value} {cols : List ColD} {row : List CellD} (C : Cols h cv cols) (R : Cells h rv row) (hl : cols.length ≤ 9223372036854775807) (hl2 : row.length ≤ 9223372036854775807) :
  Tl (eInv env (k + 300) (.func 22) #[] #[cv,rv] h) fun r=>r.1 = .int .i64 (rowE cols row) ∧ Grow h r.2:=by
 rw [F22_call]
 unfold F22 rowE
 have hv : ∀ h',pLen Try.prog #[34] rv h' = some (.int .i64 row.length):=fun h'=>R.len
 have hv2 : ∀ h',pLen Try.prog #[22] cv h' = some (.int .i64 cols.length):=fun h'=>C.len
 have hc:=f40x (k:=k + 98) C hl
 by_cases q : colsE cols = 0
 ·have q':=(colsE_zero cols).1 q
  have hl16 : cols.length ≤ 16:=by
   unfold colsOk at q'
   simp at q'
   omega
  rw [if_pos q]
  by_cases q2 : row.length = cols.length
  ·have q2' : (row.length : Int) = cols.length:=by omega
   rw [if_pos q2]
   repeat (first | (with_reducible apply qzV; simp (disch:=omega) only [coreA,Int.reduceBEq,bzVi,hc,hv,hv2] <;> with_reducible rfl) | (with_reducible first | apply qzT | apply qzF | apply qzG | apply qzH) | ((with_reducible first | apply qzB | apply qzC | apply qzD); simp (disch:=omega) only [coreA,Int.reduceBEq,bzVi,hc,hv,hv2] <;> with_reducible rfl))
   refine f22_loop (k:=k + 279) C R q2 hl16 row.length (i:=0) (by omega) (by omega) (Grow.refl _) (fun q3 y1 y2 y3 y4 h' g=>?_) fun q3 h' g=>?_
   ·rw [List.drop_zero,List.drop_zero] at q3
    exact ⟨_,rfl,by rw [q3],g⟩
   ·rw [List.drop_zero,List.drop_zero]
    exact ⟨_,rfl,rfl,g⟩
  ·have q2' : ¬ (row.length : Int) = cols.length:=by omega
   rw [if_neg q2]
   repeat (first | (with_reducible apply qzV; simp (disch:=omega) only [coreA,Int.reduceBEq,bzVi,hc,hv,hv2] <;> with_reducible rfl) | (with_reducible first | apply qzT | apply qzF | apply qzG | apply qzH) | ((with_reducible first | apply qzB | apply qzC | apply qzD); simp (disch:=omega) only [coreA,Int.reduceBEq,bzVi,hc,hv,hv2] <;> with_reducible rfl))
   exact ⟨_,rfl,rfl,Grow.refl _⟩
 ·rw [if_neg q]
  repeat (first | (with_reducible apply qzV; simp (disch:=omega) only [coreA,Int.reduceBEq,bzVi,hc,hv,hv2] <;> with_reducible rfl) | (with_reducible first | apply qzT | apply qzF | apply qzG | apply qzH) | ((with_reducible first | apply qzB | apply qzC | apply qzD); simp (disch:=omega) only [coreA,Int.reduceBEq,bzVi,hc,hv,hv2] <;> with_reducible rfl))
  exact ⟨_,rfl,rfl,Grow.refl _⟩
/-! ### The schema's own check -/
theorem f72_loop {β : Type} {k : Nat} {Q : β→Prop} {h0 : AH} {v fv : Value} {l : List ColD} {p : ColD→Bool} (S : Cols h0 v l) (hl : l.length ≤ 1000)
  (hcall : ∀ c h,Grow h0 h→Tl (callV (eInv env k) fv #[colv c] h) fun r=>r.1 = .bool (p c) ∧ Grow h r.2) {ke0 : Value→Value→Value→Value→Value→AH→Option β} {kr : Value→AH→Option β} (n : Nat) :
  ∀ {i j : Nat} {h : AH},i + n = l.length→n < j→Grow h0 h→((l.drop i).any p = false→∀ y1 y2 y3 y4 y5 h',Grow h0 h'→Tl (ke0 y1 y2 y3 y4 y5 h') Q)→((l.drop i).any p = true→∀ (m : Nat) h',Grow h0 h'→Tl (kr (.int .i64 (m : Nat)) h') Q) →
   Tl (F72_lrlr (eInv env k) k j v fv (.int .i64 l.length) (.int .i64 i) h ke0 kr) Q:=by
 induction n with
 | zero =>
  intro i j h hi hj g hk hr
  obtain ⟨j,rfl⟩ : ∃ q,j = q + 1:=⟨j - 1,by omega⟩
  simp only [F72_lrlr]
  repeat (first | (with_reducible apply qzV; simp (disch:=omega) only [coreA,Int.reduceBEq,bzVi] <;> with_reducible rfl) | (with_reducible first | apply qzT | apply qzF | apply qzG | apply qzH) | ((with_reducible first | apply qzB | apply qzC | apply qzD); simp (disch:=omega) only [coreA,Int.reduceBEq,bzVi] <;> with_reducible rfl))
  exact hk (by rw [List.drop_eq_nil_of_le (by omega)]; rfl) _ _ _ _ _ _ g
 | succ n ih =>
  intro i j h hi hj g hk hr
  obtain ⟨j,rfl⟩ : ∃ q,j = q + 1:=⟨j - 1,by omega⟩
  obtain ⟨x,ex⟩ : ∃ x,l[i]? = some x:=⟨_,List.getElem?_eq_getElem (by omega)⟩
  obtain ⟨b,o,hp,hrow⟩:=S.at_ ex
  have hrow':=g.row hrow
  have e : (i : Int) + 1 = ((i + 1 : Nat) : Int):=by omega
  rw [drop_at ex,List.any_cons] at hk hr
  simp only [F72_lrlr]
  repeat (first | (with_reducible apply qzV; simp (disch:=omega) only [coreA,Int.reduceBEq,bzVi,hp,hrow'] <;> with_reducible rfl) | (with_reducible first | apply qzT | apply qzF | apply qzG | apply qzH) | ((with_reducible first | apply qzB | apply qzC | apply qzD); simp (disch:=omega) only [coreA,Int.reduceBEq,bzVi,hp,hrow'] <;> with_reducible rfl))
  refine Tl.bind (hcall x h g) ?_
  rintro ⟨r,h1⟩ ⟨er,g1⟩
  simp only at er g1
  subst er
  cases q : p x with
  | true =>
   rw [q,Bool.true_or] at hr
   repeat (first | (with_reducible apply qzV; simp (disch:=omega) only [coreA,Int.reduceBEq,bzVi] <;> with_reducible rfl) | (with_reducible first | apply qzT | apply qzF | apply qzG | apply qzH) | ((with_reducible first | apply qzB | apply qzC | apply qzD); simp (disch:=omega) only [coreA,Int.reduceBEq,bzVi] <;> with_reducible rfl))
   exact hr rfl i _ (g.trans g1)
  | false =>
   rw [q,Bool.false_or] at hk hr
   repeat (first | (with_reducible apply qzV; simp (disch:=omega) only [coreA,Int.reduceBEq,bzVi] <;> with_reducible rfl) | (with_reducible first | apply qzT | apply qzF | apply qzG | apply qzH) | ((with_reducible first | apply qzB | apply qzC | apply qzD); simp (disch:=omega) only [coreA,Int.reduceBEq,bzVi] <;> with_reducible rfl))
   rw [e]
   exact ih (by omega) (by omega) (g.trans g1) hk hr
theorem f61c {k : Nat} {h : AH} {v fv : Value} {l : List ColD} {p : ColD→Bool} (S : Cols h v l) (hl : l.length ≤ 1000) (hk : l.length < k) (hcall : ∀ c h',Grow h h'→Tl (callV (eInv env k) fv #[colv c] h') fun r=>r.1 = .bool (p c) ∧ Grow h' r.2) :
  Tl (eInv env (k + 2) (.func 61) #[] #[v,fv] h) fun r=>r.1 = .bool (l.any p) ∧ Grow h r.2:=by
 rw [F61_call]
 unfold F61
 have hv : ∀ h',pLen Try.prog #[22] v h' = some (.int .i64 l.length):=fun h'=>S.len
 have T : Tl (eInv env (k + 1) (.func 72) #[] #[v,fv] h) fun r=>(∃ z : Int,r.1 = .int .i64 z ∧ (decide (z ≥ 0)) = l.any p) ∧ Grow h r.2:=by
  rw [F72_call]
  unfold F72
  repeat (first | (with_reducible apply qzV; simp (disch:=omega) only [coreA,Int.reduceBEq,bzVi,hv] <;> with_reducible rfl) | (with_reducible first | apply qzT | apply qzF | apply qzG | apply qzH) | ((with_reducible first | apply qzB | apply qzC | apply qzD); simp (disch:=omega) only [coreA,Int.reduceBEq,bzVi,hv] <;> with_reducible rfl))
  refine f72_loop S hl hcall l.length (i:=0) (by omega) hk (Grow.refl _) (fun q y1 y2 y3 y4 y5 h' g=>?_) fun q m h' g=>?_
  ·exact ⟨_,rfl,⟨_,rfl,by rw [List.drop_zero] at q; rw [q]; rfl⟩,g⟩
  ·exact ⟨_,rfl,⟨_,rfl,by rw [List.drop_zero] at q; rw [q]; simp⟩,g⟩
 refine Tl.bind T ?_
 rintro ⟨r,h1⟩ ⟨⟨z,er,hz⟩,g⟩
 simp only at er g
 subst er
 repeat (first | (with_reducible apply qzV; simp (disch:=omega) only [coreA,Int.reduceBEq,bzVi] <;> with_reducible rfl) | (with_reducible first | apply qzT | apply qzF | apply qzG | apply qzH) | ((with_reducible first | apply qzB | apply qzC | apply qzD); simp (disch:=omega) only [coreA,Int.reduceBEq,bzVi] <;> with_reducible rfl))
 exact ⟨_,rfl,by rw [hz],g⟩
theorem f62c {k : Nat} (c o : ColD) {h : AH} {bc : Nat} (hc : h.cell bc 0 = some (.string c.name)) : Tl (callV (eInv env (k + 1)) (.func (.func 62) #[] #[.pointer (some ⟨bc,0,none⟩)]) #[colv o] h) fun r=>r.1 = .bool (decide (o.name = c.name)) ∧ Grow h r.2:=by
 rw [callV_cap1 (by kernel_rfl),F62_eq]
 unfold F62
 refine Tl.box' (Stt.init h) rfl (by rw [sz42]; rfl) fun b1 h1 S1 g1=>?_
 have c0 : h1.cell b1 0 = some (.string o.name):=S1.cell 0 rfl rfl
 have c1:=g1.cell hc
 have hq : ∀ x y,pBin Try.prog .eql 9 x y (.string o.name) (.string c.name) = some (.bool (decide (o.name = c.name))):=fun _ _=>bin_eql_string
 repeat (first | (with_reducible apply qzV; simp (disch:=omega) only [coreA,Int.reduceBEq,bzVi,c0,c1,hq] <;> with_reducible rfl) | (with_reducible first | apply qzT | apply qzF | apply qzG | apply qzH) | ((with_reducible first | apply qzB | apply qzC | apply qzD); simp (disch:=omega) only [coreA,Int.reduceBEq,bzVi,c0,c1,hq] <;> with_reducible rfl))
 exact ⟨_,rfl,rfl,S1.grow⟩
theorem f41_loop {β : Type} {k : Nat} {Q : β→Prop} {h0 : AH} {v : Value} {l : List ColD} (S : Cols h0 v l) (hl : l.length ≤ 16) {ke0 : Value→Value→Value→Value→Value→AH→Option β} {kr : Value→AH→Option β} (n : Nat) :
  ∀ {i j : Nat} {h : AH},i + n = l.length→n < j→Grow h0 h→(colsFE (l.take i) (l.drop i) = 0→∀ y1 y2 y3 y4 y5 h',Grow h0 h'→Tl (ke0 y1 y2 y3 y4 y5 h') Q)→(colsFE (l.take i) (l.drop i) ≠ 0→∀ h',Grow h0 h'→Tl (kr (.int .i64 (colsFE (l.take i) (l.drop i))) h') Q) →
   Tl (F41_lrlrr (eInv env (k + 200)) (k + 200) j v v (.int .i64 l.length) (.int .i64 i) h ke0 kr) Q:=by
 induction n with
 | zero =>
  intro i j h hi hj g hk hr
  obtain ⟨j,rfl⟩ : ∃ q,j = q + 1:=⟨j - 1,by omega⟩
  simp only [F41_lrlrr]
  repeat (first | (with_reducible apply qzV; simp (disch:=omega) only [coreA,Int.reduceBEq,bzVi] <;> with_reducible rfl) | (with_reducible first | apply qzT | apply qzF | apply qzG | apply qzH) | ((with_reducible first | apply qzB | apply qzC | apply qzD); simp (disch:=omega) only [coreA,Int.reduceBEq,bzVi] <;> with_reducible rfl))
  exact hk (by rw [List.drop_eq_nil_of_le (by omega)]; rfl) _ _ _ _ _ _ g
 | succ n ih =>
  intro i j h hi hj g hk hr
  obtain ⟨j,rfl⟩ : ∃ q,j = q + 1:=⟨j - 1,by omega⟩
  obtain ⟨x,ex⟩ : ∃ x,l[i]? = some x:=⟨_,List.getElem?_eq_getElem (by omega)⟩
  obtain ⟨b,o,hp,hrow⟩:=S.at_ ex
  have hrow':=g.row hrow
  have e : (i : Int) + 1 = ((i + 1 : Nat) : Int):=by omega
  simp only [F41_lrlrr]
  rw [drop_at ex,colsFE] at hk hr
  repeat (first | (with_reducible apply qzV; simp (disch:=omega) only [coreA,Int.reduceBEq,bzVi,hp,hrow'] <;> with_reducible rfl) | (with_reducible first | apply qzT | apply qzF | apply qzG | apply qzH) | ((with_reducible first | apply qzB | apply qzC | apply qzD); simp (disch:=omega) only [coreA,Int.reduceBEq,bzVi,hp,hrow'] <;> with_reducible rfl))
  refine Tl.alloc' (Stt.init h) ze42 (by rfl) fun b4 h1 S1 g1=>?_
  refine Tl.store' S1 0 rfl sz42 rfl rfl (by simp [Value.cells]) fun h2 S2 k2=>?_
  have S2 : Stt Try.prog h.n h h2 [(b4,.cells (colrow x) 42 true)] []:=S2
  have c0 : h2.cell b4 0 = some (.string x.name):=S2.cell 0 rfl rfl
  repeat (first | (with_reducible apply qzV; simp (disch:=omega) only [coreA,Int.reduceBEq,bzVi,c0] <;> with_reducible rfl) | (with_reducible first | apply qzT | apply qzF | apply qzG | apply qzH) | ((with_reducible first | apply qzB | apply qzC | apply qzD); simp (disch:=omega) only [coreA,Int.reduceBEq,bzVi,c0] <;> with_reducible rfl))
  refine Tl.call' S2 (f60c (k:=k + 99) x.name h2) fun h3 S3 g3=>?_
  have c1 : h3.cell b4 1 = some (.int .i64 x.kind):=S3.cell 0 rfl rfl
  have g03:=g.trans S3.grow
  cases q1 : nameOk x.name with
  | false =>
   rw [if_neg (by rw [q1]; simp)] at hr
   simp only [Bool.false_eq_true,if_false]
   repeat (first | (with_reducible apply qzV; simp (disch:=omega) only [coreA,Int.reduceBEq,bzVi] <;> with_reducible rfl) | (with_reducible first | apply qzT | apply qzF | apply qzG | apply qzH) | ((with_reducible first | apply qzB | apply qzC | apply qzD); simp (disch:=omega) only [coreA,Int.reduceBEq,bzVi] <;> with_reducible rfl))
   exact hr (by omega) _ g03
  | true =>
   rw [if_pos q1] at hk hr
   simp only [if_true]
   by_cases q2 : 1 ≤ x.kind ∧ x.kind ≤ 3
   ·rw [if_pos q2] at hk hr
    obtain ⟨q21,q22⟩:=q2
    obtain ⟨tv,htv,T⟩:=S.take (i:=i) (by omega)
    have mf : pMakeFunc (Go.Fn.func 62) #[] #[.pointer (some ⟨b4,0,none⟩)] = some (.func (.func 62) #[] #[.pointer (some ⟨b4,0,none⟩)]):=rfl
    repeat (first | (with_reducible apply qzV; simp (disch:=omega) only [coreA,Int.reduceBEq,bzVi,c1,htv,mf] <;> with_reducible rfl) | (with_reducible first | apply qzT | apply qzF | apply qzG | apply qzH) | ((with_reducible first | apply qzB | apply qzC | apply qzD); simp (disch:=omega) only [coreA,Int.reduceBEq,bzVi,c1,htv,mf] <;> with_reducible rfl))
    refine Tl.call' S3 (f61c (k:=k + 198) (p:=fun o=>decide (o.name = x.name)) (T.grow g03) (by simp; omega) (by simp; omega) fun o h' g'=>f62c (k:=k + 197) x o ((g3.trans g').cell c0)) fun h4 S4 g4=>?_
    have g04:=g.trans S4.grow
    cases q3 : (l.take i).any fun o=>decide (o.name = x.name) with
    | true =>
     rw [if_pos q3] at hr
     repeat (first | (with_reducible apply qzV; simp (disch:=omega) only [coreA,Int.reduceBEq,bzVi] <;> with_reducible rfl) | (with_reducible first | apply qzT | apply qzF | apply qzG | apply qzH) | ((with_reducible first | apply qzB | apply qzC | apply qzD); simp (disch:=omega) only [coreA,Int.reduceBEq,bzVi] <;> with_reducible rfl))
     exact hr (by omega) _ g04
    | false =>
     rw [if_neg (by rw [q3]; simp)] at hk hr
     repeat (first | (with_reducible apply qzV; simp (disch:=omega) only [coreA,Int.reduceBEq,bzVi] <;> with_reducible rfl) | (with_reducible first | apply qzT | apply qzF | apply qzG | apply qzH) | ((with_reducible first | apply qzB | apply qzC | apply qzD); simp (disch:=omega) only [coreA,Int.reduceBEq,bzVi] <;> with_reducible rfl))
     rw [e]
     have et : l.take i ++ [x] = l.take (i + 1):=by rw [List.take_add_one,ex]; rfl
     rw [et] at hk hr
     exact ih (by omega) (by omega) g04 hk hr
   ·rw [if_neg q2] at hr
    by_cases q21 : 1 ≤ x.kind
    ·have q22 : ¬ x.kind ≤ 3:=fun h=>q2 ⟨q21,h⟩
     repeat (first | (with_reducible apply qzV; simp (disch:=omega) only [coreA,Int.reduceBEq,bzVi,c1] <;> with_reducible rfl) | (with_reducible first | apply qzT | apply qzF | apply qzG | apply qzH) | ((with_reducible first | apply qzB | apply qzC | apply qzD); simp (disch:=omega) only [coreA,Int.reduceBEq,bzVi,c1] <;> with_reducible rfl))
     exact hr (by omega) _ g03
    ·repeat (first | (with_reducible apply qzV; simp (disch:=omega) only [coreA,Int.reduceBEq,bzVi,c1] <;> with_reducible rfl) | (with_reducible first | apply qzT | apply qzF | apply qzG | apply qzH) | ((with_reducible first | apply qzB | apply qzC | apply qzD); simp (disch:=omega) only [coreA,Int.reduceBEq,bzVi,c1] <;> with_reducible rfl))
     exact hr (by omega) _ g03
theorem f41x {k : Nat} {h : AH} {v : Value} {l : List ColD} (S : Cols h v l) (hl : l.length ≤ 9223372036854775807) : Tl (eInv env (k + 201) (.func 41) #[] #[v] h) fun r=>r.1 = .int .i64 (colsE l) ∧ Grow h r.2:=by
 rw [F41_call]
 have hv : ∀ h',pLen Try.prog #[22] v h' = some (.int .i64 l.length):=fun h'=>S.len
 unfold F41 colsE
 by_cases s0 : 1 ≤ l.length
 ·by_cases s1 : l.length ≤ 16
  ·rw [if_pos ⟨s0,s1⟩]
   repeat (first | (with_reducible apply qzV; simp (disch:=omega) only [coreA,Int.reduceBEq,bzVi,hv] <;> with_reducible rfl) | (with_reducible first | apply qzT | apply qzF | apply qzG | apply qzH) | ((with_reducible first | apply qzB | apply qzC | apply qzD); simp (disch:=omega) only [coreA,Int.reduceBEq,bzVi,hv] <;> with_reducible rfl))
   refine f41_loop S s1 l.length (i:=0) (by omega) (by omega) (Grow.refl _) (fun q y1 y2 y3 y4 y5 h' g=>?_) fun q h' g=>?_
   ·rw [List.drop_zero,List.take_zero] at q
    exact ⟨_,rfl,by rw [q],g⟩
   ·rw [List.drop_zero,List.take_zero]
    exact ⟨_,rfl,rfl,g⟩
  ·rw [if_neg (fun h=>s1 h.2)]
   repeat (first | (with_reducible apply qzV; simp (disch:=omega) only [coreA,Int.reduceBEq,bzVi,hv] <;> with_reducible rfl) | (with_reducible first | apply qzT | apply qzF | apply qzG | apply qzH) | ((with_reducible first | apply qzB | apply qzC | apply qzD); simp (disch:=omega) only [coreA,Int.reduceBEq,bzVi,hv] <;> with_reducible rfl))
   exact ⟨_,rfl,rfl,Grow.refl _⟩
 ·rw [if_neg (fun h=>s0 h.1)]
  repeat (first | (with_reducible apply qzV; simp (disch:=omega) only [coreA,Int.reduceBEq,bzVi,hv] <;> with_reducible rfl) | (with_reducible first | apply qzT | apply qzF | apply qzG | apply qzH) | ((with_reducible first | apply qzB | apply qzC | apply qzD); simp (disch:=omega) only [coreA,Int.reduceBEq,bzVi,hv] <;> with_reducible rfl))
  exact ⟨_,rfl,rfl,Grow.refl _⟩
end Go.Proofs.Ytgklcfnjahomjaa.Sh
