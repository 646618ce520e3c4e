/- Which rows fit in, which changes are bare, which updates may be. -/
import Derived.Test.YtgklcfnjahomjaaSzVi
set_option linter.unusedVariables false
set_option linter.unusedSimpArgs false
set_option maxRecDepth 100000
namespace Go.Proofs.Ytgklcfnjahomjaa.Sh
open Go Go.RowKit Go.Proofs.Ev
theorem bzWp : type_of% (And.intro @ld3 (And.intro @ld2 (And.intro @ld4 (And.intro @ld9 (And.intro @ld24 (And.intro @ld23 (And.intro @ld34 (And.intro @ld37 (And.intro @ld42 (And.intro @fa37_0 (And.intro @fa37_1 (And.intro @fa37_2 (And.intro @fa42_0 (And.intro @fa42_1 (And.intro @fa42_2 (@Nat.add_zero)))))))))))))))):=And.intro @ld3 (And.intro @ld2 (And.intro @ld4 (And.intro @ld9 (And.intro @ld24 (And.intro @ld23 (And.intro @ld34 (And.intro @ld37 (And.intro @ld42 (And.intro @fa37_0 (And.intro @fa37_1 (And.intro @fa37_2 (And.intro @fa42_0 (And.intro @fa42_1 (And.intro @fa42_2 (@Nat.add_zero)))))))))))))))
theorem f63_loop {β : Type} {inv : Inv} {k : Nat} {Q : β→Prop} {h : AH} {v : Value} {l : List Int} {w : Int} (S : IntsZ h v l) (hl : l.length ≤ 2 ^ 30) {ke0 : Value→Value→Value→Value→Value→AH→Option β} {kr : Value→AH→Option β} (n : Nat) :
  ∀ {i j : Nat},i + n = l.length→n < j→((l.drop i).contains w = false→∀ y1 y2 y3 y4 y5,Tl (ke0 y1 y2 y3 y4 y5 h) Q)→((l.drop i).contains w = true→∀ m : Nat,m < l.length→Tl (kr (.int .i64 (m : Nat)) h) Q) →
   Tl (F63_lrlr inv k j v (.int .i64 w) (.int .i64 l.length) (.int .i64 i) h ke0 kr) Q:=by
 induction n with
 | zero =>
  intro i j hi hj hk hr
  obtain ⟨j,rfl⟩ : ∃ q,j = q + 1:=⟨j - 1,by omega⟩
  simp only [F63_lrlr]
  repeat (first | (with_reducible apply qzV; simp (disch:=omega) only [coreA,Int.reduceBEq,bzWp] <;> with_reducible rfl) | (with_reducible first | apply qzT | apply qzF | apply qzG | apply qzH) | ((with_reducible first | apply qzB | apply qzC | apply qzD); simp (disch:=omega) only [coreA,Int.reduceBEq,bzWp] <;> with_reducible rfl))
  exact hk (by rw [List.drop_eq_nil_of_le (by omega)]; rfl) _ _ _ _ _
 | succ n ih =>
  intro i j hi hj hk hr
  obtain ⟨j,rfl⟩ : ∃ q,j = q + 1:=⟨j - 1,by omega⟩
  obtain ⟨x,ex⟩ : ∃ x,l[i]? = some x:=⟨_,List.getElem?_eq_getElem (by omega)⟩
  obtain ⟨b,o,hp,hc⟩:=S.at_ ex
  have e : (i : Int) + 1 = ((i + 1 : Nat) : Int):=by omega
  rw [drop_at ex,List.contains_cons] at hk hr
  simp only [F63_lrlr]
  by_cases q : w = x
  ·subst q
   rw [beq_self_eq_true,Bool.true_or] at hr
   repeat (first | (with_reducible apply qzV; simp (disch:=omega) only [coreA,Int.reduceBEq,bzWp,hp,hc] <;> with_reducible rfl) | (with_reducible first | apply qzT | apply qzF | apply qzG | apply qzH) | ((with_reducible first | apply qzB | apply qzC | apply qzD); simp (disch:=omega) only [coreA,Int.reduceBEq,bzWp,hp,hc] <;> with_reducible rfl))
   exact hr rfl i (by omega)
  ·have en : (w == x) = false:=beq_f q
   rw [en,Bool.false_or] at hk hr
   repeat (first | (with_reducible apply qzV; simp (disch:=omega) only [coreA,Int.reduceBEq,bzWp,hp,hc,en] <;> with_reducible rfl) | (with_reducible first | apply qzT | apply qzF | apply qzG | apply qzH) | ((with_reducible first | apply qzB | apply qzC | apply qzD); simp (disch:=omega) only [coreA,Int.reduceBEq,bzWp,hp,hc,en] <;> with_reducible rfl))
   rw [e]
   exact ih (by omega) (by omega) hk hr
theorem f42e {k : Nat} {h : AH} {v : Value} {l : List Int} (S : IntsZ h v l) (w : Int) (hl : l.length < k) (hl2 : l.length ≤ 2 ^ 30) : eInv env (k + 2) (.func 42) #[] #[v,.int .i64 w] h = some (.bool (l.contains w),h):=by
 rw [F42_call]
 have T : Tl (F42 (eInv env (k + 1)) (k + 1) v (.int .i64 w) h) fun r=>r = (.bool (l.contains w),h):=by
  unfold F42
  rw [F63_call]
  have T : Tl (F63 (eInv env k) k v (.int .i64 w) h) fun r=>∃ z : Int,r = (.int .i64 z,h) ∧ (decide (z ≥ 0)) = l.contains w:=by
   unfold F63
   have hv : ∀ h',pLen Try.prog #[24] v h' = some (.int .i64 l.length):=fun h'=>S.len
   repeat (first | (with_reducible apply qzV; simp (disch:=omega) only [coreA,Int.reduceBEq,bzWp,hv] <;> with_reducible rfl) | (with_reducible first | apply qzT | apply qzF | apply qzG | apply qzH) | ((with_reducible first | apply qzB | apply qzC | apply qzD); simp (disch:=omega) only [coreA,Int.reduceBEq,bzWp,hv] <;> with_reducible rfl))
   refine f63_loop S hl2 l.length (i:=0) (by omega) hl (fun q y1 y2 y3 y4 y5=>?_) fun q m hm=>?_
   ·rw [List.drop_zero] at q
    exact ⟨_,rfl,-1,rfl,by rw [q]; rfl⟩
   ·rw [List.drop_zero] at q
    exact ⟨_,rfl,m,rfl,by rw [q]; simp⟩
  refine Tl.bind T ?_
  rintro r ⟨z,rfl,hz⟩
  repeat (first | (with_reducible apply qzV; simp (disch:=omega) only [coreA,Int.reduceBEq,bzWp,hz] <;> with_reducible rfl) | (with_reducible first | apply qzT | apply qzF | apply qzG | apply qzH) | ((with_reducible first | apply qzB | apply qzC | apply qzD); simp (disch:=omega) only [coreA,Int.reduceBEq,bzWp,hz] <;> with_reducible rfl))
  exact ⟨_,rfl,rfl⟩
 obtain ⟨r,h1,h2⟩:=T
 rw [h1,h2]
theorem f65x {k : Nat} (c : ColD) (v : CellD) (hc : cellR v) (h : AH) : Tl (eInv env (k + 10) (.func 65) #[] #[colv c,v.v] h) fun r=>r.1 = .int .i64 (fitE c v) ∧ Grow h r.2:=by
 rw [F65_call]
 unfold F65
 refine Tl.box' (Stt.init h) rfl (by rw [sz42]; rfl) fun b1 h1 S1 _=>?_
 refine Tl.box' S1 rfl (by rw [sz37]; rfl) fun b2 h2 S2 _=>?_
 have r3 : h2.row b2 0 3 = some (crow v):=S2.row 0 rfl rfl
 repeat (first | (with_reducible apply qzV; simp (disch:=omega) only [coreA,Int.reduceBEq,bzWp,r3] <;> with_reducible rfl) | (with_reducible first | apply qzT | apply qzF | apply qzG | apply qzH) | ((with_reducible first | apply qzB | apply qzC | apply qzD); simp (disch:=omega) only [coreA,Int.reduceBEq,bzWp,r3] <;> with_reducible rfl))
 refine Tl.call' S2 (f70c (k:=k + 8) v hc h2) fun h3 S3 _=>?_
 have c0 : h3.cell b2 0 = some (.int .i64 v.k):=S3.cell 0 rfl rfl
 have d1 : h3.cell b1 1 = some (.int .i64 c.kind):=S3.cell 1 rfl rfl
 have d2 : h3.cell b1 2 = some (.bool c.null):=S3.cell 1 rfl rfl
 unfold fitE
 simp only [G65_4]
 cases q0 : cellOk v with
 | false =>
  simp only [Bool.false_eq_true,if_false]
  repeat (first | (with_reducible apply qzV; simp (disch:=omega) only [coreA,Int.reduceBEq,bzWp] <;> with_reducible rfl) | (with_reducible first | apply qzT | apply qzF | apply qzG | apply qzH) | ((with_reducible first | apply qzB | apply qzC | apply qzD); simp (disch:=omega) only [coreA,Int.reduceBEq,bzWp] <;> with_reducible rfl))
  exact ⟨_,rfl,rfl,S3.grow⟩
 | true =>
  simp only [if_true]
  by_cases q1 : v.k = c.kind
  ·repeat (first | (with_reducible apply qzV; simp (disch:=omega) only [coreA,Int.reduceBEq,bzWp,c0,d1,d2] <;> with_reducible rfl) | (with_reducible first | apply qzT | apply qzF | apply qzG | apply qzH) | ((with_reducible first | apply qzB | apply qzC | apply qzD); simp (disch:=omega) only [coreA,Int.reduceBEq,bzWp,c0,d1,d2] <;> with_reducible rfl))
   exact ⟨_,rfl,by rw [if_pos (.inl q1)],S3.grow⟩
  ·by_cases q2 : v.k = 0
   ·cases q3 : c.null with
    | false =>
     rw [q3] at d2
     repeat (first | (with_reducible apply qzV; simp (disch:=omega) only [coreA,Int.reduceBEq,bzWp,c0,d1,d2] <;> with_reducible rfl) | (with_reducible first | apply qzT | apply qzF | apply qzG | apply qzH) | ((with_reducible first | apply qzB | apply qzC | apply qzD); simp (disch:=omega) only [coreA,Int.reduceBEq,bzWp,c0,d1,d2] <;> with_reducible rfl))
     exact ⟨_,rfl,by rw [if_neg (fun h=>h.elim q1 (fun h=>by cases h.2))],S3.grow⟩
    | true =>
     rw [q3] at d2
     repeat (first | (with_reducible apply qzV; simp (disch:=omega) only [coreA,Int.reduceBEq,bzWp,c0,d1,d2] <;> with_reducible rfl) | (with_reducible first | apply qzT | apply qzF | apply qzG | apply qzH) | ((with_reducible first | apply qzB | apply qzC | apply qzD); simp (disch:=omega) only [coreA,Int.reduceBEq,bzWp,c0,d1,d2] <;> with_reducible rfl))
     exact ⟨_,rfl,by rw [if_pos (.inr ⟨q2,rfl⟩)],S3.grow⟩
   ·repeat (first | (with_reducible apply qzV; simp (disch:=omega) only [coreA,Int.reduceBEq,bzWp,c0,d1,d2] <;> with_reducible rfl) | (with_reducible first | apply qzT | apply qzF | apply qzG | apply qzH) | ((with_reducible first | apply qzB | apply qzC | apply qzD); simp (disch:=omega) only [coreA,Int.reduceBEq,bzWp,c0,d1,d2] <;> with_reducible rfl))
    exact ⟨_,rfl,by rw [if_neg (fun h=>h.elim q1 (fun h=>q2 h.1))],S3.grow⟩
theorem f46_loop {β : Type} {k : Nat} {Q : β→Prop} {h0 : AH} {cv rv : Value} {cols : List ColD} {row : List CellD} (C : Cols h0 cv cols) (R : Cells h0 rv row) (hlen : row.length = cols.length) (hl : cols.length ≤ 16) (hr : ∀ x ∈ row,cellR x) {ke0 : Value→Value→Value→Value→Value→AH→Option β} {kr : Value→AH→Option β} (n : Nat) :
  ∀ {i j : Nat} {h : AH},i + n = row.length→n < j→Stt Try.prog h0.n h0 h [] []→(fitsE (cols.drop i) (row.drop i) = 0→∀ y1 y2 y3 y4 y5 h',Grow h0 h'→Tl (ke0 y1 y2 y3 y4 y5 h') Q)→(fitsE (cols.drop i) (row.drop i) ≠ 0→∀ h',Grow h0 h'→Tl (kr (.int .i64 (fitsE (cols.drop i) (row.drop i))) h') Q) →
   Tl (F46_lrlrrr (eInv env (k + 20)) (k + 20) j rv cv (.int .i64 cols.length) (.int .i64 i) h ke0 kr) Q:=by
 induction n with
 | zero =>
  intro i j h hi hj S hk hf
  obtain ⟨j,rfl⟩ : ∃ q,j = q + 1:=⟨j - 1,by omega⟩
  simp only [F46_lrlrrr]
  repeat (first | (with_reducible apply qzV; simp (disch:=omega) only [coreA,Int.reduceBEq,bzWp] <;> with_reducible rfl) | (with_reducible first | apply qzT | apply qzF | apply qzG | apply qzH) | ((with_reducible first | apply qzB | apply qzC | apply qzD); simp (disch:=omega) only [coreA,Int.reduceBEq,bzWp] <;> with_reducible rfl))
  exact hk (by rw [List.drop_eq_nil_of_le (by omega),List.drop_eq_nil_of_le (by omega)]; rfl) _ _ _ _ _ _ S.grow
 | succ n ih =>
  intro i j h hi hj S hk hf
  obtain ⟨j,rfl⟩ : ∃ q,j = q + 1:=⟨j - 1,by omega⟩
  obtain ⟨c,ec⟩ : ∃ x,cols[i]? = some x:=⟨_,List.getElem?_eq_getElem (by omega)⟩
  obtain ⟨x,ex⟩ : ∃ x,row[i]? = some x:=⟨_,List.getElem?_eq_getElem (by omega)⟩
  obtain ⟨b,o,hp,hrow⟩:=(C.grow S.grow).at_ ec
  have e : (i : Int) + 1 = ((i + 1 : Nat) : Int):=by omega
  rw [drop_at ec,drop_at ex,fitsE] at hk hf
  simp only [F46_lrlrrr]
  repeat (first | (with_reducible apply qzV; simp (disch:=omega) only [coreA,Int.reduceBEq,bzWp,hp,hrow] <;> with_reducible rfl) | (with_reducible first | apply qzT | apply qzF | apply qzG | apply qzH) | ((with_reducible first | apply qzB | apply qzC | apply qzD); simp (disch:=omega) only [coreA,Int.reduceBEq,bzWp,hp,hrow] <;> with_reducible rfl))
  refine Tl.alloc' S ze42 (by rfl) fun b1 h1 S1 g1=>?_
  refine Tl.store' S1 0 rfl sz42 rfl rfl (by simp [Value.cells]) fun h2 S2 k2=>?_
  have S2 : Stt Try.prog h0.n h0 h2 [(b1,.cells (colrow c) 42 true)] []:=S2
  have r1 : h2.row b1 0 3 = some (colrow c):=S2.row 0 rfl rfl
  obtain ⟨b',o',hp',hrow'⟩:=(R.grow S2.grow).at_ ex
  repeat (first | (with_reducible apply qzV; simp (disch:=omega) only [coreA,Int.reduceBEq,bzWp,r1,hp',hrow'] <;> with_reducible rfl) | (with_reducible first | apply qzT | apply qzF | apply qzG | apply qzH) | ((with_reducible first | apply qzB | apply qzC | apply qzD); simp (disch:=omega) only [coreA,Int.reduceBEq,bzWp,r1,hp',hrow'] <;> with_reducible rfl))
  refine Tl.bind (f65x (k:=k + 10) c x (hr x (List.mem_of_getElem? ex)) h2) ?_
  rintro ⟨r,h3⟩ ⟨er,g3⟩
  simp only at er g3
  subst er
  have S3:=S2.call g3
  by_cases q : fitE c x = 0
  ·rw [if_pos q] at hk hf
   repeat (first | (with_reducible apply qzV; simp (disch:=omega) only [coreA,Int.reduceBEq,bzWp,q] <;> with_reducible rfl) | (with_reducible first | apply qzT | apply qzF | apply qzG | apply qzH) | ((with_reducible first | apply qzB | apply qzC | apply qzD); simp (disch:=omega) only [coreA,Int.reduceBEq,bzWp,q] <;> with_reducible rfl))
   rw [e]
   exact ih (by omega) (by omega) S3.drop hk hf
  ·rw [if_neg q] at hf
   repeat (first | (with_reducible apply qzV; simp (disch:=omega) only [coreA,Int.reduceBEq,bzWp] <;> with_reducible rfl) | (with_reducible first | apply qzT | apply qzF | apply qzG | apply qzH) | ((with_reducible first | apply qzB | apply qzC | apply qzD); simp (disch:=omega) only [coreA,Int.reduceBEq,bzWp] <;> with_reducible rfl))
   exact hf q _ S3.grow
theorem f46x {k : Nat} {h : AH} {cv rv : Value} {cols : List ColD} {row : List CellD} (C : Cols h cv cols) (R : Cells h rv row) (hl : cols.length ≤ 9223372036854775807) (hl2 : row.length ≤ 9223372036854775807) (hr : ∀ x ∈ row,cellR x) :
  Tl (eInv env (k + 300) (.func 46) #[] #[cv,rv] h) fun r=>r.1 = .int .i64 (rowE cols row) ∧ Grow h r.2:=by
 rw [F46_call]
 unfold F46 rowE
 have hv : ∀ h',pLen Try.prog #[34] rv h' = some (.int .i64 row.length):=fun h'=>R.len
 have hv2 : ∀ h',pLen Try.prog #[22] cv h' = some (.int .i64 cols.length):=fun h'=>C.len
 refine Tl.bind (f41x (k:=k + 98) C hl) ?_
 rintro ⟨r,h1⟩ ⟨er,g1⟩
 simp only at er g1
 subst er
 by_cases q : colsE cols = 0
 ·have hco:=(colsE_zero cols).1 q
  rw [if_pos q]
  by_cases q2 : row.length = cols.length
  ·rw [if_pos q2]
   have hc16 : cols.length ≤ 16:=by
    unfold colsOk at hco
    simp only [Bool.and_eq_true,decide_eq_true_eq] at hco
    exact hco.2.1
   repeat (first | (with_reducible apply qzV; simp (disch:=omega) only [coreA,Int.reduceBEq,bzWp,hv,hv2] <;> with_reducible rfl) | (with_reducible first | apply qzT | apply qzF | apply qzG | apply qzH) | ((with_reducible first | apply qzB | apply qzC | apply qzD); simp (disch:=omega) only [coreA,Int.reduceBEq,bzWp,hv,hv2] <;> with_reducible rfl))
   refine f46_loop (k:=k + 279) C R q2 hc16 hr row.length (i:=0) (by omega) (by omega) ((Stt.init h).call g1) (fun q3 y1 y2 y3 y4 y5 h' g=>?_) fun q3 h' g=>?_
   ·rw [List.drop_zero,List.drop_zero] at q3
    exact ⟨_,rfl,by rw [q3],g⟩
   ·rw [List.drop_zero,List.drop_zero]
    exact ⟨_,rfl,rfl,g⟩
  ·rw [if_neg q2]
   repeat (first | (with_reducible apply qzV; simp (disch:=omega) only [coreA,Int.reduceBEq,bzWp,hv,hv2] <;> with_reducible rfl) | (with_reducible first | apply qzT | apply qzF | apply qzG | apply qzH) | ((with_reducible first | apply qzB | apply qzC | apply qzD); simp (disch:=omega) only [coreA,Int.reduceBEq,bzWp,hv,hv2] <;> with_reducible rfl))
   exact ⟨_,rfl,rfl,g1⟩
 ·rw [if_neg q]
  repeat (first | (with_reducible apply qzV; simp (disch:=omega) only [coreA,Int.reduceBEq,bzWp,hv,hv2] <;> with_reducible rfl) | (with_reducible first | apply qzT | apply qzF | apply qzG | apply qzH) | ((with_reducible first | apply qzB | apply qzC | apply qzD); simp (disch:=omega) only [coreA,Int.reduceBEq,bzWp,hv,hv2] <;> with_reducible rfl))
  exact ⟨_,rfl,rfl,g1⟩
end Go.Proofs.Ytgklcfnjahomjaa.Sh
