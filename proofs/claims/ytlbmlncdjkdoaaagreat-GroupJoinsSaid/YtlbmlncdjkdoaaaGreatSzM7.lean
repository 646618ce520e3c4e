/- What lies ahead of the law, put together. -/
import Derived.Test.YtlbmlncdjkdoaaaGreatSzM6
import Derived.Test.YtlbmlncdjkdoaaaGreatSzM3
import Derived.Test.YtlbmlncdjkdoaaaGreatSzM5
import Derived.Test.YtlbmlncdjkdoaaaGreatSzM1
import Derived.OpenShut
/- Which rows fit in. -/
set_option linter.unusedVariables false
set_option linter.unusedSimpArgs false
set_option maxRecDepth 100000
namespace Go.Proofs.YtlbmlncdjkdoaaaGreat.Sh
open Go Go.RowKit Go.Proofs.Ev
open Tryz (prog)
def bzWt:=PLift.up (ai @ld3 (ai @ld2 (ai @ld4 (ai @ld9 (ai @ld24 (ai @ld23 (ai @ld34 (ai @ld39 (ai @ld73 (ai @fa39_0 (ai @fa39_1 (ai @fa39_2 (ai @fa73_0 (ai @fa73_1 (ai @fa73_2 (@Nat.add_zero))))))))))))))))
theorem f84x {k : Nat} (c : ColD) (v : CellD) (hc : cellR v) (h : AH) : Tl (eInv env (k + 10) (.func 84) #[] #[colv c,v.v] h) fun r=>r.1 = .int .i64 (fitE c v) ∧ Grow h r.2:=by
 rw [F84_call]
 unfold F84
 refine Tl.box' (Stt.init h) rfl (by rw [sz73]; rfl) fun b1 h1 S1 _=>?_
 refine Tl.box' S1 rfl (by rw [sz39]; rfl) fun b2 h2 S2 _=>?_
 have r3 : h2.row b2 0 3 = some (crow v):=S2.row 0 rfl rfl
 with_reducible repeat (first | (apply qzV; simp (disch:=omega) only [zA,bzWt.1,r3] <;> rfl) | apply qzT | apply qzF | apply qzG | ((first | apply qzB | apply qzC); simp (disch:=omega) only [zA,bzWt.1,r3] <;> rfl))
 refine Tl.call' S2 (f116c (k:=k + 8) v hc h2) fun h3 S3 _=>?_
 have c0 : h3.cell b2 0 = some (.int .i64 v.k):=S3.cell 0 rfl rfl
 have d1 : h3.cell b1 1 = some (.int .i64 c.kind):=S3.cell 1 rfl rfl
 have d2 : h3.cell b1 2 = some (.bool c.null):=S3.cell 1 rfl rfl
 unfold fitE
 simp only [G84_4]
 cases q0 : cellOk v with
 | false =>
  simp only [Bool.false_eq_true,if_false]
  with_reducible repeat (first | (apply qzV; simp (disch:=omega) only [zA,bzWt.1] <;> rfl) | apply qzT | apply qzF | apply qzG | ((first | apply qzB | apply qzC); simp (disch:=omega) only [zA,bzWt.1] <;> rfl))
  exact ⟨_,rfl,rfl,S3.grow⟩
 | true =>
  simp only [if_true]
  by_cases q1 : v.k = c.kind
  ·with_reducible repeat (first | (apply qzV; simp (disch:=omega) only [zA,bzWt.1,c0,d1,d2] <;> rfl) | apply qzT | apply qzF | apply qzG | ((first | apply qzB | apply qzC); simp (disch:=omega) only [zA,bzWt.1,c0,d1,d2] <;> rfl))
   exact ⟨_,rfl,by rw [if_pos (.inl q1)],S3.grow⟩
  ·by_cases q2 : v.k = 0
   ·cases q3 : c.null with
    | false =>
     rw [q3] at d2
     with_reducible repeat (first | (apply qzV; simp (disch:=omega) only [zA,bzWt.1,c0,d1,d2] <;> rfl) | apply qzT | apply qzF | apply qzG | ((first | apply qzB | apply qzC); simp (disch:=omega) only [zA,bzWt.1,c0,d1,d2] <;> rfl))
     exact ⟨_,rfl,by rw [if_neg (fun h=>h.elim q1 (fun h=>by cases h.2))],S3.grow⟩
    | true =>
     rw [q3] at d2
     with_reducible repeat (first | (apply qzV; simp (disch:=omega) only [zA,bzWt.1,c0,d1,d2] <;> rfl) | apply qzT | apply qzF | apply qzG | ((first | apply qzB | apply qzC); simp (disch:=omega) only [zA,bzWt.1,c0,d1,d2] <;> rfl))
     exact ⟨_,rfl,by rw [if_pos (.inr ⟨q2,rfl⟩)],S3.grow⟩
   ·with_reducible repeat (first | (apply qzV; simp (disch:=omega) only [zA,bzWt.1,c0,d1,d2] <;> rfl) | apply qzT | apply qzF | apply qzG | ((first | apply qzB | apply qzC); simp (disch:=omega) only [zA,bzWt.1,c0,d1,d2] <;> rfl))
    exact ⟨_,rfl,by rw [if_neg (fun h=>h.elim q1 (fun h=>q2 h.1))],S3.grow⟩
theorem f67_loop {β : Type} {k : Nat} {Q : β→Prop} {h0 : AH} {cv rv : Value} {cols : List ColD} {row : List CellD} (C : Cols h0 cv cols) (R : Cells h0 rv row) (hlen : row.length = cols.length) (hl : cols.length ≤ 16) (hr : ∀ x ∈ row,cellR x) {ke0 : Value→Value→Value→Value→Value→AH→Option β} {kr : Value→AH→Option β} (n : Nat) :
  ∀ {i j : Nat} {h : AH},i + n = row.length→n < j→Stt prog h0.n h0 h [] []→(fitsE (cols.drop i) (row.drop i) = 0→∀ y1 y2 y3 y4 y5 h',Grow h0 h'→Tl (ke0 y1 y2 y3 y4 y5 h') Q)→(fitsE (cols.drop i) (row.drop i) ≠ 0→∀ h',Grow h0 h'→Tl (kr (.int .i64 (fitsE (cols.drop i) (row.drop i))) h') Q) →
   Tl (F67_lrlrrr (eInv env (k + 20)) (k + 20) j rv cv (.int .i64 cols.length) (.int .i64 i) h ke0 kr) Q:=by
 induction n with
 | zero =>
  intro i j h hi hj S hk hf
  obtain ⟨j,rfl⟩ : ∃ q,j = q + 1:=⟨j - 1,by omega⟩
  simp only [F67_lrlrrr]
  with_reducible repeat (first | (apply qzV; simp (disch:=omega) only [zA,bzWt.1] <;> rfl) | apply qzT | apply qzF | (apply qzB; simp (disch:=omega) only [zA,bzWt.1] <;> rfl))
  exact hk (by rw [List.drop_eq_nil_of_le (by omega),List.drop_eq_nil_of_le (by omega)]; rfl) _ _ _ _ _ _ S.grow
 | succ n ih =>
  intro i j h hi hj S hk hf
  obtain ⟨j,rfl⟩ : ∃ q,j = q + 1:=⟨j - 1,by omega⟩
  obtain ⟨c,ec⟩ : ∃ x,cols[i]? = some x:=⟨_,List.getElem?_eq_getElem (by omega)⟩
  obtain ⟨x,ex⟩ : ∃ x,row[i]? = some x:=⟨_,List.getElem?_eq_getElem (by omega)⟩
  obtain ⟨b,o,hp,hrow⟩:=(C.grow S.grow).at_ ec
  have e : (i : Int) + 1 = ((i + 1 : Nat) : Int):=by omega
  rw [drop_at ec,drop_at ex,fitsE] at hk hf
  simp only [F67_lrlrrr]
  with_reducible repeat (first | (apply qzV; simp (disch:=omega) only [zA,bzWt.1,hp,hrow] <;> rfl) | apply qzT | apply qzF | (apply qzB; simp (disch:=omega) only [zA,bzWt.1,hp,hrow] <;> rfl))
  refine Tl.alloc' S ze73 (by rfl) fun b1 h1 S1 g1=>?_
  refine Tl.store' S1 0 rfl sz73 rfl rfl (by simp [Value.cells]) fun h2 S2 k2=>?_
  have S2 : Stt prog h0.n h0 h2 [(b1,.cells (colrow c) 73 true)] []:=S2
  have r1 : h2.row b1 0 3 = some (colrow c):=S2.row 0 rfl rfl
  obtain ⟨b',o',hp',hrow'⟩:=(R.grow S2.grow).at_ ex
  with_reducible repeat (first | (apply qzV; simp (disch:=omega) only [zA,bzWt.1,r1,hp',hrow'] <;> rfl) | apply qzT | apply qzF | (apply qzB; simp (disch:=omega) only [zA,bzWt.1,r1,hp',hrow'] <;> rfl))
  refine Tl.bind (f84x (k:=k + 10) c x (hr x (List.mem_of_getElem? ex)) h2) ?_
  rintro ⟨r,h3⟩ ⟨er,g3⟩
  simp only at er g3
  subst er
  have S3:=S2.call g3
  by_cases q : fitE c x = 0
  ·rw [if_pos q] at hk hf
   with_reducible repeat (first | (apply qzV; simp (disch:=omega) only [zA,bzWt.1,q] <;> rfl) | apply qzT | apply qzF | (apply qzB; simp (disch:=omega) only [zA,bzWt.1,q] <;> rfl))
   rw [e]
   exact ih (by omega) (by omega) S3.drop hk hf
  ·rw [if_neg q] at hf
   with_reducible repeat (first | (apply qzV; simp (disch:=omega) only [zA,bzWt.1] <;> rfl) | apply qzT | apply qzF | (apply qzB; simp (disch:=omega) only [zA,bzWt.1] <;> rfl))
   exact hf q _ S3.grow
theorem f67x {k : Nat} {h : AH} {cv rv : Value} {cols : List ColD} {row : List CellD} (C : Cols h cv cols) (R : Cells h rv row) (hl : cols.length ≤ 9223372036854775807) (hl2 : row.length ≤ 9223372036854775807) (hr : ∀ x ∈ row,cellR x) :
  Tl (eInv env (k + 300) (.func 67) #[] #[cv,rv] h) fun r=>r.1 = .int .i64 (rowE cols row) ∧ Grow h r.2:=by
 rw [F67_call]
 unfold F67 rowE
 have hv : ∀ h',pLen prog #[34] rv h' = some (.int .i64 row.length):=fun h'=>R.len
 have hv2 : ∀ h',pLen prog #[22] cv h' = some (.int .i64 cols.length):=fun h'=>C.len
 refine Tl.bind (f42x (k:=k + 98) C hl) ?_
 rintro ⟨r,h1⟩ ⟨er,g1⟩
 simp only at er g1
 subst er
 by_cases q : colsE cols = 0
 ·have hco:=(colsE_zero cols).1 q
  rw [if_pos q]
  by_cases q2 : row.length = cols.length
  ·rw [if_pos q2]
   have hc16 : cols.length ≤ 16:=by
    unfold colsOk at hco
    simp only [Bool.and_eq_true,decide_eq_true_eq] at hco
    exact hco.2.1
   with_reducible repeat (first | (apply qzV; simp (disch:=omega) only [zA,bzWt.1,hv,hv2] <;> rfl) | apply qzT | apply qzF | (apply qzB; simp (disch:=omega) only [zA,bzWt.1,hv,hv2] <;> rfl))
   refine f67_loop (k:=k + 279) C R q2 hc16 hr row.length (i:=0) (by omega) (by omega) ((Stt.init h).call g1) (fun q3 y1 y2 y3 y4 y5 h' g=>?_) fun q3 h' g=>?_
   ·rw [List.drop_zero,List.drop_zero] at q3
    exact ⟨_,rfl,by rw [q3],g⟩
   ·rw [List.drop_zero,List.drop_zero]
    exact ⟨_,rfl,rfl,g⟩
  ·rw [if_neg q2]
   with_reducible repeat (first | (apply qzV; simp (disch:=omega) only [zA,bzWt.1,hv,hv2] <;> rfl) | apply qzT | apply qzF | (apply qzB; simp (disch:=omega) only [zA,bzWt.1,hv,hv2] <;> rfl))
   exact ⟨_,rfl,rfl,g1⟩
 ·rw [if_neg q]
  with_reducible repeat (first | (apply qzV; simp (disch:=omega) only [zA,bzWt.1,hv,hv2] <;> rfl) | apply qzT | apply qzF | (apply qzB; simp (disch:=omega) only [zA,bzWt.1,hv,hv2] <;> rfl))
  exact ⟨_,rfl,rfl,g1⟩
end Go.Proofs.YtlbmlncdjkdoaaaGreat.Sh
/- Groups: rows that fit; what 'group.Put' comes to. -/
set_option linter.unusedVariables false
set_option linter.unusedSimpArgs false
set_option maxRecDepth 100000
namespace Go.Proofs.YtlbmlncdjkdoaaaGreat.Sh
open Go Go.RowKit Go.Proofs.Ev
open Tryz (prog)
def bzG3:=PLift.up (ai @ld3 (ai @ld9 (ai @ld34 (ai @ld39 (ai @ld23 (ai @ld73 (ai @fa73_1 (ai @aggC (ai @ex2_0 (ai @ex2_1 (@Nat.add_zero)))))))))))
def rowsE (cols : List ColD) : List (List CellD)→Int
 | []=>0
 | r :: l=>if rowE cols r = 0 then rowsE cols l else rowE cols r
theorem rowsE_zero (cols : List ColD) : ∀ rows : List (List CellD),rowsE cols rows = 0 ↔ ∀ r ∈ rows,rowE cols r = 0
 | []=>⟨fun _ r hr=>(by cases hr),fun _=>rfl⟩
 | r :: l=>by
  unfold rowsE
  split
  ·rename_i q
   rw [rowsE_zero cols l]
   exact ⟨fun h x hx=>(List.mem_cons.1 hx).elim (fun e=>e ▸ q) (h x),fun h x hx=>h x (List.mem_cons_of_mem _ hx)⟩
  ·rename_i q
   exact ⟨fun h=>absurd h q,fun h=>absurd (h r (List.mem_cons_self ..)) q⟩
/-- The error of what is put. -/
def putE (cols : List ColD) (rows : List (List CellD)) : Int:=if colsE cols = 0 then (if rows.length < 1 ∨ 64 < rows.length then 12 else rowsE cols rows) else colsE cols
theorem putE_zero (cols : List ColD) (rows : List (List CellD)) : putE cols rows = 0 ↔ putOk cols rows:=by
 unfold putE putOk
 by_cases q : colsE cols = 0
 ·rw [if_pos q]
  by_cases q2 : rows.length < 1 ∨ 64 < rows.length
  ·rw [if_pos q2]
   exact ⟨fun h=>(by omega),fun h=>(by omega)⟩
  ·rw [if_neg q2,rowsE_zero]
   exact ⟨fun h=>⟨q,(by omega),h⟩,fun h=>h.2.2⟩
 ·rw [if_neg q]
  exact ⟨fun h=>absurd h q,fun h=>absurd h.1 q⟩
theorem f43_loop {β : Type} {k : Nat} {Q : β→Prop} {h0 : AH} {cv v : Value} {cols : List ColD} {rows : List (List CellD)} (C : Cols h0 cv cols) (R : Rows h0 v rows) (hcl : cols.length ≤ 9223372036854775807) (hrl : ∀ r ∈ rows,r.length ≤ 9223372036854775807)
  (hr : ∀ r ∈ rows,∀ x ∈ r,cellR x) (hl : rows.length ≤ 64) {ke0 : Value→Value→Value→Value→Value→AH→Option β} {kr : Value→AH→Option β} (n : Nat) :
  ∀ {i j : Nat} {h : AH},i + n = rows.length→n < j→Grow h0 h→(rowsE cols (rows.drop i) = 0→∀ y1 y2 y3 y4 y5 h',Grow h0 h'→Tl (ke0 y1 y2 y3 y4 y5 h') Q) →
   (rowsE cols (rows.drop i) ≠ 0→∀ h',Grow h0 h'→Tl (kr (.int .i64 (rowsE cols (rows.drop i))) h') Q) →
   Tl (F43_lrlr (eInv env (k + 300)) (k + 300) j cv v (.int .i64 rows.length) (.int .i64 i) h ke0 kr) Q:=by
 induction n with
 | zero =>
  intro i j h hi hj g hk hf
  obtain ⟨j,rfl⟩ : ∃ q,j = q + 1:=⟨j - 1,by omega⟩
  simp only [F43_lrlr]
  with_reducible repeat (first | (apply qzV; simp (disch:=omega) only [zA,bzG3.1] <;> rfl) | apply qzT | apply qzF | (apply qzB; simp (disch:=omega) only [zA,bzG3.1] <;> rfl))
  exact hk (by rw [List.drop_eq_nil_of_le (by omega)]; rfl) _ _ _ _ _ _ g
 | succ n ih =>
  intro i j h hi hj g hk hf
  obtain ⟨j,rfl⟩ : ∃ q,j = q + 1:=⟨j - 1,by omega⟩
  obtain ⟨x,ex⟩ : ∃ x,rows[i]? = some x:=⟨_,List.getElem?_eq_getElem (by omega)⟩
  obtain ⟨b,o,w,hp,hc,Cw⟩:=(R.grow g).at_ ex
  have e : (i : Int) + 1 = ((i + 1 : Nat) : Int):=by omega
  have hm:=List.mem_of_getElem? ex
  rw [drop_at ex,rowsE] at hk hf
  simp only [F43_lrlr]
  with_reducible repeat (first | (apply qzV; simp (disch:=omega) only [zA,bzG3.1,hp,hc] <;> rfl) | apply qzT | apply qzF | (apply qzB; simp (disch:=omega) only [zA,bzG3.1,hp,hc] <;> rfl))
  refine Tl.bind (f67x (k:=k) (C.grow g) Cw hcl (hrl x hm) (hr x hm)) ?_
  rintro ⟨r,h2⟩ ⟨er,g2⟩
  simp only at er g2
  subst er
  by_cases q : rowE cols x = 0
  ·rw [if_pos q] at hk hf
   with_reducible repeat (first | (apply qzV; simp (disch:=omega) only [zA,bzG3.1,q] <;> rfl) | apply qzT | apply qzF | (apply qzB; simp (disch:=omega) only [zA,bzG3.1,q] <;> rfl))
   rw [e]
   exact ih (by omega) (by omega) (g.trans g2) hk hf
  ·rw [if_neg q] at hf
   with_reducible repeat (first | (apply qzV; simp (disch:=omega) only [zA,bzG3.1] <;> rfl) | apply qzT | apply qzF | (apply qzB; simp (disch:=omega) only [zA,bzG3.1] <;> rfl))
   exact hf q _ (g.trans g2)
theorem f43c {k : Nat} {h : AH} {cv v : Value} {cols : List ColD} {rows : List (List CellD)} (C : Cols h cv cols) (R : Rows h v rows) (hcl : cols.length ≤ 9223372036854775807) (hrl : ∀ r ∈ rows,r.length ≤ 9223372036854775807)
  (hr : ∀ r ∈ rows,∀ x ∈ r,cellR x) (hl : rows.length ≤ 64) : Tl (eInv env (k + 301) (.func 43) #[] #[cv,v] h) fun r=>r.1 = .int .i64 (rowsE cols rows) ∧ Grow h r.2:=by
 rw [F43_call]
 unfold F43
 have hv : ∀ h',pLen prog #[23] v h' = some (.int .i64 rows.length):=fun h'=>R.len
 with_reducible repeat (first | (apply qzV; simp (disch:=omega) only [zA,bzG3.1,hv] <;> rfl) | apply qzT | apply qzF | (apply qzB; simp (disch:=omega) only [zA,bzG3.1,hv] <;> rfl))
 refine f43_loop C R hcl hrl hr hl rows.length (i:=0) (by omega) (by omega) (Grow.refl _) (fun q y1 y2 y3 y4 y5 h' g=>?_) fun q h' g=>?_
 ·rw [List.drop_zero] at q
  exact ⟨_,rfl,by rw [q],g⟩
 ·rw [List.drop_zero]
  exact ⟨_,rfl,rfl,g⟩
theorem f11_loop {β : Type} {k : Nat} {Q : β→Prop} {h0 : AH} {cv v7 : Value} {cols : List ColD} {rows : List (List CellD)} {rs : RS} (C : Cols h0 cv cols) (P : putOk cols rows) (hrs : rowsOf rs = (List.range cols.length).map (colL rows)) (hk' : 4200 < k)
  {ke0 : Value→Value→Value→Value→Value→Value→AH→Option β} {kr : Value→Value→AH→Option β} (n : Nat) :
  ∀ {i j : Nat} {h : AH} {ov : Value},i + n = cols.length→n < j→Stt prog h0.n h0 h [] ((ov,1,srows ((segsL cols rows).take i)) :: (v7,1,outs rs) :: owns rs) →
   (∀ h' ov y1 y2 y3 y4 y5,Stt prog h0.n h0 h' [] ((ov,1,srows (segsL cols rows)) :: (v7,1,outs rs) :: owns rs)→Tl (ke0 y1 ov y2 y3 y4 y5 h') Q) →
   Tl (F11_lrlrrrrr (eInv env (k + 701)) (k + 701) j cv ov v7 (.int .i64 cols.length) (.int .i64 i) h ke0 kr) Q:=by
 obtain ⟨hc1,hc16⟩:=cols_len P.1
 have hsl:=segsL_len cols rows
 induction n with
 | zero =>
  intro i j h ov hi hj S hk
  obtain ⟨j,rfl⟩ : ∃ q,j = q + 1:=⟨j - 1,by omega⟩
  simp only [F11_lrlrrrrr]
  with_reducible repeat (first | (apply qzV; simp (disch:=omega) only [zA,bzG3.1] <;> rfl) | apply qzT | apply qzF | apply qzG | ((first | apply qzB | apply qzC); simp (disch:=omega) only [zA,bzG3.1] <;> rfl))
  rw [List.take_of_length_le (by omega)] at S
  exact hk _ _ _ _ _ _ _ S
 | succ n ih =>
  intro i j h ov hi hj S hk
  obtain ⟨j,rfl⟩ : ∃ q,j = q + 1:=⟨j - 1,by omega⟩
  obtain ⟨c,ec⟩ : ∃ x,cols[i]? = some x:=⟨_,List.getElem?_eq_getElem (by omega)⟩
  obtain ⟨b,o,hp,hrow⟩:=(C.grow S.grow).at_ ec
  have hkind : h.cell b (o + 1) = some (.int .i64 c.kind):=Ev.cell_of_row (j:=1) hrow (by omega)
  have RS' : Rows h v7 (rowsOf rs):=rows_out (O:=[]) (S.dropO.dropO.permO (by rw [List.append_nil])) (S.slV 1 rfl)
  obtain ⟨b2,o2,w,hp2,hc2,Cw⟩:=RS'.at_ (i:=i) (x:=colL rows i) (by rw [hrs,List.getElem?_map,List.getElem?_range (by omega)]; rfl)
  obtain ⟨k1,k2,k3,k4⟩:=col_ok P ec
  have e : (i : Int) + 1 = ((i + 1 : Nat) : Int):=by omega
  have hlen:=colL_len rows i
  have h64:=P.2.1
  simp only [F11_lrlrrrrr]
  with_reducible repeat (first | (apply qzV; simp (disch:=omega) only [zA,bzG3.1,hp2,hc2,hp,hkind] <;> rfl) | apply qzT | apply qzF | apply qzG | ((first | apply qzB | apply qzC); simp (disch:=omega) only [zA,bzG3.1,hp2,hc2,hp,hkind] <;> rfl))
  with_reducible refine Tl.call' S (f45c (k:=k) c.kind Cw (by omega) hk') fun h2 S2 _=>?_
  rw [k2,if_pos rfl]
  with_reducible repeat (first | (apply qzV; simp (disch:=omega) only [zA,bzG3.1] <;> rfl) | apply qzT | apply qzF | apply qzG | ((first | apply qzB | apply qzC); simp (disch:=omega) only [zA,bzG3.1] <;> rfl))
  refine Tl.push S2 0 rfl app27 (bs27 _ _) rfl rfl (by rw [srows_len,List.length_take]; omega) fun ov' h3 S3=>?_
  with_reducible repeat (first | (apply qzV; simp (disch:=omega) only [zA,bzG3.1] <;> rfl) | apply qzT | apply qzF | apply qzG | ((first | apply qzB | apply qzC); simp (disch:=omega) only [zA,bzG3.1] <;> rfl))
  rw [e]
  refine ih (by omega) (by omega) ?_ hk
  have e2 : (segsL cols rows).take (i + 1) = (segsL cols rows).take i ++ [strB (segB c.kind (colL rows i))]:=by
   rw [List.take_add_one,segsL_at (by omega)]
   unfold segAt
   rw [k1]
   rfl
  rw [e2,srows_app]
  exact S3
theorem f11c {k : Nat} {h : AH} {cv v : Value} {cols : List ColD} {rows : List (List CellD)} (C : Cols h cv cols) (R : Rows h v rows) (hcl : cols.length ≤ 9223372036854775807) (hl : rows.length ≤ 9223372036854775807) (hrl : ∀ r ∈ rows,r.length ≤ 9223372036854775807)
  (hr : ∀ r ∈ rows,∀ x ∈ r,cellR x) (hk : 4200 < k) :
  Tl (eInv env (k + 702) (.func 11) #[] #[cv,v] h) fun r=>∃ o,r.1 = .tuple #[o,.int .i64 (putE cols rows)] ∧ Stt prog h.n h r.2 [] [(o,1,srows (if putE cols rows = 0 then segsL cols rows else []))]:=by
 rw [F11_call]
 unfold F11
 have hv : ∀ h',pLen prog #[23] v h' = some (.int .i64 rows.length):=fun h'=>R.len
 have hv2 : ∀ h',pLen prog #[22] cv h' = some (.int .i64 cols.length):=fun h'=>C.len
 have bz : pBuild prog 39 #[] = some c0.v:=by kernel_rfl
 refine Tl.bind (f42x (k:=k + 500) C hcl) ?_
 rintro ⟨r,h1⟩ ⟨er,g1⟩
 simp only at er g1
 subst er
 have S1:=(Stt.init (P:=prog) h).call g1
 by_cases q : colsE cols = 0
 ·simp only [G11_4]
  by_cases q2 : rows.length < 1 ∨ 64 < rows.length
  ·have eE : putE cols rows = 12:=by unfold putE; rw [if_pos q,if_pos q2]
   have es : (if putE cols rows = 0 then segsL cols rows else []) = []:=by rw [eE]; rfl
   rw [es,eE]
   have fin : Tl (some (Value.tuple #[.slice none 0 0,.int .i64 12],h1)) fun r=>∃ o,r.1 = .tuple #[o,.int .i64 12] ∧ Stt prog h.n h r.2 [] [(o,1,srows [])]:=⟨_,rfl,_,rfl,S1.nil 1⟩
   by_cases q3 : rows.length < 1
   ·with_reducible repeat (first | (apply qzV; simp (disch:=omega) only [zA,bzG3.1,q,hv] <;> rfl) | apply qzT | apply qzF | apply qzG | ((first | apply qzB | apply qzC); simp (disch:=omega) only [zA,bzG3.1,q,hv] <;> rfl))
    exact fin
   ·with_reducible repeat (first | (apply qzV; simp (disch:=omega) only [zA,bzG3.1,q,hv] <;> rfl) | apply qzT | apply qzF | apply qzG | ((first | apply qzB | apply qzC); simp (disch:=omega) only [zA,bzG3.1,q,hv] <;> rfl))
    exact fin
  ·have eE : putE cols rows = rowsE cols rows:=by unfold putE; rw [if_pos q,if_neg q2]
   have h1' : ¬ rows.length < 1:=fun h=>q2 (.inl h)
   have h2' : ¬ 64 < rows.length:=fun h=>q2 (.inr h)
   with_reducible repeat (first | (apply qzV; simp (disch:=omega) only [zA,bzG3.1,q,hv] <;> rfl) | apply qzT | apply qzF | apply qzG | ((first | apply qzB | apply qzC); simp (disch:=omega) only [zA,bzG3.1,q,hv] <;> rfl))
   refine Tl.bind (f43c (k:=k + 400) (C.grow S1.grow) (R.grow S1.grow) hcl hrl hr (by omega)) ?_
   rintro ⟨r,h2⟩ ⟨er,g2⟩
   simp only at er g2
   subst er
   have S2:=S1.call g2
   by_cases q4 : rowsE cols rows = 0
   ·have P : putOk cols rows:=(putE_zero cols rows).1 (by rw [eE,q4])
    obtain ⟨hc1,hc16⟩:=cols_len P.1
    rw [eE,q4,if_pos rfl]
    with_reducible repeat (first | (apply qzV; simp (disch:=omega) only [zA,bzG3.1,hv2,bz] <;> rfl) | apply qzT | apply qzF | apply qzG | ((first | apply qzB | apply qzC); simp (disch:=omega) only [zA,bzG3.1,hv2,bz] <;> rfl))
    refine Tl.bind (f44c (k:=k + 700) (N:=cols.length) (R.grow S2.grow) (by omega) (by omega) (by omega)) ?_
    rintro ⟨v7,h3⟩ ⟨rs,hrs,S3'⟩
    simp only at S3'
    have S3:=(S2.join S3').permO (O':=(v7,1,outs rs) :: owns rs) (by simp)
    have hlen7 : ∀ h',pLen prog #[23] v7 h' = some (.int .i64 cols.length):=fun h'=>by
     have:=(S3.slV 0 rfl).len u23 (h':=h')
     rwa [outs_len,← rowsOf_len,hrs,List.length_map,List.length_range] at this
    with_reducible repeat (first | (apply qzV; simp (disch:=omega) only [zA,bzG3.1,hlen7] <;> rfl) | apply qzT | apply qzF | apply qzG | ((first | apply qzB | apply qzC); simp (disch:=omega) only [zA,bzG3.1,hlen7] <;> rfl))
    refine f11_loop C P hrs hk cols.length (i:=0) (by omega) (by omega) (S3.nil 1) fun h' ov y1 y2 y3 y4 y5 S4=>?_
    exact ⟨_,rfl,ov,rfl,S4.subO (.cons_cons _ (List.nil_sublist _))⟩
   ·have es : (if rowsE cols rows = 0 then segsL cols rows else []) = []:=if_neg q4
    rw [eE,es]
    with_reducible repeat (first | (apply qzV; simp (disch:=omega) only [zA,bzG3.1,q4] <;> rfl) | apply qzT | apply qzF | apply qzG | ((first | apply qzB | apply qzC); simp (disch:=omega) only [zA,bzG3.1,q4] <;> rfl))
    exact ⟨_,rfl,_,rfl,S2.nil 1⟩
 ·have eE : putE cols rows = colsE cols:=by unfold putE; rw [if_neg q]
  have es : (if colsE cols = 0 then segsL cols rows else []) = []:=if_neg q
  rw [eE,es]
  with_reducible repeat (first | (apply qzV; simp (disch:=omega) only [zA,bzG3.1,q] <;> rfl) | apply qzT | apply qzF | apply qzG | ((first | apply qzB | apply qzC); simp (disch:=omega) only [zA,bzG3.1,q] <;> rfl))
  exact ⟨_,rfl,_,rfl,S1.nil 1⟩
end Go.Proofs.YtlbmlncdjkdoaaaGreat.Sh
/- Groups: heads, what a segment may be, 'group.Zones' of what was put. -/
set_option linter.unusedVariables false
set_option linter.unusedSimpArgs false
set_option maxRecDepth 100000
namespace Go.Proofs.YtlbmlncdjkdoaaaGreat.Sh
open Go Go.RowKit Go.Proofs.Ev
open Tryz (prog)
theorem aggCo (c : ColD) : Value.agg (colrow c).toArray = colv c:=rfl
def bzG4:=PLift.up (ai @ld3 (ai @ld4 (ai @ld9 (ai @ld39 (ai @ld73 (ai @ld53 (ai @fa73_1 (ai @fa73_2 (ai @fa53_0 (ai @fa53_1 (ai @aggC (ai @aggZ (ai @ex3_0 (ai @ex3_1 (ai @ex3_2 (ai @aggCo (@Nat.add_zero)))))))))))))))))
theorem f51c {k : Nat} {h : AH} {cv sv : Value} {cols : List ColD} {segs : List ByteArray} (C : Cols h cv cols) (hcl : cols.length ≤ 9223372036854775807) (S : Strs h sv segs) :
  Tl (eInv env (k + 202) (.func 51) #[] #[cv,sv] h) fun r=>r.1 = .int .i64 (if colsE cols = 0 then (if segs.length = cols.length then 0 else 4) else colsE cols) ∧ Grow h r.2:=by
 rw [F51_call]
 unfold F51
 have hv : ∀ h',pLen prog #[27] sv h' = some (.int .i64 segs.length):=fun h'=>S.len
 have hv2 : ∀ h',pLen prog #[22] cv h' = some (.int .i64 cols.length):=fun h'=>C.len
 refine Tl.bind (f42x (k:=k) C hcl) ?_
 rintro ⟨r,h1⟩ ⟨er,g1⟩
 simp only at er g1
 subst er
 by_cases q : colsE cols = 0
 ·rw [if_pos q]
  by_cases q2 : segs.length = cols.length
  ·rw [if_pos q2]
   with_reducible repeat (first | (apply qzV; simp (disch:=omega) only [zA,bzG4.1,q,hv,hv2] <;> rfl) | apply qzT | apply qzF | (apply qzB; simp (disch:=omega) only [zA,bzG4.1,q,hv,hv2] <;> rfl))
   exact ⟨_,rfl,rfl,g1⟩
  ·rw [if_neg q2]
   with_reducible repeat (first | (apply qzV; simp (disch:=omega) only [zA,bzG4.1,q,hv,hv2] <;> rfl) | apply qzT | apply qzF | (apply qzB; simp (disch:=omega) only [zA,bzG4.1,q,hv,hv2] <;> rfl))
   exact ⟨_,rfl,rfl,g1⟩
 ·rw [if_neg q]
  with_reducible repeat (first | (apply qzV; simp (disch:=omega) only [zA,bzG4.1,q] <;> rfl) | apply qzT | apply qzF | (apply qzB; simp (disch:=omega) only [zA,bzG4.1,q] <;> rfl))
  exact ⟨_,rfl,rfl,g1⟩
theorem f53t {k : Nat} (c : ColD) (nul n : Int) (h : AH) (hn : c.null = true ∨ nul = 0) (h1 : 1 ≤ n) (h2 : n ≤ 64) :
  Tl (eInv env (k + 1) (.func 53) #[] #[colv c,.int .i64 c.kind,.int .i64 nul,.int .i64 n,.int .i64 n] h) fun r=>r.1 = .bool true ∧ Grow h r.2:=by
 rw [F53_call]
 unfold F53
 refine Tl.box' (Stt.init h) rfl (by rw [sz73]; rfl) fun b5 h1 S1 _=>?_
 have S1 : Stt prog h.n h h1 [(b5,.cells (colrow c) 73 true)] []:=S1
 have d1 : h1.cell b5 1 = some (.int .i64 c.kind):=S1.cell 0 rfl rfl
 have d2 : h1.cell b5 2 = some (.bool c.null):=S1.cell 0 rfl rfl
 simp only [G53_1]
 cases q : c.null with
 | true =>
  rw [q] at d2
  with_reducible repeat (first | (apply qzV; simp (disch:=omega) only [zA,bzG4.1,d1,d2] <;> rfl) | apply qzT | apply qzF | apply qzG | ((first | apply qzB | apply qzC); simp (disch:=omega) only [zA,bzG4.1,d1,d2] <;> rfl))
  exact ⟨_,rfl,rfl,S1.grow⟩
 | false =>
  rw [q] at d2
  have hn : nul = 0:=hn.resolve_left (by rw [q]; simp)
  with_reducible repeat (first | (apply qzV; simp (disch:=omega) only [zA,bzG4.1,d1,d2] <;> rfl) | apply qzT | apply qzF | apply qzG | ((first | apply qzB | apply qzC); simp (disch:=omega) only [zA,bzG4.1,d1,d2] <;> rfl))
  exact ⟨_,rfl,rfl,S1.grow⟩
theorem bsZ (z : ZoneD) (h : AH) : pBuildSlice prog 49 1 #[(0,zv z)] h = some (.slice (some ⟨h.n,0,none⟩) 1 1,h.alloc (.cells (zl z) 53 true)):=by kernel_rfl
theorem appZ : AppT prog #[49,49] 53 8 80:=⟨by kernel_rfl,⟨53,by kernel_rfl⟩,by kernel_rfl,by omega,by kernel_rfl,⟨_,ze53,rfl,rfl⟩⟩
def zsL (cols : List ColD) (rows : List (List CellD)) : List ZoneD:=(List.range cols.length).map fun c=>ofZ (colL rows c)
theorem zsL_len (cols : List ColD) (rows : List (List CellD)) : (zsL cols rows).length = cols.length:=by simp [zsL]
theorem zsL_at {cols : List ColD} {rows : List (List CellD)} {c : Nat} (h : c < cols.length) : (zsL cols rows)[c]? = some (ofZ (colL rows c)):=by simp [zsL,h]
theorem col_in {rows : List (List CellD)} (hi : ∀ r ∈ rows,∀ x ∈ r,cellR x) (c : Nat) : ∀ x ∈ colL rows c,i64in x.i:=fun x hx=>by
 obtain ⟨r,hr,rfl⟩:=List.mem_map.1 hx
 cases q : r[c]? with
 | none=>exact ⟨by decide,by decide⟩
 | some y=>exact hi r hr y (List.mem_of_getElem? q)
theorem f23_loop {β : Type} {k : Nat} {Q : β→Prop} {h0 : AH} {cv sv : Value} {cols : List ColD} {rows : List (List CellD)} (C : Cols h0 cv cols) (V : Strs h0 sv (segsL cols rows)) (P : putOk cols rows) (hr : ∀ r ∈ rows,∀ x ∈ r,cellR x) (hk' : 60000 < k)
  {ke0 : Value→Value→Value→Value→Value→Value→AH→Option β} {kr : Value→Value→AH→Option β} (n : Nat) :
  ∀ {i j : Nat} {h : AH} {ov : Value},i + n = cols.length→n < j→Stt prog h0.n h0 h [] [(ov,8,((zsL cols rows).take i).map zl)] →
   (∀ h' ov y1 y2 y3 y4 y5,Stt prog h0.n h0 h' [] [(ov,8,(zsL cols rows).map zl)]→Tl (ke0 y1 ov y2 y3 y4 y5 h') Q) →
   Tl (F23_lrlrrr (eInv env (k + 2001)) (k + 2001) j cv ov sv (.int .i64 cols.length) (.int .i64 i) h ke0 kr) Q:=by
 obtain ⟨hc1,hc16⟩:=cols_len P.1
 have hsl:=segsL_len cols rows
 have hzl:=zsL_len cols rows
 induction n with
 | zero =>
  intro i j h ov hi hj S hk
  obtain ⟨j,rfl⟩ : ∃ q,j = q + 1:=⟨j - 1,by omega⟩
  simp only [F23_lrlrrr]
  with_reducible repeat (first | (apply qzV; simp (disch:=omega) only [zA,bzG4.1] <;> rfl) | apply qzT | apply qzF | (apply qzB; simp (disch:=omega) only [zA,bzG4.1] <;> rfl))
  rw [List.take_of_length_le (by omega)] at S
  exact hk _ _ _ _ _ _ _ S
 | succ n ih =>
  intro i j h ov hi hj S hk
  obtain ⟨j,rfl⟩ : ∃ q,j = q + 1:=⟨j - 1,by omega⟩
  obtain ⟨c,ec⟩ : ∃ x,cols[i]? = some x:=⟨_,List.getElem?_eq_getElem (by omega)⟩
  obtain ⟨b,o,hp,hc⟩:=V.at_ (k:=.i64) (segsL_at (rows:=rows) (show i < cols.length by omega))
  have hc:=hc _ S.grow
  obtain ⟨k1,k2,k3,k4⟩:=col_ok P ec
  have h64:=P.2.1
  have hlen:=colL_len rows i
  have e : (i : Int) + 1 = ((i + 1 : Nat) : Int):=by omega
  have hb:=segB_256 (segE_zero.1 k2).1 (colL rows i)
  have hbl:=seg_len64 k2 (by omega) k3
  have o1:=open_put k2 (col_in hr i) []
  rw [List.append_nil] at o1
  obtain ⟨n1,n2,n3⟩:=nul_zero (l:=colL rows i) (by omega)
  rw [hlen] at n1
  simp only [F23_lrlrrr]
  unfold segAt at hc
  rw [k1] at hc
  with_reducible repeat (first | (apply qzV; simp (disch:=omega) only [zA,bzG4.1,hp,hc] <;> rfl) | apply qzT | apply qzF | (apply qzB; simp (disch:=omega) only [zA,bzG4.1,hp,hc] <;> rfl))
  refine Tl.bind (f52c (k:=k) hb (by omega) (by omega)) ?_
  rintro ⟨r,h3⟩ ⟨⟨kd,lz,z1,rest,ho,er⟩ | ⟨ho,er⟩,g3⟩
  rotate_left
  ·rw [o1] at ho; cases ho
  rw [o1] at ho
  cases ho
  simp only at er g3
  subst er
  have S3:=S.call g3
  with_reducible repeat (first | (apply qzV; simp (disch:=omega) only [zA,bzG4.1] <;> rfl) | apply qzT | apply qzF | (apply qzB; simp (disch:=omega) only [zA,bzG4.1] <;> rfl))
  refine Tl.alloc' S3 ze53 rfl fun b11 h4 S4 _=>?_
  refine Tl.store' S4 0 rfl sz53 rfl rfl (of_decide_eq_true rfl) fun h5 S5 _=>?_
  have S5 : Stt prog h0.n h0 h5 [Zr b11 (ofZ (colL rows i))] [(ov,8,((zsL cols rows).take i).map zl)]:=S5
  have r5:=(z_at S5 0 rfl).all
  with_reducible repeat (first | (apply qzV; simp (disch:=omega) only [zA,bzG4.1,r5] <;> rfl) | apply qzT | apply qzF | (apply qzB; simp (disch:=omega) only [zA,bzG4.1,r5] <;> rfl))
  refine Tl.push S5 0 rfl appZ (bsZ _ _) rfl rfl (by rw [List.length_map,List.length_take]; omega) fun ov' h6 S6=>?_
  have e2 : (zsL cols rows).take (i + 1) = (zsL cols rows).take i ++ [ofZ (colL rows i)]:=by
   rw [List.take_add_one,zsL_at (by omega)]; rfl
  have S6 : Stt prog h0.n h0 h6 [Zr b11 (ofZ (colL rows i))] [(ov',8,((zsL cols rows).take (i + 1)).map zl)]:=by rw [e2,List.map_append]; exact S6
  have z6:=z_at S6 0 rfl
  have c6:=z6.cnt
  have m6:=z6.nul
  rw [n1] at c6
  obtain ⟨bc,oc,hpc,hrowc⟩:=(C.grow S6.grow).at_ ec
  have hz0 : ((zsL cols rows).take (i + 1)).map zl = zl (ofZ (colL rows 0)) :: (((zsL cols rows).take (i + 1)).map zl).drop 1:=by
   have q0 : (((zsL cols rows).take (i + 1)).map zl)[0]? = some (zl (ofZ (colL rows 0))):=by
    rw [List.getElem?_map,List.getElem?_take_of_lt (by omega),zsL_at (by omega)]; rfl
   have:=drop_at q0
   rwa [List.drop_zero] at this
  obtain ⟨bo,oo,hpo,hrowo⟩:=(S6.slV 0 rfl).at_ (t:=49) (k:=.i64) (i:=0) (r:=zl (ofZ (colL rows 0))) (by rw [hz0]; rfl) u49 sz53
  have f0:=Ev.cell_of_row (j:=0) hrowo (by omega)
  rw [Nat.add_zero] at f0
  have f0 : h6.cell bo oo = some (.int .i64 rows.length):=by
   rw [f0]
   have:=(nul_zero (l:=colL rows 0) (by rw [colL_len]; omega)).1
   rw [colL_len] at this
   simp only [zl,this]
   rfl
  have hpo : pIndexAddr prog 49 ov' (.int .i64 0) = some (.pointer (some ⟨bo,oo,none⟩)):=hpo
  simp only [G23_12]
  with_reducible repeat (first | (apply qzV; simp (disch:=omega) only [zA,bzG4.1,hpc,hrowc,m6,c6,hpo,f0] <;> rfl) | apply qzT | apply qzF | (apply qzB; simp (disch:=omega) only [zA,bzG4.1,hpc,hrowc,m6,c6,hpo,f0] <;> rfl))
  with_reducible refine Tl.call' S6 (f53t (k:=k + 2000) c (ofZ (colL rows i)).nul rows.length h6 ?_ (by omega) (by omega)) fun h7 S7 _=>?_
  ·cases q : c.null with
   | true=>exact .inl rfl
   | false=>exact .inr (n3 (k4 q))
  with_reducible repeat (first | (apply qzV; simp (disch:=omega) only [zA,bzG4.1] <;> rfl) | apply qzT | apply qzF | (apply qzB; simp (disch:=omega) only [zA,bzG4.1] <;> rfl))
  rw [e]
  exact ih (by omega) (by omega) S7.drop hk
theorem f23c {k : Nat} {h : AH} {cv sv : Value} {cols : List ColD} {rows : List (List CellD)} (C : Cols h cv cols) (V : Strs h sv (segsL cols rows)) (P : putOk cols rows) (hr : ∀ r ∈ rows,∀ x ∈ r,cellR x) (hk : 60000 < k) :
  Tl (eInv env (k + 2002) (.func 23) #[] #[cv,sv] h) fun r=>∃ o,r.1 = .tuple #[o,.int .i64 0] ∧ Stt prog h.n h r.2 [] [(o,8,(zsL cols rows).map zl)]:=by
 rw [F23_call]
 unfold F23
 obtain ⟨hc1,hc16⟩:=cols_len P.1
 have hv : ∀ h',pLen prog #[27] sv h' = some (.int .i64 cols.length):=fun h'=>by
  have:=V.len (h':=h')
  rwa [segsL_len] at this
 refine Tl.bind (f51c (k:=k + 1799) C (by omega) V) ?_
 rintro ⟨r,h1⟩ ⟨er,g1⟩
 simp only at er g1
 subst er
 rw [if_pos P.1,if_pos (segsL_len cols rows)]
 have S1:=(Stt.init (P:=prog) h).call g1
 with_reducible repeat (first | (apply qzV; simp (disch:=omega) only [zA,bzG4.1,hv] <;> rfl) | apply qzT | apply qzF | (apply qzB; simp (disch:=omega) only [zA,bzG4.1,hv] <;> rfl))
 exact f23_loop C V P hr hk cols.length (i:=0) (by omega) (by omega) (S1.nil 8) fun h' ov y1 y2 y3 y4 y5 S=>⟨_,rfl,ov,rfl,S⟩
end Go.Proofs.YtlbmlncdjkdoaaaGreat.Sh
/- 'GroupJoins' comes to true. -/
set_option linter.unusedVariables false
set_option linter.unusedSimpArgs false
set_option maxRecDepth 100000
namespace Go.Proofs.YtlbmlncdjkdoaaaGreat.Sh
open Go Go.RowKit Go.Proofs.Ev
open Tryz (prog)
def bzG5:=PLift.up (ai @ld3 (ai @ld53 (ai @fa53_0 (ai @aggZ (ai @ex2_0 (ai @ex2_1 (@Nat.add_zero)))))))
theorem All2.takeK {α γ : Type} {R : α→γ→Prop} (i : Nat) : ∀ {l : List α} {m : List γ},All2 R l m→All2 R (l.take i) (m.take i):=by
 induction i with
 | zero=>intro l m _; simp only [List.take_zero]; trivial
 | succ i ih =>
  intro l m h
  match l,m,h with
  | [],[],_=>trivial
  | a :: l,b :: m,h=>exact ⟨h.1,ih h.2⟩
theorem All2.dropK {α γ : Type} {R : α→γ→Prop} (i : Nat) : ∀ {l : List α} {m : List γ},All2 R l m→All2 R (l.drop i) (m.drop i):=by
 induction i with
 | zero=>intro l m h; exact h
 | succ i ih =>
  intro l m h
  match l,m,h with
  | [],[],_=>trivial
  | a :: l,b :: m,h=>exact ih h.2
theorem Rows.takeK {h : AH} {v : Value} {l : List (List CellD)} (B : Rows h v l) {i : Nat} (hi : i ≤ l.length) : ∃ v',(∀ h',pSlice prog 23 v none (some (.int .i64 i)) none h' = some v') ∧ Rows h v' (l.take i):=by
 obtain ⟨vs,X,A⟩:=B
 obtain ⟨v',h1,h2,_⟩:=X.take (k:=.i64) u23 sz34 (i:=i) (by rw [List.length_map,A.len]; exact hi)
 exact ⟨v',h1,vs.take i,by rw [List.map_take]; exact h2,A.takeK i⟩
theorem Rows.dropK {h : AH} {v : Value} {l : List (List CellD)} (B : Rows h v l) (Z : SzV prog h v 1) (hne : l ≠ []) {i : Nat} (hi : i ≤ l.length) : ∃ v',(∀ h',Grow h h'→pSlice prog 23 v (some (.int .i64 i)) none none h' = some v') ∧ Rows h v' (l.drop i):=by
 obtain ⟨vs,X,A⟩:=B
 rcases X with X | ⟨e,_⟩
 ·obtain ⟨v',h1,h2⟩:=X.dropK (k:=.i64) Z u23 sz34 (i:=i) (by rw [List.length_map,A.len]; exact hi)
  exact ⟨v',h1,vs.drop i,by rw [List.map_drop]; exact h2.z,A.dropK i⟩
 ·have:=A.len
  rw [List.map_eq_nil_iff.1 e] at this
  exact absurd (List.eq_nil_of_length_eq_zero this.symm) hne
def lightG (cols : List ColD) (rows : List (List CellD)) : Bool:=lightC cols && lightRs rows 70
theorem lightG_all {cols : List ColD} {rows : List (List CellD)} (h : lightG cols rows = true) : cols.length ≤ 20 ∧ rows.length ≤ 70 ∧ ∀ r ∈ rows,r.length ≤ 20:=by
 unfold lightG lightC lightRs lightR at h
 simp only [Bool.and_eq_true,decide_eq_true_eq,List.all_eq_true] at h
 obtain ⟨⟨_,h1⟩,h2,h3⟩:=h
 exact ⟨h1,by omega,fun r hr=>(h2 r hr).2⟩
theorem f10e {k : Nat} {h : AH} {cv rv : Value} {cols : List ColD} {rows : List (List CellD)} (C : Cols h cv cols) (R : Rows h rv rows)
  (hcl : cols.length ≤ 9223372036854775807 ∧ cols.length < k + 2) (hrl : rows.length ≤ 9223372036854775807 ∧ rows.length < k + 2) (hls : ∀ r ∈ rows,r.length ≤ 9223372036854775807 ∧ r.length < k + 1) :
  eInv env (k + 4) (.func 10) #[] #[cv,rv] h = some (.bool (lightG cols rows),h):=by
 rw [F10_call]
 have p1:=f17c (k:=k + 2) C hcl.1 hcl.2
 have p2:=f18c (k:=k + 1) 70 R hrl.1 hls hrl.2
 have T : Tl (F10 (eInv env (k + 3)) (k + 3) cv rv h) fun r=>r = (.bool (lightG cols rows),h):=by
  unfold F10 lightG
  cases q1 : lightC cols with
  | false =>
   rw [q1] at p1
   with_reducible repeat (first | (apply qzV; simp (disch:=omega) only [zA,bzG5.1,p1] <;> rfl) | apply qzT | apply qzF | apply qzG | ((first | apply qzB | apply qzC); simp (disch:=omega) only [zA,bzG5.1,p1] <;> rfl))
   exact ⟨_,rfl,rfl⟩
  | true =>
   rw [q1] at p1
   with_reducible repeat (first | (apply qzV; simp (disch:=omega) only [zA,bzG5.1,p1,p2] <;> rfl) | apply qzT | apply qzF | apply qzG | ((first | apply qzB | apply qzC); simp (disch:=omega) only [zA,bzG5.1,p1,p2] <;> rfl))
   exact ⟨_,rfl,rfl⟩
 obtain ⟨r,h1,h2⟩:=T
 rw [h1,h2]
/-- The zone of rows together is that of both parts. -/
theorem cut_zone {rows : List (List CellD)} (k c : Nat) (hl : rows.length ≤ 64) : joinZ (ofZ (colL (rows.take k) c)) (ofZ (colL (rows.drop k) c)) = ofZ (colL rows c):=by
 rw [joinZ_of _ _ (by rw [colL_len,List.length_take]; omega) (by rw [colL_len,List.length_drop]; omega),← colL_app,List.take_append_drop]
theorem f5_loop {β : Type} {k : Nat} {Q : β→Prop} {h0 : AH} {rv v1 v2 v3 : Value} {cols : List ColD} {rows : List (List CellD)} {p : Nat} (R : Rows h0 rv rows) (hl : rows.length ≤ 64) (hcl : cols.length ≤ 16)
  (Z1 : SlV prog h0 v1 8 ((zsL cols rows).map zl)) (Z2 : SlV prog h0 v2 8 ((zsL cols (rows.take p)).map zl)) (Z3 : SlV prog h0 v3 8 ((zsL cols (rows.drop p)).map zl))
  {ke0 : Value→Value→Value→Value→Value→Value→AH→Option β} {kr : Value→AH→Option β} (n : Nat) :
  ∀ {i j : Nat} {h : AH},i + n = cols.length→n < j→Stt prog h0.n h0 h [] []→(∀ y1 y2 y3 y4 y5 y6 h',Tl (ke0 y1 y2 y3 y4 y5 y6 h') Q) →
   Tl (F5_lrlrrrrrrrrrrrr (eInv env (k + 12)) (k + 12) j rv v1 v2 v3 (.int .i64 i) h ke0 kr) Q:=by
 have hv : ∀ h',pLen prog #[49] v1 h' = some (.int .i64 cols.length):=fun h'=>by
  have:=Z1.len u49 (h':=h')
  rwa [List.length_map,zsL_len] at this
 have hv2 : ∀ h',pLen prog #[23] rv h' = some (.int .i64 rows.length):=fun h'=>R.len
 induction n with
 | zero =>
  intro i j h hi hj S hk
  obtain ⟨j,rfl⟩ : ∃ q,j = q + 1:=⟨j - 1,by omega⟩
  simp only [F5_lrlrrrrrrrrrrrr]
  with_reducible repeat (first | (apply qzV; simp (disch:=omega) only [zA,bzG5.1,hv] <;> rfl) | apply qzT | apply qzF | apply qzG | apply qzH | ((first | apply qzB | apply qzC | apply qzD); simp (disch:=omega) only [zA,bzG5.1,hv] <;> rfl))
  exact hk _ _ _ _ _ _ _
 | succ n ih =>
  intro i j h hi hj S hk
  obtain ⟨j,rfl⟩ : ∃ q,j = q + 1:=⟨j - 1,by omega⟩
  have e : (i : Int) + 1 = ((i + 1 : Nat) : Int):=by omega
  have at_ : ∀ {rs : List (List CellD)},((zsL cols rs).map zl)[i]? = some (zl (ofZ (colL rs i))):=fun {rs}=>by
   rw [List.getElem?_map,zsL_at (by omega)]; rfl
  obtain ⟨b1,o1,hp1,hr1⟩:=(Z1.grow S.grow).at_ (t:=49) (k:=.i64) at_ u49 sz53
  obtain ⟨b2,o2,hp2,hr2⟩:=(Z2.grow S.grow).at_ (t:=49) (k:=.i64) at_ u49 sz53
  obtain ⟨b3,o3,hp3,hr3⟩:=(Z3.grow S.grow).at_ (t:=49) (k:=.i64) at_ u49 sz53
  have nz : ∀ (z : ZoneD) x y,pBin prog .neq 53 x y (zv z) (zv z) = some (.bool false):=fun z x y=>by rw [neqZ]; simp
  simp only [F5_lrlrrrrrrrrrrrr,G5_19]
  with_reducible repeat (first | (apply qzV; simp (disch:=omega) only [zA,bzG5.1,hv,hp1,hr1,hp2,hr2,hp3,hr3] <;> rfl) | apply qzT | apply qzF | apply qzG | apply qzH | ((first | apply qzB | apply qzC | apply qzD); simp (disch:=omega) only [zA,bzG5.1,hv,hp1,hr1,hp2,hr2,hp3,hr3] <;> rfl))
  with_reducible refine Tl.call' S (f24c (k:=k) (ofZ (colL (rows.take p) i)) (ofZ (colL (rows.drop p) i)) h) fun h2 S2 g2=>?_
  rw [cut_zone p i hl]
  have hr4:=g2.row hr1
  have c4:=Ev.cell_of_row (j:=0) hr4 (by omega)
  rw [Nat.add_zero] at c4
  have c4 : h2.cell b1 o1 = some (.int .i64 rows.length):=by
   rw [c4]
   have:=(nul_zero (l:=colL rows i) (by rw [colL_len]; omega)).1
   rw [colL_len] at this
   simp only [zl,this]
   rfl
  with_reducible repeat (first | (apply qzV; simp (disch:=omega) only [zA,bzG5.1,nz,hp1,c4,hv2] <;> rfl) | apply qzT | apply qzF | apply qzG | apply qzH | ((first | apply qzB | apply qzC | apply qzD); simp (disch:=omega) only [zA,bzG5.1,nz,hp1,c4,hv2] <;> rfl))
  with_reducible refine Tl.chk ?_ ?_
  ·simp only [ld53,hr1,hr4,Option.map_some,aggZ,sameO_some,sameZ,Bool.and_self,Bool.not_true,Bool.or_true,Bool.true_and,Bool.false_or]
  with_reducible repeat (first | (apply qzV; simp (disch:=omega) only [zA,bzG5.1] <;> rfl) | apply qzT | apply qzF | apply qzG | apply qzH | ((first | apply qzB | apply qzC | apply qzD); simp (disch:=omega) only [zA,bzG5.1] <;> rfl))
  rw [e]
  exact ih (by omega) (by omega) S2 hk
theorem f5 {k : Nat} {h : AH} {cv rv : Value} {cols : List ColD} {rows : List (List CellD)} {cut : Int} (C : Cols h cv cols) (R : Rows h rv rows) (Z : rows ≠ []→SzV prog h rv 1) (hcut : -9223372036854775808 ≤ cut ∧ cut ≤ 9223372036854775807) (hk : 60000 < k)
  (hcl : cols.length ≤ 9223372036854775807 ∧ cols.length < k) (hrl : rows.length ≤ 9223372036854775807 ∧ rows.length < k) (hls : ∀ r ∈ rows,r.length ≤ 9223372036854775807 ∧ r.length < k) (hr : ∀ r ∈ rows,∀ x ∈ r,cellR x) :
  Tl (F5 (eInv env (k + 2100)) (k + 2100) cv rv (.int .i64 cut) h) fun r=>r.1 = .bool true:=by
 unfold F5
 have hlv:=lives_call (k:=k + 2099) (h:=h)
 have elt:=f10e (k:=k + 2096) C R ⟨hcl.1,by omega⟩ ⟨hrl.1,by omega⟩ (fun r hr=>⟨(hls r hr).1,by have:=(hls r hr).2; omega⟩)
 have hv : ∀ h',pLen prog #[23] rv h' = some (.int .i64 rows.length):=fun h'=>R.len
 have hv2 : ∀ h',pLen prog #[22] cv h' = some (.int .i64 cols.length):=fun h'=>C.len
 simp only [G5_3]
 cases ql : lightG cols rows
 ·rw [ql] at elt
  with_reducible repeat (first | (apply qzV; simp (disch:=omega) only [zA,bzG5.1,hlv,elt] <;> rfl) | apply qzT | apply qzF | apply qzG | apply qzH | ((first | apply qzB | apply qzC | apply qzD); simp (disch:=omega) only [zA,bzG5.1,hlv,elt] <;> rfl))
  exact ⟨_,rfl,rfl⟩
 rw [ql] at elt
 obtain ⟨lc,lr,lrr⟩:=lightG_all ql
 by_cases q2 : rows.length < 2
 ·with_reducible repeat (first | (apply qzV; simp (disch:=omega) only [zA,bzG5.1,hlv,elt,hv] <;> rfl) | apply qzT | apply qzF | apply qzG | apply qzH | ((first | apply qzB | apply qzC | apply qzD); simp (disch:=omega) only [zA,bzG5.1,hlv,elt,hv] <;> rfl))
  exact ⟨_,rfl,rfl⟩
 with_reducible repeat (first | (apply qzV; simp (disch:=omega) only [zA,bzG5.1,hlv,elt,hv] <;> rfl) | apply qzT | apply qzF | apply qzG | apply qzH | ((first | apply qzB | apply qzC | apply qzD); simp (disch:=omega) only [zA,bzG5.1,hlv,elt,hv] <;> rfl))
 have S0:=Stt.init (P:=prog) h
 refine Tl.bind (f11c (k:=k + 1398) C R hcl.1 hrl.1 (fun r hr=>(hls r hr).1) hr (by omega)) ?_
 rintro ⟨r,h1⟩ ⟨lv,er,S1⟩
 simp only at er S1
 subst er
 by_cases qe : putE cols rows = 0
 rotate_left
 ·rw [if_neg qe] at S1
  have hl0 : ∀ h',pLen prog #[27] lv h' = some (.int .i64 0):=fun h'=>(S1.slV 0 rfl).len u27
  with_reducible repeat (first | (apply qzV; simp (disch:=omega) only [zA,bzG5.1,qe,hl0] <;> rfl) | apply qzT | apply qzF | apply qzG | apply qzH | ((first | apply qzB | apply qzC | apply qzD); simp (disch:=omega) only [zA,bzG5.1,qe,hl0] <;> rfl))
  exact ⟨_,rfl,rfl⟩
 rw [if_pos qe] at S1
 have P:=(putE_zero cols rows).1 qe
 obtain ⟨c1,c16⟩:=cols_len P.1
 have h64:=P.2.1
 have e1 : ((rows.length : Int) - 1) = ((rows.length - 1 : Nat) : Int):=by omega
 obtain ⟨p,hp,epk⟩:=f15c (k:=k + 2099) cut hcut (n:=rows.length - 1) (by omega) (by omega) h1
 have e2 : ((1 : Int) + (p : Int)) = ((1 + p : Nat) : Int):=by omega
 obtain ⟨va,hsa,Ra⟩:=(R.grow S1.grow).takeK (i:=1 + p) (by omega)
 have hne : rows ≠ []:=fun e=>by rw [e] at q2; simp at q2
 obtain ⟨vb,hsb,Rb⟩:=R.dropK (Z hne) hne (i:=1 + p) (by omega)
 have Pa : putOk cols (rows.take (1 + p)):=putOk_sub P (fun r hr=>List.mem_of_mem_take hr) (by rw [List.length_take]; omega) (by rw [List.length_take]; omega)
 have Pb : putOk cols (rows.drop (1 + p)):=putOk_sub P (fun r hr=>List.mem_of_mem_drop hr) (by rw [List.length_drop]; omega) (by rw [List.length_drop]; omega)
 have ra : ∀ r ∈ rows.take (1 + p),∀ x ∈ r,cellR x:=fun r hm=>hr r (List.mem_of_mem_take hm)
 have rb : ∀ r ∈ rows.drop (1 + p),∀ x ∈ r,cellR x:=fun r hm=>hr r (List.mem_of_mem_drop hm)
 with_reducible repeat (first | (apply qzV; simp (disch:=omega) only [zA,bzG5.1,qe,hv,e1,epk,e2,hsa] <;> rfl) | apply qzT | apply qzF | apply qzG | apply qzH | ((first | apply qzB | apply qzC | apply qzD); simp (disch:=omega) only [zA,bzG5.1,qe,hv,e1,epk,e2,hsa] <;> rfl))
 refine Tl.bind (f11c (k:=k + 1398) (C.grow S1.grow) Ra hcl.1 (by rw [List.length_take]; omega) (fun r hr=>(hls r (List.mem_of_mem_take hr)).1) ra (by omega)) ?_
 rintro ⟨r,h2⟩ ⟨av,er,S2'⟩
 simp only at er S2'
 subst er
 rw [(putE_zero _ _).2 Pa,if_pos rfl] at S2'
 rw [(putE_zero _ _).2 Pa]
 have S2:=S1.join S2'
 have hsb2:=hsb h2 S2.grow
 with_reducible repeat (first | (apply qzV; simp (disch:=omega) only [zA,bzG5.1,hsb2] <;> rfl) | apply qzT | apply qzF | apply qzG | apply qzH | ((first | apply qzB | apply qzC | apply qzD); simp (disch:=omega) only [zA,bzG5.1,hsb2] <;> rfl))
 refine Tl.bind (f11c (k:=k + 1398) (C.grow S2.grow) (Rb.grow S2.grow) hcl.1 (by rw [List.length_drop]; omega) (fun r hr=>(hls r (List.mem_of_mem_drop hr)).1) rb (by omega)) ?_
 rintro ⟨r,h3⟩ ⟨bv,er,S3'⟩
 simp only at er S3'
 subst er
 rw [(putE_zero _ _).2 Pb,if_pos rfl] at S3'
 rw [(putE_zero _ _).2 Pb]
 have S3:=S2.join S3'
 have S3 : Stt prog h.n h h3 [] [(bv,1,srows (segsL cols (rows.drop (1 + p)))),(av,1,srows (segsL cols (rows.take (1 + p)))),(lv,1,srows (segsL cols rows))]:=S3
 with_reducible repeat (first | (apply qzV; simp (disch:=omega) only [zA,bzG5.1] <;> rfl) | apply qzT | apply qzF | apply qzG | apply qzH | ((first | apply qzB | apply qzC | apply qzD); simp (disch:=omega) only [zA,bzG5.1] <;> rfl))
 refine Tl.bind (f23c (k:=k + 98) (C.grow S3.grow) (Stt.strs S3 2 rfl) P hr (by omega)) ?_
 rintro ⟨r,h4⟩ ⟨xv,er,S4'⟩
 simp only at er S4'
 subst er
 have S4:=S3.join S4'
 have S4 : Stt prog h.n h h4 [] ((xv,8,(zsL cols rows).map zl) :: [(bv,1,srows (segsL cols (rows.drop (1 + p)))),(av,1,srows (segsL cols (rows.take (1 + p)))),(lv,1,srows (segsL cols rows))]):=S4
 with_reducible repeat (first | (apply qzV; simp (disch:=omega) only [zA,bzG5.1] <;> rfl) | apply qzT | apply qzF | apply qzG | apply qzH | ((first | apply qzB | apply qzC | apply qzD); simp (disch:=omega) only [zA,bzG5.1] <;> rfl))
 refine Tl.bind (f23c (k:=k + 98) (C.grow S4.grow) (Stt.strs S4 2 rfl) Pa ra (by omega)) ?_
 rintro ⟨r,h5⟩ ⟨yv,er,S5'⟩
 simp only at er S5'
 subst er
 have S5:=S4.join S5'
 have S5 : Stt prog h.n h h5 [] ((yv,8,(zsL cols (rows.take (1 + p))).map zl) :: (xv,8,(zsL cols rows).map zl) :: [(bv,1,srows (segsL cols (rows.drop (1 + p)))),(av,1,srows (segsL cols (rows.take (1 + p)))),(lv,1,srows (segsL cols rows))]):=S5
 with_reducible repeat (first | (apply qzV; simp (disch:=omega) only [zA,bzG5.1] <;> rfl) | apply qzT | apply qzF | apply qzG | apply qzH | ((first | apply qzB | apply qzC | apply qzD); simp (disch:=omega) only [zA,bzG5.1] <;> rfl))
 refine Tl.bind (f23c (k:=k + 98) (C.grow S5.grow) (Stt.strs S5 2 rfl) Pb rb (by omega)) ?_
 rintro ⟨r,h6⟩ ⟨zv',er,S6'⟩
 simp only at er S6'
 subst er
 have S6:=S5.join S6'
 have S6 : Stt prog h.n h h6 [] ((zv',8,(zsL cols (rows.drop (1 + p))).map zl) :: (yv,8,(zsL cols (rows.take (1 + p))).map zl) :: (xv,8,(zsL cols rows).map zl) :: [(bv,1,srows (segsL cols (rows.drop (1 + p)))),(av,1,srows (segsL cols (rows.take (1 + p)))),(lv,1,srows (segsL cols rows))]):=S6
 have lz : ∀ {v : Value} {rs : List (List CellD)},SlV prog h6 v 8 ((zsL cols rs).map zl)→∀ h',pLen prog #[49] v h' = some (.int .i64 cols.length):=fun {v rs} X h'=>by
  have:=X.len u49 (h':=h')
  rwa [List.length_map,zsL_len] at this
 have l1:=lz (S6.slV 2 rfl)
 have l2:=lz (S6.slV 1 rfl)
 have l3:=lz (S6.slV 0 rfl)
 simp only [G5_14]
 with_reducible repeat (first | (apply qzV; simp (disch:=omega) only [zA,bzG5.1,l1,l2,l3,hv2] <;> rfl) | apply qzT | apply qzF | apply qzG | apply qzH | ((first | apply qzB | apply qzC | apply qzD); simp (disch:=omega) only [zA,bzG5.1,l1,l2,l3,hv2] <;> rfl))
 exact f5_loop (k:=k + 2088) (p:=1 + p) (R.grow S6.grow) (by omega) (by omega) (S6.slV 2 rfl) (S6.slV 1 rfl) (S6.slV 0 rfl) cols.length (i:=0) (by omega) (by omega) (Stt.init h6) fun y1 y2 y3 y4 y5 y6 h'=>⟨_,rfl,rfl⟩
end Go.Proofs.YtlbmlncdjkdoaaaGreat.Sh
/- Cells, rows and predicates that are handed in. -/
set_option linter.unusedVariables false
set_option linter.unusedSimpArgs false
set_option maxRecDepth 100000
namespace Go.Proofs.YtlbmlncdjkdoaaaGreat.Sh
open Go Go.RowKit Go.ChangeShapes Go.WideShapes Go.Proofs.Ev
open Tryz (prog)
theorem fld {H : Type} {enc : TypeId × Value→H} {W : World} {base n : Nat} {sp : Nat→Bool} {held : Bool} {fs : Array Field} {cs : List Value} {xs : List (DataW H × List MemPlace)} (i t o : Nat) (h : (fs[i]?).map (fun f=>(f.type,f.offset)) = some (t,o))
  (hf : ∀ (i : Nat) (f : Field),fs[i]? = some f→DataW.trod enc prog W base sp held n f.type ((cs.drop f.offset).take (prog.cellsOf f.type)) = xs[i]?) : DataW.trod enc prog W base sp held n t ((cs.drop o).take (prog.cellsOf t)) = xs[i]?:=by
 cases hh : fs[i]? with
 | none=>rw [hh] at h; cases h
 | some f =>
  rw [hh] at h
  simp only [Option.map_some,Option.some.injEq,Prod.mk.injEq] at h
  obtain ⟨rfl,rfl⟩:=h
  exact hf i f hh
theorem co3 : prog.cellsOf 3 = 1:=by kernel_rfl
theorem co2 : prog.cellsOf 2 = 1:=by kernel_rfl
theorem co9 : prog.cellsOf 9 = 1:=by kernel_rfl
theorem co39 : prog.cellsOf 39 = 3:=by kernel_rfl
theorem st39 : prog.underlying 39 = some (.struct (prog.fieldsOf 39)):=by kernel_rfl
section
variable {H : Type} {enc : TypeId × Value→H} {W : World} {base b0 fuel : Nat} {held : Bool} {r : Reach} {cs : List Value} {v : Value} {x : DataW H × List MemPlace} {d : DataW H} {ps : List MemPlace} {sp : Nat→Bool}
theorem trod_cell (h : DataW.trod enc prog W base sp held fuel 39 cs = some x) :
  ∃ a : CellD,cs = crow a ∧ a.s.size ≤ maxLen ∧ (Lit.int .i64 a.k).wf = true ∧ (Lit.int .i64 a.i).wf = true:=by
 obtain ⟨xs,n,rfl,rfl,hl,hx,hf⟩:=DataW.trod_struct st39 h
 rw [co39] at hl
 rw [show (prog.fieldsOf 39).size = 3 by kernel_rfl] at hx
 have e0:=fld 0 3 0 (by kernel_rfl) hf
 have e1:=fld 1 2 1 (by kernel_rfl) hf
 have e2:=fld 2 9 2 (by kernel_rfl) hf
 obtain ⟨x0,x1,x2,rfl⟩ : ∃ x0 x1 x2,cs = [x0,x1,x2]:=by
  match cs,hl with
  | [a,b,c],_=>exact ⟨a,b,c,rfl⟩
 obtain ⟨y0,y1,y2,rfl⟩ : ∃ y0 y1 y2,xs = [y0,y1,y2]:=by
  match xs,hx with
  | [a,b,c],_=>exact ⟨a,b,c,rfl⟩
 simp only [co3,co2,co9,List.drop_zero,List.drop_succ_cons,List.take_succ_cons,List.take_zero,List.getElem?_cons_zero,List.getElem?_cons_succ] at e0 e1 e2
 obtain ⟨k,hk,_,w0⟩:=DataW.trod_int u3 e0
 obtain ⟨i,hi,_,w1⟩:=DataW.trod_int u2 e1
 obtain ⟨s,hs,_,w2⟩:=DataW.trod_string u9 e2
 simp only [List.cons.injEq,and_true] at hk hi hs
 subst hk; subst hi; subst hs
 exact ⟨⟨k,i,s⟩,rfl,w2,w0,w1⟩
theorem tame_crow (n : Nat) (a : CellD) : (crow a).map (tame n 8) = crow a:=by simp [crow,tame]
/-- The value of a slice that is handed in is what is trod. -/
theorem slice_form {t e : TypeId} (ht : prog.underlying t = some (.slice e)) (hv : Value.okWide prog W r b0 t v) : v.cells.toList = [v]:=by
 rcases okSlice ht hv with rfl | ⟨a,len,cap,rfl,_⟩ <;> rfl
theorem inner_cells {t : TypeId} (ht : prog.underlying t = some (.slice 39)) (hf : DataW.trod enc prog W base (fun _=>true) held fuel t cs = some x) :
  ∃ v l,cs = [v] ∧ Cells (extHeap W) (tame W.heap.size 8 v) l ∧ l.length ≤ maxLen ∧ ∀ a ∈ l,a.s.size ≤ maxLen ∧ (Lit.int .i64 a.k).wf = true ∧ (Lit.int .i64 a.i).wf = true:=by
 obtain ⟨v,rows,rfl,hZ,hl,hall⟩:=open_inner ht co39 (by omega) hf
 have key : ∀ rows : List (List Value),(∀ q ∈ rows,∃ fuel y,DataW.trod enc prog W base (fun _=>true) held fuel 39 q = some y)→∃ l : List CellD,rows = l.map crow ∧ ∀ a ∈ l,a.s.size ≤ maxLen ∧ (Lit.int .i64 a.k).wf = true ∧ (Lit.int .i64 a.i).wf = true:=by
  intro rows
  induction rows with
  | nil=>intro _; exact ⟨[],rfl,fun a ha=>by cases ha⟩
  | cons q rows ih =>
   intro h
   obtain ⟨f,y,hy⟩:=h q (List.mem_cons_self ..)
   obtain ⟨a,rfl,ha⟩:=trod_cell hy
   obtain ⟨l,rfl,hl⟩:=ih fun q hq=>h q (List.mem_cons_of_mem _ hq)
   refine ⟨a :: l,rfl,fun z hz=>?_⟩
   rcases List.mem_cons.1 hz with rfl | hz
   ·exact ha
   ·exact hl z hz
 obtain ⟨l,rfl,hl2⟩:=key rows hall
 refine ⟨v,l,rfl,?_,by simpa using hl,hl2⟩
 rw [List.map_map,show ((fun q=>List.map (tame W.heap.size 8) q) ∘ crow) = crow from funext fun a=>tame_crow _ a] at hZ
 exact hZ
end
end Go.Proofs.YtlbmlncdjkdoaaaGreat.Sh
/- Columns that are handed in. -/
set_option linter.unusedVariables false
set_option linter.unusedSimpArgs false
set_option maxRecDepth 100000
namespace Go.Proofs.YtlbmlncdjkdoaaaGreat.Sh
open Go Go.RowKit Go.ChangeShapes Go.WideShapes Go.Proofs.Ev
open Tryz (prog)
theorem co4 : prog.cellsOf 4 = 1:=by kernel_rfl
theorem co73 : prog.cellsOf 73 = 3:=by kernel_rfl
theorem st73 : prog.underlying 73 = some (.struct (prog.fieldsOf 73)):=by kernel_rfl
section
variable {H : Type} {enc : TypeId × Value→H} {W : World} {base b0 fuel : Nat} {held : Bool} {r : Reach} {cs : List Value} {v : Value} {x : DataW H × List MemPlace} {d : DataW H} {ps : List MemPlace} {sp : Nat→Bool}
theorem trod_col (h : DataW.trod enc prog W base sp held fuel 73 cs = some x) : ∃ a : ColD,cs = colrow a ∧ a.name.size ≤ maxLen ∧ (Lit.int .i64 a.kind).wf = true:=by
 obtain ⟨xs,n,rfl,rfl,hl,hx,hf⟩:=DataW.trod_struct st73 h
 rw [co73] at hl
 rw [show (prog.fieldsOf 73).size = 3 by kernel_rfl] at hx
 have e0:=fld 0 9 0 (by kernel_rfl) hf
 have e1:=fld 1 3 1 (by kernel_rfl) hf
 have e2:=fld 2 4 2 (by kernel_rfl) hf
 obtain ⟨x0,x1,x2,rfl⟩ : ∃ x0 x1 x2,cs = [x0,x1,x2]:=by
  match cs,hl with
  | [a,b,c],_=>exact ⟨a,b,c,rfl⟩
 obtain ⟨y0,y1,y2,rfl⟩ : ∃ y0 y1 y2,xs = [y0,y1,y2]:=by
  match xs,hx with
  | [a,b,c],_=>exact ⟨a,b,c,rfl⟩
 simp only [co3,co4,co9,List.drop_zero,List.drop_succ_cons,List.take_succ_cons,List.take_zero,List.getElem?_cons_zero,List.getElem?_cons_succ] at e0 e1 e2
 obtain ⟨s,hs,_,w2⟩:=DataW.trod_string u9 e0
 obtain ⟨i,hi,_,w1⟩:=DataW.trod_int u3 e1
 obtain ⟨b,hb,_⟩:=DataW.trod_bool u4 e2
 simp only [List.cons.injEq,and_true] at hb hi hs
 subst hb; subst hi; subst hs
 exact ⟨⟨s,i,b⟩,rfl,w2,w1⟩
theorem inner_cols {t : TypeId} (ht : prog.underlying t = some (.slice 73)) (hf : DataW.trod enc prog W base (fun _=>true) held fuel t cs = some x) :
  ∃ v l,cs = [v] ∧ Cols (extHeap W) (tame W.heap.size 8 v) l ∧ l.length ≤ maxLen ∧ ∀ a ∈ l,a.name.size ≤ maxLen ∧ (Lit.int .i64 a.kind).wf = true:=by
 obtain ⟨v,rows,rfl,hZ,hl,hall⟩:=open_inner ht co73 (by omega) hf
 have key : ∀ rows : List (List Value),(∀ q ∈ rows,∃ fuel y,DataW.trod enc prog W base (fun _=>true) held fuel 73 q = some y)→∃ l : List ColD,rows = l.map colrow ∧ ∀ a ∈ l,a.name.size ≤ maxLen ∧ (Lit.int .i64 a.kind).wf = true:=by
  intro rows
  induction rows with
  | nil=>intro _; exact ⟨[],rfl,fun a ha=>by cases ha⟩
  | cons q rows ih =>
   intro h
   obtain ⟨f,y,hy⟩:=h q (List.mem_cons_self ..)
   obtain ⟨a,rfl,ha⟩:=trod_col hy
   obtain ⟨l,rfl,hl⟩:=ih fun q hq=>h q (List.mem_cons_of_mem _ hq)
   refine ⟨a :: l,rfl,fun z hz=>?_⟩
   rcases List.mem_cons.1 hz with rfl | hz
   ·exact ha
   ·exact hl z hz
 obtain ⟨l,rfl,hl2⟩:=key rows hall
 refine ⟨v,l,rfl,?_,by simpa using hl,hl2⟩
 have : (l.map colrow).map (fun q=>List.map (tame W.heap.size 8) q) = l.map colrow:=by
  rw [List.map_map]
  exact List.map_congr_left fun a _=>by simp [tame,colrow]
 rw [this] at hZ
 exact hZ
theorem open_cols (hv : Value.okWide prog W r b0 22 v) (hd : DataW.Trod enc prog W base (fun _=>true) held 22 v d ps) :
  ∃ l,Cols (extHeap W) (tame W.heap.size 8 v) l ∧ l.length ≤ maxLen ∧ ∀ a ∈ l,a.name.size ≤ maxLen ∧ (Lit.int .i64 a.kind).wf = true:=by
 obtain ⟨fuel,hf⟩:=hd
 obtain ⟨v',l,e,h1⟩:=inner_cols u22 hf
 rw [slice_form u22 hv] at e
 cases e
 exact ⟨l,h1⟩
end
end Go.Proofs.YtlbmlncdjkdoaaaGreat.Sh
/- Rows of rows that are handed in. -/
set_option linter.unusedVariables false
set_option linter.unusedSimpArgs false
set_option maxRecDepth 100000
namespace Go.Proofs.YtlbmlncdjkdoaaaGreat.Sh
open Go Go.RowKit Go.ChangeShapes Go.WideShapes Go.Proofs.Ev
open Tryz (prog)
theorem co34 : prog.cellsOf 34 = 1:=by kernel_rfl
section
variable {H : Type} {enc : TypeId × Value→H} {W : World} {base b0 fuel : Nat} {held : Bool} {r : Reach} {cs : List Value} {v : Value} {x : DataW H × List MemPlace} {d : DataW H} {ps : List MemPlace}
def RowW (l : List CellD) : Prop:=l.length ≤ maxLen ∧ ∀ a ∈ l,a.s.size ≤ maxLen ∧ (Lit.int .i64 a.k).wf = true ∧ (Lit.int .i64 a.i).wf = true
theorem inner_rows {t : TypeId} (ht : prog.underlying t = some (.slice 34)) (hf : DataW.trod enc prog W base (fun _=>true) held fuel t cs = some x) :
  ∃ v l,cs = [v] ∧ Rows (extHeap W) (tame W.heap.size 8 v) l ∧ l.length ≤ maxLen ∧ ∀ a ∈ l,RowW a:=by
 obtain ⟨v,rows,rfl,hZ,hl,hall⟩:=open_inner ht co34 (by omega) hf
 have key : ∀ rows : List (List Value),(∀ q ∈ rows,∃ fuel y,DataW.trod enc prog W base (fun _=>true) held fuel 34 q = some y)→∃ (vs : List Value) (l : List (List CellD)),(rows.map fun q=>q.map (tame W.heap.size 8)) = vs.map (fun v=>[v]) ∧ All2 (Cells (extHeap W)) vs l ∧ ∀ a ∈ l,RowW a:=by
  intro rows
  induction rows with
  | nil=>intro _; exact ⟨[],[],rfl,trivial,fun a ha=>by cases ha⟩
  | cons q rows ih =>
   intro h
   obtain ⟨f,y,hy⟩:=h q (List.mem_cons_self ..)
   obtain ⟨w,l0,rfl,hc,hl0,hw0⟩:=inner_cells u34 hy
   obtain ⟨vs,l,e,hA,hl⟩:=ih fun q hq=>h q (List.mem_cons_of_mem _ hq)
   refine ⟨tame W.heap.size 8 w :: vs,l0 :: l,by rw [List.map_cons,e]; rfl,⟨hc,hA⟩,fun z hz=>?_⟩
   rcases List.mem_cons.1 hz with rfl | hz
   ·exact ⟨hl0,hw0⟩
   ·exact hl z hz
 obtain ⟨vs,l,e,hA,hl2⟩:=key rows hall
 rw [e] at hZ
 refine ⟨v,l,rfl,⟨vs,hZ,hA⟩,?_,hl2⟩
 rw [← hA.len]
 have:=congrArg List.length e
 simp at this
 omega
theorem open_rows2 (hv : Value.okWide prog W r b0 23 v) (hd : DataW.Trod enc prog W base (fun _=>true) held 23 v d ps) : ∃ l,Rows (extHeap W) (tame W.heap.size 8 v) l ∧ l.length ≤ maxLen ∧ ∀ a ∈ l,RowW a:=by
 obtain ⟨fuel,hf⟩:=hd
 obtain ⟨v',l,e,h1⟩:=inner_rows u23 hf
 rw [slice_form u23 hv] at e
 cases e
 exact ⟨l,h1⟩
end
end Go.Proofs.YtlbmlncdjkdoaaaGreat.Sh
/- Rows of rows that are handed in may be cut anywhere. -/
set_option linter.unusedVariables false
set_option linter.unusedSimpArgs false
set_option maxRecDepth 100000
namespace Go.Proofs.YtlbmlncdjkdoaaaGreat.Sh
open Go Go.RowKit Go.ChangeShapes Go.WideShapes Go.Proofs.Ev
open Tryz (prog)
theorem rows_szV {W : World} {v : Value} {l : List (List CellD)} (B : Rows (extHeap W) v l) (hne : l ≠ []) : SzV prog (extHeap W) v 1:=by
 obtain ⟨vs,X,A⟩:=B
 rcases X with X | ⟨e,_⟩
 ·intro a m c e
  subst e
  rcases X with ⟨e,_⟩ | ⟨b,off,cap,own,e,_,⟨⟨cs,ee,hg,_⟩,_⟩⟩
  ·cases e
  ·cases e
   unfold szOk
   simp only [hg]
   rw [extHeap_get] at hg
   cases hw : W.heap[b]? with
   | none=>rw [hw] at hg; cases hg
   | some o =>
    rw [hw] at hg
    cases o with
    | cells t cs' s=>simp [toAO] at hg; obtain ⟨_,_,rfl⟩:=hg; rfl
    | _=>simp [toAO] at hg
 ·have:=A.len
  rw [List.map_eq_nil_iff.1 e] at this
  exact absurd (List.eq_nil_of_length_eq_zero this.symm) hne
end Go.Proofs.YtlbmlncdjkdoaaaGreat.Sh
