/- What lies ahead of the law, put together. -/
import Derived.Test.YtlbmlncdjkdoaaaGreatSzM4
import Derived.Test.YtlbmlncdjkdoaaaGreatSzM3
import Derived.Test.YtlbmlncdjkdoaaaGreatSzM2
/- Which columns may be, as the document and as the schema's package tell; rows that fit. -/
set_option linter.unusedVariables false
set_option linter.unusedSimpArgs false
set_option maxRecDepth 100000
namespace Go.Proofs.YtlbmlncdjkdoaaaGreat.Sh
open Go Go.RowKit Go.Proofs.Ev
open Tryz (prog)
def bzVh:=PLift.up (ai @ld3 (ai @ld2 (ai @ld4 (ai @ld9 (ai @ld39 (ai @ld73 (ai @fa39_0 (ai @fa39_1 (ai @fa39_2 (ai @fa73_0 (ai @fa73_1 (ai @fa73_2 (@Nat.add_zero)))))))))))))
structure ColD where
 name : ByteArray
 kind : Int
 null : Bool
def colrow (c : ColD) : List Value:=[.string c.name,.int .i64 c.kind,.bool c.null]
def Cols (h : AH) (v : Value) (l : List ColD) : Prop:=SlZ prog h v 3 (l.map colrow)
theorem Cols.grow {h h' : AH} {v : Value} {l : List ColD} (S : Cols h v l) (g : Grow h h') : Cols h' v l:=SlZ.grow S g
theorem Cols.len {h h' : AH} {v : Value} {l : List ColD} (S : Cols h v l) : pLen prog #[22] v h' = some (.int .i64 l.length):=by
 have:=SlZ.len S u22 (h':=h')
 rwa [List.length_map] at this
theorem Cols.at_ {h : AH} {v : Value} {l : List ColD} (S : Cols h v l) {i : Nat} {x : ColD} (hi : l[i]? = some x) :
  ∃ b o,pIndexAddr prog 22 v (.int .i64 i) = some (.pointer (some ⟨b,o,none⟩)) ∧ h.row b o 3 = some (colrow x) :=
 SlZ.at_ S (k:=.i64) (by simp [hi]) u22 sz73
theorem Cols.take {h : AH} {v : Value} {l : List ColD} (S : Cols h v l) {i : Nat} (hi : i ≤ l.length) : ∃ v',(∀ h',pSlice prog 22 v none (some (.int .i64 i)) none h' = some v') ∧ Cols h v' (l.take i):=by
 obtain ⟨v',h1,h2,_⟩:=SlZ.take S u22 sz73 (k:=.i64) (i:=i) (by simpa using hi)
 exact ⟨v',h1,by rw [← List.map_take] at h2; exact h2⟩
/-! ### Light columns -/
def lightC (l : List ColD) : Bool:=(l.all fun c=>decide (c.name.size ≤ 60)) && decide (l.length ≤ 20)
theorem f17_loop {β : Type} {inv : Inv} {k : Nat} {Q : β→Prop} {h : AH} {v : Value} {l : List ColD} (S : Cols h v l) (hl : l.length ≤ 9223372036854775807) {ke0 : Value→Value→Value→AH→Option β} {kr : Value→AH→Option β} (n : Nat) :
  ∀ {i j : Nat},i + n = l.length→n < j→(((l.drop i).all fun c=>decide (c.name.size ≤ 60)) = true→∀ y1 y2,Tl (ke0 v y1 y2 h) Q)→(((l.drop i).all fun c=>decide (c.name.size ≤ 60)) = false→Tl (kr (.bool false) h) Q) →
   Tl (F17_lrlr inv k j v (.int .i64 i) h ke0 kr) Q:=by
 have hv : ∀ h',pLen prog #[22] v h' = some (.int .i64 l.length):=fun h'=>S.len
 induction n with
 | zero =>
  intro i j hi hj hk hr
  obtain ⟨j,rfl⟩ : ∃ q,j = q + 1:=⟨j - 1,by omega⟩
  simp only [F17_lrlr]
  with_reducible repeat (first | (apply qzV; simp (disch:=omega) only [zA,bzVh.1,hv] <;> rfl) | apply qzT | apply qzF | (apply qzB; simp (disch:=omega) only [zA,bzVh.1,hv] <;> rfl))
  exact hk (by rw [List.drop_eq_nil_of_le (by omega)]; rfl) _ _
 | succ n ih =>
  intro i j hi hj hk hr
  obtain ⟨j,rfl⟩ : ∃ q,j = q + 1:=⟨j - 1,by omega⟩
  obtain ⟨x,ex⟩ : ∃ x,l[i]? = some x:=⟨_,List.getElem?_eq_getElem (by omega)⟩
  obtain ⟨b,o,hp,hrow⟩:=S.at_ ex
  have c0 : h.cell b o = some (.string x.name):=Ev.cell_of_row (j:=0) hrow (by omega)
  have hs : ∀ h' : AH,pLen prog #[9] (.string x.name) h' = some (.int .i64 x.name.size):=fun h'=>len_string u9
  have e : (i : Int) + 1 = ((i + 1 : Nat) : Int):=by omega
  simp only [F17_lrlr]
  rw [drop_at ex,List.all_cons] at hk hr
  by_cases q2 : x.name.size ≤ 60
  ·rw [decide_eq_true q2,Bool.true_and] at hk hr
   with_reducible repeat (first | (apply qzV; simp (disch:=omega) only [zA,bzVh.1,hv,hp,c0,hs] <;> rfl) | apply qzT | apply qzF | (apply qzB; simp (disch:=omega) only [zA,bzVh.1,hv,hp,c0,hs] <;> rfl))
   rw [e]
   exact ih (by omega) (by omega) hk hr
  ·rw [decide_eq_false q2,Bool.false_and] at hr
   with_reducible repeat (first | (apply qzV; simp (disch:=omega) only [zA,bzVh.1,hv,hp,c0,hs] <;> rfl) | apply qzT | apply qzF | (apply qzB; simp (disch:=omega) only [zA,bzVh.1,hv,hp,c0,hs] <;> rfl))
   exact hr rfl
theorem f17c {k : Nat} {h : AH} {v : Value} {l : List ColD} (S : Cols h v l) (hl : l.length ≤ 9223372036854775807) (hk : l.length < k) : eInv env (k + 1) (.func 17) #[] #[v] h = some (.bool (lightC l),h):=by
 rw [F17_call]
 have T : Tl (F17 (eInv env k) k v h) fun r=>r = (.bool (lightC l),h):=by
  unfold F17
  have hv : ∀ h',pLen prog #[22] v h' = some (.int .i64 l.length):=fun h'=>S.len
  refine f17_loop S hl l.length (i:=0) (by omega) hk (fun q y1 y2=>?_) fun q=>⟨_,rfl,?_⟩
  ·rw [List.drop_zero] at q
   with_reducible repeat (first | (apply qzV; simp (disch:=omega) only [zA,bzVh.1,hv] <;> rfl) | apply qzT | apply qzF | (apply qzB; simp (disch:=omega) only [zA,bzVh.1,hv] <;> rfl))
   refine ⟨_,rfl,?_⟩
   unfold lightC
   rw [q,Bool.true_and]
   congr 2
   simp
   omega
  ·rw [List.drop_zero] at q
   unfold lightC
   rw [q,Bool.false_and]
 obtain ⟨r,h1,h2⟩:=T
 rw [h1,h2]
/-! ### Columns that may be -/
def colsF : List ColD→List ColD→Bool
 | _,[]=>true
 | pre,c :: l=>nameOk c.name && (decide (1 ≤ c.kind ∧ c.kind ≤ 3) && (!(pre.any fun o=>decide (o.name = c.name)) && colsF (pre ++ [c]) l))
def colsOk (l : List ColD) : Bool:=decide (1 ≤ l.length) && (decide (l.length ≤ 16) && colsF [] l)
/-- The error of columns, as both tell it. -/
def colsFE : List ColD→List ColD→Int
 | _,[]=>0
 | pre,c :: l=>if nameOk c.name = true then (if 1 ≤ c.kind ∧ c.kind ≤ 3 then (if (pre.any fun o=>decide (o.name = c.name)) = true then 171 else colsFE (pre ++ [c]) l) else 171) else 170
def colsE (l : List ColD) : Int:=if 1 ≤ l.length ∧ l.length ≤ 16 then colsFE [] l else 171
theorem colsFE_zero : ∀ (pre l : List ColD),colsFE pre l = 0 ↔ colsF pre l = true
 | _,[]=>by simp [colsFE,colsF]
 | pre,c :: l=>by
  have ih:=colsFE_zero (pre ++ [c]) l
  unfold colsFE colsF
  cases q1 : nameOk c.name with
  | false=>simp
  | true =>
   by_cases q2 : 1 ≤ c.kind ∧ c.kind ≤ 3
   ·cases q3 : pre.any fun o=>decide (o.name = c.name) with
    | false=>rw [if_pos rfl,if_pos q2,if_neg (by simp),ih,decide_eq_true q2]; simp
    | true=>rw [if_pos rfl,if_pos q2,if_pos rfl]; simp
   ·rw [if_pos rfl,if_neg q2,decide_eq_false q2]; simp
theorem colsE_zero (l : List ColD) : colsE l = 0 ↔ colsOk l = true:=by
 unfold colsE colsOk
 by_cases q : 1 ≤ l.length ∧ l.length ≤ 16
 ·rw [if_pos q,colsFE_zero,decide_eq_true q.1,decide_eq_true q.2]; simp
 ·rw [if_neg q]
  by_cases q1 : 1 ≤ l.length
  ·have q2 : ¬ l.length ≤ 16:=fun h=>q ⟨q1,h⟩
   simp [q2]
  ·simp [q1]
theorem f13_in {β : Type} {inv : Inv} {k : Nat} {Q : β→Prop} {h : AH} {v : Value} {l : List ColD} {i : Nat} {c : ColD} (S : Cols h v l) (hl : l.length ≤ 100) (hc : l[i]? = some c) {ke2 : Value→Value→Value→Value→AH→Option β} {kr : Value→AH→Option β} (n : Nat) :
  ∀ {q j : Nat},q + n = i→n < j→(((l.take i).drop q).any (fun o=>decide (o.name = c.name)) = false→∀ y1 y2,Tl (ke2 v (.int .i64 i) y1 y2 h) Q)→(((l.take i).drop q).any (fun o=>decide (o.name = c.name)) = true→Tl (kr (.int .i64 171) h) Q) →
   Tl (F13_lrrrllrllrlrr inv k j v (.int .i64 i) (.int .i64 q) h ke2 kr) Q:=by
 have hil:=(List.getElem?_eq_some_iff.1 hc).1
 obtain ⟨bc,oc,hpc,hrc⟩:=S.at_ hc
 have cc : h.cell bc oc = some (.string c.name):=Ev.cell_of_row (j:=0) hrc (by omega)
 induction n with
 | zero =>
  intro q j hq hj hk hr
  obtain ⟨j,rfl⟩ : ∃ q,j = q + 1:=⟨j - 1,by omega⟩
  simp only [F13_lrrrllrllrlrr]
  with_reducible repeat (first | (apply qzV; simp (disch:=omega) only [zA,bzVh.1] <;> rfl) | apply qzT | apply qzF | apply qzG | ((first | apply qzB | apply qzC); simp (disch:=omega) only [zA,bzVh.1] <;> rfl))
  exact hk (by rw [List.drop_eq_nil_of_le (by simp; omega)]; rfl) _ _
 | succ n ih =>
  intro q j hq hj hk hr
  obtain ⟨j,rfl⟩ : ∃ q,j = q + 1:=⟨j - 1,by omega⟩
  obtain ⟨x,ex⟩ : ∃ x,l[q]? = some x:=⟨_,List.getElem?_eq_getElem (by omega)⟩
  have ex' : (l.take i)[q]? = some x:=by rw [List.getElem?_take_of_lt (by omega)]; exact ex
  obtain ⟨b,o,hp,hrow⟩:=S.at_ ex
  have c0 : h.cell b o = some (.string x.name):=Ev.cell_of_row (j:=0) hrow (by omega)
  have e : (q : Int) + 1 = ((q + 1 : Nat) : Int):=by omega
  have hq2 : ∀ x' y',pBin prog .eql 9 x' y' (.string x.name) (.string c.name) = some (.bool (decide (x.name = c.name))):=fun _ _=>bin_eql_string
  simp only [F13_lrrrllrllrlrr]
  rw [drop_at ex',List.any_cons] at hk hr
  by_cases q2 : x.name = c.name
  ·rw [decide_eq_true q2,Bool.true_or] at hr
   have q3:=decide_eq_true q2
   with_reducible repeat (first | (apply qzV; simp (disch:=omega) only [zA,bzVh.1,hp,c0,hpc,cc,hq2,q3] <;> rfl) | apply qzT | apply qzF | apply qzG | ((first | apply qzB | apply qzC); simp (disch:=omega) only [zA,bzVh.1,hp,c0,hpc,cc,hq2,q3] <;> rfl))
   exact hr rfl
  ·have q3:=decide_eq_false q2
   rw [q3,Bool.false_or] at hk hr
   with_reducible repeat (first | (apply qzV; simp (disch:=omega) only [zA,bzVh.1,hp,c0,hpc,cc,hq2,q3] <;> rfl) | apply qzT | apply qzF | apply qzG | ((first | apply qzB | apply qzC); simp (disch:=omega) only [zA,bzVh.1,hp,c0,hpc,cc,hq2,q3] <;> rfl))
   rw [e]
   exact ih (by omega) (by omega) hk hr
theorem f13_out {β : Type} {k : Nat} {Q : β→Prop} {h : AH} {v : Value} {l : List ColD} (S : Cols h v l) (hl : l.length ≤ 16) {ke0 : Value→Value→Value→AH→Option β} {kr : Value→AH→Option β} (n : Nat) :
  ∀ {i j : Nat},i + n = l.length→n < j→(colsFE (l.take i) (l.drop i) = 0→∀ y1 y2 y3,Tl (ke0 y1 y2 y3 h) Q)→(colsFE (l.take i) (l.drop i) ≠ 0→Tl (kr (.int .i64 (colsFE (l.take i) (l.drop i))) h) Q) →
   Tl (F13_lrlrr (eInv env (k + 200)) (k + 200) j v (.int .i64 i) h ke0 kr) Q:=by
 have hv : ∀ h',pLen prog #[22] v h' = some (.int .i64 l.length):=fun h'=>S.len
 induction n with
 | zero =>
  intro i j hi hj hk hr
  obtain ⟨j,rfl⟩ : ∃ q,j = q + 1:=⟨j - 1,by omega⟩
  simp only [F13_lrlrr]
  with_reducible repeat (first | (apply qzV; simp (disch:=omega) only [zA,bzVh.1,hv] <;> rfl) | apply qzT | apply qzF | apply qzG | ((first | apply qzB | apply qzC); simp (disch:=omega) only [zA,bzVh.1,hv] <;> rfl))
  exact hk (by rw [List.drop_eq_nil_of_le (by omega)]; rfl) _ _ _
 | succ n ih =>
  intro i j hi hj hk hr
  obtain ⟨j,rfl⟩ : ∃ q,j = q + 1:=⟨j - 1,by omega⟩
  obtain ⟨x,ex⟩ : ∃ x,l[i]? = some x:=⟨_,List.getElem?_eq_getElem (by omega)⟩
  obtain ⟨b,o,hp,hrow⟩:=S.at_ ex
  have c0 : h.cell b o = some (.string x.name):=Ev.cell_of_row (j:=0) hrow (by omega)
  have c1 : h.cell b (o + 1) = some (.int .i64 x.kind):=Ev.cell_of_row (j:=1) hrow (by omega)
  have e : (i : Int) + 1 = ((i + 1 : Nat) : Int):=by omega
  have hn:=f46e (k:=k + 99) x.name h
  simp only [F13_lrlrr]
  rw [drop_at ex,colsFE] at hk hr
  cases q1 : nameOk x.name with
  | false =>
   rw [q1] at hn
   rw [if_neg (by rw [q1]; simp)] at hr
   simp only [Bool.false_eq_true,if_false] at hn
   with_reducible repeat (first | (apply qzV; simp (disch:=omega) only [zA,bzVh.1,hv,hp,c0,c1,hn] <;> rfl) | apply qzT | apply qzF | apply qzG | ((first | apply qzB | apply qzC); simp (disch:=omega) only [zA,bzVh.1,hv,hp,c0,c1,hn] <;> rfl))
   exact hr (by omega)
  | true =>
   rw [q1] at hn
   rw [if_pos q1] at hk hr
   simp only [if_true] at hn
   by_cases q2 : 1 ≤ x.kind ∧ x.kind ≤ 3
   ·rw [if_pos q2] at hk hr
    obtain ⟨q21,q22⟩:=q2
    with_reducible repeat (first | (apply qzV; simp (disch:=omega) only [zA,bzVh.1,hv,hp,c0,c1,hn] <;> rfl) | apply qzT | apply qzF | apply qzG | ((first | apply qzB | apply qzC); simp (disch:=omega) only [zA,bzVh.1,hv,hp,c0,c1,hn] <;> rfl))
    refine f13_in S (by omega) ex i (q:=0) (by omega) (by omega) (fun q3 y1 y2=>?_) fun q3=>?_
    ·rw [List.drop_zero] at q3
     rw [if_neg (by rw [q3]; simp)] at hk hr
     with_reducible repeat (first | (apply qzV; simp (disch:=omega) only [zA,bzVh.1] <;> rfl) | apply qzT | apply qzF | apply qzG | ((first | apply qzB | apply qzC); simp (disch:=omega) only [zA,bzVh.1] <;> rfl))
     rw [e]
     have et : l.take i ++ [x] = l.take (i + 1):=by rw [List.take_add_one,ex]; rfl
     rw [et] at hk hr
     exact ih (by omega) (by omega) hk hr
    ·rw [List.drop_zero] at q3
     rw [if_pos q3] at hr
     exact hr (by omega)
   ·rw [if_neg q2] at hr
    by_cases q21 : 1 ≤ x.kind
    ·have q22 : ¬ x.kind ≤ 3:=fun h=>q2 ⟨q21,h⟩
     with_reducible repeat (first | (apply qzV; simp (disch:=omega) only [zA,bzVh.1,hv,hp,c0,c1,hn] <;> rfl) | apply qzT | apply qzF | apply qzG | ((first | apply qzB | apply qzC); simp (disch:=omega) only [zA,bzVh.1,hv,hp,c0,c1,hn] <;> rfl))
     exact hr (by omega)
    ·with_reducible repeat (first | (apply qzV; simp (disch:=omega) only [zA,bzVh.1,hv,hp,c0,c1,hn] <;> rfl) | apply qzT | apply qzF | apply qzG | ((first | apply qzB | apply qzC); simp (disch:=omega) only [zA,bzVh.1,hv,hp,c0,c1,hn] <;> rfl))
     exact hr (by omega)
theorem f13x {k : Nat} {h : AH} {v : Value} {l : List ColD} (S : Cols h v l) (hl : l.length ≤ 9223372036854775807) : eInv env (k + 201) (.func 13) #[] #[v] h = some (.int .i64 (colsE l),h):=by
 have T : Tl (F13 (eInv env (k + 200)) (k + 200) v h) fun r=>r.2 = h ∧ r.1 = .int .i64 (colsE l):=by
  have hv : ∀ h',pLen prog #[22] v h' = some (.int .i64 l.length):=fun h'=>S.len
  unfold F13 colsE
  by_cases s0 : 1 ≤ l.length
  ·by_cases s1 : l.length ≤ 16
   ·rw [if_pos ⟨s0,s1⟩]
    with_reducible repeat (first | (apply qzV; simp (disch:=omega) only [zA,bzVh.1,hv] <;> rfl) | apply qzT | apply qzF | apply qzG | ((first | apply qzB | apply qzC); simp (disch:=omega) only [zA,bzVh.1,hv] <;> rfl))
    refine f13_out S s1 l.length (i:=0) (by omega) (by omega) (fun q y1 y2 y3=>?_) fun q=>?_
    ·rw [List.drop_zero,List.take_zero] at q
     exact ⟨_,rfl,rfl,by rw [q]⟩
    ·rw [List.drop_zero,List.take_zero]
     exact ⟨_,rfl,rfl,rfl⟩
   ·rw [if_neg (fun h=>s1 h.2)]
    with_reducible repeat (first | (apply qzV; simp (disch:=omega) only [zA,bzVh.1,hv] <;> rfl) | apply qzT | apply qzF | apply qzG | ((first | apply qzB | apply qzC); simp (disch:=omega) only [zA,bzVh.1,hv] <;> rfl))
    exact ⟨_,rfl,rfl,rfl⟩
  ·rw [if_neg (fun h=>s0 h.1)]
   with_reducible repeat (first | (apply qzV; simp (disch:=omega) only [zA,bzVh.1,hv] <;> rfl) | apply qzT | apply qzF | apply qzG | ((first | apply qzB | apply qzC); simp (disch:=omega) only [zA,bzVh.1,hv] <;> rfl))
   exact ⟨_,rfl,rfl,rfl⟩
 obtain ⟨⟨r1,r2⟩,h1,h2,h3⟩:=T
 simp only at h2 h3
 subst h2 h3
 rw [F13_call,h1]
end Go.Proofs.YtlbmlncdjkdoaaaGreat.Sh
/- Rows that fit, as the document tells; the schema's own check of columns. -/
set_option linter.unusedVariables false
set_option linter.unusedSimpArgs false
set_option maxRecDepth 100000
namespace Go.Proofs.YtlbmlncdjkdoaaaGreat.Sh
open Go Go.RowKit Go.Proofs.Ev
open Tryz (prog)
def bzVi:=PLift.up (ai @ld3 (ai @ld2 (ai @ld4 (ai @ld9 (ai @ld39 (ai @ld73 (ai @fa39_0 (ai @fa39_1 (ai @fa39_2 (ai @fa73_0 (ai @fa73_1 (ai @fa73_2 (@Nat.add_zero)))))))))))))
def colv (c : ColD) : Value:=.agg #[.string c.name,.int .i64 c.kind,.bool c.null]
def fitC (c : ColD) (v : CellD) : Bool:=cellOk v && (decide (v.k = c.kind) || (decide (v.k = 0) && c.null))
def fitE (c : ColD) (v : CellD) : Int:=if cellOk v = true then (if v.k = c.kind ∨ (v.k = 0 ∧ c.null = true) then 0 else 173) else 160
theorem fitE_zero (c : ColD) (v : CellD) : fitE c v = 0 ↔ fitC c v = true:=by
 unfold fitE fitC
 cases q0 : cellOk v with
 | false=>simp
 | true =>
  by_cases q : v.k = c.kind ∨ (v.k = 0 ∧ c.null = true)
  ·rw [if_pos rfl,if_pos q]
   simpa using q
  ·rw [if_pos rfl,if_neg q]
   simpa using q
def fitsL : List ColD→List CellD→Bool
 | [],[]=>true
 | c :: cs,v :: vs=>fitC c v && fitsL cs vs
 | _,_=>false
def rowOk (cols : List ColD) (row : List CellD) : Bool:=colsOk cols && (decide (row.length = cols.length) && fitsL cols row)
def fitsE : List ColD→List CellD→Int
 | c :: cs,v :: vs=>if fitE c v = 0 then fitsE cs vs else fitE c v
 | _,_=>0
theorem fitsE_zero : ∀ {cs : List ColD} {vs : List CellD},vs.length = cs.length→(fitsE cs vs = 0 ↔ fitsL cs vs = true)
 | [],[],_=>by simp [fitsE,fitsL]
 | [],_ :: _,h=>by simp at h
 | _ :: _,[],h=>by simp at h
 | c :: cs,v :: vs,h=>by
  have ih:=fitsE_zero (cs:=cs) (vs:=vs) (by simpa using h)
  have hz:=fitE_zero c v
  unfold fitsE fitsL
  by_cases q : fitE c v = 0
  ·rw [if_pos q,ih,hz.1 q,Bool.true_and]
  ·rw [if_neg q]
   have : fitC c v = false:=by
    cases hf : fitC c v with
    | false=>rfl
    | true=>exact absurd (hz.2 hf) q
   rw [this,Bool.false_and]
   simp [q]
def rowE (cols : List ColD) (row : List CellD) : Int:=if colsE cols = 0 then (if row.length = cols.length then fitsE cols row else 173) else colsE cols
theorem rowE_zero (cols : List ColD) (row : List CellD) : rowE cols row = 0 ↔ rowOk cols row = true:=by
 have hz:=colsE_zero cols
 unfold rowE rowOk
 by_cases q : colsE cols = 0
 ·rw [if_pos q,hz.1 q,Bool.true_and]
  by_cases q2 : row.length = cols.length
  ·rw [if_pos q2,decide_eq_true q2,Bool.true_and,fitsE_zero q2]
  ·rw [if_neg q2,decide_eq_false q2,Bool.false_and]; simp
 ·rw [if_neg q]
  have : colsOk cols = false:=by
   cases hf : colsOk cols with
   | false=>rfl
   | true=>exact absurd (hz.2 hf) q
  rw [this,Bool.false_and]
  simp [q]
theorem f83_loop {β : Type} {k : Nat} {Q : β→Prop} {h0 : AH} {v fv : Value} {l : List ColD} {p : ColD→Bool} (S : Cols h0 v l) (hl : l.length ≤ 1000)
  (hcall : ∀ c h,Grow h0 h→Tl (callV (eInv env k) fv #[colv c] h) fun r=>r.1 = .bool (p c) ∧ Grow h r.2) {ke0 : Value→Value→Value→Value→Value→AH→Option β} {kr : Value→AH→Option β} (n : Nat) :
  ∀ {i j : Nat} {h : AH},i + n = l.length→n < j→Grow h0 h→((l.drop i).any p = false→∀ y1 y2 y3 y4 y5 h',Grow h0 h'→Tl (ke0 y1 y2 y3 y4 y5 h') Q)→((l.drop i).any p = true→∀ (m : Nat) h',Grow h0 h'→Tl (kr (.int .i64 (m : Nat)) h') Q) →
   Tl (F83_lrlr (eInv env k) k j v fv (.int .i64 l.length) (.int .i64 i) h ke0 kr) Q:=by
 induction n with
 | zero =>
  intro i j h hi hj g hk hr
  obtain ⟨j,rfl⟩ : ∃ q,j = q + 1:=⟨j - 1,by omega⟩
  simp only [F83_lrlr]
  with_reducible repeat (first | (apply qzV; simp (disch:=omega) only [zA,bzVi.1] <;> rfl) | apply qzT | apply qzF | (apply qzB; simp (disch:=omega) only [zA,bzVi.1] <;> rfl))
  exact hk (by rw [List.drop_eq_nil_of_le (by omega)]; rfl) _ _ _ _ _ _ g
 | succ n ih =>
  intro i j h hi hj g hk hr
  obtain ⟨j,rfl⟩ : ∃ q,j = q + 1:=⟨j - 1,by omega⟩
  obtain ⟨x,ex⟩ : ∃ x,l[i]? = some x:=⟨_,List.getElem?_eq_getElem (by omega)⟩
  obtain ⟨b,o,hp,hrow⟩:=S.at_ ex
  have hrow':=g.row hrow
  have e : (i : Int) + 1 = ((i + 1 : Nat) : Int):=by omega
  rw [drop_at ex,List.any_cons] at hk hr
  simp only [F83_lrlr]
  with_reducible repeat (first | (apply qzV; simp (disch:=omega) only [zA,bzVi.1,hp,hrow'] <;> rfl) | apply qzT | apply qzF | (apply qzB; simp (disch:=omega) only [zA,bzVi.1,hp,hrow'] <;> rfl))
  refine Tl.bind (hcall x h g) ?_
  rintro ⟨r,h1⟩ ⟨er,g1⟩
  simp only at er g1
  subst er
  cases q : p x with
  | true =>
   rw [q,Bool.true_or] at hr
   with_reducible repeat (first | (apply qzV; simp (disch:=omega) only [zA,bzVi.1] <;> rfl) | apply qzT | apply qzF | (apply qzB; simp (disch:=omega) only [zA,bzVi.1] <;> rfl))
   exact hr rfl i _ (g.trans g1)
  | false =>
   rw [q,Bool.false_or] at hk hr
   with_reducible repeat (first | (apply qzV; simp (disch:=omega) only [zA,bzVi.1] <;> rfl) | apply qzT | apply qzF | (apply qzB; simp (disch:=omega) only [zA,bzVi.1] <;> rfl))
   rw [e]
   exact ih (by omega) (by omega) (g.trans g1) hk hr
theorem f65c {k : Nat} {h : AH} {v fv : Value} {l : List ColD} {p : ColD→Bool} (S : Cols h v l) (hl : l.length ≤ 1000) (hk : l.length < k) (hcall : ∀ c h',Grow h h'→Tl (callV (eInv env k) fv #[colv c] h') fun r=>r.1 = .bool (p c) ∧ Grow h' r.2) :
  Tl (eInv env (k + 2) (.func 65) #[] #[v,fv] h) fun r=>r.1 = .bool (l.any p) ∧ Grow h r.2:=by
 rw [F65_call]
 unfold F65
 have hv : ∀ h',pLen prog #[22] v h' = some (.int .i64 l.length):=fun h'=>S.len
 have T : Tl (eInv env (k + 1) (.func 83) #[] #[v,fv] h) fun r=>(∃ z : Int,r.1 = .int .i64 z ∧ (decide (z ≥ 0)) = l.any p) ∧ Grow h r.2:=by
  rw [F83_call]
  unfold F83
  with_reducible repeat (first | (apply qzV; simp (disch:=omega) only [zA,bzVi.1,hv] <;> rfl) | apply qzT | apply qzF | (apply qzB; simp (disch:=omega) only [zA,bzVi.1,hv] <;> rfl))
  refine f83_loop S hl hcall l.length (i:=0) (by omega) hk (Grow.refl _) (fun q y1 y2 y3 y4 y5 h' g=>?_) fun q m h' g=>?_
  ·exact ⟨_,rfl,⟨_,rfl,by rw [List.drop_zero] at q; rw [q]; rfl⟩,g⟩
  ·exact ⟨_,rfl,⟨_,rfl,by rw [List.drop_zero] at q; rw [q]; simp⟩,g⟩
 refine Tl.bind T ?_
 rintro ⟨r,h1⟩ ⟨⟨z,er,hz⟩,g⟩
 simp only at er g
 subst er
 with_reducible repeat (first | (apply qzV; simp (disch:=omega) only [zA,bzVi.1] <;> rfl) | apply qzT | apply qzF | (apply qzB; simp (disch:=omega) only [zA,bzVi.1] <;> rfl))
 exact ⟨_,rfl,by rw [hz],g⟩
theorem f66c {k : Nat} (c o : ColD) {h : AH} {bc : Nat} (hc : h.cell bc 0 = some (.string c.name)) : Tl (callV (eInv env (k + 1)) (.func (.func 66) #[] #[.pointer (some ⟨bc,0,none⟩)]) #[colv o] h) fun r=>r.1 = .bool (decide (o.name = c.name)) ∧ Grow h r.2:=by
 rw [callV_cap1 (by kernel_rfl),F66_eq]
 unfold F66
 refine Tl.box' (Stt.init h) rfl (by rw [sz73]; rfl) fun b1 h1 S1 g1=>?_
 have c0 : h1.cell b1 0 = some (.string o.name):=S1.cell 0 rfl rfl
 have c1:=g1.cell hc
 have hq : ∀ x y,pBin prog .eql 9 x y (.string o.name) (.string c.name) = some (.bool (decide (o.name = c.name))):=fun _ _=>bin_eql_string
 with_reducible repeat (first | (apply qzV; simp (disch:=omega) only [zA,bzVi.1,c0,c1,hq] <;> rfl) | apply qzT | apply qzF | (apply qzB; simp (disch:=omega) only [zA,bzVi.1,c0,c1,hq] <;> rfl))
 exact ⟨_,rfl,rfl,S1.grow⟩
theorem f42_loop {β : Type} {k : Nat} {Q : β→Prop} {h0 : AH} {v : Value} {l : List ColD} (S : Cols h0 v l) (hl : l.length ≤ 16) {ke0 : Value→Value→Value→Value→Value→AH→Option β} {kr : Value→AH→Option β} (n : Nat) :
  ∀ {i j : Nat} {h : AH},i + n = l.length→n < j→Grow h0 h→(colsFE (l.take i) (l.drop i) = 0→∀ y1 y2 y3 y4 y5 h',Grow h0 h'→Tl (ke0 y1 y2 y3 y4 y5 h') Q)→(colsFE (l.take i) (l.drop i) ≠ 0→∀ h',Grow h0 h'→Tl (kr (.int .i64 (colsFE (l.take i) (l.drop i))) h') Q) →
   Tl (F42_lrlrr (eInv env (k + 200)) (k + 200) j v v (.int .i64 l.length) (.int .i64 i) h ke0 kr) Q:=by
 induction n with
 | zero =>
  intro i j h hi hj g hk hr
  obtain ⟨j,rfl⟩ : ∃ q,j = q + 1:=⟨j - 1,by omega⟩
  simp only [F42_lrlrr]
  with_reducible repeat (first | (apply qzV; simp (disch:=omega) only [zA,bzVi.1] <;> rfl) | apply qzT | apply qzF | apply qzG | ((first | apply qzB | apply qzC); simp (disch:=omega) only [zA,bzVi.1] <;> rfl))
  exact hk (by rw [List.drop_eq_nil_of_le (by omega)]; rfl) _ _ _ _ _ _ g
 | succ n ih =>
  intro i j h hi hj g hk hr
  obtain ⟨j,rfl⟩ : ∃ q,j = q + 1:=⟨j - 1,by omega⟩
  obtain ⟨x,ex⟩ : ∃ x,l[i]? = some x:=⟨_,List.getElem?_eq_getElem (by omega)⟩
  obtain ⟨b,o,hp,hrow⟩:=S.at_ ex
  have hrow':=g.row hrow
  have e : (i : Int) + 1 = ((i + 1 : Nat) : Int):=by omega
  simp only [F42_lrlrr]
  rw [drop_at ex,colsFE] at hk hr
  with_reducible repeat (first | (apply qzV; simp (disch:=omega) only [zA,bzVi.1,hp,hrow'] <;> rfl) | apply qzT | apply qzF | apply qzG | ((first | apply qzB | apply qzC); simp (disch:=omega) only [zA,bzVi.1,hp,hrow'] <;> rfl))
  refine Tl.alloc' (Stt.init h) ze73 (by rfl) fun b4 h1 S1 g1=>?_
  refine Tl.store' S1 0 rfl sz73 rfl rfl (by simp [Value.cells]) fun h2 S2 k2=>?_
  have S2 : Stt prog h.n h h2 [(b4,.cells (colrow x) 73 true)] []:=S2
  have c0 : h2.cell b4 0 = some (.string x.name):=S2.cell 0 rfl rfl
  with_reducible repeat (first | (apply qzV; simp (disch:=omega) only [zA,bzVi.1,c0] <;> rfl) | apply qzT | apply qzF | apply qzG | ((first | apply qzB | apply qzC); simp (disch:=omega) only [zA,bzVi.1,c0] <;> rfl))
  refine Tl.call' S2 (f64c (k:=k + 99) x.name h2) fun h3 S3 g3=>?_
  have c1 : h3.cell b4 1 = some (.int .i64 x.kind):=S3.cell 0 rfl rfl
  have g03:=g.trans S3.grow
  cases q1 : nameOk x.name with
  | false =>
   rw [if_neg (by rw [q1]; simp)] at hr
   simp only [Bool.false_eq_true,if_false]
   with_reducible repeat (first | (apply qzV; simp (disch:=omega) only [zA,bzVi.1] <;> rfl) | apply qzT | apply qzF | apply qzG | ((first | apply qzB | apply qzC); simp (disch:=omega) only [zA,bzVi.1] <;> rfl))
   exact hr (by omega) _ g03
  | true =>
   rw [if_pos q1] at hk hr
   simp only [if_true]
   by_cases q2 : 1 ≤ x.kind ∧ x.kind ≤ 3
   ·rw [if_pos q2] at hk hr
    obtain ⟨q21,q22⟩:=q2
    obtain ⟨tv,htv,T⟩:=S.take (i:=i) (by omega)
    have mf : pMakeFunc (Go.Fn.func 66) #[] #[.pointer (some ⟨b4,0,none⟩)] = some (.func (.func 66) #[] #[.pointer (some ⟨b4,0,none⟩)]):=rfl
    with_reducible repeat (first | (apply qzV; simp (disch:=omega) only [zA,bzVi.1,c1,htv,mf] <;> rfl) | apply qzT | apply qzF | apply qzG | ((first | apply qzB | apply qzC); simp (disch:=omega) only [zA,bzVi.1,c1,htv,mf] <;> rfl))
    refine Tl.call' S3 (f65c (k:=k + 198) (p:=fun o=>decide (o.name = x.name)) (T.grow g03) (by simp; omega) (by simp; omega) fun o h' g'=>f66c (k:=k + 197) x o ((g3.trans g').cell c0)) fun h4 S4 g4=>?_
    have g04:=g.trans S4.grow
    cases q3 : (l.take i).any fun o=>decide (o.name = x.name) with
    | true =>
     rw [if_pos q3] at hr
     with_reducible repeat (first | (apply qzV; simp (disch:=omega) only [zA,bzVi.1] <;> rfl) | apply qzT | apply qzF | apply qzG | ((first | apply qzB | apply qzC); simp (disch:=omega) only [zA,bzVi.1] <;> rfl))
     exact hr (by omega) _ g04
    | false =>
     rw [if_neg (by rw [q3]; simp)] at hk hr
     with_reducible repeat (first | (apply qzV; simp (disch:=omega) only [zA,bzVi.1] <;> rfl) | apply qzT | apply qzF | apply qzG | ((first | apply qzB | apply qzC); simp (disch:=omega) only [zA,bzVi.1] <;> rfl))
     rw [e]
     have et : l.take i ++ [x] = l.take (i + 1):=by rw [List.take_add_one,ex]; rfl
     rw [et] at hk hr
     exact ih (by omega) (by omega) g04 hk hr
   ·rw [if_neg q2] at hr
    by_cases q21 : 1 ≤ x.kind
    ·have q22 : ¬ x.kind ≤ 3:=fun h=>q2 ⟨q21,h⟩
     with_reducible repeat (first | (apply qzV; simp (disch:=omega) only [zA,bzVi.1,c1] <;> rfl) | apply qzT | apply qzF | apply qzG | ((first | apply qzB | apply qzC); simp (disch:=omega) only [zA,bzVi.1,c1] <;> rfl))
     exact hr (by omega) _ g03
    ·with_reducible repeat (first | (apply qzV; simp (disch:=omega) only [zA,bzVi.1,c1] <;> rfl) | apply qzT | apply qzF | apply qzG | ((first | apply qzB | apply qzC); simp (disch:=omega) only [zA,bzVi.1,c1] <;> rfl))
     exact hr (by omega) _ g03
theorem f42x {k : Nat} {h : AH} {v : Value} {l : List ColD} (S : Cols h v l) (hl : l.length ≤ 9223372036854775807) : Tl (eInv env (k + 201) (.func 42) #[] #[v] h) fun r=>r.1 = .int .i64 (colsE l) ∧ Grow h r.2:=by
 rw [F42_call]
 have hv : ∀ h',pLen prog #[22] v h' = some (.int .i64 l.length):=fun h'=>S.len
 unfold F42 colsE
 by_cases s0 : 1 ≤ l.length
 ·by_cases s1 : l.length ≤ 16
  ·rw [if_pos ⟨s0,s1⟩]
   with_reducible repeat (first | (apply qzV; simp (disch:=omega) only [zA,bzVi.1,hv] <;> rfl) | apply qzT | apply qzF | apply qzG | ((first | apply qzB | apply qzC); simp (disch:=omega) only [zA,bzVi.1,hv] <;> rfl))
   refine f42_loop S s1 l.length (i:=0) (by omega) (by omega) (Grow.refl _) (fun q y1 y2 y3 y4 y5 h' g=>?_) fun q h' g=>?_
   ·rw [List.drop_zero,List.take_zero] at q
    exact ⟨_,rfl,by rw [q],g⟩
   ·rw [List.drop_zero,List.take_zero]
    exact ⟨_,rfl,rfl,g⟩
  ·rw [if_neg (fun h=>s1 h.2)]
   with_reducible repeat (first | (apply qzV; simp (disch:=omega) only [zA,bzVi.1,hv] <;> rfl) | apply qzT | apply qzF | apply qzG | ((first | apply qzB | apply qzC); simp (disch:=omega) only [zA,bzVi.1,hv] <;> rfl))
   exact ⟨_,rfl,rfl,Grow.refl _⟩
 ·rw [if_neg (fun h=>s0 h.1)]
  with_reducible repeat (first | (apply qzV; simp (disch:=omega) only [zA,bzVi.1,hv] <;> rfl) | apply qzT | apply qzF | apply qzG | ((first | apply qzB | apply qzC); simp (disch:=omega) only [zA,bzVi.1,hv] <;> rfl))
  exact ⟨_,rfl,rfl,Grow.refl _⟩
end Go.Proofs.YtlbmlncdjkdoaaaGreat.Sh
/- Groups: rows turned about, which may be put. No program's step in sight. -/
set_option linter.unusedVariables false
set_option linter.unusedSimpArgs false
set_option maxRecDepth 100000
namespace Go.Proofs.YtlbmlncdjkdoaaaGreat.Sh
open Go Go.RowKit Go.Proofs.Ev Go.Lib
def colL (rows : List (List CellD)) (c : Nat) : List CellD:=rows.map fun r=>(r[c]?).getD c0
def kindAt (cols : List ColD) (c : Nat) : Int:=((cols[c]?).map fun x=>x.kind).getD 0
def segAt (cols : List ColD) (rows : List (List CellD)) (c : Nat) : ByteArray:=strB (segB (kindAt cols c) (colL rows c))
def segsL (cols : List ColD) (rows : List (List CellD)) : List ByteArray:=(List.range cols.length).map (segAt cols rows)
def putOk (cols : List ColD) (rows : List (List CellD)) : Prop:=colsE cols = 0 ∧ (1 ≤ rows.length ∧ rows.length ≤ 64) ∧ ∀ r ∈ rows,rowE cols r = 0
theorem colL_len (rows : List (List CellD)) (c : Nat) : (colL rows c).length = rows.length:=List.length_map ..
theorem colL_app (a b : List (List CellD)) (c : Nat) : colL (a ++ b) c = colL a c ++ colL b c:=by unfold colL; rw [List.map_append]
theorem segsL_len (cols : List ColD) (rows : List (List CellD)) : (segsL cols rows).length = cols.length:=by simp [segsL]
theorem segsL_at {cols : List ColD} {rows : List (List CellD)} {c : Nat} (h : c < cols.length) : (segsL cols rows)[c]? = some (segAt cols rows c):=by
 simp [segsL,h]
theorem fits_at : ∀ {cols : List ColD} {row : List CellD},fitsL cols row = true→∀ {c : Nat} {col : ColD},cols[c]? = some col→∃ v,row[c]? = some v ∧ fitC col v = true
 | [],[],_,c,col,h=>by simp at h
 | [],_ :: _,h,_,_,_=>by simp [fitsL] at h
 | _ :: _,[],h,_,_,_=>by simp [fitsL] at h
 | a :: cols,v :: row,h,c,col,hc=>by
  simp only [fitsL,Bool.and_eq_true] at h
  cases c with
  | zero =>
   simp only [List.getElem?_cons_zero,Option.some.injEq] at hc
   subst hc
   exact ⟨v,rfl,h.1⟩
  | succ c=>exact fits_at h.2 (by simpa using hc)
theorem cellOk_E {c : CellD} (h : cellOk c = true) : cellE c = 0 ∧ c.s.size ≤ 256:=by
 have hz : ok9 c ∧ c.s.size ≤ 256:=by
  unfold cellOk at h
  unfold ok9
  by_cases p0 : c.k = 0
  ·rw [if_pos p0] at h ⊢
   simp only [Bool.and_eq_true,decide_eq_true_eq] at h
   exact ⟨h,by omega⟩
  ·rw [if_neg p0] at h ⊢
   by_cases p1 : c.k = 1
   ·rw [if_pos p1] at h ⊢
    simp only [decide_eq_true_eq] at h
    exact ⟨h,by omega⟩
   ·rw [if_neg p1] at h ⊢
    by_cases p2 : c.k = 2
    ·rw [if_pos p2] at h ⊢
     simp only [Bool.and_eq_true,Bool.or_eq_true,decide_eq_true_eq] at h
     exact ⟨⟨h.2,h.1⟩,by omega⟩
    ·rw [if_neg p2] at h ⊢
     by_cases p3 : c.k = 3
     ·rw [if_pos p3] at h ⊢
      simp only [Bool.and_eq_true,decide_eq_true_eq] at h
      exact h
     ·rw [if_neg p3] at h
      cases h
 exact ⟨(cellE_ok (by omega)).1 hz.1,hz.2⟩
theorem fit_E {col : ColD} {v : CellD} (h : fitC col v = true) : cellE v = 0 ∧ v.s.size ≤ 256 ∧ (v.k = col.kind ∨ v.k = 0 ∧ col.null = true):=by
 unfold fitC at h
 simp only [Bool.and_eq_true,Bool.or_eq_true,decide_eq_true_eq] at h
 obtain ⟨h1,h2⟩:=cellOk_E h.1
 exact ⟨h1,h2,h.2⟩
theorem colsF_kind : ∀ {pre l : List ColD},colsF pre l = true→∀ c ∈ l,1 ≤ c.kind ∧ c.kind ≤ 3
 | _,[],_,c,h=>by cases h
 | pre,a :: l,h,c,hc=>by
  unfold colsF at h
  simp only [Bool.and_eq_true,decide_eq_true_eq] at h
  rcases List.mem_cons.1 hc with rfl | hc
  ·exact h.2.1
  ·exact colsF_kind h.2.2.2 c hc
theorem cols_kind {cols : List ColD} (h : colsE cols = 0) {c : Nat} {col : ColD} (hc : cols[c]? = some col) : 1 ≤ col.kind ∧ col.kind ≤ 3:=by
 have h2:=(colsE_zero cols).1 h
 unfold colsOk at h2
 simp only [Bool.and_eq_true,decide_eq_true_eq] at h2
 exact colsF_kind h2.2.2 col (List.mem_of_getElem? hc)
theorem cols_len {cols : List ColD} (h : colsE cols = 0) : 1 ≤ cols.length ∧ cols.length ≤ 16:=by
 have h2:=(colsE_zero cols).1 h
 unfold colsOk at h2
 simp only [Bool.and_eq_true,decide_eq_true_eq] at h2
 exact ⟨h2.1,h2.2.1⟩
theorem tot_map : ∀ (l : List CellD),(∀ c ∈ l,c.s.size ≤ 256)→tot l ≤ 256 * l.length
 | [],_=>by simp [tot]
 | c :: l,h=>by
  have:=tot_map l fun x hx=>h x (List.mem_cons_of_mem _ hx)
  have:=h c (List.mem_cons_self ..)
  rw [tot_cons,List.length_cons]
  omega
/-- A column of rows that may be put. -/
theorem col_ok {cols : List ColD} {rows : List (List CellD)} (h : putOk cols rows) {c : Nat} {col : ColD} (hc : cols[c]? = some col) :
  kindAt cols c = col.kind ∧ segE col.kind (colL rows c) = 0 ∧ tot (colL rows c) ≤ 16384 ∧ (col.null = false→∀ x ∈ colL rows c,x.k ≠ 0):=by
 obtain ⟨h1,h2,h3⟩:=h
 have hall : ∀ x ∈ colL rows c,cellE x = 0 ∧ x.s.size ≤ 256 ∧ (x.k = col.kind ∨ x.k = 0 ∧ col.null = true):=fun x hx=>by
  obtain ⟨r,hr,rfl⟩:=List.mem_map.1 hx
  have ro:=(rowE_zero cols r).1 (h3 r hr)
  unfold rowOk at ro
  simp only [Bool.and_eq_true,decide_eq_true_eq] at ro
  obtain ⟨v,hv,hf⟩:=fits_at ro.2.2 hc
  rw [hv]
  exact fit_E hf
 have hk:=cols_kind h1 hc
 refine ⟨by unfold kindAt; rw [hc]; rfl,segE_zero.2 ⟨hk,by rw [colL_len]; omega,fun x hx=>⟨(hall x hx).1,(hall x hx).2.2.imp id (·.1)⟩⟩,?_,fun hn x hx z=>?_⟩
 ·have:=tot_map (colL rows c) fun x hx=>(hall x hx).2.1
  rw [colL_len] at this
  omega
 ·rcases (hall x hx).2.2 with q | q
  ·rw [z] at q; omega
  ·rw [hn] at q; cases q.2
end Go.Proofs.YtlbmlncdjkdoaaaGreat.Sh
/- Rows of one's own: copies of rows. -/
set_option linter.unusedVariables false
set_option linter.unusedSimpArgs false
set_option maxRecDepth 100000
namespace Go.Proofs.Ev
open Go Go.RowKit
section
variable {P : Program} {n0 : Nat} {h0 h : AH} {L : List (Nat × AO)} {O O' : List OS}
theorem apart_iff {O : List OS} : (∀ (i j : Nat) (x y : OS) (b : Nat),O[i]? = some x→O[j]? = some y→blkOf x.1 = some b→blkOf y.1 = some b→i = j) ↔ O.Pairwise fun x y=>∀ b,blkOf x.1 = some b→¬ blkOf y.1 = some b:=by
 rw [List.pairwise_iff_getElem]
 constructor
 ·intro H i j hi hj hij b h1 h2
  have:=H i j _ _ b (List.getElem?_eq_getElem hi) (List.getElem?_eq_getElem hj) h1 h2
  omega
 ·intro H i j x y b hi hj h1 h2
  obtain ⟨l1,rfl⟩:=List.getElem?_eq_some_iff.1 hi
  obtain ⟨l2,rfl⟩:=List.getElem?_eq_some_iff.1 hj
  rcases Nat.lt_trichotomy i j with q | q | q
  ·exact (H i j l1 l2 q b h1 h2).elim
  ·exact q
  ·exact (H j i l2 l1 q b h2 h1).elim
/-- One's own slices in another order. -/
theorem Stt.permO (S : Stt P n0 h0 h L O) (hp : O.Perm O') : Stt P n0 h0 h L O' :=
 ⟨S.sta,fun o ho=>S.own o (hp.mem_iff.2 ho),apart_iff.2 ((hp.pairwise_iff fun q b h1 h2=>q b h2 h1).1 (apart_iff.1 S.apart))⟩
theorem Stt.subO (S : Stt P n0 h0 h L O) (hs : O'.Sublist O) : Stt P n0 h0 h L O' :=
 ⟨S.sta,fun o ho=>S.own o (hs.subset ho),apart_iff.2 ((apart_iff.1 S.apart).sublist hs)⟩
end
end Go.Proofs.Ev
namespace Go.Proofs.YtlbmlncdjkdoaaaGreat.Sh
open Go Go.RowKit Go.Proofs.Ev
open Tryz (prog)
def bzVr:=PLift.up (ai @ld3 (ai @ld34 (ai @ld39 (ai @ld23 (@Nat.add_zero)))))
/-- Rows with the slices that hold them. -/
abbrev RS:=List (Value × List CellD)
def outs (rs : RS) : List (List Value):=rs.map fun p=>[p.1]
def owns (rs : RS) : List OS:=rs.map fun p=>(p.1,3,p.2.map crow)
def rowsOf (rs : RS) : List (List CellD):=rs.map (·.2)
theorem outs_len (rs : RS) : (outs rs).length = rs.length:=List.length_map ..
theorem rowsOf_len (rs : RS) : (rowsOf rs).length = rs.length:=List.length_map ..
theorem all2_map {α γ : Type} {R : α→γ→Prop} : ∀ {l : List (α × γ)},(∀ p ∈ l,R p.1 p.2)→All2 R (l.map (·.1)) (l.map (·.2))
 | [],_=>trivial
 | p :: l,h=>⟨h p (List.mem_cons_self ..),all2_map fun q hq=>h q (List.mem_cons_of_mem _ hq)⟩
section
variable {n0 : Nat} {h0 h : AH} {L : List (Nat × AO)} {O : List OS} {v : Value} {rs : RS}
theorem ownRow (S : Stt prog n0 h0 h L O) {w : Value} {r : List CellD} (hm : (w,3,r.map crow) ∈ O) : Cells h w r:=by
 obtain ⟨i,hi⟩:=List.mem_iff_getElem?.1 hm
 exact (S.slV i hi).z
theorem rows_out (S : Stt prog n0 h0 h L (owns rs ++ O)) (hv : SlV prog h v 1 (outs rs)) : Rows h v (rowsOf rs):=by
 refine ⟨rs.map (·.1),?_,all2_map fun p hp=>ownRow S (List.mem_append.2 (.inl (List.mem_map.2 ⟨p,hp,rfl⟩)))⟩
 rw [List.map_map]
 exact hv.z
end
theorem bsC0 (h : AH) : pBuildSlice prog 34 0 #[] h = some (.slice (some ⟨h.n,0,none⟩) 0 0,h.alloc (.cells [] 39 true)):=by kernel_rfl
theorem appC : AppT prog #[34,34] 39 3 32:=⟨by kernel_rfl,⟨39,by kernel_rfl⟩,by kernel_rfl,by omega,by kernel_rfl,⟨_,ze39,rfl,rfl⟩⟩
theorem one_crows : ∀ l : List CellD,(l.map crow).flatten.all oneCell = true
 | []=>rfl
 | a :: l=>by
  rw [List.map_cons,List.flatten_cons,List.all_append,one_crows l]
  rfl
theorem sttE {n0 : Nat} {h0 h : AH} {L : List (Nat × AO)} {O : List OS} (S : Stt prog n0 h0 h L O) : Stt prog n0 h0 (h.alloc (.cells [] 39 true)) L ((.slice (some ⟨h.n,0,none⟩) 0 0,3,[]) :: O):=by
 have X : OwnB prog h.n (h.alloc (.cells [] 39 true)) (.slice (some ⟨h.n,0,none⟩) 0 0) 3 [] :=
  .inr ⟨h.n,Nat.le_refl _,⟨rfl,⟨⟨[],39,AH.get_alloc_new _ _,fun hq=>absurd rfl hq⟩,fun r hr=>by cases hr⟩,szOk_of (AH.get_alloc_new _ _) sz39⟩⟩
 exact S.gain (Grow.alloc h _) X
theorem f16_loop {β : Type} {k : Nat} {Q : β→Prop} {h0 : AH} {v x3 : Value} {rows : List (List CellD)} (R : Rows h0 v rows) (hl : rows.length ≤ 2 ^ 30) (hls : ∀ r ∈ rows,r.length ≤ 2 ^ 30)
  {ke0 : Value→Value→Value→Value→AH→Option β} (n : Nat) :
  ∀ {i j : Nat} {h : AH} {rs : RS},i + n = rows.length→n < j→rowsOf rs = rows.take i→Stt prog h0.n h0 h [] ((x3,1,outs rs ++ List.replicate n [.slice none 0 0]) :: owns rs) →
   (∀ h' rs y1 y2,rowsOf rs = rows→Stt prog h0.n h0 h' [] ((x3,1,outs rs) :: owns rs)→Tl (ke0 v x3 y1 y2 h') Q) →
   Tl (F16_lrlrr (eInv env (k + 1)) (k + 1) j v x3 (.int .i64 i) h ke0) Q:=by
 have hv : ∀ h',pLen prog #[23] v h' = some (.int .i64 rows.length):=fun h'=>R.len
 induction n with
 | zero =>
  intro i j h rs hi hj hr S hk
  obtain ⟨j,rfl⟩ : ∃ q,j = q + 1:=⟨j - 1,by omega⟩
  simp only [F16_lrlrr]
  with_reducible repeat (first | (apply qzV; simp (disch:=omega) only [zA,bzVr.1,hv] <;> rfl) | apply qzT | apply qzF | (apply qzB; simp (disch:=omega) only [zA,bzVr.1,hv] <;> rfl))
  rw [List.replicate_zero,List.append_nil] at S
  exact hk _ rs _ _ (by rw [hr,List.take_of_length_le (by omega)]) S
 | succ n ih =>
  intro i j h rs hi hj hr S hk
  obtain ⟨j,rfl⟩ : ∃ q,j = q + 1:=⟨j - 1,by omega⟩
  obtain ⟨x,ex⟩ : ∃ x,rows[i]? = some x:=⟨_,List.getElem?_eq_getElem (by omega)⟩
  have S1:=sttE S
  obtain ⟨b,o,w,hp,hc,C⟩:=(R.grow S1.grow).at_ ex
  have e : (i : Int) + 1 = ((i + 1 : Nat) : Int):=by omega
  have hlen : rs.length = i:=by
   have:=congrArg List.length hr
   rw [rowsOf_len,List.length_take] at this
   omega
  obtain ⟨w',h2,e1,S2⟩:=S1.appendZ 0 rfl appC C (by have:=hls x (List.mem_of_getElem? ex); simp; omega) (one_crows x)
  have S2 : Stt prog h0.n h0 h2 [] ((w',3,x.map crow) :: (x3,1,outs rs ++ List.replicate (n + 1) [.slice none 0 0]) :: owns rs):=S2
  obtain ⟨a,c,ew,_⟩:=(S2.slV 0 rfl).form
  obtain ⟨b3,hb,hx⟩:=S2.idx 1 rfl (t:=23) (kd:=.i64) (j:=i) (by simp [outs_len]; omega) u23 sz34
  simp only [F16_lrlrr]
  with_reducible repeat (first | (apply qzV; simp (disch:=omega) only [zA,bzVr.1,hv,bsC0,hp,hc,e1,hx] <;> rfl) | apply qzT | apply qzF | (apply qzB; simp (disch:=omega) only [zA,bzVr.1,hv,bsC0,hp,hc,e1,hx] <;> rfl))
  refine Tl.setAt S2 1 rfl hb (by simp [outs_len]; omega) (by rw [ew]; rfl) sz34 (by rw [ew]; rfl) fun h' S3=>?_
  have S4:=S3.permO (O':=(x3,1,outs (rs ++ [(w',x)]) ++ List.replicate n [.slice none 0 0]) :: owns (rs ++ [(w',x)])) (by
   have q1 : (outs rs ++ List.replicate (n + 1) [Value.slice none 0 0]).set i w'.cells.toList = outs (rs ++ [(w',x)]) ++ List.replicate n [.slice none 0 0]:=by
    rw [List.set_append,if_neg (by rw [outs_len]; omega),outs_len,hlen,Nat.sub_self,List.replicate_succ,List.set_cons_zero,ew]
    unfold outs
    rw [List.map_append,List.append_assoc]
    rfl
   rw [q1]
   unfold owns
   rw [List.map_append]
   exact (List.Perm.swap _ _ _).trans (.cons _ (List.perm_append_singleton _ _).symm))
  with_reducible repeat (first | (apply qzV; simp (disch:=omega) only [zA,bzVr.1] <;> rfl) | apply qzT | apply qzF | (apply qzB; simp (disch:=omega) only [zA,bzVr.1] <;> rfl))
  rw [e]
  exact ih (by omega) (by omega) (by
   unfold rowsOf at hr ⊢
   rw [List.map_append,hr,List.take_add_one,ex]; rfl) S4 hk
theorem f16c {k : Nat} {h : AH} {v : Value} {rows : List (List CellD)} (R : Rows h v rows) (hl : rows.length ≤ 2 ^ 30) (hls : ∀ r ∈ rows,r.length ≤ 2 ^ 30) (hk : rows.length < k + 1) :
  Tl (eInv env (k + 2) (.func 16) #[] #[v] h) fun r=>∃ rs,rowsOf rs = rows ∧ Stt prog h.n h r.2 [] ((r.1,1,outs rs) :: owns rs):=by
 rw [F16_call]
 unfold F16
 have hv : ∀ h',pLen prog #[23] v h' = some (.int .i64 rows.length):=fun h'=>R.len
 with_reducible repeat (first | (apply qzV; simp (disch:=omega) only [zA,bzVr.1,hv] <;> rfl) | apply qzT | apply qzF | (apply qzB; simp (disch:=omega) only [zA,bzVr.1,hv] <;> rfl))
 refine Tl.make' (Stt.init h) app23 ze34 (by omega) (by omega) fun x3 h1 S1 _=>?_
 exact f16_loop R hl hls rows.length (i:=0) (rs:=[]) (by omega) (by omega) (by simp [rowsOf]) S1 fun h' rs y1 y2 hr S=>⟨_,rfl,rs,hr,S⟩
end Go.Proofs.YtlbmlncdjkdoaaaGreat.Sh
/- Groups: 'turned', a table turned about. -/
set_option linter.unusedVariables false
set_option linter.unusedSimpArgs false
set_option maxRecDepth 100000
namespace Go.Proofs.YtlbmlncdjkdoaaaGreat.Sh
open Go Go.RowKit Go.Proofs.Ev
open Tryz (prog)
def bzG2:=PLift.up (ai @ld3 (ai @ld34 (ai @ld39 (ai @ld23 (ai @aggC (@Nat.add_zero))))))
theorem idxR {n0 : Nat} {h0 h : AH} {L : List (Nat × AO)} {O : List OS} (S : Stt prog n0 h0 h L O) (i : Nat) {v w : Value} {A B : List (List Value)} (hi : O[i]? = some (v,1,A ++ [w] :: B)) :
  ∃ b,blkOf v = some b ∧ pIndexAddr prog 23 v (.int .i64 (A.length : Nat)) = some (.pointer (some ⟨b,A.length * 1,none⟩)) ∧ h.cell b (A.length * 1) = some w:=by
 obtain ⟨b,hb,hx⟩:=S.idx i hi (t:=23) (kd:=.i64) (j:=A.length) (by simp) u23 sz34
 obtain ⟨b2,o2,hx2,hr⟩:=(S.slV i hi).at_ (t:=23) (k:=.i64) (i:=A.length) (r:=[w]) (by simp) u23 sz34
 rw [hx] at hx2
 cases hx2
 exact ⟨b,hb,hx,by simpa using Ev.cell_of_row (j:=0) hr (by omega)⟩
theorem set_app {α : Type} (A B : List α) (x y : α) : (A ++ x :: B).set A.length y = A ++ y :: B:=by
 rw [List.set_append,if_neg (by omega),Nat.sub_self,List.set_cons_zero]
theorem f44_11 {β : Type} {inv : Inv} {Q : β→Prop} {n0 : Nat} {h0 h : AH} {L : List (Nat × AO)} {O : List OS} {A B : List (List Value)} {v7 w y0 y5 y15 y16 y19 y20 y21 : Value} {b11 : Nat} {c : CellD} {l : List CellD} (hl : l.length ≤ 2 ^ 20)
  (S : Stt prog n0 h0 h (Cr b11 c :: L) ((v7,1,A ++ [w] :: B) :: (w,3,l.map crow) :: O)) {K : AH→Option β}
  (hk : ∀ w' h',Stt prog n0 h0 h' (Cr b11 c :: L) ((v7,1,A ++ [w'] :: B) :: (w',3,(l ++ [c]).map crow) :: O)→Tl (K h') Q) :
  Tl (G44_11 inv y0 y5 v7 (.int .i64 (A.length : Nat)) (.pointer (some ⟨b11,0,none⟩)) y15 y16 y19 y20 y21 h K) Q:=by
 obtain ⟨b,hb,hx,hc⟩:=idxR S 0 rfl
 obtain ⟨r1,_⟩:=c_at S 0 rfl
 have S1:=S.alloc (.cells (crow c) 39 true)
 obtain ⟨b',_,hx',hc'⟩:=idxR S1 0 rfl
 have eb : b' = b:=by rw [hx] at hx'; cases hx'; rfl
 rw [eb] at hc'
 obtain ⟨w',h2,e2,S2,_,_⟩:=S1.append 1 rfl appC (slV_one (h:=h) (e:=39) (n:=3) (r:=crow c) rfl) (by simp; omega) rfl
 have S2 : Stt prog n0 h0 h2 ((h.n,.cells (crow c) 39 true) :: Cr b11 c :: L) ((v7,1,A ++ [w] :: B) :: (w',3,l.map crow ++ [crow c]) :: O):=S2
 obtain ⟨a,m,ew,_⟩:=(S2.slV 1 rfl).form
 simp only [G44_11]
 with_reducible repeat (first | (apply qzV; simp (disch:=omega) only [zA,bzG2.1,hx,hc,r1,bsCs,e2] <;> rfl) | apply qzT | apply qzF | (apply qzB; simp (disch:=omega) only [zA,bzG2.1,hx,hc,r1,bsCs,e2] <;> rfl))
 refine Tl.setAt S2 0 rfl hb (by simp) (by rw [ew]; rfl) sz34 (by rw [ew]; rfl) fun h3 S3=>?_
 have sw:=slV_same (S.slV 1 rfl)
 refine Tl.chk ?_ ?_
 ·simp only [ld34,hc,hc',sameO_some,sw,Bool.and_self,Bool.not_true,Bool.or_true,Bool.false_or,Bool.true_and,Bool.and_true]
 refine hk w' _ ?_
 have S3:=S3.drop
 have e3 : (A ++ [w] :: B).set A.length w'.cells.toList = A ++ [w'] :: B:=by rw [set_app,ew]; rfl
 have e4 : (l ++ [c]).map crow = l.map crow ++ [crow c]:=by simp
 rw [e3] at S3
 rw [e4]
 exact S3
theorem f44_in {β : Type} {inv : Inv} {k : Nat} {Q : β→Prop} {h0 : AH} {v v7 x15 x16 : Value} {rows : List (List CellD)} {b5 : Nat} {A B : List (List Value)} {O : List OS} (R : Rows h0 v rows) (hl : rows.length ≤ 64)
  {ke2 : Value→Value→Value→Value→Value→Value→Value→Value→Value→Value→AH→Option β} (n : Nat) :
  ∀ {i j : Nat} {h : AH} {w : Value},i + n = rows.length→n < j→Stt prog h0.n h0 h [Cr b5 c0] ((v7,1,A ++ [w] :: B) :: (w,3,(colL (rows.take i) A.length).map crow) :: O) →
   (∀ h' w' y1 y2 y3 y4,Stt prog h0.n h0 h' [Cr b5 c0] ((v7,1,A ++ [w'] :: B) :: (w',3,(colL rows A.length).map crow) :: O)→Tl (ke2 v (.pointer (some ⟨b5,0,none⟩)) v7 (.int .i64 (A.length : Nat)) x15 x16 y1 y2 y3 y4 h') Q) →
   Tl (F44_lrrllrrllrlrr inv k j v (.pointer (some ⟨b5,0,none⟩)) v7 (.int .i64 (A.length : Nat)) x15 x16 v (.int .i64 rows.length) (.int .i64 i) h ke2) Q:=by
 induction n with
 | zero =>
  intro i j h w hi hj S hk
  obtain ⟨j,rfl⟩ : ∃ q,j = q + 1:=⟨j - 1,by omega⟩
  simp only [F44_lrrllrrllrlrr]
  with_reducible repeat (first | (apply qzV; simp (disch:=omega) only [zA,bzG2.1] <;> rfl) | apply qzT | apply qzF | (apply qzB; simp (disch:=omega) only [zA,bzG2.1] <;> rfl))
  rw [List.take_of_length_le (by omega)] at S
  exact hk _ w _ _ _ _ S
 | succ n ih =>
  intro i j h w hi hj S hk
  obtain ⟨j,rfl⟩ : ∃ q,j = q + 1:=⟨j - 1,by omega⟩
  obtain ⟨x,ex⟩ : ∃ x,rows[i]? = some x:=⟨_,List.getElem?_eq_getElem (by omega)⟩
  obtain ⟨b,o,wr,hp,hc0,C⟩:=R.at_ ex
  have hc:=S.grow.cell hc0
  have e : (i : Int) + 1 = ((i + 1 : Nat) : Int):=by omega
  obtain ⟨r5,_⟩:=c_at S 0 rfl
  have hlen : ∀ h',pLen prog #[34] wr h' = some (.int .i64 x.length):=fun h'=>C.len
  have ecol : colL (rows.take (i + 1)) A.length = colL (rows.take i) A.length ++ [(x[A.length]?).getD c0]:=by
   rw [List.take_add_one,ex,colL_app]; rfl
  simp only [F44_lrrllrrllrlrr]
  with_reducible repeat (first | (apply qzV; simp (disch:=omega) only [zA,bzG2.1,hp,hc,r5] <;> rfl) | apply qzT | apply qzF | (apply qzB; simp (disch:=omega) only [zA,bzG2.1,hp,hc,r5] <;> rfl))
  refine Tl.alloc' S ze39 rfl fun b11 h1 S1 _=>?_
  with_reducible repeat (first | (apply qzV; simp (disch:=omega) only [zA,bzG2.1] <;> rfl) | apply qzT | apply qzF | (apply qzB; simp (disch:=omega) only [zA,bzG2.1] <;> rfl))
  refine Tl.store' S1 0 rfl sz39 rfl rfl (of_decide_eq_true rfl) fun h2 S2 _=>?_
  have S2 : Stt prog h0.n h0 h2 [Cr b11 c0,Cr b5 c0] ((v7,1,A ++ [w] :: B) :: (w,3,(colL (rows.take i) A.length).map crow) :: O):=S2
  have fin : ∀ h3 y10 y29,Stt prog h0.n h0 h3 [Cr b11 ((x[A.length]?).getD c0),Cr b5 c0] ((v7,1,A ++ [w] :: B) :: (w,3,(colL (rows.take i) A.length).map crow) :: O) →
    Tl ((fun (y0 y5 y7 y8 y10 y11 y15 y16 y19 y20 y21 y29 : Value) (h : AH) =>
     G44_11 inv y0 y5 y7 y8 y11 y15 y16 y19 y20 y21 h fun h_1 =>
     Ev.bnd (pBin prog .add 3 (.tmp 21) (.const (.int .i64 1)) y21 (.int .i64 1)) fun x44 =>
     F44_lrrllrrllrlrr inv k j y0 y5 y7 y8 y15 y16 y19 y20 x44 h_1 ke2) v (.pointer (some ⟨b5,0,none⟩)) v7 (.int .i64 (A.length : Nat)) y10 (.pointer (some ⟨b11,0,none⟩)) x15 x16 v (.int .i64 rows.length) (.int .i64 i) y29 h3) Q:=by
   intro h3 y10 y29 S3
   refine f44_11 (by rw [colL_len,List.length_take]; omega) S3 fun w' h4 S4=>?_
   with_reducible repeat (first | (apply qzV; simp (disch:=omega) only [zA,bzG2.1] <;> rfl) | apply qzT | apply qzF | (apply qzB; simp (disch:=omega) only [zA,bzG2.1] <;> rfl))
   rw [e]
   refine ih (w:=w') (by omega) (by omega) ?_ hk
   rw [ecol]
   exact S4.drop
  simp only [F44_rlrrllrrllrrllrrllrlrr]
  by_cases q : A.length < x.length
  ·obtain ⟨y,ey⟩ : ∃ y,x[A.length]? = some y:=⟨_,List.getElem?_eq_getElem q⟩
   obtain ⟨b2,o2,hp2,hrow⟩:=(C.grow S2.grow).at_ ey
   with_reducible repeat (first | (apply qzV; simp (disch:=omega) only [zA,bzG2.1,hlen,hp2,hrow] <;> rfl) | apply qzT | apply qzF | (apply qzB; simp (disch:=omega) only [zA,bzG2.1,hlen,hp2,hrow] <;> rfl))
   refine Tl.store' S2 0 rfl sz39 rfl rfl (of_decide_eq_true rfl) fun h3 S3 _=>?_
   refine fin _ unk unk ?_
   rw [ey]
   exact S3
  ·with_reducible repeat (first | (apply qzV; simp (disch:=omega) only [zA,bzG2.1,hlen] <;> rfl) | apply qzT | apply qzF | (apply qzB; simp (disch:=omega) only [zA,bzG2.1,hlen] <;> rfl))
   refine fin _ unk unk ?_
   rw [List.getElem?_eq_none (by omega)]
   exact S2
/-- The columns, one behind the other. -/
theorem f44_out {β : Type} {inv : Inv} {k : Nat} {Q : β→Prop} {h0 : AH} {v v7 : Value} {rows : List (List CellD)} {b5 N : Nat} (R : Rows h0 v rows) (hl : rows.length ≤ 64) (hN : N ≤ 64) (hk' : rows.length < k)
  {ke0 : Value→Value→Value→Value→Value→Value→AH→Option β} (n : Nat) :
  ∀ {j : Nat} {h : AH} {rs : RS},rs.length + n = N→n < j→rowsOf rs = (List.range rs.length).map (colL rows)→Stt prog h0.n h0 h [Cr b5 c0] ((v7,1,outs rs ++ List.replicate n [.slice none 0 0]) :: owns rs) →
   (∀ h' rs y1 y2,rowsOf rs = (List.range N).map (colL rows)→Stt prog h0.n h0 h' [] ((v7,1,outs rs) :: owns rs)→Tl (ke0 v (.pointer (some ⟨b5,0,none⟩)) v7 (.int .i64 N) y1 y2 h') Q) →
   Tl (F44_lrlrr inv k j v (.pointer (some ⟨b5,0,none⟩)) v7 (.int .i64 N) (.int .i64 (rs.length : Nat)) h ke0) Q:=by
 induction n with
 | zero =>
  intro j h rs hi hj hr S hk
  obtain ⟨j,rfl⟩ : ∃ q,j = q + 1:=⟨j - 1,by omega⟩
  simp only [F44_lrlrr]
  with_reducible repeat (first | (apply qzV; simp (disch:=omega) only [zA,bzG2.1] <;> rfl) | apply qzT | apply qzF | (apply qzB; simp (disch:=omega) only [zA,bzG2.1] <;> rfl))
  rw [List.replicate_zero,List.append_nil] at S
  exact hk _ rs _ _ (by rw [hr,show rs.length = N by omega]) S.drop
 | succ n ih =>
  intro j h rs hi hj hr S hk
  obtain ⟨j,rfl⟩ : ∃ q,j = q + 1:=⟨j - 1,by omega⟩
  have hlen : ∀ h',pLen prog #[23] v h' = some (.int .i64 rows.length):=fun h'=>R.len
  have e : (rs.length : Int) + 1 = ((rs.length + 1 : Nat) : Int):=by omega
  have eo : (outs rs).length = rs.length:=outs_len rs
  simp only [F44_lrlrr]
  with_reducible repeat (first | (apply qzV; simp (disch:=omega) only [zA,bzG2.1,hlen] <;> rfl) | apply qzT | apply qzF | (apply qzB; simp (disch:=omega) only [zA,bzG2.1,hlen] <;> rfl))
  have S1 : Stt prog h0.n h0 h [Cr b5 c0] ((v7,1,outs rs ++ [.slice none 0 0] :: List.replicate n [.slice none 0 0]) :: (.slice none 0 0,3,(colL (rows.take 0) (outs rs).length).map crow) :: owns rs):=by
   rw [List.replicate_succ] at S
   exact (S.nil 3).permO (.swap _ _ _)
  rw [← eo]
  refine f44_in R hl rows.length (i:=0) (by omega) (by omega) S1 fun h' w' y1 y2 y3 y4 S2=>?_
  rw [eo] at S2 ⊢
  with_reducible repeat (first | (apply qzV; simp (disch:=omega) only [zA,bzG2.1] <;> rfl) | apply qzT | apply qzF | (apply qzB; simp (disch:=omega) only [zA,bzG2.1] <;> rfl))
  rw [e]
  have S3:=S2.permO (O':=(v7,1,outs (rs ++ [(w',colL rows rs.length)]) ++ List.replicate n [.slice none 0 0]) :: owns (rs ++ [(w',colL rows rs.length)])) (by
   unfold outs owns
   rw [List.map_append,List.map_append,List.append_assoc]
   exact .cons _ (List.perm_append_singleton _ _).symm)
  have el : (rs ++ [(w',colL rows rs.length)]).length = rs.length + 1:=by simp
  rw [← el]
  refine ih (j:=j) (rs:=rs ++ [(w',colL rows rs.length)]) (by rw [el]; omega) (by omega) ?_ S3 hk
  rw [el,List.range_succ,List.map_append,← hr]
  unfold rowsOf
  rw [List.map_append]
  rfl
theorem f44c {k : Nat} {h : AH} {v : Value} {rows : List (List CellD)} {N : Nat} (R : Rows h v rows) (hl : rows.length ≤ 64) (hN : N ≤ 64) (hk : 64 < k) :
  Tl (eInv env (k + 1) (.func 44) #[] #[v,.int .i64 N,c0.v] h) fun r=>∃ rs,rowsOf rs = (List.range N).map (colL rows) ∧ Stt prog h.n h r.2 [] ((r.1,1,outs rs) :: owns rs):=by
 rw [F44_call]
 unfold F44
 refine Tl.box' (Stt.init h) rfl (by rw [sz39]; rfl) fun b5 h1 S1 _=>?_
 refine Tl.make' S1 app23 ze34 (by omega) (by omega) fun v7 h2 S2 _=>?_
 have S2 : Stt prog h.n h h2 [Cr b5 c0] [(v7,1,List.replicate N [.slice none 0 0])]:=S2
 have hlen : ∀ h',pLen prog #[23] v7 h' = some (.int .i64 N):=fun h'=>by
  have:=(S2.slV 0 rfl).len u23 (h':=h')
  rwa [List.length_replicate] at this
 with_reducible repeat (first | (apply qzV; simp (disch:=omega) only [zA,bzG2.1,hlen] <;> rfl) | apply qzT | apply qzF | (apply qzB; simp (disch:=omega) only [zA,bzG2.1,hlen] <;> rfl))
 exact f44_out R hl hN (by omega) N (rs:=[]) (by simp) (by omega) (by simp [rowsOf]) S2 fun h' rs y1 y2 hr S=>⟨_,rfl,rs,hr,S⟩
end Go.Proofs.YtlbmlncdjkdoaaaGreat.Sh
/- Which rows fit in. -/
set_option linter.unusedVariables false
set_option linter.unusedSimpArgs false
set_option maxRecDepth 100000
namespace Go.Proofs.YtlbmlncdjkdoaaaGreat.Sh
open Go Go.RowKit Go.Proofs.Ev
open Tryz (prog)
def bzWt:=PLift.up (ai @ld3 (ai @ld2 (ai @ld4 (ai @ld9 (ai @ld24 (ai @ld23 (ai @ld34 (ai @ld39 (ai @ld73 (ai @fa39_0 (ai @fa39_1 (ai @fa39_2 (ai @fa73_0 (ai @fa73_1 (ai @fa73_2 (@Nat.add_zero))))))))))))))))
theorem f84x {k : Nat} (c : ColD) (v : CellD) (hc : cellR v) (h : AH) : Tl (eInv env (k + 10) (.func 84) #[] #[colv c,v.v] h) fun r=>r.1 = .int .i64 (fitE c v) ∧ Grow h r.2:=by
 rw [F84_call]
 unfold F84
 refine Tl.box' (Stt.init h) rfl (by rw [sz73]; rfl) fun b1 h1 S1 _=>?_
 refine Tl.box' S1 rfl (by rw [sz39]; rfl) fun b2 h2 S2 _=>?_
 have r3 : h2.row b2 0 3 = some (crow v):=S2.row 0 rfl rfl
 with_reducible repeat (first | (apply qzV; simp (disch:=omega) only [zA,bzWt.1,r3] <;> rfl) | apply qzT | apply qzF | apply qzG | ((first | apply qzB | apply qzC); simp (disch:=omega) only [zA,bzWt.1,r3] <;> rfl))
 refine Tl.call' S2 (f116c (k:=k + 8) v hc h2) fun h3 S3 _=>?_
 have c0 : h3.cell b2 0 = some (.int .i64 v.k):=S3.cell 0 rfl rfl
 have d1 : h3.cell b1 1 = some (.int .i64 c.kind):=S3.cell 1 rfl rfl
 have d2 : h3.cell b1 2 = some (.bool c.null):=S3.cell 1 rfl rfl
 unfold fitE
 simp only [G84_4]
 cases q0 : cellOk v with
 | false =>
  simp only [Bool.false_eq_true,if_false]
  with_reducible repeat (first | (apply qzV; simp (disch:=omega) only [zA,bzWt.1] <;> rfl) | apply qzT | apply qzF | apply qzG | ((first | apply qzB | apply qzC); simp (disch:=omega) only [zA,bzWt.1] <;> rfl))
  exact ⟨_,rfl,rfl,S3.grow⟩
 | true =>
  simp only [if_true]
  by_cases q1 : v.k = c.kind
  ·with_reducible repeat (first | (apply qzV; simp (disch:=omega) only [zA,bzWt.1,c0,d1,d2] <;> rfl) | apply qzT | apply qzF | apply qzG | ((first | apply qzB | apply qzC); simp (disch:=omega) only [zA,bzWt.1,c0,d1,d2] <;> rfl))
   exact ⟨_,rfl,by rw [if_pos (.inl q1)],S3.grow⟩
  ·by_cases q2 : v.k = 0
   ·cases q3 : c.null with
    | false =>
     rw [q3] at d2
     with_reducible repeat (first | (apply qzV; simp (disch:=omega) only [zA,bzWt.1,c0,d1,d2] <;> rfl) | apply qzT | apply qzF | apply qzG | ((first | apply qzB | apply qzC); simp (disch:=omega) only [zA,bzWt.1,c0,d1,d2] <;> rfl))
     exact ⟨_,rfl,by rw [if_neg (fun h=>h.elim q1 (fun h=>by cases h.2))],S3.grow⟩
    | true =>
     rw [q3] at d2
     with_reducible repeat (first | (apply qzV; simp (disch:=omega) only [zA,bzWt.1,c0,d1,d2] <;> rfl) | apply qzT | apply qzF | apply qzG | ((first | apply qzB | apply qzC); simp (disch:=omega) only [zA,bzWt.1,c0,d1,d2] <;> rfl))
     exact ⟨_,rfl,by rw [if_pos (.inr ⟨q2,rfl⟩)],S3.grow⟩
   ·with_reducible repeat (first | (apply qzV; simp (disch:=omega) only [zA,bzWt.1,c0,d1,d2] <;> rfl) | apply qzT | apply qzF | apply qzG | ((first | apply qzB | apply qzC); simp (disch:=omega) only [zA,bzWt.1,c0,d1,d2] <;> rfl))
    exact ⟨_,rfl,by rw [if_neg (fun h=>h.elim q1 (fun h=>q2 h.1))],S3.grow⟩
theorem f67_loop {β : Type} {k : Nat} {Q : β→Prop} {h0 : AH} {cv rv : Value} {cols : List ColD} {row : List CellD} (C : Cols h0 cv cols) (R : Cells h0 rv row) (hlen : row.length = cols.length) (hl : cols.length ≤ 16) (hr : ∀ x ∈ row,cellR x) {ke0 : Value→Value→Value→Value→Value→AH→Option β} {kr : Value→AH→Option β} (n : Nat) :
  ∀ {i j : Nat} {h : AH},i + n = row.length→n < j→Stt prog h0.n h0 h [] []→(fitsE (cols.drop i) (row.drop i) = 0→∀ y1 y2 y3 y4 y5 h',Grow h0 h'→Tl (ke0 y1 y2 y3 y4 y5 h') Q)→(fitsE (cols.drop i) (row.drop i) ≠ 0→∀ h',Grow h0 h'→Tl (kr (.int .i64 (fitsE (cols.drop i) (row.drop i))) h') Q) →
   Tl (F67_lrlrrr (eInv env (k + 20)) (k + 20) j rv cv (.int .i64 cols.length) (.int .i64 i) h ke0 kr) Q:=by
 induction n with
 | zero =>
  intro i j h hi hj S hk hf
  obtain ⟨j,rfl⟩ : ∃ q,j = q + 1:=⟨j - 1,by omega⟩
  simp only [F67_lrlrrr]
  with_reducible repeat (first | (apply qzV; simp (disch:=omega) only [zA,bzWt.1] <;> rfl) | apply qzT | apply qzF | (apply qzB; simp (disch:=omega) only [zA,bzWt.1] <;> rfl))
  exact hk (by rw [List.drop_eq_nil_of_le (by omega),List.drop_eq_nil_of_le (by omega)]; rfl) _ _ _ _ _ _ S.grow
 | succ n ih =>
  intro i j h hi hj S hk hf
  obtain ⟨j,rfl⟩ : ∃ q,j = q + 1:=⟨j - 1,by omega⟩
  obtain ⟨c,ec⟩ : ∃ x,cols[i]? = some x:=⟨_,List.getElem?_eq_getElem (by omega)⟩
  obtain ⟨x,ex⟩ : ∃ x,row[i]? = some x:=⟨_,List.getElem?_eq_getElem (by omega)⟩
  obtain ⟨b,o,hp,hrow⟩:=(C.grow S.grow).at_ ec
  have e : (i : Int) + 1 = ((i + 1 : Nat) : Int):=by omega
  rw [drop_at ec,drop_at ex,fitsE] at hk hf
  simp only [F67_lrlrrr]
  with_reducible repeat (first | (apply qzV; simp (disch:=omega) only [zA,bzWt.1,hp,hrow] <;> rfl) | apply qzT | apply qzF | (apply qzB; simp (disch:=omega) only [zA,bzWt.1,hp,hrow] <;> rfl))
  refine Tl.alloc' S ze73 (by rfl) fun b1 h1 S1 g1=>?_
  refine Tl.store' S1 0 rfl sz73 rfl rfl (by simp [Value.cells]) fun h2 S2 k2=>?_
  have S2 : Stt prog h0.n h0 h2 [(b1,.cells (colrow c) 73 true)] []:=S2
  have r1 : h2.row b1 0 3 = some (colrow c):=S2.row 0 rfl rfl
  obtain ⟨b',o',hp',hrow'⟩:=(R.grow S2.grow).at_ ex
  with_reducible repeat (first | (apply qzV; simp (disch:=omega) only [zA,bzWt.1,r1,hp',hrow'] <;> rfl) | apply qzT | apply qzF | (apply qzB; simp (disch:=omega) only [zA,bzWt.1,r1,hp',hrow'] <;> rfl))
  refine Tl.bind (f84x (k:=k + 10) c x (hr x (List.mem_of_getElem? ex)) h2) ?_
  rintro ⟨r,h3⟩ ⟨er,g3⟩
  simp only at er g3
  subst er
  have S3:=S2.call g3
  by_cases q : fitE c x = 0
  ·rw [if_pos q] at hk hf
   with_reducible repeat (first | (apply qzV; simp (disch:=omega) only [zA,bzWt.1,q] <;> rfl) | apply qzT | apply qzF | (apply qzB; simp (disch:=omega) only [zA,bzWt.1,q] <;> rfl))
   rw [e]
   exact ih (by omega) (by omega) S3.drop hk hf
  ·rw [if_neg q] at hf
   with_reducible repeat (first | (apply qzV; simp (disch:=omega) only [zA,bzWt.1] <;> rfl) | apply qzT | apply qzF | (apply qzB; simp (disch:=omega) only [zA,bzWt.1] <;> rfl))
   exact hf q _ S3.grow
theorem f67x {k : Nat} {h : AH} {cv rv : Value} {cols : List ColD} {row : List CellD} (C : Cols h cv cols) (R : Cells h rv row) (hl : cols.length ≤ 9223372036854775807) (hl2 : row.length ≤ 9223372036854775807) (hr : ∀ x ∈ row,cellR x) :
  Tl (eInv env (k + 300) (.func 67) #[] #[cv,rv] h) fun r=>r.1 = .int .i64 (rowE cols row) ∧ Grow h r.2:=by
 rw [F67_call]
 unfold F67 rowE
 have hv : ∀ h',pLen prog #[34] rv h' = some (.int .i64 row.length):=fun h'=>R.len
 have hv2 : ∀ h',pLen prog #[22] cv h' = some (.int .i64 cols.length):=fun h'=>C.len
 refine Tl.bind (f42x (k:=k + 98) C hl) ?_
 rintro ⟨r,h1⟩ ⟨er,g1⟩
 simp only at er g1
 subst er
 by_cases q : colsE cols = 0
 ·have hco:=(colsE_zero cols).1 q
  rw [if_pos q]
  by_cases q2 : row.length = cols.length
  ·rw [if_pos q2]
   have hc16 : cols.length ≤ 16:=by
    unfold colsOk at hco
    simp only [Bool.and_eq_true,decide_eq_true_eq] at hco
    exact hco.2.1
   with_reducible repeat (first | (apply qzV; simp (disch:=omega) only [zA,bzWt.1,hv,hv2] <;> rfl) | apply qzT | apply qzF | (apply qzB; simp (disch:=omega) only [zA,bzWt.1,hv,hv2] <;> rfl))
   refine f67_loop (k:=k + 279) C R q2 hc16 hr row.length (i:=0) (by omega) (by omega) ((Stt.init h).call g1) (fun q3 y1 y2 y3 y4 y5 h' g=>?_) fun q3 h' g=>?_
   ·rw [List.drop_zero,List.drop_zero] at q3
    exact ⟨_,rfl,by rw [q3],g⟩
   ·rw [List.drop_zero,List.drop_zero]
    exact ⟨_,rfl,rfl,g⟩
  ·rw [if_neg q2]
   with_reducible repeat (first | (apply qzV; simp (disch:=omega) only [zA,bzWt.1,hv,hv2] <;> rfl) | apply qzT | apply qzF | (apply qzB; simp (disch:=omega) only [zA,bzWt.1,hv,hv2] <;> rfl))
   exact ⟨_,rfl,rfl,g1⟩
 ·rw [if_neg q]
  with_reducible repeat (first | (apply qzV; simp (disch:=omega) only [zA,bzWt.1,hv,hv2] <;> rfl) | apply qzT | apply qzF | (apply qzB; simp (disch:=omega) only [zA,bzWt.1,hv,hv2] <;> rfl))
  exact ⟨_,rfl,rfl,g1⟩
end Go.Proofs.YtlbmlncdjkdoaaaGreat.Sh
/- Groups: rows that fit; what 'group.Put' comes to. -/
set_option linter.unusedVariables false
set_option linter.unusedSimpArgs false
set_option maxRecDepth 100000
namespace Go.Proofs.YtlbmlncdjkdoaaaGreat.Sh
open Go Go.RowKit Go.Proofs.Ev
open Tryz (prog)
def bzG3:=PLift.up (ai @ld3 (ai @ld9 (ai @ld34 (ai @ld39 (ai @ld23 (ai @ld73 (ai @fa73_1 (ai @aggC (ai @ex2_0 (ai @ex2_1 (@Nat.add_zero)))))))))))
def rowsE (cols : List ColD) : List (List CellD)→Int
 | []=>0
 | r :: l=>if rowE cols r = 0 then rowsE cols l else rowE cols r
theorem rowsE_zero (cols : List ColD) : ∀ rows : List (List CellD),rowsE cols rows = 0 ↔ ∀ r ∈ rows,rowE cols r = 0
 | []=>⟨fun _ r hr=>(by cases hr),fun _=>rfl⟩
 | r :: l=>by
  unfold rowsE
  split
  ·rename_i q
   rw [rowsE_zero cols l]
   exact ⟨fun h x hx=>(List.mem_cons.1 hx).elim (fun e=>e ▸ q) (h x),fun h x hx=>h x (List.mem_cons_of_mem _ hx)⟩
  ·rename_i q
   exact ⟨fun h=>absurd h q,fun h=>absurd (h r (List.mem_cons_self ..)) q⟩
/-- The error of what is put. -/
def putE (cols : List ColD) (rows : List (List CellD)) : Int:=if colsE cols = 0 then (if rows.length < 1 ∨ 64 < rows.length then 12 else rowsE cols rows) else colsE cols
theorem putE_zero (cols : List ColD) (rows : List (List CellD)) : putE cols rows = 0 ↔ putOk cols rows:=by
 unfold putE putOk
 by_cases q : colsE cols = 0
 ·rw [if_pos q]
  by_cases q2 : rows.length < 1 ∨ 64 < rows.length
  ·rw [if_pos q2]
   exact ⟨fun h=>(by omega),fun h=>(by omega)⟩
  ·rw [if_neg q2,rowsE_zero]
   exact ⟨fun h=>⟨q,(by omega),h⟩,fun h=>h.2.2⟩
 ·rw [if_neg q]
  exact ⟨fun h=>absurd h q,fun h=>absurd h.1 q⟩
theorem f43_loop {β : Type} {k : Nat} {Q : β→Prop} {h0 : AH} {cv v : Value} {cols : List ColD} {rows : List (List CellD)} (C : Cols h0 cv cols) (R : Rows h0 v rows) (hcl : cols.length ≤ 9223372036854775807) (hrl : ∀ r ∈ rows,r.length ≤ 9223372036854775807)
  (hr : ∀ r ∈ rows,∀ x ∈ r,cellR x) (hl : rows.length ≤ 64) {ke0 : Value→Value→Value→Value→Value→AH→Option β} {kr : Value→AH→Option β} (n : Nat) :
  ∀ {i j : Nat} {h : AH},i + n = rows.length→n < j→Grow h0 h→(rowsE cols (rows.drop i) = 0→∀ y1 y2 y3 y4 y5 h',Grow h0 h'→Tl (ke0 y1 y2 y3 y4 y5 h') Q) →
   (rowsE cols (rows.drop i) ≠ 0→∀ h',Grow h0 h'→Tl (kr (.int .i64 (rowsE cols (rows.drop i))) h') Q) →
   Tl (F43_lrlr (eInv env (k + 300)) (k + 300) j cv v (.int .i64 rows.length) (.int .i64 i) h ke0 kr) Q:=by
 induction n with
 | zero =>
  intro i j h hi hj g hk hf
  obtain ⟨j,rfl⟩ : ∃ q,j = q + 1:=⟨j - 1,by omega⟩
  simp only [F43_lrlr]
  with_reducible repeat (first | (apply qzV; simp (disch:=omega) only [zA,bzG3.1] <;> rfl) | apply qzT | apply qzF | (apply qzB; simp (disch:=omega) only [zA,bzG3.1] <;> rfl))
  exact hk (by rw [List.drop_eq_nil_of_le (by omega)]; rfl) _ _ _ _ _ _ g
 | succ n ih =>
  intro i j h hi hj g hk hf
  obtain ⟨j,rfl⟩ : ∃ q,j = q + 1:=⟨j - 1,by omega⟩
  obtain ⟨x,ex⟩ : ∃ x,rows[i]? = some x:=⟨_,List.getElem?_eq_getElem (by omega)⟩
  obtain ⟨b,o,w,hp,hc,Cw⟩:=(R.grow g).at_ ex
  have e : (i : Int) + 1 = ((i + 1 : Nat) : Int):=by omega
  have hm:=List.mem_of_getElem? ex
  rw [drop_at ex,rowsE] at hk hf
  simp only [F43_lrlr]
  with_reducible repeat (first | (apply qzV; simp (disch:=omega) only [zA,bzG3.1,hp,hc] <;> rfl) | apply qzT | apply qzF | (apply qzB; simp (disch:=omega) only [zA,bzG3.1,hp,hc] <;> rfl))
  refine Tl.bind (f67x (k:=k) (C.grow g) Cw hcl (hrl x hm) (hr x hm)) ?_
  rintro ⟨r,h2⟩ ⟨er,g2⟩
  simp only at er g2
  subst er
  by_cases q : rowE cols x = 0
  ·rw [if_pos q] at hk hf
   with_reducible repeat (first | (apply qzV; simp (disch:=omega) only [zA,bzG3.1,q] <;> rfl) | apply qzT | apply qzF | (apply qzB; simp (disch:=omega) only [zA,bzG3.1,q] <;> rfl))
   rw [e]
   exact ih (by omega) (by omega) (g.trans g2) hk hf
  ·rw [if_neg q] at hf
   with_reducible repeat (first | (apply qzV; simp (disch:=omega) only [zA,bzG3.1] <;> rfl) | apply qzT | apply qzF | (apply qzB; simp (disch:=omega) only [zA,bzG3.1] <;> rfl))
   exact hf q _ (g.trans g2)
theorem f43c {k : Nat} {h : AH} {cv v : Value} {cols : List ColD} {rows : List (List CellD)} (C : Cols h cv cols) (R : Rows h v rows) (hcl : cols.length ≤ 9223372036854775807) (hrl : ∀ r ∈ rows,r.length ≤ 9223372036854775807)
  (hr : ∀ r ∈ rows,∀ x ∈ r,cellR x) (hl : rows.length ≤ 64) : Tl (eInv env (k + 301) (.func 43) #[] #[cv,v] h) fun r=>r.1 = .int .i64 (rowsE cols rows) ∧ Grow h r.2:=by
 rw [F43_call]
 unfold F43
 have hv : ∀ h',pLen prog #[23] v h' = some (.int .i64 rows.length):=fun h'=>R.len
 with_reducible repeat (first | (apply qzV; simp (disch:=omega) only [zA,bzG3.1,hv] <;> rfl) | apply qzT | apply qzF | (apply qzB; simp (disch:=omega) only [zA,bzG3.1,hv] <;> rfl))
 refine f43_loop C R hcl hrl hr hl rows.length (i:=0) (by omega) (by omega) (Grow.refl _) (fun q y1 y2 y3 y4 y5 h' g=>?_) fun q h' g=>?_
 ·rw [List.drop_zero] at q
  exact ⟨_,rfl,by rw [q],g⟩
 ·rw [List.drop_zero]
  exact ⟨_,rfl,rfl,g⟩
theorem f11_loop {β : Type} {k : Nat} {Q : β→Prop} {h0 : AH} {cv v7 : Value} {cols : List ColD} {rows : List (List CellD)} {rs : RS} (C : Cols h0 cv cols) (P : putOk cols rows) (hrs : rowsOf rs = (List.range cols.length).map (colL rows)) (hk' : 4200 < k)
  {ke0 : Value→Value→Value→Value→Value→Value→AH→Option β} {kr : Value→Value→AH→Option β} (n : Nat) :
  ∀ {i j : Nat} {h : AH} {ov : Value},i + n = cols.length→n < j→Stt prog h0.n h0 h [] ((ov,1,srows ((segsL cols rows).take i)) :: (v7,1,outs rs) :: owns rs) →
   (∀ h' ov y1 y2 y3 y4 y5,Stt prog h0.n h0 h' [] ((ov,1,srows (segsL cols rows)) :: (v7,1,outs rs) :: owns rs)→Tl (ke0 y1 ov y2 y3 y4 y5 h') Q) →
   Tl (F11_lrlrrrrr (eInv env (k + 701)) (k + 701) j cv ov v7 (.int .i64 cols.length) (.int .i64 i) h ke0 kr) Q:=by
 obtain ⟨hc1,hc16⟩:=cols_len P.1
 have hsl:=segsL_len cols rows
 induction n with
 | zero =>
  intro i j h ov hi hj S hk
  obtain ⟨j,rfl⟩ : ∃ q,j = q + 1:=⟨j - 1,by omega⟩
  simp only [F11_lrlrrrrr]
  with_reducible repeat (first | (apply qzV; simp (disch:=omega) only [zA,bzG3.1] <;> rfl) | apply qzT | apply qzF | apply qzG | ((first | apply qzB | apply qzC); simp (disch:=omega) only [zA,bzG3.1] <;> rfl))
  rw [List.take_of_length_le (by omega)] at S
  exact hk _ _ _ _ _ _ _ S
 | succ n ih =>
  intro i j h ov hi hj S hk
  obtain ⟨j,rfl⟩ : ∃ q,j = q + 1:=⟨j - 1,by omega⟩
  obtain ⟨c,ec⟩ : ∃ x,cols[i]? = some x:=⟨_,List.getElem?_eq_getElem (by omega)⟩
  obtain ⟨b,o,hp,hrow⟩:=(C.grow S.grow).at_ ec
  have hkind : h.cell b (o + 1) = some (.int .i64 c.kind):=Ev.cell_of_row (j:=1) hrow (by omega)
  have RS' : Rows h v7 (rowsOf rs):=rows_out (O:=[]) (S.dropO.dropO.permO (by rw [List.append_nil])) (S.slV 1 rfl)
  obtain ⟨b2,o2,w,hp2,hc2,Cw⟩:=RS'.at_ (i:=i) (x:=colL rows i) (by rw [hrs,List.getElem?_map,List.getElem?_range (by omega)]; rfl)
  obtain ⟨k1,k2,k3,k4⟩:=col_ok P ec
  have e : (i : Int) + 1 = ((i + 1 : Nat) : Int):=by omega
  have hlen:=colL_len rows i
  have h64:=P.2.1
  simp only [F11_lrlrrrrr]
  with_reducible repeat (first | (apply qzV; simp (disch:=omega) only [zA,bzG3.1,hp2,hc2,hp,hkind] <;> rfl) | apply qzT | apply qzF | apply qzG | ((first | apply qzB | apply qzC); simp (disch:=omega) only [zA,bzG3.1,hp2,hc2,hp,hkind] <;> rfl))
  with_reducible refine Tl.call' S (f45c (k:=k) c.kind Cw (by omega) hk') fun h2 S2 _=>?_
  rw [k2,if_pos rfl]
  with_reducible repeat (first | (apply qzV; simp (disch:=omega) only [zA,bzG3.1] <;> rfl) | apply qzT | apply qzF | apply qzG | ((first | apply qzB | apply qzC); simp (disch:=omega) only [zA,bzG3.1] <;> rfl))
  refine Tl.push S2 0 rfl app27 (bs27 _ _) rfl rfl (by rw [srows_len,List.length_take]; omega) fun ov' h3 S3=>?_
  with_reducible repeat (first | (apply qzV; simp (disch:=omega) only [zA,bzG3.1] <;> rfl) | apply qzT | apply qzF | apply qzG | ((first | apply qzB | apply qzC); simp (disch:=omega) only [zA,bzG3.1] <;> rfl))
  rw [e]
  refine ih (by omega) (by omega) ?_ hk
  have e2 : (segsL cols rows).take (i + 1) = (segsL cols rows).take i ++ [strB (segB c.kind (colL rows i))]:=by
   rw [List.take_add_one,segsL_at (by omega)]
   unfold segAt
   rw [k1]
   rfl
  rw [e2,srows_app]
  exact S3
theorem f11c {k : Nat} {h : AH} {cv v : Value} {cols : List ColD} {rows : List (List CellD)} (C : Cols h cv cols) (R : Rows h v rows) (hcl : cols.length ≤ 9223372036854775807) (hl : rows.length ≤ 9223372036854775807) (hrl : ∀ r ∈ rows,r.length ≤ 9223372036854775807)
  (hr : ∀ r ∈ rows,∀ x ∈ r,cellR x) (hk : 4200 < k) :
  Tl (eInv env (k + 702) (.func 11) #[] #[cv,v] h) fun r=>∃ o,r.1 = .tuple #[o,.int .i64 (putE cols rows)] ∧ Stt prog h.n h r.2 [] [(o,1,srows (if putE cols rows = 0 then segsL cols rows else []))]:=by
 rw [F11_call]
 unfold F11
 have hv : ∀ h',pLen prog #[23] v h' = some (.int .i64 rows.length):=fun h'=>R.len
 have hv2 : ∀ h',pLen prog #[22] cv h' = some (.int .i64 cols.length):=fun h'=>C.len
 have bz : pBuild prog 39 #[] = some c0.v:=by kernel_rfl
 refine Tl.bind (f42x (k:=k + 500) C hcl) ?_
 rintro ⟨r,h1⟩ ⟨er,g1⟩
 simp only at er g1
 subst er
 have S1:=(Stt.init (P:=prog) h).call g1
 by_cases q : colsE cols = 0
 ·simp only [G11_4]
  by_cases q2 : rows.length < 1 ∨ 64 < rows.length
  ·have eE : putE cols rows = 12:=by unfold putE; rw [if_pos q,if_pos q2]
   have es : (if putE cols rows = 0 then segsL cols rows else []) = []:=by rw [eE]; rfl
   rw [es,eE]
   have fin : Tl (some (Value.tuple #[.slice none 0 0,.int .i64 12],h1)) fun r=>∃ o,r.1 = .tuple #[o,.int .i64 12] ∧ Stt prog h.n h r.2 [] [(o,1,srows [])]:=⟨_,rfl,_,rfl,S1.nil 1⟩
   by_cases q3 : rows.length < 1
   ·with_reducible repeat (first | (apply qzV; simp (disch:=omega) only [zA,bzG3.1,q,hv] <;> rfl) | apply qzT | apply qzF | apply qzG | ((first | apply qzB | apply qzC); simp (disch:=omega) only [zA,bzG3.1,q,hv] <;> rfl))
    exact fin
   ·with_reducible repeat (first | (apply qzV; simp (disch:=omega) only [zA,bzG3.1,q,hv] <;> rfl) | apply qzT | apply qzF | apply qzG | ((first | apply qzB | apply qzC); simp (disch:=omega) only [zA,bzG3.1,q,hv] <;> rfl))
    exact fin
  ·have eE : putE cols rows = rowsE cols rows:=by unfold putE; rw [if_pos q,if_neg q2]
   have h1' : ¬ rows.length < 1:=fun h=>q2 (.inl h)
   have h2' : ¬ 64 < rows.length:=fun h=>q2 (.inr h)
   with_reducible repeat (first | (apply qzV; simp (disch:=omega) only [zA,bzG3.1,q,hv] <;> rfl) | apply qzT | apply qzF | apply qzG | ((first | apply qzB | apply qzC); simp (disch:=omega) only [zA,bzG3.1,q,hv] <;> rfl))
   refine Tl.bind (f43c (k:=k + 400) (C.grow S1.grow) (R.grow S1.grow) hcl hrl hr (by omega)) ?_
   rintro ⟨r,h2⟩ ⟨er,g2⟩
   simp only at er g2
   subst er
   have S2:=S1.call g2
   by_cases q4 : rowsE cols rows = 0
   ·have P : putOk cols rows:=(putE_zero cols rows).1 (by rw [eE,q4])
    obtain ⟨hc1,hc16⟩:=cols_len P.1
    rw [eE,q4,if_pos rfl]
    with_reducible repeat (first | (apply qzV; simp (disch:=omega) only [zA,bzG3.1,hv2,bz] <;> rfl) | apply qzT | apply qzF | apply qzG | ((first | apply qzB | apply qzC); simp (disch:=omega) only [zA,bzG3.1,hv2,bz] <;> rfl))
    refine Tl.bind (f44c (k:=k + 700) (N:=cols.length) (R.grow S2.grow) (by omega) (by omega) (by omega)) ?_
    rintro ⟨v7,h3⟩ ⟨rs,hrs,S3'⟩
    simp only at S3'
    have S3:=(S2.join S3').permO (O':=(v7,1,outs rs) :: owns rs) (by simp)
    have hlen7 : ∀ h',pLen prog #[23] v7 h' = some (.int .i64 cols.length):=fun h'=>by
     have:=(S3.slV 0 rfl).len u23 (h':=h')
     rwa [outs_len,← rowsOf_len,hrs,List.length_map,List.length_range] at this
    with_reducible repeat (first | (apply qzV; simp (disch:=omega) only [zA,bzG3.1,hlen7] <;> rfl) | apply qzT | apply qzF | apply qzG | ((first | apply qzB | apply qzC); simp (disch:=omega) only [zA,bzG3.1,hlen7] <;> rfl))
    refine f11_loop C P hrs hk cols.length (i:=0) (by omega) (by omega) (S3.nil 1) fun h' ov y1 y2 y3 y4 y5 S4=>?_
    exact ⟨_,rfl,ov,rfl,S4.subO (.cons_cons _ (List.nil_sublist _))⟩
   ·have es : (if rowsE cols rows = 0 then segsL cols rows else []) = []:=if_neg q4
    rw [eE,es]
    with_reducible repeat (first | (apply qzV; simp (disch:=omega) only [zA,bzG3.1,q4] <;> rfl) | apply qzT | apply qzF | apply qzG | ((first | apply qzB | apply qzC); simp (disch:=omega) only [zA,bzG3.1,q4] <;> rfl))
    exact ⟨_,rfl,_,rfl,S2.nil 1⟩
 ·have eE : putE cols rows = colsE cols:=by unfold putE; rw [if_neg q]
  have es : (if colsE cols = 0 then segsL cols rows else []) = []:=if_neg q
  rw [eE,es]
  with_reducible repeat (first | (apply qzV; simp (disch:=omega) only [zA,bzG3.1,q] <;> rfl) | apply qzT | apply qzF | apply qzG | ((first | apply qzB | apply qzC); simp (disch:=omega) only [zA,bzG3.1,q] <;> rfl))
  exact ⟨_,rfl,_,rfl,S1.nil 1⟩
end Go.Proofs.YtlbmlncdjkdoaaaGreat.Sh
/- Groups: heads, what a segment may be, 'group.Zones' of what was put. -/
set_option linter.unusedVariables false
set_option linter.unusedSimpArgs false
set_option maxRecDepth 100000
namespace Go.Proofs.YtlbmlncdjkdoaaaGreat.Sh
open Go Go.RowKit Go.Proofs.Ev
end Go.Proofs.YtlbmlncdjkdoaaaGreat.Sh
/- 'GroupJoins' comes to true. -/
set_option linter.unusedVariables false
set_option linter.unusedSimpArgs false
set_option maxRecDepth 100000
namespace Go.Proofs.YtlbmlncdjkdoaaaGreat.Sh
open Go Go.RowKit Go.Proofs.Ev
def bzG5:=PLift.up (ai @ld3 (ai @ld53 (ai @fa53_0 (ai @aggZ (ai @ex2_0 (ai @ex2_1 (@Nat.add_zero)))))))
def lightG (cols : List ColD) (rows : List (List CellD)) : Bool:=lightC cols && lightRs rows 70
theorem lightG_all {cols : List ColD} {rows : List (List CellD)} (h : lightG cols rows = true) : cols.length ≤ 20 ∧ rows.length ≤ 70 ∧ ∀ r ∈ rows,r.length ≤ 20:=by
 unfold lightG lightC lightRs lightR at h
 simp only [Bool.and_eq_true,decide_eq_true_eq,List.all_eq_true] at h
 obtain ⟨⟨_,h1⟩,h2,h3⟩:=h
 exact ⟨h1,by omega,fun r hr=>(h2 r hr).2⟩
theorem f10e {k : Nat} {h : AH} {cv rv : Value} {cols : List ColD} {rows : List (List CellD)} (C : Cols h cv cols) (R : Rows h rv rows)
  (hcl : cols.length ≤ 9223372036854775807 ∧ cols.length < k + 2) (hrl : rows.length ≤ 9223372036854775807 ∧ rows.length < k + 2) (hls : ∀ r ∈ rows,r.length ≤ 9223372036854775807 ∧ r.length < k + 1) :
  eInv env (k + 4) (.func 10) #[] #[cv,rv] h = some (.bool (lightG cols rows),h):=by
 rw [F10_call]
 have p1:=f17c (k:=k + 2) C hcl.1 hcl.2
 have p2:=f18c (k:=k + 1) 70 R hrl.1 hls hrl.2
 have T : Tl (F10 (eInv env (k + 3)) (k + 3) cv rv h) fun r=>r = (.bool (lightG cols rows),h):=by
  unfold F10 lightG
  cases q1 : lightC cols with
  | false =>
   rw [q1] at p1
   with_reducible repeat (first | (apply qzV; simp (disch:=omega) only [zA,bzG5.1,p1] <;> rfl) | apply qzT | apply qzF | apply qzG | ((first | apply qzB | apply qzC); simp (disch:=omega) only [zA,bzG5.1,p1] <;> rfl))
   exact ⟨_,rfl,rfl⟩
  | true =>
   rw [q1] at p1
   with_reducible repeat (first | (apply qzV; simp (disch:=omega) only [zA,bzG5.1,p1,p2] <;> rfl) | apply qzT | apply qzF | apply qzG | ((first | apply qzB | apply qzC); simp (disch:=omega) only [zA,bzG5.1,p1,p2] <;> rfl))
   exact ⟨_,rfl,rfl⟩
 obtain ⟨r,h1,h2⟩:=T
 rw [h1,h2]
end Go.Proofs.YtlbmlncdjkdoaaaGreat.Sh
/- Some cells of a row. -/
set_option linter.unusedVariables false
set_option linter.unusedSimpArgs false
set_option maxRecDepth 100000
namespace Go.Proofs.YtlbmlncdjkdoaaaGreat.Sh
open Go Go.RowKit Go.Proofs.Ev
open Tryz (prog)
def bzVx:=PLift.up (ai @ld3 (ai @ld2 (ai @ld9 (ai @ld39 (ai @fa39_0 (ai @fa39_1 (ai @fa39_2 (@Nat.add_zero))))))))
/-- The cell at a place; a null where there is none. -/
def atC (row : List CellD) (i : Int) : CellD:=if 0 ≤ i then (row[i.toNat]?).getD cellZ else cellZ
def pickL (row : List CellD) (by_ : List Int) : List CellD:=by_.map (atC row)
theorem bsC1 (c : CellD) (h : AH) : pBuildSlice prog 34 1 #[(0,CellD.v c)] h = some (.slice (some ⟨h.n,0,none⟩) 1 1,h.alloc (.cells (crow c) 39 true)):=by kernel_rfl
theorem atC_in {row : List CellD} {z : Int} {x : CellD} (h0 : 0 ≤ z) (hx : row[z.toNat]? = some x) : atC row z = x:=by unfold atC; rw [if_pos h0,hx]; rfl
theorem atC_out {row : List CellD} {z : Int} (h : ¬ (0 ≤ z ∧ z < row.length)) : atC row z = cellZ:=by
 unfold atC
 split
 ·rw [List.getElem?_eq_none (by omega)]; rfl
 ·rfl
theorem take_map1 {row : List CellD} {by_ : List Int} {i : Nat} {z : Int} (ez : by_[i]? = some z) : (pickL row (by_.take i)).map crow ++ [crow (atC row z)] = (pickL row (by_.take (i + 1))).map crow:=by
 unfold pickL
 rw [List.take_add_one,ez,List.map_append,List.map_append]; rfl
theorem pick_len (row : List CellD) (by_ : List Int) (i : Nat) : ((pickL row (by_.take i)).map crow).length ≤ i:=by unfold pickL; rw [List.length_map,List.length_map,List.length_take]; omega
theorem f14_loop {β : Type} {k : Nat} {Q : β→Prop} {h0 : AH} {rv bv : Value} {row : List CellD} {by_ : List Int} (R : Cells h0 rv row) (B : IntsZ h0 bv by_) (hl : by_.length ≤ 2 ^ 20) {ke0 : Value→Value→Value→Value→Value→AH→Option β} (n : Nat) :
  ∀ {i j : Nat} {h : AH} {x5 : Value},i + n = by_.length→n < j→Stt prog h0.n h0 h [] [(x5,3,(pickL row (by_.take i)).map crow)] →
   (∀ h' v' y0 y1 y2 y3,Stt prog h0.n h0 h' [] [(v',3,(pickL row by_).map crow)]→Tl (ke0 y0 y1 v' y2 y3 h') Q) →
   Tl (F14_lrlrr (eInv env k) k j rv bv x5 (.int .i64 i) h ke0) Q:=by
 have hv : ∀ h',pLen prog #[34] rv h' = some (.int .i64 row.length):=fun h'=>R.len
 have hb : ∀ h',pLen prog #[24] bv h' = some (.int .i64 by_.length):=fun h'=>B.len
 induction n with
 | zero =>
  intro i j h x5 hi hj S hk
  obtain ⟨j,rfl⟩ : ∃ q,j = q + 1:=⟨j - 1,by omega⟩
  simp only [F14_lrlrr]
  with_reducible repeat (first | (apply qzV; simp (disch:=omega) only [zA,bzVx.1,hb] <;> rfl) | apply qzT | apply qzF | apply qzG | ((first | apply qzB | apply qzC); simp (disch:=omega) only [zA,bzVx.1,hb] <;> rfl))
  exact hk _ _ _ _ _ _ (by rw [List.take_of_length_le (by omega)] at S; exact S)
 | succ n ih =>
  intro i j h x5 hi hj S hk
  obtain ⟨j,rfl⟩ : ∃ q,j = q + 1:=⟨j - 1,by omega⟩
  obtain ⟨z,ez⟩ : ∃ x,by_[i]? = some x:=⟨_,List.getElem?_eq_getElem (by omega)⟩
  obtain ⟨b,o,hp,hc0⟩:=B.at_ ez
  have e : (i : Int) + 1 = ((i + 1 : Nat) : Int):=by omega
  have et:=take_map1 (row:=row) ez
  have hpl:=pick_len row by_ i
  simp only [F14_lrlrr,F14_rlrllrllrlrr,G14_6]
  with_reducible repeat (first | (apply qzV; simp (disch:=omega) only [zA,bzVx.1,hb,bdC0] <;> rfl) | apply qzT | apply qzF | apply qzG | ((first | apply qzB | apply qzC); simp (disch:=omega) only [zA,bzVx.1,hb,bdC0] <;> rfl))
  refine Tl.alloc' S ze39 (by rfl) fun b8 h1 S1 g1=>?_
  refine Tl.store' S1 0 rfl sz39 rfl rfl (by decide) fun h2 S2 k2=>?_
  have S2 : Stt prog h0.n h0 h2 [(b8,.cells (crow cellZ) 39 true)] [(x5,3,(pickL row (by_.take i)).map crow)]:=S2
  have hc:=S2.grow.cell hc0
  by_cases q1 : 0 ≤ z
  ·by_cases q2 : z < row.length
   ·obtain ⟨m,rfl⟩ : ∃ m : Nat,z = m:=⟨z.toNat,by omega⟩
    obtain ⟨x,ex⟩ : ∃ x,row[m]? = some x:=⟨_,List.getElem?_eq_getElem (by omega)⟩
    obtain ⟨b',o',hp',hrow'⟩:=(R.grow S2.grow).at_ ex
    rw [atC_in q1 (by simpa using ex)] at et
    with_reducible repeat (first | (apply qzV; simp (disch:=omega) only [zA,bzVx.1,hp,hc,hv,hp',hrow'] <;> rfl) | apply qzT | apply qzF | apply qzG | ((first | apply qzB | apply qzC); simp (disch:=omega) only [zA,bzVx.1,hp,hc,hv,hp',hrow'] <;> rfl))
    refine Tl.store' S2 0 rfl sz39 rfl rfl (by decide) fun h3 S3 k3=>?_
    have S3 : Stt prog h0.n h0 h3 [(b8,.cells (crow x) 39 true)] [(x5,3,(pickL row (by_.take i)).map crow)]:=S3
    have r3 : h3.row b8 0 3 = some (crow x):=S3.row 0 rfl rfl
    with_reducible repeat (first | (apply qzV; simp (disch:=omega) only [zA,bzVx.1,r3] <;> rfl) | apply qzT | apply qzF | apply qzG | ((first | apply qzB | apply qzC); simp (disch:=omega) only [zA,bzVx.1,r3] <;> rfl))
    refine Tl.push S3 0 rfl appC (bsC1 x _) rfl rfl (by omega) fun v' h4 S4=>?_
    with_reducible repeat (first | (apply qzV; simp (disch:=omega) only [zA,bzVx.1] <;> rfl) | apply qzT | apply qzF | apply qzG | ((first | apply qzB | apply qzC); simp (disch:=omega) only [zA,bzVx.1] <;> rfl))
    rw [e]
    exact ih (by omega) (by omega) (by rw [← et]; exact S4.drop) hk
   ·rw [atC_out (by omega)] at et
    have r3 : h2.row b8 0 3 = some (crow cellZ):=S2.row 0 rfl rfl
    with_reducible repeat (first | (apply qzV; simp (disch:=omega) only [zA,bzVx.1,hp,hc,hv,r3] <;> rfl) | apply qzT | apply qzF | apply qzG | ((first | apply qzB | apply qzC); simp (disch:=omega) only [zA,bzVx.1,hp,hc,hv,r3] <;> rfl))
    refine Tl.push S2 0 rfl appC (bsC1 cellZ _) rfl rfl (by omega) fun v' h4 S4=>?_
    with_reducible repeat (first | (apply qzV; simp (disch:=omega) only [zA,bzVx.1] <;> rfl) | apply qzT | apply qzF | apply qzG | ((first | apply qzB | apply qzC); simp (disch:=omega) only [zA,bzVx.1] <;> rfl))
    rw [e]
    exact ih (by omega) (by omega) (by rw [← et]; exact S4.drop) hk
  ·rw [atC_out (by omega)] at et
   have r3 : h2.row b8 0 3 = some (crow cellZ):=S2.row 0 rfl rfl
   with_reducible repeat (first | (apply qzV; simp (disch:=omega) only [zA,bzVx.1,hp,hc,hv,r3] <;> rfl) | apply qzT | apply qzF | apply qzG | ((first | apply qzB | apply qzC); simp (disch:=omega) only [zA,bzVx.1,hp,hc,hv,r3] <;> rfl))
   refine Tl.push S2 0 rfl appC (bsC1 cellZ _) rfl rfl (by omega) fun v' h4 S4=>?_
   with_reducible repeat (first | (apply qzV; simp (disch:=omega) only [zA,bzVx.1] <;> rfl) | apply qzT | apply qzF | apply qzG | ((first | apply qzB | apply qzC); simp (disch:=omega) only [zA,bzVx.1] <;> rfl))
   rw [e]
   exact ih (by omega) (by omega) (by rw [← et]; exact S4.drop) hk
theorem f14c {k : Nat} {h : AH} {rv bv : Value} {row : List CellD} {by_ : List Int} (R : Cells h rv row) (B : IntsZ h bv by_) (hl : by_.length ≤ 2 ^ 20) (hk : by_.length < k) :
  Tl (eInv env (k + 1) (.func 14) #[] #[rv,bv] h) fun r=>Stt prog h.n h r.2 [] [(r.1,3,(pickL row by_).map crow)]:=by
 rw [F14_call]
 unfold F14
 exact f14_loop R B hl by_.length (i:=0) (by omega) (by omega) ((Stt.init h).nil 3) fun h' v' y0 y1 y2 y3 S=>⟨_,rfl,S⟩
end Go.Proofs.YtlbmlncdjkdoaaaGreat.Sh
/- Readers of numbers: 'plain', 'runs', 'packed'. -/
set_option linter.unusedVariables false
set_option linter.unusedSimpArgs false
set_option maxRecDepth 100000
namespace Go.Proofs.YtlbmlncdjkdoaaaGreat.Sh
open Go Go.RowKit Go.Proofs.Ev
open Tryz (prog)
/-- A number without a sign as one with. -/
def toI (x : Nat) : Int:=if x ≥ 9223372036854775808 then (x : Int) - 18446744073709551616 else x
theorem toI_toU {z : Int} (h : i64ok z) : toI (toU z) = z:=by
 unfold i64ok at h
 unfold toI toU
 split <;> omega
def plainGI : Nat→List Nat→Option (List Int)
 | 0,_=>some []
 | n + 1,r=>if r.length < 8 then none else (plainGI n (r.drop 8)).map (toI (ofB (r.take 8)) :: ·)
def runsG : Nat→Nat→List Nat→Option (List Int)
 | 0,n,_=>if n = 0 then some [] else none
 | f + 1,n,r=>if n = 0 then some [] else match dec 0 0 r with
  | none=>none
  | some (k,r1)=>if r1.length < 8 ∨ k < 1 ∨ k > n then none else (runsG f (n - k) (r1.drop 8)).map (List.replicate k (toI (ofB (r1.take 8))) ++ ·)
def packG (n : Nat) (r : List Nat) : Option (List Int):=if r.length < 9 then none else
 if Pk.checkE (r.drop 9) n (ofB ((r.drop 8).take 1) : Nat) ≠ 0 then none else some ((Pk.getN (r.drop 9) n (ofB ((r.drop 8).take 1) : Nat)).map fun v=>toI ((ofB (r.take 8) + v) % 18446744073709551616))
def kindG (kd n : Nat) (r : List Nat) : Option (List Int):=if kd = 1 then plainGI n r else if kd = 2 then runsG n n r else packG n r
/-- What a reader of numbers comes to. -/
def ReadQ (n0 : Nat) (h0 : AH) (br : Nat) (L : List (Nat × AO)) (O : List OS) (res : Option (List Int)) (r : Value × AH) : Prop :=
 (∃ l rv o O',res = some l ∧ r.1 = .tuple #[o,.int .i64 0] ∧ Stt prog n0 h0 r.2 (Rb br rv :: L) ((o,1,i6rows l) :: O')) ∨
 (res = none ∧ ∃ o e,e ≠ 0 ∧ r.1 = .tuple #[o,.int .i64 e] ∧ Stt prog n0 h0 r.2 L O)
end Go.Proofs.YtlbmlncdjkdoaaaGreat.Sh
/- What 'Get' of the ints' package comes to. -/
set_option linter.unusedVariables false
set_option linter.unusedSimpArgs false
set_option maxRecDepth 100000
namespace Go.Proofs.YtlbmlncdjkdoaaaGreat.Sh
open Go Go.RowKit Go.Proofs.Ev
open Tryz (prog)
def formB (kd : Nat) (l : List Int) : List Nat:=if kd = 1 then plainB l else if kd = 2 then runsB l else packB l
def getI (b : List Nat) : Option (List Int):=match b with
 | []=>none
 | kind :: r0=>match dec 0 0 r0 with
  | none=>none
  | some (n,r1)=>if n > 4096 then none else if kind = 1 ∨ kind = 2 ∨ kind = 3 then (match kindG kind n r1 with
   | none=>none
   | some l=>if formB kind l = kind :: r0 then some l else none) else none
theorem RV.ins {L : List (Nat × AO)} {a p : Nat × AO} {rv : Value} {rest : List Nat} (R : RV (a :: L) 0 rv rest) : RV (a :: p :: L) 0 rv rest:=by
 rcases R with R | ⟨j,bb,o,cs,e,h1,h2,h3⟩
 ·exact .inl R
 ·obtain ⟨j,rfl⟩ : ∃ q,j = q + 1:=⟨j - 1,by omega⟩
  exact .inr ⟨j + 2,bb,o,cs,e,by omega,by simpa using h2,h3⟩
section
variable {n0 : Nat} {h0 h : AH} {L : List (Nat × AO)} {O : List OS}
def idxK (kind : Nat) : Int:=if kind = 1 then 0 else if kind = 2 then 1 else if kind = 3 then 2 else -1
end
/-- A form's functions. -/
structure Fns (kd i F g : Nat) : Prop where
 lt : i < 3
 row : (formsC.drop (i * 3)).take 3 = formR kd F g
 idx : idxK kd = (i : Int)
 put : ∀ {k : Nat} {h : AH} {v : Value} {l : List Int},Ints h v l→l.length ≤ 4096→Tl (eInv env (k + 6000) (.func F) #[] #[v] h) fun r=>∃ o,r.1 = .tuple #[o,.int .i64 0] ∧ Grow h r.2 ∧ OwnB prog h.n r.2 o 1 (u8rows (formB kd l))
 get : ∀ {k : Nat} {n0 : Nat} {h0 h : AH} {L : List (Nat × AO)} {O : List OS} {br n : Nat} {rv : Value} {rest : List Nat},Stt prog n0 h0 h (Rb br rv :: L) O→RV (Rb br rv :: L) 0 rv rest→n ≤ 4096 →
  rest.length ≤ 5000→(∀ x ∈ rest,x < 256)→Tl (eInv env (k + 6000) (.func g) #[] #[ptr br,.int .i64 n] h) (ReadQ n0 h0 br L O (kindG kd n rest))
end Go.Proofs.YtlbmlncdjkdoaaaGreat.Sh
/- Codecs: how values are got; 'back'. -/
set_option linter.unusedVariables false
set_option linter.unusedSimpArgs false
set_option maxRecDepth 100000
namespace Go.Proofs.YtlbmlncdjkdoaaaGreat.Sh
open Go Go.RowKit Go.Proofs.Ev Go.Lib
section
variable {n0 : Nat} {h0 h : AH} {L : List (Nat × AO)} {O : List OS}
def gtN (b : List Nat) (n : Nat) : Option (List Int):=getI b
def bkN (b : List Nat) (n : Nat) : Option (List CellD):=match gtN b n with
 | none=>none
 | some vs=>if vs.length = n then some (vs.map mkN) else none
def gtT (b : List Nat) (n : Nat) : Option (List Nat):=if Pk.checkE b (n : Int) 1 = 0 then some (Pk.getN b (n : Int) 1) else none
def bkT (b : List Nat) (n : Nat) : Option (List CellD):=match gtT b n with
 | none=>none
 | some vs=>if vs.length = n then some (vs.map mkT) else none
def gtW (b : List Nat) (n : Nat) : Option (List ByteArray):=getT b
def bkW (b : List Nat) (n : Nat) : Option (List CellD):=match gtW b n with
 | none=>none
 | some vs=>if vs.length = n then some (vs.map mkW) else none
end
end Go.Proofs.YtlbmlncdjkdoaaaGreat.Sh
/- What 'segment.Get' comes to. -/
set_option linter.unusedVariables false
set_option linter.unusedSimpArgs false
set_option maxRecDepth 100000
namespace Go.Proofs.YtlbmlncdjkdoaaaGreat.Sh
open Go Go.RowKit Go.Proofs.Ev Go.Lib
/-! ### What is got, without the program -/
def backB (kind : Int) (b : List Nat) (n : Nat) : Option (List CellD):=if kind = 1 then bkN b n else if kind = 2 then bkT b n else bkW b n
/-- Cells in the places of the flags that are not true. -/
def fillF : List Bool→List CellD→List CellD
 | [],_=>[]
 | true :: l,cs=>c0 :: fillF l cs
 | false :: l,c :: cs=>c :: fillF l cs
 | false :: l,[]=>c0 :: fillF l []
def someB (kind : Int) (l : List Bool) (rest : List Nat) : Option (List CellD):=if l.length - cnt l = 0 then some [] else backB kind rest (l.length - cnt l)
def gotB (bs : List Nat) : Option (Int × List CellD):=match openB bs with
 | none=>none
 | some (kind,l,_,rest)=>match someB kind l rest with
  | none=>none
  | some cs=>if segE kind (fillF l cs) = 0 ∧ segB kind (fillF l cs) = bs then some (kind,fillF l cs) else none
/-! ### The walk -/
section
variable {n0 : Nat} {h0 h : AH} {L : List (Nat × AO)} {O : List OS}
end
end Go.Proofs.YtlbmlncdjkdoaaaGreat.Sh
/- What 'segment.Get' comes to: the whole. -/
set_option linter.unusedVariables false
set_option linter.unusedSimpArgs false
set_option maxRecDepth 100000
namespace Go.Proofs.YtlbmlncdjkdoaaaGreat.Sh
open Go Go.RowKit Go.Proofs.Ev Go.Lib
end Go.Proofs.YtlbmlncdjkdoaaaGreat.Sh
/- Texts that were put are got. No program's step in sight. -/
set_option linter.unusedVariables false
set_option linter.unusedSimpArgs false
set_option maxRecDepth 100000
namespace Go.Proofs.YtlbmlncdjkdoaaaGreat.Sh
open Go Go.RowKit Go.Proofs.Ev
theorem strB_bytesN (s : ByteArray) : strB (bytesN s) = s:=by
 unfold strB bytesN
 rw [List.map_map]
 have e : (UInt8.ofNat ∘ UInt8.toNat) = id:=funext fun x=>by simp
 rw [e,List.map_id]
theorem readT_put : ∀ (l : List ByteArray) (rest : List Nat),(∀ x ∈ l,x.size ≤ 65536)→readT l.length (l.flatMap textP ++ rest) = some (l,rest):=by
 intro l
 induction l with
 | nil=>intro rest _; rfl
 | cons s l ih =>
  intro rest h
  have hs:=h s (List.mem_cons_self ..)
  have i:=ih rest fun x hx=>h x (List.mem_cons_of_mem _ hx)
  rw [List.flatMap_cons,List.length_cons,readT]
  have e : textP s ++ l.flatMap textP ++ rest = pvarN s.size ++ (bytesN s ++ (l.flatMap textP ++ rest)):=by
   unfold textP
   simp
  rw [e,dec_pvar _ s.size (i:=0) (acc:=0) (.inl rfl) (by simp; omega)]
  simp only [Nat.zero_add,Nat.mul_zero,Nat.pow_zero,Nat.mul_one]
  rw [if_neg (by rw [List.length_append,bytesN_len]; omega),List.take_left' (bytesN_len s),List.drop_left' (bytesN_len s),i,strB_bytesN]
  rfl
theorem getT_plain {l : List ByteArray} (h : mayT l = true) : getT (plainT l) = some l:=by
 obtain ⟨h1,h2⟩:=mayT_spec.1 h
 have hr:=readT_put l [] h2
 rw [List.append_nil] at hr
 unfold getT
 conv=>lhs; unfold plainT
 simp only
 rw [dec_pvar _ l.length (i:=0) (acc:=0) (.inl rfl) (by simp; omega)]
 simp only [Nat.zero_add,Nat.mul_zero,Nat.pow_zero,Nat.mul_one]
 rw [if_neg (by omega)]
 unfold formT putF
 simp only [if_true]
 rw [hr]
 simp only [Option.map_some]
 rw [if_pos]
 unfold plainG
 rw [h]
 rfl
theorem lookT_pos (w : List ByteArray) : ∀ l : List ByteArray,(∀ x ∈ l,x ∈ w)→lookT w (l.map (posS w)) = some l:=by
 intro l
 induction l with
 | nil=>intro _; rfl
 | cons s l ih =>
  intro h
  rw [List.map_cons,lookT,posS_at (h s (List.mem_cons_self ..))]
  simp only
  rw [ih fun x hx=>h x (List.mem_cons_of_mem _ hx)]
  rfl
theorem getT_dict {l : List ByteArray} (h : mayT l = true) : getT (dictT l) = some l:=by
 obtain ⟨h1,h2⟩:=mayT_spec.1 h
 have hwl:=wordsB_len l
 have hal : (atW l).length = l.length:=List.length_map ..
 have ha64 : ∀ x ∈ atW l,x < 18446744073709551616:=fun x hx=>by have:=atW_lt x hx; omega
 have hW:=Pk.width64 ha64
 obtain ⟨t1,t2⟩:=Pk.there (l:=atW l) (W:=widW l) (by omega) hW (Nat.le_refl _)
 rw [hal] at t1 t2
 have hr:=readT_put (wordsB l) (widW l :: putN (widW l) (atW l)) fun x hx=>h2 x (wordsB_mem.1 hx)
 have e : dictT l = 2 :: (pvarN l.length ++ (pvarN (wordsB l).length ++ ((wordsB l).flatMap textP ++ (widW l :: putN (widW l) (atW l))))):=by
  unfold dictT
  simp
 have hput : putF 2 l = dictT l:=by
  unfold putF dictG
  rw [h]
  rfl
 have hw : wordsT l.length (pvarN (wordsB l).length ++ ((wordsB l).flatMap textP ++ (widW l :: putN (widW l) (atW l)))) = some l:=by
  unfold wordsT
  rw [dec_pvar _ (wordsB l).length (i:=0) (acc:=0) (.inl rfl) (by simp; omega)]
  simp only [Nat.zero_add,Nat.mul_zero,Nat.pow_zero,Nat.mul_one]
  rw [if_neg (by omega),hr]
  simp only
  rw [if_neg (fun q=>q t1),t2]
  exact lookT_pos (wordsB l) l fun x hx=>wordsB_mem.2 hx
 rw [← hput]
 conv=>lhs; rw [hput,e]
 unfold getT
 simp only
 rw [dec_pvar _ l.length (i:=0) (acc:=0) (.inl rfl) (by simp; omega)]
 simp only [Nat.zero_add,Nat.mul_zero,Nat.pow_zero,Nat.mul_one]
 rw [if_neg (by omega)]
 unfold formT
 rw [if_neg (by omega),if_pos rfl,hw]
 simp only
 rw [if_pos (by rw [hput,e])]
theorem getT_put {l : List ByteArray} (h : mayT l = true) : getT (putT l) = some l:=by
 unfold putT
 rw [if_pos h]
 split
 ·exact getT_dict h
 ·exact getT_plain h
end Go.Proofs.YtlbmlncdjkdoaaaGreat.Sh
