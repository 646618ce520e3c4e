/- Which columns may be, as the document and as the schema's package tell; rows that fit. -/
import Derived.Test.YtgklcfnjahomjaaSzVg
set_option linter.unusedVariables false
set_option linter.unusedSimpArgs false
set_option maxRecDepth 100000
namespace Go.Proofs.Ytgklcfnjahomjaa.Sh
open Go Go.RowKit Go.Proofs.Ev
theorem bzVh : type_of% (And.intro @ld3 (And.intro @ld2 (And.intro @ld4 (And.intro @ld9 (And.intro @ld37 (And.intro @ld42 (And.intro @fa37_0 (And.intro @fa37_1 (And.intro @fa37_2 (And.intro @fa42_0 (And.intro @fa42_1 (And.intro @fa42_2 (@Nat.add_zero))))))))))))):=And.intro @ld3 (And.intro @ld2 (And.intro @ld4 (And.intro @ld9 (And.intro @ld37 (And.intro @ld42 (And.intro @fa37_0 (And.intro @fa37_1 (And.intro @fa37_2 (And.intro @fa42_0 (And.intro @fa42_1 (And.intro @fa42_2 (@Nat.add_zero))))))))))))
structure ColD where
 name : ByteArray
 kind : Int
 null : Bool
def colrow (c : ColD) : List Value:=[.string c.name,.int .i64 c.kind,.bool c.null]
def Cols (h : AH) (v : Value) (l : List ColD) : Prop:=SlZ Try.prog h v 3 (l.map colrow)
theorem Cols.grow {h h' : AH} {v : Value} {l : List ColD} (S : Cols h v l) (g : Grow h h') : Cols h' v l:=SlZ.grow S g
theorem Cols.len {h h' : AH} {v : Value} {l : List ColD} (S : Cols h v l) : pLen Try.prog #[22] v h' = some (.int .i64 l.length):=by
 have:=SlZ.len S u22 (h':=h')
 rwa [List.length_map] at this
theorem Cols.at_ {h : AH} {v : Value} {l : List ColD} (S : Cols h v l) {i : Nat} {x : ColD} (hi : l[i]? = some x) :
  ∃ b o,pIndexAddr Try.prog 22 v (.int .i64 i) = some (.pointer (some ⟨b,o,none⟩)) ∧ h.row b o 3 = some (colrow x) :=
 SlZ.at_ S (k:=.i64) (by simp [hi]) u22 sz42
theorem Cols.take {h : AH} {v : Value} {l : List ColD} (S : Cols h v l) {i : Nat} (hi : i ≤ l.length) : ∃ v',(∀ h',pSlice Try.prog 22 v none (some (.int .i64 i)) none h' = some v') ∧ Cols h v' (l.take i):=by
 obtain ⟨v',h1,h2,_⟩:=SlZ.take S u22 sz42 (k:=.i64) (i:=i) (by simpa using hi)
 exact ⟨v',h1,by rw [← List.map_take] at h2; exact h2⟩
/-! ### Light columns -/
def lightC (l : List ColD) : Bool:=(l.all fun c=>decide (c.name.size ≤ 60)) && decide (l.length ≤ 20)
theorem f33_loop {β : Type} {inv : Inv} {k : Nat} {Q : β→Prop} {h : AH} {v : Value} {l : List ColD} (S : Cols h v l) (hl : l.length ≤ 9223372036854775807) {ke0 : Value→Value→Value→AH→Option β} {kr : Value→AH→Option β} (n : Nat) :
  ∀ {i j : Nat},i + n = l.length→n < j→(((l.drop i).all fun c=>decide (c.name.size ≤ 60)) = true→∀ y1 y2,Tl (ke0 v y1 y2 h) Q)→(((l.drop i).all fun c=>decide (c.name.size ≤ 60)) = false→Tl (kr (.bool false) h) Q) →
   Tl (F33_lrlr inv k j v (.int .i64 i) h ke0 kr) Q:=by
 have hv : ∀ h',pLen Try.prog #[22] v h' = some (.int .i64 l.length):=fun h'=>S.len
 induction n with
 | zero =>
  intro i j hi hj hk hr
  obtain ⟨j,rfl⟩ : ∃ q,j = q + 1:=⟨j - 1,by omega⟩
  simp only [F33_lrlr]
  repeat (first | (with_reducible apply qzV; simp (disch:=omega) only [coreA,Int.reduceBEq,bzVh,hv] <;> with_reducible rfl) | (with_reducible first | apply qzT | apply qzF | apply qzG | apply qzH) | ((with_reducible first | apply qzB | apply qzC | apply qzD); simp (disch:=omega) only [coreA,Int.reduceBEq,bzVh,hv] <;> with_reducible rfl))
  exact hk (by rw [List.drop_eq_nil_of_le (by omega)]; rfl) _ _
 | succ n ih =>
  intro i j hi hj hk hr
  obtain ⟨j,rfl⟩ : ∃ q,j = q + 1:=⟨j - 1,by omega⟩
  obtain ⟨x,ex⟩ : ∃ x,l[i]? = some x:=⟨_,List.getElem?_eq_getElem (by omega)⟩
  obtain ⟨b,o,hp,hrow⟩:=S.at_ ex
  have c0 : h.cell b o = some (.string x.name):=Ev.cell_of_row (j:=0) hrow (by omega)
  have hs : ∀ h' : AH,pLen Try.prog #[9] (.string x.name) h' = some (.int .i64 x.name.size):=fun h'=>len_string u9
  have e : (i : Int) + 1 = ((i + 1 : Nat) : Int):=by omega
  simp only [F33_lrlr]
  rw [drop_at ex,List.all_cons] at hk hr
  by_cases q2 : x.name.size ≤ 60
  ·rw [decide_eq_true q2,Bool.true_and] at hk hr
   repeat (first | (with_reducible apply qzV; simp (disch:=omega) only [coreA,Int.reduceBEq,bzVh,hv,hp,c0,hs] <;> with_reducible rfl) | (with_reducible first | apply qzT | apply qzF | apply qzG | apply qzH) | ((with_reducible first | apply qzB | apply qzC | apply qzD); simp (disch:=omega) only [coreA,Int.reduceBEq,bzVh,hv,hp,c0,hs] <;> with_reducible rfl))
   rw [e]
   exact ih (by omega) (by omega) hk hr
  ·rw [decide_eq_false q2,Bool.false_and] at hr
   repeat (first | (with_reducible apply qzV; simp (disch:=omega) only [coreA,Int.reduceBEq,bzVh,hv,hp,c0,hs] <;> with_reducible rfl) | (with_reducible first | apply qzT | apply qzF | apply qzG | apply qzH) | ((with_reducible first | apply qzB | apply qzC | apply qzD); simp (disch:=omega) only [coreA,Int.reduceBEq,bzVh,hv,hp,c0,hs] <;> with_reducible rfl))
   exact hr rfl
theorem f33c {k : Nat} {h : AH} {v : Value} {l : List ColD} (S : Cols h v l) (hl : l.length ≤ 9223372036854775807) (hk : l.length < k) : eInv env (k + 1) (.func 33) #[] #[v] h = some (.bool (lightC l),h):=by
 rw [F33_call]
 have T : Tl (F33 (eInv env k) k v h) fun r=>r = (.bool (lightC l),h):=by
  unfold F33
  have hv : ∀ h',pLen Try.prog #[22] v h' = some (.int .i64 l.length):=fun h'=>S.len
  refine f33_loop S hl l.length (i:=0) (by omega) hk (fun q y1 y2=>?_) fun q=>⟨_,rfl,?_⟩
  ·rw [List.drop_zero] at q
   repeat (first | (with_reducible apply qzV; simp (disch:=omega) only [coreA,Int.reduceBEq,bzVh,hv] <;> with_reducible rfl) | (with_reducible first | apply qzT | apply qzF | apply qzG | apply qzH) | ((with_reducible first | apply qzB | apply qzC | apply qzD); simp (disch:=omega) only [coreA,Int.reduceBEq,bzVh,hv] <;> with_reducible rfl))
   refine ⟨_,rfl,?_⟩
   unfold lightC
   rw [q,Bool.true_and]
   congr 2
   simp
   omega
  ·rw [List.drop_zero] at q
   unfold lightC
   rw [q,Bool.false_and]
 obtain ⟨r,h1,h2⟩:=T
 rw [h1,h2]
/-! ### Columns that may be -/
def colsF : List ColD→List ColD→Bool
 | _,[]=>true
 | pre,c :: l=>nameOk c.name && (decide (1 ≤ c.kind ∧ c.kind ≤ 3) && (!(pre.any fun o=>decide (o.name = c.name)) && colsF (pre ++ [c]) l))
def colsOk (l : List ColD) : Bool:=decide (1 ≤ l.length) && (decide (l.length ≤ 16) && colsF [] l)
/-- The error of columns, as both tell it. -/
def colsFE : List ColD→List ColD→Int
 | _,[]=>0
 | pre,c :: l=>if nameOk c.name = true then (if 1 ≤ c.kind ∧ c.kind ≤ 3 then (if (pre.any fun o=>decide (o.name = c.name)) = true then 171 else colsFE (pre ++ [c]) l) else 171) else 170
def colsE (l : List ColD) : Int:=if 1 ≤ l.length ∧ l.length ≤ 16 then colsFE [] l else 171
theorem colsFE_zero : ∀ (pre l : List ColD),colsFE pre l = 0 ↔ colsF pre l = true
 | _,[]=>by simp [colsFE,colsF]
 | pre,c :: l=>by
  have ih:=colsFE_zero (pre ++ [c]) l
  unfold colsFE colsF
  cases q1 : nameOk c.name with
  | false=>simp
  | true =>
   by_cases q2 : 1 ≤ c.kind ∧ c.kind ≤ 3
   ·cases q3 : pre.any fun o=>decide (o.name = c.name) with
    | false=>rw [if_pos rfl,if_pos q2,if_neg (by simp),ih,decide_eq_true q2]; simp
    | true=>rw [if_pos rfl,if_pos q2,if_pos rfl]; simp
   ·rw [if_pos rfl,if_neg q2,decide_eq_false q2]; simp
theorem colsE_zero (l : List ColD) : colsE l = 0 ↔ colsOk l = true:=by
 unfold colsE colsOk
 by_cases q : 1 ≤ l.length ∧ l.length ≤ 16
 ·rw [if_pos q,colsFE_zero,decide_eq_true q.1,decide_eq_true q.2]; simp
 ·rw [if_neg q]
  by_cases q1 : 1 ≤ l.length
  ·have q2 : ¬ l.length ≤ 16:=fun h=>q ⟨q1,h⟩
   simp [q2]
  ·simp [q1]
theorem f40_in {β : Type} {inv : Inv} {k : Nat} {Q : β→Prop} {h : AH} {v : Value} {l : List ColD} {i : Nat} {c : ColD} (S : Cols h v l) (hl : l.length ≤ 100) (hc : l[i]? = some c) {ke2 : Value→Value→Value→Value→AH→Option β} {kr : Value→AH→Option β} (n : Nat) :
  ∀ {q j : Nat},q + n = i→n < j→(((l.take i).drop q).any (fun o=>decide (o.name = c.name)) = false→∀ y1 y2,Tl (ke2 v (.int .i64 i) y1 y2 h) Q)→(((l.take i).drop q).any (fun o=>decide (o.name = c.name)) = true→Tl (kr (.int .i64 171) h) Q) →
   Tl (F40_lrrrllrllrlrr inv k j v (.int .i64 i) (.int .i64 q) h ke2 kr) Q:=by
 have hil:=(List.getElem?_eq_some_iff.1 hc).1
 obtain ⟨bc,oc,hpc,hrc⟩:=S.at_ hc
 have cc : h.cell bc oc = some (.string c.name):=Ev.cell_of_row (j:=0) hrc (by omega)
 induction n with
 | zero =>
  intro q j hq hj hk hr
  obtain ⟨j,rfl⟩ : ∃ q,j = q + 1:=⟨j - 1,by omega⟩
  simp only [F40_lrrrllrllrlrr]
  repeat (first | (with_reducible apply qzV; simp (disch:=omega) only [coreA,Int.reduceBEq,bzVh] <;> with_reducible rfl) | (with_reducible first | apply qzT | apply qzF | apply qzG | apply qzH) | ((with_reducible first | apply qzB | apply qzC | apply qzD); simp (disch:=omega) only [coreA,Int.reduceBEq,bzVh] <;> with_reducible rfl))
  exact hk (by rw [List.drop_eq_nil_of_le (by simp; omega)]; rfl) _ _
 | succ n ih =>
  intro q j hq hj hk hr
  obtain ⟨j,rfl⟩ : ∃ q,j = q + 1:=⟨j - 1,by omega⟩
  obtain ⟨x,ex⟩ : ∃ x,l[q]? = some x:=⟨_,List.getElem?_eq_getElem (by omega)⟩
  have ex' : (l.take i)[q]? = some x:=by rw [List.getElem?_take_of_lt (by omega)]; exact ex
  obtain ⟨b,o,hp,hrow⟩:=S.at_ ex
  have c0 : h.cell b o = some (.string x.name):=Ev.cell_of_row (j:=0) hrow (by omega)
  have e : (q : Int) + 1 = ((q + 1 : Nat) : Int):=by omega
  have hq2 : ∀ x' y',pBin Try.prog .eql 9 x' y' (.string x.name) (.string c.name) = some (.bool (decide (x.name = c.name))):=fun _ _=>bin_eql_string
  simp only [F40_lrrrllrllrlrr]
  rw [drop_at ex',List.any_cons] at hk hr
  by_cases q2 : x.name = c.name
  ·rw [decide_eq_true q2,Bool.true_or] at hr
   have q3:=decide_eq_true q2
   repeat (first | (with_reducible apply qzV; simp (disch:=omega) only [coreA,Int.reduceBEq,bzVh,hp,c0,hpc,cc,hq2,q3] <;> with_reducible rfl) | (with_reducible first | apply qzT | apply qzF | apply qzG | apply qzH) | ((with_reducible first | apply qzB | apply qzC | apply qzD); simp (disch:=omega) only [coreA,Int.reduceBEq,bzVh,hp,c0,hpc,cc,hq2,q3] <;> with_reducible rfl))
   exact hr rfl
  ·have q3:=decide_eq_false q2
   rw [q3,Bool.false_or] at hk hr
   repeat (first | (with_reducible apply qzV; simp (disch:=omega) only [coreA,Int.reduceBEq,bzVh,hp,c0,hpc,cc,hq2,q3] <;> with_reducible rfl) | (with_reducible first | apply qzT | apply qzF | apply qzG | apply qzH) | ((with_reducible first | apply qzB | apply qzC | apply qzD); simp (disch:=omega) only [coreA,Int.reduceBEq,bzVh,hp,c0,hpc,cc,hq2,q3] <;> with_reducible rfl))
   rw [e]
   exact ih (by omega) (by omega) hk hr
theorem f40_out {β : Type} {k : Nat} {Q : β→Prop} {h : AH} {v : Value} {l : List ColD} (S : Cols h v l) (hl : l.length ≤ 16) {ke0 : Value→Value→Value→AH→Option β} {kr : Value→AH→Option β} (n : Nat) :
  ∀ {i j : Nat},i + n = l.length→n < j→(colsFE (l.take i) (l.drop i) = 0→∀ y1 y2 y3,Tl (ke0 y1 y2 y3 h) Q)→(colsFE (l.take i) (l.drop i) ≠ 0→Tl (kr (.int .i64 (colsFE (l.take i) (l.drop i))) h) Q) →
   Tl (F40_lrlrr (eInv env (k + 200)) (k + 200) j v (.int .i64 i) h ke0 kr) Q:=by
 have hv : ∀ h',pLen Try.prog #[22] v h' = some (.int .i64 l.length):=fun h'=>S.len
 induction n with
 | zero =>
  intro i j hi hj hk hr
  obtain ⟨j,rfl⟩ : ∃ q,j = q + 1:=⟨j - 1,by omega⟩
  simp only [F40_lrlrr]
  repeat (first | (with_reducible apply qzV; simp (disch:=omega) only [coreA,Int.reduceBEq,bzVh,hv] <;> with_reducible rfl) | (with_reducible first | apply qzT | apply qzF | apply qzG | apply qzH) | ((with_reducible first | apply qzB | apply qzC | apply qzD); simp (disch:=omega) only [coreA,Int.reduceBEq,bzVh,hv] <;> with_reducible rfl))
  exact hk (by rw [List.drop_eq_nil_of_le (by omega)]; rfl) _ _ _
 | succ n ih =>
  intro i j hi hj hk hr
  obtain ⟨j,rfl⟩ : ∃ q,j = q + 1:=⟨j - 1,by omega⟩
  obtain ⟨x,ex⟩ : ∃ x,l[i]? = some x:=⟨_,List.getElem?_eq_getElem (by omega)⟩
  obtain ⟨b,o,hp,hrow⟩:=S.at_ ex
  have c0 : h.cell b o = some (.string x.name):=Ev.cell_of_row (j:=0) hrow (by omega)
  have c1 : h.cell b (o + 1) = some (.int .i64 x.kind):=Ev.cell_of_row (j:=1) hrow (by omega)
  have e : (i : Int) + 1 = ((i + 1 : Nat) : Int):=by omega
  have hn:=f59e (k:=k + 99) x.name h
  simp only [F40_lrlrr]
  rw [drop_at ex,colsFE] at hk hr
  cases q1 : nameOk x.name with
  | false =>
   rw [q1] at hn
   rw [if_neg (by rw [q1]; simp)] at hr
   simp only [Bool.false_eq_true,if_false] at hn
   repeat (first | (with_reducible apply qzV; simp (disch:=omega) only [coreA,Int.reduceBEq,bzVh,hv,hp,c0,c1,hn] <;> with_reducible rfl) | (with_reducible first | apply qzT | apply qzF | apply qzG | apply qzH) | ((with_reducible first | apply qzB | apply qzC | apply qzD); simp (disch:=omega) only [coreA,Int.reduceBEq,bzVh,hv,hp,c0,c1,hn] <;> with_reducible rfl))
   exact hr (by omega)
  | true =>
   rw [q1] at hn
   rw [if_pos q1] at hk hr
   simp only [if_true] at hn
   by_cases q2 : 1 ≤ x.kind ∧ x.kind ≤ 3
   ·rw [if_pos q2] at hk hr
    obtain ⟨q21,q22⟩:=q2
    repeat (first | (with_reducible apply qzV; simp (disch:=omega) only [coreA,Int.reduceBEq,bzVh,hv,hp,c0,c1,hn] <;> with_reducible rfl) | (with_reducible first | apply qzT | apply qzF | apply qzG | apply qzH) | ((with_reducible first | apply qzB | apply qzC | apply qzD); simp (disch:=omega) only [coreA,Int.reduceBEq,bzVh,hv,hp,c0,c1,hn] <;> with_reducible rfl))
    refine f40_in S (by omega) ex i (q:=0) (by omega) (by omega) (fun q3 y1 y2=>?_) fun q3=>?_
    ·rw [List.drop_zero] at q3
     rw [if_neg (by rw [q3]; simp)] at hk hr
     repeat (first | (with_reducible apply qzV; simp (disch:=omega) only [coreA,Int.reduceBEq,bzVh] <;> with_reducible rfl) | (with_reducible first | apply qzT | apply qzF | apply qzG | apply qzH) | ((with_reducible first | apply qzB | apply qzC | apply qzD); simp (disch:=omega) only [coreA,Int.reduceBEq,bzVh] <;> with_reducible rfl))
     rw [e]
     have et : l.take i ++ [x] = l.take (i + 1):=by rw [List.take_add_one,ex]; rfl
     rw [et] at hk hr
     exact ih (by omega) (by omega) hk hr
    ·rw [List.drop_zero] at q3
     rw [if_pos q3] at hr
     exact hr (by omega)
   ·rw [if_neg q2] at hr
    by_cases q21 : 1 ≤ x.kind
    ·have q22 : ¬ x.kind ≤ 3:=fun h=>q2 ⟨q21,h⟩
     repeat (first | (with_reducible apply qzV; simp (disch:=omega) only [coreA,Int.reduceBEq,bzVh,hv,hp,c0,c1,hn] <;> with_reducible rfl) | (with_reducible first | apply qzT | apply qzF | apply qzG | apply qzH) | ((with_reducible first | apply qzB | apply qzC | apply qzD); simp (disch:=omega) only [coreA,Int.reduceBEq,bzVh,hv,hp,c0,c1,hn] <;> with_reducible rfl))
     exact hr (by omega)
    ·repeat (first | (with_reducible apply qzV; simp (disch:=omega) only [coreA,Int.reduceBEq,bzVh,hv,hp,c0,c1,hn] <;> with_reducible rfl) | (with_reducible first | apply qzT | apply qzF | apply qzG | apply qzH) | ((with_reducible first | apply qzB | apply qzC | apply qzD); simp (disch:=omega) only [coreA,Int.reduceBEq,bzVh,hv,hp,c0,c1,hn] <;> with_reducible rfl))
     exact hr (by omega)
theorem f40x {k : Nat} {h : AH} {v : Value} {l : List ColD} (S : Cols h v l) (hl : l.length ≤ 9223372036854775807) : eInv env (k + 201) (.func 40) #[] #[v] h = some (.int .i64 (colsE l),h):=by
 have T : Tl (F40 (eInv env (k + 200)) (k + 200) v h) fun r=>r.2 = h ∧ r.1 = .int .i64 (colsE l):=by
  have hv : ∀ h',pLen Try.prog #[22] v h' = some (.int .i64 l.length):=fun h'=>S.len
  unfold F40 colsE
  by_cases s0 : 1 ≤ l.length
  ·by_cases s1 : l.length ≤ 16
   ·rw [if_pos ⟨s0,s1⟩]
    repeat (first | (with_reducible apply qzV; simp (disch:=omega) only [coreA,Int.reduceBEq,bzVh,hv] <;> with_reducible rfl) | (with_reducible first | apply qzT | apply qzF | apply qzG | apply qzH) | ((with_reducible first | apply qzB | apply qzC | apply qzD); simp (disch:=omega) only [coreA,Int.reduceBEq,bzVh,hv] <;> with_reducible rfl))
    refine f40_out S s1 l.length (i:=0) (by omega) (by omega) (fun q y1 y2 y3=>?_) fun q=>?_
    ·rw [List.drop_zero,List.take_zero] at q
     exact ⟨_,rfl,rfl,by rw [q]⟩
    ·rw [List.drop_zero,List.take_zero]
     exact ⟨_,rfl,rfl,rfl⟩
   ·rw [if_neg (fun h=>s1 h.2)]
    repeat (first | (with_reducible apply qzV; simp (disch:=omega) only [coreA,Int.reduceBEq,bzVh,hv] <;> with_reducible rfl) | (with_reducible first | apply qzT | apply qzF | apply qzG | apply qzH) | ((with_reducible first | apply qzB | apply qzC | apply qzD); simp (disch:=omega) only [coreA,Int.reduceBEq,bzVh,hv] <;> with_reducible rfl))
    exact ⟨_,rfl,rfl,rfl⟩
  ·rw [if_neg (fun h=>s0 h.1)]
   repeat (first | (with_reducible apply qzV; simp (disch:=omega) only [coreA,Int.reduceBEq,bzVh,hv] <;> with_reducible rfl) | (with_reducible first | apply qzT | apply qzF | apply qzG | apply qzH) | ((with_reducible first | apply qzB | apply qzC | apply qzD); simp (disch:=omega) only [coreA,Int.reduceBEq,bzVh,hv] <;> with_reducible rfl))
   exact ⟨_,rfl,rfl,rfl⟩
 obtain ⟨⟨r1,r2⟩,h1,h2,h3⟩:=T
 simp only at h2 h3
 subst h2 h3
 rw [F40_call,h1]
end Go.Proofs.Ytgklcfnjahomjaa.Sh
